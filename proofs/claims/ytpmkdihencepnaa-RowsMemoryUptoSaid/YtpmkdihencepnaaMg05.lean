/-
  Words that seat B's walks share: ferlaw.Same, slices.Clone, ferref.Size overB ints; literals; rows.
-/
import Derived.OwnWalk
import Derived.Deep.Onto
import Derived.Test.YtpmkdihencepnaaMg01
import Derived.Test.YtpmkdihencepnaaMg04
namespace Go.Proofs.Ytpmkdihencepnaa
open Go.RowKit

theorem own_low {w w' : World} {base g n c B : Nat} {e : TypeId} {cs : List Value} (h : w.ownsRow base e 1 (.slice (some ⟨g, 0, none⟩) n c) n cs) (hg : g < B) (hb : Below B w w') : w'.ownsRow base e 1 (.slice (some ⟨g, 0, none⟩) n c) n cs := by
  refine ⟨h.1, ?_⟩
  rcases h.2 with hn | ⟨g', cap, cur, e1, hg', hh, rest⟩
  · exact .inl hn
  · obtain rfl : g = g' := by
      have : g = g' ∧ c = cap := by simpa using e1
      exact this.1
    exact .inr ⟨g, cap, cur, e1, hg', (hb.block g hg).trans hh, rest⟩
end Go.Proofs.Ytpmkdihencepnaa

/-
  signs.Check: what it answers.
-/
namespace Go.Proofs.Ytpmkdihencepnaa
open Go.RowKit

/-- The list of a function's first values. -/
def tab (n : Nat) (f : Nat → Int) : List Int := (List.range n).map f
theorem tab_length (n : Nat) (f : Nat → Int) : (tab n f).length = n := by simp [tab]
theorem tab_get {n i : Nat} {f : Nat → Int} (h : i < n) : (tab n f)[i]? = some (f i) := by simp [tab, h]
theorem tab_getD {n i : Nat} {f : Nat → Int} (h : i < n) : (tab n f).getD i 0 = f i := by simp [tab, h]
theorem tab_congr {n : Nat} {f g : Nat → Int} (h : ∀ i, i < n → f i = g i) : tab n f = tab n g := by
  unfold tab
  exact List.map_congr_left (fun i hi => h i (List.mem_range.1 hi))
theorem tab_set {n i : Nat} {f : Nat → Int} {y : Int} : (tab n f).set i y = tab n (fun b => if b = i then y else f b) := by
  apply ext_getD (by rw [List.length_set, tab_length, tab_length])
  intro j hj
  rw [List.length_set, tab_length] at hj
  rw [tab_getD hj, getD_get (by rw [List.length_set, tab_length]; exact hj), List.getElem_set]
  by_cases e : i = j
  · subst e; rw [if_pos rfl, if_pos rfl]
  · rw [if_neg e, if_neg (fun h => e h.symm), ← getD_get (d := 0), tab_getD hj]
theorem tab_zero (n : Nat) : List.replicate n (0 : Int) = tab n (fun _ => 0) := by
  unfold tab
  apply List.ext_getElem (by simp)
  intro i h1 h2
  simp

def SignOk (m : List (List Int)) : Prop := m.length ≤ 7 ∧ IsSign m m.length

/-- What Check has seen of the first rows. -/
structure RowsOk (m : List (List Int)) (i : Nat) : Prop where
  len : ∀ a, a < i → (m.getD a []).length = m.length
  row : ∀ a j, a < i → j ≤ m.length → 0 ≤ rsum m a j ∧ rsum m a j ≤ 1
  row1 : ∀ a, a < i → rsum m a m.length = 1
  col : ∀ a j, a ≤ i → j < m.length → 0 ≤ dsum m a j ∧ dsum m a j ≤ 1
theorem RowsOk.zero (m : List (List Int)) : RowsOk m 0 :=
  ⟨fun a ha => by omega, fun a j ha => by omega, fun a ha => by omega, fun a j ha _ => by rw [show a = 0 by omega, dsum_top]; omega⟩
theorem RowsOk.succ {m : List (List Int)} {i : Nat} (h : RowsOk m i) (h1 : (m.getD i []).length = m.length) (h2 : ∀ j, j ≤ m.length → 0 ≤ rsum m i j ∧ rsum m i j ≤ 1) (h3 : rsum m i m.length = 1)
    (h4 : ∀ j, j < m.length → 0 ≤ dsum m (i + 1) j ∧ dsum m (i + 1) j ≤ 1) : RowsOk m (i + 1) := by
  refine ⟨fun a ha => ?_, fun a j ha hj => ?_, fun a ha => ?_, fun a j ha hj => ?_⟩
  · by_cases e : a = i
    · rw [e]; exact h1
    · exact h.len a (by omega)
  · by_cases e : a = i
    · rw [e]; exact h2 j hj
    · exact h.row a j (by omega) hj
  · by_cases e : a = i
    · rw [e]; exact h3
    · exact h.row1 a (by omega)
  · by_cases e : a = i + 1
    · rw [e]; exact h4 j hj
    · exact h.col a j (by omega) hj
theorem RowsOk.sign {m : List (List Int)} (h : RowsOk m m.length) (h1 : 1 ≤ m.length) (h7 : m.length ≤ 7) (h2 : ∀ j, j < m.length → dsum m m.length j = 1) : SignOk m :=
  ⟨h7, ⟨⟨rfl, fun r hr => by obtain ⟨a, ha, rfl⟩ := List.getElem_of_mem hr; have := h.len a ha; rwa [getD_get ha] at this⟩, h1, h.row, h.row1, h.col, h2⟩⟩
theorem SignOk.len {m : List (List Int)} (h : SignOk m) {i : Nat} (hi : i < m.length) : (m.getD i []).length = m.length := by
  rw [getD_get hi]; exact h.2.sq.2 _ (List.getElem_mem hi)
theorem ent_row (m : List (List Int)) (i j : Nat) : (m.getD i []).getD j 0 = ent m i j := rfl
theorem rsum_succ (m : List (List Int)) (i j : Nat) : rsum m i (j + 1) = rsum m i j + ent m i j := rfl
theorem rsum_zero (m : List (List Int)) (i : Nat) : rsum m i 0 = 0 := rfl

/-- What Check answers. -/
def ChkSign (m : List (List Int)) (k : Int) : Prop := (SignOk m ∧ k = 0) ∨ (¬ SignOk m ∧ k = 1)

set_option maxRecDepth 100000 in
set_option maxHeartbeats 2000000 in
theorem gcheck_any (A : Option Addr) (cap : Nat) (m : List (List Int)) (w : World) (hcl : m.length ≤ 9223372036854775807) (h : SR w w.heap.size A m) :
    Calls Try.prog 51 #[.slice A m.length cap] w fun e w' => (∃ k : Int, e = .returned (.int .i64 k) ∧ ChkSign m k) ∧ Below w.heap.size w w' := by
  go_enter Try.func51, Try.ntmps51
  by_cases h1 : m.length < 1
  · have hd1 : decide (m.length < 1) = true := decide_eq_true h1
    have hfin : Hid (ChkSign m 1) := .inr ⟨fun e => by have := e.2.pos; omega, rfl⟩
    go_wp2
    go_ret
    exact ⟨⟨1, rfl, hfin.out⟩, Below.refl _ _⟩
  · have hd1 : decide (m.length < 1) = false := decide_eq_false h1
    by_cases h7 : 7 < m.length
    · have hd2 : decide (7 < m.length) = true := decide_eq_true h7
      have hfin : Hid (ChkSign m 1) := .inr ⟨fun e => by have := e.1; omega, rfl⟩
      go_wp2
      go_ret
      exact ⟨⟨1, rfl, hfin.out⟩, Below.refl _ _⟩
    · have hd2 : decide (7 < m.length) = false := decide_eq_false h7
      go_wp2_with (first | (refine wpList_mk rfl (.tmp 20) (.tmp 20) rfl m.length rfl rfl (by omega) (Nat.le_refl _) (fun w1 hown1 hb1 hz1 => ?_)) | fail)
      rw [tab_zero] at hown1
      have HO1 := Lib.hid hown1
      clear hown1
      go_wp2
      go_loopw [24] (fun iv wr => ∃ i : Nat, i ≤ m.length ∧ iv = .int .i64 i ∧ RowsOk m i ∧ wr.ownsRow w.heap.size 3 1 (.slice (some ⟨w.heap.size, 0, none⟩) m.length m.length) m.length (ints (tab m.length (fun b => dsum m i b))) ∧ Below w.heap.size w wr) (fun iv _ => m.length - (intOf iv).toNat)
      case atStart => exact ⟨0, by omega, rfl, RowsOk.zero m, HO1.out, hb1⟩
      case round =>
        clear HO1 hb1
        obtain ⟨i, hi, rfl, hok, hown, hW⟩ := hrel
        have HK := Lib.hid hok
        have HO := Lib.hid hown
        clear hok hown
        by_cases hlt : i < m.length
        · have hd3 : decide (i < m.length) = true := decide_eq_true hlt
          obtain ⟨b, o, rfl, hb⟩ := h.addr (by omega)
          obtain ⟨Ar, cr, hcell, hrow, hrl⟩ := h.at_ hlt
          have hcell := (hW.cell (p := ⟨b, o + i, none⟩) hb).trans hcell
          obtain ⟨R, hR⟩ : ∃ R, R = m.getD i [] := ⟨_, rfl⟩
          rw [← hR] at hcell hrow hrl
          have HR := Lib.hid hR
          clear hR
          by_cases hRl : R.length = m.length
          · have hd4 : ((R.length : Int) != (m.length : Int)) = false := by simp; omega
            have HRL := Lib.hid hRl
            clear hRl
            go_wp2
            go_loopw [7, 34] (fun sv iv wz => ∃ j : Nat, j ≤ m.length ∧ iv = .int .i64 j ∧ sv = .int .i64 (rsum m i j) ∧ (∀ a, a ≤ j → 0 ≤ rsum m i a ∧ rsum m i a ≤ 1) ∧ (∀ a, a < j → 0 ≤ dsum m (i + 1) a ∧ dsum m (i + 1) a ≤ 1) ∧
              wz.ownsRow w.heap.size 3 1 (.slice (some ⟨w.heap.size, 0, none⟩) m.length m.length) m.length (ints (tab m.length (fun b => if b < j then dsum m (i + 1) b else dsum m i b))) ∧ Below w.heap.size w wz) (fun _ iv _ => m.length - (intOf iv).toNat)
            case atStart => exact ⟨0, by omega, rfl, rfl, fun a ha => by rw [show a = 0 by omega, rsum_zero]; omega, fun a ha => by omega, by simpa using HO.out, hW⟩
            case round =>
              obtain ⟨j, hj, rfl, rfl, hall, hcol, hown, hW2⟩ := hrel
              have HALL := Lib.hid hall
              have HCOL := Lib.hid hcol
              have HO2 := Lib.hid hown
              have hrow2 := hrow.below hW2
              clear hall hcol hown
              by_cases hlt2 : j < m.length
              · have hRj : j < R.length := by have := HRL.out; omega
                have hd5 : decide (j < R.length) = true := decide_eq_true hRj
                obtain ⟨b1, o1, rfl, hb1⟩ := hrow2.addr (by omega)
                have hcx := getD_cell hrow2 hRj
                have hent : R.getD j 0 = ent m i j := by rw [HR.out]; rfl
                rw [hent] at hcx
                have hcd := own_get HO2.out (i := j) (tab_get hlt2)
                rw [if_neg (by omega)] at hcd
                have hs1 := HALL.out j (Nat.le_refl _)
                have hd1' := HK.out.col i j (Nat.le_refl _) hlt2
                have hno : Hid (¬ (0 ≤ rsum m i j + ent m i j ∧ rsum m i j + ent m i j ≤ 1 ∧ 0 ≤ dsum m i j + ent m i j ∧ dsum m i j + ent m i j ≤ 1) → ChkSign m 1) := fun hh => .inr ⟨fun e => hh (by
                  have a1 := e.2.row i (j + 1) hlt (by omega)
                  have a2 := e.2.col (i + 1) j (by omega) hlt2
                  rw [rsum_succ] at a1
                  rw [dsum_succ] at a2
                  omega), rfl⟩
                have hst := own_set HO2.out j (dsum m i j + ent m i j)
                rw [tab_set, tab_congr (g := fun b => if b < j + 1 then dsum m (i + 1) b else dsum m i b) (fun a _ => by
                  by_cases e : a = j
                  · subst e; rw [if_pos rfl, if_pos (by omega), dsum_succ]
                  · rw [if_neg e]
                    by_cases e2 : a < j
                    · rw [if_pos e2, if_pos (by omega)]
                    · rw [if_neg e2, if_neg (by omega)])] at hst
                have hyes : Hid (0 ≤ rsum m i j + ent m i j ∧ rsum m i j + ent m i j ≤ 1 ∧ 0 ≤ dsum m i j + ent m i j ∧ dsum m i j + ent m i j ≤ 1 → (∀ a, a ≤ j + 1 → 0 ≤ rsum m i a ∧ rsum m i a ≤ 1) ∧ (∀ a, a < j + 1 → 0 ≤ dsum m (i + 1) a ∧ dsum m (i + 1) a ≤ 1)) := fun hh => by
                  refine ⟨fun a ha => ?_, fun a ha => ?_⟩
                  · by_cases e : a = j + 1
                    · rw [e, rsum_succ]; omega
                    · exact HALL.out a (by omega)
                  · by_cases e : a = j
                    · rw [e, dsum_succ]; omega
                    · exact HCOL.out a (by omega)
                have hrs := rsum_succ m i j
                have hWs := hW2.setCell (p := ⟨w.heap.size, j, none⟩) (Nat.le_refl _) (.int .i64 (dsum m i j + ent m i j))
                have hfr := HO2.out.frozenAt j
                obtain ⟨x, hx⟩ : ∃ x, x = ent m i j := ⟨_, rfl⟩
                obtain ⟨s, hs⟩ : ∃ x, x = rsum m i j := ⟨_, rfl⟩
                obtain ⟨d, hd⟩ : ∃ x, x = dsum m i j := ⟨_, rfl⟩
                rw [← hx] at hcx hno hst hyes hrs hWs
                rw [← hs] at hs1 hno hyes hrs ⊢
                rw [← hd] at hcd hd1' hno hst hyes hWs
                have HST := Lib.hid hst
                have HRS := Lib.hid hrs
                clear hx hs hd hst hrs hent
                by_cases t1 : x < -1
                · have e1 : decide (x < -1) = true := decide_eq_true t1
                  have hfin := Lib.hid (hno.out (by omega))
                  go_wp2
                  go_ret
                  exact ⟨⟨1, rfl, hfin.out⟩, hW2⟩
                · have e1 : decide (x < -1) = false := decide_eq_false t1
                  by_cases t2 : 1 < x
                  · have e2 : decide (1 < x) = true := decide_eq_true t2
                    have hfin := Lib.hid (hno.out (by omega))
                    go_wp2
                    go_ret
                    exact ⟨⟨1, rfl, hfin.out⟩, hW2⟩
                  · have e2 : decide (1 < x) = false := decide_eq_false t2
                    by_cases t3 : s + x < 0
                    · have e3 : decide (s + x < 0) = true := decide_eq_true t3
                      have hfin := Lib.hid (hno.out (by omega))
                      go_wp2
                      go_ret
                      exact ⟨⟨1, rfl, hfin.out⟩, hWs⟩
                    · have e3 : decide (s + x < 0) = false := decide_eq_false t3
                      by_cases t4 : 1 < s + x
                      · have e4 : decide (1 < s + x) = true := decide_eq_true t4
                        have hfin := Lib.hid (hno.out (by omega))
                        go_wp2
                        go_ret
                        exact ⟨⟨1, rfl, hfin.out⟩, hWs⟩
                      · have e4 : decide (1 < s + x) = false := decide_eq_false t4
                        by_cases t5 : d + x < 0
                        · have e5 : decide (d + x < 0) = true := decide_eq_true t5
                          have hfin := Lib.hid (hno.out (by omega))
                          go_wp2
                          go_ret
                          exact ⟨⟨1, rfl, hfin.out⟩, hWs⟩
                        · have e5 : decide (d + x < 0) = false := decide_eq_false t5
                          by_cases t6 : 1 < d + x
                          · have e6 : decide (1 < d + x) = true := decide_eq_true t6
                            have hfin := Lib.hid (hno.out (by omega))
                            go_wp2
                            go_ret
                            exact ⟨⟨1, rfl, hfin.out⟩, hWs⟩
                          · have e6 : decide (1 < d + x) = false := decide_eq_false t6
                            have hy := Lib.hid (hyes.out (by omega))
                            clear hyes hno
                            go_wp2
                            go_roundw
                            case rel => exact ⟨j + 1, by omega, by go_num, by rw [HRS.out], hy.out.1, hy.out.2, HST.out, hWs⟩
                            case measure => simp [intOf]; omega
              · have hRj : ¬ j < R.length := by have := HRL.out; omega
                have hd5 : decide (j < R.length) = false := decide_eq_false hRj
                have hjm : j = m.length := by omega
                have HJ := Lib.hid hjm
                have hs1 := HALL.out j (Nat.le_refl _)
                have hno : Hid (rsum m i j ≠ 1 → ChkSign m 1) := fun hh => .inr ⟨fun e => hh (by rw [HJ.out]; exact e.2.row1 i hlt), rfl⟩
                have hyes : Hid (rsum m i j = 1 → RowsOk m (i + 1)) := fun hh => HK.out.succ (by rw [← HR.out]; exact HRL.out) (fun a ha => HALL.out a (by rw [HJ.out]; exact ha)) (by rw [← HJ.out]; exact hh) (fun a ha => HCOL.out a (by rw [HJ.out]; exact ha))
                have hO3 := HO2.out
                rw [tab_congr (g := fun b => dsum m (i + 1) b) (fun a ha => by rw [if_pos (by omega)])] at hO3
                have HO3 := Lib.hid hO3
                obtain ⟨s, hs⟩ : ∃ x, x = rsum m i j := ⟨_, rfl⟩
                rw [← hs] at hno hyes hs1 ⊢
                clear hs hjm hO3
                by_cases hs0 : s = 1
                · have hd6 : (s != 1) = false := by simpa using hs0
                  have hy := Lib.hid (hyes.out hs0)
                  clear hyes hno hs0
                  go_wp2
                  go_roundw
                  case rel => exact ⟨i + 1, by omega, by go_num, hy.out, HO3.out, hW2⟩
                  case measure => simp [intOf]; omega
                · have hd6 : (s != 1) = true := by simpa using hs0
                  have hfin := Lib.hid (hno.out hs0)
                  clear hyes hno hs0
                  go_wp2
                  go_ret
                  exact ⟨⟨1, rfl, hfin.out⟩, hW2⟩
          · have hd4 : ((R.length : Int) != (m.length : Int)) = true := by simp; omega
            have hfin : Hid (ChkSign m 1) := .inr ⟨fun e => hRl (by rw [HR.out]; exact e.len hlt), rfl⟩
            clear hRl
            go_wp2
            go_ret
            exact ⟨⟨1, rfl, hfin.out⟩, hW⟩
        · have hd3 : decide (i < m.length) = false := decide_eq_false hlt
          obtain rfl : i = m.length := by omega
          go_wp2
          go_loopw [81] (fun iv wz => ∃ j : Nat, j ≤ m.length ∧ iv = .int .i64 j ∧ (∀ a, a < j → dsum m m.length a = 1) ∧ wz = wr) (fun iv _ => m.length - (intOf iv).toNat)
          case atStart => exact ⟨0, by omega, rfl, fun a ha => by omega, rfl⟩
          case round =>
            obtain ⟨j, hj, rfl, hall, rfl⟩ := hrel
            have HALL := Lib.hid hall
            clear hall
            by_cases hlt2 : j < m.length
            · have hd5 : decide (j < m.length) = true := decide_eq_true hlt2
              have hcx := own_get HO.out (i := j) (tab_get hlt2)
              have hx1 := HK.out.col m.length j (Nat.le_refl _) hlt2
              have hyes : Hid (dsum m m.length j = 1 → ∀ a, a < j + 1 → dsum m m.length a = 1) := fun hh a ha => by
                by_cases e : a = j
                · rw [e]; exact hh
                · exact HALL.out a (by omega)
              have hno : Hid (dsum m m.length j ≠ 1 → ChkSign m 1) := fun hh => .inr ⟨fun e => hh (e.2.col1 j hlt2), rfl⟩
              obtain ⟨x, hx⟩ : ∃ x, x = dsum m m.length j := ⟨_, rfl⟩
              rw [← hx] at hcx hx1 hyes hno
              clear hx
              by_cases hx : x = 1
              · have hd6 : (x != 1) = false := by simpa using hx
                have hy := Lib.hid (hyes.out hx)
                clear hyes hno hx
                go_wp2
                go_roundw
                case rel => exact ⟨j + 1, by omega, by go_num, hy.out, trivial⟩
                case measure => simp [intOf]; omega
              · have hd6 : (x != 1) = true := by simpa using hx
                have hfin := Lib.hid (hno.out hx)
                clear hyes hno hx
                go_wp2
                go_ret
                exact ⟨⟨1, rfl, hfin.out⟩, hW⟩
            · have hd5 : decide (j < m.length) = false := decide_eq_false hlt2
              have hfin : Hid (ChkSign m 0) := .inl ⟨HK.out.sign (by omega) (by omega) (fun a ha => HALL.out a (by omega)), rfl⟩
              go_wp2
              go_ret
              exact ⟨⟨0, rfl, hfin.out⟩, hW⟩

end Go.Proofs.Ytpmkdihencepnaa

/-
  Rows of bools that the call owns; base of a row lowered.
-/
namespace Go.Proofs.Ytpmkdihencepnaa
open Go.RowKit

theorem Try.infoBool : (Try.prog.info? 4).map (fun i => (i.zero, i.size, i.bytes)) = some (some (.bool false), 1, 1) := by kernel_rfl

/-- Bools as a row reads them. -/
def bools (bs : List Bool) : List Value := bs.map Value.bool
theorem bools_length (bs : List Bool) : (bools bs).length = bs.length := by simp [bools]

section
variable {w w' : World} {base n g c : Nat} {bs : List Bool}
theorem ownB_get {e : TypeId} (h : w.ownsRow base e 1 (.slice (some ⟨g, 0, none⟩) n c) n (bools bs)) {i : Nat} {z : Bool} (hz : bs[i]? = some z) : w.cell? ⟨g, i, none⟩ = some (.bool z) := by
  obtain ⟨hi, e1⟩ := List.getElem?_eq_some_iff.1 hz
  have hl := h.1
  rw [bools_length] at hl
  rw [h.cellAt i (by omega)]
  simp [bools, hi, e1]
end

/-- 'append(v, x)' of one int, where the walk writes the new block's number otherwise. -/
theorem wpList_app1h {w : World} {base : Nat} {l : List Int} {v : Value} {ops : Array Oper} {rest : List Oper} {o : Oper} {a : Act} {Q : Exit → Act → World → Prop} (hgd : o.guard = none) (s x : Operand)
    (ho : o.op = .call { callee := .builtin .append, args := #[s, x], argTypes := #[26, 26] }) (hs : a.eval s = v) (y : Int) {n : Nat}
    (hown : w.ownsRow base 3 1 v n (ints l)) (g0 : Nat) (hg0 : g0 = w.heap.size) (hx : a.eval x = .slice (some ⟨g0, 0, none⟩) 1 1) (hlen : n < 1000000) (hbase : base ≤ w.heap.size)
    (h : ∀ g cap w', w'.ownsRow base 3 1 (.slice (some ⟨g, 0, none⟩) (n + 1) cap) (n + 1) (ints (l ++ [y])) → Below base w w' →
      wpList Try.prog ops Q rest (a.put o.dst (.slice (some ⟨g, 0, none⟩) (n + 1) cap)) w') :
    wpList Try.prog ops Q (o :: rest) a (w.alloc (.cells #[.int .i64 y] 3)) := by
  subst hg0
  exact wpList_app1 hgd s x ho hs y hown hx hlen hbase h

end Go.Proofs.Ytpmkdihencepnaa

/-
  signs.corner: what it answers.
-/
namespace Go.Proofs.Ytpmkdihencepnaa
open Go.RowKit

def cornTo (m : List (List Int)) (k : Nat) : List (List Int) := (List.range k).map (fun a => tab (m.length + 1) (fun j => csum m a j))
theorem cornTo_length (m : List (List Int)) (k : Nat) : (cornTo m k).length = k := by simp [cornTo]
theorem cornTo_getD {m : List (List Int)} {k a : Nat} (h : a < k) : (cornTo m k).getD a [] = tab (m.length + 1) (fun j => csum m a j) := by simp [cornTo, h]
theorem cornTo_succ (m : List (List Int)) (k : Nat) : cornTo m k ++ [tab (m.length + 1) (fun j => csum m k j)] = cornTo m (k + 1) := by simp [cornTo, List.range_succ]
theorem cornTo_one (m : List (List Int)) : [tab (m.length + 1) (fun _ => 0)] = cornTo m 1 := by simp [cornTo, csum_top]

theorem Cor.le {c : Nat → Nat → Int} {n : Nat} (h : Cor c n) {i j : Nat} (hi : i ≤ n) (hj : j ≤ n) : 0 ≤ c i j ∧ c i j ≤ i := by
  induction i with
  | zero => have := h.top j hj; omega
  | succ i ih => have := ih (by omega); have := h.down i j (by omega) hj; omega

set_option maxRecDepth 100000 in
set_option maxHeartbeats 2000000 in
theorem gcorner_any (A : Option Addr) (cap : Nat) (m : List (List Int)) (w : World) (hok : SignOk m) (h : SR w w.heap.size A m) :
    Calls Try.prog 52 #[.slice A m.length cap] w fun e w' => (∃ v hs, e = .returned v ∧ OwnM w' w.heap.size v hs (cornTo m (m.length + 1))) ∧ Below w.heap.size w w' := by
  have h7 := hok.1
  have hB := Nat.le_refl w.heap.size
  have HOK := Lib.hid hok
  clear hok
  go_enter Try.func52, Try.ntmps52
  go_wp2_with (first | (refine wpList_mk rfl (.tmp 12) (.tmp 12) rfl (m.length + 1) rfl rfl (by omega) (Nat.le_refl _) (fun w1 hown1 hb1 hz1 => ?_)) | fail)
  rw [tab_zero] at hown1
  have hm1 := OwnM.single (by rw [tab_length]) hown1 (by omega)
  rw [cornTo_one, hz1] at hm1
  have hb2 : Below w.heap.size w (w1.alloc (.cells #[.slice (some ⟨w.heap.size, 0, none⟩) (m.length + 1) (m.length + 1)] 26)) := hb1.alloc (by omega) _
  have HM1 := Lib.hid hm1
  clear hown1 hm1 hb1
  go_wp2
  go_loopw [3, 17] (fun ov iv wr => ∃ (i : Nat) (hs : List Value), i ≤ m.length ∧ iv = .int .i64 i ∧ OwnM wr w.heap.size ov hs (cornTo m (i + 1)) ∧ Below w.heap.size w wr) (fun _ iv _ => m.length - (intOf iv).toNat)
  case atStart => exact ⟨0, _, by omega, rfl, HM1.out, hb2⟩
  case round =>
    clear HM1 hb2
    obtain ⟨i, hs, hi, rfl, hm, hW⟩ := hrel
    obtain ⟨w9, rfl⟩ : ∃ w9, w9 = wr := ⟨_, rfl⟩
    have HM := Lib.hid hm
    have hsz := hW.size
    by_cases hlt : i < m.length
    · have hd1 : decide (i < m.length) = true := decide_eq_true hlt
      obtain ⟨b, o, rfl, hb⟩ := h.addr (by omega)
      obtain ⟨Ar, cr, hcell, hrow, hrl⟩ := h.at_ hlt
      have hcell := (hW.cell (p := ⟨b, o + i, none⟩) hb).trans hcell
      have hrl2 := HOK.out.len hlt
      obtain ⟨R, hR⟩ : ∃ R, R = m.getD i [] := ⟨_, rfl⟩
      rw [← hR] at hcell hrow hrl hrl2
      have HR := Lib.hid hR
      have HRL := Lib.hid hrl2
      clear hR hrl2
      obtain ⟨gv, cv, hv, hgv1, hgv2⟩ := hm.out.form (by rw [cornTo_length]; omega)
      rw [cornTo_length] at hv
      subst hv
      obtain ⟨gi, ci, hhi, hci, hoi, hgi1, hgi2⟩ := hm.row (r := i) (by rw [cornTo_length]; omega) (by rw [cornTo_getD (by omega), tab_length]; omega)
      rw [cornTo_getD (by omega)] at hci hoi
      rw [tab_length] at hci hoi
      have HCI := Lib.hid hci
      have HOI := Lib.hid hoi
      clear hm hhi hci hoi
      go_wp2_with (first | (refine wpList_mk rfl (.tmp 24) (.tmp 24) rfl (m.length + 1) rfl rfl (by omega) (Nat.le_refl _) (fun w2 hown2 hb2 hz2 => ?_)) | fail)
      rw [tab_zero] at hown2
      have HO2 := Lib.hid hown2
      clear hown2
      go_wp2
      go_loopw [7, 28] (fun sv jv wz => ∃ j : Nat, j ≤ m.length ∧ jv = .int .i64 j ∧ sv = .int .i64 (rsum m i j) ∧ wz.ownsRow w9.heap.size 3 1 (.slice (some ⟨w9.heap.size, 0, none⟩) (m.length + 1) (m.length + 1)) (m.length + 1) (ints (tab (m.length + 1) (fun b => if b ≤ j then csum m (i + 1) b else 0))) ∧ Below w9.heap.size w9 wz) (fun _ jv _ => m.length - (intOf jv).toNat)
      case atStart =>
        refine ⟨0, by omega, rfl, rfl, ?_, hb2⟩
        rw [tab_congr (g := fun _ => 0) (fun b _ => by
          by_cases e : b ≤ 0
          · rw [if_pos e, show b = 0 by omega, csum_left]
          · rw [if_neg e])]
        exact HO2.out
      case round =>
        clear HO2 hb2
        obtain ⟨j, hj, rfl, rfl, hown, hW2⟩ := hrel
        have HO := Lib.hid hown
        clear hown
        have hrow2 := hrow.below (hW.trans (hW2.mono hsz))
        by_cases hlt2 : j < m.length
        · have hRj : j < R.length := by have := HRL.out; omega
          have hd5 : decide (j < R.length) = true := decide_eq_true hRj
          obtain ⟨b1, o1, rfl, hb1⟩ := hrow2.addr (by omega)
          have hcx := getD_cell hrow2 hRj
          have hent : R.getD j 0 = ent m i j := by rw [HR.out]; rfl
          rw [hent] at hcx
          have hcu := (hW2.cell (p := ⟨gv, i, none⟩) hgv2).trans HCI.out
          have hcv := (hW2.cell (p := ⟨gi, j + 1, none⟩) hgi2).trans (own_get HOI.out (i := j + 1) (tab_get (by omega)))
          have hr1 := HOK.out.2.row i j hlt (by omega)
          have hr2 := HOK.out.2.row i (j + 1) hlt (by omega)
          have hrs := rsum_succ m i j
          have hcd := csum_down m i (j + 1)
          have hcl := HOK.out.2.cor.le (i := i) (j := j + 1) (by omega) (by omega)
          have hfr := HO.out.frozenAt (j + 1)
          have hst := own_set HO.out (j + 1) (csum m i (j + 1) + rsum m i (j + 1))
          have hco := own_get HO.out (i := j + 1) (tab_get (by omega))
          rw [← hcd, tab_set, tab_congr (g := fun b => if b ≤ j + 1 then csum m (i + 1) b else 0) (fun a _ => by
            by_cases e : a = j + 1
            · subst e; rw [if_pos rfl, if_pos (by omega)]
            · rw [if_neg e]
              by_cases e2 : a ≤ j
              · rw [if_pos e2, if_pos (by omega)]
              · rw [if_neg e2, if_neg (by omega)])] at hst
          have hWs := hW2.setCell (p := ⟨w9.heap.size, j + 1, none⟩) (Nat.le_refl _) (.int .i64 (csum m i (j + 1) + rsum m i (j + 1)))
          rw [hrs] at hr2 hcd hWs
          rw [hcd] at hst
          obtain ⟨x, hx⟩ : ∃ x, x = ent m i j := ⟨_, rfl⟩
          obtain ⟨s, hs'⟩ : ∃ x, x = rsum m i j := ⟨_, rfl⟩
          obtain ⟨c, hc⟩ : ∃ x, x = csum m i (j + 1) := ⟨_, rfl⟩
          rw [← hx] at hcx hrs hr2 hst hWs
          rw [← hs'] at hr1 hrs hr2 hst hWs ⊢
          rw [← hc] at hcv hcl hst hWs
          have HST := Lib.hid hst
          have HRS := Lib.hid hrs
          clear hx hs' hc hst hrs hent hcd
          go_wp2
          go_roundw
          case rel => exact ⟨j + 1, by omega, by go_num, by rw [HRS.out], HST.out, hWs⟩
          case measure => simp [intOf]; omega
        · have hRj : ¬ j < R.length := by have := HRL.out; omega
          have hd5 : decide (j < R.length) = false := decide_eq_false hRj
          have hO3 := HO.out
          rw [tab_congr (g := fun b => csum m (i + 1) b) (fun a ha => by rw [if_pos (by omega)])] at hO3
          have HO3 := Lib.hid hO3
          clear hO3
          have hm2 := HM.out.below hW2
          have hmo := hm2.out
          rw [cornTo_length] at hmo
          have HM2 := Lib.hid hm2
          have HMO := Lib.hid hmo
          have hB9 := Lib.hid (Nat.le_trans hsz hW2.size)
          clear hm2 hmo
          go_wp2_with (first | (at_builtin; refine wpList_push (v := .slice (some ⟨gv, 0, none⟩) (i + 1) cv) rfl (.tmp 51) (.tmp 53) rfl rfl (.slice (some ⟨w9.heap.size, 0, none⟩) (m.length + 1) (m.length + 1)) rfl HMO.out wr.heap.size rfl rfl (by omega) hB9.out (fun g2 c2 w5 hl5 hg5 hat5 => ?_)) | fail)
          have hfar := HM.out.far_new (u := .slice (some ⟨w9.heap.size, 0, none⟩) (m.length + 1) (m.length + 1)) (fun k hk => by
            obtain rfl : w9.heap.size = k := by simpa [Value.ownBlock] using hk
            exact Nat.le_refl _)
          have hpush := (HM2.out.alloc (.cells #[.slice (some ⟨w9.heap.size, 0, none⟩) (m.length + 1) (m.length + 1)] 26)).push (u := .slice (some ⟨w9.heap.size, 0, none⟩) (m.length + 1) (m.length + 1)) (l := tab (m.length + 1) (fun b => csum m (i + 1) b))
            (by rw [tab_length]; exact (HO3.out.mono hsz).alloc _) hfar.1 hfar.2 (by rw [cornTo_length]) hl5 hg5 (by simpa using hat5)
          rw [cornTo_succ] at hpush
          have hW5 : Below w.heap.size w w5 := ((hW.trans (hW2.mono hsz)).alloc hB9.out _).grown hg5 (by have := hB9.out; simp; omega) (fun k hk => by
            obtain rfl : gv = k := by simpa [Value.ownBlock] using hk
            exact hgv1)
          have HPU := Lib.hid hpush
          clear hpush hfar hl5 hg5 hat5
          go_wp2
          go_roundw
          case rel => exact ⟨i + 1, _, by omega, by go_num, HPU.out, hW5⟩
          case measure => simp [intOf]; omega
    · have hd1 : decide (i < m.length) = false := decide_eq_false hlt
      have him : Hid (i = m.length) := by show _ = _; omega
      clear hm
      go_wp2
      go_ret
      exact ⟨⟨_, hs, rfl, by rw [← him.out]; exact HM.out⟩, hW⟩

end Go.Proofs.Ytpmkdihencepnaa
