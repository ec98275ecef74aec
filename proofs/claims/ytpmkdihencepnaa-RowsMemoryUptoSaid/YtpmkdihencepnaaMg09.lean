/-
  signs.FromCorner, Triangle: what they answer.
-/
import Derived.Test.YtpmkdihencepnaaMg08
namespace Go.Proofs.Ytpmkdihencepnaa
open Go.RowKit

/-- All its blocks lie below. -/
def MLow (v : Value) (hs : List Value) (k B : Nat) : Prop := (∀ b, v.ownBlock = some b → b < B) ∧ ∀ r, r < k → ∀ b, (hs.getD r undef).ownBlock = some b → b < B
theorem OwnM.mlow {w : World} {B : Nat} {v : Value} {hs : List Value} {rows : List (List Int)} (h : OwnM w B v hs rows) : MLow v hs rows.length w.heap.size :=
  ⟨fun b hb => (h.out.lt b hb).2, fun r hr b hb => ((h.inn r hr).lt b hb).2⟩
theorem own_lowv {w w' : World} {base n B : Nat} {e : TypeId} {v : Value} {cs : List Value} (h : w.ownsRow base e 1 v n cs) (hv : ∀ k, v.ownBlock = some k → k < B) (hb : Below B w w') : w'.ownsRow base e 1 v n cs := by
  refine ⟨h.1, ?_⟩
  rcases h.2 with hn | ⟨g, cap, cur, e1, hg, hh, rest⟩
  · exact .inl hn
  · exact .inr ⟨g, cap, cur, e1, hg, (hb.block g (hv g (by rw [e1]; rfl))).trans hh, rest⟩
theorem OwnM.lowB {w w' : World} {B B0 : Nat} {v : Value} {hs : List Value} {rows : List (List Int)} (h : OwnM w B v hs rows) (hl : MLow v hs rows.length B0) (hb : Below B0 w w') : OwnM w' B v hs rows :=
  ⟨h.len, own_lowv h.out hl.1 hb, fun r hr => own_lowv (h.inn r hr) (hl.2 r hr) hb, h.far, h.top⟩

theorem triOf_length (m : List (List Int)) (n : Nat) : (triOf m n).length = n := by simp [triOf]
theorem triOf_getD {m : List (List Int)} {n i : Nat} (h : i < n) : (triOf m n).getD i [] = triTo m (i + 1) n := by simp [triOf, h]; rfl

set_option maxRecDepth 100000 in
set_option maxHeartbeats 4000000 in
theorem tri_any (A : Option Addr) (cap : Nat) (m : List (List Int)) (w : World) (hcl : m.length ≤ 9223372036854775807) (h : SR w w.heap.size A m) :
    Calls Try.prog 17 #[.slice A m.length cap] w fun e w' => (∃ (k : Int) (rows : List (List Int)), RowsOut w.heap.size e w' k rows ∧ ChkSign m k ∧ (k ≠ 0 → rows = []) ∧ (k = 0 → rows = triOf m m.length)) ∧ Below w.heap.size w w' := by
  go_enter Try.func17, Try.ntmps17
  go_wp2_with fail
  refine (gcheck_any A cap m w hcl h).mono ?_
  rintro e w1 ⟨⟨k, rfl, hk⟩, hb1⟩
  rcases hk with ⟨ha, rfl⟩ | ⟨ha, rfl⟩
  · have h7 := ha.1
    have HOK := Lib.hid ha
    clear ha
    go_wp2_with (first | (refine wpList_mk (base := w1.heap.size) rfl (.tmp 18) (.tmp 18) rfl m.length rfl rfl (by omega) (Nat.le_refl _) (fun w2 hown2 hb2 hz2 => ?_)) | fail)
    rw [tab_zero] at hown2
    have HO2 := Lib.hid hown2
    have hW2 : Below w.heap.size w w2 := below_call hb1 (Nat.le_refl _) hb2
    have hw1 := hb1.size
    have HW2S := Lib.hid hW2.size
    clear hown2 hb1 hb2
    go_wp2
    go_loopw [6, 22] (fun ov iv wr => ∃ (i : Nat) (hs : List Value), i ≤ m.length ∧ iv = .int .i64 i ∧ OwnM wr w2.heap.size ov hs ((triOf m m.length).take i) ∧ wr.ownsRow w1.heap.size 3 1 (.slice (some ⟨w1.heap.size, 0, none⟩) m.length m.length) m.length (ints (tab m.length (fun b => dsum m i b))) ∧ Below w.heap.size w wr ∧ w2.heap.size ≤ wr.heap.size) (fun _ iv _ => m.length - (intOf iv).toNat)
    case atStart => exact ⟨0, [], by omega, rfl, by rw [List.take_zero]; exact OwnM.nil _ _, HO2.out, hW2, Nat.le_refl _⟩
    case round =>
      clear HO2 hW2
      obtain ⟨i, hs, hi, rfl, hm, hd, hW, hsz⟩ := hrel
      obtain ⟨w9, rfl⟩ : ∃ w9, w9 = wr := ⟨_, rfl⟩
      have HM := Lib.hid hm
      have HD := Lib.hid hd
      have hml := hm.mlow
      have HML := Lib.hid hml
      have hw9 := hW.size
      clear hm hd hml
      by_cases hlt : i < m.length
      · have hd1 : decide (i < m.length) = true := decide_eq_true hlt
        obtain ⟨b, o, rfl, hb⟩ := h.addr (by omega)
        obtain ⟨Ar, cr, hcell, hrow, hrl⟩ := h.at_ hlt
        have hcell := (hW.cell (p := ⟨b, o + i, none⟩) hb).trans hcell
        have hrl2 := HOK.out.len hlt
        obtain ⟨R, hR⟩ : ∃ R, R = m.getD i [] := ⟨_, rfl⟩
        rw [← hR] at hcell hrow hrl hrl2
        have HR := Lib.hid hR
        have HRL := Lib.hid hrl2
        clear hR hrl2
        go_wp2
        go_loopw [9, 28] (fun lv jv wz => ∃ j l : Nat, j ≤ m.length ∧ jv = .int .i64 j ∧ l ≤ j ∧ l = (triTo m (i + 1) j).length ∧ wz.ownsRow w9.heap.size 3 1 lv l (ints (triTo m (i + 1) j)) ∧ OwnM wz w2.heap.size u6 hs ((triOf m m.length).take i) ∧
          wz.ownsRow w1.heap.size 3 1 (.slice (some ⟨w1.heap.size, 0, none⟩) m.length m.length) m.length (ints (tab m.length (fun b => if b < j then dsum m (i + 1) b else dsum m i b))) ∧ Below w.heap.size w wz ∧ w9.heap.size ≤ wz.heap.size) (fun _ jv _ => m.length - (intOf jv).toNat)
        case atStart => exact ⟨0, 0, by omega, rfl, by omega, by simp [triTo], by simpa [triTo, ints] using World.ownsRow_nil _ _ _ _, HM.out, by simpa using HD.out, hW, Nat.le_refl _⟩
        case round =>
          clear HM HD hW
          obtain ⟨j, l, hj, rfl, hlj, hll, hown, hm, hd, hW, hsz2⟩ := hrel
          have HO := Lib.hid hown
          have HM := Lib.hid hm
          have HD := Lib.hid hd
          have HLL := Lib.hid hll
          clear hown hm hd hll
          have hrow2 := hrow.below hW
          by_cases hlt2 : j < m.length
          · have hRj : j < R.length := by have := HRL.out; omega
            have hd5 : decide (j < R.length) = true := decide_eq_true hRj
            obtain ⟨b1, o1, rfl, hb1⟩ := hrow2.addr (by omega)
            have hcx := getD_cell hrow2 hRj
            have hent : R.getD j 0 = ent m i j := by rw [HR.out]; rfl
            rw [hent] at hcx
            have hcd := own_get HD.out (i := j) (tab_get hlt2)
            rw [if_neg (by omega)] at hcd
            have hr1 := HOK.out.2.col i j (by omega) hlt2
            have hr2 := HOK.out.2.col (i + 1) j (by omega) hlt2
            have hds := dsum_succ m i j
            have hfr := HD.out.frozenAt j
            have hst := own_set HD.out j (dsum m i j + ent m i j)
            rw [tab_set, tab_congr (g := fun b => if b < j + 1 then dsum m (i + 1) b else dsum m i b) (fun a _ => by
              by_cases e : a = j
              · subst e; rw [if_pos rfl, if_pos (by omega), dsum_succ]
              · rw [if_neg e]
                by_cases e2 : a < j
                · rw [if_pos e2, if_pos (by omega)]
                · rw [if_neg e2, if_neg (by omega)])] at hst
            have hts := triTo_succ m (i + 1) j
            rw [hds] at hr2 hts
            have hWs := hW.setCell (p := ⟨w1.heap.size, j, none⟩) hw1 (.int .i64 (dsum m i j + ent m i j))
            have hms := HM.out.setBelow (a := ⟨w1.heap.size, j, none⟩) (by show w1.heap.size < w2.heap.size; omega) (.int .i64 (dsum m i j + ent m i j))
            have hos := ownsRow_setCell_below HO.out (a := ⟨w1.heap.size, j, none⟩) (by show w1.heap.size < w9.heap.size; omega) (.int .i64 (dsum m i j + ent m i j))
            have hszs : w9.heap.size ≤ (wr.setCell ⟨w1.heap.size, j, none⟩ (.int .i64 (dsum m i j + ent m i j))).heap.size := by simpa using hsz2
            have hszq : Hid (wr.heap.size = (wr.setCell ⟨w1.heap.size, j, none⟩ (.int .i64 (dsum m i j + ent m i j))).heap.size) := by show _ = _; simp
            obtain ⟨x, hx⟩ : ∃ x, x = ent m i j := ⟨_, rfl⟩
            obtain ⟨d, hd⟩ : ∃ x, x = dsum m i j := ⟨_, rfl⟩
            rw [← hx] at hcx hr2 hst hts hWs hms hos hszs hszq
            rw [← hd] at hcd hr1 hr2 hst hts hWs hms hos hszs hszq
            have HST := Lib.hid hst
            have HTS := Lib.hid hts
            have HWS := Lib.hid hWs
            have HMS := Lib.hid hms
            have HOS := Lib.hid hos
            clear hx hd hst hts hds hent hWs hms hos
            by_cases hone : d + x = 1
            · have e1 : (d + x == 1) = true := by simpa using hone
              have hts2 := HTS.out
              rw [if_pos hone] at hts2
              have HT2 := Lib.hid hts2
              clear hone hts2
              go_wp2_with (first | (at_builtin; refine wpList_app1h rfl (.tmp 45) (.tmp 48) rfl rfl ((j : Int) + 1) HOS.out wr.heap.size hszq.out rfl (by omega) hszs (fun g2 c2 w5 hl5 hb5 => ?_)) | fail)
              have hm5 := HMS.out.lowB (B0 := w9.heap.size) (by have := HML.out; exact this) hb5
              have hd5' := own_low HST.out (by show w1.heap.size < w9.heap.size; omega) hb5
              have hW5 : Below w.heap.size w w5 := HWS.out.trans (hb5.mono hw9)
              go_wp2
              go_roundw
              case rel => exact ⟨j + 1, l + 1, by omega, by go_num, by omega, by rw [HT2.out, List.length_append, ← HLL.out]; rfl, by rw [HT2.out]; exact hl5, hm5, hd5', hW5, Nat.le_trans hszs hb5.size⟩
              case measure => simp [intOf]; omega
            · have e1 : (d + x == 1) = false := by simpa using hone
              have hts2 := HTS.out
              rw [if_neg hone, List.append_nil] at hts2
              have HT2 := Lib.hid hts2
              clear hone hts2
              go_wp2
              go_roundw
              case rel => exact ⟨j + 1, l, by omega, by go_num, by omega, by rw [HT2.out]; exact HLL.out, by rw [HT2.out]; exact HOS.out, HMS.out, HST.out, HWS.out, hszs⟩
              case measure => simp [intOf]; omega
          · have hRj : ¬ j < R.length := by have := HRL.out; omega
            have hd5 : decide (j < R.length) = false := decide_eq_false hRj
            have hjm : j = m.length := by omega
            have hd3 := HD.out
            rw [tab_congr (g := fun b => dsum m (i + 1) b) (fun a ha => by rw [if_pos (by omega)])] at hd3
            have HD3 := Lib.hid hd3
            have hl1 : l = i + 1 := by rw [HLL.out, hjm]; exact tri_length HOK.out.2 (by omega)
            have hO3 := HO.out
            rw [hjm] at hO3
            rw [hl1] at hO3
            obtain ⟨gr, crr, hv, hgr1, hgr2⟩ := hO3.form (by omega)
            subst hv
            have HO3 := Lib.hid hO3
            have hmo := HM.out.out
            rw [List.length_take, triOf_length, Nat.min_eq_left (by omega)] at hmo
            have HMO := Lib.hid hmo
            have HLN := Lib.hid (tri_length HOK.out.2 (i := i + 1) (by omega))
            have hB9 := Lib.hid (Nat.le_trans hsz hsz2)
            clear hd3 hO3 hmo hjm hl1
            go_wp2_with (first | (at_builtin; refine wpList_push (v := u6) rfl (.tmp 51) (.tmp 53) rfl rfl (.slice (some ⟨gr, 0, none⟩) (i + 1) crr) rfl HMO.out wr.heap.size rfl rfl (by omega) hB9.out (fun g2 c2 w5 hl5 hg5 hat5 => ?_)) | fail)
            have hfar1 : ∀ r, r < ((triOf m m.length).take i).length → Far (hs.getD r undef) (.slice (some ⟨gr, 0, none⟩) (i + 1) crr) := fun r hr k hk e => by
              obtain rfl : gr = k := by simpa [Value.ownBlock] using e
              have := HML.out.2 r hr gr hk; omega
            have hfar2 : Far u6 (.slice (some ⟨gr, 0, none⟩) (i + 1) crr) := fun k hk e => by
              obtain rfl : gr = k := by simpa [Value.ownBlock] using e
              have := HML.out.1 gr hk; omega
            have hpush := (HM.out.alloc (.cells #[.slice (some ⟨gr, 0, none⟩) (i + 1) crr] 26)).push (u := .slice (some ⟨gr, 0, none⟩) (i + 1) crr) (l := triTo m (i + 1) m.length)
              (by rw [HLN.out]; exact (HO3.out.mono hsz).alloc _) hfar1 hfar2 (by rw [List.length_take, triOf_length, Nat.min_eq_left (by omega)]) hl5 hg5 (by simpa using hat5)
            have hts : (triOf m m.length).take i ++ [triTo m (i + 1) m.length] = (triOf m m.length).take (i + 1) := by rw [getD_take_succ (by rw [triOf_length]; exact hlt), triOf_getD hlt]
            rw [hts] at hpush
            have hd5' := (HD3.out.alloc (.cells #[.slice (some ⟨gr, 0, none⟩) (i + 1) crr] 26)).kept hg5 (.inr (fun e => by have := (HMO.out.lt w1.heap.size e.symm).1; omega))
            have hW5 : Below w.heap.size w w5 := (hW.alloc (by omega) _).grown hg5 (by simp; omega) (fun k hk => by have := (HMO.out.lt k hk).1; omega)
            have hsz5 : w2.heap.size ≤ w5.heap.size := by have := hg5.size; simp at this; omega
            have HPU := Lib.hid hpush
            have HD5 := Lib.hid hd5'
            clear hpush hfar1 hfar2 hl5 hg5 hat5 hts hd5'
            go_wp2
            go_roundw
            case rel => exact ⟨i + 1, _, by omega, by go_num, HPU.out, HD5.out, hW5, hsz5⟩
            case measure => simp [intOf]; omega
      · have hd1 : decide (i < m.length) = false := decide_eq_false hlt
        have him : Hid (i = m.length) := by show _ = _; omega
        have hm := HM.out
        rw [List.take_of_length_le (by rw [triOf_length, him.out]; exact Nat.le_refl _)] at hm
        have HM' := Lib.hid hm
        clear hm
        go_wp2
        go_ret2
        exact ⟨⟨0, _, rowsOut_own (HM'.out.lowr HW2S.out) 0, .inl ⟨HOK.out, rfl⟩, fun e => absurd rfl e, fun _ => rfl⟩, hW⟩
  · have HA := Lib.hid ha
    clear ha
    go_wp2
    go_ret2
    exact ⟨⟨1, [], rowsOut_nil _ _ 1, .inr ⟨HA.out, rfl⟩, fun _ => rfl, fun e => (by cases e)⟩, hb1⟩

end Go.Proofs.Ytpmkdihencepnaa

/-
  signs.FromCorner, whatever comes in.
-/
namespace Go.Proofs.Ytpmkdihencepnaa
open Go.RowKit

/-- What FromCorner has seen of the first rows. -/
structure CornP (C : List (List Int)) (i : Nat) : Prop where
  len : ∀ a, a < i → (C.getD a []).length = C.length
  zero : ∀ a, a < i → ent C a 0 = 0
  row : ∀ a b, a < i → b < C.length → 0 ≤ ent C a b ∧ ent C a b ≤ 7 ∧ (a = 0 → ent C a b = 0)
theorem CornP.start (C : List (List Int)) : CornP C 0 := ⟨fun a ha => by omega, fun a ha => by omega, fun a b ha => by omega⟩
theorem CornP.succ {C : List (List Int)} {i : Nat} (h : CornP C i) (h1 : (C.getD i []).length = C.length) (h2 : ent C i 0 = 0) (h3 : ∀ b, b < C.length → 0 ≤ ent C i b ∧ ent C i b ≤ 7 ∧ (i = 0 → ent C i b = 0)) : CornP C (i + 1) := by
  refine ⟨fun a ha => ?_, fun a ha => ?_, fun a b ha hb => ?_⟩
  · by_cases e : a = i
    · rw [e]; exact h1
    · exact h.len a (by omega)
  · by_cases e : a = i
    · rw [e]; exact h2
    · exact h.zero a (by omega)
  · by_cases e : a = i
    · rw [e]; exact h3 b hb
    · exact h.row a b (by omega) hb
def CornIn (C : List (List Int)) : Prop := 2 ≤ C.length ∧ C.length ≤ 8 ∧ CornP C C.length
theorem fmat_self {C : List (List Int)} {n : Nat} (hn : C.length = n) (h : ∀ a, a < n → (C.getD a []).length = n) : fmat n (ent C) = C := by
  apply List.ext_getElem (by rw [fmat_length, hn])
  intro i h1 h2
  have hi : i < n := by rw [fmat_length] at h1; exact h1
  have e1 := fmat_getD (f := ent C) hi
  rw [getD_get h1] at e1
  rw [e1, ← getD_get (d := []) h2]
  apply ext_getD (by rw [tab_length, h i hi])
  intro j hj
  rw [tab_length] at hj
  rw [tab_getD hj]; rfl
def FromCTo (C rows : List (List Int)) : Prop := ((CornIn C ∧ SignOk (unc (C.length - 1) (ent C))) ∧ rows = unc (C.length - 1) (ent C)) ∨ (¬ (CornIn C ∧ SignOk (unc (C.length - 1) (ent C))) ∧ rows = [])
theorem FromCTo.fn {C r s : List (List Int)} (h : FromCTo C r) (h' : FromCTo C s) : r = s := by
  rcases h with ⟨a, rfl⟩ | ⟨a, rfl⟩ <;> rcases h' with ⟨c, rfl⟩ | ⟨c, rfl⟩
  · rfl
  · exact absurd a c
  · exact absurd c a
  · rfl
theorem told_bad {R : List (List Int) → Prop} (B : Nat) (w : World) (k : Int) (h : R []) : Told R B (.returned (.tuple #[.slice none 0 0, .int .i64 k])) w := ⟨[], none, 0, k, rfl, OwnR.nil _ _, h⟩
theorem told_own {R : List (List Int) → Prop} {w : World} {B : Nat} {v : Value} {hs : List Value} {rows : List (List Int)} (h : OwnM w B v hs rows) (k : Int) (hR : R rows) : Told R B (.returned (.tuple #[v, .int .i64 k])) w := by
  obtain ⟨A, c, rfl, h1, _, _⟩ := h.ownR
  exact ⟨rows, A, c, k, rfl, h1, hR⟩
theorem told_any {R : List (List Int) → Prop} {w : World} {B : Nat} {A : Option Addr} {c n : Nat} {hs : List Value} {rows : List (List Int)} (h : OwnM w B (.slice A n c) hs rows) (k : Int) (hR : R rows) : Told R B (.returned (.tuple #[.slice A n c, .int .i64 k])) w := told_own h k hR

set_option maxRecDepth 100000 in
set_option maxHeartbeats 2000000 in
theorem fromcorner_all (A : Option Addr) (cap : Nat) (C : List (List Int)) (w : World) (hcl : C.length ≤ 9223372036854775807) (h : SR w w.heap.size A C) :
    Calls Try.prog 16 #[.slice A C.length cap] w fun e w' => Told (FromCTo C) w.heap.size e w' ∧ Below w.heap.size w w' := by
  go_enter Try.func16, Try.ntmps16
  by_cases h2 : C.length < 2
  · have hd1 : decide (C.length < 2) = true := decide_eq_true h2
    have hfin : Hid (FromCTo C []) := .inr ⟨fun e => by have := e.1.1; omega, rfl⟩
    go_wp2
    go_ret2
    exact ⟨told_bad _ _ _ hfin.out, Below.refl _ _⟩
  · have hd1 : decide (C.length < 2) = false := decide_eq_false h2
    by_cases h8 : 8 < C.length
    · have hd2 : decide (8 < C.length) = true := decide_eq_true h8
      have hfin : Hid (FromCTo C []) := .inr ⟨fun e => by have := e.1.2.1; omega, rfl⟩
      go_wp2
      go_ret2
      exact ⟨told_bad _ _ _ hfin.out, Below.refl _ _⟩
    · have hd2 : decide (8 < C.length) = false := decide_eq_false h8
      obtain ⟨b, o, rfl, hb⟩ := h.addr (by omega)
      go_wp2
      go_loop [20] (fun iv => ∃ i : Nat, i ≤ C.length ∧ iv = .int .i64 i ∧ CornP C i) (fun iv => C.length - (intOf iv).toNat)
      case atStart => exact ⟨0, by omega, rfl, CornP.start C⟩
      case round =>
        obtain ⟨i, hi, rfl, hok⟩ := hrel
        have HK := Lib.hid hok
        clear hok
        by_cases hlt : i < C.length
        · have hd3 : decide (i < C.length) = true := decide_eq_true hlt
          obtain ⟨Ai, ci, hci, hri, hrl⟩ := h.at_ hlt
          obtain ⟨R, hR⟩ : ∃ R, R = C.getD i [] := ⟨_, rfl⟩
          rw [← hR] at hci hri hrl
          have HR := Lib.hid hR
          clear hR
          by_cases hRl : R.length = C.length
          · have hd4 : ((R.length : Int) != (C.length : Int)) = false := by simp; omega
            have HRL := Lib.hid hRl
            have hRp : 0 < R.length := by omega
            clear hRl
            obtain ⟨b3, o3, rfl, hb3⟩ := hri.addr hRp
            have hc0 := getD_cell hri (k := 0) hRp
            rw [Nat.add_zero] at hc0
            obtain ⟨z, hz⟩ : ∃ z, z = R.getD 0 0 := ⟨_, rfl⟩
            rw [← hz] at hc0
            have hze : Hid (z = ent C i 0) := by show _ = _; rw [hz, HR.out]; rfl
            clear hz
            by_cases hz0 : z = 0
            · subst hz0
              go_wp2
              go_loop [38] (fun jv => ∃ j : Nat, j ≤ R.length ∧ jv = .int .i64 j ∧ ∀ b, b < j → 0 ≤ ent C i b ∧ ent C i b ≤ 7 ∧ (i = 0 → ent C i b = 0)) (fun jv => R.length - (intOf jv).toNat)
              case atStart => exact ⟨0, by omega, rfl, fun b hb => by omega⟩
              case round =>
                clear hc0
                obtain ⟨j, hj, rfl, hall⟩ := hrel
                have HALL := Lib.hid hall
                clear hall
                by_cases hlt2 : j < R.length
                · have hd5 : decide (j < R.length) = true := decide_eq_true hlt2
                  have hcx := getD_cell hri (k := j) hlt2
                  obtain ⟨x, hx⟩ : ∃ x, x = R.getD j 0 := ⟨_, rfl⟩
                  rw [← hx] at hcx
                  have hxe : Hid (x = ent C i j) := by show _ = _; rw [hx, HR.out]; rfl
                  have hno : Hid (¬ (0 ≤ x ∧ x ≤ 7 ∧ (i = 0 → x = 0)) → FromCTo C []) := fun hh => .inr ⟨fun e => hh (by rw [hxe.out]; exact e.1.2.2.row i j hlt (by have := HRL.out; omega)), rfl⟩
                  have hyes : Hid (0 ≤ x ∧ x ≤ 7 ∧ (i = 0 → x = 0) → ∀ b, b < j + 1 → 0 ≤ ent C i b ∧ ent C i b ≤ 7 ∧ (i = 0 → ent C i b = 0)) := fun hh b hb => by
                    by_cases e : b = j
                    · rw [e, ← hxe.out]; exact hh
                    · exact HALL.out b (by omega)
                  clear hx hxe
                  by_cases t1 : x < 0
                  · have e1 : decide (x < 0) = true := decide_eq_true t1
                    have hfin := Lib.hid (hno.out (by omega))
                    go_wp2
                    go_ret2
                    exact ⟨told_bad _ _ _ hfin.out, Below.refl _ _⟩
                  · have e1 : decide (x < 0) = false := decide_eq_false t1
                    by_cases t2 : 7 < x
                    · have e2 : decide (7 < x) = true := decide_eq_true t2
                      have hfin := Lib.hid (hno.out (by omega))
                      go_wp2
                      go_ret2
                      exact ⟨told_bad _ _ _ hfin.out, Below.refl _ _⟩
                    · have e2 : decide (7 < x) = false := decide_eq_false t2
                      by_cases hi0 : i = 0
                      · have e3 : ((i : Int) == 0) = true := by simp; omega
                        by_cases hx0 : x = 0
                        · have e4 : (x != 0) = false := by simp; omega
                          have hnx := Lib.hid (hyes.out ⟨by omega, by omega, fun _ => hx0⟩)
                          go_wp2
                          go_round
                          case rel => exact ⟨j + 1, by omega, by go_num, hnx.out⟩
                          case measure => simp [intOf]; omega
                        · have e4 : (x != 0) = true := by simp; omega
                          have hfin := Lib.hid (hno.out (fun hh => hx0 (hh.2.2 hi0)))
                          go_wp2
                          go_ret2
                          exact ⟨told_bad _ _ _ hfin.out, Below.refl _ _⟩
                      · have e3 : ((i : Int) == 0) = false := by simp; omega
                        have hnx := Lib.hid (hyes.out ⟨by omega, by omega, fun e => absurd e hi0⟩)
                        go_wp2
                        go_round
                        case rel => exact ⟨j + 1, by omega, by go_num, hnx.out⟩
                        case measure => simp [intOf]; omega
                · have hd5 : decide (j < R.length) = false := decide_eq_false hlt2
                  have hnx := Lib.hid (HK.out.succ (by rw [← HR.out, HRL.out]) hze.out.symm (fun b hb => HALL.out b (by have := HRL.out; omega)))
                  go_wp2
                  go_round
                  case rel => exact ⟨i + 1, by omega, by go_num, hnx.out⟩
                  case measure => simp [intOf]; omega
            · have e9 : (z != 0) = true := by simp; omega
              have hfin : Hid (FromCTo C []) := .inr ⟨fun e => hz0 (by rw [hze.out]; exact e.1.2.2.zero i hlt), rfl⟩
              go_wp2
              go_ret2
              exact ⟨told_bad _ _ _ hfin.out, Below.refl _ _⟩
          · have hd4 : ((R.length : Int) != (C.length : Int)) = true := by simp; omega
            have hfin : Hid (FromCTo C []) := .inr ⟨fun e => hRl (by rw [HR.out]; exact e.1.2.2.len i hlt), rfl⟩
            go_wp2
            go_ret2
            exact ⟨told_bad _ _ _ hfin.out, Below.refl _ _⟩
        · have hd3 : decide (i < C.length) = false := decide_eq_false hlt
          have hie : i = C.length := by omega
          have hin : CornIn C := ⟨by omega, by omega, by rw [← hie]; exact HK.out⟩
          have HIN := Lib.hid hin
          have hCe := fmat_self rfl hin.2.2.len
          have hcall : ∀ w, SR w w.heap.size (some ⟨b, o, none⟩) C → Calls Try.prog 53 #[.slice (some ⟨b, o, none⟩) C.length cap] w fun e w' => (∃ v hs, e = .returned v ∧ OwnM w' w.heap.size v hs (unc (C.length - 1) (ent C))) ∧ Below w.heap.size w w' := fun w hh => by
            have e1 : C.length - 1 + 1 = C.length := by omega
            have := uncornered_any (some ⟨b, o, none⟩) cap (C.length - 1) (ent C) w (by omega) (fun i j hi hj => by have := hin.2.2.row i j (by omega) (by omega); omega) (by rw [e1, hCe]; exact hh)
            rwa [e1] at this
          have HCALL := Lib.hid hcall
          have hUl : (unc (C.length - 1) (ent C)).length ≤ 7 := by rw [unc_length]; omega
          have HFC : ∀ k, ChkSign (unc (C.length - 1) (ent C)) k → (k = 0 → FromCTo C (unc (C.length - 1) (ent C))) ∧ (k ≠ 0 → FromCTo C []) := fun k hk => by
            rcases hk with ⟨ha, rfl⟩ | ⟨ha, rfl⟩
            · exact ⟨fun _ => .inl ⟨⟨hin, ha⟩, rfl⟩, fun e => absurd rfl e⟩
            · exact ⟨fun e => absurd e (by decide), fun _ => .inr ⟨fun e => ha e.2, rfl⟩⟩
          obtain ⟨U, hU⟩ : ∃ U, U = unc (C.length - 1) (ent C) := ⟨_, rfl⟩
          rw [← hU] at HCALL hUl HFC
          have HF := Lib.hid HFC
          clear hU hcall hCe hin hie HK HFC hi
          go_wp2_with fail
          refine (HCALL.out w h).mono ?_
          rintro e w1 ⟨⟨v, hs, rfl, hm⟩, hb1⟩
          have HM := Lib.hid hm
          obtain ⟨A1, c1, hv, hr, hl1, hl2⟩ := hm.sr
          have hlm : U.length ≤ 9223372036854775807 := by omega
          have HB1 := Lib.hid hb1
          subst hv
          clear hm hb1
          go_wp2_with fail
          refine (gcheck_any A1 c1 U w1 hlm hr).mono ?_
          rintro e w2 ⟨⟨k, rfl, hk⟩, hb2⟩
          have HC := Lib.hid (HF.out k hk)
          have HM2 := Lib.hid (HM.out.below hb2)
          have hW := Lib.hid (below_call HB1.out (Nat.le_refl _) hb2)
          clear hk hb2 HF hr HM HB1
          by_cases hk0 : k = 0
          · subst hk0
            have hfin := Lib.hid (HC.out.1 rfl)
            clear HC
            go_wp2
            go_ret2
            exact ⟨told_any HM2.out 0 hfin.out, hW.out⟩
          · have dk : (k != 0) = true := by simpa using hk0
            have hfin := Lib.hid (HC.out.2 hk0)
            clear HC
            go_wp2
            go_ret2
            exact ⟨told_bad _ _ _ hfin.out, hW.out⟩
end Go.Proofs.Ytpmkdihencepnaa

/-
  signs.FromTriangle: what it answers of what Triangle tells.
-/
namespace Go.Proofs.Ytpmkdihencepnaa
open Go.RowKit

def ind (q : List Int) (j : Nat) : Int := if ((j : Int) + 1) ∈ q then 1 else 0
theorem ind_nil (j : Nat) : ind [] j = 0 := by simp [ind]
theorem ind_take {q : List Int} (hq : q.Pairwise (· < ·)) {k X : Nat} (hk : k < q.length) (hX : q.getD k 0 = (X : Int) + 1) (j : Nat) : ind (q.take (k + 1)) j = if j = X then ind (q.take k) X + 1 else ind (q.take k) j := by
  have hx : q[k] = (X : Int) + 1 := by rw [← hX, getD_get hk]
  have hnot : ((X : Int) + 1) ∉ q.take k := fun h => by
    obtain ⟨i, hi, e⟩ := List.getElem_of_mem h
    have hi' : i < k := by simp at hi; omega
    rw [List.getElem_take] at e
    have := List.pairwise_iff_getElem.1 hq i k (by omega) hk hi'
    omega
  unfold ind
  rw [take_snoc hk, hx]
  by_cases e : j = X
  · subst e
    rw [if_pos rfl, if_pos (by simp), if_neg hnot]; rfl
  · rw [if_neg e]
    have : ((j : Int) + 1 ∈ q.take k ++ [(X : Int) + 1]) ↔ (j : Int) + 1 ∈ q.take k := by
      rw [List.mem_append, List.mem_singleton]
      exact ⟨fun h => h.elim id (fun h => by omega), .inl⟩
    simp only [this]
theorem ind_tri {m : List (List Int)} {n i j : Nat} (h : IsSign m n) (hi : i ≤ n) (hj : j < n) : ind (triTo m i n) j = dsum m i j := by
  have hd := h.col i j hi hj
  unfold ind
  by_cases c : dsum m i j = 1
  · rw [if_pos (triTo_mem.2 ⟨j, hj, c, rfl⟩), c]
  · rw [if_neg (fun hh => by
      obtain ⟨b, _, hb, e⟩ := triTo_mem.1 hh
      have : b = j := by omega
      rw [this] at hb
      exact c hb)]
    omega
theorem ind_le (q : List Int) (j : Nat) : 0 ≤ ind q j ∧ ind q j ≤ 1 := by unfold ind; split <;> omega
theorem row_tab {m : List (List Int)} {i : Nat} (h : SignOk m) (hi : i < m.length) : tab m.length (fun j => ind (triTo m (i + 1) m.length) j - ind (triTo m i m.length) j) = m.getD i [] := by
  apply ext_getD (by rw [tab_length, h.len hi])
  intro j hj
  rw [tab_length] at hj
  rw [tab_getD hj, ind_tri h.2 (by omega) hj, ind_tri h.2 (by omega) hj, dsum_succ, ent_row]
  omega

end Go.Proofs.Ytpmkdihencepnaa
