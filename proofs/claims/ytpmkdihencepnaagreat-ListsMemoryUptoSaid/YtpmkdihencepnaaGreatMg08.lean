/-
  perms.Product: what it answers.
-/
import Derived.Ground.Names2Prog
import Derived.Shelf.Lay
import Derived.Shelf.Slices.Delete
import Derived.Lib.OwnBridge
import Derived.OwnWalk
import Derived.Test.YtpmkdihencepnaaGreatMg01
import Derived.Test.YtpmkdihencepnaaGreatMg04
import Derived.Test.YtpmkdihencepnaaGreatMg05
import Derived.Test.YtpmkdihencepnaaGreatMg07
namespace Go.Proofs.YtpmkdihencepnaaGreat
open Go.RowKit

theorem swp_at {q : List Int} {y : Int} (h : 1 ≤ y) : swp q (y.toNat - 1) = (q.set (y.toNat - 1) (q.getD y.toNat 0)).set y.toNat (q.getD (y.toNat - 1) 0) := by
  unfold swp
  rw [show y.toNat - 1 + 1 = y.toNat by omega]

theorem unword_drop {ys q : List Int} {m : Nat} (h : m < ys.length) : unword (ys.drop m) q = swp (unword (ys.drop (m + 1)) q) ((ys.getD m 0).toNat - 1) := by
  rw [List.drop_eq_getElem_cons h, getD_get h]; rfl

def idTo (n i : Nat) : List Int := upTo i ++ List.replicate (n - i) 0
theorem idTo_set {n i : Nat} (h : i < n) : (idTo n i).set i ((i : Int) + 1) = idTo n (i + 1) := by
  unfold idTo
  rw [List.set_append_right _ _ (by rw [length_upTo]; exact Nat.le_refl _), length_upTo, Nat.sub_self, show n - i = (n - (i + 1)) + 1 by omega, List.replicate_succ, List.set_cons_zero]
  simp [upTo, List.range_succ]
theorem idTo_length {n i : Nat} (h : i ≤ n) : (idTo n i).length = n := by simp [idTo, length_upTo]; omega

set_option maxHeartbeats 1000000 in
theorem product_ok (A : Option Addr) (cap : Nat) (n : Nat) (ys : List Int) (w : World) (hn : n ≤ 40) (hl : ys.length < 2000000) (hy : ∀ y ∈ ys, 1 ≤ y ∧ y < (n : Int)) (h : Sl w w.heap.size A (ints ys)) :
    Calls Tryz.prog 26 #[.int .i64 n, .slice A ys.length cap] w fun e w' => Tol (fun xs => xs = unword ys (upTo n)) w.heap.size e w' ∧ Below w.heap.size w w' := by
  have HY := Lib.hid hy
  clear hy
  go_enter Tryz.func26, Tryz.ntmps26
  go_wp2
  go_loop [20] (fun iv => ∃ (i : Nat), i ≤ ys.length ∧ iv = .int .i64 i) (fun iv => ys.length - (intOf iv).toNat)
  case atStart => exact ⟨0, by omega, rfl⟩
  case round =>
    obtain ⟨i, hi, rfl⟩ := hrel
    by_cases hlt : i < ys.length
    · obtain ⟨b, o, rfl, hb⟩ := h.addr (by omega)
      have hc := getD_cell h hlt
      have hr : 1 ≤ ys.getD i 0 ∧ ys.getD i 0 < (n : Int) := HY.out _ (by rw [getD_get hlt]; exact List.getElem_mem hlt)
      obtain ⟨y, hy⟩ : ∃ x, x = ys.getD i 0 := ⟨_, rfl⟩
      rw [← hy] at hc hr
      clear hy
      go_wp2
      go_round
      case rel => exact ⟨i + 1, by omega, by go_num⟩
      case measure => simp [intOf]; omega
    · obtain rfl : i = ys.length := by omega
      clear hlt hi
      go_wp2_with (at_make; refine wpList_mk rfl (.tmp 32) (.tmp 32) rfl n rfl rfl (by omega) (Nat.le_refl _) (fun w2 hown2 hb2 hz2 => ?_))
      have HO2 := Lib.hid hown2
      clear hown2
      go_loopw [36] (fun iv wr => ∃ (i : Nat), i ≤ n ∧ iv = .int .i64 i ∧ wr.ownsRow w.heap.size 3 1 (.slice (some ⟨w.heap.size, 0, none⟩) n n) n (ints (idTo n i)) ∧ Below w.heap.size w wr) (fun iv _ => n - (intOf iv).toNat)
      case atStart => exact ⟨0, by omega, rfl, by simpa [idTo, upTo] using HO2.out, hb2⟩
      case round =>
        obtain ⟨i, hi, rfl, hown, hbl⟩ := hrel
        have HO := Lib.hid hown
        clear hown
        by_cases hlt : i < n
        · have hfx := HO.out.frozenAt i
          obtain ⟨z, hox⟩ : ∃ z, wr.cell? ⟨w.heap.size, i, none⟩ = some (.int .i64 z) :=
            ⟨_, own_get HO.out (List.getElem?_eq_getElem (show i < (idTo n i).length by rw [idTo_length (by omega)]; exact hlt))⟩
          have HS := Lib.hid (idTo_set hlt)
          go_wp2
          go_roundw
          case rel => exact ⟨i + 1, by omega, by go_num, by rw [← HS.out]; exact own_set HO.out _ _, hbl.setCell (by exact Nat.le_refl _) _⟩
          case measure => simp [intOf]; omega
        · obtain rfl : i = n := by omega
          have hfin : Hid (idTo i i = upTo i) := by show _ = _; simp [idTo]
          go_wp2
          rw [hfin.out] at HO
          clear hlt hi hb2 hz2 HO2 w2 hfin
          go_loopw [10] (fun kv wk => ∃ (m : Nat), m ≤ ys.length ∧ kv = .int .i64 ((m : Int) - 1) ∧ wk.ownsRow w.heap.size 3 1 (.slice (some ⟨w.heap.size, 0, none⟩) i i) i (ints (unword (ys.drop m) (upTo i))) ∧ Below w.heap.size w wk) (fun kv _ => ((intOf kv) + 1).toNat)
          case atStart => exact ⟨ys.length, by omega, rfl, by rw [List.drop_of_length_le (Nat.le_refl _)]; exact HO.out, hbl⟩
          case round =>
            obtain ⟨m, hm, rfl, hown, hbk⟩ := hrel
            have HK := Lib.hid hown
            clear hown
            cases m with
            | zero =>
              have hfin : Hid (ys.drop 0 = ys) := List.drop_zero
              go_wp2
              go_ret2
              exact ⟨tol_own (xs := unword ys (upTo i)) (by rw [← hfin.out]; exact HK.out) 0 rfl, hbk⟩
            | succ j =>
              rw [show ((j + 1 : Nat) : Int) - 1 = (j : Int) by omega]
              obtain ⟨b, o, rfl, hb⟩ := h.addr (by omega)
              have hlj : j < ys.length := by omega
              have hc := getD_cell (h.below hbk) hlj
              have hr : 1 ≤ ys.getD j 0 ∧ ys.getD j 0 < (i : Int) := HY.out _ (by rw [getD_get hlj]; exact List.getElem_mem hlj)
              have hun := unword_drop (q := upTo i) hlj
              have hlq : (unword (ys.drop (j + 1)) (upTo i)).length = i := by rw [unword_length, length_upTo]
              obtain ⟨y, hy⟩ : ∃ x, x = ys.getD j 0 := ⟨_, rfl⟩
              obtain ⟨q, hq⟩ : ∃ x, x = unword (ys.drop (j + 1)) (upTo i) := ⟨_, rfl⟩
              rw [← hy] at hc hr hun
              rw [← hq] at hun hlq HK
              rw [swp_at hr.1] at hun
              obtain ⟨u, hu⟩ : ∃ x, x = q.getD (y.toNat - 1) 0 := ⟨_, rfl⟩
              obtain ⟨v, hv⟩ : ∃ x, x = q.getD y.toNat 0 := ⟨_, rfl⟩
              have hcu := own_get HK.out (i := y.toNat - 1) (z := u) (by rw [hu, getD_get (by omega)]; exact List.getElem?_eq_getElem _)
              have hcv := own_get HK.out (i := y.toNat) (z := v) (by rw [hv, getD_get (by omega)]; exact List.getElem?_eq_getElem _)
              rw [← hu, ← hv] at hun
              have hfu := HK.out.frozenAt (y.toNat - 1)
              have hfv := HK.out.frozenAt y.toNat
              have HU := Lib.hid hun
              clear hu hv hun hy hq hlq
              have hne : ¬ y.toNat - 1 = y.toNat := by omega
              have hne' : ¬ y.toNat = y.toNat - 1 := by omega
              go_wp2
              go_region
              go_wp2
              go_roundw
              case rel => exact ⟨j, by omega, rfl, by rw [HU.out]; exact own_drew (own_set (own_set HK.out _ _) _ _), ((hbk.setCell (by exact Nat.le_refl _) _).setCell (by exact Nat.le_refl _) _).drew⟩
              case measure => simp [intOf]

set_option maxHeartbeats 1000000 in
theorem product_err (A : Option Addr) (cap : Nat) (k : Int) (ys : List Int) (w : World) (hl : ys.length ≤ 9223372036854775807) (hn : ¬ (0 ≤ k ∧ k ≤ 40 ∧ ∀ y ∈ ys, 1 ≤ y ∧ y < k)) (h : Sl w w.heap.size A (ints ys)) :
    Calls Tryz.prog 26 #[.int .i64 k, .slice A ys.length cap] w fun e w' => e = .returned (.tuple #[.slice none 0 0, .int .i64 1]) ∧ w = w' := by
  by_cases h1 : k < 0
  · have d1 : decide (k < 0) = true := decide_eq_true h1
    clear hn
    go_enter Tryz.func26, Tryz.ntmps26
    go_wp2
    go_ret2
    exact ⟨rfl, rfl⟩
  · have d1 : decide (k < 0) = false := decide_eq_false h1
    by_cases h2 : 40 < k
    · have d2 : decide (40 < k) = true := decide_eq_true h2
      clear hn
      go_enter Tryz.func26, Tryz.ntmps26
      go_wp2
      go_ret2
      exact ⟨rfl, rfl⟩
    · have d2 : decide (40 < k) = false := decide_eq_false h2
      have HN : Hid (¬ ∀ j, j < ys.length → 1 ≤ ys.getD j 0 ∧ ys.getD j 0 < k) := Lib.hid (fun hh => hn ⟨by omega, by omega, fun y hy => by
        obtain ⟨j, hj, rfl⟩ := List.getElem_of_mem hy
        have := hh j hj
        rwa [getD_get hj] at this⟩)
      clear hn
      go_enter Tryz.func26, Tryz.ntmps26
      go_wp2
      go_loop [20] (fun iv => ∃ (i : Nat), i ≤ ys.length ∧ iv = .int .i64 i ∧ ∀ j, j < i → 1 ≤ ys.getD j 0 ∧ ys.getD j 0 < k) (fun iv => ys.length - (intOf iv).toNat)
      case atStart => exact ⟨0, by omega, rfl, fun j hj => by omega⟩
      case round =>
        obtain ⟨i, hi, rfl, hall⟩ := hrel
        have HALL := Lib.hid hall
        clear hall
        by_cases hlt : i < ys.length
        · obtain ⟨b, o, rfl, hb⟩ := h.addr (by omega)
          have hc := getD_cell h hlt
          obtain ⟨y, hy⟩ : ∃ x, x = ys.getD i 0 := ⟨_, rfl⟩
          rw [← hy] at hc
          have HYY := Lib.hid hy
          clear hy
          by_cases h3 : y < 1
          · have d3 : decide (y < 1) = true := decide_eq_true h3
            go_wp2
            go_ret2
            exact ⟨rfl, rfl⟩
          · have d3 : decide (y < 1) = false := decide_eq_false h3
            by_cases h4 : k ≤ y
            · have d4 : decide (k ≤ y) = true := decide_eq_true h4
              go_wp2
              go_ret2
              exact ⟨rfl, rfl⟩
            · have d4 : decide (k ≤ y) = false := decide_eq_false h4
              go_wp2
              go_round
              case rel =>
                refine ⟨i + 1, by omega, by go_num, fun j hj => ?_⟩
                by_cases e : j = i
                · subst e; rw [← HYY.out]; omega
                · exact HALL.out j (by omega)
              case measure => simp [intOf]; omega
        · obtain rfl : i = ys.length := by omega
          exact absurd HALL.out HN.out

end Go.Proofs.YtpmkdihencepnaaGreat

/-
  perms.Word: what it answers.
-/
namespace Go.Proofs.YtpmkdihencepnaaGreat
open Go.RowKit

def vlen : Value → Nat
  | .slice _ n _ => n
  | _ => 0

theorem own_low {w w' : World} {base g n c B : Nat} {e : TypeId} {cs : List Value} (h : w.ownsRow base e 1 (.slice (some ⟨g, 0, none⟩) n c) n cs) (hg : g < B) (hb : Below B w w') : w'.ownsRow base e 1 (.slice (some ⟨g, 0, none⟩) n c) n cs := by
  refine ⟨h.1, ?_⟩
  rcases h.2 with hn | ⟨g', cap, cur, e1, hg', hh, rest⟩
  · exact .inl hn
  · obtain rfl : g = g' := by
      have : g = g' ∧ c = cap := by simpa using e1
      exact this.1
    exact .inr ⟨g, cap, cur, e1, hg', (hb.block g hg).trans hh, rest⟩
theorem inv_le_sq (q : List Int) : inv q ≤ q.length * q.length := inv_bound q

/-- One step of the loop; it stands still at the end. -/
def wst (s : List Int × List Int × Nat) : List Int × List Int × Nat :=
  if s.2.2 + 1 < s.1.length then (if s.1.getD s.2.2 0 < s.1.getD (s.2.2 + 1) 0 then (s.1, s.2.1, s.2.2 + 1) else (swp s.1 s.2.2, s.2.1 ++ [(s.2.2 : Int) + 1], s.2.2 - 1)) else s
def wrun (p : List Int) : Nat → List Int × List Int × Nat
  | 0 => (p, [], 0)
  | n + 1 => wst (wrun p n)
def WRun (p q out : List Int) (i : Nat) : Prop := ∃ n, wrun p n = (q, out, i)
theorem WRun.zero (p : List Int) : WRun p p [] 0 := ⟨0, rfl⟩
theorem WRun.go {p q out : List Int} {i : Nat} (h : WRun p q out i) (hi : i + 1 < q.length) (hd : q.getD i 0 < q.getD (i + 1) 0) : WRun p q out (i + 1) := by
  obtain ⟨n, hn⟩ := h
  refine ⟨n + 1, ?_⟩
  show wst (wrun p n) = _
  rw [hn]
  unfold wst
  rw [if_pos hi, if_pos hd]
theorem WRun.swap {p q out : List Int} {i : Nat} (h : WRun p q out i) (hi : i + 1 < q.length) (hd : ¬ q.getD i 0 < q.getD (i + 1) 0) : WRun p (swp q i) (out ++ [(i : Int) + 1]) (i - 1) := by
  obtain ⟨n, hn⟩ := h
  refine ⟨n + 1, ?_⟩
  show wst (wrun p n) = _
  rw [hn]
  unfold wst
  rw [if_pos hi, if_neg hd]
theorem wrun_still {p : List Int} {n : Nat} (h : ¬ (wrun p n).2.2 + 1 < (wrun p n).1.length) : ∀ m, wrun p (n + m) = wrun p n
  | 0 => rfl
  | m + 1 => by
    show wst (wrun p (n + m)) = _
    rw [wrun_still h m]
    unfold wst
    rw [if_neg h]
/-- What Word tells. -/
def WordT (p out : List Int) : Prop := ∃ q i, WRun p q out i ∧ ¬ i + 1 < q.length
theorem WordT.fn {p r s : List Int} (h : WordT p r) (h' : WordT p s) : r = s := by
  obtain ⟨q, i, ⟨n, hn⟩, hi⟩ := h
  obtain ⟨q', i', ⟨m, hm⟩, hi'⟩ := h'
  rcases Nat.le_total n m with e | e
  · have := wrun_still (p := p) (n := n) (by rw [hn]; exact hi) (m - n)
    rw [show n + (m - n) = m by omega, hn, hm] at this
    cases this; rfl
  · have := wrun_still (p := p) (n := m) (by rw [hm]; exact hi') (n - m)
    rw [show m + (n - m) = n by omega, hn, hm] at this
    cases this; rfl

set_option maxHeartbeats 1000000 in
theorem word_ok (A : Option Addr) (cap : Nat) (p : List Int) (w : World) (hn : p.length ≤ 40) (hk : permChk p = 0) (hp : IsPerm p) (h : Sl w w.heap.size A (ints p)) :
    Calls Tryz.prog 15 #[.slice A p.length cap] w fun e w' => Tol (fun ys => WordT p ys ∧ ys.length ≤ 2000) w.heap.size e w' ∧ Below w.heap.size w w' := by
  have HK := Lib.hid hk
  have HP := Lib.hid hp
  clear hk hp
  go_enter Tryz.func15, Tryz.ntmps15
  go_wp2_with fail
  refine (check_any _ _ _ _ (by omega) h).mono ?_
  rintro e w1 ⟨rfl, hb1⟩
  rw [HK.out]
  have h1 := h.now hb1 (Nat.le_refl _)
  go_wp2_with fail
  refine (clone_any _ _ _ _ (by omega) h1).mono ?_
  rintro e w2 ⟨v, rfl, hown, hb2⟩
  have HO2 := Lib.hid hown
  clear hown
  obtain ⟨A2, c2, rfl, hA2⟩ : ∃ A2 c2, v = .slice A2 p.length c2 ∧ (0 < p.length → ∃ g, A2 = some ⟨g, 0, none⟩) := by
    rcases HO2.out.2 with ⟨e1, e2⟩ | ⟨g, c, _, e1, _⟩
    · exact ⟨none, 0, by rw [e1, e2], fun h => by omega⟩
    · exact ⟨_, c, e1, fun _ => ⟨g, rfl⟩⟩
  have hinv := inv_le_sq p
  have hsq : p.length * p.length ≤ 40 * 40 := Nat.mul_le_mul hn hn
  obtain ⟨ip, hip⟩ : ∃ x, x = inv p := ⟨_, rfl⟩
  rw [← hip] at hinv
  have HIP := Lib.hid hip
  clear hip
  go_wp2_with fail
  go_loopw [6, 7] (fun ov iv wr => ∃ (i : Nat) (q out : List Int), i ≤ p.length ∧ iv = .int .i64 i ∧ WordSt p q out i ∧ WRun p q out i ∧ vlen ov = out.length ∧ wr.ownsRow w1.heap.size 3 1 (.slice A2 p.length c2) p.length (ints q) ∧
      wr.ownsRow w2.heap.size 3 1 ov out.length (ints out) ∧ Below w1.heap.size w1 wr ∧ w2.heap.size ≤ wr.heap.size) (fun ov iv _ => 2 * (ip - vlen ov) + (p.length - (intOf iv).toNat))
  case atStart => exact ⟨0, p, [], by omega, rfl, wordSt_zero p, WRun.zero p, rfl, HO2.out, World.ownsRow_nil w2 w2.heap.size 3 1, hb2, Nat.le_refl _⟩
  case round =>
    obtain ⟨i, q, out, hi, rfl, hst, hrun, hvl, hown, hown', hbl, hsz⟩ := hrel
    have HRUN := Lib.hid hrun
    clear hrun
    have HST := Lib.hid hst
    have HQ := Lib.hid hown
    have HO := Lib.hid hown'
    have HV := Lib.hid hvl
    clear hst hown hown' hvl
    have hol : out.length ≤ ip := by have := HST.out.2.2.2.1; rw [← HIP.out] at this; omega
    by_cases hlt : i + 1 < p.length
    · have hql : q.length = p.length := HST.out.1.length_eq
      obtain ⟨g, rfl⟩ := hA2 (by omega)
      have hg2 := (HO2.out.lt g rfl).2
      have hg1 := (HO2.out.lt g rfl).1
      clear hA2
      have hcx := own_get HQ.out (i := i) (z := q.getD i 0) (by rw [getD_get (by omega)]; exact List.getElem?_eq_getElem _)
      have hcy := own_get HQ.out (i := i + 1) (z := q.getD (i + 1) 0) (by rw [getD_get (by omega)]; exact List.getElem?_eq_getElem _)
      have hfx := HQ.out.frozenAt i
      have hfy := HQ.out.frozenAt (i + 1)
      have hsw : swp q i = (q.set i (q.getD (i + 1) 0)).set (i + 1) (q.getD i 0) := rfl
      have hgo := fun h => HST.out.go h
      have hswap := fun h => HST.out.swap HP.out hlt h
      have hrgo := fun h => HRUN.out.go (by omega) h
      have hrsw := fun h => HRUN.out.swap (by omega) h
      obtain ⟨x, hx⟩ : ∃ x, x = q.getD i 0 := ⟨_, rfl⟩
      obtain ⟨y, hy⟩ : ∃ x, x = q.getD (i + 1) 0 := ⟨_, rfl⟩
      rw [← hx, ← hy] at hsw hgo hswap hrgo hrsw
      have HRGO := Lib.hid hrgo
      have HRSW := Lib.hid hrsw
      rw [← hx] at hcx
      rw [← hy] at hcy
      have HSW := Lib.hid hsw
      have HGO := Lib.hid hgo
      have HSWAP := Lib.hid hswap
      have hd0 : decide ((i : Int) + 1 < (p.length : Int)) = true := by simp; omega
      clear hx hy hsw hgo hswap hql hrgo hrsw
      by_cases hxy : x < y
      · have hd1 : decide (x < y) = true := by simpa using hxy
        go_wp2
        go_quiet (fail)
        go_wp2
        go_roundw
        case rel => exact ⟨i + 1, q, out, by omega, by go_num, HGO.out hxy, HRGO.out hxy, HV.out, HQ.out, HO.out, below_drewN hbl _, hsz⟩
        case measure => simp [intOf]; omega
      · have hd1 : decide (x < y) = false := by simpa using hxy
        go_wp2
        go_quiet (fail)
        go_wp2
        go_region
        have hown3 := ownsRow_setCell_below (ownsRow_setCell_below (own_drewN HO.out (nq + 1)) (a := ⟨g, i, none⟩) hg2 (.int .i64 y)) (a := ⟨g, i + 1, none⟩) hg2 (.int .i64 x)
        have hownq := own_set (own_set (own_drewN HQ.out (nq + 1)) i y) (i + 1) x
        have hblq := ((below_drewN hbl (nq + 1)).setCell (p := ⟨g, i, none⟩) hg1 (.int .i64 y)).setCell (p := ⟨g, i + 1, none⟩) hg1 (.int .i64 x)
        have HO3 := Lib.hid hown3
        have HQ3 := Lib.hid hownq
        have hsz3 : w2.heap.size ≤ (((wr.drewN (nq + 1)).setCell ⟨g, i, none⟩ (.int .i64 y)).setCell ⟨g, i + 1, none⟩ (.int .i64 x)).heap.size := by simpa using hsz
        obtain ⟨wz, hwz⟩ : ∃ wz, wz = (((wr.drewN (nq + 1)).setCell ⟨g, i, none⟩ (.int .i64 y)).setCell ⟨g, i + 1, none⟩ (.int .i64 x)) := ⟨_, rfl⟩
        rw [← hwz] at HO3 HQ3 hsz3 hblq ⊢
        clear hwz hown3 hownq
        have hsw := Lib.hid (HSWAP.out hxy)
        have hol3 : out.length + 1 ≤ ip := by have h1 := hsw.out.1.2.2.2.1; rw [← HIP.out, List.length_append, List.length_singleton] at h1; omega
        go_wp2_with (at_builtin; refine wpList_app1 rfl (.tmp 48) (.tmp 51) rfl rfl ((i : Int) + 1) HO3.out rfl (by omega) hsz3 (fun g3 c3 w3 hl3 hb3 => ?_))
        have hmx : (if (1 : Int) < (i : Int) then (i : Int) - 1 else 0) = ((i - 1 : Nat) : Int) := by split <;> omega
        have hmx2 : max (0 : Int) ((i : Int) - 1) = ((i - 1 : Nat) : Int) := by omega
        first | rw [hmx] | rw [hmx2]
        clear hmx hmx2
        go_roundw
        case rel =>
          exact ⟨i - 1, swp q i, out ++ [(i : Int) + 1], by omega, rfl, hsw.out.1, HRSW.out hxy, by simp [vlen], own_low (by rw [HSW.out]; exact HQ3.out) hg2 hb3, by simpa using hl3, hblq.trans (hb3.mono (by omega)), Nat.le_trans hsz3 hb3.size⟩
        case measure =>
          have := HV.out
          simp only [vlen, intOf] at this ⊢
          omega
    · have hd0 : decide ((i : Int) + 1 < (p.length : Int)) = false := by simp; omega
      have hfin : Hid (WordT p out ∧ out.length ≤ 2000) := Lib.hid ⟨⟨q, i, HRUN.out, by have := HST.out.1.length_eq; omega⟩, by omega⟩
      obtain ⟨A', c', hv, _, hs⟩ := own_sliceT (HO.out.mono (show w.heap.size ≤ w2.heap.size by have := hb1.size; have := hb2.size; omega))
      rw [hv]
      clear hv
      go_wp2
      go_ret2
      exact ⟨⟨out, A', c', 0, rfl, hs, hfin.out⟩, hb1.trans (hbl.mono hb1.size)⟩

end Go.Proofs.YtpmkdihencepnaaGreat

/-
  slices.Delete of one int out of a slice that the caller owns.
-/
namespace Go.Proofs.YtpmkdihencepnaaGreat
open Go.RowKit Go.Proofs
open Go.Shelf Go.Lib Go.Sort

shelf_lay Lays2.n23 Nm2 23 at Tryz as Tryz.lays23

theorem delete_one {base g n cap : Nat} {zs : List Int} {i : Nat} (w : World) (h : w.ownsRow base 3 1 (.slice (some ⟨g, 0, none⟩) n cap) n (ints zs)) (hi : i < n) :
    Calls Tryz.prog 45 #[.slice (some ⟨g, 0, none⟩) n cap, .int .i64 i, .int .i64 ((i : Int) + 1)] w fun e w' => e = .returned (.slice (some ⟨g, 0, none⟩) (n - 1) cap) ∧
      w'.ownsRow base 3 1 (.slice (some ⟨g, 0, none⟩) (n - 1) cap) (n - 1) (ints (zs.take i ++ zs.drop (i + 1))) ∧ (∀ B w0, B ≤ base → Below B w0 w → Below B w0 w') ∧ (∀ k, k ≠ g → w'.heap[k]? = w.heap[k]?) ∧ w'.heap.size = w.heap.size := by
  have hc := own_cap h
  obtain ⟨g', cap', e0, hb, hlt, hn, hm, hl, hH⟩ := Lib.holds_of_ownsRow h (by simp)
  obtain ⟨rfl, rfl⟩ : g = g' ∧ cap = cap' := by simpa using e0
  subst hl
  have := Any.slices_Delete_int Tryz.lays23 g 0 cap i (i + 1) zs w hH (by omega) hc.2 (by omega) (by omega)
  refine this.mono ?_
  rintro e w' ⟨rfl, q, rfl⟩
  have hy : (zs.take i ++ zs.drop (i + 1) ++ List.replicate (i + 1 - i) 0).length = zs.length := by simp; omega
  have ho := Lib.ownsRow_putRow (q := q) (k := zs.length - 1) h hy (by omega)
  rw [List.take_left' (by simp; omega)] at ho
  exact ⟨by rw [show i + 1 - i = 1 by omega], ho, fun B w0 hB hw => Lib.below_putRow hw (by omega),
    fun k hk => by simp [putRow, mapBlock, Sort.ahead, Array.getElem?_modify, show g ≠ k from fun e => hk e.symm], by simp [putRow, mapBlock, Sort.ahead]⟩

/-- A row that another row's turning leaves. -/
theorem own_apart {w w' : World} {base n : Nat} {e : TypeId} {v : Value} {cs : List Value} (h : w.ownsRow base e 1 v n cs) (hk : ∀ k, base ≤ k → w'.heap[k]? = w.heap[k]?) : w'.ownsRow base e 1 v n cs := by
  refine ⟨h.1, ?_⟩
  rcases h.2 with hn | ⟨g, cap, cur, e1, hg, hh, rest⟩
  · exact .inl hn
  · exact .inr ⟨g, cap, cur, e1, hg, (hk g hg).trans hh, rest⟩

end Go.Proofs.YtpmkdihencepnaaGreat

/-
  perms.FromCode: what it answers.
-/
namespace Go.Proofs.YtpmkdihencepnaaGreat
open Go.RowKit

def FromSays (c : List Int) (B0 : Nat) (e : Ending) (w' : World) : Prop :=
  (∃ k, k ≠ 0 ∧ e = .returned (.tuple #[.slice none 0 0, .int .i64 k]) ∧ ¬ (c.length ≤ 40 ∧ IsCode c)) ∨
  (c.length ≤ 40 ∧ IsCode c ∧ ∃ B out c', e = .returned (.tuple #[.slice B out.length c', .int .i64 0]) ∧ w'.ownsRow B0 3 1 (.slice B out.length c') out.length (ints out) ∧ out.length = c.length ∧ IsPerm out ∧ codeOf out = c)

/-- 'make([]int, 0, n)'. -/
theorem wpList_mk0 {base : Nat} (w : World) {ops : Array Oper} {rest : List Oper} {o : Oper} {a : Act} {Q : Exit → Act → World → Prop} (hgd : o.guard = none) (l c : Operand)
    (ho : o.op = Op.makeSlice 22 l c) (n : Nat) (hs : a.eval l = .int .i64 0) (hx : a.eval c = .int .i64 n) (hlen : n < 1000000) (hbase : base ≤ w.heap.size)
    (h : ∀ w', w'.ownsRow base 3 1 (.slice (some ⟨w.heap.size, 0, none⟩) 0 n) 0 (ints []) → Below w.heap.size w w' →
      wpList Tryz.prog ops Q rest (a.put o.dst (.slice (some ⟨w.heap.size, 0, none⟩) 0 n)) w') :
    wpList Tryz.prog ops Q (o :: rest) a w := by
  obtain ⟨i0, hi, hz0, hz1, hz2⟩ := info_parts Tryz.infoInt
  exact wpList_make_own w hgd l c 22 ho base 3 i0 (.int .i64 0) 1 Tryz.underlying22 hi hz0 hz1 .i64 .i64 n n hs hx rfl (by rw [hz2]; omega) (by unfold maxLen; omega) hbase
    (fun w' h1 h2 => h w' h1 ((Below.refl _ _).grown h2 (Nat.le_refl _) (by simp)))

set_option maxRecDepth 100000 in
set_option maxHeartbeats 2000000 in
theorem fromCode_any (A : Option Addr) (cap : Nat) (c : List Int) (w : World) (hcl : c.length ≤ 9223372036854775807) (h : Sl w w.heap.size A (ints c)) :
    Calls Tryz.prog 14 #[.slice A c.length cap] w fun e w' => FromSays c w.heap.size e w' ∧ Below w.heap.size w w' := by
  by_cases hn : 40 < c.length
  · go_enter Tryz.func14, Tryz.ntmps14
    go_wp2
    go_ret2
    exact ⟨.inl ⟨2, by omega, rfl, by omega⟩, Below.refl _ _⟩
  have hn' : c.length ≤ 40 := by omega
  clear hn
  go_enter Tryz.func14, Tryz.ntmps14
  go_wp2
  go_loopw [4, 15] (fun ov iv wr => ∃ (i : Nat), i ≤ c.length ∧ iv = .int .i64 i ∧ wr.ownsRow w.heap.size 3 1 ov i (ints (upTo i)) ∧ Below w.heap.size w wr ∧ (∀ j, j < i → 0 ≤ c.getD j 0 ∧ c.getD j 0 ≤ (c.length : Int) - 1 - j)) (fun _ iv _ => c.length - (intOf iv).toNat)
  case atStart => exact ⟨0, by omega, rfl, World.ownsRow_nil w w.heap.size 3 1, Below.refl _ _, fun j hj => by omega⟩
  case round =>
    obtain ⟨i, hi, rfl, hown, hbl, hok⟩ := hrel
    have HO := Lib.hid hown
    have HK := Lib.hid hok
    clear hown hok
    by_cases hlt : i < c.length
    · obtain ⟨b, o, rfl, hb⟩ := h.addr (by omega)
      have hcx := getD_cell (h.below hbl) hlt
      have hbad : Hid (∀ h : ¬ (0 ≤ c.getD i 0 ∧ c.getD i 0 ≤ (c.length : Int) - 1 - i), ¬ IsCode c) := fun h hc => h (hc i hlt)
      have hgood : Hid (0 ≤ c.getD i 0 ∧ c.getD i 0 ≤ (c.length : Int) - 1 - i → ∀ j, j < i + 1 → 0 ≤ c.getD j 0 ∧ c.getD j 0 ≤ (c.length : Int) - 1 - j) := fun h j hj => by
        by_cases e : j = i
        · subst e; exact h
        · exact HK.out j (by omega)
      obtain ⟨n, hn⟩ : ∃ n, n = c.getD i 0 := ⟨_, rfl⟩
      rw [← hn] at hcx hbad hgood
      clear hn
      have hsn : Hid (upTo i ++ [(i : Int) + 1] = upTo (i + 1)) := by show _ = _; simp [upTo, List.range_succ]
      by_cases h1 : n < 0
      · have hd : decide (n < 0) = true := by simpa using h1
        go_wp2
        go_ret2
        exact ⟨.inl ⟨1, by omega, rfl, fun hh => hbad.out (by omega) hh.2⟩, hbl⟩
      · have hd : decide (n < 0) = false := by simpa using h1
        by_cases h2 : (c.length : Int) - 1 - i < n
        · have hd2 : decide ((c.length : Int) - 1 - (i : Int) < n) = true := by simpa using h2
          go_wp2
          go_ret2
          exact ⟨.inl ⟨1, by omega, rfl, fun hh => hbad.out (by omega) hh.2⟩, hbl⟩
        · have hd2 : decide ((c.length : Int) - 1 - (i : Int) < n) = false := by simpa using h2
          go_wp2_with (at_builtin; refine wpList_app1 rfl (.tmp 31) (.tmp 34) rfl rfl ((i : Int) + 1) HO.out rfl (by omega) hbl.size (fun g2 c2 w2 hl2 hb2 => ?_))
          go_roundw
          case rel => exact ⟨i + 1, by omega, by go_num, by rw [← hsn.out]; exact hl2, hbl.trans hb2, hgood.out (by omega)⟩
          case measure => simp [intOf]; omega
    · obtain rfl : i = c.length := by omega
      have HC : Hid (IsCode c) := HK.out
      clear hlt hi HK
      go_wp2_with (at_make; refine wpList_mk0 _ rfl (.const (.int .i64 0)) (.tmp 38) rfl c.length rfl rfl (by omega) (Nat.le_refl _) (fun w2 hown2 hb2 => ?_))
      obtain ⟨wl, rfl⟩ : ∃ wl : World, wl = wr := ⟨_, rfl⟩
      have HO2 := Lib.hid hown2
      have HOK := Lib.hid (own_below HO.out hb2)
      have hlt4 := HO.out.lt
      clear hown2
      go_loopw [4, 7, 42] (fun lv ov iv wr => ∃ (i : Nat) (out lf : List Int), i ≤ c.length ∧ iv = .int .i64 i ∧ out.length = i ∧ FromSt c.length c out lf ∧ wr.ownsRow w.heap.size 3 1 lv lf.length (ints lf) ∧
          wr.ownsRow wl.heap.size 3 1 ov out.length (ints out) ∧ Below w.heap.size w wr ∧ wl.heap.size ≤ wr.heap.size ∧ (∀ k, lv.ownBlock = some k → k < wl.heap.size)) (fun _ _ iv _ => c.length - (intOf iv).toNat)
      case atStart => exact ⟨0, [], upTo c.length, by omega, rfl, rfl, fromSt_zero c, by rw [length_upTo]; exact HOK.out, HO2.out, hbl.trans (hb2.mono hbl.size), hb2.size, fun k hk => (hlt4 k hk).2⟩
      case round =>
        obtain ⟨i, out, lf, hi, rfl, hoi, hst, hown, hown', hbr, hsz, hblk⟩ := hrel
        have HST := Lib.hid hst
        have HL := Lib.hid hown
        have HU := Lib.hid hown'
        have hlen := hst.len
        have HOI := Lib.hid hoi
        clear hst hown hown' hoi
        by_cases hlt : i < c.length
        · obtain ⟨b, o, rfl, hb⟩ := h.addr (by omega)
          have hcx := getD_cell (h.below hbr) hlt
          have hcc := HC.out i hlt
          have hstep : Hid (∀ k : Nat, k < lf.length → c.getD i 0 = k → FromSt c.length c (out ++ [lf.getD k 0]) (lf.take k ++ lf.drop (k + 1))) := fun k hk hck => HST.out.step rfl (by have := HOI.out; omega) hk (by rw [HOI.out]; exact hck)
          obtain ⟨n, hn⟩ : ∃ n, n = c.getD i 0 := ⟨_, rfl⟩
          rw [← hn] at hcx hcc hstep
          clear hn
          obtain ⟨k, rfl⟩ : ∃ k : Nat, n = k := ⟨n.toNat, by omega⟩
          have hkl : k < lf.length := by have := HOI.out; omega
          obtain ⟨g, cl, hlv, hg1, hg2⟩ := HL.out.form (by omega)
          rw [hlv] at HL hblk ⊢
          clear hlv
          have hgl := hblk g rfl
          have hcl := own_get HL.out (i := k) (z := lf.getD k 0) (by rw [getD_get hkl]; exact List.getElem?_eq_getElem _)
          obtain ⟨x, hx⟩ : ∃ x, x = lf.getD k 0 := ⟨_, rfl⟩
          rw [← hx] at hcl
          have HX := Lib.hid hx
          clear hx hblk hcc
          go_wp2_with (first | (at_builtin; refine wpList_app1 rfl (.tmp 46) (.tmp 51) rfl rfl x HU.out rfl (by omega) hsz (fun g3 c3 w3 hl3 hb3 => ?_)) | fail)
          refine (delete_one w3 (own_low HL.out hgl hb3) hkl).mono ?_
          rintro e w4 ⟨rfl, hd1, hd2, hd3, hd4⟩
          have hb4 := hd2 w.heap.size w (Nat.le_refl _) (hbr.trans (hb3.mono hbl.size))
          have hu4 := own_apart hl3 (fun k' hk' => hd3 k' (by omega))
          have hsz4 : wl.heap.size ≤ w4.heap.size := by rw [hd4]; exact Nat.le_trans hsz hb3.size
          have hdl : (lf.take k ++ lf.drop (k + 1)).length = lf.length - 1 := by simp; omega
          have HD1 := Lib.hid hd1
          have HU4 := Lib.hid hu4
          have HDL := Lib.hid hdl
          clear hd1 hd2 hd3 hd4 hu4 hl3 hb3 hdl
          go_wp2
          go_roundw
          case rel =>
            refine ⟨i + 1, out ++ [x], lf.take k ++ lf.drop (k + 1), by omega, by go_num, by simp [HOI.out], ?_, ?_, by simpa using HU4.out, hb4, hsz4, fun k' hk' => ?_⟩
            · have := hstep.out k hkl rfl
              rwa [← HX.out] at this
            · rw [HDL.out]; exact HD1.out
            · simp [Value.ownBlock] at hk'; omega
          case measure => simp [intOf]; omega
        · obtain rfl : i = c.length := by omega
          have hfin := Lib.hid (HST.out.done rfl HOI.out)
          obtain ⟨A', c', hv, _, hs⟩ := own_sliceT (HU.out.mono hbl.size)
          rw [hv]
          clear hv
          go_wp2
          go_ret2
          exact ⟨.inr ⟨hn', HC.out, _, out, _, rfl, hs, HOI.out, hfin.out.1, hfin.out.2⟩, hbr⟩

end Go.Proofs.YtpmkdihencepnaaGreat

/-
  Words that seat B's walks share: ferlaw.Same, slices.Clone, ferref.Size overB ints; literals; rows.
-/
namespace Go.Proofs.YtpmkdihencepnaaGreat
open Go.RowKit

/-- A value that owns a row, as a slice that reads. -/
theorem own_slice {w : World} {base n : Nat} {v : Value} {xs : List Int} (h : w.ownsRow base 3 1 v n (ints xs)) : ∃ A c, v = .slice A xs.length c ∧ n = xs.length ∧ Sl w w.heap.size A (ints xs) ∧ xs.length ≤ c ∧ c ≤ 9223372036854775807 := by
  have hl : xs.length = n := by have := h.1; rw [ints_length] at this; omega
  subst hl
  rcases h.2 with ⟨e1, e2⟩ | ⟨g, c, _, e1, _⟩
  · refine ⟨none, 0, by rw [e2]; exact e1, rfl, ?_, by omega, by omega⟩
    rw [List.eq_nil_of_length_eq_zero e2]; exact Sl.nil _ _ _
  · rw [e1] at h
    exact ⟨_, c, e1, rfl, Sl.of_own h, (own_cap h).1, (own_cap h).2⟩

end Go.Proofs.YtpmkdihencepnaaGreat
