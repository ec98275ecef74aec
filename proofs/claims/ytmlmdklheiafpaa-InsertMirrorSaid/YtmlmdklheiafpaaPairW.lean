/-
  perms.pair, perms.Inverse, perms.Below: what they answer.
-/
import Derived.Test.YtmlmdklheiafpaaPerms1
import Derived.Test.YtmlmdklheiafpaaBruhatM
namespace Go.Proofs.Ytmlmdklheiafpaa
open Go.RowKit

def pairChk (p q : List Int) : Int := if permChk p ≠ 0 then permChk p else if permChk q ≠ 0 then permChk q else if p.length = q.length then 0 else 3

theorem permChk_zero {xs : List Int} (h : permChk xs = 0) : xs.length ≤ 40 ∧ IsPerm xs := by
  unfold permChk at h
  split at h
  · cases h
  · split at h
    · exact ⟨by omega, by assumption⟩
    · cases h
theorem permChk_of {xs : List Int} (h : xs.length ≤ 40) (hp : IsPerm xs) : permChk xs = 0 := permChk_ok (by omega) hp

theorem pairChk_zero {p q : List Int} : pairChk p q = 0 ↔ permChk p = 0 ∧ permChk q = 0 ∧ p.length = q.length := by
  unfold pairChk
  by_cases h1 : permChk p = 0
  · by_cases h2 : permChk q = 0
    · by_cases h3 : p.length = q.length <;> simp [h1, h2, h3]
    · simp [h1, h2]
  · simp [h1]

set_option maxHeartbeats 800000 in
theorem pair_any (A A' : Option Addr) (cap cap' : Nat) (p q : List Int) (w : World) (hp : p.length ≤ 9223372036854775807) (hq : q.length ≤ 9223372036854775807)
    (h : Sl w w.heap.size A (ints p)) (h' : Sl w w.heap.size A' (ints q)) :
    Calls Try.prog 57 #[.slice A p.length cap, .slice A' q.length cap'] w fun e w' => e = .returned (.int .i64 (pairChk p q)) ∧ Below w.heap.size w w' := by
  obtain ⟨a, ha⟩ : ∃ a, a = permChk p := ⟨_, rfl⟩
  obtain ⟨b, hb⟩ : ∃ b, b = permChk q := ⟨_, rfl⟩
  have HA := Lib.hid ha
  have HB := Lib.hid hb
  clear ha hb
  go_enter Try.func57, Try.ntmps57
  go_wp2_with fail
  refine (check_any _ _ _ _ hp h).mono ?_
  rintro e w1 ⟨rfl, hb1⟩
  rw [← HA.out]
  go_wp2_with fail
  refine (check_any _ _ _ _ hq (h'.keep hb1)).mono ?_
  rintro e w2 ⟨rfl, hb2⟩
  rw [← HB.out]
  have hW2 : Below w.heap.size w w2 := below_call hb1 (Nat.le_refl _) hb2
  clear hb1 hb2
  by_cases h1 : a = 0
  · have hd1 : (a != 0) = false := by simpa using h1
    have H1 := Lib.hid h1
    clear h1
    by_cases h2 : b = 0
    · have hd2 : (b != 0) = false := by simpa using h2
      have H2 := Lib.hid h2
      clear h2
      by_cases h3 : p.length = q.length
      · have hd3 : (((p.length : Nat) : Int) != ((q.length : Nat) : Int)) = false := by simp [h3]
        have hfin : Hid (pairChk p q = 0) := pairChk_zero.2 ⟨by rw [← HA.out]; exact H1.out, by rw [← HB.out]; exact H2.out, h3⟩
        clear h3
        go_wp2
        go_ret
        exact ⟨by rw [hfin.out]; rfl, hW2⟩
      · have hd3 : (((p.length : Nat) : Int) != ((q.length : Nat) : Int)) = true := by simp; omega
        have hfin : Hid (pairChk p q = 3) := by
          show _ = _
          unfold pairChk
          rw [if_neg (by rw [← HA.out]; simpa using H1.out), if_neg (by rw [← HB.out]; simpa using H2.out), if_neg h3]
        clear h3
        go_wp2
        go_ret
        exact ⟨by rw [hfin.out]; rfl, hW2⟩
    · have hd2 : (b != 0) = true := by simpa using h2
      have hfin : Hid (pairChk p q = b) := by
        show _ = _
        unfold pairChk
        rw [if_neg (by rw [← HA.out]; simpa using H1.out), if_pos (by rw [← HB.out]; exact h2), HB.out]
      clear h2
      go_wp2
      go_ret
      exact ⟨by rw [hfin.out]; rfl, hW2⟩
  · have hd1 : (a != 0) = true := by simpa using h1
    have hfin : Hid (pairChk p q = a) := by
      show _ = _
      unfold pairChk
      rw [if_pos (by rw [← HA.out]; exact h1), HA.out]
    clear h1
    go_wp2
    go_ret
    exact ⟨by rw [hfin.out]; rfl, hW2⟩

theorem inv_step {p zs : List Int} (hp : IsPerm p) (hz : zs.length = p.length) {k : Nat} (hk : k < p.length) (hd : ∀ j, j < k → at1 zs (p.getD j 0) = (j : Int) + 1) :
    ∀ j, j < k + 1 → at1 (zs.set ((p.getD k 0).toNat - 1) ((k : Int) + 1)) (p.getD j 0) = (j : Int) + 1 := by
  intro j hj
  have hrj := hp.getD_range (show j < p.length by omega)
  have hrk := hp.getD_range hk
  have hl1 : (p.getD j 0 - 1).toNat < (zs.set ((p.getD k 0).toNat - 1) ((k : Int) + 1)).length := by simp only [List.length_set]; omega
  unfold at1
  rw [getD_get hl1, List.getElem_set]
  by_cases he : j = k
  · subst he
    rw [if_pos (by omega)]
  · have hne : p.getD j 0 ≠ p.getD k 0 := fun e => he (hp.getD_inj (by omega) hk e)
    rw [if_neg (by omega)]
    have := hd j (by omega)
    unfold at1 at this
    rw [getD_get (by omega)] at this
    exact this

set_option maxHeartbeats 1000000 in
theorem inverse_ok (A : Option Addr) (cap : Nat) (p : List Int) (w : World) (hn : p.length ≤ 40) (hp : IsPerm p) (h : Sl w w.heap.size A (ints p)) :
    Calls Try.prog 22 #[.slice A p.length cap] w fun e w' => ∃ A' c' ys, e = .returned (.tuple #[.slice A' ys.length c', .int .i64 0]) ∧ Sl w' w'.heap.size A' (ints ys) ∧ ys.length ≤ c' ∧ IsInv p ys ∧ Below w.heap.size w w' := by
  have hk : Hid (permChk p = 0) := permChk_ok (by omega) hp
  have HP := Lib.hid hp
  clear hp
  go_enter Try.func22, Try.ntmps22
  go_wp2_with fail
  refine (check_any _ _ _ _ (by omega) h).mono ?_
  rintro e w1 ⟨rfl, hb1⟩
  rw [hk.out]
  have h1 := (h.below hb1)
  go_wp2_with (at_make; refine wpList_mk rfl (.tmp 14) (.tmp 14) rfl p.length rfl rfl (by omega) (Nat.le_refl _) (fun w2 hown2 hb2 hz2 => ?_))
  have HO2 := Lib.hid hown2
  clear hown2
  go_loopw [18] (fun iv wr => ∃ (i : Nat) (ys : List Int), i ≤ p.length ∧ iv = .int .i64 i ∧ ys.length = p.length ∧ wr.ownsRow w1.heap.size 3 1 (.slice (some ⟨w1.heap.size, 0, none⟩) p.length p.length) p.length (ints ys) ∧ Below w1.heap.size w1 wr ∧
      (∀ k, k < i → at1 ys (p.getD k 0) = (k : Int) + 1)) (fun iv _ => p.length - (intOf iv).toNat)
  case atStart => exact ⟨0, _, by omega, rfl, by simp, HO2.out, hb2, fun k hk => by omega⟩
  case round =>
    obtain ⟨i, ys, hi, rfl, hyl, hown, hbl, hdone⟩ := hrel
    have HO := Lib.hid hown
    have HD := Lib.hid hdone
    have HY := Lib.hid hyl
    clear hown hdone hyl
    by_cases hlt : i < p.length
    · obtain ⟨b, o, rfl, hb⟩ := h1.addr (by omega)
      have hcx := getD_cell (h1.below (hbl.mono hb1.size)) hlt
      have hr := HP.out.getD_range hlt
      obtain ⟨x, hx⟩ : ∃ x, x = p.getD i 0 := ⟨_, rfl⟩
      rw [← hx] at hcx hr
      have HX := Lib.hid hx
      clear hx
      have hox := HO.out.cellAt (x.toNat - 1) (by have := HY.out; omega)
      rw [ints_get (by have := HY.out; omega)] at hox
      have hfx := HO.out.frozenAt (x.toNat - 1)
      go_wp2
      go_roundw
      case rel =>
        refine ⟨i + 1, ys.set (x.toNat - 1) ((i : Int) + 1), by omega, by go_num, by simp [HY.out], own_set HO.out _ _, hbl.setCell (by exact Nat.le_refl _) _, ?_⟩
        rw [HX.out]
        exact inv_step HP.out HY.out hlt HD.out
      case measure => simp [intOf]; omega
    · obtain rfl : i = p.length := by omega
      go_wp2
      go_ret2
      exact ⟨_, _, ys, by rw [HY.out]; rfl, Sl.of_own HO.out, by rw [HY.out]; exact Nat.le_refl _, ⟨HY.out, HD.out⟩, hb1.trans (hbl.mono hb1.size)⟩

set_option maxHeartbeats 400000 in
theorem inverse_err (A : Option Addr) (cap : Nat) (xs : List Int) (w : World) (hcl : xs.length ≤ 9223372036854775807) (hp : permChk xs ≠ 0) (h : Sl w w.heap.size A (ints xs)) :
    Calls Try.prog 22 #[.slice A xs.length cap] w fun e w' => e = .returned (.tuple #[.slice none 0 0, .int .i64 (permChk xs)]) ∧ Below w.heap.size w w' := by
  obtain ⟨c, hc⟩ : ∃ c, c = permChk xs := ⟨_, rfl⟩
  have hd : (c != 0) = true := by rw [hc]; simpa using hp
  have HC := Lib.hid hc
  clear hc hp
  go_enter Try.func22, Try.ntmps22
  go_wp2_with fail
  refine (check_any _ _ _ _ hcl h).mono ?_
  rintro e w1 ⟨rfl, hb1⟩
  rw [← HC.out]
  go_wp2
  go_ret2
  exact ⟨by rw [← HC.out]; rfl, hb1⟩

/-- The table of how many more there are. -/
def OverArr (w : World) (g : Nat) (f : Nat → Int) : Prop :=
  ∃ cs : Array Value, w.heap[g]? = some (.cells cs 73 (0, 0)) ∧ cs.size = 42 ∧ ∀ i : Nat, i < 42 → cs[i]? = some (.int .i64 (f i))
theorem OverArr.cell {w : World} {g : Nat} {f : Nat → Int} (h : OverArr w g f) {k : Nat} (hk : k < 42) : w.cell? ⟨g, k, none⟩ = some (.int .i64 (f k)) := by
  obtain ⟨cs, hg, hs, hc⟩ := h
  rw [cell_of_row _ _ _ _ _ _ hg, hc _ hk]
theorem OverArr.frozen {w : World} {g : Nat} {f : Nat → Int} (h : OverArr w g f) (i : Nat) : w.frozen? ⟨g, i, none⟩ = false := by
  obtain ⟨cs, hg, hs, hc⟩ := h
  exact frozen_of_row w g i cs _ hg
theorem OverArr.set_ {w : World} {g : Nat} {f : Nat → Int} (h : OverArr w g f) {k : Nat} (hk : k < 42) (v : Int) :
    OverArr (w.setCell ⟨g, k, none⟩ (.int .i64 v)) g (fun i => if i = k then v else f i) := by
  obtain ⟨cs, hg, hs, hc⟩ := h
  refine ⟨cs.setIfInBounds k (.int .i64 v), heap_setCell_same w g _ cs _ _ hg, by simpa using hs, fun i hi => ?_⟩
  rw [Array.getElem?_setIfInBounds]
  by_cases e : k = i
  · subst e; rw [if_pos rfl, if_pos (by omega)]; simp
  · rw [if_neg e, hc i hi]
    have : ¬ i = k := fun h => e h.symm
    simp [this]
theorem OverArr.congr {w : World} {g : Nat} {f f' : Nat → Int} (h : OverArr w g f) (hf : ∀ i, i < 42 → f i = f' i) : OverArr w g f' := by
  obtain ⟨cs, hg, hs, hc⟩ := h
  exact ⟨cs, hg, hs, fun i hi => by rw [hc i hi, hf i hi]⟩

def dif (p q : List Int) (i k : Nat) : Int := (rk q i k : Int) - rk p i k
theorem dif_succ {p q : List Int} {i : Nat} (hp : i < p.length) (hq : i < q.length) (k : Nat) :
    dif p q (i + 1) k = dif p q i k + (if (k : Int) ≤ q.getD i 0 then 1 else 0) - (if (k : Int) ≤ p.getD i 0 then 1 else 0) := by
  unfold dif
  rw [rk_succ p hp, rk_succ q hq]
  split <;> split <;> omega
theorem dif_bound (p q : List Int) (i k : Nat) : -(i : Int) ≤ dif p q i k ∧ dif p q i k ≤ i := by
  have h1 := rk_le p i k
  have h2 := rk_le q i k
  unfold dif; omega

end Go.Proofs.Ytmlmdklheiafpaa
