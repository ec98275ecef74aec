/-
  perms.Product: what it answers.
-/
import Derived.Test.YtmlmdklheiafpaaTimesW
namespace Go.Proofs.Ytmlmdklheiafpaa
open Go.RowKit

theorem swp_at {q : List Int} {y : Int} (h : 1 ≤ y) : swp q (y.toNat - 1) = (q.set (y.toNat - 1) (q.getD y.toNat 0)).set y.toNat (q.getD (y.toNat - 1) 0) := by
  unfold swp
  rw [show y.toNat - 1 + 1 = y.toNat by omega]

theorem unword_drop {ys q : List Int} {m : Nat} (h : m < ys.length) : unword (ys.drop m) q = swp (unword (ys.drop (m + 1)) q) ((ys.getD m 0).toNat - 1) := by
  rw [List.drop_eq_getElem_cons h, getD_get h]; rfl

def idTo (n i : Nat) : List Int := upTo i ++ List.replicate (n - i) 0
theorem idTo_set {n i : Nat} (h : i < n) : (idTo n i).set i ((i : Int) + 1) = idTo n (i + 1) := by
  unfold idTo
  rw [List.set_append_right _ _ (by rw [length_upTo]; exact Nat.le_refl _), length_upTo, Nat.sub_self, show n - i = (n - (i + 1)) + 1 by omega, List.replicate_succ, List.set_cons_zero]
  simp [upTo, List.range_succ]
theorem idTo_length {n i : Nat} (h : i ≤ n) : (idTo n i).length = n := by simp [idTo, length_upTo]; omega

set_option maxHeartbeats 1000000 in
theorem product_ok (A : Option Addr) (cap : Nat) (n : Nat) (ys : List Int) (w : World) (hn : n ≤ 40) (hl : ys.length < 1000000) (hy : ∀ y ∈ ys, 1 ≤ y ∧ y < (n : Int)) (h : Sl w w.heap.size A (ints ys)) :
    Calls Try.prog 27 #[.int .i64 n, .slice A ys.length cap] w fun e w' => ∃ B c', e = .returned (.tuple #[.slice B (unword ys (upTo n)).length c', .int .i64 0]) ∧ Sl w' w'.heap.size B (ints (unword ys (upTo n))) ∧ (unword ys (upTo n)).length ≤ c' ∧ Below w.heap.size w w' := by
  have HY := Lib.hid hy
  clear hy
  go_enter Try.func27, Try.ntmps27
  go_wp2
  go_loop [20] (fun iv => ∃ (i : Nat), i ≤ ys.length ∧ iv = .int .i64 i) (fun iv => ys.length - (intOf iv).toNat)
  case atStart => exact ⟨0, by omega, rfl⟩
  case round =>
    obtain ⟨i, hi, rfl⟩ := hrel
    by_cases hlt : i < ys.length
    · obtain ⟨b, o, rfl, hb⟩ := h.addr (by omega)
      have hc := getD_cell h hlt
      have hr : 1 ≤ ys.getD i 0 ∧ ys.getD i 0 < (n : Int) := HY.out _ (by rw [getD_get hlt]; exact List.getElem_mem hlt)
      obtain ⟨y, hy⟩ : ∃ x, x = ys.getD i 0 := ⟨_, rfl⟩
      rw [← hy] at hc hr
      clear hy
      go_wp2
      go_round
      case rel => exact ⟨i + 1, by omega, by go_num⟩
      case measure => simp [intOf]; omega
    · obtain rfl : i = ys.length := by omega
      clear hlt hi
      go_wp2_with (at_make; refine wpList_mk rfl (.tmp 32) (.tmp 32) rfl n rfl rfl (by omega) (Nat.le_refl _) (fun w2 hown2 hb2 hz2 => ?_))
      have HO2 := Lib.hid hown2
      clear hown2
      go_loopw [36] (fun iv wr => ∃ (i : Nat), i ≤ n ∧ iv = .int .i64 i ∧ wr.ownsRow w.heap.size 3 1 (.slice (some ⟨w.heap.size, 0, none⟩) n n) n (ints (idTo n i)) ∧ Below w.heap.size w wr) (fun iv _ => n - (intOf iv).toNat)
      case atStart => exact ⟨0, by omega, rfl, by simpa [idTo, upTo] using HO2.out, hb2⟩
      case round =>
        obtain ⟨i, hi, rfl, hown, hbl⟩ := hrel
        have HO := Lib.hid hown
        clear hown
        by_cases hlt : i < n
        · have hfx := HO.out.frozenAt i
          obtain ⟨z, hox⟩ : ∃ z, wr.cell? ⟨w.heap.size, i, none⟩ = some (.int .i64 z) :=
            ⟨_, own_get HO.out (List.getElem?_eq_getElem (show i < (idTo n i).length by rw [idTo_length (by omega)]; exact hlt))⟩
          have HS := Lib.hid (idTo_set hlt)
          go_wp2
          go_roundw
          case rel => exact ⟨i + 1, by omega, by go_num, by rw [← HS.out]; exact own_set HO.out _ _, hbl.setCell (by exact Nat.le_refl _) _⟩
          case measure => simp [intOf]; omega
        · obtain rfl : i = n := by omega
          have hfin : Hid (idTo i i = upTo i) := by show _ = _; simp [idTo]
          go_wp2
          rw [hfin.out] at HO
          clear hlt hi hb2 hz2 HO2 w2 hfin
          go_loopw [10] (fun kv wk => ∃ (m : Nat), m ≤ ys.length ∧ kv = .int .i64 ((m : Int) - 1) ∧ wk.ownsRow w.heap.size 3 1 (.slice (some ⟨w.heap.size, 0, none⟩) i i) i (ints (unword (ys.drop m) (upTo i))) ∧ Below w.heap.size w wk) (fun kv _ => ((intOf kv) + 1).toNat)
          case atStart => exact ⟨ys.length, by omega, rfl, by rw [List.drop_of_length_le (Nat.le_refl _)]; exact HO.out, hbl⟩
          case round =>
            obtain ⟨m, hm, rfl, hown, hbk⟩ := hrel
            have HK := Lib.hid hown
            clear hown
            cases m with
            | zero =>
              have hfin : Hid (ys.drop 0 = ys) := List.drop_zero
              have hlen : Hid ((unword ys (upTo i)).length = i) := by show _ = _; rw [unword_length, length_upTo]
              go_wp2
              go_ret2
              exact ⟨_, _, by rw [hlen.out]; rfl, Sl.of_own (by rw [← hfin.out]; exact HK.out), by rw [hlen.out]; exact Nat.le_refl _, hbk⟩
            | succ j =>
              rw [show ((j + 1 : Nat) : Int) - 1 = (j : Int) by omega]
              obtain ⟨b, o, rfl, hb⟩ := h.addr (by omega)
              have hlj : j < ys.length := by omega
              have hc := getD_cell (h.below hbk) hlj
              have hr : 1 ≤ ys.getD j 0 ∧ ys.getD j 0 < (i : Int) := HY.out _ (by rw [getD_get hlj]; exact List.getElem_mem hlj)
              have hun := unword_drop (q := upTo i) hlj
              have hlq : (unword (ys.drop (j + 1)) (upTo i)).length = i := by rw [unword_length, length_upTo]
              obtain ⟨y, hy⟩ : ∃ x, x = ys.getD j 0 := ⟨_, rfl⟩
              obtain ⟨q, hq⟩ : ∃ x, x = unword (ys.drop (j + 1)) (upTo i) := ⟨_, rfl⟩
              rw [← hy] at hc hr hun
              rw [← hq] at hun hlq HK
              rw [swp_at hr.1] at hun
              obtain ⟨u, hu⟩ : ∃ x, x = q.getD (y.toNat - 1) 0 := ⟨_, rfl⟩
              obtain ⟨v, hv⟩ : ∃ x, x = q.getD y.toNat 0 := ⟨_, rfl⟩
              have hcu := own_get HK.out (i := y.toNat - 1) (z := u) (by rw [hu, getD_get (by omega)]; exact List.getElem?_eq_getElem _)
              have hcv := own_get HK.out (i := y.toNat) (z := v) (by rw [hv, getD_get (by omega)]; exact List.getElem?_eq_getElem _)
              rw [← hu, ← hv] at hun
              have hfu := HK.out.frozenAt (y.toNat - 1)
              have hfv := HK.out.frozenAt y.toNat
              have HU := Lib.hid hun
              clear hu hv hun hy hq hlq
              have hne : ¬ y.toNat - 1 = y.toNat := by omega
              have hne' : ¬ y.toNat = y.toNat - 1 := by omega
              go_wp2
              go_region
              go_wp2
              go_roundw
              case rel => exact ⟨j, by omega, rfl, by rw [HU.out]; exact own_drew (own_set (own_set HK.out _ _) _ _), ((hbk.setCell (by exact Nat.le_refl _) _).setCell (by exact Nat.le_refl _) _).drew⟩
              case measure => simp [intOf]

end Go.Proofs.Ytmlmdklheiafpaa
