/-
  ferlaw.Same over pairs.
-/
import Derived.Test.YtdmpbbgcifodeaaPaiL
import Derived.Test.YtdmpbbgcifodeaaTreM
import Derived.Laws.StructEq
import Derived.BigQuiet
import Derived.BigRegion
namespace Go.Proofs.Ytdmpbbgcifodeaa
open Go.RowKit

theorem pair_get {m : List (Int × Int)} {i : Nat} (h : i < m.length) : m[i] = ((m.getD i (0, 0)).1, (m.getD i (0, 0)).2) := by rw [getD_get h]
theorem ptake_snoc {m : List (Int × Int)} {i : Nat} (h : i < m.length) : m.take (i + 1) = m.take i ++ [((m.getD i (0, 0)).1, (m.getD i (0, 0)).2)] := by
  rw [List.take_add_one, List.getElem?_eq_getElem h, pair_get h]; rfl
set_option maxRecDepth 100000 in
set_option maxHeartbeats 1000000 in
theorem psame_any (A A' : Option Addr) (cap cap' : Nat) (xs ys : List (Int × Int)) (w : World) (hx : xs.length ≤ 9223372036854775807) (hy : ys.length ≤ 9223372036854775807)
    (h : Sl w w.heap.size A (pcells xs)) (h' : Sl w w.heap.size A' (pcells ys)) :
    Calls Try.prog 54 #[.slice A xs.length cap, .slice A' ys.length cap'] w fun e w' => e = .returned (.bool (decide (xs = ys))) ∧ ∃ n, w' = w.drewN n := by
  by_cases hl : xs.length = ys.length
  · have HL := Lib.hid hl
    have hd0 : (((xs.length : Nat) : Int) != ((ys.length : Nat) : Int)) = false := by simp [hl]
    clear hl
    go_enter Try.func54, Try.ntmps54
    go_wp2
    go_loopw [13] (fun iv wr => ∃ (i : Nat), i ≤ xs.length ∧ iv = .int .i64 i ∧ xs.take i = ys.take i ∧ ∃ d, wr = w.drewN d) (fun iv _ => xs.length - (intOf iv).toNat)
    case atStart => exact ⟨0, by omega, rfl, by simp, 0, rfl⟩
    case round =>
      obtain ⟨i, hi, rfl, heq, d, rfl⟩ := hrel
      have HE := Lib.hid heq
      clear heq
      by_cases hlt : i < xs.length
      · have hlt' : i < ys.length := by have := HL.out; omega
        obtain ⟨b, o, rfl, hb⟩ := psl_addr h (by omega)
        obtain ⟨b', o', rfl, hb'⟩ := psl_addr h' (by omega)
        obtain ⟨hc1, hc2⟩ := psl_at h hlt
        obtain ⟨hc3, hc4⟩ := psl_at h' hlt'
        have hts := ptake_snoc hlt
        have hts' := ptake_snoc hlt'
        obtain ⟨y, hye⟩ : ∃ y, y = (xs.getD i (0, 0)).1 := ⟨_, rfl⟩
        obtain ⟨z, hze⟩ : ∃ y, y = (xs.getD i (0, 0)).2 := ⟨_, rfl⟩
        obtain ⟨y', hye'⟩ : ∃ y, y = (ys.getD i (0, 0)).1 := ⟨_, rfl⟩
        obtain ⟨z', hze'⟩ : ∃ y, y = (ys.getD i (0, 0)).2 := ⟨_, rfl⟩
        rw [← hye] at hc1 hts
        rw [← hze] at hc2 hts
        rw [← hye'] at hc3 hts'
        rw [← hze'] at hc4 hts'
        have HT := Lib.hid hts
        have HT' := Lib.hid hts'
        have hdl : decide (i < xs.length) = true := by simpa using hlt
        clear hye hze hye' hze' hts hts'
        by_cases hxy : y = y' ∧ z = z'
        · obtain ⟨rfl, rfl⟩ := hxy
          go_wp2
          go_quiet (fail)
          go_wp2
          go_roundw
          case rel =>
            refine ⟨i + 1, by omega, by go_num, ?_, _, rfl⟩
            rw [HT.out, HT'.out, HE.out]
          case measure => simp [intOf]; omega
        · have hfin : Hid (decide (xs = ys) = false) := by
            show _ = _
            rw [decide_eq_false_iff_not]
            intro e
            subst e
            have := HT.out.symm.trans HT'.out
            simp at this
            exact hxy this
          by_cases hyy : y = y'
          · have hzz : ¬ z = z' := fun e => hxy ⟨hyy, e⟩
            have d1 : (y == y') = true := by simpa using hyy
            have d2 : (z == z') = false := by simpa using hzz
            clear hxy hyy hzz
            go_wp2
            go_quiet (fail)
            go_wp2
            go_ret
            rw [hfin.out]
            exact ⟨rfl, _, World.drewN_drewN ..⟩
          · have d1 : (y == y') = false := by simpa using hyy
            clear hxy hyy
            go_wp2
            go_quiet (fail)
            go_wp2
            go_ret
            rw [hfin.out]
            exact ⟨rfl, _, World.drewN_drewN ..⟩
      · have hdl : decide (i < xs.length) = false := by simpa using hlt
        have hfin : Hid (decide (xs = ys) = true) := by
          show _ = _
          rw [decide_eq_true_iff]
          have := HE.out
          rwa [List.take_of_length_le (by omega), List.take_of_length_le (by have := HL.out; omega)] at this
        go_wp2
        go_ret
        rw [hfin.out]
        exact ⟨rfl, _, rfl⟩
  · have hd0 : (((xs.length : Nat) : Int) != ((ys.length : Nat) : Int)) = true := by simpa using (by omega : ¬ (xs.length : Int) = ys.length)
    have hfin : Hid (decide (xs = ys) = false) := by
      show _ = _
      rw [decide_eq_false_iff_not]
      intro e
      exact hl (by rw [e])
    clear hl
    go_enter Try.func54, Try.ntmps54
    go_wp2
    go_ret
    rw [hfin.out]
    exact ⟨rfl, 0, rfl⟩
end Go.Proofs.Ytdmpbbgcifodeaa
