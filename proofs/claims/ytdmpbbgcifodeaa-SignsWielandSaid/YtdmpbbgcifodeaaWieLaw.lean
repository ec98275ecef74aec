/-
  SignsWieland: the law, walked.
-/
import Derived.Test.YtdmpbbgcifodeaaWieL
import Derived.Test.YtdmpbbgcifodeaaGyrW
namespace Go.Proofs.Ytdmpbbgcifodeaa
open Go.RowKit

theorem ok_box : SignOk [[1]] := by
  refine ⟨by decide, ⟨⟨rfl, by decide⟩, by decide, fun i j hi hj => ?_, fun i hi => ?_, fun i j hi hj => ?_, fun j hj => ?_⟩⟩
  · match i, j, hi, hj with
    | 0, 0, _, _ => decide
    | 0, 1, _, _ => decide
    | i + 1, _, hi, _ => exact absurd hi (by simp)
    | 0, j + 2, _, hj => exact absurd hj (by simp)
  · match i, hi with
    | 0, _ => decide
    | i + 1, hi => exact absurd hi (by simp)
  · match i, j, hi, hj with
    | 0, 0, _, _ => decide
    | 1, 0, _, _ => decide
    | i + 2, _, hi, _ => exact absurd hi (by simp)
    | 0, j + 1, _, hj => exact absurd hj (by simp)
    | 1, j + 1, _, hj => exact absurd hj (by simp)
  · match j, hj with
    | 0, _ => decide
    | j + 1, hj => exact absurd hj (by simp)
def litB (w : World) : World := (w.alloc (.cells #[.int .i64 1] 3)).alloc (.cells #[.slice (some ⟨w.heap.size, 0, none⟩) 1 1] 22)
theorem litB_sr (w : World) : SR (litB w) (litB w).heap.size (some ⟨w.heap.size + 1, 0, none⟩) [[1]] := by
  have a1 : (w.alloc (.cells #[.int .i64 1] 3)).heap.size = w.heap.size + 1 := by simp
  have a2 : (litB w).heap.size = w.heap.size + 2 := by simp [litB]
  have h0 := heap_alloc_new w (.cells #[.int .i64 1] 3)
  have h1 := heap_alloc_new (w.alloc (.cells #[.int .i64 1] 3)) (.cells #[.slice (some ⟨w.heap.size, 0, none⟩) 1 1] 22)
  rw [a1] at h1
  have h0' : (litB w).heap[w.heap.size]? = some (.cells #[.int .i64 1] 3) := (heap_alloc_old _ _ (by omega)).trans h0
  refine ⟨[.slice (some ⟨w.heap.size, 0, none⟩) 1 1], rfl, fun _ => ⟨_, 0, rfl, by omega, fun j u hu => ?_⟩, fun r hr => ?_⟩
  · rw [Nat.zero_add, cell_of_row (litB w) (w.heap.size + 1) j _ _ _ h1]; simpa using hu
  · match r, hr with
    | 0, _ => exact ⟨some ⟨w.heap.size, 0, none⟩, 1, rfl, fun _ => ⟨_, 0, rfl, by omega, fun j u hu => by rw [Nat.zero_add, cell_of_row (litB w) w.heap.size j _ _ _ h0']; simpa [ints] using hu⟩, by decide⟩
    | r + 1, hr => exact absurd hr (by simp)
theorem litB_below (w : World) : Below w.heap.size w (litB w) := ((Below.refl _ _).alloc (Nat.le_refl _) _).alloc (by simp) _

set_option maxRecDepth 100000 in
set_option maxHeartbeats 8000000 in
theorem wieland_law (A : Option Addr) (cap : Nat) (m : List (List Int)) (w : World) (hcl : m.length ≤ 9223372036854775807) (h : SR w w.heap.size A m) :
    Calls Try.prog 5 #[.slice A m.length cap] w fun e w' => e = .returned (.bool true) ∧ Below w.heap.size w w' := by
  have hB := Nat.le_refl w.heap.size
  go_enter Try.func5, Try.ntmps5
  go_wp2_with (first | (go_at_call 20; refine (linksF_any (some ⟨w.heap.size + 1, 0, none⟩) 1 [[1]] (litB w) (by simp) (litB_sr w)).mono ?_) | fail)
  rintro e w1 ⟨ho, hb1⟩
  have hW1 : Below w.heap.size w w1 := below_call (litB_below w) hB hb1
  rcases ho with ⟨_, A1, c1, f1, he, hf1, hs1⟩ | ⟨hno, _⟩
  · have he1 : e = .returned (.tuple #[.slice A1 2 c1, .int .i64 0]) := he
    have hs1' : Sl w1 w1.heap.size A1 (ints [1, 0]) := by rw [← wie_one hf1 ok_box.2]; exact hs1
    clear he hf1 hs1 hb1
    subst he1
    go_wp2_with (first | (go_at_call 14; refine (same_b A1 (some ⟨w1.heap.size, 0, none⟩) c1 2 [1, 0] [1, 0] _ (by simp) (by simp) (hs1'.keep (below_lay (Below.refl _ _) (Nat.le_refl _) _)) (sl_lit w1 (ints [1, 0]) _ (by simp))).mono ?_) | fail)
    rintro e w2 rfl hb2
    have hW2 : Below w.heap.size w w2 := (hW1.alloc hW1.size _).trans (hb2.mono (by have := hW1.size; omega))
    clear hb2 hW1 hs1'
    go_wp2_with (first | (go_at_call 20; refine (linksF_any A cap m w2 hcl (h.now hW2 hB)).mono ?_) | fail)
    rintro e w3 ⟨ho3, hb3⟩
    have hW3 : Below w.heap.size w w3 := below_call hW2 hB hb3
    clear hb3 hW2
    rcases ho3 with ⟨hok, A3, c3, f3, rfl, hf3, hs3⟩ | ⟨hno, rfl⟩
    · have h7 := hok.1
      have hp := hok.2.pos
      have HOK := Lib.hid hok
      have HF3 := Lib.hid hf3
      clear hok hf3
      go_wp2_with (first | (go_at_call 21; refine (gyrate_any A cap m w3 hcl (h.now hW3 hB)).mono ?_) | fail)
      rintro e w4 ⟨ho4, hb4⟩
      have hW4 : Below w.heap.size w w4 := below_call hW3 hB hb4
      have hs4 := hs3.keep hb4
      clear hb4 hW3 hs3
      rcases ho4 with ⟨_, A4, c4, rfl, hsr⟩ | ⟨hno, _⟩
      · have hgl : (gyrM m).length = m.length := matOf_length _ _
        have hgs : SignOk (gyrM m) := ⟨by rw [hgl]; exact h7, by rw [hgl]; exact gyrM_sign HOK.out.2⟩
        have hlk := linksF_any A4 c4 (gyrM m) w4 (by rw [hgl]; exact hcl) hsr
        rw [hgl] at hlk
        have HLK := Lib.hid hlk
        clear hlk
        go_wp2_with (first | (go_at_call 20; refine HLK.out.mono ?_) | fail)
        rintro e w5 ⟨ho5, hb5⟩
        have hW5 : Below w.heap.size w w5 := below_call hW4 hB hb5
        have hs5 := hs4.keep hb5
        clear hb5 hW4 hs4 HLK
        rcases ho5 with ⟨_, A5, c5, f5, he5, hf5, hs6⟩ | ⟨hno, _⟩
        · rw [hgl] at he5 hf5 hs6
          subst he5
          have hall := fun i hi => wie_all HOK.out.2 HF3.out hf5 (i := i) hi
          obtain ⟨n, hn⟩ : ∃ n, n = m.length := ⟨_, rfl⟩
          rw [← hn] at hs5 hs6 hall h7 hp ⊢
          obtain ⟨n2, hn2'⟩ : ∃ k, k = 2 * n := ⟨_, rfl⟩
          have hn2 : 2 * (n : Int) = (n2 : Int) := by omega
          rw [hn2] at hall
          rw [← hn2'] at hs5 hs6 hall ⊢
          have HALL := Lib.hid hall
          have HS5 := Lib.hid hs5
          have HS6 := Lib.hid hs6
          have HW5 := Lib.hid hW5
          have HN := Lib.hid hn
          have hsm : n2 ≤ 14 := by omega
          have hp2 : 2 ≤ n2 := by omega
          clear hf5 hall hs5 hs6 hW5 hgs hgl hsr HF3 HOK hn hn2'
          go_wp2
          go_loopw [81] (fun iv wz => ∃ i : Nat, i ≤ n2 ∧ iv = .int .i64 i ∧ Below w5.heap.size w5 wz) (fun iv _ => n2 - (intOf iv).toNat)
          case atStart => exact ⟨0, Nat.zero_le _, rfl, Below.refl _ _⟩
          case round =>
            obtain ⟨i, hi, rfl, hb⟩ := hrel
            have HB := Lib.hid hb
            clear hb
            by_cases hin : i < n2
            · have di : decide (i < n2) = true := decide_eq_true hin
              have di2 : decide ((i : Int) < (n2 : Int)) = true := decide_eq_true (by omega)
              obtain ⟨x, a, b, e1, e2, e3, e4, e5, e6, e7, e8⟩ := HALL.out i hin
              have q5 := HS5.out.keep HB.out
              have q6 := HS6.out.keep HB.out
              obtain ⟨b5, o5, rfl, _⟩ := q5.addr (by rw [tab_length]; omega)
              obtain ⟨b6, o6, rfl, _⟩ := q6.addr (by rw [tab_length]; omega)
              have k1 := getD_cell q5 (k := i) (by rw [tab_length]; exact hin)
              have k2 := getD_cell q5 (k := x) (by rw [tab_length]; exact e2)
              have k3 := getD_cell q6 (k := a) (by rw [tab_length]; exact e6)
              rw [tab_getD hin, e1] at k1
              rw [tab_getD e2, e4] at k2
              rw [tab_getD e6, e7] at k3
              have d1 : decide ((x : Int) < 0) = false := decide_eq_false (by omega)
              have d2 : decide ((n2 : Int) ≤ (x : Int)) = false := decide_eq_false (by omega)
              have d2' : decide (n2 ≤ x) = false := decide_eq_false (by omega)
              have d3 : ((x : Int) == (i : Int)) = false := by simp; omega
              have w1' : IntKind.i64.wrap ((i : Int) + (n2 : Int)) = (i : Int) + n2 := IntWalk.i64_in _ (by omega)
              have w2' : IntKind.i64.wrap ((i : Int) + (n2 : Int) - 1) = (i : Int) + n2 - 1 := IntWalk.i64_in _ (by omega)
              have w3' : IntKind.i64.wrap ((x : Int) + (n2 : Int)) = (x : Int) + n2 := IntWalk.i64_in _ (by omega)
              have w4' : IntKind.i64.wrap ((x : Int) + (n2 : Int) - 1) = (x : Int) + n2 - 1 := IntWalk.i64_in _ (by omega)
              have t5 : ((i : Int) + (n2 : Int) - 1).tmod (n2 : Int) = a := by rw [Int.tmod_eq_emod_of_nonneg (by omega)]; exact e5
              have t8 : ((x : Int) + (n2 : Int) - 1).tmod (n2 : Int) = b := by rw [Int.tmod_eq_emod_of_nonneg (by omega)]; exact e8
              have hz0 : ((n2 : Int) == 0) = false := by simp; omega
              have hz1 : (n2 : Int) ≠ 0 := by omega
              clear q5 q6 e1 e4 e7
              go_upto_region 15 with fail
              go_quiet (fail)
              go_wp2
              go_roundw
              case rel => exact ⟨i + 1, by omega, by go_num, below_drewN HB.out _⟩
              case measure => simp [intOf]; omega
            · have di : decide (i < n2) = false := decide_eq_false hin
              have di2 : decide ((i : Int) < (n2 : Int)) = false := decide_eq_false (by omega)
              go_wp2
              go_ret
              exact ⟨rfl, HW5.out.trans (HB.out.mono HW5.out.size)⟩
        · exact absurd hgs hno
      · exact absurd HOK.out hno
    · go_wp2_with (first | (go_at_call 21; refine (gyrate_any A cap m w3 hcl (h.now hW3 hB)).mono ?_) | fail)
      rintro e w4 ⟨ho4, hb4⟩
      have hW4 : Below w.heap.size w w4 := below_call hW3 hB hb4
      clear hb4 hW3
      rcases ho4 with ⟨hok, _⟩ | ⟨_, rfl⟩
      · exact absurd hok hno
      · clear hno h
        go_wp2
        go_ret
        exact ⟨rfl, hW4⟩
  · exact absurd ok_box hno
end Go.Proofs.Ytdmpbbgcifodeaa
