/-
  PartsFranklin: the law, walked.
-/
import Derived.Test.YtdmpbbgcifodeaaFrankW
namespace Go.Proofs.Ytdmpbbgcifodeaa
open Go.RowKit

theorem upA_back {p : List Int} {k : Nat} {e : Ending} {w : World} (h : Good p) (hr : IsRun p k) (hA : CaseA p k) (hf : FrRes (upA p) e w) : FrOut p true e w := by
  obtain ⟨h1, h2, _, _, _, h6, h7, h8⟩ := caseA h hr hA
  rcases hf with ⟨hn, _⟩ | ⟨_, hn, _⟩ | ⟨_, _, k', hk', hc⟩
  · exact absurd h1 hn
  · rw [hn] at h2; cases h2
  · obtain rfl := hk'.uniq h6
    rcases hc with ⟨c1, _⟩ | ⟨_, c2⟩ | ⟨_, c2, _⟩
    · exact absurd c1.1 (by have := h7.1; omega)
    · rwa [h8] at c2
    · exact absurd h7 c2

theorem upB_back {p : List Int} {k : Nat} {e : Ending} {w : World} (h : Good p) (hr : IsRun p k) (hB : CaseB p k) (hf : FrRes (upB p k) e w) : FrOut p true e w := by
  obtain ⟨h1, h2, _, h4, h5⟩ := caseB h hr hB
  rcases hf with ⟨hn, _⟩ | ⟨_, hn, _⟩ | ⟨_, _, k', hk', hc⟩
  · exact absurd h1 hn
  · rw [hn] at h2; cases h2
  · have hA := h4 k' hk'
    rcases hc with ⟨_, c2⟩ | ⟨c1, _⟩ | ⟨c1, _⟩
    · rwa [h5] at c2
    · exact absurd c1.1 (by have := hA.1; omega)
    · exact absurd hA c1

/-- What Franklin's does, as the law asks it. -/
inductive FrSays (p : List Int) (e : Ending) (w : World) : Prop
  | err (k : Int) (hk : k ≠ 0) (he : e = .returned (.tuple #[.slice none 0 0, .bool false, .int .i64 k]))
  | stays (hg : Good p) (hs : 2 * p.sum = p.length * (3 * p.length - 1) ∨ 2 * p.sum = p.length * (3 * p.length + 1)) (ho : FrOut p false e w)
  | moved (hg : Good p) (q : List Int) (hq : Good q) (hs : q.sum = p.sum) (hl : q.length + 1 = p.length ∨ q.length = p.length + 1) (hb : ∀ e w, FrRes q e w → FrOut p true e w) (ho : FrOut q true e w)

theorem FrRes.says {p : List Int} {e : Ending} {w : World} (h : FrRes p e w) : FrSays p e w := by
  rcases h with ⟨_, k, hk, he⟩ | ⟨hg, rfl, ho⟩ | ⟨hg, hp, k, hk, ⟨hA, ho⟩ | ⟨hB, ho⟩ | ⟨hA, hB, ho⟩⟩
  · exact .err k hk he
  · exact .stays hg (.inl (by simp)) ho
  · have h := caseA hg hk hA
    exact .moved hg (upA p) h.1 h.2.2.2.1 (.inl h.2.2.1) (fun e w hf => upA_back hg hk hA hf) ho
  · have h := caseB hg hk hB
    exact .moved hg (upB p k) h.1 h.2.2.1 (.inr h.2.1) (fun e w hf => upB_back hg hk hB hf) ho
  · exact .stays hg (caseC hk hA hB) ho

theorem frank32 {e : Ending} {w : World} (h : FrRes [3, 2] e w) : FrOut [3, 2] false e w := by
  have hg : Good [3, 2] := ⟨by decide, by decide, by decide⟩
  have hr : IsRun [3, 2] 2 := ⟨by decide, by decide, fun j h1 h2 => by obtain rfl : j = 1 := by omega
                                                                       rfl, .inl rfl⟩
  rcases h with ⟨hn, _⟩ | ⟨_, hn, _⟩ | ⟨_, _, k, hk, hc⟩
  · exact absurd hg hn
  · cases hn
  · obtain rfl := hk.uniq hr
    rcases hc with ⟨c, _⟩ | ⟨c, _⟩ | ⟨_, _, ho⟩
    · exact absurd c (by decide)
    · exact absurd c (by decide)
    · exact ho

theorem size_part {p : List Int} (h : Good p) : ∀ k, k ≤ p.length → -1000000000000 ≤ sumTo p k ∧ sumTo p k ≤ 1000000000000 := fun k _ => by
  have := sumTo_le h.part k
  have := h.sum
  omega

theorem pent_bound {m : Int} (h0 : 0 ≤ m) (h : m ≤ 40) : (0 ≤ m * (3 * m - 1) ∧ m * (3 * m - 1) ≤ 40 * 119) ∧ (0 ≤ m * (3 * m + 1) ∧ m * (3 * m + 1) ≤ 40 * 121) := by
  by_cases e : m = 0
  · subst e; decide
  · exact ⟨⟨Int.mul_nonneg h0 (by omega), Int.mul_le_mul h (by omega) (by omega) (by omega)⟩, ⟨Int.mul_nonneg h0 (by omega), Int.mul_le_mul h (by omega) (by omega) (by omega)⟩⟩

set_option maxRecDepth 100000 in
set_option maxHeartbeats 4000000 in
theorem franklin_law (A : Option Addr) (cap : Nat) (p : List Int) (w : World) (hcl : p.length ≤ 9223372036854775807) (h : Sl w w.heap.size A (ints p)) :
    Calls Try.prog 3 #[.slice A p.length cap] w fun e w' => e = .returned (.bool true) ∧ Below w.heap.size w w' := by
  have hB := Nat.le_refl w.heap.size
  go_enter Try.func3, Try.ntmps3
  go_wp2_with fail
  refine (franklin_any (some ⟨w.heap.size, 0, none⟩) 2 [3, 2] _ (by simp) (sl_lit w (ints [3, 2]) _ (by simp))).mono ?_
  rintro e w1 ⟨hf1, hb1⟩
  obtain ⟨A1, c1, rfl, hs1⟩ := frank32 hf1
  have hW1 : Below w.heap.size w w1 := below_call (below_lay (Below.refl _ _) hB _) hB hb1
  clear hb1 hf1
  go_wp2_with fail
  refine (same_b A1 (some ⟨w1.heap.size, 0, none⟩) c1 2 [3, 2] [3, 2] _ (by simp) (by simp) (hs1.keep (below_lay (Below.refl _ _) (Nat.le_refl _) _)) (sl_lit w1 (ints [3, 2]) _ (by simp))).mono ?_
  rintro e w2 ⟨rfl, hb2⟩
  have hW2 : Below w.heap.size w w2 := below_call (below_lay hW1 hB _) hB hb2
  clear hb2 hs1 hW1
  simp only [decide_true]
  go_wp2_with fail
  refine (franklin_any A cap p _ hcl (h.now hW2 hB)).mono ?_
  rintro e w3 ⟨hf3, hb3⟩
  have hW3 : Below w.heap.size w w3 := below_call hW2 hB hb3
  rcases hf3.says with ⟨k, hk, rfl⟩ | ⟨hg, hs, A3, c3, rfl, hs3⟩ | ⟨hg, q, hq, hs, hl, hb, A3, c3, rfl, hs3⟩
  · have hd : (k != 0) = true := by simpa using hk
    clear hf3 hb3 hk
    go_wp2
    go_ret
    exact ⟨rfl, hW3⟩
  · have HS := Lib.hid hs
    have HG := Lib.hid hg
    have hp40 := hg.part.len hg.sum
    clear hf3 hb3 hs hg
    go_wp2_with fail
    refine (size_any A cap p _ (by omega) (size_part HG.out) (h.now hW3 hB)).mono ?_
    rintro e w4 ⟨rfl, rfl⟩
    have hsum0 := (sumTo_le HG.out.part 0).1
    have hsum : 0 ≤ p.sum ∧ p.sum ≤ 40 := ⟨by simpa [sumTo] using hsum0, HG.out.sum⟩
    go_wp2_with fail
    refine (same_b A A3 cap c3 p p _ hcl hcl (h.now hW3 hB) hs3).mono ?_
    rintro e w5 ⟨rfl, hb5⟩
    have hW5 : Below w.heap.size w w5 := below_call hW3 hB hb5
    simp only [decide_true]
    clear hb5 hW3 hs3 hsum0
    have hpb := pent_bound (m := (p.length : Int)) (by omega) (by omega)
    obtain ⟨⟨b1, b2⟩, b3, b4⟩ := hpb
    have hss := HS.out
    obtain ⟨s, hs'⟩ : ∃ s, s = p.sum := ⟨_, rfl⟩
    rw [← hs'] at hsum hss ⊢
    clear hs'
    by_cases h1 : 2 * s = (p.length : Int) * (3 * (p.length : Int) - 1)
    · have hd1 : (2 * s == (p.length : Int) * (3 * (p.length : Int) - 1)) = true := by simpa using h1
      clear hss h1
      go_wp2
      go_ret
      exact ⟨rfl, hW5⟩
    · have hd1 : (2 * s == (p.length : Int) * (3 * (p.length : Int) - 1)) = false := by simpa using h1
      have hd2 : (2 * s == (p.length : Int) * (3 * (p.length : Int) + 1)) = true := by
        rcases hss with hss | hss
        · exact absurd hss h1
        · simpa using hss
      clear hss h1
      go_wp2
      go_ret
      exact ⟨rfl, hW5⟩
  · have HQ := Lib.hid hq
    have HG := Lib.hid hg
    have HB := Lib.hid hb
    have HSUM := Lib.hid hs
    have hp40 := hg.part.len hg.sum
    have hq40 := hq.part.len hq.sum
    have HLL := Lib.hid hl
    clear hf3 hb3 hs hg hq hb hl
    go_wp2_with fail
    refine (franklin_any A3 c3 q _ (by omega) hs3).mono ?_
    rintro e w4 ⟨hf4, hb4⟩
    obtain ⟨A4, c4, rfl, hs4⟩ := HB.out _ _ hf4
    have hW4 : Below w.heap.size w w4 := below_call hW3 hB hb4
    have hs3 := hs3.keep hb4
    clear hf4 hb4 hW3
    go_wp2_with fail
    refine (same_b A4 A c4 cap p p _ hcl hcl hs4 (h.now hW4 hB)).mono ?_
    rintro e w5 ⟨rfl, hb5⟩
    have hW5 : Below w.heap.size w w5 := below_call hW4 hB hb5
    have hs3 := hs3.keep hb5
    simp only [decide_true]
    clear hb5 hW4 hs4
    go_wp2_with fail
    refine (size_any A3 c3 q _ (by omega) (size_part HQ.out) hs3).mono ?_
    rintro e w6 ⟨rfl, rfl⟩
    rw [HSUM.out]
    go_wp2_with fail
    refine (size_any A cap p _ (by omega) (size_part HG.out) (h.now hW5 hB)).mono ?_
    rintro e w7 ⟨rfl, rfl⟩
    clear hs3
    rcases HLL.out with hl | hl
    · have hd1 : ((q.length : Int) - (p.length : Int) == 1) = false := by simp; omega
      have hd2 : ((p.length : Int) - (q.length : Int) == 1) = true := by simp; omega
      clear hl
      go_wp2
      go_ret
      exact ⟨rfl, hW5⟩
    · have hd1 : ((q.length : Int) - (p.length : Int) == 1) = true := by simp; omega
      clear hl
      go_wp2
      go_ret
      exact ⟨rfl, hW5⟩

end Go.Proofs.Ytdmpbbgcifodeaa
