/-
  Plain: what the search leaves alone; its counts.
-/
import Derived.Test.YtdmpbbgcifodeaaFamV
namespace Go.Proofs.Ytdmpbbgcifodeaa

/-- What a call asks of its state (numbers alone). -/
def Num : Cl → St → Prop
  | .each _ _ _, s => s.steps ≤ 1000000 ∧ s.n ≤ s.steps + 1
  | .next _, s => s.steps ≤ 1000000 ∧ s.n ≤ s.steps
theorem run_num (E : Env) : ∀ (f : Nat) (c : Cl) (s : St), Num c s →
    (run E f c s).2.now = s.now ∧ (run E f c s).2.free.length = s.free.length ∧ ((run E f c s).1 = true → (run E f c s).2.steps ≤ 1000000) ∧ (run E f c s).2.steps ≤ 1000001 ∧ (run E f c s).2.n ≤ (run E f c s).2.steps + 1
  | 0, .each k a path, s, h => ⟨rfl, rfl, fun e => Bool.noConfusion (show false = true from e), by have := h.1; show s.steps ≤ _; omega, h.2⟩
  | 0, .next k, s, h => ⟨rfl, rfl, fun e => Bool.noConfusion (show false = true from e), by have := h.1; show s.steps ≤ _; omega, by have := h.2; show s.n ≤ s.steps + 1; omega⟩
  | f + 1, .each k a path, s, h => by
    obtain ⟨h1, h2⟩ := h
    unfold run
    by_cases c1 : s.free.getD (ix E.W a) false = false
    · rw [if_pos c1]; exact ⟨rfl, rfl, fun _ => h1, by show s.steps ≤ _; omega, h2⟩
    · rw [if_neg c1]
      by_cases c2 : 1000000 < s.steps + 1
      · rw [if_pos c2]
        exact ⟨rfl, rfl, fun e => Bool.noConfusion (show false = true from e), by show s.steps + 1 ≤ _; omega, by show s.n ≤ s.steps + 1 + 1; omega⟩
      · rw [if_neg c2]
        by_cases c3 : a = E.ends.getD k (0, 0)
        · rw [if_pos c3]
          obtain ⟨g1, g2, g3, g4, g5⟩ := run_num E f (.next (k + 1)) { s with steps := s.steps + 1, free := s.free.set (ix E.W a) false, now := s.now ++ [path] } ⟨by show s.steps + 1 ≤ _; omega, h2⟩
          refine ⟨?_, ?_, g3, g4, g5⟩
          · show (run _ f _ _).2.now.dropLast = s.now
            rw [g1]; simp
          · show ((run _ f _ _).2.free.set _ true).length = s.free.length
            rw [List.length_set, g2]; simp
        · rw [if_neg c3]
          obtain ⟨s2, hs2⟩ : ∃ s2 : St, s2 = { s with steps := s.steps + 1, free := s.free.set (ix E.W a) false } := ⟨_, rfl⟩
          have e1 : s2.now = s.now := by rw [hs2]
          have e2 : s2.free.length = s.free.length := by rw [hs2]; simp
          have e3 : s2.steps ≤ 1000000 := by rw [hs2]; show s.steps + 1 ≤ _; omega
          have e4 : s2.n ≤ s2.steps := by rw [hs2]; exact h2
          simp only [← hs2]
          obtain ⟨r1, hr1⟩ : ∃ r, r = (if a.1 < (E.ends.getD k (0, 0)).1 then run E f (.each k (a.1 + 1, a.2) (path ++ [82])) s2 else (true, s2)) := ⟨_, rfl⟩
          have hA : r1.2.now = s2.now ∧ r1.2.free.length = s2.free.length ∧ (r1.1 = true → r1.2.steps ≤ 1000000) ∧ r1.2.steps ≤ 1000001 ∧ r1.2.n ≤ r1.2.steps + 1 := by
            rw [hr1]
            split
            · exact run_num E f (.each k (a.1 + 1, a.2) (path ++ [82])) s2 ⟨e3, by omega⟩
            · exact ⟨rfl, rfl, fun _ => e3, by show s2.steps ≤ _; omega, by show s2.n ≤ s2.steps + 1; omega⟩
          rw [← hr1]
          have hB : ∀ r2 : Bool × St, r2 = (if r1.1 = true ∧ a.2 < (E.ends.getD k (0, 0)).2 then run E f (.each k (a.1, a.2 + 1) (path ++ [85])) r1.2 else r1) → r2.2.now = s2.now ∧ r2.2.free.length = s2.free.length ∧ (r2.1 = true → r2.2.steps ≤ 1000000) ∧ r2.2.steps ≤ 1000001 ∧ r2.2.n ≤ r2.2.steps + 1 := fun r2 hr2 => by
            rw [hr2]
            split
            · rename_i c4
              obtain ⟨g1, g2, g3, g4, g5⟩ := run_num E f (.each k (a.1, a.2 + 1) (path ++ [85])) r1.2 ⟨hA.2.2.1 c4.1, hA.2.2.2.2⟩
              exact ⟨g1.trans hA.1, g2.trans hA.2.1, g3, g4, g5⟩
            · exact hA
          obtain ⟨b1, b2, b3, b4, b5⟩ := hB _ rfl
          refine ⟨b1.trans e1, ?_, b3, b4, b5⟩
          show (List.set (St.free _) _ true).length = s.free.length
          rw [List.length_set, b2, e2]
  | f + 1, .next k, s, h => by
    obtain ⟨h1, h2⟩ := h
    unfold run
    by_cases c1 : k < E.starts.length
    · rw [if_pos c1]
      exact run_num E f (.each k (E.starts.getD k (0, 0)) []) s ⟨h1, by omega⟩
    · rw [if_neg c1]
      exact ⟨rfl, rfl, fun _ => h1, by show s.steps ≤ _; omega, by show s.n + 1 ≤ s.steps + 1; omega⟩
end Go.Proofs.Ytdmpbbgcifodeaa
