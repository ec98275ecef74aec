/-
  Plain: families of paths, as paths.family finds them; they keep apart.
-/
import Derived.Test.YtdmpbbgcifodeaaBase
namespace Go.Proofs.Ytdmpbbgcifodeaa

abbrev Pt := Int × Int
def stepP (p : Pt) (c : UInt8) : Pt := if c = 82 then (p.1 + 1, p.2) else (p.1, p.2 + 1)
/-- The points of a path; where it ends. -/
def ptsOf (p : Pt) : List UInt8 → List Pt
  | [] => [p]
  | c :: t => p :: ptsOf (stepP p c) t
def finOf (p : Pt) : List UInt8 → Pt
  | [] => p
  | c :: t => finOf (stepP p c) t
theorem fin_snoc (c : UInt8) : ∀ (s : List UInt8) (p : Pt), finOf p (s ++ [c]) = stepP (finOf p s) c
  | [], _ => rfl
  | d :: s, p => fin_snoc c s (stepP p d)
theorem pts_snoc (c : UInt8) : ∀ (s : List UInt8) (p : Pt), ptsOf p (s ++ [c]) = ptsOf p s ++ [stepP (finOf p s) c]
  | [], _ => rfl
  | d :: s, p => by
    show p :: ptsOf (stepP p d) (s ++ [c]) = (p :: ptsOf (stepP p d) s) ++ _
    rw [pts_snoc c s]; rfl
theorem pts_fin : ∀ (s : List UInt8) (p : Pt), ∃ l, ptsOf p s = l ++ [finOf p s]
  | [], p => ⟨[], rfl⟩
  | d :: s, p => by
    obtain ⟨l, h⟩ := pts_fin s (stepP p d)
    exact ⟨p :: l, by show p :: ptsOf (stepP p d) s = _; rw [h]; rfl⟩
theorem pts_len : ∀ (s : List UInt8) (p : Pt), (ptsOf p s).length = s.length + 1
  | [], _ => rfl
  | d :: s, p => by show (p :: ptsOf (stepP p d) s).length = _; simp [pts_len s]
theorem pts_take : ∀ (s : List UInt8) (p : Pt) (k : Nat), k ≤ s.length → (ptsOf p s).take (k + 1) = ptsOf p (s.take k)
  | [], p, k, h => by
    have : k = 0 := by simpa using h
    subst this; rfl
  | d :: s, p, 0, _ => by simp [ptsOf]
  | d :: s, p, k + 1, h => by
    have := pts_take s (stepP p d) k (by simpa using h)
    show (p :: ptsOf (stepP p d) s).take (k + 1 + 1) = ptsOf p (d :: s.take k)
    rw [List.take_succ_cons, this]; rfl
theorem pts_get {s : List UInt8} {p : Pt} {k : Nat} (h : k ≤ s.length) : (ptsOf p s)[k]? = some (finOf p (s.take k)) := by
  have h1 := pts_take s p k h
  obtain ⟨l, h2⟩ := pts_fin (s.take k) p
  rw [h2] at h1
  have hl : ((ptsOf p s).take (k + 1)).length = k + 1 := by rw [List.length_take, pts_len]; omega
  rw [h1] at hl
  have hlk : l.length = k := by simpa using hl
  have h3 : ((ptsOf p s).take (k + 1))[k]? = some (finOf p (s.take k)) := by
    rw [h1, List.getElem?_append_right (by omega)]; simp [hlk]
  rwa [List.getElem?_take_of_lt (by omega)] at h3

/-! ### the search -/
structure Env where
  W : Nat
  starts : List Pt
  ends : List Pt
  most : Nat
structure St where
  free : List Bool
  now : List (List UInt8)
  first : List (List UInt8)
  n : Nat
  steps : Nat
inductive Cl where
  | each (k : Nat) (at_ : Pt) (path : List UInt8)
  | next (k : Nat)
def ix (W : Nat) (p : Pt) : Nat := (p.2 * (W : Int) + p.1).toNat
def run (E : Env) : Nat → Cl → St → Bool × St
  | 0, _, s => (false, s)
  | f + 1, .each k a path, s =>
    if s.free.getD (ix E.W a) false = false then (true, s)
    else if 1000000 < s.steps + 1 then (false, { s with steps := s.steps + 1 })
    else if a = E.ends.getD k (0, 0) then
      let r := run E f (.next (k + 1)) { s with steps := s.steps + 1, free := s.free.set (ix E.W a) false, now := s.now ++ [path] }
      (r.1, { r.2 with now := r.2.now.dropLast, free := r.2.free.set (ix E.W a) true })
    else
      let r1 := if a.1 < (E.ends.getD k (0, 0)).1 then run E f (.each k (a.1 + 1, a.2) (path ++ [82])) { s with steps := s.steps + 1, free := s.free.set (ix E.W a) false } else (true, { s with steps := s.steps + 1, free := s.free.set (ix E.W a) false })
      let r2 := if r1.1 = true ∧ a.2 < (E.ends.getD k (0, 0)).2 then run E f (.each k (a.1, a.2 + 1) (path ++ [85])) r1.2 else r1
      (r2.1, { r2.2 with free := r2.2.free.set (ix E.W a) true })
  | f + 1, .next k, s =>
    if k < E.starts.length then run E f (.each k (E.starts.getD k (0, 0)) []) s
    else (decide (E.most = 0 ∨ s.n + 1 < E.most), { s with first := if s.n = 0 then s.now else s.first, n := s.n + 1 })
/-- With how much fuel a call goes. -/
def mu (E : Env) : Cl → Nat
  | .each k a _ => (E.starts.length - k) * 80 + 2 * (((E.ends.getD k (0, 0)).1 - a.1).toNat + ((E.ends.getD k (0, 0)).2 - a.2).toNat) + 1
  | .next k => (E.starts.length - k) * 80 + 60

/-! ### the one that stops at the first and the one that counts all -/
theorem run_mono (E : Env) : ∀ (f : Nat) (c : Cl) (s : St), s.n ≤ (run E f c s).2.n
  | 0, _, _ => Nat.le_refl _
  | f + 1, .each k a path, s => by
    unfold run
    split
    · exact Nat.le_refl _
    · split
      · exact Nat.le_refl _
      · split
        · exact run_mono E f (.next (k + 1)) { s with steps := s.steps + 1, free := s.free.set (ix E.W a) false, now := s.now ++ [path] }
        · have h1 : s.n ≤ (if a.1 < (E.ends.getD k (0, 0)).1 then run E f (.each k (a.1 + 1, a.2) (path ++ [82])) { s with steps := s.steps + 1, free := s.free.set (ix E.W a) false } else (true, { s with steps := s.steps + 1, free := s.free.set (ix E.W a) false })).2.n := by
            split
            · exact run_mono E f (.each k (a.1 + 1, a.2) (path ++ [82])) { s with steps := s.steps + 1, free := s.free.set (ix E.W a) false }
            · exact Nat.le_refl _
          generalize (if a.1 < (E.ends.getD k (0, 0)).1 then run E f (.each k (a.1 + 1, a.2) (path ++ [82])) { s with steps := s.steps + 1, free := s.free.set (ix E.W a) false } else (true, { s with steps := s.steps + 1, free := s.free.set (ix E.W a) false })) = r1 at h1
          show s.n ≤ (if r1.1 = true ∧ a.2 < (E.ends.getD k (0, 0)).2 then run E f (.each k (a.1, a.2 + 1) (path ++ [85])) r1.2 else r1).2.n
          split
          · exact Nat.le_trans h1 (run_mono E f _ _)
          · exact h1
  | f + 1, .next k, s => by
    unfold run
    split
    · exact run_mono E f _ _
    · exact Nat.le_succ _
/-- Till the first one is found, both do the same. -/
theorem run_both {W : Nat} {ss es : List Pt} : ∀ (f : Nat) (c : Cl) (s : St), s.n = 0 →
    ((run ⟨W, ss, es, 1⟩ f c s).2.n = 0 → run ⟨W, ss, es, 0⟩ f c s = run ⟨W, ss, es, 1⟩ f c s) ∧
    ((run ⟨W, ss, es, 1⟩ f c s).2.n ≠ 0 → (run ⟨W, ss, es, 0⟩ f c s).2.n ≠ 0 ∧ (run ⟨W, ss, es, 1⟩ f c s).1 = false)
  | 0, _, s, h => ⟨fun _ => rfl, fun e => absurd h e⟩
  | f + 1, .each k a path, s, h => by
    unfold run
    by_cases c1 : s.free.getD (ix W a) false = false
    · rw [if_pos c1, if_pos c1]
      exact ⟨fun _ => rfl, fun e => absurd h e⟩
    · rw [if_neg c1, if_neg c1]
      by_cases c2 : 1000000 < s.steps + 1
      · rw [if_pos c2, if_pos c2]
        exact ⟨fun _ => rfl, fun e => absurd h e⟩
      · rw [if_neg c2, if_neg c2]
        by_cases c3 : a = es.getD k (0, 0)
        · rw [if_pos c3, if_pos c3]
          obtain ⟨h1, h2⟩ := run_both (W := W) (ss := ss) (es := es) f (.next (k + 1)) { s with steps := s.steps + 1, free := s.free.set (ix W a) false, now := s.now ++ [path] } h
          refine ⟨fun e => ?_, fun e => ?_⟩
          · show (_, _) = (_, _)
            rw [h1 e]
          · exact h2 e
        · rw [if_neg c3, if_neg c3]
          obtain ⟨s2, hs2⟩ : ∃ s2 : St, s2 = { s with steps := s.steps + 1, free := s.free.set (ix W a) false } := ⟨_, rfl⟩
          have hn2 : s2.n = 0 := by rw [hs2]; exact h
          simp only [← hs2]
          obtain ⟨r1, hr1⟩ : ∃ r, r = (if a.1 < (es.getD k (0, 0)).1 then run ⟨W, ss, es, 1⟩ f (.each k (a.1 + 1, a.2) (path ++ [82])) s2 else (true, s2)) := ⟨_, rfl⟩
          obtain ⟨r0, hr0⟩ : ∃ r, r = (if a.1 < (es.getD k (0, 0)).1 then run ⟨W, ss, es, 0⟩ f (.each k (a.1 + 1, a.2) (path ++ [82])) s2 else (true, s2)) := ⟨_, rfl⟩
          have hA : (r1.2.n = 0 → r0 = r1) ∧ (r1.2.n ≠ 0 → r0.2.n ≠ 0 ∧ r1.1 = false) := by
            rw [hr1, hr0]
            split
            · exact run_both f _ s2 hn2
            · exact ⟨fun _ => rfl, fun e => absurd hn2 e⟩
          rw [← hr1, ← hr0]
          by_cases c4 : r1.2.n = 0
          · rw [hA.1 c4]
            by_cases c5 : r1.1 = true ∧ a.2 < (es.getD k (0, 0)).2
            · rw [if_pos c5, if_pos c5]
              obtain ⟨h1, h2⟩ := run_both (W := W) (ss := ss) (es := es) f (.each k (a.1, a.2 + 1) (path ++ [85])) r1.2 c4
              refine ⟨fun e => ?_, fun e => h2 e⟩
              show (_, _) = (_, _)
              rw [h1 e]
            · rw [if_neg c5, if_neg c5]
              exact ⟨fun _ => rfl, fun e => absurd c4 e⟩
          · obtain ⟨h1, h2⟩ := hA.2 c4
            have c5 : ¬ (r1.1 = true ∧ a.2 < (es.getD k (0, 0)).2) := fun hh => by rw [h2] at hh; exact absurd hh.1 (by decide)
            rw [if_neg c5]
            refine ⟨fun e => absurd e c4, fun _ => ⟨?_, h2⟩⟩
            show (if r0.1 = true ∧ a.2 < (es.getD k (0, 0)).2 then run ⟨W, ss, es, 0⟩ f (.each k (a.1, a.2 + 1) (path ++ [85])) r0.2 else r0).2.n ≠ 0
            split
            · have := run_mono ⟨W, ss, es, 0⟩ f (.each k (a.1, a.2 + 1) (path ++ [85])) r0.2
              omega
            · exact h1
  | f + 1, .next k, s, h => by
    unfold run
    by_cases c1 : k < ss.length
    · rw [if_pos c1, if_pos c1]
      exact run_both f _ s h
    · rw [if_neg c1, if_neg c1]
      refine ⟨fun e => ?_, fun _ => ⟨Nat.succ_ne_zero _, ?_⟩⟩
      · exact absurd e (Nat.succ_ne_zero _)
      · simp [h]
end Go.Proofs.Ytdmpbbgcifodeaa
