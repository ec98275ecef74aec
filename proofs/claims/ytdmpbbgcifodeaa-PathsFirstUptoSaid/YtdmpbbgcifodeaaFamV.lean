/-
  Plain: what the search finds keeps apart.
-/
import Derived.Test.YtdmpbbgcifodeaaFamM
namespace Go.Proofs.Ytdmpbbgcifodeaa

def InG (W H : Nat) (p : Pt) : Prop := 0 ≤ p.1 ∧ 0 ≤ p.2 ∧ p.1 < (W : Int) ∧ p.2 < (H : Int)
theorem ix_eq {W H : Nat} {p : Pt} (h : InG W H p) : ((ix W p : Nat) : Int) = p.2 * (W : Int) + p.1 := by
  unfold ix
  have : 0 ≤ p.2 * (W : Int) := Int.mul_nonneg h.2.1 (by omega)
  rw [Int.toNat_of_nonneg (by have := h.1; omega)]
theorem ix_lt {W H : Nat} {p : Pt} (h : InG W H p) : ix W p < W * H := by
  have e := ix_eq h
  obtain ⟨h1, h2, h3, h4⟩ := h
  have h5 : p.2 * (W : Int) ≤ ((H : Int) - 1) * (W : Int) := Int.mul_le_mul_of_nonneg_right (by omega) (by omega)
  have h6 : ((H : Int) - 1) * (W : Int) = (W : Int) * (H : Int) - (W : Int) := by rw [Int.sub_mul, Int.one_mul, Int.mul_comm]
  have h7 : ((W * H : Nat) : Int) = (W : Int) * (H : Int) := by simp
  omega
theorem ix_inj {W H : Nat} {p q : Pt} (h : InG W H p) (h' : InG W H q) (e : ix W p = ix W q) : p = q := by
  have e1 := ix_eq h
  have e2 := ix_eq h'
  rw [e] at e1
  have e3 : p.2 * (W : Int) + p.1 = q.2 * (W : Int) + q.1 := by omega
  obtain ⟨h1, h2, h3, h4⟩ := h
  obtain ⟨g1, g2, g3, g4⟩ := h'
  have key : ∀ a b : Int, a < b → a * (W : Int) + (W : Int) ≤ b * (W : Int) := fun a b hab => by
    have := Int.mul_le_mul_of_nonneg_right (show a + 1 ≤ b by omega) (show (0 : Int) ≤ (W : Int) by omega)
    rw [Int.add_mul, Int.one_mul] at this
    exact this
  have hy : p.2 = q.2 := by
    rcases Int.lt_trichotomy p.2 q.2 with c | c | c
    · have := key _ _ c; omega
    · exact c
    · have := key _ _ c; omega
  rw [hy] at e3
  exact Prod.ext (by omega) hy

def allPts (ss : List Pt) (l : List (List UInt8)) : List Pt := (List.range l.length).flatMap (fun j => ptsOf (ss.getD j (0, 0)) (l.getD j []))
theorem all_snoc (ss : List Pt) (l : List (List UInt8)) (x : List UInt8) : allPts ss (l ++ [x]) = allPts ss l ++ ptsOf (ss.getD l.length (0, 0)) x := by
  unfold allPts
  rw [List.length_append, List.length_singleton, List.range_succ, List.flatMap_append]
  congr 1
  · rw [List.flatMap_def, List.flatMap_def]
    congr 1
    apply List.map_congr_left
    intro j hj
    have := List.mem_range.1 hj
    rw [List.getD_eq_getElem?_getD (l := l ++ [x]), List.getElem?_append_left this, ← List.getD_eq_getElem?_getD]
  · simp
/-- A family that keeps apart. -/
def Fam (ss es : List Pt) (W H : Nat) (bar : List Pt) (l : List (List UInt8)) : Prop :=
  l.length = ss.length ∧ (∀ j, j < l.length → (∀ c ∈ l.getD j [], c = 82 ∨ c = 85) ∧ finOf (ss.getD j (0, 0)) (l.getD j []) = es.getD j (0, 0)) ∧ (allPts ss l).Nodup ∧ ∀ p ∈ allPts ss l, InG W H p ∧ p ∉ bar
structure Inv (ss es : List Pt) (W H : Nat) (bar : List Pt) (k : Nat) (Q : List Pt) (s : St) : Prop where
  now : s.now.length = k
  ok : ∀ j, j < k → (∀ c ∈ s.now.getD j [], c = 82 ∨ c = 85) ∧ finOf (ss.getD j (0, 0)) (s.now.getD j []) = es.getD j (0, 0)
  nd : Q.Nodup
  inn : ∀ p ∈ Q, InG W H p ∧ p ∉ bar
  len : s.free.length = W * H
  free : ∀ p, InG W H p → (s.free.getD (ix W p) false = true ↔ p ∉ bar ∧ p ∉ Q)
  fd : s.n ≠ 0 → Fam ss es W H bar s.first
def Pre (ss es : List Pt) (W H : Nat) (bar : List Pt) : Cl → List Pt → St → Prop
  | .each k a path, Q, s => k < ss.length ∧ Inv ss es W H bar k Q s ∧ (∃ R, ptsOf (ss.getD k (0, 0)) path = R ++ [a] ∧ Q = allPts ss s.now ++ R) ∧ (∀ c ∈ path, c = 82 ∨ c = 85) ∧ InG W H a
  | .next k, Q, s => k ≤ ss.length ∧ Inv ss es W H bar k Q s ∧ Q = allPts ss s.now
theorem set_back {l : List Bool} {i : Nat} (h : l.getD i false = true) : (l.set i false).set i true = l := by
  have hi : i < l.length := by
    by_cases c : i < l.length
    · exact c
    · rw [List.getD_eq_getElem?_getD, List.getElem?_eq_none (by omega)] at h; cases h
  rw [List.set_set]
  rw [getD_get hi] at h
  rw [← h, List.set_getElem_self]
theorem free_set {W H : Nat} {l : List Bool} {a p : Pt} (ha : InG W H a) (hp : InG W H p) (hl : l.length = W * H) : (l.set (ix W a) false).getD (ix W p) false = true ↔ l.getD (ix W p) false = true ∧ p ≠ a := by
  have h1 := ix_lt ha
  have h2 := ix_lt hp
  by_cases e : p = a
  · subst e
    rw [List.getD_eq_getElem?_getD, List.getElem?_set_self (by omega)]
    simp
  · have hne : ix W a ≠ ix W p := fun e2 => e (ix_inj ha hp e2).symm
    rw [List.getD_eq_getElem?_getD, List.getElem?_set_ne hne, ← List.getD_eq_getElem?_getD]
    exact ⟨fun h => ⟨h, e⟩, fun h => h.1⟩
theorem fin_of_pts {p a : Pt} {s : List UInt8} {R : List Pt} (h : ptsOf p s = R ++ [a]) : finOf p s = a := by
  obtain ⟨l, h2⟩ := pts_fin s p
  rw [h2] at h
  have := List.append_inj_right' h rfl
  simpa using this

theorem run_ok {ss es : List Pt} {W H : Nat} {bar : List Pt} {most : Nat} (hs : ∀ p ∈ ss, InG W H p) (he : ∀ p ∈ es, InG W H p) (hl : ss.length = es.length) : ∀ (f : Nat) (c : Cl) (s : St) (Q : List Pt), Pre ss es W H bar c Q s →
    (run ⟨W, ss, es, most⟩ f c s).2.now = s.now ∧ (run ⟨W, ss, es, most⟩ f c s).2.free = s.free ∧ ((run ⟨W, ss, es, most⟩ f c s).2.n ≠ 0 → Fam ss es W H bar (run ⟨W, ss, es, most⟩ f c s).2.first)
  | 0, .each k a path, s, Q, h => ⟨rfl, rfl, h.2.1.fd⟩
  | 0, .next k, s, Q, h => ⟨rfl, rfl, h.2.1.fd⟩
  | f + 1, .each k a path, s, Q, h => by
    obtain ⟨hk, hi, ⟨R, hR, hQ⟩, hlt, ha⟩ := h
    unfold run
    by_cases c1 : s.free.getD (ix W a) false = false
    · rw [if_pos c1]; exact ⟨rfl, rfl, hi.fd⟩
    · have c1t : s.free.getD (ix W a) false = true := by simpa using c1
      rw [if_neg c1]
      by_cases c2 : 1000000 < s.steps + 1
      · rw [if_pos c2]; exact ⟨rfl, rfl, hi.fd⟩
      · rw [if_neg c2]
        have hfree := (hi.free a ha).1 c1t
        have hback := set_back c1t
        have hnd : (Q ++ [a]).Nodup := by
          rw [List.nodup_append]
          refine ⟨hi.nd, List.pairwise_singleton _ _, fun x hx y hy => ?_⟩
          rw [List.mem_singleton] at hy
          intro e
          exact hfree.2 (by rw [← hy, ← e]; exact hx)
        have hinn : ∀ p ∈ Q ++ [a], InG W H p ∧ p ∉ bar := fun p hp => by
          rcases List.mem_append.1 hp with g | g
          · exact hi.inn p g
          · rw [List.mem_singleton] at g
            rw [g]; exact ⟨ha, hfree.1⟩
        have hfr : ∀ p, InG W H p → ((s.free.set (ix W a) false).getD (ix W p) false = true ↔ p ∉ bar ∧ p ∉ Q ++ [a]) := fun p hp => by
          rw [free_set ha hp hi.len, hi.free p hp, List.mem_append, List.mem_singleton]
          constructor
          · rintro ⟨⟨g1, g2⟩, g3⟩
            exact ⟨g1, fun g => g.elim g2 g3⟩
          · rintro ⟨g1, g2⟩
            exact ⟨⟨g1, fun g => g2 (.inl g)⟩, fun g => g2 (.inr g)⟩
        have hend : InG W H (es.getD k (0, 0)) := by
          have hke : k < es.length := by omega
          rw [getD_get hke]; exact he _ (List.getElem_mem hke)
        by_cases c3 : a = es.getD k (0, 0)
        · rw [if_pos c3]
          obtain ⟨g1, g2, g3⟩ := run_ok (most := most) hs he hl f (.next (k + 1)) { s with steps := s.steps + 1, free := s.free.set (ix W a) false, now := s.now ++ [path] } (Q ++ [a])
            ⟨by omega, ⟨by simp [hi.now], fun j hj => by
              by_cases e : j < k
              · have : (s.now ++ [path]).getD j [] = s.now.getD j [] := by
                  rw [List.getD_eq_getElem?_getD, List.getElem?_append_left (by rw [hi.now]; exact e), ← List.getD_eq_getElem?_getD]
                show (∀ c ∈ (s.now ++ [path]).getD j [], _) ∧ finOf _ ((s.now ++ [path]).getD j []) = _
                rw [this]; exact hi.ok j e
              · have ej : j = k := by omega
                have : (s.now ++ [path]).getD j [] = path := by
                  rw [List.getD_eq_getElem?_getD, List.getElem?_append_right (by rw [hi.now]; omega), hi.now, ej]; simp
                show (∀ c ∈ (s.now ++ [path]).getD j [], _) ∧ finOf _ ((s.now ++ [path]).getD j []) = _
                rw [this, ej]
                exact ⟨hlt, by rw [fin_of_pts hR]; exact c3⟩, hnd, hinn, by show (s.free.set _ _).length = _; rw [List.length_set]; exact hi.len, hfr, hi.fd⟩, by
              show Q ++ [a] = allPts ss (s.now ++ [path])
              rw [all_snoc, hi.now, hR, hQ, List.append_assoc]⟩
          refine ⟨?_, ?_, g3⟩
          · show (run _ f _ _).2.now.dropLast = s.now
            rw [g1]; simp
          · show (run _ f _ _).2.free.set _ true = s.free
            rw [g2]; exact hback
        · rw [if_neg c3]
          obtain ⟨s2, hs2⟩ : ∃ s2 : St, s2 = { s with steps := s.steps + 1, free := s.free.set (ix W a) false } := ⟨_, rfl⟩
          have e1 : s2.now = s.now := by rw [hs2]
          have e2 : s2.free = s.free.set (ix W a) false := by rw [hs2]
          have hi2 : ∀ t : St, t.now = s2.now → t.free = s2.free → (t.n ≠ 0 → Fam ss es W H bar t.first) → Inv ss es W H bar k (Q ++ [a]) t := fun t t1 t2 t3 =>
            ⟨by rw [t1, e1]; exact hi.now, by rw [t1, e1]; exact hi.ok, hnd, hinn, by rw [t2, e2, List.length_set]; exact hi.len, by rw [t2, e2]; exact hfr, t3⟩
          have hstep : ∀ c, c = 82 ∨ c = 85 → ∃ R', ptsOf (ss.getD k (0, 0)) (path ++ [c]) = R' ++ [stepP a c] ∧ Q ++ [a] = allPts ss s.now ++ R' := fun c _ =>
            ⟨R ++ [a], by rw [pts_snoc, hR, fin_of_pts hR], by rw [hQ, List.append_assoc]⟩
          have hlet : ∀ d, d = 82 ∨ d = 85 → ∀ c ∈ path ++ [d], c = 82 ∨ c = 85 := fun d hd c hc => by
            rcases List.mem_append.1 hc with g | g
            · exact hlt c g
            · rw [List.mem_singleton] at g; rw [g]; exact hd
          simp only [← hs2]
          obtain ⟨r1, hr1⟩ : ∃ r, r = (if a.1 < (es.getD k (0, 0)).1 then run ⟨W, ss, es, most⟩ f (.each k (a.1 + 1, a.2) (path ++ [82])) s2 else (true, s2)) := ⟨_, rfl⟩
          have hA : r1.2.now = s2.now ∧ r1.2.free = s2.free ∧ (r1.2.n ≠ 0 → Fam ss es W H bar r1.2.first) := by
            rw [hr1]
            split
            · rename_i c4
              obtain ⟨R', p1, p2⟩ := hstep 82 (.inl rfl)
              exact run_ok (most := most) hs he hl f (.each k (a.1 + 1, a.2) (path ++ [82])) s2 (Q ++ [a]) ⟨hk, hi2 s2 rfl rfl (by rw [hs2]; exact hi.fd), ⟨R', p1, by rw [e1]; exact p2⟩, hlet 82 (.inl rfl), by
                obtain ⟨q1, q2, q3, q4⟩ := ha
                obtain ⟨w1, w2, w3, w4⟩ := hend
                exact ⟨by show 0 ≤ a.1 + 1; omega, q2, by show a.1 + 1 < (W : Int); omega, q4⟩⟩
            · exact ⟨rfl, rfl, by rw [hs2]; exact hi.fd⟩
          rw [← hr1]
          have hB : ∀ r2 : Bool × St, r2 = (if r1.1 = true ∧ a.2 < (es.getD k (0, 0)).2 then run ⟨W, ss, es, most⟩ f (.each k (a.1, a.2 + 1) (path ++ [85])) r1.2 else r1) → r2.2.now = s2.now ∧ r2.2.free = s2.free ∧ (r2.2.n ≠ 0 → Fam ss es W H bar r2.2.first) := fun r2 hr2 => by
            rw [hr2]
            split
            · rename_i c4
              obtain ⟨R', p1, p2⟩ := hstep 85 (.inr rfl)
              obtain ⟨g1, g2, g3⟩ := run_ok (most := most) hs he hl f (.each k (a.1, a.2 + 1) (path ++ [85])) r1.2 (Q ++ [a]) ⟨hk, hi2 r1.2 hA.1 hA.2.1 hA.2.2, ⟨R', p1, by rw [hA.1, e1]; exact p2⟩, hlet 85 (.inr rfl), by
                obtain ⟨q1, q2, q3, q4⟩ := ha
                obtain ⟨w1, w2, w3, w4⟩ := hend
                exact ⟨q1, by show 0 ≤ a.2 + 1; omega, q3, by show a.2 + 1 < (H : Int); omega⟩⟩
              exact ⟨g1.trans hA.1, g2.trans hA.2.1, g3⟩
            · exact hA
          obtain ⟨b1, b2, b3⟩ := hB _ rfl
          refine ⟨b1.trans e1, ?_, b3⟩
          show List.set (St.free _) _ true = s.free
          rw [b2, e2]; exact hback
  | f + 1, .next k, s, Q, h => by
    obtain ⟨hk, hi, hQ⟩ := h
    unfold run
    by_cases c1 : k < ss.length
    · rw [if_pos c1]
      exact run_ok (most := most) hs he hl f (.each k (ss.getD k (0, 0)) []) s Q ⟨c1, hi, ⟨[], rfl, by rw [hQ, List.append_nil]⟩, fun c hc => (by cases hc), by
        rw [getD_get c1]; exact hs _ (List.getElem_mem c1)⟩
    · rw [if_neg c1]
      refine ⟨rfl, rfl, fun _ => ?_⟩
      have hkl : k = ss.length := by omega
      show Fam ss es W H bar (if s.n = 0 then s.now else s.first)
      split
      · exact ⟨by rw [hi.now, hkl], fun j hj => hi.ok j (by rw [← hi.now]; exact hj), by rw [← hQ]; exact hi.nd, by rw [← hQ]; exact hi.inn⟩
      · rename_i c2
        exact hi.fd c2
end Go.Proofs.Ytdmpbbgcifodeaa
