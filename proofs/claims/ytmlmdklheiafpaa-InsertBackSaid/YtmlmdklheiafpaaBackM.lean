/-
  Plain: a letter taken out of a tableau again; rows of two letters that go in one behind the other.
-/
import Derived.Test.YtmlmdklheiafpaaPlacR
import Derived.Test.YtmlmdklheiafpaaPlacT
import Derived.Test.YtmlmdklheiafpaaPlacU
namespace Go.Proofs.Ytmlmdklheiafpaa

/-- The greatest letter of a row that is less than z makes room for z. -/
def pull (r : List Int) (z : Int) : List Int × Int := (r.set (r.countP (· < z) - 1) z, r.getD (r.countP (· < z) - 1) 0)
/-- The letter that made row i one longer, taken out. -/
def unb : List (List Int) → Nat → List (List Int) × Int
  | [], _ => ([], 0)
  | r :: t, 0 => (if r.length = 1 then [] else r.dropLast :: t, r.getD (r.length - 1) 0)
  | r :: t, i + 1 => ((pull r (unb t i).2).1 :: (unb t i).1, (pull r (unb t i).2).2)
theorem push_split : ∀ {r : List Int} {x z : Int}, (push1 r x).2 = some z → ∃ u v, r = u ++ z :: v ∧ (push1 r x).1 = u ++ x :: v ∧ (∀ y ∈ u, y ≤ x) ∧ x < z
  | [], x, z, h => by simp [push1] at h
  | a :: s, x, z, h => by
    by_cases c : x < a
    · rw [push1_lt c] at h ⊢
      obtain rfl : a = z := by simpa using h
      exact ⟨[], s, rfl, rfl, by simp, c⟩
    · rw [push1_ge (by omega)] at h ⊢
      obtain ⟨u, v, e1, e2, e3, e4⟩ := push_split h
      refine ⟨a :: u, v, by rw [e1]; rfl, by rw [e2]; rfl, fun y hy => ?_, e4⟩
      rcases List.mem_cons.1 hy with rfl | hy
      · omega
      · exact e3 y hy
theorem push_none : ∀ {r : List Int} {x : Int}, (push1 r x).2 = none → (push1 r x).1 = r ++ [x] ∧ ∀ y ∈ r, y ≤ x
  | [], x, _ => ⟨rfl, by simp⟩
  | a :: s, x, h => by
    by_cases c : x < a
    · rw [push1_lt c] at h; simp at h
    · rw [push1_ge (by omega)] at h ⊢
      obtain ⟨e1, e2⟩ := push_none h
      refine ⟨by rw [e1]; rfl, fun y hy => ?_⟩
      rcases List.mem_cons.1 hy with rfl | hy
      · omega
      · exact e2 y hy
theorem push_join {v : List Int} {x z : Int} (hz : x < z) : ∀ {u : List Int}, (∀ y ∈ u, y ≤ x) → push1 (u ++ z :: v) x = (u ++ x :: v, some z)
  | [], _ => push1_lt hz
  | a :: u, h => by
    show push1 (a :: (u ++ z :: v)) x = _
    rw [push1_ge (h a (by simp)), push_join hz (fun y hy => h y (List.mem_cons_of_mem _ hy))]; rfl
theorem pull_at {u v : List Int} {x z : Int} (hu : ∀ y ∈ u, y < z) (hx : x < z) (hv : ∀ y ∈ v, z ≤ y) : pull (u ++ x :: v) z = (u ++ z :: v, x) := by
  have e1 : u.countP (· < z) = u.length := List.countP_eq_length.2 (fun y hy => by simpa using hu y hy)
  have e2 : v.countP (· < z) = 0 := List.countP_eq_zero.2 (fun y hy => by have := hv y hy; simp; omega)
  have e : (u ++ x :: v).countP (· < z) - 1 = u.length := by
    rw [List.countP_append, List.countP_cons_of_pos (by simpa using hx), e1, e2]; omega
  unfold pull
  rw [e]
  refine Prod.ext ?_ ?_
  · simp
  · simp
theorem pull_split : ∀ {r : List Int} {z : Int}, Up r → (∃ y ∈ r, y < z) → ∃ u x v, r = u ++ x :: v ∧ (∀ y ∈ u, y ≤ x) ∧ x < z ∧ ∀ y ∈ v, z ≤ y
  | [], z, _, h => by obtain ⟨y, hy, _⟩ := h; simp at hy
  | a :: s, z, hup, h => by
    by_cases c : ∃ y ∈ s, y < z
    · obtain ⟨u, x, v, e1, e2, e3, e4⟩ := pull_split hup.tail c
      refine ⟨a :: u, x, v, by rw [e1]; rfl, fun y hy => ?_, e3, e4⟩
      rcases List.mem_cons.1 hy with rfl | hy
      · exact hup.head x (by rw [e1]; simp)
      · exact e2 y hy
    · obtain ⟨y, hy, hlt⟩ := h
      refine ⟨[], a, s, rfl, by simp, ?_, fun y hy => ?_⟩
      · rcases List.mem_cons.1 hy with rfl | hy
        · exact hlt
        · exact absurd ⟨y, hy, hlt⟩ c
      · apply Int.not_lt.1
        intro h2
        exact c ⟨y, hy, h2⟩
/-- What has gone in comes out. -/
theorem unb_ins1 : ∀ {T : List (List Int)} {x : Int}, Tab T → unb (ins1 T x) (irow T x) = (T, x)
  | [], x, _ => by simp [ins1, irow, unb]
  | r :: t, x, h => by
    obtain ⟨h1, h2, h3, h4⟩ := h
    simp only [ins1, irow]
    cases e : (push1 r x).2 with
    | none =>
      obtain ⟨e1, e2⟩ := push_none e
      simp only [unb]
      rw [e1]
      have hl : 0 < r.length := List.length_pos_iff.2 h1
      rw [if_neg (by simp; omega)]
      refine Prod.ext ?_ ?_
      · simp
      · simp
    | some z =>
      have ih := unb_ins1 (x := z) h4
      simp only [unb]
      rw [ih]
      obtain ⟨u, v, e1, e2, e3, e4⟩ := push_split e
      have hv : ∀ y ∈ v, z ≤ y := fun y hy => by
        rw [e1] at h2
        exact (List.pairwise_cons.1 (List.pairwise_append.1 h2).2.1).1 y hy
      rw [e2, pull_at (fun y hy => by have := e3 y hy; omega) e4 hv, e1]
theorem push_pos : ∀ {s : List Int} {z : Int}, Up s → ∃ k : Nat, (push1 s z).1[k]? = some z ∧ ∀ (j : Nat) b, k ≤ j → s[j]? = some b → z < b
  | [], z, _ => ⟨0, rfl, fun j b _ h => by simp at h⟩
  | a :: s, z, h => by
    by_cases c : z < a
    · rw [push1_lt c]
      refine ⟨0, rfl, fun j b _ hb => ?_⟩
      cases j with
      | zero => obtain rfl : a = b := by simpa using hb
                exact c
      | succ j => have := h.head b (List.mem_of_getElem? (by simpa using hb)); omega
    · rw [push1_ge (by omega)]
      obtain ⟨k, h1, h2⟩ := push_pos (z := z) h.tail
      refine ⟨k + 1, by simpa using h1, fun j b hj hb => ?_⟩
      cases j with
      | zero => omega
      | succ j => exact h2 j b (by omega) (by simpa using hb)
theorem push_low : ∀ {s : List Int} {z : Int} {j : Nat} {b : Int}, s[j]? = some b → ∃ b', (push1 s z).1[j]? = some b' ∧ b' ≤ b
  | [], z, j, b, h => by simp at h
  | a :: s, z, j, b, h => by
    by_cases c : z < a
    · rw [push1_lt c]
      cases j with
      | zero => obtain rfl : a = b := by simpa using h
                exact ⟨z, rfl, by omega⟩
      | succ j => exact ⟨b, by simpa using h, Int.le_refl _⟩
    · rw [push1_ge (by omega)]
      cases j with
      | zero => exact ⟨b, by simpa using h, Int.le_refl _⟩
      | succ j => exact push_low (s := s) (j := j) (by simpa using h)
/-- What is taken out goes in again. -/
theorem ins1_unb : ∀ {T : List (List Int)} {i : Nat}, Tab T → i < T.length → (T.getD (i + 1) []).length < (T.getD i []).length → Tab (unb T i).1 ∧ ins1 (unb T i).1 (unb T i).2 = T ∧ irow (unb T i).1 (unb T i).2 = i
  | [], i, _, h, _ => by simp at h
  | r :: t, 0, h, _, hc => by
    obtain ⟨h1, h2, h3, h4⟩ := h
    have hhd : ((r :: t).getD 1 []) = t.headD [] := by cases t <;> rfl
    rw [hhd] at hc
    have hr : (r :: t).getD 0 [] = r := rfl
    rw [hr] at hc
    obtain ⟨d, x, rfl⟩ : ∃ d x, r = d ++ [x] := ⟨r.dropLast, r.getLast h1, (List.dropLast_concat_getLast h1).symm⟩
    have hx : ∀ y ∈ d, y ≤ x := fun y hy => (List.pairwise_append.1 h2).2.2 y hy x (by simp)
    have e2 : (unb ((d ++ [x]) :: t) 0).2 = x := by simp [unb]
    rw [e2]
    by_cases hd : d = []
    · subst hd
      have ht : t = [] := by
        cases t with
        | nil => rfl
        | cons s t' =>
          have := h4.1
          simp at hc
          exact absurd hc this
      subst ht
      exact ⟨by simp [unb, Tab], by simp [unb, ins1], by simp [unb, irow]⟩
    · have hl : 0 < d.length := List.length_pos_iff.2 hd
      have e1 : (unb ((d ++ [x]) :: t) 0).1 = d :: t := by
        simp only [unb]
        rw [if_neg (by simp; omega)]; simp
      rw [e1]
      have hp := push1_end hx
      refine ⟨⟨hd, (List.pairwise_append.1 h2).1, dom_of (fun j b hb => ?_), h4⟩, by simp [ins1, hp], by simp [irow, hp]⟩
      obtain ⟨a, ha, hab⟩ := dom_at h3 hb
      have hj := (List.getElem?_eq_some_iff.1 hb).1
      refine ⟨a, ?_, hab⟩
      rw [List.length_append] at hc
      rw [List.getElem?_append_left (by simp only [List.length_cons, List.length_nil] at hc; omega)] at ha
      exact ha
  | r :: t, i + 1, h, hi, hc => by
    obtain ⟨h1, h2, h3, h4⟩ := h
    obtain ⟨g1, g2, g3⟩ := ins1_unb (T := t) (i := i) h4 (by simpa using hi) hc
    obtain ⟨t', ht'⟩ : ∃ t', t' = (unb t i).1 := ⟨_, rfl⟩
    obtain ⟨z, hz⟩ : ∃ z, z = (unb t i).2 := ⟨_, rfl⟩
    simp only [unb]
    rw [← ht'] at g1 g2 g3 ⊢
    rw [← hz] at g2 g3 ⊢
    have hhd : t.headD [] = (push1 (t'.headD []) z).1 := by rw [← g2]; exact ins1_headD t' z
    have hup' : Up (t'.headD []) := by
      cases t' with
      | nil => exact List.Pairwise.nil
      | cons s _ => exact g1.2.1
    obtain ⟨k, hk1, hk2⟩ := push_pos (z := z) hup'
    rw [← hhd] at hk1
    obtain ⟨a, ha, haz⟩ := dom_at h3 hk1
    obtain ⟨u, x, v, e1, e2, e3, e4⟩ := pull_split (z := z) h2 ⟨a, List.mem_of_getElem? ha, haz⟩
    have hpl := pull_at (v := v) (z := z) (fun y hy => by have := e2 y hy; omega) e3 e4
    rw [← e1] at hpl
    rw [hpl]
    have hpj := push_join (v := v) e3 e2
    have hku : k ≤ u.length := by
      apply Classical.byContradiction
      intro hn
      rw [e1, List.getElem?_append_right (by omega)] at ha
      obtain ⟨m, hm⟩ : ∃ m, k - u.length = m + 1 := ⟨k - u.length - 1, by omega⟩
      rw [hm, List.getElem?_cons_succ] at ha
      have := e4 a (List.mem_of_getElem? ha)
      omega
    refine ⟨⟨by simp, ?_, dom_of (fun j b hb => ?_), g1⟩, ?_, ?_⟩
    · rw [e1] at h2
      obtain ⟨p1, p2, p3⟩ := List.pairwise_append.1 h2
      refine List.pairwise_append.2 ⟨p1, List.pairwise_cons.2 ⟨e4, (List.pairwise_cons.1 p2).2⟩, fun y hy y' hy' => ?_⟩
      rcases List.mem_cons.1 hy' with rfl | hy'
      · have := e2 y hy; omega
      · exact p3 y hy y' (List.mem_cons_of_mem _ hy')
    · by_cases e : j = u.length
      · refine ⟨z, by rw [e]; simp, hk2 j b (by omega) hb⟩
      · obtain ⟨b', hb', hle⟩ := push_low (z := z) hb
        rw [← hhd] at hb'
        obtain ⟨a2, ha2, hlt⟩ := dom_at h3 hb'
        refine ⟨a2, ?_, by omega⟩
        rw [e1] at ha2
        by_cases c : j < u.length
        · rw [List.getElem?_append_left c] at ha2 ⊢; exact ha2
        · rw [List.getElem?_append_right (by omega)] at ha2 ⊢
          obtain ⟨m, hm⟩ : ∃ m, j - u.length = m + 1 := ⟨j - u.length - 1, by omega⟩
          rw [hm, List.getElem?_cons_succ] at ha2 ⊢; exact ha2
    · simp only [ins1]; rw [hpj]; simp only []; rw [g2, e1]
    · simp only [irow]; rw [hpj]; simp only []; rw [g3]
/-- A letter not less goes in further right, in a row not lower. -/
theorem bump_right : ∀ {T : List (List Int)} {x y : Int}, (∀ r ∈ T, Up r) → x ≤ y → irow (ins1 T x) y ≤ irow T x
  | [], x, y, _, h => by simp only [ins1, irow, push1]; rw [if_neg (by omega)]; exact Nat.le_refl _
  | r :: t, x, y, hT, h => by
    obtain ⟨p1, p2⟩ := push_right (hT r (by simp)) h
    simp only [ins1]
    cases e : (push1 r x).2 with
    | none =>
      simp only [irow]
      rw [p1 e]; exact Nat.zero_le _
    | some z =>
      have ih := fun q (hq : z ≤ q) => bump_right (T := t) (x := z) (y := q) (fun r hr => hT r (List.mem_cons_of_mem _ hr)) hq
      simp only [irow, e]
      cases e2 : (push1 (push1 r x).1 y).2 with
      | none => exact Nat.zero_le _
      | some q => simp only []; have := ih q (p2 z q e e2); omega
/-- A lesser letter goes in lower. -/
theorem bump_left : ∀ {T : List (List Int)} {x y : Int}, y < x → irow T x < irow (ins1 T x) y
  | [], x, y, h => by simp only [ins1, irow, push1]; rw [if_pos h]; exact Nat.succ_pos _
  | r :: t, x, y, h => by
    obtain ⟨p, hp, hpx⟩ := push_left (s := r) h
    simp only [ins1]
    cases e : (push1 r x).2 with
    | none =>
      simp only [irow, e]
      rw [hp]; exact Nat.succ_pos _
    | some z =>
      have hxz := (push1_out e).2
      have ih := bump_left (T := t) (x := z) (y := p) (by omega)
      simp only [irow, e]
      rw [hp]
      simp only []
      omega
end Go.Proofs.Ytmlmdklheiafpaa
