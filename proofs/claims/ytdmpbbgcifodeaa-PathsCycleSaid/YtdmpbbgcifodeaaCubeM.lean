/-
  Plain piles of cubes: turned, mirrored, seen from the far corner; how many cubes.
-/
import Derived.Test.YtdmpbbgcifodeaaLattM
namespace Go.Proofs.Ytdmpbbgcifodeaa

/-- r rows of c values. -/
def gmat (r c : Nat) (f : Nat → Nat → Int) : List (List Int) := (List.range r).map (fun i => (List.range c).map (f i))
theorem gmat_length (r c : Nat) (f : Nat → Nat → Int) : (gmat r c f).length = r := by simp [gmat]
theorem gmat_row {r c : Nat} {f : Nat → Nat → Int} : ∀ x ∈ gmat r c f, x.length = c := fun x hx => by
  obtain ⟨i, _, rfl⟩ := List.mem_map.1 hx; simp
theorem gmat_getD {r c i : Nat} {f : Nat → Nat → Int} (h : i < r) : (gmat r c f).getD i [] = (List.range c).map (f i) := by
  unfold gmat; rw [List.getD_eq_getElem?_getD]; simp [h]
theorem gmat_ent {r c i j : Nat} {f : Nat → Nat → Int} (hi : i < r) (hj : j < c) : ent (gmat r c f) i j = f i j := by
  unfold ent
  rw [gmat_getD hi, getD_get (by simpa using hj)]
  simp
theorem gm_ext {a b : List (List Int)} {r c : Nat} (ha : a.length = r) (hb : b.length = r) (ra : ∀ x ∈ a, x.length = c) (rb : ∀ x ∈ b, x.length = c) (h : ∀ i j, i < r → j < c → ent a i j = ent b i j) : a = b := by
  apply List.ext_getElem (by rw [ha, hb])
  intro i h1 h2
  have la := ra _ (List.getElem_mem h1)
  have lb := rb _ (List.getElem_mem h2)
  apply List.ext_getElem (by rw [la, lb])
  intro j h3 h4
  have := h i j (by rw [← ha]; exact h1) (by rw [← la]; exact h3)
  unfold ent at this
  rw [getD_get h1, getD_get h2, getD_get h3, getD_get h4] at this
  exact this

/-- A pile in a room of r rows, c columns, height h. -/
structure Pile (p : List (List Int)) (r c h : Nat) : Prop where
  len : p.length = r
  row : ∀ x ∈ p, x.length = c
  r1 : 1 ≤ r ∧ r ≤ 8
  c1 : 1 ≤ c ∧ c ≤ 8
  h1 : 1 ≤ h ∧ h ≤ 8
  bd : ∀ i j, i < r → j < c → 0 ≤ ent p i j ∧ ent p i j ≤ (h : Int)
  side : ∀ i j, i < r → j + 1 < c → ent p i (j + 1) ≤ ent p i j
  down : ∀ i j, i + 1 < r → j < c → ent p (i + 1) j ≤ ent p i j

/-- How many numbers below n are so. -/
def cnt (P : Nat → Bool) : Nat → Nat
  | 0 => 0
  | n + 1 => cnt P n + if P n = true then 1 else 0
theorem cnt_le (P : Nat → Bool) : ∀ n, cnt P n ≤ n
  | 0 => Nat.le_refl _
  | n + 1 => by have := cnt_le P n; simp only [cnt]; split <;> omega
theorem cnt_mono {P Q : Nat → Bool} : ∀ n, (∀ i, i < n → P i = true → Q i = true) → cnt P n ≤ cnt Q n
  | 0, _ => Nat.le_refl _
  | n + 1, h => by
    have ih := cnt_mono n (fun i hi => h i (by omega))
    have hn := h n (by omega)
    simp only [cnt]
    by_cases c : P n = true
    · rw [if_pos c, if_pos (hn c)]; omega
    · rw [if_neg c]; omega
theorem cnt_congr {P Q : Nat → Bool} {n : Nat} (h : ∀ i, i < n → P i = Q i) : cnt P n = cnt Q n :=
  Nat.le_antisymm (cnt_mono n (fun i hi hp => by rw [← h i hi]; exact hp)) (cnt_mono n (fun i hi hp => by rw [h i hi]; exact hp))
/-- Where what is so stands ahead. -/
theorem cnt_lt {P : Nat → Bool} : ∀ n, (∀ i j, i ≤ j → j < n → P j = true → P i = true) → ∀ i, i < n → (i < cnt P n ↔ P i = true)
  | 0, _, i, hi => by omega
  | n + 1, h, i, hi => by
    have ih := cnt_lt n (fun i j hij hj => h i j hij (by omega))
    have hle := cnt_le P n
    simp only [cnt]
    by_cases e : i = n
    · subst e
      by_cases c : P i = true
      · rw [if_pos c]
        refine ⟨fun _ => c, fun _ => ?_⟩
        cases i with
        | zero => omega
        | succ k =>
          have := (ih k (by omega)).2 (h k (k + 1) (by omega) (by omega) c)
          omega
      · rw [if_neg c]
        exact ⟨fun hh => by omega, fun hh => absurd hh c⟩
    · have hi' : i < n := by omega
      have ihi := ih i hi'
      by_cases c : P n = true
      · rw [if_pos c]
        have hpi := h i n (by omega) (by omega) c
        exact ⟨fun _ => hpi, fun hh => by have := ihi.2 hh; omega⟩
      · rw [if_neg c]; simpa using ihi

theorem Pile.anti_down {p : List (List Int)} {r c h : Nat} (hp : Pile p r c h) {j : Nat} (hj : j < c) : ∀ b a, a ≤ b → b < r → ent p b j ≤ ent p a j := by
  intro b
  induction b with
  | zero => intro a ha _; rw [show a = 0 by omega]; exact Int.le_refl _
  | succ b ih =>
    intro a ha hb
    by_cases e : a = b + 1
    · rw [e]; exact Int.le_refl _
    · have := ih a (by omega) (by omega)
      have := hp.down b j hb hj
      omega
theorem Pile.anti_side {p : List (List Int)} {r c h : Nat} (hp : Pile p r c h) {i : Nat} (hi : i < r) : ∀ b a, a ≤ b → b < c → ent p i b ≤ ent p i a := by
  intro b
  induction b with
  | zero => intro a ha _; rw [show a = 0 by omega]; exact Int.le_refl _
  | succ b ih =>
    intro a ha hb
    by_cases e : a = b + 1
    · rw [e]; exact Int.le_refl _
    · have := ih a (by omega) (by omega)
      have := hp.side i b hi hb
      omega

/-! Turned. -/

def turnAt (p : List (List Int)) (r : Nat) (j z : Nat) : Int := (cnt (fun i => decide ((z : Int) < ent p i j)) r : Int)
def turnOf (p : List (List Int)) (r c h : Nat) : List (List Int) := gmat c h (turnAt p r)
theorem turn_iff {p : List (List Int)} {r c h : Nat} (hp : Pile p r c h) {i j z : Nat} (hi : i < r) (hj : j < c) (hz : z < h) : (i : Int) < ent (turnOf p r c h) j z ↔ (z : Int) < ent p i j := by
  unfold turnOf
  rw [gmat_ent hj hz]
  unfold turnAt
  have := cnt_lt (P := fun i => decide ((z : Int) < ent p i j)) r (fun a b hab hb hpb => by
    have := hp.anti_down hj b a hab hb
    simp only [decide_eq_true_eq] at hpb ⊢
    omega) i hi
  simp only [decide_eq_true_eq] at this
  omega
theorem turn_pile {p : List (List Int)} {r c h : Nat} (hp : Pile p r c h) : Pile (turnOf p r c h) c h r := by
  refine ⟨gmat_length _ _ _, gmat_row, hp.c1, hp.h1, hp.r1, fun j z hj hz => ?_, fun j z hj hz => ?_, fun j z hj hz => ?_⟩
  · unfold turnOf
    rw [gmat_ent hj hz]
    have := cnt_le (fun i => decide ((z : Int) < ent p i j)) r
    unfold turnAt; omega
  · unfold turnOf
    rw [gmat_ent hj hz, gmat_ent hj (by omega)]
    have := cnt_mono (P := fun i => decide (((z + 1 : Nat) : Int) < ent p i j)) (Q := fun i => decide ((z : Int) < ent p i j)) r (fun i _ h => by simp only [decide_eq_true_eq] at h ⊢; omega)
    unfold turnAt; omega
  · unfold turnOf
    rw [gmat_ent hj hz, gmat_ent (by omega) hz]
    have := cnt_mono (P := fun i => decide ((z : Int) < ent p i (j + 1))) (Q := fun i => decide ((z : Int) < ent p i j)) r (fun i hi h => by
      have := hp.side i j hi hj
      simp only [decide_eq_true_eq] at h ⊢; omega)
    unfold turnAt; omega
theorem turn_three {p : List (List Int)} {r c h : Nat} (hp : Pile p r c h) : turnOf (turnOf (turnOf p r c h) c h r) h r c = p := by
  have h1 := turn_pile hp
  have h2 := turn_pile h1
  have h3 := turn_pile h2
  refine gm_ext h3.len hp.len h3.row hp.row (fun i j hi hj => ?_)
  have e : ∀ z : Nat, z < h → ((z : Int) < ent (turnOf (turnOf (turnOf p r c h) c h r) h r c) i j ↔ (z : Int) < ent p i j) := fun z hz => by
    rw [turn_iff h2 hz hi hj, turn_iff h1 hj hz hi, turn_iff hp hi hj hz]
  have b1 := h3.bd i j hi hj
  have b2 := hp.bd i j hi hj
  obtain ⟨x, hx⟩ : ∃ x : Nat, ent (turnOf (turnOf (turnOf p r c h) c h r) h r c) i j = x := ⟨(ent (turnOf (turnOf (turnOf p r c h) c h r) h r c) i j).toNat, by omega⟩
  obtain ⟨y, hy⟩ : ∃ y : Nat, ent p i j = y := ⟨(ent p i j).toNat, by omega⟩
  rw [hx, hy] at e
  rw [hx] at b1 ⊢
  rw [hy] at b2 ⊢
  rcases Nat.lt_trichotomy x y with g | g | g
  · have := (e x (by omega)).2 (by omega); omega
  · rw [g]
  · have := (e y (by omega)).1 (by omega); omega

/-! Mirrored; the rest. -/

def mirOf (p : List (List Int)) (r c : Nat) : List (List Int) := gmat c r (fun j i => ent p i j)
theorem mir_pile {p : List (List Int)} {r c h : Nat} (hp : Pile p r c h) : Pile (mirOf p r c) c r h := by
  refine ⟨gmat_length _ _ _, gmat_row, hp.c1, hp.r1, hp.h1, fun j i hj hi => ?_, fun j i hj hi => ?_, fun j i hj hi => ?_⟩
  · unfold mirOf; rw [gmat_ent hj hi]; exact hp.bd i j hi hj
  · unfold mirOf; rw [gmat_ent hj hi, gmat_ent hj (by omega)]; exact hp.down i j hi hj
  · unfold mirOf; rw [gmat_ent hj hi, gmat_ent (by omega) hi]; exact hp.side i j hi hj
theorem mir_two {p : List (List Int)} {r c h : Nat} (hp : Pile p r c h) : mirOf (mirOf p r c) c r = p :=
  gm_ext (gmat_length _ _ _) hp.len gmat_row hp.row (fun i j hi hj => by unfold mirOf; rw [gmat_ent hi hj, gmat_ent hj hi])

def restOf (p : List (List Int)) (r c h : Nat) : List (List Int) := gmat r c (fun i j => (h : Int) - ent p (r - 1 - i) (c - 1 - j))
theorem rest_pile {p : List (List Int)} {r c h : Nat} (hp : Pile p r c h) : Pile (restOf p r c h) r c h := by
  refine ⟨gmat_length _ _ _, gmat_row, hp.r1, hp.c1, hp.h1, fun i j hi hj => ?_, fun i j hi hj => ?_, fun i j hi hj => ?_⟩
  · unfold restOf; rw [gmat_ent hi hj]; have := hp.bd (r - 1 - i) (c - 1 - j) (by omega) (by omega); omega
  · unfold restOf; rw [gmat_ent hi hj, gmat_ent hi (by omega)]
    have := hp.anti_side (i := r - 1 - i) (by omega) (c - 1 - j) (c - 1 - (j + 1)) (by omega) (by omega); omega
  · unfold restOf; rw [gmat_ent hi hj, gmat_ent (by omega) hj]
    have := hp.anti_down (j := c - 1 - j) (by omega) (r - 1 - i) (r - 1 - (i + 1)) (by omega) (by omega); omega
theorem rest_two {p : List (List Int)} {r c h : Nat} (hp : Pile p r c h) : restOf (restOf p r c h) r c h = p :=
  gm_ext (gmat_length _ _ _) hp.len gmat_row hp.row (fun i j hi hj => by
    unfold restOf
    rw [gmat_ent hi hj, gmat_ent (by omega) (by omega), show r - 1 - (r - 1 - i) = i by omega, show c - 1 - (c - 1 - j) = j by omega]
    omega)

/-! How many cubes. -/

def volOf (p : List (List Int)) (r c : Nat) : Int := psum (fun i => psum (fun j => ent p i j) c) r
theorem psum_zero : ∀ n, psum (fun _ => 0) n = 0
  | 0 => rfl
  | n + 1 => by simp only [psum]; rw [psum_zero n]; rfl
theorem psum_comm (f : Nat → Nat → Int) (m : Nat) : ∀ n, psum (fun i => psum (fun j => f i j) m) n = psum (fun j => psum (fun i => f i j) n) m
  | 0 => by
    have : (fun j => psum (fun i => f i j) 0) = fun _ => 0 := rfl
    rw [this, psum_zero]; rfl
  | n + 1 => by
    have e : (fun j => psum (fun i => f i j) (n + 1)) = fun j => psum (fun i => f i j) n + f n j := rfl
    rw [e, psum_add, ← psum_comm f m n]; rfl
theorem cnt_psum (P : Nat → Bool) : ∀ n, (cnt P n : Int) = psum (fun i => if P i = true then 1 else 0) n
  | 0 => rfl
  | n + 1 => by simp only [cnt, psum]; rw [← cnt_psum P n]; split <;> simp
theorem psum_ind {x : Int} {h : Nat} (h0 : 0 ≤ x) (h1 : x ≤ (h : Int)) : psum (fun z => if decide ((z : Int) < x) = true then 1 else 0) h = x := by
  have key : ∀ n : Nat, psum (fun z => if decide ((z : Int) < x) = true then 1 else 0) n = min x n := by
    intro n
    induction n with
    | zero => simp [psum]; omega
    | succ n ih =>
      simp only [psum]
      rw [ih]
      by_cases c : (n : Int) < x
      · rw [if_pos (by simpa using c)]; omega
      · rw [if_neg (by simpa using c)]; omega
  rw [key]; omega
theorem turn_vol {p : List (List Int)} {r c h : Nat} (hp : Pile p r c h) : volOf (turnOf p r c h) c h = volOf p r c := by
  have e1 : volOf (turnOf p r c h) c h = psum (fun j => psum (fun i => ent p i j) r) c := by
    unfold volOf
    refine psum_congr c (fun j hj => ?_)
    have e2 : psum (fun z => ent (turnOf p r c h) j z) h = psum (fun z => psum (fun i => if decide ((z : Int) < ent p i j) = true then 1 else 0) r) h :=
      psum_congr h (fun z hz => by unfold turnOf; rw [gmat_ent hj hz]; exact cnt_psum _ r)
    rw [e2, psum_comm (fun z i => if decide ((z : Int) < ent p i j) = true then 1 else 0)]
    exact psum_congr r (fun i hi => psum_ind (hp.bd i j hi hj).1 (hp.bd i j hi hj).2)
  rw [e1]
  exact (psum_comm (fun i j => ent p i j) c r).symm
theorem psum_head (f : Nat → Int) : ∀ n, psum f (n + 1) = f 0 + psum (fun i => f (i + 1)) n
  | 0 => by simp [psum]
  | n + 1 => by
    have e : psum f (n + 1 + 1) = psum f (n + 1) + f (n + 1) := rfl
    have e2 : psum (fun i => f (i + 1)) (n + 1) = psum (fun i => f (i + 1)) n + f (n + 1) := rfl
    rw [e, psum_head f n, e2]; omega
theorem psum_rev : ∀ (n : Nat) (f : Nat → Int), psum (fun i => f (n - 1 - i)) n = psum f n
  | 0, _ => rfl
  | n + 1, f => by
    rw [psum_head f n]
    have e : psum (fun i => f (n + 1 - 1 - i)) (n + 1) = psum (fun i => f (n + 1 - 1 - i)) n + f (n + 1 - 1 - n) := rfl
    rw [e, ← psum_rev n (fun i => f (i + 1)), show n + 1 - 1 - n = 0 by omega]
    have : psum (fun i => f (n + 1 - 1 - i)) n = psum (fun i => f (n - 1 - i + 1)) n := psum_congr n (fun i hi => by rw [show n + 1 - 1 - i = n - 1 - i + 1 by omega])
    rw [this]; omega
theorem psum_const (x : Int) : ∀ n : Nat, psum (fun _ => x) n = n * x
  | 0 => by simp [psum]
  | n + 1 => by
    simp only [psum]
    rw [psum_const x n, Int.natCast_add, Int.add_mul]; simp
theorem psum_sub (f g : Nat → Int) : ∀ k, psum (fun i => f i - g i) k = psum f k - psum g k
  | 0 => rfl
  | k + 1 => by simp only [psum]; rw [psum_sub f g k]; omega
theorem rest_vol {p : List (List Int)} {r c h : Nat} : volOf (restOf p r c h) r c = (r : Int) * (c * h) - volOf p r c := by
  have e1 : volOf (restOf p r c h) r c = psum (fun i => (c : Int) * h - psum (fun j => ent p (r - 1 - i) j) c) r := by
    unfold volOf
    refine psum_congr r (fun i hi => ?_)
    have : psum (fun j => ent (restOf p r c h) i j) c = psum (fun j => (h : Int) - ent p (r - 1 - i) (c - 1 - j)) c := psum_congr c (fun j hj => by unfold restOf; rw [gmat_ent hi hj])
    rw [this, psum_sub, psum_const, psum_rev c (fun j => ent p (r - 1 - i) j)]
  rw [e1, psum_sub, psum_const, psum_rev r (fun i => psum (fun j => ent p i j) c)]
  rfl

end Go.Proofs.Ytdmpbbgcifodeaa
