/-
  Plain: half a gyration keeps what hangs together, one line back.
-/
import Derived.Test.YtdmpbbgcifodeaaWieM
namespace Go.Proofs.Ytdmpbbgcifodeaa

/-- Which edge there is. -/
def Is (n : Int) : Ed → Prop
  | .h i j => 0 ≤ i ∧ i < n ∧ 0 ≤ j ∧ j ≤ n
  | .v i j => 0 ≤ i ∧ i ≤ n ∧ 0 ≤ j ∧ j < n
/-- The face of a parity on which an edge lies: its upper left box. -/
def fcR (p : Int) : Ed → Int
  | .h i j => if (i + j + 1) % 2 = p then i else i - 1
  | .v i _ => i - 1
def fcQ (p : Int) : Ed → Int
  | .h _ j => j - 1
  | .v i j => if (i + j + 1) % 2 = p then j else j - 1
/-- A face within, whose edges are by turns. -/
def alt (n : Int) (X : Cf) (a b : Int) : Bool :=
  decide (0 ≤ a ∧ a + 1 < n ∧ 0 ≤ b ∧ b + 1 < n) && (X (.h a (b + 1)) == X (.h (a + 1) (b + 1)) && X (.v (a + 1) b) == X (.v (a + 1) (b + 1)) && X (.h a (b + 1)) != X (.v (a + 1) b))
/-- What is not by turns is turned over. -/
def half (n p : Int) (X : Cf) : Cf := fun e => if alt n X (fcR p e) (fcQ p e) then X e else !X e
/-- What is by turns is turned over. -/
def gy (n p : Int) (X : Cf) : Cf := fun e => if alt n X (fcR p e) (fcQ p e) then !X e else X e

section
variable {n s p : Int} {X : Cf} {α : Type} {lab : Ed → α}

/-- The label of a face. -/
noncomputable def lf (n : Int) (X : Cf) (lab : Ed → α) (a b : Int) : α :=
  open Classical in
  if Is n (.h a (b + 1)) ∧ X (.h a (b + 1)) = true then lab (.h a (b + 1)) else if Is n (.h (a + 1) (b + 1)) ∧ X (.h (a + 1) (b + 1)) = true then lab (.h (a + 1) (b + 1))
    else if Is n (.v (a + 1) b) ∧ X (.v (a + 1) b) = true then lab (.v (a + 1) b) else lab (.v (a + 1) (b + 1))
noncomputable def labH (n p : Int) (X : Cf) (lab : Ed → α) : Ed → α := fun e => if alt n X (fcR p e) (fcQ p e) then lab e else lf n X lab (fcR p e) (fcQ p e)


theorem outer_h0 {i : Int} (h1 : i < n) : outer n i = .h i 0 := by unfold outer; rw [if_pos h1]
theorem outer_vn {j : Int} (h0 : 0 ≤ j) (h1 : j < n) : outer n (n + j) = .v n j := by
  unfold outer; rw [if_neg (by omega), if_pos (by omega)]; congr 1; omega
theorem outer_hn {i : Int} (h0 : 0 ≤ i) (h1 : i < n) : outer n (3 * n - 1 - i) = .h i n := by
  unfold outer; rw [if_neg (by omega), if_neg (by omega), if_pos (by omega)]; congr 1; omega
theorem outer_v0 {j : Int} (h0 : 0 ≤ j) (h1 : j < n) : outer n (4 * n - 1 - j) = .v 0 j := by
  unfold outer; rw [if_neg (by omega), if_neg (by omega), if_neg (by omega)]; congr 1; omega
theorem GdL.turns (hX : GdL n X s) {k l : Int} (h0 : 0 ≤ k) (h4 : k < 4 * n) (l0 : 0 ≤ l) (l4 : l < 4 * n) (e : k = l + 1 ∨ l = k + 1) : ¬ (X (outer n k) = true ∧ X (outer n l) = true) := by
  rintro ⟨a, b⟩
  rw [hX.bnd k h0 h4] at a
  rw [hX.bnd l l0 l4] at b
  have a := of_decide_eq_true a
  have b := of_decide_eq_true b
  omega
theorem alt_in {a b : Int} (h : alt n X a b = true) : 0 ≤ a ∧ a + 1 < n ∧ 0 ≤ b ∧ b + 1 < n := by
  unfold alt at h
  rw [Bool.and_eq_true] at h
  exact of_decide_eq_true h.1
theorem alt_ne {a b : Int} (h : alt n X a b = true) : X (.h a (b + 1)) = !X (.v (a + 1) b) ∧ X (.h a (b + 1)) = !X (.v (a + 1) (b + 1)) ∧ X (.h (a + 1) (b + 1)) = !X (.v (a + 1) b) ∧ X (.h (a + 1) (b + 1)) = !X (.v (a + 1) (b + 1)) := by
  unfold alt at h
  rw [Bool.and_eq_true] at h
  have h2 := h.2
  clear h
  revert h2
  cases X (.h a (b + 1)) <;> cases X (.v (a + 1) b) <;> cases X (.h (a + 1) (b + 1)) <;> cases X (.v (a + 1) (b + 1)) <;> simp
theorem alt_no {a b : Int} (hi : 0 ≤ a ∧ a + 1 < n ∧ 0 ≤ b ∧ b + 1 < n) (h : alt n X a b = false) : ¬ (X (.h a (b + 1)) = X (.h (a + 1) (b + 1)) ∧ X (.v (a + 1) b) = X (.v (a + 1) (b + 1)) ∧ X (.h a (b + 1)) ≠ X (.v (a + 1) b)) := by
  unfold alt at h
  rw [decide_eq_true hi, Bool.true_and] at h
  revert h
  cases X (.h a (b + 1)) <;> cases X (.v (a + 1) b) <;> cases X (.h (a + 1) (b + 1)) <;> cases X (.v (a + 1) (b + 1)) <;> simp

theorem lf_pure {U1 U2 U3 U4 : Prop} {_ : Decidable U1} {_ : Decidable U2} {_ : Decidable U3} {l1 l2 l3 l4 : α} (g1 : U1 → U3 → l1 = l3) (g2 : U1 → U4 → l1 = l4) (g3 : U2 → U3 → l2 = l3) (g4 : U2 → U4 → l2 = l4)
    (o1 : U1 → U2 → U3 ∨ U4) (o2 : U3 → U4 → U1 ∨ U2) :
    (U1 → (if U1 then l1 else if U2 then l2 else if U3 then l3 else l4) = l1) ∧ (U2 → (if U1 then l1 else if U2 then l2 else if U3 then l3 else l4) = l2) ∧
    (U3 → (if U1 then l1 else if U2 then l2 else if U3 then l3 else l4) = l3) ∧ (U4 → (if U1 then l1 else if U2 then l2 else if U3 then l3 else l4) = l4) := by
  by_cases u1 : U1 <;> by_cases u2 : U2 <;> by_cases u3 : U3 <;> by_cases u4 : U4 <;> simp_all

theorem face_lab (hX : GdL n X s) (hl : Cons n X lab) {a b : Int} (ha : alt n X a b = false) :
    (Is n (.h a (b + 1)) ∧ X (.h a (b + 1)) = true → lf n X lab a b = lab (.h a (b + 1))) ∧ (Is n (.h (a + 1) (b + 1)) ∧ X (.h (a + 1) (b + 1)) = true → lf n X lab a b = lab (.h (a + 1) (b + 1))) ∧
    (Is n (.v (a + 1) b) ∧ X (.v (a + 1) b) = true → lf n X lab a b = lab (.v (a + 1) b)) ∧ (Is n (.v (a + 1) (b + 1)) ∧ X (.v (a + 1) (b + 1)) = true → lf n X lab a b = lab (.v (a + 1) (b + 1))) := by
  unfold lf
  refine lf_pure ?_ ?_ ?_ ?_ ?_ ?_
  · rintro ⟨i1, x1⟩ ⟨i2, x2⟩
    simp only [Is] at i1 i2
    exact hl a b (by unfold Ins; omega) 2 1 (by decide) (by decide) x1 x2
  · rintro ⟨i1, x1⟩ ⟨i2, x2⟩
    simp only [Is] at i1 i2
    exact hl a (b + 1) (by unfold Ins; omega) 0 1 (by decide) (by decide) x1 x2
  · rintro ⟨i1, x1⟩ ⟨i2, x2⟩
    simp only [Is] at i1 i2
    exact hl (a + 1) b (by unfold Ins; omega) 2 3 (by decide) (by decide) x1 x2
  · rintro ⟨i1, x1⟩ ⟨i2, x2⟩
    simp only [Is] at i1 i2
    exact hl (a + 1) (b + 1) (by unfold Ins; omega) 0 3 (by decide) (by decide) x1 x2
  · rintro ⟨i1, x1⟩ ⟨i2, x2⟩
    simp only [Is] at i1 i2 ⊢
    by_cases c1 : b = -1
    · exfalso
      subst c1
      change X (.h a 0) = true at x1
      change X (.h (a + 1) 0) = true at x2
      rw [← outer_h0 (n := n) (i := a) (by omega)] at x1
      exact hX.turns (k := a) (l := a + 1) (by omega) (by omega) (by omega) (by omega) (by omega) ⟨x1, by rw [outer_h0 (by omega)]; exact x2⟩
    · by_cases c2 : b + 1 = n
      · exfalso
        rw [c2] at x1 x2
        rw [← outer_hn (n := n) (i := a) (by omega) (by omega)] at x1
        rw [← outer_hn (n := n) (i := a + 1) (by omega) (by omega)] at x2
        exact hX.turns (by omega) (by omega) (by omega) (by omega) (by omega) ⟨x1, x2⟩
      · have := alt_no (X := X) (by omega) ha
        rw [x1, x2] at this
        cases e3 : X (.v (a + 1) b) with
        | true => exact .inl ⟨by omega, rfl⟩
        | false =>
          cases e4 : X (.v (a + 1) (b + 1)) with
          | true => exact .inr ⟨by omega, rfl⟩
          | false => rw [e3, e4] at this; simp at this
  · rintro ⟨i1, x1⟩ ⟨i2, x2⟩
    simp only [Is] at i1 i2 ⊢
    by_cases c1 : a = -1
    · exfalso
      subst c1
      change X (.v 0 b) = true at x1
      change X (.v 0 (b + 1)) = true at x2
      rw [← outer_v0 (n := n) (j := b) (by omega) (by omega)] at x1
      rw [← outer_v0 (n := n) (j := b + 1) (by omega) (by omega)] at x2
      exact hX.turns (by omega) (by omega) (by omega) (by omega) (by omega) ⟨x1, x2⟩
    · by_cases c2 : a + 1 = n
      · exfalso
        rw [c2] at x1 x2
        rw [← outer_vn (n := n) (j := b) (by omega) (by omega)] at x1
        rw [← outer_vn (n := n) (j := b + 1) (by omega) (by omega)] at x2
        exact hX.turns (by omega) (by omega) (by omega) (by omega) (by omega) ⟨x1, x2⟩
      · have := alt_no (X := X) (by omega) ha
        rw [x1, x2] at this
        cases e3 : X (.h a (b + 1)) with
        | true => exact .inl ⟨by omega, rfl⟩
        | false =>
          cases e4 : X (.h (a + 1) (b + 1)) with
          | true => exact .inr ⟨by omega, rfl⟩
          | false => rw [e3, e4] at this; simp at this
/-- The label of a face is that of each of its lines. -/
theorem fc_lab (hX : GdL n X s) (hl : Cons n X lab) {e : Ed} (hi : Is n e) (hx : X e = true) (ha : alt n X (fcR p e) (fcQ p e) = false) : lf n X lab (fcR p e) (fcQ p e) = lab e := by
  obtain ⟨f1, f2, f3, f4⟩ := face_lab hX hl ha
  cases e with
  | h i j =>
    unfold fcR fcQ at *
    simp only at f1 f2 f3 f4 ha ⊢
    rw [show j - 1 + 1 = j by omega] at *
    split at ha
    · rename_i c
      rw [if_pos c] at *
      exact f1 ⟨hi, hx⟩
    · rename_i c
      rw [if_neg c] at *
      rw [show i - 1 + 1 = i by omega] at *
      exact f2 ⟨hi, hx⟩
  | v i j =>
    unfold fcR fcQ at *
    simp only at f1 f2 f3 f4 ha ⊢
    rw [show i - 1 + 1 = i by omega] at *
    split at ha
    · rename_i c
      rw [if_pos c] at *
      exact f3 ⟨hi, hx⟩
    · rename_i c
      rw [if_neg c] at *
      rw [show j - 1 + 1 = j by omega] at *
      exact f4 ⟨hi, hx⟩

/-- One box: its edges by twos in two faces. -/
theorem box_two {x1 x2 x3 x4 f g : Bool} (h : Two x1 x2 x3 x4) (hf : f = true → x1 = !x2) (hg : g = true → x3 = !x4) :
    Two (if f then x1 else !x1) (if f then x2 else !x2) (if g then x3 else !x3) (if g then x4 else !x4) := by
  revert h hf hg
  revert x1 x2 x3 x4 f g
  decide
theorem box_lab {x1 x2 x3 x4 f g : Bool} {l1 l2 l3 l4 u v : α} (h : Two x1 x2 x3 x4) (hf : f = true → x1 = !x2) (hg : g = true → x3 = !x4)
    (u1 : f = false → x1 = true → u = l1) (u2 : f = false → x2 = true → u = l2) (v3 : g = false → x3 = true → v = l3) (v4 : g = false → x4 = true → v = l4)
    (e12 : x1 = true → x2 = true → l1 = l2) (e13 : x1 = true → x3 = true → l1 = l3) (e14 : x1 = true → x4 = true → l1 = l4) (e23 : x2 = true → x3 = true → l2 = l3) (e24 : x2 = true → x4 = true → l2 = l4) (e34 : x3 = true → x4 = true → l3 = l4) :
    ((if f then x1 else !x1) = true → (if f then x2 else !x2) = true → (if f then l1 else u) = (if f then l2 else u)) ∧
    ((if f then x1 else !x1) = true → (if g then x3 else !x3) = true → (if f then l1 else u) = (if g then l3 else v)) ∧
    ((if f then x1 else !x1) = true → (if g then x4 else !x4) = true → (if f then l1 else u) = (if g then l4 else v)) ∧
    ((if f then x2 else !x2) = true → (if g then x3 else !x3) = true → (if f then l2 else u) = (if g then l3 else v)) ∧
    ((if f then x2 else !x2) = true → (if g then x4 else !x4) = true → (if f then l2 else u) = (if g then l4 else v)) ∧
    ((if g then x3 else !x3) = true → (if g then x4 else !x4) = true → (if g then l3 else v) = (if g then l4 else v)) := by
  cases x1 <;> cases x2 <;> cases x3 <;> cases x4 <;> (try exact absurd h (by decide)) <;> cases f <;> cases g <;> (first | exact absurd (hf rfl) (by decide) | exact absurd (hg rfl) (by decide) | grind)

theorem Two.swap {a b c d : Bool} (h : Two a b c d) : Two a d b c ∧ Two a b c d ∧ Two a d c b := by
  revert h; revert a b c d; decide

theorem alt_edge {a b : Int} (h : a < 0 ∨ n ≤ a + 1 ∨ b < 0 ∨ n ≤ b + 1) : alt n X a b = false := by
  cases e : alt n X a b with
  | false => rfl
  | true => have := alt_in e; omega

/-- The faces of a box' edges. -/
theorem fc_box (hp : p = 0 ∨ p = 1) (r q : Int) :
    ((r + q) % 2 = p ∧ fcR p (.h r q) = r - 1 ∧ fcQ p (.h r q) = q - 1 ∧ fcR p (.v r q) = r - 1 ∧ fcQ p (.v r q) = q - 1 ∧ fcR p (.h r (q + 1)) = r ∧ fcQ p (.h r (q + 1)) = q ∧ fcR p (.v (r + 1) q) = r ∧ fcQ p (.v (r + 1) q) = q) ∨
    ((r + q) % 2 ≠ p ∧ fcR p (.h r q) = r ∧ fcQ p (.h r q) = q - 1 ∧ fcR p (.v r q) = r - 1 ∧ fcQ p (.v r q) = q ∧ fcR p (.h r (q + 1)) = r - 1 ∧ fcQ p (.h r (q + 1)) = q ∧ fcR p (.v (r + 1) q) = r ∧ fcQ p (.v (r + 1) q) = q - 1) := by
  by_cases c : (r + q) % 2 = p
  · left
    refine ⟨c, ?_, ?_, ?_, ?_, ?_, ?_, ?_, ?_⟩ <;> simp only [fcR, fcQ] <;> (repeat' split) <;> omega
  · right
    refine ⟨c, ?_, ?_, ?_, ?_, ?_, ?_, ?_, ?_⟩ <;> simp only [fcR, fcQ] <;> (repeat' split) <;> omega

/-- What two edges of each box do. -/
theorem half_box (hX : GdL n X s) (hp : p = 0 ∨ p = 1) (hl : Cons n X lab) {r q : Int} (hi : Ins n r q) :
    Two (half n p X (.h r q)) (half n p X (.v (r + 1) q)) (half n p X (.h r (q + 1))) (half n p X (.v r q)) ∧
      ∀ c c', c < 4 → c' < 4 → half n p X (edAt r q c) = true → half n p X (edAt r q c') = true → labH n p X lab (edAt r q c) = labH n p X lab (edAt r q c') := by
  have tw := hX.two r q hi
  have i0 : Is n (.h r q) := by unfold Ins at hi; simp only [Is]; omega
  have i1 : Is n (.v (r + 1) q) := by unfold Ins at hi; simp only [Is]; omega
  have i2 : Is n (.h r (q + 1)) := by unfold Ins at hi; simp only [Is]; omega
  have i3 : Is n (.v r q) := by unfold Ins at hi; simp only [Is]; omega
  have l0 := fun x a => fc_lab (p := p) hX hl i0 x a
  have l1 := fun x a => fc_lab (p := p) hX hl i1 x a
  have l2 := fun x a => fc_lab (p := p) hX hl i2 x a
  have l3 := fun x a => fc_lab (p := p) hX hl i3 x a
  have g : ∀ c c', c < 4 → c' < 4 → X (edAt r q c) = true → X (edAt r q c') = true → lab (edAt r q c) = lab (edAt r q c') := hl r q hi
  have g01 := g 0 1 (by decide) (by decide)
  have g02 := g 0 2 (by decide) (by decide)
  have g03 := g 0 3 (by decide) (by decide)
  have g12 := g 1 2 (by decide) (by decide)
  have g13 := g 1 3 (by decide) (by decide)
  have g23 := g 2 3 (by decide) (by decide)
  have g31 := g 3 1 (by decide) (by decide)
  have g32 := g 3 2 (by decide) (by decide)
  have g21 := g 2 1 (by decide) (by decide)
  simp only [edAt] at g01 g02 g03 g12 g13 g23 g31 g32 g21
  have fin : ∀ {Y : Cf} {l : Ed → α}, (Y (.h r q) = true → Y (.v (r + 1) q) = true → l (.h r q) = l (.v (r + 1) q)) → (Y (.h r q) = true → Y (.h r (q + 1)) = true → l (.h r q) = l (.h r (q + 1))) →
      (Y (.h r q) = true → Y (.v r q) = true → l (.h r q) = l (.v r q)) → (Y (.v (r + 1) q) = true → Y (.h r (q + 1)) = true → l (.v (r + 1) q) = l (.h r (q + 1))) →
      (Y (.v (r + 1) q) = true → Y (.v r q) = true → l (.v (r + 1) q) = l (.v r q)) → (Y (.h r (q + 1)) = true → Y (.v r q) = true → l (.h r (q + 1)) = l (.v r q)) →
      ∀ c c', c < 4 → c' < 4 → Y (edAt r q c) = true → Y (edAt r q c') = true → l (edAt r q c) = l (edAt r q c') := by
    intro Y l a1 a2 a3 a4 a5 a6 c c' hc hc' y y'
    rcases lt4 hc with rfl | rfl | rfl | rfl <;> rcases lt4 hc' with rfl | rfl | rfl | rfl <;> simp only [edAt] at y y' ⊢
    · exact a1 y y'
    · exact a2 y y'
    · exact a3 y y'
    · exact (a1 y' y).symm
    · exact a4 y y'
    · exact a5 y y'
    · exact (a2 y' y).symm
    · exact (a4 y' y).symm
    · exact a6 y y'
    · exact (a3 y' y).symm
    · exact (a5 y' y).symm
    · exact (a6 y' y).symm
  rcases fc_box hp r q with ⟨_, a0, b0, a3, b3, a2, b2, a1, b1⟩ | ⟨_, a0, b0, a3, b3, a2, b2, a1, b1⟩
  · -- left and above; right and below
    rw [a0, b0] at l0
    rw [a1, b1] at l1
    rw [a2, b2] at l2
    rw [a3, b3] at l3
    have hf : alt n X (r - 1) (q - 1) = true → X (.h r q) = !X (.v r q) := fun h => by
      have := (alt_ne h).2.2.2
      rwa [show r - 1 + 1 = r by omega, show q - 1 + 1 = q by omega] at this
    have hg : alt n X r q = true → X (.h r (q + 1)) = !X (.v (r + 1) q) := fun h => (alt_ne h).1
    have tw2 : Two (X (.h r q)) (X (.v r q)) (X (.h r (q + 1))) (X (.v (r + 1) q)) := by unfold Two at tw ⊢; omega
    obtain ⟨m1, m2, m3, m4, m5, m6⟩ := box_lab (f := alt n X (r - 1) (q - 1)) (g := alt n X r q) (u := lf n X lab (r - 1) (q - 1)) (v := lf n X lab r q) tw2 hf hg (fun a x => l0 x a) (fun a x => l3 x a) (fun a x => l2 x a) (fun a x => l1 x a) g03 g02 g01 g32 g31 g21
    have tw3 := box_two tw2 hf hg
    unfold half labH
    simp only [a0, b0, a1, b1, a2, b2, a3, b3]
    refine ⟨by unfold Two at tw3 ⊢; omega, ?_⟩
    refine fin (Y := half n p X) (l := labH n p X lab) ?_ ?_ ?_ ?_ ?_ ?_ <;> unfold half labH <;> simp only [a0, b0, a1, b1, a2, b2, a3, b3]
    · exact m3
    · exact m2
    · exact m1
    · exact fun a b => (m6 b a).symm
    · exact fun a b => (m5 b a).symm
    · exact fun a b => (m4 b a).symm
  · rw [a0, b0] at l0
    rw [a1, b1] at l1
    rw [a2, b2] at l2
    rw [a3, b3] at l3
    have hf : alt n X r (q - 1) = true → X (.h r q) = !X (.v (r + 1) q) := fun h => by
      have := (alt_ne h).2.1
      rwa [show q - 1 + 1 = q by omega] at this
    have hg : alt n X (r - 1) q = true → X (.h r (q + 1)) = !X (.v r q) := fun h => by
      have := (alt_ne h).2.2.1
      rwa [show r - 1 + 1 = r by omega] at this
    have tw2 : Two (X (.h r q)) (X (.v (r + 1) q)) (X (.h r (q + 1))) (X (.v r q)) := tw
    obtain ⟨m1, m2, m3, m4, m5, m6⟩ := box_lab (f := alt n X r (q - 1)) (g := alt n X (r - 1) q) (u := lf n X lab r (q - 1)) (v := lf n X lab (r - 1) q) tw2 hf hg (fun a x => l0 x a) (fun a x => l1 x a) (fun a x => l2 x a) (fun a x => l3 x a) g01 g02 g03 g12 g13 g23
    have tw3 := box_two tw2 hf hg
    unfold half labH
    simp only [a0, b0, a1, b1, a2, b2, a3, b3]
    refine ⟨tw3, ?_⟩
    refine fin (Y := half n p X) (l := labH n p X lab) ?_ ?_ ?_ ?_ ?_ ?_ <;> unfold half labH <;> simp only [a0, b0, a1, b1, a2, b2, a3, b3]
    · exact m1
    · exact m2
    · exact m3
    · exact m4
    · exact m5
    · exact m6

/-- An outer line and the one before it lie on one face, which is not by turns. -/
theorem fc_outer (hn : 1 ≤ n) (_ : p = 0 ∨ p = 1) {k : Int} (h0 : 0 ≤ k) (h4 : k < 4 * n) (hk : k % 2 = p) :
    fcR p (outer n ((k + 4 * n - 1) % (4 * n))) = fcR p (outer n k) ∧ fcQ p (outer n ((k + 4 * n - 1) % (4 * n))) = fcQ p (outer n k) := by
  by_cases c0 : k = 0
  · subst c0
    rw [show (0 + 4 * n - 1) % (4 * n) = 4 * n - 1 - 0 by rw [Int.emod_eq_of_lt] <;> omega, outer_v0 (by omega) (by omega), outer_h0 (by omega)]
    refine ⟨?_, ?_⟩ <;> simp only [fcR, fcQ] <;> (repeat' split) <;> omega
  · have e : (k + 4 * n - 1) % (4 * n) = k - 1 := by
      rw [show k + 4 * n - 1 = (k - 1) + (4 * n) * 1 by omega, Int.add_mul_emod_self_left, Int.emod_eq_of_lt (by omega) (by omega)]
    rw [e]
    unfold outer
    by_cases c1 : k < n
    · rw [if_pos c1, if_pos (by omega)]
      refine ⟨?_, ?_⟩ <;> simp only [fcR, fcQ] <;> (repeat' split) <;> omega
    · rw [if_neg c1]
      by_cases c2 : k < 2 * n
      · rw [if_pos c2]
        by_cases c3 : k = n
        · rw [if_pos (by omega)]
          refine ⟨?_, ?_⟩ <;> simp only [fcR, fcQ] <;> (repeat' split) <;> omega
        · rw [if_neg (by omega), if_pos (by omega)]
          refine ⟨?_, ?_⟩ <;> simp only [fcR, fcQ] <;> (repeat' split) <;> omega
      · rw [if_neg c2]
        by_cases c4 : k < 3 * n
        · rw [if_pos c4]
          by_cases c3 : k = 2 * n
          · rw [if_neg (by omega), if_pos (by omega)]
            refine ⟨?_, ?_⟩ <;> simp only [fcR, fcQ] <;> (repeat' split) <;> omega
          · rw [if_neg (by omega), if_neg (by omega), if_pos (by omega)]
            refine ⟨?_, ?_⟩ <;> simp only [fcR, fcQ] <;> (repeat' split) <;> omega
        · rw [if_neg c4]
          by_cases c3 : k = 3 * n
          · rw [if_neg (by omega), if_neg (by omega), if_pos (by omega)]
            refine ⟨?_, ?_⟩ <;> simp only [fcR, fcQ] <;> (repeat' split) <;> omega
          · rw [if_neg (by omega), if_neg (by omega), if_neg (by omega)]
            refine ⟨?_, ?_⟩ <;> simp only [fcR, fcQ] <;> (repeat' split) <;> omega
theorem outer_cases (_ : 1 ≤ n) {k : Int} (h0 : 0 ≤ k) (h4 : k < 4 * n) : (∃ i, 0 ≤ i ∧ i < n ∧ (outer n k = .h i 0 ∨ outer n k = .h i n ∨ outer n k = .v 0 i ∨ outer n k = .v n i)) := by
  unfold outer
  split
  · exact ⟨k, by omega, by omega, .inl rfl⟩
  · split
    · exact ⟨k - n, by omega, by omega, .inr (.inr (.inr rfl))⟩
    · split
      · exact ⟨3 * n - 1 - k, by omega, by omega, .inr (.inl rfl)⟩
      · exact ⟨4 * n - 1 - k, by omega, by omega, .inr (.inr (.inl rfl))⟩
theorem outer_noalt (hn : 1 ≤ n) {k : Int} (h0 : 0 ≤ k) (h4 : k < 4 * n) : alt n X (fcR p (outer n k)) (fcQ p (outer n k)) = false := by
  refine alt_edge ?_
  obtain ⟨i, i0, i1, e⟩ := outer_cases hn h0 h4
  rcases e with e | e | e | e <;> rw [e] <;> unfold fcR fcQ <;> simp only <;> (repeat' split) <;> omega
theorem outer_is (hn : 1 ≤ n) {k : Int} (h0 : 0 ≤ k) (h4 : k < 4 * n) : Is n (outer n k) := by
  obtain ⟨i, i0, i1, e⟩ := outer_cases hn h0 h4
  rcases e with e | e | e | e <;> rw [e] <;> simp only [Is] <;> omega

theorem half_gdl (hX : GdL n X s) (hp : p = 0 ∨ p = 1) : GdL n (half n p X) (1 - s) := by
  refine ⟨hX.pos, by have := hX.par; omega, fun r q hi => (half_box hX hp (seen_cons hX) hi).1, fun k h0 h4 => ?_⟩
  unfold half
  rw [outer_noalt hX.pos h0 h4, hX.bnd k h0 h4]
  have := hX.par
  by_cases c : k % 2 = s
  · rw [decide_eq_true c, decide_eq_false (by omega)]; rfl
  · rw [decide_eq_false c, decide_eq_true (by omega)]; rfl
theorem half_cons (hX : GdL n X s) (hp : p = 0 ∨ p = 1) (hl : Cons n X lab) : Cons n (half n p X) (labH n p X lab) := fun _ _ hi => (half_box hX hp hl hi).2
theorem half_line (hX : GdL n X s) (hp : p = 0 ∨ p = 1) (hl : Cons n X lab) {k : Int} (h0 : 0 ≤ k) (h4 : k < 4 * n) (hk : k % 2 = p) (hs : k % 2 = s) : labH n p X lab (outer n ((k + 4 * n - 1) % (4 * n))) = lab (outer n k) := by
  obtain ⟨e1, e2⟩ := fc_outer hX.pos hp h0 h4 hk
  unfold labH
  rw [e1, e2, outer_noalt hX.pos h0 h4]
  simp only [Bool.false_eq_true, if_false]
  refine fc_lab hX hl (outer_is hX.pos h0 h4) ?_ (outer_noalt hX.pos h0 h4)
  rw [hX.bnd k h0 h4, decide_eq_true hs]
/-- Both halves. -/
def gyr (n : Int) (X : Cf) : Cf := gy n 1 (gy n 0 X)
theorem alt_not {a b : Int} : alt n (fun e => !X e) a b = alt n X a b := by
  unfold alt
  simp only
  cases X (.h a (b + 1)) <;> cases X (.v (a + 1) b) <;> cases X (.h (a + 1) (b + 1)) <;> cases X (.v (a + 1) (b + 1)) <;> rfl
theorem half_eq : half n p X = fun e => !gy n p X e := by
  funext e
  unfold half gy
  split <;> simp
theorem gyr_half : gyr n X = half n 1 (half n 0 X) := by
  rw [half_eq (p := 0)]
  funext e
  unfold gyr half
  rw [alt_not]
  rw [gy]
  simp
/-- WIELAND'S. -/
theorem wieland (hX : GdL n X 0) {k k' : Int} (h0 : 0 ≤ k) (h4 : k < 4 * n) (hk : k % 2 = 0) (h : Lnk n X k k') : GdL n (gyr n X) 0 ∧ Lnk n (gyr n X) ((k + 4 * n - 2) % (4 * n)) ((k' + 4 * n - 2) % (4 * n)) := by
  have hn := hX.pos
  have h1 := half_gdl (p := 0) hX (.inl rfl)
  have h2 := half_gdl (p := 1) h1 (.inr rfl)
  rw [gyr_half]
  refine ⟨h2, ?_⟩
  have c0 := seen_cons hX
  have c1 := half_cons (p := 0) hX (.inl rfl) c0
  have c2 := half_cons (p := 1) h1 (.inr rfl) c1
  have two : ∀ x, 0 ≤ x → x < 4 * n → x % 2 = 0 → (0 ≤ (x + 4 * n - 2) % (4 * n) ∧ (x + 4 * n - 2) % (4 * n) < 4 * n ∧ ((x + 4 * n - 2) % (4 * n)) % 2 = 0 ∧
      labH n 1 (half n 0 X) (labH n 0 X (seen n X 0)) (outer n ((x + 4 * n - 2) % (4 * n))) = seen n X 0 (outer n x)) := by
    intro x x0 x4 xe
    have e1 : 0 ≤ (x + 4 * n - 1) % (4 * n) ∧ (x + 4 * n - 1) % (4 * n) < 4 * n ∧ ((x + 4 * n - 1) % (4 * n)) % 2 = 1 ∧ ((x + 4 * n - 1) % (4 * n) + 4 * n - 1) % (4 * n) = (x + 4 * n - 2) % (4 * n) := by
      by_cases c : x = 0
      · subst c
        rw [show (0 + 4 * n - 1) % (4 * n) = 4 * n - 1 by rw [Int.emod_eq_of_lt] <;> omega, show 4 * n - 1 + 4 * n - 1 = (0 + 4 * n - 2) + (4 * n) * 1 by omega, Int.add_mul_emod_self_left]
        omega
      · rw [show (x + 4 * n - 1) % (4 * n) = x - 1 by rw [show x + 4 * n - 1 = (x - 1) + (4 * n) * 1 by omega, Int.add_mul_emod_self_left, Int.emod_eq_of_lt (by omega) (by omega)], show x - 1 + 4 * n - 1 = x + 4 * n - 2 by omega]
        omega
    have e2 : 0 ≤ (x + 4 * n - 2) % (4 * n) ∧ (x + 4 * n - 2) % (4 * n) < 4 * n ∧ ((x + 4 * n - 2) % (4 * n)) % 2 = 0 := by
      by_cases c : x = 0
      · subst c
        rw [show (0 + 4 * n - 2) % (4 * n) = 4 * n - 2 by rw [Int.emod_eq_of_lt] <;> omega]
        omega
      · rw [show (x + 4 * n - 2) % (4 * n) = x - 2 by rw [show x + 4 * n - 2 = (x - 2) + (4 * n) * 1 by omega, Int.add_mul_emod_self_left, Int.emod_eq_of_lt (by omega) (by omega)]]
        omega
    refine ⟨e2.1, e2.2.1, e2.2.2, ?_⟩
    rw [← e1.2.2.2, half_line h1 (.inr rfl) c1 e1.1 e1.2.1 e1.2.2.1 e1.2.2.1, half_line hX (.inl rfl) c0 x0 x4 xe xe]
  obtain ⟨a, b, c⟩ := h.end_ hX h0 h4 hk
  obtain ⟨t0, t4, te, tl⟩ := two k h0 h4 hk
  obtain ⟨z, hz⟩ := Lnk.any h2 t0 t4 te
  obtain ⟨z0, z4, ze⟩ := hz.end_ h2 t0 t4 te
  have hlab := hz.lab h2 c2 t0 t4 te
  rw [tl] at hlab
  -- z stands two back of some line
  obtain ⟨y, y0, y4, ye, yz⟩ : ∃ y, 0 ≤ y ∧ y < 4 * n ∧ y % 2 = 0 ∧ (y + 4 * n - 2) % (4 * n) = z := by
    by_cases cc : z + 2 < 4 * n
    · refine ⟨z + 2, by omega, cc, by omega, ?_⟩
      rw [show z + 2 + 4 * n - 2 = z + (4 * n) * 1 by omega, Int.add_mul_emod_self_left, Int.emod_eq_of_lt z0 z4]
    · refine ⟨0, by omega, by omega, by omega, ?_⟩
      rw [Int.emod_eq_of_lt (by omega) (by omega)]
      omega
  have ty := (two y y0 y4 ye).2.2.2
  rw [yz, ← hlab] at ty
  rcases seen_sharp hX h0 h4 hk y0 y4 ty with e | e
  · subst e
    exact absurd yz.symm (hz.ne h2 t0 t4 te)
  · rw [h.one e, yz]
    exact hz
end
end Go.Proofs.Ytdmpbbgcifodeaa
