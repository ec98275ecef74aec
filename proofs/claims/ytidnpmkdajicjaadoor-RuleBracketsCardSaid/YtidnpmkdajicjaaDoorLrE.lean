/-
  Plain: from the empty shape there is one good chain; so a product does not hang on its order, nor on brackets.
-/
import Derived.Test.YtidnpmkdajicjaaDoorLrG
namespace Go.Proofs.YtidnpmkdajicjaaDoor.LR

section
def part (R : Nat) (b : List Nat) (l : Nat) : List Nat := ofFn R (fun r => if r < l then at0 b r else 0)
def pad (R : Nat) (b : List Nat) : List Nat := ofFn R (at0 b)
def can (R : Nat) (b : List Nat) : Nat → Nat → List (List Nat)
  | _, 0 => []
  | l, n + 1 => part R b (l + 1) :: can R b (l + 1) n
end
theorem at0_part {R l r : Nat} {b : List Nat} (h : r < R) : at0 (part R b l) r = if r < l then at0 b r else 0 := at0_ofFn h
theorem at0_part_far {R l r : Nat} {b : List Nat} (h : R ≤ r) : at0 (part R b l) r = 0 := at0_ofFn_far h
theorem part_all {R l : Nat} {b : List Nat} (h : b.length ≤ l) : part R b l = pad R b := by
  refine shape_ext ofFn_len ofFn_len (fun r hr => ?_)
  rw [at0_part hr, pad, at0_ofFn hr]
  by_cases c : r < l
  · simp [c]
  · simp [c, at0_far (show b.length ≤ r by omega)]
theorem at0_down {b : List Nat} (hb : b.Pairwise (· ≥ ·)) {r s : Nat} (h : r ≤ s) : at0 b s ≤ at0 b r := by
  by_cases hs : s < b.length
  · rw [at0_get hs, at0_get (show r < b.length by omega)]
    by_cases e : r = s
    · subst e; exact Nat.le_refl _
    · exact (List.pairwise_iff_getElem.1 hb) r s (by omega) hs (by omega)
  · rw [at0_far (by omega)]; omega
theorem drop_at {b : List Nat} {l : Nat} (h : l < b.length) : b.drop l = at0 b l :: b.drop (l + 1) := by
  rw [List.drop_eq_getElem_cons h, at0_get h]
theorem rs_one {R l : Nat} {f : Nat → Nat} (h : l < R) (h0 : ∀ r, r < R → r ≠ l → f r = 0) : rs R f = f l := by
  induction R with
  | zero => omega
  | succ n ih =>
    simp only [rs]
    by_cases e : l = n
    · subst e
      have : rs l f = rs l (fun _ => 0) := rs_congr (fun r hr => h0 r (by omega) (by omega))
      rw [this, rs_zero]; omega
    · rw [ih (by omega) (fun r hr => h0 r (by omega)), h0 n (by omega) (by omega)]; omega
theorem sz_part {R l : Nat} {b : List Nat} (h : l < R) : sz R (part R b (l + 1)) = sz R (part R b l) + at0 b l := by
  have e : sz R (part R b (l + 1)) = rs R (fun r => at0 (part R b l) r + (if r = l then at0 b l else 0)) := by
    refine rs_congr (fun r hr => ?_)
    rw [at0_part hr, at0_part hr]
    by_cases c : r = l
    · subst c; simp
    · by_cases c2 : r < l
      · simp [c, c2, show r < l + 1 by omega]
      · simp [c, c2, show ¬ r < l + 1 by omega]
  rw [e, rs_add, rs_one (f := fun r => if r = l then at0 b l else 0) h (fun r _ hne => by simp [hne])]
  simp [sz]
theorem tr_part {R l j : Nat} {b : List Nat} (h : l < R) : tr R j (part R b (l + 1)) = tr R j (part R b l) + (at0 b l - j) := by
  have e : tr R j (part R b (l + 1)) = rs R (fun r => (at0 (part R b l) r - j) + (if r = l then at0 b l - j else 0)) := by
    refine rs_congr (fun r hr => ?_)
    rw [at0_part hr, at0_part hr]
    by_cases c : r = l
    · subst c; simp
    · by_cases c2 : r < l
      · simp [c, c2, show r < l + 1 by omega]
      · simp [c, c2, show ¬ r < l + 1 by omega]
  rw [e, rs_add, rs_one (f := fun r => if r = l then at0 b l - j else 0) h (fun r _ hne => by simp [hne])]
  simp [tr]

/-- The next level is forced. -/
theorem forced {R l : Nat} {b s : List Nat} (hb : b.Pairwise (· ≥ ·)) (hl : 0 < l) (hlR : l < R) (hs : s.length = R) (h : HS R (part R b l) s)
    (hg : ∀ j, tr R j s + tr R j (part R b (l - 1)) ≤ 2 * tr R j (part R b l)) (hw : sz R s - sz R (part R b l) = at0 b l) : s = part R b (l + 1) := by
  have g := hg (at0 b (l - 1))
  have t := tr_part (R := R) (j := at0 b (l - 1)) (b := b) (l := l - 1) (by omega)
  rw [show l - 1 + 1 = l from by omega] at t
  have each := rs_eq_each (f := fun r => at0 (part R b l) r - at0 b (l - 1)) (g := fun r => at0 s r - at0 b (l - 1)) (n := R)
    (fun r hr => by have := (h r hr).1; show _ - _ ≤ _ - _; omega) (by unfold tr at g t; omega)
  have low : ∀ r, r < l → at0 s r = at0 b r := by
    intro r hr
    have e := each r (by omega)
    have m := (h r (by omega)).1
    have d := at0_down hb (show r ≤ l - 1 by omega)
    simp only [at0_part (show r < R by omega), hr, if_true] at e m
    omega
  have high : ∀ r, l < r → at0 s r = 0 := by
    intro r hr
    by_cases c : r < R
    · have := (h (r - 1) (by omega)).2
      rw [show r - 1 + 1 = r from by omega, at0_part (by omega)] at this
      simp only [show ¬ r - 1 < l by omega, if_false] at this
      omega
    · exact at0_far (by omega)
  have e : sz R s = rs R (fun r => at0 (part R b l) r + (if r = l then at0 s l else 0)) := by
    refine rs_congr (fun r hr => ?_)
    rw [at0_part hr]
    by_cases c : r = l
    · subst c; simp
    · by_cases c2 : r < l
      · simp [c, c2, low r c2]
      · simp [c, c2, high r (by omega)]
  rw [rs_add, rs_one (f := fun r => if r = l then at0 s l else 0) hlR (fun r _ hne => by simp [hne])] at e
  simp only [if_true] at e
  have e' : sz R s = sz R (part R b l) + at0 s l := e
  refine shape_ext hs ofFn_len (fun r hr => ?_)
  rw [at0_part hr]
  by_cases c : r < l
  · simp [low r c, show r < l + 1 by omega]
  · by_cases c2 : r = l
    · subst c2; simp; omega
    · simp [high r (by omega), show ¬ r < l + 1 by omega]

theorem forced_all {R M : Nat} {b d : List Nat} (hb : b.Pairwise (· ≥ ·)) (hbR : b.length ≤ R) : ∀ (X : List (List Nat)) (l : Nat), 0 < l → l + X.length = b.length →
    (∀ q ∈ X, q ∈ shapes R M) → Ch R (part R b l) X d → wt R (part R b l) X = b.drop l → (∀ j i, bad R (part R b (l - 1)) (part R b l :: X) j i = false) → X = can R b l X.length ∧ d = part R b b.length
  | [], l, _, hk, _, hc, _, _ => by
    simp at hk
    refine ⟨rfl, ?_⟩
    simp only [Ch] at hc
    rw [← hc, hk]
  | s :: X, l, hl, hk, hm, hc, hw, hg => by
    have hl' : l < b.length := by simp at hk; omega
    rw [drop_at hl', wt] at hw
    have hw' := List.cons.inj hw
    have e := forced hb hl (by omega) (mem_shapes.1 (hm s (by simp))).1 hc.1 (fun j => by
      have := of_decide_eq_false (hg j 0)
      omega) hw'.1
    have i := forced_all hb hbR X (l + 1) (by omega) (by simp at hk; omega) (fun q hq => hm q (by simp [hq])) (by rw [← e]; exact hc.2) (by rw [← e]; exact hw'.2)
      (by rw [← e, show l + 1 - 1 = l from by omega]; exact fun j i => hg j (i + 1))
    refine ⟨?_, i.2⟩
    simp only [List.length_cons, can]
    rw [← i.1, ← e]

theorem can_ok {R M : Nat} {b : List Nat} (hb : b.Pairwise (· ≥ ·)) (hM : ∀ x ∈ b, x ≤ M) : ∀ (n l : Nat), l + n ≤ R → (l + n = b.length) →
    (can R b l n).length = n ∧ (∀ q ∈ can R b l n, q ∈ shapes R M) ∧ Ch R (part R b l) (can R b l n) (part R b b.length) ∧ wt R (part R b l) (can R b l n) = b.drop l ∧
    (∀ j i, bad R (part R b l) (can R b l n) j i = false)
  | 0, l, _, h2 => by
    refine ⟨rfl, by simp [can], by simp only [can, Ch]; rw [← h2]; simp, by simp [can, wt, show b.length ≤ l by omega], fun j i => bad_short (by simp [can])⟩
  | n + 1, l, h1, h2 => by
    obtain ⟨i1, i2, i3, i4, i5⟩ := can_ok (R := R) (M := M) hb hM n (l + 1) (by omega) (by omega)
    have mem : ∀ l, part R b l ∈ shapes R M := by
      intro l
      refine shape_of ofFn_len (fun r hr => ?_)
      rw [at0_part hr]
      by_cases c : r < l
      · simp only [c, if_true]
        by_cases c2 : r < b.length
        · rw [at0_get c2]; exact hM _ (List.getElem_mem c2)
        · rw [at0_far (by omega)]; omega
      · simp [c]
    refine ⟨by simp [can, i1], fun q hq => ?_, ⟨fun r hr => ⟨?_, ?_⟩, i3⟩, ?_, fun j i => ?_⟩
    · simp only [can, List.mem_cons] at hq
      rcases hq with rfl | hq
      · exact mem _
      · exact i2 q hq
    · rw [at0_part hr, at0_part hr]
      by_cases c : r < l
      · simp [c, show r < l + 1 by omega]
      · simp [c]
    · by_cases c : r + 1 < R
      · rw [at0_part c, at0_part hr]
        by_cases c2 : r < l
        · have := at0_down hb (show r ≤ r + 1 by omega)
          simp only [c2, show r + 1 < l + 1 by omega, if_true]; omega
        · simp [c2]
      · rw [at0_part_far (by omega)]; omega
    · simp only [can, wt, i4]
      rw [drop_at (show l < b.length by omega), sz_part (by omega)]
      simp
    · match n, i5 with
      | 0, _ => 
        match i with
        | 0 => rfl
        | i + 1 => exact bad_short (by simp [can])
      | n + 1, i5 =>
        match i with
        | 0 =>
          have t1 := tr_part (R := R) (j := j) (b := b) (l := l) (by omega)
          have t2 := tr_part (R := R) (j := j) (b := b) (l := l + 1) (by omega)
          have d := at0_down hb (show l ≤ l + 1 by omega)
          simp only [bad, can, List.map_cons, badN, decide_eq_false_iff_not]
          omega
        | i + 1 => exact i5 j i

theorem part_zero {R : Nat} {b : List Nat} : part R b 0 = ofFn R (fun _ => 0) := by simp [part]
def zero (R : Nat) : List Nat := ofFn R (fun _ => 0)
theorem zero_mem {R M : Nat} : zero R ∈ shapes R M := shape_of ofFn_len (fun r hr => by rw [zero, at0_ofFn hr]; omega)

theorem lr_zero {R M : Nat} {b d : List Nat} (hb : b.Pairwise (· ≥ ·)) (hbR : b.length ≤ R) (hM : ∀ x ∈ b, x ≤ M) : lr R M (zero R) b d = if d = pad R b then 1 else 0 := by
  have hz : zero R = part R b 0 := part_zero.symm
  have c := can_ok (R := R) (M := M) hb hM b.length 0 (by omega) (by omega)
  rw [← hz, part_all (Nat.le_refl _)] at c
  have one : ∀ X ∈ U R M (zero R) b.length d, (Good R M (zero R) X ∧ wt R (zero R) X = b) ↔ X = can R b 0 b.length := by
    intro X hX
    have hU := mem_U.1 hX
    have O : Ok R M (zero R) X d := ⟨zero_mem, hU.2.1, hU.2.2⟩
    constructor
    · rintro ⟨g, w⟩
      have g' := (good_all O).1 g
      match X, hU, w, g' with
      | [], hU, _, _ => rw [← hU.1]; rfl
      | q :: X, hU, w, g' =>
        have h0 : 0 < b.length := by have := hU.1; simp at this; omega
        have hq := hU.2.1 q (by simp)
        have eb : b = at0 b 0 :: b.drop 1 := by have := drop_at h0; simpa using this
        rw [eb, wt] at w
        have w' := List.cons.inj w
        have z0 : sz R (zero R) = 0 := by
          have : sz R (zero R) = rs R (fun _ => 0) := rs_congr (fun r hr => by rw [zero, at0_ofFn hr])
          rw [this, rs_zero]
        have hi : ∀ r, r < R → r ≠ 0 → at0 q r = 0 := by
          intro r hr hne
          have := (hU.2.2.1 (r - 1) (by omega)).2
          rw [show r - 1 + 1 = r from by omega, zero, at0_ofFn (by omega)] at this
          omega
        have e1 : sz R q = at0 q 0 := rs_one (by omega) hi
        have e : q = part R b 1 := by
          refine shape_ext (mem_shapes.1 hq).1 ofFn_len (fun r hr => ?_)
          rw [at0_part hr]
          by_cases c : r = 0
          · subst c; simp; omega
          · simp [hi r hr c, show ¬ r < 1 by omega]
        have f := forced_all (M := M) hb hbR X 1 (by omega) (by have := hU.1; simp at this; omega) (fun p hp => hU.2.1 p (by simp [hp])) (by rw [← e]; exact hU.2.2.2) (by rw [← e]; exact w'.2)
          (by rw [← e, show 1 - 1 = 0 from rfl, ← hz]; exact g')
        have l : b.length = X.length + 1 := by have := hU.1; simp at this; omega
        rw [l, can, ← f.1, ← e]
    · rintro rfl
      exact ⟨(good_all O).2 c.2.2.2.2, by simpa using c.2.2.2.1⟩
  unfold lr
  rw [S_congr (g := fun X => if X = can R b 0 b.length then 1 else 0) (fun X hX => by simp only [one X hX])]
  by_cases e : d = pad R b
  · rw [if_pos e]
    exact S_pick _ (fun _ => 1) _ U_nodup (mem_U.2 ⟨c.1, c.2.1, by rw [e]; exact c.2.2.1⟩)
  · rw [if_neg e]
    refine S_none _ (fun _ => 1) _ (fun h => e ?_)
    have hU := mem_U.1 h
    have key : ∀ (X : List (List Nat)) (a d d' : List Nat), Ch R a X d → Ch R a X d' → d = d' := by
      intro X
      induction X with
      | nil => intro a d d' h h'; rw [← h, ← h']
      | cons q X ih => intro a d d' h h'; exact ih q d d' h.2 h'.2
    exact key _ _ _ _ hU.2.2 c.2.2.1

theorem pad_mem {R M : Nat} {b : List Nat} (hM : ∀ x ∈ b, x ≤ M) : pad R b ∈ shapes R M := by
  refine shape_of ofFn_len (fun r hr => ?_)
  rw [pad, at0_ofFn hr]
  by_cases c : r < b.length
  · rw [at0_get c]; exact hM _ (List.getElem_mem c)
  · rw [at0_far (by omega)]; omega

structure Par (R M : Nat) (b : List Nat) : Prop where
  down : b.Pairwise (· ≥ ·)
  len : b.length ≤ R
  top : ∀ x ∈ b, x ≤ M

theorem lr_turn {R M : Nat} {b c e : List Nat} (hb : Par R M b) (hc : Par R M c) : lr R M (pad R b) c e = lr R M (pad R c) b e := by
  have h := lr_comm (R := R) (M := M) (a := zero R) (b := b) (c := c) (e := e) zero_mem hb.down hc.down
  have key : ∀ b c : List Nat, Par R M b → S (shapes R M) (fun d => lr R M (zero R) b d * lr R M d c e) = lr R M (pad R b) c e := by
    intro b c hb
    rw [S_congr (g := fun d => if d = pad R b then lr R M d c e else 0) (fun d _ => by
      rw [lr_zero hb.down hb.len hb.top]
      by_cases x : d = pad R b
      · simp [x]
      · simp [x])]
    exact S_pick _ (fun d => lr R M d c e) _ (shapes_nodup R M) (pad_mem hb.top)
  rw [key b c hb, key c b hc] at h
  exact h

/-- Products do not hang on brackets. -/
theorem brackets {R M : Nat} {a b c e : List Nat} (ha : Par R M a) (hb : Par R M b) (hc : Par R M c) :
    S (shapes R M) (fun d => lr R M (pad R a) b d * lr R M d c e) = S (shapes R M) (fun d => lr R M (pad R b) c d * lr R M d a e) := by
  rw [← lr_comm (pad_mem hb.top) ha.down hc.down]
  exact S_congr (fun d _ => by rw [lr_turn ha hb])
end Go.Proofs.YtidnpmkdajicjaaDoor.LR
