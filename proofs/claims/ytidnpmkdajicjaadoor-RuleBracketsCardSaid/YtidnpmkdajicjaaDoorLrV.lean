/-
  Plain: the ends of the search are the good chains.
-/
import Derived.Test.YtidnpmkdajicjaaDoorLrW
namespace Go.Proofs.YtidnpmkdajicjaaDoor.LR

structure Lv (k : Nat) (a c : Nat → Nat) (P : Nat → Nat → Nat) : Prop where
  m1 : ∀ l, l < k → ∀ r, P l r ≤ P (l + 1) r
  m2 : ∀ l, l < k → ∀ r, P (l + 1) (r + 1) ≤ P l r
  p0 : ∀ r, P 0 r = a r
  pk : ∀ r, P k r = c r
theorem Lv.mono {k : Nat} {a c : Nat → Nat} {P : Nat → Nat → Nat} (h : Lv k a c P) (r : Nat) : ∀ {l m : Nat}, l ≤ m → m ≤ k → P l r ≤ P m r := by
  intro l m hlm hmk
  induction m with
  | zero => rw [show l = 0 by omega]; exact Nat.le_refl _
  | succ m ih =>
    by_cases e : l = m + 1
    · subst e; exact Nat.le_refl _
    · exact Nat.le_trans (ih (by omega) (by omega)) (h.m1 m (by omega) r)
theorem Lv.down {k : Nat} {a c : Nat → Nat} {P : Nat → Nat → Nat} (h : Lv k a c P) (ad : ∀ r, a (r + 1) ≤ a r) {l : Nat} (hl : l ≤ k) (r : Nat) : P l (r + 1) ≤ P l r := by
  match l with
  | 0 => rw [h.p0, h.p0]; exact ad r
  | l + 1 => exact Nat.le_trans (h.m2 l (by omega) r) (h.m1 l (by omega) r)
theorem Lv.downs {k : Nat} {a c : Nat → Nat} {P : Nat → Nat → Nat} (h : Lv k a c P) (ad : ∀ r, a (r + 1) ≤ a r) {l : Nat} (hl : l ≤ k) {r s : Nat} (hrs : r ≤ s) : P l s ≤ P l r := by
  induction s with
  | zero => rw [show r = 0 by omega]; exact Nat.le_refl _
  | succ s ih =>
    by_cases e : r = s + 1
    · subst e; exact Nat.le_refl _
    · exact Nat.le_trans (h.down ad hl s) (ih (by omega))

/-- The filling F, where it is laid, is what the levels say. -/
def Agree (n : Nat) (a c : Nat → Nat) (i m : Nat) (F P : Nat → Nat → Nat) : Prop :=
  ∀ r j, Placed n a c i m r j → 1 ≤ F r j ∧ P (F r j - 1) r ≤ j ∧ j < P (F r j) r

theorem num_agree {n k : Nat} {a c : Nat → Nat} {i m y : Nat} {F P : Nat → Nat → Nat} (h : Lv k a c P) (ag : Agree n a c i m F P) (lo : ∀ r j, Placed n a c i m r j → F r j ≤ k) (hy : y < k)
    (far : ∀ r, n ≤ r → c r = 0) (hm : m ≤ c i) :
    num a c F i m y = rs i (fun r => P (y + 1) r - P y r) + (max (P (y + 1) i) m - max (P y i) m) := by
  have key : ∀ r j, Placed n a c i m r j → (F r j = y + 1 ↔ P y r ≤ j ∧ j < P (y + 1) r) := by
    intro r j hp
    obtain ⟨h1, h2, h3⟩ := ag r j hp
    have h4 := lo r j hp
    constructor
    · intro e; rw [e] at h2 h3; exact ⟨h2, h3⟩
    · rintro ⟨g1, g2⟩
      by_cases c1 : F r j ≤ y
      · have := h.mono r c1 (by omega); omega
      · by_cases c2 : y + 1 ≤ F r j - 1
        · have := h.mono r c2 (by omega); omega
        · omega
  unfold num
  congr 1
  · refine rs_congr (fun r hr => ?_)
    have e : rs (c r) (fun j => if a r ≤ j ∧ F r j = y + 1 then 1 else 0) = rs (c r) (fun j => if P y r ≤ j ∧ j < P (y + 1) r then 1 else 0) := by
      refine rs_congr (fun j hj => ?_)
      have hn : r < n := by
        by_cases hn : r < n
        · exact hn
        · have := far r (by omega); omega
      have l0 := h.mono r (Nat.zero_le y) (by omega)
      rw [h.p0] at l0
      by_cases ha : a r ≤ j
      · have := key r j ⟨⟨hn, ha, hj⟩, Or.inl hr⟩
        by_cases c1 : F r j = y + 1
        · rw [if_pos ⟨ha, c1⟩, if_pos (this.1 c1)]
        · rw [if_neg (fun x => c1 x.2), if_neg (fun x => c1 (this.2 x))]
      · rw [if_neg (fun x => ha x.1), if_neg (by omega)]
    rw [e, rs_ite (h.m1 y hy r)]
    have := h.mono r (show y + 1 ≤ k by omega) (Nat.le_refl _)
    rw [h.pk] at this
    have := h.m1 y hy r
    omega
  · have e : rs (c i) (fun j => if (a i ≤ j ∧ m ≤ j) ∧ F i j = y + 1 then 1 else 0) = rs (c i) (fun j => if max (P y i) m ≤ j ∧ j < max (P (y + 1) i) m then 1 else 0) := by
      refine rs_congr (fun j hj => ?_)
      have hn : i < n := by
        by_cases hn : i < n
        · exact hn
        · have := far i (by omega); omega
      have l0 := h.mono i (Nat.zero_le y) (by omega)
      rw [h.p0] at l0
      by_cases ha : a i ≤ j ∧ m ≤ j
      · have := key i j ⟨⟨hn, ha.1, hj⟩, Or.inr ⟨rfl, ha.2⟩⟩
        by_cases c1 : F i j = y + 1
        · have g := this.1 c1
          rw [if_pos ⟨ha, c1⟩, if_pos (by omega)]
        · rw [if_neg (fun x => c1 x.2), if_neg (fun x => c1 (this.2 (by omega)))]
      · rw [if_neg (fun x => ha x.1), if_neg (by omega)]
    have m1 := h.m1 y hy i
    rw [e, rs_ite (by omega)]
    have := h.mono i (show y + 1 ≤ k by omega) (Nat.le_refl _)
    rw [h.pk] at this
    omega

theorem rs_cut {R i : Nat} (h : i ≤ R) (f : Nat → Nat) : rs R (fun r => if r < i then f r else 0) = rs i f := by
  induction R with
  | zero => rw [show i = 0 by omega]; rfl
  | succ R ih =>
    by_cases e : i = R + 1
    · subst e; exact rs_congr (fun r hr => by simp [hr])
    · simp only [rs, ih (by omega), show ¬ R < i by omega, if_false]; rfl
theorem rs_at {R i v : Nat} (h : i < R) : rs R (fun r => if r = i then v else 0) = v := by
  rw [rs_one h (fun r _ hne => by simp [hne])]; simp
theorem rs_part {R i : Nat} (h : i ≤ R) (f : Nat → Nat) : rs i f ≤ rs R f := by
  rw [← rs_cut h f]
  refine rs_le (fun r _ => ?_)
  by_cases c : r < i
  · simp [c]
  · simp [c]

/-- What a good chain has at the next box may be laid there. -/
theorem may_of {R n k : Nat} {a c b : Nat → Nat} {i j x : Nat} {F P : Nat → Nat → Nat} {L Us : Nat → Nat} (S : Sh n a c) (hn : n ≤ R) (V : Lv k a c P) (inv : Inv n k a c b i (j + 1) F L Us)
    (ha : a i ≤ j) (hj : j < c i) (ag : Agree n a c i (j + 1) F P) (hx : x < k) (h1 : P x i ≤ j) (h2 : j < P (x + 1) i)
    (hw : ∀ y, y < k → b y = rs R (fun r => P (y + 1) r - P y r))
    (good : ∀ y, y + 2 ≤ k → ¬ 2 * rs R (fun r => P (y + 1) r - j) < rs R (fun r => P (y + 2) r - j) + rs R (fun r => P y r - j)) : may c i j x F L Us := by
  have lo : ∀ r s, Placed n a c i (j + 1) r s → F r s ≤ k := fun r s hp => (inv.low r s hp).2
  have hin : i < n := by
    by_cases hin : i < n
    · exact hin
    · have := S.far i (by omega); omega
  have nx := num_agree V ag lo hx S.far (by omega)
  have ux := inv.us x hx
  refine ⟨?_, fun hx0 => ?_, fun hj1 => ?_, fun hi0 => ?_⟩
  · have l := inv.lu x hx
    have t := hw x hx
    have p := rs_part (show i + 1 ≤ R by omega) (fun r => P (x + 1) r - P x r)
    simp only [rs] at p
    omega
  · obtain ⟨y, rfl⟩ : ∃ y, x = y + 1 := ⟨x - 1, by omega⟩
    rw [show y + 1 - 1 = y from rfl]
    have ny := num_agree V ag lo (show y < k by omega) S.far (by omega)
    have uy := inv.us y (by omega)
    have g := good y (by omega)
    have h2' : j < P (y + 2) i := h2
    have d1 : rs R (fun r => P (y + 1) r - j) + (rs i (fun r => P (y + 2) r - P (y + 1) r) + (P (y + 2) i - j)) ≤ rs R (fun r => P (y + 2) r - j) := by
      rw [← rs_cut (show i ≤ R by omega) (fun r => P (y + 2) r - P (y + 1) r), ← rs_at (show i < R by omega) (v := P (y + 2) i - j), ← rs_add, ← rs_add]
      refine rs_le (fun r _ => ?_)
      have m : P (y + 1) r ≤ P (y + 2) r := V.m1 (y + 1) (by omega) r
      by_cases c1 : r < i
      · have e1 : P (y + 2) (r + 1) ≤ P (y + 1) r := V.m2 (y + 1) (by omega) r
        have e2 := V.downs S.ad (show y + 2 ≤ k by omega) (show r + 1 ≤ i by omega)
        simp only [c1, if_true, show ¬ r = i by omega, if_false]
        omega
      · by_cases c2 : r = i
        · subst c2; simp only [c1, if_true, if_false]; omega
        · simp only [c1, c2, if_false]; omega
    have d2 : rs R (fun r => P (y + 1) r - j) ≤ rs R (fun r => P y r - j) + rs i (fun r => P (y + 1) r - P y r) := by
      rw [← rs_cut (show i ≤ R by omega) (fun r => P (y + 1) r - P y r), ← rs_add]
      refine rs_le (fun r _ => ?_)
      have m := V.m1 y (by omega) r
      by_cases c1 : r < i
      · simp only [c1, if_true]; omega
      · have e2 := V.downs S.ad (show y + 1 ≤ k by omega) (show i ≤ r by omega)
        simp only [c1, if_false]; omega
    have my := V.m1 y (by omega) i
    have nx' : num a c F i (j + 1) (y + 1) = rs i (fun r => P (y + 2) r - P (y + 1) r) + (max (P (y + 2) i) (j + 1) - max (P (y + 1) i) (j + 1)) := nx
    omega
  · have hp : Placed n a c i (j + 1) i (j + 1) := ⟨⟨hin, by omega, hj1⟩, Or.inr ⟨rfl, Nat.le_refl _⟩⟩
    obtain ⟨g1, g2, g3⟩ := ag i (j + 1) hp
    by_cases c1 : x + 1 ≤ F i (j + 1)
    · exact c1
    · have := V.mono i (show F i (j + 1) ≤ x by omega) (by omega)
      omega
  · obtain ⟨r, rfl⟩ : ∃ r, i = r + 1 := ⟨i - 1, by omega⟩
    rw [show r + 1 - 1 = r from rfl]
    by_cases c0 : a r ≤ j
    · have cd := S.cd r
      have hp : Placed n a c (r + 1) (j + 1) r j := ⟨⟨by omega, c0, by omega⟩, Or.inl (by omega)⟩
      obtain ⟨g1, g2, g3⟩ := ag r j hp
      by_cases c1 : F r j < x + 1
      · exact c1
      · have e1 := V.mono r (show x ≤ F r j - 1 by omega) (by have := lo r j hp; omega)
        have e2 := V.m2 x hx r
        omega
    · rw [inv.zer r j (by omega)]; omega

/- The levels of a whole filling. -/
theorem cut_at {a c : Nat} {p : Nat → Prop} (h : ∀ j, a ≤ j → j + 1 < c → p (j + 1) → p j) (hac : a ≤ c) : ∃ t, a ≤ t ∧ t ≤ c ∧ ∀ j, a ≤ j → j < c → (p j ↔ j < t) := by
  induction c with
  | zero => exact ⟨0, hac, Nat.le_refl _, by omega⟩
  | succ c ih =>
    by_cases e : a = c + 1
    · exact ⟨c + 1, by omega, Nat.le_refl _, by omega⟩
    · obtain ⟨t, t1, t2, t3⟩ := ih (fun j h1 h2 => h j h1 (by omega)) (by omega)
      by_cases pc : p c
      · refine ⟨c + 1, by omega, Nat.le_refl _, fun j h1 h2 => ⟨fun _ => by omega, fun _ => ?_⟩⟩
        have : ∀ d, d ≤ c → a ≤ c - d → p (c - d) := by
          intro d
          induction d with
          | zero => intro _ _; exact pc
          | succ d ihd =>
            intro h3 h4
            refine h _ h4 (by omega) ?_
            rw [show c - (d + 1) + 1 = c - d by omega]
            exact ihd (by omega) (by omega)
        have := this (c - j) (by omega) (by omega)
        rwa [show c - (c - j) = j by omega] at this
      · refine ⟨t, t1, by omega, fun j h1 h2 => ?_⟩
        by_cases e2 : j = c
        · subst e2
          exact ⟨fun h => absurd h pc, fun h => by omega⟩
        · exact t3 j h1 (by omega)

theorem row_col {R k : Nat} {a c : Nat → Nat} {P : Nat → Nat → Nat} (V : Lv k a c P) (ad : ∀ r, a (r + 1) ≤ a r) {x j : Nat} (hx : x + 2 ≤ k) (far : ∀ l r, l ≤ k → R ≤ r → P l r = 0)
    (hr : ∀ r, r < R → rs (r + 1) (fun t => P (x + 2) t - P (x + 1) t) ≤ rs r (fun t => P (x + 1) t - P x t)) :
    ¬ 2 * rs R (fun r => P (x + 1) r - j) < rs R (fun r => P (x + 2) r - j) + rs R (fun r => P x r - j) := by
  by_cases z : P (x + 2) 0 ≤ j
  · have e : rs R (fun r => P (x + 2) r - j) = rs R (fun _ => 0) := rs_congr (fun r _ => by have := V.downs ad hx (Nat.zero_le r); omega)
    have m : rs R (fun r => P x r - j) ≤ rs R (fun r => P (x + 1) r - j) := rs_le (fun r _ => by have := V.m1 x (by omega) r; omega)
    rw [e, rs_zero]; omega
  · have fnd : ∀ q, P (x + 2) q ≤ j → ∃ r, r < q ∧ j < P (x + 2) r ∧ P (x + 2) (r + 1) ≤ j := by
      intro q
      induction q with
      | zero => intro h; omega
      | succ q ih =>
        intro h
        by_cases c1 : P (x + 2) q ≤ j
        · obtain ⟨r, r1, r2⟩ := ih c1
          exact ⟨r, by omega, r2⟩
        · exact ⟨q, by omega, by omega, h⟩
    obtain ⟨r, r1, r2, r3⟩ := fnd R (by rw [far _ _ hx (Nat.le_refl _)]; omega)
    have hi : ∀ t, r < t → P (x + 2) t ≤ j := fun t ht => Nat.le_trans (V.downs ad hx (show r + 1 ≤ t by omega)) r3
    have lo : ∀ t, t ≤ r → j < P (x + 2) t := fun t ht => Nat.lt_of_lt_of_le r2 (V.downs ad hx ht)
    by_cases ca : r = 0 ∨ j ≤ P x (r - 1)
    · have g := hr r r1
      have d1 : rs R (fun t => P (x + 2) t - j) ≤ rs R (fun t => P (x + 1) t - j) + rs (r + 1) (fun t => P (x + 2) t - P (x + 1) t) := by
        rw [← rs_cut (show r + 1 ≤ R by omega) (fun t => P (x + 2) t - P (x + 1) t), ← rs_add]
        refine rs_le (fun t _ => ?_)
        by_cases c1 : t < r + 1
        · simp only [c1, if_true]; omega
        · have := hi t (by omega)
          simp only [c1, if_false]; omega
      have d2 : rs R (fun t => P x t - j) + rs r (fun t => P (x + 1) t - P x t) ≤ rs R (fun t => P (x + 1) t - j) := by
        rw [← rs_cut (show r ≤ R by omega) (fun t => P (x + 1) t - P x t), ← rs_add]
        refine rs_le (fun t _ => ?_)
        have m := V.m1 x (by omega) t
        by_cases c1 : t < r
        · have := V.downs ad (show x ≤ k by omega) (show t ≤ r - 1 by omega)
          simp only [c1, if_true]; omega
        · simp only [c1, if_false]; omega
      omega
    · obtain ⟨q, rfl⟩ : ∃ q, r = q + 1 := ⟨r - 1, by omega⟩
      rw [show q + 1 - 1 = q from rfl] at ca
      have g := hr q (by omega)
      have m2 : P (x + 2) (q + 1) ≤ P (x + 1) q := V.m2 (x + 1) (by omega) q
      have d1 : rs R (fun t => P (x + 2) t - j) ≤ rs R (fun t => P (x + 1) t - j) + (rs (q + 1) (fun t => P (x + 2) t - P (x + 1) t) + (P (x + 2) (q + 1) - j)) := by
        rw [← rs_cut (show q + 1 ≤ R by omega) (fun t => P (x + 2) t - P (x + 1) t), ← rs_at (show q + 1 < R by omega) (v := P (x + 2) (q + 1) - j), ← rs_add, ← rs_add]
        refine rs_le (fun t _ => ?_)
        by_cases c1 : t < q + 1
        · simp only [c1, if_true]; omega
        · by_cases c2 : t = q + 1
          · subst c2; simp only [c1, if_true, if_false]; omega
          · have := hi t (by omega)
            simp only [c1, c2, if_false]; omega
      have d2 : rs R (fun t => P x t - j) + (rs q (fun t => P (x + 1) t - P x t) + (P (x + 1) q - j)) ≤ rs R (fun t => P (x + 1) t - j) := by
        rw [← rs_cut (show q ≤ R by omega) (fun t => P (x + 1) t - P x t), ← rs_at (show q < R by omega) (v := P (x + 1) q - j), ← rs_add, ← rs_add]
        refine rs_le (fun t _ => ?_)
        have m := V.m1 x (by omega) t
        by_cases c1 : t < q
        · have e1 := V.m2 x (by omega) t
          have e2 := V.downs ad (show x + 1 ≤ k by omega) (show t + 1 ≤ q by omega)
          have e3 := lo (q + 1) (Nat.le_refl _)
          simp only [c1, if_true, show ¬ t = q by omega, if_false]; omega
        · by_cases c2 : t = q
          · subst c2; simp only [c1, if_true, if_false]; omega
          · simp only [c1, c2, if_false]; omega
      omega
end Go.Proofs.YtidnpmkdajicjaaDoor.LR
