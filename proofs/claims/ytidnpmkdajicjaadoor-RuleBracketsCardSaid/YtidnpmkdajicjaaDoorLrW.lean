/-
  Plain: a search, box by box, each row from the right, comes to as many ends as there are good chains.
-/
import Derived.Test.YtidnpmkdajicjaaDoorLrE
namespace Go.Proofs.YtidnpmkdajicjaaDoor.LR

/- The levels of a chain. -/
def lev (a : List Nat) (X : List (List Nat)) (l : Nat) : List Nat := (a :: X).getD l []
theorem lev_zero {a : List Nat} {X : List (List Nat)} : lev a X 0 = a := rfl
theorem lev_succ {a q : List Nat} {X : List (List Nat)} {l : Nat} : lev a (q :: X) (l + 1) = lev q X l := by
  simp [lev]
theorem lev_hs {R : Nat} {e : List Nat} : ∀ {X : List (List Nat)} {a : List Nat}, Ch R a X e → ∀ l, l < X.length → HS R (lev a X l) (lev a X (l + 1))
  | [], _, _, _, h => by simp at h
  | q :: X, a, hc, 0, _ => by rw [lev_succ, lev_zero, lev_zero]; exact hc.1
  | q :: X, a, hc, l + 1, h => by rw [lev_succ, lev_succ]; exact lev_hs hc.2 l (by simpa using h)
theorem lev_end {R : Nat} {e : List Nat} : ∀ {X : List (List Nat)} {a : List Nat}, Ch R a X e → lev a X X.length = e
  | [], a, hc => by rw [List.length_nil, lev_zero]; exact hc
  | q :: X, a, hc => by rw [List.length_cons, lev_succ]; exact lev_end hc.2
theorem lev_mem {R M : Nat} {a : List Nat} {X : List (List Nat)} (ha : a ∈ shapes R M) (hX : ∀ q ∈ X, q ∈ shapes R M) {l : Nat} (h : l ≤ X.length) : lev a X l ∈ shapes R M := by
  match l with
  | 0 => rw [lev_zero]; exact ha
  | l + 1 =>
    have : lev a X (l + 1) = X[l] := by simp [lev, show l < X.length by omega]
    rw [this]; exact hX _ (List.getElem_mem _)
theorem lev_ch {R : Nat} {e : List Nat} : ∀ {X : List (List Nat)} {a : List Nat}, (∀ l, l < X.length → HS R (lev a X l) (lev a X (l + 1))) → lev a X X.length = e → Ch R a X e
  | [], a, _, h => h
  | q :: X, a, h, he => by
    refine ⟨?_, lev_ch (fun l hl => ?_) ?_⟩
    · have := h 0 (by simp)
      rw [lev_succ, lev_zero, lev_zero] at this; exact this
    · have := h (l + 1) (by simpa using hl)
      rw [lev_succ, lev_succ] at this; exact this
    · rw [List.length_cons, lev_succ] at he; exact he
theorem lev_wt {R : Nat} : ∀ {X : List (List Nat)} {a : List Nat} {l : Nat}, l < X.length → at0 (wt R a X) l = sz R (lev a X (l + 1)) - sz R (lev a X l)
  | [], _, _, h => by simp at h
  | q :: X, a, 0, _ => by rw [lev_succ, lev_zero, lev_zero]; rfl
  | q :: X, a, l + 1, h => by
    rw [lev_succ, lev_succ, ← lev_wt (X := X) (by simpa using h)]; simp [wt, at0]
theorem lev_bad {R j : Nat} : ∀ {X : List (List Nat)} {a : List Nat} {l : Nat}, l + 2 ≤ X.length → bad R a X j l = decide (2 * tr R j (lev a X (l + 1)) < tr R j (lev a X (l + 2)) + tr R j (lev a X l))
  | [], _, _, h => by simp at h
  | [_], _, _, h => by simp at h
  | q :: s :: X, a, 0, _ => rfl
  | q :: X, a, l + 1, h => by
    rw [lev_succ, lev_succ, lev_succ, ← lev_bad (X := X) (by simpa using h)]; rfl
theorem bad_far {R j l : Nat} {a : List Nat} {X : List (List Nat)} (h : X.length ≤ l + 1) : bad R a X j l = false := by
  have key : ∀ (l t : Nat) (Y : List Nat), Y.length ≤ l + 1 → badN l t Y = false := by
    intro l
    induction l with
    | zero =>
      intro t Y h
      match Y, h with
      | [], _ => rfl
      | [_], _ => rfl
    | succ l ih =>
      intro t Y h
      match Y, h with
      | [], _ => rfl
      | u :: Y, h => exact ih u Y (by simpa using h)
  exact key _ _ _ (by simpa using h)

/- The search. -/
def rb (a : Nat → Nat) (i : Nat) : Nat → List (Nat × Nat)
  | 0 => []
  | m + 1 => if m < a i then [] else (i, m) :: rb a i m
def bxs (a c : Nat → Nat) : Nat → Nat → Nat → List (Nat × Nat)
  | 0, _, _ => []
  | t + 1, i, m => rb a i m ++ bxs a c t (i + 1) (c (i + 1))
def put2 (F : Nat → Nat → Nat) (i j v : Nat) : Nat → Nat → Nat := fun r s => if r = i ∧ s = j then v else F r s
def put1 (f : Nat → Nat) (i v : Nat) : Nat → Nat := fun r => if r = i then v else f r
/-- May x be laid into the box? -/
def may (c : Nat → Nat) (i j x : Nat) (F : Nat → Nat → Nat) (L Us : Nat → Nat) : Prop :=
  L x ≠ 0 ∧ (0 < x → Us x ≠ Us (x - 1)) ∧ (j + 1 < c i → x + 1 ≤ F i (j + 1)) ∧ (0 < i → F (i - 1) j < x + 1)
instance (c : Nat → Nat) (i j x : Nat) (F : Nat → Nat → Nat) (L Us : Nat → Nat) : Decidable (may c i j x F L Us) :=
  inferInstanceAs (Decidable (_ ∧ _ ∧ _ ∧ _))
def cnt (k : Nat) (c : Nat → Nat) : List (Nat × Nat) → (Nat → Nat → Nat) → (Nat → Nat) → (Nat → Nat) → Nat
  | [], _, _, _ => 1
  | (i, j) :: bs, F, L, Us => rs k (fun x => if may c i j x F L Us then cnt k c bs (put2 F i j (x + 1)) (put1 L x (L x - 1)) (put1 Us x (Us x + 1)) else 0)

def Box (n : Nat) (a c : Nat → Nat) (r j : Nat) : Prop := r < n ∧ a r ≤ j ∧ j < c r
def Placed (n : Nat) (a c : Nat → Nat) (i m r j : Nat) : Prop := Box n a c r j ∧ (r < i ∨ (r = i ∧ m ≤ j))
/-- How many boxes are laid with this letter: rows ahead of i, and row i from m on. -/
def num (a c : Nat → Nat) (F : Nat → Nat → Nat) (i m y : Nat) : Nat :=
  rs i (fun r => rs (c r) (fun j => if a r ≤ j ∧ F r j = y + 1 then 1 else 0)) + rs (c i) (fun j => if (a i ≤ j ∧ m ≤ j) ∧ F i j = y + 1 then 1 else 0)

structure Inv (n k : Nat) (a c b : Nat → Nat) (i m : Nat) (F : Nat → Nat → Nat) (L Us : Nat → Nat) : Prop where
  low : ∀ r j, Placed n a c i m r j → 1 ≤ F r j ∧ F r j ≤ k
  row : ∀ r j, Placed n a c i m r j → j + 1 < c r → F r j ≤ F r (j + 1)
  col : ∀ r j, Placed n a c i m (r + 1) j → a r ≤ j → F r j < F (r + 1) j
  lat : ∀ r j x, Placed n a c i m r j → F r j = x + 2 → num a c F r (j + 1) (x + 1) < num a c F r (j + 1) x
  zer : ∀ r j, j < a r → F r j = 0
  us : ∀ y, y < k → Us y = num a c F i m y
  lu : ∀ y, y < k → L y + Us y = b y
  ul : ∀ y, y + 1 < k → Us (y + 1) ≤ Us y

structure Sh (n : Nat) (a c : Nat → Nat) : Prop where
  ac : ∀ r, a r ≤ c r
  ad : ∀ r, a (r + 1) ≤ a r
  cd : ∀ r, c (r + 1) ≤ c r
  far : ∀ r, n ≤ r → c r = 0

theorem rs_ite {n lo hi : Nat} (h : lo ≤ hi) : rs n (fun j => if lo ≤ j ∧ j < hi then 1 else 0) = min n hi - min n lo := by
  induction n with
  | zero => simp [rs]
  | succ n ih =>
    simp only [rs, ih]
    by_cases c : lo ≤ n ∧ n < hi
    · simp only [c, and_self, if_true]; omega
    · simp only [c, if_false]; omega

theorem num_cell {a c : Nat → Nat} {F : Nat → Nat → Nat} {i m j y v : Nat} (hj : j < c i) (ha : a i ≤ j) (hm : m = j + 1) :
    num a c (put2 F i j v) i j y = num a c F i m y + (if v = y + 1 then 1 else 0) := by
  subst hm
  unfold num
  have e1 : rs i (fun r => rs (c r) (fun s => if a r ≤ s ∧ put2 F i j v r s = y + 1 then 1 else 0)) = rs i (fun r => rs (c r) (fun s => if a r ≤ s ∧ F r s = y + 1 then 1 else 0)) :=
    rs_congr (fun r hr => rs_congr (fun s _ => by simp [put2, show r ≠ i by omega]))
  have e2 : rs (c i) (fun s => if (a i ≤ s ∧ j ≤ s) ∧ put2 F i j v i s = y + 1 then 1 else 0)
      = rs (c i) (fun s => (if (a i ≤ s ∧ j + 1 ≤ s) ∧ F i s = y + 1 then 1 else 0) + (if s = j then (if v = y + 1 then 1 else 0) else 0)) := by
    refine rs_congr (fun s _ => ?_)
    by_cases e : s = j
    · subst e; simp [put2, ha, show ¬ s + 1 ≤ s by omega]
    · by_cases l : j ≤ s
      · simp [put2, e, l, show j + 1 ≤ s by omega]
      · simp [put2, e, l, show ¬ j + 1 ≤ s by omega]
  rw [e1, e2, rs_add, rs_one (f := fun s => if s = j then (if v = y + 1 then 1 else 0) else 0) hj (fun s _ hne => by simp [hne])]
  simp; omega
theorem num_other {a c : Nat → Nat} {F : Nat → Nat → Nat} {i j r s y v : Nat} (h : r < i ∨ (r = i ∧ j < s)) :
    num a c (put2 F i j v) r s y = num a c F r s y := by
  unfold num
  have e1 : rs r (fun q => rs (c q) (fun s => if a q ≤ s ∧ put2 F i j v q s = y + 1 then 1 else 0)) = rs r (fun q => rs (c q) (fun s => if a q ≤ s ∧ F q s = y + 1 then 1 else 0)) :=
    rs_congr (fun q hq => rs_congr (fun s _ => by simp [put2, show q ≠ i by omega]))
  rw [e1]
  congr 1
  refine rs_congr (fun t _ => ?_)
  by_cases e : r = i ∧ t = j
  · have : ¬ s ≤ t := by omega
    simp [this]
  · simp [put2, e]

theorem Inv.next {n k : Nat} {a c b : Nat → Nat} {i m : Nat} {F : Nat → Nat → Nat} {L Us : Nat → Nat} (h : Inv n k a c b i m F L Us) (hm : m ≤ a i) :
    Inv n k a c b (i + 1) (c (i + 1)) F L Us := by
  have p : ∀ r j, Placed n a c (i + 1) (c (i + 1)) r j → Placed n a c i m r j := by
    intro r j hp
    refine ⟨hp.1, ?_⟩
    have := hp.1.2.1
    have := hp.1.2.2
    rcases hp.2 with h | ⟨rfl, h⟩
    · by_cases e : r = i
      · subst e; exact Or.inr ⟨rfl, by omega⟩
      · exact Or.inl (by omega)
    · omega
  refine ⟨fun r j hp => h.low r j (p r j hp), fun r j hp => h.row r j (p r j hp), fun r j hp => h.col r j (p _ j hp), fun r j x hp => h.lat r j x (p r j hp), h.zer, fun y hy => ?_, h.lu, h.ul⟩
  rw [h.us y hy]
  unfold num
  have e2 : rs (c (i + 1)) (fun j => if (a (i + 1) ≤ j ∧ c (i + 1) ≤ j) ∧ F (i + 1) j = y + 1 then 1 else 0) = rs (c (i + 1)) (fun _ => 0) :=
    rs_congr (fun j hj => by simp [show ¬ c (i + 1) ≤ j by omega])
  rw [e2, rs_zero]
  simp only [rs, Nat.add_zero]
  congr 1
  refine rs_congr (fun j _ => ?_)
  by_cases e : a i ≤ j
  · simp [e, show m ≤ j by omega]
  · simp [e]

theorem Inv.put {n k : Nat} {a c b : Nat → Nat} {i j x : Nat} {F : Nat → Nat → Nat} {L Us : Nat → Nat} (S : Sh n a c) (h : Inv n k a c b i (j + 1) F L Us) (ha : a i ≤ j) (hj : j < c i)
    (hx : x < k) (ok : may c i j x F L Us) : Inv n k a c b i j (put2 F i j (x + 1)) (put1 L x (L x - 1)) (put1 Us x (Us x + 1)) := by
  have hin : i < n := by
    by_cases hin : i < n
    · exact hin
    · have := S.far i (by omega); omega
  have p : ∀ r s, Placed n a c i j r s → (r = i ∧ s = j) ∨ (¬ (r = i ∧ s = j) ∧ Placed n a c i (j + 1) r s) := by
    intro r s hp
    by_cases e : r = i ∧ s = j
    · exact Or.inl e
    · refine Or.inr ⟨e, hp.1, ?_⟩
      rcases hp.2 with h | ⟨rfl, h⟩
      · exact Or.inl h
      · exact Or.inr ⟨rfl, by omega⟩
  refine ⟨fun r s hp => ?_, fun r s hp hs => ?_, fun r s hp hs => ?_, fun r s y hp he => ?_, fun r s hs => ?_, fun y hy => ?_, fun y hy => ?_, fun y hy => ?_⟩
  · rcases p r s hp with ⟨rfl, rfl⟩ | ⟨e, q⟩
    · simp [put2]; omega
    · simp only [put2, e, if_false]; exact h.low r s q
  · rcases p r s hp with ⟨rfl, rfl⟩ | ⟨e, q⟩
    · have := ok.2.2.1 hs
      simp [put2]; omega
    · have e' : ¬ (r = i ∧ s + 1 = j) := by
        rintro ⟨rfl, rfl⟩
        rcases q.2 with h | h <;> omega
      simp only [put2, e, e', if_false]; exact h.row r s q hs
  · have e' : ¬ (r = i ∧ s = j) := by
      rintro ⟨rfl, rfl⟩
      rcases hp.2 with h | h <;> omega
    rcases p _ s hp with ⟨e1, rfl⟩ | ⟨e, q⟩
    · have := ok.2.2.2 (by omega)
      subst e1
      show put2 F (r + 1) s (x + 1) r s < put2 F (r + 1) s (x + 1) (r + 1) s
      unfold put2
      rw [if_neg (by omega), if_pos ⟨rfl, rfl⟩]
      simpa using this
    · simp only [put2, e, e', if_false]; exact h.col r s q hs
  · rcases p r s hp with ⟨rfl, rfl⟩ | ⟨e, q⟩
    · rw [num_other (Or.inr ⟨rfl, by omega⟩), num_other (Or.inr ⟨rfl, by omega⟩)]
      simp only [put2, and_self, if_true] at he
      have hxy : x = y + 1 := by omega
      have l := h.ul y (by omega)
      have ne := ok.2.1 (by omega)
      rw [show x - 1 = y from by omega] at ne
      have u1 := h.us x hx
      have u2 := h.us y (by omega)
      rw [hxy] at u1 ne
      omega
    · have q' := q.2
      simp only [put2, e, if_false] at he
      rw [num_other (by rcases q' with h | h <;> omega), num_other (by rcases q' with h | h <;> omega)]
      exact h.lat r s y q he
  · have e : ¬ (r = i ∧ s = j) := by rintro ⟨rfl, rfl⟩; omega
    simp only [put2, e, if_false]; exact h.zer r s hs
  · rw [num_cell hj ha rfl]
    have := h.us y hy
    by_cases e : y = x
    · subst e; simp only [put1, if_true]; omega
    · simp only [put1, e, if_false, show ¬ x + 1 = y + 1 by omega]; omega
  · have := h.lu y hy
    by_cases e : y = x
    · subst e; simp only [put1, if_true]
      have := ok.1
      omega
    · simp only [put1, e, if_false]; exact this
  · have := h.ul y hy
    by_cases e : y + 1 = x
    · have ne := ok.2.1 (by omega)
      rw [← e, show y + 1 - 1 = y from by omega] at ne
      simp only [put1, ← e, if_true, show ¬ y = y + 1 by omega, if_false]; omega
    · by_cases e2 : y = x
      · subst e2; simp only [put1, if_true, e, if_false]; omega
      · simp only [put1, e, e2, if_false]; exact this
end Go.Proofs.YtidnpmkdajicjaaDoor.LR
