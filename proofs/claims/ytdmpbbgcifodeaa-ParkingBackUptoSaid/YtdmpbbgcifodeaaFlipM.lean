/-
  Plain lists: the partition turned over; dominance; what Frobenius tells.
-/
import Derived.Test.YtdmpbbgcifodeaaFrankM
namespace Go.Proofs.Ytdmpbbgcifodeaa

/-- How many are greater than j. -/
def over (p : List Int) (j : Nat) : Nat := p.countP (fun x => decide ((j : Int) < x))
def flipOf (p : List Int) : List Int := (List.range (p.getD 0 0).toNat).map (fun j => (over p j : Int))
theorem flipOf_length (p : List Int) : (flipOf p).length = (p.getD 0 0).toNat := by simp [flipOf]

theorem getD_out {p : List Int} {i : Nat} (h : p.length ≤ i) : p.getD i 0 = 0 := by simp [h]
theorem IsPart.nonneg {p : List Int} (h : IsPart p) (i : Nat) : 0 ≤ p.getD i 0 := by
  by_cases e : i < p.length
  · have := h.1 i e; omega
  · rw [getD_out (by omega)]; exact Int.le_refl _
theorem IsPart.anti {p : List Int} (h : IsPart p) {i j : Nat} (hij : i ≤ j) : p.getD j 0 ≤ p.getD i 0 := by
  by_cases e : j < p.length
  · exact h.mono j e i hij
  · rw [getD_out (by omega)]; exact h.nonneg i

/-- In a list that falls, what is greater than j stands ahead. -/
theorem over_lt : ∀ {p : List Int}, IsPart p → ∀ i j : Nat, (j : Int) < p.getD i 0 ↔ i < over p j
  | [], _, i, j => by simp [over]
  | x :: p, h, i, j => by
    have hp : IsPart p := ⟨fun i hi => by have := h.1 (i + 1) (by simpa using hi); simpa using this, fun i hi h1 => by
      have := h.2 (i + 1) (by simpa using hi) (by omega)
      simp only [List.getD_cons_succ, Nat.add_sub_cancel] at this
      obtain ⟨k, rfl⟩ : ∃ k, i = k + 1 := ⟨i - 1, by omega⟩
      simpa using this⟩
    have ih := over_lt hp
    have hx : ∀ i, p.getD i 0 ≤ x := fun i => by have := h.anti (i := 0) (j := i + 1) (by omega); simpa using this
    have ho : over (x :: p) j = over p j + if (j : Int) < x then 1 else 0 := by simp [over, List.countP_cons]
    rw [ho]
    by_cases hj : (j : Int) < x
    · rw [if_pos hj]
      cases i with
      | zero => simp only [List.getD_cons_zero]; exact ⟨fun _ => by omega, fun _ => hj⟩
      | succ i => simp only [List.getD_cons_succ]; rw [ih i j]; omega
    · rw [if_neg hj]
      have h0 : over p j = 0 := by
        have := (ih 0 j)
        by_cases e : 0 < over p j
        · have := this.2 e; have := hx 0; omega
        · omega
      rw [h0]
      cases i with
      | zero => simp only [List.getD_cons_zero]; omega
      | succ i => simp only [List.getD_cons_succ]; have := hx i; omega

theorem over_zero_of {p : List Int} (h : IsPart p) {j : Nat} (hj : (p.getD 0 0).toNat ≤ j) : over p j = 0 := by
  by_cases e : 0 < over p j
  · have := (over_lt h 0 j).2 e; omega
  · omega
theorem flip_getD {p : List Int} (h : IsPart p) (j : Nat) : (flipOf p).getD j 0 = over p j := by
  by_cases e : j < (p.getD 0 0).toNat
  · rw [getD_get (by rw [flipOf_length]; exact e)]; simp [flipOf]
  · rw [getD_out (by rw [flipOf_length]; omega), over_zero_of h (by omega)]; rfl
theorem galois {p : List Int} (h : IsPart p) (i j : Nat) : (j : Int) < p.getD i 0 ↔ (i : Int) < (flipOf p).getD j 0 := by
  rw [flip_getD h, over_lt h]; omega
theorem over_le (p : List Int) (j : Nat) : over p j ≤ p.length := List.countP_le_length
theorem over_all {p : List Int} (h : IsPart p) : over p 0 = p.length := by
  unfold over
  rw [List.countP_eq_length]
  intro x hx
  have := h.mem x hx
  simp; omega

theorem flip_part {p : List Int} (h : IsPart p) : IsPart (flipOf p) := by
  refine ⟨fun i hi => ?_, fun i hi h1 => ?_⟩
  · rw [flipOf_length] at hi
    have := (galois h 0 i).1 (by omega)
    omega
  · rw [flip_getD h, flip_getD h]
    have : over p i ≤ over p (i - 1) := by
      unfold over
      exact List.countP_mono_left (fun x _ hx => by simp only [decide_eq_true_eq] at hx ⊢; omega)
    omega
theorem flip_flip {p : List Int} (h : IsPart p) : flipOf (flipOf p) = p := by
  have ha := flip_part h
  have hl : (flipOf (flipOf p)).length = p.length := by
    rw [flipOf_length, flip_getD h, over_all h]; simp
  apply ext_getD hl
  intro i hi
  have h1 : ∀ j : Nat, (j : Int) < (flipOf (flipOf p)).getD i 0 ↔ (j : Int) < p.getD i 0 := fun j => by rw [← galois ha, ← galois h]
  have n1 := (flip_part ha).nonneg i
  have n2 := h.nonneg i
  have a1 := h1 ((flipOf (flipOf p)).getD i 0).toNat
  have a2 := h1 (p.getD i 0).toNat
  omega

/-! Sums of the first ones. -/

def psum (f : Nat → Int) : Nat → Int
  | 0 => 0
  | k + 1 => psum f k + f k
def pre (p : List Int) (k : Nat) : Int := psum (fun i => p.getD i 0) k
theorem pre_succ (p : List Int) (k : Nat) : pre p (k + 1) = pre p k + p.getD k 0 := rfl
theorem psum_le {f g : Nat → Int} : ∀ k, (∀ i, i < k → f i ≤ g i) → psum f k ≤ psum g k
  | 0, _ => Int.le_refl _
  | k + 1, h => by
    have h1 := psum_le k (fun i hi => h i (by omega))
    have h2 := h k (by omega)
    simp only [psum]; omega
theorem pre_take (p : List Int) : ∀ k, pre p k = (p.take k).sum
  | 0 => by simp [pre, psum]
  | k + 1 => by
    rw [pre_succ, pre_take p k]
    by_cases e : k < p.length
    · rw [take_snoc e, List.sum_append, getD_get e]; simp
    · rw [getD_out (by omega), List.take_of_length_le (by omega), List.take_of_length_le (by omega)]; simp
theorem pre_all {p : List Int} {k : Nat} (h : p.length ≤ k) : pre p k = p.sum := by rw [pre_take, List.take_of_length_le h]

theorem over_min : ∀ (p : List Int), (∀ x ∈ p, 0 ≤ x) → ∀ j : Nat, (over p j : Int) = (p.map (fun x => min ((j : Int) + 1) x)).sum - (p.map (fun x => min (j : Int) x)).sum
  | [], _, j => by simp [over]
  | x :: p, h, j => by
    have ih := over_min p (fun y hy => h y (List.mem_cons_of_mem _ hy)) j
    have hx := h x (by simp)
    have ho : over (x :: p) j = over p j + if (j : Int) < x then 1 else 0 := by simp [over, List.countP_cons]
    rw [ho]
    simp only [List.map_cons, List.sum_cons]
    split <;> omega
theorem sum_zeros (p : List Int) : (p.map (fun _ => (0 : Int))).sum = 0 := by
  induction p with
  | nil => rfl
  | cons x p ih => simp only [List.map_cons, List.sum_cons, ih]; rfl
theorem flip_pre {p : List Int} (h : IsPart p) : ∀ j : Nat, pre (flipOf p) j = (p.map (fun x => min (j : Int) x)).sum
  | 0 => by
    have : (p.map (fun x => min ((0 : Nat) : Int) x)).sum = 0 := by
      have e : p.map (fun x => min ((0 : Nat) : Int) x) = p.map (fun _ => 0) := List.map_congr_left (fun x hx => by have := h.mem x hx; omega)
      rw [e]
      exact sum_zeros p
    rw [this]; rfl
  | j + 1 => by
    rw [pre_succ, flip_pre h j, flip_getD h, over_min p (fun x hx => by have := h.mem x hx; omega) j]
    have : ((j + 1 : Nat) : Int) = (j : Int) + 1 := by omega
    rw [this]
    omega

theorem min_all : ∀ {p : List Int} {m : Int}, (∀ x ∈ p, x ≤ m) → (p.map (fun x => min m x)).sum = p.sum
  | [], _, _ => rfl
  | x :: p, m, h => by
    have h1 := h x (by simp)
    simp only [List.map_cons, List.sum_cons, min_all (fun y hy => h y (List.mem_cons_of_mem _ hy))]
    omega
theorem IsPart.le_head {p : List Int} (h : IsPart p) : ∀ x ∈ p, x ≤ p.getD 0 0 := fun x hx => by
  obtain ⟨i, hi, rfl⟩ := List.getElem_of_mem hx
  have := h.anti (i := 0) (j := i) (by omega)
  rwa [getD_get hi] at this
theorem flip_sum {p : List Int} (h : IsPart p) : (flipOf p).sum = p.sum := by
  have h1 := h.nonneg 0
  rw [← pre_all (p := flipOf p) (k := (p.getD 0 0).toNat) (by rw [flipOf_length]; exact Nat.le_refl _), flip_pre h]
  exact min_all (fun x hx => by have := h.le_head x hx; omega)

/-- Rows ahead of k and columns ahead of j: what they have twice is no more than k times j. -/
theorem both_le {p : List Int} (h : IsPart p) (k j : Nat) : pre p k + pre (flipOf p) j ≤ p.sum + k * j := by
  rw [flip_pre h, pre_take]
  have e : p.sum = (p.take k).sum + (p.drop k).sum := by rw [← List.sum_append, List.take_append_drop]
  have e2 : (p.map (fun x => min (j : Int) x)).sum = ((p.take k).map (fun x => min (j : Int) x)).sum + ((p.drop k).map (fun x => min (j : Int) x)).sum := by
    rw [← List.sum_append, ← List.map_append, List.take_append_drop]
  have h1 : ∀ l : List Int, (l.map (fun x => min (j : Int) x)).sum ≤ l.length * (j : Int) := fun l => by
    induction l with
    | nil => simp
    | cons x l ih =>
      simp only [List.map_cons, List.sum_cons, List.length_cons]
      rw [Int.natCast_add, Int.add_mul]
      have : min (j : Int) x ≤ j := by omega
      simp; omega
  have h2 : ∀ l : List Int, (l.map (fun x => min (j : Int) x)).sum ≤ l.sum := fun l => by
    induction l with
    | nil => simp
    | cons x l ih => simp only [List.map_cons, List.sum_cons]; omega
  have h3 := h1 (p.take k)
  have h4 := h2 (p.drop k)
  have h5 : ((p.take k).length : Int) * (j : Int) ≤ k * j := Int.mul_le_mul_of_nonneg_right (by rw [List.length_take]; omega) (by omega)
  omega
/-- At k rows, as many as are greater than j, it is just so. -/
theorem both_eq {p : List Int} (h : IsPart p) (j : Nat) : pre p (over p j) + pre (flipOf p) j = p.sum + over p j * j := by
  have hk := over_le p j
  have ho := fun i => over_lt h i j
  generalize over p j = k at *
  rw [flip_pre h, pre_take]
  have e : p.sum = (p.take k).sum + (p.drop k).sum := by rw [← List.sum_append, List.take_append_drop]
  have e2 : (p.map (fun x => min (j : Int) x)).sum = ((p.take k).map (fun x => min (j : Int) x)).sum + ((p.drop k).map (fun x => min (j : Int) x)).sum := by
    rw [← List.sum_append, ← List.map_append, List.take_append_drop]
  have h1 : ∀ l : List Int, (∀ x ∈ l, (j : Int) ≤ x) → (l.map (fun x => min (j : Int) x)).sum = l.length * (j : Int) := fun l hl => by
    induction l with
    | nil => simp
    | cons x l ih =>
      have := hl x (by simp)
      simp only [List.map_cons, List.sum_cons, List.length_cons, ih (fun y hy => hl y (List.mem_cons_of_mem _ hy))]
      rw [Int.natCast_add, Int.add_mul]
      simp; omega
  have h3 := h1 (p.take k) (fun x hx => by
    obtain ⟨i, hi, rfl⟩ := List.getElem_of_mem hx
    rw [List.length_take] at hi
    have := (ho i).2 (by omega)
    rw [getD_get (by omega)] at this
    rw [List.getElem_take]; omega)
  have h4 := min_all (p := p.drop k) (m := (j : Int)) (fun x hx => by
    obtain ⟨i, hi, rfl⟩ := List.getElem_of_mem hx
    rw [List.length_drop] at hi
    have := (ho (k + i)).1
    rw [getD_get (by omega)] at this
    rw [List.getElem_drop]
    by_cases c : (j : Int) < p[k + i]
    · have := this c; omega
    · omega)
  rw [List.length_take, Nat.min_eq_left hk] at h3
  omega

/-- a above b. -/
def Dom (a b : List Int) : Prop := ∀ k, pre b k ≤ pre a k
theorem Dom.flip {p q : List Int} (hp : IsPart p) (hq : IsPart q) (hs : p.sum = q.sum) (h : Dom p q) : Dom (flipOf q) (flipOf p) := fun j => by
  have h1 := both_eq hq j
  have h2 := both_le hp (over q j) j
  have h3 := h (over q j)
  omega
theorem Dom.flip_iff {p q : List Int} (hp : IsPart p) (hq : IsPart q) (hs : p.sum = q.sum) : Dom p q ↔ Dom (flipOf q) (flipOf p) :=
  ⟨Dom.flip hp hq hs, fun h => by
    have := Dom.flip (flip_part hq) (flip_part hp) (by rw [flip_sum hp, flip_sum hq, hs]) h
    rwa [flip_flip hp, flip_flip hq] at this⟩
theorem Dom.antisymm {p q : List Int} (hp : IsPart p) (hq : IsPart q) (h : Dom p q) (h' : Dom q p) : p = q := by
  have hk : ∀ k, pre p k = pre q k := fun k => by have := h k; have := h' k; omega
  have hg : ∀ k, p.getD k 0 = q.getD k 0 := fun k => by
    have h1 := hk (k + 1)
    rw [pre_succ, pre_succ] at h1
    have := hk k
    omega
  have hl : p.length = q.length := by
    rcases Nat.lt_trichotomy p.length q.length with c | c | c
    · have h1 := hq.1 p.length c
      rw [← hg, getD_out (Nat.le_refl _)] at h1
      omega
    · exact c
    · have h1 := hp.1 q.length c
      rw [hg, getD_out (Nat.le_refl _)] at h1
      omega
  exact ext_getD hl (fun i _ => hg i)

end Go.Proofs.Ytdmpbbgcifodeaa
