/-
  Plain lists: partitions; Franklin's: there and back.
-/
import Derived.Test.YtpmkdihencepnaaMg01
namespace Go.Proofs.Ytpmkdihencepnaa

/-- A partition, but for its size. -/
def IsPart (p : List Int) : Prop := (∀ i, i < p.length → 1 ≤ p.getD i 0) ∧ ∀ i, i < p.length → 1 ≤ i → p.getD i 0 ≤ p.getD (i - 1) 0
instance (p : List Int) : Decidable (IsPart p) := by unfold IsPart; infer_instance
theorem ext_getD {a b : List Int} (hl : a.length = b.length) (h : ∀ i, i < a.length → a.getD i 0 = b.getD i 0) : a = b := by
  apply List.ext_getElem hl
  intro i h1 h2
  have := h i h1
  rwa [getD_get h1, getD_get h2] at this

theorem IsPart.mono {p : List Int} (h : IsPart p) : ∀ j, j < p.length → ∀ i, i ≤ j → p.getD j 0 ≤ p.getD i 0 := by
  intro j
  induction j with
  | zero => intro _ i hi; rw [show i = 0 by omega]; exact Int.le_refl _
  | succ j ih =>
    intro hj i hi
    by_cases e : i = j + 1
    · rw [e]; exact Int.le_refl _
    · have h1 := h.2 (j + 1) hj (by omega)
      have h2 := ih (by omega) i (by omega)
      simp only [Nat.add_sub_cancel] at h1
      omega
theorem len_le_sum : ∀ (p : List Int), (∀ x ∈ p, 1 ≤ x) → (p.length : Int) ≤ p.sum
  | [], _ => by simp
  | x :: p, h => by
    have h1 := len_le_sum p (fun y hy => h y (List.mem_cons_of_mem _ hy))
    have h2 := h x (by simp)
    simp only [List.length_cons, List.sum_cons]
    omega
theorem IsPart.mem {p : List Int} (h : IsPart p) : ∀ x ∈ p, 1 ≤ x := fun x hx => by
  obtain ⟨i, hi, rfl⟩ := List.getElem_of_mem hx
  have := h.1 i hi
  rwa [getD_get hi] at this
theorem IsPart.len {p : List Int} (h : IsPart p) (hs : p.sum ≤ 40) : p.length ≤ 40 := by
  have := len_le_sum p h.mem
  omega

/-- The run at the head: k parts one after the other. -/
def IsRun (p : List Int) (k : Nat) : Prop :=
  1 ≤ k ∧ k ≤ p.length ∧ (∀ j, 1 ≤ j → j < k → p.getD j 0 = p.getD (j - 1) 0 - 1) ∧ (k = p.length ∨ p.getD k 0 ≠ p.getD (k - 1) 0 - 1)
theorem IsRun.uniq {p : List Int} {k k' : Nat} (h : IsRun p k) (h' : IsRun p k') : k = k' := by
  obtain ⟨a1, a2, a3, a4⟩ := h
  obtain ⟨b1, b2, b3, b4⟩ := h'
  rcases Nat.lt_trichotomy k k' with e | e | e
  · rcases a4 with a4 | a4
    · omega
    · exact absurd (b3 k a1 e) a4
  · exact e
  · rcases b4 with b4 | b4
    · omega
    · exact absurd (a3 k' b1 e) b4

def CaseA (p : List Int) (k : Nat) : Prop := p.getD (p.length - 1) 0 ≤ k ∧ ¬ (k = p.length ∧ p.getD (p.length - 1) 0 = p.length)
def CaseB (p : List Int) (k : Nat) : Prop := (k : Int) < p.getD (p.length - 1) 0 ∧ ¬ (k = p.length ∧ p.getD (p.length - 1) 0 = p.length + 1)
end Go.Proofs.Ytpmkdihencepnaa

/-
  Plain lists: the partition turned overB; dominance; what Frobenius tells.
-/
namespace Go.Proofs.Ytpmkdihencepnaa

theorem getD_out {p : List Int} {i : Nat} (h : p.length ≤ i) : p.getD i 0 = 0 := by simp [h]
/-! Sums of the first ones. -/

def psum (f : Nat → Int) : Nat → Int
  | 0 => 0
  | k + 1 => psum f k + f k
end Go.Proofs.Ytpmkdihencepnaa

/-
  Plain matrices of alternating signs: corner sums; meet and join; triangles.
-/
namespace Go.Proofs.Ytpmkdihencepnaa

def ent (m : List (List Int)) (i j : Nat) : Int := (m.getD i []).getD j 0
/-- Sums along a row, down a column, of a corner. -/
def rsum (m : List (List Int)) (i j : Nat) : Int := psum (fun b => ent m i b) j
def dsum (m : List (List Int)) (i j : Nat) : Int := psum (fun a => ent m a j) i
def csum (m : List (List Int)) (i j : Nat) : Int := psum (fun a => rsum m a j) i

theorem psum_add (f g : Nat → Int) : ∀ k, psum (fun i => f i + g i) k = psum f k + psum g k
  | 0 => rfl
  | k + 1 => by simp only [psum]; rw [psum_add f g k]; omega
theorem csum_down (m : List (List Int)) (i j : Nat) : csum m (i + 1) j = csum m i j + rsum m i j := rfl
theorem csum_side (m : List (List Int)) (i j : Nat) : csum m i (j + 1) = csum m i j + dsum m i j := by
  unfold csum dsum rsum
  rw [← psum_add]
  rfl
theorem csum_top (m : List (List Int)) (j : Nat) : csum m 0 j = 0 := rfl
theorem csum_left (m : List (List Int)) : ∀ i, csum m i 0 = 0
  | 0 => rfl
  | i + 1 => by rw [csum_down, csum_left m i]; rfl

/-- n rows of n. -/
def IsSq (m : List (List Int)) (n : Nat) : Prop := m.length = n ∧ ∀ r ∈ m, r.length = n
/-- Alternating signs. -/
structure IsSign (m : List (List Int)) (n : Nat) : Prop where
  sq : IsSq m n
  pos : 1 ≤ n
  row : ∀ i j, i < n → j ≤ n → 0 ≤ rsum m i j ∧ rsum m i j ≤ 1
  row1 : ∀ i, i < n → rsum m i n = 1
  col : ∀ i j, i ≤ n → j < n → 0 ≤ dsum m i j ∧ dsum m i j ≤ 1
  col1 : ∀ j, j < n → dsum m n j = 1

/-- What the corner sums are like. -/
structure Cor (c : Nat → Nat → Int) (n : Nat) : Prop where
  top : ∀ j, j ≤ n → c 0 j = 0
  left : ∀ i, i ≤ n → c i 0 = 0
  down : ∀ i j, i < n → j ≤ n → 0 ≤ c (i + 1) j - c i j ∧ c (i + 1) j - c i j ≤ 1
  side : ∀ i j, i ≤ n → j < n → 0 ≤ c i (j + 1) - c i j ∧ c i (j + 1) - c i j ≤ 1
  bot : ∀ j, j ≤ n → c n j = j
  right : ∀ i, i ≤ n → c i n = i

theorem IsSign.cor {m : List (List Int)} {n : Nat} (h : IsSign m n) : Cor (csum m) n := by
  refine ⟨fun j _ => rfl, fun i _ => csum_left m i, fun i j hi hj => ?_, fun i j hi hj => ?_, ?_, ?_⟩
  · rw [csum_down]; have := h.row i j hi hj; omega
  · rw [csum_side]; have := h.col i j hi hj; omega
  · intro j
    induction j with
    | zero => intro _; rw [csum_left]; rfl
    | succ j ih => intro hj; rw [csum_side, ih (by omega), h.col1 j (by omega)]; omega
  · intro i
    induction i with
    | zero => intro _; rfl
    | succ i ih => intro hi; rw [csum_down, ih (by omega), h.row1 i (by omega)]; omega
theorem Cor.sign {m : List (List Int)} {n : Nat} (hs : IsSq m n) (hn : 1 ≤ n) (h : Cor (csum m) n) : IsSign m n := by
  refine ⟨hs, hn, fun i j hi hj => ?_, fun i hi => ?_, fun i j hi hj => ?_, fun j hj => ?_⟩
  · have := h.down i j hi hj; rw [csum_down] at this; omega
  · have h1 := h.right (i + 1) (by omega); have h2 := h.right i (by omega); rw [csum_down] at h1; omega
  · have := h.side i j hi hj; rw [csum_side] at this; omega
  · have h1 := h.bot (j + 1) (by omega); have h2 := h.bot j (by omega); rw [csum_side] at h1; omega

/-- The matrix with these corner sums. -/
def unc (n : Nat) (c : Nat → Nat → Int) : List (List Int) := (List.range n).map (fun i => (List.range n).map (fun j => c (i + 1) (j + 1) - c i (j + 1) - c (i + 1) j + c i j))
theorem unc_sq (n : Nat) (c : Nat → Nat → Int) : IsSq (unc n c) n := by
  refine ⟨by simp [unc], fun r hr => ?_⟩
  obtain ⟨i, _, rfl⟩ := List.mem_map.1 hr
  simp
theorem unc_ent {n : Nat} {c : Nat → Nat → Int} {i j : Nat} (hi : i < n) (hj : j < n) : ent (unc n c) i j = c (i + 1) (j + 1) - c i (j + 1) - c (i + 1) j + c i j := by
  have e : (unc n c).getD i [] = (List.range n).map (fun j => c (i + 1) (j + 1) - c i (j + 1) - c (i + 1) j + c i j) := by
    unfold unc; rw [List.getD_eq_getElem?_getD]; simp [hi]
  unfold ent
  rw [e, getD_get (by simpa using hj)]
  simp
theorem unc_rsum {n : Nat} {c : Nat → Nat → Int} {i : Nat} (hi : i < n) : ∀ j, j ≤ n → rsum (unc n c) i j = (c (i + 1) j - c i j) - (c (i + 1) 0 - c i 0)
  | 0, _ => by unfold rsum psum; omega
  | j + 1, hj => by
    have h1 : rsum (unc n c) i (j + 1) = rsum (unc n c) i j + ent (unc n c) i j := rfl
    rw [h1, unc_rsum hi j (by omega), unc_ent hi (by omega)]; omega
theorem unc_csum {n : Nat} {c : Nat → Nat → Int} (ht : ∀ j, j ≤ n → c 0 j = 0) (hl : ∀ i, i ≤ n → c i 0 = 0) : ∀ i j, i ≤ n → j ≤ n → csum (unc n c) i j = c i j
  | 0, j, _, hj => by rw [csum_top, ht j hj]
  | i + 1, j, hi, hj => by
    rw [csum_down, unc_csum ht hl i j (by omega) hj, unc_rsum (by omega) j hj, hl (i + 1) hi, hl i (by omega)]; omega
theorem Cor.unc {n : Nat} {c : Nat → Nat → Int} (hn : 1 ≤ n) (h : Cor c n) : IsSign (unc n c) n := by
  have e := unc_csum h.top h.left
  refine Cor.sign (unc_sq n c) hn ⟨fun j hj => by rw [e 0 j (by omega) hj]; exact h.top j hj, fun i hi => by rw [e i 0 hi (by omega)]; exact h.left i hi, fun i j hi hj => ?_, fun i j hi hj => ?_, fun j hj => by rw [e n j (by omega) hj]; exact h.bot j hj, fun i hi => by rw [e i n hi (by omega)]; exact h.right i hi⟩
  · rw [e (i + 1) j (by omega) hj, e i j (by omega) hj]; exact h.down i j hi hj
  · rw [e i (j + 1) hi (by omega), e i j hi (by omega)]; exact h.side i j hi hj

theorem sq_ext {a b : List (List Int)} {n : Nat} (ha : IsSq a n) (hb : IsSq b n) (h : ∀ i j, i < n → j < n → ent a i j = ent b i j) : a = b := by
  apply List.ext_getElem (by rw [ha.1, hb.1])
  intro i h1 h2
  have la := ha.2 _ (List.getElem_mem h1)
  have lb := hb.2 _ (List.getElem_mem h2)
  apply List.ext_getElem (by rw [la, lb])
  intro j h3 h4
  have := h i j (by rw [← ha.1]; exact h1) (by rw [← la]; exact h3)
  unfold ent at this
  rw [getD_get h1, getD_get h2, getD_get h3, getD_get h4] at this
  exact this
theorem ent_csum (m : List (List Int)) (i j : Nat) : ent m i j = csum m (i + 1) (j + 1) - csum m i (j + 1) - csum m (i + 1) j + csum m i j := by
  rw [csum_down, csum_down]
  have : rsum m i (j + 1) = rsum m i j + ent m i j := rfl
  omega
theorem unc_csum_self {m : List (List Int)} {n : Nat} (h : IsSq m n) : unc n (csum m) = m :=
  sq_ext (unc_sq n _) h (fun i j hi hj => by rw [unc_ent hi hj, ent_csum])
theorem Cor.max {c d : Nat → Nat → Int} {n : Nat} (hc : Cor c n) (hd : Cor d n) : Cor (fun i j => max (c i j) (d i j)) n := by
  refine ⟨fun j hj => ?_, fun i hi => ?_, fun i j hi hj => ?_, fun i j hi hj => ?_, fun j hj => ?_, fun i hi => ?_⟩
  · have := hc.top j hj; have := hd.top j hj; omega
  · have := hc.left i hi; have := hd.left i hi; omega
  · have := hc.down i j hi hj; have := hd.down i j hi hj; omega
  · have := hc.side i j hi hj; have := hd.side i j hi hj; omega
  · have := hc.bot j hj; have := hd.bot j hj; omega
  · have := hc.right i hi; have := hd.right i hi; omega
theorem Cor.min {c d : Nat → Nat → Int} {n : Nat} (hc : Cor c n) (hd : Cor d n) : Cor (fun i j => min (c i j) (d i j)) n := by
  refine ⟨fun j hj => ?_, fun i hi => ?_, fun i j hi hj => ?_, fun i j hi hj => ?_, fun j hj => ?_, fun i hi => ?_⟩
  · have := hc.top j hj; have := hd.top j hj; omega
  · have := hc.left i hi; have := hd.left i hi; omega
  · have := hc.down i j hi hj; have := hd.down i j hi hj; omega
  · have := hc.side i j hi hj; have := hd.side i j hi hj; omega
  · have := hc.bot j hj; have := hd.bot j hj; omega
  · have := hc.right i hi; have := hd.right i hi; omega

def meetOf (n : Nat) (a b : List (List Int)) : List (List Int) := unc n (fun i j => max (csum a i j) (csum b i j))
def joinOf (n : Nat) (a b : List (List Int)) : List (List Int) := unc n (fun i j => min (csum a i j) (csum b i j))
section
variable {a b c : List (List Int)} {n : Nat}
end

/-! Triangles. -/

/-- In which columns the first i rows come to 1. -/
def triRow (m : List (List Int)) (n i : Nat) : List Int := ((List.range n).filter (fun j => decide (dsum m i j = 1))).map (fun j : Nat => (j : Int) + 1)
def triOf (m : List (List Int)) (n : Nat) : List (List Int) := (List.range n).map (fun i => triRow m n (i + 1))

/-- As far as column k. -/
def triTo (m : List (List Int)) (i k : Nat) : List Int := ((List.range k).filter (fun j => decide (dsum m i j = 1))).map (fun j : Nat => (j : Int) + 1)
theorem triTo_succ (m : List (List Int)) (i k : Nat) : triTo m i (k + 1) = triTo m i k ++ if dsum m i k = 1 then [(k : Int) + 1] else [] := by
  unfold triTo
  rw [List.range_succ, List.filter_append, List.map_append]
  congr 1
  by_cases h : dsum m i k = 1 <;> simp [h]
theorem triTo_mem {m : List (List Int)} {i k : Nat} {x : Int} : x ∈ triTo m i k ↔ ∃ j : Nat, j < k ∧ dsum m i j = 1 ∧ x = (j : Int) + 1 := by
  unfold triTo
  simp only [List.mem_map, List.mem_filter, List.mem_range, decide_eq_true_eq]
  constructor
  · rintro ⟨j, ⟨h1, h2⟩, rfl⟩; exact ⟨j, h1, h2, rfl⟩
  · rintro ⟨j, h1, h2, rfl⟩; exact ⟨j, ⟨h1, h2⟩, rfl⟩
theorem triTo_pairwise (m : List (List Int)) (i k : Nat) : (triTo m i k).Pairwise (· < ·) := by
  unfold triTo
  rw [List.pairwise_map]
  refine (List.Pairwise.filter _ (List.pairwise_lt_range)).imp (fun h => by omega)
theorem getD_lt_of_pairwise {l : List Int} (h : l.Pairwise (· < ·)) {i j : Nat} (hij : i < j) (hj : j < l.length) : l.getD i 0 < l.getD j 0 := by
  rw [getD_get (by omega), getD_get hj]
  exact List.pairwise_iff_getElem.1 h i j (by omega) hj hij
/-- What is below x stands ahead. -/
theorem below_count : ∀ {l : List Int}, l.Pairwise (· < ·) → ∀ (k : Nat) (x : Int), k < l.length → (l.getD k 0 ≤ x ↔ k < l.countP (fun y => decide (y ≤ x)))
  | [], _, k, x, hk => by simp at hk
  | y :: l, h, k, x, hk => by
    have hp := List.pairwise_cons.1 h
    have ih := below_count hp.2
    have ho : (y :: l).countP (fun y => decide (y ≤ x)) = l.countP (fun y => decide (y ≤ x)) + if y ≤ x then 1 else 0 := by simp [List.countP_cons]
    rw [ho]
    by_cases hy : y ≤ x
    · rw [if_pos hy]
      cases k with
      | zero => simp only [List.getD_cons_zero]; exact ⟨fun _ => by omega, fun _ => hy⟩
      | succ k => simp only [List.getD_cons_succ]; rw [ih k x (by simpa using hk)]; omega
    · rw [if_neg hy]
      have h0 : l.countP (fun y => decide (y ≤ x)) = 0 := by
        rw [List.countP_eq_zero]
        intro z hz
        have := hp.1 z hz
        simp; omega
      rw [h0]
      cases k with
      | zero => simp only [List.getD_cons_zero]; omega
      | succ k =>
        simp only [List.getD_cons_succ]
        have hk' : k < l.length := by simpa using hk
        have := hp.1 _ (List.getElem_mem hk')
        rw [getD_get hk']
        omega
theorem tri_count {m : List (List Int)} {n i : Nat} (h : IsSign m n) (hi : i ≤ n) : ∀ k, k ≤ n → ((triTo m i n).countP (fun y => decide (y ≤ (k : Int))) : Int) = csum m i k := by
  have hall : ∀ k, k ≤ n → ((triTo m i k).length : Int) = csum m i k := by
    intro k
    induction k with
    | zero => intro _; rw [csum_left]; simp [triTo]
    | succ k ih =>
      intro hk
      have := h.col i k hi (by omega)
      rw [triTo_succ, List.length_append, csum_side]
      have := ih (by omega)
      split
      · simp; omega
      · simp; omega
  intro k hk
  have e : (triTo m i n).filter (fun y => decide (y ≤ (k : Int))) = triTo m i k := by
    unfold triTo
    rw [List.filter_map, List.filter_filter]
    congr 1
    have : List.range n = List.range k ++ (List.range (n - k)).map (k + ·) := by rw [← List.range_add]; congr 1; omega
    rw [this, List.filter_append]
    have e2 : ((List.range (n - k)).map (k + ·)).filter (fun a => ((fun y => decide (y ≤ (k : Int))) ∘ fun j : Nat => (j : Int) + 1) a && decide (dsum m i a = 1)) = [] := by
      rw [List.filter_eq_nil_iff]
      intro a ha
      obtain ⟨b, _, rfl⟩ := List.mem_map.1 ha
      simp; omega
    rw [e2, List.append_nil]
    refine List.filter_congr (fun a ha => ?_)
    have := List.mem_range.1 ha
    have : (((fun y => decide (y ≤ (k : Int))) ∘ fun j : Nat => (j : Int) + 1) a) = true := by simp; omega
    rw [this, Bool.true_and]
  rw [List.countP_eq_length_filter, e, hall k hk]
theorem tri_length {m : List (List Int)} {n i : Nat} (h : IsSign m n) (hi : i ≤ n) : (triTo m i n).length = i := by
  have h1 := tri_count h hi n (Nat.le_refl _)
  have h2 : (triTo m i n).countP (fun y => decide (y ≤ (n : Int))) = (triTo m i n).length := by
    rw [List.countP_eq_length]
    intro x hx
    obtain ⟨j, hj, _, rfl⟩ := triTo_mem.1 hx
    simp; omega
  rw [h2, h.cor.right i hi] at h1
  omega
theorem tri_range {m : List (List Int)} {n i k : Nat} (h : IsSign m n) (hi : i ≤ n) (hk : k < i) : 1 ≤ (triTo m i n).getD k 0 ∧ (triTo m i n).getD k 0 ≤ n := by
  have hl := tri_length h hi
  have hm : (triTo m i n).getD k 0 ∈ triTo m i n := by rw [getD_get (by omega)]; exact List.getElem_mem _
  obtain ⟨j, hj, _, e⟩ := triTo_mem.1 hm
  omega
theorem tri_rise {m : List (List Int)} {n i k : Nat} (h : IsSign m n) (hi : i ≤ n) (h1 : 1 ≤ k) (hk : k < i) : (triTo m i n).getD (k - 1) 0 < (triTo m i n).getD k 0 :=
  getD_lt_of_pairwise (triTo_pairwise m i n) (by omega) (by rw [tri_length h hi]; exact hk)
/-- Each row lies between those of the next one. -/
theorem tri_lace {m : List (List Int)} {n i k : Nat} (h : IsSign m n) (hi : i + 1 ≤ n) (h1 : 1 ≤ k) (hk : k < i + 1) :
    (triTo m (i + 1) n).getD (k - 1) 0 ≤ (triTo m i n).getD (k - 1) 0 ∧ (triTo m i n).getD (k - 1) 0 ≤ (triTo m (i + 1) n).getD k 0 := by
  have l1 := tri_length h (i := i) (by omega)
  have l2 := tri_length h hi
  have ra := tri_range h (i := i) (k := k - 1) (by omega) (by omega)
  have rb := tri_range h (i := i + 1) (k := k) hi hk
  obtain ⟨x, hx⟩ : ∃ x : Nat, (triTo m i n).getD (k - 1) 0 = x := ⟨((triTo m i n).getD (k - 1) 0).toNat, by omega⟩
  obtain ⟨y, hy⟩ : ∃ y : Nat, (triTo m (i + 1) n).getD k 0 = y := ⟨((triTo m (i + 1) n).getD k 0).toNat, by omega⟩
  constructor
  · rw [hx]
    rw [below_count (triTo_pairwise m (i + 1) n) (k - 1) x (by omega)]
    have a1 := (below_count (triTo_pairwise m i n) (k - 1) x (by omega)).1 (by omega)
    have a2 := tri_count h (i := i) (by omega) x (by omega)
    have a3 := tri_count h hi x (by omega)
    have a4 := h.cor.down i x (by omega) (by omega)
    omega
  · rw [hy]
    rw [below_count (triTo_pairwise m i n) (k - 1) y (by omega)]
    have a1 := (below_count (triTo_pairwise m (i + 1) n) k y (by omega)).1 (by omega)
    have a2 := tri_count h (i := i) (by omega) y (by omega)
    have a3 := tri_count h hi y (by omega)
    have a4 := h.cor.down i y (by omega) (by omega)
    omega
theorem dsum_top (m : List (List Int)) (j : Nat) : dsum m 0 j = 0 := rfl
theorem dsum_succ (m : List (List Int)) (i j : Nat) : dsum m (i + 1) j = dsum m i j + ent m i j := rfl
theorem triTo_zero {m : List (List Int)} {n : Nat} : triTo m 0 n = [] := by
  unfold triTo
  rw [List.filter_eq_nil_iff.2 (fun j _ => by rw [dsum_top]; simp)]; rfl

end Go.Proofs.Ytpmkdihencepnaa

/-
  Plain lists: what Frobenius tells of a partition, and the way back.
-/
namespace Go.Proofs.Ytpmkdihencepnaa

/-- d boxes on the diagonal. -/
def IsDiag (p : List Int) (d : Nat) : Prop := (∀ i, i < d → (i : Int) < p.getD i 0) ∧ p.getD d 0 ≤ d
theorem IsDiag.uniq {p : List Int} {d d' : Nat} (h : IsDiag p d) (h' : IsDiag p d') : d = d' := by
  rcases Nat.lt_trichotomy d d' with c | c | c
  · have := h'.1 d c; have := h.2; omega
  · exact c
  · have := h.1 d' c; have := h'.2; omega
theorem IsDiag.len {p : List Int} {d : Nat} (h : IsDiag p d) : d ≤ p.length := by
  by_cases c : d ≤ p.length
  · exact c
  · have := h.1 p.length (by omega)
    rw [getD_out (Nat.le_refl _)] at this
    omega

/-! Dominance in as many steps as the longer one has. -/

end Go.Proofs.Ytpmkdihencepnaa

/-
  Plain piles of cubes: turned, mirrored, seen from the far corner; how many cubes.
-/
namespace Go.Proofs.Ytpmkdihencepnaa

/-- r rows of c values. -/
def gmat (r c : Nat) (f : Nat → Nat → Int) : List (List Int) := (List.range r).map (fun i => (List.range c).map (f i))
theorem gmat_length (r c : Nat) (f : Nat → Nat → Int) : (gmat r c f).length = r := by simp [gmat]
theorem gmat_getD {r c i : Nat} {f : Nat → Nat → Int} (h : i < r) : (gmat r c f).getD i [] = (List.range c).map (f i) := by
  unfold gmat; rw [List.getD_eq_getElem?_getD]; simp [h]
/-- A pile in a room of r rows, c columns, height h. -/
structure Pile (p : List (List Int)) (r c h : Nat) : Prop where
  len : p.length = r
  row : ∀ x ∈ p, x.length = c
  r1 : 1 ≤ r ∧ r ≤ 8
  c1 : 1 ≤ c ∧ c ≤ 8
  h1 : 1 ≤ h ∧ h ≤ 8
  bd : ∀ i j, i < r → j < c → 0 ≤ ent p i j ∧ ent p i j ≤ (h : Int)
  side : ∀ i j, i < r → j + 1 < c → ent p i (j + 1) ≤ ent p i j
  down : ∀ i j, i + 1 < r → j < c → ent p (i + 1) j ≤ ent p i j

/-- How many numbers below n are so. -/
def cnt (P : Nat → Bool) : Nat → Nat
  | 0 => 0
  | n + 1 => cnt P n + if P n = true then 1 else 0
theorem cnt_le (P : Nat → Bool) : ∀ n, cnt P n ≤ n
  | 0 => Nat.le_refl _
  | n + 1 => by have := cnt_le P n; simp only [cnt]; split <;> omega
/-! Turned. -/

def turnAt (p : List (List Int)) (r : Nat) (j z : Nat) : Int := (cnt (fun i => decide ((z : Int) < ent p i j)) r : Int)
def turnOf (p : List (List Int)) (r c h : Nat) : List (List Int) := gmat c h (turnAt p r)
/-! Mirrored; the rest. -/

def mirOf (p : List (List Int)) (r c : Nat) : List (List Int) := gmat c r (fun j i => ent p i j)
def restOf (p : List (List Int)) (r c h : Nat) : List (List Int) := gmat r c (fun i j => (h : Int) - ent p (r - 1 - i) (c - 1 - j))
/-! How many cubes. -/

end Go.Proofs.Ytpmkdihencepnaa

/-
  Plain lists: a map of a finite stock into itself that never gives one thing twice gives each; the words of a length.
-/
namespace Go.Proofs.Ytpmkdihencepnaa

/-- The numbers from 1 to n. -/
def upTo (n : Nat) : List Int := (List.range n).map (fun i : Nat => (i : Int) + 1)
theorem mem_upTo {n : Nat} {x : Int} : x ∈ upTo n ↔ 1 ≤ x ∧ x ≤ (n : Int) := by
  simp only [upTo, List.mem_map, List.mem_range]
  constructor
  · rintro ⟨i, hi, rfl⟩; omega
  · intro h; exact ⟨(x - 1).toNat, by omega, by omega⟩
theorem nodup_upTo (n : Nat) : (upTo n).Nodup := by
  rw [upTo, List.nodup_iff_pairwise_ne, List.pairwise_map]
  have := List.nodup_range (n := n)
  rw [List.nodup_iff_pairwise_ne] at this
  exact this.imp (fun h e => h (by omega))
theorem length_upTo (n : Nat) : (upTo n).length = n := by simp [upTo]

end Go.Proofs.Ytpmkdihencepnaa

/-
  Plain lists: Foata's folding: there and back; its inversions are what the descents come to.
-/
namespace Go.Proofs.Ytpmkdihencepnaa

/-- Is it on the same side of x as e? -/
def side (x e : Int) (y : Int) : Bool := decide (y ≤ x) == decide (e ≤ x)

end Go.Proofs.Ytpmkdihencepnaa

/-
  Plain lists: the inversions of what is folded are what the descents come to.
-/
namespace Go.Proofs.Ytpmkdihencepnaa

/-- How many of the first k are above the one at i. -/
def overAt (xs : List Int) (i k : Nat) : Nat := (xs.take k).countP (fun a => decide (xs.getD i 0 < a))
/-- How many pairs of the first i stand the wrong way round. -/
def wrongTo (xs : List Int) : Nat → Nat
  | 0 => 0
  | i + 1 => wrongTo xs i + overAt xs i i

def over (l : List Int) (x : Int) : Nat := l.countP (fun a => decide (x < a))
def inv (l : List Int) : Nat := wrongTo l l.length
/-- Pairs the wrong way round of one ahead and one behind. -/
def cross (a b : List Int) : Nat := (b.map (over a)).sum

theorem over_append (a b : List Int) (x : Int) : over (a ++ b) x = over a x + over b x := by simp [over, List.countP_append]
theorem over_perm {a b : List Int} (h : a.Perm b) (x : Int) : over a x = over b x := h.countP_eq _
theorem over_all {l : List Int} {x : Int} (h : ∀ y ∈ l, x < y) : over l x = l.length := by
  unfold over; rw [List.countP_eq_length]; intro y hy; simpa using h y hy
theorem over_none {l : List Int} {x : Int} (h : ∀ y ∈ l, y ≤ x) : over l x = 0 := by
  unfold over; rw [List.countP_eq_zero]; intro y hy; have := h y hy; simp; omega
theorem cross_nil (a : List Int) : cross a [] = 0 := rfl
theorem cross_snoc (a b : List Int) (y : Int) : cross a (b ++ [y]) = cross a b + over a y := by simp [cross]
theorem cross_perm {a a' b b' : List Int} (h : a.Perm a') (h' : b.Perm b') : cross a b = cross a' b' := by
  unfold cross
  rw [show over a = over a' from funext (fun x => over_perm h x)]
  exact (h'.map _).sum_nat
theorem cross_one {y : Int} {b : List Int} : cross [y] b = b.countP (fun z => decide (z < y)) := by
  induction b using snoc_ind with
  | nil => rfl
  | snoc b z ih =>
    rw [cross_snoc, ih, List.countP_append]
    simp [over, List.countP_cons]

theorem wrongTo_prefix (l s : List Int) : ∀ i, i ≤ l.length → wrongTo (l ++ s) i = wrongTo l i
  | 0, _ => rfl
  | i + 1, h => by
    rw [wrongTo, wrongTo, wrongTo_prefix l s i (by omega)]
    unfold overAt
    rw [List.take_append_of_le_length (by omega)]
    have : (l ++ s).getD i 0 = l.getD i 0 := by rw [getD_get (by simp; omega), getD_get (by omega), List.getElem_append_left]
    rw [this]

theorem inv_snoc (l : List Int) (x : Int) : inv (l ++ [x]) = inv l + over l x := by
  unfold inv
  rw [List.length_append, List.length_singleton, wrongTo, wrongTo_prefix l [x] _ (Nat.le_refl _)]
  unfold overAt over
  have : (l ++ [x]).getD l.length 0 = x := by rw [getD_get (by simp), List.getElem_append_right (by omega)]; simp
  rw [List.take_left, this]

theorem inv_append (a b : List Int) : inv (a ++ b) = inv a + inv b + cross a b := by
  induction b using snoc_ind with
  | nil => simp [cross_nil, inv, wrongTo]
  | snoc b y ih => rw [← List.append_assoc, inv_snoc, ih, over_append, inv_snoc, cross_snoc]; omega

theorem inv_one (y : Int) : inv [y] = 0 := rfl

end Go.Proofs.Ytpmkdihencepnaa

/-
  Plain lists: the cycles of a permutation, one behind the other, each from its greatest number on (no program in sight).
-/
namespace Go.Proofs.Ytpmkdihencepnaa

def IsPerm (xs : List Int) : Prop := xs.Nodup ∧ ∀ x ∈ xs, 1 ≤ x ∧ x ≤ (xs.length : Int)
instance (xs : List Int) : Decidable (IsPerm xs) := by unfold IsPerm; infer_instance

/-- The image of n, counted from 1. -/
def at1 (xs : List Int) (n : Int) : Int := xs.getD (n - 1).toNat 0

theorem IsPerm.at1_mem {xs : List Int} (h : IsPerm xs) {n : Int} (h1 : 1 ≤ n) (h2 : n ≤ xs.length) : 1 ≤ at1 xs n ∧ at1 xs n ≤ xs.length := by
  have hk : (n - 1).toNat < xs.length := by omega
  have e : at1 xs n = xs[(n - 1).toNat] := getD_get hk
  rw [e]
  exact h.2 _ (List.getElem_mem hk)

theorem IsPerm.at1_inj {xs : List Int} (h : IsPerm xs) {a b : Int} (a1 : 1 ≤ a) (a2 : a ≤ xs.length) (b1 : 1 ≤ b) (b2 : b ≤ xs.length) (e : at1 xs a = at1 xs b) : a = b := by
  have ha : (a - 1).toNat < xs.length := by omega
  have hb : (b - 1).toNat < xs.length := by omega
  have ea : at1 xs a = xs[(a - 1).toNat] := getD_get ha
  have eb : at1 xs b = xs[(b - 1).toNat] := getD_get hb
  rw [ea, eb] at e
  have := nodup_get h.1 ha hb e
  omega

/-- As many different numbers from 1 to n as there may be. -/
theorem nodup_bound {L : List Int} {n : Nat} (h : L.Nodup) (hr : ∀ x ∈ L, 1 ≤ x ∧ x ≤ (n : Int)) : L.length ≤ n := by
  have hs : L ⊆ (List.range n).map (fun i : Nat => (i : Int) + 1) := by
    intro x hx
    have := hr x hx
    exact List.mem_map.2 ⟨(x - 1).toNat, by simp; omega, by omega⟩
  have := h.length_le_of_subset hs
  simpa using this

/-- What goes from top on by the permutation, not back at top: no number comes twice. -/
structure Path (xs : List Int) (top : Int) (l : List Int) (n : Int) : Prop where
  head : l.head? = some top
  step : ∀ i (h : i + 1 < l.length), l[i + 1] = at1 xs (l[i]'(by omega))
  low : ∀ i (h : i + 1 < l.length), l[i + 1] < top
  last : n = at1 xs (l.getLastD 0)
  range : ∀ x ∈ l, 1 ≤ x ∧ x ≤ (xs.length : Int)

theorem Path.ne {xs : List Int} {top n : Int} {l : List Int} (h : Path xs top l n) : l ≠ [] := by
  intro e; have := h.head; simp [e] at this

theorem Path.pos {xs : List Int} {top n : Int} {l : List Int} (h : Path xs top l n) : 0 < l.length := List.length_pos_iff.2 h.ne

theorem Path.zero {xs : List Int} {top n : Int} {l : List Int} (h : Path xs top l n) : l[0]'h.pos = top := by
  have := h.head
  rw [List.head?_eq_getElem?, List.getElem?_eq_getElem h.pos] at this
  exact Option.some.inj this

theorem Path.start {xs : List Int} {top : Int} (h1 : 1 ≤ top) (h2 : top ≤ xs.length) : Path xs top [top] (at1 xs top) :=
  ⟨rfl, fun i h => by simp at h, fun i h => by simp at h, rfl, fun x hx => by simp at hx; omega⟩

theorem Path.next {xs : List Int} {top n : Int} {l : List Int} (hp : IsPerm xs) (h : Path xs top l n) (hn : n < top) : Path xs top (l ++ [n]) (at1 xs n) := by
  have hpos := h.pos
  have hlast : l.getLastD 0 = l[l.length - 1] := getLastD_get hpos
  have hmem : 1 ≤ n ∧ n ≤ (xs.length : Int) := by
    rw [h.last, hlast]
    have := h.range _ (List.getElem_mem (show l.length - 1 < l.length by omega))
    exact hp.at1_mem this.1 this.2
  refine ⟨?_, ?_, ?_, by simp, ?_⟩
  · rw [List.head?_append, h.head]; rfl
  · intro i hi
    simp only [List.length_append, List.length_cons, List.length_nil] at hi
    by_cases hl : i + 1 < l.length
    · rw [List.getElem_append_left hl, List.getElem_append_left (by omega)]
      exact h.step i hl
    · have e : i + 1 = l.length := by omega
      rw [List.getElem_append_right (by omega), List.getElem_append_left (by omega)]
      simp only [e, Nat.sub_self, List.getElem_cons_zero]
      rw [h.last, hlast]
      congr 2
      omega
  · intro i hi
    simp only [List.length_append, List.length_cons, List.length_nil] at hi
    by_cases hl : i + 1 < l.length
    · rw [List.getElem_append_left hl]
      exact h.low i hl
    · have e : i + 1 = l.length := by omega
      rw [List.getElem_append_right (by omega)]
      simp only [e, Nat.sub_self, List.getElem_cons_zero]
      exact hn
  · intro x hx
    rcases List.mem_append.1 hx with hx | hx
    · exact h.range x hx
    · simp at hx; omega

theorem Path.nodup {xs : List Int} {top n : Int} {l : List Int} (hp : IsPerm xs) (h : Path xs top l n) : l.Nodup := by
  have key : ∀ (i j : Nat) (hi : i < l.length) (hj : j < l.length), i < j → l[i] ≠ l[j] := by
    intro i
    induction i with
    | zero =>
      intro j hi hj hij e
      obtain ⟨j, rfl⟩ : ∃ m, j = m + 1 := ⟨j - 1, by omega⟩
      have := h.low j hj
      rw [← e, h.zero] at this
      omega
    | succ i ih =>
      intro j hi hj hij e
      obtain ⟨j, rfl⟩ : ∃ m, j = m + 1 := ⟨j - 1, by omega⟩
      rw [h.step i hi, h.step j hj] at e
      have r1 := h.range _ (List.getElem_mem (show i < l.length by omega))
      have r2 := h.range _ (List.getElem_mem (show j < l.length by omega))
      exact ih j (by omega) (by omega) (by omega) (hp.at1_inj r1.1 r1.2 r2.1 r2.2 e)
  rw [List.nodup_iff_pairwise_ne, List.pairwise_iff_getElem]
  intro i j hi hj hij
  exact key i j hi hj hij

/-! The other way: a list, cut before each number that is above all ahead. -/

/-- The greatest of the first k + 1 numbers. -/
def topTo (q : List Int) (k : Nat) : Int := (q.take (k + 1)).foldl max 0
theorem foldl_max_ge (l : List Int) : ∀ a, a ≤ l.foldl max a ∧ ∀ x ∈ l, x ≤ l.foldl max a := by
  induction l with
  | nil => intro a; simp
  | cons y l ih =>
    intro a
    have h := ih (max a y)
    simp only [List.foldl_cons]
    refine ⟨by omega, fun x hx => ?_⟩
    rcases List.mem_cons.1 hx with rfl | hx
    · omega
    · exact h.2 x hx

theorem foldl_max_mem (l : List Int) : ∀ a, l.foldl max a = a ∨ l.foldl max a ∈ l := by
  induction l with
  | nil => intro a; simp
  | cons y l ih =>
    intro a
    simp only [List.foldl_cons]
    rcases ih (max a y) with h | h
    · rw [h]
      by_cases hay : a ≤ y
      · right; rw [Int.max_eq_right hay]; simp
      · left; rw [Int.max_eq_left (by omega)]
    · right; exact List.mem_cons_of_mem _ h

/-- It is that number which stands there and is not below any. -/
theorem topTo_eq {q : List Int} {k i : Nat} (hk : k < q.length) (hi : i ≤ k) (h0 : 0 ≤ q.getD i 0) (h : ∀ j, j ≤ k → q.getD j 0 ≤ q.getD i 0) : topTo q k = q.getD i 0 := by
  unfold topTo
  have h1 := foldl_max_ge (q.take (k + 1)) 0
  have hil : i < q.length := by omega
  have hmem : q.getD i 0 ∈ q.take (k + 1) := by
    rw [getD_get hil, List.mem_take_iff_getElem]
    exact ⟨i, by omega, rfl⟩
  have h2 := h1.2 _ hmem
  rcases foldl_max_mem (q.take (k + 1)) 0 with h3 | h3
  · omega
  · obtain ⟨j, hj, e⟩ := List.mem_take_iff_getElem.1 h3
    have := h j (by omega)
    rw [getD_get (show j < q.length by omega), e] at this
    omega

theorem IsPerm.getD_range {q : List Int} (hp : IsPerm q) {k : Nat} (hk : k < q.length) : 1 ≤ q.getD k 0 ∧ q.getD k 0 ≤ q.length := by
  rw [getD_get hk]; exact hp.2 _ (List.getElem_mem hk)

theorem IsPerm.getD_inj {q : List Int} (hp : IsPerm q) {j k : Nat} (hj : j < q.length) (hk : k < q.length) (e : q.getD j 0 = q.getD k 0) : j = k := by
  rw [getD_get hj, getD_get hk] at e
  exact nodup_get hp.1 hj hk e

/-- From i on to t: a number above all ahead, and those behind it that are below it. -/
structure IsBlock (q : List Int) (i t : Nat) : Prop where
  perm : IsPerm q
  n40 : q.length ≤ 40
  lt : i < q.length
  it : i < t
  tl : t ≤ q.length
  recd : ∀ j, j < i → q.getD j 0 < q.getD i 100
  low : ∀ j, i < j → j < t → q.getD j 0 < q.getD i 0
  stop : t = q.length ∨ q.getD i 0 ≤ q.getD t 0

theorem IsBlock.le {q : List Int} {i t : Nat} (h : IsBlock q i t) {j : Nat} (hj : j < t) : q.getD j 0 ≤ q.getD i 0 := by
  have hi := h.lt
  rcases Nat.lt_trichotomy j i with h1 | h1 | h1
  · have := h.recd j h1
    rw [getD_get hi] at this ⊢
    omega
  · subst h1; omega
  · have := h.low j h1 hj; omega

theorem IsBlock.top {q : List Int} {i t : Nat} (h : IsBlock q i t) {k : Nat} (hik : i ≤ k) (hkt : k < t) : topTo q k = q.getD i 0 := by
  have hr := h.perm.getD_range h.lt
  have htl := h.tl
  exact topTo_eq (by omega) hik (by omega) (fun j hj => h.le (by omega))

theorem IsBlock.next {q : List Int} {i t : Nat} (h : IsBlock q i t) : ∀ j, j < t → q.getD j 0 < q.getD t 100 := by
  intro j hj
  have hn := h.n40
  have htl := h.tl
  have hit := h.it
  have hjl : j < q.length := by omega
  have hr := h.perm.getD_range hjl
  by_cases hl : t < q.length
  · have hs : q.getD i 0 ≤ q.getD t 0 := by
      rcases h.stop with h | h
      · omega
      · exact h
    have hne : q.getD i 0 ≠ q.getD t 0 := fun e => by
      have := h.perm.getD_inj h.lt hl e; omega
    have hji := h.le hj
    have : q.getD t 100 = q.getD t 0 := by rw [getD_get hl, getD_get hl]
    omega
  · rw [getD_far (d := 100) (by omega)]; omega

end Go.Proofs.Ytpmkdihencepnaa

/-
  Plain lists: cycles written one behind the other: there and back; as many cycles as numbers above all ahead.
-/
namespace Go.Proofs.Ytpmkdihencepnaa

section
variable {xs : List Int} {t : Int}

end

/-! What is told so far. -/

theorem IsPerm.length_of {q : List Int} {n : Nat} (h : q.Nodup) (hr : ∀ x ∈ q, 1 ≤ x ∧ x ≤ (n : Int)) (hall : ∀ x : Int, 1 ≤ x → x ≤ n → x ∈ q) : q.length = n := by
  have h1 := nodup_bound h hr
  have h2 := (nodup_upTo n).length_le_of_subset (l₂ := q) (fun x hx => by have := mem_upTo.1 hx; exact hall x this.1 this.2)
  rw [length_upTo] at h2
  omega

end Go.Proofs.Ytpmkdihencepnaa

/-
  Plain lists: Bruhat's order by ranks: an order; what is below has no more inversions; so it is with inverses.
-/
namespace Go.Proofs.Ytpmkdihencepnaa

/-- How many of the first i are at least k. -/
def rk (p : List Int) (i : Nat) (k : Int) : Nat := (p.take i).countP (fun x => decide (k ≤ x))

/-- a below b, as the code asks it. -/
def LeB (a b : List Int) : Prop := ∀ i, i < a.length → ∀ k : Int, 1 ≤ k → k ≤ a.length → rk a (i + 1) k ≤ rk b (i + 1) k

theorem rk_low {p : List Int} (hp : IsPerm p) {i : Nat} (hi : i ≤ p.length) {k : Int} (hk : k ≤ 1) : rk p i k = i := by
  unfold rk
  have : (p.take i).countP (fun x => decide (k ≤ x)) = (p.take i).length := by
    rw [List.countP_eq_length]
    intro x hx
    have := (hp.2 x (List.mem_of_mem_take hx)).1
    simp; omega
  rw [this, List.length_take]; omega

theorem rk_high {p : List Int} (hp : IsPerm p) (i : Nat) {k : Int} (hk : (p.length : Int) < k) : rk p i k = 0 := by
  unfold rk
  rw [List.countP_eq_zero]
  intro x hx
  have := (hp.2 x (List.mem_of_mem_take hx)).2
  simp; omega

/-- .. and at all numbers. -/
theorem LeB.all {a b : List Int} (ha : IsPerm a) (hb : IsPerm b) (hl : a.length = b.length) (h : LeB a b) (i : Nat) (hi : i ≤ a.length) (k : Int) : rk a i k ≤ rk b i k := by
  cases i with
  | zero => simp [rk]
  | succ i =>
    by_cases h1 : k ≤ 1
    · rw [rk_low ha hi h1, rk_low hb (by omega) h1]; exact Nat.le_refl _
    · by_cases h2 : k ≤ a.length
      · exact h i (by omega) k (by omega) h2
      · rw [rk_high ha _ (by omega), rk_high hb _ (by omega)]; exact Nat.le_refl _

theorem LeB.refl (a : List Int) : LeB a a := fun _ _ _ _ _ => Nat.le_refl _
theorem LeB.trans {a b c : List Int} (hl : a.length = b.length) (h : LeB a b) (h' : LeB b c) : LeB a c :=
  fun i hi k h1 h2 => Nat.le_trans (h i hi k h1 h2) (h' i (by omega) k h1 (by omega))

/-- Two lists of one length that are not the same part somewhere. -/
theorem first_parting : ∀ (a b : List Int), a.length = b.length → a ≠ b → ∃ l u ra v rb, a = l ++ u :: ra ∧ b = l ++ v :: rb ∧ u ≠ v
  | [], [], _, h => absurd rfl h
  | x :: a, y :: b, hl, h => by
    by_cases e : x = y
    · subst e
      obtain ⟨l, u, ra, v, rb, h1, h2, h3⟩ := first_parting a b (by simpa using hl) (fun e => h (by rw [e]))
      exact ⟨x :: l, u, ra, v, rb, by rw [h1]; rfl, by rw [h2]; rfl, h3⟩
    · exact ⟨[], x, a, y, b, rfl, rfl, e⟩
  | [], _ :: _, hl, _ => by simp at hl
  | _ :: _, [], hl, _ => by simp at hl

/-- The first one of its kind. -/
theorem first_one (p : Int → Prop) [DecidablePred p] : ∀ (l : List Int), (∃ x ∈ l, p x) → ∃ m w r, l = m ++ w :: r ∧ p w ∧ ∀ x ∈ m, ¬ p x
  | [], h => by obtain ⟨x, hx, _⟩ := h; cases hx
  | y :: l, h => by
    by_cases hy : p y
    · exact ⟨[], y, l, rfl, hy, by simp⟩
    · obtain ⟨m, w, r, h1, h2, h3⟩ := first_one p l (by
        obtain ⟨x, hx, hp⟩ := h
        rcases List.mem_cons.1 hx with rfl | hx
        · exact absurd hp hy
        · exact ⟨x, hx, hp⟩)
      refine ⟨y :: m, w, r, by rw [h1]; rfl, h2, fun x hx => ?_⟩
      rcases List.mem_cons.1 hx with rfl | hx
      · exact hy
      · exact h3 x hx

theorem IsPerm.mem {q : List Int} (hq : IsPerm q) {x : Int} (h1 : 1 ≤ x) (h2 : x ≤ q.length) : x ∈ q := by
  apply Classical.byContradiction
  intro hno
  have hnd : (x :: q).Nodup := List.nodup_cons.2 ⟨hno, hq.1⟩
  have := nodup_bound (n := q.length) hnd (fun y hy => by
    rcases List.mem_cons.1 hy with rfl | hy
    · exact ⟨h1, h2⟩
    · exact hq.2 y hy)
  simp at this
  omega

theorem IsPerm.of_perm {a b : List Int} (h : a.Perm b) (hb : IsPerm b) : IsPerm a :=
  ⟨h.symm.nodup hb.1, fun x hx => by rw [h.length_eq]; exact hb.2 x (h.mem_iff.1 hx)⟩

/-- Two that stand in order change places: more inversions. -/
theorem inv_swap (l m r : List Int) {u v : Int} (h : u < v) : inv (l ++ u :: (m ++ v :: r)) < inv (l ++ v :: (m ++ u :: r)) := by
  have e1 : l ++ u :: (m ++ v :: r) = l ++ (([u] ++ m ++ [v]) ++ r) := by simp
  have e2 : l ++ v :: (m ++ u :: r) = l ++ (([v] ++ m ++ [u]) ++ r) := by simp
  have hp : ([u] ++ m ++ [v]).Perm ([v] ++ m ++ [u]) := by
    refine (List.perm_append_comm).trans ?_
    simp only [List.append_assoc]
    refine List.Perm.append_left [v] ?_
    exact List.perm_append_comm
  have c1 := cross_perm (List.Perm.refl l) (hp.append_right r)
  have c2 := cross_perm hp (List.Perm.refl r)
  have i1 : inv ([u] ++ m ++ [v]) = inv m + cross [u] m + over ([u] ++ m) v := by rw [inv_snoc, inv_append, inv_one]; omega
  have i2 : inv ([v] ++ m ++ [u]) = inv m + cross [v] m + over ([v] ++ m) u := by rw [inv_snoc, inv_append, inv_one]; omega
  have o1 : over ([u] ++ m) v = over m v := by
    rw [over_append]
    have : over [u] v = 0 := over_none (by simp; omega)
    omega
  have o2 : over ([v] ++ m) u = over m u + 1 := by
    rw [over_append]
    have : over [v] u = 1 := by rw [over_all (by simpa using h)]; rfl
    omega
  have m1 : cross [u] m ≤ cross [v] m := by
    rw [cross_one, cross_one]
    exact List.countP_mono_left (fun x _ hx => by simp at hx ⊢; omega)
  have m2 : over m v ≤ over m u := List.countP_mono_left (fun x _ hx => by simp at hx ⊢; omega)
  rw [e1, e2, inv_append l, inv_append l, inv_append _ r, inv_append _ r, c1, c2, i1, i2, o1, o2]
  omega

/-- What is below, and not the same, has something between that differs by two places and has more inversions. -/
theorem LeB.step {a b : List Int} (ha : IsPerm a) (hb : IsPerm b) (hl : a.length = b.length) (h : LeB a b) (hne : a ≠ b) :
    ∃ c, IsPerm c ∧ c.length = a.length ∧ LeB c b ∧ inv a < inv c := by
  obtain ⟨l, u, ra, v, rb, rfl, rfl, huv⟩ := first_parting a b hl hne
  have hall := h.all ha hb hl
  have hrl : ra.length = rb.length := by simpa using hl
  have cnt1 : ∀ (k x : Int), [x].countP (fun x => decide (k ≤ x)) = if k ≤ x then 1 else 0 := by
    intro k x; by_cases hk : k ≤ x <;> simp [hk]
  -- the ranks ahead of, at, and behind the place
  have rkat : ∀ (x : Int) (r : List Int) (j : Nat) (k : Int), rk (l ++ x :: r) (l.length + 1 + j) k = l.countP (fun x => decide (k ≤ x)) + (if k ≤ x then 1 else 0) + (r.take j).countP (fun x => decide (k ≤ x)) := by
    intro x r j k
    have e : (l ++ x :: r).take (l.length + 1 + j) = l ++ ([x] ++ r.take j) := by
      rw [List.take_append, List.take_of_length_le (show l.length ≤ l.length + 1 + j by omega), show l.length + 1 + j - l.length = j + 1 by omega]
      rfl
    unfold rk
    rw [e, List.countP_append, List.countP_append, cnt1]; omega
  have hlt : u < v := by
    have := hall (l.length + 1 + 0) (by simp) u
    rw [rkat, rkat, if_pos (by omega)] at this
    simp at this
    by_cases hv : u ≤ v
    · omega
    · rw [if_neg hv] at this; omega
  have hvra : v ∈ ra := by
    have h1 := hb.2 v (by simp)
    have h2 := ha.mem (x := v) h1.1 (by rw [hl]; exact h1.2)
    have h3 : v ∉ l := by
      have := hb.1
      rw [List.nodup_append] at this
      intro hv; exact this.2.2 v hv v (by simp) rfl
    rcases List.mem_append.1 h2 with h2 | h2
    · exact absurd h2 h3
    · rcases List.mem_cons.1 h2 with h2 | h2
      · omega
      · exact h2
  obtain ⟨m, w, r, rfl, hw, hm⟩ := first_one (fun x => u < x ∧ x ≤ v) ra ⟨v, hvra, hlt, Int.le_refl _⟩
  have hperm : (l ++ w :: (m ++ u :: r)).Perm (l ++ u :: (m ++ w :: r)) := by
    refine List.Perm.append_left l ?_
    have e1 : w :: (m ++ u :: r) = ([w] ++ m ++ [u]) ++ r := by simp
    have e2 : u :: (m ++ w :: r) = ([u] ++ m ++ [w]) ++ r := by simp
    rw [e1, e2]
    refine List.Perm.append_right r ?_
    refine (List.perm_append_comm).trans ?_
    simp only [List.append_assoc]
    exact List.Perm.append_left [u] List.perm_append_comm
  refine ⟨l ++ w :: (m ++ u :: r), IsPerm.of_perm hperm ha, hperm.length_eq, ?_, inv_swap l m r hw.1⟩
  intro i0 hi0 k _ _
  rw [hperm.length_eq] at hi0
  have hAB := hall (i0 + 1) (by omega)
  generalize hi : i0 + 1 = i at hAB
  by_cases c1 : i ≤ l.length
  · -- ahead of both places
    have e : ∀ (x : Int) (s : List Int), rk (l ++ x :: s) i k = (l.take i).countP (fun x => decide (k ≤ x)) := by
      intro x s; unfold rk; rw [List.take_append_of_le_length c1]
    rw [e, e]; exact Nat.le_refl _
  · obtain ⟨j, rfl⟩ : ∃ j, i = l.length + 1 + j := ⟨i - l.length - 1, by omega⟩
    by_cases c2 : j ≤ m.length
    · -- between
      have em : ∀ (x : Int), (m ++ x :: r).take j = m.take j := fun x => List.take_append_of_le_length c2
      rw [rkat, rkat, em]
      by_cases hk : u < k ∧ k ≤ w
      · rw [if_pos hk.2, if_pos (by omega)]
        have h1 := hAB (v + 1)
        rw [rkat, rkat, if_neg (by omega), if_neg (by omega), em] at h1
        have h2 : (m.take j).countP (fun x => decide (k ≤ x)) = (m.take j).countP (fun x => decide (v + 1 ≤ x)) := by
          refine List.countP_congr (fun x hx => ?_)
          have := hm x (List.mem_of_mem_take hx)
          simp only [decide_eq_true_eq]
          omega
        have h3 : (rb.take j).countP (fun x => decide (v + 1 ≤ x)) ≤ (rb.take j).countP (fun x => decide (k ≤ x)) :=
          List.countP_mono_left (fun x _ hx => by simp at hx ⊢; omega)
        rw [h2]
        omega
      · have h1 := hAB k
        rw [rkat, rkat, em] at h1
        have : (if k ≤ w then 1 else 0 : Nat) = if k ≤ u then 1 else 0 := by
          by_cases hku : k ≤ u
          · rw [if_pos hku, if_pos (by omega)]
          · rw [if_neg hku, if_neg (by omega)]
        rw [this]
        exact h1
    · -- behind both
      have h1 := hAB k
      obtain ⟨q, rfl⟩ : ∃ q, j = m.length + 1 + q := ⟨j - m.length - 1, by omega⟩
      have em : ∀ (x : Int), ((m ++ x :: r).take (m.length + 1 + q)).countP (fun x => decide (k ≤ x)) = m.countP (fun x => decide (k ≤ x)) + (if k ≤ x then 1 else 0) + (r.take q).countP (fun x => decide (k ≤ x)) := by
        intro x
        have e : (m ++ x :: r).take (m.length + 1 + q) = m ++ ([x] ++ r.take q) := by
          rw [List.take_append, List.take_of_length_le (show m.length ≤ m.length + 1 + q by omega), show m.length + 1 + q - m.length = q + 1 by omega]
          rfl
        rw [e, List.countP_append, List.countP_append, cnt1]; omega
      rw [rkat, rkat, em] at h1
      rw [rkat, rkat, em]
      omega

/-! Inverses. -/

end Go.Proofs.Ytpmkdihencepnaa
