/-
  Plain matrices of alternating signs: corner sums; meet and join; triangles.
-/
import Derived.Test.YtdmpbbgcifodeaaFlipM
namespace Go.Proofs.Ytdmpbbgcifodeaa

def ent (m : List (List Int)) (i j : Nat) : Int := (m.getD i []).getD j 0
/-- Sums along a row, down a column, of a corner. -/
def rsum (m : List (List Int)) (i j : Nat) : Int := psum (fun b => ent m i b) j
def dsum (m : List (List Int)) (i j : Nat) : Int := psum (fun a => ent m a j) i
def csum (m : List (List Int)) (i j : Nat) : Int := psum (fun a => rsum m a j) i

theorem psum_congr {f g : Nat → Int} : ∀ k, (∀ i, i < k → f i = g i) → psum f k = psum g k
  | 0, _ => rfl
  | k + 1, h => by simp only [psum]; rw [psum_congr k (fun i hi => h i (by omega)), h k (by omega)]
theorem psum_add (f g : Nat → Int) : ∀ k, psum (fun i => f i + g i) k = psum f k + psum g k
  | 0 => rfl
  | k + 1 => by simp only [psum]; rw [psum_add f g k]; omega
theorem csum_down (m : List (List Int)) (i j : Nat) : csum m (i + 1) j = csum m i j + rsum m i j := rfl
theorem csum_side (m : List (List Int)) (i j : Nat) : csum m i (j + 1) = csum m i j + dsum m i j := by
  unfold csum dsum rsum
  rw [← psum_add]
  rfl
theorem csum_top (m : List (List Int)) (j : Nat) : csum m 0 j = 0 := rfl
theorem csum_left (m : List (List Int)) : ∀ i, csum m i 0 = 0
  | 0 => rfl
  | i + 1 => by rw [csum_down, csum_left m i]; rfl

/-- n rows of n. -/
def IsSq (m : List (List Int)) (n : Nat) : Prop := m.length = n ∧ ∀ r ∈ m, r.length = n
/-- Alternating signs. -/
structure IsSign (m : List (List Int)) (n : Nat) : Prop where
  sq : IsSq m n
  pos : 1 ≤ n
  row : ∀ i j, i < n → j ≤ n → 0 ≤ rsum m i j ∧ rsum m i j ≤ 1
  row1 : ∀ i, i < n → rsum m i n = 1
  col : ∀ i j, i ≤ n → j < n → 0 ≤ dsum m i j ∧ dsum m i j ≤ 1
  col1 : ∀ j, j < n → dsum m n j = 1

/-- What the corner sums are like. -/
structure Cor (c : Nat → Nat → Int) (n : Nat) : Prop where
  top : ∀ j, j ≤ n → c 0 j = 0
  left : ∀ i, i ≤ n → c i 0 = 0
  down : ∀ i j, i < n → j ≤ n → 0 ≤ c (i + 1) j - c i j ∧ c (i + 1) j - c i j ≤ 1
  side : ∀ i j, i ≤ n → j < n → 0 ≤ c i (j + 1) - c i j ∧ c i (j + 1) - c i j ≤ 1
  bot : ∀ j, j ≤ n → c n j = j
  right : ∀ i, i ≤ n → c i n = i

theorem IsSign.cor {m : List (List Int)} {n : Nat} (h : IsSign m n) : Cor (csum m) n := by
  refine ⟨fun j _ => rfl, fun i _ => csum_left m i, fun i j hi hj => ?_, fun i j hi hj => ?_, ?_, ?_⟩
  · rw [csum_down]; have := h.row i j hi hj; omega
  · rw [csum_side]; have := h.col i j hi hj; omega
  · intro j
    induction j with
    | zero => intro _; rw [csum_left]; rfl
    | succ j ih => intro hj; rw [csum_side, ih (by omega), h.col1 j (by omega)]; omega
  · intro i
    induction i with
    | zero => intro _; rfl
    | succ i ih => intro hi; rw [csum_down, ih (by omega), h.row1 i (by omega)]; omega
theorem Cor.sign {m : List (List Int)} {n : Nat} (hs : IsSq m n) (hn : 1 ≤ n) (h : Cor (csum m) n) : IsSign m n := by
  refine ⟨hs, hn, fun i j hi hj => ?_, fun i hi => ?_, fun i j hi hj => ?_, fun j hj => ?_⟩
  · have := h.down i j hi hj; rw [csum_down] at this; omega
  · have h1 := h.right (i + 1) (by omega); have h2 := h.right i (by omega); rw [csum_down] at h1; omega
  · have := h.side i j hi hj; rw [csum_side] at this; omega
  · have h1 := h.bot (j + 1) (by omega); have h2 := h.bot j (by omega); rw [csum_side] at h1; omega

/-- The matrix with these corner sums. -/
def unc (n : Nat) (c : Nat → Nat → Int) : List (List Int) := (List.range n).map (fun i => (List.range n).map (fun j => c (i + 1) (j + 1) - c i (j + 1) - c (i + 1) j + c i j))
theorem unc_sq (n : Nat) (c : Nat → Nat → Int) : IsSq (unc n c) n := by
  refine ⟨by simp [unc], fun r hr => ?_⟩
  obtain ⟨i, _, rfl⟩ := List.mem_map.1 hr
  simp
theorem unc_ent {n : Nat} {c : Nat → Nat → Int} {i j : Nat} (hi : i < n) (hj : j < n) : ent (unc n c) i j = c (i + 1) (j + 1) - c i (j + 1) - c (i + 1) j + c i j := by
  have e : (unc n c).getD i [] = (List.range n).map (fun j => c (i + 1) (j + 1) - c i (j + 1) - c (i + 1) j + c i j) := by
    unfold unc; rw [List.getD_eq_getElem?_getD]; simp [hi]
  unfold ent
  rw [e, getD_get (by simpa using hj)]
  simp
theorem unc_rsum {n : Nat} {c : Nat → Nat → Int} {i : Nat} (hi : i < n) : ∀ j, j ≤ n → rsum (unc n c) i j = (c (i + 1) j - c i j) - (c (i + 1) 0 - c i 0)
  | 0, _ => by unfold rsum psum; omega
  | j + 1, hj => by
    have h1 : rsum (unc n c) i (j + 1) = rsum (unc n c) i j + ent (unc n c) i j := rfl
    rw [h1, unc_rsum hi j (by omega), unc_ent hi (by omega)]; omega
theorem unc_csum {n : Nat} {c : Nat → Nat → Int} (ht : ∀ j, j ≤ n → c 0 j = 0) (hl : ∀ i, i ≤ n → c i 0 = 0) : ∀ i j, i ≤ n → j ≤ n → csum (unc n c) i j = c i j
  | 0, j, _, hj => by rw [csum_top, ht j hj]
  | i + 1, j, hi, hj => by
    rw [csum_down, unc_csum ht hl i j (by omega) hj, unc_rsum (by omega) j hj, hl (i + 1) hi, hl i (by omega)]; omega
theorem Cor.unc {n : Nat} {c : Nat → Nat → Int} (hn : 1 ≤ n) (h : Cor c n) : IsSign (unc n c) n := by
  have e := unc_csum h.top h.left
  refine Cor.sign (unc_sq n c) hn ⟨fun j hj => by rw [e 0 j (by omega) hj]; exact h.top j hj, fun i hi => by rw [e i 0 hi (by omega)]; exact h.left i hi, fun i j hi hj => ?_, fun i j hi hj => ?_, fun j hj => by rw [e n j (by omega) hj]; exact h.bot j hj, fun i hi => by rw [e i n hi (by omega)]; exact h.right i hi⟩
  · rw [e (i + 1) j (by omega) hj, e i j (by omega) hj]; exact h.down i j hi hj
  · rw [e i (j + 1) hi (by omega), e i j hi (by omega)]; exact h.side i j hi hj

theorem sq_ext {a b : List (List Int)} {n : Nat} (ha : IsSq a n) (hb : IsSq b n) (h : ∀ i j, i < n → j < n → ent a i j = ent b i j) : a = b := by
  apply List.ext_getElem (by rw [ha.1, hb.1])
  intro i h1 h2
  have la := ha.2 _ (List.getElem_mem h1)
  have lb := hb.2 _ (List.getElem_mem h2)
  apply List.ext_getElem (by rw [la, lb])
  intro j h3 h4
  have := h i j (by rw [← ha.1]; exact h1) (by rw [← la]; exact h3)
  unfold ent at this
  rw [getD_get h1, getD_get h2, getD_get h3, getD_get h4] at this
  exact this
theorem ent_csum (m : List (List Int)) (i j : Nat) : ent m i j = csum m (i + 1) (j + 1) - csum m i (j + 1) - csum m (i + 1) j + csum m i j := by
  rw [csum_down, csum_down]
  have : rsum m i (j + 1) = rsum m i j + ent m i j := rfl
  omega
theorem unc_csum_self {m : List (List Int)} {n : Nat} (h : IsSq m n) : unc n (csum m) = m :=
  sq_ext (unc_sq n _) h (fun i j hi hj => by rw [unc_ent hi hj, ent_csum])
theorem csum_inj {a b : List (List Int)} {n : Nat} (ha : IsSq a n) (hb : IsSq b n) (h : ∀ i j, i ≤ n → j ≤ n → csum a i j = csum b i j) : a = b :=
  sq_ext ha hb (fun i j hi hj => by rw [ent_csum, ent_csum, h _ _ (by omega) (by omega), h i (j + 1) (by omega) (by omega), h (i + 1) j (by omega) (by omega), h i j (by omega) (by omega)])

theorem Cor.max {c d : Nat → Nat → Int} {n : Nat} (hc : Cor c n) (hd : Cor d n) : Cor (fun i j => max (c i j) (d i j)) n := by
  refine ⟨fun j hj => ?_, fun i hi => ?_, fun i j hi hj => ?_, fun i j hi hj => ?_, fun j hj => ?_, fun i hi => ?_⟩
  · have := hc.top j hj; have := hd.top j hj; omega
  · have := hc.left i hi; have := hd.left i hi; omega
  · have := hc.down i j hi hj; have := hd.down i j hi hj; omega
  · have := hc.side i j hi hj; have := hd.side i j hi hj; omega
  · have := hc.bot j hj; have := hd.bot j hj; omega
  · have := hc.right i hi; have := hd.right i hi; omega
theorem Cor.min {c d : Nat → Nat → Int} {n : Nat} (hc : Cor c n) (hd : Cor d n) : Cor (fun i j => min (c i j) (d i j)) n := by
  refine ⟨fun j hj => ?_, fun i hi => ?_, fun i j hi hj => ?_, fun i j hi hj => ?_, fun j hj => ?_, fun i hi => ?_⟩
  · have := hc.top j hj; have := hd.top j hj; omega
  · have := hc.left i hi; have := hd.left i hi; omega
  · have := hc.down i j hi hj; have := hd.down i j hi hj; omega
  · have := hc.side i j hi hj; have := hd.side i j hi hj; omega
  · have := hc.bot j hj; have := hd.bot j hj; omega
  · have := hc.right i hi; have := hd.right i hi; omega

/-- a's sums are nowhere less. -/
def Ge (a b : List (List Int)) (n : Nat) : Prop := ∀ i j, i ≤ n → j ≤ n → csum b i j ≤ csum a i j
def meetOf (n : Nat) (a b : List (List Int)) : List (List Int) := unc n (fun i j => max (csum a i j) (csum b i j))
def joinOf (n : Nat) (a b : List (List Int)) : List (List Int) := unc n (fun i j => min (csum a i j) (csum b i j))
section
variable {a b c : List (List Int)} {n : Nat}
theorem meet_csum (ha : IsSign a n) (hb : IsSign b n) {i j : Nat} (hi : i ≤ n) (hj : j ≤ n) : csum (meetOf n a b) i j = max (csum a i j) (csum b i j) :=
  unc_csum (ha.cor.max hb.cor).top (ha.cor.max hb.cor).left i j hi hj
theorem join_csum (ha : IsSign a n) (hb : IsSign b n) {i j : Nat} (hi : i ≤ n) (hj : j ≤ n) : csum (joinOf n a b) i j = min (csum a i j) (csum b i j) :=
  unc_csum (ha.cor.min hb.cor).top (ha.cor.min hb.cor).left i j hi hj
theorem meet_sign (ha : IsSign a n) (hb : IsSign b n) : IsSign (meetOf n a b) n := (ha.cor.max hb.cor).unc ha.pos
theorem join_sign (ha : IsSign a n) (hb : IsSign b n) : IsSign (joinOf n a b) n := (ha.cor.min hb.cor).unc ha.pos
theorem meet_ge (ha : IsSign a n) (hb : IsSign b n) : Ge (meetOf n a b) a n ∧ Ge (meetOf n a b) b n :=
  ⟨fun i j hi hj => by rw [meet_csum ha hb hi hj]; omega, fun i j hi hj => by rw [meet_csum ha hb hi hj]; omega⟩
theorem ge_join (ha : IsSign a n) (hb : IsSign b n) : Ge a (joinOf n a b) n ∧ Ge b (joinOf n a b) n :=
  ⟨fun i j hi hj => by rw [join_csum ha hb hi hj]; omega, fun i j hi hj => by rw [join_csum ha hb hi hj]; omega⟩
theorem ge_meet (ha : IsSign a n) (hb : IsSign b n) (h1 : Ge c a n) (h2 : Ge c b n) : Ge c (meetOf n a b) n :=
  fun i j hi hj => by rw [meet_csum ha hb hi hj]; have := h1 i j hi hj; have := h2 i j hi hj; omega
theorem join_ge (ha : IsSign a n) (hb : IsSign b n) (h1 : Ge a c n) (h2 : Ge b c n) : Ge (joinOf n a b) c n :=
  fun i j hi hj => by rw [join_csum ha hb hi hj]; have := h1 i j hi hj; have := h2 i j hi hj; omega
theorem meet_eq_iff (ha : IsSign a n) (hb : IsSign b n) : meetOf n a b = a ↔ Ge a b n := by
  constructor
  · intro h i j hi hj
    have := meet_csum ha hb hi hj
    rw [h] at this; omega
  · intro h
    refine csum_inj (unc_sq n _) ha.sq (fun i j hi hj => ?_)
    have := meet_csum ha hb hi hj
    have := h i j hi hj
    unfold meetOf at *
    omega
theorem join_eq_iff (ha : IsSign a n) (hb : IsSign b n) : joinOf n a b = b ↔ Ge a b n := by
  constructor
  · intro h i j hi hj
    have := join_csum ha hb hi hj
    rw [h] at this; omega
  · intro h
    refine csum_inj (unc_sq n _) hb.sq (fun i j hi hj => ?_)
    have := join_csum ha hb hi hj
    have := h i j hi hj
    unfold joinOf at *
    omega
end

/-! Triangles. -/

/-- In which columns the first i rows come to 1. -/
def triRow (m : List (List Int)) (n i : Nat) : List Int := ((List.range n).filter (fun j => decide (dsum m i j = 1))).map (fun j : Nat => (j : Int) + 1)
def triOf (m : List (List Int)) (n : Nat) : List (List Int) := (List.range n).map (fun i => triRow m n (i + 1))

/-- As far as column k. -/
def triTo (m : List (List Int)) (i k : Nat) : List Int := ((List.range k).filter (fun j => decide (dsum m i j = 1))).map (fun j : Nat => (j : Int) + 1)
theorem triTo_succ (m : List (List Int)) (i k : Nat) : triTo m i (k + 1) = triTo m i k ++ if dsum m i k = 1 then [(k : Int) + 1] else [] := by
  unfold triTo
  rw [List.range_succ, List.filter_append, List.map_append]
  congr 1
  by_cases h : dsum m i k = 1 <;> simp [h]
theorem triTo_mem {m : List (List Int)} {i k : Nat} {x : Int} : x ∈ triTo m i k ↔ ∃ j : Nat, j < k ∧ dsum m i j = 1 ∧ x = (j : Int) + 1 := by
  unfold triTo
  simp only [List.mem_map, List.mem_filter, List.mem_range, decide_eq_true_eq]
  constructor
  · rintro ⟨j, ⟨h1, h2⟩, rfl⟩; exact ⟨j, h1, h2, rfl⟩
  · rintro ⟨j, h1, h2, rfl⟩; exact ⟨j, ⟨h1, h2⟩, rfl⟩
/-- Rising. -/
def Rises (l : List Int) : Prop := ∀ i, 1 ≤ i → i < l.length → l.getD (i - 1) 0 < l.getD i 0
theorem triTo_pairwise (m : List (List Int)) (i k : Nat) : (triTo m i k).Pairwise (· < ·) := by
  unfold triTo
  rw [List.pairwise_map]
  refine (List.Pairwise.filter _ (List.pairwise_lt_range)).imp (fun h => by omega)
theorem getD_lt_of_pairwise {l : List Int} (h : l.Pairwise (· < ·)) {i j : Nat} (hij : i < j) (hj : j < l.length) : l.getD i 0 < l.getD j 0 := by
  rw [getD_get (by omega), getD_get hj]
  exact List.pairwise_iff_getElem.1 h i j (by omega) hj hij
/-- What is below x stands ahead. -/
theorem below_count : ∀ {l : List Int}, l.Pairwise (· < ·) → ∀ (k : Nat) (x : Int), k < l.length → (l.getD k 0 ≤ x ↔ k < l.countP (fun y => decide (y ≤ x)))
  | [], _, k, x, hk => by simp at hk
  | y :: l, h, k, x, hk => by
    have hp := List.pairwise_cons.1 h
    have ih := below_count hp.2
    have ho : (y :: l).countP (fun y => decide (y ≤ x)) = l.countP (fun y => decide (y ≤ x)) + if y ≤ x then 1 else 0 := by simp [List.countP_cons]
    rw [ho]
    by_cases hy : y ≤ x
    · rw [if_pos hy]
      cases k with
      | zero => simp only [List.getD_cons_zero]; exact ⟨fun _ => by omega, fun _ => hy⟩
      | succ k => simp only [List.getD_cons_succ]; rw [ih k x (by simpa using hk)]; omega
    · rw [if_neg hy]
      have h0 : l.countP (fun y => decide (y ≤ x)) = 0 := by
        rw [List.countP_eq_zero]
        intro z hz
        have := hp.1 z hz
        simp; omega
      rw [h0]
      cases k with
      | zero => simp only [List.getD_cons_zero]; omega
      | succ k =>
        simp only [List.getD_cons_succ]
        have hk' : k < l.length := by simpa using hk
        have := hp.1 _ (List.getElem_mem hk')
        rw [getD_get hk']
        omega
theorem tri_count {m : List (List Int)} {n i : Nat} (h : IsSign m n) (hi : i ≤ n) : ∀ k, k ≤ n → ((triTo m i n).countP (fun y => decide (y ≤ (k : Int))) : Int) = csum m i k := by
  have hall : ∀ k, k ≤ n → ((triTo m i k).length : Int) = csum m i k := by
    intro k
    induction k with
    | zero => intro _; rw [csum_left]; simp [triTo]
    | succ k ih =>
      intro hk
      have := h.col i k hi (by omega)
      rw [triTo_succ, List.length_append, csum_side]
      have := ih (by omega)
      split
      · simp; omega
      · simp; omega
  intro k hk
  have e : (triTo m i n).filter (fun y => decide (y ≤ (k : Int))) = triTo m i k := by
    unfold triTo
    rw [List.filter_map, List.filter_filter]
    congr 1
    have : List.range n = List.range k ++ (List.range (n - k)).map (k + ·) := by rw [← List.range_add]; congr 1; omega
    rw [this, List.filter_append]
    have e2 : ((List.range (n - k)).map (k + ·)).filter (fun a => ((fun y => decide (y ≤ (k : Int))) ∘ fun j : Nat => (j : Int) + 1) a && decide (dsum m i a = 1)) = [] := by
      rw [List.filter_eq_nil_iff]
      intro a ha
      obtain ⟨b, _, rfl⟩ := List.mem_map.1 ha
      simp; omega
    rw [e2, List.append_nil]
    refine List.filter_congr (fun a ha => ?_)
    have := List.mem_range.1 ha
    have : (((fun y => decide (y ≤ (k : Int))) ∘ fun j : Nat => (j : Int) + 1) a) = true := by simp; omega
    rw [this, Bool.true_and]
  rw [List.countP_eq_length_filter, e, hall k hk]
theorem tri_length {m : List (List Int)} {n i : Nat} (h : IsSign m n) (hi : i ≤ n) : (triTo m i n).length = i := by
  have h1 := tri_count h hi n (Nat.le_refl _)
  have h2 : (triTo m i n).countP (fun y => decide (y ≤ (n : Int))) = (triTo m i n).length := by
    rw [List.countP_eq_length]
    intro x hx
    obtain ⟨j, hj, _, rfl⟩ := triTo_mem.1 hx
    simp; omega
  rw [h2, h.cor.right i hi] at h1
  omega
theorem tri_range {m : List (List Int)} {n i k : Nat} (h : IsSign m n) (hi : i ≤ n) (hk : k < i) : 1 ≤ (triTo m i n).getD k 0 ∧ (triTo m i n).getD k 0 ≤ n := by
  have hl := tri_length h hi
  have hm : (triTo m i n).getD k 0 ∈ triTo m i n := by rw [getD_get (by omega)]; exact List.getElem_mem _
  obtain ⟨j, hj, _, e⟩ := triTo_mem.1 hm
  omega
theorem tri_rise {m : List (List Int)} {n i k : Nat} (h : IsSign m n) (hi : i ≤ n) (h1 : 1 ≤ k) (hk : k < i) : (triTo m i n).getD (k - 1) 0 < (triTo m i n).getD k 0 :=
  getD_lt_of_pairwise (triTo_pairwise m i n) (by omega) (by rw [tri_length h hi]; exact hk)
/-- Each row lies between those of the next one. -/
theorem tri_lace {m : List (List Int)} {n i k : Nat} (h : IsSign m n) (hi : i + 1 ≤ n) (h1 : 1 ≤ k) (hk : k < i + 1) :
    (triTo m (i + 1) n).getD (k - 1) 0 ≤ (triTo m i n).getD (k - 1) 0 ∧ (triTo m i n).getD (k - 1) 0 ≤ (triTo m (i + 1) n).getD k 0 := by
  have l1 := tri_length h (i := i) (by omega)
  have l2 := tri_length h hi
  have ra := tri_range h (i := i) (k := k - 1) (by omega) (by omega)
  have rb := tri_range h (i := i + 1) (k := k) hi hk
  obtain ⟨x, hx⟩ : ∃ x : Nat, (triTo m i n).getD (k - 1) 0 = x := ⟨((triTo m i n).getD (k - 1) 0).toNat, by omega⟩
  obtain ⟨y, hy⟩ : ∃ y : Nat, (triTo m (i + 1) n).getD k 0 = y := ⟨((triTo m (i + 1) n).getD k 0).toNat, by omega⟩
  constructor
  · rw [hx]
    rw [below_count (triTo_pairwise m (i + 1) n) (k - 1) x (by omega)]
    have a1 := (below_count (triTo_pairwise m i n) (k - 1) x (by omega)).1 (by omega)
    have a2 := tri_count h (i := i) (by omega) x (by omega)
    have a3 := tri_count h hi x (by omega)
    have a4 := h.cor.down i x (by omega) (by omega)
    omega
  · rw [hy]
    rw [below_count (triTo_pairwise m i n) (k - 1) y (by omega)]
    have a1 := (below_count (triTo_pairwise m (i + 1) n) k y (by omega)).1 (by omega)
    have a2 := tri_count h (i := i) (by omega) y (by omega)
    have a3 := tri_count h hi y (by omega)
    have a4 := h.cor.down i y (by omega) (by omega)
    omega
theorem dsum_top (m : List (List Int)) (j : Nat) : dsum m 0 j = 0 := rfl
theorem dsum_succ (m : List (List Int)) (i j : Nat) : dsum m (i + 1) j = dsum m i j + ent m i j := rfl
theorem triTo_zero {m : List (List Int)} {n : Nat} : triTo m 0 n = [] := by
  unfold triTo
  rw [List.filter_eq_nil_iff.2 (fun j _ => by rw [dsum_top]; simp)]; rfl

end Go.Proofs.Ytdmpbbgcifodeaa
