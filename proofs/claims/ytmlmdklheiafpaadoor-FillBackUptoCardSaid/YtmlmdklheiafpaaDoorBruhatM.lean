/-
  Plain lists: Bruhat's order by ranks: an order; what is below has no more inversions; so it is with inverses.
-/
import Derived.Test.YtmlmdklheiafpaaDoorRoundsP
import Derived.Test.YtmlmdklheiafpaaDoorFoldI
namespace Go.Proofs.YtmlmdklheiafpaaDoor

/-- How many of the first i are at least k. -/
def rk (p : List Int) (i : Nat) (k : Int) : Nat := (p.take i).countP (fun x => decide (k ≤ x))

/-- a below b, as the code asks it. -/
def LeB (a b : List Int) : Prop := ∀ i, i < a.length → ∀ k : Int, 1 ≤ k → k ≤ a.length → rk a (i + 1) k ≤ rk b (i + 1) k

theorem rk_succ (p : List Int) {i : Nat} (h : i < p.length) (k : Int) : rk p (i + 1) k = rk p i k + if k ≤ p.getD i 0 then 1 else 0 := by
  unfold rk
  rw [take_snoc h, List.countP_append, getD_get h]
  by_cases hk : k ≤ p[i] <;> simp [hk]

theorem rk_le (p : List Int) (i : Nat) (k : Int) : rk p i k ≤ i := by
  have := List.countP_le_length (p := fun x => decide (k ≤ x)) (l := p.take i)
  rw [List.length_take] at this
  unfold rk; omega

theorem rk_low {p : List Int} (hp : IsPerm p) {i : Nat} (hi : i ≤ p.length) {k : Int} (hk : k ≤ 1) : rk p i k = i := by
  unfold rk
  have : (p.take i).countP (fun x => decide (k ≤ x)) = (p.take i).length := by
    rw [List.countP_eq_length]
    intro x hx
    have := (hp.2 x (List.mem_of_mem_take hx)).1
    simp; omega
  rw [this, List.length_take]; omega

theorem rk_high {p : List Int} (hp : IsPerm p) (i : Nat) {k : Int} (hk : (p.length : Int) < k) : rk p i k = 0 := by
  unfold rk
  rw [List.countP_eq_zero]
  intro x hx
  have := (hp.2 x (List.mem_of_mem_take hx)).2
  simp; omega

/-- .. and at all numbers. -/
theorem LeB.all {a b : List Int} (ha : IsPerm a) (hb : IsPerm b) (hl : a.length = b.length) (h : LeB a b) (i : Nat) (hi : i ≤ a.length) (k : Int) : rk a i k ≤ rk b i k := by
  cases i with
  | zero => simp [rk]
  | succ i =>
    by_cases h1 : k ≤ 1
    · rw [rk_low ha hi h1, rk_low hb (by omega) h1]; exact Nat.le_refl _
    · by_cases h2 : k ≤ a.length
      · exact h i (by omega) k (by omega) h2
      · rw [rk_high ha _ (by omega), rk_high hb _ (by omega)]; exact Nat.le_refl _

theorem LeB.refl (a : List Int) : LeB a a := fun _ _ _ _ _ => Nat.le_refl _
theorem LeB.trans {a b c : List Int} (hl : a.length = b.length) (h : LeB a b) (h' : LeB b c) : LeB a c :=
  fun i hi k h1 h2 => Nat.le_trans (h i hi k h1 h2) (h' i (by omega) k h1 (by omega))

/-- Two lists of one length that are not the same part somewhere. -/
theorem first_parting : ∀ (a b : List Int), a.length = b.length → a ≠ b → ∃ l u ra v rb, a = l ++ u :: ra ∧ b = l ++ v :: rb ∧ u ≠ v
  | [], [], _, h => absurd rfl h
  | x :: a, y :: b, hl, h => by
    by_cases e : x = y
    · subst e
      obtain ⟨l, u, ra, v, rb, h1, h2, h3⟩ := first_parting a b (by simpa using hl) (fun e => h (by rw [e]))
      exact ⟨x :: l, u, ra, v, rb, by rw [h1]; rfl, by rw [h2]; rfl, h3⟩
    · exact ⟨[], x, a, y, b, rfl, rfl, e⟩
  | [], _ :: _, hl, _ => by simp at hl
  | _ :: _, [], hl, _ => by simp at hl

/-- The first one of its kind. -/
theorem first_one (p : Int → Prop) [DecidablePred p] : ∀ (l : List Int), (∃ x ∈ l, p x) → ∃ m w r, l = m ++ w :: r ∧ p w ∧ ∀ x ∈ m, ¬ p x
  | [], h => by obtain ⟨x, hx, _⟩ := h; cases hx
  | y :: l, h => by
    by_cases hy : p y
    · exact ⟨[], y, l, rfl, hy, by simp⟩
    · obtain ⟨m, w, r, h1, h2, h3⟩ := first_one p l (by
        obtain ⟨x, hx, hp⟩ := h
        rcases List.mem_cons.1 hx with rfl | hx
        · exact absurd hp hy
        · exact ⟨x, hx, hp⟩)
      refine ⟨y :: m, w, r, by rw [h1]; rfl, h2, fun x hx => ?_⟩
      rcases List.mem_cons.1 hx with rfl | hx
      · exact hy
      · exact h3 x hx

theorem IsPerm.mem {q : List Int} (hq : IsPerm q) {x : Int} (h1 : 1 ≤ x) (h2 : x ≤ q.length) : x ∈ q := by
  apply Classical.byContradiction
  intro hno
  have hnd : (x :: q).Nodup := List.nodup_cons.2 ⟨hno, hq.1⟩
  have := nodup_bound (n := q.length) hnd (fun y hy => by
    rcases List.mem_cons.1 hy with rfl | hy
    · exact ⟨h1, h2⟩
    · exact hq.2 y hy)
  simp at this
  omega

theorem IsPerm.of_perm {a b : List Int} (h : a.Perm b) (hb : IsPerm b) : IsPerm a :=
  ⟨h.symm.nodup hb.1, fun x hx => by rw [h.length_eq]; exact hb.2 x (h.mem_iff.1 hx)⟩

theorem cnt_append (k : Int) (l m : List Int) (i : Nat) : ((l ++ m).take i).countP (fun x => decide (k ≤ x)) = (l.take i).countP (fun x => decide (k ≤ x)) + (m.take (i - l.length)).countP (fun x => decide (k ≤ x)) := by
  rw [List.take_append, List.countP_append]

/-- Two that stand in order change places: more inversions. -/
theorem inv_swap (l m r : List Int) {u v : Int} (h : u < v) : inv (l ++ u :: (m ++ v :: r)) < inv (l ++ v :: (m ++ u :: r)) := by
  have e1 : l ++ u :: (m ++ v :: r) = l ++ (([u] ++ m ++ [v]) ++ r) := by simp
  have e2 : l ++ v :: (m ++ u :: r) = l ++ (([v] ++ m ++ [u]) ++ r) := by simp
  have hp : ([u] ++ m ++ [v]).Perm ([v] ++ m ++ [u]) := by
    refine (List.perm_append_comm).trans ?_
    simp only [List.append_assoc]
    refine List.Perm.append_left [v] ?_
    exact List.perm_append_comm
  have c1 := cross_perm (List.Perm.refl l) (hp.append_right r)
  have c2 := cross_perm hp (List.Perm.refl r)
  have i1 : inv ([u] ++ m ++ [v]) = inv m + cross [u] m + over ([u] ++ m) v := by rw [inv_snoc, inv_append, inv_one]; omega
  have i2 : inv ([v] ++ m ++ [u]) = inv m + cross [v] m + over ([v] ++ m) u := by rw [inv_snoc, inv_append, inv_one]; omega
  have o1 : over ([u] ++ m) v = over m v := by
    rw [over_append]
    have : over [u] v = 0 := over_none (by simp; omega)
    omega
  have o2 : over ([v] ++ m) u = over m u + 1 := by
    rw [over_append]
    have : over [v] u = 1 := by rw [over_all (by simpa using h)]; rfl
    omega
  have m1 : cross [u] m ≤ cross [v] m := by
    rw [cross_one, cross_one]
    exact List.countP_mono_left (fun x _ hx => by simp at hx ⊢; omega)
  have m2 : over m v ≤ over m u := List.countP_mono_left (fun x _ hx => by simp at hx ⊢; omega)
  rw [e1, e2, inv_append l, inv_append l, inv_append _ r, inv_append _ r, c1, c2, i1, i2, o1, o2]
  omega

/-- What is below, and not the same, has something between that differs by two places and has more inversions. -/
theorem LeB.step {a b : List Int} (ha : IsPerm a) (hb : IsPerm b) (hl : a.length = b.length) (h : LeB a b) (hne : a ≠ b) :
    ∃ c, IsPerm c ∧ c.length = a.length ∧ LeB c b ∧ inv a < inv c := by
  obtain ⟨l, u, ra, v, rb, rfl, rfl, huv⟩ := first_parting a b hl hne
  have hall := h.all ha hb hl
  have hrl : ra.length = rb.length := by simpa using hl
  have cnt1 : ∀ (k x : Int), [x].countP (fun x => decide (k ≤ x)) = if k ≤ x then 1 else 0 := by
    intro k x; by_cases hk : k ≤ x <;> simp [hk]
  -- the ranks ahead of, at, and behind the place
  have rkat : ∀ (x : Int) (r : List Int) (j : Nat) (k : Int), rk (l ++ x :: r) (l.length + 1 + j) k = l.countP (fun x => decide (k ≤ x)) + (if k ≤ x then 1 else 0) + (r.take j).countP (fun x => decide (k ≤ x)) := by
    intro x r j k
    have e : (l ++ x :: r).take (l.length + 1 + j) = l ++ ([x] ++ r.take j) := by
      rw [List.take_append, List.take_of_length_le (show l.length ≤ l.length + 1 + j by omega), show l.length + 1 + j - l.length = j + 1 by omega]
      rfl
    unfold rk
    rw [e, List.countP_append, List.countP_append, cnt1]; omega
  have hlt : u < v := by
    have := hall (l.length + 1 + 0) (by simp) u
    rw [rkat, rkat, if_pos (by omega)] at this
    simp at this
    by_cases hv : u ≤ v
    · omega
    · rw [if_neg hv] at this; omega
  have hvra : v ∈ ra := by
    have h1 := hb.2 v (by simp)
    have h2 := ha.mem (x := v) h1.1 (by rw [hl]; exact h1.2)
    have h3 : v ∉ l := by
      have := hb.1
      rw [List.nodup_append] at this
      intro hv; exact this.2.2 v hv v (by simp) rfl
    rcases List.mem_append.1 h2 with h2 | h2
    · exact absurd h2 h3
    · rcases List.mem_cons.1 h2 with h2 | h2
      · omega
      · exact h2
  obtain ⟨m, w, r, rfl, hw, hm⟩ := first_one (fun x => u < x ∧ x ≤ v) ra ⟨v, hvra, hlt, Int.le_refl _⟩
  have hperm : (l ++ w :: (m ++ u :: r)).Perm (l ++ u :: (m ++ w :: r)) := by
    refine List.Perm.append_left l ?_
    have e1 : w :: (m ++ u :: r) = ([w] ++ m ++ [u]) ++ r := by simp
    have e2 : u :: (m ++ w :: r) = ([u] ++ m ++ [w]) ++ r := by simp
    rw [e1, e2]
    refine List.Perm.append_right r ?_
    refine (List.perm_append_comm).trans ?_
    simp only [List.append_assoc]
    exact List.Perm.append_left [u] List.perm_append_comm
  refine ⟨l ++ w :: (m ++ u :: r), IsPerm.of_perm hperm ha, hperm.length_eq, ?_, inv_swap l m r hw.1⟩
  intro i0 hi0 k _ _
  rw [hperm.length_eq] at hi0
  have hAB := hall (i0 + 1) (by omega)
  generalize hi : i0 + 1 = i at hAB
  by_cases c1 : i ≤ l.length
  · -- ahead of both places
    have e : ∀ (x : Int) (s : List Int), rk (l ++ x :: s) i k = (l.take i).countP (fun x => decide (k ≤ x)) := by
      intro x s; unfold rk; rw [List.take_append_of_le_length c1]
    rw [e, e]; exact Nat.le_refl _
  · obtain ⟨j, rfl⟩ : ∃ j, i = l.length + 1 + j := ⟨i - l.length - 1, by omega⟩
    by_cases c2 : j ≤ m.length
    · -- between
      have em : ∀ (x : Int), (m ++ x :: r).take j = m.take j := fun x => List.take_append_of_le_length c2
      rw [rkat, rkat, em]
      by_cases hk : u < k ∧ k ≤ w
      · rw [if_pos hk.2, if_pos (by omega)]
        have h1 := hAB (v + 1)
        rw [rkat, rkat, if_neg (by omega), if_neg (by omega), em] at h1
        have h2 : (m.take j).countP (fun x => decide (k ≤ x)) = (m.take j).countP (fun x => decide (v + 1 ≤ x)) := by
          refine List.countP_congr (fun x hx => ?_)
          have := hm x (List.mem_of_mem_take hx)
          simp only [decide_eq_true_eq]
          omega
        have h3 : (rb.take j).countP (fun x => decide (v + 1 ≤ x)) ≤ (rb.take j).countP (fun x => decide (k ≤ x)) :=
          List.countP_mono_left (fun x _ hx => by simp at hx ⊢; omega)
        rw [h2]
        omega
      · have h1 := hAB k
        rw [rkat, rkat, em] at h1
        have : (if k ≤ w then 1 else 0 : Nat) = if k ≤ u then 1 else 0 := by
          by_cases hku : k ≤ u
          · rw [if_pos hku, if_pos (by omega)]
          · rw [if_neg hku, if_neg (by omega)]
        rw [this]
        exact h1
    · -- behind both
      have h1 := hAB k
      obtain ⟨q, rfl⟩ : ∃ q, j = m.length + 1 + q := ⟨j - m.length - 1, by omega⟩
      have em : ∀ (x : Int), ((m ++ x :: r).take (m.length + 1 + q)).countP (fun x => decide (k ≤ x)) = m.countP (fun x => decide (k ≤ x)) + (if k ≤ x then 1 else 0) + (r.take q).countP (fun x => decide (k ≤ x)) := by
        intro x
        have e : (m ++ x :: r).take (m.length + 1 + q) = m ++ ([x] ++ r.take q) := by
          rw [List.take_append, List.take_of_length_le (show m.length ≤ m.length + 1 + q by omega), show m.length + 1 + q - m.length = q + 1 by omega]
          rfl
        rw [e, List.countP_append, List.countP_append, cnt1]; omega
      rw [rkat, rkat, em] at h1
      rw [rkat, rkat, em]
      omega

theorem inv_bound (a : List Int) : inv a ≤ a.length * a.length := by
  have key : ∀ i, i ≤ a.length → wrongTo a i ≤ i * a.length := by
    intro i
    induction i with
    | zero => intro _; simp [wrongTo]
    | succ i ih =>
      intro h
      have h1 := ih (by omega)
      have h2 : overAt a i i ≤ i := by
        have := List.countP_le_length (p := fun x => decide (a.getD i 0 < x)) (l := a.take i)
        rw [List.length_take] at this
        unfold overAt; omega
      rw [wrongTo, Nat.add_mul]; omega
  exact key a.length (Nat.le_refl _)

/-- What is below has fewer inversions, or is the same. -/
theorem LeB.inv_lt {b : List Int} (hb : IsPerm b) : ∀ (d : Nat) (a : List Int), IsPerm a → a.length = b.length → LeB a b → a.length * a.length - inv a ≤ d → a = b ∨ inv a < inv b := by
  intro d
  induction d with
  | zero =>
    intro a ha hl h hd
    by_cases e : a = b
    · exact .inl e
    · obtain ⟨c, hc, hcl, _, hi⟩ := h.step ha hb hl e
      have := inv_bound c
      rw [hcl] at this
      omega
  | succ d ih =>
    intro a ha hl h hd
    by_cases e : a = b
    · exact .inl e
    · obtain ⟨c, hc, hcl, hcb, hi⟩ := h.step ha hb hl e
      have hib := inv_bound c
      rw [hcl] at hib
      right
      rcases ih c hc (by omega) hcb (by rw [hcl]; omega) with e1 | e1
      · rw [← e1]; exact hi
      · omega

theorem LeB.inv_le {a b : List Int} (ha : IsPerm a) (hb : IsPerm b) (hl : a.length = b.length) (h : LeB a b) : a = b ∨ inv a < inv b :=
  LeB.inv_lt hb _ a ha hl h (Nat.le_refl _)

theorem LeB.antisymm {a b : List Int} (ha : IsPerm a) (hb : IsPerm b) (hl : a.length = b.length) (h : LeB a b) (h' : LeB b a) : a = b := by
  rcases h.inv_le ha hb hl with e | e
  · exact e
  · rcases h'.inv_le hb ha hl.symm with e' | e'
    · exact e'.symm
    · omega

/-! Inverses. -/

/-- x is p's inverse. -/
def IsInv (p x : List Int) : Prop := x.length = p.length ∧ ∀ k, k < p.length → at1 x (p.getD k 0) = (k : Int) + 1

theorem IsPerm.perm_upTo {p : List Int} (hp : IsPerm p) : p.Perm (upTo p.length) := by
  rw [List.perm_ext_iff_of_nodup hp.1 (nodup_upTo _)]
  intro x
  rw [mem_upTo]
  exact ⟨fun h => hp.2 x h, fun h => hp.mem h.1 h.2⟩

theorem at1_list {x : List Int} : (upTo x.length).map (at1 x) = x := by
  apply List.ext_getElem (by simp [upTo])
  intro i h1 h2
  simp only [upTo, List.getElem_map, List.getElem_range]
  exact at1_get h2

theorem IsInv.rank {p x : List Int} (hp : IsPerm p) (h : IsInv p x) {i : Nat} (hi : i ≤ p.length) {k : Nat} (hk : k ≤ p.length) : rk x i ((k : Int) + 1) + k = i + rk p k ((i : Int) + 1) := by
  -- the first i of x, by the numbers 1 to i
  have e1 : x.take i = ((upTo p.length).filter (fun v => decide (v ≤ (i : Int)))).map (at1 x) := by
    have a1 : (upTo p.length).filter (fun v => decide (v ≤ (i : Int))) = (upTo p.length).take i := by
      unfold upTo
      rw [← List.map_take, List.take_range, Nat.min_eq_left hi, List.filter_map]
      congr 1
      have : (List.range p.length).filter ((fun v => decide (v ≤ (i : Int))) ∘ fun i : Nat => (i : Int) + 1) = (List.range p.length).filter (fun j => decide (j < i)) := by
        refine List.filter_congr (fun j _ => ?_)
        simp only [Function.comp]
        exact decide_eq_decide.2 (by omega)
      rw [this]
      have key : ∀ n, i ≤ n → (List.range n).filter (fun j => decide (j < i)) = List.range i := by
        intro n hn
        induction n with
        | zero => (obtain rfl : i = 0 := by omega); rfl
        | succ n ih =>
          rw [List.range_succ, List.filter_append]
          by_cases hin : i ≤ n
          · rw [ih hin]
            have : ¬ n < i := by omega
            simp [this]
          · obtain rfl : i = n + 1 := by omega
            have hlt : (List.range n).filter (fun j => decide (j < n + 1)) = List.range n := by
              rw [List.filter_eq_self]; intro j hj; simp at hj ⊢; omega
            rw [hlt]
            simp [List.range_succ]
      exact key _ hi
    rw [a1, List.map_take, ← h.1, at1_list]
  have e2 : rk x i ((k : Int) + 1) = p.countP (fun v => decide (v ≤ (i : Int)) && decide ((k : Int) + 1 ≤ at1 x v)) := by
    unfold rk
    rw [e1, List.countP_map, List.countP_filter, hp.perm_upTo.countP_eq]
    refine List.countP_congr (fun v _ => ?_)
    simp [and_comm]
  -- of p's numbers, by their places
  have e3 : p.countP (fun v => decide (v ≤ (i : Int)) && decide ((k : Int) + 1 ≤ at1 x v)) = (p.drop k).countP (fun v => decide (v ≤ (i : Int))) := by
    have hsplit : p.countP (fun v => decide (v ≤ (i : Int)) && decide ((k : Int) + 1 ≤ at1 x v)) =
        (p.take k).countP (fun v => decide (v ≤ (i : Int)) && decide ((k : Int) + 1 ≤ at1 x v)) + (p.drop k).countP (fun v => decide (v ≤ (i : Int)) && decide ((k : Int) + 1 ≤ at1 x v)) := by
      rw [← List.countP_append, List.take_append_drop]
    have z1 : (p.take k).countP (fun v => decide (v ≤ (i : Int)) && decide ((k : Int) + 1 ≤ at1 x v)) = 0 := by
      rw [List.countP_eq_zero]
      intro v hv
      obtain ⟨j, hj, rfl⟩ := List.mem_take_iff_getElem.1 hv
      have := h.2 j (by omega)
      rw [getD_get (by omega)] at this
      rw [this]
      simp; omega
    have z2 : (p.drop k).countP (fun v => decide (v ≤ (i : Int)) && decide ((k : Int) + 1 ≤ at1 x v)) = (p.drop k).countP (fun v => decide (v ≤ (i : Int))) := by
      refine List.countP_congr (fun v hv => ?_)
      obtain ⟨j, hj, rfl⟩ := List.mem_iff_getElem.1 hv
      rw [List.getElem_drop]
      rw [List.length_drop] at hj
      have := h.2 (k + j) (by omega)
      rw [getD_get (by omega)] at this
      rw [this]
      have : (k : Int) + 1 ≤ ((k + j : Nat) : Int) + 1 := by omega
      rw [decide_eq_true this, Bool.and_true]
    omega
  have e4 : (p.take k).countP (fun v => decide (v ≤ (i : Int))) + (p.drop k).countP (fun v => decide (v ≤ (i : Int))) = i := by
    rw [← List.countP_append, List.take_append_drop, hp.perm_upTo.countP_eq, List.countP_eq_length_filter]
    have := congrArg List.length e1
    rw [List.length_take, List.length_map, h.1] at this
    omega
  have e5 : (p.take k).countP (fun v => decide (v ≤ (i : Int))) + rk p k ((i : Int) + 1) = k := by
    unfold rk
    have hou : ∀ (l : List Int), l.countP (fun v => decide (v ≤ (i : Int))) + l.countP (fun x => decide ((i : Int) + 1 ≤ x)) = l.length := by
      intro l
      induction l with
      | nil => rfl
      | cons y l ih =>
        rw [List.countP_cons, List.countP_cons, List.length_cons]
        by_cases hy : y ≤ i
        · have : ¬ (i : Int) + 1 ≤ y := by omega
          simp [hy, this]; omega
        · have : (i : Int) + 1 ≤ y := by omega
          simp [hy, this]; omega
    rw [hou, List.length_take]; omega
  omega

theorem IsInv.leB {p q x y : List Int} (hp : IsPerm p) (hq : IsPerm q) (hl : p.length = q.length) (hx : IsInv p x) (hy : IsInv q y) : LeB p q ↔ LeB x y := by
  constructor
  · intro h i hi k h1 h2
    rw [hx.1] at hi h2
    have a := hx.rank hp (i := i + 1) (by omega) (k := (k - 1).toNat) (by omega)
    have b := hy.rank hq (i := i + 1) (by omega) (k := (k - 1).toNat) (by omega)
    rw [show (((k - 1).toNat : Nat) : Int) + 1 = k by omega] at a b
    have := h.all hp hq hl (k - 1).toNat (by omega) (((i + 1 : Nat) : Int) + 1)
    omega
  · intro h i hi k h1 h2
    -- the rank at (i + 1, k) is that of the inverse at (k - 1, i + 2)
    have a := hx.rank hp (i := (k - 1).toNat) (by omega) (k := i + 1) (by omega)
    have b := hy.rank hq (i := (k - 1).toNat) (by omega) (k := i + 1) (by omega)
    rw [show (((k - 1).toNat : Nat) : Int) + 1 = k by omega] at a b
    by_cases hk : (k - 1).toNat = 0
    · rw [hk] at a b
      have z : ∀ (l : List Int) (c : Int), rk l 0 c = 0 := fun l c => by simp [rk]
      rw [z] at a b
      omega
    · by_cases hi2 : i + 1 < p.length
      · have := h ((k - 1).toNat - 1) (by rw [hx.1]; omega) (((i + 1 : Nat) : Int) + 1) (by omega) (by rw [hx.1]; omega)
        rw [show (k - 1).toNat - 1 + 1 = (k - 1).toNat by omega] at this
        omega
      · -- behind all
        have e : ∀ {p : List Int}, IsPerm p → p.length = i + 1 → ((rk p (i + 1) k : Nat) : Int) = p.length + 1 - k := by
          intro p hp hpl
          unfold rk
          rw [← hpl, List.take_length, hp.perm_upTo.countP_eq]
          have hmap : (upTo p.length).countP (fun x => decide (k ≤ x)) + (upTo p.length).countP (fun x => decide (x ≤ k - 1)) = p.length := by
            have hou : ∀ (l : List Int), l.countP (fun x => decide (k ≤ x)) + l.countP (fun x => decide (x ≤ k - 1)) = l.length := by
              intro l
              induction l with
              | nil => rfl
              | cons y l ih =>
                rw [List.countP_cons, List.countP_cons, List.length_cons]
                by_cases hy : k ≤ y
                · have : ¬ y ≤ k - 1 := by omega
                  simp [hy, this]; omega
                · have : y ≤ k - 1 := by omega
                  simp [hy, this]; omega
            rw [hou, length_upTo]
          have hc : ∀ n : Nat, ∀ c : Nat, c ≤ n → (upTo n).countP (fun x => decide (x ≤ (c : Int))) = c := by
            intro n
            induction n with
            | zero => intro c hc; (obtain rfl : c = 0 := by omega); rfl
            | succ n ih =>
              intro c hc
              have eu : upTo (n + 1) = upTo n ++ [((n : Int) + 1)] := by simp [upTo, List.range_succ]
              rw [eu, List.countP_append]
              by_cases hcn : c ≤ n
              · rw [ih c hcn]
                have : ¬ (n : Int) + 1 ≤ c := by omega
                simp [this]
              · obtain rfl : c = n + 1 := by omega
                have h1 : (upTo n).countP (fun x => decide (x ≤ ((n + 1 : Nat) : Int))) = n := by
                  have : (upTo n).countP (fun x => decide (x ≤ ((n + 1 : Nat) : Int))) = (upTo n).length := by
                    rw [List.countP_eq_length]; intro x hx; have := mem_upTo.1 hx; simp; omega
                  rw [this, length_upTo]
                have h2 : ((n : Int) + 1 ≤ ((n + 1 : Nat) : Int)) := by omega
                rw [h1]; simp
          have h3 := hc p.length (k - 1).toNat (by omega)
          rw [show (((k - 1).toNat : Nat) : Int) = k - 1 by omega] at h3
          omega
        have e1 := e hp (by omega)
        have e2 := e hq (by omega)
        omega

end Go.Proofs.YtmlmdklheiafpaaDoor
