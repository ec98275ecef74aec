/-
  Plain: PRUEFER'S: leaves taken away one by one.
-/
import Derived.Test.YtdmpbbgcifodeaaTreM
namespace Go.Proofs.Ytdmpbbgcifodeaa

def touch (u : Int) (x : Edge) : Bool := decide (x.1 = u) || decide (x.2 = u)
def degN (E : List Edge) (u : Int) : Nat := E.countP (touch u)
theorem touch_iff {u : Int} {x : Edge} : touch u x = true ↔ x.1 = u ∨ x.2 = u := by simp [touch]
def nrm (x : Edge) : Edge := (min x.1 x.2, max x.1 x.2)
theorem nrm_swap (a b : Int) : nrm (a, b) = nrm (b, a) := by simp only [nrm, Prod.mk.injEq]; omega
theorem degN_erase {E : List Edge} {e : Edge} (he : e ∈ E) (u : Int) : degN E u = degN (E.erase e) u + if touch u e then 1 else 0 := by
  unfold degN
  rw [(List.perm_cons_erase he).countP_eq, List.countP_cons]

/-- A run: S the places left, c what is told, E the edges left. -/
inductive Run : List Int → List Int → List Edge → Prop where
  | last {p q : Int} (h : p < q) {E : List Edge} (hE : E = [(p, q)] ∨ E = [(q, p)]) : Run [p, q] [] E
  | step {S c : List Int} {E : List Edge} {v w : Int} {e : Edge} (hv : v ∈ S) (hno : v ∉ w :: c) (hmin : ∀ u ∈ S, u < v → u ∈ w :: c) (hw : w ∈ S) (hne : w ≠ v) (he : e = (v, w) ∨ e = (w, v)) (hm : e ∈ E)
      (hr : Run (S.erase v) c (E.erase e)) : Run S (w :: c) E
theorem edge_touch {v w u : Int} {e : Edge} (he : e = (v, w) ∨ e = (w, v)) : touch u e = true ↔ u = v ∨ u = w := by
  rw [touch_iff]
  rcases he with rfl | rfl <;> simp only <;> omega
theorem Run.len {S c : List Int} {E : List Edge} (h : Run S c E) : S.length = c.length + 2 ∧ E.length = c.length + 1 := by
  induction h with
  | last _ hE => rcases hE with rfl | rfl <;> exact ⟨rfl, rfl⟩
  | step hv _ _ _ _ _ hm _ ih =>
    have h1 := List.length_erase_of_mem hv
    have h2 := List.length_erase_of_mem hm
    have h3 := List.length_pos_of_mem hv
    have h4 := List.length_pos_of_mem hm
    simp only [List.length_cons]
    omega
theorem Run.deg {S c : List Int} {E : List Edge} (h : Run S c E) (hn : S.Nodup) : (∀ x ∈ E, x.1 ∈ S ∧ x.2 ∈ S ∧ x.1 ≠ x.2) ∧ (∀ x ∈ c, x ∈ S) ∧ ∀ u ∈ S, degN E u = c.count u + 1 := by
  induction h with
  | @last p q h E hE =>
    refine ⟨fun x hx => ?_, fun x hx => absurd hx (by simp), fun u hu => ?_⟩
    · rcases hE with rfl | rfl
      · obtain rfl := List.mem_singleton.1 hx; exact ⟨by simp, by simp, by simp; omega⟩
      · obtain rfl := List.mem_singleton.1 hx; exact ⟨by simp, by simp, by simp; omega⟩
    · have hu' : u = p ∨ u = q := by simpa using hu
      have ht : ∀ e : Edge, (e = (p, q) ∨ e = (q, p)) → degN [e] u = 1 := fun e he => by
        have := (edge_touch (u := u) he).2 hu'
        simp [degN, this]
      rcases hE with rfl | rfl
      · rw [ht _ (.inl rfl)]; rfl
      · rw [ht _ (.inr rfl)]; rfl
  | @step S c E v w e hv hno hmin hw hne he hm hr ih =>
    obtain ⟨i1, i2, i3⟩ := ih (hn.erase v)
    have hsub : ∀ x, x ∈ S.erase v → x ∈ S ∧ x ≠ v := fun x hx => (hn.mem_erase_iff.1 hx).symm
    refine ⟨fun x hx => ?_, fun x hx => ?_, fun u hu => ?_⟩
    · by_cases c1 : x = e
      · subst c1
        rcases he with rfl | rfl
        · exact ⟨hv, hw, fun h => hne h.symm⟩
        · exact ⟨hw, hv, hne⟩
      · obtain ⟨a, b, c⟩ := i1 x ((List.mem_erase_of_ne c1).2 hx)
        exact ⟨(hsub _ a).1, (hsub _ b).1, c⟩
    · rcases List.mem_cons.1 hx with rfl | hx
      · exact hw
      · exact (hsub _ (i2 x hx)).1
    · rw [degN_erase hm]
      by_cases c1 : u = v
      · subst c1
        have h0 : degN (E.erase e) u = 0 := by
          unfold degN
          rw [List.countP_eq_zero]
          intro x hx ht
          obtain ⟨a, b, _⟩ := i1 x hx
          rcases touch_iff.1 ht with h | h
          · exact (hsub _ a).2 h
          · exact (hsub _ b).2 h
        rw [h0, if_pos ((edge_touch he).2 (.inl rfl)), List.count_eq_zero_of_not_mem hno]
      · rw [i3 u (hn.mem_erase_iff.2 ⟨c1, hu⟩), List.count_cons]
        by_cases c2 : u = w
        · subst c2
          rw [if_pos ((edge_touch he).2 (.inr rfl))]
          simp
        · have : touch u e = false := by
            cases h : touch u e with
            | false => rfl
            | true => have := (edge_touch he).1 h; omega
          rw [this]
          have c3 : (w == u) = false := by simp; omega
          rw [c3]; simp
theorem countP_twoE {V : List Edge} {p : Edge → Bool} {a b : Edge} (ha : a ∈ V) (hb : b ∈ V) (hab : a ≠ b) (pa : p a = true) (pb : p b = true) : 2 ≤ V.countP p := by
  have h1 := (List.perm_cons_erase ha).countP_eq p
  have h2 : b ∈ V.erase a := (List.mem_erase_of_ne (Ne.symm hab)).2 hb
  have := List.countP_pos_iff.2 ⟨b, h2, pb⟩
  rw [h1, List.countP_cons, if_pos pa]; omega
theorem leaf_edge {E : List Edge} {v : Int} (h : degN E v = 1) {e e' : Edge} (he : e ∈ E) (he' : e' ∈ E) (t : touch v e = true) (t' : touch v e' = true) : e = e' := by
  refine Classical.byContradiction fun hne => ?_
  have := countP_twoE he he' hne t t'
  unfold degN at h
  omega
theorem far_end {v w w' : Int} {e : Edge} (he : e = (v, w) ∨ e = (w, v)) (he' : e = (v, w') ∨ e = (w', v)) : w = w' := by
  rcases he with rfl | rfl <;> rcases he' with h | h <;> simp only [Prod.mk.injEq] at h <;> omega
theorem count_zero_iff {c : List Int} {u : Int} : c.count u + 1 = 1 ↔ u ∉ c := by
  rw [← List.count_eq_zero]; omega
/-- The edges fix what is told. -/
theorem Run.code {S c : List Int} {E : List Edge} (h : Run S c E) (hn : S.Nodup) : ∀ {c' : List Int}, Run S c' E → c = c' := by
  induction h with
  | last h hE =>
    intro c' h'
    have := h'.len.1
    have : c'.length = 0 := by simp only [List.length_cons, List.length_nil] at this; omega
    exact (List.eq_nil_of_length_eq_zero this).symm
  | @step S c E v w e hv hno hmin hw hne he hm hr ih =>
    intro c' h'
    have d := (Run.step hv hno hmin hw hne he hm hr).deg hn
    have d' := h'.deg hn
    have hl := (Run.step hv hno hmin hw hne he hm hr).len.1
    cases h' with
    | last h1 h2 => simp at hl
    | @step _ c2 _ v' w' e' hv' hno' hmin' hw' hne' he' hm' hr' =>
      have k : ∀ u ∈ S, (u ∉ w :: c ↔ u ∉ w' :: c2) := fun u hu => by
        rw [← count_zero_iff, ← count_zero_iff, ← d.2.2 u hu, ← d'.2.2 u hu]
      have hvv : v = v' := by
        rcases Int.lt_trichotomy v v' with h | h | h
        · exact absurd (hmin' v hv h) ((k v hv).1 hno)
        · exact h
        · exact absurd (hmin v' hv' h) ((k v' hv').2 hno')
      subst hvv
      have hd : degN E v = 1 := by rw [d.2.2 v hv]; exact count_zero_iff.2 hno
      have hee := leaf_edge hd hm hm' ((edge_touch he).2 (.inl rfl)) ((edge_touch he').2 (.inl rfl))
      subst hee
      have hww := far_end he he'
      subst hww
      rw [ih (hn.erase v) hr']
/-- What is told fixes the edges, but for their order and direction. -/
theorem Run.edges {S c : List Int} {E : List Edge} (h : Run S c E) : ∀ {E' : List Edge}, Run S c E' → (E.map nrm).Perm (E'.map nrm) := by
  induction h with
  | @last p q h E hE =>
    intro E' h'
    cases h' with
    | last _ hE' =>
      rcases hE with rfl | rfl <;> rcases hE' with rfl | rfl
      · exact List.Perm.refl _
      · show [nrm (p, q)].Perm [nrm (q, p)]; rw [nrm_swap]
      · show [nrm (q, p)].Perm [nrm (p, q)]; rw [nrm_swap]
      · exact List.Perm.refl _
  | @step S c E v w e hv hno hmin hw hne he hm hr ih =>
    intro E' h'
    cases h' with
    | @step _ _ _ v' _ e' hv' hno' hmin' hw' hne' he' hm' hr' =>
      have hvv : v = v' := by
        rcases Int.lt_trichotomy v v' with h | h | h
        · exact absurd (hmin' v hv h) hno
        · exact h
        · exact absurd (hmin v' hv' h) hno'
      subst hvv
      have hnn : nrm e = nrm e' := by
        rcases he with rfl | rfl <;> rcases he' with rfl | rfl
        · rfl
        · exact nrm_swap _ _
        · exact nrm_swap _ _
        · rfl
      have p1 := (List.perm_cons_erase hm).map nrm
      have p2 := (List.perm_cons_erase hm').map nrm
      rw [List.map_cons] at p1 p2
      rw [← hnn] at p2
      exact p1.trans (((ih hr').cons _).trans p2.symm)

/-- The least of a sorted list with some property. -/
theorem least_of {p : Int → Prop} : ∀ {S : List Int}, (∃ u ∈ S, p u) → ∃ v ∈ S, p v ∧ ∀ u ∈ S, u < v → ¬ p u := by
  intro S h
  obtain ⟨u, hu, pu⟩ := h
  have key : ∀ (k : Nat) (S : List Int) (u : Int), S.length = k → u ∈ S → p u → ∃ v ∈ S, p v ∧ ∀ u ∈ S, u < v → ¬ p u := by
    intro k
    induction k with
    | zero => intro S u h hu; rw [List.eq_nil_of_length_eq_zero h] at hu; cases hu
    | succ k ih =>
      intro S u hl hu pu
      by_cases c : ∃ x ∈ S.erase u, p x ∧ x < u
      · obtain ⟨x, hx, px, hxu⟩ := c
        obtain ⟨v, hv, pv, hm⟩ := ih (S.erase u) x (by rw [List.length_erase_of_mem hu]; omega) hx px
        by_cases cv : v ≤ u
        · refine ⟨v, List.mem_of_mem_erase hv, pv, fun y hy hyv => ?_⟩
          by_cases e : y = u
          · omega
          · exact hm y ((List.mem_erase_of_ne e).2 hy) hyv
        · exact absurd px (hm x hx (by omega))
      · refine ⟨u, hu, pu, fun y hy hyu py => c ⟨y, (List.mem_erase_of_ne (by omega)).2 hy, py, hyu⟩⟩
  exact key _ S u rfl hu pu
theorem pairwise_two {S : List Int} (hs : S.Pairwise (· < ·)) (hl : S.length = 2) : ∃ p q, S = [p, q] ∧ p < q := by
  match S, hl with
  | [p, q], _ =>
    have := (List.pairwise_cons.1 hs).1 q (by simp)
    exact ⟨p, q, rfl, this⟩
theorem sorted_nodup {S : List Int} (hs : S.Pairwise (· < ·)) : S.Nodup := by
  rw [List.nodup_iff_pairwise_ne]
  exact hs.imp (fun h e => by omega)
/-- What is told, whatever it is, comes of a tree. -/
theorem run_of_code : ∀ (c S : List Int), S.Pairwise (· < ·) → S.length = c.length + 2 → (∀ x ∈ c, x ∈ S) → ∃ E, Run S c E ∧ TreeOn S E
  | [], S, hs, hl, _ => by
    obtain ⟨p, q, rfl, hpq⟩ := pairwise_two hs hl
    refine ⟨[(p, q)], .last hpq (.inl rfl), rfl, fun x hx => ?_, fun u hu v hv => ?_⟩
    · obtain rfl := List.mem_singleton.1 hx; exact ⟨by simp, by simp⟩
    · have e : Conn [(p, q)] p q := Conn.one (.inl (by simp))
      have hu : u = p ∨ u = q := by simpa using hu
      have hv : v = p ∨ v = q := by simpa using hv
      rcases hu with rfl | rfl <;> rcases hv with rfl | rfl
      · exact .refl _
      · exact e
      · exact e.symm
      · exact .refl _
  | w :: c, S, hs, hl, hc => by
    have hn := sorted_nodup hs
    have hex : ∃ u ∈ S, u ∉ w :: c := by
      refine Classical.byContradiction fun hno => ?_
      have hsub : S ⊆ w :: c := fun x hx => Classical.byContradiction fun h => hno ⟨x, hx, h⟩
      have := hn.length_le_of_subset hsub
      simp at this hl
      omega
    obtain ⟨v, hv, hvn, hmin⟩ := least_of hex
    have hw : w ∈ S := hc w (by simp)
    have hne : w ≠ v := fun h => hvn (by rw [← h]; simp)
    have hsub : ∀ x ∈ c, x ∈ S.erase v := fun x hx => hn.mem_erase_iff.2 ⟨fun h => hvn (by rw [← h]; exact List.mem_cons_of_mem _ hx), hc x (List.mem_cons_of_mem _ hx)⟩
    obtain ⟨E, hr, ht⟩ := run_of_code c (S.erase v) (hs.sublist List.erase_sublist) (by rw [List.length_erase_of_mem hv]; simp at hl; omega) hsub
    refine ⟨(v, w) :: E, .step hv hvn (fun u hu huv => Classical.byContradiction fun h => hmin u hu huv h) hw hne (.inl rfl) (by simp) (by rw [List.erase_cons_head]; exact hr), ?_, fun x hx => ?_, ?_⟩
    · have := ht.len
      rw [List.length_erase_of_mem hv] at this
      have := List.length_pos_of_mem hv
      simp; omega
    · rcases List.mem_cons.1 hx with rfl | hx
      · exact ⟨hv, hw⟩
      · have := ht.inn x hx
        exact ⟨List.mem_of_mem_erase this.1, List.mem_of_mem_erase this.2⟩
    · have hwE : w ∈ S.erase v := hn.mem_erase_iff.2 ⟨hne, hw⟩
      have key : ∀ u ∈ S, Conn ((v, w) :: E) u w := fun u hu => by
        by_cases e : u = v
        · subst e; exact Conn.one (.inl (by simp))
        · exact (ht.conn u (hn.mem_erase_iff.2 ⟨e, hu⟩) w hwE).mono (fun x hx => .inl (List.mem_cons_of_mem _ hx))
      exact fun u hu v hv => (key u hu).trans (key v hv).symm

/-! A tree has a leaf. -/
theorem countP_le_one {S : List Int} (hn : S.Nodup) (a : Int) : S.countP (fun u => decide (a = u)) ≤ 1 := by
  by_cases h : a ∈ S
  · have := countP_less hn h (p := fun u => decide (a = u)) (by simp)
    have z : S.countP (fun v => decide (a = v) && decide (v ≠ a)) = 0 := by
      rw [List.countP_eq_zero]; intro v _; simp; intro e; exact e.symm
    omega
  · rw [List.countP_eq_zero.2]
    · omega
    · intro v hv; simp; intro e; exact h (e ▸ hv)
theorem countP_or {S : List Int} (p q : Int → Bool) : S.countP (fun u => p u || q u) ≤ S.countP p + S.countP q := by
  induction S with
  | nil => simp
  | cons a S ih =>
    rw [List.countP_cons, List.countP_cons, List.countP_cons]
    cases p a <;> cases q a <;> simp <;> omega
theorem sum_deg_cons (S : List Int) (x : Edge) (E : List Edge) : (S.map (degN (x :: E))).sum = S.countP (fun u => touch u x) + (S.map (degN E)).sum := by
  induction S with
  | nil => simp
  | cons a S ih =>
    simp only [List.map_cons, List.sum_cons, List.countP_cons]
    rw [ih]
    have : degN (x :: E) a = degN E a + if touch a x then 1 else 0 := by unfold degN; rw [List.countP_cons]
    rw [this]; omega
theorem sum_deg_le {S : List Int} (hn : S.Nodup) : ∀ E : List Edge, (S.map (degN E)).sum ≤ 2 * E.length
  | [] => by
    have : ∀ S : List Int, (S.map (degN [])).sum = 0 := fun S => by
      induction S with
      | nil => rfl
      | cons a S ih => simp only [List.map_cons, List.sum_cons]; rw [ih]; rfl
    rw [this]; simp
  | x :: E => by
    rw [sum_deg_cons]
    have h1 := sum_deg_le hn E
    have h2 := countP_or (S := S) (fun u => decide (x.1 = u)) (fun u => decide (x.2 = u))
    have h3 := countP_le_one hn x.1
    have h4 := countP_le_one hn x.2
    have h5 : S.countP (fun u => touch u x) = S.countP (fun u => decide (x.1 = u) || decide (x.2 = u)) := rfl
    simp only [List.length_cons]
    omega
theorem sum_ge_two {S : List Int} {f : Int → Nat} (h : ∀ u ∈ S, 2 ≤ f u) : 2 * S.length ≤ (S.map f).sum := by
  induction S with
  | nil => simp
  | cons a S ih =>
    simp only [List.map_cons, List.sum_cons, List.length_cons]
    have := h a (by simp)
    have := ih (fun u hu => h u (List.mem_cons_of_mem _ hu))
    omega
theorem conn_touch {E : List Edge} {u v : Int} (h : Conn E v u) : v = u ∨ ∃ x ∈ E, touch u x = true := by
  cases h with
  | refl => exact .inl rfl
  | step _ e =>
    right
    rcases e with e | e
    · exact ⟨_, e, touch_iff.2 (.inr rfl)⟩
    · exact ⟨_, e, touch_iff.2 (.inl rfl)⟩
theorem tree_leaf {S : List Int} {E : List Edge} (hn : S.Nodup) (ht : TreeOn S E) (hl : 2 ≤ S.length) : ∃ u ∈ S, degN E u = 1 := by
  refine Classical.byContradiction fun hno => ?_
  have h2 : ∀ u ∈ S, 2 ≤ degN E u := fun u hu => by
    have h0 : degN E u ≠ 0 := fun h0 => by
      have hne : ∃ v ∈ S, v ≠ u := by
        refine Classical.byContradiction fun h => ?_
        have hsub : S ⊆ [u] := fun x hx => by
          by_cases e : x = u
          · simp [e]
          · exact absurd ⟨x, hx, e⟩ h
        have := hn.length_le_of_subset hsub
        simp at this; omega
      obtain ⟨v, hv, hvu⟩ := hne
      rcases conn_touch (ht.conn v hv u hu) with h | ⟨x, hx, hxt⟩
      · exact hvu h
      · unfold degN at h0
        exact absurd hxt (List.countP_eq_zero.1 h0 x hx)
    have h1 : degN E u ≠ 1 := fun h => hno ⟨u, hu, h⟩
    omega
  have a := sum_ge_two h2
  have b := sum_deg_le hn E
  have := ht.len
  omega
/-- Of each tree something is told. -/
theorem run_of_tree : ∀ (k : Nat) (S : List Int) (E : List Edge), S.length = k + 2 → S.Pairwise (· < ·) → TreeOn S E → (∀ x ∈ E, x.1 ≠ x.2) → ∃ c, Run S c E
  | 0, S, E, hk, hs, ht, hx => by
    obtain ⟨p, q, rfl, hpq⟩ := pairwise_two hs (by omega)
    have hl := ht.len
    match E, hl with
    | [x], _ =>
      obtain ⟨a, b⟩ := ht.inn x (by simp)
      have ha : x.1 = p ∨ x.1 = q := by simpa using a
      have hb : x.2 = p ∨ x.2 = q := by simpa using b
      have hne := hx x (by simp)
      refine ⟨[], .last hpq ?_⟩
      obtain ⟨x1, x2⟩ := x
      simp only at ha hb hne
      rcases ha with rfl | rfl <;> rcases hb with rfl | rfl
      · exact absurd rfl hne
      · exact .inl rfl
      · exact .inr rfl
      · exact absurd rfl hne
  | k + 1, S, E, hk, hs, ht, hx => by
    have hn := sorted_nodup hs
    obtain ⟨v, hv, hd, hmin⟩ := least_of (tree_leaf hn ht (by omega))
    have hpos : 0 < E.countP (touch v) := by unfold degN at hd; omega
    obtain ⟨e, he, hte⟩ := List.countP_pos_iff.1 hpos
    obtain ⟨w, hw, hne, hew⟩ : ∃ w, w ∈ S ∧ w ≠ v ∧ (e = (v, w) ∨ e = (w, v)) := by
      obtain ⟨a, b⟩ := ht.inn e he
      have hxe := hx e he
      rcases touch_iff.1 hte with h | h
      · exact ⟨e.2, b, fun h2 => hxe (by rw [h, h2]), .inl (by rw [← h])⟩
      · exact ⟨e.1, a, fun h2 => hxe (by rw [h, h2]), .inr (by rw [← h])⟩
    have hother : ∀ x ∈ E, x ≠ e → x.1 ≠ v ∧ x.2 ≠ v := fun x hxE hxe => by
      refine ⟨fun h => hxe (leaf_edge hd hxE he (touch_iff.2 (.inl h)) hte), fun h => hxe (leaf_edge hd hxE he (touch_iff.2 (.inr h)) hte)⟩
    have hce : E.count e = 1 := by
      have h1 : 0 < E.count e := List.count_pos_iff.2 he
      have h2 : E.count e ≤ E.countP (touch v) := by
        unfold List.count
        apply List.countP_mono_left
        intro x _ hxe
        have : x = e := by simpa using hxe
        rw [this]; exact hte
      unfold degN at hd
      omega
    have hnotin : e ∉ E.erase e := by
      intro h
      have h1 : 0 < (E.erase e).count e := List.count_pos_iff.2 h
      rw [List.count_erase_self] at h1
      omega
    have ht' : TreeOn (S.erase v) (E.erase e) := by
      refine ⟨?_, fun x hxE => ?_, fun a ha b hb => ?_⟩
      · have := ht.len
        rw [List.length_erase_of_mem hv, List.length_erase_of_mem he]
        have := List.length_pos_of_mem he
        omega
      · have hxe : x ≠ e := fun h => hnotin (h ▸ hxE)
        have hxE' := List.mem_of_mem_erase hxE
        obtain ⟨n1, n2⟩ := hother x hxE' hxe
        obtain ⟨a, b⟩ := ht.inn x hxE'
        exact ⟨hn.mem_erase_iff.2 ⟨n1, a⟩, hn.mem_erase_iff.2 ⟨n2, b⟩⟩
      · obtain ⟨a1, a2⟩ := hn.mem_erase_iff.1 ha
        obtain ⟨b1, b2⟩ := hn.mem_erase_iff.1 hb
        have := (ht.conn a a2 b b2).map (l' := E.erase e) (g := fun u => if u = v then w else u) (fun x hxE => by
          by_cases hxe : x = e
          · subst hxe
            have h1 : (if x.1 = v then w else x.1) = w := by
              rcases hew with h | h
              · rw [h]; simp
              · rw [h]; simp
            have h2 : (if x.2 = v then w else x.2) = w := by
              rcases hew with h | h
              · rw [h]; simp
              · rw [h]; simp
            show Conn _ (if x.1 = v then w else x.1) (if x.2 = v then w else x.2)
            rw [h1, h2]; exact .refl _
          · obtain ⟨n1, n2⟩ := hother x hxE hxe
            show Conn _ (if x.1 = v then w else x.1) (if x.2 = v then w else x.2)
            rw [if_neg n1, if_neg n2]
            exact Conn.one (.inl ((List.mem_erase_of_ne hxe).2 hxE)))
        simp only [if_neg a1, if_neg b1] at this
        exact this
    obtain ⟨c, hr⟩ := run_of_tree k (S.erase v) (E.erase e) (by rw [List.length_erase_of_mem hv]; omega) (hs.sublist List.erase_sublist) ht' (fun x hxE => hx x (List.mem_of_mem_erase hxE))
    have hd' := hr.deg (hn.erase v)
    refine ⟨w :: c, .step hv ?_ (fun u hu huv => ?_) hw hne hew he hr⟩
    · intro h
      rcases List.mem_cons.1 h with h | h
      · exact hne h.symm
      · exact (hn.mem_erase_iff.1 (hd'.2.1 v h)).1 rfl
    · have huv' : u ≠ v := by omega
      have h1 := hd'.2.2 u (hn.mem_erase_iff.2 ⟨huv', hu⟩)
      have h2 := degN_erase he u
      have h3 := hmin u hu huv
      by_cases hc : u = w
      · rw [hc]; simp
      · have : touch u e = false := by
          cases h : touch u e with
          | false => rfl
          | true => have := (edge_touch hew).1 h; omega
        rw [this] at h2
        simp at h2
        have : c.count u ≠ 0 := by omega
        exact List.mem_cons_of_mem _ (List.count_pos_iff.1 (by omega))
end Go.Proofs.Ytdmpbbgcifodeaa
