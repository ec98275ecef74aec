/-
  Plain: what Rooted and Unrooted do, step by step; edges whatever their order and direction.
-/
import Derived.Test.YtdmpbbgcifodeaaBfsN
import Derived.Test.YtdmpbbgcifodeaaLeafM
namespace Go.Proofs.Ytdmpbbgcifodeaa

theorem nrm_mem {l : List Edge} {u w : Int} : nrm (u, w) ∈ l.map nrm ↔ Adj l u w := by
  unfold Adj
  constructor
  · intro h
    obtain ⟨⟨a, b⟩, hx, e⟩ := List.mem_map.1 h
    simp only [nrm, Prod.mk.injEq] at e
    rcases (by omega : (a = u ∧ b = w) ∨ (a = w ∧ b = u)) with ⟨rfl, rfl⟩ | ⟨rfl, rfl⟩
    · exact .inl hx
    · exact .inr hx
  · rintro (h | h)
    · exact List.mem_map.2 ⟨_, h, rfl⟩
    · exact List.mem_map.2 ⟨_, h, nrm_swap _ _⟩
theorem adj_perm {l l' : List Edge} (h : (l.map nrm).Perm (l'.map nrm)) {u w : Int} : Adj l u w ↔ Adj l' u w := by rw [← nrm_mem, ← nrm_mem, h.mem_iff]
theorem perm_len {l l' : List Edge} (h : (l.map nrm).Perm (l'.map nrm)) : l.length = l'.length := by
  have := h.length_eq
  simpa using this
/-- Trees, whatever the order and direction of their edges. -/
theorem TreeOn.perm {V : List Int} {l l' : List Edge} (h : TreeOn V l) (hp : (l.map nrm).Perm (l'.map nrm)) : TreeOn V l' := by
  refine ⟨by rw [← perm_len hp]; exact h.len, fun x hx => ?_, fun u hu v hv => (h.conn u hu v hv).mono (fun x hx => ?_)⟩
  · obtain ⟨a, b⟩ := x
    rcases (adj_perm hp).2 (.inl hx) with h1 | h1
    · exact h.inn _ h1
    · exact (h.inn _ h1).symm
  · obtain ⟨a, b⟩ := x
    exact (adj_perm hp).1 (.inl hx)
/-- A run, whatever the order and direction of its edges. -/
theorem Run.perm {S c : List Int} {E : List Edge} (h : Run S c E) : ∀ {E' : List Edge}, (E.map nrm).Perm (E'.map nrm) → Run S c E' := by
  induction h with
  | @last p q h E hE =>
    intro E' hp
    refine .last h ?_
    have hl : E'.length = 1 := by rw [← perm_len hp]; rcases hE with rfl | rfl <;> rfl
    match E', hl with
    | [x], _ =>
      have hx : Adj [x] p q := (adj_perm hp).1 (by rcases hE with rfl | rfl; exact .inl (by simp); exact .inr (by simp))
      rcases hx with hx | hx
      · rw [List.mem_singleton.1 hx]; exact .inl rfl
      · rw [List.mem_singleton.1 hx]; exact .inr rfl
  | @step S c E v w e hv hno hmin hw hne he hm hr ih =>
    intro E' hp
    have hx : Adj E' v w := (adj_perm hp).1 (by rcases he with rfl | rfl; exact .inl hm; exact .inr hm)
    have key : ∃ e', e' ∈ E' ∧ (e' = (v, w) ∨ e' = (w, v)) := by
      rcases hx with hx | hx
      · exact ⟨_, hx, .inl rfl⟩
      · exact ⟨_, hx, .inr rfl⟩
    obtain ⟨e', hm', he'⟩ := key
    refine Run.step hv hno hmin hw hne he' hm' (ih ?_)
    have hnn : nrm e = nrm e' := by
      rcases he with rfl | rfl <;> rcases he' with rfl | rfl
      · rfl
      · exact nrm_swap _ _
      · exact nrm_swap _ _
      · rfl
    have p1 := (List.perm_cons_erase hm).map nrm
    have p2 := (List.perm_cons_erase hm').map nrm
    rw [List.map_cons] at p1 p2
    rw [← hnn] at p2
    exact (p1.symm.trans (hp.trans p2)).cons_inv
theorem edged_nrm (l : List Edge) : ((edgedL l).map nrm).Perm (l.map nrm) := by
  have h := (edged_perm l).map nrm
  rw [List.map_map] at h
  have e : (nrm ∘ nrm) = nrm := by
    funext x
    show nrm (nrm x) = nrm x
    simp only [nrm, Prod.mk.injEq]; omega
  rwa [e] at h
theorem edged_len (l : List Edge) : (edgedL l).length = l.length := perm_len (edged_nrm l)

/-! Rooted. -/
/-- The kids among the first j. -/
def kidsTo (d : List Int) (k j : Nat) : List Int := ((List.range j).filter (fun i => decide (d.getD i 0 = (k : Int)))).map (fun i : Nat => (i : Int) + 1)
theorem kidsTo_all (d : List Int) (k : Nat) : kidsTo d k d.length = kids d k := rfl
theorem kidsTo_zero (d : List Int) (k : Nat) : kidsTo d k 0 = [] := rfl
theorem kidsTo_yes {d : List Int} {k j : Nat} (h : d.getD j 0 = (k : Int)) : kidsTo d k (j + 1) = kidsTo d k j ++ [(j : Int) + 1] := by
  unfold kidsTo
  rw [List.range_succ, List.filter_append, List.map_append]
  congr 1
  rw [List.filter_cons_of_pos (by simpa using h)]; rfl
theorem kidsTo_no {d : List Int} {k j : Nat} (h : ¬ d.getD j 0 = (k : Int)) : kidsTo d k (j + 1) = kidsTo d k j := by
  unfold kidsTo
  rw [List.range_succ, List.filter_append, List.filter_cons_of_neg (by simpa using h), List.filter_nil, List.append_nil]
theorem kidsTo_le (d : List Int) (k j : Nat) : (kidsTo d k j).length ≤ j := by
  unfold kidsTo
  rw [List.length_map]
  exact Nat.le_trans (List.length_filter_le _ _) (by simp)
/-- The edges told, beside the queue. -/
structure RootE (d : List Int) (T : List Edge) (q : List Int) : Prop where
  sub : ∀ x ∈ T, x ∈ edgesD d
  que : q = 0 :: T.map (·.2)
theorem RootE.start (d : List Int) : RootE d [] [0] := ⟨fun x h => by simp at h, rfl⟩
theorem RootE.step {d : List Int} {T : List Edge} {q : List Int} (h : RootE d T q) {t j : Nat} (hj : j < d.length) (hd : d.getD j 0 = ((t + 1 : Nat) : Int)) {v : Int} (hv : v = (Qd d d.length).getD t 0) :
    RootE d (T ++ [(v, (j : Int) + 1)]) (q ++ [(j : Int) + 1]) := by
  refine ⟨fun x hx => ?_, by rw [h.que]; simp⟩
  rcases List.mem_append.1 hx with hx | hx
  · exact h.sub x hx
  · obtain rfl := List.mem_singleton.1 hx
    refine mem_edgesD.2 ⟨j, hj, ?_⟩
    unfold parD
    rw [hd, hv]; simp
theorem RootE.all {d : List Int} {T : List Edge} (hc : Crit d) (h : RootE d T (Qd d d.length)) : T.Perm (edgesD d) ∧ T.length = d.length := by
  have hq := Qd_nodup d d.length
  rw [h.que] at hq
  have hT : T.Nodup := List.Pairwise.of_map (·.2) (fun a b hab e => hab (by rw [e])) (List.nodup_cons.1 hq).2
  have hl : T.length = d.length := by
    have := hc.full
    rw [h.que] at this
    simpa using this
  exact ⟨perm_of_sub hT h.sub (by rw [hl]; simp [edgesD]), hl⟩
theorem Crit.at_ {d : List Int} (hc : Crit d) {t : Nat} (ht : t ≤ d.length) : t < (Qd d t).length ∧ (Qd d t).getD t 0 = (Qd d d.length).getD t 0 := by
  have := hc.long ht
  exact ⟨by omega, (Qd_get d ht (by omega)).symm⟩

/-! Unrooted. -/
/-- What is told after t rounds, and j of the next. -/
def outT (d : List Int) (t j : Nat) : List Int := (List.range d.length).map (fun i => if d.getD i 0 ≤ (t : Int) ∨ (d.getD i 0 = ((t + 1 : Nat) : Int) ∧ i < j) then d.getD i 0 else 0)
theorem outT_len (d : List Int) (t j : Nat) : (outT d t j).length = d.length := by simp [outT]
theorem outT_start {d : List Int} (hc : Crit d) : List.replicate d.length 0 = outT d 0 0 := by
  apply List.ext_getElem (by simp [outT])
  intro i h1 h2
  have hi : i < d.length := by simpa using h1
  have := hc.rng hi
  simp only [outT, List.getElem_replicate, List.getElem_map, List.getElem_range]
  rw [if_neg (by omega)]
theorem outT_next (d : List Int) (t : Nat) : outT d t d.length = outT d (t + 1) 0 := by
  apply List.ext_getElem (by simp [outT])
  intro i h1 h2
  have hi : i < d.length := by simpa [outT] using h1
  simp only [outT, List.getElem_map, List.getElem_range]
  by_cases h : d.getD i 0 ≤ ((t + 1 : Nat) : Int)
  · rw [if_pos (by omega), if_pos (.inl h)]
  · rw [if_neg (by omega), if_neg (by omega)]
theorem outT_yes {d : List Int} {t j : Nat} (h : d.getD j 0 = ((t + 1 : Nat) : Int)) : (outT d t j).set j ((t + 1 : Nat) : Int) = outT d t (j + 1) := by
  apply List.ext_getElem (by simp [outT])
  intro i h1 h2
  rw [List.getElem_set]
  simp only [outT, List.getElem_map, List.getElem_range]
  by_cases e : j = i
  · subst e; rw [if_pos rfl, if_pos (.inr ⟨h, by omega⟩), h]
  · rw [if_neg e]
    by_cases h3 : d.getD i 0 ≤ (t : Int) ∨ (d.getD i 0 = ((t + 1 : Nat) : Int) ∧ i < j)
    · rw [if_pos h3, if_pos (by omega)]
    · rw [if_neg h3, if_neg (by omega)]
theorem outT_no {d : List Int} {t j : Nat} (h : ¬ d.getD j 0 = ((t + 1 : Nat) : Int)) : outT d t j = outT d t (j + 1) := by
  apply List.ext_getElem (by simp [outT])
  intro i h1 h2
  simp only [outT, List.getElem_map, List.getElem_range]
  by_cases e : j = i
  · subst e
    by_cases h3 : d.getD j 0 ≤ (t : Int)
    · rw [if_pos (.inl h3), if_pos (.inl h3)]
    · rw [if_neg (by omega), if_neg (by omega)]
  · by_cases h3 : d.getD i 0 ≤ (t : Int) ∨ (d.getD i 0 = ((t + 1 : Nat) : Int) ∧ i < j)
    · rw [if_pos h3, if_pos (by omega)]
    · rw [if_neg h3, if_neg (by omega)]
theorem outT_get {d : List Int} {t j : Nat} (hj : j < d.length) : (outT d t j)[j]? = some (if d.getD j 0 ≤ (t : Int) then d.getD j 0 else 0) := by
  unfold outT
  rw [List.getElem?_map, List.getElem?_range hj]
  show some (if d.getD j 0 ≤ (t : Int) ∨ (d.getD j 0 = ((t + 1 : Nat) : Int) ∧ j < j) then d.getD j 0 else 0) = some _
  by_cases h3 : d.getD j 0 ≤ (t : Int)
  · rw [if_pos (Or.inl h3), if_pos h3]
  · rw [if_neg (by omega), if_neg h3]
theorem outT_zero {d : List Int} (hc : Crit d) {t j : Nat} (hj : j < d.length) : ∃ x : Int, (outT d t j)[j]? = some x ∧ (x = 0 ↔ (t : Int) < d.getD j 0) := by
  refine ⟨_, outT_get hj, ?_⟩
  have := hc.rng hj
  by_cases h3 : d.getD j 0 ≤ (t : Int)
  · rw [if_pos h3]; omega
  · rw [if_neg h3]; omega
theorem outT_end {d : List Int} (hc : Crit d) {t : Nat} (ht : d.length ≤ t) : outT d t 0 = d := by
  apply List.ext_getElem (by simp [outT])
  intro i h1 h2
  have := hc.rng h2
  simp only [outT, List.getElem_map, List.getElem_range]
  rw [if_pos (.inl (by omega)), List.getD_eq_getElem?_getD, List.getElem?_eq_getElem h2]; rfl
theorem Qd_more {d : List Int} (hc : Crit d) : Qd d (d.length + 1) = Qd d d.length := by
  show Qd d d.length ++ kids d (d.length + 1) = _
  have : kids d (d.length + 1) = [] := by
    rw [List.eq_nil_iff_forall_not_mem]
    intro u hu
    obtain ⟨i, h1, h2, _⟩ := mem_kids.1 hu
    have := hc.rng h1
    omega
  rw [this, List.append_nil]
/-- What is asked in a round. -/
theorem asked {d : List Int} {l : List Edge} (hc : Crit d) (hp : ((edgesD d).map nrm).Perm (l.map nrm)) {t j : Nat} (ht : t ≤ d.length) (hj : j < d.length) {v : Int} (hv : v = (Qd d d.length).getD t 0) :
    ((t : Int) < d.getD j 0 ∧ ((v, (j : Int) + 1) ∈ l ∨ ((j : Int) + 1, v) ∈ l) ∧ (j : Int) + 1 ≠ v) ↔ d.getD j 0 = ((t + 1 : Nat) : Int) := by
  have := hc.from_ ht hj
  rw [adj_perm hp, ← hv] at this
  exact this

/-! The law's own plain part. -/
theorem treeB_iff {l : List Edge} {low n : Nat} {V : List Int} (hn : V.Nodup) (hm : ∀ u : Int, u ∈ V ↔ (low : Int) ≤ u ∧ u ≤ n) (hl : V.length + low = n + 1) : TreeB l low n ↔ TreeOn V l := by
  constructor
  · rintro ⟨h1, h2, h3⟩
    exact (tree_iff hn (by omega) (fun x hx => ⟨(hm _).2 (h2 x hx).1, (hm _).2 (h2 x hx).2⟩)).1 h3
  · intro h
    have hlen := h.len
    exact ⟨by omega, fun x hx => ⟨(hm _).1 (h.inn x hx).1, (hm _).1 (h.inn x hx).2⟩, (tree_iff hn h.len h.inn).2 h⟩
theorem tree0_iff {l : List Edge} {n : Nat} : TreeB l 0 n ↔ TreeOn (upV n) l :=
  treeB_iff (sorted_nodup (upV_sorted n)) (fun u => mem_upV) (by rw [upV_len])
theorem tree1_iff {l : List Edge} {n : Nat} : TreeB l 1 n ↔ TreeOn (upTo n) l :=
  treeB_iff (nodup_upTo n) (fun u => mem_upTo) (by rw [length_upTo])
end Go.Proofs.Ytdmpbbgcifodeaa
