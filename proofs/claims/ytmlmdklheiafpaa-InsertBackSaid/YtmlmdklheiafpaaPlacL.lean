/-
  Plain: a letter on its way through the columns.
-/
import Derived.Test.YtmlmdklheiafpaaPlacF
namespace Go.Proofs.Ytmlmdklheiafpaa

theorem cpush1_at : ∀ {c : List Int} {y : Int} {i : Nat}, (∀ k, k < i → ∃ a, c[k]? = some a ∧ a < y) → (c[i]? = none → cpush1 c y = (c ++ [y], none) ∧ c.length = i) ∧ ∀ a, c[i]? = some a → y ≤ a → cpush1 c y = (c.set i y, some a)
  | [], y, i, h => by
    refine ⟨fun _ => ⟨rfl, ?_⟩, fun a e => by simp at e⟩
    apply Classical.byContradiction
    intro hn
    obtain ⟨a, ha, _⟩ := h 0 (by simp at hn; omega)
    simp at ha
  | b :: c, y, 0, h => by
    refine ⟨fun e => by simp at e, fun a e hy => ?_⟩
    obtain rfl : b = a := by simpa using e
    rw [cpush1_le hy]; rfl
  | b :: c, y, i + 1, h => by
    obtain ⟨a0, e0, h0⟩ := h 0 (by omega)
    obtain rfl : b = a0 := by simpa using e0
    have ih := cpush1_at (c := c) (y := y) (i := i) (fun k hk => by simpa using h (k + 1) (by omega))
    rw [cpush1_gt h0]
    refine ⟨fun e => ?_, fun a e hy => ?_⟩
    · obtain ⟨e1, e2⟩ := ih.1 (by simpa using e)
      rw [e1]; exact ⟨rfl, by simp [e2]⟩
    · rw [ih.2 a (by simpa using e) hy]; rfl
theorem getD_off {T : List (List Int)} {i : Nat} (h : T.length ≤ i) : T.getD i [] = [] := by
  rw [List.getD_eq_getElem?_getD, List.getElem?_eq_none h]; rfl
theorem Rep.swap {T cs : List (List Int)} {i j : Nat} {a y : Int} (h : Rep T cs) (hc : (cs.getD j [])[i]? = some a) : Rep (T.set i ((T.getD i []).set j y)) (cs.set j ((cs.getD j []).set i y)) := by
  have hr := h.ent i j
  rw [hc] at hr
  have hil : i < T.length := by
    apply Classical.byContradiction
    intro hn
    rw [getD_off (by omega)] at hr
    simp at hr
  have hjl : j < cs.length := by
    apply Classical.byContradiction
    intro hn
    rw [getD_off (T := cs) (by omega)] at hc
    simp at hc
  have hj2 := (List.getElem?_eq_some_iff.1 hr).1
  have hi2 := (List.getElem?_eq_some_iff.1 hc).1
  have eT : ∀ r, (T.set i ((T.getD i []).set j y)).getD r [] = if r = i then (T.getD i []).set j y else T.getD r [] := fun r => by
    rw [List.getD_eq_getElem?_getD]
    by_cases e : r = i
    · subst e; rw [if_pos rfl, List.getElem?_set_self hil]; rfl
    · rw [if_neg e, List.getElem?_set_ne (Ne.symm e), ← List.getD_eq_getElem?_getD]
  have eC : ∀ r, (cs.set j ((cs.getD j []).set i y)).getD r [] = if r = j then (cs.getD j []).set i y else cs.getD r [] := fun r => by
    rw [List.getD_eq_getElem?_getD]
    by_cases e : r = j
    · subst e; rw [if_pos rfl, List.getElem?_set_self hjl]; rfl
    · rw [if_neg e, List.getElem?_set_ne (Ne.symm e), ← List.getD_eq_getElem?_getD]
  refine ⟨fun r q => ?_, fun r hr => ?_, fun r hr => ?_⟩
  · rw [eT, eC]
    by_cases e1 : r = i
    · subst e1
      rw [if_pos rfl]
      by_cases e2 : q = j
      · subst e2
        rw [if_pos rfl, List.getElem?_set_self hj2, List.getElem?_set_self hi2]
      · rw [if_neg e2, List.getElem?_set_ne (Ne.symm e2)]; exact h.ent r q
    · rw [if_neg e1]
      by_cases e2 : q = j
      · subst e2
        rw [if_pos rfl, List.getElem?_set_ne (Ne.symm e1)]; exact h.ent r q
      · rw [if_neg e2]; exact h.ent r q
  · obtain ⟨k, hk, e⟩ := List.getElem_of_mem hr
    rw [List.getElem_set] at e
    by_cases c : i = k
    · rw [if_pos c] at e
      rw [← e]
      intro e0
      have := congrArg List.length e0
      simp at this
      rw [List.getD_eq_getElem?_getD] at hj2
      rw [this] at hj2; simp at hj2
    · rw [if_neg c] at e
      rw [← e]; exact h.row _ (List.getElem_mem _)
  · obtain ⟨k, hk, e⟩ := List.getElem_of_mem hr
    rw [List.getElem_set] at e
    by_cases c : j = k
    · rw [if_pos c] at e
      rw [← e]
      intro e0
      have := congrArg List.length e0
      simp at this
      rw [List.getD_eq_getElem?_getD] at hi2
      rw [this] at hi2; simp at hi2
    · rw [if_neg c] at e
      rw [← e]; exact h.col _ (List.getElem_mem _)
theorem Rep.put {T cs T' cs' : List (List Int)} {i j : Nat} {y : Int} (h : Rep T cs) (hj : (T.getD i []).length = j) (hc : (cs.getD j []).length = i)
    (e1 : ∀ r, T'.getD r [] = if r = i then T.getD i [] ++ [y] else T.getD r []) (n1 : ∀ r ∈ T', r ≠ []) (e2 : ∀ q, cs'.getD q [] = if q = j then cs.getD j [] ++ [y] else cs.getD q []) (n2 : ∀ r ∈ cs', r ≠ []) : Rep T' cs' := by
  refine ⟨fun r q => ?_, n1, n2⟩
  rw [e1, e2]
  have he := h.ent r q
  by_cases c1 : r = i
  · subst c1
    rw [if_pos rfl]
    by_cases c2 : q = j
    · subst c2
      rw [if_pos rfl, ← hj]
      rw [List.getElem?_append_right (Nat.le_refl _), hj, List.getElem?_append_right (by omega), hc]
      simp
    · rw [if_neg c2]
      by_cases c3 : q < j
      · rw [List.getElem?_append_left (by omega)]; exact he
      · rw [List.getElem?_eq_none (l := T.getD r [] ++ [y]) (by rw [List.length_append]; simp only [List.length_singleton]; omega), ← he, List.getElem?_eq_none (l := T.getD r []) (by omega)]
  · rw [if_neg c1]
    by_cases c2 : q = j
    · subst c2
      rw [if_pos rfl]
      by_cases c3 : r < i
      · rw [List.getElem?_append_left (by omega)]; exact he
      · rw [List.getElem?_eq_none (l := cs.getD q [] ++ [y]) (by rw [List.length_append]; simp only [List.length_singleton]; omega), he, List.getElem?_eq_none (l := cs.getD q []) (by omega)]
    · rw [if_neg c2]; exact he

/-- A letter on its way: what is behind it, and what is ahead. -/
structure Lefting (cs : List (List Int)) (y0 : Int) (j : Nat) (y : Int) (dn rs cur : List (List Int)) : Prop where
  len : dn.length = j
  ins : cins1 cs y0 = dn ++ cins1 rs y
  rep : Rep cur (dn ++ rs)
  tab : CTab rs
  came : 0 < j → ∃ (i0 : Nat) (b : Int), (dn.getD (j - 1) [])[i0]? = some b ∧ ∀ a, (rs.headD [])[i0]? = some a → y ≤ a
theorem Lefting.start {T cs : List (List Int)} (h : Rep T cs) (hc : CTab cs) (y : Int) : Lefting cs y 0 y [] cs T := ⟨rfl, rfl, h, hc, fun h => by omega⟩
theorem Lefting.col {cs dn rs cur : List (List Int)} {y0 y : Int} {j : Nat} (h : Lefting cs y0 j y dn rs cur) : (dn ++ rs).getD j [] = rs.headD [] := by
  rw [List.getD_eq_getElem?_getD, List.getElem?_append_right (by rw [h.len]; omega), h.len]
  cases rs <;> simp
theorem Lefting.at_ {cs dn rs cur : List (List Int)} {y0 y : Int} {j : Nat} (h : Lefting cs y0 j y dn rs cur) (i : Nat) : (cur.getD i [])[j]? = (rs.headD [])[i]? := by rw [h.rep.ent, h.col]
/-- Where nothing stands the letter can be laid. -/
theorem Lefting.fit {cs dn rs cur : List (List Int)} {y0 y : Int} {j i : Nat} (h : Lefting cs y0 j y dn rs cur) (hk : ∀ k, k < i → ∃ a, (rs.headD [])[k]? = some a ∧ a < y) (hn : (rs.headD [])[i]? = none) :
    i ≤ cur.length ∧ (i = cur.length → j = 0) ∧ (cur.getD i []).length = j := by
  have hil : i ≤ cur.length := by
    apply Classical.byContradiction
    intro hc
    obtain ⟨a, ha, _⟩ := hk cur.length (by omega)
    rw [← h.at_, getD_off (Nat.le_refl _)] at ha
    simp at ha
  have hle : (cur.getD i []).length ≤ j := by
    have := h.at_ i
    rw [hn] at this
    exact List.getElem?_eq_none_iff.1 this
  by_cases hj : 0 < j
  · obtain ⟨i0, b, hb, hc⟩ := h.came hj
    have hi0 : i ≤ i0 := by
      apply Classical.byContradiction
      intro hlt
      obtain ⟨a, ha, hlt2⟩ := hk i0 (by omega)
      have := hc a ha
      omega
    have hjl : j - 1 < dn.length := by rw [h.len]; omega
    have e0 : (dn ++ rs).getD (j - 1) [] = dn.getD (j - 1) [] := by
      rw [List.getD_eq_getElem?_getD, List.getElem?_append_left hjl, ← List.getD_eq_getElem?_getD]
    have hbi : ∃ b', (dn.getD (j - 1) [])[i]? = some b' := ⟨_, List.getElem?_eq_getElem (by have := (List.getElem?_eq_some_iff.1 hb).1; omega)⟩
    obtain ⟨b', hb'⟩ := hbi
    have h1 := h.rep.ent i (j - 1)
    rw [e0, hb'] at h1
    have h2 := (List.getElem?_eq_some_iff.1 h1).1
    refine ⟨hil, fun e => ?_, by omega⟩
    rw [getD_off (by omega)] at h1
    simp at h1
  · exact ⟨hil, fun _ => by omega, by omega⟩
/-- The letter laid. -/
theorem Lefting.done {cs dn rs cur cur' : List (List Int)} {y0 y : Int} {j i : Nat} (h : Lefting cs y0 j y dn rs cur) (hk : ∀ k, k < i → ∃ a, (rs.headD [])[k]? = some a ∧ a < y) (hn : (rs.headD [])[i]? = none)
    (e1 : ∀ r, cur'.getD r [] = if r = i then cur.getD i [] ++ [y] else cur.getD r []) (n1 : ∀ r ∈ cur', r ≠ []) : Rep cur' (cins1 cs y0) := by
  obtain ⟨_, _, hl⟩ := h.fit hk hn
  obtain ⟨hp, hci⟩ := (cpush1_at hk).1 hn
  rw [h.ins]
  have hcol := h.col
  refine h.rep.put hl (by rw [hcol]; exact hci) e1 n1 (fun q => ?_) (fun r hr => ?_)
  · rw [hcol]
    cases rs with
    | nil =>
      simp only [List.headD, cins1, List.append_nil, List.nil_append]
      by_cases e : q = j
      · subst e
        rw [if_pos rfl, List.getD_eq_getElem?_getD, ← h.len, List.getElem?_append_right (Nat.le_refl _)]; simp
      · rw [if_neg e, List.getD_eq_getElem?_getD, List.getD_eq_getElem?_getD]
        by_cases c : q < dn.length
        · rw [List.getElem?_append_left c]
        · rw [List.getElem?_eq_none (l := dn ++ [[y]]) (by have := h.len; simp; omega), List.getElem?_eq_none (by omega)]
    | cons c rs =>
      simp only [List.headD] at hp ⊢
      simp only [cins1]
      rw [hp]
      by_cases e : q = j
      · subst e
        rw [if_pos rfl, List.getD_eq_getElem?_getD, ← h.len, List.getElem?_append_right (Nat.le_refl _)]; simp
      · rw [if_neg e, List.getD_eq_getElem?_getD, List.getD_eq_getElem?_getD]
        by_cases c2 : q < dn.length
        · rw [List.getElem?_append_left c2, List.getElem?_append_left c2]
        · rw [List.getElem?_append_right (by omega), List.getElem?_append_right (by omega)]
          obtain ⟨d, hd⟩ : ∃ d, q - dn.length = d + 1 := ⟨q - dn.length - 1, by have := h.len; omega⟩
          rw [hd]; simp
  · rcases List.mem_append.1 hr with e | e
    · exact h.rep.col r (List.mem_append_left _ e)
    · exact (cins1_tab h.tab).ne r e
/-- The letter takes another's place. -/
theorem Lefting.on {cs dn rs cur : List (List Int)} {y0 y a : Int} {j i : Nat} (h : Lefting cs y0 j y dn rs cur) (hk : ∀ k, k < i → ∃ a, (rs.headD [])[k]? = some a ∧ a < y) (ha : (rs.headD [])[i]? = some a) (hy : y ≤ a) :
    ∃ dn' rs', rs.length = rs'.length + 1 ∧ Lefting cs y0 (j + 1) a dn' rs' (cur.set i ((cur.getD i []).set j y)) := by
  cases rs with
  | nil => simp at ha
  | cons c rs =>
    simp only [List.headD] at hk ha
    have hp := (cpush1_at hk).2 a ha hy
    obtain ⟨_, _, h3, h4⟩ := h.tab
    have hcol := h.col
    simp only [List.headD] at hcol
    have hrep := h.rep.swap (i := i) (j := j) (a := a) (y := y) (by rw [hcol]; exact ha)
    rw [hcol] at hrep
    have hset : (dn ++ c :: rs).set j (c.set i y) = (dn ++ [c.set i y]) ++ rs := by rw [← h.len]; simp
    rw [hset] at hrep
    refine ⟨dn ++ [c.set i y], rs, rfl, by simp [h.len], ?_, hrep, h4, fun _ => ⟨i, y, ?_, fun b hb => ?_⟩⟩
    · rw [h.ins]; simp only [cins1]; rw [hp]; simp
    · rw [Nat.add_sub_cancel, List.getD_eq_getElem?_getD, ← h.len, List.getElem?_append_right (Nat.le_refl _)]
      simp only [Nat.sub_self, List.getElem?_cons_zero, Option.getD_some]
      exact List.getElem?_set_self (List.getElem?_eq_some_iff.1 ha).1
    · have : ∀ {p q : List Int} {i : Nat} {x y : Int}, CDom p q → p[i]? = some x → q[i]? = some y → x ≤ y := by
        intro p q
        induction p generalizing q with
        | nil => intro i x y _ e; simp at e
        | cons u p ih =>
          intro i x y hd e1 e2
          cases q with
          | nil => simp at e2
          | cons v q =>
            cases i with
            | zero =>
              obtain rfl : u = x := by simpa using e1
              obtain rfl : v = y := by simpa using e2
              exact hd.1
            | succ i => exact ih hd.2 (by simpa using e1) (by simpa using e2)
      exact this h3 ha hb
end Go.Proofs.Ytmlmdklheiafpaa
