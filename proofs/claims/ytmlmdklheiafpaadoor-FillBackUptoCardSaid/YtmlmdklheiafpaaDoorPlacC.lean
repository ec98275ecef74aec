/-
  Plain: letters put into columns; a tableau's columns; what goes in by columns goes ahead of the word.
-/
import Derived.Test.YtmlmdklheiafpaaDoorPlacM
namespace Go.Proofs.YtmlmdklheiafpaaDoor

/-- A letter put into a column. -/
def cpush1 : List Int → Int → List Int × Option Int
  | [], x => ([x], none)
  | a :: s, x => if x ≤ a then (x :: s, some a) else (a :: (cpush1 s x).1, (cpush1 s x).2)
theorem cpush1_le {a x : Int} {s : List Int} (h : x ≤ a) : cpush1 (a :: s) x = (x :: s, some a) := by simp only [cpush1]; rw [if_pos h]
theorem cpush1_gt {a x : Int} {s : List Int} (h : a < x) : cpush1 (a :: s) x = (a :: (cpush1 s x).1, (cpush1 s x).2) := by simp only [cpush1]; rw [if_neg (by omega)]
def cins1 : List (List Int) → Int → List (List Int)
  | [], x => [[x]]
  | r :: t, x => match (cpush1 r x).2 with
    | none => (cpush1 r x).1 :: t
    | some z => (cpush1 r x).1 :: cins1 t z
/-- The columns' word. -/
def cword : List (List Int) → List Int
  | [] => []
  | c :: cs => c.reverse ++ cword cs
/-- Columns that rise. -/
def Dn (s : List Int) : Prop := s.Pairwise (· < ·)
theorem Dn.tail {a : Int} {s : List Int} (h : Dn (a :: s)) : Dn s := (List.pairwise_cons.1 h).2
theorem Dn.head {a : Int} {s : List Int} (h : Dn (a :: s)) : ∀ x ∈ s, a < x := (List.pairwise_cons.1 h).1
theorem cpush1_mem {s : List Int} {x : Int} : ∀ y ∈ (cpush1 s x).1, y = x ∨ y ∈ s := by
  induction s with
  | nil => intro y hy; simp [cpush1] at hy; exact .inl hy
  | cons a s ih =>
    intro y hy
    by_cases h : x ≤ a
    · rw [cpush1_le h] at hy
      rcases List.mem_cons.1 hy with e | e
      · exact .inl e
      · exact .inr (List.mem_cons_of_mem _ e)
    · rw [cpush1_gt (by omega)] at hy
      rcases List.mem_cons.1 hy with e | e
      · exact .inr (by rw [e]; simp)
      · rcases ih y e with e | e
        · exact .inl e
        · exact .inr (List.mem_cons_of_mem _ e)
theorem cpush1_out {s : List Int} {x q : Int} : (cpush1 s x).2 = some q → q ∈ s ∧ x ≤ q := by
  induction s with
  | nil => intro h; simp [cpush1] at h
  | cons a s ih =>
    intro h
    by_cases c : x ≤ a
    · rw [cpush1_le c] at h
      obtain rfl : a = q := by simpa using h
      exact ⟨by simp, c⟩
    · rw [cpush1_gt (by omega)] at h
      have := ih h
      exact ⟨List.mem_cons_of_mem _ this.1, this.2⟩
theorem cpush1_dn {s : List Int} {x : Int} (h : Dn s) : Dn (cpush1 s x).1 := by
  induction s with
  | nil => simp [cpush1, Dn]
  | cons a s ih =>
    by_cases c : x ≤ a
    · rw [cpush1_le c]
      exact List.pairwise_cons.2 ⟨fun y hy => by have := h.head y hy; omega, h.tail⟩
    · rw [cpush1_gt (by omega)]
      refine List.pairwise_cons.2 ⟨fun y hy => ?_, ih h.tail⟩
      rcases cpush1_mem y hy with e | e
      · omega
      · exact h.head y e
theorem cpush1_ne {s : List Int} {x : Int} : (cpush1 s x).1 ≠ [] := by
  cases s with
  | nil => simp [cpush1]
  | cons a s =>
    by_cases c : x ≤ a
    · rw [cpush1_le c]; simp
    · rw [cpush1_gt (by omega)]; simp
theorem cpush1_head {s : List Int} {y : Int} : ∃ h t, (cpush1 s y).1 = h :: t ∧ (h = y ∨ h ∈ s) ∧ ∀ z, (cpush1 s y).2 = some z → h ≤ z := by
  cases s with
  | nil => exact ⟨y, [], rfl, .inl rfl, fun z e => by simp [cpush1] at e⟩
  | cons a s =>
    by_cases c : y ≤ a
    · rw [cpush1_le c]
      refine ⟨y, s, rfl, .inl rfl, fun z e => ?_⟩
      have e' : a = z := by simpa using e
      rw [← e']; exact c
    · rw [cpush1_gt (by omega)]
      exact ⟨a, _, rfl, .inr (by simp), fun z e => by have := (cpush1_out e).2; omega⟩
theorem cslip {y a : Int} (hy : y ≤ a) : ∀ (d : List Int), d.Pairwise (fun p q => q < p) → (∀ x ∈ d, a < x) → Kn (y :: (d ++ [a])) (d ++ [y, a])
  | [], _, _ => .refl _
  | b :: d, hp, hd => by
    have ih := cslip hy d (List.pairwise_cons.1 hp).2 (fun x hx => hd x (List.mem_cons_of_mem _ hx))
    have hb := hd b (by simp)
    have h1 : Kn (y :: b :: (d ++ [a])) (b :: y :: (d ++ [a])) := by
      cases d with
      | nil => exact .one (.b y a b hy hb)
      | cons e d =>
        have he := hd e (by simp)
        have hbe := (List.pairwise_cons.1 hp).1 e (by simp)
        exact Kn.right (d ++ [a]) (.one (.b y e b (by omega) hbe))
    exact h1.trans (Kn.cons b ih)
theorem cpush1_Kn {c : List Int} {y : Int} (h : Dn c) : Kn (y :: c.reverse) ((cpush1 c y).1.reverse ++ (cpush1 c y).2.toList) := by
  induction c with
  | nil => exact .refl _
  | cons a c ih =>
    by_cases k : y ≤ a
    · rw [cpush1_le k]
      have := cslip k c.reverse (List.pairwise_reverse.2 h.tail) (fun x hx => h.head x (by simpa using hx))
      simpa using this
    · rw [cpush1_gt (by omega)]
      have h1 := (ih h.tail).right [a]
      obtain ⟨p, t, e1, hp, hz⟩ := cpush1_head (s := c) (y := y)
      have hap : a < p := by
        rcases hp with e | e
        · omega
        · exact h.head p e
      simp only [List.reverse_cons]
      refine (by simpa using h1 : Kn (y :: (c.reverse ++ [a])) ((cpush1 c y).1.reverse ++ ((cpush1 c y).2.toList ++ [a]))).trans ?_
      cases e2 : (cpush1 c y).2 with
      | none => simp only [Option.toList, List.nil_append, List.append_nil]; exact .refl _
      | some z =>
        have h2 := hz z e2
        rw [e1]
        have h3 := Kn.left t.reverse (Kn.one (.a a p z hap h2))
        simpa [Option.toList] using h3
theorem cins1_Kn : ∀ {cs : List (List Int)} {y : Int}, (∀ c ∈ cs, Dn c) → Kn (y :: cword cs) (cword (cins1 cs y))
  | [], y, _ => .refl _
  | c :: cs, y, h => by
    have h1 := (cpush1_Kn (y := y) (h c (by simp))).right (cword cs)
    simp only [cword, cins1]
    refine (by simpa using h1 : Kn (y :: (c.reverse ++ cword cs)) ((cpush1 c y).1.reverse ++ ((cpush1 c y).2.toList ++ cword cs))).trans ?_
    cases e : (cpush1 c y).2 with
    | none => exact .refl _
    | some z =>
      have h3 := (cins1_Kn (y := z) (fun s hs => h s (List.mem_cons_of_mem _ hs))).left (cpush1 c y).1.reverse
      simpa [cword, Option.toList] using h3

/-- Column by column. -/
def CDom : List Int → List Int → Prop
  | _, [] => True
  | [], _ :: _ => False
  | a :: r, b :: s => a ≤ b ∧ CDom r s
def CTab : List (List Int) → Prop
  | [] => True
  | r :: t => r ≠ [] ∧ Dn r ∧ CDom r (t.headD []) ∧ CTab t
theorem CTab.dn : ∀ {T : List (List Int)}, CTab T → ∀ r ∈ T, Dn r
  | [], _ => fun r hr => by simp at hr
  | s :: t, h => fun r hr => by
    rcases List.mem_cons.1 hr with e | e
    · rw [e]; exact h.2.1
    · exact h.2.2.2.dn r e
theorem CTab.ne : ∀ {T : List (List Int)}, CTab T → ∀ r ∈ T, r ≠ []
  | [], _ => fun r hr => by simp at hr
  | s :: t, h => fun r hr => by
    rcases List.mem_cons.1 hr with e | e
    · rw [e]; exact h.1
    · exact h.2.2.2.ne r e
theorem cdom_low : ∀ {r s : List Int} {x z : Int}, CDom r s → (cpush1 r x).2 = some z → CDom (cpush1 r x).1 s
  | _, [], _, _, _, _ => by simp only [CDom]
  | [], _ :: _, _, _, h, _ => h.elim
  | a :: r, b :: s, x, z, h, e => by
    by_cases c : x ≤ a
    · rw [cpush1_le c]; exact ⟨by have := h.1; omega, h.2⟩
    · rw [cpush1_gt (by omega)] at e ⊢
      exact ⟨h.1, cdom_low h.2 e⟩
theorem cdom_push : ∀ {r s : List Int} {x z : Int}, Dn r → CDom r s → (cpush1 r x).2 = some z → CDom (cpush1 r x).1 (cpush1 s z).1
  | [], _, x, z, _, _, e => by simp [cpush1] at e
  | a :: r, [], x, z, hr, _, e => by
    by_cases c : x ≤ a
    · rw [cpush1_le c] at e ⊢
      obtain rfl : a = z := by simpa using e
      exact ⟨c, by simp only [CDom]⟩
    · rw [cpush1_gt (by omega)] at e ⊢
      have := (cpush1_out e).2
      exact ⟨by omega, by simp only [CDom]⟩
  | a :: r, b :: s, x, z, hr, h, e => by
    by_cases c : x ≤ a
    · rw [cpush1_le c] at e ⊢
      obtain rfl : a = z := by simpa using e
      rw [cpush1_le h.1]
      exact ⟨c, h.2⟩
    · rw [cpush1_gt (by omega)] at e ⊢
      have hz := (cpush1_out e).2
      by_cases c2 : z ≤ b
      · rw [cpush1_le c2]
        exact ⟨by omega, cdom_low h.2 e⟩
      · rw [cpush1_gt (by omega)]
        exact ⟨h.1, cdom_push hr.tail h.2 e⟩
theorem cdom_grow : ∀ {r s : List Int} {x : Int}, CDom r s → (cpush1 r x).2 = none → CDom (cpush1 r x).1 s
  | _, [], _, _, _ => by simp only [CDom]
  | [], _ :: _, _, h, _ => h.elim
  | a :: r, b :: s, x, h, e => by
    by_cases c : x ≤ a
    · rw [cpush1_le c] at e; simp at e
    · rw [cpush1_gt (by omega)] at e ⊢
      exact ⟨h.1, cdom_grow h.2 e⟩
theorem cins1_headD (T : List (List Int)) (z : Int) : (cins1 T z).headD [] = (cpush1 (T.headD []) z).1 := by
  cases T with
  | nil => rfl
  | cons r t => simp only [cins1]; cases (cpush1 r z).2 <;> rfl
theorem cins1_tab : ∀ {T : List (List Int)} {x : Int}, CTab T → CTab (cins1 T x)
  | [], x, _ => ⟨by simp, List.pairwise_singleton _ _, by simp only [List.headD, CDom], trivial⟩
  | r :: t, x, h => by
    obtain ⟨h1, h2, h3, h4⟩ := h
    simp only [cins1]
    cases e : (cpush1 r x).2 with
    | none => exact ⟨cpush1_ne, cpush1_dn h2, cdom_grow h3 e, h4⟩
    | some z => exact ⟨cpush1_ne, cpush1_dn h2, by rw [cins1_headD]; exact cdom_push h2 h3 e, cins1_tab h4⟩

/-- A column laid to the right of the rows. -/
def addCol : List (List Int) → List Int → List (List Int)
  | U, [] => U
  | [], b :: c => [b] :: addCol [] c
  | s :: U, b :: c => (s ++ [b]) :: addCol U c
/-- Each row's letters are no greater than the column's. -/
def ColOk : List (List Int) → List Int → Prop
  | _, [] => True
  | [], _ :: _ => True
  | s :: U, b :: c => (∀ x ∈ s, x ≤ b) ∧ ColOk U c
theorem ColOk.nil (c : List Int) : ColOk [] c := by cases c <;> simp only [ColOk]
theorem ColOk.dom : ∀ {U : List (List Int)} {d c : List Int}, ColOk U d → CDom d c → ColOk U c
  | _, _, [], _, _ => by simp only [ColOk]
  | [], _, _ :: _, _, _ => by simp only [ColOk]
  | _ :: _, [], _ :: _, _, h => h.elim
  | s :: U, a :: d, b :: c, h, h' => ⟨fun x hx => by have := h.1 x hx; have := h'.1; omega, h.2.dom h'.2⟩
theorem ColOk.add : ∀ {U : List (List Int)} {c : List Int}, ColOk U c → ColOk (addCol U c) c
  | _, [], _ => by simp only [ColOk]
  | [], b :: c, _ => ⟨fun x hx => by simp at hx; omega, (ColOk.nil c).add⟩
  | s :: U, b :: c, h => ⟨fun x hx => by
      rcases List.mem_append.1 hx with e | e
      · exact h.1 x e
      · simp at e; omega, h.2.add⟩
theorem push1_snoc {s : List Int} {b b2 : Int} (h : ∀ x ∈ s, x ≤ b) (hb : b < b2) : push1 (s ++ [b2]) b = (s ++ [b], some b2) := by
  induction s with
  | nil => simp only [List.nil_append]; rw [push1_lt hb]
  | cons a s ih =>
    simp only [List.cons_append]
    rw [push1_ge (h a (by simp)), ih (fun x hx => h x (List.mem_cons_of_mem _ hx))]
theorem push1_end {s : List Int} {b : Int} (h : ∀ x ∈ s, x ≤ b) : push1 s b = (s ++ [b], none) := by
  induction s with
  | nil => rfl
  | cons a s ih => rw [push1_ge (h a (by simp)), ih (fun x hx => h x (List.mem_cons_of_mem _ hx))]; rfl
theorem pushW_col : ∀ (c : List Int) {s : List Int} {b : Int}, Dn (b :: c) → (∀ x ∈ s, x ≤ b) → pushW s (b :: c).reverse = (s ++ [b], c.reverse)
  | [], s, b, _, hs => by simp [pushW, push1_end hs]
  | b2 :: c, s, b, h, hs => by
    have hb := h.head b2 (by simp)
    have ih := pushW_col c h.tail (s := s) (fun x hx => by have := hs x hx; omega)
    rw [List.reverse_cons, pushW_append, ih]
    simp only [pushW]
    rw [push1_snoc hs hb]
    simp
theorem insW_ne {w : List Int} (h : w ≠ []) : insW [] w = (pushW [] w).1 :: insW [] (pushW [] w).2 := by
  cases w with
  | nil => exact absurd rfl h
  | cons x w => exact insW_nil x w
theorem insW_col : ∀ (c : List Int) {U : List (List Int)}, Dn c → ColOk U c → insW U c.reverse = addCol U c
  | [], U, _, _ => by simp only [addCol]; rfl
  | b :: c, [], h, _ => by
    rw [insW_ne (by simp), pushW_col c h (fun x hx => by simp at hx)]
    simp only [addCol, List.nil_append]
    rw [insW_col c h.tail (ColOk.nil c)]
  | b :: c, s :: U, h, hc => by
    rw [insW_cons, pushW_col c h hc.1]
    simp only [addCol]
    rw [insW_col c h.tail hc.2]
def fillC (U cs : List (List Int)) : List (List Int) := cs.foldl addCol U
theorem insW_cols : ∀ (cs : List (List Int)) {U : List (List Int)}, CTab cs → ColOk U (cs.headD []) → insW U (cword cs) = fillC U cs
  | [], _, _, _ => rfl
  | c :: cs, U, h, hc => by
    obtain ⟨_, h2, h3, h4⟩ := h
    simp only [cword]
    have hc' : ColOk U c := hc
    rw [insW_append, insW_col c h2 hc', insW_cols cs h4 (hc'.add.dom h3)]
    rfl

/-- Rows and columns of one filling. -/
structure Rep (T cs : List (List Int)) : Prop where
  ent : ∀ i j, (T.getD i [])[j]? = (cs.getD j [])[i]?
  row : ∀ r ∈ T, r ≠ []
  col : ∀ c ∈ cs, c ≠ []
theorem Rep.symm {T cs : List (List Int)} (h : Rep T cs) : Rep cs T := ⟨fun i j => (h.ent j i).symm, h.col, h.row⟩
theorem Rep.height {T cs : List (List Int)} (h : Rep T cs) : T.length = (cs.getD 0 []).length := by
  have key : ∀ i, i < T.length ↔ i < (cs.getD 0 []).length := fun i => by
    have e := h.ent i 0
    constructor
    · intro hi
      have h0 : T.getD i [] = T[i] := by rw [List.getD_eq_getElem?_getD, List.getElem?_eq_getElem hi]; rfl
      have h1 := h.row _ (List.getElem_mem hi)
      rw [h0] at e
      apply Classical.byContradiction
      intro hn
      rw [List.getElem?_eq_none (l := cs.getD 0 []) (by omega)] at e
      have h2 : (T[i]).length ≤ 0 := List.getElem?_eq_none_iff.1 e
      exact h1 (List.eq_nil_of_length_eq_zero (by omega))
    · intro hi
      apply Classical.byContradiction
      intro hn
      have h0 : T.getD i [] = [] := by rw [List.getD_eq_getElem?_getD, List.getElem?_eq_none (by omega)]; rfl
      rw [h0, List.getElem?_eq_getElem hi] at e
      simp at e
  have h1 := key T.length
  have h2 := key (cs.getD 0 []).length
  omega
theorem Rep.uniq {T T' cs : List (List Int)} (h : Rep T cs) (h' : Rep T' cs) : T = T' := by
  apply List.ext_getElem (h.height.trans h'.height.symm)
  intro i h1 h2
  apply List.ext_getElem?
  intro j
  have e1 := h.ent i j
  have e2 := h'.ent i j
  have g1 : T.getD i [] = T[i] := by rw [List.getD_eq_getElem?_getD, List.getElem?_eq_getElem h1]; rfl
  have g2 : T'.getD i [] = T'[i] := by rw [List.getD_eq_getElem?_getD, List.getElem?_eq_getElem h2]; rfl
  rw [g1] at e1
  rw [g2] at e2
  rw [e1, e2]
theorem addCol_getD : ∀ (U : List (List Int)) (c : List Int) (i : Nat), (addCol U c).getD i [] = U.getD i [] ++ (c[i]?).toList
  | U, [], i => by simp [addCol]
  | [], b :: c, 0 => by simp [addCol]
  | [], b :: c, i + 1 => by
    have := addCol_getD [] c i
    simp only [addCol]
    simpa using this
  | s :: U, b :: c, 0 => by simp [addCol]
  | s :: U, b :: c, i + 1 => by
    have := addCol_getD U c i
    simp only [addCol]
    simpa using this
theorem addCol_ne : ∀ (U : List (List Int)) (c : List Int), (∀ r ∈ U, r ≠ []) → ∀ r ∈ addCol U c, r ≠ []
  | U, [], h => by simpa [addCol] using h
  | [], b :: c, h => fun r hr => by
    simp only [addCol] at hr
    rcases List.mem_cons.1 hr with e | e
    · rw [e]; simp
    · exact addCol_ne [] c h r e
  | s :: U, b :: c, h => fun r hr => by
    simp only [addCol] at hr
    rcases List.mem_cons.1 hr with e | e
    · rw [e]; simp
    · exact addCol_ne U c (fun r hr => h r (List.mem_cons_of_mem _ hr)) r e
theorem Rep.add {U ds : List (List Int)} (h : Rep U ds) {c : List Int} (hc : c ≠ []) (hl : ∀ d ∈ ds, c.length ≤ d.length) : Rep (addCol U c) (ds ++ [c]) := by
  refine ⟨fun i j => ?_, addCol_ne U c h.row, fun d hd => ?_⟩
  · rw [addCol_getD]
    by_cases ci : i < c.length
    · have hul : (U.getD i []).length = ds.length := by
        have k1 : ∀ j, j < (U.getD i []).length ↔ j < ds.length := fun j => by
          have e := h.ent i j
          constructor
          · intro hj
            apply Classical.byContradiction
            intro hn
            have h0 : ds.getD j [] = [] := by rw [List.getD_eq_getElem?_getD, List.getElem?_eq_none (by omega)]; rfl
            rw [h0, List.getElem?_eq_getElem hj] at e
            simp at e
          · intro hj
            have h0 : ds.getD j [] = ds[j] := by rw [List.getD_eq_getElem?_getD, List.getElem?_eq_getElem hj]; rfl
            have h1 := hl _ (List.getElem_mem hj)
            apply Classical.byContradiction
            intro hn
            rw [h0, List.getElem?_eq_none (by omega), List.getElem?_eq_getElem (by omega)] at e
            simp at e
        have := k1 ds.length
        have := k1 (U.getD i []).length
        omega
      rw [List.getElem?_eq_getElem ci]
      simp only [Option.toList]
      by_cases cj : j < ds.length
      · rw [List.getElem?_append_left (by omega), h.ent i j, List.getD_eq_getElem?_getD, List.getD_eq_getElem?_getD, List.getElem?_append_left cj]
      · rw [List.getElem?_append_right (by omega), hul, List.getD_eq_getElem?_getD, List.getElem?_append_right (by omega)]
        by_cases e : j = ds.length
        · subst e; simp [ci]
        · rw [List.getElem?_eq_none (l := [c[i]]) (by simp; omega), List.getElem?_eq_none (l := [c]) (by simp; omega)]; rfl
    · rw [List.getElem?_eq_none (l := c) (by omega)]
      simp only [Option.toList, List.append_nil]
      rw [h.ent i j, List.getD_eq_getElem?_getD, List.getD_eq_getElem?_getD]
      by_cases cj : j < ds.length
      · rw [List.getElem?_append_left cj]
      · rw [List.getElem?_eq_none (l := ds) (by omega), List.getElem?_append_right (by omega)]
        by_cases e : j = ds.length
        · subst e; simp; omega
        · rw [List.getElem?_eq_none (l := [c]) (by simp; omega)]
  · rcases List.mem_append.1 hd with e | e
    · exact h.col d e
    · simp at e; rw [e]; exact hc
theorem Rep.fill : ∀ (cs : List (List Int)) {U ds : List (List Int)}, Rep U ds → (∀ c ∈ cs, c ≠ []) → (ds ++ cs).Pairwise (fun d c => c.length ≤ d.length) → Rep (fillC U cs) (ds ++ cs)
  | [], U, ds, h, _, _ => by simpa [fillC] using h
  | c :: cs, U, ds, h, hc, hp => by
    have h1 := h.add (hc c (by simp)) (fun d hd => (List.pairwise_append.1 hp).2.2 d hd c (by simp))
    have h2 := Rep.fill cs h1 (fun d hd => hc d (List.mem_cons_of_mem _ hd)) (by simpa using hp)
    have e : fillC U (c :: cs) = fillC (addCol U c) cs := rfl
    rw [e]
    simpa using h2
theorem Rep.nil : Rep [] [] := ⟨fun i j => by simp, fun r hr => by simp at hr, fun r hr => by simp at hr⟩
theorem cdom_len : ∀ {c d : List Int}, CDom c d → d.length ≤ c.length
  | _, [], _ => by simp
  | [], _ :: _, h => h.elim
  | a :: c, b :: d, h => by have := cdom_len h.2; simp; omega
theorem dom_len : ∀ {c d : List Int}, Dom c d → d.length ≤ c.length
  | _, [], _ => by simp
  | [], _ :: _, h => h.elim
  | a :: c, b :: d, h => by have := dom_len h.2; simp; omega
theorem CTab.lens : ∀ {cs : List (List Int)}, CTab cs → cs.Pairwise (fun d c => c.length ≤ d.length) ∧ ∀ c ∈ cs, c.length ≤ (cs.headD []).length
  | [], _ => ⟨List.Pairwise.nil, fun c hc => by simp at hc⟩
  | c :: cs, h => by
    obtain ⟨_, _, h3, h4⟩ := h
    have h5 := cdom_len h3
    have ih := h4.lens
    have h6 : ∀ d ∈ cs, d.length ≤ c.length := fun d hd => by have := ih.2 d hd; omega
    refine ⟨List.pairwise_cons.2 ⟨h6, ih.1⟩, fun d hd => ?_⟩
    rcases List.mem_cons.1 hd with e | e
    · rw [e]; simp
    · simpa using h6 d e
theorem Tab.lens : ∀ {cs : List (List Int)}, Tab cs → cs.Pairwise (fun d c => c.length ≤ d.length) ∧ ∀ c ∈ cs, c.length ≤ (cs.headD []).length
  | [], _ => ⟨List.Pairwise.nil, fun c hc => by simp at hc⟩
  | c :: cs, h => by
    obtain ⟨_, _, h3, h4⟩ := h
    have h5 := dom_len h3
    have ih := h4.lens
    have h6 : ∀ d ∈ cs, d.length ≤ c.length := fun d hd => by have := ih.2 d hd; omega
    refine ⟨List.pairwise_cons.2 ⟨h6, ih.1⟩, fun d hd => ?_⟩
    rcases List.mem_cons.1 hd with e | e
    · rw [e]; simp
    · simpa using h6 d e
theorem Tab.ne : ∀ {T : List (List Int)}, Tab T → ∀ r ∈ T, r ≠ []
  | [], _ => fun r hr => by simp at hr
  | s :: t, h => fun r hr => by
    rcases List.mem_cons.1 hr with e | e
    · rw [e]; exact h.1
    · exact h.2.2.2.ne r e
/-- The rows of a tableau's columns: what the columns' word makes. -/
theorem Rep.made {T cs : List (List Int)} (h : Rep T cs) (hc : CTab cs) : T = insW [] (cword cs) := by
  have h1 := Rep.fill cs Rep.nil hc.ne (by simpa using hc.lens.1)
  rw [insW_cols cs hc (ColOk.nil _)]
  exact h.uniq (by simpa using h1)
theorem cdom_of : ∀ {c d : List Int}, (∀ (i : Nat) b, d[i]? = some b → ∃ a, c[i]? = some a ∧ a ≤ b) → CDom c d
  | _, [], _ => by simp only [CDom]
  | [], b :: d, h => by
    obtain ⟨a, ha, _⟩ := h 0 b rfl
    simp at ha
  | a :: c, b :: d, h => by
    obtain ⟨a', ha, hb⟩ := h 0 b rfl
    obtain rfl : a = a' := by simpa using ha
    exact ⟨hb, cdom_of (fun i b hb => by simpa using h (i + 1) b (by simpa using hb))⟩
theorem dom_of : ∀ {c d : List Int}, (∀ (i : Nat) b, d[i]? = some b → ∃ a, c[i]? = some a ∧ a < b) → Dom c d
  | _, [], _ => by simp only [Dom]
  | [], b :: d, h => by
    obtain ⟨a, ha, _⟩ := h 0 b rfl
    simp at ha
  | a :: c, b :: d, h => by
    obtain ⟨a', ha, hb⟩ := h 0 b rfl
    obtain rfl : a = a' := by simpa using ha
    exact ⟨hb, dom_of (fun i b hb => by simpa using h (i + 1) b (by simpa using hb))⟩
theorem dom_at : ∀ {c d : List Int} {i : Nat} {b : Int}, Dom c d → d[i]? = some b → ∃ a, c[i]? = some a ∧ a < b
  | _, [], _, _, _, e => by simp at e
  | [], _ :: _, _, _, h, _ => h.elim
  | a :: c, b :: d, 0, b', h, e => by
    have e' : b = b' := by simpa using e
    exact ⟨a, rfl, by rw [← e']; exact h.1⟩
  | a :: c, b :: d, i + 1, b', h, e => by simpa using dom_at (i := i) h.2 (by simpa using e)
theorem dn_of : ∀ {c : List Int}, (∀ (i : Nat) a b, c[i]? = some a → c[i + 1]? = some b → a < b) → Dn c
  | [], _ => List.Pairwise.nil
  | [a], _ => List.pairwise_singleton _ _
  | a :: b :: c, h => by
    have ih := dn_of (c := b :: c) (fun i x y hx hy => h (i + 1) x y (by simpa using hx) (by simpa using hy))
    have hab := h 0 a b rfl rfl
    refine List.pairwise_cons.2 ⟨fun x hx => ?_, ih⟩
    rcases List.mem_cons.1 hx with e | e
    · rw [e]; exact hab
    · have := ih.head x e; omega
theorem up_of : ∀ {c : List Int}, (∀ (i : Nat) a b, c[i]? = some a → c[i + 1]? = some b → a ≤ b) → Up c
  | [], _ => List.Pairwise.nil
  | [a], _ => List.pairwise_singleton _ _
  | a :: b :: c, h => by
    have ih := up_of (c := b :: c) (fun i x y hx hy => h (i + 1) x y (by simpa using hx) (by simpa using hy))
    have hab := h 0 a b rfl rfl
    refine List.pairwise_cons.2 ⟨fun x hx => ?_, ih⟩
    rcases List.mem_cons.1 hx with e | e
    · rw [e]; exact hab
    · have := ih.head x e; omega
theorem up_at : ∀ {c : List Int} {i : Nat} {b : Int}, Up c → c[i + 1]? = some b → ∃ a, c[i]? = some a ∧ a ≤ b
  | [], _, _, _, e => by simp at e
  | a :: c, 0, b, h, e => ⟨a, rfl, h.head b (List.mem_of_getElem? (by simpa using e))⟩
  | a :: c, i + 1, b, h, e => by simpa using up_at (i := i) h.tail (by simpa using e)
theorem ctab_of : ∀ {cs : List (List Int)}, (∀ c ∈ cs, c ≠ [] ∧ Dn c) → (∀ j, CDom (cs.getD j []) (cs.getD (j + 1) [])) → CTab cs
  | [], _, _ => trivial
  | c :: cs, h, hd => by
    have h0 := h c (by simp)
    have hd0 := hd 0
    refine ⟨h0.1, h0.2, ?_, ctab_of (fun d hd => h d (List.mem_cons_of_mem _ hd)) (fun j => by simpa using hd (j + 1))⟩
    cases cs with
    | nil => simp only [List.headD, CDom]
    | cons d cs => simpa using hd0
theorem tab_of : ∀ {cs : List (List Int)}, (∀ c ∈ cs, c ≠ [] ∧ Up c) → (∀ j, Dom (cs.getD j []) (cs.getD (j + 1) [])) → Tab cs
  | [], _, _ => trivial
  | c :: cs, h, hd => by
    have h0 := h c (by simp)
    have hd0 := hd 0
    refine ⟨h0.1, h0.2, ?_, tab_of (fun d hd => h d (List.mem_cons_of_mem _ hd)) (fun j => by simpa using hd (j + 1))⟩
    cases cs with
    | nil => simp only [List.headD, Dom]
    | cons d cs => simpa using hd0
theorem Tab.dom : ∀ {T : List (List Int)}, Tab T → ∀ i, Dom (T.getD i []) (T.getD (i + 1) [])
  | [], _, _ => by simp [Dom]
  | [r], _, 0 => by simp [Dom]
  | r :: s :: t, h, 0 => by simpa using h.2.2.1
  | r :: t, h, i + 1 => by
    have := h.2.2.2.dom i
    simpa using this
theorem Tab.upD {T : List (List Int)} (h : Tab T) (i : Nat) : Up (T.getD i []) := by
  rw [List.getD_eq_getElem?_getD]
  cases e : T[i]? with
  | none => exact List.Pairwise.nil
  | some r => exact h.up r (List.mem_of_getElem? e)
/-- A tableau's columns. -/
theorem Tab.cols {T : List (List Int)} (h : Tab T) : ∃ cs, Rep T cs ∧ CTab cs := by
  have h1 := Rep.fill T Rep.nil h.ne (by simpa using h.lens.1)
  have hr : Rep T (fillC [] T) := by simpa using h1.symm
  refine ⟨fillC [] T, hr, ctab_of (fun c hc => ⟨hr.col c hc, ?_⟩) (fun j => cdom_of (fun i b hb => ?_))⟩
  · obtain ⟨j, hj, e⟩ := List.getElem_of_mem hc
    have g : (fillC [] T).getD j [] = c := by rw [List.getD_eq_getElem?_getD, List.getElem?_eq_getElem hj, e]; rfl
    refine dn_of (fun i a b ha hb => ?_)
    rw [← g, ← hr.ent] at ha hb
    obtain ⟨a', ha', hlt⟩ := dom_at (h.dom i) hb
    rw [ha] at ha'
    obtain rfl : a = a' := by simpa using ha'
    exact hlt
  · rw [← hr.ent] at hb
    obtain ⟨a, ha, hle⟩ := up_at (h.upD i) hb
    exact ⟨a, by rw [← hr.ent]; exact ha, hle⟩
/-- What goes in by columns goes ahead of the word. -/
theorem left_made {T T' cs : List (List Int)} {y : Int} (h : Rep T cs) (hc : CTab cs) (h' : Rep T' (cins1 cs y)) : T' = insW [] (y :: rword T) := by
  rw [h'.made (cins1_tab hc)]
  refine insW_Kn0 _ (Nat.le_refl _) ?_
  refine (cins1_Kn hc.dn).symm.trans (Kn.cons y ?_)
  have h1 : insW [] (cword cs) = T := (h.made hc).symm
  have h2 := insW_word (cword cs) (T := []) (fun r hr => by simp at hr)
  rw [h1] at h2
  exact h2
theorem right_made {T : List (List Int)} (ht : Tab T) (x : Int) : ins1 T x = insW [] (rword T ++ [x]) := by
  rw [insW_append, insW_rword ht]; rfl
/-- Rows' way and columns' way are not in each other's. -/
theorem sides {T A B C D cs ca : List (List Int)} {x y : Int} (ht : Tab T) (h : Rep T cs) (hc : CTab cs) (hA : A = ins1 T x) (ha : Rep A ca) (hca : CTab ca) (hB : Rep B (cins1 cs y)) (hC : Rep C (cins1 ca y)) (hD : D = ins1 B x) : C = D := by
  have e1 := left_made h hc hB
  have e2 := left_made ha hca hC
  have htb : Tab B := by rw [e1]; exact insW_tab _ trivial
  rw [e2, hD, e1]
  have e3 : ins1 (insW [] (y :: rword T)) x = insW [] (y :: rword T ++ [x]) := by rw [insW_append]; rfl
  rw [e3, hA]
  refine insW_Kn0 _ (Nat.le_refl _) ?_
  have h1 := ins1_Kn (T := T) (x := x) ht.up
  have h2 := (Kn.cons y h1).symm
  simpa using h2
end Go.Proofs.YtmlmdklheiafpaaDoor
