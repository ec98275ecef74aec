/-
  Plain: letters put into columns; a tableau's columns; what goes in by columns goes ahead of the word.
-/
import Derived.Test.YtpmkdihencepnaaGreatMg03
import Derived.Test.YtpmkdihencepnaaGreatMg09
import Derived.Test.YtpmkdihencepnaaGreatMg11
import Derived.Test.YtpmkdihencepnaaGreatMg12
namespace Go.Proofs.YtpmkdihencepnaaGreat

/-- The columns' word. -/
def cword : List (List Int) → List Int
  | [] => []
  | c :: cs => c.reverse ++ cword cs
/-- Columns that rise. -/
def Dn (s : List Int) : Prop := s.Pairwise (· < ·)
theorem Dn.tail {a : Int} {s : List Int} (h : Dn (a :: s)) : Dn s := (List.pairwise_cons.1 h).2
theorem Dn.head {a : Int} {s : List Int} (h : Dn (a :: s)) : ∀ x ∈ s, a < x := (List.pairwise_cons.1 h).1
/-- Column by column. -/
def CDom : List Int → List Int → Prop
  | _, [] => True
  | [], _ :: _ => False
  | a :: r, b :: s => a ≤ b ∧ CDom r s
def CTab : List (List Int) → Prop
  | [] => True
  | r :: t => r ≠ [] ∧ Dn r ∧ CDom r (t.headD []) ∧ CTab t
theorem CTab.dn : ∀ {T : List (List Int)}, CTab T → ∀ r ∈ T, Dn r
  | [], _ => fun r hr => by simp at hr
  | s :: t, h => fun r hr => by
    rcases List.mem_cons.1 hr with e | e
    · rw [e]; exact h.2.1
    · exact h.2.2.2.dn r e
theorem CTab.ne : ∀ {T : List (List Int)}, CTab T → ∀ r ∈ T, r ≠ []
  | [], _ => fun r hr => by simp at hr
  | s :: t, h => fun r hr => by
    rcases List.mem_cons.1 hr with e | e
    · rw [e]; exact h.1
    · exact h.2.2.2.ne r e
/-- A column laid to the right of the rows. -/
def addCol : List (List Int) → List Int → List (List Int)
  | U, [] => U
  | [], b :: c => [b] :: addCol [] c
  | s :: U, b :: c => (s ++ [b]) :: addCol U c
/-- Each row's letters are no greater than the column's. -/
def ColOk : List (List Int) → List Int → Prop
  | _, [] => True
  | [], _ :: _ => True
  | s :: U, b :: c => (∀ x ∈ s, x ≤ b) ∧ ColOk U c
theorem ColOk.nil (c : List Int) : ColOk [] c := by cases c <;> simp only [ColOk]
theorem ColOk.dom : ∀ {U : List (List Int)} {d c : List Int}, ColOk U d → CDom d c → ColOk U c
  | _, _, [], _, _ => by simp only [ColOk]
  | [], _, _ :: _, _, _ => by simp only [ColOk]
  | _ :: _, [], _ :: _, _, h => h.elim
  | s :: U, a :: d, b :: c, h, h' => ⟨fun x hx => by have := h.1 x hx; have := h'.1; omega, h.2.dom h'.2⟩
theorem ColOk.add : ∀ {U : List (List Int)} {c : List Int}, ColOk U c → ColOk (addCol U c) c
  | _, [], _ => by simp only [ColOk]
  | [], b :: c, _ => ⟨fun x hx => by simp at hx; omega, (ColOk.nil c).add⟩
  | s :: U, b :: c, h => ⟨fun x hx => by
      rcases List.mem_append.1 hx with e | e
      · exact h.1 x e
      · simp at e; omega, h.2.add⟩
theorem push1_snoc {s : List Int} {b b2 : Int} (h : ∀ x ∈ s, x ≤ b) (hb : b < b2) : push1 (s ++ [b2]) b = (s ++ [b], some b2) := by
  induction s with
  | nil => simp only [List.nil_append]; rw [push1_lt hb]
  | cons a s ih =>
    simp only [List.cons_append]
    rw [push1_ge (h a (by simp)), ih (fun x hx => h x (List.mem_cons_of_mem _ hx))]
theorem push1_end {s : List Int} {b : Int} (h : ∀ x ∈ s, x ≤ b) : push1 s b = (s ++ [b], none) := by
  induction s with
  | nil => rfl
  | cons a s ih => rw [push1_ge (h a (by simp)), ih (fun x hx => h x (List.mem_cons_of_mem _ hx))]; rfl
theorem pushW_col : ∀ (c : List Int) {s : List Int} {b : Int}, Dn (b :: c) → (∀ x ∈ s, x ≤ b) → pushW s (b :: c).reverse = (s ++ [b], c.reverse)
  | [], s, b, _, hs => by simp [pushW, push1_end hs]
  | b2 :: c, s, b, h, hs => by
    have hb := h.head b2 (by simp)
    have ih := pushW_col c h.tail (s := s) (fun x hx => by have := hs x hx; omega)
    rw [List.reverse_cons, pushW_append, ih]
    simp only [pushW]
    rw [push1_snoc hs hb]
    simp
theorem insW_ne {w : List Int} (h : w ≠ []) : insW [] w = (pushW [] w).1 :: insW [] (pushW [] w).2 := by
  cases w with
  | nil => exact absurd rfl h
  | cons x w => exact insW_nil x w
theorem insW_col : ∀ (c : List Int) {U : List (List Int)}, Dn c → ColOk U c → insW U c.reverse = addCol U c
  | [], U, _, _ => by simp only [addCol]; rfl
  | b :: c, [], h, _ => by
    rw [insW_ne (by simp), pushW_col c h (fun x hx => by simp at hx)]
    simp only [addCol, List.nil_append]
    rw [insW_col c h.tail (ColOk.nil c)]
  | b :: c, s :: U, h, hc => by
    rw [insW_cons, pushW_col c h hc.1]
    simp only [addCol]
    rw [insW_col c h.tail hc.2]
def fillC (U cs : List (List Int)) : List (List Int) := cs.foldl addCol U
theorem insW_cols : ∀ (cs : List (List Int)) {U : List (List Int)}, CTab cs → ColOk U (cs.headD []) → insW U (cword cs) = fillC U cs
  | [], _, _, _ => rfl
  | c :: cs, U, h, hc => by
    obtain ⟨_, h2, h3, h4⟩ := h
    simp only [cword]
    have hc' : ColOk U c := hc
    rw [insW_append, insW_col c h2 hc', insW_cols cs h4 (hc'.add.dom h3)]
    rfl

/-- Rows and columns of one filling. -/
structure Rep (T cs : List (List Int)) : Prop where
  ent : ∀ i j, (T.getD i [])[j]? = (cs.getD j [])[i]?
  row : ∀ r ∈ T, r ≠ []
  col : ∀ c ∈ cs, c ≠ []
theorem Rep.symm {T cs : List (List Int)} (h : Rep T cs) : Rep cs T := ⟨fun i j => (h.ent j i).symm, h.col, h.row⟩
theorem Rep.height {T cs : List (List Int)} (h : Rep T cs) : T.length = (cs.getD 0 []).length := by
  have key : ∀ i, i < T.length ↔ i < (cs.getD 0 []).length := fun i => by
    have e := h.ent i 0
    constructor
    · intro hi
      have h0 : T.getD i [] = T[i] := by rw [List.getD_eq_getElem?_getD, List.getElem?_eq_getElem hi]; rfl
      have h1 := h.row _ (List.getElem_mem hi)
      rw [h0] at e
      apply Classical.byContradiction
      intro hn
      rw [List.getElem?_eq_none (l := cs.getD 0 []) (by omega)] at e
      have h2 : (T[i]).length ≤ 0 := List.getElem?_eq_none_iff.1 e
      exact h1 (List.eq_nil_of_length_eq_zero (by omega))
    · intro hi
      apply Classical.byContradiction
      intro hn
      have h0 : T.getD i [] = [] := by rw [List.getD_eq_getElem?_getD, List.getElem?_eq_none (by omega)]; rfl
      rw [h0, List.getElem?_eq_getElem hi] at e
      simp at e
  have h1 := key T.length
  have h2 := key (cs.getD 0 []).length
  omega
theorem Rep.uniq {T T' cs : List (List Int)} (h : Rep T cs) (h' : Rep T' cs) : T = T' := by
  apply List.ext_getElem (h.height.trans h'.height.symm)
  intro i h1 h2
  apply List.ext_getElem?
  intro j
  have e1 := h.ent i j
  have e2 := h'.ent i j
  have g1 : T.getD i [] = T[i] := by rw [List.getD_eq_getElem?_getD, List.getElem?_eq_getElem h1]; rfl
  have g2 : T'.getD i [] = T'[i] := by rw [List.getD_eq_getElem?_getD, List.getElem?_eq_getElem h2]; rfl
  rw [g1] at e1
  rw [g2] at e2
  rw [e1, e2]
theorem addCol_getD : ∀ (U : List (List Int)) (c : List Int) (i : Nat), (addCol U c).getD i [] = U.getD i [] ++ (c[i]?).toList
  | U, [], i => by simp [addCol]
  | [], b :: c, 0 => by simp [addCol]
  | [], b :: c, i + 1 => by
    have := addCol_getD [] c i
    simp only [addCol]
    simpa using this
  | s :: U, b :: c, 0 => by simp [addCol]
  | s :: U, b :: c, i + 1 => by
    have := addCol_getD U c i
    simp only [addCol]
    simpa using this
theorem addCol_ne : ∀ (U : List (List Int)) (c : List Int), (∀ r ∈ U, r ≠ []) → ∀ r ∈ addCol U c, r ≠ []
  | U, [], h => by simpa [addCol] using h
  | [], b :: c, h => fun r hr => by
    simp only [addCol] at hr
    rcases List.mem_cons.1 hr with e | e
    · rw [e]; simp
    · exact addCol_ne [] c h r e
  | s :: U, b :: c, h => fun r hr => by
    simp only [addCol] at hr
    rcases List.mem_cons.1 hr with e | e
    · rw [e]; simp
    · exact addCol_ne U c (fun r hr => h r (List.mem_cons_of_mem _ hr)) r e
theorem Rep.add {U ds : List (List Int)} (h : Rep U ds) {c : List Int} (hc : c ≠ []) (hl : ∀ d ∈ ds, c.length ≤ d.length) : Rep (addCol U c) (ds ++ [c]) := by
  refine ⟨fun i j => ?_, addCol_ne U c h.row, fun d hd => ?_⟩
  · rw [addCol_getD]
    by_cases ci : i < c.length
    · have hul : (U.getD i []).length = ds.length := by
        have k1 : ∀ j, j < (U.getD i []).length ↔ j < ds.length := fun j => by
          have e := h.ent i j
          constructor
          · intro hj
            apply Classical.byContradiction
            intro hn
            have h0 : ds.getD j [] = [] := by rw [List.getD_eq_getElem?_getD, List.getElem?_eq_none (by omega)]; rfl
            rw [h0, List.getElem?_eq_getElem hj] at e
            simp at e
          · intro hj
            have h0 : ds.getD j [] = ds[j] := by rw [List.getD_eq_getElem?_getD, List.getElem?_eq_getElem hj]; rfl
            have h1 := hl _ (List.getElem_mem hj)
            apply Classical.byContradiction
            intro hn
            rw [h0, List.getElem?_eq_none (by omega), List.getElem?_eq_getElem (by omega)] at e
            simp at e
        have := k1 ds.length
        have := k1 (U.getD i []).length
        omega
      rw [List.getElem?_eq_getElem ci]
      simp only [Option.toList]
      by_cases cj : j < ds.length
      · rw [List.getElem?_append_left (by omega), h.ent i j, List.getD_eq_getElem?_getD, List.getD_eq_getElem?_getD, List.getElem?_append_left cj]
      · rw [List.getElem?_append_right (by omega), hul, List.getD_eq_getElem?_getD, List.getElem?_append_right (by omega)]
        by_cases e : j = ds.length
        · subst e; simp [ci]
        · rw [List.getElem?_eq_none (l := [c[i]]) (by simp; omega), List.getElem?_eq_none (l := [c]) (by simp; omega)]; rfl
    · rw [List.getElem?_eq_none (l := c) (by omega)]
      simp only [Option.toList, List.append_nil]
      rw [h.ent i j, List.getD_eq_getElem?_getD, List.getD_eq_getElem?_getD]
      by_cases cj : j < ds.length
      · rw [List.getElem?_append_left cj]
      · rw [List.getElem?_eq_none (l := ds) (by omega), List.getElem?_append_right (by omega)]
        by_cases e : j = ds.length
        · subst e; simp; omega
        · rw [List.getElem?_eq_none (l := [c]) (by simp; omega)]
  · rcases List.mem_append.1 hd with e | e
    · exact h.col d e
    · simp at e; rw [e]; exact hc
theorem Rep.fill : ∀ (cs : List (List Int)) {U ds : List (List Int)}, Rep U ds → (∀ c ∈ cs, c ≠ []) → (ds ++ cs).Pairwise (fun d c => c.length ≤ d.length) → Rep (fillC U cs) (ds ++ cs)
  | [], U, ds, h, _, _ => by simpa [fillC] using h
  | c :: cs, U, ds, h, hc, hp => by
    have h1 := h.add (hc c (by simp)) (fun d hd => (List.pairwise_append.1 hp).2.2 d hd c (by simp))
    have h2 := Rep.fill cs h1 (fun d hd => hc d (List.mem_cons_of_mem _ hd)) (by simpa using hp)
    have e : fillC U (c :: cs) = fillC (addCol U c) cs := rfl
    rw [e]
    simpa using h2
theorem Rep.nil : Rep [] [] := ⟨fun i j => by simp, fun r hr => by simp at hr, fun r hr => by simp at hr⟩
theorem cdom_len : ∀ {c d : List Int}, CDom c d → d.length ≤ c.length
  | _, [], _ => by simp
  | [], _ :: _, h => h.elim
  | a :: c, b :: d, h => by have := cdom_len h.2; simp; omega
theorem dom_len : ∀ {c d : List Int}, Dom c d → d.length ≤ c.length
  | _, [], _ => by simp
  | [], _ :: _, h => h.elim
  | a :: c, b :: d, h => by have := dom_len h.2; simp; omega
theorem CTab.lens : ∀ {cs : List (List Int)}, CTab cs → cs.Pairwise (fun d c => c.length ≤ d.length) ∧ ∀ c ∈ cs, c.length ≤ (cs.headD []).length
  | [], _ => ⟨List.Pairwise.nil, fun c hc => by simp at hc⟩
  | c :: cs, h => by
    obtain ⟨_, _, h3, h4⟩ := h
    have h5 := cdom_len h3
    have ih := h4.lens
    have h6 : ∀ d ∈ cs, d.length ≤ c.length := fun d hd => by have := ih.2 d hd; omega
    refine ⟨List.pairwise_cons.2 ⟨h6, ih.1⟩, fun d hd => ?_⟩
    rcases List.mem_cons.1 hd with e | e
    · rw [e]; simp
    · simpa using h6 d e
theorem Tab.lens : ∀ {cs : List (List Int)}, Tab cs → cs.Pairwise (fun d c => c.length ≤ d.length) ∧ ∀ c ∈ cs, c.length ≤ (cs.headD []).length
  | [], _ => ⟨List.Pairwise.nil, fun c hc => by simp at hc⟩
  | c :: cs, h => by
    obtain ⟨_, _, h3, h4⟩ := h
    have h5 := dom_len h3
    have ih := h4.lens
    have h6 : ∀ d ∈ cs, d.length ≤ c.length := fun d hd => by have := ih.2 d hd; omega
    refine ⟨List.pairwise_cons.2 ⟨h6, ih.1⟩, fun d hd => ?_⟩
    rcases List.mem_cons.1 hd with e | e
    · rw [e]; simp
    · simpa using h6 d e
theorem Tab.ne : ∀ {T : List (List Int)}, Tab T → ∀ r ∈ T, r ≠ []
  | [], _ => fun r hr => by simp at hr
  | s :: t, h => fun r hr => by
    rcases List.mem_cons.1 hr with e | e
    · rw [e]; exact h.1
    · exact h.2.2.2.ne r e
/-- The rows of a tableau's columns: what the columns' word makes. -/
theorem Rep.made {T cs : List (List Int)} (h : Rep T cs) (hc : CTab cs) : T = insW [] (cword cs) := by
  have h1 := Rep.fill cs Rep.nil hc.ne (by simpa using hc.lens.1)
  rw [insW_cols cs hc (ColOk.nil _)]
  exact h.uniq (by simpa using h1)
theorem dom_of : ∀ {c d : List Int}, (∀ (i : Nat) b, d[i]? = some b → ∃ a, c[i]? = some a ∧ a < b) → Dom c d
  | _, [], _ => by simp only [Dom]
  | [], b :: d, h => by
    obtain ⟨a, ha, _⟩ := h 0 b rfl
    simp at ha
  | a :: c, b :: d, h => by
    obtain ⟨a', ha, hb⟩ := h 0 b rfl
    obtain rfl : a = a' := by simpa using ha
    exact ⟨hb, dom_of (fun i b hb => by simpa using h (i + 1) b (by simpa using hb))⟩
theorem dom_at : ∀ {c d : List Int} {i : Nat} {b : Int}, Dom c d → d[i]? = some b → ∃ a, c[i]? = some a ∧ a < b
  | _, [], _, _, _, e => by simp at e
  | [], _ :: _, _, _, h, _ => h.elim
  | a :: c, b :: d, 0, b', h, e => by
    have e' : b = b' := by simpa using e
    exact ⟨a, rfl, by rw [← e']; exact h.1⟩
  | a :: c, b :: d, i + 1, b', h, e => by simpa using dom_at (i := i) h.2 (by simpa using e)
theorem up_of : ∀ {c : List Int}, (∀ (i : Nat) a b, c[i]? = some a → c[i + 1]? = some b → a ≤ b) → Up c
  | [], _ => List.Pairwise.nil
  | [a], _ => List.pairwise_singleton _ _
  | a :: b :: c, h => by
    have ih := up_of (c := b :: c) (fun i x y hx hy => h (i + 1) x y (by simpa using hx) (by simpa using hy))
    have hab := h 0 a b rfl rfl
    refine List.pairwise_cons.2 ⟨fun x hx => ?_, ih⟩
    rcases List.mem_cons.1 hx with e | e
    · rw [e]; exact hab
    · have := ih.head x e; omega
theorem up_at : ∀ {c : List Int} {i : Nat} {b : Int}, Up c → c[i + 1]? = some b → ∃ a, c[i]? = some a ∧ a ≤ b
  | [], _, _, _, e => by simp at e
  | a :: c, 0, b, h, e => ⟨a, rfl, h.head b (List.mem_of_getElem? (by simpa using e))⟩
  | a :: c, i + 1, b, h, e => by simpa using up_at (i := i) h.tail (by simpa using e)
theorem tab_of : ∀ {cs : List (List Int)}, (∀ c ∈ cs, c ≠ [] ∧ Up c) → (∀ j, Dom (cs.getD j []) (cs.getD (j + 1) [])) → Tab cs
  | [], _, _ => trivial
  | c :: cs, h, hd => by
    have h0 := h c (by simp)
    have hd0 := hd 0
    refine ⟨h0.1, h0.2, ?_, tab_of (fun d hd => h d (List.mem_cons_of_mem _ hd)) (fun j => by simpa using hd (j + 1))⟩
    cases cs with
    | nil => simp only [List.headD, Dom]
    | cons d cs => simpa using hd0
theorem Tab.dom : ∀ {T : List (List Int)}, Tab T → ∀ i, Dom (T.getD i []) (T.getD (i + 1) [])
  | [], _, _ => by simp [Dom]
  | [r], _, 0 => by simp [Dom]
  | r :: s :: t, h, 0 => by simpa using h.2.2.1
  | r :: t, h, i + 1 => by
    have := h.2.2.2.dom i
    simpa using this
theorem Tab.upD {T : List (List Int)} (h : Tab T) (i : Nat) : Up (T.getD i []) := by
  rw [List.getD_eq_getElem?_getD]
  cases e : T[i]? with
  | none => exact List.Pairwise.nil
  | some r => exact h.up r (List.mem_of_getElem? e)
end Go.Proofs.YtpmkdihencepnaaGreat

/-
  Plain: tableaux as the house checks them.
-/
namespace Go.Proofs.YtpmkdihencepnaaGreat

/-- How many boxes. -/
def boxes (T : List (List Int)) : Nat := (T.map List.length).sum
theorem boxes_nil : boxes [] = 0 := rfl
theorem boxes_cons (r : List Int) (T : List (List Int)) : boxes (r :: T) = r.length + boxes T := by simp [boxes]
theorem boxes_append (T U : List (List Int)) : boxes (T ++ U) = boxes T + boxes U := by simp [boxes]
theorem boxes_take {T : List (List Int)} {i : Nat} (h : i < T.length) : boxes (T.take (i + 1)) = boxes (T.take i) + (T.getD i []).length := by
  rw [take_snoc h, boxes_append, getD_get h, boxes_cons, boxes_nil]; omega
theorem boxes_le {T : List (List Int)} (i : Nat) : boxes (T.take i) ≤ boxes T := by
  have : boxes T = boxes (T.take i) + boxes (T.drop i) := by rw [← boxes_append, List.take_append_drop]
  omega
theorem boxes_word : ∀ (T : List (List Int)), boxes T = (rword T).length
  | [] => rfl
  | r :: t => by rw [boxes_cons]; simp only [rword, List.length_append]; rw [boxes_word t]; omega
theorem rword_mem : ∀ {T : List (List Int)} {x : Int}, x ∈ rword T ↔ ∃ r ∈ T, x ∈ r
  | [], x => by simp [rword]
  | r :: t, x => by
    simp only [rword, List.mem_append]
    rw [rword_mem]; simp [or_comm]
theorem Kn.mem {a b : List Int} (h : Kn a b) (x : Int) : x ∈ a ↔ x ∈ b := by
  induction h with
  | refl w => rfl
  | step u v k => cases k <;> (simp; try omega) <;> (constructor <;> intro h <;> rcases h with h | h | h | h | h <;> simp [h])
  | symm _ ih => exact ih.symm
  | trans _ _ ih1 ih2 => exact ih1.trans ih2
/-- A letter of the house. -/
def Lt (x : Int) : Prop := 1 ≤ x ∧ x ≤ 99
/-- What fill.Check lets through. -/
def FillOk (T : List (List Int)) : Prop := Tab T ∧ (∀ r ∈ T, ∀ x ∈ r, Lt x) ∧ boxes T ≤ 40
theorem fill_word {w : List Int} (hl : w.length ≤ 40) (h : ∀ x ∈ w, Lt x) : FillOk (insW [] w) ∧ boxes (insW [] w) = w.length := by
  have hk := insW_word w (T := []) (fun r hr => by simp at hr)
  simp only [rword, List.nil_append] at hk
  have hb : boxes (insW [] w) = w.length := by rw [boxes_word, ← hk.len]
  refine ⟨⟨insW_tab w trivial, fun r hr x hx => ?_, by omega⟩, hb⟩
  exact h x ((hk.mem x).2 (rword_mem.2 ⟨r, hr, hx⟩))
/-- A box that is in order. -/
def BoxOk (T : List (List Int)) (i j : Nat) : Prop :=
  Lt ((T.getD i []).getD j 0) ∧ (0 < j → (T.getD i []).getD (j - 1) 0 ≤ (T.getD i []).getD j 0) ∧ (0 < i → (T.getD (i - 1) []).getD j 0 < (T.getD i []).getD j 0)
/-- A row that is in order. -/
def RowOk (T : List (List Int)) (i : Nat) : Prop :=
  (T.getD i []).length ≠ 0 ∧ (0 < i → (T.getD i []).length ≤ (T.getD (i - 1) []).length) ∧ ∀ j, j < (T.getD i []).length → BoxOk T i j
theorem some_getD {l : List Int} {j : Nat} {x : Int} (h : l[j]? = some x) : j < l.length ∧ l.getD j 0 = x := by
  obtain ⟨h1, h2⟩ := List.getElem?_eq_some_iff.1 h
  exact ⟨h1, by rw [getD_get h1]; exact h2⟩
theorem getD_some {l : List Int} {j : Nat} (h : j < l.length) : l[j]? = some (l.getD j 0) := by rw [getD_get h]; exact List.getElem?_eq_getElem h
theorem fill_of {T : List (List Int)} (hb : boxes T ≤ 40) (h : ∀ i, i < T.length → RowOk T i) : FillOk T := by
  have hg : ∀ r ∈ T, ∃ i, i < T.length ∧ T.getD i [] = r := fun r hr => by
    obtain ⟨i, hi, e⟩ := List.getElem_of_mem hr
    exact ⟨i, hi, by rw [getD_get hi]; exact e⟩
  refine ⟨tab_of (fun r hr => ?_) (fun i => ?_), fun r hr x hx => ?_, hb⟩
  · obtain ⟨i, hi, rfl⟩ := hg r hr
    have hr := h i hi
    refine ⟨fun e => hr.1 (by rw [e]; rfl), up_of (fun j a b ha hb => ?_)⟩
    obtain ⟨_, ea⟩ := some_getD ha
    obtain ⟨hl, eb⟩ := some_getD hb
    have := (hr.2.2 (j + 1) hl).2.1 (by omega)
    rw [Nat.add_sub_cancel, ea, eb] at this
    exact this
  · by_cases hi : i + 1 < T.length
    · have hr := h (i + 1) hi
      refine dom_of (fun j b hb => ?_)
      obtain ⟨hl, eb⟩ := some_getD hb
      have h1 := hr.2.1 (by omega)
      rw [Nat.add_sub_cancel] at h1
      have h2 := (hr.2.2 j hl).2.2 (by omega)
      rw [Nat.add_sub_cancel, eb] at h2
      exact ⟨_, getD_some (by omega), h2⟩
    · have : T.getD (i + 1) [] = [] := by rw [List.getD_eq_getElem?_getD, List.getElem?_eq_none (by omega)]; rfl
      rw [this]; simp only [Dom]
  · obtain ⟨i, hi, rfl⟩ := hg r hr
    obtain ⟨j, hj, e⟩ := List.getElem_of_mem hx
    have := ((h i hi).2.2 j hj).1
    rwa [getD_get hj, e] at this
theorem FillOk.row {T : List (List Int)} (h : FillOk T) {i : Nat} (hi : i < T.length) : RowOk T i := by
  have hm : T.getD i [] ∈ T := by rw [getD_get hi]; exact List.getElem_mem hi
  refine ⟨fun e => h.1.ne _ hm (List.eq_nil_of_length_eq_zero e), fun h0 => ?_, fun j hj => ⟨?_, fun h0 => ?_, fun h0 => ?_⟩⟩
  · have := dom_len (h.1.dom (i - 1))
    rwa [show i - 1 + 1 = i by omega] at this
  · exact h.2.1 _ hm _ (by rw [getD_get hj]; exact List.getElem_mem hj)
  · obtain ⟨a, ha, hle⟩ := up_at (i := j - 1) (h.1.upD i) (b := (T.getD i []).getD j 0) (by rw [show j - 1 + 1 = j by omega]; exact getD_some hj)
    rw [(some_getD ha).2]; exact hle
  · have hd := h.1.dom (i - 1)
    rw [show i - 1 + 1 = i by omega] at hd
    obtain ⟨a, ha, hlt⟩ := dom_at hd (getD_some hj)
    rw [(some_getD ha).2]; exact hlt
theorem FillOk.small {T : List (List Int)} (h : FillOk T) : T.length ≤ 40 ∧ ∀ i, (T.getD i []).length ≤ 40 := by
  have h1 : ∀ (U : List (List Int)), (∀ r ∈ U, r ≠ []) → U.length ≤ boxes U := fun U => by
    induction U with
    | nil => intro _; simp
    | cons r t ih =>
      intro hu
      have := ih (fun s hs => hu s (List.mem_cons_of_mem _ hs))
      have h2 : r.length ≠ 0 := fun e => hu r (by simp) (List.eq_nil_of_length_eq_zero e)
      rw [boxes_cons]; simp; omega
  have h3 := h.2.2
  have h4 := h1 T h.1.ne
  refine ⟨by omega, fun i => ?_⟩
  by_cases hi : i < T.length
  · have h5 := boxes_take hi
    have h6 := boxes_le (T := T) (i + 1)
    omega
  · rw [List.getD_eq_getElem?_getD, List.getElem?_eq_none (by omega)]; simp
end Go.Proofs.YtpmkdihencepnaaGreat

/-
  Few rows of a call's own; partitions of few boxes.
-/
namespace Go.Proofs.YtpmkdihencepnaaGreat
open Go.RowKit

/-- Few rows, and short ones. -/
def Sm (rows : List (List Int)) : Prop := rows.length ≤ 1000000 ∧ ∀ i, (rows.getD i []).length ≤ 1000000
theorem Sm.nil : Sm [] := ⟨by simp, fun i => by simp⟩
theorem Sm.snoc {rows : List (List Int)} {l : List Int} (h : ∀ i, (rows.getD i []).length ≤ 1000000) (hl : l.length ≤ 1000000) : ∀ i, ((rows ++ [l]).getD i []).length ≤ 1000000 := fun i => by
  rw [List.getD_eq_getElem?_getD]
  by_cases e : i < rows.length
  · rw [List.getElem?_append_left e, ← List.getD_eq_getElem?_getD]; exact h i
  · by_cases e2 : i = rows.length
    · rw [e2, List.getElem?_append_right (Nat.le_refl _), Nat.sub_self]; exact hl
    · rw [List.getElem?_eq_none (by simp; omega)]; simp
theorem told_bad {R : List (List Int) → Prop} (B : Nat) (w : World) (k : Int) (h : R []) : Told R B (.returned (.tuple #[.slice none 0 0, .int .i64 k])) w := ⟨[], none, 0, k, rfl, OwnR.nil _ _, h⟩
theorem told_own {R : List (List Int) → Prop} {w : World} {B : Nat} {v : Value} {hs : List Value} {rows : List (List Int)} (h : OwnM w B v hs rows) (k : Int) (hR : R rows) : Told R B (.returned (.tuple #[v, .int .i64 k])) w := by
  obtain ⟨A, c, rfl, h1, _, _⟩ := h.ownR
  exact ⟨rows, A, c, k, rfl, h1, hR⟩
theorem IsPart.el {p : List Int} (h : IsPart p) (hs : p.sum ≤ 40) {i : Nat} (hi : i < p.length) : 1 ≤ p.getD i 0 ∧ p.getD i 0 ≤ 40 := by
  have h1 := h.1 i hi
  have h2 := mem_le_sum (p := p) (fun x hx => by
    obtain ⟨j, hj, rfl⟩ := List.getElem_of_mem hx
    have := h.1 j hj
    rw [getD_get hj] at this; exact this) (p.getD i 0) (by rw [getD_get hi]; exact List.getElem_mem hi)
  omega
/-- A row behind others, of the walk's own. -/
theorem OwnM.push1 {w w2 w5 : World} {B : Nat} {v u : Value} {hs : List Value} {rows : List (List Int)} {l : List Int} (h : OwnM w B v hs rows) (hb2 : Below w.heap.size w w2) (hB : B ≤ w.heap.size) (hu : w2.ownsRow w.heap.size 3 1 u l.length (ints l)) {g c n : Nat} (hn : n = rows.length)
    (ho : w5.ownsRow B 22 1 (.slice (some ⟨g, 0, none⟩) (n + 1) c) (n + 1) (hs ++ [u])) (hg : (w2.alloc (.cells #[u] 22)).grownBy w5 v.ownBlock) (hat : v.ownBlock = some g ∨ g = w2.heap.size + 1) :
    OwnM w5 B (.slice (some ⟨g, 0, none⟩) (n + 1) c) (hs ++ [u]) (rows ++ [l]) := by
  have hf := h.far_new (u := u) (fun k hk => (hu.lt k hk).1)
  exact ((h.below hb2).alloc (.cells #[u] 22)).push (u := u) (l := l) ((hu.mono hB).alloc _) hf.1 hf.2 (by rw [hn]) ho hg (by simpa using hat)
end Go.Proofs.YtpmkdihencepnaaGreat

/-
  Plain: the shapes with k boxes more, no two in one column, as rule.strips lists them.
-/
namespace Go.Proofs.YtpmkdihencepnaaGreat

/-- What stands in place i at first. -/
def wasS (p : List Int) (i : Nat) : Int := (p ++ [0]).getD i 0
/-- How many boxes a row may take at most. -/
def mostS (p : List Int) (i left : Nat) : Nat := if i = 0 then left else min left (p.getD (i - 1) 0 - wasS p i).toNat
def trimS (q : List Int) : List Int := if q.getD (q.length - 1) 0 = 0 then q.take (q.length - 1) else q
/-- The shapes: f places are left, the first i ones are chosen. -/
def stR (p : List Int) : Nat → Nat → List Int → Nat → List (List Int)
  | 0, _, q, left => if left = 0 then [trimS q] else []
  | f + 1, i, q, left => ((List.range (mostS p i left + 1)).reverse).flatMap (fun n : Nat => stR p f (i + 1) (q.set i (wasS p i + (n : Int))) (left - n))
/-- So far: n and more have been tried. -/
def accR (p : List Int) (f i : Nat) (q : List Int) (left n : Nat) : List (List Int) :=
  (((List.range (mostS p i left + 1)).reverse).take (mostS p i left + 1 - n)).flatMap (fun n : Nat => stR p f (i + 1) (q.set i (wasS p i + (n : Int))) (left - n))
theorem accR_top (p : List Int) (f i : Nat) (q : List Int) (left : Nat) : accR p f i q left (mostS p i left + 1) = [] := by simp [accR]
theorem accR_all (p : List Int) (f i : Nat) (q : List Int) (left : Nat) : accR p f i q left 0 = stR p (f + 1) i q left := by
  unfold accR
  rw [List.take_of_length_le (by simp)]
  rfl
theorem accR_step {p : List Int} {f i left n : Nat} {q : List Int} (h : n ≤ mostS p i left) : accR p f i q left n = accR p f i q left (n + 1) ++ stR p f (i + 1) (q.set i (wasS p i + (n : Int))) (left - n) := by
  unfold accR
  have e : mostS p i left + 1 - n = (mostS p i left + 1 - (n + 1)) + 1 := by omega
  have hl : mostS p i left + 1 - (n + 1) < ((List.range (mostS p i left + 1)).reverse).length := by simp; omega
  rw [e, List.take_succ_eq_append_getElem hl, List.flatMap_append]
  have e2 : ((List.range (mostS p i left + 1)).reverse)[mostS p i left + 1 - (n + 1)] = n := by
    rw [List.getElem_reverse, List.getElem_range]; simp; omega
  rw [e2]; simp
theorem accR_le (p : List Int) (f i : Nat) (q : List Int) (left n : Nat) : (accR p f i q left n).length ≤ (stR p (f + 1) i q left).length := by
  rw [← accR_all]
  unfold accR
  have h := List.take_append_drop (mostS p i left + 1 - n) ((List.range (mostS p i left + 1)).reverse)
  conv => rhs; rw [List.take_of_length_le (show ((List.range (mostS p i left + 1)).reverse).length ≤ mostS p i left + 1 - 0 by simp), ← h]
  rw [List.flatMap_append, List.length_append]
  exact Nat.le_add_right _ _
theorem mostS_le (p : List Int) (i left : Nat) : mostS p i left ≤ left := by
  unfold mostS
  split <;> omega
theorem stR_len (p : List Int) : ∀ (f i : Nat) (q : List Int) (left : Nat), (stR p f i q left).length ≤ 2 ^ (left + f)
  | 0, i, q, left => by
    have : 0 < 2 ^ left := Nat.two_pow_pos _
    unfold stR
    rw [Nat.add_zero]
    split <;> simp <;> omega
  | f + 1, i, q, left => by
    have key : ∀ m, m ≤ left + 1 → (((List.range m).reverse).flatMap (fun n : Nat => stR p f (i + 1) (q.set i (wasS p i + (n : Int))) (left - n))).length + 2 ^ (left + 1 - m + f) ≤ 2 ^ (left + 1 + f) := by
      intro m
      induction m with
      | zero => intro _; simp
      | succ m ih =>
        intro hm
        have h1 := ih (by omega)
        rw [List.range_succ, List.reverse_append, List.reverse_singleton, List.flatMap_append, List.length_append]
        have h2 := stR_len p f (i + 1) (q.set i (wasS p i + (m : Int))) (left - m)
        have e1 : left + 1 - m + f = (left - m + f) + 1 := by omega
        have e2 : left + 1 - (m + 1) + f = left - m + f := by omega
        rw [e1, Nat.pow_succ] at h1
        rw [e2]
        have h4 : ([m].flatMap (fun n : Nat => stR p f (i + 1) (q.set i (wasS p i + (n : Int))) (left - n))).length ≤ 2 ^ (left - m + f) := by simpa using h2
        omega
    have h3 := key (mostS p i left + 1) (by have := mostS_le p i left; omega)
    have e : left + (f + 1) = left + 1 + f := by omega
    rw [e]
    exact Nat.le_trans (Nat.le_add_right _ _) h3
theorem stR_row (p : List Int) : ∀ (f i : Nat) (q : List Int) (left : Nat), ∀ r ∈ stR p f i q left, r.length ≤ q.length
  | 0, i, q, left, r, h => by
    unfold stR at h
    split at h
    · simp at h
      rw [h]
      unfold trimS
      split
      · simp
      · exact Nat.le_refl _
    · cases h
  | f + 1, i, q, left, r, h => by
    obtain ⟨n, _, h2⟩ := List.mem_flatMap.1 h
    have := stR_row p f (i + 1) _ _ r h2
    simpa using this
end Go.Proofs.YtpmkdihencepnaaGreat
