/- Part of the proof. -/
import Derived.Shelf.SlSortCmp.NoneTotal
import Derived.Ground.SlsfProg
import Derived.Lib.OwnBridge
import Derived.Lib.AppendIntMem
import Derived.OwnWalk
import Derived.Test.YtpmkdihencepnaaGreatDoorMk01
import Derived.Test.YtpmkdihencepnaaGreatDoorMk02
set_option maxHeartbeats 16000000
namespace Go.Proofs.YtpmkdihencepnaaGreatDoor
section
def cword : List (List Int) → List Int
 | [] => []
 | c :: cs => c.reverse ++ cword cs
def Dn (s : List Int) : Prop := s.Pairwise (· < ·)
theorem Dn.tail {a : Int} {s : List Int} (h : Dn (a :: s)) : Dn s := (List.pairwise_cons.1 h).2
theorem Dn.head {a : Int} {s : List Int} (h : Dn (a :: s)) : ∀ x ∈ s, a < x := (List.pairwise_cons.1 h).1
def CDom : List Int → List Int → Prop
 | _, [] => True
 | [], _ :: _ => False
 | a :: r, b :: s => a ≤ b ∧ CDom r s
def CTab : List (List Int) → Prop
 | [] => True
 | r :: t => r ≠ [] ∧ Dn r ∧ CDom r (t.headD []) ∧ CTab t
theorem CTab.dn : ∀ {T : List (List Int)}, CTab T → ∀ r ∈ T, Dn r
 | [], _ => fun r hr => by simp at hr
 | s :: t, h => fun r hr => by
  rcases List.mem_cons.1 hr with e | e
  · rw [e]; exact h.2.1
  · exact h.2.2.2.dn r e
theorem CTab.ne : ∀ {T : List (List Int)}, CTab T → ∀ r ∈ T, r ≠ []
 | [], _ => fun r hr => by simp at hr
 | s :: t, h => fun r hr => by
  rcases List.mem_cons.1 hr with e | e
  · rw [e]; exact h.1
  · exact h.2.2.2.ne r e
def addCol : List (List Int) → List Int → List (List Int)
 | U, [] => U
 | [], b :: c => [b] :: addCol [] c
 | s :: U, b :: c => (s ++ [b]) :: addCol U c
def ColOk : List (List Int) → List Int → Prop
 | _, [] => True
 | [], _ :: _ => True
 | s :: U, b :: c => (∀ x ∈ s, x ≤ b) ∧ ColOk U c
theorem ColOk.nil (c : List Int) : ColOk [] c := by cases c <;> simp only [ColOk]
theorem ColOk.dom : ∀ {U : List (List Int)} {d c : List Int}, ColOk U d → CDom d c → ColOk U c
 | _, _, [], _, _ => by simp only [ColOk]
 | [], _, _ :: _, _, _ => by simp only [ColOk]
 | _ :: _, [], _ :: _, _, h => h.elim
 | s :: U, a :: d, b :: c, h, h' => ⟨fun x hx => by have := h.1 x hx; have := h'.1; omega, h.2.dom h'.2⟩
theorem ColOk.add : ∀ {U : List (List Int)} {c : List Int}, ColOk U c → ColOk (addCol U c) c
 | _, [], _ => by simp only [ColOk]
 | [], b :: c, _ => ⟨fun x hx => by simp at hx; omega, (ColOk.nil c).add⟩
 | s :: U, b :: c, h => ⟨fun x hx => by
  rcases List.mem_append.1 hx with e | e
  · exact h.1 x e
  · simp at e; omega, h.2.add⟩
theorem push1_snoc {s : List Int} {b b2 : Int} (h : ∀ x ∈ s, x ≤ b) (hb : b < b2) : push1 (s ++ [b2]) b = (s ++ [b], some b2) := by
 induction s with
 | nil => simp only [List.nil_append]; rw [push1_lt hb]
 | cons a s ih =>
  simp only [List.cons_append]
  rw [push1_ge (h a (by simp)), ih (fun x hx => h x (List.mem_cons_of_mem _ hx))]
theorem push1_end {s : List Int} {b : Int} (h : ∀ x ∈ s, x ≤ b) : push1 s b = (s ++ [b], none) := by
 induction s with
 | nil => rfl
 | cons a s ih => rw [push1_ge (h a (by simp)), ih (fun x hx => h x (List.mem_cons_of_mem _ hx))]; rfl
theorem pushW_col : ∀ (c : List Int) {s : List Int} {b : Int}, Dn (b :: c) → (∀ x ∈ s, x ≤ b) → pushW s (b :: c).reverse = (s ++ [b], c.reverse)
 | [], s, b, _, hs => by simp [pushW, push1_end hs]
 | b2 :: c, s, b, h, hs => by
  have hb := h.head b2 (by simp)
  have ih := pushW_col c h.tail (s := s) (fun x hx => by have := hs x hx; omega)
  rw [List.reverse_cons, pushW_append, ih]
  simp only [pushW]
  rw [push1_snoc hs hb]
  simp
theorem insW_ne {w : List Int} (h : w ≠ []) : insW [] w = (pushW [] w).1 :: insW [] (pushW [] w).2 := by
 cases w with
 | nil => exact absurd rfl h
 | cons x w => exact insW_nil x w
theorem insW_col : ∀ (c : List Int) {U : List (List Int)}, Dn c → ColOk U c → insW U c.reverse = addCol U c
 | [], U, _, _ => by simp only [addCol]; rfl
 | b :: c, [], h, _ => by
  rw [insW_ne (by simp), pushW_col c h (fun x hx => by simp at hx)]
  simp only [addCol, List.nil_append]
  rw [insW_col c h.tail (ColOk.nil c)]
 | b :: c, s :: U, h, hc => by
  rw [insW_cons, pushW_col c h hc.1]
  simp only [addCol]
  rw [insW_col c h.tail hc.2]
def fillC (U cs : List (List Int)) : List (List Int) := cs.foldl addCol U
theorem insW_cols : ∀ (cs : List (List Int)) {U : List (List Int)}, CTab cs → ColOk U (cs.headD []) → insW U (cword cs) = fillC U cs
 | [], _, _, _ => rfl
 | c :: cs, U, h, hc => by
  obtain ⟨_, h2, h3, h4⟩ := h
  simp only [cword]
  have hc' : ColOk U c := hc
  rw [insW_append, insW_col c h2 hc', insW_cols cs h4 (hc'.add.dom h3)]
  rfl
structure Rep (T cs : List (List Int)) : Prop where
 ent : ∀ i j, (T.getD i [])[j]? = (cs.getD j [])[i]?
 row : ∀ r ∈ T, r ≠ []
 col : ∀ c ∈ cs, c ≠ []
theorem Rep.symm {T cs : List (List Int)} (h : Rep T cs) : Rep cs T := ⟨fun i j => (h.ent j i).symm, h.col, h.row⟩
theorem Rep.height {T cs : List (List Int)} (h : Rep T cs) : T.length = (cs.getD 0 []).length := by
 have key : ∀ i, i < T.length ↔ i < (cs.getD 0 []).length := fun i => by
  have e := h.ent i 0
  constructor
  · intro hi
    have h0 : T.getD i [] = T[i] := by rw [List.getD_eq_getElem?_getD, List.getElem?_eq_getElem hi]; rfl
    have h1 := h.row _ (List.getElem_mem hi)
    rw [h0] at e
    apply Classical.byContradiction
    intro hn
    rw [List.getElem?_eq_none (l := cs.getD 0 []) (by omega)] at e
    have h2 : (T[i]).length ≤ 0 := List.getElem?_eq_none_iff.1 e
    exact h1 (List.eq_nil_of_length_eq_zero (by omega))
  · intro hi
    apply Classical.byContradiction
    intro hn
    have h0 : T.getD i [] = [] := by rw [List.getD_eq_getElem?_getD, List.getElem?_eq_none (by omega)]; rfl
    rw [h0, List.getElem?_eq_getElem hi] at e
    simp at e
 have h1 := key T.length
 have h2 := key (cs.getD 0 []).length
 omega
theorem Rep.uniq {T T' cs : List (List Int)} (h : Rep T cs) (h' : Rep T' cs) : T = T' := by
 apply List.ext_getElem (h.height.trans h'.height.symm)
 intro i h1 h2
 apply List.ext_getElem?
 intro j
 have e1 := h.ent i j
 have e2 := h'.ent i j
 have g1 : T.getD i [] = T[i] := by rw [List.getD_eq_getElem?_getD, List.getElem?_eq_getElem h1]; rfl
 have g2 : T'.getD i [] = T'[i] := by rw [List.getD_eq_getElem?_getD, List.getElem?_eq_getElem h2]; rfl
 rw [g1] at e1
 rw [g2] at e2
 rw [e1, e2]
theorem addCol_getD : ∀ (U : List (List Int)) (c : List Int) (i : Nat), (addCol U c).getD i [] = U.getD i [] ++ (c[i]?).toList
 | U, [], i => by simp [addCol]
 | [], b :: c, 0 => by simp [addCol]
 | [], b :: c, i + 1 => by
  have := addCol_getD [] c i
  simp only [addCol]
  simpa using this
 | s :: U, b :: c, 0 => by simp [addCol]
 | s :: U, b :: c, i + 1 => by
  have := addCol_getD U c i
  simp only [addCol]
  simpa using this
theorem addCol_ne : ∀ (U : List (List Int)) (c : List Int), (∀ r ∈ U, r ≠ []) → ∀ r ∈ addCol U c, r ≠ []
 | U, [], h => by simpa [addCol] using h
 | [], b :: c, h => fun r hr => by
  simp only [addCol] at hr
  rcases List.mem_cons.1 hr with e | e
  · rw [e]; simp
  · exact addCol_ne [] c h r e
 | s :: U, b :: c, h => fun r hr => by
  simp only [addCol] at hr
  rcases List.mem_cons.1 hr with e | e
  · rw [e]; simp
  · exact addCol_ne U c (fun r hr => h r (List.mem_cons_of_mem _ hr)) r e
theorem Rep.add {U ds : List (List Int)} (h : Rep U ds) {c : List Int} (hc : c ≠ []) (hl : ∀ d ∈ ds, c.length ≤ d.length) : Rep (addCol U c) (ds ++ [c]) := by
 refine ⟨fun i j => ?_, addCol_ne U c h.row, fun d hd => ?_⟩
 · rw [addCol_getD]
   by_cases ci : i < c.length
   · have hul : (U.getD i []).length = ds.length := by
      have k1 : ∀ j, j < (U.getD i []).length ↔ j < ds.length := fun j => by
       have e := h.ent i j
       constructor
       · intro hj
         apply Classical.byContradiction
         intro hn
         have h0 : ds.getD j [] = [] := by rw [List.getD_eq_getElem?_getD, List.getElem?_eq_none (by omega)]; rfl
         rw [h0, List.getElem?_eq_getElem hj] at e
         simp at e
       · intro hj
         have h0 : ds.getD j [] = ds[j] := by rw [List.getD_eq_getElem?_getD, List.getElem?_eq_getElem hj]; rfl
         have h1 := hl _ (List.getElem_mem hj)
         apply Classical.byContradiction
         intro hn
         rw [h0, List.getElem?_eq_none (by omega), List.getElem?_eq_getElem (by omega)] at e
         simp at e
      have := k1 ds.length
      have := k1 (U.getD i []).length
      omega
     rw [List.getElem?_eq_getElem ci]
     simp only [Option.toList]
     by_cases cj : j < ds.length
     · rw [List.getElem?_append_left (by omega), h.ent i j, List.getD_eq_getElem?_getD, List.getD_eq_getElem?_getD, List.getElem?_append_left cj]
     · rw [List.getElem?_append_right (by omega), hul, List.getD_eq_getElem?_getD, List.getElem?_append_right (by omega)]
       by_cases e : j = ds.length
       · subst e; simp [ci]
       · rw [List.getElem?_eq_none (l := [c[i]]) (by simp; omega), List.getElem?_eq_none (l := [c]) (by simp; omega)]; rfl
   · rw [List.getElem?_eq_none (l := c) (by omega)]
     simp only [Option.toList, List.append_nil]
     rw [h.ent i j, List.getD_eq_getElem?_getD, List.getD_eq_getElem?_getD]
     by_cases cj : j < ds.length
     · rw [List.getElem?_append_left cj]
     · rw [List.getElem?_eq_none (l := ds) (by omega), List.getElem?_append_right (by omega)]
       by_cases e : j = ds.length
       · subst e; simp; omega
       · rw [List.getElem?_eq_none (l := [c]) (by simp; omega)]
 · rcases List.mem_append.1 hd with e | e
   · exact h.col d e
   · simp at e; rw [e]; exact hc
theorem Rep.fill : ∀ (cs : List (List Int)) {U ds : List (List Int)}, Rep U ds → (∀ c ∈ cs, c ≠ []) → (ds ++ cs).Pairwise (fun d c => c.length ≤ d.length) → Rep (fillC U cs) (ds ++ cs)
 | [], U, ds, h, _, _ => by simpa [fillC] using h
 | c :: cs, U, ds, h, hc, hp => by
  have h1 := h.add (hc c (by simp)) (fun d hd => (List.pairwise_append.1 hp).2.2 d hd c (by simp))
  have h2 := Rep.fill cs h1 (fun d hd => hc d (List.mem_cons_of_mem _ hd)) (by simpa using hp)
  have e : fillC U (c :: cs) = fillC (addCol U c) cs := rfl
  rw [e]
  simpa using h2
theorem Rep.nil : Rep [] [] := ⟨fun i j => by simp, fun r hr => by simp at hr, fun r hr => by simp at hr⟩
theorem cdom_len : ∀ {c d : List Int}, CDom c d → d.length ≤ c.length
 | _, [], _ => by simp
 | [], _ :: _, h => h.elim
 | a :: c, b :: d, h => by have := cdom_len h.2; simp; omega
theorem dom_len : ∀ {c d : List Int}, Dom c d → d.length ≤ c.length
 | _, [], _ => by simp
 | [], _ :: _, h => h.elim
 | a :: c, b :: d, h => by have := dom_len h.2; simp; omega
theorem CTab.lens : ∀ {cs : List (List Int)}, CTab cs → cs.Pairwise (fun d c => c.length ≤ d.length) ∧ ∀ c ∈ cs, c.length ≤ (cs.headD []).length
 | [], _ => ⟨List.Pairwise.nil, fun c hc => by simp at hc⟩
 | c :: cs, h => by
  obtain ⟨_, _, h3, h4⟩ := h
  have h5 := cdom_len h3
  have ih := h4.lens
  have h6 : ∀ d ∈ cs, d.length ≤ c.length := fun d hd => by have := ih.2 d hd; omega
  refine ⟨List.pairwise_cons.2 ⟨h6, ih.1⟩, fun d hd => ?_⟩
  rcases List.mem_cons.1 hd with e | e
  · rw [e]; simp
  · simpa using h6 d e
theorem Tab.lens : ∀ {cs : List (List Int)}, Tab cs → cs.Pairwise (fun d c => c.length ≤ d.length) ∧ ∀ c ∈ cs, c.length ≤ (cs.headD []).length
 | [], _ => ⟨List.Pairwise.nil, fun c hc => by simp at hc⟩
 | c :: cs, h => by
  obtain ⟨_, _, h3, h4⟩ := h
  have h5 := dom_len h3
  have ih := h4.lens
  have h6 : ∀ d ∈ cs, d.length ≤ c.length := fun d hd => by have := ih.2 d hd; omega
  refine ⟨List.pairwise_cons.2 ⟨h6, ih.1⟩, fun d hd => ?_⟩
  rcases List.mem_cons.1 hd with e | e
  · rw [e]; simp
  · simpa using h6 d e
theorem Tab.ne : ∀ {T : List (List Int)}, Tab T → ∀ r ∈ T, r ≠ []
 | [], _ => fun r hr => by simp at hr
 | s :: t, h => fun r hr => by
  rcases List.mem_cons.1 hr with e | e
  · rw [e]; exact h.1
  · exact h.2.2.2.ne r e
theorem Rep.made {T cs : List (List Int)} (h : Rep T cs) (hc : CTab cs) : T = insW [] (cword cs) := by
 have h1 := Rep.fill cs Rep.nil hc.ne (by simpa using hc.lens.1)
 rw [insW_cols cs hc (ColOk.nil _)]
 exact h.uniq (by simpa using h1)
theorem cdom_of : ∀ {c d : List Int}, (∀ (i : Nat) b, d[i]? = some b → ∃ a, c[i]? = some a ∧ a ≤ b) → CDom c d
 | _, [], _ => by simp only [CDom]
 | [], b :: d, h => by
  obtain ⟨a, ha, _⟩ := h 0 b rfl
  simp at ha
 | a :: c, b :: d, h => by
  obtain ⟨a', ha, hb⟩ := h 0 b rfl
  obtain rfl : a = a' := by simpa using ha
  exact ⟨hb, cdom_of (fun i b hb => by simpa using h (i + 1) b (by simpa using hb))⟩
theorem dom_of : ∀ {c d : List Int}, (∀ (i : Nat) b, d[i]? = some b → ∃ a, c[i]? = some a ∧ a < b) → Dom c d
 | _, [], _ => by simp only [Dom]
 | [], b :: d, h => by
  obtain ⟨a, ha, _⟩ := h 0 b rfl
  simp at ha
 | a :: c, b :: d, h => by
  obtain ⟨a', ha, hb⟩ := h 0 b rfl
  obtain rfl : a = a' := by simpa using ha
  exact ⟨hb, dom_of (fun i b hb => by simpa using h (i + 1) b (by simpa using hb))⟩
theorem dom_at : ∀ {c d : List Int} {i : Nat} {b : Int}, Dom c d → d[i]? = some b → ∃ a, c[i]? = some a ∧ a < b
 | _, [], _, _, _, e => by simp at e
 | [], _ :: _, _, _, h, _ => h.elim
 | a :: c, b :: d, 0, b', h, e => by
  have e' : b = b' := by simpa using e
  exact ⟨a, rfl, by rw [← e']; exact h.1⟩
 | a :: c, b :: d, i + 1, b', h, e => by simpa using dom_at (i := i) h.2 (by simpa using e)
theorem dn_of : ∀ {c : List Int}, (∀ (i : Nat) a b, c[i]? = some a → c[i + 1]? = some b → a < b) → Dn c
 | [], _ => List.Pairwise.nil
 | [a], _ => List.pairwise_singleton _ _
 | a :: b :: c, h => by
  have ih := dn_of (c := b :: c) (fun i x y hx hy => h (i + 1) x y (by simpa using hx) (by simpa using hy))
  have hab := h 0 a b rfl rfl
  refine List.pairwise_cons.2 ⟨fun x hx => ?_, ih⟩
  rcases List.mem_cons.1 hx with e | e
  · rw [e]; exact hab
  · have := ih.head x e; omega
theorem up_of : ∀ {c : List Int}, (∀ (i : Nat) a b, c[i]? = some a → c[i + 1]? = some b → a ≤ b) → Up c
 | [], _ => List.Pairwise.nil
 | [a], _ => List.pairwise_singleton _ _
 | a :: b :: c, h => by
  have ih := up_of (c := b :: c) (fun i x y hx hy => h (i + 1) x y (by simpa using hx) (by simpa using hy))
  have hab := h 0 a b rfl rfl
  refine List.pairwise_cons.2 ⟨fun x hx => ?_, ih⟩
  rcases List.mem_cons.1 hx with e | e
  · rw [e]; exact hab
  · have := ih.head x e; omega
theorem up_at : ∀ {c : List Int} {i : Nat} {b : Int}, Up c → c[i + 1]? = some b → ∃ a, c[i]? = some a ∧ a ≤ b
 | [], _, _, _, e => by simp at e
 | a :: c, 0, b, h, e => ⟨a, rfl, h.head b (List.mem_of_getElem? (by simpa using e))⟩
 | a :: c, i + 1, b, h, e => by simpa using up_at (i := i) h.tail (by simpa using e)
theorem ctab_of : ∀ {cs : List (List Int)}, (∀ c ∈ cs, c ≠ [] ∧ Dn c) → (∀ j, CDom (cs.getD j []) (cs.getD (j + 1) [])) → CTab cs
 | [], _, _ => trivial
 | c :: cs, h, hd => by
  have h0 := h c (by simp)
  have hd0 := hd 0
  refine ⟨h0.1, h0.2, ?_, ctab_of (fun d hd => h d (List.mem_cons_of_mem _ hd)) (fun j => by simpa using hd (j + 1))⟩
  cases cs with
  | nil => simp only [List.headD, CDom]
  | cons d cs => simpa using hd0
theorem tab_of : ∀ {cs : List (List Int)}, (∀ c ∈ cs, c ≠ [] ∧ Up c) → (∀ j, Dom (cs.getD j []) (cs.getD (j + 1) [])) → Tab cs
 | [], _, _ => trivial
 | c :: cs, h, hd => by
  have h0 := h c (by simp)
  have hd0 := hd 0
  refine ⟨h0.1, h0.2, ?_, tab_of (fun d hd => h d (List.mem_cons_of_mem _ hd)) (fun j => by simpa using hd (j + 1))⟩
  cases cs with
  | nil => simp only [List.headD, Dom]
  | cons d cs => simpa using hd0
theorem Tab.dom : ∀ {T : List (List Int)}, Tab T → ∀ i, Dom (T.getD i []) (T.getD (i + 1) [])
 | [], _, _ => by simp [Dom]
 | [r], _, 0 => by simp [Dom]
 | r :: s :: t, h, 0 => by simpa using h.2.2.1
 | r :: t, h, i + 1 => by
  have := h.2.2.2.dom i
  simpa using this
theorem Tab.upD {T : List (List Int)} (h : Tab T) (i : Nat) : Up (T.getD i []) := by
 rw [List.getD_eq_getElem?_getD]
 cases e : T[i]? with
 | none => exact List.Pairwise.nil
 | some r => exact h.up r (List.mem_of_getElem? e)
theorem Tab.cols {T : List (List Int)} (h : Tab T) : ∃ cs, Rep T cs ∧ CTab cs := by
 have h1 := Rep.fill T Rep.nil h.ne (by simpa using h.lens.1)
 have hr : Rep T (fillC [] T) := by simpa using h1.symm
 refine ⟨fillC [] T, hr, ctab_of (fun c hc => ⟨hr.col c hc, ?_⟩) (fun j => cdom_of (fun i b hb => ?_))⟩
 · obtain ⟨j, hj, e⟩ := List.getElem_of_mem hc
   have g : (fillC [] T).getD j [] = c := by rw [List.getD_eq_getElem?_getD, List.getElem?_eq_getElem hj, e]; rfl
   refine dn_of (fun i a b ha hb => ?_)
   rw [← g, ← hr.ent] at ha hb
   obtain ⟨a', ha', hlt⟩ := dom_at (h.dom i) hb
   rw [ha] at ha'
   obtain rfl : a = a' := by simpa using ha'
   exact hlt
 · rw [← hr.ent] at hb
   obtain ⟨a, ha, hle⟩ := up_at (h.upD i) hb
   exact ⟨a, by rw [← hr.ent]; exact ha, hle⟩
def boxes (T : List (List Int)) : Nat := (T.map List.length).sum
theorem boxes_nil : boxes [] = 0 := rfl
theorem boxes_cons (r : List Int) (T : List (List Int)) : boxes (r :: T) = r.length + boxes T := by simp [boxes]
theorem boxes_append (T U : List (List Int)) : boxes (T ++ U) = boxes T + boxes U := by simp [boxes]
theorem boxes_take {T : List (List Int)} {i : Nat} (h : i < T.length) : boxes (T.take (i + 1)) = boxes (T.take i) + (T.getD i []).length := by
 rw [take_snoc h, boxes_append, getD_get h, boxes_cons, boxes_nil]; omega
theorem boxes_le {T : List (List Int)} (i : Nat) : boxes (T.take i) ≤ boxes T := by
 have : boxes T = boxes (T.take i) + boxes (T.drop i) := by rw [← boxes_append, List.take_append_drop]
 omega
theorem boxes_word : ∀ (T : List (List Int)), boxes T = (rword T).length
 | [] => rfl
 | r :: t => by rw [boxes_cons]; simp only [rword, List.length_append]; rw [boxes_word t]; omega
theorem rword_mem : ∀ {T : List (List Int)} {x : Int}, x ∈ rword T ↔ ∃ r ∈ T, x ∈ r
 | [], x => by simp [rword]
 | r :: t, x => by
  simp only [rword, List.mem_append]
  rw [rword_mem]; simp [or_comm]
theorem Kn.mem {a b : List Int} (h : Kn a b) (x : Int) : x ∈ a ↔ x ∈ b := by
 induction h with
 | refl w => rfl
 | step u v k => cases k <;> (simp; try omega) <;> (constructor <;> intro h <;> rcases h with h | h | h | h | h <;> simp [h])
 | symm _ ih => exact ih.symm
 | trans _ _ ih1 ih2 => exact ih1.trans ih2
def Lt (x : Int) : Prop := 1 ≤ x ∧ x ≤ 99
def FillOk (T : List (List Int)) : Prop := Tab T ∧ (∀ r ∈ T, ∀ x ∈ r, Lt x) ∧ boxes T ≤ 40
theorem fill_word {w : List Int} (hl : w.length ≤ 40) (h : ∀ x ∈ w, Lt x) : FillOk (insW [] w) ∧ boxes (insW [] w) = w.length := by
 have hk := insW_word w (T := []) (fun r hr => by simp at hr)
 simp only [rword, List.nil_append] at hk
 have hb : boxes (insW [] w) = w.length := by rw [boxes_word, ← hk.len]
 refine ⟨⟨insW_tab w trivial, fun r hr x hx => ?_, by omega⟩, hb⟩
 exact h x ((hk.mem x).2 (rword_mem.2 ⟨r, hr, hx⟩))
def BoxOk (T : List (List Int)) (i j : Nat) : Prop :=
 Lt ((T.getD i []).getD j 0) ∧ (0 < j → (T.getD i []).getD (j - 1) 0 ≤ (T.getD i []).getD j 0) ∧ (0 < i → (T.getD (i - 1) []).getD j 0 < (T.getD i []).getD j 0)
def RowOk (T : List (List Int)) (i : Nat) : Prop :=
 (T.getD i []).length ≠ 0 ∧ (0 < i → (T.getD i []).length ≤ (T.getD (i - 1) []).length) ∧ ∀ j, j < (T.getD i []).length → BoxOk T i j
theorem some_getD {l : List Int} {j : Nat} {x : Int} (h : l[j]? = some x) : j < l.length ∧ l.getD j 0 = x := by
 obtain ⟨h1, h2⟩ := List.getElem?_eq_some_iff.1 h
 exact ⟨h1, by rw [getD_get h1]; exact h2⟩
theorem getD_some {l : List Int} {j : Nat} (h : j < l.length) : l[j]? = some (l.getD j 0) := by rw [getD_get h]; exact List.getElem?_eq_getElem h
theorem fill_of {T : List (List Int)} (hb : boxes T ≤ 40) (h : ∀ i, i < T.length → RowOk T i) : FillOk T := by
 have hg : ∀ r ∈ T, ∃ i, i < T.length ∧ T.getD i [] = r := fun r hr => by
  obtain ⟨i, hi, e⟩ := List.getElem_of_mem hr
  exact ⟨i, hi, by rw [getD_get hi]; exact e⟩
 refine ⟨tab_of (fun r hr => ?_) (fun i => ?_), fun r hr x hx => ?_, hb⟩
 · obtain ⟨i, hi, rfl⟩ := hg r hr
   have hr := h i hi
   refine ⟨fun e => hr.1 (by rw [e]; rfl), up_of (fun j a b ha hb => ?_)⟩
   obtain ⟨_, ea⟩ := some_getD ha
   obtain ⟨hl, eb⟩ := some_getD hb
   have := (hr.2.2 (j + 1) hl).2.1 (by omega)
   rw [Nat.add_sub_cancel, ea, eb] at this
   exact this
 · by_cases hi : i + 1 < T.length
   · have hr := h (i + 1) hi
     refine dom_of (fun j b hb => ?_)
     obtain ⟨hl, eb⟩ := some_getD hb
     have h1 := hr.2.1 (by omega)
     rw [Nat.add_sub_cancel] at h1
     have h2 := (hr.2.2 j hl).2.2 (by omega)
     rw [Nat.add_sub_cancel, eb] at h2
     exact ⟨_, getD_some (by omega), h2⟩
   · have : T.getD (i + 1) [] = [] := by rw [List.getD_eq_getElem?_getD, List.getElem?_eq_none (by omega)]; rfl
     rw [this]; simp only [Dom]
 · obtain ⟨i, hi, rfl⟩ := hg r hr
   obtain ⟨j, hj, e⟩ := List.getElem_of_mem hx
   have := ((h i hi).2.2 j hj).1
   rwa [getD_get hj, e] at this
theorem FillOk.row {T : List (List Int)} (h : FillOk T) {i : Nat} (hi : i < T.length) : RowOk T i := by
 have hm : T.getD i [] ∈ T := by rw [getD_get hi]; exact List.getElem_mem hi
 refine ⟨fun e => h.1.ne _ hm (List.eq_nil_of_length_eq_zero e), fun h0 => ?_, fun j hj => ⟨?_, fun h0 => ?_, fun h0 => ?_⟩⟩
 · have := dom_len (h.1.dom (i - 1))
   rwa [show i - 1 + 1 = i by omega] at this
 · exact h.2.1 _ hm _ (by rw [getD_get hj]; exact List.getElem_mem hj)
 · obtain ⟨a, ha, hle⟩ := up_at (i := j - 1) (h.1.upD i) (b := (T.getD i []).getD j 0) (by rw [show j - 1 + 1 = j by omega]; exact getD_some hj)
   rw [(some_getD ha).2]; exact hle
 · have hd := h.1.dom (i - 1)
   rw [show i - 1 + 1 = i by omega] at hd
   obtain ⟨a, ha, hlt⟩ := dom_at hd (getD_some hj)
   rw [(some_getD ha).2]; exact hlt
theorem FillOk.small {T : List (List Int)} (h : FillOk T) : T.length ≤ 40 ∧ ∀ i, (T.getD i []).length ≤ 40 := by
 have h1 : ∀ (U : List (List Int)), (∀ r ∈ U, r ≠ []) → U.length ≤ boxes U := fun U => by
  induction U with
  | nil => intro _; simp
  | cons r t ih =>
   intro hu
   have := ih (fun s hs => hu s (List.mem_cons_of_mem _ hs))
   have h2 : r.length ≠ 0 := fun e => hu r (by simp) (List.eq_nil_of_length_eq_zero e)
   rw [boxes_cons]; simp; omega
 have h3 := h.2.2
 have h4 := h1 T h.1.ne
 refine ⟨by omega, fun i => ?_⟩
 by_cases hi : i < T.length
 · have h5 := boxes_take hi
   have h6 := boxes_le (T := T) (i + 1)
   omega
 · rw [List.getD_eq_getElem?_getD, List.getElem?_eq_none (by omega)]; simp
end
end Go.Proofs.YtpmkdihencepnaaGreatDoor
namespace Go.Proofs.YtpmkdihencepnaaGreatDoor.Fil
def dg (n : Int) : List UInt8 := if n < 10 then [UInt8.ofNat (48 + n.toNat)] else [UInt8.ofNat (48 + n.toNat / 10), UInt8.ofNat (48 + n.toNat % 10)]
def rowT : List Int → List UInt8
 | [] => []
 | x :: r => dg x ++ r.flatMap (fun y => 32 :: dg y)
def num1 : List UInt8 → Int × Nat
 | [] => (0, 0)
 | a :: r => if 49 ≤ a.toNat ∧ a.toNat ≤ 57 then
  (match r with
   | [] => ((a.toNat : Int) - 48, 1)
   | b :: _ => if 48 ≤ b.toNat ∧ b.toNat ≤ 57 then (10 * ((a.toNat : Int) - 48) + ((b.toNat : Int) - 48), 2) else ((a.toNat : Int) - 48, 1))
  else (0, 0)
def push (out : List (List Int)) (n : Int) : List (List Int) := out.dropLast ++ [out.getLastD [] ++ [n]]
def rest (r2 : List Int) (T2 : List (List Int)) : List UInt8 := r2.flatMap (fun y => 32 :: dg y) ++ T2.flatMap (fun q => 47 :: rowT q)
end Go.Proofs.YtpmkdihencepnaaGreatDoor.Fil
namespace Go.Proofs.YtpmkdihencepnaaGreatDoor.Std1
def entD (T : List (List Int)) (i j : Nat) : Int := (T.getD i []).getD j 0
def len (T : List (List Int)) (i : Nat) : Nat := (T.getD i []).length
def allB (T : List (List Int)) : List (Nat × Nat) := (List.range T.length).flatMap (fun i => (List.range (len T i)).map (fun j => (i, j)))
theorem mem_allB {T : List (List Int)} {b : Nat × Nat} : b ∈ allB T ↔ b.1 < T.length ∧ b.2 < len T b.1 := by
 obtain ⟨i, j⟩ := b
 simp only [allB, List.mem_flatMap, List.mem_range, List.mem_map, Prod.mk.injEq]
 constructor
 · rintro ⟨a, ha, c, hc, rfl, rfl⟩; exact ⟨ha, hc⟩
 · rintro ⟨h1, h2⟩; exact ⟨i, h1, j, h2, rfl, rfl⟩
theorem nodup_allB (T : List (List Int)) : (allB T).Nodup := by
 unfold allB List.Nodup
 rw [List.pairwise_flatMap]
 refine ⟨fun i _ => ?_, ?_⟩
 · rw [List.pairwise_map]
   exact List.nodup_range.imp (fun h e => h (by simpa using e))
 · refine List.nodup_range.imp (fun {a b} h x hx y hy e => ?_)
   obtain ⟨c, _, rfl⟩ := List.mem_map.1 hx
   obtain ⟨d, _, rfl⟩ := List.mem_map.1 hy
   exact h (by simpa using congrArg Prod.fst e)
def less (T : List (List Int)) (b c : Nat × Nat) : Bool := decide (entD T b.1 b.2 < entD T c.1 c.2) || (decide (entD T b.1 b.2 = entD T c.1 c.2) && decide (b.2 < c.2))
theorem less_iff {T : List (List Int)} {b c : Nat × Nat} : less T b c = true ↔ entD T b.1 b.2 < entD T c.1 c.2 ∨ (entD T b.1 b.2 = entD T c.1 c.2 ∧ b.2 < c.2) := by simp [less]
def rkD (T : List (List Int)) (b : Nat × Nat) : Nat := (allB T).countP (fun c => less T c b)
def std (T : List (List Int)) : List (List Int) := (List.range T.length).map (fun i => (List.range (len T i)).map (fun j => ((rkD T (i, j) : Nat) : Int) + 1))
theorem std_length (T : List (List Int)) : (std T).length = T.length := by simp [std]
theorem std_len (T : List (List Int)) (i : Nat) : len (std T) i = len T i := by
 unfold len
 by_cases h : i < T.length
 · simp [std, h, len]
 · simp [std, h]
theorem std_ent {T : List (List Int)} {i j : Nat} (hi : i < T.length) (hj : j < len T i) : entD (std T) i j = ((rkD T (i, j) : Nat) : Int) + 1 := by
 simp [entD, std, hi, hj]
structure TOk (T : List (List Int)) : Prop where
 row : ∀ i j, i < T.length → j + 1 < len T i → entD T i j ≤ entD T i (j + 1)
 col : ∀ i j, i + 1 < T.length → j < len T (i + 1) → j < len T i ∧ entD T i j < entD T (i + 1) j
theorem TOk.cols {T : List (List Int)} (h : TOk T) {i j : Nat} : ∀ {d : Nat}, i + d + 1 < T.length → j < len T (i + d + 1) → j < len T i ∧ entD T i j < entD T (i + d + 1) j
 | 0, h1, h2 => h.col i j h1 h2
 | d + 1, h1, h2 => by
  have e := h.col (i + (d + 1)) j (by omega) h2
  have ih := TOk.cols h (i := i) (j := j) (d := d) (by omega) (by rw [show i + d + 1 = i + (d + 1) by omega]; exact e.1)
  refine ⟨ih.1, ?_⟩
  rw [show i + d + 1 = i + (d + 1) by omega] at ih
  have := ih.2; have := e.2
  omega
theorem TOk.total {T : List (List Int)} (h : TOk T) {b c : Nat × Nat} (hb : b ∈ allB T) (hc : c ∈ allB T) (hne : b ≠ c) : less T b c = true ∨ less T c b = true := by
 rw [less_iff, less_iff]
 have hb := mem_allB.1 hb
 have hc := mem_allB.1 hc
 by_cases h1 : entD T b.1 b.2 = entD T c.1 c.2
 · by_cases h2 : b.2 = c.2
   · exfalso
     obtain ⟨i, j⟩ := b
     obtain ⟨i', j'⟩ := c
     simp only at h1 h2 hb hc
     subst h2
     rcases Nat.lt_trichotomy i i' with g | g | g
     · have := h.cols (i := i) (j := j) (d := i' - i - 1) (by omega) (by rw [show i + (i' - i - 1) + 1 = i' by omega]; exact hc.2)
       rw [show i + (i' - i - 1) + 1 = i' by omega] at this
       have := this.2
       omega
     · subst g; exact hne rfl
     · have := h.cols (i := i') (j := j) (d := i - i' - 1) (by omega) (by rw [show i' + (i - i' - 1) + 1 = i by omega]; exact hb.2)
       rw [show i' + (i - i' - 1) + 1 = i by omega] at this
       have := this.2
       omega
   · omega
 · omega
theorem less_trans {T : List (List Int)} {a b c : Nat × Nat} (h : less T a b = true) (h' : less T b c = true) : less T a c = true := by
 rw [less_iff] at *; omega
theorem less_irrefl {T : List (List Int)} {b : Nat × Nat} : less T b b = false := by
 cases h : less T b b with
 | false => rfl
 | true => rw [less_iff] at h; omega
theorem sorted_rank {T : List (List Int)} : ∀ {L : List (Nat × Nat)}, L.Pairwise (fun b c => less T b c = true) → ∀ i (hi : i < L.length), L.countP (fun c => less T c L[i]) = i
 | b :: L, h, 0, _ => by
  rw [List.countP_eq_zero]
  intro c hc
  rcases List.mem_cons.1 hc with e | hc
  · subst e; simp [less_irrefl]
  · have := (List.pairwise_cons.1 h).1 c hc
    intro g
    have := less_trans this g
    simp [less_irrefl] at this
 | b :: L, h, i + 1, hi => by
  have hi' : i < L.length := by simpa using hi
  rw [List.countP_cons, List.getElem_cons_succ, sorted_rank (List.pairwise_cons.1 h).2 i hi', if_pos ((List.pairwise_cons.1 h).1 _ (List.getElem_mem hi'))]
theorem rank_of_sorted {T : List (List Int)} {L : List (Nat × Nat)} (hp : L.Perm (allB T)) (h : L.Pairwise (fun b c => less T b c = true)) {i : Nat} (hi : i < L.length) : rkD T L[i] = i := by
 unfold rkD
 rw [← hp.countP_eq]
 exact sorted_rank h i hi
end Go.Proofs.YtpmkdihencepnaaGreatDoor.Std1
namespace Go.Proofs.YtpmkdihencepnaaGreatDoor
section
open Go.RowKit Go.Proofs
open Go.Shelf Go.Lib Go.Sort
section
variable {α : Type} {enc : α → List Value} {k : Nat}
def cellsK (enc : α → List Value) (m : List α) : List Value := m.flatMap enc
theorem cellsK_len (hk : ∀ x, (enc x).length = k) : ∀ m : List α, (cellsK enc m).length = m.length * k
 | [] => by simp [cellsK]
 | x :: m => by
  have ih := cellsK_len hk m
  simp only [cellsK, List.flatMap_cons, List.length_append, List.length_cons] at ih ⊢
  rw [hk, ih, Nat.add_mul]; omega
variable [Inhabited α]
theorem cellsK_get (hk : ∀ x, (enc x).length = k) (h0 : 0 < k) : ∀ {m : List α} {t : Nat}, t < m.length * k → (cellsK enc m)[t]? = (enc (m[t / k]!))[t % k]?
 | [], t, h => by simp at h
 | x :: m, t, h => by
  have e : cellsK enc (x :: m) = enc x ++ cellsK enc m := by simp [cellsK]
  rw [e]
  rcases Nat.lt_or_ge t k with c | c
  · rw [List.getElem?_append_left (by rw [hk]; exact c), Nat.div_eq_of_lt c, Nat.mod_eq_of_lt c]; rfl
  · obtain ⟨u, rfl⟩ : ∃ u, t = u + k := ⟨t - k, by omega⟩
    have hu : u < m.length * k := by
     rw [List.length_cons, Nat.add_mul, Nat.one_mul] at h; omega
    rw [List.getElem?_append_right (by rw [hk]; omega), hk, Nat.add_sub_cancel, Nat.add_div_right _ h0, Nat.add_mod_right, cellsK_get hk h0 hu]
    rfl
theorem flat_cellsK (hk : ∀ x, (enc x).length = k) (h0 : 0 < k) (m : List α) : flatK enc k m.toArray = (cellsK enc m).toArray := by
 have hl := cellsK_len hk m
 refine ext_get! (by simp [hl]) fun t ht => ?_
 have ht' : t < m.length * k := by simpa using ht
 rw [get_flatK _ _ _ _ (by simpa using ht')]
 have hg := cellsK_get hk h0 ht'
 have hd : t / k < m.length := (Nat.div_lt_iff_lt_mul h0).2 ht'
 have e0 : m.toArray[t / k]! = m[t / k]! := by simp
 rw [e0, getElem!_pos (cellsK enc m).toArray t (by simp [hl]; exact ht')]
 have hm : t % k < (enc (m[t / k]!)).length := by rw [hk]; exact Nat.mod_lt _ h0
 rw [List.getElem?_eq_getElem (by rw [hl]; exact ht'), List.getElem?_eq_getElem hm] at hg
 rw [getElem!_pos (enc (m[t / k]!)) (t % k) hm]
 simp only [List.getElem_toArray]
 exact (Option.some.inj hg).symm
theorem holdsKm {w : World} {base g cap n : Nat} {e : TypeId} {m : List α} (hk : ∀ x, (enc x).length = k) (h0 : 0 < k) (h : w.ownsRow base e k (.slice (some ⟨g, 0, none⟩) n cap) n (cellsK enc m)) : HoldsK enc k w g 0 m.toArray := by
 unfold HoldsK
 rw [flat_cellsK hk h0]
 intro j hj
 have hj' : j < (cellsK enc m).length := by simpa using hj
 refine ⟨?_, ?_⟩
 · rw [Nat.zero_add, h.cellAt j (by rw [← h.1]; exact hj'), List.getElem?_eq_getElem hj', getElem!_pos (cellsK enc m).toArray j hj]
   rfl
 · rw [Nat.zero_add]; exact h.frozenAt j
theorem ownKm {w : World} {base g cap n q : Nat} {e : TypeId} {m m' : List α} (hk : ∀ x, (enc x).length = k) (h0 : 0 < k) (h : w.ownsRow base e k (.slice (some ⟨g, 0, none⟩) n cap) n (cellsK enc m)) (hm : m'.length = m.length) :
 (putRowK enc k (Sort.ahead w q) g 0 m'.toArray).ownsRow base e k (.slice (some ⟨g, 0, none⟩) n cap) n (cellsK enc m') := by
 have hl := h.1
 have hl2 := cellsK_len hk m'
 have hl1 := cellsK_len hk m
 rw [hm, ← hl1, hl] at hl2
 unfold putRowK
 rw [flat_cellsK hk h0]
 rcases h.2 with ⟨e0, _⟩ | ⟨g', cap', cur, e0, hb, hg, hn, hmx, hs, ht⟩
 · cases e0
 · injection e0 with e1 _ e3
   injection e1 with e1
   injection e1 with e1
   subst e1; subst e3
   have hle : n * k ≤ cap * k := Nat.mul_le_mul_right _ hn
   refine ⟨hl2, .inr ⟨g, cap, putCells id 0 (cellsK enc m').toArray cur, rfl, hb, ?_, hn, hmx, by simpa [putCells] using hs, ?_⟩⟩
   · simp [putRow, mapBlock, Sort.ahead, Array.getElem?_modify, hg, onCells]
   · apply List.ext_getElem?
     intro j
     rw [List.getElem?_take, Array.getElem?_toList]
     by_cases hj : j < n * k
     · have hjc : j < cur.size := by omega
       rw [if_pos hj]
       simp only [putCells, Array.getElem?_mapIdx, Array.getElem?_eq_getElem hjc, Option.map_some]
       rw [if_pos (by simp; omega), List.getElem?_eq_getElem (by omega)]
       simp [getElem!_pos, show j < (cellsK enc m').length by omega]
     · rw [if_neg hj, List.getElem?_eq_none (by omega)]
end
theorem own_grow {w : World} {base size n : Nat} {e : TypeId} {v : Value} {cs : List Value} (h : w.ownsRow base e size v n cs) (os : Array Obj) : (grow w os).ownsRow base e size v n cs := by
 refine ⟨h.1, ?_⟩
 rcases h.2 with hn | ⟨g, cap, cur, rfl, hg, hh, rest⟩
 · exact .inl hn
 · refine .inr ⟨g, cap, cur, rfl, hg, ?_, rest⟩
   rw [heap_grow_old _ _ (Array.getElem?_eq_some_iff.1 hh).1]; exact hh
theorem below_growK {w : World} {B g q : Nat} {F : Array Value} {os : Array Obj} (hg : B ≤ g) (hB : B ≤ w.heap.size) : Below B w (grow (putRow id (Sort.ahead w q) g 0 F) os) := by
 have h1 : Below B w (putRow id (Sort.ahead w q) g 0 F) := below_putRow (Below.refl _ _) hg
 exact h1.trans (below_grow B _ (by have := h1.size; omega) 0 os)
end
section
open Go.RowKit
theorem clone_any (A : Option Addr) (cap : Nat) (xs : List Int) (w : World) (hl : xs.length < 1000000) (h : Sl w w.heap.size A (ints xs)) :
 Calls Tryz.prog 100 #[.slice A xs.length cap] w fun e w' => ∃ v, e = .returned v ∧ w'.ownsRow w.heap.size 3 1 v xs.length (ints xs) ∧ Below w.heap.size w w' := by
 rcases A with _ | ad
 · have hx : xs = [] := by
    by_cases hp : 0 < xs.length
    · obtain ⟨b, o, e, _⟩ := h.at_ hp
      cases e
    · exact List.eq_nil_of_length_eq_zero (by omega)
   subst hx
   have he := fun w => Lib.run_eql_slice_nil (P := Tryz.prog) w 65 3 none 0 cap 0 0 Tryz.underlying65
   go_enter Tryz.func100, Tryz.ntmps100
   go_wp2
   go_ret
   exact ⟨_, rfl, World.ownsRow_nil _ _ _ _, Below.refl _ _⟩
 · have he := fun w => Lib.run_eql_slice_nil (P := Tryz.prog) w 65 3 (some ad) xs.length cap 0 0 Tryz.underlying65
   go_enter Tryz.func100, Tryz.ntmps100
   go_wp2_with (at_builtin; refine wpList_app (l := []) rfl (.tmp 5) (.tmp 6) rfl rfl (World.ownsRow_lit w #[] 0 (Nat.le_refl _) (by decide) rfl) cap rfl (h.below ((Below.refl _ _).alloc (Nat.le_refl _) _)) (by simp; omega) (by simp) (fun v3 w3 hv3 hb3 => ?_))
   go_ret
   exact ⟨_, rfl, by simpa using hv3, ((Below.refl _ _).alloc (Nat.le_refl _) _).trans hb3⟩
theorem own_sliceA {w : World} {base n : Nat} {v : Value} {xs : List Int} (h : w.ownsRow base 3 1 v n (ints xs)) : ∃ A c, v = .slice A xs.length c ∧ n = xs.length ∧ Sl w w.heap.size A (ints xs) ∧ xs.length ≤ c ∧ c ≤ 9223372036854775807 := by
 have hl : xs.length = n := by have := h.1; rw [ints_length] at this; omega
 subst hl
 rcases h.2 with ⟨e1, e2⟩ | ⟨g, c, _, e1, _⟩
 · refine ⟨none, 0, by rw [e2]; exact e1, rfl, ?_, by omega, by omega⟩
   rw [List.eq_nil_of_length_eq_zero e2]; exact Sl.nil _ _ _
 · rw [e1] at h
   exact ⟨_, c, e1, rfl, Sl.of_own h, (own_cap h).1, (own_cap h).2⟩
end
end Go.Proofs.YtpmkdihencepnaaGreatDoor
