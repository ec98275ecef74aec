/-
  Plain: letters put into rows; KNUTH's steps; words and tableaux.
-/
import Derived.Test.YtpmkdihencepnaaMg01
namespace Go.Proofs.Ytpmkdihencepnaa

/-- A letter put into a row: what comes out. -/
def push1 : List Int → Int → List Int × Option Int
  | [], x => ([x], none)
  | a :: s, x => if x < a then (x :: s, some a) else (a :: (push1 s x).1, (push1 s x).2)
theorem push1_lt {a x : Int} {s : List Int} (h : x < a) : push1 (a :: s) x = (x :: s, some a) := by simp only [push1]; rw [if_pos h]
theorem push1_ge {a x : Int} {s : List Int} (h : a ≤ x) : push1 (a :: s) x = (a :: (push1 s x).1, (push1 s x).2) := by simp only [push1]; rw [if_neg (by omega)]
/-- A letter put into a tableau. -/
def ins1 : List (List Int) → Int → List (List Int)
  | [], x => [[x]]
  | r :: t, x => match (push1 r x).2 with
    | none => (push1 r x).1 :: t
    | some z => (push1 r x).1 :: ins1 t z
/-- A word put into a tableau. -/
def insW (T : List (List Int)) (w : List Int) : List (List Int) := w.foldl ins1 T
/-- A word put into a row. -/
def pushW : List Int → List Int → List Int × List Int
  | s, [] => (s, [])
  | s, x :: w => ((pushW (push1 s x).1 w).1, (push1 s x).2.toList ++ (pushW (push1 s x).1 w).2)

theorem insW_cons (r : List Int) (t : List (List Int)) : ∀ w, insW (r :: t) w = (pushW r w).1 :: insW t (pushW r w).2 := by
  intro w
  induction w generalizing r t with
  | nil => rfl
  | cons x w ih =>
    have e : insW (r :: t) (x :: w) = insW (ins1 (r :: t) x) w := rfl
    rw [e]
    simp only [ins1, pushW]
    cases h : (push1 r x).2 with
    | none => simp only [Option.toList]; rw [ih]; rfl
    | some z =>
      simp only [Option.toList]; rw [ih]
      rfl
theorem insW_nil (x : Int) (w : List Int) : insW [] (x :: w) = (pushW [] (x :: w)).1 :: insW [] (pushW [] (x :: w)).2 := by
  have e : insW [] (x :: w) = insW [[x]] w := rfl
  rw [e, insW_cons]
  simp only [pushW, push1, Option.toList, List.nil_append]
theorem insW_append (T : List (List Int)) (u v : List Int) : insW T (u ++ v) = insW (insW T u) v := List.foldl_append

/-- Rows that don't fall. -/
def Up (s : List Int) : Prop := s.Pairwise (· ≤ ·)
theorem Up.tail {a : Int} {s : List Int} (h : Up (a :: s)) : Up s := (List.pairwise_cons.1 h).2
theorem Up.head {a : Int} {s : List Int} (h : Up (a :: s)) : ∀ x ∈ s, a ≤ x := (List.pairwise_cons.1 h).1
theorem push1_mem {s : List Int} {x : Int} : ∀ y ∈ (push1 s x).1, y = x ∨ y ∈ s := by
  induction s with
  | nil => intro y hy; simp [push1] at hy; exact .inl hy
  | cons a s ih =>
    intro y hy
    by_cases h : x < a
    · rw [push1_lt h] at hy
      rcases List.mem_cons.1 hy with e | e
      · exact .inl e
      · exact .inr (List.mem_cons_of_mem _ e)
    · rw [push1_ge (by omega)] at hy
      rcases List.mem_cons.1 hy with e | e
      · exact .inr (by rw [e]; simp)
      · rcases ih y e with e | e
        · exact .inl e
        · exact .inr (List.mem_cons_of_mem _ e)
theorem push1_out {s : List Int} {x q : Int} : (push1 s x).2 = some q → q ∈ s ∧ x < q := by
  induction s with
  | nil => intro h; simp [push1] at h
  | cons a s ih =>
    intro h
    by_cases c : x < a
    · rw [push1_lt c] at h
      obtain rfl : a = q := by simpa using h
      exact ⟨by simp, c⟩
    · rw [push1_ge (by omega)] at h
      have := ih h
      exact ⟨List.mem_cons_of_mem _ this.1, this.2⟩
theorem push1_up {s : List Int} {x : Int} (h : Up s) : Up (push1 s x).1 := by
  induction s with
  | nil => simp [push1, Up]
  | cons a s ih =>
    by_cases c : x < a
    · rw [push1_lt c]
      exact List.pairwise_cons.2 ⟨fun y hy => by have := h.head y hy; omega, h.tail⟩
    · rw [push1_ge (by omega)]
      refine List.pairwise_cons.2 ⟨fun y hy => ?_, ih h.tail⟩
      rcases push1_mem y hy with e | e
      · omega
      · exact h.head y e
theorem pushW_up : ∀ (w : List Int) {s : List Int}, Up s → Up (pushW s w).1
  | [], _, h => h
  | _ :: w, _, h => pushW_up w (push1_up h)
theorem push1_len {s : List Int} {x : Int} : (push1 s x).1.length + (push1 s x).2.toList.length = s.length + 1 := by
  induction s with
  | nil => simp [push1]
  | cons a s ih =>
    by_cases c : x < a
    · rw [push1_lt c]; simp
    · rw [push1_ge (by omega)]; simp only [List.length_cons]; omega
theorem pushW_len : ∀ (w : List Int) (s : List Int), (pushW s w).1.length + (pushW s w).2.length = s.length + w.length
  | [], s => by simp [pushW]
  | x :: w, s => by
    have h1 := pushW_len w (push1 s x).1
    have h2 := push1_len (s := s) (x := x)
    simp only [pushW, List.length_append, List.length_cons]
    omega
theorem push1_pos {s : List Int} {x : Int} : 0 < (push1 s x).1.length := by
  cases s with
  | nil => simp [push1]
  | cons a s =>
    by_cases c : x < a
    · rw [push1_lt c]; simp
    · rw [push1_ge (by omega)]; simp
theorem pushW_grow : ∀ (w : List Int) (s : List Int), s.length ≤ (pushW s w).1.length
  | [], s => by simp [pushW]
  | x :: w, s => by
    have h1 := pushW_grow w (push1 s x).1
    have h2 := push1_len (s := s) (x := x)
    have h3 : (push1 s x).2.toList.length ≤ 1 := by cases (push1 s x).2 <;> simp
    simp only [pushW]; omega
/-- A letter behind one not greater goes in further right. -/
theorem push_right {s : List Int} {y z : Int} (h : Up s) (hyz : y ≤ z) :
    ((push1 s y).2 = none → (push1 (push1 s y).1 z).2 = none) ∧ ∀ p q, (push1 s y).2 = some p → (push1 (push1 s y).1 z).2 = some q → p ≤ q := by
  induction s with
  | nil =>
    simp only [push1]
    rw [if_neg (by omega)]
    exact ⟨fun _ => rfl, fun p q e => by simp at e⟩
  | cons a s ih =>
    by_cases c : y < a
    · rw [push1_lt c, push1_ge hyz]
      refine ⟨fun e => by simp at e, fun p q e1 e2 => ?_⟩
      obtain rfl : a = p := by simpa using e1
      exact h.head q (push1_out e2).1
    · rw [push1_ge (by omega), push1_ge (by omega)]
      exact ih h.tail
/-- A letter behind a greater one goes in no further right. -/
theorem push_left {s : List Int} {y z : Int} (hyz : y < z) : ∃ p, (push1 (push1 s z).1 y).2 = some p ∧ p ≤ z := by
  induction s with
  | nil => simp only [push1]; rw [if_pos hyz]; exact ⟨z, rfl, Int.le_refl _⟩
  | cons a s ih =>
    by_cases c : z < a
    · rw [push1_lt c, push1_lt hyz]; exact ⟨z, rfl, Int.le_refl _⟩
    · rw [push1_ge (by omega)]
      by_cases c2 : y < a
      · rw [push1_lt c2]; exact ⟨a, rfl, by omega⟩
      · rw [push1_ge (by omega)]; exact ih

/-- KNUTH's steps. -/
inductive K1 : List Int → List Int → Prop
  | a (x y z : Int) : x < y → y ≤ z → K1 [y, z, x] [y, x, z]
  | b (x y z : Int) : x ≤ y → y < z → K1 [x, z, y] [z, x, y]
inductive Kn : List Int → List Int → Prop
  | refl (w : List Int) : Kn w w
  | step {a b : List Int} (u v : List Int) : K1 a b → Kn (u ++ a ++ v) (u ++ b ++ v)
  | symm {a b : List Int} : Kn a b → Kn b a
  | trans {a b c : List Int} : Kn a b → Kn b c → Kn a c
theorem Kn.one {a b : List Int} (h : K1 a b) : Kn a b := by
  have := Kn.step [] [] h
  simpa using this
theorem Kn.ctx {a b : List Int} (u v : List Int) (h : Kn a b) : Kn (u ++ a ++ v) (u ++ b ++ v) := by
  induction h with
  | refl w => exact .refl _
  | step u' v' k =>
    have := Kn.step (u ++ u') (v' ++ v) k
    simpa [List.append_assoc] using this
  | symm _ ih => exact ih.symm
  | trans _ _ ih1 ih2 => exact ih1.trans ih2
theorem Kn.left {a b : List Int} (u : List Int) (h : Kn a b) : Kn (u ++ a) (u ++ b) := by
  have := h.ctx u []
  simpa using this
theorem Kn.right {a b : List Int} (v : List Int) (h : Kn a b) : Kn (a ++ v) (b ++ v) := h.ctx [] v
theorem Kn.cons {a b : List Int} (x : Int) (h : Kn a b) : Kn (x :: a) (x :: b) := h.left [x]
theorem Kn.len {a b : List Int} (h : Kn a b) : a.length = b.length := by
  induction h with
  | refl w => rfl
  | step u v k => cases k <;> simp
  | symm _ ih => exact ih.symm
  | trans _ _ ih1 ih2 => exact ih1.trans ih2

theorem pushW_three (s : List Int) (x y z : Int) : pushW s [x, y, z] = ((push1 (push1 (push1 s x).1 y).1 z).1, (push1 s x).2.toList ++ ((push1 (push1 s x).1 y).2.toList ++ (push1 (push1 (push1 s x).1 y).1 z).2.toList)) := by
  simp [pushW]
/-- The row that a step's two words leave is one, and what comes out a step apart. -/
theorem push_K1 {s : List Int} (hs : Up s) {a b : List Int} (k : K1 a b) : (pushW s a).1 = (pushW s b).1 ∧ Kn (pushW s a).2 (pushW s b).2 := by
  cases k with
  | a x y z hxy hyz =>
    rw [pushW_three, pushW_three]
    induction s with
    | nil =>
      simp only [push1]
      rw [if_neg (by omega), if_pos hxy]
      simp only [push1]
      rw [if_pos hxy, if_neg (by omega)]
      exact ⟨rfl, .refl _⟩
    | cons h s ih =>
      by_cases c : y < h
      · rw [push1_lt c, push1_ge hyz, push1_lt hxy, push1_lt hxy, push1_ge (show x ≤ z by omega)]
        refine ⟨rfl, ?_⟩
        cases e : (push1 s z).2 with
        | none => exact .refl _
        | some q =>
          have := hs.head q (push1_out e).1
          exact .one (.a y h q c this)
      · rw [push1_ge (show h ≤ y by omega), push1_ge (show h ≤ z by omega)]
        by_cases c2 : x < h
        · rw [push1_lt c2, push1_lt c2, push1_ge (show x ≤ z by omega)]
          refine ⟨rfl, ?_⟩
          have hr := push_right hs.tail hyz
          cases e : (push1 s y).2 with
          | none => rw [hr.1 e]; exact .refl _
          | some p =>
            cases e2 : (push1 (push1 s y).1 z).2 with
            | none => exact .refl _
            | some q =>
              have h1 := hr.2 p q e e2
              have h2 := (push1_out e).2
              exact .one (.a h p q (by omega) h1)
        · rw [push1_ge (show h ≤ x by omega), push1_ge (show h ≤ x by omega), push1_ge (show h ≤ z by omega)]
          have := ih hs.tail
          exact ⟨by rw [this.1], this.2⟩
  | b x y z hxy hyz =>
    rw [pushW_three, pushW_three]
    induction s with
    | nil =>
      simp only [push1]
      rw [if_neg (by omega), if_pos (show x < z by omega)]
      simp only [push1]
      rw [if_neg (by omega), if_pos hyz, if_neg (by omega)]
      exact ⟨rfl, .refl _⟩
    | cons h s ih =>
      by_cases c : x < h
      · rw [push1_lt c, push1_ge (show x ≤ z by omega), push1_ge (show x ≤ y by omega)]
        by_cases c2 : z < h
        · rw [push1_lt c2, push1_lt (show x < z by omega), push1_ge hxy]
          cases s with
          | nil =>
            simp only [push1]
            rw [if_pos hyz]
            exact ⟨rfl, .refl _⟩
          | cons g s =>
            have hg := hs.head g (by simp)
            rw [push1_lt (show z < g by omega), push1_lt hyz, push1_lt (show y < g by omega)]
            exact ⟨rfl, .one (.a z h g c2 hg)⟩
        · rw [push1_ge (show h ≤ z by omega), push1_lt c, push1_ge hxy]
          refine ⟨rfl, ?_⟩
          cases e : (push1 s z).2 with
          | none => exact .refl _
          | some q =>
            obtain ⟨p, e2, hp⟩ := push_left (s := s) hyz
            rw [e2]
            have h1 := (push1_out e).2
            have h2 : h ≤ p := by
              rcases push1_mem p (push1_out e2).1 with e3 | e3
              · omega
              · exact hs.head p e3
            exact .one (.b h p q h2 (by omega))
      · rw [push1_ge (show h ≤ x by omega), push1_ge (show h ≤ z by omega), push1_ge (show h ≤ y by omega), push1_ge (show h ≤ z by omega), push1_ge (show h ≤ x by omega), push1_ge (show h ≤ y by omega)]
        have := ih hs.tail
        exact ⟨by rw [this.1], this.2⟩
theorem pushW_append : ∀ (u v s : List Int), pushW s (u ++ v) = ((pushW (pushW s u).1 v).1, (pushW s u).2 ++ (pushW (pushW s u).1 v).2)
  | [], v, s => by simp [pushW]
  | x :: u, v, s => by simp only [List.cons_append, pushW]; rw [pushW_append u v]; simp
theorem push_Kn {a b : List Int} (h : Kn a b) : ∀ {s : List Int}, Up s → (pushW s a).1 = (pushW s b).1 ∧ Kn (pushW s a).2 (pushW s b).2 := by
  induction h with
  | refl w => exact fun _ => ⟨rfl, .refl _⟩
  | step u v k =>
    intro s hs
    have h1 := push_K1 (pushW_up u hs) k
    simp only [pushW_append]
    rw [h1.1]
    exact ⟨rfl, h1.2.ctx _ _⟩
  | symm _ ih => exact fun hs => ⟨(ih hs).1.symm, (ih hs).2.symm⟩
  | trans _ _ ih1 ih2 => exact fun hs => ⟨(ih1 hs).1.trans (ih2 hs).1, (ih1 hs).2.trans (ih2 hs).2⟩
/-- Words that are KNUTH's steps apart have one tableau. -/
theorem insW_Kn0 : ∀ (n : Nat) {a b : List Int}, a.length ≤ n → Kn a b → insW [] a = insW [] b
  | n, [], b, _, h => by
    have := h.len
    have e : b = [] := List.eq_nil_of_length_eq_zero (by simpa using this.symm)
    rw [e]
  | 0, x :: a, b, hl, _ => by simp at hl
  | n + 1, x :: a, b, hl, h => by
    have hlen := h.len
    cases b with
    | nil => simp at hlen
    | cons y b =>
      rw [insW_nil, insW_nil]
      have h1 := push_Kn h (s := []) List.Pairwise.nil
      rw [h1.1]
      congr 1
      refine insW_Kn0 n ?_ h1.2
      have h2 := pushW_len (x :: a) []
      have h3 : 0 < (pushW [] (x :: a)).1.length := by
        have := pushW_grow a (push1 [] x).1
        have := push1_pos (s := []) (x := x)
        simp only [pushW]; omega
      simp only [List.length_cons, List.length_nil] at h2 hl
      omega
/-- The rows, the last one first. -/
def rword : List (List Int) → List Int
  | [] => []
  | r :: t => rword t ++ r
theorem slip {h x : Int} {s : List Int} (hs : Up (h :: s)) (hx : x < h) : Kn (h :: (s ++ [x])) (h :: x :: s) := by
  induction s generalizing h with
  | nil => exact .refl _
  | cons b s ih =>
    have hb := hs.head b (by simp)
    refine (Kn.cons h (ih hs.tail (by omega))).trans ?_
    exact Kn.right s (.one (.a x h b hx hb))
theorem push1_head {s : List Int} {x : Int} : ∃ p t, (push1 s x).1 = p :: t ∧ p ≤ x ∧ (p = x ∨ p ∈ s) := by
  cases s with
  | nil => exact ⟨x, [], rfl, Int.le_refl _, .inl rfl⟩
  | cons a s =>
    by_cases c : x < a
    · rw [push1_lt c]; exact ⟨x, s, rfl, Int.le_refl _, .inl rfl⟩
    · rw [push1_ge (by omega)]; exact ⟨a, _, rfl, by omega, .inr (by simp)⟩
theorem push1_Kn {s : List Int} {x : Int} (hs : Up s) : Kn (s ++ [x]) ((push1 s x).2.toList ++ (push1 s x).1) := by
  induction s with
  | nil => exact .refl _
  | cons h s ih =>
    by_cases c : x < h
    · rw [push1_lt c]; exact slip hs c
    · rw [push1_ge (by omega)]
      refine (Kn.cons h (ih hs.tail)).trans ?_
      cases e : (push1 s x).2 with
      | none => exact .refl _
      | some q =>
        obtain ⟨p, t, e2, h1, h2⟩ := push1_head (s := s) (x := x)
        simp only [Option.toList]
        rw [e2]
        have hq := (push1_out e).2
        have hp : h ≤ p := by
          rcases h2 with h2 | h2
          · omega
          · exact hs.head p h2
        exact Kn.right t (.one (.b h p q hp (by omega)))
theorem ins1_Kn : ∀ {T : List (List Int)} {x : Int}, (∀ r ∈ T, Up r) → Kn (rword T ++ [x]) (rword (ins1 T x))
  | [], x, _ => .refl _
  | r :: t, x, h => by
    have h1 := push1_Kn (x := x) (h r (by simp))
    have h2 := h1.left (rword t)
    simp only [rword, ins1]
    rw [List.append_assoc]
    refine h2.trans ?_
    cases e : (push1 r x).2 with
    | none => exact .refl _
    | some z =>
      have h3 := (ins1_Kn (x := z) (fun s hs => h s (List.mem_cons_of_mem _ hs))).right (push1 r x).1
      simp only [rword, Option.toList]
      simpa using h3
theorem ins1_up : ∀ {T : List (List Int)} {x : Int}, (∀ r ∈ T, Up r) → ∀ r ∈ ins1 T x, Up r
  | [], x, _ => fun r hr => by
    simp [ins1] at hr; rw [hr]; exact List.pairwise_singleton _ _
  | s :: t, x, h => fun r hr => by
    have hs := push1_up (x := x) (h s (by simp))
    have ht := fun r hr => h r (List.mem_cons_of_mem s hr)
    simp only [ins1] at hr
    cases e : (push1 s x).2 with
    | none =>
      rw [e] at hr
      rcases List.mem_cons.1 hr with e2 | e2
      · rw [e2]; exact hs
      · exact ht r e2
    | some z =>
      rw [e] at hr
      rcases List.mem_cons.1 hr with e2 | e2
      · rw [e2]; exact hs
      · exact ins1_up ht r e2
/-- A word and the word of its tableau. -/
theorem insW_word : ∀ (w : List Int) {T : List (List Int)}, (∀ r ∈ T, Up r) → Kn (rword T ++ w) (rword (insW T w))
  | [], T, _ => by simp only [List.append_nil]; exact .refl _
  | x :: w, T, h => by
    have h1 := (ins1_Kn (x := x) h).right w
    have h2 := insW_word w (ins1_up (x := x) h)
    rw [List.append_assoc] at h1
    exact h1.trans h2

/-- Row over row. -/
def Dom : List Int → List Int → Prop
  | _, [] => True
  | [], _ :: _ => False
  | a :: r, b :: s => a < b ∧ Dom r s
/-- A tableau. -/
def Tab : List (List Int) → Prop
  | [] => True
  | r :: t => r ≠ [] ∧ Up r ∧ Dom r (t.headD []) ∧ Tab t
theorem Tab.up : ∀ {T : List (List Int)}, Tab T → ∀ r ∈ T, Up r
  | [], _ => fun r hr => by simp at hr
  | s :: t, h => fun r hr => by
    rcases List.mem_cons.1 hr with e | e
    · rw [e]; exact h.2.1
    · exact h.2.2.2.up r e
theorem pushW_all : ∀ (w : List Int) {s : List Int}, Up w → (∀ x ∈ s, ∀ y ∈ w, x ≤ y) → pushW s w = (s ++ w, [])
  | [], s, _, _ => by simp [pushW]
  | x :: w, s, hw, h => by
    have h1 : push1 s x = (s ++ [x], none) := by
      clear hw
      induction s with
      | nil => rfl
      | cons a s ih =>
        rw [push1_ge (h a (by simp) x (by simp)), ih (fun u hu v hv => h u (List.mem_cons_of_mem _ hu) v hv)]; rfl
    simp only [pushW]
    rw [h1]
    rw [pushW_all w hw.tail (fun u hu v hv => by
      rcases List.mem_append.1 hu with e | e
      · exact h u e v (List.mem_cons_of_mem _ hv)
      · simp at e; rw [e]; exact hw.head v hv)]
    simp
theorem pushW_head : ∀ (w : List Int) {a : Int} {s : List Int}, (∀ y ∈ w, a ≤ y) → pushW (a :: s) w = (a :: (pushW s w).1, (pushW s w).2)
  | [], _, _, _ => rfl
  | x :: w, a, s, h => by
    simp only [pushW]
    rw [push1_ge (h x (by simp)), pushW_head w (fun y hy => h y (List.mem_cons_of_mem _ hy))]
theorem push_dom : ∀ {r s : List Int}, Up r → Dom r s → pushW s r = (r, s)
  | r, [], hr, _ => by
    rw [pushW_all r hr (fun x hx => by simp at hx)]; rfl
  | [], _ :: _, _, h => h.elim
  | a :: r, b :: s, hr, h => by
    simp only [pushW]
    rw [push1_lt h.1, pushW_head r (fun y hy => hr.head y hy), push_dom hr.tail h.2]
    rfl
/-- The tableau of a tableau's word is itself. -/
theorem insW_row : ∀ {T : List (List Int)} {r : List Int}, r ≠ [] → Up r → Dom r (T.headD []) → Tab T → insW T r = r :: T
  | [], r, hne, hr, _, _ => by
    cases r with
    | nil => exact absurd rfl hne
    | cons x w =>
      rw [insW_nil, push_dom hr (s := []) trivial]; rfl
  | s :: t, r, _, hr, hd, h => by
    have hd' : Dom r s := hd
    rw [insW_cons, push_dom hr hd']
    rw [insW_row h.1 h.2.1 h.2.2.1 h.2.2.2]
theorem insW_rword : ∀ {T : List (List Int)}, Tab T → insW [] (rword T) = T
  | [], _ => rfl
  | r :: t, h => by
    simp only [rword]
    rw [insW_append, insW_rword h.2.2.2, insW_row h.1 h.2.1 h.2.2.1 h.2.2.2]
theorem dom_low : ∀ {r s : List Int} {x z : Int}, Dom r s → (push1 r x).2 = some z → Dom (push1 r x).1 s
  | _, [], _, _, _, _ => by simp only [Dom]
  | [], _ :: _, _, _, h, _ => h.elim
  | a :: r, b :: s, x, z, h, e => by
    by_cases c : x < a
    · rw [push1_lt c]; exact ⟨by have := h.1; omega, h.2⟩
    · rw [push1_ge (by omega)] at e ⊢
      exact ⟨h.1, dom_low h.2 e⟩
theorem dom_push : ∀ {r s : List Int} {x z : Int}, Up r → Dom r s → (push1 r x).2 = some z → Dom (push1 r x).1 (push1 s z).1
  | [], _, x, z, _, _, e => by simp [push1] at e
  | a :: r, [], x, z, hr, _, e => by
    by_cases c : x < a
    · rw [push1_lt c] at e ⊢
      obtain rfl : a = z := by simpa using e
      exact ⟨c, by simp only [Dom]⟩
    · rw [push1_ge (by omega)] at e ⊢
      have := (push1_out e).2
      exact ⟨by omega, by simp only [Dom]⟩
  | a :: r, b :: s, x, z, hr, h, e => by
    by_cases c : x < a
    · rw [push1_lt c] at e ⊢
      obtain rfl : a = z := by simpa using e
      rw [push1_lt h.1]
      exact ⟨c, h.2⟩
    · rw [push1_ge (by omega)] at e ⊢
      have hz := (push1_out e).2
      by_cases c2 : z < b
      · rw [push1_lt c2]
        exact ⟨by omega, dom_low h.2 e⟩
      · rw [push1_ge (by omega)]
        exact ⟨h.1, dom_push hr.tail h.2 e⟩
theorem dom_grow : ∀ {r s : List Int} {x : Int}, Dom r s → (push1 r x).2 = none → Dom (push1 r x).1 s
  | _, [], _, _, _ => by simp only [Dom]
  | [], _ :: _, _, h, _ => h.elim
  | a :: r, b :: s, x, h, e => by
    by_cases c : x < a
    · rw [push1_lt c] at e; simp at e
    · rw [push1_ge (by omega)] at e ⊢
      exact ⟨h.1, dom_grow h.2 e⟩
theorem ins1_headD (T : List (List Int)) (z : Int) : (ins1 T z).headD [] = (push1 (T.headD []) z).1 := by
  cases T with
  | nil => rfl
  | cons r t => simp only [ins1]; cases (push1 r z).2 <;> rfl
theorem ins1_tab : ∀ {T : List (List Int)} {x : Int}, Tab T → Tab (ins1 T x)
  | [], x, _ => ⟨by simp, List.pairwise_singleton _ _, by simp only [List.headD, Dom], trivial⟩
  | r :: t, x, h => by
    obtain ⟨h1, h2, h3, h4⟩ := h
    have hp : (push1 r x).1 ≠ [] := fun e => by have := push1_pos (s := r) (x := x); rw [e] at this; simp at this
    simp only [ins1]
    cases e : (push1 r x).2 with
    | none => exact ⟨hp, push1_up h2, dom_grow h3 e, h4⟩
    | some z => exact ⟨hp, push1_up h2, by rw [ins1_headD]; exact dom_push h2 h3 e, ins1_tab h4⟩
theorem insW_tab : ∀ (w : List Int) {T : List (List Int)}, Tab T → Tab (insW T w)
  | [], _, h => h
  | _ :: w, _, h => insW_tab w (ins1_tab h)
end Go.Proofs.Ytpmkdihencepnaa

/-
  Plain: letters put into columns; a tableau's columns; what goes in by columns goes ahead of the word.
-/
namespace Go.Proofs.Ytpmkdihencepnaa

/-- A letter put into a column. -/
def cpush1 : List Int → Int → List Int × Option Int
  | [], x => ([x], none)
  | a :: s, x => if x ≤ a then (x :: s, some a) else (a :: (cpush1 s x).1, (cpush1 s x).2)
theorem cpush1_le {a x : Int} {s : List Int} (h : x ≤ a) : cpush1 (a :: s) x = (x :: s, some a) := by simp only [cpush1]; rw [if_pos h]
theorem cpush1_gt {a x : Int} {s : List Int} (h : a < x) : cpush1 (a :: s) x = (a :: (cpush1 s x).1, (cpush1 s x).2) := by simp only [cpush1]; rw [if_neg (by omega)]
def cins1 : List (List Int) → Int → List (List Int)
  | [], x => [[x]]
  | r :: t, x => match (cpush1 r x).2 with
    | none => (cpush1 r x).1 :: t
    | some z => (cpush1 r x).1 :: cins1 t z
/-- The columns' word. -/
def cword : List (List Int) → List Int
  | [] => []
  | c :: cs => c.reverse ++ cword cs
/-- Columns that rise. -/
def Dn (s : List Int) : Prop := s.Pairwise (· < ·)
theorem Dn.tail {a : Int} {s : List Int} (h : Dn (a :: s)) : Dn s := (List.pairwise_cons.1 h).2
theorem Dn.head {a : Int} {s : List Int} (h : Dn (a :: s)) : ∀ x ∈ s, a < x := (List.pairwise_cons.1 h).1
theorem cpush1_mem {s : List Int} {x : Int} : ∀ y ∈ (cpush1 s x).1, y = x ∨ y ∈ s := by
  induction s with
  | nil => intro y hy; simp [cpush1] at hy; exact .inl hy
  | cons a s ih =>
    intro y hy
    by_cases h : x ≤ a
    · rw [cpush1_le h] at hy
      rcases List.mem_cons.1 hy with e | e
      · exact .inl e
      · exact .inr (List.mem_cons_of_mem _ e)
    · rw [cpush1_gt (by omega)] at hy
      rcases List.mem_cons.1 hy with e | e
      · exact .inr (by rw [e]; simp)
      · rcases ih y e with e | e
        · exact .inl e
        · exact .inr (List.mem_cons_of_mem _ e)
theorem cpush1_out {s : List Int} {x q : Int} : (cpush1 s x).2 = some q → q ∈ s ∧ x ≤ q := by
  induction s with
  | nil => intro h; simp [cpush1] at h
  | cons a s ih =>
    intro h
    by_cases c : x ≤ a
    · rw [cpush1_le c] at h
      obtain rfl : a = q := by simpa using h
      exact ⟨by simp, c⟩
    · rw [cpush1_gt (by omega)] at h
      have := ih h
      exact ⟨List.mem_cons_of_mem _ this.1, this.2⟩
theorem cpush1_dn {s : List Int} {x : Int} (h : Dn s) : Dn (cpush1 s x).1 := by
  induction s with
  | nil => simp [cpush1, Dn]
  | cons a s ih =>
    by_cases c : x ≤ a
    · rw [cpush1_le c]
      exact List.pairwise_cons.2 ⟨fun y hy => by have := h.head y hy; omega, h.tail⟩
    · rw [cpush1_gt (by omega)]
      refine List.pairwise_cons.2 ⟨fun y hy => ?_, ih h.tail⟩
      rcases cpush1_mem y hy with e | e
      · omega
      · exact h.head y e
theorem cpush1_ne {s : List Int} {x : Int} : (cpush1 s x).1 ≠ [] := by
  cases s with
  | nil => simp [cpush1]
  | cons a s =>
    by_cases c : x ≤ a
    · rw [cpush1_le c]; simp
    · rw [cpush1_gt (by omega)]; simp
theorem cpush1_head {s : List Int} {y : Int} : ∃ h t, (cpush1 s y).1 = h :: t ∧ (h = y ∨ h ∈ s) ∧ ∀ z, (cpush1 s y).2 = some z → h ≤ z := by
  cases s with
  | nil => exact ⟨y, [], rfl, .inl rfl, fun z e => by simp [cpush1] at e⟩
  | cons a s =>
    by_cases c : y ≤ a
    · rw [cpush1_le c]
      refine ⟨y, s, rfl, .inl rfl, fun z e => ?_⟩
      have e' : a = z := by simpa using e
      rw [← e']; exact c
    · rw [cpush1_gt (by omega)]
      exact ⟨a, _, rfl, .inr (by simp), fun z e => by have := (cpush1_out e).2; omega⟩
theorem cslip {y a : Int} (hy : y ≤ a) : ∀ (d : List Int), d.Pairwise (fun p q => q < p) → (∀ x ∈ d, a < x) → Kn (y :: (d ++ [a])) (d ++ [y, a])
  | [], _, _ => .refl _
  | b :: d, hp, hd => by
    have ih := cslip hy d (List.pairwise_cons.1 hp).2 (fun x hx => hd x (List.mem_cons_of_mem _ hx))
    have hb := hd b (by simp)
    have h1 : Kn (y :: b :: (d ++ [a])) (b :: y :: (d ++ [a])) := by
      cases d with
      | nil => exact .one (.b y a b hy hb)
      | cons e d =>
        have he := hd e (by simp)
        have hbe := (List.pairwise_cons.1 hp).1 e (by simp)
        exact Kn.right (d ++ [a]) (.one (.b y e b (by omega) hbe))
    exact h1.trans (Kn.cons b ih)
theorem cpush1_Kn {c : List Int} {y : Int} (h : Dn c) : Kn (y :: c.reverse) ((cpush1 c y).1.reverse ++ (cpush1 c y).2.toList) := by
  induction c with
  | nil => exact .refl _
  | cons a c ih =>
    by_cases k : y ≤ a
    · rw [cpush1_le k]
      have := cslip k c.reverse (List.pairwise_reverse.2 h.tail) (fun x hx => h.head x (by simpa using hx))
      simpa using this
    · rw [cpush1_gt (by omega)]
      have h1 := (ih h.tail).right [a]
      obtain ⟨p, t, e1, hp, hz⟩ := cpush1_head (s := c) (y := y)
      have hap : a < p := by
        rcases hp with e | e
        · omega
        · exact h.head p e
      simp only [List.reverse_cons]
      refine (by simpa using h1 : Kn (y :: (c.reverse ++ [a])) ((cpush1 c y).1.reverse ++ ((cpush1 c y).2.toList ++ [a]))).trans ?_
      cases e2 : (cpush1 c y).2 with
      | none => simp only [Option.toList, List.nil_append, List.append_nil]; exact .refl _
      | some z =>
        have h2 := hz z e2
        rw [e1]
        have h3 := Kn.left t.reverse (Kn.one (.a a p z hap h2))
        simpa [Option.toList] using h3
theorem cins1_Kn : ∀ {cs : List (List Int)} {y : Int}, (∀ c ∈ cs, Dn c) → Kn (y :: cword cs) (cword (cins1 cs y))
  | [], y, _ => .refl _
  | c :: cs, y, h => by
    have h1 := (cpush1_Kn (y := y) (h c (by simp))).right (cword cs)
    simp only [cword, cins1]
    refine (by simpa using h1 : Kn (y :: (c.reverse ++ cword cs)) ((cpush1 c y).1.reverse ++ ((cpush1 c y).2.toList ++ cword cs))).trans ?_
    cases e : (cpush1 c y).2 with
    | none => exact .refl _
    | some z =>
      have h3 := (cins1_Kn (y := z) (fun s hs => h s (List.mem_cons_of_mem _ hs))).left (cpush1 c y).1.reverse
      simpa [cword, Option.toList] using h3

/-- Column by column. -/
def CDom : List Int → List Int → Prop
  | _, [] => True
  | [], _ :: _ => False
  | a :: r, b :: s => a ≤ b ∧ CDom r s
def CTab : List (List Int) → Prop
  | [] => True
  | r :: t => r ≠ [] ∧ Dn r ∧ CDom r (t.headD []) ∧ CTab t
theorem CTab.dn : ∀ {T : List (List Int)}, CTab T → ∀ r ∈ T, Dn r
  | [], _ => fun r hr => by simp at hr
  | s :: t, h => fun r hr => by
    rcases List.mem_cons.1 hr with e | e
    · rw [e]; exact h.2.1
    · exact h.2.2.2.dn r e
theorem CTab.ne : ∀ {T : List (List Int)}, CTab T → ∀ r ∈ T, r ≠ []
  | [], _ => fun r hr => by simp at hr
  | s :: t, h => fun r hr => by
    rcases List.mem_cons.1 hr with e | e
    · rw [e]; exact h.1
    · exact h.2.2.2.ne r e
theorem cdom_low : ∀ {r s : List Int} {x z : Int}, CDom r s → (cpush1 r x).2 = some z → CDom (cpush1 r x).1 s
  | _, [], _, _, _, _ => by simp only [CDom]
  | [], _ :: _, _, _, h, _ => h.elim
  | a :: r, b :: s, x, z, h, e => by
    by_cases c : x ≤ a
    · rw [cpush1_le c]; exact ⟨by have := h.1; omega, h.2⟩
    · rw [cpush1_gt (by omega)] at e ⊢
      exact ⟨h.1, cdom_low h.2 e⟩
theorem cdom_push : ∀ {r s : List Int} {x z : Int}, Dn r → CDom r s → (cpush1 r x).2 = some z → CDom (cpush1 r x).1 (cpush1 s z).1
  | [], _, x, z, _, _, e => by simp [cpush1] at e
  | a :: r, [], x, z, hr, _, e => by
    by_cases c : x ≤ a
    · rw [cpush1_le c] at e ⊢
      obtain rfl : a = z := by simpa using e
      exact ⟨c, by simp only [CDom]⟩
    · rw [cpush1_gt (by omega)] at e ⊢
      have := (cpush1_out e).2
      exact ⟨by omega, by simp only [CDom]⟩
  | a :: r, b :: s, x, z, hr, h, e => by
    by_cases c : x ≤ a
    · rw [cpush1_le c] at e ⊢
      obtain rfl : a = z := by simpa using e
      rw [cpush1_le h.1]
      exact ⟨c, h.2⟩
    · rw [cpush1_gt (by omega)] at e ⊢
      have hz := (cpush1_out e).2
      by_cases c2 : z ≤ b
      · rw [cpush1_le c2]
        exact ⟨by omega, cdom_low h.2 e⟩
      · rw [cpush1_gt (by omega)]
        exact ⟨h.1, cdom_push hr.tail h.2 e⟩
theorem cdom_grow : ∀ {r s : List Int} {x : Int}, CDom r s → (cpush1 r x).2 = none → CDom (cpush1 r x).1 s
  | _, [], _, _, _ => by simp only [CDom]
  | [], _ :: _, _, h, _ => h.elim
  | a :: r, b :: s, x, h, e => by
    by_cases c : x ≤ a
    · rw [cpush1_le c] at e; simp at e
    · rw [cpush1_gt (by omega)] at e ⊢
      exact ⟨h.1, cdom_grow h.2 e⟩
theorem cins1_headD (T : List (List Int)) (z : Int) : (cins1 T z).headD [] = (cpush1 (T.headD []) z).1 := by
  cases T with
  | nil => rfl
  | cons r t => simp only [cins1]; cases (cpush1 r z).2 <;> rfl
theorem cins1_tab : ∀ {T : List (List Int)} {x : Int}, CTab T → CTab (cins1 T x)
  | [], x, _ => ⟨by simp, List.pairwise_singleton _ _, by simp only [List.headD, CDom], trivial⟩
  | r :: t, x, h => by
    obtain ⟨h1, h2, h3, h4⟩ := h
    simp only [cins1]
    cases e : (cpush1 r x).2 with
    | none => exact ⟨cpush1_ne, cpush1_dn h2, cdom_grow h3 e, h4⟩
    | some z => exact ⟨cpush1_ne, cpush1_dn h2, by rw [cins1_headD]; exact cdom_push h2 h3 e, cins1_tab h4⟩

/-- A column laid to the right of the rows. -/
def addCol : List (List Int) → List Int → List (List Int)
  | U, [] => U
  | [], b :: c => [b] :: addCol [] c
  | s :: U, b :: c => (s ++ [b]) :: addCol U c
/-- Each row's letters are no greater than the column's. -/
def ColOk : List (List Int) → List Int → Prop
  | _, [] => True
  | [], _ :: _ => True
  | s :: U, b :: c => (∀ x ∈ s, x ≤ b) ∧ ColOk U c
theorem ColOk.nil (c : List Int) : ColOk [] c := by cases c <;> simp only [ColOk]
theorem ColOk.dom : ∀ {U : List (List Int)} {d c : List Int}, ColOk U d → CDom d c → ColOk U c
  | _, _, [], _, _ => by simp only [ColOk]
  | [], _, _ :: _, _, _ => by simp only [ColOk]
  | _ :: _, [], _ :: _, _, h => h.elim
  | s :: U, a :: d, b :: c, h, h' => ⟨fun x hx => by have := h.1 x hx; have := h'.1; omega, h.2.dom h'.2⟩
theorem ColOk.add : ∀ {U : List (List Int)} {c : List Int}, ColOk U c → ColOk (addCol U c) c
  | _, [], _ => by simp only [ColOk]
  | [], b :: c, _ => ⟨fun x hx => by simp at hx; omega, (ColOk.nil c).add⟩
  | s :: U, b :: c, h => ⟨fun x hx => by
      rcases List.mem_append.1 hx with e | e
      · exact h.1 x e
      · simp at e; omega, h.2.add⟩
theorem push1_snoc {s : List Int} {b b2 : Int} (h : ∀ x ∈ s, x ≤ b) (hb : b < b2) : push1 (s ++ [b2]) b = (s ++ [b], some b2) := by
  induction s with
  | nil => simp only [List.nil_append]; rw [push1_lt hb]
  | cons a s ih =>
    simp only [List.cons_append]
    rw [push1_ge (h a (by simp)), ih (fun x hx => h x (List.mem_cons_of_mem _ hx))]
theorem push1_end {s : List Int} {b : Int} (h : ∀ x ∈ s, x ≤ b) : push1 s b = (s ++ [b], none) := by
  induction s with
  | nil => rfl
  | cons a s ih => rw [push1_ge (h a (by simp)), ih (fun x hx => h x (List.mem_cons_of_mem _ hx))]; rfl
theorem pushW_col : ∀ (c : List Int) {s : List Int} {b : Int}, Dn (b :: c) → (∀ x ∈ s, x ≤ b) → pushW s (b :: c).reverse = (s ++ [b], c.reverse)
  | [], s, b, _, hs => by simp [pushW, push1_end hs]
  | b2 :: c, s, b, h, hs => by
    have hb := h.head b2 (by simp)
    have ih := pushW_col c h.tail (s := s) (fun x hx => by have := hs x hx; omega)
    rw [List.reverse_cons, pushW_append, ih]
    simp only [pushW]
    rw [push1_snoc hs hb]
    simp
theorem insW_ne {w : List Int} (h : w ≠ []) : insW [] w = (pushW [] w).1 :: insW [] (pushW [] w).2 := by
  cases w with
  | nil => exact absurd rfl h
  | cons x w => exact insW_nil x w
theorem insW_col : ∀ (c : List Int) {U : List (List Int)}, Dn c → ColOk U c → insW U c.reverse = addCol U c
  | [], U, _, _ => by simp only [addCol]; rfl
  | b :: c, [], h, _ => by
    rw [insW_ne (by simp), pushW_col c h (fun x hx => by simp at hx)]
    simp only [addCol, List.nil_append]
    rw [insW_col c h.tail (ColOk.nil c)]
  | b :: c, s :: U, h, hc => by
    rw [insW_cons, pushW_col c h hc.1]
    simp only [addCol]
    rw [insW_col c h.tail hc.2]
def fillC (U cs : List (List Int)) : List (List Int) := cs.foldl addCol U
theorem insW_cols : ∀ (cs : List (List Int)) {U : List (List Int)}, CTab cs → ColOk U (cs.headD []) → insW U (cword cs) = fillC U cs
  | [], _, _, _ => rfl
  | c :: cs, U, h, hc => by
    obtain ⟨_, h2, h3, h4⟩ := h
    simp only [cword]
    have hc' : ColOk U c := hc
    rw [insW_append, insW_col c h2 hc', insW_cols cs h4 (hc'.add.dom h3)]
    rfl

/-- Rows and columns of one filling. -/
structure Rep (T cs : List (List Int)) : Prop where
  ent : ∀ i j, (T.getD i [])[j]? = (cs.getD j [])[i]?
  row : ∀ r ∈ T, r ≠ []
  col : ∀ c ∈ cs, c ≠ []
theorem Rep.symm {T cs : List (List Int)} (h : Rep T cs) : Rep cs T := ⟨fun i j => (h.ent j i).symm, h.col, h.row⟩
theorem Rep.height {T cs : List (List Int)} (h : Rep T cs) : T.length = (cs.getD 0 []).length := by
  have key : ∀ i, i < T.length ↔ i < (cs.getD 0 []).length := fun i => by
    have e := h.ent i 0
    constructor
    · intro hi
      have h0 : T.getD i [] = T[i] := by rw [List.getD_eq_getElem?_getD, List.getElem?_eq_getElem hi]; rfl
      have h1 := h.row _ (List.getElem_mem hi)
      rw [h0] at e
      apply Classical.byContradiction
      intro hn
      rw [List.getElem?_eq_none (l := cs.getD 0 []) (by omega)] at e
      have h2 : (T[i]).length ≤ 0 := List.getElem?_eq_none_iff.1 e
      exact h1 (List.eq_nil_of_length_eq_zero (by omega))
    · intro hi
      apply Classical.byContradiction
      intro hn
      have h0 : T.getD i [] = [] := by rw [List.getD_eq_getElem?_getD, List.getElem?_eq_none (by omega)]; rfl
      rw [h0, List.getElem?_eq_getElem hi] at e
      simp at e
  have h1 := key T.length
  have h2 := key (cs.getD 0 []).length
  omega
theorem Rep.uniq {T T' cs : List (List Int)} (h : Rep T cs) (h' : Rep T' cs) : T = T' := by
  apply List.ext_getElem (h.height.trans h'.height.symm)
  intro i h1 h2
  apply List.ext_getElem?
  intro j
  have e1 := h.ent i j
  have e2 := h'.ent i j
  have g1 : T.getD i [] = T[i] := by rw [List.getD_eq_getElem?_getD, List.getElem?_eq_getElem h1]; rfl
  have g2 : T'.getD i [] = T'[i] := by rw [List.getD_eq_getElem?_getD, List.getElem?_eq_getElem h2]; rfl
  rw [g1] at e1
  rw [g2] at e2
  rw [e1, e2]
theorem addCol_getD : ∀ (U : List (List Int)) (c : List Int) (i : Nat), (addCol U c).getD i [] = U.getD i [] ++ (c[i]?).toList
  | U, [], i => by simp [addCol]
  | [], b :: c, 0 => by simp [addCol]
  | [], b :: c, i + 1 => by
    have := addCol_getD [] c i
    simp only [addCol]
    simpa using this
  | s :: U, b :: c, 0 => by simp [addCol]
  | s :: U, b :: c, i + 1 => by
    have := addCol_getD U c i
    simp only [addCol]
    simpa using this
theorem addCol_ne : ∀ (U : List (List Int)) (c : List Int), (∀ r ∈ U, r ≠ []) → ∀ r ∈ addCol U c, r ≠ []
  | U, [], h => by simpa [addCol] using h
  | [], b :: c, h => fun r hr => by
    simp only [addCol] at hr
    rcases List.mem_cons.1 hr with e | e
    · rw [e]; simp
    · exact addCol_ne [] c h r e
  | s :: U, b :: c, h => fun r hr => by
    simp only [addCol] at hr
    rcases List.mem_cons.1 hr with e | e
    · rw [e]; simp
    · exact addCol_ne U c (fun r hr => h r (List.mem_cons_of_mem _ hr)) r e
theorem Rep.add {U ds : List (List Int)} (h : Rep U ds) {c : List Int} (hc : c ≠ []) (hl : ∀ d ∈ ds, c.length ≤ d.length) : Rep (addCol U c) (ds ++ [c]) := by
  refine ⟨fun i j => ?_, addCol_ne U c h.row, fun d hd => ?_⟩
  · rw [addCol_getD]
    by_cases ci : i < c.length
    · have hul : (U.getD i []).length = ds.length := by
        have k1 : ∀ j, j < (U.getD i []).length ↔ j < ds.length := fun j => by
          have e := h.ent i j
          constructor
          · intro hj
            apply Classical.byContradiction
            intro hn
            have h0 : ds.getD j [] = [] := by rw [List.getD_eq_getElem?_getD, List.getElem?_eq_none (by omega)]; rfl
            rw [h0, List.getElem?_eq_getElem hj] at e
            simp at e
          · intro hj
            have h0 : ds.getD j [] = ds[j] := by rw [List.getD_eq_getElem?_getD, List.getElem?_eq_getElem hj]; rfl
            have h1 := hl _ (List.getElem_mem hj)
            apply Classical.byContradiction
            intro hn
            rw [h0, List.getElem?_eq_none (by omega), List.getElem?_eq_getElem (by omega)] at e
            simp at e
        have := k1 ds.length
        have := k1 (U.getD i []).length
        omega
      rw [List.getElem?_eq_getElem ci]
      simp only [Option.toList]
      by_cases cj : j < ds.length
      · rw [List.getElem?_append_left (by omega), h.ent i j, List.getD_eq_getElem?_getD, List.getD_eq_getElem?_getD, List.getElem?_append_left cj]
      · rw [List.getElem?_append_right (by omega), hul, List.getD_eq_getElem?_getD, List.getElem?_append_right (by omega)]
        by_cases e : j = ds.length
        · subst e; simp [ci]
        · rw [List.getElem?_eq_none (l := [c[i]]) (by simp; omega), List.getElem?_eq_none (l := [c]) (by simp; omega)]; rfl
    · rw [List.getElem?_eq_none (l := c) (by omega)]
      simp only [Option.toList, List.append_nil]
      rw [h.ent i j, List.getD_eq_getElem?_getD, List.getD_eq_getElem?_getD]
      by_cases cj : j < ds.length
      · rw [List.getElem?_append_left cj]
      · rw [List.getElem?_eq_none (l := ds) (by omega), List.getElem?_append_right (by omega)]
        by_cases e : j = ds.length
        · subst e; simp; omega
        · rw [List.getElem?_eq_none (l := [c]) (by simp; omega)]
  · rcases List.mem_append.1 hd with e | e
    · exact h.col d e
    · simp at e; rw [e]; exact hc
theorem Rep.fill : ∀ (cs : List (List Int)) {U ds : List (List Int)}, Rep U ds → (∀ c ∈ cs, c ≠ []) → (ds ++ cs).Pairwise (fun d c => c.length ≤ d.length) → Rep (fillC U cs) (ds ++ cs)
  | [], U, ds, h, _, _ => by simpa [fillC] using h
  | c :: cs, U, ds, h, hc, hp => by
    have h1 := h.add (hc c (by simp)) (fun d hd => (List.pairwise_append.1 hp).2.2 d hd c (by simp))
    have h2 := Rep.fill cs h1 (fun d hd => hc d (List.mem_cons_of_mem _ hd)) (by simpa using hp)
    have e : fillC U (c :: cs) = fillC (addCol U c) cs := rfl
    rw [e]
    simpa using h2
theorem Rep.nil : Rep [] [] := ⟨fun i j => by simp, fun r hr => by simp at hr, fun r hr => by simp at hr⟩
theorem cdom_len : ∀ {c d : List Int}, CDom c d → d.length ≤ c.length
  | _, [], _ => by simp
  | [], _ :: _, h => h.elim
  | a :: c, b :: d, h => by have := cdom_len h.2; simp; omega
theorem dom_len : ∀ {c d : List Int}, Dom c d → d.length ≤ c.length
  | _, [], _ => by simp
  | [], _ :: _, h => h.elim
  | a :: c, b :: d, h => by have := dom_len h.2; simp; omega
theorem CTab.lens : ∀ {cs : List (List Int)}, CTab cs → cs.Pairwise (fun d c => c.length ≤ d.length) ∧ ∀ c ∈ cs, c.length ≤ (cs.headD []).length
  | [], _ => ⟨List.Pairwise.nil, fun c hc => by simp at hc⟩
  | c :: cs, h => by
    obtain ⟨_, _, h3, h4⟩ := h
    have h5 := cdom_len h3
    have ih := h4.lens
    have h6 : ∀ d ∈ cs, d.length ≤ c.length := fun d hd => by have := ih.2 d hd; omega
    refine ⟨List.pairwise_cons.2 ⟨h6, ih.1⟩, fun d hd => ?_⟩
    rcases List.mem_cons.1 hd with e | e
    · rw [e]; simp
    · simpa using h6 d e
theorem Tab.lens : ∀ {cs : List (List Int)}, Tab cs → cs.Pairwise (fun d c => c.length ≤ d.length) ∧ ∀ c ∈ cs, c.length ≤ (cs.headD []).length
  | [], _ => ⟨List.Pairwise.nil, fun c hc => by simp at hc⟩
  | c :: cs, h => by
    obtain ⟨_, _, h3, h4⟩ := h
    have h5 := dom_len h3
    have ih := h4.lens
    have h6 : ∀ d ∈ cs, d.length ≤ c.length := fun d hd => by have := ih.2 d hd; omega
    refine ⟨List.pairwise_cons.2 ⟨h6, ih.1⟩, fun d hd => ?_⟩
    rcases List.mem_cons.1 hd with e | e
    · rw [e]; simp
    · simpa using h6 d e
theorem Tab.ne : ∀ {T : List (List Int)}, Tab T → ∀ r ∈ T, r ≠ []
  | [], _ => fun r hr => by simp at hr
  | s :: t, h => fun r hr => by
    rcases List.mem_cons.1 hr with e | e
    · rw [e]; exact h.1
    · exact h.2.2.2.ne r e
/-- The rows of a tableau's columns: what the columns' word makes. -/
theorem Rep.made {T cs : List (List Int)} (h : Rep T cs) (hc : CTab cs) : T = insW [] (cword cs) := by
  have h1 := Rep.fill cs Rep.nil hc.ne (by simpa using hc.lens.1)
  rw [insW_cols cs hc (ColOk.nil _)]
  exact h.uniq (by simpa using h1)
theorem cdom_of : ∀ {c d : List Int}, (∀ (i : Nat) b, d[i]? = some b → ∃ a, c[i]? = some a ∧ a ≤ b) → CDom c d
  | _, [], _ => by simp only [CDom]
  | [], b :: d, h => by
    obtain ⟨a, ha, _⟩ := h 0 b rfl
    simp at ha
  | a :: c, b :: d, h => by
    obtain ⟨a', ha, hb⟩ := h 0 b rfl
    obtain rfl : a = a' := by simpa using ha
    exact ⟨hb, cdom_of (fun i b hb => by simpa using h (i + 1) b (by simpa using hb))⟩
theorem dom_of : ∀ {c d : List Int}, (∀ (i : Nat) b, d[i]? = some b → ∃ a, c[i]? = some a ∧ a < b) → Dom c d
  | _, [], _ => by simp only [Dom]
  | [], b :: d, h => by
    obtain ⟨a, ha, _⟩ := h 0 b rfl
    simp at ha
  | a :: c, b :: d, h => by
    obtain ⟨a', ha, hb⟩ := h 0 b rfl
    obtain rfl : a = a' := by simpa using ha
    exact ⟨hb, dom_of (fun i b hb => by simpa using h (i + 1) b (by simpa using hb))⟩
theorem dom_at : ∀ {c d : List Int} {i : Nat} {b : Int}, Dom c d → d[i]? = some b → ∃ a, c[i]? = some a ∧ a < b
  | _, [], _, _, _, e => by simp at e
  | [], _ :: _, _, _, h, _ => h.elim
  | a :: c, b :: d, 0, b', h, e => by
    have e' : b = b' := by simpa using e
    exact ⟨a, rfl, by rw [← e']; exact h.1⟩
  | a :: c, b :: d, i + 1, b', h, e => by simpa using dom_at (i := i) h.2 (by simpa using e)
theorem dn_of : ∀ {c : List Int}, (∀ (i : Nat) a b, c[i]? = some a → c[i + 1]? = some b → a < b) → Dn c
  | [], _ => List.Pairwise.nil
  | [a], _ => List.pairwise_singleton _ _
  | a :: b :: c, h => by
    have ih := dn_of (c := b :: c) (fun i x y hx hy => h (i + 1) x y (by simpa using hx) (by simpa using hy))
    have hab := h 0 a b rfl rfl
    refine List.pairwise_cons.2 ⟨fun x hx => ?_, ih⟩
    rcases List.mem_cons.1 hx with e | e
    · rw [e]; exact hab
    · have := ih.head x e; omega
theorem up_of : ∀ {c : List Int}, (∀ (i : Nat) a b, c[i]? = some a → c[i + 1]? = some b → a ≤ b) → Up c
  | [], _ => List.Pairwise.nil
  | [a], _ => List.pairwise_singleton _ _
  | a :: b :: c, h => by
    have ih := up_of (c := b :: c) (fun i x y hx hy => h (i + 1) x y (by simpa using hx) (by simpa using hy))
    have hab := h 0 a b rfl rfl
    refine List.pairwise_cons.2 ⟨fun x hx => ?_, ih⟩
    rcases List.mem_cons.1 hx with e | e
    · rw [e]; exact hab
    · have := ih.head x e; omega
theorem up_at : ∀ {c : List Int} {i : Nat} {b : Int}, Up c → c[i + 1]? = some b → ∃ a, c[i]? = some a ∧ a ≤ b
  | [], _, _, _, e => by simp at e
  | a :: c, 0, b, h, e => ⟨a, rfl, h.head b (List.mem_of_getElem? (by simpa using e))⟩
  | a :: c, i + 1, b, h, e => by simpa using up_at (i := i) h.tail (by simpa using e)
theorem ctab_of : ∀ {cs : List (List Int)}, (∀ c ∈ cs, c ≠ [] ∧ Dn c) → (∀ j, CDom (cs.getD j []) (cs.getD (j + 1) [])) → CTab cs
  | [], _, _ => trivial
  | c :: cs, h, hd => by
    have h0 := h c (by simp)
    have hd0 := hd 0
    refine ⟨h0.1, h0.2, ?_, ctab_of (fun d hd => h d (List.mem_cons_of_mem _ hd)) (fun j => by simpa using hd (j + 1))⟩
    cases cs with
    | nil => simp only [List.headD, CDom]
    | cons d cs => simpa using hd0
theorem tab_of : ∀ {cs : List (List Int)}, (∀ c ∈ cs, c ≠ [] ∧ Up c) → (∀ j, Dom (cs.getD j []) (cs.getD (j + 1) [])) → Tab cs
  | [], _, _ => trivial
  | c :: cs, h, hd => by
    have h0 := h c (by simp)
    have hd0 := hd 0
    refine ⟨h0.1, h0.2, ?_, tab_of (fun d hd => h d (List.mem_cons_of_mem _ hd)) (fun j => by simpa using hd (j + 1))⟩
    cases cs with
    | nil => simp only [List.headD, Dom]
    | cons d cs => simpa using hd0
theorem Tab.dom : ∀ {T : List (List Int)}, Tab T → ∀ i, Dom (T.getD i []) (T.getD (i + 1) [])
  | [], _, _ => by simp [Dom]
  | [r], _, 0 => by simp [Dom]
  | r :: s :: t, h, 0 => by simpa using h.2.2.1
  | r :: t, h, i + 1 => by
    have := h.2.2.2.dom i
    simpa using this
theorem Tab.upD {T : List (List Int)} (h : Tab T) (i : Nat) : Up (T.getD i []) := by
  rw [List.getD_eq_getElem?_getD]
  cases e : T[i]? with
  | none => exact List.Pairwise.nil
  | some r => exact h.up r (List.mem_of_getElem? e)
/-- A tableau's columns. -/
theorem Tab.cols {T : List (List Int)} (h : Tab T) : ∃ cs, Rep T cs ∧ CTab cs := by
  have h1 := Rep.fill T Rep.nil h.ne (by simpa using h.lens.1)
  have hr : Rep T (fillC [] T) := by simpa using h1.symm
  refine ⟨fillC [] T, hr, ctab_of (fun c hc => ⟨hr.col c hc, ?_⟩) (fun j => cdom_of (fun i b hb => ?_))⟩
  · obtain ⟨j, hj, e⟩ := List.getElem_of_mem hc
    have g : (fillC [] T).getD j [] = c := by rw [List.getD_eq_getElem?_getD, List.getElem?_eq_getElem hj, e]; rfl
    refine dn_of (fun i a b ha hb => ?_)
    rw [← g, ← hr.ent] at ha hb
    obtain ⟨a', ha', hlt⟩ := dom_at (h.dom i) hb
    rw [ha] at ha'
    obtain rfl : a = a' := by simpa using ha'
    exact hlt
  · rw [← hr.ent] at hb
    obtain ⟨a, ha, hle⟩ := up_at (h.upD i) hb
    exact ⟨a, by rw [← hr.ent]; exact ha, hle⟩
/-- What goes in by columns goes ahead of the word. -/
theorem left_made {T T' cs : List (List Int)} {y : Int} (h : Rep T cs) (hc : CTab cs) (h' : Rep T' (cins1 cs y)) : T' = insW [] (y :: rword T) := by
  rw [h'.made (cins1_tab hc)]
  refine insW_Kn0 _ (Nat.le_refl _) ?_
  refine (cins1_Kn hc.dn).symm.trans (Kn.cons y ?_)
  have h1 : insW [] (cword cs) = T := (h.made hc).symm
  have h2 := insW_word (cword cs) (T := []) (fun r hr => by simp at hr)
  rw [h1] at h2
  exact h2
end Go.Proofs.Ytpmkdihencepnaa

/-
  Plain: tableaux as the house checks them.
-/
namespace Go.Proofs.Ytpmkdihencepnaa

/-- How many boxes. -/
def boxes (T : List (List Int)) : Nat := (T.map List.length).sum
theorem boxes_nil : boxes [] = 0 := rfl
theorem boxes_cons (r : List Int) (T : List (List Int)) : boxes (r :: T) = r.length + boxes T := by simp [boxes]
theorem boxes_append (T U : List (List Int)) : boxes (T ++ U) = boxes T + boxes U := by simp [boxes]
theorem boxes_take {T : List (List Int)} {i : Nat} (h : i < T.length) : boxes (T.take (i + 1)) = boxes (T.take i) + (T.getD i []).length := by
  rw [take_snoc h, boxes_append, getD_get h, boxes_cons, boxes_nil]; omega
theorem boxes_le {T : List (List Int)} (i : Nat) : boxes (T.take i) ≤ boxes T := by
  have : boxes T = boxes (T.take i) + boxes (T.drop i) := by rw [← boxes_append, List.take_append_drop]
  omega
theorem boxes_word : ∀ (T : List (List Int)), boxes T = (rword T).length
  | [] => rfl
  | r :: t => by rw [boxes_cons]; simp only [rword, List.length_append]; rw [boxes_word t]; omega
theorem rword_mem : ∀ {T : List (List Int)} {x : Int}, x ∈ rword T ↔ ∃ r ∈ T, x ∈ r
  | [], x => by simp [rword]
  | r :: t, x => by
    simp only [rword, List.mem_append]
    rw [rword_mem]; simp [or_comm]
theorem Kn.mem {a b : List Int} (h : Kn a b) (x : Int) : x ∈ a ↔ x ∈ b := by
  induction h with
  | refl w => rfl
  | step u v k => cases k <;> (simp; try omega) <;> (constructor <;> intro h <;> rcases h with h | h | h | h | h <;> simp [h])
  | symm _ ih => exact ih.symm
  | trans _ _ ih1 ih2 => exact ih1.trans ih2
/-- A letter of the house. -/
def Lt (x : Int) : Prop := 1 ≤ x ∧ x ≤ 99
/-- What fill.Check lets through. -/
def FillOk (T : List (List Int)) : Prop := Tab T ∧ (∀ r ∈ T, ∀ x ∈ r, Lt x) ∧ boxes T ≤ 40
theorem fill_word {w : List Int} (hl : w.length ≤ 40) (h : ∀ x ∈ w, Lt x) : FillOk (insW [] w) ∧ boxes (insW [] w) = w.length := by
  have hk := insW_word w (T := []) (fun r hr => by simp at hr)
  simp only [rword, List.nil_append] at hk
  have hb : boxes (insW [] w) = w.length := by rw [boxes_word, ← hk.len]
  refine ⟨⟨insW_tab w trivial, fun r hr x hx => ?_, by omega⟩, hb⟩
  exact h x ((hk.mem x).2 (rword_mem.2 ⟨r, hr, hx⟩))
/-- A box that is in order. -/
def BoxOk (T : List (List Int)) (i j : Nat) : Prop :=
  Lt ((T.getD i []).getD j 0) ∧ (0 < j → (T.getD i []).getD (j - 1) 0 ≤ (T.getD i []).getD j 0) ∧ (0 < i → (T.getD (i - 1) []).getD j 0 < (T.getD i []).getD j 0)
/-- A row that is in order. -/
def RowOk (T : List (List Int)) (i : Nat) : Prop :=
  (T.getD i []).length ≠ 0 ∧ (0 < i → (T.getD i []).length ≤ (T.getD (i - 1) []).length) ∧ ∀ j, j < (T.getD i []).length → BoxOk T i j
theorem some_getD {l : List Int} {j : Nat} {x : Int} (h : l[j]? = some x) : j < l.length ∧ l.getD j 0 = x := by
  obtain ⟨h1, h2⟩ := List.getElem?_eq_some_iff.1 h
  exact ⟨h1, by rw [getD_get h1]; exact h2⟩
theorem getD_some {l : List Int} {j : Nat} (h : j < l.length) : l[j]? = some (l.getD j 0) := by rw [getD_get h]; exact List.getElem?_eq_getElem h
theorem fill_of {T : List (List Int)} (hb : boxes T ≤ 40) (h : ∀ i, i < T.length → RowOk T i) : FillOk T := by
  have hg : ∀ r ∈ T, ∃ i, i < T.length ∧ T.getD i [] = r := fun r hr => by
    obtain ⟨i, hi, e⟩ := List.getElem_of_mem hr
    exact ⟨i, hi, by rw [getD_get hi]; exact e⟩
  refine ⟨tab_of (fun r hr => ?_) (fun i => ?_), fun r hr x hx => ?_, hb⟩
  · obtain ⟨i, hi, rfl⟩ := hg r hr
    have hr := h i hi
    refine ⟨fun e => hr.1 (by rw [e]; rfl), up_of (fun j a b ha hb => ?_)⟩
    obtain ⟨_, ea⟩ := some_getD ha
    obtain ⟨hl, eb⟩ := some_getD hb
    have := (hr.2.2 (j + 1) hl).2.1 (by omega)
    rw [Nat.add_sub_cancel, ea, eb] at this
    exact this
  · by_cases hi : i + 1 < T.length
    · have hr := h (i + 1) hi
      refine dom_of (fun j b hb => ?_)
      obtain ⟨hl, eb⟩ := some_getD hb
      have h1 := hr.2.1 (by omega)
      rw [Nat.add_sub_cancel] at h1
      have h2 := (hr.2.2 j hl).2.2 (by omega)
      rw [Nat.add_sub_cancel, eb] at h2
      exact ⟨_, getD_some (by omega), h2⟩
    · have : T.getD (i + 1) [] = [] := by rw [List.getD_eq_getElem?_getD, List.getElem?_eq_none (by omega)]; rfl
      rw [this]; simp only [Dom]
  · obtain ⟨i, hi, rfl⟩ := hg r hr
    obtain ⟨j, hj, e⟩ := List.getElem_of_mem hx
    have := ((h i hi).2.2 j hj).1
    rwa [getD_get hj, e] at this
theorem FillOk.row {T : List (List Int)} (h : FillOk T) {i : Nat} (hi : i < T.length) : RowOk T i := by
  have hm : T.getD i [] ∈ T := by rw [getD_get hi]; exact List.getElem_mem hi
  refine ⟨fun e => h.1.ne _ hm (List.eq_nil_of_length_eq_zero e), fun h0 => ?_, fun j hj => ⟨?_, fun h0 => ?_, fun h0 => ?_⟩⟩
  · have := dom_len (h.1.dom (i - 1))
    rwa [show i - 1 + 1 = i by omega] at this
  · exact h.2.1 _ hm _ (by rw [getD_get hj]; exact List.getElem_mem hj)
  · obtain ⟨a, ha, hle⟩ := up_at (i := j - 1) (h.1.upD i) (b := (T.getD i []).getD j 0) (by rw [show j - 1 + 1 = j by omega]; exact getD_some hj)
    rw [(some_getD ha).2]; exact hle
  · have hd := h.1.dom (i - 1)
    rw [show i - 1 + 1 = i by omega] at hd
    obtain ⟨a, ha, hlt⟩ := dom_at hd (getD_some hj)
    rw [(some_getD ha).2]; exact hlt
theorem FillOk.small {T : List (List Int)} (h : FillOk T) : T.length ≤ 40 ∧ ∀ i, (T.getD i []).length ≤ 40 := by
  have h1 : ∀ (U : List (List Int)), (∀ r ∈ U, r ≠ []) → U.length ≤ boxes U := fun U => by
    induction U with
    | nil => intro _; simp
    | cons r t ih =>
      intro hu
      have := ih (fun s hs => hu s (List.mem_cons_of_mem _ hs))
      have h2 : r.length ≠ 0 := fun e => hu r (by simp) (List.eq_nil_of_length_eq_zero e)
      rw [boxes_cons]; simp; omega
  have h3 := h.2.2
  have h4 := h1 T h.1.ne
  refine ⟨by omega, fun i => ?_⟩
  by_cases hi : i < T.length
  · have h5 := boxes_take hi
    have h6 := boxes_le (T := T) (i + 1)
    omega
  · rw [List.getD_eq_getElem?_getD, List.getElem?_eq_none (by omega)]; simp
end Go.Proofs.Ytpmkdihencepnaa
