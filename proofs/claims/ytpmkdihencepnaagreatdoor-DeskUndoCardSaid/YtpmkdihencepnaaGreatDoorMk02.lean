/- Part of the proof. -/
import Derived.Test.YtpmkdihencepnaaGreatDoorMk01
namespace Go.Proofs.YtpmkdihencepnaaGreatDoor
section
def push1 : List Int → Int → List Int × Option Int
 | [], x => ([x], none)
 | a :: s, x => if x < a then (x :: s, some a) else (a :: (push1 s x).1, (push1 s x).2)
theorem push1_lt {a x : Int} {s : List Int} (h : x < a) : push1 (a :: s) x = (x :: s, some a) := by simp only [push1]; rw [if_pos h]
theorem push1_ge {a x : Int} {s : List Int} (h : a ≤ x) : push1 (a :: s) x = (a :: (push1 s x).1, (push1 s x).2) := by simp only [push1]; rw [if_neg (by omega)]
def ins1 : List (List Int) → Int → List (List Int)
 | [], x => [[x]]
 | r :: t, x => match (push1 r x).2 with
  | none => (push1 r x).1 :: t
  | some z => (push1 r x).1 :: ins1 t z
def insW (T : List (List Int)) (w : List Int) : List (List Int) := w.foldl ins1 T
def pushW : List Int → List Int → List Int × List Int
 | s, [] => (s, [])
 | s, x :: w => ((pushW (push1 s x).1 w).1, (push1 s x).2.toList ++ (pushW (push1 s x).1 w).2)
theorem insW_cons (r : List Int) (t : List (List Int)) : ∀ w, insW (r :: t) w = (pushW r w).1 :: insW t (pushW r w).2 := by
 intro w
 induction w generalizing r t with
 | nil => rfl
 | cons x w ih =>
  have e : insW (r :: t) (x :: w) = insW (ins1 (r :: t) x) w := rfl
  rw [e]
  simp only [ins1, pushW]
  cases h : (push1 r x).2 with
  | none => simp only [Option.toList]; rw [ih]; rfl
  | some z =>
   simp only [Option.toList]; rw [ih]
   rfl
theorem insW_nil (x : Int) (w : List Int) : insW [] (x :: w) = (pushW [] (x :: w)).1 :: insW [] (pushW [] (x :: w)).2 := by
 have e : insW [] (x :: w) = insW [[x]] w := rfl
 rw [e, insW_cons]
 simp only [pushW, push1, Option.toList, List.nil_append]
theorem insW_append (T : List (List Int)) (u v : List Int) : insW T (u ++ v) = insW (insW T u) v := List.foldl_append
def Up (s : List Int) : Prop := s.Pairwise (· ≤ ·)
theorem Up.tail {a : Int} {s : List Int} (h : Up (a :: s)) : Up s := (List.pairwise_cons.1 h).2
theorem Up.head {a : Int} {s : List Int} (h : Up (a :: s)) : ∀ x ∈ s, a ≤ x := (List.pairwise_cons.1 h).1
theorem push1_mem {s : List Int} {x : Int} : ∀ y ∈ (push1 s x).1, y = x ∨ y ∈ s := by
 induction s with
 | nil => intro y hy; simp [push1] at hy; exact .inl hy
 | cons a s ih =>
  intro y hy
  by_cases h : x < a
  · rw [push1_lt h] at hy
    rcases List.mem_cons.1 hy with e | e
    · exact .inl e
    · exact .inr (List.mem_cons_of_mem _ e)
  · rw [push1_ge (by omega)] at hy
    rcases List.mem_cons.1 hy with e | e
    · exact .inr (by rw [e]; simp)
    · rcases ih y e with e | e
      · exact .inl e
      · exact .inr (List.mem_cons_of_mem _ e)
theorem push1_out {s : List Int} {x q : Int} : (push1 s x).2 = some q → q ∈ s ∧ x < q := by
 induction s with
 | nil => intro h; simp [push1] at h
 | cons a s ih =>
  intro h
  by_cases c : x < a
  · rw [push1_lt c] at h
    obtain rfl : a = q := by simpa using h
    exact ⟨by simp, c⟩
  · rw [push1_ge (by omega)] at h
    have := ih h
    exact ⟨List.mem_cons_of_mem _ this.1, this.2⟩
theorem push1_up {s : List Int} {x : Int} (h : Up s) : Up (push1 s x).1 := by
 induction s with
 | nil => simp [push1, Up]
 | cons a s ih =>
  by_cases c : x < a
  · rw [push1_lt c]
    exact List.pairwise_cons.2 ⟨fun y hy => by have := h.head y hy; omega, h.tail⟩
  · rw [push1_ge (by omega)]
    refine List.pairwise_cons.2 ⟨fun y hy => ?_, ih h.tail⟩
    rcases push1_mem y hy with e | e
    · omega
    · exact h.head y e
theorem pushW_up : ∀ (w : List Int) {s : List Int}, Up s → Up (pushW s w).1
 | [], _, h => h
 | _ :: w, _, h => pushW_up w (push1_up h)
theorem push1_len {s : List Int} {x : Int} : (push1 s x).1.length + (push1 s x).2.toList.length = s.length + 1 := by
 induction s with
 | nil => simp [push1]
 | cons a s ih =>
  by_cases c : x < a
  · rw [push1_lt c]; simp
  · rw [push1_ge (by omega)]; simp only [List.length_cons]; omega
theorem pushW_len : ∀ (w : List Int) (s : List Int), (pushW s w).1.length + (pushW s w).2.length = s.length + w.length
 | [], s => by simp [pushW]
 | x :: w, s => by
  have h1 := pushW_len w (push1 s x).1
  have h2 := push1_len (s := s) (x := x)
  simp only [pushW, List.length_append, List.length_cons]
  omega
theorem push1_pos {s : List Int} {x : Int} : 0 < (push1 s x).1.length := by
 cases s with
 | nil => simp [push1]
 | cons a s =>
  by_cases c : x < a
  · rw [push1_lt c]; simp
  · rw [push1_ge (by omega)]; simp
theorem pushW_grow : ∀ (w : List Int) (s : List Int), s.length ≤ (pushW s w).1.length
 | [], s => by simp [pushW]
 | x :: w, s => by
  have h1 := pushW_grow w (push1 s x).1
  have h2 := push1_len (s := s) (x := x)
  have h3 : (push1 s x).2.toList.length ≤ 1 := by cases (push1 s x).2 <;> simp
  simp only [pushW]; omega
theorem push_right {s : List Int} {y z : Int} (h : Up s) (hyz : y ≤ z) :
 ((push1 s y).2 = none → (push1 (push1 s y).1 z).2 = none) ∧ ∀ p q, (push1 s y).2 = some p → (push1 (push1 s y).1 z).2 = some q → p ≤ q := by
 induction s with
 | nil =>
  simp only [push1]
  rw [if_neg (by omega)]
  exact ⟨fun _ => rfl, fun p q e => by simp at e⟩
 | cons a s ih =>
  by_cases c : y < a
  · rw [push1_lt c, push1_ge hyz]
    refine ⟨fun e => by simp at e, fun p q e1 e2 => ?_⟩
    obtain rfl : a = p := by simpa using e1
    exact h.head q (push1_out e2).1
  · rw [push1_ge (by omega), push1_ge (by omega)]
    exact ih h.tail
theorem push_left {s : List Int} {y z : Int} (hyz : y < z) : ∃ p, (push1 (push1 s z).1 y).2 = some p ∧ p ≤ z := by
 induction s with
 | nil => simp only [push1]; rw [if_pos hyz]; exact ⟨z, rfl, Int.le_refl _⟩
 | cons a s ih =>
  by_cases c : z < a
  · rw [push1_lt c, push1_lt hyz]; exact ⟨z, rfl, Int.le_refl _⟩
  · rw [push1_ge (by omega)]
    by_cases c2 : y < a
    · rw [push1_lt c2]; exact ⟨a, rfl, by omega⟩
    · rw [push1_ge (by omega)]; exact ih
inductive K1 : List Int → List Int → Prop
 | a (x y z : Int) : x < y → y ≤ z → K1 [y, z, x] [y, x, z]
 | b (x y z : Int) : x ≤ y → y < z → K1 [x, z, y] [z, x, y]
inductive Kn : List Int → List Int → Prop
 | refl (w : List Int) : Kn w w
 | step {a b : List Int} (u v : List Int) : K1 a b → Kn (u ++ a ++ v) (u ++ b ++ v)
 | symm {a b : List Int} : Kn a b → Kn b a
 | trans {a b c : List Int} : Kn a b → Kn b c → Kn a c
theorem Kn.one {a b : List Int} (h : K1 a b) : Kn a b := by
 have := Kn.step [] [] h
 simpa using this
theorem Kn.ctx {a b : List Int} (u v : List Int) (h : Kn a b) : Kn (u ++ a ++ v) (u ++ b ++ v) := by
 induction h with
 | refl w => exact .refl _
 | step u' v' k =>
  have := Kn.step (u ++ u') (v' ++ v) k
  simpa [List.append_assoc] using this
 | symm _ ih => exact ih.symm
 | trans _ _ ih1 ih2 => exact ih1.trans ih2
theorem Kn.left {a b : List Int} (u : List Int) (h : Kn a b) : Kn (u ++ a) (u ++ b) := by
 have := h.ctx u []
 simpa using this
theorem Kn.right {a b : List Int} (v : List Int) (h : Kn a b) : Kn (a ++ v) (b ++ v) := h.ctx [] v
theorem Kn.cons {a b : List Int} (x : Int) (h : Kn a b) : Kn (x :: a) (x :: b) := h.left [x]
theorem Kn.len {a b : List Int} (h : Kn a b) : a.length = b.length := by
 induction h with
 | refl w => rfl
 | step u v k => cases k <;> simp
 | symm _ ih => exact ih.symm
 | trans _ _ ih1 ih2 => exact ih1.trans ih2
theorem pushW_three (s : List Int) (x y z : Int) : pushW s [x, y, z] = ((push1 (push1 (push1 s x).1 y).1 z).1, (push1 s x).2.toList ++ ((push1 (push1 s x).1 y).2.toList ++ (push1 (push1 (push1 s x).1 y).1 z).2.toList)) := by
 simp [pushW]
theorem push_K1 {s : List Int} (hs : Up s) {a b : List Int} (k : K1 a b) : (pushW s a).1 = (pushW s b).1 ∧ Kn (pushW s a).2 (pushW s b).2 := by
 cases k with
 | a x y z hxy hyz =>
  rw [pushW_three, pushW_three]
  induction s with
  | nil =>
   simp only [push1]
   rw [if_neg (by omega), if_pos hxy]
   simp only [push1]
   rw [if_pos hxy, if_neg (by omega)]
   exact ⟨rfl, .refl _⟩
  | cons h s ih =>
   by_cases c : y < h
   · rw [push1_lt c, push1_ge hyz, push1_lt hxy, push1_lt hxy, push1_ge (show x ≤ z by omega)]
     refine ⟨rfl, ?_⟩
     cases e : (push1 s z).2 with
     | none => exact .refl _
     | some q =>
      have := hs.head q (push1_out e).1
      exact .one (.a y h q c this)
   · rw [push1_ge (show h ≤ y by omega), push1_ge (show h ≤ z by omega)]
     by_cases c2 : x < h
     · rw [push1_lt c2, push1_lt c2, push1_ge (show x ≤ z by omega)]
       refine ⟨rfl, ?_⟩
       have hr := push_right hs.tail hyz
       cases e : (push1 s y).2 with
       | none => rw [hr.1 e]; exact .refl _
       | some p =>
        cases e2 : (push1 (push1 s y).1 z).2 with
        | none => exact .refl _
        | some q =>
         have h1 := hr.2 p q e e2
         have h2 := (push1_out e).2
         exact .one (.a h p q (by omega) h1)
     · rw [push1_ge (show h ≤ x by omega), push1_ge (show h ≤ x by omega), push1_ge (show h ≤ z by omega)]
       have := ih hs.tail
       exact ⟨by rw [this.1], this.2⟩
 | b x y z hxy hyz =>
  rw [pushW_three, pushW_three]
  induction s with
  | nil =>
   simp only [push1]
   rw [if_neg (by omega), if_pos (show x < z by omega)]
   simp only [push1]
   rw [if_neg (by omega), if_pos hyz, if_neg (by omega)]
   exact ⟨rfl, .refl _⟩
  | cons h s ih =>
   by_cases c : x < h
   · rw [push1_lt c, push1_ge (show x ≤ z by omega), push1_ge (show x ≤ y by omega)]
     by_cases c2 : z < h
     · rw [push1_lt c2, push1_lt (show x < z by omega), push1_ge hxy]
       cases s with
       | nil =>
        simp only [push1]
        rw [if_pos hyz]
        exact ⟨rfl, .refl _⟩
       | cons g s =>
        have hg := hs.head g (by simp)
        rw [push1_lt (show z < g by omega), push1_lt hyz, push1_lt (show y < g by omega)]
        exact ⟨rfl, .one (.a z h g c2 hg)⟩
     · rw [push1_ge (show h ≤ z by omega), push1_lt c, push1_ge hxy]
       refine ⟨rfl, ?_⟩
       cases e : (push1 s z).2 with
       | none => exact .refl _
       | some q =>
        obtain ⟨p, e2, hp⟩ := push_left (s := s) hyz
        rw [e2]
        have h1 := (push1_out e).2
        have h2 : h ≤ p := by
         rcases push1_mem p (push1_out e2).1 with e3 | e3
         · omega
         · exact hs.head p e3
        exact .one (.b h p q h2 (by omega))
   · rw [push1_ge (show h ≤ x by omega), push1_ge (show h ≤ z by omega), push1_ge (show h ≤ y by omega), push1_ge (show h ≤ z by omega), push1_ge (show h ≤ x by omega), push1_ge (show h ≤ y by omega)]
     have := ih hs.tail
     exact ⟨by rw [this.1], this.2⟩
theorem pushW_append : ∀ (u v s : List Int), pushW s (u ++ v) = ((pushW (pushW s u).1 v).1, (pushW s u).2 ++ (pushW (pushW s u).1 v).2)
 | [], v, s => by simp [pushW]
 | x :: u, v, s => by simp only [List.cons_append, pushW]; rw [pushW_append u v]; simp
theorem push_Kn {a b : List Int} (h : Kn a b) : ∀ {s : List Int}, Up s → (pushW s a).1 = (pushW s b).1 ∧ Kn (pushW s a).2 (pushW s b).2 := by
 induction h with
 | refl w => exact fun _ => ⟨rfl, .refl _⟩
 | step u v k =>
  intro s hs
  have h1 := push_K1 (pushW_up u hs) k
  simp only [pushW_append]
  rw [h1.1]
  exact ⟨rfl, h1.2.ctx _ _⟩
 | symm _ ih => exact fun hs => ⟨(ih hs).1.symm, (ih hs).2.symm⟩
 | trans _ _ ih1 ih2 => exact fun hs => ⟨(ih1 hs).1.trans (ih2 hs).1, (ih1 hs).2.trans (ih2 hs).2⟩
theorem insW_Kn0 : ∀ (n : Nat) {a b : List Int}, a.length ≤ n → Kn a b → insW [] a = insW [] b
 | n, [], b, _, h => by
  have := h.len
  have e : b = [] := List.eq_nil_of_length_eq_zero (by simpa using this.symm)
  rw [e]
 | 0, x :: a, b, hl, _ => by simp at hl
 | n + 1, x :: a, b, hl, h => by
  have hlen := h.len
  cases b with
  | nil => simp at hlen
  | cons y b =>
   rw [insW_nil, insW_nil]
   have h1 := push_Kn h (s := []) List.Pairwise.nil
   rw [h1.1]
   congr 1
   refine insW_Kn0 n ?_ h1.2
   have h2 := pushW_len (x :: a) []
   have h3 : 0 < (pushW [] (x :: a)).1.length := by
    have := pushW_grow a (push1 [] x).1
    have := push1_pos (s := []) (x := x)
    simp only [pushW]; omega
   simp only [List.length_cons, List.length_nil] at h2 hl
   omega
def rword : List (List Int) → List Int
 | [] => []
 | r :: t => rword t ++ r
theorem slip {h x : Int} {s : List Int} (hs : Up (h :: s)) (hx : x < h) : Kn (h :: (s ++ [x])) (h :: x :: s) := by
 induction s generalizing h with
 | nil => exact .refl _
 | cons b s ih =>
  have hb := hs.head b (by simp)
  refine (Kn.cons h (ih hs.tail (by omega))).trans ?_
  exact Kn.right s (.one (.a x h b hx hb))
theorem push1_head {s : List Int} {x : Int} : ∃ p t, (push1 s x).1 = p :: t ∧ p ≤ x ∧ (p = x ∨ p ∈ s) := by
 cases s with
 | nil => exact ⟨x, [], rfl, Int.le_refl _, .inl rfl⟩
 | cons a s =>
  by_cases c : x < a
  · rw [push1_lt c]; exact ⟨x, s, rfl, Int.le_refl _, .inl rfl⟩
  · rw [push1_ge (by omega)]; exact ⟨a, _, rfl, by omega, .inr (by simp)⟩
theorem push1_Kn {s : List Int} {x : Int} (hs : Up s) : Kn (s ++ [x]) ((push1 s x).2.toList ++ (push1 s x).1) := by
 induction s with
 | nil => exact .refl _
 | cons h s ih =>
  by_cases c : x < h
  · rw [push1_lt c]; exact slip hs c
  · rw [push1_ge (by omega)]
    refine (Kn.cons h (ih hs.tail)).trans ?_
    cases e : (push1 s x).2 with
    | none => exact .refl _
    | some q =>
     obtain ⟨p, t, e2, h1, h2⟩ := push1_head (s := s) (x := x)
     simp only [Option.toList]
     rw [e2]
     have hq := (push1_out e).2
     have hp : h ≤ p := by
      rcases h2 with h2 | h2
      · omega
      · exact hs.head p h2
     exact Kn.right t (.one (.b h p q hp (by omega)))
theorem ins1_Kn : ∀ {T : List (List Int)} {x : Int}, (∀ r ∈ T, Up r) → Kn (rword T ++ [x]) (rword (ins1 T x))
 | [], x, _ => .refl _
 | r :: t, x, h => by
  have h1 := push1_Kn (x := x) (h r (by simp))
  have h2 := h1.left (rword t)
  simp only [rword, ins1]
  rw [List.append_assoc]
  refine h2.trans ?_
  cases e : (push1 r x).2 with
  | none => exact .refl _
  | some z =>
   have h3 := (ins1_Kn (x := z) (fun s hs => h s (List.mem_cons_of_mem _ hs))).right (push1 r x).1
   simp only [rword, Option.toList]
   simpa using h3
theorem ins1_up : ∀ {T : List (List Int)} {x : Int}, (∀ r ∈ T, Up r) → ∀ r ∈ ins1 T x, Up r
 | [], x, _ => fun r hr => by
  simp [ins1] at hr; rw [hr]; exact List.pairwise_singleton _ _
 | s :: t, x, h => fun r hr => by
  have hs := push1_up (x := x) (h s (by simp))
  have ht := fun r hr => h r (List.mem_cons_of_mem s hr)
  simp only [ins1] at hr
  cases e : (push1 s x).2 with
  | none =>
   rw [e] at hr
   rcases List.mem_cons.1 hr with e2 | e2
   · rw [e2]; exact hs
   · exact ht r e2
  | some z =>
   rw [e] at hr
   rcases List.mem_cons.1 hr with e2 | e2
   · rw [e2]; exact hs
   · exact ins1_up ht r e2
theorem insW_word : ∀ (w : List Int) {T : List (List Int)}, (∀ r ∈ T, Up r) → Kn (rword T ++ w) (rword (insW T w))
 | [], T, _ => by simp only [List.append_nil]; exact .refl _
 | x :: w, T, h => by
  have h1 := (ins1_Kn (x := x) h).right w
  have h2 := insW_word w (ins1_up (x := x) h)
  rw [List.append_assoc] at h1
  exact h1.trans h2
def Dom : List Int → List Int → Prop
 | _, [] => True
 | [], _ :: _ => False
 | a :: r, b :: s => a < b ∧ Dom r s
def Tab : List (List Int) → Prop
 | [] => True
 | r :: t => r ≠ [] ∧ Up r ∧ Dom r (t.headD []) ∧ Tab t
theorem Tab.up : ∀ {T : List (List Int)}, Tab T → ∀ r ∈ T, Up r
 | [], _ => fun r hr => by simp at hr
 | s :: t, h => fun r hr => by
  rcases List.mem_cons.1 hr with e | e
  · rw [e]; exact h.2.1
  · exact h.2.2.2.up r e
theorem pushW_all : ∀ (w : List Int) {s : List Int}, Up w → (∀ x ∈ s, ∀ y ∈ w, x ≤ y) → pushW s w = (s ++ w, [])
 | [], s, _, _ => by simp [pushW]
 | x :: w, s, hw, h => by
  have h1 : push1 s x = (s ++ [x], none) := by
   clear hw
   induction s with
   | nil => rfl
   | cons a s ih =>
    rw [push1_ge (h a (by simp) x (by simp)), ih (fun u hu v hv => h u (List.mem_cons_of_mem _ hu) v hv)]; rfl
  simp only [pushW]
  rw [h1]
  rw [pushW_all w hw.tail (fun u hu v hv => by
   rcases List.mem_append.1 hu with e | e
   · exact h u e v (List.mem_cons_of_mem _ hv)
   · simp at e; rw [e]; exact hw.head v hv)]
  simp
theorem pushW_head : ∀ (w : List Int) {a : Int} {s : List Int}, (∀ y ∈ w, a ≤ y) → pushW (a :: s) w = (a :: (pushW s w).1, (pushW s w).2)
 | [], _, _, _ => rfl
 | x :: w, a, s, h => by
  simp only [pushW]
  rw [push1_ge (h x (by simp)), pushW_head w (fun y hy => h y (List.mem_cons_of_mem _ hy))]
theorem push_dom : ∀ {r s : List Int}, Up r → Dom r s → pushW s r = (r, s)
 | r, [], hr, _ => by
  rw [pushW_all r hr (fun x hx => by simp at hx)]; rfl
 | [], _ :: _, _, h => h.elim
 | a :: r, b :: s, hr, h => by
  simp only [pushW]
  rw [push1_lt h.1, pushW_head r (fun y hy => hr.head y hy), push_dom hr.tail h.2]
  rfl
theorem insW_row : ∀ {T : List (List Int)} {r : List Int}, r ≠ [] → Up r → Dom r (T.headD []) → Tab T → insW T r = r :: T
 | [], r, hne, hr, _, _ => by
  cases r with
  | nil => exact absurd rfl hne
  | cons x w =>
   rw [insW_nil, push_dom hr (s := []) trivial]; rfl
 | s :: t, r, _, hr, hd, h => by
  have hd' : Dom r s := hd
  rw [insW_cons, push_dom hr hd']
  rw [insW_row h.1 h.2.1 h.2.2.1 h.2.2.2]
theorem insW_rword : ∀ {T : List (List Int)}, Tab T → insW [] (rword T) = T
 | [], _ => rfl
 | r :: t, h => by
  simp only [rword]
  rw [insW_append, insW_rword h.2.2.2, insW_row h.1 h.2.1 h.2.2.1 h.2.2.2]
theorem dom_low : ∀ {r s : List Int} {x z : Int}, Dom r s → (push1 r x).2 = some z → Dom (push1 r x).1 s
 | _, [], _, _, _, _ => by simp only [Dom]
 | [], _ :: _, _, _, h, _ => h.elim
 | a :: r, b :: s, x, z, h, e => by
  by_cases c : x < a
  · rw [push1_lt c]; exact ⟨by have := h.1; omega, h.2⟩
  · rw [push1_ge (by omega)] at e ⊢
    exact ⟨h.1, dom_low h.2 e⟩
theorem dom_push : ∀ {r s : List Int} {x z : Int}, Up r → Dom r s → (push1 r x).2 = some z → Dom (push1 r x).1 (push1 s z).1
 | [], _, x, z, _, _, e => by simp [push1] at e
 | a :: r, [], x, z, hr, _, e => by
  by_cases c : x < a
  · rw [push1_lt c] at e ⊢
    obtain rfl : a = z := by simpa using e
    exact ⟨c, by simp only [Dom]⟩
  · rw [push1_ge (by omega)] at e ⊢
    have := (push1_out e).2
    exact ⟨by omega, by simp only [Dom]⟩
 | a :: r, b :: s, x, z, hr, h, e => by
  by_cases c : x < a
  · rw [push1_lt c] at e ⊢
    obtain rfl : a = z := by simpa using e
    rw [push1_lt h.1]
    exact ⟨c, h.2⟩
  · rw [push1_ge (by omega)] at e ⊢
    have hz := (push1_out e).2
    by_cases c2 : z < b
    · rw [push1_lt c2]
      exact ⟨by omega, dom_low h.2 e⟩
    · rw [push1_ge (by omega)]
      exact ⟨h.1, dom_push hr.tail h.2 e⟩
theorem dom_grow : ∀ {r s : List Int} {x : Int}, Dom r s → (push1 r x).2 = none → Dom (push1 r x).1 s
 | _, [], _, _, _ => by simp only [Dom]
 | [], _ :: _, _, h, _ => h.elim
 | a :: r, b :: s, x, h, e => by
  by_cases c : x < a
  · rw [push1_lt c] at e; simp at e
  · rw [push1_ge (by omega)] at e ⊢
    exact ⟨h.1, dom_grow h.2 e⟩
theorem ins1_headD (T : List (List Int)) (z : Int) : (ins1 T z).headD [] = (push1 (T.headD []) z).1 := by
 cases T with
 | nil => rfl
 | cons r t => simp only [ins1]; cases (push1 r z).2 <;> rfl
theorem ins1_tab : ∀ {T : List (List Int)} {x : Int}, Tab T → Tab (ins1 T x)
 | [], x, _ => ⟨by simp, List.pairwise_singleton _ _, by simp only [List.headD, Dom], trivial⟩
 | r :: t, x, h => by
  obtain ⟨h1, h2, h3, h4⟩ := h
  have hp : (push1 r x).1 ≠ [] := fun e => by have := push1_pos (s := r) (x := x); rw [e] at this; simp at this
  simp only [ins1]
  cases e : (push1 r x).2 with
  | none => exact ⟨hp, push1_up h2, dom_grow h3 e, h4⟩
  | some z => exact ⟨hp, push1_up h2, by rw [ins1_headD]; exact dom_push h2 h3 e, ins1_tab h4⟩
theorem insW_tab : ∀ (w : List Int) {T : List (List Int)}, Tab T → Tab (insW T w)
 | [], _, h => h
 | _ :: w, _, h => insW_tab w (ins1_tab h)
end
end Go.Proofs.YtpmkdihencepnaaGreatDoor
