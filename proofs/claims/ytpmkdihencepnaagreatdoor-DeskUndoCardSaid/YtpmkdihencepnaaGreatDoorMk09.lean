/- Part of the proof. -/
import Derived.Test.YtpmkdihencepnaaGreatDoorMk07
import Derived.Test.YtpmkdihencepnaaGreatDoorMk08
namespace Go.Proofs.YtpmkdihencepnaaGreatDoor
section
theorem lets_pos {l : List Int} (h : ∀ x ∈ l, 0 < x) : lets l = l := List.filter_eq_self.2 (fun x hx => decide_eq_true (h x hx))
theorem lets_cons (x : Int) (l : List Int) : lets (x :: l) = if 0 < x then x :: lets l else lets l := by
 unfold lets; rw [List.filter_cons]; by_cases h : 0 < x <;> simp [h]
theorem lets_split : ∀ {l : List Int}, Up l → (∀ x ∈ l, 0 ≤ x) → ∃ p, p ≤ l.length ∧ lets l = l.drop p ∧ (∀ x ∈ l.take p, x = 0) ∧ ∀ x ∈ l.drop p, 0 < x
 | [], _, _ => ⟨0, Nat.le_refl _, rfl, by simp, by simp⟩
 | a :: t, hu, h0 => by
  by_cases ha : 0 < a
  · have hp : ∀ x ∈ a :: t, 0 < x := fun x hx => by
     rcases List.mem_cons.1 hx with e | e
     · rw [e]; exact ha
     · have := hu.head x e; omega
    exact ⟨0, Nat.zero_le _, by rw [lets_pos hp]; rfl, by simp, hp⟩
  · obtain ⟨p, h1, h2, h3, h4⟩ := lets_split hu.tail (fun x hx => h0 x (List.mem_cons_of_mem _ hx))
    refine ⟨p + 1, by simp; omega, by rw [lets_cons, if_neg ha, h2]; rfl, fun x hx => ?_, h4⟩
    rcases List.mem_cons.1 (by simpa using hx) with e | e
    · have := h0 a (by simp); omega
    · exact h3 x e
theorem down_two {u0 v0 y z : List Int} {x : Int} (hl : u0.length = v0.length) (hu : Up u0) (hu0 : ∀ a ∈ u0, 0 ≤ a) (hv : Up (v0 ++ x :: z)) (hx : 0 < x) (hy : Up y) (hxy : ∀ b ∈ y, x ≤ b) (hd : Dom y z)
 (hc : ∀ (i : Nat) a b, u0[i]? = some a → v0[i]? = some b → a < b ∨ (a = 0 ∧ b = 0)) : Kn (lets (v0 ++ x :: z) ++ lets (u0 ++ 0 :: y)) (lets (v0 ++ 0 :: z) ++ lets (u0 ++ x :: y)) := by
 obtain ⟨p, hp, e1, e2, e3⟩ := lets_split hu hu0
 have hxz : Up (x :: z) := List.Pairwise.sublist (List.sublist_append_right _ _) hv
 have hzp : ∀ b ∈ z, 0 < b := fun b hb => by have := hxz.head b hb; omega
 have hyp : ∀ b ∈ y, 0 < b := fun b hb => by have := hxy b hb; omega
 have hvp : ∀ b ∈ v0.drop p, 0 < b := fun b hb => by
  obtain ⟨i, hi, rfl⟩ := List.getElem_of_mem hb
  have hi2 : i < (u0.drop p).length := by rw [List.length_drop] at hi ⊢; omega
  have h1 := e3 _ (List.getElem_mem hi2)
  rw [List.getElem_drop] at h1 ⊢
  rw [List.length_drop] at hi hi2
  rcases hc (p + i) _ _ (List.getElem?_eq_getElem (by omega)) (List.getElem?_eq_getElem (by omega)) with h2 | h2
  · omega
  · omega
 have ev : lets v0 = lets (v0.take p) ++ v0.drop p := by
  conv => lhs; rw [← List.take_append_drop p v0, lets_append]
  rw [lets_pos hvp]
 have hs : Up (v0.drop p ++ x :: z) := List.Pairwise.sublist (List.Sublist.append_right (List.drop_sublist p v0) _) hv
 have h1 := (rise (u := u0.drop p) hxz hy hxy hd (v0.drop p) (by rw [List.length_drop, List.length_drop]; omega) (fun i a b ha hb => by
  have ha2 : u0[p + i]? = some a := by rw [← ha, List.getElem?_drop]
  have hb2 : v0[p + i]? = some b := by rw [← hb, List.getElem?_drop]
  rcases hc _ a b ha2 hb2 with h | h
  · exact h
  · have := e3 a (List.mem_of_getElem? ha); omega) hs).left (lets (v0.take p))
 rw [lets_append, lets_append, lets_append, lets_append, lets_cons, if_pos hx, lets_cons, if_neg (by omega), lets_cons, if_neg (by omega), lets_cons, if_pos hx, lets_pos hzp, lets_pos hyp, ev, e1]
 simpa using h1
theorem put_at (a : List (List Int)) (r : List Int) (b : List (List Int)) (J : Nat) (y : Int) : put (a ++ r :: b) a.length J y = a ++ r.set J y :: b := by
 unfold put
 have : (a ++ r :: b).getD a.length [] = r := by rw [List.getD_eq_getElem?_getD, List.getElem?_append_right (Nat.le_refl _)]; simp
 rw [this, List.set_append_right _ _ (Nat.le_refl _)]; simp
theorem put_at2 (a : List (List Int)) (r r' : List Int) (b : List (List Int)) (J : Nat) (y : Int) : put (a ++ r :: r' :: b) (a.length + 1) J y = a ++ r :: r'.set J y :: b := by
 have := put_at (a ++ [r]) r' b J y
 simpa using this
theorem rows_split {s : List (List Int)} {i : Nat} (h : i < s.length) : s = s.take i ++ s.getD i [] :: s.drop (i + 1) := by
 conv => lhs; rw [← List.take_append_drop i s, List.drop_eq_getElem_cons h]
 rw [getD_get h]
theorem rows_split2 {s : List (List Int)} {i : Nat} (h : i + 1 < s.length) : ∃ b, s = s.take i ++ s.getD i [] :: s.getD (i + 1) [] :: b := by
 refine ⟨s.drop (i + 2), ?_⟩
 conv => lhs; rw [rows_split (show i < s.length by omega), List.drop_eq_getElem_cons h]
 rw [getD_get h]
theorem row_split {r : List Int} {j : Nat} (h : j < r.length) : r = r.take j ++ r.getD j 0 :: r.drop (j + 1) := by
 conv => lhs; rw [← List.take_append_drop j r, List.drop_eq_getElem_cons h]
 rw [getD_get h]
theorem set_split (r : List Int) {j : Nat} (h : j < r.length) (y : Int) : r.set j y = r.take j ++ y :: r.drop (j + 1) := by
 rw [List.set_eq_take_append_cons_drop, if_pos h]
theorem up_get {l : List Int} (h : ∀ j k, j < k → k < l.length → l.getD j 0 ≤ l.getD k 0) : Up l := List.pairwise_iff_getElem.2 (fun j k hj hk hjk => by
 have := h j k hjk hk
 rwa [getD_get hj, getD_get hk] at this)
def hword (s : List (List Int)) (I J : Nat) : List Int := sword (put s I J 0)
theorem set_two (r : List Int) {j : Nat} (h : j + 1 < r.length) : lets ((r.set j (r.getD (j + 1) 0)).set (j + 1) 0) = lets (r.set j 0) := by
 rw [set_split r (show j < r.length by omega) 0, set_split (r.set j _) (by simp; exact h) 0, List.take_set, List.drop_set_of_lt (by omega)]
 have e1 : (r.take (j + 1)).set j (r.getD (j + 1) 0) = r.take j ++ [r.getD (j + 1) 0] := by
  rw [set_split _ (by simp; omega)]
  have : List.drop (j + 1) (List.take (j + 1) r) = [] := List.drop_eq_nil_of_le (by simp; omega)
  rw [this, List.take_take, Nat.min_eq_left (by omega)]
 have e2 : r.drop (j + 1) = r.getD (j + 1) 0 :: r.drop (j + 2) := by rw [getD_get h]; exact List.drop_eq_getElem_cons h
 rw [e1, e2]
 simp only [List.append_assoc, lets_append, List.cons_append, List.nil_append, lets_cons, Int.lt_irrefl, if_false]
theorem Cfg.wordR {s : List (List Int)} {I J : Nat} (h : Cfg s I J) (hr : J + 1 < rl s I) : hword (put s I J (cell s I (J + 1))) I (J + 1) = hword s I J := by
 have hI := h.inI
 have hs := rows_split hI
 obtain ⟨r, hr0⟩ : ∃ r, r = s.getD I [] := ⟨_, rfl⟩
 have hl : (s.take I).length = I := by rw [List.length_take]; omega
 unfold hword cell
 unfold rl at hr
 rw [← hr0] at hr hs ⊢
 obtain ⟨a, ha⟩ : ∃ a, a = s.take I := ⟨_, rfl⟩
 obtain ⟨b, hb⟩ : ∃ b, b = s.drop (I + 1) := ⟨_, rfl⟩
 rw [← ha, ← hb] at hs
 rw [← ha] at hl
 rw [hs, ← hl, put_at, put_at, put_at, sword_append, sword_append, sword_cons, sword_cons, set_two r hr]
theorem Cfg.wordD {s : List (List Int)} {I J : Nat} (h : Cfg s I J) (hd : J < rl s (I + 1)) (hb : J + 1 < rl s I → cell s (I + 1) J ≤ cell s I (J + 1)) : Kn (hword s I J) (hword (put s I J (cell s (I + 1) J)) (I + 1) J) := by
 have hI := rl_in hd
 obtain ⟨b, hs⟩ := rows_split2 hI
 have hx := h.dn (I + 1) (by omega) hd
 have hat := h.at_
 have hlen := h.lens I (I + 1) (by omega)
 have hrow := h.row I
 have hrow' := h.row (I + 1)
 have hcol := fun j => h.col I (I + 1) j (by omega)
 have hnn := h.nn I
 have hrt := h.rt
 unfold hword
 unfold cell rl at *
 have hl : (s.take I).length = I := by rw [List.length_take]; omega
 obtain ⟨r, hr⟩ : ∃ r, r = s.getD I [] := ⟨_, rfl⟩
 obtain ⟨r', hr'⟩ : ∃ r', r' = s.getD (I + 1) [] := ⟨_, rfl⟩
 obtain ⟨a, ha⟩ : ∃ a, a = s.take I := ⟨_, rfl⟩
 rw [← hr] at hs hlen hrow hcol hnn hrt hat hb
 rw [← hr'] at hs hlen hrow' hcol hb hx hd ⊢
 rw [← ha] at hs hl
 rw [hs, ← hl, put_at, put_at, put_at2, sword_append, sword_append, sword_cons, sword_cons, sword_cons, sword_cons]
 clear hr hr' ha hs
 have key : Kn (lets r' ++ lets (r.set J 0)) (lets (r'.set J 0) ++ lets (r.set J (r'.getD J 0))) := by
  rw [set_split r hat, set_split r hat, set_split r' hd]
  conv => arg 1; rw [row_split hd]
  refine down_two (by rw [List.length_take, List.length_take]; omega) (up_get (fun j k hjk hk => ?_)) (fun x hx => ?_) ?_ hx (up_get (fun j k hjk hk => ?_)) (fun x hx => ?_) (dom_of (fun j x hx => ?_)) (fun j p q hp hq => ?_)
  · rw [List.length_take] at hk
    rw [getD_get (by simp; omega), getD_get (by simp; omega), List.getElem_take, List.getElem_take]
    have := hrow j k hjk (by omega) (by omega) (by omega)
    rwa [getD_get (by omega), getD_get (by omega)] at this
  · obtain ⟨j, hj, rfl⟩ := List.getElem_of_mem hx
    rw [List.length_take] at hj
    rw [List.getElem_take]
    have := hnn j (by omega) (by omega)
    rwa [getD_get (by omega)] at this
  · rw [← row_split hd]
    exact up_get (fun j k hjk hk => hrow' j k hjk hk (by omega) (by omega))
  · rw [List.length_drop] at hk
    rw [getD_get (by simp; omega), getD_get (by simp; omega), List.getElem_drop, List.getElem_drop]
    have := hrow (J + 1 + j) (J + 1 + k) (by omega) (by omega) (by omega) (by omega)
    rwa [getD_get (by omega), getD_get (by omega)] at this
  · obtain ⟨j, hj, rfl⟩ := List.getElem_of_mem hx
    rw [List.length_drop] at hj
    rw [List.getElem_drop]
    have h1 := hb (by omega)
    have h2 : r.getD (J + 1) 0 ≤ r.getD (J + 1 + j) 0 := by
     by_cases e : j = 0
     · subst e; exact Int.le_refl _
     · exact hrow (J + 1) (J + 1 + j) (by omega) (by omega) (by omega) (by omega)
    rw [getD_get (show J + 1 + j < r.length by omega)] at h2
    omega
  · have hj := (List.getElem?_eq_some_iff.1 hx).1
    rw [List.length_drop] at hj
    rw [List.getElem?_drop] at hx
    refine ⟨r.getD (J + 1 + j) 0, by rw [List.getElem?_drop, getD_get (by omega)]; exact List.getElem?_eq_getElem (by omega), ?_⟩
    rcases hcol (J + 1 + j) (by omega) (by omega) (by omega) with h1 | h1
    · rw [(some_getD hx).2] at h1; exact h1
    · have := hrt (J + 1 + j) (by omega) (by omega); omega
  · have hj := (List.getElem?_eq_some_iff.1 hp).1
    rw [List.length_take] at hj
    rw [List.getElem?_take_of_lt (by omega)] at hp hq
    have := hcol j (by omega) (by omega) (by omega)
    rwa [(some_getD hp).2, (some_getD hq).2] at this
 have := key.ctx (sword b) (sword a)
 simpa using this
def cut (s : List (List Int)) (I J : Nat) : List (List Int) := if J = 0 then s.take I else s.set I ((s.getD I []).take J)
inductive Slid : List (List Int) → Nat → Nat → List (List Int) → Nat → Nat → Prop
 | down {s I J out i j} : J < rl s (I + 1) → (J + 1 < rl s I → cell s (I + 1) J ≤ cell s I (J + 1)) → Slid (put s I J (cell s (I + 1) J)) (I + 1) J out i j → Slid s I J out i j
 | right {s I J out i j} : J + 1 < rl s I → (J < rl s (I + 1) → cell s I (J + 1) < cell s (I + 1) J) → Slid (put s I J (cell s I (J + 1))) I (J + 1) out i j → Slid s I J out i j
 | stop {s I J} : rl s I ≤ J + 1 → rl s (I + 1) ≤ J → Slid s I J (cut s I J) I J
theorem Cfg.tail {s : List (List Int)} {I J : Nat} (h : Cfg s I J) (h2 : rl s (I + 1) ≤ 0) : s.length = I + 1 := by
 have h1 := h.inI
 apply Classical.byContradiction
 intro hn
 have := h.ne (I + 1) (by omega)
 omega
theorem cut_row {s : List (List Int)} {I J : Nat} (h : Cfg s I J) (h2 : rl s (I + 1) ≤ J) (a : Nat) : (cut s I J).getD a [] = if a = I then (s.getD I []).take J else s.getD a [] := by
 have hI := h.inI
 unfold cut
 by_cases h0 : J = 0
 · subst h0
   have hs := h.tail h2
   rw [if_pos rfl]
   by_cases e : a = I
   · rw [if_pos e, getD_far (by rw [List.length_take]; omega)]; rfl
   · rw [if_neg e]
     by_cases e2 : a < I
     · rw [List.getD_eq_getElem?_getD, List.getElem?_take_of_lt e2, ← List.getD_eq_getElem?_getD]
     · rw [getD_far (by rw [List.length_take]; omega), getD_far (by omega)]
 · rw [if_neg h0]
   by_cases e : a = I
   · rw [if_pos e, e, List.getD_eq_getElem?_getD, List.getElem?_set_self hI]; rfl
   · rw [if_neg e, List.getD_eq_getElem?_getD, List.getElem?_set_ne (Ne.symm e), ← List.getD_eq_getElem?_getD]
theorem cut_rl {s : List (List Int)} {I J : Nat} (h : Cfg s I J) (h2 : rl s (I + 1) ≤ J) (a : Nat) : rl (cut s I J) a = if a = I then J else rl s a := by
 have h1 := h.at_
 unfold rl at h1 ⊢
 rw [cut_row h h2]
 by_cases e : a = I
 · rw [if_pos e, if_pos e, List.length_take]; omega
 · rw [if_neg e, if_neg e]
theorem cut_cell {s : List (List Int)} {I J : Nat} (h : Cfg s I J) (h2 : rl s (I + 1) ≤ J) {a b : Nat} (hb : b < rl (cut s I J) a) : cell (cut s I J) a b = cell s a b := by
 rw [cut_rl h h2] at hb
 unfold cell
 rw [cut_row h h2]
 by_cases e : a = I
 · rw [if_pos e] at hb ⊢
   rw [e, List.getD_eq_getElem?_getD, List.getElem?_take_of_lt hb, ← List.getD_eq_getElem?_getD]
 · rw [if_neg e]
theorem Cfg.cut_sk {s : List (List Int)} {I J : Nat} (h : Cfg s I J) (h1 : rl s I ≤ J + 1) (h2 : rl s (I + 1) ≤ J) : Sk (cut s I J) := by
 have pl := cut_rl h h2
 have hat := h.at_
 refine ⟨fun a ha => ?_, fun a a' haa => ?_, fun i j k h3 h4 => ?_, fun i i' j h3 h4 => ?_, fun i j h3 => ?_⟩
 · rw [pl]
   by_cases e : a = I
   · rw [if_pos e]
     apply Nat.pos_of_ne_zero
     intro e0
     subst e0
     unfold cut at ha
     rw [if_pos rfl, List.length_take] at ha
     omega
   · rw [if_neg e]
     refine h.ne a ?_
     unfold cut at ha
     by_cases e0 : J = 0
     · rw [if_pos e0, List.length_take] at ha; omega
     · rwa [if_neg e0, List.length_set] at ha
 · rw [pl, pl]
   have h3 := h.lens a a' haa
   by_cases e : a = I
   · rw [if_pos e]
     by_cases e' : a' = I
     · rw [if_pos e']; exact Nat.le_refl _
     · rw [if_neg e']
       have := h.lens (I + 1) a' (by omega); omega
   · rw [if_neg e]
     by_cases e' : a' = I
     · rw [if_pos e']; rw [e'] at h3; omega
     · rw [if_neg e']; exact h3
 · have h5 : k < rl s i ∧ (i = I → k < J) := by
    rw [pl] at h4
    by_cases e : i = I
    · rw [if_pos e] at h4; exact ⟨by rw [e]; omega, fun _ => h4⟩
    · rw [if_neg e] at h4; exact ⟨h4, fun e' => absurd e' e⟩
   rw [cut_cell h h2 (by omega), cut_cell h h2 h4]
   exact h.row i j k h3 h5.1 (fun e => by have := h5.2 e.1; omega) (fun e => by have := h5.2 e.1; omega)
 · have h5 : j < rl s i' ∧ (i' = I → j < J) := by
    rw [pl] at h4
    by_cases e : i' = I
    · rw [if_pos e] at h4; exact ⟨by rw [e]; omega, fun _ => h4⟩
    · rw [if_neg e] at h4; exact ⟨h4, fun e' => absurd e' e⟩
   have h6 : j < rl (cut s I J) i := by
    rw [pl]
    by_cases e : i = I
    · rw [if_pos e]
      have := h.lens (I + 1) i' (by omega); omega
    · rw [if_neg e]
      have := h.lens i i' (by omega); omega
   rw [cut_cell h h2 h6, cut_cell h h2 h4]
   refine h.col i i' j h3 h5.1 (fun e => ?_) (fun e => by have := h5.2 e.1; omega)
   have := h.lens (I + 1) i' (by omega); omega
 · have h5 : j < rl s i ∧ (i = I → j < J) := by
    rw [pl] at h3
    by_cases e : i = I
    · rw [if_pos e] at h3; exact ⟨by rw [e]; omega, fun _ => h3⟩
    · rw [if_neg e] at h3; exact ⟨h3, fun e' => absurd e' e⟩
   rw [cut_cell h h2 h3]
   exact h.nn i j h5.1 (fun e => by have := h5.2 e.1; omega)
theorem boxes_put (s : List (List Int)) (i j : Nat) (x : Int) : boxes (put s i j x) = boxes s := by
 unfold boxes
 congr 1
 apply List.ext_getElem (by simp [put])
 intro k h1 h2
 rw [List.getElem_map, List.getElem_map]
 have := put_rl s i j x k
 unfold rl at this
 rw [getD_get (by simpa using h1), getD_get (by simpa using h2)] at this
 exact this
theorem Cfg.cut_word {s : List (List Int)} {I J : Nat} (h : Cfg s I J) (h1 : rl s I ≤ J + 1) (h2 : rl s (I + 1) ≤ J) : sword (cut s I J) = hword s I J ∧ boxes (cut s I J) + 1 = boxes s := by
 have hI := h.inI
 have hat := h.at_
 have hs := rows_split hI
 have hl : (s.take I).length = I := by rw [List.length_take]; omega
 have hb0 : J = 0 → s.drop (I + 1) = [] := fun e => by subst e; exact List.drop_eq_nil_of_le (by have := h.tail h2; omega)
 unfold hword cut
 unfold rl at h1 hat
 obtain ⟨r, hr⟩ : ∃ r, r = s.getD I [] := ⟨_, rfl⟩
 obtain ⟨a, ha⟩ : ∃ a, a = s.take I := ⟨_, rfl⟩
 obtain ⟨b, hb⟩ : ∃ b, b = s.drop (I + 1) := ⟨_, rfl⟩
 rw [← hr] at hs hat h1 ⊢
 rw [← ha] at hs hl ⊢
 rw [← hb] at hs hb0
 have hset : r.set J 0 = r.take J ++ [0] := by
  rw [set_split r hat, List.drop_eq_nil_of_le h1]
 have hput : put s I J 0 = a ++ r.set J 0 :: b := by rw [hs, ← hl, put_at]
 have hlet : lets (r.set J 0) = lets (r.take J) := by rw [hset, lets_append]; simp [lets]
 rw [hput, sword_append, sword_cons, hlet]
 by_cases e : J = 0
 · subst e
   have := hb0 rfl
   subst this
   rw [if_pos rfl, hs, boxes_append, boxes_cons]
   refine ⟨by simp [sword, rword, lets], ?_⟩
   have : boxes [] = 0 := rfl
   omega
 · rw [if_neg e]
   have hst : s.set I (r.take J) = a ++ r.take J :: b := by
    conv => lhs; rw [hs]
    rw [← hl, List.set_append_right _ _ (Nat.le_refl _)]; simp
   rw [hst, sword_append, sword_cons, boxes_append, boxes_cons]
   refine ⟨rfl, ?_⟩
   rw [hs, boxes_append, boxes_cons, List.length_take]
   omega
def Zero (s : List (List Int)) (a b : Nat) : Prop := b < rl s a ∧ cell s a b = 0
theorem Slid.props {s : List (List Int)} {I J : Nat} {out : List (List Int)} {i j : Nat} (h : Slid s I J out i j) : Cfg s I J → Kn (hword s I J) (sword out) ∧ Sk out ∧ (∀ a b, Zero out a b ↔ Zero s a b ∧ ¬ (a = I ∧ b = J)) ∧ boxes out + 1 = boxes s := by
 induction h with
 | @down s I J out i j hd hb _ ih =>
  intro hc
  have hpos := hc.dn (I + 1) (by omega) hd
  obtain ⟨h1, h2, h3, h4⟩ := ih (hc.goD hd hb)
  refine ⟨(hc.wordD hd hb).trans h1, h2, fun a b => ?_, by rw [h4, boxes_put]⟩
  rw [h3 a b]
  unfold Zero
  rw [put_rl, put_cell hc.at_]
  by_cases e : a = I ∧ b = J
  · rw [if_pos e]
    exact ⟨fun hh => by have := hh.1.2; omega, fun hh => absurd e hh.2⟩
  · rw [if_neg e]
    refine ⟨fun hh => ⟨hh.1, e⟩, fun hh => ⟨hh.1, fun e2 => ?_⟩⟩
    have := hh.1.2
    rw [e2.1, e2.2] at this
    omega
 | @right s I J out i j hr hb _ ih =>
  intro hc
  have hpos := hc.rt (J + 1) (by omega) hr
  obtain ⟨h1, h2, h3, h4⟩ := ih (hc.goR hr (fun c hc1 hc2 => by rw [hc2]; exact hb hc1))
  rw [hc.wordR hr] at h1
  refine ⟨h1, h2, fun a b => ?_, by rw [h4, boxes_put]⟩
  rw [h3 a b]
  unfold Zero
  rw [put_rl, put_cell hc.at_]
  by_cases e : a = I ∧ b = J
  · rw [if_pos e]
    exact ⟨fun hh => by have := hh.1.2; omega, fun hh => absurd e hh.2⟩
  · rw [if_neg e]
    refine ⟨fun hh => ⟨hh.1, e⟩, fun hh => ⟨hh.1, fun e2 => ?_⟩⟩
    have := hh.1.2
    rw [e2.1, e2.2] at this
    omega
 | @stop s I J h1 h2 =>
  intro hc
  obtain ⟨e1, e2⟩ := hc.cut_word h1 h2
  refine ⟨by rw [e1]; exact .refl _, hc.cut_sk h1 h2, fun a b => ?_, e2⟩
  unfold Zero
  have hat := hc.at_
  refine ⟨fun hh => ?_, fun hh => ?_⟩
  · have h5 := hh.1
    rw [cut_cell hc h2 hh.1] at hh
    rw [cut_rl hc h2] at h5
    by_cases e : a = I
    · rw [if_pos e] at h5
      exact ⟨⟨by rw [e]; omega, hh.2⟩, by omega⟩
    · rw [if_neg e] at h5; exact ⟨⟨h5, hh.2⟩, fun e' => e e'.1⟩
  · have h5 : b < rl (cut s I J) a := by
     rw [cut_rl hc h2]
     by_cases e : a = I
     · rw [if_pos e]
       have := hh.1.1
       rw [e] at this
       have : b ≠ J := fun e2 => hh.2 ⟨e, e2⟩
       omega
     · rw [if_neg e]; exact hh.1.1
    exact ⟨h5, by rw [cut_cell hc h2 h5]; exact hh.1.2⟩
def hol (r : List Int) : Nat := (r.takeWhile (fun x => decide (x = 0))).length
theorem hol_at : ∀ {r : List Int} {n : Nat}, (∀ k, k < n → r[k]? = some 0) → (∀ x, r[n]? = some x → x ≠ 0) → hol r = n
 | [], n, h, _ => by
  cases n with
  | zero => rfl
  | succ n => have := h 0 (by omega); simp at this
 | a :: t, n, h, h2 => by
  cases n with
  | zero =>
   have := h2 a rfl
   simp [hol, List.takeWhile, this]
  | succ n =>
   have h0 := h 0 (by omega)
   have h0 : a = 0 := by simpa using h0
   have ih := hol_at (r := t) (n := n) (fun k hk => by have := h (k + 1) (by omega); simpa using this) (fun x hx => h2 x (by simpa using hx))
   unfold hol at ih ⊢
   simp [List.takeWhile, h0, ih]
theorem hol_le : ∀ (r : List Int), hol r ≤ r.length
 | [] => Nat.le_refl _
 | a :: t => by
  have := hol_le t
  unfold hol at this ⊢
  by_cases h : a = 0 <;> simp [List.takeWhile, h]; omega
theorem hol_zero : ∀ {r : List Int} {k : Nat}, k < hol r → r.getD k 0 = 0
 | [], k, h => by simp [hol] at h
 | a :: t, k, h => by
  unfold hol at h
  by_cases e : a = 0
  · cases k with
    | zero => simpa using e
    | succ k =>
     have := hol_zero (r := t) (k := k) (by unfold hol; simp [List.takeWhile, e] at h; omega)
     simpa using this
  · simp [List.takeWhile, e] at h
theorem hol_ne : ∀ {r : List Int}, hol r < r.length → r.getD (hol r) 0 ≠ 0
 | [], h => by simp at h
 | a :: t, h => by
  unfold hol at h ⊢
  by_cases e : a = 0
  · have := hol_ne (r := t) (by unfold hol; simp [List.takeWhile, e] at h; omega)
    unfold hol at this
    simp [List.takeWhile, e]
    simpa using this
  · simp [List.takeWhile, e]
def SRow (s : List (List Int)) (i : Nat) : Prop :=
 (s.getD i []).length ≠ 0 ∧ (0 < i → (s.getD i []).length ≤ (s.getD (i - 1) []).length ∧ hol (s.getD i []) ≤ hol (s.getD (i - 1) [])) ∧ ∀ j, j < (s.getD i []).length → hol (s.getD i []) ≤ j → BoxOk s i j
def SkOk (s : List (List Int)) : Prop := (∀ i, i < s.length → SRow s i) ∧ boxes s ≤ 40
theorem Sk.zhol {s : List (List Int)} (h : Sk s) (i : Nat) {j : Nat} (hj : j < rl s i) : (cell s i j = 0 ↔ j < hol (s.getD i [])) := by
 refine ⟨fun e => ?_, fun e => hol_zero e⟩
 apply Classical.byContradiction
 intro hn
 have h1 : hol (s.getD i []) < (s.getD i []).length := by unfold rl at hj; omega
 have h2 := hol_ne h1
 have h3 := h.nn i _ h1
 unfold cell at e h3
 by_cases e2 : hol (s.getD i []) = j
 · rw [e2] at h2; exact h2 e
 · have := h.row i (Go.Proofs.YtpmkdihencepnaaGreatDoor.hol (s.getD i [])) j (by omega) hj
   unfold cell at this
   omega
theorem SkOk.sk {s : List (List Int)} (h : SkOk s) : Sk s ∧ ∀ i j, j < rl s i → cell s i j ≤ 99 := by
 have hin : ∀ {i j}, j < rl s i → i < s.length := fun hj => rl_in hj
 have hlens1 : ∀ i, rl s (i + 1) ≤ rl s i := fun i => by
  by_cases hi : i + 1 < s.length
  · exact ((h.1 (i + 1) hi).2.1 (by omega)).1
  · have : rl s (i + 1) = 0 := by unfold rl; rw [getD_far (by omega)]; rfl
    omega
 have hhol1 : ∀ i, hol (s.getD (i + 1) []) ≤ hol (s.getD i []) := fun i => by
  by_cases hi : i + 1 < s.length
  · exact ((h.1 (i + 1) hi).2.1 (by omega)).2
  · have : s.getD (i + 1) [] = [] := getD_far (by omega)
    rw [this]; exact Nat.zero_le _
 have hlens : ∀ d i, rl s (i + d) ≤ rl s i := fun d => by
  induction d with
  | zero => intro i; exact Nat.le_refl _
  | succ d ih => intro i; have h1 := ih i; have h2 := hlens1 (i + d); rw [Nat.add_assoc] at h2; omega
 have hbox : ∀ i j, j < rl s i → (j < hol (s.getD i []) ∧ cell s i j = 0) ∨ (hol (s.getD i []) ≤ j ∧ BoxOk s i j) := fun i j hj => by
  by_cases e : j < hol (s.getD i [])
  · exact .inl ⟨e, hol_zero e⟩
  · exact .inr ⟨by omega, (h.1 i (hin hj)).2.2 j hj (by omega)⟩
 have hnn : ∀ i j, j < rl s i → 0 ≤ cell s i j ∧ cell s i j ≤ 99 := fun i j hj => by
  rcases hbox i j hj with h1 | h1
  · rw [h1.2]; omega
  · have := h1.2.1
    unfold Lt at this
    unfold cell
    omega
 have hrow1 : ∀ i j, j + 1 < rl s i → cell s i j ≤ cell s i (j + 1) := fun i j hj => by
  rcases hbox i (j + 1) hj with h1 | h1
  · rw [h1.2]
    have : cell s i j = 0 := hol_zero (show j < hol (s.getD i []) by omega)
    omega
  · exact h1.2.2.1 (by omega)
 have hcol1 : ∀ i j, j < rl s (i + 1) → cell s i j < cell s (i + 1) j ∨ (cell s i j = 0 ∧ cell s (i + 1) j = 0) := fun i j hj => by
  rcases hbox (i + 1) j hj with h1 | h1
  · exact .inr ⟨hol_zero (by have := hhol1 i; omega), h1.2⟩
  · exact .inl (h1.2.2.2 (by omega))
 refine ⟨⟨fun i hi => Nat.pos_of_ne_zero (h.1 i hi).1, fun i i' hh => ?_, fun i j k h1 h2 => ?_, fun i i' j h1 h2 => ?_, fun i j hj => (hnn i j hj).1⟩, fun i j hj => (hnn i j hj).2⟩
 · have := hlens (i' - i) i
   rwa [show i + (i' - i) = i' by omega] at this
 · have : ∀ d, j + d < rl s i → cell s i j ≤ cell s i (j + d) := fun d => by
    induction d with
    | zero => intro _; exact Int.le_refl _
    | succ d ih => intro hd; have h3 := ih (by omega); have h4 := hrow1 i (j + d) (by omega); rw [Nat.add_assoc] at h4; omega
   have := this (k - j) (by rw [show j + (k - j) = k by omega]; exact h2)
   rwa [show j + (k - j) = k by omega] at this
 · have : ∀ d, j < rl s (i + 1 + d) → cell s i j < cell s (i + 1 + d) j ∨ (cell s i j = 0 ∧ cell s (i + 1 + d) j = 0) := fun d => by
    induction d with
    | zero => intro hd; exact hcol1 i j hd
    | succ d ih =>
     intro hd
     have hd' : j < rl s (i + 1 + d + 1) := hd
     have h4 := hcol1 (i + 1 + d) j hd'
     have h3 := ih (by have := hlens1 (i + 1 + d); omega)
     show cell s i j < cell s (i + 1 + d + 1) j ∨ (cell s i j = 0 ∧ cell s (i + 1 + d + 1) j = 0)
     omega
   have := this (i' - (i + 1)) (by rw [show i + 1 + (i' - (i + 1)) = i' by omega]; exact h2)
   rwa [show i + 1 + (i' - (i + 1)) = i' by omega] at this
theorem Sk.ok {s : List (List Int)} (h : Sk s) (hb : boxes s ≤ 40) (h99 : ∀ i j, j < rl s i → cell s i j ≤ 99) : SkOk s := by
 refine ⟨fun i hi => ⟨Nat.pos_iff_ne_zero.1 (h.ne i hi), fun h0 => ?_, fun j hj hh => ?_⟩, hb⟩
 · refine ⟨h.lens (i - 1) i (by omega), ?_⟩
   apply Classical.byContradiction
   intro hn
   have h1 : hol (s.getD (i - 1) []) < rl s i := by have := hol_le (s.getD i []); unfold rl; omega
   have h2 := (h.zhol i h1).2 (by omega)
   have h3 : hol (s.getD (i - 1) []) < rl s (i - 1) := by have := h.lens (i - 1) i (by omega); omega
   rcases h.col (i - 1) i _ (by omega) h1 with h4 | h4
   · have := h.nn (i - 1) _ h3; omega
   · have := (h.zhol (i - 1) h3).1 h4.1; omega
 · have hne : cell s i j ≠ 0 := fun e => by have := (h.zhol i hj).1 e; omega
   have hge := h.nn i j hj
   refine ⟨⟨?_, h99 i j hj⟩, fun h0 => h.row i (j - 1) j (by omega) hj, fun h0 => ?_⟩
   · unfold cell at hne hge; omega
   · rcases h.col (i - 1) i j (by omega) hj with h4 | h4
     · exact h4
     · exact absurd h4.2 hne
theorem mem_lets {s : List (List Int)} {i j : Nat} (hj : j < rl s i) (h : 0 < cell s i j) : cell s i j ∈ sword s := by
 have hi := rl_in hj
 unfold sword
 rw [rword_mem]
 refine ⟨lets (s.getD i []), List.mem_map.2 ⟨s.getD i [], by rw [getD_get hi]; exact List.getElem_mem hi, rfl⟩, ?_⟩
 unfold lets
 rw [List.mem_filter]
 refine ⟨?_, decide_eq_true h⟩
 unfold cell
 unfold rl at hj
 rw [getD_get hj]
 exact List.getElem_mem hj
theorem mem_sword {s : List (List Int)} {x : Int} (h : x ∈ sword s) : ∃ i j, j < rl s i ∧ cell s i j = x ∧ 0 < x := by
 unfold sword at h
 rw [rword_mem] at h
 obtain ⟨l, hl, hx⟩ := h
 obtain ⟨r, hr, rfl⟩ := List.mem_map.1 hl
 unfold lets at hx
 rw [List.mem_filter] at hx
 obtain ⟨i, hi, rfl⟩ := List.getElem_of_mem hr
 obtain ⟨j, hj, e⟩ := List.getElem_of_mem hx.1
 exact ⟨i, j, by unfold rl; rw [getD_get hi]; exact hj, by unfold cell; rw [getD_get hi, getD_get hj, e], of_decide_eq_true hx.2⟩
theorem SkOk.slide {s out : List (List Int)} {I J i j : Nat} (h : SkOk s) (hJ : J < rl s I) (h0 : cell s I J = 0) (hr : ∀ k, J < k → k < rl s I → 0 < cell s I k) (hd : ∀ i', I < i' → J < rl s i' → 0 < cell s i' J) (hs : Slid s I J out i j) : SkOk out ∧ Kn (sword s) (sword out) ∧ (∀ a b, Zero out a b ↔ Zero s a b ∧ ¬ (a = I ∧ b = J)) ∧ boxes out + 1 = boxes s := by
 obtain ⟨hk, h99⟩ := h.sk
 obtain ⟨hc, hp⟩ := Cfg.start hk hJ h0 hr hd
 obtain ⟨h1, h2, h3, h4⟩ := hs.props hc
 unfold hword at h1
 rw [hp] at h1
 refine ⟨h2.ok (by have := h.2; omega) (fun a b hb => ?_), h1, h3, h4⟩
 have hn := h2.nn a b hb
 by_cases e : cell out a b = 0
 · omega
 · have hm := (h1.mem _).2 (mem_lets hb (by omega))
   obtain ⟨i2, j2, h5, h6, _⟩ := mem_sword hm
   have := h99 i2 j2 h5
   omega
theorem SkOk.full {s : List (List Int)} (h : SkOk s) (h0 : ∀ i j, ¬ Zero s i j) : FillOk s ∧ sword s = rword s := by
 have hh : ∀ i, hol (s.getD i []) = 0 := fun i => by
  apply Classical.byContradiction
  intro hn
  have h1 := hol_le (s.getD i [])
  exact h0 i 0 ⟨by unfold rl; omega, hol_zero (by omega)⟩
 refine ⟨fill_of h.2 (fun i hi => ?_), ?_⟩
 · have hr := h.1 i hi
   exact ⟨hr.1, fun h0 => (hr.2.1 h0).1, fun j hj => hr.2.2 j hj (by rw [hh]; exact Nat.zero_le _)⟩
 · unfold sword
   congr 1
   conv => rhs; rw [← List.map_id s]
   refine List.map_congr_left (fun r hr => ?_)
   refine lets_pos (fun x hx => ?_)
   obtain ⟨i, hi, rfl⟩ := List.getElem_of_mem hr
   obtain ⟨j, hj, rfl⟩ := List.getElem_of_mem hx
   have h1 := h.sk.1.nn i j (by unfold rl; rw [getD_get hi]; exact hj)
   have h2 := h0 i j
   unfold Zero at h2
   unfold cell at h1 h2
   unfold rl at h2
   rw [getD_get hi, getD_get hj] at h1 h2
   have h3 : ¬ s[i][j] = 0 := fun e => h2 ⟨hj, e⟩
   omega
theorem SkOk.done {s t : List (List Int)} (h : SkOk t) (hk : Kn (sword s) (sword t)) (h0 : ∀ i j, ¬ Zero t i j) : t = insW [] (sword s) := by
 obtain ⟨h1, h2⟩ := h.full h0
 rw [insW_Kn0 _ (Nat.le_refl _) hk, h2, insW_rword h1.1]
structure Cnt (xs l : List Int) : Prop where
 at_ : ∀ k, k < l.length → l.getD k 0 = (xs.count ((k : Int) + 1) : Int)
 up : ∀ x ∈ xs, x ≤ (l.length : Int)
theorem Cnt.nil : Cnt [] [] := ⟨fun k hk => by simp at hk, fun x hx => by simp at hx⟩
theorem Cnt.zero {xs l : List Int} (h : Cnt xs l) : Cnt xs (l ++ [0]) := by
 refine ⟨fun k hk => ?_, fun x hx => by have := h.up x hx; simp; omega⟩
 by_cases e : k < l.length
 · rw [List.getD_eq_getElem?_getD, List.getElem?_append_left e, ← List.getD_eq_getElem?_getD]; exact h.at_ k e
 · have hk2 : k = l.length := by simp at hk; omega
   subst hk2
   rw [List.getD_eq_getElem?_getD, List.getElem?_append_right (Nat.le_refl _)]
   have : xs.count ((l.length : Int) + 1) = 0 := List.count_eq_zero.2 (fun hm => by have := h.up _ hm; omega)
   rw [this]; simp
theorem Cnt.add {xs l : List Int} {n : Nat} (h : Cnt xs l) (h2 : n < l.length) : Cnt (xs ++ [(n : Int) + 1]) (l.set n (l.getD n 0 + 1)) := by
 refine ⟨fun k hk => ?_, fun x hx => ?_⟩
 · rw [List.length_set] at hk
   rw [List.count_append]
   by_cases e : n = k
   · subst e
     rw [List.getD_eq_getElem?_getD, List.getElem?_set_self hk, h.at_ n hk]; simp
   · rw [List.getD_eq_getElem?_getD, List.getElem?_set_ne e, ← List.getD_eq_getElem?_getD, h.at_ k hk]
     have : List.count ((k : Int) + 1) [(n : Int) + 1] = 0 := List.count_eq_zero.2 (fun hm => by simp at hm; omega)
     rw [this]; simp
 · rw [List.length_set]
   rcases List.mem_append.1 hx with e | e
   · exact h.up x e
   · simp at e; rw [e]; omega
theorem Cnt.perm {xs l : List Int} (h : Cnt xs l) (h1 : ∀ x ∈ xs, 1 ≤ x) (ht : l.length = 0 ∨ (l.length : Int) ∈ xs) : IsPerm xs ↔ ∀ k, k < l.length → l.getD k 0 = 1 := by
 refine ⟨fun hp k hk => ?_, fun hall => ?_⟩
 · rw [h.at_ k hk]
   have h2 : (l.length : Int) ≤ xs.length := by
    rcases ht with e | e
    · omega
    · exact (hp.2 _ e).2
   have h3 := hp.mem (x := (k : Int) + 1) (by omega) (by omega)
   have h4 := List.nodup_iff_count.1 hp.1 ((k : Int) + 1)
   have h5 := List.count_pos_iff.2 h3
   omega
 · have hc : ∀ x : Int, 1 ≤ x → x ≤ (l.length : Int) → xs.count x = 1 := fun x hx1 hx2 => by
    have h2 := hall (x - 1).toNat (by omega)
    rw [h.at_ _ (by omega), show (((x - 1).toNat : Nat) : Int) + 1 = x by omega] at h2
    omega
   have hnd : xs.Nodup := List.nodup_iff_count.2 (fun x => by
    by_cases hx : x ∈ xs
    · rw [hc x (h1 x hx) (h.up x hx)]; exact Nat.le_refl _
    · rw [List.count_eq_zero.2 hx]; exact Nat.zero_le _)
   have hl := IsPerm.length_of (n := l.length) hnd (fun x hx => ⟨h1 x hx, h.up x hx⟩) (fun x hx1 hx2 => List.count_pos_iff.1 (by rw [hc x hx1 hx2]; omega))
   exact ⟨hnd, fun x hx => ⟨h1 x hx, by rw [hl]; exact h.up x hx⟩⟩
def Std (T : List (List Int)) : Prop := FillOk T ∧ IsPerm T.flatten
theorem flatten_len (T : List (List Int)) : T.flatten.length = boxes T := by
 unfold boxes; rw [List.length_flatten]
theorem mem_row {T : List (List Int)} {i : Nat} {x : Int} (h : x ∈ T.getD i []) : x ∈ T.flatten := by
 have hi : i < T.length := by
  apply Classical.byContradiction
  intro hn
  rw [getD_far (by omega)] at h
  simp at h
 exact List.mem_flatten.2 ⟨T.getD i [], by rw [getD_get hi]; exact List.getElem_mem hi, h⟩
theorem cell_mem {T : List (List Int)} {i j : Nat} (h : j < rl T i) : cell T i j ∈ T.getD i [] := by
 unfold cell; unfold rl at h; rw [getD_get h]; exact List.getElem_mem h
theorem Std.inj {T : List (List Int)} (h : Std T) {i j a b : Nat} (h1 : j < rl T i) (h2 : b < rl T a) (e : cell T i j = cell T a b) : a = i ∧ b = j := by
 have hnd := List.pairwise_flatten.1 h.2.1
 have hi := rl_in h1
 have ha := rl_in h2
 have m1 := cell_mem h1
 have m2 := cell_mem h2
 have hai : a = i := by
  apply Classical.byContradiction
  intro hn
  have hp := List.pairwise_iff_getElem.1 hnd.2
  rw [e] at m1
  rw [getD_get hi] at m1
  rw [getD_get ha] at m2
  rcases Nat.lt_or_ge a i with hlt | hge
  · exact hp a i ha hi hlt _ m2 _ m1 rfl
  · exact hp i a hi ha (by omega) _ m1 _ m2 rfl
 subst hai
 refine ⟨rfl, ?_⟩
 have hr := hnd.1 (T.getD a []) (by rw [getD_get hi]; exact List.getElem_mem hi)
 unfold rl at h1 h2
 unfold cell at e
 rw [getD_get h1, getD_get h2] at e
 exact (nodup_get hr h1 h2 e).symm
theorem FillOk.skOk {T : List (List Int)} (h : FillOk T) : SkOk T ∧ ∀ i j, j < rl T i → 1 ≤ cell T i j := by
 have h1 : ∀ i j, j < rl T i → 1 ≤ cell T i j := fun i j hj => ((h.row (rl_in hj)).2.2 j hj).1.1
 have hh : ∀ i, hol (T.getD i []) = 0 := fun i => by
  apply Classical.byContradiction
  intro hn
  have h2 := hol_le (T.getD i [])
  have h3 := h1 i 0 (by unfold rl; omega)
  have h4 := hol_zero (r := T.getD i []) (k := 0) (by omega)
  unfold cell at h3
  omega
 refine ⟨⟨fun i hi => ?_, h.2.2⟩, h1⟩
 have hr := h.row hi
 exact ⟨hr.1, fun h0 => ⟨hr.2.1 h0, by rw [hh, hh]; exact Nat.le_refl _⟩, fun j hj _ => hr.2.2 j hj⟩
end
end Go.Proofs.YtpmkdihencepnaaGreatDoor
