/- Part of the proof. -/
import Derived.Test.YtpmkdihencepnaaGreatDoorMk07
import Derived.Test.YtpmkdihencepnaaGreatDoorMk09
namespace Go.Proofs.YtpmkdihencepnaaGreatDoor
section
def star (n : Int) (w : List Int) : List Int := (w.map (fun x => n + 1 - x)).reverse
theorem star_append (n : Int) (u v : List Int) : star n (u ++ v) = star n v ++ star n u := by simp [star]
theorem star_star (n : Int) (w : List Int) : star n (star n w) = w := by
 unfold star
 rw [List.map_reverse, List.reverse_reverse, List.map_map]
 conv => rhs; rw [← List.map_id w]
 exact List.map_congr_left (fun x _ => by simp; omega)
theorem star_len (n : Int) (w : List Int) : (star n w).length = w.length := by simp [star]
theorem star_filter (n m : Int) (w : List Int) : (star n w).filter (fun x => decide (x ≤ n - m)) = star n (w.filter (fun x => decide (m < x))) := by
 unfold star
 rw [List.filter_reverse, List.filter_map]
 congr 2
 exact List.filter_congr (fun x _ => by simp; omega)
theorem Kn.star (n : Int) {a b : List Int} (h : Kn a b) : Kn (star n a) (star n b) := by
 induction h with
 | refl w => exact .refl _
 | step u v k =>
  rw [star_append, star_append, star_append, star_append, ← List.append_assoc, ← List.append_assoc]
  refine Kn.ctx _ _ ?_
  cases k with
  | a x y z h1 h2 => exact (Kn.one (K1.b (n + 1 - z) (n + 1 - y) (n + 1 - x) (by omega) (by omega))).symm
  | b x y z h1 h2 => exact (Kn.one (K1.a (n + 1 - z) (n + 1 - y) (n + 1 - x) (by omega) (by omega))).symm
 | symm _ ih => exact ih.symm
 | trans _ _ ih1 ih2 => exact ih1.trans ih2
theorem Kn.star_iff (n : Int) {a b : List Int} : Kn (Go.Proofs.YtpmkdihencepnaaGreatDoor.star n a) (Go.Proofs.YtpmkdihencepnaaGreatDoor.star n b) ↔ Kn a b :=
 ⟨fun h => by have := h.star n; rwa [star_star, star_star] at this, fun h => h.star n⟩
theorem Kn.keepGt (m : Int) {a b : List Int} (h : Kn a b) : Kn (a.filter (fun x => decide (m < x))) (b.filter (fun x => decide (m < x))) := by
 have h1 := (h.star 0).keepLe (0 - m)
 rw [star_filter, star_filter] at h1
 exact (Kn.star_iff 0).1 h1
def dec (d : Int) (w : List Int) : List Int := w.map (fun x => x - d)
theorem dec_star (d : Int) (w : List Int) : dec d w = star (0 - d) (star 0 w) := by
 unfold dec star
 rw [List.map_reverse, List.reverse_reverse, List.map_map]
 exact List.map_congr_left (fun x _ => by simp; omega)
theorem Kn.dec (d : Int) {a b : List Int} (h : Kn a b) : Kn (Go.Proofs.YtpmkdihencepnaaGreatDoor.dec d a) (Go.Proofs.YtpmkdihencepnaaGreatDoor.dec d b) := by
 rw [dec_star, dec_star]; exact (h.star 0).star _
theorem Kn.dec_iff (d : Int) {a b : List Int} : Kn (Go.Proofs.YtpmkdihencepnaaGreatDoor.dec d a) (Go.Proofs.YtpmkdihencepnaaGreatDoor.dec d b) ↔ Kn a b := by
 rw [dec_star, dec_star, Kn.star_iff, Kn.star_iff]
theorem can_star {n : Int} {w : List Int} {k m : Nat} (h : Can (· ≤ ·) k w m) : Can (· ≤ ·) k (star n w) m := by
 obtain ⟨L, h1, h2, h3, h4⟩ := h
 refine ⟨(L.map (fun p => (n + 1 - p.1, p.2))).reverse, ?_, fun t ht => ?_, fun p hp => ?_, ?_⟩
 · unfold star
   rw [List.map_reverse, List.map_map, ← h1, List.map_map]; rfl
 · have : cls (L.map (fun p => (n + 1 - p.1, p.2))).reverse t = ((cls L t).map (fun x => n + 1 - x)).reverse := by
    unfold cls
    rw [List.filter_reverse, List.map_reverse, List.filter_map, List.map_map, List.map_map]
    rfl
   rw [this, List.pairwise_reverse, List.pairwise_map]
   exact (h2 t ht).imp (fun hab => by omega)
 · rw [List.mem_reverse] at hp
   obtain ⟨q, hq, rfl⟩ := List.mem_map.1 hp
   exact h3 q hq
 · unfold ncol at h4 ⊢
   rw [List.countP_reverse, List.countP_map, ← h4]
   rfl
def shp (w : List Int) (a : Nat) : Nat := ((insW [] w).getD a []).length
theorem shp_kn {u v : List Int} (h : Kn u v) (a : Nat) : shp u a = shp v a := by
 unfold shp; rw [insW_Kn0 _ (Nat.le_refl _) h]
theorem shp_star (n : Int) (w : List Int) (a : Nat) : shp (star n w) a = shp w a :=
 same_shape (fun k m => ⟨fun h => by have := can_star (n := n) h; rwa [star_star] at this, can_star⟩) a
def upto (T : List (List Int)) (a : Nat) (m : Int) : Nat := ((T.getD a []).filter (fun x => decide (x ≤ m))).length
theorem upto_made (w : List Int) (a : Nat) (m : Int) : upto (insW [] w) a m = shp (w.filter (fun x => decide (x ≤ m))) a := by
 unfold upto shp
 have ht : Tab (insW [] w) := insW_tab w trivial
 rw [res_made, (res_tab ht).2]
theorem upto_tab {T : List (List Int)} (h : Tab T) (a : Nat) (m : Int) : upto T a m = shp ((rword T).filter (fun x => decide (x ≤ m))) a := by
 rw [← upto_made, insW_rword h]
theorem upto_mono (T : List (List Int)) (a : Nat) {m m' : Int} (h : m ≤ m') : upto T a m ≤ upto T a m' := by
 unfold upto
 rw [← List.countP_eq_length_filter, ← List.countP_eq_length_filter]
 exact List.countP_mono_left (fun x _ hx => by simp at hx ⊢; omega)
theorem upto_le (T : List (List Int)) (a : Nat) (m : Int) : upto T a m ≤ rl T a := List.length_filter_le _ _
theorem upto_all {T : List (List Int)} {m : Int} (h : ∀ a, ∀ x ∈ T.getD a [], x ≤ m) (a : Nat) : upto T a m = rl T a := by
 unfold upto rl
 rw [List.filter_eq_self.2 (fun x hx => by have := h a x hx; simpa using this)]
theorem shp_rl {T : List (List Int)} (h : Tab T) (a : Nat) : shp (rword T) a = rl T a := by
 unfold shp rl; rw [insW_rword h]
theorem tab_uniq {T U : List (List Int)} {n : Nat} (hT : Tab T) (hU : Tab U) (h1 : ∀ x ∈ rword T, 1 ≤ x ∧ x ≤ (n : Int)) (h2 : ∀ x ∈ rword U, 1 ≤ x ∧ x ≤ (n : Int)) (h : ∀ a (m : Nat), m ≤ n → upto T a m = upto U a m) : T = U := by
 have hm : ∀ {V : List (List Int)} {a : Nat} {x : Int}, x ∈ V.getD a [] → x ∈ rword V := fun {V a x} hx => by
  rw [rword_mem]
  by_cases c : a < V.length
  · rw [getD_get c] at hx; exact ⟨_, List.getElem_mem c, hx⟩
  · rw [getD_far (by omega)] at hx; simp at hx
 exact rows_ext hT.ne hU.ne (fun a => up_uniq (n := n) (hT.upD a) (hU.upD a) (fun x hx => h1 x (hm hx)) (fun x hx => h2 x (hm hx)) (fun m hm => h a m hm))
def chn (n : Nat) (w : List Int) (m : Nat) (a : Nat) : Nat := shp (w.filter (fun x => decide ((n : Int) - (m : Int) < x))) a
theorem chn_eq (n : Nat) (w : List Int) (m a : Nat) : chn n w m a = upto (insW [] (star n w)) a m := by
 rw [upto_made]
 unfold chn
 have := star_filter n ((n : Int) - m) w
 rw [show (n : Int) - ((n : Int) - m) = m by omega] at this
 rw [this, shp_star]
theorem chn_mono (n : Nat) (w : List Int) {m m' : Nat} (h : m ≤ m') (a : Nat) : chn n w m a ≤ chn n w m' a := by
 rw [chn_eq, chn_eq]; exact upto_mono _ _ (by omega)
theorem Std.perm {T : List (List Int)} (h : Std T) : IsPerm (rword T) ∧ (rword T).length = boxes T := by
 have h1 := rword_flat T
 exact ⟨IsPerm.of_perm h1 h.2, (boxes_word T).symm⟩
theorem Std.bnd {T : List (List Int)} (h : Std T) : ∀ x ∈ rword T, 1 ≤ x ∧ x ≤ (boxes T : Int) := fun x hx => by
 have := h.perm.1.2 x hx
 rwa [h.perm.2] at this
theorem star_bnd {n : Int} {w : List Int} (h : ∀ x ∈ w, 1 ≤ x ∧ x ≤ n) : ∀ x ∈ star n w, 1 ≤ x ∧ x ≤ n := fun x hx => by
 unfold star at hx
 rw [List.mem_reverse] at hx
 obtain ⟨y, hy, rfl⟩ := List.mem_map.1 hx
 have := h y hy
 omega
theorem made_kn (w : List Int) : Kn w (rword (insW [] w)) := by
 have := insW_word w (T := []) (fun r hr => by simp at hr)
 simpa [rword] using this
theorem made_bnd {n : Int} {w : List Int} (h : ∀ x ∈ w, 1 ≤ x ∧ x ≤ n) : ∀ x ∈ rword (insW [] w), 1 ≤ x ∧ x ≤ n := fun x hx => h x (((made_kn w).mem x).2 hx)
theorem std_of {n : Nat} {w : List Int} (h : IsPerm w) (hn : w.length = n) (h40 : n ≤ 40) : Std (insW [] w) ∧ boxes (insW [] w) = n := by
 have h1 := fill_word (w := w) (by omega) (fun x hx => by have := h.2 x hx; exact ⟨by omega, by omega⟩)
 exact ⟨⟨h1.1, IsPerm.of_perm (made_flat w) h⟩, by rw [h1.2, hn]⟩
theorem IsPerm.star {w : List Int} (h : IsPerm w) : IsPerm (Go.Proofs.YtpmkdihencepnaaGreatDoor.star w.length w) := by
 refine ⟨?_, fun x hx => ?_⟩
 · unfold Go.Proofs.YtpmkdihencepnaaGreatDoor.star
   rw [List.nodup_iff_pairwise_ne, List.pairwise_reverse, List.pairwise_map]
   exact (List.nodup_iff_pairwise_ne.1 h.1).imp (fun hab => by omega)
 · rw [star_len]
   exact star_bnd h.2 x hx
def eva (T : List (List Int)) : List (List Int) := insW [] (star (boxes T) (rword T))
theorem Std.eva {T : List (List Int)} (h : Std T) : Std (eva T) ∧ boxes (eva T) = boxes T ∧ eva (eva T) = T ∧ ∀ a, rl (eva T) a = rl T a := by
 have h1 := h.perm
 have h2 := h1.1.star
 rw [h1.2] at h2
 have h3 := std_of h2 (by rw [star_len, h1.2]) h.1.2.2
 refine ⟨h3.1, h3.2, ?_, fun a => ?_⟩
 · unfold Go.Proofs.YtpmkdihencepnaaGreatDoor.eva at h3 ⊢
   rw [h3.2]
   have h4 := (made_kn (Go.Proofs.YtpmkdihencepnaaGreatDoor.star (boxes T) (rword T))).star (boxes T)
   rw [star_star] at h4
   rw [← insW_Kn0 _ (Nat.le_refl _) h4, insW_rword h.1.1]
 · rw [← shp_rl h.1.1, ← shp_star (boxes T)]; rfl
theorem row_count {l : List Int} {m : Int} {c : Nat} (hc : c ≤ l.length) (h : ∀ b (hb : b < l.length), l[b] ≤ m ↔ b < c) : (l.filter (fun x => decide (x ≤ m))).length = c := by
 conv => lhs; rw [← List.take_append_drop c l]
 rw [List.filter_append, List.length_append]
 have h1 : (l.take c).filter (fun x => decide (x ≤ m)) = l.take c := by
  rw [List.filter_eq_self]
  intro x hx
  obtain ⟨b, hb, rfl⟩ := List.getElem_of_mem hx
  rw [List.length_take] at hb
  rw [List.getElem_take]
  exact decide_eq_true ((h b (by omega)).2 (by omega))
 have h2 : (l.drop c).filter (fun x => decide (x ≤ m)) = [] := by
  rw [List.filter_eq_nil_iff]
  intro x hx
  obtain ⟨b, hb, rfl⟩ := List.getElem_of_mem hx
  rw [List.length_drop] at hb
  rw [List.getElem_drop]
  intro hh
  have := (h (c + b) (by omega)).1 (of_decide_eq_true hh)
  omega
 rw [h1, h2, List.length_take]; simp; omega
theorem eva_of {T E : List (List Int)} (h : Std T) (hl : E.length = T.length) (hr : ∀ a, rl E a = rl T a) (hs : ∀ a b, b < rl T a → ∀ m : Nat, m ≤ boxes T → (cell E a b ≤ (m : Int) ↔ b < chn (boxes T) (rword T) m a)) : E = eva T := by
 obtain ⟨e1, e2, e3, e4⟩ := h.eva
 have hb := star_bnd h.bnd
 have hmb := made_bnd hb
 have hch : ∀ m a, chn (boxes T) (rword T) m a = upto (eva T) a m := fun m a => chn_eq _ _ _ _
 have hcl : ∀ m a, chn (boxes T) (rword T) m a ≤ rl T a := fun m a => by rw [hch, ← e4]; exact upto_le _ _ _
 have hlow : ∀ a b, b < rl T a → 1 ≤ cell E a b ∧ cell E a b ≤ (boxes T : Int) := fun a b hb => by
  have h1 := hs a b hb 0 (Nat.zero_le _)
  have h2 := hs a b hb (boxes T) (Nat.le_refl _)
  have h3 : chn (boxes T) (rword T) 0 a = 0 := by
   unfold chn
   rw [List.filter_eq_nil_iff.2 (fun x hx => by have := h.bnd x hx; simp; omega)]; rfl
  have h4 : chn (boxes T) (rword T) (boxes T) a = rl T a := by
   unfold chn
   rw [List.filter_eq_self.2 (fun x hx => by have := h.bnd x hx; simp; omega), shp_rl h.1.1]
  rw [h3] at h1
  rw [h4] at h2
  omega
 have hne : ∀ r ∈ E, r ≠ [] := fun r hr2 => by
  obtain ⟨a, ha, rfl⟩ := List.getElem_of_mem hr2
  intro e
  have h1 := hr a
  unfold rl at h1
  rw [getD_get ha, e] at h1
  have h2 := h.1.1.ne (T.getD a []) (by rw [getD_get (by omega)]; exact List.getElem_mem _)
  exact h2 (List.eq_nil_of_length_eq_zero (by simpa using h1.symm))
 refine rows_ext hne e1.1.1.ne (fun a => up_uniq (n := boxes T) ?_ (e1.1.1.upD a) (fun x hx => ?_) (fun x hx => ?_) (fun m hm => ?_))
 · unfold Up
   rw [List.pairwise_iff_getElem]
   intro i j hi hj hij
   have h1 := hlow a j (by rw [← hr]; exact hj)
   have h2 := hs a j (by rw [← hr]; exact hj) (cell E a j).toNat (by omega)
   have h3 := hs a i (by rw [← hr]; exact hi) (cell E a j).toNat (by omega)
   have h4 := h2.1 (by omega)
   have h5 := h3.2 (by omega)
   unfold cell at h5 h1
   rw [getD_get hi] at h5
   rw [getD_get hj] at h5 h1
   omega
 · obtain ⟨b, hb2, rfl⟩ := List.getElem_of_mem hx
   have := hlow a b (by rw [← hr]; exact hb2)
   unfold cell at this
   rwa [getD_get hb2] at this
 · refine hmb x ?_
   rw [rword_mem]
   by_cases c : a < (eva T).length
   · rw [getD_get c] at hx; exact ⟨_, List.getElem_mem c, hx⟩
   · rw [getD_far (by omega)] at hx; simp at hx
 · have h1 : ((E.getD a []).filter (fun x => decide (x ≤ (m : Int)))).length = chn (boxes T) (rword T) m a := by
    have hrl : rl E a = (E.getD a []).length := rfl
    refine row_count (by rw [← hrl, hr]; exact hcl m a) (fun b hb2 => ?_)
    have := hs a b (by rw [← hr]; exact hb2) m hm
    unfold cell at this
    rwa [getD_get hb2] at this
   rw [h1, hch]; rfl
structure Pro (T U : List (List Int)) : Prop where
 t : Std T
 u : Std U
 rls : ∀ a, rl U a = rl T a
 bx : boxes U = boxes T
 kn : Kn (dec 1 ((rword T).filter (fun x => decide (1 < x)))) ((rword U).filter (fun x => decide (x ≤ (boxes T : Int) - 1)))
theorem Pro.fn {T U V : List (List Int)} (h : Pro T U) (h2 : Pro T V) : U = V := by
 refine tab_uniq (n := boxes T) h.u.1.1 h2.u.1.1 (fun x hx => by rw [← h.bx]; exact h.u.bnd x hx) (fun x hx => by rw [← h2.bx]; exact h2.u.bnd x hx) (fun a m hm => ?_)
 by_cases e : m = boxes T
 · have hall : ∀ {W : List (List Int)}, Std W → boxes W = boxes T → ∀ a, ∀ x ∈ W.getD a [], x ≤ (m : Int) := fun {W} hW hb a x hx => by
    have hx2 : x ∈ rword W := by
     rw [rword_mem]
     by_cases c : a < W.length
     · rw [getD_get c] at hx; exact ⟨_, List.getElem_mem c, hx⟩
     · rw [getD_far (by omega)] at hx; simp at hx
    have := (hW.bnd x hx2).2
    rw [e, ← hb]; exact this
   rw [upto_all (hall h.u h.bx), upto_all (hall h2.u h2.bx), h.rls, h2.rls]
 · have hk := (h.kn.symm.trans h2.kn).keepLe m
   rw [List.filter_filter, List.filter_filter] at hk
   have hf : ∀ w : List Int, w.filter (fun x => decide (x ≤ (m : Int)) && decide (x ≤ (boxes T : Int) - 1)) = w.filter (fun x => decide (x ≤ (m : Int))) := fun w => List.filter_congr (fun x _ => by
    rw [← Bool.decide_and]
    exact decide_eq_decide.2 ⟨fun h => h.1, fun h => ⟨h, by omega⟩⟩)
   rw [hf, hf] at hk
   rw [upto_tab h.u.1.1, upto_tab h2.u.1.1, shp_kn hk]
theorem Pro.inj {T D U : List (List Int)} (h : Pro T U) (h2 : Pro D U) : T = D := by
 have hbx : boxes D = boxes T := by rw [← h.bx, h2.bx]
 have key : eva T = eva D := by
  obtain ⟨e1, e2, _, e4⟩ := h.t.eva
  obtain ⟨f1, f2, _, f4⟩ := h2.t.eva
  refine tab_uniq (n := boxes T) e1.1.1 f1.1.1 (fun x hx => by rw [← e2]; exact e1.bnd x hx) (fun x hx => by rw [← hbx, ← f2]; exact f1.bnd x hx) (fun a m hm => ?_)
  have g1 := chn_eq (boxes T) (rword T) m a
  have g2 := chn_eq (boxes D) (rword D) m a
  show upto (insW [] _) a m = upto (insW [] _) a m
  rw [← g1, ← g2, hbx]
  by_cases e : m = boxes T
  · unfold chn
    rw [List.filter_eq_self.2 (fun x hx => by have := h.t.bnd x hx; simp; omega), List.filter_eq_self.2 (fun x hx => by have := h2.t.bnd x hx; simp; omega), shp_rl h.t.1.1, shp_rl h2.t.1.1, ← h.rls, ← h2.rls]
  · have hk := h2.kn
    rw [hbx] at hk
    have hk2 := ((Kn.dec_iff 1).1 (h.kn.trans hk.symm)).keepGt ((boxes T : Int) - m)
    rw [List.filter_filter, List.filter_filter] at hk2
    have hf : ∀ w : List Int, w.filter (fun x => decide ((boxes T : Int) - m < x) && decide (1 < x)) = w.filter (fun x => decide ((boxes T : Int) - m < x)) := fun w => List.filter_congr (fun x _ => by
     rw [← Bool.decide_and]
     exact decide_eq_decide.2 ⟨fun h => h.1, fun h => ⟨h, by omega⟩⟩)
    rw [hf, hf] at hk2
    exact shp_kn hk2 a
 have h3 := h.t.eva.2.2.1
 have h4 := h2.t.eva.2.2.1
 rw [← h3, key, h4]
theorem put_put (s : List (List Int)) (i j : Nat) (x y : Int) : put (put s i j x) i j y = put s i j y := by
 have h := put_row s i j x i
 rw [if_pos rfl] at h
 unfold put at h ⊢
 rw [h, List.set_set, List.set_set]
theorem Slid.fill {s : List (List Int)} {I J : Nat} {out : List (List Int)} {i j : Nat} (z : Int) (hJ : J < rl s I) (h : Slid s I J out i j) : Slid (put s I J z) I J out i j := by
 have pc := fun k q => put_cell (x := z) hJ k q
 cases h with
 | down h1 h2 h3 =>
  refine .down (by rw [put_rl]; exact h1) (fun h4 => ?_) ?_
  · rw [put_rl] at h4; rw [pc, pc, if_neg (by omega), if_neg (by omega)]; exact h2 h4
  · rw [pc, if_neg (by omega), put_put]; exact h3
 | right h1 h2 h3 =>
  refine .right (by rw [put_rl]; exact h1) (fun h4 => ?_) ?_
  · rw [put_rl] at h4; rw [pc, pc, if_neg (by omega), if_neg (by omega)]; exact h2 h4
  · rw [pc, if_neg (by omega), put_put]; exact h3
 | stop h1 h2 =>
  have e : cut (put s I J z) I J = cut s I J := by
   unfold cut
   by_cases h0 : J = 0
   · rw [if_pos h0, if_pos h0]; unfold put; rw [List.take_set, List.set_eq_of_length_le (by rw [List.length_take]; omega)]
   · have e5 : ((s.getD I []).set J z).take J = (s.getD I []).take J := by rw [List.take_set, List.set_eq_of_length_le (by rw [List.length_take]; omega)]
     rw [if_neg h0, if_neg h0, put_row, if_pos rfl, e5]; unfold put; rw [List.set_set]
  have := Slid.stop (s := put s I J z) (I := I) (J := J) (by rw [put_rl]; exact h1) (by rw [put_rl]; exact h2)
  rwa [e] at this
theorem Slid.shape {s : List (List Int)} {I J : Nat} {out : List (List Int)} {i j : Nat} (h : Slid s I J out i j) : Cfg s I J → (∀ a, rl out a = if a = i then j else rl s a) ∧ rl s i = j + 1 ∧ rl s (i + 1) ≤ j ∧ i < s.length ∧ (j = 0 → s.length = i + 1 ∧ out.length = i) ∧ (j ≠ 0 → out.length = s.length) := by
 induction h with
 | @down s I J out i j hd hb _ ih =>
  intro hc
  have := ih (hc.goD hd hb)
  rw [put_rl, put_rl, put_length] at this
  refine ⟨fun a => by rw [this.1 a, put_rl], this.2⟩
 | @right s I J out i j hr hb _ ih =>
  intro hc
  have := ih (hc.goR hr (fun c hc1 hc2 => by rw [hc2]; exact hb hc1))
  rw [put_rl, put_rl, put_length] at this
  refine ⟨fun a => by rw [this.1 a, put_rl], this.2⟩
 | @stop s I J h1 h2 =>
  intro hc
  have hat := hc.at_
  have hI := hc.inI
  refine ⟨fun a => cut_rl hc h2 a, by omega, h2, hI, fun h0 => ?_, fun h0 => ?_⟩
  · subst h0
    have := hc.tail h2
    refine ⟨this, ?_⟩
    unfold cut; rw [if_pos rfl, List.length_take]; omega
  · unfold cut; rw [if_neg h0, List.length_set]
theorem FillOk.cfg {s : List (List Int)} (h : FillOk s) (h0 : 0 < s.length) : Cfg s 0 0 := by
 obtain ⟨h1, h2⟩ := h.skOk
 have hk := h1.sk.1
 exact ⟨hk.ne 0 h0, hk.ne, hk.lens, fun i j k a b _ _ => hk.row i j k a b, fun i i' j a b _ _ => hk.col i i' j a b, fun i j a _ => hk.nn i j a, fun i' _ a => by have := h2 i' 0 a; omega, fun k _ a => by have := h2 0 k a; omega⟩
theorem rword_lets {s : List (List Int)} (h : ∀ r ∈ s, ∀ x ∈ r, 0 < x) : sword s = rword s := by
 unfold sword
 congr 1
 conv => rhs; rw [← List.map_id s]
 exact List.map_congr_left (fun r hr => lets_pos (h r hr))
theorem open_word {s : List (List Int)} (h : FillOk s) (h0 : 0 < s.length) (hn : (rword s).Nodup) : (∀ x ∈ rword s, cell s 0 0 ≤ x) ∧ cell s 0 0 ∈ rword s ∧ hword s 0 0 = (rword s).filter (fun x => decide (cell s 0 0 < x)) := by
 obtain ⟨h1, h2⟩ := h.skOk
 have hk := h1.sk.1
 have hne := hk.ne 0 h0
 have hpos : ∀ r ∈ s, ∀ x ∈ r, 0 < x := fun r hr x hx => by have := (h.2.1 r hr x hx).1; omega
 have hw := rword_lets hpos
 have hmem : cell s 0 0 ∈ rword s := by rw [← hw]; exact mem_lets hne (by have := h2 0 0 hne; omega)
 have hle : ∀ x ∈ rword s, cell s 0 0 ≤ x := fun x hx => by
  rw [← hw] at hx
  obtain ⟨a, b, g1, rfl, _⟩ := mem_sword hx
  have g2 : 0 < rl s a := by omega
  have e1 : cell s a 0 ≤ cell s a b := by
   by_cases e : b = 0
   · rw [e]; exact Int.le_refl _
   · exact hk.row a 0 b (by omega) g1
  have e2 : cell s 0 0 ≤ cell s a 0 := by
   by_cases e : a = 0
   · rw [e]; exact Int.le_refl _
   · rcases hk.col 0 a 0 (by omega) g2 with g | g <;> omega
  omega
 refine ⟨hle, hmem, ?_⟩
 cases s with
 | nil => simp at h0
 | cons r t =>
  cases r with
  | nil => simp [rl] at hne
  | cons c r' =>
   have ec : cell ((c :: r') :: t) 0 0 = c := rfl
   rw [ec] at hle ⊢
   have hp : put ((c :: r') :: t) 0 0 0 = (0 :: r') :: t := rfl
   unfold hword
   rw [hp, sword_cons, rword_lets (fun r hr => hpos r (List.mem_cons_of_mem _ hr))]
   have e3 : lets (0 :: r') = r' := by rw [lets_cons, if_neg (by decide)]; exact lets_pos (fun x hx => hpos _ (List.mem_cons_self ..) x (List.mem_cons_of_mem _ hx))
   rw [e3]
   show rword t ++ r' = (rword t ++ c :: r').filter _
   have hn2 : (c :: (rword t ++ r')).Nodup := (List.perm_middle.nodup_iff).1 hn
   rw [List.nodup_cons] at hn2
   rw [List.filter_append, List.filter_cons, if_neg (by simp)]
   have e4 : ∀ x, x ∈ rword t ++ r' → decide (c < x) = true := fun x hx => decide_eq_true (by
    have g1 := hle x (by
     show x ∈ rword t ++ c :: r'
     rcases List.mem_append.1 hx with g | g
     · exact List.mem_append_left _ g
     · exact List.mem_append_right _ (List.mem_cons_of_mem _ g))
    have g2 : x ≠ c := fun e => hn2.1 (by rw [← e]; exact hx)
    omega)
   rw [List.filter_eq_self.2 (fun x hx => e4 x (List.mem_append_left _ hx)), List.filter_eq_self.2 (fun x hx => e4 x (List.mem_append_right _ hx))]
structure Evag (T s : List (List Int)) (N : Nat) : Prop where
 ok : FillOk s
 kn : Kn ((rword T).filter (fun x => decide ((boxes T : Int) - (N : Int) < x))) (rword s)
 bx : boxes s = N
 le : N ≤ boxes T
theorem Evag.start {T : List (List Int)} (h : Std T) : Evag T T (boxes T) := ⟨h.1, by
 rw [List.filter_eq_self.2 (fun x hx => by have := h.bnd x hx; simp; omega)]; exact .refl _, rfl, Nat.le_refl _⟩
theorem Evag.rls {T s : List (List Int)} {N : Nat} (h : Evag T s N) (a : Nat) : rl s a = chn (boxes T) (rword T) N a := by
 unfold chn
 rw [shp_kn h.kn, shp_rl h.ok.1]
theorem fill_len {s : List (List Int)} (h : 0 < boxes s) : 0 < s.length := by
 cases s with
 | nil => simp [boxes] at h
 | cons => simp
theorem Evag.cfg {T s : List (List Int)} {N : Nat} (h : Evag T s (N + 1)) : Cfg s 0 0 := h.ok.cfg (fill_len (by rw [h.bx]; omega))
theorem Evag.step {T s out : List (List Int)} {N i j : Nat} (h : Evag T s (N + 1)) (hT : Std T) (hs : Slid s 0 0 out i j) : Evag T out N := by
 have hc := h.cfg
 have hp := hT.perm
 have h0 : 0 < s.length := hc.inI
 have hle := h.le
 have hnd : (rword s).Nodup := h.kn.perm.nodup_iff.1 (hp.1.1.filter _)
 obtain ⟨o1, o2, o3⟩ := open_word h.ok h0 hnd
 have hcell : cell s 0 0 = (boxes T : Int) - N := by
  have h1 : (boxes T : Int) - N ∈ rword s := (h.kn.mem _).1 (List.mem_filter.2 ⟨hp.1.mem (by omega) (by rw [hp.2]; omega), decide_eq_true (by omega)⟩)
  have h2 := o1 _ h1
  have h3 := of_decide_eq_true (List.mem_filter.1 ((h.kn.mem _).2 o2)).2
  omega
 obtain ⟨p1, p2, p3, p4⟩ := hs.props hc
 have hz : ∀ a b, ¬ Zero out a b := fun a b hh => by
  have h1 := ((p3 a b).1 hh).1
  have h2 := h.ok.skOk.2 a b h1.1
  have := h1.2
  omega
 have hk := h.kn.keepGt ((boxes T : Int) - N)
 rw [List.filter_filter, ← hcell, ← o3, hcell] at hk
 have hf : (rword T).filter (fun x => decide ((boxes T : Int) - N < x) && decide ((boxes T : Int) - ((N + 1 : Nat) : Int) < x)) = (rword T).filter (fun x => decide ((boxes T : Int) - N < x)) := List.filter_congr (fun x _ => by
  rw [← Bool.decide_and]
  exact decide_eq_decide.2 ⟨fun h => h.1, fun h => ⟨h, by omega⟩⟩)
 rw [hf] at hk
 have h99 : ∀ a b, b < rl out a → cell out a b ≤ 99 := fun a b hb => by
  by_cases e : cell out a b ≤ 0
  · omega
  · have hm := (hk.trans p1).mem (cell out a b)
    have h1 := hm.2 (mem_lets hb (by omega))
    have h2 := hT.bnd _ (List.mem_filter.1 h1).1
    have := hT.1.2.2
    omega
 have hok := p2.ok (by have := h.bx; have := hT.1.2.2; omega) h99
 obtain ⟨f1, f2⟩ := hok.full hz
 refine ⟨f1, ?_, by have := h.bx; omega, by omega⟩
 rw [← f2]; exact hk.trans p1
structure Evaw (T E : List (List Int)) (N : Nat) : Prop where
 len : E.length = T.length
 rls : ∀ a, rl E a = rl T a
 val : ∀ a b, b < rl T a → chn (boxes T) (rword T) N a ≤ b → ∀ m : Nat, m ≤ boxes T → (cell E a b ≤ (m : Int) ↔ b < chn (boxes T) (rword T) m a)
theorem chn_all {T : List (List Int)} (h : Std T) (a : Nat) : chn (boxes T) (rword T) (boxes T) a = rl T a := by
 rw [← (Evag.start h).rls]
theorem chn_le {T : List (List Int)} (h : Std T) {N : Nat} (hN : N ≤ boxes T) (a : Nat) : chn (boxes T) (rword T) N a ≤ rl T a := by
 rw [← chn_all h]; exact chn_mono _ _ hN a
theorem Evaw.start {T : List (List Int)} (h : Std T) : Evaw T T (boxes T) := ⟨rfl, fun _ => rfl, fun a b h1 h2 => by rw [chn_all h] at h2; omega⟩
theorem Evaw.step {T E s out : List (List Int)} {N i j : Nat} (h : Evaw T E (N + 1)) (hT : Std T) (hg : Evag T s (N + 1)) (hs : Slid s 0 0 out i j) : (i < E.length ∧ j < rl E i) ∧ Evaw T (put E i j ((N + 1 : Nat) : Int)) N := by
 have hg2 := hg.step hT hs
 obtain ⟨s1, s2, s3, s4, s5, s6⟩ := hs.shape hg.cfg
 have hle := hg.le
 have c1 : chn (boxes T) (rword T) (N + 1) i = j + 1 := by rw [← hg.rls]; exact s2
 have c2 : ∀ a, chn (boxes T) (rword T) N a = if a = i then j else chn (boxes T) (rword T) (N + 1) a := fun a => by
  rw [← hg2.rls, s1, ← hg.rls]
 have hj : j < rl E i := by rw [h.rls]; have := chn_le hT hle i; omega
 refine ⟨⟨rl_in hj, hj⟩, ⟨by rw [put_length]; exact h.len, fun a => by rw [put_rl]; exact h.rls a, fun a b hb hc m hm => ?_⟩⟩
 rw [put_cell hj]
 by_cases e : a = i ∧ b = j
 · rw [if_pos e]
   obtain ⟨rfl, rfl⟩ := e
   by_cases em : N + 1 ≤ m
   · have := chn_mono (boxes T) (rword T) em a
     exact ⟨fun _ => by omega, fun _ => by omega⟩
   · have h1 := chn_mono (boxes T) (rword T) (show m ≤ N by omega) a
     rw [c2, if_pos rfl] at h1
     exact ⟨fun _ => by omega, fun _ => by omega⟩
 · rw [if_neg e]
   refine h.val a b hb ?_ m hm
   rw [c2] at hc
   by_cases ea : a = i
   · rw [if_pos ea] at hc
     rw [ea, c1]
     have : b ≠ j := fun eb => e ⟨ea, eb⟩
     omega
   · rwa [if_neg ea] at hc
theorem Evaw.done {T E : List (List Int)} (h : Evaw T E 0) (hT : Std T) : E = eva T :=
 eva_of hT h.len h.rls (fun a b hb m hm => h.val a b hb (by
  have h3 : chn (boxes T) (rword T) 0 a = 0 := by
   unfold chn
   rw [List.filter_eq_nil_iff.2 (fun x hx => by have := hT.bnd x hx; simp; omega)]; rfl
  omega) m hm)
end
end Go.Proofs.YtpmkdihencepnaaGreatDoor
