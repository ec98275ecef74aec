/-
  Plain: SCHUETZENBERGER'S: words from behind, what is evacuated; promotion as a relation of words.
-/
import Derived.Test.YtpmkdihencepnaaMg11
import Derived.Test.YtpmkdihencepnaaMg14
namespace Go.Proofs.Ytpmkdihencepnaa

/-- Read from behind, n + 1 - x for x. -/
def star (n : Int) (w : List Int) : List Int := (w.map (fun x => n + 1 - x)).reverse
theorem star_append (n : Int) (u v : List Int) : star n (u ++ v) = star n v ++ star n u := by simp [star]
theorem star_star (n : Int) (w : List Int) : star n (star n w) = w := by
  unfold star
  rw [List.map_reverse, List.reverse_reverse, List.map_map]
  conv => rhs; rw [← List.map_id w]
  exact List.map_congr_left (fun x _ => by simp; omega)
theorem star_len (n : Int) (w : List Int) : (star n w).length = w.length := by simp [star]
theorem star_filter (n m : Int) (w : List Int) : (star n w).filter (fun x => decide (x ≤ n - m)) = star n (w.filter (fun x => decide (m < x))) := by
  unfold star
  rw [List.filter_reverse, List.filter_map]
  congr 2
  exact List.filter_congr (fun x _ => by simp; omega)
theorem Kn.star (n : Int) {a b : List Int} (h : Kn a b) : Kn (star n a) (star n b) := by
  induction h with
  | refl w => exact .refl _
  | step u v k =>
    rw [star_append, star_append, star_append, star_append, ← List.append_assoc, ← List.append_assoc]
    refine Kn.ctx _ _ ?_
    cases k with
    | a x y z h1 h2 => exact (Kn.one (K1.b (n + 1 - z) (n + 1 - y) (n + 1 - x) (by omega) (by omega))).symm
    | b x y z h1 h2 => exact (Kn.one (K1.a (n + 1 - z) (n + 1 - y) (n + 1 - x) (by omega) (by omega))).symm
  | symm _ ih => exact ih.symm
  | trans _ _ ih1 ih2 => exact ih1.trans ih2
theorem Kn.star_iff (n : Int) {a b : List Int} : Kn (Go.Proofs.Ytpmkdihencepnaa.star n a) (Go.Proofs.Ytpmkdihencepnaa.star n b) ↔ Kn a b :=
  ⟨fun h => by have := h.star n; rwa [star_star, star_star] at this, fun h => h.star n⟩
theorem Kn.keepGt (m : Int) {a b : List Int} (h : Kn a b) : Kn (a.filter (fun x => decide (m < x))) (b.filter (fun x => decide (m < x))) := by
  have h1 := (h.star 0).keepLe (0 - m)
  rw [star_filter, star_filter] at h1
  exact (Kn.star_iff 0).1 h1
/-- Every letter d less. -/
def dec (d : Int) (w : List Int) : List Int := w.map (fun x => x - d)
theorem dec_star (d : Int) (w : List Int) : dec d w = star (0 - d) (star 0 w) := by
  unfold dec star
  rw [List.map_reverse, List.reverse_reverse, List.map_map]
  exact List.map_congr_left (fun x _ => by simp; omega)
theorem Kn.dec (d : Int) {a b : List Int} (h : Kn a b) : Kn (Go.Proofs.Ytpmkdihencepnaa.dec d a) (Go.Proofs.Ytpmkdihencepnaa.dec d b) := by
  rw [dec_star, dec_star]; exact (h.star 0).star _
theorem Kn.dec_iff (d : Int) {a b : List Int} : Kn (Go.Proofs.Ytpmkdihencepnaa.dec d a) (Go.Proofs.Ytpmkdihencepnaa.dec d b) ↔ Kn a b := by
  rw [dec_star, dec_star, Kn.star_iff, Kn.star_iff]
theorem can_star {n : Int} {w : List Int} {k m : Nat} (h : Can (· ≤ ·) k w m) : Can (· ≤ ·) k (star n w) m := by
  obtain ⟨L, h1, h2, h3, h4⟩ := h
  refine ⟨(L.map (fun p => (n + 1 - p.1, p.2))).reverse, ?_, fun t ht => ?_, fun p hp => ?_, ?_⟩
  · unfold star
    rw [List.map_reverse, List.map_map, ← h1, List.map_map]; rfl
  · have : cls (L.map (fun p => (n + 1 - p.1, p.2))).reverse t = ((cls L t).map (fun x => n + 1 - x)).reverse := by
      unfold cls
      rw [List.filter_reverse, List.map_reverse, List.filter_map, List.map_map, List.map_map]
      rfl
    rw [this, List.pairwise_reverse, List.pairwise_map]
    exact (h2 t ht).imp (fun hab => by omega)
  · rw [List.mem_reverse] at hp
    obtain ⟨q, hq, rfl⟩ := List.mem_map.1 hp
    exact h3 q hq
  · unfold ncol at h4 ⊢
    rw [List.countP_reverse, List.countP_map, ← h4]
    rfl
/-- How long the a-th row of a word's tableau is. -/
def shp (w : List Int) (a : Nat) : Nat := ((insW [] w).getD a []).length
theorem shp_kn {u v : List Int} (h : Kn u v) (a : Nat) : shp u a = shp v a := by
  unfold shp; rw [insW_Kn0 _ (Nat.le_refl _) h]
theorem shp_star (n : Int) (w : List Int) (a : Nat) : shp (star n w) a = shp w a :=
  same_shape (fun k m => ⟨fun h => by have := can_star (n := n) h; rwa [star_star] at this, can_star⟩) a
/-- Letters of a row up to m. -/
def upto (T : List (List Int)) (a : Nat) (m : Int) : Nat := ((T.getD a []).filter (fun x => decide (x ≤ m))).length
theorem upto_made (w : List Int) (a : Nat) (m : Int) : upto (insW [] w) a m = shp (w.filter (fun x => decide (x ≤ m))) a := by
  unfold upto shp
  have ht : Tab (insW [] w) := insW_tab w trivial
  rw [res_made, (res_tab ht).2]
theorem upto_tab {T : List (List Int)} (h : Tab T) (a : Nat) (m : Int) : upto T a m = shp ((rword T).filter (fun x => decide (x ≤ m))) a := by
  rw [← upto_made, insW_rword h]
theorem upto_mono (T : List (List Int)) (a : Nat) {m m' : Int} (h : m ≤ m') : upto T a m ≤ upto T a m' := by
  unfold upto
  rw [← List.countP_eq_length_filter, ← List.countP_eq_length_filter]
  exact List.countP_mono_left (fun x _ hx => by simp at hx ⊢; omega)
theorem upto_le (T : List (List Int)) (a : Nat) (m : Int) : upto T a m ≤ rl T a := List.length_filter_le _ _
theorem upto_all {T : List (List Int)} {m : Int} (h : ∀ a, ∀ x ∈ T.getD a [], x ≤ m) (a : Nat) : upto T a m = rl T a := by
  unfold upto rl
  rw [List.filter_eq_self.2 (fun x hx => by have := h a x hx; simpa using this)]
theorem shp_rl {T : List (List Int)} (h : Tab T) (a : Nat) : shp (rword T) a = rl T a := by
  unfold shp rl; rw [insW_rword h]
/-- Tableaux of letters up to n, known by how many of a row's letters are small. -/
theorem tab_uniq {T U : List (List Int)} {n : Nat} (hT : Tab T) (hU : Tab U) (h1 : ∀ x ∈ rword T, 1 ≤ x ∧ x ≤ (n : Int)) (h2 : ∀ x ∈ rword U, 1 ≤ x ∧ x ≤ (n : Int)) (h : ∀ a (m : Nat), m ≤ n → upto T a m = upto U a m) : T = U := by
  have hm : ∀ {V : List (List Int)} {a : Nat} {x : Int}, x ∈ V.getD a [] → x ∈ rword V := fun {V a x} hx => by
    rw [rword_mem]
    by_cases c : a < V.length
    · rw [getD_get c] at hx; exact ⟨_, List.getElem_mem c, hx⟩
    · rw [getD_far (by omega)] at hx; simp at hx
  exact rows_ext hT.ne hU.ne (fun a => up_uniq (n := n) (hT.upD a) (hU.upD a) (fun x hx => h1 x (hm hx)) (fun x hx => h2 x (hm hx)) (fun m hm => h a m hm))

/-- The length of the a-th row, when only the letters above n - m are left and have slid. -/
def chn (n : Nat) (w : List Int) (m : Nat) (a : Nat) : Nat := shp (w.filter (fun x => decide ((n : Int) - (m : Int) < x))) a
theorem chn_eq (n : Nat) (w : List Int) (m a : Nat) : chn n w m a = upto (insW [] (star n w)) a m := by
  rw [upto_made]
  unfold chn
  have := star_filter n ((n : Int) - m) w
  rw [show (n : Int) - ((n : Int) - m) = m by omega] at this
  rw [this, shp_star]
theorem chn_mono (n : Nat) (w : List Int) {m m' : Nat} (h : m ≤ m') (a : Nat) : chn n w m a ≤ chn n w m' a := by
  rw [chn_eq, chn_eq]; exact upto_mono _ _ (by omega)
theorem Std.perm {T : List (List Int)} (h : Std T) : IsPerm (rword T) ∧ (rword T).length = boxes T := by
  have h1 := rword_flat T
  exact ⟨IsPerm.of_perm h1 h.2, (boxes_word T).symm⟩
theorem Std.bnd {T : List (List Int)} (h : Std T) : ∀ x ∈ rword T, 1 ≤ x ∧ x ≤ (boxes T : Int) := fun x hx => by
  have := h.perm.1.2 x hx
  rwa [h.perm.2] at this
theorem star_bnd {n : Int} {w : List Int} (h : ∀ x ∈ w, 1 ≤ x ∧ x ≤ n) : ∀ x ∈ star n w, 1 ≤ x ∧ x ≤ n := fun x hx => by
  unfold star at hx
  rw [List.mem_reverse] at hx
  obtain ⟨y, hy, rfl⟩ := List.mem_map.1 hx
  have := h y hy
  omega
theorem made_kn (w : List Int) : Kn w (rword (insW [] w)) := by
  have := insW_word w (T := []) (fun r hr => by simp at hr)
  simpa [rword] using this
theorem made_bnd {n : Int} {w : List Int} (h : ∀ x ∈ w, 1 ≤ x ∧ x ≤ n) : ∀ x ∈ rword (insW [] w), 1 ≤ x ∧ x ≤ n := fun x hx => h x (((made_kn w).mem x).2 hx)
theorem std_of {n : Nat} {w : List Int} (h : IsPerm w) (hn : w.length = n) (h40 : n ≤ 40) : Std (insW [] w) ∧ boxes (insW [] w) = n := by
  have h1 := fill_word (w := w) (by omega) (fun x hx => by have := h.2 x hx; exact ⟨by omega, by omega⟩)
  exact ⟨⟨h1.1, IsPerm.of_perm (made_flat w) h⟩, by rw [h1.2, hn]⟩
theorem IsPerm.star {w : List Int} (h : IsPerm w) : IsPerm (Go.Proofs.Ytpmkdihencepnaa.star w.length w) := by
  refine ⟨?_, fun x hx => ?_⟩
  · unfold Go.Proofs.Ytpmkdihencepnaa.star
    rw [List.nodup_iff_pairwise_ne, List.pairwise_reverse, List.pairwise_map]
    exact (List.nodup_iff_pairwise_ne.1 h.1).imp (fun hab => by omega)
  · rw [star_len]
    exact star_bnd h.2 x hx
/-- What is evacuated. -/
def eva (T : List (List Int)) : List (List Int) := insW [] (star (boxes T) (rword T))
theorem Std.eva {T : List (List Int)} (h : Std T) : Std (eva T) ∧ boxes (eva T) = boxes T ∧ eva (eva T) = T ∧ ∀ a, rl (eva T) a = rl T a := by
  have h1 := h.perm
  have h2 := h1.1.star
  rw [h1.2] at h2
  have h3 := std_of h2 (by rw [star_len, h1.2]) h.1.2.2
  refine ⟨h3.1, h3.2, ?_, fun a => ?_⟩
  · unfold Go.Proofs.Ytpmkdihencepnaa.eva at h3 ⊢
    rw [h3.2]
    have h4 := (made_kn (Go.Proofs.Ytpmkdihencepnaa.star (boxes T) (rword T))).star (boxes T)
    rw [star_star] at h4
    rw [← insW_Kn0 _ (Nat.le_refl _) h4, insW_rword h.1.1]
  · rw [← shp_rl h.1.1, ← shp_star (boxes T)]; rfl
theorem row_count {l : List Int} {m : Int} {c : Nat} (hc : c ≤ l.length) (h : ∀ b (hb : b < l.length), l[b] ≤ m ↔ b < c) : (l.filter (fun x => decide (x ≤ m))).length = c := by
  conv => lhs; rw [← List.take_append_drop c l]
  rw [List.filter_append, List.length_append]
  have h1 : (l.take c).filter (fun x => decide (x ≤ m)) = l.take c := by
    rw [List.filter_eq_self]
    intro x hx
    obtain ⟨b, hb, rfl⟩ := List.getElem_of_mem hx
    rw [List.length_take] at hb
    rw [List.getElem_take]
    exact decide_eq_true ((h b (by omega)).2 (by omega))
  have h2 : (l.drop c).filter (fun x => decide (x ≤ m)) = [] := by
    rw [List.filter_eq_nil_iff]
    intro x hx
    obtain ⟨b, hb, rfl⟩ := List.getElem_of_mem hx
    rw [List.length_drop] at hb
    rw [List.getElem_drop]
    intro hh
    have := (h (c + b) (by omega)).1 (of_decide_eq_true hh)
    omega
  rw [h1, h2, List.length_take]; simp; omega
/-- What stands where the holes have gone out. -/
theorem eva_of {T E : List (List Int)} (h : Std T) (hl : E.length = T.length) (hr : ∀ a, rl E a = rl T a) (hs : ∀ a b, b < rl T a → ∀ m : Nat, m ≤ boxes T → (cell E a b ≤ (m : Int) ↔ b < chn (boxes T) (rword T) m a)) : E = eva T := by
  obtain ⟨e1, e2, e3, e4⟩ := h.eva
  have hb := star_bnd h.bnd
  have hmb := made_bnd hb
  have hch : ∀ m a, chn (boxes T) (rword T) m a = upto (eva T) a m := fun m a => chn_eq _ _ _ _
  have hcl : ∀ m a, chn (boxes T) (rword T) m a ≤ rl T a := fun m a => by rw [hch, ← e4]; exact upto_le _ _ _
  have hlow : ∀ a b, b < rl T a → 1 ≤ cell E a b ∧ cell E a b ≤ (boxes T : Int) := fun a b hb => by
    have h1 := hs a b hb 0 (Nat.zero_le _)
    have h2 := hs a b hb (boxes T) (Nat.le_refl _)
    have h3 : chn (boxes T) (rword T) 0 a = 0 := by
      unfold chn
      rw [List.filter_eq_nil_iff.2 (fun x hx => by have := h.bnd x hx; simp; omega)]; rfl
    have h4 : chn (boxes T) (rword T) (boxes T) a = rl T a := by
      unfold chn
      rw [List.filter_eq_self.2 (fun x hx => by have := h.bnd x hx; simp; omega), shp_rl h.1.1]
    rw [h3] at h1
    rw [h4] at h2
    omega
  have hne : ∀ r ∈ E, r ≠ [] := fun r hr2 => by
    obtain ⟨a, ha, rfl⟩ := List.getElem_of_mem hr2
    intro e
    have h1 := hr a
    unfold rl at h1
    rw [getD_get ha, e] at h1
    have h2 := h.1.1.ne (T.getD a []) (by rw [getD_get (by omega)]; exact List.getElem_mem _)
    exact h2 (List.eq_nil_of_length_eq_zero (by simpa using h1.symm))
  refine rows_ext hne e1.1.1.ne (fun a => up_uniq (n := boxes T) ?_ (e1.1.1.upD a) (fun x hx => ?_) (fun x hx => ?_) (fun m hm => ?_))
  · unfold Up
    rw [List.pairwise_iff_getElem]
    intro i j hi hj hij
    have h1 := hlow a j (by rw [← hr]; exact hj)
    have h2 := hs a j (by rw [← hr]; exact hj) (cell E a j).toNat (by omega)
    have h3 := hs a i (by rw [← hr]; exact hi) (cell E a j).toNat (by omega)
    have h4 := h2.1 (by omega)
    have h5 := h3.2 (by omega)
    unfold cell at h5 h1
    rw [getD_get hi] at h5
    rw [getD_get hj] at h5 h1
    omega
  · obtain ⟨b, hb2, rfl⟩ := List.getElem_of_mem hx
    have := hlow a b (by rw [← hr]; exact hb2)
    unfold cell at this
    rwa [getD_get hb2] at this
  · refine hmb x ?_
    rw [rword_mem]
    by_cases c : a < (eva T).length
    · rw [getD_get c] at hx; exact ⟨_, List.getElem_mem c, hx⟩
    · rw [getD_far (by omega)] at hx; simp at hx
  · have h1 : ((E.getD a []).filter (fun x => decide (x ≤ (m : Int)))).length = chn (boxes T) (rword T) m a := by
      have hrl : rl E a = (E.getD a []).length := rfl
      refine row_count (by rw [← hrl, hr]; exact hcl m a) (fun b hb2 => ?_)
      have := hs a b (by rw [← hr]; exact hb2) m hm
      unfold cell at this
      rwa [getD_get hb2] at this
    rw [h1, hch]; rfl

/-- The least letter goes, the others are one less, a new greatest one comes: as words tell it. -/
structure Pro (T U : List (List Int)) : Prop where
  t : Std T
  u : Std U
  rls : ∀ a, rl U a = rl T a
  bx : boxes U = boxes T
  kn : Kn (dec 1 ((rword T).filter (fun x => decide (1 < x)))) ((rword U).filter (fun x => decide (x ≤ (boxes T : Int) - 1)))
theorem Pro.fn {T U V : List (List Int)} (h : Pro T U) (h2 : Pro T V) : U = V := by
  refine tab_uniq (n := boxes T) h.u.1.1 h2.u.1.1 (fun x hx => by rw [← h.bx]; exact h.u.bnd x hx) (fun x hx => by rw [← h2.bx]; exact h2.u.bnd x hx) (fun a m hm => ?_)
  by_cases e : m = boxes T
  · have hall : ∀ {W : List (List Int)}, Std W → boxes W = boxes T → ∀ a, ∀ x ∈ W.getD a [], x ≤ (m : Int) := fun {W} hW hb a x hx => by
      have hx2 : x ∈ rword W := by
        rw [rword_mem]
        by_cases c : a < W.length
        · rw [getD_get c] at hx; exact ⟨_, List.getElem_mem c, hx⟩
        · rw [getD_far (by omega)] at hx; simp at hx
      have := (hW.bnd x hx2).2
      rw [e, ← hb]; exact this
    rw [upto_all (hall h.u h.bx), upto_all (hall h2.u h2.bx), h.rls, h2.rls]
  · have hk := (h.kn.symm.trans h2.kn).keepLe m
    rw [List.filter_filter, List.filter_filter] at hk
    have hf : ∀ w : List Int, w.filter (fun x => decide (x ≤ (m : Int)) && decide (x ≤ (boxes T : Int) - 1)) = w.filter (fun x => decide (x ≤ (m : Int))) := fun w => List.filter_congr (fun x _ => by
      rw [← Bool.decide_and]
      exact decide_eq_decide.2 ⟨fun h => h.1, fun h => ⟨h, by omega⟩⟩)
    rw [hf, hf] at hk
    rw [upto_tab h.u.1.1, upto_tab h2.u.1.1, shp_kn hk]
theorem Pro.inj {T D U : List (List Int)} (h : Pro T U) (h2 : Pro D U) : T = D := by
  have hbx : boxes D = boxes T := by rw [← h.bx, h2.bx]
  have key : eva T = eva D := by
    obtain ⟨e1, e2, _, e4⟩ := h.t.eva
    obtain ⟨f1, f2, _, f4⟩ := h2.t.eva
    refine tab_uniq (n := boxes T) e1.1.1 f1.1.1 (fun x hx => by rw [← e2]; exact e1.bnd x hx) (fun x hx => by rw [← hbx, ← f2]; exact f1.bnd x hx) (fun a m hm => ?_)
    have g1 := chn_eq (boxes T) (rword T) m a
    have g2 := chn_eq (boxes D) (rword D) m a
    show upto (insW [] _) a m = upto (insW [] _) a m
    rw [← g1, ← g2, hbx]
    by_cases e : m = boxes T
    · unfold chn
      rw [List.filter_eq_self.2 (fun x hx => by have := h.t.bnd x hx; simp; omega), List.filter_eq_self.2 (fun x hx => by have := h2.t.bnd x hx; simp; omega), shp_rl h.t.1.1, shp_rl h2.t.1.1, ← h.rls, ← h2.rls]
    · have hk := h2.kn
      rw [hbx] at hk
      have hk2 := ((Kn.dec_iff 1).1 (h.kn.trans hk.symm)).keepGt ((boxes T : Int) - m)
      rw [List.filter_filter, List.filter_filter] at hk2
      have hf : ∀ w : List Int, w.filter (fun x => decide ((boxes T : Int) - m < x) && decide (1 < x)) = w.filter (fun x => decide ((boxes T : Int) - m < x)) := fun w => List.filter_congr (fun x _ => by
        rw [← Bool.decide_and]
        exact decide_eq_decide.2 ⟨fun h => h.1, fun h => ⟨h, by omega⟩⟩)
      rw [hf, hf] at hk2
      exact shp_kn hk2 a
  have h3 := h.t.eva.2.2.1
  have h4 := h2.t.eva.2.2.1
  rw [← h3, key, h4]
/-- Promoted so many times. -/
inductive Pros : Nat → List (List Int) → List (List Int) → Prop
  | zero {T : List (List Int)} : Std T → Pros 0 T T
  | succ {k : Nat} {T U V : List (List Int)} : Pros k T U → Pro U V → Pros (k + 1) T V
theorem Pros.facts {k : Nat} {T U : List (List Int)} (h : Pros k T U) : Std T ∧ Std U ∧ (∀ a, rl U a = rl T a) ∧ boxes U = boxes T := by
  induction h with
  | zero h => exact ⟨h, h, fun _ => rfl, rfl⟩
  | succ _ hp ih => exact ⟨ih.1, hp.u, fun a => by rw [hp.rls, ih.2.2.1], by rw [hp.bx, ih.2.2.2]⟩
theorem Pros.split {i j : Nat} : ∀ {T U : List (List Int)}, Pros (i + j) T U → ∃ V, Pros i T V ∧ Pros j V U := by
  induction j with
  | zero => intro T U h; exact ⟨U, h, .zero h.facts.2.1⟩
  | succ j ih =>
    intro T U h
    cases h with
    | succ h1 h2 =>
      obtain ⟨V, g1, g2⟩ := ih h1
      exact ⟨V, g1, .succ g2 h2⟩
end Go.Proofs.Ytpmkdihencepnaa

/-
  Plain: the hole's way through rows without holes, as evacuation and promotion go it.
-/
namespace Go.Proofs.Ytpmkdihencepnaa

theorem put_put (s : List (List Int)) (i j : Nat) (x y : Int) : put (put s i j x) i j y = put s i j y := by
  have h := put_row s i j x i
  rw [if_pos rfl] at h
  unfold put at h ⊢
  rw [h, List.set_set, List.set_set]
/-- What stands in the hole makes no difference. -/
theorem Slid.fill {s : List (List Int)} {I J : Nat} {out : List (List Int)} {i j : Nat} (z : Int) (hJ : J < rl s I) (h : Slid s I J out i j) : Slid (put s I J z) I J out i j := by
  have pc := fun k q => put_cell (x := z) hJ k q
  cases h with
  | down h1 h2 h3 =>
    refine .down (by rw [put_rl]; exact h1) (fun h4 => ?_) ?_
    · rw [put_rl] at h4; rw [pc, pc, if_neg (by omega), if_neg (by omega)]; exact h2 h4
    · rw [pc, if_neg (by omega), put_put]; exact h3
  | right h1 h2 h3 =>
    refine .right (by rw [put_rl]; exact h1) (fun h4 => ?_) ?_
    · rw [put_rl] at h4; rw [pc, pc, if_neg (by omega), if_neg (by omega)]; exact h2 h4
    · rw [pc, if_neg (by omega), put_put]; exact h3
  | stop h1 h2 =>
    have e : cut (put s I J z) I J = cut s I J := by
      unfold cut
      by_cases h0 : J = 0
      · rw [if_pos h0, if_pos h0]; unfold put; rw [List.take_set, List.set_eq_of_length_le (by rw [List.length_take]; omega)]
      · have e5 : ((s.getD I []).set J z).take J = (s.getD I []).take J := by rw [List.take_set, List.set_eq_of_length_le (by rw [List.length_take]; omega)]
        rw [if_neg h0, if_neg h0, put_row, if_pos rfl, e5]; unfold put; rw [List.set_set]
    have := Slid.stop (s := put s I J z) (I := I) (J := J) (by rw [put_rl]; exact h1) (by rw [put_rl]; exact h2)
    rwa [e] at this
theorem Slid.shape {s : List (List Int)} {I J : Nat} {out : List (List Int)} {i j : Nat} (h : Slid s I J out i j) : Cfg s I J → (∀ a, rl out a = if a = i then j else rl s a) ∧ rl s i = j + 1 ∧ rl s (i + 1) ≤ j ∧ i < s.length ∧ (j = 0 → s.length = i + 1 ∧ out.length = i) ∧ (j ≠ 0 → out.length = s.length) := by
  induction h with
  | @down s I J out i j hd hb _ ih =>
    intro hc
    have := ih (hc.goD hd hb)
    rw [put_rl, put_rl, put_length] at this
    refine ⟨fun a => by rw [this.1 a, put_rl], this.2⟩
  | @right s I J out i j hr hb _ ih =>
    intro hc
    have := ih (hc.goR hr (fun c hc1 hc2 => by rw [hc2]; exact hb hc1))
    rw [put_rl, put_rl, put_length] at this
    refine ⟨fun a => by rw [this.1 a, put_rl], this.2⟩
  | @stop s I J h1 h2 =>
    intro hc
    have hat := hc.at_
    have hI := hc.inI
    refine ⟨fun a => cut_rl hc h2 a, by omega, h2, hI, fun h0 => ?_, fun h0 => ?_⟩
    · subst h0
      have := hc.tail h2
      refine ⟨this, ?_⟩
      unfold cut; rw [if_pos rfl, List.length_take]; omega
    · unfold cut; rw [if_neg h0, List.length_set]

/-- Rows without a hole: the first box may be one. -/
theorem FillOk.cfg {s : List (List Int)} (h : FillOk s) (h0 : 0 < s.length) : Cfg s 0 0 := by
  obtain ⟨h1, h2⟩ := h.skOk
  have hk := h1.sk.1
  exact ⟨hk.ne 0 h0, hk.ne, hk.lens, fun i j k a b _ _ => hk.row i j k a b, fun i i' j a b _ _ => hk.col i i' j a b, fun i j a _ => hk.nn i j a, fun i' _ a => by have := h2 i' 0 a; omega, fun k _ a => by have := h2 0 k a; omega⟩
theorem rword_lets {s : List (List Int)} (h : ∀ r ∈ s, ∀ x ∈ r, 0 < x) : sword s = rword s := by
  unfold sword
  congr 1
  conv => rhs; rw [← List.map_id s]
  exact List.map_congr_left (fun r hr => lets_pos (h r hr))
/-- The least letter gone. -/
theorem open_word {s : List (List Int)} (h : FillOk s) (h0 : 0 < s.length) (hn : (rword s).Nodup) : (∀ x ∈ rword s, cell s 0 0 ≤ x) ∧ cell s 0 0 ∈ rword s ∧ hword s 0 0 = (rword s).filter (fun x => decide (cell s 0 0 < x)) := by
  obtain ⟨h1, h2⟩ := h.skOk
  have hk := h1.sk.1
  have hne := hk.ne 0 h0
  have hpos : ∀ r ∈ s, ∀ x ∈ r, 0 < x := fun r hr x hx => by have := (h.2.1 r hr x hx).1; omega
  have hw := rword_lets hpos
  have hmem : cell s 0 0 ∈ rword s := by rw [← hw]; exact mem_lets hne (by have := h2 0 0 hne; omega)
  have hle : ∀ x ∈ rword s, cell s 0 0 ≤ x := fun x hx => by
    rw [← hw] at hx
    obtain ⟨a, b, g1, rfl, _⟩ := mem_sword hx
    have g2 : 0 < rl s a := by omega
    have e1 : cell s a 0 ≤ cell s a b := by
      by_cases e : b = 0
      · rw [e]; exact Int.le_refl _
      · exact hk.row a 0 b (by omega) g1
    have e2 : cell s 0 0 ≤ cell s a 0 := by
      by_cases e : a = 0
      · rw [e]; exact Int.le_refl _
      · rcases hk.col 0 a 0 (by omega) g2 with g | g <;> omega
    omega
  refine ⟨hle, hmem, ?_⟩
  cases s with
  | nil => simp at h0
  | cons r t =>
    cases r with
    | nil => simp [rl] at hne
    | cons c r' =>
      have ec : cell ((c :: r') :: t) 0 0 = c := rfl
      rw [ec] at hle ⊢
      have hp : put ((c :: r') :: t) 0 0 0 = (0 :: r') :: t := rfl
      unfold hword
      rw [hp, sword_cons, rword_lets (fun r hr => hpos r (List.mem_cons_of_mem _ hr))]
      have e3 : lets (0 :: r') = r' := by rw [lets_cons, if_neg (by decide)]; exact lets_pos (fun x hx => hpos _ (List.mem_cons_self ..) x (List.mem_cons_of_mem _ hx))
      rw [e3]
      show rword t ++ r' = (rword t ++ c :: r').filter _
      have hn2 : (c :: (rword t ++ r')).Nodup := (List.perm_middle.nodup_iff).1 hn
      rw [List.nodup_cons] at hn2
      rw [List.filter_append, List.filter_cons, if_neg (by simp)]
      have e4 : ∀ x, x ∈ rword t ++ r' → decide (c < x) = true := fun x hx => decide_eq_true (by
        have g1 := hle x (by
          show x ∈ rword t ++ c :: r'
          rcases List.mem_append.1 hx with g | g
          · exact List.mem_append_left _ g
          · exact List.mem_append_right _ (List.mem_cons_of_mem _ g))
        have g2 : x ≠ c := fun e => hn2.1 (by rw [← e]; exact hx)
        omega)
      rw [List.filter_eq_self.2 (fun x hx => e4 x (List.mem_append_left _ hx)), List.filter_eq_self.2 (fun x hx => e4 x (List.mem_append_right _ hx))]

/-- On the way of evacuation: N letters are left. -/
structure Evag (T s : List (List Int)) (N : Nat) : Prop where
  ok : FillOk s
  kn : Kn ((rword T).filter (fun x => decide ((boxes T : Int) - (N : Int) < x))) (rword s)
  bx : boxes s = N
  le : N ≤ boxes T
theorem Evag.start {T : List (List Int)} (h : Std T) : Evag T T (boxes T) := ⟨h.1, by
  rw [List.filter_eq_self.2 (fun x hx => by have := h.bnd x hx; simp; omega)]; exact .refl _, rfl, Nat.le_refl _⟩
theorem Evag.rls {T s : List (List Int)} {N : Nat} (h : Evag T s N) (a : Nat) : rl s a = chn (boxes T) (rword T) N a := by
  unfold chn
  rw [shp_kn h.kn, shp_rl h.ok.1]
theorem fill_len {s : List (List Int)} (h : 0 < boxes s) : 0 < s.length := by
  cases s with
  | nil => simp [boxes] at h
  | cons => simp
theorem Evag.cfg {T s : List (List Int)} {N : Nat} (h : Evag T s (N + 1)) : Cfg s 0 0 := h.ok.cfg (fill_len (by rw [h.bx]; omega))
theorem Evag.step {T s out : List (List Int)} {N i j : Nat} (h : Evag T s (N + 1)) (hT : Std T) (hs : Slid s 0 0 out i j) : Evag T out N := by
  have hc := h.cfg
  have hp := hT.perm
  have h0 : 0 < s.length := hc.inI
  have hle := h.le
  have hnd : (rword s).Nodup := h.kn.perm.nodup_iff.1 (hp.1.1.filter _)
  obtain ⟨o1, o2, o3⟩ := open_word h.ok h0 hnd
  have hcell : cell s 0 0 = (boxes T : Int) - N := by
    have h1 : (boxes T : Int) - N ∈ rword s := (h.kn.mem _).1 (List.mem_filter.2 ⟨hp.1.mem (by omega) (by rw [hp.2]; omega), decide_eq_true (by omega)⟩)
    have h2 := o1 _ h1
    have h3 := of_decide_eq_true (List.mem_filter.1 ((h.kn.mem _).2 o2)).2
    omega
  obtain ⟨p1, p2, p3, p4⟩ := hs.props hc
  have hz : ∀ a b, ¬ Zero out a b := fun a b hh => by
    have h1 := ((p3 a b).1 hh).1
    have h2 := h.ok.skOk.2 a b h1.1
    have := h1.2
    omega
  have hk := h.kn.keepGt ((boxes T : Int) - N)
  rw [List.filter_filter, ← hcell, ← o3, hcell] at hk
  have hf : (rword T).filter (fun x => decide ((boxes T : Int) - N < x) && decide ((boxes T : Int) - ((N + 1 : Nat) : Int) < x)) = (rword T).filter (fun x => decide ((boxes T : Int) - N < x)) := List.filter_congr (fun x _ => by
    rw [← Bool.decide_and]
    exact decide_eq_decide.2 ⟨fun h => h.1, fun h => ⟨h, by omega⟩⟩)
  rw [hf] at hk
  have h99 : ∀ a b, b < rl out a → cell out a b ≤ 99 := fun a b hb => by
    by_cases e : cell out a b ≤ 0
    · omega
    · have hm := (hk.trans p1).mem (cell out a b)
      have h1 := hm.2 (mem_lets hb (by omega))
      have h2 := hT.bnd _ (List.mem_filter.1 h1).1
      have := hT.1.2.2
      omega
  have hok := p2.ok (by have := h.bx; have := hT.1.2.2; omega) h99
  obtain ⟨f1, f2⟩ := hok.full hz
  refine ⟨f1, ?_, by have := h.bx; omega, by omega⟩
  rw [← f2]; exact hk.trans p1
/-- What has been written so far. -/
structure Evaw (T E : List (List Int)) (N : Nat) : Prop where
  len : E.length = T.length
  rls : ∀ a, rl E a = rl T a
  val : ∀ a b, b < rl T a → chn (boxes T) (rword T) N a ≤ b → ∀ m : Nat, m ≤ boxes T → (cell E a b ≤ (m : Int) ↔ b < chn (boxes T) (rword T) m a)
theorem chn_all {T : List (List Int)} (h : Std T) (a : Nat) : chn (boxes T) (rword T) (boxes T) a = rl T a := by
  rw [← (Evag.start h).rls]
theorem chn_le {T : List (List Int)} (h : Std T) {N : Nat} (hN : N ≤ boxes T) (a : Nat) : chn (boxes T) (rword T) N a ≤ rl T a := by
  rw [← chn_all h]; exact chn_mono _ _ hN a
theorem Evaw.start {T : List (List Int)} (h : Std T) : Evaw T T (boxes T) := ⟨rfl, fun _ => rfl, fun a b h1 h2 => by rw [chn_all h] at h2; omega⟩
theorem Evaw.step {T E s out : List (List Int)} {N i j : Nat} (h : Evaw T E (N + 1)) (hT : Std T) (hg : Evag T s (N + 1)) (hs : Slid s 0 0 out i j) : (i < E.length ∧ j < rl E i) ∧ Evaw T (put E i j ((N + 1 : Nat) : Int)) N := by
  have hg2 := hg.step hT hs
  obtain ⟨s1, s2, s3, s4, s5, s6⟩ := hs.shape hg.cfg
  have hle := hg.le
  have c1 : chn (boxes T) (rword T) (N + 1) i = j + 1 := by rw [← hg.rls]; exact s2
  have c2 : ∀ a, chn (boxes T) (rword T) N a = if a = i then j else chn (boxes T) (rword T) (N + 1) a := fun a => by
    rw [← hg2.rls, s1, ← hg.rls]
  have hj : j < rl E i := by rw [h.rls]; have := chn_le hT hle i; omega
  refine ⟨⟨rl_in hj, hj⟩, ⟨by rw [put_length]; exact h.len, fun a => by rw [put_rl]; exact h.rls a, fun a b hb hc m hm => ?_⟩⟩
  rw [put_cell hj]
  by_cases e : a = i ∧ b = j
  · rw [if_pos e]
    obtain ⟨rfl, rfl⟩ := e
    by_cases em : N + 1 ≤ m
    · have := chn_mono (boxes T) (rword T) em a
      exact ⟨fun _ => by omega, fun _ => by omega⟩
    · have h1 := chn_mono (boxes T) (rword T) (show m ≤ N by omega) a
      rw [c2, if_pos rfl] at h1
      exact ⟨fun _ => by omega, fun _ => by omega⟩
  · rw [if_neg e]
    refine h.val a b hb ?_ m hm
    rw [c2] at hc
    by_cases ea : a = i
    · rw [if_pos ea] at hc
      rw [ea, c1]
      have : b ≠ j := fun eb => e ⟨ea, eb⟩
      omega
    · rwa [if_neg ea] at hc
theorem Evaw.done {T E : List (List Int)} (h : Evaw T E 0) (hT : Std T) : E = eva T :=
  eva_of hT h.len h.rls (fun a b hb m hm => h.val a b hb (by
    have h3 : chn (boxes T) (rword T) 0 a = 0 := by
      unfold chn
      rw [List.filter_eq_nil_iff.2 (fun x hx => by have := hT.bnd x hx; simp; omega)]; rfl
    omega) m hm)
end Go.Proofs.Ytpmkdihencepnaa

/-
  Plain: what promotion makes.
-/
namespace Go.Proofs.Ytpmkdihencepnaa

def pad (s : List (List Int)) (i : Nat) : List (List Int) := if i = s.length then s ++ [[]] else s
def dn (s : List (List Int)) : List (List Int) := s.map (dec 1)
/-- One less everywhere, n at the end of row i. -/
def proU (s : List (List Int)) (i : Nat) (n : Int) : List (List Int) := (dn (pad s i)).set i ((dn (pad s i)).getD i [] ++ [n])
theorem pad_getD (s : List (List Int)) (i a : Nat) : (pad s i).getD a [] = s.getD a [] := by
  unfold pad
  by_cases e : i = s.length
  · rw [if_pos e]
    by_cases h : a < s.length
    · rw [List.getD_eq_getElem?_getD, List.getElem?_append_left h, ← List.getD_eq_getElem?_getD]
    · rw [getD_far (xs := s) (by omega), List.getD_eq_getElem?_getD, List.getElem?_append_right (by omega)]
      by_cases h2 : a - s.length = 0
      · rw [h2]; rfl
      · rw [List.getElem?_eq_none (by simp; omega)]; rfl
  · rw [if_neg e]
theorem dn_getD (s : List (List Int)) (a : Nat) : (dn s).getD a [] = dec 1 (s.getD a []) := by
  unfold dn
  by_cases h : a < s.length
  · rw [getD_get (by simpa using h), getD_get h, List.getElem_map]
  · rw [getD_far (by simp; omega), getD_far (by omega)]; rfl
theorem dec_len (d : Int) (w : List Int) : (dec d w).length = w.length := by simp [dec]
theorem rword_dn : ∀ s : List (List Int), rword (dn s) = dec 1 (rword s)
  | [] => rfl
  | r :: t => by
    show rword (dn t) ++ dec 1 r = dec 1 (rword t ++ r)
    rw [rword_dn t]; simp [dec]
theorem rword_pad (s : List (List Int)) (i : Nat) : rword (pad s i) = rword s := by
  unfold pad
  by_cases e : i = s.length
  · rw [if_pos e, rword_append]; rfl
  · rw [if_neg e]
theorem set_flat : ∀ {P : List (List Int)} {i : Nat} (n : Int), i < P.length → (P.set i (P.getD i [] ++ [n])).flatten.Perm (n :: P.flatten)
  | [], i, _, h => by simp at h
  | r :: t, 0, n, _ => by
    show ((r ++ [n]) ++ t.flatten).Perm (n :: (r ++ t.flatten))
    rw [List.append_assoc]
    exact List.perm_middle
  | r :: t, i + 1, n, h => by
    show (r ++ (t.set i (t.getD i [] ++ [n])).flatten).Perm (n :: (r ++ t.flatten))
    exact (List.Perm.append_left r (set_flat n (by simpa using h))).trans List.perm_middle
theorem set_word : ∀ {P : List (List Int)} {i : Nat} {n : Int}, i < P.length → (∀ x ∈ rword P, x ≤ n - 1) → (rword (P.set i (P.getD i [] ++ [n]))).filter (fun x => decide (x ≤ n - 1)) = rword P
  | [], i, _, h, _ => by simp at h
  | r :: t, 0, n, _, hx => by
    show (rword t ++ (r ++ [n])).filter _ = rword t ++ r
    have e : ∀ x ∈ rword t ++ r, decide (x ≤ n - 1) = true := fun x hm => decide_eq_true (hx x hm)
    rw [← List.append_assoc, List.filter_append, List.filter_eq_self.2 e, List.filter_cons, if_neg (by simp; omega)]; simp
  | r :: t, i + 1, n, h, hx => by
    show (rword (t.set i (t.getD i [] ++ [n])) ++ r).filter _ = rword t ++ r
    rw [List.filter_append, set_word (by simpa using h) (fun x hm => hx x (List.mem_append_left _ hm)), List.filter_eq_self.2 (fun x hm => decide_eq_true (hx x (List.mem_append_right _ hm)))]
theorem word_of {s : List (List Int)} {a b : Nat} (h : b < rl s a) : cell s a b ∈ rword s := by
  rw [rword_mem]
  exact ⟨s.getD a [], by rw [getD_get (rl_in h)]; exact List.getElem_mem _, cell_mem h⟩

/-- What goes on when the least one has gone. -/
structure Gone (T out : List (List Int)) (i j : Nat) : Prop where
  kn : Kn ((rword T).filter (fun x => decide (1 < x))) (rword out)
  sk : Sk out
  ok : FillOk out
  rls : ∀ a, rl out a = if a = i then j else rl T a
  here : rl T i = j + 1
  low : rl T (i + 1) ≤ j
  inn : i < T.length
  zer : j = 0 → T.length = i + 1 ∧ out.length = i
  pos : j ≠ 0 → out.length = T.length
  bx : boxes out + 1 = boxes T
theorem Gone.of {T out : List (List Int)} {i j : Nat} (h : Std T) (h0 : 0 < T.length) (hs : Slid T 0 0 out i j) : Gone T out i j := by
  have hc := h.1.cfg h0
  have hb : 0 < boxes T := by
    have := hc.at_
    have h2 := cell_mem this
    have h3 := mem_row h2
    rw [← flatten_len]
    exact List.length_pos_of_mem h3
  obtain ⟨N, hN⟩ : ∃ N, boxes T = N + 1 := ⟨boxes T - 1, by omega⟩
  have hst := Evag.start h
  rw [hN] at hst
  have hg := hst.step h hs
  obtain ⟨s1, s2, s3, s4, s5, s6⟩ := hs.shape hc
  obtain ⟨p1, p2, p3, p4⟩ := hs.props hc
  refine ⟨?_, p2, hg.ok, s1, s2, s3, s4, s5, s6, p4⟩
  have := hg.kn
  rw [hN, show ((N + 1 : Nat) : Int) - (N : Int) = 1 by omega] at this
  exact this
theorem Gone.padlen {T out : List (List Int)} {i j : Nat} (h : Gone T out i j) : (pad out i).length = T.length := by
  unfold pad
  by_cases e : j = 0
  · obtain ⟨h1, h2⟩ := h.zer e
    rw [if_pos h2.symm, List.length_append]; simp; omega
  · have h1 := h.pos e
    have := h.inn
    rw [if_neg (by omega)]; exact h1
theorem Gone.pro {T out : List (List Int)} {i j : Nat} (h : Gone T out i j) (hT : Std T) : Pro T (proU out i (boxes T)) := by
  have hpl := h.padlen
  have hin := h.inn
  have hP : i < (dn (pad out i)).length := by unfold dn; rw [List.length_map, hpl]; exact hin
  have hlet : ∀ x ∈ rword out, 2 ≤ x ∧ x ≤ (boxes T : Int) := fun x hx => by
    obtain ⟨g1, g2⟩ := List.mem_filter.1 ((h.kn.mem x).2 hx)
    have := hT.bnd x g1
    have := of_decide_eq_true g2
    omega
  have hrow : ∀ a, (proU out i (boxes T)).getD a [] = if a = i then dec 1 (out.getD i []) ++ [(boxes T : Int)] else dec 1 (out.getD a []) := fun a => by
    unfold proU
    by_cases e : a = i
    · rw [if_pos e, e, List.getD_eq_getElem?_getD, List.getElem?_set_self hP, dn_getD, pad_getD]; rfl
    · rw [if_neg e, List.getD_eq_getElem?_getD, List.getElem?_set_ne (Ne.symm e), ← List.getD_eq_getElem?_getD, dn_getD, pad_getD]
  have hrl : ∀ a, rl (proU out i (boxes T)) a = rl T a := fun a => by
    have h1 := h.rls a
    unfold rl at h1 ⊢
    rw [hrow]
    by_cases e : a = i
    · rw [if_pos e] at h1 ⊢
      rw [List.length_append, dec_len, ← e, h1, e]
      have := h.here; unfold rl at this; rw [this]; rfl
    · rw [if_neg e] at h1 ⊢
      rw [dec_len, h1]
  have hrj : (out.getD i []).length = j := by have := h.rls i; rw [if_pos rfl] at this; exact this
  have hcell : ∀ a b, b < rl T a → cell (proU out i (boxes T)) a b = if a = i ∧ b = j then (boxes T : Int) else cell out a b - 1 := fun a b hb => by
    have h1 := h.rls a
    unfold cell
    rw [hrow]
    have hd : ∀ (r : List Int), b < r.length → (dec 1 r).getD b 0 = r.getD b 0 - 1 := fun r hr => by
      unfold dec
      rw [getD_get (by simpa using hr), getD_get hr, List.getElem_map]
    by_cases e : a = i
    · rw [if_pos e]
      have hh := h.here
      rw [e, hh] at hb
      by_cases e2 : b = j
      · rw [if_pos ⟨e, e2⟩, List.getD_eq_getElem?_getD, List.getElem?_append_right (by rw [dec_len]; omega), dec_len, hrj, e2, Nat.sub_self]; rfl
      · rw [if_neg (fun hh => e2 hh.2), List.getD_eq_getElem?_getD, List.getElem?_append_left (by rw [dec_len]; omega), ← List.getD_eq_getElem?_getD, hd _ (by omega), e]
    · rw [if_neg e, if_neg (fun hh => e hh.1)]
      rw [if_neg e] at h1
      exact hd _ (by unfold rl at h1 hb; omega)
  have hin2 : ∀ a b, b < rl T a → ¬ (a = i ∧ b = j) → b < rl out a := fun a b hb hn => by
    rw [h.rls]
    by_cases e : a = i
    · rw [if_pos e]
      have := h.here
      rw [e, this] at hb
      have : b ≠ j := fun e2 => hn ⟨e, e2⟩
      omega
    · rw [if_neg e]; exact hb
  have hcl : ∀ a b, b < rl T a → ¬ (a = i ∧ b = j) → 2 ≤ cell out a b ∧ cell out a b ≤ (boxes T : Int) := fun a b hb hn => hlet _ (word_of (hin2 a b hb hn))
  have hTk := hT.1.skOk.1.sk.1
  have hlen : (proU out i (boxes T)).length = T.length := by unfold proU dn; rw [List.length_set, List.length_map, hpl]
  have hbp : 1 ≤ boxes T := by have := h.bx; omega
  have hsk : Sk (proU out i (boxes T)) := by
    refine ⟨fun a ha => by rw [hrl]; exact hTk.ne a (by rwa [hlen] at ha), fun a a' haa => by rw [hrl, hrl]; exact hTk.lens a a' haa, fun a b k g1 g2 => ?_, fun a a' b g1 g2 => ?_, fun a b g1 => ?_⟩
    · rw [hrl] at g2
      rw [hcell a b (by omega), hcell a k g2]
      by_cases e : a = i ∧ b = j
      · have := h.here; rw [e.1, this] at g2; omega
      · rw [if_neg e]
        have h1 := hcl a b (by omega) e
        by_cases e2 : a = i ∧ k = j
        · rw [if_pos e2]; omega
        · rw [if_neg e2]
          have := h.sk.row a b k g1 (hin2 a k g2 e2)
          omega
    · rw [hrl] at g2
      have g3 : b < rl T a := by have := hTk.lens a a' (by omega); omega
      rw [hcell a b g3, hcell a' b g2]
      by_cases e : a = i ∧ b = j
      · have h1 := h.low
        have h2 := hTk.lens (i + 1) a' (by omega)
        omega
      · rw [if_neg e]
        have h1 := hcl a b g3 e
        by_cases e2 : a' = i ∧ b = j
        · rw [if_pos e2]; left; omega
        · rw [if_neg e2]
          have h2 := hcl a' b g2 e2
          rcases h.sk.col a a' b g1 (hin2 a' b g2 e2) with g | g
          · left; omega
          · omega
    · rw [hrl] at g1
      rw [hcell a b g1]
      by_cases e : a = i ∧ b = j
      · rw [if_pos e]; omega
      · rw [if_neg e]; have := hcl a b g1 e; omega
  have hperm : (proU out i (boxes T)).flatten.Perm ((boxes T : Int) :: dec 1 (rword out)) := by
    have h1 := set_flat (P := dn (pad out i)) (boxes T) hP
    refine h1.trans (List.Perm.cons _ ((rword_flat _).symm.trans ?_))
    rw [rword_dn, rword_pad]
  have hdl : (dec 1 (rword out)).length + 1 = boxes T := by rw [dec_len, ← boxes_word]; exact h.bx
  have hbx : boxes (proU out i (boxes T)) = boxes T := by
    rw [← flatten_len, hperm.length_eq, List.length_cons]; exact hdl
  have hpos : ∀ a b, ¬ Zero (proU out i (boxes T)) a b := fun a b hz => by
    have h1 := hz.1
    have h2 := hz.2
    rw [hrl] at h1
    rw [hcell a b h1] at h2
    by_cases e : a = i ∧ b = j
    · rw [if_pos e] at h2; omega
    · rw [if_neg e] at h2; have := hcl a b h1 e; omega
  have hok := (hsk.ok (by rw [hbx]; exact hT.1.2.2) (fun a b hb => by
    have := hT.1.2.2
    rw [hrl] at hb
    rw [hcell a b hb]
    by_cases e : a = i ∧ b = j
    · rw [if_pos e]; omega
    · rw [if_neg e]; have := hcl a b hb e; omega)).full hpos
  have hdx : ∀ x ∈ dec 1 (rword out), 1 ≤ x ∧ x ≤ (boxes T : Int) - 1 := fun x hx => by
    unfold dec at hx
    obtain ⟨y, hy, rfl⟩ := List.mem_map.1 hx
    have := hlet y hy
    omega
  have hstd : IsPerm (proU out i (boxes T)).flatten := by
    refine IsPerm.of_perm hperm ⟨?_, fun x hx => ?_⟩
    · rw [List.nodup_cons]
      refine ⟨fun hm => by have := hdx _ hm; omega, ?_⟩
      have h1 : (rword out).Nodup := h.kn.perm.nodup_iff.1 (hT.perm.1.1.filter _)
      unfold dec
      rw [List.nodup_iff_pairwise_ne, List.pairwise_map]
      exact (List.nodup_iff_pairwise_ne.1 h1).imp (fun hab => by omega)
    · rw [List.length_cons]
      rcases List.mem_cons.1 hx with rfl | hm
      · omega
      · have := hdx x hm; omega
  refine ⟨hT, ⟨hok.1, hstd⟩, hrl, hbx, ?_⟩
  have hw : (rword (proU out i (boxes T))).filter (fun x => decide (x ≤ (boxes T : Int) - 1)) = dec 1 (rword out) := by
    unfold proU
    rw [set_word hP (fun x hx => by rw [rword_dn, rword_pad] at hx; exact (hdx x hx).2), rword_dn, rword_pad]
  rw [hw]
  exact h.kn.dec 1
end Go.Proofs.Ytpmkdihencepnaa

/-
  Plain: the hole's way back, as demotion goes it.
-/
namespace Go.Proofs.Ytpmkdihencepnaa

theorem put_self {s : List (List Int)} {i j : Nat} (_h : j < rl s i) : put s i j (cell s i j) = s := by
  unfold put cell
  have hi := rl_in _h
  unfold rl at _h
  rw [getD_get hi] at _h ⊢
  rw [getD_get _h, List.set_getElem_self, List.set_getElem_self]
/-- On the way back: the hole at I, J; from here it would go out where it came in. -/
structure Back (T s : List (List Int)) (I J : Nat) : Prop where
  cfg : Cfg s I J
  pos : ∀ a b, b < rl s a → ¬ (a = I ∧ b = J) → 1 ≤ cell s a b
  go : ∃ i0 j0, Slid s I J (cut T i0 j0) i0 j0 ∧ Cfg T i0 j0 ∧ rl T i0 = j0 + 1 ∧ rl T (i0 + 1) ≤ j0 ∧ cell T i0 j0 = boxes T
  len : s.length = T.length
  rls : ∀ a, rl s a = rl T a
  inj : ∀ a b a' b', b < rl s a → b' < rl s a' → ¬ (a = I ∧ b = J) → ¬ (a' = I ∧ b' = J) → cell s a b = cell s a' b' → a = a' ∧ b = b'
/-- The greatest letter stands at a corner. -/
theorem Back.start {T : List (List Int)} (h : Std T) {i j : Nat} (hj : rl T i = j + 1) (hc : cell T i j = boxes T) : Back T T i j := by
  obtain ⟨h1, h2⟩ := h.1.skOk
  have hk := h1.sk.1
  have hb : ∀ a b, b < rl T a → cell T a b ≤ (boxes T : Int) := fun a b hb => (h.bnd _ (word_of hb)).2
  have hlow : rl T (i + 1) ≤ j := by
    apply Classical.byContradiction
    intro hn
    have g1 := hb (i + 1) j (by omega)
    rcases hk.col i (i + 1) j (by omega) (by omega) with g | g
    · omega
    · have := h2 i j (by omega); omega
  have hcfg : Cfg T i j := by
    refine ⟨by omega, hk.ne, hk.lens, fun i j k a b _ _ => hk.row i j k a b, fun i i' j a b _ _ => hk.col i i' j a b, fun i j a _ => hk.nn i j a, fun i' _ a => by have := h2 i' j a; omega, fun k _ a => by have := h2 i k a; omega⟩
  exact ⟨hcfg, fun a b g _ => h2 a b g, ⟨i, j, .stop (by omega) hlow, hcfg, hj, hlow, hc⟩, rfl, fun _ => rfl, fun a b a' b' g1 g2 _ _ e => by have := h.inj g2 g1 e.symm; exact this⟩
theorem Back.colc {T s : List (List Int)} {I J : Nat} (h : Back T s I J) {a a' b : Nat} (g1 : a < a') (g2 : b < rl s a') (n1 : ¬ (a = I ∧ b = J)) (n2 : ¬ (a' = I ∧ b = J)) : cell s a b < cell s a' b := by
  rcases h.cfg.col a a' b g1 g2 n1 n2 with g | g
  · exact g
  · have := h.pos a' b g2 n2; omega
theorem Back.up {T s : List (List Int)} {I J : Nat} (h : Back T s (I + 1) J) (hl : ∀ k, k + 1 = J → cell s (I + 1) k < cell s I J) : Back T (put s (I + 1) J (cell s I J)) I J := by
  have hat := h.cfg.at_
  have pc := fun k q => put_cell (x := cell s I J) hat k q
  have pl := fun k => put_rl s (I + 1) J (cell s I J) k
  have hle : rl s (I + 1) ≤ rl s I := h.cfg.lens I (I + 1) (by omega)
  have hov : 1 ≤ cell s I J := h.pos I J (by omega) (by omega)
  have hcfg : Cfg (put s (I + 1) J (cell s I J)) I J := by
    refine ⟨by rw [pl]; omega, fun i hi => by rw [pl]; exact h.cfg.ne i (by rwa [put_length] at hi), fun i i' g => by rw [pl, pl]; exact h.cfg.lens i i' g, fun i j k g1 g2 n1 n2 => ?_, fun i i' j g1 g2 n1 n2 => ?_, fun i j g1 n1 => ?_, fun i' g1 g2 => ?_, fun k g1 g2 => ?_⟩
    · rw [pl] at g2
      rw [pc, pc]
      by_cases e1 : i = I + 1 ∧ j = J
      · rw [if_pos e1, if_neg (by omega)]
        obtain ⟨rfl, rfl⟩ := e1
        have a1 := h.cfg.row I j k g1 (by omega) (by omega) (by omega)
        have a2 := h.colc (show I < I + 1 by omega) g2 (by omega) (by omega)
        omega
      · rw [if_neg e1]
        by_cases e2 : i = I + 1 ∧ k = J
        · rw [if_pos e2]
          obtain ⟨rfl, rfl⟩ := e2
          have a1 := hl (k - 1) (by omega)
          by_cases e3 : j = k - 1
          · rw [e3]; omega
          · have := h.cfg.row (I + 1) j (k - 1) (by omega) (by omega) (by omega) (by omega); omega
        · rw [if_neg e2]; exact h.cfg.row i j k g1 g2 e1 e2
    · rw [pl] at g2
      rw [pc, pc]
      left
      by_cases e1 : i = I + 1 ∧ j = J
      · rw [if_pos e1, if_neg (by omega)]
        obtain ⟨rfl, rfl⟩ := e1
        exact h.colc (by omega) g2 (by omega) (by omega)
      · rw [if_neg e1]
        by_cases e2 : i' = I + 1 ∧ j = J
        · rw [if_pos e2]
          obtain ⟨rfl, rfl⟩ := e2
          exact h.colc (by omega) (by omega) (by omega) (by omega)
        · rw [if_neg e2]; exact h.colc g1 g2 e1 e2
    · rw [pl] at g1
      rw [pc]
      by_cases e1 : i = I + 1 ∧ j = J
      · rw [if_pos e1]; omega
      · rw [if_neg e1]; have := h.pos i j g1 e1; omega
    · rw [pl] at g2
      rw [pc]
      by_cases e1 : i' = I + 1 ∧ J = J
      · rw [if_pos e1]; omega
      · rw [if_neg e1]; have := h.pos i' J g2 e1; omega
    · rw [pl] at g2
      rw [pc, if_neg (by omega)]
      have := h.pos I k g2 (by omega); omega
  obtain ⟨i0, j0, g1, g2, g3, g4, g5⟩ := h.go
  refine ⟨hcfg, fun a b e1 n1 => ?_, ⟨i0, j0, ?_, g2, g3, g4, g5⟩, by rw [put_length]; exact h.len, fun a => by rw [pl]; exact h.rls a, fun a b a' b' x1 x2 n1 n2 e => ?_⟩
  rotate_left 2
  · rw [pl] at x1 x2
    rw [pc, pc] at e
    by_cases e1 : a = I + 1 ∧ b = J
    · rw [if_pos e1] at e
      by_cases e2 : a' = I + 1 ∧ b' = J
      · omega
      · rw [if_neg e2] at e
        have := h.inj I J a' b' (by omega) x2 (by omega) e2 e
        omega
    · rw [if_neg e1] at e
      by_cases e2 : a' = I + 1 ∧ b' = J
      · rw [if_pos e2] at e
        have := h.inj a b I J x1 (by omega) e1 (by omega) e
        omega
      · rw [if_neg e2] at e
        exact h.inj a b a' b' x1 x2 e1 e2 e
  · rw [pl] at e1
    rw [pc]
    by_cases e : a = I + 1 ∧ b = J
    · rw [if_pos e]; omega
    · rw [if_neg e]; exact h.pos a b e1 e
  · have e1 : cell (put s (I + 1) J (cell s I J)) (I + 1) J = cell s I J := by rw [pc, if_pos ⟨rfl, rfl⟩]
    refine .down (by rw [pl]; exact hat) (fun e2 => ?_) ?_
    · rw [pl] at e2
      rw [e1, pc, if_neg (by omega)]
      exact h.cfg.row I J (J + 1) (by omega) e2 (by omega) (by omega)
    · rw [e1]
      have e3 : put (put s (I + 1) J (cell s I J)) I J (cell s I J) = put s (I + 1) J (cell s I J) := by
        have h1 : cell (put s (I + 1) J (cell s I J)) I J = cell s I J := by rw [pc, if_neg (by omega)]
        have h2 := put_self (s := put s (I + 1) J (cell s I J)) (i := I) (j := J) (by rw [pl]; omega)
        rwa [h1] at h2
      rw [e3]
      exact g1.fill _ hat
theorem Back.left {T s : List (List Int)} {I J : Nat} (h : Back T s I (J + 1)) (hu : ∀ k, k + 1 = I → cell s k (J + 1) ≤ cell s I J) : Back T (put s I (J + 1) (cell s I J)) I J := by
  have hat := h.cfg.at_
  have pc := fun k q => put_cell (x := cell s I J) hat k q
  have pl := fun k => put_rl s I (J + 1) (cell s I J) k
  have hov : 1 ≤ cell s I J := h.pos I J (by omega) (by omega)
  have hcfg : Cfg (put s I (J + 1) (cell s I J)) I J := by
    refine ⟨by rw [pl]; omega, fun i hi => by rw [pl]; exact h.cfg.ne i (by rwa [put_length] at hi), fun i i' g => by rw [pl, pl]; exact h.cfg.lens i i' g, fun i j k g1 g2 n1 n2 => ?_, fun i i' j g1 g2 n1 n2 => ?_, fun i j g1 n1 => ?_, fun i' g1 g2 => ?_, fun k g1 g2 => ?_⟩
    · rw [pl] at g2
      rw [pc, pc]
      by_cases e1 : i = I ∧ j = J + 1
      · rw [if_pos e1, if_neg (by omega)]
        obtain ⟨rfl, rfl⟩ := e1
        exact h.cfg.row i J k (by omega) g2 (by omega) (by omega)
      · rw [if_neg e1]
        by_cases e2 : i = I ∧ k = J + 1
        · rw [if_pos e2]
          obtain ⟨rfl, rfl⟩ := e2
          by_cases e3 : j = J
          · omega
          · exact h.cfg.row i j J (by omega) (by omega) (by omega) (by omega)
        · rw [if_neg e2]; exact h.cfg.row i j k g1 g2 e1 e2
    · rw [pl] at g2
      rw [pc, pc]
      left
      by_cases e1 : i = I ∧ j = J + 1
      · rw [if_pos e1, if_neg (by omega)]
        obtain ⟨rfl, rfl⟩ := e1
        have a1 := h.colc (a := i) (a' := i') (b := J) (by omega) (by omega) (by omega) (by omega)
        have a2 := h.cfg.row i' J (J + 1) (by omega) g2 (by omega) (by omega)
        omega
      · rw [if_neg e1]
        by_cases e2 : i' = I ∧ j = J + 1
        · rw [if_pos e2]
          obtain ⟨rfl, rfl⟩ := e2
          have a1 := hu (i' - 1) (by omega)
          have a2 : cell s (i' - 1) (J + 1) < cell s i' J := by
            have hlen := h.cfg.lens (i' - 1) i' (by omega)
            rcases Int.lt_or_eq_of_le a1 with g | g
            · exact g
            · have := h.inj (i' - 1) (J + 1) i' J (by omega) (by omega) (by omega) (by omega) g
              omega
          by_cases e3 : i = i' - 1
          · rw [e3]; exact a2
          · have hlen := h.cfg.lens (i' - 1) i' (by omega)
            have a3 := h.colc (a := i) (a' := i' - 1) (b := J + 1) (by omega) (by omega) (by omega) (by omega)
            omega
        · rw [if_neg e2]; exact h.colc g1 g2 e1 e2
    · rw [pl] at g1
      rw [pc]
      by_cases e1 : i = I ∧ j = J + 1
      · rw [if_pos e1]; omega
      · rw [if_neg e1]; have := h.pos i j g1 e1; omega
    · rw [pl] at g2
      rw [pc, if_neg (by omega)]
      have := h.pos i' J g2 (by omega); omega
    · rw [pl] at g2
      rw [pc]
      by_cases e1 : I = I ∧ k = J + 1
      · rw [if_pos e1]; omega
      · rw [if_neg e1]; have := h.pos I k g2 e1; omega
  obtain ⟨i0, j0, g1, g2, g3, g4, g5⟩ := h.go
  refine ⟨hcfg, fun a b e1 n1 => ?_, ⟨i0, j0, ?_, g2, g3, g4, g5⟩, by rw [put_length]; exact h.len, fun a => by rw [pl]; exact h.rls a, fun a b a' b' x1 x2 n1 n2 e => ?_⟩
  rotate_left 2
  · rw [pl] at x1 x2
    rw [pc, pc] at e
    by_cases e1 : a = I ∧ b = J + 1
    · rw [if_pos e1] at e
      by_cases e2 : a' = I ∧ b' = J + 1
      · omega
      · rw [if_neg e2] at e
        have := h.inj I J a' b' (by omega) x2 (by omega) e2 e
        omega
    · rw [if_neg e1] at e
      by_cases e2 : a' = I ∧ b' = J + 1
      · rw [if_pos e2] at e
        have := h.inj a b I J x1 (by omega) e1 (by omega) e
        omega
      · rw [if_neg e2] at e
        exact h.inj a b a' b' x1 x2 e1 e2 e
  · rw [pl] at e1
    rw [pc]
    by_cases e : a = I ∧ b = J + 1
    · rw [if_pos e]; omega
    · rw [if_neg e]; exact h.pos a b e1 e
  · have e1 : cell (put s I (J + 1) (cell s I J)) I (J + 1) = cell s I J := by rw [pc, if_pos ⟨rfl, rfl⟩]
    refine .right (by rw [pl]; exact hat) (fun e2 => ?_) ?_
    · rw [pl] at e2
      rw [e1, pc, if_neg (by omega)]
      exact h.colc (by omega) e2 (by omega) (by omega)
    · rw [e1]
      have e3 : put (put s I (J + 1) (cell s I J)) I J (cell s I J) = put s I (J + 1) (cell s I J) := by
        have h1 : cell (put s I (J + 1) (cell s I J)) I J = cell s I J := by rw [pc, if_neg (by omega)]
        have h2 := put_self (s := put s I (J + 1) (cell s I J)) (i := I) (j := J) (by rw [pl]; omega)
        rwa [h1] at h2
      rw [e3]
      exact g1.fill _ hat

def ups (s : List (List Int)) : List (List Int) := s.map (fun r => r.map (fun x => x + 1))
theorem ups_word : ∀ P : List (List Int), dec 1 ((rword (ups P)).filter (fun x => decide (1 < x))) = sword P
  | [] => rfl
  | r :: t => by
    show dec 1 ((rword (ups t) ++ r.map (fun x => x + 1)).filter _) = sword t ++ lets r
    have e : dec 1 ((r.map (fun x => x + 1)).filter (fun x => decide (1 < x))) = lets r := by
      unfold dec lets
      rw [List.filter_map, List.map_map]
      have h1 : r.filter ((fun x => decide (1 < x)) ∘ fun x => x + 1) = r.filter (fun x => decide (0 < x)) := List.filter_congr (fun x _ => by simp; omega)
      rw [h1]
      conv => rhs; rw [← List.map_id (r.filter _)]
      exact List.map_congr_left (fun x _ => by simp)
    rw [List.filter_append, show ∀ a b : List Int, dec 1 (a ++ b) = dec 1 a ++ dec 1 b from fun a b => by simp [dec], ups_word t, e]
theorem ups_row (P : List (List Int)) (a : Nat) : (ups P).getD a [] = (P.getD a []).map (fun x => x + 1) := by
  unfold ups
  by_cases h : a < P.length
  · rw [getD_get (by simpa using h), getD_get h, List.getElem_map]
  · rw [getD_far (by simp; omega), getD_far (by omega)]; rfl
theorem ups_rl (P : List (List Int)) (a : Nat) : rl (ups P) a = rl P a := by unfold rl; rw [ups_row, List.length_map]
theorem ups_cell {P : List (List Int)} {a b : Nat} (h : b < rl P a) : cell (ups P) a b = cell P a b + 1 := by
  unfold cell rl at *
  rw [ups_row, getD_get (by simpa using h), getD_get h, List.getElem_map]
theorem boxes_ups (P : List (List Int)) : boxes (ups P) = boxes P := by
  unfold boxes ups
  rw [List.map_map]
  congr 1
  exact List.map_congr_left (fun r _ => by simp)
/-- The word without its greatest letter. -/
theorem top_word {T : List (List Int)} (h : Std T) {i j : Nat} (hj : rl T i = j + 1) (hc : cell T i j = boxes T) : hword T i j = (rword T).filter (fun x => decide (x ≤ (boxes T : Int) - 1)) := by
  have hi := rl_in (show j < rl T i by omega)
  have hfil : ∀ S : List (List Int), (rword S).filter (fun x => decide (x ≤ (boxes T : Int) - 1)) = rword (S.map (fun r => r.filter (fun x => decide (x ≤ (boxes T : Int) - 1)))) := fun S => by
    induction S with
    | nil => rfl
    | cons r t ih => show (rword t ++ r).filter _ = _; rw [List.filter_append, ih]; rfl
  unfold hword sword
  rw [hfil]
  congr 1
  apply List.ext_getElem (by simp [put_length])
  intro a g1 g2
  rw [List.length_map, put_length] at g1
  rw [List.getElem_map, List.getElem_map]
  have e1 : (put T i j 0)[a]'(by rw [put_length]; exact g1) = (put T i j 0).getD a [] := (getD_get (by rw [put_length]; exact g1)).symm
  have e2 : T[a] = T.getD a [] := (getD_get g1).symm
  rw [e1, e2, put_row]
  have hval : ∀ b, b < rl T a → ¬ (a = i ∧ b = j) → 1 ≤ cell T a b ∧ cell T a b ≤ (boxes T : Int) - 1 := fun b hb hn => by
    have h1 := h.1.skOk.2 a b hb
    have h2 := (h.bnd _ (word_of hb)).2
    have h3 : cell T a b ≠ cell T i j := fun e => by
      have := h.inj hb (show j < rl T i by omega) e
      omega
    omega
  by_cases e : a = i
  · subst e
    rw [if_pos rfl]
    have hl : (T.getD a []).length = j + 1 := hj
    have hsp := row_split (r := T.getD a []) (j := j) (by omega)
    have hdr : (T.getD a []).drop (j + 1) = [] := List.drop_eq_nil_of_le (by omega)
    have hce : (T.getD a []).getD j 0 = boxes T := hc
    rw [set_split _ (by omega), hdr]
    conv => rhs; rw [hsp, hdr, hce]
    have ht : ∀ x ∈ (T.getD a []).take j, 1 ≤ x ∧ x ≤ (boxes T : Int) - 1 := fun x hx => by
      obtain ⟨b, hb, rfl⟩ := List.getElem_of_mem hx
      rw [List.length_take] at hb
      rw [List.getElem_take]
      have := hval b (by omega) (by omega)
      unfold cell at this
      rwa [getD_get (by omega)] at this
    unfold lets
    rw [List.filter_append, List.filter_append, List.filter_eq_self.2 (fun x hx => decide_eq_true (by have := ht x hx; omega)), List.filter_eq_self.2 (fun x hx => decide_eq_true (ht x hx).2)]
    congr 1
    rw [List.filter_cons, if_neg (by simp), List.filter_cons, if_neg (by simp; omega)]; rfl
  · rw [if_neg e]
    have ht : ∀ x ∈ T.getD a [], 1 ≤ x ∧ x ≤ (boxes T : Int) - 1 := fun x hx => by
      obtain ⟨b, hb, rfl⟩ := List.getElem_of_mem hx
      have := hval b hb (fun hh => e hh.1)
      unfold cell at this
      rwa [getD_get hb] at this
    rw [lets_pos (fun x hx => by have := ht x hx; omega), List.filter_eq_self.2 (fun x hx => decide_eq_true (ht x hx).2)]
/-- What is demoted is promoted back. -/
theorem Back.pro {T s : List (List Int)} (h : Back T s 0 0) (hT : Std T) : Pro (ups (put s 0 0 0)) T := by
  have hc := h.cfg
  have hat := hc.at_
  obtain ⟨i0, j0, g1, g2, g3, g4, g5⟩ := h.go
  obtain ⟨p1, p2, p3, p4⟩ := g1.props hc
  obtain ⟨q1, q2⟩ := g2.cut_word (by omega) g4
  rw [q1, top_word hT g3 g5] at p1
  have hbs : boxes s = boxes T := by omega
  have hbD : boxes (ups (put s 0 0 0)) = boxes T := by rw [boxes_ups, boxes_put, hbs]
  have hrl : ∀ a, rl (ups (put s 0 0 0)) a = rl s a := fun a => by rw [ups_rl, put_rl]
  have hcell : ∀ a b, b < rl s a → cell (ups (put s 0 0 0)) a b = if a = 0 ∧ b = 0 then 1 else cell s a b + 1 := fun a b hb => by
    rw [ups_cell (by rw [put_rl]; exact hb), put_cell hat]
    by_cases e : a = 0 ∧ b = 0
    · rw [if_pos e, if_pos e]; rfl
    · rw [if_neg e, if_neg e]
  have htop : ∀ a b, b < rl s a → ¬ (a = 0 ∧ b = 0) → cell s a b ≤ (boxes T : Int) - 1 := fun a b hb hn => by
    have h1 := h.pos a b hb hn
    have h2 : cell (put s 0 0 0) a b = cell s a b := by rw [put_cell hat, if_neg hn]
    have h3 := mem_lets (s := put s 0 0 0) (i := a) (j := b) (by rw [put_rl]; exact hb) (by omega)
    rw [h2] at h3
    exact of_decide_eq_true (List.mem_filter.1 ((p1.mem _).1 h3)).2
  have hsk : Sk (ups (put s 0 0 0)) := by
    refine ⟨fun a ha => ?_, fun a a' haa => by rw [hrl, hrl]; exact hc.lens a a' haa, fun a b k e1 e2 => ?_, fun a a' b e1 e2 => ?_, fun a b e1 => ?_⟩
    · rw [hrl]
      refine hc.ne a ?_
      unfold ups at ha
      rwa [List.length_map, put_length] at ha
    · rw [hrl] at e2
      rw [hcell a b (by omega), hcell a k e2, if_neg (show ¬ (a = 0 ∧ k = 0) by omega)]
      have := h.pos a k e2 (by omega)
      by_cases e : a = 0 ∧ b = 0
      · rw [if_pos e]; omega
      · rw [if_neg e]
        have := hc.row a b k e1 e2 e (by omega); omega
    · rw [hrl] at e2
      have := hc.lens a a' (by omega)
      rw [hcell a b (by omega), hcell a' b e2, if_neg (show ¬ (a' = 0 ∧ b = 0) by omega)]
      left
      have := h.pos a' b e2 (by omega)
      by_cases e : a = 0 ∧ b = 0
      · rw [if_pos e]; omega
      · rw [if_neg e]
        have := h.colc e1 e2 e (by omega); omega
    · rw [hrl] at e1
      rw [hcell a b e1]
      by_cases e : a = 0 ∧ b = 0
      · rw [if_pos e]; omega
      · rw [if_neg e]; have := h.pos a b e1 e; omega
  have h40 := hT.1.2.2
  have hfull := (hsk.ok (by rw [hbD]; exact h40) (fun a b e1 => by
    rw [hrl] at e1
    rw [hcell a b e1]
    by_cases e : a = 0 ∧ b = 0
    · rw [if_pos e]; omega
    · rw [if_neg e]; have := htop a b e1 e; omega)).full (fun a b hz => by
    have e1 := hz.1
    have e2 := hz.2
    rw [hrl] at e1
    rw [hcell a b e1] at e2
    by_cases e : a = 0 ∧ b = 0
    · rw [if_pos e] at e2; omega
    · rw [if_neg e] at e2; have := h.pos a b e1 e; omega)
  have hperm : (ups (put s 0 0 0)).flatten.Perm (1 :: (sword (put s 0 0 0)).map (fun x => x + 1)) := by
    have hpos := h.pos
    revert hat hpos
    cases s with
    | nil => intro hat; simp [rl] at hat
    | cons r t =>
      cases r with
      | nil => intro hat; simp [rl] at hat
      | cons c r' =>
        intro _ hpos
        have hp : put ((c :: r') :: t) 0 0 0 = (0 :: r') :: t := rfl
        rw [hp, sword_cons]
        have e1 : ∀ x ∈ r', 0 < x := fun x hx => by
          obtain ⟨b, hb, rfl⟩ := List.getElem_of_mem hx
          have := hpos 0 (b + 1) (by unfold rl; simp; omega) (by omega)
          unfold cell at this
          simp [hb] at this
          omega
        have e2 : ∀ r ∈ t, ∀ x ∈ r, 0 < x := fun r hr x hx => by
          obtain ⟨a, ha, rfl⟩ := List.getElem_of_mem hr
          obtain ⟨b, hb, rfl⟩ := List.getElem_of_mem hx
          have := hpos (a + 1) b (by unfold rl; simp [ha]; exact hb) (by omega)
          unfold cell at this
          simp [ha, hb] at this
          omega
        have e3 : lets (0 :: r') = r' := by rw [lets_cons, if_neg (by decide)]; exact lets_pos e1
        rw [e3, rword_lets e2]
        have e4 : (ups ((0 :: r') :: t)).flatten = 1 :: (r' ++ t.flatten).map (fun x => x + 1) := by
          unfold ups; simp [List.map_flatten]
        rw [e4]
        refine List.Perm.cons _ (List.Perm.map _ ?_)
        exact (List.perm_append_comm).trans (List.Perm.append_right r' (rword_flat t).symm)
  have hp2 := hperm.trans (List.Perm.cons (1 : Int) (List.Perm.map (fun x => x + 1) (show (sword (put s 0 0 0)).Perm _ from p1.perm)))
  have hstd : IsPerm (ups (put s 0 0 0)).flatten := by
    have hlen : ((ups (put s 0 0 0)).flatten).length = boxes T := by rw [flatten_len, hbD]
    have hall : ∀ x ∈ ((rword T).filter (fun x => decide (x ≤ (boxes T : Int) - 1))).map (fun x => x + 1), 2 ≤ x ∧ x ≤ (boxes T : Int) := fun x hx => by
      obtain ⟨y, hy, rfl⟩ := List.mem_map.1 hx
      obtain ⟨y1, y2⟩ := List.mem_filter.1 hy
      have := hT.bnd y y1
      have := of_decide_eq_true y2
      omega
    have hb1 : 1 ≤ boxes T := by omega
    refine ⟨hp2.nodup_iff.2 ?_, fun x hx => ?_⟩
    · rw [List.nodup_cons]
      refine ⟨fun hm => by have := hall _ hm; omega, ?_⟩
      rw [List.nodup_iff_pairwise_ne, List.pairwise_map]
      exact (List.nodup_iff_pairwise_ne.1 (hT.perm.1.1.filter _)).imp (fun hab => by omega)
    · rw [hlen]
      rcases List.mem_cons.1 (hp2.mem_iff.1 hx) with rfl | hm
      · omega
      · have := hall x hm; omega
  refine ⟨⟨hfull.1, hstd⟩, hT, fun a => by rw [hrl, h.rls], hbD.symm, ?_⟩
  rw [ups_word, hbD]
  exact p1
end Go.Proofs.Ytpmkdihencepnaa

/-
  Plain: rows whose cells are changed one by one, each alike.
-/
namespace Go.Proofs.Ytpmkdihencepnaa

/-- The rows before a, and of row a the cells before k, are done. -/
structure Mixf (f : Int → Int) (P S : List (List Int)) (a k : Nat) : Prop where
  len : S.length = P.length
  rls : ∀ r, rl S r = rl P r
  val : ∀ r b, b < rl P r → cell S r b = if r < a ∨ (r = a ∧ b < k) then f (cell P r b) else cell P r b
theorem Mixf.start (f : Int → Int) (P : List (List Int)) : Mixf f P P 0 0 := ⟨rfl, fun _ => rfl, fun r b _ => by rw [if_neg (by omega)]⟩
theorem Mixf.cur {f : Int → Int} {P S : List (List Int)} {a k : Nat} (h : Mixf f P S a k) (hk : k < rl P a) : cell S a k = cell P a k := by
  rw [h.val a k hk, if_neg (by omega)]
theorem Mixf.step {f : Int → Int} {P S : List (List Int)} {a k : Nat} (h : Mixf f P S a k) (hk : k < rl P a) : Mixf f P (put S a k (f (cell P a k))) a (k + 1) := by
  refine ⟨by rw [put_length]; exact h.len, fun r => by rw [put_rl]; exact h.rls r, fun r b hb => ?_⟩
  rw [put_cell (by rw [h.rls]; exact hk)]
  by_cases e : r = a ∧ b = k
  · rw [if_pos e, if_pos (by omega), e.1, e.2]
  · rw [if_neg e, h.val r b hb]
    by_cases e2 : r < a ∨ (r = a ∧ b < k)
    · rw [if_pos e2, if_pos (by omega)]
    · rw [if_neg e2, if_neg (by omega)]
theorem Mixf.next {f : Int → Int} {P S : List (List Int)} {a k : Nat} (h : Mixf f P S a k) (hk : rl P a ≤ k) : Mixf f P S (a + 1) 0 := by
  refine ⟨h.len, h.rls, fun r b hb => ?_⟩
  rw [h.val r b hb]
  by_cases e : r < a ∨ (r = a ∧ b < k)
  · rw [if_pos e, if_pos (by omega)]
  · rw [if_neg e, if_neg (by
      intro e2
      have : r = a := by omega
      subst this
      omega)]
theorem Mixf.done {f : Int → Int} {P S : List (List Int)} {a : Nat} (h : Mixf f P S a 0) (ha : P.length ≤ a) : S = P.map (List.map f) := by
  apply List.ext_getElem (by rw [List.length_map]; exact h.len)
  intro r h1 h2
  rw [List.length_map] at h2
  rw [List.getElem_map]
  have h3 := h.rls r
  unfold rl at h3
  rw [getD_get h1, getD_get h2] at h3
  apply List.ext_getElem (by rw [List.length_map]; exact h3)
  intro b g1 g2
  have h4 := h.val r b (by unfold rl; rw [getD_get h2]; omega)
  rw [if_pos (by omega)] at h4
  unfold cell at h4
  rw [getD_get h1, getD_get h2, getD_get g1, getD_get (by omega)] at h4
  rw [h4, List.getElem_map]
theorem pro_nil (h : Std []) : Pro [] [] := ⟨h, h, fun _ => rfl, rfl, .refl _⟩
theorem Gone.bnd {T out : List (List Int)} {i j : Nat} (h : Gone T out i j) (a b : Nat) (hb : b < rl (pad out i) a) : 0 ≤ cell (pad out i) a b ∧ cell (pad out i) a b ≤ 99 := by
  unfold rl at hb
  rw [pad_getD] at hb
  unfold cell
  rw [pad_getD]
  have h1 := h.ok.skOk.2 a b hb
  have h2 := h.ok.skOk.1.sk.2 a b hb
  unfold cell at h1 h2
  omega
theorem Gone.lens {T out : List (List Int)} {i j : Nat} (h : Gone T out i j) (a : Nat) : rl (pad out i) a ≤ rl T a ∧ rl (pad out i) i = j := by
  have h1 := h.rls a
  have h2 := h.rls i
  have h3 := h.here
  rw [if_pos rfl] at h2
  unfold rl at *
  rw [pad_getD, pad_getD]
  by_cases e : a = i
  · rw [if_pos e] at h1; rw [e] at h1 ⊢; omega
  · rw [if_neg e] at h1; omega
end Go.Proofs.Ytpmkdihencepnaa
