/-
  Plain: SCHUETZENBERGER'S: of the inverse P and Q change places; read from behind P is turned over.
-/
import Derived.Test.YtmlmdklheiafpaaPlacR
import Derived.Test.YtmlmdklheiafpaaPlacG
import Derived.Test.YtmlmdklheiafpaaTabl7W
import Derived.Test.YtmlmdklheiafpaaBruhatM
namespace Go.Proofs.Ytmlmdklheiafpaa

/-- KNUTH's steps bear the greater letters' going. -/
theorem Kn.keepLe (m : Int) {a b : List Int} (h : Kn a b) : Kn (a.filter (· ≤ m)) (b.filter (· ≤ m)) := by
  induction h with
  | refl w => exact .refl _
  | step u v k =>
    rw [List.filter_append, List.filter_append, List.filter_append, List.filter_append]
    refine Kn.ctx _ _ ?_
    cases k with
    | a x y z h1 h2 =>
      by_cases c1 : z ≤ m
      · have c2 : y ≤ m := by omega
        have c3 : x ≤ m := by omega
        simp only [List.filter_cons, c1, c2, c3, decide_true, if_true, List.filter_nil]
        exact .one (.a x y z h1 h2)
      · by_cases c2 : y ≤ m
        · by_cases c3 : x ≤ m
          · simp only [List.filter_cons, c1, c2, c3, decide_true, decide_false, if_true, List.filter_nil]; exact .refl _
          · simp only [List.filter_cons, c1, c2, c3, decide_true, decide_false, if_true, List.filter_nil]; exact .refl _
        · by_cases c3 : x ≤ m
          · simp only [List.filter_cons, c1, c2, c3, decide_true, decide_false, if_true, List.filter_nil]; exact .refl _
          · simp only [List.filter_cons, c1, c2, c3, decide_false, List.filter_nil]; exact .refl _
    | b x y z h1 h2 =>
      by_cases c1 : z ≤ m
      · have c2 : y ≤ m := by omega
        have c3 : x ≤ m := by omega
        simp only [List.filter_cons, c1, c2, c3, decide_true, if_true, List.filter_nil]
        exact .one (.b x y z h1 h2)
      · by_cases c2 : y ≤ m
        · by_cases c3 : x ≤ m
          · simp only [List.filter_cons, c1, c2, c3, decide_true, decide_false, if_true, List.filter_nil]; exact .refl _
          · simp only [List.filter_cons, c1, c2, c3, decide_true, decide_false, if_true, List.filter_nil]; exact .refl _
        · by_cases c3 : x ≤ m
          · simp only [List.filter_cons, c1, c2, c3, decide_true, decide_false, if_true, List.filter_nil]; exact .refl _
          · simp only [List.filter_cons, c1, c2, c3, decide_false, List.filter_nil]; exact .refl _
  | symm _ ih => exact ih.symm
  | trans _ _ ih1 ih2 => exact ih1.trans ih2
theorem filt_none {m : Int} {b : Int} {s : List Int} (h : Up (b :: s)) (hb : ¬ b ≤ m) : (b :: s).filter (· ≤ m) = [] := by
  rw [List.filter_eq_nil_iff]
  intro x hx
  rcases List.mem_cons.1 hx with e | e
  · rw [e]; simpa using hb
  · have := h.head x e; simp; omega
theorem dom_filt {m : Int} : ∀ {r s : List Int}, Up r → Up s → Dom r s → Dom (r.filter (· ≤ m)) (s.filter (· ≤ m))
  | _, [], _, _, _ => by simp [Dom]
  | [], _ :: _, _, _, h => h.elim
  | a :: r, b :: s, hr, hs, h => by
    by_cases c : b ≤ m
    · have ca : a ≤ m := by have := h.1; omega
      rw [List.filter_cons_of_pos (a := a) (by simpa using ca), List.filter_cons_of_pos (a := b) (by simpa using c)]
      exact ⟨h.1, dom_filt hr.tail hs.tail h.2⟩
    · rw [filt_none hs c]; simp only [Dom]
/-- A tableau's letters up to m. -/
def resT (m : Int) (T : List (List Int)) : List (List Int) := (T.map (fun r => r.filter (· ≤ m))).filter (fun r => decide (r ≠ []))
theorem res_none {m : Int} : ∀ {r : List Int} {t : List (List Int)}, Tab (r :: t) → r.filter (· ≤ m) = [] → ∀ s ∈ t, s.filter (· ≤ m) = []
  | _, [], _, _ => fun s hs => by simp at hs
  | r, s :: t, h, e => by
    have hs2 : s.filter (· ≤ m) = [] := by
      have hd : Dom r s := h.2.2.1
      have hd2 := dom_filt (m := m) h.2.1 h.2.2.2.2.1 hd
      rw [e] at hd2
      cases e2 : s.filter (· ≤ m) with
      | nil => rfl
      | cons x y => rw [e2] at hd2; exact hd2.elim
    intro u hu
    rcases List.mem_cons.1 hu with e2 | e2
    · rw [e2]; exact hs2
    · exact res_none h.2.2.2 hs2 u e2
theorem res_nil {m : Int} {t : List (List Int)} (h : ∀ s ∈ t, s.filter (· ≤ m) = []) : resT m t = [] := by
  unfold resT
  rw [List.filter_eq_nil_iff]
  intro x hx
  obtain ⟨s, hs, rfl⟩ := List.mem_map.1 hx
  simp only [h s hs]; simp
theorem res_cons {m : Int} {r : List Int} {t : List (List Int)} (h : r.filter (· ≤ m) ≠ []) : resT m (r :: t) = r.filter (· ≤ m) :: resT m t := by
  unfold resT
  rw [List.map_cons, List.filter_cons_of_pos (by simpa using h)]
theorem res_skip {m : Int} {r : List Int} {t : List (List Int)} (h : r.filter (· ≤ m) = []) : resT m (r :: t) = resT m t := by
  unfold resT
  rw [List.map_cons, h, List.filter_cons_of_neg (by simp)]
theorem res_word {m : Int} : ∀ (T : List (List Int)), rword (resT m T) = (rword T).filter (· ≤ m)
  | [] => rfl
  | r :: t => by
    simp only [rword, List.filter_append]
    by_cases e : r.filter (· ≤ m) = []
    · rw [res_skip e, e, res_word t, List.append_nil]
    · rw [res_cons e]; simp only [rword]; rw [res_word t]
theorem res_tab {m : Int} : ∀ {T : List (List Int)}, Tab T → Tab (resT m T) ∧ ∀ r, (resT m T).getD r [] = (T.getD r []).filter (· ≤ m)
  | [], _ => ⟨trivial, fun r => by simp [resT]⟩
  | r :: t, h => by
    obtain ⟨ih1, ih2⟩ := res_tab (m := m) h.2.2.2
    by_cases e : r.filter (· ≤ m) = []
    · have h1 := res_none h e
      have h2 : resT m (r :: t) = [] := by rw [res_skip e]; exact res_nil h1
      rw [h2]
      refine ⟨trivial, fun q => ?_⟩
      cases q with
      | zero => simpa using e
      | succ q =>
        have := ih2 q
        rw [res_nil h1] at this
        simpa using this
    · rw [res_cons e]
      refine ⟨⟨e, List.Pairwise.sublist List.filter_sublist h.2.1, ?_, ih1⟩, fun q => ?_⟩
      · have h0 := ih2 0
        have h3 : (resT m t).headD [] = (resT m t).getD 0 [] := by cases resT m t <;> simp
        rw [h3, h0]
        cases t with
        | nil => simp [Dom]
        | cons s t => exact dom_filt h.2.1 h.2.2.2.2.1 h.2.2.1
      · cases q with
        | zero => simp
        | succ q => simpa using ih2 q
/-- Of the letters up to m: the tableau's letters up to m. -/
theorem res_made (m : Int) (w : List Int) : insW [] (w.filter (· ≤ m)) = resT m (insW [] w) := by
  have ht : Tab (insW [] w) := insW_tab w trivial
  have h1 : Kn w (rword (insW [] w)) := by
    have := insW_word w (T := []) (fun r hr => by simp at hr)
    simpa [rword] using this
  rw [insW_Kn0 _ (Nat.le_refl _) (h1.keepLe m), ← res_word, insW_rword (res_tab ht).1]

/-- k rows' letters are in k subsequences. -/
theorem rows_can : ∀ (T : List (List Int)) (c k : Nat), (∀ r ∈ T, Up r) → ∃ L : List (Int × Nat), L.map (·.1) = rword T ∧ (∀ t, 0 < t → (cls L t).Pairwise (· ≤ ·)) ∧ (∀ p ∈ L, p.2 ≤ c + k ∧ (p.2 = 0 ∨ c < p.2)) ∧ ncol L = boxes (T.take k)
  | [], c, k, _ => ⟨[], rfl, fun _ _ => List.Pairwise.nil, fun p hp => by simp at hp, by simp [boxes, ncol]⟩
  | r :: t, c, k, h => by
    have c1 : ∀ (l : List Int) (d t : Nat), cls (l.map (fun x => (x, d))) t = if t = d then l else [] := fun l d t => by
      induction l with
      | nil => split <;> rfl
      | cons a l ih =>
        rw [List.map_cons, cls_cons, ih]
        by_cases h : t = d
        · simp [h]
        · rw [if_neg (by show ¬ d = t; omega), if_neg h, if_neg h]
    have c2 : ∀ (l : List Int) (d : Nat), ncol (l.map (fun x => (x, d))) = if d = 0 then 0 else l.length := fun l d => by
      induction l with
      | nil => split <;> rfl
      | cons a l ih =>
        rw [List.map_cons, ncol_cons, ih]
        by_cases h : d = 0
        · simp [h]
        · rw [if_neg h, if_neg h, if_neg h]; simp
    have c3 : ∀ (l : List Int) (d : Nat), (l.map (fun x => (x, d))).map (·.1) = l := fun l d => by simp [Function.comp_def]
    have ht := fun s hs => h s (List.mem_cons_of_mem r hs)
    cases k with
    | zero =>
      obtain ⟨L, h1, h2, h3, h4⟩ := rows_can t c 0 ht
      refine ⟨L ++ r.map (fun x => (x, 0)), by rw [List.map_append, h1, c3]; rfl, fun t' ht' => ?_, fun p hp => ?_, by rw [ncol_append, h4, c2]; simp [boxes]⟩
      · rw [cls_append, c1, if_neg (by omega), List.append_nil]; exact h2 t' ht'
      · rcases List.mem_append.1 hp with e | e
        · exact h3 p e
        · obtain ⟨x, _, rfl⟩ := List.mem_map.1 e; exact ⟨Nat.zero_le _, .inl rfl⟩
    | succ k =>
      obtain ⟨L, h1, h2, h3, h4⟩ := rows_can t (c + 1) k ht
      refine ⟨L ++ r.map (fun x => (x, c + 1)), by rw [List.map_append, h1, c3]; rfl, fun t' ht' => ?_, fun p hp => ?_, ?_⟩
      · rw [cls_append, c1]
        by_cases e : t' = c + 1
        · have : cls L t' = [] := by
            unfold cls
            rw [List.map_eq_nil_iff, List.filter_eq_nil_iff]
            intro p hp
            have := h3 p hp
            simp; omega
          rw [if_pos e, this, List.nil_append]; exact h r (by simp)
        · rw [if_neg e, List.append_nil]; exact h2 t' ht'
      · rcases List.mem_append.1 hp with e | e
        · have := h3 p e; omega
        · obtain ⟨x, _, rfl⟩ := List.mem_map.1 e; exact ⟨by show c + 1 ≤ _; omega, .inr (by show c < c + 1; omega)⟩
      · rw [ncol_append, h4, c2, if_neg (by omega), List.take_succ_cons, boxes_cons]; omega
theorem top_can (w : List Int) (k : Nat) : Can (· ≤ ·) k w (boxes ((insW [] w).take k)) := by
  have ht : Tab (insW [] w) := insW_tab w trivial
  have h1 : Kn w (rword (insW [] w)) := by
    have := insW_word w (T := []) (fun r hr => by simp at hr)
    simpa [rword] using this
  refine (can_up h1).2 ?_
  obtain ⟨L, g1, g2, g3, g4⟩ := rows_can (insW [] w) 0 k ht.up
  exact ⟨L, g1, g2, fun p hp => by have := (g3 p hp).1; omega, g4⟩
/-- Words with the same numbers of letters in subsequences have tableaux of one shape. -/
theorem same_shape {a b : List Int} (h : ∀ k n, Can (· ≤ ·) k a n ↔ Can (· ≤ ·) k b n) (r : Nat) : ((insW [] a).getD r []).length = ((insW [] b).getD r []).length := by
  have h1 : ∀ k, boxes ((insW [] a).take k) = boxes ((insW [] b).take k) := fun k =>
    Nat.le_antisymm (greene_up ((h k _).1 (top_can a k))) (greene_up ((h k _).2 (top_can b k)))
  have h2 : ∀ T : List (List Int), boxes (T.take (r + 1)) = boxes (T.take r) + (T.getD r []).length := fun T => by
    by_cases c : r < T.length
    · exact boxes_take c
    · rw [List.take_of_length_le (by omega), List.take_of_length_le (by omega), List.getD_eq_getElem?_getD, List.getElem?_eq_none (by omega)]; simp
  have h3 := h2 (insW [] a)
  have h4 := h2 (insW [] b)
  have h5 := h1 r
  have h6 := h1 (r + 1)
  omega

theorem pw_mem {R : Int × Int → Int × Int → Prop} : ∀ {X : List (Int × Int)}, X.Pairwise R → X.Pairwise (fun u v => u.1 < v.1) → ∀ {u v : Int × Int}, u ∈ X → v ∈ X → u.1 < v.1 → R u v
  | [], _, _, _, _, h, _, _ => by simp at h
  | a :: X, h1, h2, u, v, hu, hv, hlt => by
    rcases List.mem_cons.1 hu with e | e
    · rcases List.mem_cons.1 hv with e2 | e2
      · rw [e, e2] at hlt; omega
      · rw [e]; exact (List.pairwise_cons.1 h1).1 v e2
    · rcases List.mem_cons.1 hv with e2 | e2
      · have := (List.pairwise_cons.1 h2).1 u e
        rw [e2] at hlt; omega
      · exact pw_mem (List.pairwise_cons.1 h1).2 (List.pairwise_cons.1 h2).2 e e2 hlt
theorem col_fun : ∀ {X : List (Int × Int)} {L : List (Int × Nat)}, X.Pairwise (fun u v => u.1 < v.1) → L.map (·.1) = X.map (·.2) → ∃ f : Int → Nat, X.map (fun u => (u.2, f u.1)) = L
  | [], L, _, h => ⟨fun _ => 0, by simpa using h.symm⟩
  | u :: X, [], _, h => by simp at h
  | u :: X, p :: L, hp, h => by
    obtain ⟨f, hf⟩ := col_fun (List.pairwise_cons.1 hp).2 (by simpa using (List.cons.inj h).2)
    refine ⟨fun a => if a = u.1 then p.2 else f a, ?_⟩
    have h1 : p.1 = u.2 := (List.cons.inj h).1
    have h2 : X.map (fun v => (v.2, if v.1 = u.1 then p.2 else f v.1)) = L := by
      rw [← hf]
      refine List.map_congr_left (fun v hv => ?_)
      have := (List.pairwise_cons.1 hp).1 v hv
      rw [if_neg (by omega)]
    show (u.2, if u.1 = u.1 then p.2 else f u.1) :: X.map (fun v => (v.2, if v.1 = u.1 then p.2 else f v.1)) = p :: L
    rw [h2, if_pos rfl, ← h1]
theorem cls_points (f : Int → Nat) (g : Int × Int → Int) (t : Nat) (X : List (Int × Int)) : cls (X.map (fun u => (g u, f u.1))) t = (X.filter (fun u => decide (f u.1 = t))).map g := by
  induction X with
  | nil => rfl
  | cons u X ih =>
    rw [List.map_cons, cls_cons, ih]
    by_cases h : f u.1 = t
    · rw [if_pos h, List.filter_cons_of_pos (by simpa using h)]; rfl
    · rw [if_neg h, List.filter_cons_of_neg (by simpa using h)]
theorem ncol_points (f : Int → Nat) (g : Int × Int → Int) (X : List (Int × Int)) : ncol (X.map (fun u => (g u, f u.1))) = X.countP (fun u => decide (f u.1 ≠ 0)) := by
  unfold ncol
  rw [List.countP_map]; rfl
/-- Subsequences of points, seen from either side. -/
theorem can_points {X Y : List (Int × Int)} {k n : Nat} (hp : X.Perm Y) (hX : X.Pairwise (fun u v => u.1 < v.1)) (hY : Y.Pairwise (fun u v => u.2 < v.2)) (h : Can (· ≤ ·) k (X.map (·.2)) n) : Can (· ≤ ·) k (Y.map (·.1)) n := by
  obtain ⟨L, h1, h2, h3, h4⟩ := h
  obtain ⟨f, hf⟩ := col_fun hX h1
  refine ⟨Y.map (fun u => (u.1, f u.1)), by simp [Function.comp_def], fun t ht => ?_, fun p hpp => ?_, ?_⟩
  · rw [cls_points f (·.1), List.pairwise_map, List.pairwise_filter]
    have hc := h2 t ht
    rw [← hf, cls_points f (·.2), List.pairwise_map, List.pairwise_filter] at hc
    refine List.Pairwise.imp_of_mem ?_ hY
    intro u v hu hv huv h5 h6
    apply Classical.byContradiction
    intro hn
    have := pw_mem hc hX (hp.mem_iff.2 hv) (hp.mem_iff.2 hu) (by omega) h6 h5
    omega
  · obtain ⟨u, hu, rfl⟩ := List.mem_map.1 hpp
    have hm : (u.2, f u.1) ∈ L := by rw [← hf]; exact List.mem_map.2 ⟨u, hp.mem_iff.2 hu, rfl⟩
    exact h3 (u.2, f u.1) hm
  · rw [ncol_points f (·.1), ← h4, ← hf, ncol_points f (·.2)]
    exact (hp.countP_eq _).symm

/-- The first i letters as points; the letters up to i of the inverse as points. -/
def ptsX (p : List Int) (i : Nat) : List (Int × Int) := (List.range i).map (fun (j : Nat) => ((j : Int) + 1, p.getD j 0))
def ptsY (q : List Int) (i : Nat) : List (Int × Int) := ((List.range q.length).map (fun (v : Nat) => (q.getD v 0, (v : Int) + 1))).filter (fun u => decide (u.1 ≤ (i : Int)))
theorem ptsX_word {p : List Int} {i : Nat} (h : i ≤ p.length) : (ptsX p i).map (·.2) = p.take i := by
  unfold ptsX
  rw [List.map_map]
  apply List.ext_getElem (by simp; omega)
  intro j h1 h2
  have hj : j < p.length := by simp at h1; omega
  simp [hj]
theorem ptsY_word (q : List Int) (i : Nat) : (ptsY q i).map (·.1) = q.filter (· ≤ (i : Int)) := by
  unfold ptsY
  have h1 : (List.range q.length).map (fun (v : Nat) => (q.getD v 0, (v : Int) + 1)) = (List.range q.length).map (fun (v : Nat) => (q.getD v 0, (v : Int) + 1)) := rfl
  have h2 : ∀ (X : List (Int × Int)), (X.filter (fun u => decide (u.1 ≤ (i : Int)))).map (·.1) = (X.map (·.1)).filter (· ≤ (i : Int)) := fun X => by
    rw [List.filter_map]; rfl
  rw [h2, List.map_map]
  congr 1
  apply List.ext_getElem (by simp)
  intro j h3 h4
  simp [h4]
theorem ptsX_sort (p : List Int) (i : Nat) : (ptsX p i).Pairwise (fun u v => u.1 < v.1) := by
  unfold ptsX
  rw [List.pairwise_map]
  refine List.Pairwise.imp ?_ List.pairwise_lt_range
  intro a b hab
  show (a : Int) + 1 < (b : Int) + 1
  omega
theorem ptsY_sort (q : List Int) (i : Nat) : (ptsY q i).Pairwise (fun u v => u.2 < v.2) := by
  unfold ptsY
  refine List.Pairwise.sublist List.filter_sublist ?_
  rw [List.pairwise_map]
  refine List.Pairwise.imp ?_ List.pairwise_lt_range
  intro a b hab
  show (a : Int) + 1 < (b : Int) + 1
  omega
theorem pts_perm {p q : List Int} (hp : IsPerm p) (hq : IsInv p q) {i : Nat} (hi : i ≤ p.length) : (ptsX p i).Perm (ptsY q i) := by
  have n1 : (ptsX p i).Nodup := List.Pairwise.imp (fun h e => by rw [e] at h; omega) (ptsX_sort p i)
  have n2 : (ptsY q i).Nodup := List.Pairwise.imp (fun h e => by rw [e] at h; omega) (ptsY_sort q i)
  have fwd : ∀ j, j < p.length → ∃ v : Nat, v < q.length ∧ p.getD j 0 = (v : Int) + 1 ∧ q.getD v 0 = (j : Int) + 1 := fun j hj => by
    have h1 := hp.getD_range hj
    have h2 := hq.2 j hj
    refine ⟨(p.getD j 0 - 1).toNat, by rw [hq.1]; omega, by omega, ?_⟩
    unfold at1 at h2
    exact h2
  rw [List.perm_ext_iff_of_nodup n1 n2]
  intro u
  unfold ptsX ptsY
  rw [List.mem_filter, List.mem_map, List.mem_map]
  constructor
  · rintro ⟨j, hj, rfl⟩
    rw [List.mem_range] at hj
    obtain ⟨v, h1, h2, h3⟩ := fwd j (by omega)
    refine ⟨⟨v, List.mem_range.2 h1, by rw [h2, h3]⟩, ?_⟩
    simp; omega
  · rintro ⟨⟨v, hv, rfl⟩, hle⟩
    rw [List.mem_range, hq.1] at hv
    have hm := hp.mem (x := (v : Int) + 1) (by omega) (by omega)
    obtain ⟨j, hj, e⟩ := List.getElem_of_mem hm
    obtain ⟨v', h1, h2, h3⟩ := fwd j hj
    rw [getD_get hj, e] at h2
    have hvv : v' = v := by omega
    subst hvv
    have hle' : q.getD v' 0 ≤ (i : Int) := by simpa using hle
    rw [h3] at hle'
    exact ⟨j, List.mem_range.2 (by omega), by rw [getD_get hj, e, h3]⟩
theorem can_swap {X Y : List (Int × Int)} {k n : Nat} (hp : X.Perm Y) (hX : X.Pairwise (fun u v => u.1 < v.1)) (hY : Y.Pairwise (fun u v => u.2 < v.2)) : Can (· ≤ ·) k (X.map (·.2)) n ↔ Can (· ≤ ·) k (Y.map (·.1)) n := by
  refine ⟨can_points hp hX hY, fun h => ?_⟩
  have h1 := can_points (X := Y.map (fun u => (u.2, u.1))) (Y := X.map (fun u => (u.2, u.1))) (k := k) (n := n) (hp.symm.map _) (by rw [List.pairwise_map]; exact hY) (by rw [List.pairwise_map]; exact hX) (by rw [List.map_map]; exact h)
  rw [List.map_map] at h1
  exact h1
/-- Rows that don't fall, known by how many letters are small. -/
theorem up_uniq : ∀ {a b : List Int} {n : Nat}, Up a → Up b → (∀ x ∈ a, 1 ≤ x ∧ x ≤ (n : Int)) → (∀ x ∈ b, 1 ≤ x ∧ x ≤ (n : Int)) → (∀ i : Nat, i ≤ n → (a.filter (· ≤ (i : Int))).length = (b.filter (· ≤ (i : Int))).length) → a = b
  | [], [], _, _, _, _, _, _ => rfl
  | [], y :: b, n, _, _, _, hb, h => by
    have h1 := h n (Nat.le_refl _)
    have h2 := hb y (by simp)
    rw [List.filter_cons_of_pos (by simpa using h2.2)] at h1
    simp at h1
  | x :: a, [], n, _, _, ha, _, h => by
    have h1 := h n (Nat.le_refl _)
    have h2 := ha x (by simp)
    rw [List.filter_cons_of_pos (by simpa using h2.2)] at h1
    simp at h1
  | x :: a, y :: b, n, ua, ub, ha, hb, h => by
    have hx := ha x (by simp)
    have hy := hb y (by simp)
    have hxy : x = y := by
      apply Classical.byContradiction
      intro hne
      by_cases c : x < y
      · have h1 := h x.toNat (by omega)
        rw [show ((x.toNat : Nat) : Int) = x by omega, List.filter_cons_of_pos (by simp), filt_none ub (by omega)] at h1
        simp at h1
      · have h1 := h y.toNat (by omega)
        rw [show ((y.toNat : Nat) : Int) = y by omega, filt_none ua (by omega), List.filter_cons_of_pos (a := y) (by simp)] at h1
        simp at h1
    subst hxy
    rw [up_uniq (n := n) ua.tail ub.tail (fun z hz => ha z (List.mem_cons_of_mem _ hz)) (fun z hz => hb z (List.mem_cons_of_mem _ hz)) (fun i hi => by
      have h1 := h i hi
      by_cases c : x ≤ (i : Int)
      · rw [List.filter_cons_of_pos (by simpa using c), List.filter_cons_of_pos (by simpa using c)] at h1
        simpa using h1
      · rw [List.filter_cons_of_neg (by simpa using c), List.filter_cons_of_neg (by simpa using c)] at h1
        exact h1)]
theorem qadd_getD {Q : List (List Int)} {r s : Nat} {c : Int} (h : r ≤ Q.length) : (qadd Q r c).getD s [] = if s = r then Q.getD r [] ++ [c] else Q.getD s [] := by
  unfold qadd
  by_cases e : r = Q.length
  · rw [if_pos e]
    subst e
    by_cases e2 : s = Q.length
    · subst e2
      rw [if_pos rfl, List.getD_eq_getElem?_getD, List.getElem?_append_right (Nat.le_refl _), List.getD_eq_getElem?_getD, List.getElem?_eq_none (Nat.le_refl _)]
      simp
    · rw [if_neg e2, List.getD_eq_getElem?_getD, List.getD_eq_getElem?_getD]
      by_cases c : s < Q.length
      · rw [List.getElem?_append_left c]
      · rw [List.getElem?_eq_none (l := Q ++ [_]) (by simp; omega), List.getElem?_eq_none (l := Q) (by omega)]
  · rw [if_neg e]
    by_cases e2 : s = r
    · subst e2
      rw [if_pos rfl, List.getD_eq_getElem?_getD, List.getElem?_set_self (by omega)]; rfl
    · rw [if_neg e2, List.getD_eq_getElem?_getD, List.getElem?_set_ne (Ne.symm e2), ← List.getD_eq_getElem?_getD]
theorem qadd_ne {Q : List (List Int)} {r : Nat} {c : Int} (h : ∀ s ∈ Q, s ≠ []) : ∀ s ∈ qadd Q r c, s ≠ [] := fun s hs => by
  unfold qadd at hs
  split at hs
  · rcases List.mem_append.1 hs with e | e
    · exact h s e
    · simp at e; rw [e]; simp
  · obtain ⟨k, hk, e⟩ := List.getElem_of_mem hs
    rw [List.getElem_set] at e
    split at e
    · rw [← e]; simp
    · rw [← e]; exact h _ (List.getElem_mem _)
/-- The recording tableau: rows that rise, of the numbers so far; kept to the first i it is what was recorded then. -/
theorem rec_facts {xs : List Int} {n : Nat} (hn : n = xs.length) : ∀ i, i ≤ n → (∀ s ∈ recQ xs (upN n) i, s ≠ []) ∧ (∀ s, Up ((recQ xs (upN n) i).getD s []) ∧ ∀ x ∈ (recQ xs (upN n) i).getD s [], 1 ≤ x ∧ x ≤ (i : Int)) ∧ ∀ j s, j ≤ i → ((recQ xs (upN n) i).getD s []).filter (· ≤ (j : Int)) = (recQ xs (upN n) j).getD s []
  | 0, _ => ⟨fun s hs => by simp [recQ] at hs, fun s => by simp [recQ, Up], fun j s hj => by
      obtain rfl : j = 0 := by omega
      simp [recQ]⟩
  | i + 1, h => by
    obtain ⟨h1, h2, h3⟩ := rec_facts hn i (by omega)
    have hc : (upN n).getD i 0 = (i : Int) + 1 := by
      unfold upN upTil
      rw [List.getD_eq_getElem?_getD]
      simp [show i < n by omega]
    have hir := (sh_ins1 (insW [] (xs.take i)) (xs.getD i 0)).1
    have hrl := rec_length (xs := xs) (cs := upN n) (i := i) (by omega)
    have hle : irow (insW [] (xs.take i)) (xs.getD i 0) ≤ (recQ xs (upN n) i).length := by omega
    have e : recQ xs (upN n) (i + 1) = qadd (recQ xs (upN n) i) (irow (insW [] (xs.take i)) (xs.getD i 0)) ((i : Int) + 1) := by
      show qadd _ _ ((upN n).getD i 0) = _
      rw [hc]
    rw [e]
    refine ⟨qadd_ne h1, fun s => ?_, fun j s hj => ?_⟩
    · rw [qadd_getD hle]
      split
      · obtain ⟨g1, g2⟩ := h2 (irow (insW [] (xs.take i)) (xs.getD i 0))
        refine ⟨List.pairwise_append.2 ⟨g1, List.pairwise_singleton _ _, fun a ha b hb => ?_⟩, fun x hx => ?_⟩
        · have := g2 a ha
          simp at hb; omega
        · rcases List.mem_append.1 hx with e2 | e2
          · have := g2 x e2; omega
          · simp at e2; omega
      · obtain ⟨g1, g2⟩ := h2 s
        exact ⟨g1, fun x hx => by have := g2 x hx; omega⟩
    · rw [← e]
      by_cases c : j = i + 1
      · subst c
        rw [List.filter_eq_self]
        intro x hx
        rw [e, qadd_getD hle] at hx
        split at hx
        · rcases List.mem_append.1 hx with e2 | e2
          · have := (h2 _).2 x e2; simp; omega
          · simp at e2; simp; omega
        · have := (h2 s).2 x hx; simp; omega
      · rw [e, qadd_getD hle, ← h3 j s (by omega)]
        split
        · rename_i hs
          rw [List.filter_append, List.filter_cons_of_neg (by simp; omega), hs]; simp
        · rfl
theorem rows_ext {T Q : List (List Int)} (h1 : ∀ r ∈ T, r ≠ []) (h2 : ∀ r ∈ Q, r ≠ []) (h : ∀ r, T.getD r [] = Q.getD r []) : T = Q := by
  have key : ∀ {A B : List (List Int)}, (∀ r ∈ A, r ≠ []) → (∀ r, A.getD r [] = B.getD r []) → A.length ≤ B.length := fun {A B} hA hh => by
    apply Classical.byContradiction
    intro hn
    have h3 := hh B.length
    have h4 : B.length < A.length := by omega
    rw [getD_get h4, List.getD_eq_getElem?_getD, List.getElem?_eq_none (Nat.le_refl _)] at h3
    exact hA _ (List.getElem_mem h4) h3
  have hl := Nat.le_antisymm (key h1 h) (key h2 (fun r => (h r).symm))
  apply List.ext_getElem hl
  intro r g1 g2
  have := h r
  rwa [getD_get g1, getD_get g2] at this
/-- SCHUETZENBERGER: P of the inverse is Q. -/
theorem mirror_inv {p q : List Int} (hp : IsPerm p) (hq : IsInv p q) (hql : ∀ x ∈ q, 1 ≤ x ∧ x ≤ (p.length : Int)) : insW [] q = recQ p (upN p.length) p.length := by
  have ht : Tab (insW [] q) := insW_tab q trivial
  obtain ⟨r1, r2, r3⟩ := rec_facts (xs := p) (n := p.length) rfl p.length (Nat.le_refl _)
  refine rows_ext ht.ne r1 (fun r => up_uniq (n := p.length) (ht.upD r) (r2 r).1 (fun x hx => ?_) (r2 r).2 (fun i hi => ?_))
  · have hk : Kn q (rword (insW [] q)) := by
      have := insW_word q (T := []) (fun r hr => by simp at hr)
      simpa [rword] using this
    refine hql x ((hk.mem x).2 (rword_mem.2 ?_))
    by_cases c : r < (insW [] q).length
    · rw [getD_get c] at hx; exact ⟨_, List.getElem_mem c, hx⟩
    · rw [List.getD_eq_getElem?_getD, List.getElem?_eq_none (by omega)] at hx; simp at hx
  · rw [r3 i r hi, ← (res_tab (m := (i : Int)) ht).2 r, ← res_made, rec_row (by omega)]
    refine (same_shape (fun k n => ?_) r).symm
    rw [← ptsX_word hi, ← ptsY_word q i]
    exact can_swap (pts_perm hp hq hi) (ptsX_sort p i) (ptsY_sort q i)
end Go.Proofs.Ytmlmdklheiafpaa
