/-
  Plain lists: cycles written one behind the other: there and back; as many cycles as numbers above all ahead.
-/
import Derived.Test.YtmlmdklheiafpaaDoorRoundsM
import Derived.Test.YtmlmdklheiafpaaDoorFinite
namespace Go.Proofs.YtmlmdklheiafpaaDoor

/-- The way of top comes back to top. -/
def Closing (xs : List Int) (top : Int) : Prop := at1 xs ((arc xs top).getLastD 0) = top
instance (xs : List Int) (top : Int) : Decidable (Closing xs top) := by unfold Closing; infer_instance

theorem chain_end {xs : List Int} {top : Int} (hp : IsPerm xs) : ∀ (f : Nat) (l : List Int) (n : Int), Path xs top l n → f + l.length = xs.length + 1 →
    ∃ n', Path xs top (l ++ chain xs top f n) n' ∧ top ≤ n'
  | 0, l, n, h, e => by
    have := h.length_le hp; omega
  | f + 1, l, n, h, e => by
    by_cases hc : n ≠ top ∧ n < top
    · rw [chain_go _ hc]
      obtain ⟨n', h'⟩ := chain_end hp f (l ++ [n]) (at1 xs n) (h.next hp hc.2) (by simp; omega)
      exact ⟨n', by simpa using h'⟩
    · rw [chain_stop _ hc]
      exact ⟨n, by simpa using h, by omega⟩

theorem arc_spec {xs : List Int} {top : Int} (hp : IsPerm xs) (h1 : 1 ≤ top) (h2 : top ≤ xs.length) : ∃ n, Path xs top (arc xs top) n ∧ top ≤ n :=
  chain_end hp xs.length [top] _ (Path.start h1 h2) (by simp)

section
variable {xs : List Int} {t : Int}

theorem arc_pos (xs : List Int) (t : Int) : 0 < (arc xs t).length := by simp [arc]
theorem arc_zero (xs : List Int) (t : Int) : (arc xs t)[0]'(arc_pos xs t) = t := by simp [arc]
theorem mem_arc_self (xs : List Int) (t : Int) : t ∈ arc xs t := by simp [arc]

theorem arc_le (hp : IsPerm xs) (h1 : 1 ≤ t) (h2 : t ≤ xs.length) {x : Int} (hx : x ∈ arc xs t) : x ≤ t := by
  obtain ⟨n, h, _⟩ := arc_spec hp h1 h2
  obtain ⟨j, hj, rfl⟩ := List.mem_iff_getElem.1 hx
  cases j with
  | zero => rw [arc_zero]; omega
  | succ j => have := h.low j hj; omega

theorem arc_range (hp : IsPerm xs) (h1 : 1 ≤ t) (h2 : t ≤ xs.length) {x : Int} (hx : x ∈ arc xs t) : 1 ≤ x ∧ x ≤ (xs.length : Int) := by
  obtain ⟨n, h, _⟩ := arc_spec hp h1 h2
  exact h.range x hx

/-- Where a number of a closed way goes. -/
theorem arc_at (hp : IsPerm xs) (h1 : 1 ≤ t) (h2 : t ≤ xs.length) (hc : Closing xs t) {j : Nat} (hj : j < (arc xs t).length) :
    at1 xs (arc xs t)[j] = if h : j + 1 < (arc xs t).length then (arc xs t)[j + 1] else t := by
  obtain ⟨n, h, _⟩ := arc_spec hp h1 h2
  split
  · rename_i hl; exact (h.step j hl).symm
  · have : (arc xs t).getLastD 0 = (arc xs t)[j] := by
      rw [getLastD_get (by omega)]; congr 1; omega
    rw [← this]; exact hc

theorem arc_closed (hp : IsPerm xs) (h1 : 1 ≤ t) (h2 : t ≤ xs.length) (hc : Closing xs t) {x : Int} (hx : x ∈ arc xs t) : at1 xs x ∈ arc xs t := by
  obtain ⟨j, hj, rfl⟩ := List.mem_iff_getElem.1 hx
  rw [arc_at hp h1 h2 hc hj]
  split
  · exact List.getElem_mem _
  · exact mem_arc_self xs t

theorem arc_pred (hp : IsPerm xs) (h1 : 1 ≤ t) (h2 : t ≤ xs.length) (hc : Closing xs t) {x : Int} (hx : x ∈ arc xs t) : ∃ y ∈ arc xs t, at1 xs y = x := by
  obtain ⟨j, hj, rfl⟩ := List.mem_iff_getElem.1 hx
  cases j with
  | zero =>
    refine ⟨(arc xs t).getLastD 0, ?_, ?_⟩
    · rw [getLastD_get (arc_pos xs t)]; exact List.getElem_mem _
    · rw [arc_zero]; exact hc
  | succ j =>
    refine ⟨(arc xs t)[j], List.getElem_mem _, ?_⟩
    rw [arc_at hp h1 h2 hc (by omega), dif_pos hj]

theorem arc_absorb (hp : IsPerm xs) (h1 : 1 ≤ t) (h2 : t ≤ xs.length) (hc : Closing xs t) (T : Int → Prop) (hT : ∀ x ∈ arc xs t, T x → T (at1 xs x)) {x : Int} (hx : x ∈ arc xs t) (hTx : T x) :
    ∀ y ∈ arc xs t, T y := by
  obtain ⟨j, hj, rfl⟩ := List.mem_iff_getElem.1 hx
  have up : ∀ (i d : Nat) (hd : i + d < (arc xs t).length), T ((arc xs t)[i]'(by omega)) → T (arc xs t)[i + d] := by
    intro i d
    induction d with
    | zero => intro _ h; exact h
    | succ d ih =>
      intro hd h
      have h' := hT _ (List.getElem_mem _) (ih (by omega) h)
      rw [arc_at hp h1 h2 hc (by omega), dif_pos (by omega)] at h'
      exact h'
  have hlast : T ((arc xs t)[(arc xs t).length - 1]'(by omega)) := by
    have := up j ((arc xs t).length - 1 - j) (by omega) hTx
    have e : j + ((arc xs t).length - 1 - j) = (arc xs t).length - 1 := by omega
    simpa only [e] using this
  have h0 : T ((arc xs t)[0]'(arc_pos xs t)) := by
    have h' := hT _ (List.getElem_mem _) hlast
    rw [arc_at hp h1 h2 hc (by omega), dif_neg (by omega)] at h'
    rw [arc_zero]; exact h'
  intro y hy
  obtain ⟨i, hi, rfl⟩ := List.mem_iff_getElem.1 hy
  have := up 0 i (by omega) h0
  simpa using this

theorem arc_uniq (hp : IsPerm xs) {s : Int} (h1 : 1 ≤ t) (h2 : t ≤ xs.length) (hc : Closing xs t) (s1 : 1 ≤ s) (s2 : s ≤ xs.length) (sc : Closing xs s) {x : Int} (hx : x ∈ arc xs t) (hy : x ∈ arc xs s) : s = t := by
  have a := arc_absorb hp h1 h2 hc (· ∈ arc xs s) (fun z _ hz => arc_closed hp s1 s2 sc hz) hx hy t (mem_arc_self xs t)
  have b := arc_absorb hp s1 s2 sc (· ∈ arc xs t) (fun z _ hz => arc_closed hp h1 h2 hc hz) hy hx s (mem_arc_self xs s)
  have := arc_le hp s1 s2 a
  have := arc_le hp h1 h2 b
  omega

theorem arc_cover (hp : IsPerm xs) : ∀ (d : Nat) (x : Int), 1 ≤ x → x ≤ xs.length → (xs.length : Int) - x ≤ d → ∃ t : Int, 1 ≤ t ∧ t ≤ xs.length ∧ Closing xs t ∧ x ∈ arc xs t := by
  intro d
  induction d using Nat.strongRecOn with
  | _ d ih =>
    intro x h1 h2 hd
    apply Classical.byContradiction
    intro hno
    obtain ⟨n, hpath, hge⟩ := arc_spec hp h1 h2
    -- what is not in a closed way goes on to what is not in one
    have hcl : ∀ z : Int, 1 ≤ z → z ≤ xs.length → (¬ ∃ t : Int, 1 ≤ t ∧ t ≤ xs.length ∧ Closing xs t ∧ z ∈ arc xs t) → ¬ ∃ t : Int, 1 ≤ t ∧ t ≤ xs.length ∧ Closing xs t ∧ at1 xs z ∈ arc xs t := by
      rintro z z1 z2 hz ⟨t, t1, t2, tc, hm⟩
      obtain ⟨y, hy, e⟩ := arc_pred hp t1 t2 tc hm
      have hr := arc_range hp t1 t2 hy
      have := hp.at1_inj hr.1 hr.2 z1 z2 e
      subst this
      exact hz ⟨t, t1, t2, tc, hy⟩
    have hall : ∀ (j : Nat) (hj : j < (arc xs x).length), ¬ ∃ t : Int, 1 ≤ t ∧ t ≤ xs.length ∧ Closing xs t ∧ (arc xs x)[j] ∈ arc xs t := by
      intro j
      induction j with
      | zero => intro hj; rw [arc_zero]; exact hno
      | succ j ihj =>
        intro hj
        rw [hpath.step j hj]
        have hr := hpath.range _ (List.getElem_mem (show j < (arc xs x).length by omega))
        exact hcl _ hr.1 hr.2 (ihj (by omega))
    have hap := arc_pos xs x
    have hl : (arc xs x).getLastD 0 = (arc xs x)[(arc xs x).length - 1] := getLastD_get (arc_pos xs x)
    have hr := hpath.range _ (List.getElem_mem (show (arc xs x).length - 1 < (arc xs x).length from by omega))
    have hn := hcl _ hr.1 hr.2 (hall _ (by have := arc_pos xs x; omega))
    rw [← hl, ← hpath.last] at hn
    have hnr := hpath.n_range hp
    by_cases e : n = x
    · refine hno ⟨x, h1, h2, ?_, mem_arc_self xs x⟩
      unfold Closing
      rw [← hpath.last]; exact e
    · exact hn (ih ((xs.length : Int) - n).toNat (by omega) n hnr.1 hnr.2 (by omega))

end

/-! What is told so far. -/

theorem roundsTo_succ (xs : List Int) (t : Nat) : roundsTo xs (t + 1) = roundsTo xs t ++ (if Closing xs ((t : Int) + 1) then arc xs ((t : Int) + 1) else []) := by
  rw [roundsTo]; rfl

theorem mem_roundsTo {xs : List Int} : ∀ (t : Nat) (x : Int), x ∈ roundsTo xs t ↔ ∃ s : Int, 1 ≤ s ∧ s ≤ t ∧ Closing xs s ∧ x ∈ arc xs s
  | 0, x => by
    simp only [roundsTo, List.not_mem_nil, false_iff]
    rintro ⟨s, h1, h2, _⟩; omega
  | t + 1, x => by
    rw [roundsTo_succ, List.mem_append, mem_roundsTo t x]
    constructor
    · rintro (⟨s, h1, h2, h3⟩ | h)
      · exact ⟨s, h1, by omega, h3⟩
      · split at h
        · rename_i hc; exact ⟨(t : Int) + 1, by omega, by omega, hc, h⟩
        · cases h
    · rintro ⟨s, h1, h2, h3, h4⟩
      by_cases e : s = (t : Int) + 1
      · right; subst e; rw [if_pos h3]; exact h4
      · left; exact ⟨s, h1, by omega, h3, h4⟩

theorem nodup_roundsTo {xs : List Int} (hp : IsPerm xs) : ∀ (t : Nat), t ≤ xs.length → (roundsTo xs t).Nodup
  | 0, _ => by simp [roundsTo]
  | t + 1, h => by
    rw [roundsTo_succ, List.nodup_append]
    refine ⟨nodup_roundsTo hp t (by omega), ?_, ?_⟩
    · split
      · obtain ⟨n, hpath, _⟩ := arc_spec (top := (t : Int) + 1) hp (by omega) (by omega)
        exact hpath.nodup hp
      · simp
    · intro a ha b hb e
      subst e
      split at hb
      · rename_i hc
        obtain ⟨s, s1, s2, s3, s4⟩ := (mem_roundsTo t a).1 ha
        have := arc_uniq hp (t := (t : Int) + 1) (by omega) (by omega) hc s1 (by omega) s3 hb s4
        omega
      · cases hb

theorem IsPerm.length_of {q : List Int} {n : Nat} (h : q.Nodup) (hr : ∀ x ∈ q, 1 ≤ x ∧ x ≤ (n : Int)) (hall : ∀ x : Int, 1 ≤ x → x ≤ n → x ∈ q) : q.length = n := by
  have h1 := nodup_bound h hr
  have h2 := (nodup_upTo n).length_le_of_subset (l₂ := q) (fun x hx => by have := mem_upTo.1 hx; exact hall x this.1 this.2)
  rw [length_upTo] at h2
  omega

theorem roundsOf_perm {xs : List Int} (hp : IsPerm xs) : IsPerm (roundsOf xs) ∧ (roundsOf xs).length = xs.length := by
  have hnd := nodup_roundsTo hp xs.length (Nat.le_refl _)
  have hr : ∀ x ∈ roundsOf xs, 1 ≤ x ∧ x ≤ (xs.length : Int) := by
    intro x hx
    obtain ⟨s, s1, s2, s3, s4⟩ := (mem_roundsTo _ x).1 hx
    exact arc_range hp s1 s2 s4
  have hl : (roundsOf xs).length = xs.length := IsPerm.length_of hnd hr (fun x h1 h2 => by
    obtain ⟨t, t1, t2, t3, t4⟩ := arc_cover hp ((xs.length : Int) - x).toNat x h1 h2 (by omega)
    exact (mem_roundsTo _ x).2 ⟨t, t1, t2, t3, t4⟩)
  exact ⟨⟨hnd, by rw [hl]; exact hr⟩, hl⟩

/-- Each number goes where the list says. -/
theorem roundsTo_nxt {xs : List Int} (hp : IsPerm xs) (hn : xs.length ≤ 40) : ∀ (t : Nat), t ≤ xs.length → ∀ k, k < (roundsTo xs t).length → at1 xs ((roundsTo xs t).getD k 0) = nxt (roundsTo xs t) k
  | 0, _, k, hk => by simp [roundsTo] at hk
  | t + 1, h, k, hk => by
    have ih := roundsTo_nxt hp hn t (by omega)
    have hle : ∀ x ∈ roundsTo xs t, 1 ≤ x ∧ x ≤ (t : Int) := by
      intro x hx
      obtain ⟨s, s1, s2, s3, s4⟩ := (mem_roundsTo _ x).1 hx
      have h1 := arc_le hp s1 (by omega) s4
      have h2 := arc_range hp s1 (by omega) s4
      omega
    rw [roundsTo_succ] at hk ⊢
    split at hk
    · rename_i hc
      rw [if_pos hc]
      generalize hq : roundsTo xs t = q at *
      have ht1 : (1 : Int) ≤ (t : Int) + 1 := by omega
      have ht2 : (t : Int) + 1 ≤ xs.length := by omega
      obtain ⟨n, hpath, _⟩ := arc_spec hp ht1 ht2
      have hap := arc_pos xs ((t : Int) + 1)
      have haz := arc_zero xs ((t : Int) + 1)
      rw [List.length_append] at hk
      by_cases hkq : k < q.length
      · have e1 : (q ++ arc xs ((t : Int) + 1)).getD k 0 = q.getD k 0 := by
          rw [getD_get (by simp; omega), getD_get hkq, List.getElem_append_left hkq]
        have e2 : topTo (q ++ arc xs ((t : Int) + 1)) k = topTo q k := by
          unfold topTo; rw [List.take_append_of_le_length (by omega)]
        have htop : topTo q k ≤ t := by
          unfold topTo
          rcases foldl_max_mem (q.take (k + 1)) 0 with h | h
          · omega
          · exact (hle _ (List.mem_of_mem_take h)).2
        rw [e1, ih k hkq]
        unfold nxt
        rw [e2]
        by_cases hk1 : k + 1 < q.length
        · have e3 : (q ++ arc xs ((t : Int) + 1)).getD (k + 1) 100 = q.getD (k + 1) 100 := by
            rw [getD_get (by simp; omega), getD_get hk1, List.getElem_append_left hk1]
          rw [e3]
        · have e3 : (q ++ arc xs ((t : Int) + 1)).getD (k + 1) 100 = (t : Int) + 1 := by
            rw [getD_get (by simp; omega), List.getElem_append_right (by omega)]
            have : k + 1 - q.length = 0 := by omega
            simp only [this]; exact haz
          rw [e3, getD_far (show q.length ≤ k + 1 by omega), if_neg (by omega), if_neg (by omega)]
      · obtain ⟨j, rfl⟩ : ∃ j, k = q.length + j := ⟨k - q.length, by omega⟩
        have hj : j < (arc xs ((t : Int) + 1)).length := by omega
        have e0 : ∀ i, i < (arc xs ((t : Int) + 1)).length → ∀ d, (q ++ arc xs ((t : Int) + 1)).getD (q.length + i) d = (arc xs ((t : Int) + 1)).getD i d := by
          intro i hi d
          rw [getD_get (by simp; omega), getD_get hi, List.getElem_append_right (by omega)]
          congr 1; omega
        have etop : topTo (q ++ arc xs ((t : Int) + 1)) (q.length + j) = (t : Int) + 1 := by
          have e00 : (q ++ arc xs ((t : Int) + 1)).getD q.length 0 = (t : Int) + 1 := by
            have := e0 0 hap 0
            rw [Nat.add_zero, getD_get hap, haz] at this; exact this
          rw [topTo_eq (i := q.length) (by simp; omega) (by omega) (by rw [e00]; omega) (fun i hi => ?_), e00]
          rw [e00]
          by_cases hiq : i < q.length
          · rw [getD_get (by simp; omega), List.getElem_append_left hiq]
            have := hle _ (List.getElem_mem hiq); omega
          · obtain ⟨i, rfl⟩ : ∃ m, i = q.length + m := ⟨i - q.length, by omega⟩
            rw [e0 i (by omega), getD_get (by omega)]
            exact arc_le hp ht1 ht2 (List.getElem_mem _)
        rw [e0 j hj, getD_get hj, arc_at hp ht1 ht2 hc hj]
        unfold nxt
        rw [etop]
        by_cases hj1 : j + 1 < (arc xs ((t : Int) + 1)).length
        · have := hpath.low j hj1
          rw [dif_pos hj1, show q.length + j + 1 = q.length + (j + 1) by omega, e0 _ hj1, getD_get hj1, if_pos this]
        · rw [dif_neg hj1, getD_far (by simp; omega), if_neg (by omega)]
    · rename_i hc
      rw [if_neg hc, List.append_nil]
      rw [List.append_nil] at hk
      exact ih k hk

/-- A list is known by where the numbers of a permutation go. -/
theorem det_of {xs ys q : List Int} (hq : IsPerm q) (hx : xs.length = q.length) (hy : ys.length = q.length) (h : ∀ k, k < q.length → at1 xs (q.getD k 0) = at1 ys (q.getD k 0)) : xs = ys := by
  have hmem : ∀ x : Int, 1 ≤ x → x ≤ q.length → x ∈ q := by
    intro x h1 h2
    apply Classical.byContradiction
    intro hno
    have hnd : (x :: q).Nodup := List.nodup_cons.2 ⟨hno, hq.1⟩
    have := nodup_bound (n := q.length) hnd (fun y hy => by
      rcases List.mem_cons.1 hy with rfl | hy
      · exact ⟨h1, h2⟩
      · exact hq.2 y hy)
    simp at this
    omega
  apply List.ext_getElem (by omega)
  intro i hi hi'
  obtain ⟨k, hk, e⟩ := List.mem_iff_getElem.1 (hmem ((i : Int) + 1) (by omega) (by omega))
  have := h k hk
  rw [getD_get hk, e, at1_get hi, at1_get hi'] at this
  exact this

theorem roundsOf_inj {xs ys : List Int} (hx : IsPerm xs) (hy : IsPerm ys) (hn : xs.length ≤ 40) (hl : xs.length = ys.length) (e : roundsOf xs = roundsOf ys) : xs = ys := by
  have px := roundsOf_perm hx
  have py := roundsOf_perm hy
  refine det_of px.1 px.2.symm (by omega) (fun k hk => ?_)
  have h1 := roundsTo_nxt hx hn xs.length (Nat.le_refl _) k hk
  have h2 := roundsTo_nxt hy (by omega) ys.length (Nat.le_refl _) k (by rw [← roundsOf, ← e]; exact hk)
  rw [← roundsOf] at h1 h2
  rw [h1, e, h2]

theorem roundsOf_onto {q : List Int} (hq : IsPerm q) (hn : q.length ≤ 40) : ∃ xs, IsPerm xs ∧ xs.length = q.length ∧ roundsOf xs = q := by
  obtain ⟨w, h1, h2, h3, h4⟩ := words_onto (upTo q.length) (nodup_upTo _) q.length IsPerm roundsOf
    (fun w h1 h2 h3 => by
      have := roundsOf_perm h3
      refine ⟨by omega, fun x hx => mem_upTo.2 ?_, this.1⟩
      have := this.1.2 x hx; omega)
    (fun u w a b c a' b' c' e => roundsOf_inj c c' (by omega) (by omega) e)
    q rfl (fun x hx => mem_upTo.2 (hq.2 x hx)) hq
  exact ⟨w, h3, h1, h4⟩

/-- There: what is made of the list of cycles is the permutation. -/
theorem unrounds_of {p a : List Int} (hp : IsPerm p) (hn : p.length ≤ 40) (hl : a.length = (roundsOf p).length) (h : ∀ k, k < (roundsOf p).length → at1 a ((roundsOf p).getD k 0) = nxt (roundsOf p) k) : a = p := by
  have px := roundsOf_perm hp
  refine det_of px.1 hl px.2.symm (fun k hk => ?_)
  rw [h k hk]
  exact (roundsTo_nxt hp hn p.length (Nat.le_refl _) k hk).symm

/-- And back. -/
theorem rounds_of {p r : List Int} (hp : IsPerm p) (hn : p.length ≤ 40) (hl : r.length = p.length) (h : ∀ k, k < p.length → at1 r (p.getD k 0) = nxt p k) : IsPerm r ∧ roundsOf r = p := by
  obtain ⟨xs, h1, h2, h3⟩ := roundsOf_onto hp hn
  have e : r = xs := by
    refine unrounds_of h1 (by omega) (by rw [h3]; exact hl) (fun k hk => ?_)
    rw [h3] at hk ⊢
    exact h k hk
  subst e
  exact ⟨h1, h3⟩

end Go.Proofs.YtmlmdklheiafpaaDoor
