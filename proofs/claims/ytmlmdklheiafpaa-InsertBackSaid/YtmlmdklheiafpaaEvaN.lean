/-
  Plain: the hole's way through rows without holes, as evacuation and promotion go it.
-/
import Derived.Test.YtmlmdklheiafpaaEvaM
namespace Go.Proofs.Ytmlmdklheiafpaa

theorem put_put (s : List (List Int)) (i j : Nat) (x y : Int) : put (put s i j x) i j y = put s i j y := by
  have h := put_row s i j x i
  rw [if_pos rfl] at h
  unfold put at h ⊢
  rw [h, List.set_set, List.set_set]
/-- What stands in the hole makes no difference. -/
theorem Slid.fill {s : List (List Int)} {I J : Nat} {out : List (List Int)} {i j : Nat} (z : Int) (hJ : J < rl s I) (h : Slid s I J out i j) : Slid (put s I J z) I J out i j := by
  have pc := fun k q => put_cell (x := z) hJ k q
  cases h with
  | down h1 h2 h3 =>
    refine .down (by rw [put_rl]; exact h1) (fun h4 => ?_) ?_
    · rw [put_rl] at h4; rw [pc, pc, if_neg (by omega), if_neg (by omega)]; exact h2 h4
    · rw [pc, if_neg (by omega), put_put]; exact h3
  | right h1 h2 h3 =>
    refine .right (by rw [put_rl]; exact h1) (fun h4 => ?_) ?_
    · rw [put_rl] at h4; rw [pc, pc, if_neg (by omega), if_neg (by omega)]; exact h2 h4
    · rw [pc, if_neg (by omega), put_put]; exact h3
  | stop h1 h2 =>
    have e : cut (put s I J z) I J = cut s I J := by
      unfold cut
      by_cases h0 : J = 0
      · rw [if_pos h0, if_pos h0]; unfold put; rw [List.take_set, List.set_eq_of_length_le (by rw [List.length_take]; omega)]
      · have e5 : ((s.getD I []).set J z).take J = (s.getD I []).take J := by rw [List.take_set, List.set_eq_of_length_le (by rw [List.length_take]; omega)]
        rw [if_neg h0, if_neg h0, put_row, if_pos rfl, e5]; unfold put; rw [List.set_set]
    have := Slid.stop (s := put s I J z) (I := I) (J := J) (by rw [put_rl]; exact h1) (by rw [put_rl]; exact h2)
    rwa [e] at this
theorem Slid.shape {s : List (List Int)} {I J : Nat} {out : List (List Int)} {i j : Nat} (h : Slid s I J out i j) : Cfg s I J → (∀ a, rl out a = if a = i then j else rl s a) ∧ rl s i = j + 1 ∧ rl s (i + 1) ≤ j ∧ i < s.length ∧ (j = 0 → s.length = i + 1 ∧ out.length = i) ∧ (j ≠ 0 → out.length = s.length) := by
  induction h with
  | @down s I J out i j hd hb _ ih =>
    intro hc
    have := ih (hc.goD hd hb)
    rw [put_rl, put_rl, put_length] at this
    refine ⟨fun a => by rw [this.1 a, put_rl], this.2⟩
  | @right s I J out i j hr hb _ ih =>
    intro hc
    have := ih (hc.goR hr (fun c hc1 hc2 => by rw [hc2]; exact hb hc1))
    rw [put_rl, put_rl, put_length] at this
    refine ⟨fun a => by rw [this.1 a, put_rl], this.2⟩
  | @stop s I J h1 h2 =>
    intro hc
    have hat := hc.at_
    have hI := hc.inI
    refine ⟨fun a => cut_rl hc h2 a, by omega, h2, hI, fun h0 => ?_, fun h0 => ?_⟩
    · subst h0
      have := hc.tail h2
      refine ⟨this, ?_⟩
      unfold cut; rw [if_pos rfl, List.length_take]; omega
    · unfold cut; rw [if_neg h0, List.length_set]

/-- Rows without a hole: the first box may be one. -/
theorem FillOk.cfg {s : List (List Int)} (h : FillOk s) (h0 : 0 < s.length) : Cfg s 0 0 := by
  obtain ⟨h1, h2⟩ := h.skOk
  have hk := h1.sk.1
  exact ⟨hk.ne 0 h0, hk.ne, hk.lens, fun i j k a b _ _ => hk.row i j k a b, fun i i' j a b _ _ => hk.col i i' j a b, fun i j a _ => hk.nn i j a, fun i' _ a => by have := h2 i' 0 a; omega, fun k _ a => by have := h2 0 k a; omega⟩
theorem rword_lets {s : List (List Int)} (h : ∀ r ∈ s, ∀ x ∈ r, 0 < x) : sword s = rword s := by
  unfold sword
  congr 1
  conv => rhs; rw [← List.map_id s]
  exact List.map_congr_left (fun r hr => lets_pos (h r hr))
/-- The least letter gone. -/
theorem open_word {s : List (List Int)} (h : FillOk s) (h0 : 0 < s.length) (hn : (rword s).Nodup) : (∀ x ∈ rword s, cell s 0 0 ≤ x) ∧ cell s 0 0 ∈ rword s ∧ hword s 0 0 = (rword s).filter (fun x => decide (cell s 0 0 < x)) := by
  obtain ⟨h1, h2⟩ := h.skOk
  have hk := h1.sk.1
  have hne := hk.ne 0 h0
  have hpos : ∀ r ∈ s, ∀ x ∈ r, 0 < x := fun r hr x hx => by have := (h.2.1 r hr x hx).1; omega
  have hw := rword_lets hpos
  have hmem : cell s 0 0 ∈ rword s := by rw [← hw]; exact mem_lets hne (by have := h2 0 0 hne; omega)
  have hle : ∀ x ∈ rword s, cell s 0 0 ≤ x := fun x hx => by
    rw [← hw] at hx
    obtain ⟨a, b, g1, rfl, _⟩ := mem_sword hx
    have g2 : 0 < rl s a := by omega
    have e1 : cell s a 0 ≤ cell s a b := by
      by_cases e : b = 0
      · rw [e]; exact Int.le_refl _
      · exact hk.row a 0 b (by omega) g1
    have e2 : cell s 0 0 ≤ cell s a 0 := by
      by_cases e : a = 0
      · rw [e]; exact Int.le_refl _
      · rcases hk.col 0 a 0 (by omega) g2 with g | g <;> omega
    omega
  refine ⟨hle, hmem, ?_⟩
  cases s with
  | nil => simp at h0
  | cons r t =>
    cases r with
    | nil => simp [rl] at hne
    | cons c r' =>
      have ec : cell ((c :: r') :: t) 0 0 = c := rfl
      rw [ec] at hle ⊢
      have hp : put ((c :: r') :: t) 0 0 0 = (0 :: r') :: t := rfl
      unfold hword
      rw [hp, sword_cons, rword_lets (fun r hr => hpos r (List.mem_cons_of_mem _ hr))]
      have e3 : lets (0 :: r') = r' := by rw [lets_cons, if_neg (by decide)]; exact lets_pos (fun x hx => hpos _ (List.mem_cons_self ..) x (List.mem_cons_of_mem _ hx))
      rw [e3]
      show rword t ++ r' = (rword t ++ c :: r').filter _
      have hn2 : (c :: (rword t ++ r')).Nodup := (List.perm_middle.nodup_iff).1 hn
      rw [List.nodup_cons] at hn2
      rw [List.filter_append, List.filter_cons, if_neg (by simp)]
      have e4 : ∀ x, x ∈ rword t ++ r' → decide (c < x) = true := fun x hx => decide_eq_true (by
        have g1 := hle x (by
          show x ∈ rword t ++ c :: r'
          rcases List.mem_append.1 hx with g | g
          · exact List.mem_append_left _ g
          · exact List.mem_append_right _ (List.mem_cons_of_mem _ g))
        have g2 : x ≠ c := fun e => hn2.1 (by rw [← e]; exact hx)
        omega)
      rw [List.filter_eq_self.2 (fun x hx => e4 x (List.mem_append_left _ hx)), List.filter_eq_self.2 (fun x hx => e4 x (List.mem_append_right _ hx))]

/-- On the way of evacuation: N letters are left. -/
structure Evag (T s : List (List Int)) (N : Nat) : Prop where
  ok : FillOk s
  kn : Kn ((rword T).filter (fun x => decide ((boxes T : Int) - (N : Int) < x))) (rword s)
  bx : boxes s = N
  le : N ≤ boxes T
theorem Evag.start {T : List (List Int)} (h : Std T) : Evag T T (boxes T) := ⟨h.1, by
  rw [List.filter_eq_self.2 (fun x hx => by have := h.bnd x hx; simp; omega)]; exact .refl _, rfl, Nat.le_refl _⟩
theorem Evag.rls {T s : List (List Int)} {N : Nat} (h : Evag T s N) (a : Nat) : rl s a = chn (boxes T) (rword T) N a := by
  unfold chn
  rw [shp_kn h.kn, shp_rl h.ok.1]
theorem fill_len {s : List (List Int)} (h : 0 < boxes s) : 0 < s.length := by
  cases s with
  | nil => simp [boxes] at h
  | cons => simp
theorem Evag.cfg {T s : List (List Int)} {N : Nat} (h : Evag T s (N + 1)) : Cfg s 0 0 := h.ok.cfg (fill_len (by rw [h.bx]; omega))
theorem Evag.step {T s out : List (List Int)} {N i j : Nat} (h : Evag T s (N + 1)) (hT : Std T) (hs : Slid s 0 0 out i j) : Evag T out N := by
  have hc := h.cfg
  have hp := hT.perm
  have h0 : 0 < s.length := hc.inI
  have hle := h.le
  have hnd : (rword s).Nodup := h.kn.perm.nodup_iff.1 (hp.1.1.filter _)
  obtain ⟨o1, o2, o3⟩ := open_word h.ok h0 hnd
  have hcell : cell s 0 0 = (boxes T : Int) - N := by
    have h1 : (boxes T : Int) - N ∈ rword s := (h.kn.mem _).1 (List.mem_filter.2 ⟨hp.1.mem (by omega) (by rw [hp.2]; omega), decide_eq_true (by omega)⟩)
    have h2 := o1 _ h1
    have h3 := of_decide_eq_true (List.mem_filter.1 ((h.kn.mem _).2 o2)).2
    omega
  obtain ⟨p1, p2, p3, p4⟩ := hs.props hc
  have hz : ∀ a b, ¬ Zero out a b := fun a b hh => by
    have h1 := ((p3 a b).1 hh).1
    have h2 := h.ok.skOk.2 a b h1.1
    have := h1.2
    omega
  have hk := h.kn.keepGt ((boxes T : Int) - N)
  rw [List.filter_filter, ← hcell, ← o3, hcell] at hk
  have hf : (rword T).filter (fun x => decide ((boxes T : Int) - N < x) && decide ((boxes T : Int) - ((N + 1 : Nat) : Int) < x)) = (rword T).filter (fun x => decide ((boxes T : Int) - N < x)) := List.filter_congr (fun x _ => by
    rw [← Bool.decide_and]
    exact decide_eq_decide.2 ⟨fun h => h.1, fun h => ⟨h, by omega⟩⟩)
  rw [hf] at hk
  have h99 : ∀ a b, b < rl out a → cell out a b ≤ 99 := fun a b hb => by
    by_cases e : cell out a b ≤ 0
    · omega
    · have hm := (hk.trans p1).mem (cell out a b)
      have h1 := hm.2 (mem_lets hb (by omega))
      have h2 := hT.bnd _ (List.mem_filter.1 h1).1
      have := hT.1.2.2
      omega
  have hok := p2.ok (by have := h.bx; have := hT.1.2.2; omega) h99
  obtain ⟨f1, f2⟩ := hok.full hz
  refine ⟨f1, ?_, by have := h.bx; omega, by omega⟩
  rw [← f2]; exact hk.trans p1
/-- What has been written so far. -/
structure Evaw (T E : List (List Int)) (N : Nat) : Prop where
  len : E.length = T.length
  rls : ∀ a, rl E a = rl T a
  val : ∀ a b, b < rl T a → chn (boxes T) (rword T) N a ≤ b → ∀ m : Nat, m ≤ boxes T → (cell E a b ≤ (m : Int) ↔ b < chn (boxes T) (rword T) m a)
theorem chn_all {T : List (List Int)} (h : Std T) (a : Nat) : chn (boxes T) (rword T) (boxes T) a = rl T a := by
  rw [← (Evag.start h).rls]
theorem chn_le {T : List (List Int)} (h : Std T) {N : Nat} (hN : N ≤ boxes T) (a : Nat) : chn (boxes T) (rword T) N a ≤ rl T a := by
  rw [← chn_all h]; exact chn_mono _ _ hN a
theorem Evaw.start {T : List (List Int)} (h : Std T) : Evaw T T (boxes T) := ⟨rfl, fun _ => rfl, fun a b h1 h2 => by rw [chn_all h] at h2; omega⟩
theorem Evaw.step {T E s out : List (List Int)} {N i j : Nat} (h : Evaw T E (N + 1)) (hT : Std T) (hg : Evag T s (N + 1)) (hs : Slid s 0 0 out i j) : (i < E.length ∧ j < rl E i) ∧ Evaw T (put E i j ((N + 1 : Nat) : Int)) N := by
  have hg2 := hg.step hT hs
  obtain ⟨s1, s2, s3, s4, s5, s6⟩ := hs.shape hg.cfg
  have hle := hg.le
  have c1 : chn (boxes T) (rword T) (N + 1) i = j + 1 := by rw [← hg.rls]; exact s2
  have c2 : ∀ a, chn (boxes T) (rword T) N a = if a = i then j else chn (boxes T) (rword T) (N + 1) a := fun a => by
    rw [← hg2.rls, s1, ← hg.rls]
  have hj : j < rl E i := by rw [h.rls]; have := chn_le hT hle i; omega
  refine ⟨⟨rl_in hj, hj⟩, ⟨by rw [put_length]; exact h.len, fun a => by rw [put_rl]; exact h.rls a, fun a b hb hc m hm => ?_⟩⟩
  rw [put_cell hj]
  by_cases e : a = i ∧ b = j
  · rw [if_pos e]
    obtain ⟨rfl, rfl⟩ := e
    by_cases em : N + 1 ≤ m
    · have := chn_mono (boxes T) (rword T) em a
      exact ⟨fun _ => by omega, fun _ => by omega⟩
    · have h1 := chn_mono (boxes T) (rword T) (show m ≤ N by omega) a
      rw [c2, if_pos rfl] at h1
      exact ⟨fun _ => by omega, fun _ => by omega⟩
  · rw [if_neg e]
    refine h.val a b hb ?_ m hm
    rw [c2] at hc
    by_cases ea : a = i
    · rw [if_pos ea] at hc
      rw [ea, c1]
      have : b ≠ j := fun eb => e ⟨ea, eb⟩
      omega
    · rwa [if_neg ea] at hc
theorem Evaw.done {T E : List (List Int)} (h : Evaw T E 0) (hT : Std T) : E = eva T :=
  eva_of hT h.len h.rls (fun a b hb m hm => h.val a b hb (by
    have h3 : chn (boxes T) (rword T) 0 a = 0 := by
      unfold chn
      rw [List.filter_eq_nil_iff.2 (fun x hx => by have := hT.bnd x hx; simp; omega)]; rfl
    omega) m hm)
end Go.Proofs.Ytmlmdklheiafpaa
