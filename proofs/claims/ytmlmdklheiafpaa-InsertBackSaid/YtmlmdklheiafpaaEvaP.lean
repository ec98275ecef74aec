/-
  Plain: what promotion makes.
-/
import Derived.Test.YtmlmdklheiafpaaEvaN
namespace Go.Proofs.Ytmlmdklheiafpaa

def pad (s : List (List Int)) (i : Nat) : List (List Int) := if i = s.length then s ++ [[]] else s
def dn (s : List (List Int)) : List (List Int) := s.map (dec 1)
/-- One less everywhere, n at the end of row i. -/
def proU (s : List (List Int)) (i : Nat) (n : Int) : List (List Int) := (dn (pad s i)).set i ((dn (pad s i)).getD i [] ++ [n])
theorem pad_getD (s : List (List Int)) (i a : Nat) : (pad s i).getD a [] = s.getD a [] := by
  unfold pad
  by_cases e : i = s.length
  · rw [if_pos e]
    by_cases h : a < s.length
    · rw [List.getD_eq_getElem?_getD, List.getElem?_append_left h, ← List.getD_eq_getElem?_getD]
    · rw [getD_far (xs := s) (by omega), List.getD_eq_getElem?_getD, List.getElem?_append_right (by omega)]
      by_cases h2 : a - s.length = 0
      · rw [h2]; rfl
      · rw [List.getElem?_eq_none (by simp; omega)]; rfl
  · rw [if_neg e]
theorem dec_nil (d : Int) : dec d [] = [] := rfl
theorem dn_getD (s : List (List Int)) (a : Nat) : (dn s).getD a [] = dec 1 (s.getD a []) := by
  unfold dn
  by_cases h : a < s.length
  · rw [getD_get (by simpa using h), getD_get h, List.getElem_map]
  · rw [getD_far (by simp; omega), getD_far (by omega)]; rfl
theorem dec_len (d : Int) (w : List Int) : (dec d w).length = w.length := by simp [dec]
theorem rword_dn : ∀ s : List (List Int), rword (dn s) = dec 1 (rword s)
  | [] => rfl
  | r :: t => by
    show rword (dn t) ++ dec 1 r = dec 1 (rword t ++ r)
    rw [rword_dn t]; simp [dec]
theorem rword_pad (s : List (List Int)) (i : Nat) : rword (pad s i) = rword s := by
  unfold pad
  by_cases e : i = s.length
  · rw [if_pos e, rword_append]; rfl
  · rw [if_neg e]
theorem set_flat : ∀ {P : List (List Int)} {i : Nat} (n : Int), i < P.length → (P.set i (P.getD i [] ++ [n])).flatten.Perm (n :: P.flatten)
  | [], i, _, h => by simp at h
  | r :: t, 0, n, _ => by
    show ((r ++ [n]) ++ t.flatten).Perm (n :: (r ++ t.flatten))
    rw [List.append_assoc]
    exact List.perm_middle
  | r :: t, i + 1, n, h => by
    show (r ++ (t.set i (t.getD i [] ++ [n])).flatten).Perm (n :: (r ++ t.flatten))
    exact (List.Perm.append_left r (set_flat n (by simpa using h))).trans List.perm_middle
theorem set_word : ∀ {P : List (List Int)} {i : Nat} {n : Int}, i < P.length → (∀ x ∈ rword P, x ≤ n - 1) → (rword (P.set i (P.getD i [] ++ [n]))).filter (fun x => decide (x ≤ n - 1)) = rword P
  | [], i, _, h, _ => by simp at h
  | r :: t, 0, n, _, hx => by
    show (rword t ++ (r ++ [n])).filter _ = rword t ++ r
    have e : ∀ x ∈ rword t ++ r, decide (x ≤ n - 1) = true := fun x hm => decide_eq_true (hx x hm)
    rw [← List.append_assoc, List.filter_append, List.filter_eq_self.2 e, List.filter_cons, if_neg (by simp; omega)]; simp
  | r :: t, i + 1, n, h, hx => by
    show (rword (t.set i (t.getD i [] ++ [n])) ++ r).filter _ = rword t ++ r
    rw [List.filter_append, set_word (by simpa using h) (fun x hm => hx x (List.mem_append_left _ hm)), List.filter_eq_self.2 (fun x hm => decide_eq_true (hx x (List.mem_append_right _ hm)))]
theorem word_of {s : List (List Int)} {a b : Nat} (h : b < rl s a) : cell s a b ∈ rword s := by
  rw [rword_mem]
  exact ⟨s.getD a [], by rw [getD_get (rl_in h)]; exact List.getElem_mem _, cell_mem h⟩

/-- What goes on when the least one has gone. -/
structure Gone (T out : List (List Int)) (i j : Nat) : Prop where
  kn : Kn ((rword T).filter (fun x => decide (1 < x))) (rword out)
  sk : Sk out
  ok : FillOk out
  rls : ∀ a, rl out a = if a = i then j else rl T a
  here : rl T i = j + 1
  low : rl T (i + 1) ≤ j
  inn : i < T.length
  zer : j = 0 → T.length = i + 1 ∧ out.length = i
  pos : j ≠ 0 → out.length = T.length
  bx : boxes out + 1 = boxes T
theorem Gone.of {T out : List (List Int)} {i j : Nat} (h : Std T) (h0 : 0 < T.length) (hs : Slid T 0 0 out i j) : Gone T out i j := by
  have hc := h.1.cfg h0
  have hb : 0 < boxes T := by
    have := hc.at_
    have h2 := cell_mem this
    have h3 := mem_row h2
    rw [← flatten_len]
    exact List.length_pos_of_mem h3
  obtain ⟨N, hN⟩ : ∃ N, boxes T = N + 1 := ⟨boxes T - 1, by omega⟩
  have hst := Evag.start h
  rw [hN] at hst
  have hg := hst.step h hs
  obtain ⟨s1, s2, s3, s4, s5, s6⟩ := hs.shape hc
  obtain ⟨p1, p2, p3, p4⟩ := hs.props hc
  refine ⟨?_, p2, hg.ok, s1, s2, s3, s4, s5, s6, p4⟩
  have := hg.kn
  rw [hN, show ((N + 1 : Nat) : Int) - (N : Int) = 1 by omega] at this
  exact this
theorem Gone.padlen {T out : List (List Int)} {i j : Nat} (h : Gone T out i j) : (pad out i).length = T.length := by
  unfold pad
  by_cases e : j = 0
  · obtain ⟨h1, h2⟩ := h.zer e
    rw [if_pos h2.symm, List.length_append]; simp; omega
  · have h1 := h.pos e
    have := h.inn
    rw [if_neg (by omega)]; exact h1
theorem Gone.pro {T out : List (List Int)} {i j : Nat} (h : Gone T out i j) (hT : Std T) : Pro T (proU out i (boxes T)) := by
  have hpl := h.padlen
  have hin := h.inn
  have hP : i < (dn (pad out i)).length := by unfold dn; rw [List.length_map, hpl]; exact hin
  have hlet : ∀ x ∈ rword out, 2 ≤ x ∧ x ≤ (boxes T : Int) := fun x hx => by
    obtain ⟨g1, g2⟩ := List.mem_filter.1 ((h.kn.mem x).2 hx)
    have := hT.bnd x g1
    have := of_decide_eq_true g2
    omega
  have hrow : ∀ a, (proU out i (boxes T)).getD a [] = if a = i then dec 1 (out.getD i []) ++ [(boxes T : Int)] else dec 1 (out.getD a []) := fun a => by
    unfold proU
    by_cases e : a = i
    · rw [if_pos e, e, List.getD_eq_getElem?_getD, List.getElem?_set_self hP, dn_getD, pad_getD]; rfl
    · rw [if_neg e, List.getD_eq_getElem?_getD, List.getElem?_set_ne (Ne.symm e), ← List.getD_eq_getElem?_getD, dn_getD, pad_getD]
  have hrl : ∀ a, rl (proU out i (boxes T)) a = rl T a := fun a => by
    have h1 := h.rls a
    unfold rl at h1 ⊢
    rw [hrow]
    by_cases e : a = i
    · rw [if_pos e] at h1 ⊢
      rw [List.length_append, dec_len, ← e, h1, e]
      have := h.here; unfold rl at this; rw [this]; rfl
    · rw [if_neg e] at h1 ⊢
      rw [dec_len, h1]
  have hrj : (out.getD i []).length = j := by have := h.rls i; rw [if_pos rfl] at this; exact this
  have hcell : ∀ a b, b < rl T a → cell (proU out i (boxes T)) a b = if a = i ∧ b = j then (boxes T : Int) else cell out a b - 1 := fun a b hb => by
    have h1 := h.rls a
    unfold cell
    rw [hrow]
    have hd : ∀ (r : List Int), b < r.length → (dec 1 r).getD b 0 = r.getD b 0 - 1 := fun r hr => by
      unfold dec
      rw [getD_get (by simpa using hr), getD_get hr, List.getElem_map]
    by_cases e : a = i
    · rw [if_pos e]
      have hh := h.here
      rw [e, hh] at hb
      by_cases e2 : b = j
      · rw [if_pos ⟨e, e2⟩, List.getD_eq_getElem?_getD, List.getElem?_append_right (by rw [dec_len]; omega), dec_len, hrj, e2, Nat.sub_self]; rfl
      · rw [if_neg (fun hh => e2 hh.2), List.getD_eq_getElem?_getD, List.getElem?_append_left (by rw [dec_len]; omega), ← List.getD_eq_getElem?_getD, hd _ (by omega), e]
    · rw [if_neg e, if_neg (fun hh => e hh.1)]
      rw [if_neg e] at h1
      exact hd _ (by unfold rl at h1 hb; omega)
  have hin2 : ∀ a b, b < rl T a → ¬ (a = i ∧ b = j) → b < rl out a := fun a b hb hn => by
    rw [h.rls]
    by_cases e : a = i
    · rw [if_pos e]
      have := h.here
      rw [e, this] at hb
      have : b ≠ j := fun e2 => hn ⟨e, e2⟩
      omega
    · rw [if_neg e]; exact hb
  have hcl : ∀ a b, b < rl T a → ¬ (a = i ∧ b = j) → 2 ≤ cell out a b ∧ cell out a b ≤ (boxes T : Int) := fun a b hb hn => hlet _ (word_of (hin2 a b hb hn))
  have hTk := hT.1.skOk.1.sk.1
  have hlen : (proU out i (boxes T)).length = T.length := by unfold proU dn; rw [List.length_set, List.length_map, hpl]
  have hbp : 1 ≤ boxes T := by have := h.bx; omega
  have hsk : Sk (proU out i (boxes T)) := by
    refine ⟨fun a ha => by rw [hrl]; exact hTk.ne a (by rwa [hlen] at ha), fun a a' haa => by rw [hrl, hrl]; exact hTk.lens a a' haa, fun a b k g1 g2 => ?_, fun a a' b g1 g2 => ?_, fun a b g1 => ?_⟩
    · rw [hrl] at g2
      rw [hcell a b (by omega), hcell a k g2]
      by_cases e : a = i ∧ b = j
      · have := h.here; rw [e.1, this] at g2; omega
      · rw [if_neg e]
        have h1 := hcl a b (by omega) e
        by_cases e2 : a = i ∧ k = j
        · rw [if_pos e2]; omega
        · rw [if_neg e2]
          have := h.sk.row a b k g1 (hin2 a k g2 e2)
          omega
    · rw [hrl] at g2
      have g3 : b < rl T a := by have := hTk.lens a a' (by omega); omega
      rw [hcell a b g3, hcell a' b g2]
      by_cases e : a = i ∧ b = j
      · have h1 := h.low
        have h2 := hTk.lens (i + 1) a' (by omega)
        omega
      · rw [if_neg e]
        have h1 := hcl a b g3 e
        by_cases e2 : a' = i ∧ b = j
        · rw [if_pos e2]; left; omega
        · rw [if_neg e2]
          have h2 := hcl a' b g2 e2
          rcases h.sk.col a a' b g1 (hin2 a' b g2 e2) with g | g
          · left; omega
          · omega
    · rw [hrl] at g1
      rw [hcell a b g1]
      by_cases e : a = i ∧ b = j
      · rw [if_pos e]; omega
      · rw [if_neg e]; have := hcl a b g1 e; omega
  have hperm : (proU out i (boxes T)).flatten.Perm ((boxes T : Int) :: dec 1 (rword out)) := by
    have h1 := set_flat (P := dn (pad out i)) (boxes T) hP
    refine h1.trans (List.Perm.cons _ ((rword_flat _).symm.trans ?_))
    rw [rword_dn, rword_pad]
  have hdl : (dec 1 (rword out)).length + 1 = boxes T := by rw [dec_len, ← boxes_word]; exact h.bx
  have hbx : boxes (proU out i (boxes T)) = boxes T := by
    rw [← flatten_len, hperm.length_eq, List.length_cons]; exact hdl
  have hpos : ∀ a b, ¬ Zero (proU out i (boxes T)) a b := fun a b hz => by
    have h1 := hz.1
    have h2 := hz.2
    rw [hrl] at h1
    rw [hcell a b h1] at h2
    by_cases e : a = i ∧ b = j
    · rw [if_pos e] at h2; omega
    · rw [if_neg e] at h2; have := hcl a b h1 e; omega
  have hok := (hsk.ok (by rw [hbx]; exact hT.1.2.2) (fun a b hb => by
    have := hT.1.2.2
    rw [hrl] at hb
    rw [hcell a b hb]
    by_cases e : a = i ∧ b = j
    · rw [if_pos e]; omega
    · rw [if_neg e]; have := hcl a b hb e; omega)).full hpos
  have hdx : ∀ x ∈ dec 1 (rword out), 1 ≤ x ∧ x ≤ (boxes T : Int) - 1 := fun x hx => by
    unfold dec at hx
    obtain ⟨y, hy, rfl⟩ := List.mem_map.1 hx
    have := hlet y hy
    omega
  have hstd : IsPerm (proU out i (boxes T)).flatten := by
    refine IsPerm.of_perm hperm ⟨?_, fun x hx => ?_⟩
    · rw [List.nodup_cons]
      refine ⟨fun hm => by have := hdx _ hm; omega, ?_⟩
      have h1 : (rword out).Nodup := h.kn.perm.nodup_iff.1 (hT.perm.1.1.filter _)
      unfold dec
      rw [List.nodup_iff_pairwise_ne, List.pairwise_map]
      exact (List.nodup_iff_pairwise_ne.1 h1).imp (fun hab => by omega)
    · rw [List.length_cons]
      rcases List.mem_cons.1 hx with rfl | hm
      · omega
      · have := hdx x hm; omega
  refine ⟨hT, ⟨hok.1, hstd⟩, hrl, hbx, ?_⟩
  have hw : (rword (proU out i (boxes T))).filter (fun x => decide (x ≤ (boxes T : Int) - 1)) = dec 1 (rword out) := by
    unfold proU
    rw [set_word hP (fun x hx => by rw [rword_dn, rword_pad] at hx; exact (hdx x hx).2), rword_dn, rword_pad]
  rw [hw]
  exact h.kn.dec 1
end Go.Proofs.Ytmlmdklheiafpaa
