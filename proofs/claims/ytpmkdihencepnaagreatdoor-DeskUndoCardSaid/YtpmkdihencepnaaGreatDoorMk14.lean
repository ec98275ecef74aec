/- Part of the proof. -/
import Derived.Test.YtpmkdihencepnaaGreatDoorMk13
namespace Go.Proofs.YtpmkdihencepnaaGreatDoor
section
def pad (s : List (List Int)) (i : Nat) : List (List Int) := if i = s.length then s ++ [[]] else s
def dn (s : List (List Int)) : List (List Int) := s.map (dec 1)
def proU (s : List (List Int)) (i : Nat) (n : Int) : List (List Int) := (dn (pad s i)).set i ((dn (pad s i)).getD i [] ++ [n])
theorem pad_getD (s : List (List Int)) (i a : Nat) : (pad s i).getD a [] = s.getD a [] := by
 unfold pad
 by_cases e : i = s.length
 · rw [if_pos e]
   by_cases h : a < s.length
   · rw [List.getD_eq_getElem?_getD, List.getElem?_append_left h, ← List.getD_eq_getElem?_getD]
   · rw [getD_far (xs := s) (by omega), List.getD_eq_getElem?_getD, List.getElem?_append_right (by omega)]
     by_cases h2 : a - s.length = 0
     · rw [h2]; rfl
     · rw [List.getElem?_eq_none (by simp; omega)]; rfl
 · rw [if_neg e]
theorem dn_getD (s : List (List Int)) (a : Nat) : (dn s).getD a [] = dec 1 (s.getD a []) := by
 unfold dn
 by_cases h : a < s.length
 · rw [getD_get (by simpa using h), getD_get h, List.getElem_map]
 · rw [getD_far (by simp; omega), getD_far (by omega)]; rfl
theorem dec_len (d : Int) (w : List Int) : (dec d w).length = w.length := by simp [dec]
theorem rword_dn : ∀ s : List (List Int), rword (dn s) = dec 1 (rword s)
 | [] => rfl
 | r :: t => by
  show rword (dn t) ++ dec 1 r = dec 1 (rword t ++ r)
  rw [rword_dn t]; simp [dec]
theorem rword_pad (s : List (List Int)) (i : Nat) : rword (pad s i) = rword s := by
 unfold pad
 by_cases e : i = s.length
 · rw [if_pos e, rword_append]; rfl
 · rw [if_neg e]
theorem set_flat : ∀ {P : List (List Int)} {i : Nat} (n : Int), i < P.length → (P.set i (P.getD i [] ++ [n])).flatten.Perm (n :: P.flatten)
 | [], i, _, h => by simp at h
 | r :: t, 0, n, _ => by
  show ((r ++ [n]) ++ t.flatten).Perm (n :: (r ++ t.flatten))
  rw [List.append_assoc]
  exact List.perm_middle
 | r :: t, i + 1, n, h => by
  show (r ++ (t.set i (t.getD i [] ++ [n])).flatten).Perm (n :: (r ++ t.flatten))
  exact (List.Perm.append_left r (set_flat n (by simpa using h))).trans List.perm_middle
theorem set_word : ∀ {P : List (List Int)} {i : Nat} {n : Int}, i < P.length → (∀ x ∈ rword P, x ≤ n - 1) → (rword (P.set i (P.getD i [] ++ [n]))).filter (fun x => decide (x ≤ n - 1)) = rword P
 | [], i, _, h, _ => by simp at h
 | r :: t, 0, n, _, hx => by
  show (rword t ++ (r ++ [n])).filter _ = rword t ++ r
  have e : ∀ x ∈ rword t ++ r, decide (x ≤ n - 1) = true := fun x hm => decide_eq_true (hx x hm)
  rw [← List.append_assoc, List.filter_append, List.filter_eq_self.2 e, List.filter_cons, if_neg (by simp; omega)]; simp
 | r :: t, i + 1, n, h, hx => by
  show (rword (t.set i (t.getD i [] ++ [n])) ++ r).filter _ = rword t ++ r
  rw [List.filter_append, set_word (by simpa using h) (fun x hm => hx x (List.mem_append_left _ hm)), List.filter_eq_self.2 (fun x hm => decide_eq_true (hx x (List.mem_append_right _ hm)))]
theorem word_of {s : List (List Int)} {a b : Nat} (h : b < rl s a) : cell s a b ∈ rword s := by
 rw [rword_mem]
 exact ⟨s.getD a [], by rw [getD_get (rl_in h)]; exact List.getElem_mem _, cell_mem h⟩
structure Gone (T out : List (List Int)) (i j : Nat) : Prop where
 kn : Kn ((rword T).filter (fun x => decide (1 < x))) (rword out)
 sk : Sk out
 ok : FillOk out
 rls : ∀ a, rl out a = if a = i then j else rl T a
 here : rl T i = j + 1
 low : rl T (i + 1) ≤ j
 inn : i < T.length
 zer : j = 0 → T.length = i + 1 ∧ out.length = i
 pos : j ≠ 0 → out.length = T.length
 bx : boxes out + 1 = boxes T
theorem Gone.of {T out : List (List Int)} {i j : Nat} (h : Std T) (h0 : 0 < T.length) (hs : Slid T 0 0 out i j) : Gone T out i j := by
 have hc := h.1.cfg h0
 have hb : 0 < boxes T := by
  have := hc.at_
  have h2 := cell_mem this
  have h3 := mem_row h2
  rw [← flatten_len]
  exact List.length_pos_of_mem h3
 obtain ⟨N, hN⟩ : ∃ N, boxes T = N + 1 := ⟨boxes T - 1, by omega⟩
 have hst := Evag.start h
 rw [hN] at hst
 have hg := hst.step h hs
 obtain ⟨s1, s2, s3, s4, s5, s6⟩ := hs.shape hc
 obtain ⟨p1, p2, p3, p4⟩ := hs.props hc
 refine ⟨?_, p2, hg.ok, s1, s2, s3, s4, s5, s6, p4⟩
 have := hg.kn
 rw [hN, show ((N + 1 : Nat) : Int) - (N : Int) = 1 by omega] at this
 exact this
theorem Gone.padlen {T out : List (List Int)} {i j : Nat} (h : Gone T out i j) : (pad out i).length = T.length := by
 unfold pad
 by_cases e : j = 0
 · obtain ⟨h1, h2⟩ := h.zer e
   rw [if_pos h2.symm, List.length_append]; simp; omega
 · have h1 := h.pos e
   have := h.inn
   rw [if_neg (by omega)]; exact h1
theorem Gone.pro {T out : List (List Int)} {i j : Nat} (h : Gone T out i j) (hT : Std T) : Pro T (proU out i (boxes T)) := by
 have hpl := h.padlen
 have hin := h.inn
 have hP : i < (dn (pad out i)).length := by unfold dn; rw [List.length_map, hpl]; exact hin
 have hlet : ∀ x ∈ rword out, 2 ≤ x ∧ x ≤ (boxes T : Int) := fun x hx => by
  obtain ⟨g1, g2⟩ := List.mem_filter.1 ((h.kn.mem x).2 hx)
  have := hT.bnd x g1
  have := of_decide_eq_true g2
  omega
 have hrow : ∀ a, (proU out i (boxes T)).getD a [] = if a = i then dec 1 (out.getD i []) ++ [(boxes T : Int)] else dec 1 (out.getD a []) := fun a => by
  unfold proU
  by_cases e : a = i
  · rw [if_pos e, e, List.getD_eq_getElem?_getD, List.getElem?_set_self hP, dn_getD, pad_getD]; rfl
  · rw [if_neg e, List.getD_eq_getElem?_getD, List.getElem?_set_ne (Ne.symm e), ← List.getD_eq_getElem?_getD, dn_getD, pad_getD]
 have hrl : ∀ a, rl (proU out i (boxes T)) a = rl T a := fun a => by
  have h1 := h.rls a
  unfold rl at h1 ⊢
  rw [hrow]
  by_cases e : a = i
  · rw [if_pos e] at h1 ⊢
    rw [List.length_append, dec_len, ← e, h1, e]
    have := h.here; unfold rl at this; rw [this]; rfl
  · rw [if_neg e] at h1 ⊢
    rw [dec_len, h1]
 have hrj : (out.getD i []).length = j := by have := h.rls i; rw [if_pos rfl] at this; exact this
 have hcell : ∀ a b, b < rl T a → cell (proU out i (boxes T)) a b = if a = i ∧ b = j then (boxes T : Int) else cell out a b - 1 := fun a b hb => by
  have h1 := h.rls a
  unfold cell
  rw [hrow]
  have hd : ∀ (r : List Int), b < r.length → (dec 1 r).getD b 0 = r.getD b 0 - 1 := fun r hr => by
   unfold dec
   rw [getD_get (by simpa using hr), getD_get hr, List.getElem_map]
  by_cases e : a = i
  · rw [if_pos e]
    have hh := h.here
    rw [e, hh] at hb
    by_cases e2 : b = j
    · rw [if_pos ⟨e, e2⟩, List.getD_eq_getElem?_getD, List.getElem?_append_right (by rw [dec_len]; omega), dec_len, hrj, e2, Nat.sub_self]; rfl
    · rw [if_neg (fun hh => e2 hh.2), List.getD_eq_getElem?_getD, List.getElem?_append_left (by rw [dec_len]; omega), ← List.getD_eq_getElem?_getD, hd _ (by omega), e]
  · rw [if_neg e, if_neg (fun hh => e hh.1)]
    rw [if_neg e] at h1
    exact hd _ (by unfold rl at h1 hb; omega)
 have hin2 : ∀ a b, b < rl T a → ¬ (a = i ∧ b = j) → b < rl out a := fun a b hb hn => by
  rw [h.rls]
  by_cases e : a = i
  · rw [if_pos e]
    have := h.here
    rw [e, this] at hb
    have : b ≠ j := fun e2 => hn ⟨e, e2⟩
    omega
  · rw [if_neg e]; exact hb
 have hcl : ∀ a b, b < rl T a → ¬ (a = i ∧ b = j) → 2 ≤ cell out a b ∧ cell out a b ≤ (boxes T : Int) := fun a b hb hn => hlet _ (word_of (hin2 a b hb hn))
 have hTk := hT.1.skOk.1.sk.1
 have hlen : (proU out i (boxes T)).length = T.length := by unfold proU dn; rw [List.length_set, List.length_map, hpl]
 have hbp : 1 ≤ boxes T := by have := h.bx; omega
 have hsk : Sk (proU out i (boxes T)) := by
  refine ⟨fun a ha => by rw [hrl]; exact hTk.ne a (by rwa [hlen] at ha), fun a a' haa => by rw [hrl, hrl]; exact hTk.lens a a' haa, fun a b k g1 g2 => ?_, fun a a' b g1 g2 => ?_, fun a b g1 => ?_⟩
  · rw [hrl] at g2
    rw [hcell a b (by omega), hcell a k g2]
    by_cases e : a = i ∧ b = j
    · have := h.here; rw [e.1, this] at g2; omega
    · rw [if_neg e]
      have h1 := hcl a b (by omega) e
      by_cases e2 : a = i ∧ k = j
      · rw [if_pos e2]; omega
      · rw [if_neg e2]
        have := h.sk.row a b k g1 (hin2 a k g2 e2)
        omega
  · rw [hrl] at g2
    have g3 : b < rl T a := by have := hTk.lens a a' (by omega); omega
    rw [hcell a b g3, hcell a' b g2]
    by_cases e : a = i ∧ b = j
    · have h1 := h.low
      have h2 := hTk.lens (i + 1) a' (by omega)
      omega
    · rw [if_neg e]
      have h1 := hcl a b g3 e
      by_cases e2 : a' = i ∧ b = j
      · rw [if_pos e2]; left; omega
      · rw [if_neg e2]
        have h2 := hcl a' b g2 e2
        rcases h.sk.col a a' b g1 (hin2 a' b g2 e2) with g | g
        · left; omega
        · omega
  · rw [hrl] at g1
    rw [hcell a b g1]
    by_cases e : a = i ∧ b = j
    · rw [if_pos e]; omega
    · rw [if_neg e]; have := hcl a b g1 e; omega
 have hperm : (proU out i (boxes T)).flatten.Perm ((boxes T : Int) :: dec 1 (rword out)) := by
  have h1 := set_flat (P := dn (pad out i)) (boxes T) hP
  refine h1.trans (List.Perm.cons _ ((rword_flat _).symm.trans ?_))
  rw [rword_dn, rword_pad]
 have hdl : (dec 1 (rword out)).length + 1 = boxes T := by rw [dec_len, ← boxes_word]; exact h.bx
 have hbx : boxes (proU out i (boxes T)) = boxes T := by
  rw [← flatten_len, hperm.length_eq, List.length_cons]; exact hdl
 have hpos : ∀ a b, ¬ Zero (proU out i (boxes T)) a b := fun a b hz => by
  have h1 := hz.1
  have h2 := hz.2
  rw [hrl] at h1
  rw [hcell a b h1] at h2
  by_cases e : a = i ∧ b = j
  · rw [if_pos e] at h2; omega
  · rw [if_neg e] at h2; have := hcl a b h1 e; omega
 have hok := (hsk.ok (by rw [hbx]; exact hT.1.2.2) (fun a b hb => by
  have := hT.1.2.2
  rw [hrl] at hb
  rw [hcell a b hb]
  by_cases e : a = i ∧ b = j
  · rw [if_pos e]; omega
  · rw [if_neg e]; have := hcl a b hb e; omega)).full hpos
 have hdx : ∀ x ∈ dec 1 (rword out), 1 ≤ x ∧ x ≤ (boxes T : Int) - 1 := fun x hx => by
  unfold dec at hx
  obtain ⟨y, hy, rfl⟩ := List.mem_map.1 hx
  have := hlet y hy
  omega
 have hstd : IsPerm (proU out i (boxes T)).flatten := by
  refine IsPerm.of_perm hperm ⟨?_, fun x hx => ?_⟩
  · rw [List.nodup_cons]
    refine ⟨fun hm => by have := hdx _ hm; omega, ?_⟩
    have h1 : (rword out).Nodup := h.kn.perm.nodup_iff.1 (hT.perm.1.1.filter _)
    unfold dec
    rw [List.nodup_iff_pairwise_ne, List.pairwise_map]
    exact (List.nodup_iff_pairwise_ne.1 h1).imp (fun hab => by omega)
  · rw [List.length_cons]
    rcases List.mem_cons.1 hx with rfl | hm
    · omega
    · have := hdx x hm; omega
 refine ⟨hT, ⟨hok.1, hstd⟩, hrl, hbx, ?_⟩
 have hw : (rword (proU out i (boxes T))).filter (fun x => decide (x ≤ (boxes T : Int) - 1)) = dec 1 (rword out) := by
  unfold proU
  rw [set_word hP (fun x hx => by rw [rword_dn, rword_pad] at hx; exact (hdx x hx).2), rword_dn, rword_pad]
 rw [hw]
 exact h.kn.dec 1
theorem put_self {s : List (List Int)} {i j : Nat} (_h : j < rl s i) : put s i j (cell s i j) = s := by
 unfold put cell
 have hi := rl_in _h
 unfold rl at _h
 rw [getD_get hi] at _h ⊢
 rw [getD_get _h, List.set_getElem_self, List.set_getElem_self]
structure Back (T s : List (List Int)) (I J : Nat) : Prop where
 cfg : Cfg s I J
 pos : ∀ a b, b < rl s a → ¬ (a = I ∧ b = J) → 1 ≤ cell s a b
 go : ∃ i0 j0, Slid s I J (cut T i0 j0) i0 j0 ∧ Cfg T i0 j0 ∧ rl T i0 = j0 + 1 ∧ rl T (i0 + 1) ≤ j0 ∧ cell T i0 j0 = boxes T
 len : s.length = T.length
 rls : ∀ a, rl s a = rl T a
 inj : ∀ a b a' b', b < rl s a → b' < rl s a' → ¬ (a = I ∧ b = J) → ¬ (a' = I ∧ b' = J) → cell s a b = cell s a' b' → a = a' ∧ b = b'
theorem Back.start {T : List (List Int)} (h : Std T) {i j : Nat} (hj : rl T i = j + 1) (hc : cell T i j = boxes T) : Back T T i j := by
 obtain ⟨h1, h2⟩ := h.1.skOk
 have hk := h1.sk.1
 have hb : ∀ a b, b < rl T a → cell T a b ≤ (boxes T : Int) := fun a b hb => (h.bnd _ (word_of hb)).2
 have hlow : rl T (i + 1) ≤ j := by
  apply Classical.byContradiction
  intro hn
  have g1 := hb (i + 1) j (by omega)
  rcases hk.col i (i + 1) j (by omega) (by omega) with g | g
  · omega
  · have := h2 i j (by omega); omega
 have hcfg : Cfg T i j := by
  refine ⟨by omega, hk.ne, hk.lens, fun i j k a b _ _ => hk.row i j k a b, fun i i' j a b _ _ => hk.col i i' j a b, fun i j a _ => hk.nn i j a, fun i' _ a => by have := h2 i' j a; omega, fun k _ a => by have := h2 i k a; omega⟩
 exact ⟨hcfg, fun a b g _ => h2 a b g, ⟨i, j, .stop (by omega) hlow, hcfg, hj, hlow, hc⟩, rfl, fun _ => rfl, fun a b a' b' g1 g2 _ _ e => by have := h.inj g2 g1 e.symm; exact this⟩
theorem Back.colc {T s : List (List Int)} {I J : Nat} (h : Back T s I J) {a a' b : Nat} (g1 : a < a') (g2 : b < rl s a') (n1 : ¬ (a = I ∧ b = J)) (n2 : ¬ (a' = I ∧ b = J)) : cell s a b < cell s a' b := by
 rcases h.cfg.col a a' b g1 g2 n1 n2 with g | g
 · exact g
 · have := h.pos a' b g2 n2; omega
theorem Back.up {T s : List (List Int)} {I J : Nat} (h : Back T s (I + 1) J) (hl : ∀ k, k + 1 = J → cell s (I + 1) k < cell s I J) : Back T (put s (I + 1) J (cell s I J)) I J := by
 have hat := h.cfg.at_
 have pc := fun k q => put_cell (x := cell s I J) hat k q
 have pl := fun k => put_rl s (I + 1) J (cell s I J) k
 have hle : rl s (I + 1) ≤ rl s I := h.cfg.lens I (I + 1) (by omega)
 have hov : 1 ≤ cell s I J := h.pos I J (by omega) (by omega)
 have hcfg : Cfg (put s (I + 1) J (cell s I J)) I J := by
  refine ⟨by rw [pl]; omega, fun i hi => by rw [pl]; exact h.cfg.ne i (by rwa [put_length] at hi), fun i i' g => by rw [pl, pl]; exact h.cfg.lens i i' g, fun i j k g1 g2 n1 n2 => ?_, fun i i' j g1 g2 n1 n2 => ?_, fun i j g1 n1 => ?_, fun i' g1 g2 => ?_, fun k g1 g2 => ?_⟩
  · rw [pl] at g2
    rw [pc, pc]
    by_cases e1 : i = I + 1 ∧ j = J
    · rw [if_pos e1, if_neg (by omega)]
      obtain ⟨rfl, rfl⟩ := e1
      have a1 := h.cfg.row I j k g1 (by omega) (by omega) (by omega)
      have a2 := h.colc (show I < I + 1 by omega) g2 (by omega) (by omega)
      omega
    · rw [if_neg e1]
      by_cases e2 : i = I + 1 ∧ k = J
      · rw [if_pos e2]
        obtain ⟨rfl, rfl⟩ := e2
        have a1 := hl (k - 1) (by omega)
        by_cases e3 : j = k - 1
        · rw [e3]; omega
        · have := h.cfg.row (I + 1) j (k - 1) (by omega) (by omega) (by omega) (by omega); omega
      · rw [if_neg e2]; exact h.cfg.row i j k g1 g2 e1 e2
  · rw [pl] at g2
    rw [pc, pc]
    left
    by_cases e1 : i = I + 1 ∧ j = J
    · rw [if_pos e1, if_neg (by omega)]
      obtain ⟨rfl, rfl⟩ := e1
      exact h.colc (by omega) g2 (by omega) (by omega)
    · rw [if_neg e1]
      by_cases e2 : i' = I + 1 ∧ j = J
      · rw [if_pos e2]
        obtain ⟨rfl, rfl⟩ := e2
        exact h.colc (by omega) (by omega) (by omega) (by omega)
      · rw [if_neg e2]; exact h.colc g1 g2 e1 e2
  · rw [pl] at g1
    rw [pc]
    by_cases e1 : i = I + 1 ∧ j = J
    · rw [if_pos e1]; omega
    · rw [if_neg e1]; have := h.pos i j g1 e1; omega
  · rw [pl] at g2
    rw [pc]
    by_cases e1 : i' = I + 1 ∧ J = J
    · rw [if_pos e1]; omega
    · rw [if_neg e1]; have := h.pos i' J g2 e1; omega
  · rw [pl] at g2
    rw [pc, if_neg (by omega)]
    have := h.pos I k g2 (by omega); omega
 obtain ⟨i0, j0, g1, g2, g3, g4, g5⟩ := h.go
 refine ⟨hcfg, fun a b e1 n1 => ?_, ⟨i0, j0, ?_, g2, g3, g4, g5⟩, by rw [put_length]; exact h.len, fun a => by rw [pl]; exact h.rls a, fun a b a' b' x1 x2 n1 n2 e => ?_⟩
 rotate_left 2
 · rw [pl] at x1 x2
   rw [pc, pc] at e
   by_cases e1 : a = I + 1 ∧ b = J
   · rw [if_pos e1] at e
     by_cases e2 : a' = I + 1 ∧ b' = J
     · omega
     · rw [if_neg e2] at e
       have := h.inj I J a' b' (by omega) x2 (by omega) e2 e
       omega
   · rw [if_neg e1] at e
     by_cases e2 : a' = I + 1 ∧ b' = J
     · rw [if_pos e2] at e
       have := h.inj a b I J x1 (by omega) e1 (by omega) e
       omega
     · rw [if_neg e2] at e
       exact h.inj a b a' b' x1 x2 e1 e2 e
 · rw [pl] at e1
   rw [pc]
   by_cases e : a = I + 1 ∧ b = J
   · rw [if_pos e]; omega
   · rw [if_neg e]; exact h.pos a b e1 e
 · have e1 : cell (put s (I + 1) J (cell s I J)) (I + 1) J = cell s I J := by rw [pc, if_pos ⟨rfl, rfl⟩]
   refine .down (by rw [pl]; exact hat) (fun e2 => ?_) ?_
   · rw [pl] at e2
     rw [e1, pc, if_neg (by omega)]
     exact h.cfg.row I J (J + 1) (by omega) e2 (by omega) (by omega)
   · rw [e1]
     have e3 : put (put s (I + 1) J (cell s I J)) I J (cell s I J) = put s (I + 1) J (cell s I J) := by
      have h1 : cell (put s (I + 1) J (cell s I J)) I J = cell s I J := by rw [pc, if_neg (by omega)]
      have h2 := put_self (s := put s (I + 1) J (cell s I J)) (i := I) (j := J) (by rw [pl]; omega)
      rwa [h1] at h2
     rw [e3]
     exact g1.fill _ hat
theorem Back.left {T s : List (List Int)} {I J : Nat} (h : Back T s I (J + 1)) (hu : ∀ k, k + 1 = I → cell s k (J + 1) ≤ cell s I J) : Back T (put s I (J + 1) (cell s I J)) I J := by
 have hat := h.cfg.at_
 have pc := fun k q => put_cell (x := cell s I J) hat k q
 have pl := fun k => put_rl s I (J + 1) (cell s I J) k
 have hov : 1 ≤ cell s I J := h.pos I J (by omega) (by omega)
 have hcfg : Cfg (put s I (J + 1) (cell s I J)) I J := by
  refine ⟨by rw [pl]; omega, fun i hi => by rw [pl]; exact h.cfg.ne i (by rwa [put_length] at hi), fun i i' g => by rw [pl, pl]; exact h.cfg.lens i i' g, fun i j k g1 g2 n1 n2 => ?_, fun i i' j g1 g2 n1 n2 => ?_, fun i j g1 n1 => ?_, fun i' g1 g2 => ?_, fun k g1 g2 => ?_⟩
  · rw [pl] at g2
    rw [pc, pc]
    by_cases e1 : i = I ∧ j = J + 1
    · rw [if_pos e1, if_neg (by omega)]
      obtain ⟨rfl, rfl⟩ := e1
      exact h.cfg.row i J k (by omega) g2 (by omega) (by omega)
    · rw [if_neg e1]
      by_cases e2 : i = I ∧ k = J + 1
      · rw [if_pos e2]
        obtain ⟨rfl, rfl⟩ := e2
        by_cases e3 : j = J
        · omega
        · exact h.cfg.row i j J (by omega) (by omega) (by omega) (by omega)
      · rw [if_neg e2]; exact h.cfg.row i j k g1 g2 e1 e2
  · rw [pl] at g2
    rw [pc, pc]
    left
    by_cases e1 : i = I ∧ j = J + 1
    · rw [if_pos e1, if_neg (by omega)]
      obtain ⟨rfl, rfl⟩ := e1
      have a1 := h.colc (a := i) (a' := i') (b := J) (by omega) (by omega) (by omega) (by omega)
      have a2 := h.cfg.row i' J (J + 1) (by omega) g2 (by omega) (by omega)
      omega
    · rw [if_neg e1]
      by_cases e2 : i' = I ∧ j = J + 1
      · rw [if_pos e2]
        obtain ⟨rfl, rfl⟩ := e2
        have a1 := hu (i' - 1) (by omega)
        have a2 : cell s (i' - 1) (J + 1) < cell s i' J := by
         have hlen := h.cfg.lens (i' - 1) i' (by omega)
         rcases Int.lt_or_eq_of_le a1 with g | g
         · exact g
         · have := h.inj (i' - 1) (J + 1) i' J (by omega) (by omega) (by omega) (by omega) g
           omega
        by_cases e3 : i = i' - 1
        · rw [e3]; exact a2
        · have hlen := h.cfg.lens (i' - 1) i' (by omega)
          have a3 := h.colc (a := i) (a' := i' - 1) (b := J + 1) (by omega) (by omega) (by omega) (by omega)
          omega
      · rw [if_neg e2]; exact h.colc g1 g2 e1 e2
  · rw [pl] at g1
    rw [pc]
    by_cases e1 : i = I ∧ j = J + 1
    · rw [if_pos e1]; omega
    · rw [if_neg e1]; have := h.pos i j g1 e1; omega
  · rw [pl] at g2
    rw [pc, if_neg (by omega)]
    have := h.pos i' J g2 (by omega); omega
  · rw [pl] at g2
    rw [pc]
    by_cases e1 : I = I ∧ k = J + 1
    · rw [if_pos e1]; omega
    · rw [if_neg e1]; have := h.pos I k g2 e1; omega
 obtain ⟨i0, j0, g1, g2, g3, g4, g5⟩ := h.go
 refine ⟨hcfg, fun a b e1 n1 => ?_, ⟨i0, j0, ?_, g2, g3, g4, g5⟩, by rw [put_length]; exact h.len, fun a => by rw [pl]; exact h.rls a, fun a b a' b' x1 x2 n1 n2 e => ?_⟩
 rotate_left 2
 · rw [pl] at x1 x2
   rw [pc, pc] at e
   by_cases e1 : a = I ∧ b = J + 1
   · rw [if_pos e1] at e
     by_cases e2 : a' = I ∧ b' = J + 1
     · omega
     · rw [if_neg e2] at e
       have := h.inj I J a' b' (by omega) x2 (by omega) e2 e
       omega
   · rw [if_neg e1] at e
     by_cases e2 : a' = I ∧ b' = J + 1
     · rw [if_pos e2] at e
       have := h.inj a b I J x1 (by omega) e1 (by omega) e
       omega
     · rw [if_neg e2] at e
       exact h.inj a b a' b' x1 x2 e1 e2 e
 · rw [pl] at e1
   rw [pc]
   by_cases e : a = I ∧ b = J + 1
   · rw [if_pos e]; omega
   · rw [if_neg e]; exact h.pos a b e1 e
 · have e1 : cell (put s I (J + 1) (cell s I J)) I (J + 1) = cell s I J := by rw [pc, if_pos ⟨rfl, rfl⟩]
   refine .right (by rw [pl]; exact hat) (fun e2 => ?_) ?_
   · rw [pl] at e2
     rw [e1, pc, if_neg (by omega)]
     exact h.colc (by omega) e2 (by omega) (by omega)
   · rw [e1]
     have e3 : put (put s I (J + 1) (cell s I J)) I J (cell s I J) = put s I (J + 1) (cell s I J) := by
      have h1 : cell (put s I (J + 1) (cell s I J)) I J = cell s I J := by rw [pc, if_neg (by omega)]
      have h2 := put_self (s := put s I (J + 1) (cell s I J)) (i := I) (j := J) (by rw [pl]; omega)
      rwa [h1] at h2
     rw [e3]
     exact g1.fill _ hat
def ups (s : List (List Int)) : List (List Int) := s.map (fun r => r.map (fun x => x + 1))
theorem ups_word : ∀ P : List (List Int), dec 1 ((rword (ups P)).filter (fun x => decide (1 < x))) = sword P
 | [] => rfl
 | r :: t => by
  show dec 1 ((rword (ups t) ++ r.map (fun x => x + 1)).filter _) = sword t ++ lets r
  have e : dec 1 ((r.map (fun x => x + 1)).filter (fun x => decide (1 < x))) = lets r := by
   unfold dec lets
   rw [List.filter_map, List.map_map]
   have h1 : r.filter ((fun x => decide (1 < x)) ∘ fun x => x + 1) = r.filter (fun x => decide (0 < x)) := List.filter_congr (fun x _ => by simp; omega)
   rw [h1]
   conv => rhs; rw [← List.map_id (r.filter _)]
   exact List.map_congr_left (fun x _ => by simp)
  rw [List.filter_append, show ∀ a b : List Int, dec 1 (a ++ b) = dec 1 a ++ dec 1 b from fun a b => by simp [dec], ups_word t, e]
theorem ups_row (P : List (List Int)) (a : Nat) : (ups P).getD a [] = (P.getD a []).map (fun x => x + 1) := by
 unfold ups
 by_cases h : a < P.length
 · rw [getD_get (by simpa using h), getD_get h, List.getElem_map]
 · rw [getD_far (by simp; omega), getD_far (by omega)]; rfl
theorem ups_rl (P : List (List Int)) (a : Nat) : rl (ups P) a = rl P a := by unfold rl; rw [ups_row, List.length_map]
theorem ups_cell {P : List (List Int)} {a b : Nat} (h : b < rl P a) : cell (ups P) a b = cell P a b + 1 := by
 unfold cell rl at *
 rw [ups_row, getD_get (by simpa using h), getD_get h, List.getElem_map]
theorem boxes_ups (P : List (List Int)) : boxes (ups P) = boxes P := by
 unfold boxes ups
 rw [List.map_map]
 congr 1
 exact List.map_congr_left (fun r _ => by simp)
theorem top_word {T : List (List Int)} (h : Std T) {i j : Nat} (hj : rl T i = j + 1) (hc : cell T i j = boxes T) : hword T i j = (rword T).filter (fun x => decide (x ≤ (boxes T : Int) - 1)) := by
 have hi := rl_in (show j < rl T i by omega)
 have hfil : ∀ S : List (List Int), (rword S).filter (fun x => decide (x ≤ (boxes T : Int) - 1)) = rword (S.map (fun r => r.filter (fun x => decide (x ≤ (boxes T : Int) - 1)))) := fun S => by
  induction S with
  | nil => rfl
  | cons r t ih => show (rword t ++ r).filter _ = _; rw [List.filter_append, ih]; rfl
 unfold hword sword
 rw [hfil]
 congr 1
 apply List.ext_getElem (by simp [put_length])
 intro a g1 g2
 rw [List.length_map, put_length] at g1
 rw [List.getElem_map, List.getElem_map]
 have e1 : (put T i j 0)[a]'(by rw [put_length]; exact g1) = (put T i j 0).getD a [] := (getD_get (by rw [put_length]; exact g1)).symm
 have e2 : T[a] = T.getD a [] := (getD_get g1).symm
 rw [e1, e2, put_row]
 have hval : ∀ b, b < rl T a → ¬ (a = i ∧ b = j) → 1 ≤ cell T a b ∧ cell T a b ≤ (boxes T : Int) - 1 := fun b hb hn => by
  have h1 := h.1.skOk.2 a b hb
  have h2 := (h.bnd _ (word_of hb)).2
  have h3 : cell T a b ≠ cell T i j := fun e => by
   have := h.inj hb (show j < rl T i by omega) e
   omega
  omega
 by_cases e : a = i
 · subst e
   rw [if_pos rfl]
   have hl : (T.getD a []).length = j + 1 := hj
   have hsp := row_split (r := T.getD a []) (j := j) (by omega)
   have hdr : (T.getD a []).drop (j + 1) = [] := List.drop_eq_nil_of_le (by omega)
   have hce : (T.getD a []).getD j 0 = boxes T := hc
   rw [set_split _ (by omega), hdr]
   conv => rhs; rw [hsp, hdr, hce]
   have ht : ∀ x ∈ (T.getD a []).take j, 1 ≤ x ∧ x ≤ (boxes T : Int) - 1 := fun x hx => by
    obtain ⟨b, hb, rfl⟩ := List.getElem_of_mem hx
    rw [List.length_take] at hb
    rw [List.getElem_take]
    have := hval b (by omega) (by omega)
    unfold cell at this
    rwa [getD_get (by omega)] at this
   unfold lets
   rw [List.filter_append, List.filter_append, List.filter_eq_self.2 (fun x hx => decide_eq_true (by have := ht x hx; omega)), List.filter_eq_self.2 (fun x hx => decide_eq_true (ht x hx).2)]
   congr 1
   rw [List.filter_cons, if_neg (by simp), List.filter_cons, if_neg (by simp; omega)]; rfl
 · rw [if_neg e]
   have ht : ∀ x ∈ T.getD a [], 1 ≤ x ∧ x ≤ (boxes T : Int) - 1 := fun x hx => by
    obtain ⟨b, hb, rfl⟩ := List.getElem_of_mem hx
    have := hval b hb (fun hh => e hh.1)
    unfold cell at this
    rwa [getD_get hb] at this
   rw [lets_pos (fun x hx => by have := ht x hx; omega), List.filter_eq_self.2 (fun x hx => decide_eq_true (ht x hx).2)]
theorem Back.pro {T s : List (List Int)} (h : Back T s 0 0) (hT : Std T) : Pro (ups (put s 0 0 0)) T := by
 have hc := h.cfg
 have hat := hc.at_
 obtain ⟨i0, j0, g1, g2, g3, g4, g5⟩ := h.go
 obtain ⟨p1, p2, p3, p4⟩ := g1.props hc
 obtain ⟨q1, q2⟩ := g2.cut_word (by omega) g4
 rw [q1, top_word hT g3 g5] at p1
 have hbs : boxes s = boxes T := by omega
 have hbD : boxes (ups (put s 0 0 0)) = boxes T := by rw [boxes_ups, boxes_put, hbs]
 have hrl : ∀ a, rl (ups (put s 0 0 0)) a = rl s a := fun a => by rw [ups_rl, put_rl]
 have hcell : ∀ a b, b < rl s a → cell (ups (put s 0 0 0)) a b = if a = 0 ∧ b = 0 then 1 else cell s a b + 1 := fun a b hb => by
  rw [ups_cell (by rw [put_rl]; exact hb), put_cell hat]
  by_cases e : a = 0 ∧ b = 0
  · rw [if_pos e, if_pos e]; rfl
  · rw [if_neg e, if_neg e]
 have htop : ∀ a b, b < rl s a → ¬ (a = 0 ∧ b = 0) → cell s a b ≤ (boxes T : Int) - 1 := fun a b hb hn => by
  have h1 := h.pos a b hb hn
  have h2 : cell (put s 0 0 0) a b = cell s a b := by rw [put_cell hat, if_neg hn]
  have h3 := mem_lets (s := put s 0 0 0) (i := a) (j := b) (by rw [put_rl]; exact hb) (by omega)
  rw [h2] at h3
  exact of_decide_eq_true (List.mem_filter.1 ((p1.mem _).1 h3)).2
 have hsk : Sk (ups (put s 0 0 0)) := by
  refine ⟨fun a ha => ?_, fun a a' haa => by rw [hrl, hrl]; exact hc.lens a a' haa, fun a b k e1 e2 => ?_, fun a a' b e1 e2 => ?_, fun a b e1 => ?_⟩
  · rw [hrl]
    refine hc.ne a ?_
    unfold ups at ha
    rwa [List.length_map, put_length] at ha
  · rw [hrl] at e2
    rw [hcell a b (by omega), hcell a k e2, if_neg (show ¬ (a = 0 ∧ k = 0) by omega)]
    have := h.pos a k e2 (by omega)
    by_cases e : a = 0 ∧ b = 0
    · rw [if_pos e]; omega
    · rw [if_neg e]
      have := hc.row a b k e1 e2 e (by omega); omega
  · rw [hrl] at e2
    have := hc.lens a a' (by omega)
    rw [hcell a b (by omega), hcell a' b e2, if_neg (show ¬ (a' = 0 ∧ b = 0) by omega)]
    left
    have := h.pos a' b e2 (by omega)
    by_cases e : a = 0 ∧ b = 0
    · rw [if_pos e]; omega
    · rw [if_neg e]
      have := h.colc e1 e2 e (by omega); omega
  · rw [hrl] at e1
    rw [hcell a b e1]
    by_cases e : a = 0 ∧ b = 0
    · rw [if_pos e]; omega
    · rw [if_neg e]; have := h.pos a b e1 e; omega
 have h40 := hT.1.2.2
 have hfull := (hsk.ok (by rw [hbD]; exact h40) (fun a b e1 => by
  rw [hrl] at e1
  rw [hcell a b e1]
  by_cases e : a = 0 ∧ b = 0
  · rw [if_pos e]; omega
  · rw [if_neg e]; have := htop a b e1 e; omega)).full (fun a b hz => by
  have e1 := hz.1
  have e2 := hz.2
  rw [hrl] at e1
  rw [hcell a b e1] at e2
  by_cases e : a = 0 ∧ b = 0
  · rw [if_pos e] at e2; omega
  · rw [if_neg e] at e2; have := h.pos a b e1 e; omega)
 have hperm : (ups (put s 0 0 0)).flatten.Perm (1 :: (sword (put s 0 0 0)).map (fun x => x + 1)) := by
  have hpos := h.pos
  revert hat hpos
  cases s with
  | nil => intro hat; simp [rl] at hat
  | cons r t =>
   cases r with
   | nil => intro hat; simp [rl] at hat
   | cons c r' =>
    intro _ hpos
    have hp : put ((c :: r') :: t) 0 0 0 = (0 :: r') :: t := rfl
    rw [hp, sword_cons]
    have e1 : ∀ x ∈ r', 0 < x := fun x hx => by
     obtain ⟨b, hb, rfl⟩ := List.getElem_of_mem hx
     have := hpos 0 (b + 1) (by unfold rl; simp; omega) (by omega)
     unfold cell at this
     simp [hb] at this
     omega
    have e2 : ∀ r ∈ t, ∀ x ∈ r, 0 < x := fun r hr x hx => by
     obtain ⟨a, ha, rfl⟩ := List.getElem_of_mem hr
     obtain ⟨b, hb, rfl⟩ := List.getElem_of_mem hx
     have := hpos (a + 1) b (by unfold rl; simp [ha]; exact hb) (by omega)
     unfold cell at this
     simp [ha, hb] at this
     omega
    have e3 : lets (0 :: r') = r' := by rw [lets_cons, if_neg (by decide)]; exact lets_pos e1
    rw [e3, rword_lets e2]
    have e4 : (ups ((0 :: r') :: t)).flatten = 1 :: (r' ++ t.flatten).map (fun x => x + 1) := by
     unfold ups; simp [List.map_flatten]
    rw [e4]
    refine List.Perm.cons _ (List.Perm.map _ ?_)
    exact (List.perm_append_comm).trans (List.Perm.append_right r' (rword_flat t).symm)
 have hp2 := hperm.trans (List.Perm.cons (1 : Int) (List.Perm.map (fun x => x + 1) (show (sword (put s 0 0 0)).Perm _ from p1.perm)))
 have hstd : IsPerm (ups (put s 0 0 0)).flatten := by
  have hlen : ((ups (put s 0 0 0)).flatten).length = boxes T := by rw [flatten_len, hbD]
  have hall : ∀ x ∈ ((rword T).filter (fun x => decide (x ≤ (boxes T : Int) - 1))).map (fun x => x + 1), 2 ≤ x ∧ x ≤ (boxes T : Int) := fun x hx => by
   obtain ⟨y, hy, rfl⟩ := List.mem_map.1 hx
   obtain ⟨y1, y2⟩ := List.mem_filter.1 hy
   have := hT.bnd y y1
   have := of_decide_eq_true y2
   omega
  have hb1 : 1 ≤ boxes T := by omega
  refine ⟨hp2.nodup_iff.2 ?_, fun x hx => ?_⟩
  · rw [List.nodup_cons]
    refine ⟨fun hm => by have := hall _ hm; omega, ?_⟩
    rw [List.nodup_iff_pairwise_ne, List.pairwise_map]
    exact (List.nodup_iff_pairwise_ne.1 (hT.perm.1.1.filter _)).imp (fun hab => by omega)
  · rw [hlen]
    rcases List.mem_cons.1 (hp2.mem_iff.1 hx) with rfl | hm
    · omega
    · have := hall x hm; omega
 refine ⟨⟨hfull.1, hstd⟩, hT, fun a => by rw [hrl, h.rls], hbD.symm, ?_⟩
 rw [ups_word, hbD]
 exact p1
end
end Go.Proofs.YtpmkdihencepnaaGreatDoor
