/- Part of the proof. -/
import Derived.Test.YtpmkdihencepnaaGreatDoorMk06
import Derived.Test.YtpmkdihencepnaaGreatDoorMk07
import Derived.Test.YtpmkdihencepnaaGreatDoorMk08
import Derived.Test.YtpmkdihencepnaaGreatDoorMk19
import Derived.Test.YtpmkdihencepnaaGreatDoorMk20
import Derived.Test.YtpmkdihencepnaaGreatDoorMk21
import Derived.Test.YtpmkdihencepnaaGreatDoorMk22
import Derived.Test.YtpmkdihencepnaaGreatDoorMk23
import Derived.Test.YtpmkdihencepnaaGreatDoorMk24
set_option maxHeartbeats 16000000
namespace Go.Proofs.YtpmkdihencepnaaGreatDoor
section
open Go.RowKit
def Few (xs : List Int) : Prop := xs.length ≤ 100000 ∧ ∀ x ∈ xs, -1000000 ≤ x ∧ x ≤ 1000000
theorem Few.nil : Few [] := ⟨by simp, by simp⟩
def LsOut (r : List Int × Int) (B : Nat) (e : Ending) (w : World) : Prop :=
 ∃ (A : Option Addr) (c : Nat), e = .returned (.tuple #[.slice A r.1.length c, .int .i64 r.2]) ∧ w.ownsRow B 3 1 (.slice A r.1.length c) r.1.length (ints r.1)
theorem lout_bad (B : Nat) (w : World) (k : Int) : LsOut ([], k) B (.returned (.tuple #[.slice none 0 0, .int .i64 k])) w := ⟨none, 0, rfl, World.ownsRow_nil _ _ _ _⟩
structure OpL (f : FuncId) (F : List Int → List Int × Int) : Prop where
 few : ∀ p, Few (F p).1
 bad : ∀ p, (F p).2 ≠ 0 → (F p).1 = []
 call : ∀ (A : Option Addr) (cap : Nat) (p : List Int) (w : World), p.length ≤ cap → p.length ≤ 9223372036854775807 → Sl w w.heap.size A (ints p) →
  Calls Tryz.prog f #[.slice A p.length cap] w fun e w' => LsOut (F p) w.heap.size e w' ∧ Below w.heap.size w w'
open Classical in
noncomputable def FL (c : List Int → Int) (R : List Int → List Int → Prop) (p : List Int) : List Int × Int := if h : c p = 0 ∧ ∃ r, R p r then (h.2.choose, 0) else ([], c p)
theorem FL_ok {c : List Int → Int} {R : List Int → List Int → Prop} {p r : List Int} (hc : c p = 0) (hfn : ∀ r s, R p r → R p s → r = s) (h : R p r) : FL c R p = (r, 0) := by
 unfold FL
 rw [_root_.dif_pos ⟨hc, r, h⟩]
 have hx : ∃ r, R p r := ⟨r, h⟩
 show (hx.choose, (0 : Int)) = (r, 0)
 rw [hfn _ r hx.choose_spec h]
theorem FL_bad {c : List Int → Int} {R : List Int → List Int → Prop} {p : List Int} (hc : c p ≠ 0) : FL c R p = ([], c p) := by
 unfold FL
 rw [_root_.dif_neg (fun h => hc h.1)]
theorem opL {f : FuncId} {c : List Int → Int} {R : List Int → List Int → Prop} (hfn : ∀ p, c p = 0 → ∀ r s, R p r → R p s → r = s) (hfew : ∀ p, c p = 0 → ∀ r, R p r → Few r)
 (hok : ∀ (A : Option Addr) (cap : Nat) (p : List Int) (w : World), p.length ≤ cap → p.length ≤ 9223372036854775807 → Sl w w.heap.size A (ints p) → c p = 0 → Calls Tryz.prog f #[.slice A p.length cap] w fun e w' => Tol0 (R p) w.heap.size e w' ∧ Below w.heap.size w w')
 (herr : ∀ (A : Option Addr) (cap : Nat) (p : List Int) (w : World), p.length ≤ 9223372036854775807 → c p ≠ 0 → Sl w w.heap.size A (ints p) → Calls Tryz.prog f #[.slice A p.length cap] w fun e w' => e = .returned (.tuple #[.slice none 0 0, .int .i64 (c p)]) ∧ Below w.heap.size w w') :
 OpL f (FL c R) := by
 refine ⟨fun p => ?_, fun p hp => ?_, fun A cap p w hcap hcl h => ?_⟩
 · by_cases hx : c p = 0 ∧ ∃ r, R p r
   · obtain ⟨h0, r, hr⟩ := hx
     rw [FL_ok h0 (hfn p h0) hr]; exact hfew p h0 r hr
   · unfold FL; rw [_root_.dif_neg hx]; exact Few.nil
 · by_cases hx : c p = 0 ∧ ∃ r, R p r
   · obtain ⟨h0, r, hr⟩ := hx
     rw [FL_ok h0 (hfn p h0) hr] at hp; exact absurd rfl hp
   · unfold FL; rw [_root_.dif_neg hx]
 · by_cases h0 : c p = 0
   · refine (hok A cap p w hcap hcl h h0).mono ?_
     rintro e w' ⟨⟨xs, A', c', rfl, ho, hR⟩, hb⟩
     rw [FL_ok h0 (hfn p h0) hR]
     exact ⟨⟨A', c', rfl, ho⟩, hb⟩
   · refine (herr A cap p w hcl h0 h).mono ?_
     rintro e w' ⟨rfl, hb⟩
     rw [FL_bad h0]
     exact ⟨lout_bad _ _ _, hb⟩
theorem cntP_le (x y : Int) (h : x < y) : ∀ (l : List Int), x ∈ l → l.countP (fun m => decide (m < x)) < l.countP (fun m => decide (m < y))
 | [], hx => by cases hx
 | z :: l, hx => by
  have mono : ∀ l : List Int, l.countP (fun m => decide (m < x)) ≤ l.countP (fun m => decide (m < y)) := fun l => List.countP_mono_left (fun a _ ha => by
   have : a < x := of_decide_eq_true ha
   exact decide_eq_true (by omega))
  rw [List.countP_cons, List.countP_cons]
  rcases List.mem_cons.1 hx with rfl | hx
  · have := mono l
    simp [h]; omega
  · have := cntP_le x y h l hx
    by_cases c : z < x
    · have c2 : z < y := by omega
      simp [c, c2]; omega
    · have : (if decide (z < x) = true then 1 else 0) = 0 := by simp; omega
      rw [this]; omega
theorem code_inj : ∀ (p q : List Int), p.Perm q → codeOf p = codeOf q → p = q
 | [], q, h, _ => by rw [List.nil_perm.1 h]
 | x :: p, [], h, _ => by have := h.length_eq; simp at this
 | x :: p, y :: q, h, e => by
  rw [codeOf_cons, codeOf_cons] at e
  obtain ⟨e1, e2⟩ := List.cons.inj e
  have c1 : (x :: p).countP (fun m => decide (m < x)) = p.countP (fun m => decide (m < x)) := by rw [List.countP_cons]; simp
  have c2 : (y :: q).countP (fun m => decide (m < y)) = q.countP (fun m => decide (m < y)) := by rw [List.countP_cons]; simp
  have e3 : (x :: p).countP (fun m => decide (m < x)) = (x :: p).countP (fun m => decide (m < y)) := by
   rw [h.countP_eq (fun m => decide (m < y)), c1, c2]; omega
  have hxy : x = y := by
   rcases Int.lt_trichotomy x y with c | c | c
   · have := cntP_le x y c (x :: p) (by simp); omega
   · exact c
   · have := cntP_le y x c (x :: p) (h.mem_iff.2 (by simp)); omega
  subst hxy
  rw [code_inj p q h.cons_inv e2]
theorem at1_ext {q ys zs : List Int} (hq : IsPerm q) (h1 : ys.length = q.length) (h2 : zs.length = q.length) (h : ∀ k, k < q.length → at1 ys (q.getD k 0) = at1 zs (q.getD k 0)) : ys = zs := by
 apply List.ext_getElem (by omega)
 intro i hi hj
 have hm := hq.mem (x := (i : Int) + 1) (by omega) (by omega)
 obtain ⟨k, hk, e⟩ := List.getElem_of_mem hm
 have := h k hk
 rw [getD_get hk, e] at this
 unfold at1 at this
 rw [show ((i : Int) + 1 - 1).toNat = i by omega, getD_get hi, getD_get hj] at this
 exact this
theorem fold_err (A : Option Addr) (cap : Nat) (xs : List Int) (w : World) (hcl : xs.length ≤ 9223372036854775807) (hp : wordChk xs ≠ 0) (h : Sl w w.heap.size A (ints xs)) :
 Calls Tryz.prog 83 #[.slice A xs.length cap] w fun e w' => e = .returned (.tuple #[.slice none 0 0, .int .i64 (wordChk xs)]) ∧ Below w.heap.size w w' := by
 obtain ⟨c, hc⟩ : ∃ c, c = wordChk xs := ⟨_, rfl⟩
 have hd : (c != 0) = true := by rw [hc]; simpa using hp
 have HC := Lib.hid hc
 clear hc hp
 go_enter Tryz.func83, Tryz.ntmps83
 go_wp2_with fail
 refine (letters_any _ _ _ _ hcl h).mono ?_
 rintro e w1 ⟨rfl, rfl⟩
 rw [← HC.out]
 go_wp2
 go_ret2
 exact ⟨by rw [← HC.out]; rfl, Below.refl _ _⟩
theorem unfold_err (A : Option Addr) (cap : Nat) (xs : List Int) (w : World) (hcl : xs.length ≤ 9223372036854775807) (hp : wordChk xs ≠ 0) (h : Sl w w.heap.size A (ints xs)) :
 Calls Tryz.prog 84 #[.slice A xs.length cap] w fun e w' => e = .returned (.tuple #[.slice none 0 0, .int .i64 (wordChk xs)]) ∧ Below w.heap.size w w' := by
 obtain ⟨c, hc⟩ : ∃ c, c = wordChk xs := ⟨_, rfl⟩
 have hd : (c != 0) = true := by rw [hc]; simpa using hp
 have HC := Lib.hid hc
 clear hc hp
 go_enter Tryz.func84, Tryz.ntmps84
 go_wp2_with fail
 refine (letters_any _ _ _ _ hcl h).mono ?_
 rintro e w1 ⟨rfl, rfl⟩
 rw [← HC.out]
 go_wp2
 go_ret2
 exact ⟨by rw [← HC.out]; rfl, Below.refl _ _⟩
theorem conj_ok (A : Option Addr) (cap : Nat) (p : List Int) (w : World) (hcl : p.length ≤ 9223372036854775807) (h : Sl w w.heap.size A (ints p)) (hc : partChk p = 0) :
 Calls Tryz.prog 77 #[.slice A p.length cap] w fun e w' => Tol0 (fun xs => xs = flipOf p) w.heap.size e w' ∧ Below w.heap.size w w' := by
 have HC := Lib.hid hc
 obtain ⟨hp, hs⟩ := partChk_zero.1 hc
 clear hc
 go_enter Tryz.func77, Tryz.ntmps77
 go_wp2_with fail
 refine (pcheck_any _ _ _ _ hcl h).mono ?_
 rintro e w0 ⟨rfl, rfl⟩
 rw [HC.out]
 go_wp2_with fail
 refine (flipped_any _ _ _ _ hp hs h).mono ?_
 rintro e w1 ⟨v, rfl, hown, hb⟩
 have HO := Lib.hid hown
 clear hown
 go_wp2
 go_ret2
 exact ⟨tol0_own HO.out rfl, hb⟩
theorem conj_e (A : Option Addr) (cap : Nat) (p : List Int) (w : World) (hcl : p.length ≤ 9223372036854775807) (hc : partChk p ≠ 0) (h : Sl w w.heap.size A (ints p)) :
 Calls Tryz.prog 77 #[.slice A p.length cap] w fun e w' => e = .returned (.tuple #[.slice none 0 0, .int .i64 (partChk p)]) ∧ Below w.heap.size w w' := by
 obtain ⟨c, hcc⟩ : ∃ c, c = partChk p := ⟨_, rfl⟩
 have hd : (c != 0) = true := by rw [hcc]; simpa using hc
 have HC := Lib.hid hcc
 clear hc hcc
 go_enter Tryz.func77, Tryz.ntmps77
 go_wp2_with fail
 refine (pcheck_any _ _ _ _ hcl h).mono ?_
 rintro e w0 ⟨rfl, rfl⟩
 rw [← HC.out]
 go_wp2
 go_ret2
 exact ⟨by rw [← HC.out]; rfl, Below.refl _ _⟩
theorem few_part {q : List Int} (hp : IsPart q) (hs : q.sum ≤ 40) : Few q :=
 ⟨by have := hp.len hs; omega, fun x hx => by have := part_le hp hs hx; omega⟩
theorem few_perm {q : List Int} (hp : IsPerm q) (hl : q.length ≤ 40) : Few q :=
 ⟨by omega, fun x hx => by have := hp.2 x hx; omega⟩
theorem few_word {q : List Int} (hp : IsWord q) (hl : q.length ≤ 40) : Few q :=
 ⟨by omega, fun x hx => by have := hp x hx; omega⟩
theorem few_eq {p q : List Int} (h : q.Perm p) (hp : Few p) : Few q := ⟨by rw [h.length_eq]; exact hp.1, fun x hx => hp.2 x (h.mem_iff.1 hx)⟩
theorem foldOf_perm (w : List Int) : (foldOf w).Perm w := by
 induction w using snoc_ind with
 | nil => exact .refl _
 | snoc w x ih =>
  rw [foldOf_snoc]
  unfold foldStep
  by_cases h : foldOf w = []
  · rw [if_pos h]
    rw [h] at ih
    rw [List.nil_perm.1 ih]
  · rw [if_neg h]
    exact ((rot_perm _ _ _).trans (by simpa using ih)).append_right [x]
theorem unrot_perm (p : Int → Bool) : ∀ (rest : List Int) (y : Int) (blk : List Int), (unrot p y blk rest).Perm (y :: (blk ++ rest))
 | [], y, blk => by rw [unrot, List.append_nil]; exact (List.perm_append_singleton y blk)
 | z :: rest, y, blk => by
  rw [unrot]
  split
  · refine ((unrot_perm p rest z []).append_left (blk ++ [y])).trans ?_
    rw [List.append_assoc]
    refine (List.perm_middle (l₁ := blk) (l₂ := z :: ([] ++ rest)) (a := y)).trans ?_
    simp
  · refine (unrot_perm p rest y (blk ++ [z])).trans ?_
    simp
theorem unrotAll_perm (p : Int → Bool) : ∀ l : List Int, (unrotAll p l).Perm l
 | [] => .refl _
 | y :: rest => by have := unrot_perm p rest y []; simpa [unrotAll] using this
theorem unfoldN_perm : ∀ (n : Nat) (v : List Int), (unfoldN n v).Perm v
 | 0, v => .refl _
 | n + 1, v => by
  rw [unfoldN]
  refine (unfoldN_perm n _).trans ?_
  have h := (unrotAll_perm (side (v.getD (n + 1) 0) (v.getD 0 0)) (v.take (n + 1))).append_right (v.drop (n + 1))
  rwa [List.take_append_drop] at h
theorem unfoldOf_perm (w : List Int) : (unfoldOf w).Perm w := unfoldN_perm _ _
theorem rounds_rng {xs : List Int} (hp : IsPerm xs) : ∀ t, t ≤ xs.length → ∀ x ∈ roundsTo xs t, 1 ≤ x ∧ x ≤ (xs.length : Int)
 | 0, _, x, hx => by simp [roundsTo] at hx
 | t + 1, h, x, hx => by
  rw [roundsTo] at hx
  rcases List.mem_append.1 hx with hx | hx
  · exact rounds_rng hp t (by omega) x hx
  · split at hx
    · obtain ⟨n, hn⟩ := arc_path (top := (t : Int) + 1) hp (by omega) (by omega)
      have := hn.range x hx
      omega
    · simp at hx
theorem few_at1 {p ys : List Int} (hp : IsPerm p) (hl : p.length ≤ 40) (h1 : ys.length = p.length) (h : ∀ k, k < p.length → -1000000 ≤ at1 ys (p.getD k 0) ∧ at1 ys (p.getD k 0) ≤ 1000000) : Few ys := by
 refine ⟨by omega, fun x hx => ?_⟩
 obtain ⟨i, hi, rfl⟩ := List.getElem_of_mem hx
 have hm := hp.mem (x := (i : Int) + 1) (by omega) (by omega)
 obtain ⟨k, hk, e⟩ := List.getElem_of_mem hm
 have := h k hk
 rw [getD_get hk, e] at this
 unfold at1 at this
 rwa [show ((i : Int) + 1 - 1).toNat = i by omega, getD_get hi] at this
theorem few_code {p : List Int} (hl : p.length ≤ 40) : Few (codeOf p) := by
 refine ⟨by rw [codeOf_length]; omega, fun x hx => ?_⟩
 unfold codeOf at hx
 obtain ⟨i, _, rfl⟩ := List.mem_map.1 hx
 have : codeAt p i ≤ p.length := by
  unfold codeAt
  exact Nat.le_trans List.countP_le_length (by simp)
 omega
theorem few_glT (xs : List Int) : ∀ i, ∀ x ∈ (glT xs i).1, 1 ≤ x ∧ x ≤ (i : Int)
 | 0, x, hx => by simp [glT] at hx
 | i + 1, x, hx => by
  unfold glT at hx
  split at hx
  · rcases List.mem_append.1 hx with hx | hx
    · have := few_glT xs i x hx; omega
    · simp at hx; omega
  · have := few_glT xs i x hx; omega
noncomputable def conF : List Int → List Int × Int := FL partChk (fun p xs => xs = flipOf p)
theorem conL : OpL 77 conF :=
 opL (fun p h0 r s h h' => by rw [h, h']) (fun p h0 r h => by
  obtain ⟨hp, hs⟩ := partChk_zero.1 h0
  rw [h]; exact few_part (flip_part hp) (by rw [flip_sum hp]; exact hs))
  (fun A cap p w _ hcl h h0 => conj_ok A cap p w hcl h h0) (fun A cap p w hcl h0 h => conj_e A cap p w hcl h0 h)
noncomputable def invF : List Int → List Int × Int := FL permChk IsInv
theorem invL : OpL 80 invF :=
 opL (fun p h0 r s h h' => h.uniq (permChk_zero h0).2 h') (fun p h0 r h => few_at1 (permChk_zero h0).2 (permChk_zero h0).1 h.1 (fun k hk => by rw [h.2 k hk]; have := (permChk_zero h0).1; omega))
  (fun A cap p w _ _ h h0 => inverse_ok A cap p w (permChk_zero h0).1 (permChk_zero h0).2 h) (fun A cap p w hcl h0 h => inverse_err A cap p w hcl h0 h)
noncomputable def cdeF : List Int → List Int × Int := FL permChk (fun p xs => xs = codeOf p)
theorem cdeL : OpL 81 cdeF :=
 opL (fun p h0 r s h h' => by rw [h, h']) (fun p h0 r h => by rw [h]; exact few_code (permChk_zero h0).1)
  (fun A cap p w hcap _ h h0 => (code_ok A cap p w hcap (permChk_zero h0).1 h0 h).mono (fun e w' ⟨A', c', he, ho, _, hb⟩ => ⟨⟨_, A', c', he, ho, rfl⟩, hb⟩)) (fun A cap p w hcl h0 h => code_err A cap p w hcl h0 h)
open Classical in
noncomputable def frmChk (c : List Int) : Int := if c.length ≤ 40 ∧ IsCode c then 0 else if 40 < c.length then 2 else 1
theorem frmChk_zero {c : List Int} (h : frmChk c = 0) : c.length ≤ 40 ∧ IsCode c := by
 unfold frmChk at h
 by_cases e : c.length ≤ 40 ∧ IsCode c
 · exact e
 · rw [if_neg e] at h
   by_cases l : 40 < c.length
   · rw [if_pos l] at h; cases h
   · rw [if_neg l] at h; cases h
noncomputable def frmF : List Int → List Int × Int := FL frmChk (fun c out => out.length = c.length ∧ IsPerm out ∧ codeOf out = c)
theorem frm_call (A : Option Addr) (cap : Nat) (c : List Int) (w : World) (hcl : c.length ≤ 9223372036854775807) (h : Sl w w.heap.size A (ints c)) :
 Calls Tryz.prog 82 #[.slice A c.length cap] w fun e w' => ((frmChk c = 0 ∧ Tol0 (fun out => out.length = c.length ∧ IsPerm out ∧ codeOf out = c) w.heap.size e w') ∨ (frmChk c ≠ 0 ∧ e = .returned (.tuple #[.slice none 0 0, .int .i64 (frmChk c)]))) ∧ Below w.heap.size w w' := by
 refine (fromCode_any A cap c w hcl h).mono ?_
 rintro e w' ⟨hs, hb⟩
 refine ⟨?_, hb⟩
 rcases hs with ⟨k, hk, rfl, hn⟩ | ⟨h1, h2, B, out, c', rfl, ho, h3, h4, h5⟩
 · have e : frmChk c = k := by rw [hk]; unfold frmChk; rw [if_neg hn]
   refine .inr ⟨?_, by rw [e]⟩
   rw [e, hk]; split <;> decide
 · exact .inl ⟨by unfold frmChk; rw [if_pos ⟨h1, h2⟩], out, B, c', rfl, ho, h3, h4, h5⟩
theorem frmL : OpL 82 frmF :=
 opL (fun p h0 r s h h' => code_inj r s (h.2.1.perm_upTo.trans (by rw [h.1, ← h'.1]; exact h'.2.1.perm_upTo.symm)) (by rw [h.2.2, h'.2.2])) (fun p h0 r h => few_perm h.2.1 (by rw [h.1]; exact (frmChk_zero h0).1))
  (fun A cap p w _ hcl h h0 => (frm_call A cap p w hcl h).mono (fun _ _ hh => ⟨by
   rcases hh.1 with a | a
   · exact a.2
   · exact absurd h0 a.1, hh.2⟩)) (fun A cap p w hcl h0 h => (frm_call A cap p w hcl h).mono (fun _ _ hh => ⟨by
   rcases hh.1 with a | a
   · exact absurd a.1 h0
   · exact a.2, hh.2⟩))
noncomputable def fldF : List Int → List Int × Int := FL wordChk (fun p ys => ys = foldOf p)
theorem fldL : OpL 83 fldF :=
 opL (fun p h0 r s h h' => by rw [h, h']) (fun p h0 r h => by rw [h]; exact few_eq (foldOf_perm p) (few_word (wordChk_zero h0).2 (wordChk_zero h0).1))
  (fun A cap p w _ _ h h0 => fold_ok A cap p w (wordChk_zero h0).1 (wordChk_zero h0).2 h) (fun A cap p w hcl h0 h => fold_err A cap p w hcl h0 h)
noncomputable def unfF : List Int → List Int × Int := FL wordChk (fun p ys => ys = unfoldOf p ∧ ys.length = p.length)
theorem unfL : OpL 84 unfF :=
 opL (fun p h0 r s h h' => by rw [h.1, h'.1]) (fun p h0 r h => by rw [h.1]; exact few_eq (unfoldOf_perm p) (few_word (wordChk_zero h0).2 (wordChk_zero h0).1))
  (fun A cap p w _ _ h h0 => unfold_ok A cap p w (wordChk_zero h0).1 (wordChk_zero h0).2 h) (fun A cap p w hcl h0 h => unfold_err A cap p w hcl h0 h)
noncomputable def rndF : List Int → List Int × Int := FL permChk (fun p ys => ys = roundsOf p)
theorem rndL : OpL 85 rndF :=
 opL (fun p h0 r s h h' => by rw [h, h']) (fun p h0 r h => by
  have h1 := roundsTo_le (permChk_zero h0).2 p.length (Nat.le_refl _)
  have h2 := (permChk_zero h0).1
  have h3 : p.length * p.length ≤ 40 * 40 := Nat.mul_le_mul h2 h2
  have h4 : r.length ≤ p.length * p.length := by rw [h]; exact h1
  refine ⟨by omega, fun x hx => ?_⟩
  rw [h] at hx
  have := rounds_rng (permChk_zero h0).2 p.length (Nat.le_refl _) x hx
  omega)
  (fun A cap p w _ _ h h0 => rounds_ok A cap p w (permChk_zero h0).1 (permChk_zero h0).2 h) (fun A cap p w hcl h0 h => rounds_err A cap p w hcl h0 h)
theorem nxt_rng {p : List Int} (hp : IsPerm p) (hl : p.length ≤ 40) {k : Nat} (hk : k < p.length) : -1000000 ≤ nxt p k ∧ nxt p k ≤ 1000000 := by
 have ht : 0 ≤ topTo p k ∧ topTo p k ≤ 40 := by
  unfold topTo
  refine ⟨(foldl_max_ge (p.take (k + 1)) 0).1, ?_⟩
  rcases foldl_max_mem (p.take (k + 1)) 0 with e | e
  · rw [e]; decide
  · have := hp.2 _ (List.mem_of_mem_take e); omega
 have hg : 0 ≤ p.getD (k + 1) 100 ∧ p.getD (k + 1) 100 ≤ 100 := by
  by_cases hk1 : k + 1 < p.length
  · rw [getD_get hk1]
    have := hp.2 _ (List.getElem_mem hk1); omega
  · rw [List.getD_eq_getElem?_getD, List.getElem?_eq_none (by omega)]; simp
 unfold nxt
 split <;> omega
noncomputable def unrF : List Int → List Int × Int := FL permChk (fun p ys => ys.length = p.length ∧ ∀ k, k < p.length → at1 ys (p.getD k 0) = nxt p k)
theorem unrL : OpL 86 unrF :=
 opL (fun p h0 r s h h' => at1_ext (permChk_zero h0).2 h.1 h'.1 (fun k hk => by rw [h.2 k hk, h'.2 k hk])) (fun p h0 r h => few_at1 (permChk_zero h0).2 (permChk_zero h0).1 h.1 (fun k hk => by rw [h.2 k hk]; exact nxt_rng (permChk_zero h0).2 (permChk_zero h0).1 hk))
  (fun A cap p w _ _ h h0 => unrounds_ok A cap p w (permChk_zero h0).1 (permChk_zero h0).2 h) (fun A cap p w hcl h0 h => unrounds_err A cap p w hcl h0 h)
noncomputable def lngF : List Int → List Int × Int := FL wordChk (fun p ys => ys = (glT p p.length).1)
theorem lngL : OpL 87 lngF :=
 opL (fun p h0 r s h h' => by rw [h, h']) (fun p h0 r h => by
  have hl := (wordChk_zero h0).1
  refine ⟨by rw [h]; have := glT_len p p.length; omega, fun x hx => ?_⟩
  rw [h] at hx
  have := few_glT p p.length x hx; omega)
  (fun A cap p w _ hcl h h0 => (longest_any A cap p w hcl h).mono (fun _ _ hh => ⟨by
   rcases hh.1 with a | a
   · exact a.2
   · exact absurd h0 a.1, hh.2⟩)) (fun A cap p w hcl h0 h => (longest_any A cap p w hcl h).mono (fun _ _ hh => ⟨by
   rcases hh.1 with a | a
   · exact absurd a.1 h0
   · exact a.2, hh.2⟩))
open Classical in
noncomputable def EF (ok : List Int → Prop) (ys : List Int → List Int) (p : List Int) : List Int × Int := if ok p then (ys p, 0) else ([], if partChk p = 0 then 3 else partChk p)
theorem opE {f : FuncId} {ok : List Int → Prop} {ys : List Int → List Int} (hfew : ∀ p, ok p → Few (ys p))
 (hcall : ∀ (A : Option Addr) (cap : Nat) (p : List Int) (w : World), p.length ≤ 9223372036854775807 → Sl w w.heap.size A (ints p) → Calls Tryz.prog f #[.slice A p.length cap] w fun e w' => EulOut e w' w.heap.size (ok p) (ys p) p ∧ Below w.heap.size w w') : OpL f (EF ok ys) := by
 refine ⟨fun p => ?_, fun p hp => ?_, fun A cap p w hcap hcl h => (hcall A cap p w hcl h).mono ?_⟩
 · unfold EF
   by_cases h : ok p
   · rw [if_pos h]; exact hfew p h
   · rw [if_neg h]; exact Few.nil
 · unfold EF at hp ⊢
   by_cases h : ok p
   · rw [if_pos h] at hp; exact absurd rfl hp
   · rw [if_neg h]
 · rintro e w' ⟨⟨k, xs, A', c', rfl, ho, hl, h1, h2, h3, h4⟩, hb⟩
   refine ⟨?_, hb⟩
   unfold EF
   by_cases h : ok p
   · rw [if_pos h]
     obtain rfl := h2 h
     obtain rfl := (h1 rfl).2
     exact ⟨A', c', rfl, ho⟩
   · rw [if_neg h]
     have hk : k ≠ 0 := fun e => h (h1 e).1
     obtain rfl := h3 hk
     rw [← h4 hk]
     exact ⟨A', c', rfl, ho⟩
theorem sortD_perm (l : List Int) : (sortD l).Perm l := List.mergeSort_perm _ _
noncomputable def splF : List Int → List Int × Int := EF (fun p => IsPart p ∧ p.sum ≤ 40 ∧ IsUnlike p) (fun p => sortD (p.flatMap split1))
theorem splL : OpL 79 splF :=
 opE (fun p ⟨hp, hs, _⟩ => by
  have hb : ∀ x ∈ p, 1 ≤ x ∧ x ≤ 40 := fun x hx => part_le hp hs hx
  refine few_eq (sortD_perm _) ⟨?_, fun x hx => ?_⟩
  · have := split_len hb hs p.length
    rw [List.take_length] at this; omega
  · obtain ⟨y, hy, h2⟩ := List.mem_flatMap.1 hx
    have := split1_mem (hb y hy).1 (hb y hy).2 h2; omega) (fun A cap p w hcl h => split_any A cap p w hcl h)
noncomputable def mrgF : List Int → List Int × Int := EF (fun p => IsPart p ∧ p.sum ≤ 40 ∧ ∀ x ∈ p, x % 2 = 1) (fun p => sortD (mergeL p))
theorem mrgL : OpL 78 mrgF :=
 opE (fun p _ => by
  refine few_eq (sortD_perm _) ⟨?_, fun x hx => ?_⟩
  · have := merge_len p odds
    unfold mergeL
    have e : odds.length = 20 := by decide
    omega
  · unfold mergeL at hx
    obtain ⟨n, hn, h2⟩ := List.mem_flatMap.1 hx
    unfold merge1 at h2
    obtain ⟨j, hj, rfl⟩ := List.mem_map.1 h2
    have hn2 : n ≤ 39 := by
     unfold odds at hn
     obtain ⟨i, hi, rfl⟩ := List.mem_map.1 hn
     have := List.mem_range.1 hi; omega
    have hj2 : j < 6 := by
     unfold bts at hj
     exact List.mem_range.1 (List.mem_filter.1 hj).1
    have h3 : 2 ^ j ≤ 2 ^ 6 := Nat.pow_le_pow_right (by omega) (by omega)
    have h4 : n * 2 ^ j ≤ 39 * 2 ^ 6 := Nat.mul_le_mul hn2 h3
    have h5 : 39 * 2 ^ 6 = 2496 := by decide
    omega) (fun A cap p w hcl h => merge_any A cap p w hcl h)
noncomputable def timF (p q : List Int) : List Int × Int := if pairChk p q = 0 then (tms p q, 0) else ([], pairChk p q)
theorem tim_few (p q : List Int) : Few (timF p q).1 := by
 unfold timF
 by_cases h : pairChk p q = 0
 · rw [if_pos h]
   obtain ⟨hp0, hq0, hl⟩ := pairChk_zero.1 h
   refine ⟨by rw [tms_length]; have := (permChk_zero hq0).1; omega, fun x hx => ?_⟩
   unfold tms at hx
   obtain ⟨y, _, rfl⟩ := List.mem_map.1 hx
   unfold at1
   by_cases hy : (y - 1).toNat < p.length
   · rw [getD_get hy]
     have := (permChk_zero hp0).2.2 _ (List.getElem_mem hy)
     have := (permChk_zero hp0).1
     omega
   · rw [List.getD_eq_getElem?_getD, List.getElem?_eq_none (by omega)]; simp
 · rw [if_neg h]; exact Few.nil
theorem tim_call (A A' : Option Addr) (cap cap' : Nat) (p q : List Int) (w : World) (hp : p.length ≤ 9223372036854775807) (hq : q.length ≤ 9223372036854775807) (h : Sl w w.heap.size A (ints p)) (h' : Sl w w.heap.size A' (ints q)) :
 Calls Tryz.prog 95 #[.slice A p.length cap, .slice A' q.length cap'] w fun e w' => LsOut (timF p q) w.heap.size e w' ∧ Below w.heap.size w w' := by
 unfold timF
 by_cases h0 : pairChk p q = 0
 · rw [if_pos h0]
   refine (times_ok A A' cap cap' p q w h0 h h').mono ?_
   rintro e w' ⟨⟨xs, A', c', rfl, ho, rfl⟩, hb⟩
   exact ⟨⟨A', c', rfl, ho⟩, hb⟩
 · rw [if_neg h0]
   refine (times_err A A' cap cap' p q w hp hq h0 h h').mono ?_
   rintro e w' ⟨rfl, hb⟩
   exact ⟨lout_bad _ _ _, hb⟩
end
section
def pull (r : List Int) (z : Int) : List Int × Int := (r.set (r.countP (· < z) - 1) z, r.getD (r.countP (· < z) - 1) 0)
def unb : List (List Int) → Nat → List (List Int) × Int
  | [], _ => ([], 0)
  | r :: t, 0 => (if r.length = 1 then [] else r.dropLast :: t, r.getD (r.length - 1) 0)
  | r :: t, i + 1 => ((pull r (unb t i).2).1 :: (unb t i).1, (pull r (unb t i).2).2)
theorem push_split : ∀ {r : List Int} {x z : Int}, (push1 r x).2 = some z → ∃ u v, r = u ++ z :: v ∧ (push1 r x).1 = u ++ x :: v ∧ (∀ y ∈ u, y ≤ x) ∧ x < z
  | [], x, z, h => by simp [push1] at h
  | a :: s, x, z, h => by
    by_cases c : x < a
    · rw [push1_lt c] at h ⊢
      obtain rfl : a = z := by simpa using h
      exact ⟨[], s, rfl, rfl, by simp, c⟩
    · rw [push1_ge (by omega)] at h ⊢
      obtain ⟨u, v, e1, e2, e3, e4⟩ := push_split h
      refine ⟨a :: u, v, by rw [e1]; rfl, by rw [e2]; rfl, fun y hy => ?_, e4⟩
      rcases List.mem_cons.1 hy with rfl | hy
      · omega
      · exact e3 y hy
theorem push_join {v : List Int} {x z : Int} (hz : x < z) : ∀ {u : List Int}, (∀ y ∈ u, y ≤ x) → push1 (u ++ z :: v) x = (u ++ x :: v, some z)
  | [], _ => push1_lt hz
  | a :: u, h => by
    show push1 (a :: (u ++ z :: v)) x = _
    rw [push1_ge (h a (by simp)), push_join hz (fun y hy => h y (List.mem_cons_of_mem _ hy))]; rfl
theorem pull_at {u v : List Int} {x z : Int} (hu : ∀ y ∈ u, y < z) (hx : x < z) (hv : ∀ y ∈ v, z ≤ y) : pull (u ++ x :: v) z = (u ++ z :: v, x) := by
  have e1 : u.countP (· < z) = u.length := List.countP_eq_length.2 (fun y hy => by simpa using hu y hy)
  have e2 : v.countP (· < z) = 0 := List.countP_eq_zero.2 (fun y hy => by have := hv y hy; simp; omega)
  have e : (u ++ x :: v).countP (· < z) - 1 = u.length := by
    rw [List.countP_append, List.countP_cons_of_pos (by simpa using hx), e1, e2]; omega
  unfold pull
  rw [e]
  refine Prod.ext ?_ ?_
  · simp
  · simp
theorem pull_split : ∀ {r : List Int} {z : Int}, Up r → (∃ y ∈ r, y < z) → ∃ u x v, r = u ++ x :: v ∧ (∀ y ∈ u, y ≤ x) ∧ x < z ∧ ∀ y ∈ v, z ≤ y
  | [], z, _, h => by obtain ⟨y, hy, _⟩ := h; simp at hy
  | a :: s, z, hup, h => by
    by_cases c : ∃ y ∈ s, y < z
    · obtain ⟨u, x, v, e1, e2, e3, e4⟩ := pull_split hup.tail c
      refine ⟨a :: u, x, v, by rw [e1]; rfl, fun y hy => ?_, e3, e4⟩
      rcases List.mem_cons.1 hy with rfl | hy
      · exact hup.head x (by rw [e1]; simp)
      · exact e2 y hy
    · obtain ⟨y, hy, hlt⟩ := h
      refine ⟨[], a, s, rfl, by simp, ?_, fun y hy => ?_⟩
      · rcases List.mem_cons.1 hy with rfl | hy
        · exact hlt
        · exact absurd ⟨y, hy, hlt⟩ c
      · apply Int.not_lt.1
        intro h2
        exact c ⟨y, hy, h2⟩
theorem push_pos : ∀ {s : List Int} {z : Int}, Up s → ∃ k : Nat, (push1 s z).1[k]? = some z ∧ ∀ (j : Nat) b, k ≤ j → s[j]? = some b → z < b
  | [], z, _ => ⟨0, rfl, fun j b _ h => by simp at h⟩
  | a :: s, z, h => by
    by_cases c : z < a
    · rw [push1_lt c]
      refine ⟨0, rfl, fun j b _ hb => ?_⟩
      cases j with
      | zero => obtain rfl : a = b := by simpa using hb
                exact c
      | succ j => have := h.head b (List.mem_of_getElem? (by simpa using hb)); omega
    · rw [push1_ge (by omega)]
      obtain ⟨k, h1, h2⟩ := push_pos (z := z) h.tail
      refine ⟨k + 1, by simpa using h1, fun j b hj hb => ?_⟩
      cases j with
      | zero => omega
      | succ j => exact h2 j b (by omega) (by simpa using hb)
theorem push_low : ∀ {s : List Int} {z : Int} {j : Nat} {b : Int}, s[j]? = some b → ∃ b', (push1 s z).1[j]? = some b' ∧ b' ≤ b
  | [], z, j, b, h => by simp at h
  | a :: s, z, j, b, h => by
    by_cases c : z < a
    · rw [push1_lt c]
      cases j with
      | zero => obtain rfl : a = b := by simpa using h
                exact ⟨z, rfl, by omega⟩
      | succ j => exact ⟨b, by simpa using h, Int.le_refl _⟩
    · rw [push1_ge (by omega)]
      cases j with
      | zero => exact ⟨b, by simpa using h, Int.le_refl _⟩
      | succ j => exact push_low (s := s) (j := j) (by simpa using h)
theorem ins1_unb : ∀ {T : List (List Int)} {i : Nat}, Tab T → i < T.length → (T.getD (i + 1) []).length < (T.getD i []).length → Tab (unb T i).1 ∧ ins1 (unb T i).1 (unb T i).2 = T ∧ irow (unb T i).1 (unb T i).2 = i
  | [], i, _, h, _ => by simp at h
  | r :: t, 0, h, _, hc => by
    obtain ⟨h1, h2, h3, h4⟩ := h
    have hhd : ((r :: t).getD 1 []) = t.headD [] := by cases t <;> rfl
    rw [hhd] at hc
    have hr : (r :: t).getD 0 [] = r := rfl
    rw [hr] at hc
    obtain ⟨d, x, rfl⟩ : ∃ d x, r = d ++ [x] := ⟨r.dropLast, r.getLast h1, (List.dropLast_concat_getLast h1).symm⟩
    have hx : ∀ y ∈ d, y ≤ x := fun y hy => (List.pairwise_append.1 h2).2.2 y hy x (by simp)
    have e2 : (unb ((d ++ [x]) :: t) 0).2 = x := by simp [unb]
    rw [e2]
    by_cases hd : d = []
    · subst hd
      have ht : t = [] := by
        cases t with
        | nil => rfl
        | cons s t' =>
          have := h4.1
          simp at hc
          exact absurd hc this
      subst ht
      exact ⟨by simp [unb, Tab], by simp [unb, ins1], by simp [unb, irow]⟩
    · have hl : 0 < d.length := List.length_pos_iff.2 hd
      have e1 : (unb ((d ++ [x]) :: t) 0).1 = d :: t := by
        simp only [unb]
        rw [if_neg (by simp; omega)]; simp
      rw [e1]
      have hp := push1_end hx
      refine ⟨⟨hd, (List.pairwise_append.1 h2).1, dom_of (fun j b hb => ?_), h4⟩, by simp [ins1, hp], by simp [irow, hp]⟩
      obtain ⟨a, ha, hab⟩ := dom_at h3 hb
      have hj := (List.getElem?_eq_some_iff.1 hb).1
      refine ⟨a, ?_, hab⟩
      rw [List.length_append] at hc
      rw [List.getElem?_append_left (by simp only [List.length_cons, List.length_nil] at hc; omega)] at ha
      exact ha
  | r :: t, i + 1, h, hi, hc => by
    obtain ⟨h1, h2, h3, h4⟩ := h
    obtain ⟨g1, g2, g3⟩ := ins1_unb (T := t) (i := i) h4 (by simpa using hi) hc
    obtain ⟨t', ht'⟩ : ∃ t', t' = (unb t i).1 := ⟨_, rfl⟩
    obtain ⟨z, hz⟩ : ∃ z, z = (unb t i).2 := ⟨_, rfl⟩
    simp only [unb]
    rw [← ht'] at g1 g2 g3 ⊢
    rw [← hz] at g2 g3 ⊢
    have hhd : t.headD [] = (push1 (t'.headD []) z).1 := by rw [← g2]; exact ins1_headD t' z
    have hup' : Up (t'.headD []) := by
      cases t' with
      | nil => exact List.Pairwise.nil
      | cons s _ => exact g1.2.1
    obtain ⟨k, hk1, hk2⟩ := push_pos (z := z) hup'
    rw [← hhd] at hk1
    obtain ⟨a, ha, haz⟩ := dom_at h3 hk1
    obtain ⟨u, x, v, e1, e2, e3, e4⟩ := pull_split (z := z) h2 ⟨a, List.mem_of_getElem? ha, haz⟩
    have hpl := pull_at (v := v) (z := z) (fun y hy => by have := e2 y hy; omega) e3 e4
    rw [← e1] at hpl
    rw [hpl]
    have hpj := push_join (v := v) e3 e2
    have hku : k ≤ u.length := by
      apply Classical.byContradiction
      intro hn
      rw [e1, List.getElem?_append_right (by omega)] at ha
      obtain ⟨m, hm⟩ : ∃ m, k - u.length = m + 1 := ⟨k - u.length - 1, by omega⟩
      rw [hm, List.getElem?_cons_succ] at ha
      have := e4 a (List.mem_of_getElem? ha)
      omega
    refine ⟨⟨by simp, ?_, dom_of (fun j b hb => ?_), g1⟩, ?_, ?_⟩
    · rw [e1] at h2
      obtain ⟨p1, p2, p3⟩ := List.pairwise_append.1 h2
      refine List.pairwise_append.2 ⟨p1, List.pairwise_cons.2 ⟨e4, (List.pairwise_cons.1 p2).2⟩, fun y hy y' hy' => ?_⟩
      rcases List.mem_cons.1 hy' with rfl | hy'
      · have := e2 y hy; omega
      · exact p3 y hy y' (List.mem_cons_of_mem _ hy')
    · by_cases e : j = u.length
      · refine ⟨z, by rw [e]; simp, hk2 j b (by omega) hb⟩
      · obtain ⟨b', hb', hle⟩ := push_low (z := z) hb
        rw [← hhd] at hb'
        obtain ⟨a2, ha2, hlt⟩ := dom_at h3 hb'
        refine ⟨a2, ?_, by omega⟩
        rw [e1] at ha2
        by_cases c : j < u.length
        · rw [List.getElem?_append_left c] at ha2 ⊢; exact ha2
        · rw [List.getElem?_append_right (by omega)] at ha2 ⊢
          obtain ⟨m, hm⟩ : ∃ m, j - u.length = m + 1 := ⟨j - u.length - 1, by omega⟩
          rw [hm, List.getElem?_cons_succ] at ha2 ⊢; exact ha2
    · simp only [ins1]; rw [hpj]; simp only []; rw [g2, e1]
    · simp only [irow]; rw [hpj]; simp only []; rw [g3]
end
end Go.Proofs.YtpmkdihencepnaaGreatDoor
