/-
  The calls of a list, whatever comes in.
-/
import Derived.Test.YtpmkdihencepnaaGreatMg04
import Derived.Test.YtpmkdihencepnaaGreatMg07
import Derived.Test.YtpmkdihencepnaaGreatMg08
import Derived.Test.YtpmkdihencepnaaGreatMg17
import Derived.Test.YtpmkdihencepnaaGreatMg19
import Derived.Test.YtpmkdihencepnaaGreatMg21
import Derived.Test.YtpmkdihencepnaaGreatMg23
import Derived.Test.YtpmkdihencepnaaGreatMg24
namespace Go.Proofs.YtpmkdihencepnaaGreat
open Go.RowKit

/-- What is known of a function that tells a list of a list. -/
structure OpI (f : FuncId) (R : List Int → List Int → Prop) : Prop where
  fn : ∀ p r s, R p r → R p s → r = s
  sm : ∀ p r, R p r → r.length ≤ 100000
  call : ∀ (A : Option Addr) (cap : Nat) (p : List Int) (w : World), p.length ≤ cap → p.length ≤ 9223372036854775807 → Sl w w.heap.size A (ints p) →
    Calls Tryz.prog f #[.slice A p.length cap] w fun e w' => Tol (R p) w.heap.size e w' ∧ Below w.heap.size w w'
def Eit (ok : Prop) (ys xs : List Int) : Prop := (ok ∧ xs = ys) ∨ (¬ ok ∧ xs = [])
theorem Eit.fn {ok : Prop} {ys r s : List Int} (h : Eit ok ys r) (h' : Eit ok ys s) : r = s := by
  rcases h with ⟨a, rfl⟩ | ⟨a, rfl⟩ <;> rcases h' with ⟨b, rfl⟩ | ⟨b, rfl⟩
  · rfl
  · exact absurd a b
  · exact absurd b a
  · rfl
theorem Eit.sm {ok : Prop} {ys r : List Int} {m : Nat} (h : Eit ok ys r) (hl : ok → ys.length ≤ m) : r.length ≤ m := by
  rcases h with ⟨a, rfl⟩ | ⟨a, rfl⟩
  · exact hl a
  · exact Nat.zero_le _

theorem cntP_le (x y : Int) (h : x < y) : ∀ (l : List Int), x ∈ l → l.countP (fun m => decide (m < x)) < l.countP (fun m => decide (m < y))
  | [], hx => by cases hx
  | z :: l, hx => by
    have mono : ∀ l : List Int, l.countP (fun m => decide (m < x)) ≤ l.countP (fun m => decide (m < y)) := fun l => List.countP_mono_left (fun a _ ha => by
      have : a < x := of_decide_eq_true ha
      exact decide_eq_true (by omega))
    rw [List.countP_cons, List.countP_cons]
    rcases List.mem_cons.1 hx with rfl | hx
    · have := mono l
      simp [h]; omega
    · have := cntP_le x y h l hx
      by_cases c : z < x
      · have c2 : z < y := by omega
        simp [c, c2]; omega
      · have : (if decide (z < x) = true then 1 else 0) = 0 := by simp; omega
        rw [this]; omega
theorem code_inj : ∀ (p q : List Int), p.Perm q → codeOf p = codeOf q → p = q
  | [], q, h, _ => by rw [List.nil_perm.1 h]
  | x :: p, [], h, _ => by have := h.length_eq; simp at this
  | x :: p, y :: q, h, e => by
    rw [codeOf_cons, codeOf_cons] at e
    obtain ⟨e1, e2⟩ := List.cons.inj e
    have c1 : (x :: p).countP (fun m => decide (m < x)) = p.countP (fun m => decide (m < x)) := by rw [List.countP_cons]; simp
    have c2 : (y :: q).countP (fun m => decide (m < y)) = q.countP (fun m => decide (m < y)) := by rw [List.countP_cons]; simp
    have e3 : (x :: p).countP (fun m => decide (m < x)) = (x :: p).countP (fun m => decide (m < y)) := by
      rw [h.countP_eq (fun m => decide (m < y)), c1, c2]; omega
    have hxy : x = y := by
      rcases Int.lt_trichotomy x y with c | c | c
      · have := cntP_le x y c (x :: p) (by simp); omega
      · exact c
      · have := cntP_le y x c (x :: p) (h.mem_iff.2 (by simp)); omega
    subst hxy
    rw [code_inj p q h.cons_inv e2]
theorem at1_ext {q ys zs : List Int} (hq : IsPerm q) (h1 : ys.length = q.length) (h2 : zs.length = q.length) (h : ∀ k, k < q.length → at1 ys (q.getD k 0) = at1 zs (q.getD k 0)) : ys = zs := by
  apply List.ext_getElem (by omega)
  intro i hi hj
  have hm := hq.mem (x := (i : Int) + 1) (by omega) (by omega)
  obtain ⟨k, hk, e⟩ := List.getElem_of_mem hm
  have := h k hk
  rw [getD_get hk, e] at this
  unfold at1 at this
  rw [show ((i : Int) + 1 - 1).toNat = i by omega, getD_get hi, getD_get hj] at this
  exact this

set_option maxHeartbeats 400000 in
theorem word_err (A : Option Addr) (cap : Nat) (xs : List Int) (w : World) (hcl : xs.length ≤ 9223372036854775807) (hp : permChk xs ≠ 0) (h : Sl w w.heap.size A (ints xs)) :
    Calls Tryz.prog 15 #[.slice A xs.length cap] w fun e w' => e = .returned (.tuple #[.slice none 0 0, .int .i64 (permChk xs)]) ∧ Below w.heap.size w w' := by
  obtain ⟨c, hc⟩ : ∃ c, c = permChk xs := ⟨_, rfl⟩
  have hd : (c != 0) = true := by rw [hc]; simpa using hp
  have HC := Lib.hid hc
  clear hc hp
  go_enter Tryz.func15, Tryz.ntmps15
  go_wp2_with fail
  refine (check_any _ _ _ _ hcl h).mono ?_
  rintro e w1 ⟨rfl, hb1⟩
  rw [← HC.out]
  go_wp2
  go_ret2
  exact ⟨by rw [← HC.out]; rfl, hb1⟩

set_option maxHeartbeats 400000 in
theorem fold_err (A : Option Addr) (cap : Nat) (xs : List Int) (w : World) (hcl : xs.length ≤ 9223372036854775807) (hp : wordChk xs ≠ 0) (h : Sl w w.heap.size A (ints xs)) :
    Calls Tryz.prog 16 #[.slice A xs.length cap] w fun e w' => e = .returned (.tuple #[.slice none 0 0, .int .i64 (wordChk xs)]) ∧ Below w.heap.size w w' := by
  obtain ⟨c, hc⟩ : ∃ c, c = wordChk xs := ⟨_, rfl⟩
  have hd : (c != 0) = true := by rw [hc]; simpa using hp
  have HC := Lib.hid hc
  clear hc hp
  go_enter Tryz.func16, Tryz.ntmps16
  go_wp2_with fail
  refine (letters_any _ _ _ _ hcl h).mono ?_
  rintro e w1 ⟨rfl, rfl⟩
  rw [← HC.out]
  go_wp2
  go_ret2
  exact ⟨by rw [← HC.out]; rfl, Below.refl _ _⟩

set_option maxHeartbeats 400000 in
theorem unfold_err (A : Option Addr) (cap : Nat) (xs : List Int) (w : World) (hcl : xs.length ≤ 9223372036854775807) (hp : wordChk xs ≠ 0) (h : Sl w w.heap.size A (ints xs)) :
    Calls Tryz.prog 17 #[.slice A xs.length cap] w fun e w' => e = .returned (.tuple #[.slice none 0 0, .int .i64 (wordChk xs)]) ∧ Below w.heap.size w w' := by
  obtain ⟨c, hc⟩ : ∃ c, c = wordChk xs := ⟨_, rfl⟩
  have hd : (c != 0) = true := by rw [hc]; simpa using hp
  have HC := Lib.hid hc
  clear hc hp
  go_enter Tryz.func17, Tryz.ntmps17
  go_wp2_with fail
  refine (letters_any _ _ _ _ hcl h).mono ?_
  rintro e w1 ⟨rfl, rfl⟩
  rw [← HC.out]
  go_wp2
  go_ret2
  exact ⟨by rw [← HC.out]; rfl, Below.refl _ _⟩

theorem conj_own (A : Option Addr) (cap : Nat) (p : List Int) (w : World) (hcl : p.length ≤ 9223372036854775807) (h : Sl w w.heap.size A (ints p)) :
    Calls Tryz.prog 4 #[.slice A p.length cap] w fun e w' => Tol (Eit (partChk p = 0) (flipOf p)) w.heap.size e w' ∧ Below w.heap.size w w' := by
  by_cases hc : partChk p = 0
  · have HC := Lib.hid hc
    obtain ⟨hp, hs⟩ := partChk_zero.1 hc
    clear hc
    go_enter Tryz.func4, Tryz.ntmps4
    go_wp2_with fail
    refine (pcheck_any _ _ _ _ hcl h).mono ?_
    rintro e w0 ⟨rfl, rfl⟩
    rw [HC.out]
    go_wp2_with fail
    refine (flipped_any _ _ _ _ hp hs h).mono ?_
    rintro e w1 ⟨v, rfl, hown, hb⟩
    have HO := Lib.hid hown
    clear hown
    go_wp2
    go_ret2
    exact ⟨tol_own HO.out 0 (.inl ⟨HC.out, rfl⟩), hb⟩
  · obtain ⟨c, hcc⟩ : ∃ c, c = partChk p := ⟨_, rfl⟩
    have hd : (c != 0) = true := by rw [hcc]; simpa using hc
    have hc' : Hid (partChk p ≠ 0) := hc
    have HC := Lib.hid hcc
    clear hc hcc
    go_enter Tryz.func4, Tryz.ntmps4
    go_wp2_with fail
    refine (pcheck_any _ _ _ _ hcl h).mono ?_
    rintro e w0 ⟨rfl, rfl⟩
    rw [← HC.out]
    go_wp2
    go_ret2
    exact ⟨tol_bad _ _ _ (.inr ⟨hc'.out, rfl⟩), Below.refl _ _⟩
theorem conj_sm {p r : List Int} (h : Eit (partChk p = 0) (flipOf p) r) : r.length ≤ 100000 := h.sm (fun h0 => by
  obtain ⟨hp, hs⟩ := partChk_zero.1 h0
  have := (flip_part hp).len (by rw [flip_sum hp]; exact hs)
  omega)
theorem conjI : OpI 4 (fun p => Eit (partChk p = 0) (flipOf p)) :=
  ⟨fun _ _ _ => Eit.fn, fun _ _ h => conj_sm h, fun A cap p w _ hcl h => conj_own A cap p w hcl h⟩
theorem eul_tol {ok : Prop} {ys : List Int} {B : Nat} {e : Ending} {w : World} (h : EulOut e w B ok ys) : Tol (fun xs => Eit ok ys xs ∧ xs.length ≤ 100000) B e w := by
  obtain ⟨k, xs, A', c', rfl, ho, hl, h1, h2, h3⟩ := h
  refine ⟨xs, A', c', k, rfl, ho, ?_, hl⟩
  by_cases hk : k = 0
  · exact .inl (h1 hk)
  · exact .inr ⟨fun hok => hk (h2 hok), h3 hk⟩
theorem splitI : OpI 11 (fun p xs => Eit (IsPart p ∧ p.sum ≤ 40 ∧ IsUnlike p) (sortD (p.flatMap split1)) xs ∧ xs.length ≤ 100000) :=
  ⟨fun _ _ _ h h' => h.1.fn h'.1, fun _ _ h => h.2, fun A cap p w _ hcl h => (split_any A cap p w hcl h).mono (fun _ _ hh => ⟨eul_tol hh.1, hh.2⟩)⟩
theorem mergeI : OpI 10 (fun p xs => Eit (IsPart p ∧ p.sum ≤ 40 ∧ ∀ x ∈ p, x % 2 = 1) (sortD (mergeL p)) xs ∧ xs.length ≤ 100000) :=
  ⟨fun _ _ _ h h' => h.1.fn h'.1, fun _ _ h => h.2, fun A cap p w _ hcl h => (merge_any A cap p w hcl h).mono (fun _ _ hh => ⟨eul_tol hh.1, hh.2⟩)⟩
/-- A kind of answers, where the check finds no fault. -/
def Chk (c : Int) (R : List Int → Prop) (xs : List Int) : Prop := (c = 0 ∧ R xs) ∨ (c ≠ 0 ∧ xs = [])
theorem Chk.fn {c : Int} {R : List Int → Prop} (hR : c = 0 → ∀ r s, R r → R s → r = s) {r s : List Int} (h : Chk c R r) (h' : Chk c R s) : r = s := by
  rcases h with ⟨a, h1⟩ | ⟨a, rfl⟩ <;> rcases h' with ⟨b, h2⟩ | ⟨b, rfl⟩
  · exact hR a r s h1 h2
  · exact absurd a b
  · exact absurd b a
  · rfl
theorem Chk.sm {c : Int} {R : List Int → Prop} {m : Nat} (hR : c = 0 → ∀ r, R r → r.length ≤ m) {r : List Int} (h : Chk c R r) : r.length ≤ m := by
  rcases h with ⟨a, h1⟩ | ⟨a, rfl⟩
  · exact hR a r h1
  · exact Nat.zero_le _
theorem chkI {f : FuncId} {c : List Int → Int} {R : List Int → List Int → Prop} (hfn : ∀ p, c p = 0 → ∀ r s, R p r → R p s → r = s) (hsm : ∀ p, c p = 0 → ∀ r, R p r → r.length ≤ 100000)
    (hok : ∀ (A : Option Addr) (cap : Nat) (p : List Int) (w : World), p.length ≤ cap → p.length ≤ 9223372036854775807 → Sl w w.heap.size A (ints p) → c p = 0 → Calls Tryz.prog f #[.slice A p.length cap] w fun e w' => Tol (R p) w.heap.size e w' ∧ Below w.heap.size w w')
    (herr : ∀ (A : Option Addr) (cap : Nat) (p : List Int) (w : World), p.length ≤ 9223372036854775807 → c p ≠ 0 → Sl w w.heap.size A (ints p) → Calls Tryz.prog f #[.slice A p.length cap] w fun e w' => e = .returned (.tuple #[.slice none 0 0, .int .i64 (c p)]) ∧ Below w.heap.size w w') :
    OpI f (fun p => Chk (c p) (R p)) := by
  refine ⟨fun p r s => Chk.fn (hfn p), fun p r => Chk.sm (hsm p), fun A cap p w hcap hcl h => ?_⟩
  by_cases h0 : c p = 0
  · exact (hok A cap p w hcap hcl h h0).mono (fun e w' hh => ⟨hh.1.mono (fun xs hx => .inl ⟨h0, hx⟩), hh.2⟩)
  · refine (herr A cap p w hcl h0 h).mono ?_
    rintro e w' ⟨rfl, hb⟩
    exact ⟨tol_bad _ _ _ (.inr ⟨h0, rfl⟩), hb⟩
theorem invI : OpI 12 (fun p => Chk (permChk p) (IsInv p)) :=
  chkI (fun p h0 r s h h' => h.uniq (permChk_zero h0).2 h') (fun p h0 r h => by have := h.1; have := (permChk_zero h0).1; omega)
    (fun A cap p w _ _ h h0 => inverse_ok A cap p w (permChk_zero h0).1 (permChk_zero h0).2 h) (fun A cap p w hcl h0 h => inverse_err A cap p w hcl h0 h)
theorem codeI : OpI 13 (fun p => Chk (permChk p) (fun xs => xs = codeOf p)) :=
  chkI (fun p h0 r s h h' => by rw [h, h']) (fun p h0 r h => by rw [h, codeOf_length]; have := (permChk_zero h0).1; omega)
    (fun A cap p w hcap _ h h0 => (code_ok A cap p w hcap (permChk_zero h0).1 h0 h).mono (fun e w' ⟨A', c', he, ho, _, hb⟩ => ⟨⟨_, A', c', 0, he, ho, rfl⟩, hb⟩)) (fun A cap p w hcl h0 h => code_err A cap p w hcl h0 h)
/-- What FromCode tells. -/
def FromT (c out : List Int) : Prop := ((c.length ≤ 40 ∧ IsCode c) ∧ out.length = c.length ∧ IsPerm out ∧ codeOf out = c) ∨ (¬ (c.length ≤ 40 ∧ IsCode c) ∧ out = [])
theorem fromI : OpI 14 FromT := by
  refine ⟨fun p r s h h' => ?_, fun p r h => ?_, fun A cap p w _ hcl h => (fromCode_any A cap p w hcl h).mono ?_⟩
  · rcases h with ⟨a, h1, h2, h3⟩ | ⟨a, rfl⟩ <;> rcases h' with ⟨b, g1, g2, g3⟩ | ⟨b, rfl⟩
    · exact code_inj r s (h2.perm_upTo.trans (by rw [h1, ← g1]; exact g2.perm_upTo.symm)) (by rw [h3, g3])
    · exact absurd a b
    · exact absurd b a
    · rfl
  · rcases h with ⟨a, h1, h2, h3⟩ | ⟨a, rfl⟩
    · have := a.1; omega
    · simp
  · rintro e w' ⟨hs, hb⟩
    refine ⟨?_, hb⟩
    rcases hs with ⟨k, _, rfl, hn⟩ | ⟨h1, h2, B, out, c', rfl, ho, h3, h4, h5⟩
    · exact tol_bad _ _ _ (.inr ⟨hn, rfl⟩)
    · exact ⟨out, B, c', 0, rfl, ho, .inl ⟨⟨h1, h2⟩, h3, h4, h5⟩⟩
theorem wordI : OpI 15 (fun p => Chk (permChk p) (fun ys => WordT p ys ∧ ys.length ≤ 2000)) :=
  chkI (fun p h0 r s h h' => h.1.fn h'.1) (fun p h0 r h => by have := h.2; omega)
    (fun A cap p w _ _ h h0 => word_ok A cap p w (permChk_zero h0).1 h0 (permChk_zero h0).2 h) (fun A cap p w hcl h0 h => word_err A cap p w hcl h0 h)
theorem foldI : OpI 16 (fun p => Chk (wordChk p) (fun ys => ys = foldOf p)) :=
  chkI (fun p h0 r s h h' => by rw [h, h']) (fun p h0 r h => by rw [h, foldOf_length]; have := (wordChk_zero h0).1; omega)
    (fun A cap p w _ _ h h0 => fold_ok A cap p w (wordChk_zero h0).1 (wordChk_zero h0).2 h) (fun A cap p w hcl h0 h => fold_err A cap p w hcl h0 h)
theorem unfoldI : OpI 17 (fun p => Chk (wordChk p) (fun ys => ys = unfoldOf p ∧ ys.length ≤ 100000)) :=
  chkI (fun p h0 r s h h' => by rw [h.1, h'.1]) (fun p h0 r h => h.2)
    (fun A cap p w _ _ h h0 => (unfold_ok A cap p w (wordChk_zero h0).1 (wordChk_zero h0).2 h).mono (fun e w' hh => ⟨hh.1.mono (fun xs hx => ⟨hx.1, by have := hx.2; have := (wordChk_zero h0).1; omega⟩), hh.2⟩)) (fun A cap p w hcl h0 h => unfold_err A cap p w hcl h0 h)
theorem roundsI : OpI 18 (fun p => Chk (permChk p) (fun ys => ys = roundsOf p)) :=
  chkI (fun p h0 r s h h' => by rw [h, h']) (fun p h0 r h => by
      have h1 := roundsTo_le (permChk_zero h0).2 p.length (Nat.le_refl _)
      have h2 := (permChk_zero h0).1
      have h3 : p.length * p.length ≤ 40 * 40 := Nat.mul_le_mul h2 h2
      have h4 : r.length ≤ p.length * p.length := by rw [h]; exact h1
      omega)
    (fun A cap p w _ _ h h0 => rounds_ok A cap p w (permChk_zero h0).1 (permChk_zero h0).2 h) (fun A cap p w hcl h0 h => rounds_err A cap p w hcl h0 h)
theorem unroundsI : OpI 19 (fun p => Chk (permChk p) (fun ys => ys.length = p.length ∧ ∀ k, k < p.length → at1 ys (p.getD k 0) = nxt p k)) :=
  chkI (fun p h0 r s h h' => at1_ext (permChk_zero h0).2 h.1 h'.1 (fun k hk => by rw [h.2 k hk, h'.2 k hk])) (fun p h0 r h => by have := h.1; have := (permChk_zero h0).1; omega)
    (fun A cap p w _ _ h h0 => unrounds_ok A cap p w (permChk_zero h0).1 (permChk_zero h0).2 h) (fun A cap p w hcl h0 h => unrounds_err A cap p w hcl h0 h)
theorem longI : OpI 20 LongT := by
  refine ⟨fun p r s h h' => ?_, fun p r h => ?_, fun A cap p w _ hcl h => longest_any A cap p w hcl h⟩
  · rcases h with ⟨a, rfl⟩ | ⟨a, rfl⟩ <;> rcases h' with ⟨b, rfl⟩ | ⟨b, rfl⟩
    · rfl
    · exact absurd a b
    · exact absurd b a
    · rfl
  · rcases h with ⟨a, rfl⟩ | ⟨a, rfl⟩
    · have := glT_len p p.length; have := (wordChk_zero a).1; omega
    · simp
theorem parkI : OpI 21 ParkT := by
  refine ⟨fun p r s h h' => ?_, fun p r h => ?_, fun A cap p w _ hcl h => park_any A cap p w hcl h⟩
  · rcases h with ⟨a, b, c, d⟩ | ⟨a, rfl⟩ <;> rcases h' with ⟨a', b', c', d'⟩ | ⟨b', rfl⟩
    · exact c.fn c' (by omega)
    · exact absurd ⟨a, b⟩ b'
    · exact absurd ⟨a', b'⟩ a
    · rfl
  · rcases h with ⟨a, b, c, d⟩ | ⟨a, rfl⟩
    · omega
    · simp
end Go.Proofs.YtpmkdihencepnaaGreat

/-
  The calls that tell more than a list, or that take more.
-/
namespace Go.Proofs.YtpmkdihencepnaaGreat
open Go.RowKit

theorem FrobT.fn {p xs ys us vs : List Int} (h : FrobT p xs ys) (h' : FrobT p us vs) : xs = us ∧ ys = vs := by
  rcases h with ⟨⟨d, h1, rfl, rfl⟩, h2⟩ | ⟨a, rfl, rfl⟩ <;> rcases h' with ⟨⟨d', g1, rfl, rfl⟩, g2⟩ | ⟨b, rfl, rfl⟩
  · obtain rfl := h1.uniq g1; exact ⟨rfl, rfl⟩
  · exact absurd h2 b
  · exact absurd g2 a
  · exact ⟨rfl, rfl⟩
theorem FrobT.sm {p xs ys : List Int} (h : FrobT p xs ys) : xs.length ≤ 100000 ∧ ys.length ≤ 100000 := by
  rcases h with ⟨⟨d, h1, rfl, rfl⟩, h2⟩ | ⟨a, rfl, rfl⟩
  · rw [armsOf_length, armsOf_length]
    have := h1.len
    have := h2.1.len h2.2
    omega
  · simp
set_option maxHeartbeats 1000000 in
theorem frob_all (A : Option Addr) (cap : Nat) (p : List Int) (w : World) (hcl : p.length ≤ 9223372036854775807) (h : Sl w w.heap.size A (ints p)) :
    Calls Tryz.prog 22 #[.slice A p.length cap] w fun e w' => TolP (FrobT p) w.heap.size e w' ∧ Below w.heap.size w w' := by
  by_cases hc : partChk p = 0
  · exact frob_any A cap p w (partChk_zero.1 hc).1 (partChk_zero.1 hc).2 h
  · obtain ⟨c, hcc⟩ : ∃ c, c = partChk p := ⟨_, rfl⟩
    have hd : (c != 0) = true := by rw [hcc]; simpa using hc
    have hno : Hid (¬ (IsPart p ∧ p.sum ≤ 40)) := fun hh => hc (partChk_zero.2 hh)
    have HC := Lib.hid hcc
    clear hc hcc
    go_enter Tryz.func22, Tryz.ntmps22
    go_wp2_with fail
    refine (pcheck_any _ _ _ _ hcl h).mono ?_
    rintro e w0 ⟨rfl, rfl⟩
    rw [← HC.out]
    go_wp2
    go_ret3
    exact ⟨⟨[], [], none, none, 0, 0, c, rfl, World.ownsRow_nil _ _ _ _, World.ownsRow_nil _ _ _ _, fun k hk => by simp [Value.ownBlock] at hk, .inr ⟨hno.out, rfl, rfl⟩⟩, Below.refl _ _⟩

/-- What Franklin tells. -/
def TolB (R : List Int → Prop) (B : Nat) (e : Ending) (w : World) : Prop :=
  ∃ (xs : List Int) (A : Option Addr) (c : Nat) (b : Bool) (k : Int), e = .returned (.tuple #[.slice A xs.length c, .bool b, .int .i64 k]) ∧ w.ownsRow B 3 1 (.slice A xs.length c) xs.length (ints xs) ∧ R xs
def FrT (p xs : List Int) : Prop := (¬ Good p ∧ xs = []) ∨ (Good p ∧ p = [] ∧ xs = p) ∨ (Good p ∧ 0 < p.length ∧ ∃ k, IsRun p k ∧ ((CaseA p k ∧ xs = upA p) ∨ (CaseB p k ∧ xs = upB p k) ∨ (¬ CaseA p k ∧ ¬ CaseB p k ∧ xs = p)))
theorem case_not {p : List Int} {k : Nat} (h : CaseA p k) (h' : CaseB p k) : False := by
  have := h.1; have := h'.1; omega
theorem FrT.fn {p r s : List Int} (h : FrT p r) (h' : FrT p s) : r = s := by
  rcases h with ⟨a, rfl⟩ | ⟨a, b, rfl⟩ | ⟨a, b, k, hk, hc⟩ <;> rcases h' with ⟨a', rfl⟩ | ⟨a', b', rfl⟩ | ⟨a', b', k', hk', hc'⟩
  · rfl
  · exact absurd a' a
  · exact absurd a' a
  · exact absurd a a'
  · rfl
  · rw [b] at b'; simp at b'
  · exact absurd a a'
  · rw [b'] at b; simp at b
  · obtain rfl := hk.uniq hk'
    rcases hc with ⟨c, rfl⟩ | ⟨c, rfl⟩ | ⟨c1, c2, rfl⟩ <;> rcases hc' with ⟨d, rfl⟩ | ⟨d, rfl⟩ | ⟨d1, d2, rfl⟩
    · rfl
    · exact (case_not c d).elim
    · exact absurd c d1
    · exact (case_not d c).elim
    · rfl
    · exact absurd c d2
    · exact absurd d c1
    · exact absurd d c2
    · rfl
theorem FrT.sm {p r : List Int} (h : FrT p r) : r.length ≤ 100000 := by
  have hg : Good p → p.length ≤ 40 := fun g => g.part.len g.sum
  rcases h with ⟨a, rfl⟩ | ⟨a, b, rfl⟩ | ⟨a, b, k, hk, hc⟩
  · simp
  · have := hg a; omega
  · have h40 := hg a
    rcases hc with ⟨c, rfl⟩ | ⟨c, rfl⟩ | ⟨c1, c2, rfl⟩
    · unfold upA; rw [addK_length, List.length_take]; omega
    · unfold upB; rw [List.length_append, addK_length]; simp; omega
    · omega
theorem frank_all (A : Option Addr) (cap : Nat) (p : List Int) (w : World) (hcl : p.length ≤ 9223372036854775807) (h : Sl w w.heap.size A (ints p)) :
    Calls Tryz.prog 23 #[.slice A p.length cap] w fun e w' => TolB (FrT p) w.heap.size e w' ∧ Below w.heap.size w w' := by
  refine (franklin_any A cap p w hcl h).mono ?_
  rintro e w' ⟨hr, hb⟩
  refine ⟨?_, hb⟩
  rcases hr with ⟨hg, k, _, rfl⟩ | ⟨hg, hp, A', c', rfl, ho⟩ | ⟨hg, hp, k, hk, hc⟩
  · exact ⟨[], none, 0, false, k, rfl, World.ownsRow_nil _ _ _ _, .inl ⟨hg, rfl⟩⟩
  · exact ⟨p, A', c', false, 0, rfl, ho, .inr (.inl ⟨hg, hp, rfl⟩)⟩
  · rcases hc with ⟨c, A', c', rfl, ho⟩ | ⟨c, A', c', rfl, ho⟩ | ⟨c, d, A', c', rfl, ho⟩
    · exact ⟨_, A', c', true, 0, rfl, ho, .inr (.inr ⟨hg, hp, k, hk, .inl ⟨c, rfl⟩⟩)⟩
    · exact ⟨_, A', c', true, 0, rfl, ho, .inr (.inr ⟨hg, hp, k, hk, .inr (.inl ⟨c, rfl⟩)⟩)⟩
    · exact ⟨_, A', c', false, 0, rfl, ho, .inr (.inr ⟨hg, hp, k, hk, .inr (.inr ⟨c, d, rfl⟩)⟩)⟩

/-- What Measure tells. -/
def TolM (R : List Int → Prop) (B : Nat) (e : Ending) (w : World) : Prop :=
  ∃ (xs : List Int) (A : Option Addr) (c : Nat) (a b : Value) (k : Int), e = .returned (.tuple #[a, b, .slice A xs.length c, .int .i64 k]) ∧ w.ownsRow B 3 1 (.slice A xs.length c) xs.length (ints xs) ∧ R xs
theorem meas_all (A : Option Addr) (cap : Nat) (p : List Int) (w : World) (hcap : p.length ≤ cap) (hcl : p.length ≤ 9223372036854775807) (h : Sl w w.heap.size A (ints p)) :
    Calls Tryz.prog 24 #[.slice A p.length cap] w fun e w' => TolM (Chk (permChk p) (fun xs => xs = desT p p.length)) w.heap.size e w' ∧ Below w.heap.size w w' := by
  by_cases h0 : permChk p = 0
  · refine (measure_ok A cap p w hcap (permChk_zero h0).1 h0 h).mono ?_
    rintro e w' ⟨⟨mj, A', c', rfl, ho⟩, hb⟩
    exact ⟨⟨_, A', c', _, mj, 0, rfl, ho, .inl ⟨h0, rfl⟩⟩, hb⟩
  · refine (measure_err A cap p w hcl h0 h).mono ?_
    rintro e w' ⟨rfl, hb⟩
    exact ⟨⟨[], none, 0, _, _, _, rfl, World.ownsRow_nil _ _ _ _, .inr ⟨h0, rfl⟩⟩, hb⟩
theorem meas_fn {p r s : List Int} (h : Chk (permChk p) (fun xs => xs = desT p p.length) r) (h' : Chk (permChk p) (fun xs => xs = desT p p.length) s) : r = s := h.fn (fun _ r s a b => by rw [a, b]) h'
theorem meas_sm {p r : List Int} (h : Chk (permChk p) (fun xs => xs = desT p p.length) r) : r.length ≤ 100000 := h.sm (fun h0 r hr => by
  rw [hr]
  have := desT_len p p.length
  have := (permChk_zero h0).1
  omega)

def TimT (p q : List Int) : List Int → Prop := Chk (pairChk p q) (fun xs => xs = tms p q)
theorem TimT.fn {p q r s : List Int} (h : TimT p q r) (h' : TimT p q s) : r = s := Chk.fn (fun _ r s a b => by rw [a, b]) h h'
theorem TimT.sm {p q r : List Int} (h : TimT p q r) : r.length ≤ 100000 := Chk.sm (fun h0 r hr => by
  rw [hr, tms_length]
  have := (permChk_zero (pairChk_zero.1 h0).2.1).1
  omega) h
theorem times_all (A A' : Option Addr) (cap cap' : Nat) (p q : List Int) (w : World) (hp : p.length ≤ 9223372036854775807) (hq : q.length ≤ 9223372036854775807) (h : Sl w w.heap.size A (ints p)) (h' : Sl w w.heap.size A' (ints q)) :
    Calls Tryz.prog 25 #[.slice A p.length cap, .slice A' q.length cap'] w fun e w' => Tol (TimT p q) w.heap.size e w' ∧ Below w.heap.size w w' := by
  by_cases h0 : pairChk p q = 0
  · exact (times_ok A A' cap cap' p q w h0 h h').mono (fun _ _ hh => ⟨hh.1.mono (fun xs hx => .inl ⟨h0, hx⟩), hh.2⟩)
  · refine (times_err A A' cap cap' p q w hp hq h0 h h').mono ?_
    rintro e w' ⟨rfl, hb⟩
    exact ⟨tol_bad _ _ _ (.inr ⟨h0, rfl⟩), hb⟩
def ProT (k : Int) (ys : List Int) : List Int → Prop := Eit (0 ≤ k ∧ k ≤ 40 ∧ ∀ y ∈ ys, 1 ≤ y ∧ y < k) (unword ys (upTo k.toNat))
theorem ProT.sm {k : Int} {ys r : List Int} (h : ProT k ys r) : r.length ≤ 100000 := Eit.sm h (fun h0 => by rw [unword_length, length_upTo]; omega)
theorem product_all (A : Option Addr) (cap : Nat) (k : Int) (ys : List Int) (w : World) (hl : ys.length < 2000000) (h : Sl w w.heap.size A (ints ys)) :
    Calls Tryz.prog 26 #[.int .i64 k, .slice A ys.length cap] w fun e w' => Tol (ProT k ys) w.heap.size e w' ∧ Below w.heap.size w w' := by
  by_cases h0 : 0 ≤ k ∧ k ≤ 40 ∧ ∀ y ∈ ys, 1 ≤ y ∧ y < k
  · obtain ⟨n, rfl⟩ : ∃ n : Nat, k = n := ⟨k.toNat, by omega⟩
    exact (product_ok A cap n ys w (by omega) hl h0.2.2 h).mono (fun _ _ hh => ⟨hh.1.mono (fun xs hx => .inl ⟨h0, by rw [hx, Int.toNat_natCast]⟩), hh.2⟩)
  · refine (product_err A cap k ys w (by omega) h0 h).mono ?_
    rintro e w' ⟨rfl, rfl⟩
    exact ⟨tol_bad _ _ _ (.inr ⟨h0, rfl⟩), Below.refl _ _⟩
end Go.Proofs.YtpmkdihencepnaaGreat
