/-
  What each call tells, whatever comes in: rows of its own, determined by what came in, and few.
-/
import Derived.Test.YtpmkdihencepnaaMg08
import Derived.Test.YtpmkdihencepnaaMg09
import Derived.Test.YtpmkdihencepnaaMg10
import Derived.Test.YtpmkdihencepnaaMg12
import Derived.Test.YtpmkdihencepnaaMg13
import Derived.Test.YtpmkdihencepnaaMg18
import Derived.Test.YtpmkdihencepnaaMg21
import Derived.Test.YtpmkdihencepnaaMg25
import Derived.Test.YtpmkdihencepnaaMg26
import Derived.Test.YtpmkdihencepnaaMg27
namespace Go.Proofs.Ytpmkdihencepnaa
open Go.RowKit

/-- Few rows, and short ones. -/
def Sm (rows : List (List Int)) : Prop := rows.length ≤ 1000 ∧ ∀ i, (rows.getD i []).length ≤ 1000
theorem Sm.nil : Sm [] := ⟨by simp, fun i => by simp⟩
theorem FillOk.sm {T : List (List Int)} (h : FillOk T) : Sm T := ⟨by have := h.small.1; omega, fun i => by have := h.small.2 i; omega⟩
theorem SkOk.sm {T : List (List Int)} (h : SkOk T) : Sm T := ⟨by have := h.small.1; omega, fun i => by have := h.small.2 i; omega⟩
theorem Sm.of {T : List (List Int)} {n m : Nat} (hn : T.length = n) (h : n ≤ 1000) (hm : m ≤ 1000) (h2 : ∀ i, i < n → (T.getD i []).length ≤ m) : Sm T :=
  ⟨by omega, fun i => by
    by_cases e : i < n
    · have := h2 i e; omega
    · rw [getD_far (by omega)]; simp⟩
/-- A kind of rows: so where P, else none. -/
def WhenR (P : Prop) (F : List (List Int) → Prop) (rows : List (List Int)) : Prop := (P ∧ F rows) ∨ (¬ P ∧ rows = [])
theorem WhenR.fn {P : Prop} {F : List (List Int) → Prop} (hF : ∀ r s, P → F r → F s → r = s) {r s : List (List Int)} (h : WhenR P F r) (h' : WhenR P F s) : r = s := by
  rcases h with ⟨a, h1⟩ | ⟨a, rfl⟩ <;> rcases h' with ⟨c, h2⟩ | ⟨c, rfl⟩
  · exact hF r s a h1 h2
  · exact absurd a c
  · exact absurd c a
  · rfl
theorem WhenR.sm {P : Prop} {F : List (List Int) → Prop} (hF : ∀ r, P → F r → Sm r) {r : List (List Int)} (h : WhenR P F r) : Sm r := by
  rcases h with ⟨a, h1⟩ | ⟨a, rfl⟩
  · exact hF r a h1
  · exact Sm.nil
theorem told_mk {B : Nat} {e : Ending} {w : World} {k : Int} {rows : List (List Int)} {A : Option Addr} {c : Nat} (he : e = .returned (.tuple #[.slice A rows.length c, .int .i64 k])) (ho : OwnR w B A c rows) {P : Prop} {F : List (List Int) → Prop}
    (h0 : k = 0 → P ∧ F rows) (h1 : P → k = 0) (h2 : k ≠ 0 → rows = []) : Told (WhenR P F) B e w := by
  refine ⟨rows, A, c, k, he, ho, ?_⟩
  by_cases hk : k = 0
  · exact .inl (h0 hk)
  · exact .inr ⟨fun hp => hk (h1 hp), h2 hk⟩
theorem told3_mk {B : Nat} {e : Ending} {w : World} {i k : Int} {rows : List (List Int)} {A : Option Addr} {c : Nat} (he : e = .returned (.tuple #[.slice A rows.length c, .int .i64 i, .int .i64 k])) (ho : OwnR w B A c rows) {P : Prop} {F : List (List Int) → Prop}
    (h0 : k = 0 → P ∧ F rows) (h1 : P → k = 0) (h2 : k ≠ 0 → rows = []) : Told3 (WhenR P F) B e w := by
  refine ⟨rows, A, c, i, k, he, ho, ?_⟩
  by_cases hk : k = 0
  · exact .inl (h0 hk)
  · exact .inr ⟨fun hp => hk (h1 hp), h2 hk⟩
/-- What is known of a function that tells rows of rows. -/
structure OpC (f : FuncId) (R : List (List Int) → List (List Int) → Prop) : Prop where
  fn : ∀ T r s, R T r → R T s → r = s
  sm : ∀ T r, R T r → Sm r
  call : ∀ (A : Option Addr) (cap : Nat) (T : List (List Int)) (w : World), T.length ≤ 9223372036854775807 → SR w w.heap.size A T →
    Calls Try.prog f #[.slice A T.length cap] w fun e w' => Told (R T) w.heap.size e w' ∧ Below w.heap.size w w'

theorem stdA : OpC 4 (fun T => WhenR (FillOk T) (fun rows => rows = Std1.std T)) := by
  refine ⟨fun T r s => WhenR.fn (fun r s _ h1 h2 => h1.trans h2.symm), fun T r => WhenR.sm (fun r hp h1 => ?_), fun A cap T w hT h => (std_any A cap T w hT h).mono ?_⟩
  · subst h1
    exact Sm.of (Std1.std_length T) (by have := hp.small.1; omega) (Nat.le_refl _) (fun i _ => by have h2 := Std1.std_len T i; have := hp.small.2 i; unfold Std1.len at h2; omega)
  · rintro e w' ⟨hs, hb⟩
    refine ⟨?_, hb⟩
    rcases hs with ⟨hok, v, hs, rfl, hm⟩ | ⟨hno, k, hk, rfl⟩
    · obtain ⟨A', c', rfl, ho, _, _⟩ := hm.ownR
      exact told_mk rfl ho (fun _ => ⟨hok, rfl⟩) (fun _ => rfl) (fun e => absurd rfl e)
    · exact told_mk (rows := []) rfl (OwnR.nil _ _) (fun e => absurd e hk) (fun e => absurd e hno) (fun _ => rfl)
theorem boxes_addCol : ∀ (U : List (List Int)) (c : List Int), boxes (addCol U c) = boxes U + c.length
  | U, [] => by cases U <;> simp [addCol]
  | [], b :: c => by simp only [addCol]; rw [boxes_cons, boxes_addCol [] c]; simp [boxes_nil]; omega
  | s :: U, b :: c => by simp only [addCol]; rw [boxes_cons, boxes_cons, boxes_addCol U c]; simp; omega
theorem boxes_fillC : ∀ (cs U : List (List Int)), boxes (fillC U cs) = boxes U + boxes cs
  | [], U => by simp [fillC, boxes_nil]
  | c :: cs, U => by
    show boxes (fillC (addCol U c) cs) = _
    rw [boxes_fillC cs, boxes_addCol, boxes_cons]; omega
theorem fillC_ne : ∀ (cs U : List (List Int)), (∀ r ∈ U, r ≠ []) → ∀ r ∈ fillC U cs, r ≠ []
  | [], _, h => h
  | c :: cs, U, h => fillC_ne cs (addCol U c) (addCol_ne U c h)
theorem sm_boxes {U : List (List Int)} (hu : ∀ r ∈ U, r ≠ []) (hb : boxes U ≤ 1000) : Sm U := by
  have h1 : ∀ (U : List (List Int)), (∀ r ∈ U, r ≠ []) → U.length ≤ boxes U := fun U => by
    induction U with
    | nil => intro _; simp
    | cons r t ih =>
      intro hu
      have := ih (fun s hs => hu s (List.mem_cons_of_mem _ hs))
      have h2 : r.length ≠ 0 := fun e => hu r (by simp) (List.eq_nil_of_length_eq_zero e)
      rw [boxes_cons]; simp; omega
  refine ⟨by have := h1 U hu; omega, fun i => ?_⟩
  by_cases hi : i < U.length
  · have h2 := boxes_take hi
    have h3 := boxes_le (T := U) (i + 1)
    omega
  · rw [getD_far (by omega)]; simp
theorem turA : OpC 10 TurTo := by
  refine ⟨fun T r s => TurTo.fn, fun T r h => ?_, fun A cap T w hT h => turned_all A cap T w hT h⟩
  rcases h with ⟨h1, _, rfl⟩ | ⟨_, rfl⟩
  · refine sm_boxes (fillC_ne T [] (by simp)) ?_
    rw [boxes_fillC]
    have := h1.2.2
    simp [boxes_nil]; omega
  · exact Sm.nil
theorem rword_len_le : ∀ (T : List (List Int)), (sword T).length ≤ boxes T
  | [] => by simp [sword, rword, boxes_nil]
  | r :: t => by
    have h1 := rword_len_le t
    rw [sword_cons, List.length_append, boxes_cons]
    have : (lets r).length ≤ r.length := List.length_filter_le _ _
    omega
theorem SkOk.rectOk {T : List (List Int)} (h : SkOk T) : FillOk (insW [] (sword T)) :=
  (fill_word (by have := rword_len_le T; have := h.2; omega) (fun x hx => by
    obtain ⟨i, j, h1, h2, h3⟩ := mem_sword hx
    have := h.sk.2 i j h1
    unfold Lt
    omega)).1
theorem recA : OpC 11 (fun T => WhenR (SkOk T) (fun rows => rows = insW [] (sword T))) := by
  refine ⟨fun T r s => WhenR.fn (fun r s _ h1 h2 => h1.trans h2.symm), fun T r => WhenR.sm (fun r hp h1 => ?_), fun A cap T w hT h => (rectify_any A cap T w hT h).mono ?_⟩
  · subst h1; exact hp.rectOk.sm
  · rintro e w' ⟨⟨k, rows, A', c', he, ho, _, h1, h2, h3⟩, hb⟩
    exact ⟨told_mk he ho h1 h2 h3, hb⟩
theorem evaA : OpC 12 (fun T => WhenR (Std T) (fun rows => rows = Go.Proofs.Ytpmkdihencepnaa.eva T)) := by
  refine ⟨fun T r s => WhenR.fn (fun r s _ h1 h2 => h1.trans h2.symm), fun T r => WhenR.sm (fun r hp h1 => ?_), fun A cap T w hT h => (evacuate_any A cap T w hT h).mono ?_⟩
  · subst h1; exact hp.eva.1.1.sm
  · rintro e w' ⟨⟨k, rows, A', c', he, ho, _, h1, h2, h3⟩, hb⟩
    exact ⟨told_mk he ho h1 h2 h3, hb⟩
theorem proA : OpC 13 (fun T => WhenR (Std T) (fun rows => Pro T rows)) := by
  refine ⟨fun T r s => WhenR.fn (fun r s _ h1 h2 => h1.fn h2), fun T r => WhenR.sm (fun r hp h1 => h1.u.1.sm), fun A cap T w hT h => (promote_any A cap T w hT h).mono ?_⟩
  rintro e w' ⟨⟨k, rows, A', c', he, ho, _, h1, h2, h3⟩, hb⟩
  exact ⟨told_mk he ho h1 h2 h3, hb⟩
theorem demA : OpC 14 (fun T => WhenR (Std T) (fun rows => Pro rows T)) := by
  refine ⟨fun T r s => WhenR.fn (fun r s _ h1 h2 => h1.inj h2), fun T r => WhenR.sm (fun r hp h1 => h1.t.1.sm), fun A cap T w hT h => (demote_any A cap T w hT h).mono ?_⟩
  rintro e w' ⟨⟨k, rows, A', c', he, ho, _, h1, h2, h3⟩, hb⟩
  exact ⟨told_mk he ho h1 h2 h3, hb⟩
theorem ChkSign.two {m : List (List Int)} {k : Int} (h : ChkSign m k) : (k = 0 → SignOk m) ∧ (SignOk m → k = 0) := by
  rcases h with ⟨a, rfl⟩ | ⟨a, rfl⟩
  · exact ⟨fun _ => a, fun _ => rfl⟩
  · exact ⟨fun e => absurd e (by decide), fun e => absurd e a⟩
theorem corA : OpC 15 (fun T => WhenR (SignOk T) (fun rows => rows = cornTo T (T.length + 1))) := by
  refine ⟨fun T r s => WhenR.fn (fun r s _ h1 h2 => h1.trans h2.symm), fun T r => WhenR.sm (fun r hp h1 => ?_), fun A cap T w hT h => (corn_any A cap T w hT h).mono ?_⟩
  · subst h1
    have h7 := hp.1
    exact Sm.of (cornTo_length _ _) (by omega) (m := T.length + 1) (by omega) (fun i hi => by rw [cornTo_getD hi, tab_length]; exact Nat.le_refl _)
  · rintro e w' ⟨⟨k, rows, ⟨A', c', he, ho, _⟩, hk, h1, h2⟩, hb⟩
    exact ⟨told_mk he ho (fun e => ⟨hk.two.1 e, h2 e⟩) hk.two.2 h1, hb⟩
theorem sm_unc {n : Nat} (hn : n ≤ 7) (f : Nat → Nat → Int) : Sm (unc n f) :=
  Sm.of (unc_length n f) (by omega) (m := n) (by omega) (fun i hi => by rw [unc_getD hi]; unfold urow; rw [tab_length]; exact Nat.le_refl _)
theorem fcoA : OpC 16 FromCTo := by
  refine ⟨fun T r s => FromCTo.fn, fun T r h => ?_, fun A cap T w hT h => fromcorner_all A cap T w hT h⟩
  rcases h with ⟨h1, rfl⟩ | ⟨_, rfl⟩
  · have := h1.1.2.1; exact sm_unc (by omega) _
  · exact Sm.nil
theorem triA : OpC 17 (fun T => WhenR (SignOk T) (fun rows => rows = triOf T T.length)) := by
  refine ⟨fun T r s => WhenR.fn (fun r s _ h1 h2 => h1.trans h2.symm), fun T r => WhenR.sm (fun r hp h1 => ?_), fun A cap T w hT h => (tri_any A cap T w hT h).mono ?_⟩
  · subst h1
    have h7 := hp.1
    exact Sm.of (triOf_length _ _) (by omega) (m := 7) (by omega) (fun i hi => by rw [triOf_getD hi, tri_length hp.2 (by omega)]; omega)
  · rintro e w' ⟨⟨k, rows, ⟨A', c', he, ho, _⟩, hk, h1, h2⟩, hb⟩
    exact ⟨told_mk he ho (fun e => ⟨hk.two.1 e, h2 e⟩) hk.two.2 h1, hb⟩
theorem ftrA : OpC 18 FromTTo := by
  refine ⟨fun T r s => FromTTo.fn, fun T r h => ?_, fun A cap T w hT h => fromtri_all A cap T.length T w rfl hT h⟩
  rcases h with ⟨h1, rfl⟩ | ⟨_, rfl⟩
  · have h7 := h1.2.1
    exact Sm.of (unT_length _ _) (by omega) (m := T.length) (by omega) (fun i hi => by rw [unT_getD hi]; unfold urT; rw [tab_length]; exact Nat.le_refl _)
  · exact Sm.nil
theorem gyrA : OpC 19 (fun T => WhenR (SignOk T) (fun rows => rows = gyrM T)) := by
  refine ⟨fun T r s => WhenR.fn (fun r s _ h1 h2 => h1.trans h2.symm), fun T r => WhenR.sm (fun r hp h1 => ?_), fun A cap T w hT h => (gyrate_any A cap T w hT h).mono ?_⟩
  · subst h1
    have h7 := hp.1
    exact Sm.of (matOf_length _ _) (by omega) (m := T.length) (by omega) (fun i hi => by
      have e : (gyrM T).getD i [] = matRow T.length (gyr T.length (lpC T)) i := by simp [gyrM, matOf, hi]
      rw [e, matRow_length]; exact Nat.le_refl _)
  · rintro e w' ⟨hs, hb⟩
    refine ⟨?_, hb⟩
    rcases hs with ⟨hok, A', c', rfl, ho⟩ | ⟨hno, rfl⟩
    · exact told_mk rfl ho (fun _ => ⟨hok, rfl⟩) (fun _ => rfl) (fun e => absurd rfl e)
    · exact told_mk (rows := []) rfl (OwnR.nil _ _) (fun e => absurd e (by decide)) (fun e => absurd e hno) (fun _ => rfl)

/-- Likewise with a number. -/
structure OpN (f : FuncId) (R : List (List Int) → Int → List (List Int) → Prop) : Prop where
  fn : ∀ T x r s, R T x r → R T x s → r = s
  sm : ∀ T x r, R T x r → Sm r
  call : ∀ (A : Option Addr) (cap : Nat) (T : List (List Int)) (x : Int) (w : World), T.length ≤ 9223372036854775807 → SR w w.heap.size A T →
    Calls Try.prog f #[.slice A T.length cap, .int .i64 x] w fun e w' => Told (R T x) w.heap.size e w' ∧ Below w.heap.size w w'
/-- Likewise, and a place between. -/
structure OpN3 (f : FuncId) (R : List (List Int) → Int → List (List Int) → Prop) : Prop where
  fn : ∀ T x r s, R T x r → R T x s → r = s
  sm : ∀ T x r, R T x r → Sm r
  call : ∀ (A : Option Addr) (cap : Nat) (T : List (List Int)) (x : Int) (w : World), T.length ≤ 9223372036854775807 → SR w w.heap.size A T →
    Calls Try.prog f #[.slice A T.length cap, .int .i64 x] w fun e w' => Told3 (R T x) w.heap.size e w' ∧ Below w.heap.size w w'
theorem ChkPile.two {p : List (List Int)} {h k : Int} (hk : ChkPile p h k) : (k = 0 → PileOk p h) ∧ (PileOk p h → k = 0) := by
  rcases hk with ⟨a, rfl⟩ | ⟨a, rfl⟩
  · exact ⟨fun _ => a, fun _ => rfl⟩
  · exact ⟨fun e => absurd e (by decide), fun e => absurd e a⟩
theorem sm_gmat {r c : Nat} (hr : r ≤ 8) (hc : c ≤ 8) (f : Nat → Nat → Int) : Sm (gmat r c f) :=
  Sm.of (gmat_length r c f) (by omega) (m := c) (by omega) (fun i hi => by rw [gmat_getD hi]; simp)
theorem cturA : OpN 20 (fun T x => WhenR (PileOk T x) (fun rows => rows = turnOf T T.length (T.getD 0 []).length x.toNat)) := by
  refine ⟨fun T x r s => WhenR.fn (fun r s _ h1 h2 => h1.trans h2.symm), fun T x r => WhenR.sm (fun r hp h1 => ?_), fun A cap T x w hT h => (turn_any A cap T x w hT h).mono ?_⟩
  · subst h1
    obtain ⟨H, rfl, hp⟩ := hp
    exact sm_gmat hp.c1.2 (by have := hp.h1.2; omega) _
  · rintro e w' ⟨⟨k, rows, ⟨A', c', he, ho, _⟩, hk, h1, h2⟩, hb⟩
    exact ⟨told_mk he ho (fun e => ⟨hk.two.1 e, h2 e⟩) hk.two.2 h1, hb⟩
theorem cmirA : OpN 21 (fun T x => WhenR (PileOk T x) (fun rows => rows = mirOf T T.length (T.getD 0 []).length)) := by
  refine ⟨fun T x r s => WhenR.fn (fun r s _ h1 h2 => h1.trans h2.symm), fun T x r => WhenR.sm (fun r hp h1 => ?_), fun A cap T x w hT h => (mir_any A cap T x w hT h).mono ?_⟩
  · subst h1
    obtain ⟨H, rfl, hp⟩ := hp
    exact sm_gmat hp.c1.2 hp.r1.2 _
  · rintro e w' ⟨⟨k, rows, ⟨A', c', he, ho, _⟩, hk, h1, h2⟩, hb⟩
    exact ⟨told_mk he ho (fun e => ⟨hk.two.1 e, h2 e⟩) hk.two.2 h1, hb⟩
theorem cresA : OpN 22 (fun T x => WhenR (PileOk T x) (fun rows => rows = restOf T T.length (T.getD 0 []).length x.toNat)) := by
  refine ⟨fun T x r s => WhenR.fn (fun r s _ h1 h2 => h1.trans h2.symm), fun T x r => WhenR.sm (fun r hp h1 => ?_), fun A cap T x w hT h => (rest_any A cap T x w hT h).mono ?_⟩
  · subst h1
    obtain ⟨H, rfl, hp⟩ := hp
    exact sm_gmat hp.r1.2 hp.c1.2 _
  · rintro e w' ⟨⟨k, rows, ⟨A', c', he, ho, _⟩, hk, h1, h2⟩, hb⟩
    exact ⟨told_mk he ho (fun e => ⟨hk.two.1 e, h2 e⟩) hk.two.2 h1, hb⟩
/-- Can a letter be put in? -/
def FitP (T : List (List Int)) (x : Int) : Prop := FillOk T ∧ Lt x ∧ boxes T ≠ 40
theorem FitOut.two {T : List (List Int)} {x k : Int} (h : FitOut T x k) : (k = 0 → FitP T x) ∧ (FitP T x → k = 0) :=
  ⟨h.2, fun ⟨a, b, c⟩ => by have := h.1 a b; rwa [if_neg c] at this⟩
theorem FillOk.lt {T : List (List Int)} (h : FillOk T) : ∀ x ∈ rword T, Lt x := by
  intro x hx
  obtain ⟨r, hr, hxr⟩ := rword_mem.1 hx
  exact h.2.1 r hr x hxr
theorem FitP.ins {T : List (List Int)} {x : Int} (h : FitP T x) : Sm (ins1 T x) := by
  obtain ⟨h1, h2, h3⟩ := h
  have e : ins1 T x = insW [] (rword T ++ [x]) := by
    have : insW [] (rword T ++ [x]) = ins1 (insW [] (rword T)) x := by simp [insW]
    rw [this, insW_rword h1.1]
  rw [e]
  refine (fill_word ?_ ?_).1.sm
  · rw [List.length_append, ← boxes_word]; have := h1.2.2; simp; omega
  · intro y hy
    rcases List.mem_append.1 hy with hy | hy
    · exact h1.lt y hy
    · simp at hy; rw [hy]; exact h2
theorem FitP.left {T : List (List Int)} {x : Int} (h : FitP T x) : Sm (insW [] (x :: rword T)) := by
  obtain ⟨h1, h2, h3⟩ := h
  refine (fill_word ?_ ?_).1.sm
  · rw [List.length_cons, ← boxes_word]; have := h1.2.2; omega
  · intro y hy
    rcases List.mem_cons.1 hy with hy | hy
    · rw [hy]; exact h2
    · exact h1.lt y hy
theorem insA : OpN3 23 (fun T x => WhenR (FitP T x) (fun rows => rows = ins1 T x)) := by
  refine ⟨fun T x r s => WhenR.fn (fun r s _ h1 h2 => h1.trans h2.symm), fun T x r => WhenR.sm (fun r hp h1 => ?_), fun A cap T x w hT h => (insert_any A cap T x w hT h).mono ?_⟩
  · subst h1; exact hp.ins
  · rintro e w' ⟨⟨k, row, rows, A', c', he, ho, _, hf, h1, h2⟩, hb⟩
    exact ⟨told3_mk he ho (fun e => ⟨hf.two.1 e, (h1 e).1⟩) hf.two.2 h2, hb⟩
theorem lefA : OpN3 24 (fun T x => WhenR (FitP T x) (fun rows => rows = insW [] (x :: rword T))) := by
  refine ⟨fun T x r s => WhenR.fn (fun r s _ h1 h2 => h1.trans h2.symm), fun T x r => WhenR.sm (fun r hp h1 => ?_), fun A cap T x w hT h => (insleft_any A cap T x w hT h).mono ?_⟩
  · subst h1; exact hp.left
  · rintro e w' ⟨⟨k, row, rows, A', c', he, ho, _, hf, h1, h2⟩, hb⟩
    exact ⟨told3_mk he ho (fun e => ⟨hf.two.1 e, h1 e⟩) hf.two.2 h2, hb⟩
theorem sliA : OpN3 25 SlideTo := by
  refine ⟨fun T x r s => SlideTo.fn, fun T x r h => ?_, fun A cap T x w hT h => (slide_any A cap T x w hT h).mono ?_⟩
  · rcases h with ⟨k, h1, rfl, h2, i, j, h3⟩ | ⟨_, rfl⟩
    · obtain ⟨s1, s2, s3, s4⟩ := h2.start h1
      exact (h1.slide s1 s2 s3 s4 h3).1.sm
    · exact Sm.nil
  · rintro e w' ⟨⟨k, row, rows, A', c', he, ho, _, hf⟩, hb⟩
    exact ⟨⟨rows, A', c', row, k, he, ho, hf⟩, hb⟩

/-- Likewise of two. -/
structure OpP (f : FuncId) (R : List (List Int) → List (List Int) → List (List Int) → Prop) : Prop where
  fn : ∀ T U r s, R T U r → R T U s → r = s
  sm : ∀ T U r, R T U r → Sm r
  call : ∀ (A C : Option Addr) (cap cap2 : Nat) (T U : List (List Int)) (w : World), T.length ≤ 9223372036854775807 → U.length ≤ 9223372036854775807 → SR w w.heap.size A T → SR w w.heap.size C U →
    Calls Try.prog f #[.slice A T.length cap, .slice C U.length cap2] w fun e w' => Told (R T U) w.heap.size e w' ∧ Below w.heap.size w w'
theorem rbyA : OpP 26 ByTo := by
  refine ⟨fun T U r s => ByTo.fn, fun T U r h => ?_, fun A C cap cap2 T U w hT hU h h2 => rectby_any A C cap cap2 T U w hT hU h h2⟩
  rcases h with ⟨h1, _, _, rfl⟩ | ⟨_, rfl⟩
  · exact h1.rectOk.sm
  · exact Sm.nil
theorem meeA : OpP 27 (fun T U => WhenR (SignOk T ∧ SignOk U ∧ T.length = U.length) (fun rows => rows = meetOf T.length T U)) := by
  refine ⟨fun T U r s => WhenR.fn (fun r s _ h1 h2 => h1.trans h2.symm), fun T U r => WhenR.sm (fun r hp h1 => ?_), fun A C cap cap2 T U w hT hU h h2 => (meet_any A C cap cap2 T U w hT hU h h2).mono ?_⟩
  · subst h1; exact sm_unc hp.1.1 _
  · rintro e w' ⟨⟨k, rows, ⟨A', c', he, ho, _⟩, hk, h1, h2⟩, hb⟩
    exact ⟨told_mk he ho (fun e => ⟨hk.1.1 e, h2 e⟩) hk.1.2 h1, hb⟩
theorem joiA : OpP 28 (fun T U => WhenR (SignOk T ∧ SignOk U ∧ T.length = U.length) (fun rows => rows = joinOf T.length T U)) := by
  refine ⟨fun T U r s => WhenR.fn (fun r s _ h1 h2 => h1.trans h2.symm), fun T U r => WhenR.sm (fun r hp h1 => ?_), fun A C cap cap2 T U w hT hU h h2 => (join_any A C cap cap2 T U w hT hU h h2).mono ?_⟩
  · subst h1; exact sm_unc hp.1.1 _
  · rintro e w' ⟨⟨k, rows, ⟨A', c', he, ho, _⟩, hk, h1, h2⟩, hb⟩
    exact ⟨told_mk he ho (fun e => ⟨hk.1.1 e, h2 e⟩) hk.1.2 h1, hb⟩
end Go.Proofs.Ytpmkdihencepnaa
