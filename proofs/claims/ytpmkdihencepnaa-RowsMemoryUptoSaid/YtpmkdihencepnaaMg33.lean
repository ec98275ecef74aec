/-
  What each call tells that tells a list, whatever comes in.
-/
import Derived.Test.YtpmkdihencepnaaMg03
import Derived.Test.YtpmkdihencepnaaMg28
import Derived.Test.YtpmkdihencepnaaMg29
import Derived.Test.YtpmkdihencepnaaMg31
import Derived.Test.YtpmkdihencepnaaMg32
namespace Go.Proofs.Ytpmkdihencepnaa
open Go.RowKit

/-- What is known of a function that tells a list of rows. -/
structure OpL (f : FuncId) (R : List (List Int) → List Int → Prop) : Prop where
  fn : ∀ T r s, R T r → R T s → r = s
  sm : ∀ T r, R T r → r.length ≤ 1000
  call : ∀ (A : Option Addr) (cap : Nat) (T : List (List Int)) (w : World), T.length ≤ 9223372036854775807 → SR w w.heap.size A T →
    Calls Try.prog f #[.slice A T.length cap] w fun e w' => ToldL (R T) w.heap.size e w' ∧ Below w.heap.size w w'
/-- Likewise of two. -/
structure OpM (f : FuncId) (R : List (List Int) → List (List Int) → List Int → Prop) : Prop where
  fn : ∀ T U r s, R T U r → R T U s → r = s
  sm : ∀ T U r, R T U r → r.length ≤ 1000
  call : ∀ (A C : Option Addr) (cap cap2 : Nat) (T U : List (List Int)) (w : World), T.length ≤ 9223372036854775807 → U.length ≤ 9223372036854775807 → SR w w.heap.size A T → SR w w.heap.size C U →
    Calls Try.prog f #[.slice A T.length cap, .slice C U.length cap2] w fun e w' => ToldL (R T U) w.heap.size e w' ∧ Below w.heap.size w w'
theorem flat_rev_len (T : List (List Int)) : T.reverse.flatten.length = boxes T := by
  rw [← flatten_len, List.length_flatten, List.length_flatten, List.map_reverse, List.sum_reverse]
theorem worA : OpL 30 WordTo := by
  refine ⟨fun T r s => WordTo.fn, fun T r h => ?_, fun A cap T w hT h => word_all A cap T w hT h⟩
  rcases h with ⟨h1, rfl⟩ | ⟨_, rfl⟩
  · rw [flat_rev_len]; have := h1.2.2; omega
  · simp
/-- What Content tells. -/
def ContTo (T : List (List Int)) (xs : List Int) : Prop := (FillOk T ∧ Cnt T.flatten xs ∧ (xs.length = 0 ∨ (xs.length : Int) ∈ T.flatten) ∧ xs.length ≤ 99) ∨ (¬ FillOk T ∧ xs = [])
theorem ContTo.fn {T : List (List Int)} {r s : List Int} (h : ContTo T r) (h' : ContTo T s) : r = s := by
  rcases h with ⟨a, h1, h2, _⟩ | ⟨a, rfl⟩ <;> rcases h' with ⟨c, g1, g2, _⟩ | ⟨c, rfl⟩
  · have key : ∀ {r s : List Int}, Cnt T.flatten r → Cnt T.flatten s → (s.length = 0 ∨ (s.length : Int) ∈ T.flatten) → s.length ≤ r.length := fun {r s} hr hs ht => by
      rcases ht with e | e
      · omega
      · have := hr.up _ e; omega
    have hl : r.length = s.length := Nat.le_antisymm (key g1 h1 h2) (key h1 g1 g2)
    apply ext_getD hl
    intro k hk
    rw [h1.at_ k hk, g1.at_ k (by omega)]
  · exact absurd a c
  · exact absurd c a
  · rfl
theorem conA : OpL 31 ContTo := by
  refine ⟨fun T r s => ContTo.fn, fun T r h => ?_, fun A cap T w hT h => (content_all A cap T w hT h).mono ?_⟩
  · rcases h with ⟨_, _, _, h⟩ | ⟨_, rfl⟩
    · omega
    · simp
  · rintro e w' ⟨⟨k, A', c, xs, he, ho, h99, h1, h2, h3⟩, hb⟩
    refine ⟨⟨xs, A', c, k, he, ho, ?_⟩, hb⟩
    by_cases hk : k = 0
    · exact .inl ⟨(h1 hk).1, (h1 hk).2.1, (h1 hk).2.2, h99⟩
    · exact .inr ⟨fun hh => hk (h2 hh), h3 hk⟩
theorem linA : OpL 32 LinksTo := by
  refine ⟨fun T r s => LinksTo.fn, fun T r h => ?_, fun A cap T w hT h => linksF_any A cap T w hT h⟩
  rcases h with ⟨h1, rfl⟩ | ⟨_, rfl⟩
  · rw [tab_length]; have := h1.1; omega
  · simp
theorem Und.fn {p q : List (List Int)} {m m' : List (Int × Int)} (h : Und p q m) (h' : Und p q m') : m = m' := by
  induction h generalizing m' with
  | nil p =>
    cases h' with
    | nil => rfl
    | step hs _ => exact absurd hs.inn (by simp)
  | step hs _ ih =>
    cases h' with
    | nil => exact absurd hs.inn (by simp)
    | step hs' hu' =>
      obtain ⟨rfl, rfl⟩ := hs.uniq hs'
      rw [ih hu']
def BackTo (p q : List (List Int)) (xs : List Int) : Prop := ((FillOk p ∧ FillOk q ∧ SameSh p q ∧ IsPerm q.flatten) ∧ xs.length ≤ 40 ∧ ∃ m, Und p q m ∧ xs = wB m) ∨ (¬ (FillOk p ∧ FillOk q ∧ SameSh p q ∧ IsPerm q.flatten) ∧ xs = [])
theorem BackTo.fn {p q : List (List Int)} {r s : List Int} (h : BackTo p q r) (h' : BackTo p q s) : r = s := by
  rcases h with ⟨a, _, m, h1, rfl⟩ | ⟨a, rfl⟩ <;> rcases h' with ⟨c, _, m', g1, rfl⟩ | ⟨c, rfl⟩
  · rw [h1.fn g1]
  · exact absurd a c
  · exact absurd c a
  · rfl
theorem bacA : OpM 29 BackTo := by
  refine ⟨fun T U r s => BackTo.fn, fun T U r h => ?_, fun A C cap cap2 T U w hT hU h h2 => (back_any A C cap cap2 T U w hT hU h h2).mono ?_⟩
  · rcases h with ⟨_, h, _⟩ | ⟨_, rfl⟩
    · omega
    · simp
  · rintro e w' ⟨⟨k, A', c, xs, he, ho, h40, h1, h2, h3⟩, hb⟩
    refine ⟨⟨xs, A', c, k, he, ho, ?_⟩, hb⟩
    by_cases hk : k = 0
    · exact .inl ⟨(h1 hk).1, h40, (h1 hk).2⟩
    · exact .inr ⟨fun hh => hk (h2 hh), h3 hk⟩
end Go.Proofs.Ytpmkdihencepnaa

/-
  What RowsMemory's closure has told so far: kinds of tables, and tables of these kinds.
-/
namespace Go.Proofs.Ytpmkdihencepnaa
open Go.RowKit

/-- A kind of tables. -/
def Kd : Type := List (List Int) → Prop
/-- Tables of these kinds, one by one. -/
def Got (Rs : List Kd) (ts : List (List (List Int))) : Prop := ts.length = Rs.length ∧ ∀ (i : Nat) (R : Kd) (t : List (List Int)), Rs[i]? = some R → ts[i]? = some t → R t
theorem Got.nil : Got [] [] := ⟨rfl, fun i R t h => by simp at h⟩
theorem Got.snoc {Rs : List Kd} {ts : List (List (List Int))} {R : Kd} {t : List (List Int)} (h : Got Rs ts) (hR : R t) : Got (Rs ++ [R]) (ts ++ [t]) := by
  have hl := h.1
  refine ⟨by simp [hl], fun i R' t' h1 h2 => ?_⟩
  by_cases e : i < Rs.length
  · rw [List.getElem?_append_left e] at h1
    rw [List.getElem?_append_left (by omega)] at h2
    exact h.2 i R' t' h1 h2
  · have hi : i = Rs.length := by
      have := (List.getElem?_eq_some_iff.1 h1).1
      simp at this; omega
    subst hi
    rw [List.getElem?_append_right (Nat.le_refl _), Nat.sub_self] at h1
    rw [List.getElem?_append_right (by omega), hl, Nat.sub_self] at h2
    obtain rfl : R = R' := by simpa using h1
    obtain rfl : t = t' := by simpa using h2
    exact hR
def Kd.Fn (R : Kd) : Prop := ∀ r s, R r → R s → r = s
theorem Got.fn {Rs : List Kd} (hf : ∀ R ∈ Rs, R.Fn) {ts us : List (List (List Int))} (h : Got Rs ts) (h' : Got Rs us) : ts = us := by
  apply List.ext_getElem (by rw [h.1, h'.1])
  intro i h1 h2
  have hi : i < Rs.length := by rw [← h.1]; exact h1
  exact hf _ (List.getElem_mem hi) _ _ (h.2 i _ _ (List.getElem?_eq_getElem hi) (List.getElem?_eq_getElem h1)) (h'.2 i _ _ (List.getElem?_eq_getElem hi) (List.getElem?_eq_getElem h2))
/-- What stands between two calls: w0 the world that the closure was called in; a block g of function values besides. -/
structure Stt (w0 w : World) (B0 base bo bm bk : Nat) (mk : Bool) (g : Nat) (lit : Obj) (Rs : List Kd) : Prop where
  on : ∃ ts, Onc w (fun k => k < w.heap.size ∧ k ≠ g) base bo bm bk mk ts ∧ Got Rs ts
  lg : w.heap[g]? = some lit
  ne : g ≠ bo ∧ g ≠ bk
  bl : Below B0 w0 w
  b0 : B0 ≤ bo ∧ B0 ≤ bm ∧ B0 ≤ bk
section
variable {w0 w w1 : World} {B0 base bo bm bk : Nat} {mk : Bool} {g : Nat} {lit : Obj} {Rs : List Kd}
theorem Stt.sz (h : Stt w0 w B0 base bo bm bk mk g lit Rs) : B0 ≤ w.heap.size := by
  obtain ⟨ts, hon, _⟩ := h.on
  have := hon.lo
  have := h.b0
  omega
theorem Stt.cell (h : Stt w0 w B0 base bo bm bk mk g lit Rs) {a : Addr} {v : Value} (ha : a.block < B0) (hc : w0.cell? a = some v) : w.cell? a = some v := (h.bl.cell ha).trans hc
theorem Stt.sr (h : Stt w0 w B0 base bo bm bk mk g lit Rs) {A : Option Addr} {rows : List (List Int)} (hs : SR w0 B0 A rows) : SR w w.heap.size A rows := (hs.below h.bl).more h.sz
theorem Stt.fun_ {cs : Array Value} {t : TypeId} (h : Stt w0 w B0 base bo bm bk mk g (.cells cs t (0, 0)) Rs) (j : Nat) : w.cell? ⟨g, j, none⟩ = cs[j]? := cell_of_row w g j cs t (0, 0) h.lg
/-- Function values laid in a block of their own. -/
theorem Stt.lay (h : Stt w0 w B0 base bo bm bk mk g lit Rs) (o : Obj) : Stt w0 (w.alloc o) B0 base bo bm bk mk w.heap.size o Rs := by
  obtain ⟨ts, hon, hg⟩ := h.on
  have hlo := hon.lo
  have hs : (w.alloc o).heap.size = w.heap.size + 1 := by simp
  refine ⟨⟨ts, (hon.keep (by rw [hs]; omega) (fun k hk => Below.heap_alloc w o k (by
    rcases hk with e | e
    · omega
    · exact e.1))).widen (fun k hk => ⟨by rw [hs]; have := hk.1; omega, by have := hk.1; omega⟩) (fun k hk => hk.1), hg⟩, heap_alloc_new w o, ⟨by omega, by omega⟩, h.bl.alloc h.sz o, h.b0⟩
/-- A call's table, added. -/
theorem add_told (h : Stt w0 w B0 base bo bm bk mk g lit Rs) (hb : Below w.heap.size w w1) {A : Option Addr} {c : Nat} {rows : List (List Int)} (ho : OwnR w1 w.heap.size A c rows) (hsm : Sm rows) {R : Kd} (hR : R rows) (hn : Rs.length < 1000) (k : Int) :
    Calls Try.prog 8 #[.slice A rows.length c, .int .i64 k, .pointer (some ⟨bo, 0, none⟩), .pointer (some ⟨bm, 0, none⟩), .pointer (some ⟨bk, 0, none⟩)] w1 fun e w' => e = .returned (.tuple #[]) ∧ Stt w0 w' B0 base bo bm bk mk g lit (Rs ++ [R]) := by
  obtain ⟨hs, hl⟩ := ho
  obtain ⟨ts, hon, hgot⟩ := h.on
  have hlo := hon.lo
  have hg : g < w.heap.size := (Array.getElem?_eq_some_iff.1 h.lg).1
  have hon1 := hon.keep (w' := w1) hb.size (fun k hk => hb.block k (by
    rcases hk with e | e
    · omega
    · exact e.1))
  refine (add_any A c rows hs k w1 _ w.heap.size base bo bm bk B0 mk ts h.b0 hsm.1 hsm.2 (by rw [hgot.1]; exact hn) hon1 (fun k hk => hk.1) hlo.2.2.2.1 hb.size hl).mono ?_
  rintro e w' ⟨rfl, hon2, hbl, hfr⟩
  have hs2 := hon2.lt
  have hss : w.heap.size ≤ w'.heap.size := Nat.le_trans hb.size hbl.size
  refine ⟨rfl, ⟨ts ++ [rows], hon2.widen (fun k hk => ?_) (fun k hk => hk.1), hgot.snoc hR⟩, (hfr g hg h.ne.1 h.ne.2 (fun hh => hh.2 rfl)).trans ((hb.block g hg).trans h.lg), h.ne, (h.bl.trans (hb.mono h.sz)).trans hbl, h.b0⟩
  rcases hk with e | e
  · exact ⟨by omega, e.2⟩
  · exact ⟨e.2, by omega⟩
end
/-- The calls of one table. -/
def opR : Nat → List (List Int) → Kd
  | 0, T => WhenR (FillOk T) (fun rows => rows = Std1.std T)
  | 1, T => TurTo T
  | 2, T => WhenR (SkOk T) (fun rows => rows = insW [] (sword T))
  | 3, T => WhenR (Std T) (fun rows => rows = Go.Proofs.Ytpmkdihencepnaa.eva T)
  | 4, T => WhenR (Std T) (fun rows => Pro T rows)
  | 5, T => WhenR (Std T) (fun rows => Pro rows T)
  | 6, T => WhenR (SignOk T) (fun rows => rows = cornTo T (T.length + 1))
  | 7, T => FromCTo T
  | 8, T => WhenR (SignOk T) (fun rows => rows = triOf T T.length)
  | 9, T => FromTTo T
  | 10, T => WhenR (SignOk T) (fun rows => rows = gyrM T)
  | _, _ => fun _ => False
theorem opR_fn : ∀ (k : Nat) (T : List (List Int)), (opR k T).Fn
  | 0, T => stdA.fn T
  | 1, T => turA.fn T
  | 2, T => recA.fn T
  | 3, T => evaA.fn T
  | 4, T => proA.fn T
  | 5, T => demA.fn T
  | 6, T => corA.fn T
  | 7, T => fcoA.fn T
  | 8, T => triA.fn T
  | 9, T => ftrA.fn T
  | 10, T => gyrA.fn T
  | _ + 11, _ => fun _ _ h => h.elim
def relU (a b : List (List Int)) : Nat → List Kd
  | 0 => []
  | k + 1 => relU a b k ++ [opR k a] ++ [opR k b]
theorem relU_length (a b : List (List Int)) : ∀ k, (relU a b k).length = 2 * k
  | 0 => rfl
  | k + 1 => by simp [relU, relU_length a b k]; omega
theorem relU_fn (a b : List (List Int)) : ∀ k, ∀ R ∈ relU a b k, R.Fn
  | 0, R, h => by simp [relU] at h
  | k + 1, R, h => by
    simp only [relU, List.mem_append, List.mem_singleton] at h
    rcases h with (h | h) | h
    · exact relU_fn a b k R h
    · rw [h]; exact opR_fn k a
    · rw [h]; exact opR_fn k b
/-- The calls of one table and a number. -/
def opN : Nat → List (List Int) → Int → Kd
  | 0, T, x => WhenR (PileOk T x) (fun rows => rows = turnOf T T.length (T.getD 0 []).length x.toNat)
  | 1, T, x => WhenR (PileOk T x) (fun rows => rows = mirOf T T.length (T.getD 0 []).length)
  | 2, T, x => WhenR (PileOk T x) (fun rows => rows = restOf T T.length (T.getD 0 []).length x.toNat)
  | _, _, _ => fun _ => False
theorem opN_fn : ∀ (k : Nat) (T : List (List Int)) (x : Int), (opN k T x).Fn
  | 0, T, x => cturA.fn T x
  | 1, T, x => cmirA.fn T x
  | 2, T, x => cresA.fn T x
  | _ + 3, _, _ => fun _ _ h => h.elim
def relN (a b : List (List Int)) (x : Int) : Nat → List Kd
  | 0 => relU a b 11
  | k + 1 => relN a b x k ++ [opN k a x]
theorem relN_length (a b : List (List Int)) (x : Int) : ∀ k, (relN a b x k).length = 22 + k
  | 0 => relU_length a b 11
  | k + 1 => by simp [relN, relN_length a b x k]; omega
theorem relN_fn (a b : List (List Int)) (x : Int) : ∀ k, ∀ R ∈ relN a b x k, R.Fn
  | 0, R, h => relU_fn a b 11 R h
  | k + 1, R, h => by
    simp only [relN, List.mem_append, List.mem_singleton] at h
    rcases h with h | h
    · exact relN_fn a b x k R h
    · rw [h]; exact opN_fn k a x
/-- A table of one list. -/
def OneL (R : List Int → Prop) : Kd := fun t => ∃ xs, t = [xs] ∧ R xs
theorem OneL.fn {R : List Int → Prop} (h : ∀ r s, R r → R s → r = s) : (OneL R).Fn := by
  rintro r s ⟨x, rfl, hx⟩ ⟨y, rfl, hy⟩
  rw [h x y hx hy]
def insR (T : List (List Int)) (x : Int) : Kd := WhenR (FitP T x) (fun rows => rows = ins1 T x)
def lefR (T : List (List Int)) (x : Int) : Kd := WhenR (FitP T x) (fun rows => rows = insW [] (x :: rword T))
def sliR (T : List (List Int)) (x : Int) : Kd := SlideTo T x
def rbyR (T U : List (List Int)) : Kd := ByTo T U
def meeR (T U : List (List Int)) : Kd := WhenR (SignOk T ∧ SignOk U ∧ T.length = U.length) (fun rows => rows = meetOf T.length T U)
def joiR (T U : List (List Int)) : Kd := WhenR (SignOk T ∧ SignOk U ∧ T.length = U.length) (fun rows => rows = joinOf T.length T U)
def relZ (a b : List (List Int)) (x : Int) : List Kd :=
  relN a b x 3 ++ [insR a x] ++ [lefR a x] ++ [sliR b x] ++ [rbyR b a] ++ [meeR a b] ++ [joiR a b] ++ [OneL (BackTo a b)] ++ [OneL (WordTo a)] ++ [OneL (ContTo a)] ++ [OneL (LinksTo a)]
theorem relZ_fn (a b : List (List Int)) (x : Int) : ∀ R ∈ relZ a b x, R.Fn := by
  intro R h
  simp only [relZ, List.mem_append, List.mem_singleton] at h
  rcases h with (((((((((h | h) | h) | h) | h) | h) | h) | h) | h) | h) | h
  · exact relN_fn a b x 3 R h
  · rw [h]; exact insA.fn a x
  · rw [h]; exact lefA.fn a x
  · rw [h]; exact sliA.fn b x
  · rw [h]; exact rbyA.fn b a
  · rw [h]; exact meeA.fn a b
  · rw [h]; exact joiA.fn a b
  · rw [h]; exact OneL.fn (bacA.fn a b)
  · rw [h]; exact OneL.fn (worA.fn a)
  · rw [h]; exact OneL.fn (conA.fn a)
  · rw [h]; exact OneL.fn (linA.fn a)
end Go.Proofs.Ytpmkdihencepnaa
