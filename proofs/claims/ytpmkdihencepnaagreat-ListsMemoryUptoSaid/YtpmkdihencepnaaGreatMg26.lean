/-
  What ListsMemory's closure has told so far: kinds of lists, and lists of these kinds.
-/
import Derived.Test.YtpmkdihencepnaaGreatMg14
import Derived.Test.YtpmkdihencepnaaGreatMg25
namespace Go.Proofs.YtpmkdihencepnaaGreat
open Go.RowKit

/-- Lists of these kinds, one by one. -/
def Gl (Rs : List (List Int → Prop)) (ts : List (List Int)) : Prop := ts.length = Rs.length ∧ ∀ (i : Nat) (R : List Int → Prop) (t : List Int), Rs[i]? = some R → ts[i]? = some t → R t
theorem Gl.nil : Gl [] [] := ⟨rfl, fun i R t h => by simp at h⟩
theorem Gl.snoc {Rs : List (List Int → Prop)} {ts : List (List Int)} {R : List Int → Prop} {t : List Int} (h : Gl Rs ts) (hR : R t) : Gl (Rs ++ [R]) (ts ++ [t]) := by
  have hl := h.1
  refine ⟨by simp [hl], fun i R' t' h1 h2 => ?_⟩
  by_cases e : i < Rs.length
  · rw [List.getElem?_append_left e] at h1
    rw [List.getElem?_append_left (by omega)] at h2
    exact h.2 i R' t' h1 h2
  · have hi : i = Rs.length := by
      have := (List.getElem?_eq_some_iff.1 h1).1
      simp at this; omega
    subst hi
    rw [List.getElem?_append_right (Nat.le_refl _), Nat.sub_self] at h1
    rw [List.getElem?_append_right (by omega), hl, Nat.sub_self] at h2
    obtain rfl : R = R' := by simpa using h1
    obtain rfl : t = t' := by simpa using h2
    exact hR
def FnL (R : List Int → Prop) : Prop := ∀ r s, R r → R s → r = s
theorem Gl.fn {Rs : List (List Int → Prop)} (hf : ∀ R ∈ Rs, FnL R) {ts us : List (List Int)} (h : Gl Rs ts) (h' : Gl Rs us) : ts = us := by
  apply List.ext_getElem (by rw [h.1, h'.1])
  intro i h1 h2
  have hi : i < Rs.length := by rw [← h.1]; exact h1
  exact hf _ (List.getElem_mem hi) _ _ (h.2 i _ _ (List.getElem?_eq_getElem hi) (List.getElem?_eq_getElem h1)) (h'.2 i _ _ (List.getElem?_eq_getElem hi) (List.getElem?_eq_getElem h2))
/-- What stands between two calls: w0 the world that the closure was called in; a block g of function values besides; F the blocks that are not the lists'. -/
structure Ltt (w0 w : World) (B0 base bo bm : Nat) (mk : Bool) (g : Nat) (lit : Obj) (F : Nat → Prop) (Rs : List (List Int → Prop)) : Prop where
  on : ∃ rows, Lst w (fun k => k < w.heap.size ∧ ¬ F k) base bo bm mk rows ∧ Gl Rs rows
  lg : w.heap[g]? = some lit
  fg : F g
  fl : ∀ k, F k → k < w.heap.size
  ne : g ≠ bo
  bl : Below B0 w0 w
  b0 : B0 ≤ bo ∧ B0 ≤ bm
section
variable {w0 w w1 : World} {B0 base bo bm : Nat} {mk : Bool} {g : Nat} {lit : Obj} {F F' : Nat → Prop} {Rs : List (List Int → Prop)}
theorem Ltt.bs (h : Ltt w0 w B0 base bo bm mk g lit F Rs) : base ≤ w.heap.size := by
  obtain ⟨ts, hon, _⟩ := h.on
  exact hon.lo.2.2.1
theorem Ltt.sz (h : Ltt w0 w B0 base bo bm mk g lit F Rs) : B0 ≤ w.heap.size := by
  obtain ⟨ts, hon, _⟩ := h.on
  have := hon.lo
  have := h.b0
  omega
theorem Ltt.cell (h : Ltt w0 w B0 base bo bm mk g lit F Rs) {a : Addr} {v : Value} (ha : a.block < B0) (hc : w0.cell? a = some v) : w.cell? a = some v := (h.bl.cell ha).trans hc
theorem Ltt.sl (h : Ltt w0 w B0 base bo bm mk g lit F Rs) {A : Option Addr} {xs : List Int} (hs : Sl w0 B0 A (ints xs)) : Sl w w.heap.size A (ints xs) := (hs.below h.bl).more h.sz
theorem Ltt.fun_ {cs : Array Value} {t : TypeId} (h : Ltt w0 w B0 base bo bm mk g (.cells cs t (0, 0)) F Rs) (j : Nat) : w.cell? ⟨g, j, none⟩ = cs[j]? := cell_of_row w g j cs t (0, 0) h.lg
theorem Ltt.wid (h : Ltt w0 w B0 base bo bm mk g lit F Rs) (h1 : ∀ k, F' k → F k) (h2 : F' g) : Ltt w0 w B0 base bo bm mk g lit F' Rs := by
  obtain ⟨rows, hon, hg⟩ := h.on
  exact ⟨⟨rows, hon.widen (fun k hk => ⟨hk.1, fun e => hk.2 (h1 k e)⟩) (fun k hk => hk.1), hg⟩, h.lg, h2, fun k hk => h.fl k (h1 k hk), h.ne, h.bl, h.b0⟩
/-- A call: what it lays is not the lists'. -/
theorem Ltt.call (h : Ltt w0 w B0 base bo bm mk g lit F Rs) (hb : Below w.heap.size w w1) : Ltt w0 w1 B0 base bo bm mk g lit (fun k => F k ∨ (w.heap.size ≤ k ∧ k < w1.heap.size)) Rs := by
  obtain ⟨rows, hon, hgl⟩ := h.on
  have hg := h.fl g h.fg
  have hsz := hb.size
  have hlo := hon.lo
  refine ⟨⟨rows, (hon.below hlo.2.2.1 (fun k hk => hk.1) hb).widen (fun k hk => ⟨by have := hk.1; omega, fun e => by
    rcases e with e | e
    · exact hk.2 e
    · have := hk.1; omega⟩) (fun k hk => hk.1), hgl⟩, (hb.block g hg).trans h.lg, .inl h.fg, fun k hk => ?_, h.ne, h.bl.trans (hb.mono h.sz), h.b0⟩
  rcases hk with e | e
  · have := h.fl k e; omega
  · exact e.2
/-- A list told, added. -/
theorem Ltt.add (h : Ltt w0 w B0 base bo bm mk g lit F Rs) {A : Option Addr} {c : Nat} {l : List Int} (ho : w.ownsRow base 3 1 (.slice A l.length c) l.length (ints l)) (hF : ∀ k, (Value.slice A l.length c).ownBlock = some k → F k ∧ k ≠ g) (hsm : l.length ≤ 100000) {R : List Int → Prop} (hR : R l) (hn : Rs.length < 1000) (k : Int) :
    Calls Tryz.prog 8 #[.slice A l.length c, .int .i64 k, .pointer (some ⟨bo, 0, none⟩), .pointer (some ⟨bm, 0, none⟩)] w fun e w' => e = .returned (.tuple #[]) ∧ Ltt w0 w' B0 base bo bm mk g lit F (Rs ++ [R]) ∧ w.heap.size ≤ w'.heap.size ∧
      ∀ k, k < w.heap.size → F k → k ≠ bo → (Value.slice A l.length c).ownBlock ≠ some k → w'.heap[k]? = w.heap[k]? := by
  obtain ⟨rows, hon, hgot⟩ := h.on
  have hg := h.fl g h.fg
  refine (ladd_any A c l k w _ base bo bm B0 mk rows h.b0 hsm (by rw [hgot.1]; exact hn) hon ho (fun k hk e => e.2 (hF k hk).1)).mono ?_
  rintro e w' ⟨rfl, hon2, hbl, hfr⟩
  have hss := hbl.size
  refine ⟨rfl, ⟨⟨rows ++ [l], hon2.widen (fun k hk => ?_) (fun k hk => hk.1), hgot.snoc hR⟩, (hfr g hg h.ne (fun e => e.2 h.fg) (fun e => (hF g e).2 rfl)).trans h.lg, h.fg, fun k hk => by have := h.fl k hk; omega, h.ne, h.bl.trans hbl, h.b0⟩, hss, fun k hk hf hb hv => hfr k hk hb (fun e => e.2 hf) hv⟩
  rcases hk with e | e
  · exact ⟨by omega, e.2⟩
  · exact ⟨e.2, fun hf => by have := h.fl k hf; omega⟩
/-- A call that tells a list, and the list added. -/
theorem add_tol (h : Ltt w0 w B0 base bo bm mk g lit (fun k => k = g) Rs) (hb : Below w.heap.size w w1) {A : Option Addr} {c : Nat} {l : List Int} (ho : w1.ownsRow w.heap.size 3 1 (.slice A l.length c) l.length (ints l)) (hsm : l.length ≤ 100000) {R : List Int → Prop} (hR : R l) (hn : Rs.length < 1000) (k : Int) :
    Calls Tryz.prog 8 #[.slice A l.length c, .int .i64 k, .pointer (some ⟨bo, 0, none⟩), .pointer (some ⟨bm, 0, none⟩)] w1 fun e w' => e = .returned (.tuple #[]) ∧ Ltt w0 w' B0 base bo bm mk g lit (fun k => k = g) (Rs ++ [R]) := by
  have hg := h.fl g rfl
  refine ((h.call hb).add (ho.mono h.bs) (fun k hk => ⟨.inr (ho.lt k hk), fun e => by have := (ho.lt k hk).1; omega⟩) hsm hR hn k).mono ?_
  rintro e w' ⟨rfl, h2, -, -⟩
  exact ⟨rfl, h2.wid (fun k hk => .inl hk) rfl⟩
/-- Two lists told: the first added, the second still to be. -/
def Two (w0 w : World) (B0 base bo bm : Nat) (mk : Bool) (g : Nat) (lit : Obj) (Rs : List (List Int → Prop)) (A : Option Addr) (c : Nat) (l : List Int) : Prop :=
  ∃ F : Nat → Prop, Ltt w0 w B0 base bo bm mk g lit F Rs ∧ w.ownsRow base 3 1 (.slice A l.length c) l.length (ints l) ∧ ∀ k, (Value.slice A l.length c).ownBlock = some k → F k ∧ k ≠ g
theorem add_fst (h : Ltt w0 w B0 base bo bm mk g lit (fun k => k = g) Rs) (hb : Below w.heap.size w w1) {A A2 : Option Addr} {c c2 : Nat} {l l2 : List Int} (ho : w1.ownsRow w.heap.size 3 1 (.slice A l.length c) l.length (ints l))
    (ho2 : w1.ownsRow w.heap.size 3 1 (.slice A2 l2.length c2) l2.length (ints l2)) (hap : Apart (.slice A l.length c) (.slice A2 l2.length c2)) (hsm : l.length ≤ 100000) {R : List Int → Prop} (hR : R l) (hn : Rs.length < 1000) (k : Int) :
    Calls Tryz.prog 8 #[.slice A l.length c, .int .i64 k, .pointer (some ⟨bo, 0, none⟩), .pointer (some ⟨bm, 0, none⟩)] w1 fun e w' => e = .returned (.tuple #[]) ∧ Two w0 w' B0 base bo bm mk g lit (Rs ++ [R]) A2 c2 l2 := by
  have hg := h.fl g rfl
  have hbs := h.bs
  have hlo : bo < base := by obtain ⟨rows, hon, _⟩ := h.on; exact hon.lo.1
  refine ((h.call hb).add (ho.mono h.bs) (fun k hk => ⟨.inr (ho.lt k hk), fun e => by have := (ho.lt k hk).1; omega⟩) hsm hR hn k).mono ?_
  rintro e w' ⟨rfl, h2, -, hfr⟩
  refine ⟨rfl, _, h2, own_same (ho2.mono hbs) (fun k hk => hfr k (ho2.lt k hk).2 (.inr (ho2.lt k hk)) (by have := (ho2.lt k hk).1; omega) (fun e => hap k e hk)), fun k hk => ⟨.inr (ho2.lt k hk), fun e => by have := (ho2.lt k hk).1; omega⟩⟩
theorem add_snd {A : Option Addr} {c : Nat} {l : List Int} (h : Two w0 w B0 base bo bm mk g lit Rs A c l) (hsm : l.length ≤ 100000) {R : List Int → Prop} (hR : R l) (hn : Rs.length < 1000) (k : Int) :
    Calls Tryz.prog 8 #[.slice A l.length c, .int .i64 k, .pointer (some ⟨bo, 0, none⟩), .pointer (some ⟨bm, 0, none⟩)] w fun e w' => e = .returned (.tuple #[]) ∧ Ltt w0 w' B0 base bo bm mk g lit (fun k => k = g) (Rs ++ [R]) := by
  obtain ⟨F, h1, ho, hF⟩ := h
  refine (h1.add ho hF hsm hR hn k).mono ?_
  rintro e w' ⟨rfl, h2, -, -⟩
  exact ⟨rfl, h2.wid (fun k hk => by subst hk; exact h1.fg) rfl⟩
end
end Go.Proofs.YtpmkdihencepnaaGreat
