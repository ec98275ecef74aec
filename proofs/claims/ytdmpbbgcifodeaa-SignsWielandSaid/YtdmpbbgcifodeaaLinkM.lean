/-
  What links reads: the lines as they lie; the way that the code picks; the answers.
-/
import Derived.Test.YtdmpbbgcifodeaaLoopsM
namespace Go.Proofs.Ytdmpbbgcifodeaa
open Go.RowKit

theorem cell_stay {w w' : World} {a : Addr} {v : Value} (hb : Below w.heap.size w w') (h : w.cell? a = some v) : w'.cell? a = some v := (hb.cell (World.block_lt_of_cell? w a h)).trans h
/-- Lines that can be read. -/
structure LR (w : World) (B gA gD n : Nat) (X : Cf) : Prop where
  a : ∀ i, i < n → ∃ g c, w.cell? ⟨gA, i, none⟩ = some (.slice (some ⟨g, 0, none⟩) (n + 1) c) ∧ (∀ j, j < n + 1 → w.cell? ⟨g, j, none⟩ = some (.bool (X (.h i j)))) ∧ g < B
  d : ∀ i, i < n + 1 → ∃ g c, w.cell? ⟨gD, i, none⟩ = some (.slice (some ⟨g, 0, none⟩) n c) ∧ (∀ j, j < n → w.cell? ⟨g, j, none⟩ = some (.bool (X (.v i j)))) ∧ g < B
  ltA : gA < B
  ltD : gD < B
section
variable {w w' : World} {B gA gD n : Nat} {X : Cf}
theorem LR.below (h : LR w B gA gD n X) (hb : Below B w w') : LR w' B gA gD n X := by
  refine ⟨fun i hi => ?_, fun i hi => ?_, h.ltA, h.ltD⟩
  · obtain ⟨g, c, h1, h2, h3⟩ := h.a i hi
    exact ⟨g, c, (hb.cell (p := ⟨gA, i, none⟩) h.ltA).trans h1, fun j hj => (hb.cell (p := ⟨g, j, none⟩) h3).trans (h2 j hj), h3⟩
  · obtain ⟨g, c, h1, h2, h3⟩ := h.d i hi
    exact ⟨g, c, (hb.cell (p := ⟨gD, i, none⟩) h.ltD).trans h1, fun j hj => (hb.cell (p := ⟨g, j, none⟩) h3).trans (h2 j hj), h3⟩
theorem AllR.lr {K : LG} (h : AllR w B K.reg) {X : Cf} (h1 : 1 ≤ K.n) (hA : K.rA = fA X K.n K.n) (hD : K.rD = fD X K.n (K.n + 1)) : LR w w.heap.size K.gA K.gD K.n X := by
  refine ⟨fun i hi => ?_, fun i hi => ?_, (h.lt (x := 1) rfl).2, (h.lt (x := 2) rfl).2⟩
  · have e : K.rA i = Go.Proofs.Ytdmpbbgcifodeaa.rowA X K.n i := by rw [hA]; exact if_pos hi
    have hl : (K.rA i).length = K.n + 1 := by rw [e]; simp [Go.Proofs.Ytdmpbbgcifodeaa.rowA]
    obtain ⟨g, c, _, hc, ho, _, hlt⟩ := h.rowA hi (by omega)
    rw [hl] at hc
    refine ⟨g, c, hc, fun j hj => ownB_get ho ?_, hlt⟩
    rw [e]; simp [Go.Proofs.Ytdmpbbgcifodeaa.rowA, hj]
  · have e : K.rD i = Go.Proofs.Ytdmpbbgcifodeaa.rowD X K.n i := by rw [hD]; exact if_pos hi
    have hl : (K.rD i).length = K.n := by rw [e]; simp [Go.Proofs.Ytdmpbbgcifodeaa.rowD]
    obtain ⟨g, c, _, hc, ho, _, hlt⟩ := h.rowD hi (by omega)
    rw [hl] at hc
    refine ⟨g, c, hc, fun j hj => ownB_get ho ?_, hlt⟩
    rw [e]; simp [Go.Proofs.Ytdmpbbgcifodeaa.rowD, hj]
end

/-- The way that the code has picked behind u looks. -/
def wayTo (b0 b1 b2 b3 : Bool) (c : Nat) : Nat → Int
  | 0 => -1
  | u + 1 => if (pick b0 b1 b2 b3 u && decide (u ≠ c)) = true then (u : Int) else wayTo b0 b1 b2 b3 c u
theorem wayTo_four : ∀ b0 b1 b2 b3 : Bool, ∀ c : Fin 4, Two b0 b1 b2 b3 → pick b0 b1 b2 b3 c = true → wayTo b0 b1 b2 b3 c 4 = wy b0 b1 b2 b3 c := by decide

/-- What links answers. -/
def LinkOk (n : Nat) (X : Cf) (f : Nat → Int) : Prop := ∀ e : Nat, e < 2 * n → 0 ≤ f e ∧ f e < 2 * n ∧ Lnk n X (2 * (e : Int)) (2 * f e)
theorem link_ok {n : Nat} {X : Cf} (hX : GdL n X 0) : ∃ f, LinkOk n X f := by
  have h : ∀ e : Nat, ∃ x : Int, e < 2 * n → 0 ≤ x ∧ x < 2 * n ∧ Lnk n X (2 * (e : Int)) (2 * x) := by
    intro e
    by_cases he : e < 2 * n
    · obtain ⟨k, hk⟩ := Lnk.any hX (k := 2 * (e : Int)) (by omega) (by omega) (by omega)
      obtain ⟨a, b, c⟩ := hk.end_ hX (by omega) (by omega) (by omega)
      exact ⟨k / 2, fun _ => ⟨by omega, by omega, by rw [show 2 * (k / 2) = k by omega]; exact hk⟩⟩
    · exact ⟨0, fun h => absurd h he⟩
  exact ⟨fun e => Classical.choose (h e), fun e he => Classical.choose_spec (h e) he⟩

/-- One look at a box. -/
theorem box_way {n : Nat} {X : Cf} (hX : GdL n X 0) {d : Dt} (h : On n X d) :
    wayTo (X (.h d.r d.q)) (X (.v (d.r + 1) d.q)) (X (.h d.r (d.q + 1))) (X (.v d.r d.q)) d.c 4 = wyAt X d.r d.q d.c ∧ wyAt X d.r d.q d.c < 4 := by
  have hw := hX.way h.ins h.c4 h.on
  refine ⟨?_, hw.1⟩
  have ho := h.on
  unfold ed at ho
  rw [edAt_pick X] at ho
  exact wayTo_four _ _ _ _ ⟨d.c, h.c4⟩ (hX.two _ _ h.ins) ho
theorem lit_four (w : World) (x0 x1 x2 x3 : Bool) (t : TypeId) {u : Nat} (hu : u < 4) : (w.alloc (.cells #[.bool x0, .bool x1, .bool x2, .bool x3] t)).drew.cell? ⟨w.heap.size, u, none⟩ = some (.bool (pick x0 x1 x2 x3 u)) := by
  rcases lt4 hu with rfl | rfl | rfl | rfl
  · show World.cell? (w.alloc _) _ = _; rw [World.cell?_alloc_at _ _ _ _ rfl]; rfl
  · show World.cell? (w.alloc _) _ = _; rw [World.cell?_alloc_at _ _ _ _ rfl]; rfl
  · show World.cell? (w.alloc _) _ = _; rw [World.cell?_alloc_at _ _ _ _ rfl]; rfl
  · show World.cell? (w.alloc _) _ = _; rw [World.cell?_alloc_at _ _ _ _ rfl]; rfl
/-- One step of the look. -/
theorem wayTo_hit {x0 x1 x2 x3 : Bool} {c u : Nat} (h1 : pick x0 x1 x2 x3 u = true) (h2 : u ≠ c) : wayTo x0 x1 x2 x3 c (u + 1) = u := by
  show (if (pick x0 x1 x2 x3 u && decide (u ≠ c)) = true then (u : Int) else wayTo x0 x1 x2 x3 c u) = u
  rw [h1, decide_eq_true h2]; rfl
theorem wayTo_miss {x0 x1 x2 x3 : Bool} {c u : Nat} (h : pick x0 x1 x2 x3 u = false ∨ u = c) : wayTo x0 x1 x2 x3 c (u + 1) = wayTo x0 x1 x2 x3 c u := by
  show (if (pick x0 x1 x2 x3 u && decide (u ≠ c)) = true then (u : Int) else wayTo x0 x1 x2 x3 c u) = _
  rcases h with h | h
  · rw [h]; rfl
  · rw [decide_eq_false (by omega), Bool.and_false]; rfl
end Go.Proofs.Ytdmpbbgcifodeaa
