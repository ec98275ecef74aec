/-
  Rows of points, of two cells each; paths.in, ferref.In, paths.point.
-/
import Derived.Test.YtdmpbbgcifodeaaBoolL
import Derived.Test.YtdmpbbgcifodeaaFamV
import Derived.BigQuiet
namespace Go.Proofs.Ytdmpbbgcifodeaa
open Go.RowKit

def pcells (m : List (Int × Int)) : List Value := m.flatMap fun x => [.int .i64 x.1, .int .i64 x.2]
theorem pcells_app (m m' : List (Int × Int)) : pcells (m ++ m') = pcells m ++ pcells m' := by simp [pcells]
theorem pcells_len : ∀ (m : List (Int × Int)), (pcells m).length = m.length * 2
  | [] => rfl
  | x :: m => by
    have := pcells_len m
    have e : pcells (x :: m) = .int .i64 x.1 :: .int .i64 x.2 :: pcells m := rfl
    rw [e, List.length_cons, List.length_cons, List.length_cons, this]; omega
theorem pcells_get : ∀ {m : List (Int × Int)} {i : Nat}, i < m.length → (pcells m)[i * 2]? = some (.int .i64 (m.getD i (0, 0)).1) ∧ (pcells m)[i * 2 + 1]? = some (.int .i64 (m.getD i (0, 0)).2)
  | x :: m, 0, _ => ⟨rfl, rfl⟩
  | x :: m, i + 1, h => by
    have := pcells_get (m := m) (i := i) (by simpa using h)
    have e : (i + 1) * 2 = i * 2 + 1 + 1 := by omega
    rw [e]
    exact this
theorem pcells_one (m : List (Int × Int)) : ∀ u ∈ pcells m, u.oneCell' = true := by
  intro u hu
  obtain ⟨x, _, hx⟩ := List.mem_flatMap.1 hu
  rcases List.mem_cons.1 hx with rfl | hx
  · rfl
  · rcases List.mem_cons.1 hx with rfl | hx
    · rfl
    · simp at hx
theorem pcells_pos {m : List (Int × Int)} (h : 0 < m.length) : 0 < (pcells m).length := by rw [pcells_len]; omega
/-- The two cells of the pair at i. -/
theorem psl_at {w : World} {B b o : Nat} {m : List (Int × Int)} (h : Sl w B (some ⟨b, o, none⟩) (pcells m)) {i : Nat} (hi : i < m.length) :
    w.cell? ⟨b, o + i * 2, none⟩ = some (.int .i64 (m.getD i (0, 0)).1) ∧ w.cell? ⟨b, o + i * 2 + 1, none⟩ = some (.int .i64 (m.getD i (0, 0)).2) := by
  obtain ⟨b', o', e1, _, hc⟩ := h (pcells_pos (by omega))
  obtain ⟨rfl, rfl⟩ : b = b' ∧ o = o' := by simpa using e1
  obtain ⟨h1, h2⟩ := pcells_get hi
  refine ⟨hc _ _ h1, ?_⟩
  have := hc _ _ h2
  rwa [← Nat.add_assoc] at this
theorem psl_addr {w : World} {B : Nat} {A : Option Addr} {m : List (Int × Int)} (h : Sl w B A (pcells m)) (hi : 0 < m.length) : ∃ b o, A = some ⟨b, o, none⟩ ∧ b < B := by
  obtain ⟨b, o, e, hlt, _⟩ := h (pcells_pos hi)
  exact ⟨b, o, e, hlt⟩
def inB (W H : Int) (p : Int × Int) : Bool := decide (0 ≤ p.1) && decide (0 ≤ p.2) && decide (p.1 < W) && decide (p.2 < H)
theorem inB_true {W H : Int} {p : Int × Int} : inB W H p = true ↔ 0 ≤ p.1 ∧ 0 ≤ p.2 ∧ p.1 < W ∧ p.2 < H := by simp [inB, and_assoc]
set_option maxHeartbeats 1000000 in
theorem in_any (W H x y : Int) (bv : Value) (w : World) :
    Calls Try.prog 137 #[.agg #[.int .i64 W, .int .i64 H, bv], .agg #[.int .i64 x, .int .i64 y]] w fun e w' => e = .returned (.bool (inB W H (x, y))) ∧ Below w.heap.size w w' := by
  have hb : Below w.heap.size w ((w.alloc (.cells #[.int .i64 W, .int .i64 H, bv] 43)).alloc (.cells #[.int .i64 x, .int .i64 y] 48)) := ((Below.refl _ _).alloc (Nat.le_refl _) _).alloc (by simp) _
  have HE : Hid (inB W H (x, y) = (decide (0 ≤ x) && decide (0 ≤ y) && decide (x < W) && decide (y < H))) := rfl
  go_enter Try.func137, Try.ntmps137
  cases h1 : decide (0 ≤ x) <;> cases h2 : decide (0 ≤ y) <;> cases h3 : decide (x < W) <;> cases h4 : decide (y < H) <;>
  · have H1 := Lib.hid h1
    have H2 := Lib.hid h2
    have H3 := Lib.hid h3
    have H4 := Lib.hid h4
    go_wp2
    go_ret
    exact ⟨by rw [HE.out, H1.out, H2.out, H3.out, H4.out]; rfl, hb⟩
set_option maxHeartbeats 1000000 in
theorem rin_any (W H x y : Int) (bv : Value) (w : World) :
    Calls Try.prog 26 #[.agg #[.int .i64 W, .int .i64 H, bv], .agg #[.int .i64 x, .int .i64 y]] w fun e w' => e = .returned (.bool (inB W H (x, y))) ∧ Below w.heap.size w w' := by
  have hb : Below w.heap.size w ((w.alloc (.cells #[.int .i64 W, .int .i64 H, bv] 43)).alloc (.cells #[.int .i64 x, .int .i64 y] 48)) := ((Below.refl _ _).alloc (Nat.le_refl _) _).alloc (by simp) _
  have HE : Hid (inB W H (x, y) = (decide (0 ≤ x) && decide (0 ≤ y) && decide (x < W) && decide (y < H))) := rfl
  go_enter Try.func26, Try.ntmps26
  cases h1 : decide (0 ≤ x) <;> cases h2 : decide (0 ≤ y) <;> cases h3 : decide (x < W) <;> cases h4 : decide (y < H) <;>
  · have H1 := Lib.hid h1
    have H2 := Lib.hid h2
    have H3 := Lib.hid h3
    have H4 := Lib.hid h4
    go_wp2
    go_ret
    exact ⟨by rw [HE.out, H1.out, H2.out, H3.out, H4.out]; rfl, hb⟩
set_option maxHeartbeats 1000000 in
theorem point_any (W H : Int) (x y : Int) (bv : Value) (w : World) (hW : 0 ≤ W ∧ W ≤ 8) (hx : 0 ≤ x ∧ x ≤ 8) (hy : 0 ≤ y ∧ y ≤ 8) :
    Calls Try.prog 104 #[.agg #[.int .i64 W, .int .i64 H, bv], .agg #[.int .i64 x, .int .i64 y]] w fun e w' => e = .returned (.int .i64 (y * W + x)) ∧ Below w.heap.size w w' := by
  have hb : Below w.heap.size w ((w.alloc (.cells #[.int .i64 W, .int .i64 H, bv] 43)).alloc (.cells #[.int .i64 x, .int .i64 y] 48)) := ((Below.refl _ _).alloc (Nat.le_refl _) _).alloc (by simp) _
  have h1 : 0 ≤ y * W := Int.mul_nonneg hy.1 hW.1
  have h2 : y * W ≤ 8 * 8 := Int.mul_le_mul hy.2 hW.2 hW.1 (by decide)
  have w1 : IntKind.i64.wrap (y * W) = y * W := IntWalk.i64_in _ (by omega)
  have w2 : IntKind.i64.wrap (y * W + x) = y * W + x := IntWalk.i64_in _ (by omega)
  go_enter Try.func104, Try.ntmps104
  go_wp2
  go_ret
  exact ⟨rfl, hb⟩
end Go.Proofs.Ytdmpbbgcifodeaa
