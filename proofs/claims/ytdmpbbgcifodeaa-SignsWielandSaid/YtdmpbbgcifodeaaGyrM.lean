/-
  What a gyration does to the lines as they lie; the rows of the matrix read back.
-/
import Derived.Test.YtdmpbbgcifodeaaLinkM
namespace Go.Proofs.Ytdmpbbgcifodeaa
open Go.RowKit

/-- The state of a gyration: where all lies is K's, the rows are those of Y. -/
def LG.wears (K : LG) (Y : Cf) : LG := { K with rA := fA Y K.n K.n, rD := fD Y K.n (K.n + 1) }
theorem rowA_get {Y : Cf} {n i j : Nat} (h : j < n + 1) : (rowA Y n i)[j]? = some (Y (.h i j)) := by simp [rowA, h]
theorem rowD_get {Y : Cf} {n i j : Nat} (h : j < n) : (rowD Y n i)[j]? = some (Y (.v i j)) := by simp [rowD, h]
theorem rowA_flip {Y Y' : Cf} {n i k : Nat} {b : Bool} (h1 : Y' (.h i k) = b) (h2 : ∀ x : Nat, x ≠ k → Y' (.h i x) = Y (.h i x)) : (rowA Y n i).set k b = rowA Y' n i := by
  apply List.ext_getElem (by simp [rowA])
  intro x g1 g2
  rw [List.getElem_set]
  simp only [rowA, List.getElem_map, List.getElem_range]
  by_cases e : k = x
  · subst e; rw [if_pos rfl]; exact h1.symm
  · rw [if_neg e]; exact (h2 x (fun h => e h.symm)).symm
theorem rowA_same {Y Y' : Cf} {n i : Nat} (h : ∀ x : Nat, Y' (.h i x) = Y (.h i x)) : rowA Y' n i = rowA Y n i := List.map_congr_left (fun x _ => h x)
theorem rowD_same {Y Y' : Cf} {n i : Nat} (h : ∀ x : Nat, Y' (.v i x) = Y (.v i x)) : rowD Y' n i = rowD Y n i := List.map_congr_left (fun x _ => h x)
theorem rowD_flip {Y Y' : Cf} {n i k : Nat} {b c : Bool} (h1 : Y' (.v i k) = b) (h1' : Y' (.v i (k + 1 : Nat)) = c) (h2 : ∀ x : Nat, x ≠ k → x ≠ k + 1 → Y' (.v i x) = Y (.v i x)) : ((rowD Y n i).set k b).set (k + 1) c = rowD Y' n i := by
  apply List.ext_getElem (by simp [rowD])
  intro x g1 g2
  rw [List.getElem_set, List.getElem_set]
  simp only [rowD, List.getElem_map, List.getElem_range]
  by_cases e : k + 1 = x
  · subst e; rw [if_pos rfl]; exact h1'.symm
  · rw [if_neg e]
    by_cases e2 : k = x
    · subst e2; rw [if_pos rfl]; exact h1.symm
    · rw [if_neg e2]; exact (h2 x (fun h => e2 h.symm) (fun h => e h.symm)).symm
theorem fA_flip {Y Y' : Cf} {n i j : Nat} {b1 b2 : Bool} (hi : i + 1 < n) (h1 : Y' (.h i (j + 1 : Nat)) = b1) (h2 : Y' (.h (i + 1 : Nat) (j + 1 : Nat)) = b2)
    (h : ∀ a x : Nat, ¬ (a = i ∧ x = j + 1) → ¬ (a = i + 1 ∧ x = j + 1) → Y' (.h a x) = Y (.h a x)) :
    at1 (at1 (fA Y n n) i ((fA Y n n i).set (j + 1) b1)) (i + 1) ((fA Y n n (i + 1)).set (j + 1) b2) = fA Y' n n := by
  funext a
  by_cases e : a = i + 1
  · subst e
    rw [at1_self]
    unfold fA
    rw [if_pos (by omega), if_pos (by omega)]
    exact rowA_flip h2 (fun x hx => h _ _ (by omega) (by omega))
  · rw [at1_ne _ _ e]
    by_cases e2 : a = i
    · subst e2
      rw [at1_self]
      unfold fA
      rw [if_pos (by omega), if_pos (by omega)]
      exact rowA_flip h1 (fun x hx => h _ _ (by omega) (by omega))
    · rw [at1_ne _ _ e2]
      unfold fA
      rw [rowA_same (fun x => h a x (by omega) (by omega))]
theorem fD_flip {Y Y' : Cf} {n i j : Nat} {b3 b4 : Bool} (hi : i + 1 < n) (h1 : Y' (.v (i + 1 : Nat) j) = b3) (h2 : Y' (.v (i + 1 : Nat) (j + 1 : Nat)) = b4)
    (h : ∀ a x : Nat, ¬ (a = i + 1 ∧ x = j) → ¬ (a = i + 1 ∧ x = j + 1) → Y' (.v a x) = Y (.v a x)) :
    at1 (fD Y n (n + 1)) (i + 1) (((fD Y n (n + 1) (i + 1)).set j b3).set (j + 1) b4) = fD Y' n (n + 1) := by
  funext a
  by_cases e : a = i + 1
  · subst e
    rw [at1_self]
    unfold fD
    rw [if_pos (by omega), if_pos (by omega)]
    exact rowD_flip h1 h2 (fun x hx hx' => h _ _ (by omega) (by omega))
  · rw [at1_ne _ _ e]
    unfold fD
    rw [rowD_same (fun x => h a x (by omega) (by omega))]

section
variable {w w' : World} {B : Nat} {K : LG} {Y : Cf}
/-- A new block for the struct. -/
theorem AllR.newL (h : AllR w B K.reg) : AllR (w.alloc (.cells #[K.A, K.D] 90)) B (LG.reg { K with L := w.heap.size }) := by
  have hB : B ≤ w.heap.size := by have := h.lt (x := 0) rfl; omega
  refine h.upd (x := 0) (own_obj (n := 1) (z := 2) (heap_alloc_new w _) hB (by omega) rfl) (LG.same (fun h => absurd rfl h) (fun _ => rfl) (fun _ => rfl) (fun _ => rfl) (fun _ => rfl) (fun _ _ => ⟨rfl, rfl⟩) (fun _ _ => ⟨rfl, rfl⟩)) (fun b hb _ => heap_alloc_old w _ hb) (fun b hb => ?_)
  obtain rfl : w.heap.size = b := by simpa [LG.reg, Value.ownBlock] using hb
  exact .inr (Nat.le_refl _)
/-- The rows of a face: two across, one down; what they hold; what comes of the four stores. -/
theorem face_rows {i j : Nat} (h : AllR w B (K.wears Y).reg) (hi : i + 1 < K.n) (hj : j + 1 < K.n) : ∃ g1 c1 g2 c2 g3 c3,
    w.cell? ⟨K.gA, i, none⟩ = some (.slice (some ⟨g1, 0, none⟩) (K.n + 1) c1) ∧ w.cell? ⟨K.gA, i + 1, none⟩ = some (.slice (some ⟨g2, 0, none⟩) (K.n + 1) c2) ∧ w.cell? ⟨K.gD, i + 1, none⟩ = some (.slice (some ⟨g3, 0, none⟩) K.n c3) ∧
    w.cell? ⟨g1, j + 1, none⟩ = some (.bool (Y (.h i (j + 1 : Nat)))) ∧ w.cell? ⟨g2, j + 1, none⟩ = some (.bool (Y (.h (i + 1 : Nat) (j + 1 : Nat)))) ∧
    w.cell? ⟨g3, j, none⟩ = some (.bool (Y (.v (i + 1 : Nat) j))) ∧ w.cell? ⟨g3, j + 1, none⟩ = some (.bool (Y (.v (i + 1 : Nat) (j + 1 : Nat)))) ∧
    g1 ≠ g2 ∧ g1 ≠ g3 ∧ g2 ≠ g3 ∧ B ≤ g1 ∧ B ≤ g2 ∧ B ≤ g3 ∧ (∀ x, w.frozen? ⟨g1, x, none⟩ = false) ∧ (∀ x, w.frozen? ⟨g2, x, none⟩ = false) ∧ (∀ x, w.frozen? ⟨g3, x, none⟩ = false) ∧
    ∀ (b1 b2 b3 b4 : Bool) (Y' : Cf), Y' (.h i (j + 1 : Nat)) = b1 → Y' (.h (i + 1 : Nat) (j + 1 : Nat)) = b2 → Y' (.v (i + 1 : Nat) j) = b3 → Y' (.v (i + 1 : Nat) (j + 1 : Nat)) = b4 → (∀ e, ¬ four i j e → Y' e = Y e) →
      AllR ((((w.setCell ⟨g1, j + 1, none⟩ (.bool b1)).setCell ⟨g2, j + 1, none⟩ (.bool b2)).setCell ⟨g3, j, none⟩ (.bool b3)).setCell ⟨g3, j + 1, none⟩ (.bool b4)) B (K.wears Y').reg := by
  have eA : ∀ a, a < K.n → (K.wears Y).rA a = rowA Y K.n a := fun a ha => if_pos ha
  have eD : ∀ a, a < K.n + 1 → (K.wears Y).rD a = rowD Y K.n a := fun a ha => if_pos ha
  have lA : ∀ a, a < K.n → ((K.wears Y).rA a).length = K.n + 1 := fun a ha => by rw [eA a ha]; simp [rowA]
  have lD : ∀ a, a < K.n + 1 → ((K.wears Y).rD a).length = K.n := fun a ha => by rw [eD a ha]; simp [rowD]
  obtain ⟨g1, c1, v1, q1, o1, B1, t1⟩ := h.rowA (i := i) (by show i < K.n; omega) (by rw [lA _ (by omega)]; omega)
  obtain ⟨g2, c2, v2, q2, o2, B2, t2⟩ := h.rowA (i := i + 1) (by show i + 1 < K.n; omega) (by rw [lA _ (by omega)]; omega)
  obtain ⟨g3, c3, v3, q3, o3, B3, t3⟩ := h.rowD (i := i + 1) (by show i + 1 < K.n + 1; omega) (by rw [lD _ (by omega)]; omega)
  have d12 : g1 ≠ g2 := fun e => h.far (2 * i + 5) (2 * (i + 1) + 5) (by omega) g1 (by rw [LG.regA, v1]; rfl) (by rw [LG.regA, v2, e]; rfl)
  have d13 : g1 ≠ g3 := fun e => h.far (2 * i + 5) (2 * (i + 1) + 6) (by omega) g1 (by rw [LG.regA, v1]; rfl) (by rw [LG.regD, v3, e]; rfl)
  have d23 : g2 ≠ g3 := fun e => h.far (2 * (i + 1) + 5) (2 * (i + 1) + 6) (by omega) g2 (by rw [LG.regA, v2]; rfl) (by rw [LG.regD, v3, e]; rfl)
  refine ⟨g1, c1, g2, c2, g3, c3, by rw [lA _ (by omega)] at q1; exact q1, by rw [lA _ (by omega)] at q2; exact q2, by rw [lD _ (by omega)] at q3; exact q3, ownB_get o1 ?_, ownB_get o2 ?_, ownB_get o3 ?_, ownB_get o3 ?_, d12, d13, d23, B1, B2, B3, fun x => o1.frozenAt x, fun x => o2.frozenAt x, fun x => o3.frozenAt x, ?_⟩
  · rw [eA _ (by omega)]; exact rowA_get (by omega)
  · rw [eA _ (by omega)]; exact rowA_get (by omega)
  · rw [eD _ (by omega)]; exact rowD_get (by omega)
  · rw [eD _ (by omega)]; exact rowD_get (by omega)
  · intro b1 b2 b3 b4 Y' y1 y2 y3 y4 hoth
    have s1 := h.inA v1 (j + 1) b1
    have s2 := s1.inA (i := i + 1) (g := g2) (c := c2) (by
      show K.vA (i + 1) = .slice _ (at1 (K.wears Y).rA i (((K.wears Y).rA i).set (j + 1) b1) (i + 1)).length c2
      rw [at1_ne _ _ (by omega)]; exact v2) (j + 1) b2
    have s3 := s2.inD (i := i + 1) (g := g3) (c := c3) v3 j b3
    have s4 := s3.inD (i := i + 1) (g := g3) (c := c3) (by
      show K.vD (i + 1) = .slice _ (at1 (K.wears Y).rD (i + 1) (((K.wears Y).rD (i + 1)).set j b3) (i + 1)).length c3
      rw [at1_self, List.length_set]; exact v3) (j + 1) b4
    have hA := fA_flip hi y1 y2 (fun a x n1 n2 => hoth _ (by
      unfold four
      simp only [Ed.h.injEq, reduceCtorEq, or_false]
      omega))
    have hD := fD_flip hi y3 y4 (fun a x n1 n2 => hoth _ (by
      unfold four
      simp only [Ed.v.injEq, reduceCtorEq, false_or]
      omega))
    have e : K.wears Y' = { K with rA := at1 (at1 (fA Y K.n K.n) i ((fA Y K.n K.n i).set (j + 1) b1)) (i + 1) ((at1 (fA Y K.n K.n) i ((fA Y K.n K.n i).set (j + 1) b1) (i + 1)).set (j + 1) b2), rD := at1 (at1 (fD Y K.n (K.n + 1)) (i + 1) ((fD Y K.n (K.n + 1) (i + 1)).set j b3)) (i + 1) ((at1 (fD Y K.n (K.n + 1)) (i + 1) ((fD Y K.n (K.n + 1) (i + 1)).set j b3) (i + 1)).set (j + 1) b4) } := by
      rw [at1_self, at1_at1, at1_ne (fA Y K.n K.n) _ (x := i + 1) (by omega), hA, hD]; rfl
    rw [e]
    exact s4
end
/-! The rows of the matrix read back. -/
theorem matRow_length (n : Nat) (Y : Cf) (i : Nat) : (matRow n Y i).length = n := by simp [matRow]
theorem matRow_take {n : Nat} {Y : Cf} {i j : Nat} (hj : j < n) {y : Int} (hy : y = sOf Y i (j + 1) - sOf Y i j) : (matRow n Y i).take j ++ [y] = (matRow n Y i).take (j + 1) := by
  rw [take_snoc (by rw [matRow_length]; exact hj)]
  simp [matRow, hy]
theorem matOf_length (n : Nat) (Y : Cf) : (matOf n Y).length = n := by simp [matOf]
theorem matOf_take {n : Nat} {Y : Cf} {i : Nat} (hi : i < n) : (matOf n Y).take i ++ [matRow n Y i] = (matOf n Y).take (i + 1) := by
  rw [take_snoc (by rw [matOf_length]; exact hi)]
  simp [matOf]
theorem sOf_bit (Y : Cf) (i j : Nat) : sOf Y i j = 0 ∨ sOf Y i j = 1 := by
  unfold sOf; split
  · exact .inr rfl
  · exact .inl rfl
theorem sOf_eq (Y : Cf) (i j : Nat) : (Y (.h i (j + 1 : Nat)) == (((i : Int) + (j : Int)) % 2 == 0)) = decide (sOf Y i (j + 1) = 1) := by
  unfold sOf
  rw [show ((i : Int) + ((j + 1 : Nat) : Int) - 1) = (i : Int) + j by omega]
  show (Y (.h i (j + 1 : Nat)) == decide (((i : Int) + (j : Int)) % 2 = 0)) = _
  cases Y (.h i (j + 1 : Nat)) <;> cases decide (((i : Int) + (j : Int)) % 2 = 0) <;> rfl
end Go.Proofs.Ytdmpbbgcifodeaa
