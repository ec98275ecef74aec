/- Part of the proof. -/
import Derived.BigRegion
import Derived.Deep.RegionLaw
import Derived.Test.YtpmkdihencepnaaGreatDoorMk34
set_option maxHeartbeats 16000000
set_option maxRecDepth 100000
namespace Go.Proofs.YtpmkdihencepnaaGreatDoor
section
open Go.RowKit
theorem cell_stay {w w' : World} {a : Addr} {v : Value} (hb : Below w.heap.size w w') (h : w.cell? a = some v) : w'.cell? a = some v := (hb.cell (World.block_lt_of_cell? w a h)).trans h
structure LR (w : World) (B gA gD n : Nat) (X : Cf) : Prop where
 a : ∀ i, i < n → ∃ g c, w.cell? ⟨gA, i, none⟩ = some (.slice (some ⟨g, 0, none⟩) (n + 1) c) ∧ (∀ j, j < n + 1 → w.cell? ⟨g, j, none⟩ = some (.bool (X (.h i j)))) ∧ g < B
 d : ∀ i, i < n + 1 → ∃ g c, w.cell? ⟨gD, i, none⟩ = some (.slice (some ⟨g, 0, none⟩) n c) ∧ (∀ j, j < n → w.cell? ⟨g, j, none⟩ = some (.bool (X (.v i j)))) ∧ g < B
 ltA : gA < B
 ltD : gD < B
section
variable {w w' : World} {B gA gD n : Nat} {X : Cf}
theorem LR.below (h : LR w B gA gD n X) (hb : Below B w w') : LR w' B gA gD n X := by
 refine ⟨fun i hi => ?_, fun i hi => ?_, h.ltA, h.ltD⟩
 · obtain ⟨g, c, h1, h2, h3⟩ := h.a i hi
   exact ⟨g, c, (hb.cell (p := ⟨gA, i, none⟩) h.ltA).trans h1, fun j hj => (hb.cell (p := ⟨g, j, none⟩) h3).trans (h2 j hj), h3⟩
 · obtain ⟨g, c, h1, h2, h3⟩ := h.d i hi
   exact ⟨g, c, (hb.cell (p := ⟨gD, i, none⟩) h.ltD).trans h1, fun j hj => (hb.cell (p := ⟨g, j, none⟩) h3).trans (h2 j hj), h3⟩
theorem AllR.lr {K : LG} (h : AllR w B K.reg) {X : Cf} (h1 : 1 ≤ K.n) (hA : K.rA = fA X K.n K.n) (hD : K.rD = fD X K.n (K.n + 1)) : LR w w.heap.size K.gA K.gD K.n X := by
 refine ⟨fun i hi => ?_, fun i hi => ?_, (h.lt (x := 1) rfl).2, (h.lt (x := 2) rfl).2⟩
 · have e : K.rA i = Go.Proofs.YtpmkdihencepnaaGreatDoor.rowA X K.n i := by rw [hA]; exact if_pos hi
   have hl : (K.rA i).length = K.n + 1 := by rw [e]; simp [Go.Proofs.YtpmkdihencepnaaGreatDoor.rowA]
   obtain ⟨g, c, _, hc, ho, _, hlt⟩ := h.rowA hi (by omega)
   rw [hl] at hc
   refine ⟨g, c, hc, fun j hj => ownB_get ho ?_, hlt⟩
   rw [e]; simp [Go.Proofs.YtpmkdihencepnaaGreatDoor.rowA, hj]
 · have e : K.rD i = Go.Proofs.YtpmkdihencepnaaGreatDoor.rowD X K.n i := by rw [hD]; exact if_pos hi
   have hl : (K.rD i).length = K.n := by rw [e]; simp [Go.Proofs.YtpmkdihencepnaaGreatDoor.rowD]
   obtain ⟨g, c, _, hc, ho, _, hlt⟩ := h.rowD hi (by omega)
   rw [hl] at hc
   refine ⟨g, c, hc, fun j hj => ownB_get ho ?_, hlt⟩
   rw [e]; simp [Go.Proofs.YtpmkdihencepnaaGreatDoor.rowD, hj]
end
end
section
open Go.RowKit
def LG.wears (K : LG) (Y : Cf) : LG := { K with rA := fA Y K.n K.n, rD := fD Y K.n (K.n + 1) }
theorem rowA_get {Y : Cf} {n i j : Nat} (h : j < n + 1) : (rowA Y n i)[j]? = some (Y (.h i j)) := by simp [rowA, h]
theorem rowD_get {Y : Cf} {n i j : Nat} (h : j < n) : (rowD Y n i)[j]? = some (Y (.v i j)) := by simp [rowD, h]
theorem rowA_flip {Y Y' : Cf} {n i k : Nat} {b : Bool} (h1 : Y' (.h i k) = b) (h2 : ∀ x : Nat, x ≠ k → Y' (.h i x) = Y (.h i x)) : (rowA Y n i).set k b = rowA Y' n i := by
 apply List.ext_getElem (by simp [rowA])
 intro x g1 g2
 rw [List.getElem_set]
 simp only [rowA, List.getElem_map, List.getElem_range]
 by_cases e : k = x
 · subst e; rw [if_pos rfl]; exact h1.symm
 · rw [if_neg e]; exact (h2 x (fun h => e h.symm)).symm
theorem rowA_same {Y Y' : Cf} {n i : Nat} (h : ∀ x : Nat, Y' (.h i x) = Y (.h i x)) : rowA Y' n i = rowA Y n i := List.map_congr_left (fun x _ => h x)
theorem rowD_same {Y Y' : Cf} {n i : Nat} (h : ∀ x : Nat, Y' (.v i x) = Y (.v i x)) : rowD Y' n i = rowD Y n i := List.map_congr_left (fun x _ => h x)
theorem rowD_flip {Y Y' : Cf} {n i k : Nat} {b c : Bool} (h1 : Y' (.v i k) = b) (h1' : Y' (.v i (k + 1 : Nat)) = c) (h2 : ∀ x : Nat, x ≠ k → x ≠ k + 1 → Y' (.v i x) = Y (.v i x)) : ((rowD Y n i).set k b).set (k + 1) c = rowD Y' n i := by
 apply List.ext_getElem (by simp [rowD])
 intro x g1 g2
 rw [List.getElem_set, List.getElem_set]
 simp only [rowD, List.getElem_map, List.getElem_range]
 by_cases e : k + 1 = x
 · subst e; rw [if_pos rfl]; exact h1'.symm
 · rw [if_neg e]
   by_cases e2 : k = x
   · subst e2; rw [if_pos rfl]; exact h1.symm
   · rw [if_neg e2]; exact (h2 x (fun h => e2 h.symm) (fun h => e h.symm)).symm
theorem fA_flip {Y Y' : Cf} {n i j : Nat} {b1 b2 : Bool} (hi : i + 1 < n) (h1 : Y' (.h i (j + 1 : Nat)) = b1) (h2 : Y' (.h (i + 1 : Nat) (j + 1 : Nat)) = b2)
 (h : ∀ a x : Nat, ¬ (a = i ∧ x = j + 1) → ¬ (a = i + 1 ∧ x = j + 1) → Y' (.h a x) = Y (.h a x)) :
 at1B (at1B (fA Y n n) i ((fA Y n n i).set (j + 1) b1)) (i + 1) ((fA Y n n (i + 1)).set (j + 1) b2) = fA Y' n n := by
 funext a
 by_cases e : a = i + 1
 · subst e
   rw [at1_self]
   unfold fA
   rw [if_pos (by omega), if_pos (by omega)]
   exact rowA_flip h2 (fun x hx => h _ _ (by omega) (by omega))
 · rw [at1_ne _ _ e]
   by_cases e2 : a = i
   · subst e2
     rw [at1_self]
     unfold fA
     rw [if_pos (by omega), if_pos (by omega)]
     exact rowA_flip h1 (fun x hx => h _ _ (by omega) (by omega))
   · rw [at1_ne _ _ e2]
     unfold fA
     rw [rowA_same (fun x => h a x (by omega) (by omega))]
theorem fD_flip {Y Y' : Cf} {n i j : Nat} {b3 b4 : Bool} (hi : i + 1 < n) (h1 : Y' (.v (i + 1 : Nat) j) = b3) (h2 : Y' (.v (i + 1 : Nat) (j + 1 : Nat)) = b4)
 (h : ∀ a x : Nat, ¬ (a = i + 1 ∧ x = j) → ¬ (a = i + 1 ∧ x = j + 1) → Y' (.v a x) = Y (.v a x)) :
 at1B (fD Y n (n + 1)) (i + 1) (((fD Y n (n + 1) (i + 1)).set j b3).set (j + 1) b4) = fD Y' n (n + 1) := by
 funext a
 by_cases e : a = i + 1
 · subst e
   rw [at1_self]
   unfold fD
   rw [if_pos (by omega), if_pos (by omega)]
   exact rowD_flip h1 h2 (fun x hx hx' => h _ _ (by omega) (by omega))
 · rw [at1_ne _ _ e]
   unfold fD
   rw [rowD_same (fun x => h a x (by omega) (by omega))]
section
variable {w w' : World} {B : Nat} {K : LG} {Y : Cf}
theorem AllR.newL (h : AllR w B K.reg) : AllR (w.alloc (.cells #[K.A, K.D] 190)) B (LG.reg { K with L := w.heap.size }) := by
 have hB : B ≤ w.heap.size := by have := h.lt (x := 0) rfl; omega
 refine h.upd (x := 0) (own_obj (n := 1) (z := 2) (heap_alloc_new w _) hB (by omega) rfl) (LG.same (fun h => absurd rfl h) (fun _ => rfl) (fun _ => rfl) (fun _ => rfl) (fun _ => rfl) (fun _ _ => ⟨rfl, rfl⟩) (fun _ _ => ⟨rfl, rfl⟩)) (fun b hb _ => heap_alloc_old w _ hb) (fun b hb => ?_)
 obtain rfl : w.heap.size = b := by simpa [LG.reg, Value.ownBlock] using hb
 exact .inr (Nat.le_refl _)
theorem face_rows {i j : Nat} (h : AllR w B (K.wears Y).reg) (hi : i + 1 < K.n) (hj : j + 1 < K.n) : ∃ g1 c1 g2 c2 g3 c3,
 w.cell? ⟨K.gA, i, none⟩ = some (.slice (some ⟨g1, 0, none⟩) (K.n + 1) c1) ∧ w.cell? ⟨K.gA, i + 1, none⟩ = some (.slice (some ⟨g2, 0, none⟩) (K.n + 1) c2) ∧ w.cell? ⟨K.gD, i + 1, none⟩ = some (.slice (some ⟨g3, 0, none⟩) K.n c3) ∧
 w.cell? ⟨g1, j + 1, none⟩ = some (.bool (Y (.h i (j + 1 : Nat)))) ∧ w.cell? ⟨g2, j + 1, none⟩ = some (.bool (Y (.h (i + 1 : Nat) (j + 1 : Nat)))) ∧
 w.cell? ⟨g3, j, none⟩ = some (.bool (Y (.v (i + 1 : Nat) j))) ∧ w.cell? ⟨g3, j + 1, none⟩ = some (.bool (Y (.v (i + 1 : Nat) (j + 1 : Nat)))) ∧
 g1 ≠ g2 ∧ g1 ≠ g3 ∧ g2 ≠ g3 ∧ B ≤ g1 ∧ B ≤ g2 ∧ B ≤ g3 ∧ (∀ x, w.frozen? ⟨g1, x, none⟩ = false) ∧ (∀ x, w.frozen? ⟨g2, x, none⟩ = false) ∧ (∀ x, w.frozen? ⟨g3, x, none⟩ = false) ∧
 ∀ (b1 b2 b3 b4 : Bool) (Y' : Cf), Y' (.h i (j + 1 : Nat)) = b1 → Y' (.h (i + 1 : Nat) (j + 1 : Nat)) = b2 → Y' (.v (i + 1 : Nat) j) = b3 → Y' (.v (i + 1 : Nat) (j + 1 : Nat)) = b4 → (∀ e, ¬ four i j e → Y' e = Y e) →
  AllR ((((w.setCell ⟨g1, j + 1, none⟩ (.bool b1)).setCell ⟨g2, j + 1, none⟩ (.bool b2)).setCell ⟨g3, j, none⟩ (.bool b3)).setCell ⟨g3, j + 1, none⟩ (.bool b4)) B (K.wears Y').reg := by
 have eA : ∀ a, a < K.n → (K.wears Y).rA a = rowA Y K.n a := fun a ha => if_pos ha
 have eD : ∀ a, a < K.n + 1 → (K.wears Y).rD a = rowD Y K.n a := fun a ha => if_pos ha
 have lA : ∀ a, a < K.n → ((K.wears Y).rA a).length = K.n + 1 := fun a ha => by rw [eA a ha]; simp [rowA]
 have lD : ∀ a, a < K.n + 1 → ((K.wears Y).rD a).length = K.n := fun a ha => by rw [eD a ha]; simp [rowD]
 obtain ⟨g1, c1, v1, q1, o1, B1, t1⟩ := h.rowA (i := i) (by show i < K.n; omega) (by rw [lA _ (by omega)]; omega)
 obtain ⟨g2, c2, v2, q2, o2, B2, t2⟩ := h.rowA (i := i + 1) (by show i + 1 < K.n; omega) (by rw [lA _ (by omega)]; omega)
 obtain ⟨g3, c3, v3, q3, o3, B3, t3⟩ := h.rowD (i := i + 1) (by show i + 1 < K.n + 1; omega) (by rw [lD _ (by omega)]; omega)
 have d12 : g1 ≠ g2 := fun e => h.far (2 * i + 5) (2 * (i + 1) + 5) (by omega) g1 (by rw [LG.regA, v1]; rfl) (by rw [LG.regA, v2, e]; rfl)
 have d13 : g1 ≠ g3 := fun e => h.far (2 * i + 5) (2 * (i + 1) + 6) (by omega) g1 (by rw [LG.regA, v1]; rfl) (by rw [LG.regD, v3, e]; rfl)
 have d23 : g2 ≠ g3 := fun e => h.far (2 * (i + 1) + 5) (2 * (i + 1) + 6) (by omega) g2 (by rw [LG.regA, v2]; rfl) (by rw [LG.regD, v3, e]; rfl)
 refine ⟨g1, c1, g2, c2, g3, c3, by rw [lA _ (by omega)] at q1; exact q1, by rw [lA _ (by omega)] at q2; exact q2, by rw [lD _ (by omega)] at q3; exact q3, ownB_get o1 ?_, ownB_get o2 ?_, ownB_get o3 ?_, ownB_get o3 ?_, d12, d13, d23, B1, B2, B3, fun x => o1.frozenAt x, fun x => o2.frozenAt x, fun x => o3.frozenAt x, ?_⟩
 · rw [eA _ (by omega)]; exact rowA_get (by omega)
 · rw [eA _ (by omega)]; exact rowA_get (by omega)
 · rw [eD _ (by omega)]; exact rowD_get (by omega)
 · rw [eD _ (by omega)]; exact rowD_get (by omega)
 · intro b1 b2 b3 b4 Y' y1 y2 y3 y4 hoth
   have s1 := h.inA v1 (j + 1) b1
   have s2 := s1.inA (i := i + 1) (g := g2) (c := c2) (by
    show K.vA (i + 1) = .slice _ (at1B (K.wears Y).rA i (((K.wears Y).rA i).set (j + 1) b1) (i + 1)).length c2
    rw [at1_ne _ _ (by omega)]; exact v2) (j + 1) b2
   have s3 := s2.inD (i := i + 1) (g := g3) (c := c3) v3 j b3
   have s4 := s3.inD (i := i + 1) (g := g3) (c := c3) (by
    show K.vD (i + 1) = .slice _ (at1B (K.wears Y).rD (i + 1) (((K.wears Y).rD (i + 1)).set j b3) (i + 1)).length c3
    rw [at1_self, List.length_set]; exact v3) (j + 1) b4
   have hA := fA_flip hi y1 y2 (fun a x n1 n2 => hoth _ (by
    unfold four
    simp only [Ed.h.injEq, reduceCtorEq, or_false]
    omega))
   have hD := fD_flip hi y3 y4 (fun a x n1 n2 => hoth _ (by
    unfold four
    simp only [Ed.v.injEq, reduceCtorEq, false_or]
    omega))
   have e : K.wears Y' = { K with rA := at1B (at1B (fA Y K.n K.n) i ((fA Y K.n K.n i).set (j + 1) b1)) (i + 1) ((at1B (fA Y K.n K.n) i ((fA Y K.n K.n i).set (j + 1) b1) (i + 1)).set (j + 1) b2), rD := at1B (at1B (fD Y K.n (K.n + 1)) (i + 1) ((fD Y K.n (K.n + 1) (i + 1)).set j b3)) (i + 1) ((at1B (fD Y K.n (K.n + 1)) (i + 1) ((fD Y K.n (K.n + 1) (i + 1)).set j b3) (i + 1)).set (j + 1) b4) } := by
    rw [at1_self, at1_at1, at1_ne (fA Y K.n K.n) _ (x := i + 1) (by omega), hA, hD]; rfl
   rw [e]
   exact s4
end
theorem matRow_length (n : Nat) (Y : Cf) (i : Nat) : (matRow n Y i).length = n := by simp [matRow]
theorem matRow_take {n : Nat} {Y : Cf} {i j : Nat} (hj : j < n) {y : Int} (hy : y = sOf Y i (j + 1) - sOf Y i j) : (matRow n Y i).take j ++ [y] = (matRow n Y i).take (j + 1) := by
 rw [take_snoc (by rw [matRow_length]; exact hj)]
 simp [matRow, hy]
theorem matOf_length (n : Nat) (Y : Cf) : (matOf n Y).length = n := by simp [matOf]
theorem matOf_take {n : Nat} {Y : Cf} {i : Nat} (hi : i < n) : (matOf n Y).take i ++ [matRow n Y i] = (matOf n Y).take (i + 1) := by
 rw [take_snoc (by rw [matOf_length]; exact hi)]
 simp [matOf]
theorem sOf_bit (Y : Cf) (i j : Nat) : sOf Y i j = 0 ∨ sOf Y i j = 1 := by
 unfold sOf; split
 · exact .inr rfl
 · exact .inl rfl
theorem sOf_eq (Y : Cf) (i j : Nat) : (Y (.h i (j + 1 : Nat)) == (((i : Int) + (j : Int)) % 2 == 0)) = decide (sOf Y i (j + 1) = 1) := by
 unfold sOf
 rw [show ((i : Int) + ((j + 1 : Nat) : Int) - 1) = (i : Int) + j by omega]
 show (Y (.h i (j + 1 : Nat)) == decide (((i : Int) + (j : Int)) % 2 = 0)) = _
 cases Y (.h i (j + 1 : Nat)) <;> cases decide (((i : Int) + (j : Int)) % 2 = 0) <;> rfl
end
section
open Go.RowKit
theorem loops_any (A : Option Addr) (cap : Nat) (m : List (List Int)) (w : World) (hm : SignOk m) (h : SR w w.heap.size A m) :
 Calls Tryz.prog 183 #[.slice A m.length cap] w fun e w' => LOut w m.length (lpC m) e w' := by
 have h7 := hm.1
 have h1 := hm.2.pos
 obtain ⟨n, hn⟩ : ∃ n, n = m.length := ⟨_, rfl⟩
 rw [← hn] at h7 h1 ⊢
 have HN := Lib.hid hn
 have HS := Lib.hid hm
 have HR := Lib.hid h
 clear hn hm h
 go_enter Tryz.func183, Tryz.ntmps183
 go_upto_region 2 with fail
 go_cut [4] (fun pv wz => ∃ L gA gD, pv = .pointer (some ⟨L, 0, none⟩) ∧ LSt w wz n L gA gD w.heap.size (.slice none 0 0) [] (fA (lpC m) n 0) (fD (lpC m) n 0))
 case first =>
  obtain ⟨i0, hi0, hz0, hz1, hz2⟩ := info_parts Tryz.infoSliceB
  have hmA := fun w => run_make (P := Tryz.prog) w 188 193 i0 (.slice none 0 0) Tryz.underlying188 hi0 hz0 .i64 .i64 n n (by omega) (by omega) (by rw [hz2]; omega) (by omega)
  have hmD := fun w => run_make (P := Tryz.prog) w 188 193 i0 (.slice none 0 0) Tryz.underlying188 hi0 hz0 .i64 .i64 (n + 1) (n + 1) (by omega) (by omega) (by rw [hz2]; omega) (by omega)
  go_region
  all_goals
   go_wp2
   go_meet
   rw [← fA_zero (lpC m) n, ← fD_zero (lpC m) n]
   refine ⟨_, _, _, rfl, LSt.start h7 (by first | exact (four_laid _ _ _ _ _).1) (by first | exact (four_laid _ _ _ _ _).2.1 | exact (four_laid _ _ _ _ _).2.2.1 | exact (four_laid _ _ _ _ _).2.2.2.1) (by first | exact (four_laid _ _ _ _ _).2.1 | exact (four_laid _ _ _ _ _).2.2.1 | exact (four_laid _ _ _ _ _).2.2.2.1) (by first | exact (four_laid _ _ _ _ _).2.1 | exact (four_laid _ _ _ _ _).2.2.1 | exact (four_laid _ _ _ _ _).2.2.2.1) (by omega) (by omega) (by omega) (by omega) (by omega) (by omega) ?_⟩
   exact below_drewN (four_laid _ _ _ _ _).2.2.2.2 1
 case rest =>
  obtain ⟨L, gA, gD, rfl, hst⟩ := hcut
  obtain ⟨N, hNe⟩ : ∃ N, N = w.heap.size := ⟨_, rfl⟩
  rw [← hNe] at hst
  have HNE := Lib.hid hNe
  clear hNe
  go_upto_region 3 with fail
  go_cut [] (fun wy => LSt w wy n L gA gD N (.slice none 0 0) [] (fA (lpC m) n 0) (at1B (fD (lpC m) n 0) 0 (mixD (lpC m) n 0 0)))
  case first =>
   obtain ⟨vA, vD, hall, hW⟩ := hst
   have hcl := (hall.alloc (.cells (madeCells #[.bool false] n) 4)).drew
   have HALL := Lib.hid hall
   have HW := Lib.hid hW
   obtain ⟨i0, hi0, hz0, hz1, hz2⟩ := info_parts Tryz.infoBool
   have hmk := fun w => run_make (P := Tryz.prog) w 193 4 i0 (.bool false) Tryz.underlying193 hi0 hz0 .i64 .i64 n n (by omega) (by omega) (by rw [hz2]; omega) (by omega)
   have c1 : wc.drew.cell? ⟨L, 1, none⟩ = some (.slice (some ⟨gD, 0, none⟩) (n + 1) (n + 1)) := hall.drew.cL.2
   have c2 : (wc.alloc (.cells (madeCells #[.bool false] n) 4)).drew.cell? ⟨L, 1, none⟩ = some (.slice (some ⟨gD, 0, none⟩) (n + 1) (n + 1)) := hcl.cL.2
   have c3 : (wc.alloc (.cells (madeCells #[.bool false] n) 4)).drew.cell? ⟨gD, 0, none⟩ = some (vD 0) := hcl.cellD (i := 0) (by show 0 < n + 1; omega)
   have c4 : (wc.alloc (.cells (madeCells #[.bool false] n) 4)).drew.frozen? ⟨gD, 0, none⟩ = false := hcl.fzD 0
   clear hcl hall hW
   go_region
   all_goals
    go_wp2
    go_meet
    exact LSt.newD HALL.out HW.out h7 (i := 0) _ (mixD_zero _ _ _).symm
  case rest =>
   clear hst
   obtain ⟨vA, vD, hall, hW⟩ := hcut
   have hsz := hW.size
   have hNs : N ≤ wc.heap.size := Nat.le_of_lt (hall.lt (x := 0) rfl).2 |> Nat.le_trans (hall.lt (x := 0) rfl).1
   have HALL := Lib.hid hall
   have HW := Lib.hid hW
   clear hall hW hsz
   go_wp2_with (first | (refine wpList_mk (base := N) rfl (.tmp 25) (.tmp 25) rfl n rfl rfl (by omega) hNs (fun w1 hown1 hb1 hz1 => ?_)) | fail)
   rw [tab_zero] at hown1
   have hst := LSt.newS HALL.out HW.out hb1 (Nat.le_refl _) (tab_length n _).symm hown1
   have HST := Lib.hid hst
   clear hst hown1 hb1 hz1 HALL HW hNs
   obtain ⟨gS, hgS⟩ : ∃ g, g = wc.heap.size := ⟨_, rfl⟩
   rw [← hgS] at HST ⊢
   clear hgS
   go_wp2
   go_loopw [28] (fun kv wr => ∃ k : Nat, k ≤ n ∧ kv = .int .i64 k ∧ LSt w wr n L gA gD N (.slice (some ⟨gS, 0, none⟩) n n) (tab n (fun _ => 0)) (fA (lpC m) n 0) (at1B (fD (lpC m) n 0) 0 (mixD (lpC m) n 0 k))) (fun kv _ => n - (intOf kv).toNat)
   case atStart => exact ⟨0, Nat.zero_le _, rfl, HST.out⟩
   case round =>
    clear HST vA vD
    obtain ⟨k, hk, rfl, vA, vD, hall, hW⟩ := hrel
    by_cases hkn : k < n
    · have dk : decide (k < n) = true := decide_eq_true hkn
      have dk2 : decide ((k : Int) < (n : Int)) = true := decide_eq_true (by omega)
      obtain ⟨g, c, hcD, hz, hf, hset, hNg⟩ := LSt.atD hall (i := 0) (by omega) (at1_self _ _ _) (mixD_length _ _ _ _) h1
      have hcL : wr.cell? ⟨L, 1, none⟩ = some (.slice (some ⟨gD, 0, none⟩) (n + 1) (n + 1)) := hall.cL.2
      have hold := hz k _ (List.getElem?_eq_getElem (by rw [mixD_length]; exact hkn))
      obtain ⟨zz, hzz⟩ : ∃ z, z = (mixD (lpC m) n 0 k)[k]'(by rw [mixD_length]; exact hkn) := ⟨_, rfl⟩
      rw [← hzz] at hold
      have hff := hf k
      have hpar := lp_top m k
      obtain ⟨x, hx⟩ : ∃ x, x = lpC m (.v ((0 : Nat) : Int) k) := ⟨_, rfl⟩
      rw [← hx] at hpar
      have hnx := hset k x
      rw [at1_at1, hx, mixD_set, ← hx] at hnx
      have HNX := Lib.hid hnx
      have HW := Lib.hid hW
      clear hzz hx hnx hset hz hf hall hW
      go_wp2
      go_roundw
      case rel => exact ⟨k + 1, by omega, by go_num, vA, vD, HNX.out, HW.out.setCell (p := ⟨g, k, none⟩) hNg _⟩
      case measure => simp [intOf]; omega
    · have dk : decide (k < n) = false := decide_eq_false hkn
      have dk2 : decide ((k : Int) < (n : Int)) = false := decide_eq_false (by omega)
      have hke : k = n := by omega
      rw [hke, fD_next] at hall
      have HST : Hid (LSt w wr n L gA gD N (.slice (some ⟨gS, 0, none⟩) n n) (tab n (fun b => dsum m 0 b)) (fA (lpC m) n 0) (fD (lpC m) n (0 + 1))) := ⟨vA, vD, hall, hW⟩
      clear hall hW hke vA vD
      go_wp2
      go_loopw [43] (fun iv wz => ∃ i : Nat, i ≤ n ∧ iv = .int .i64 i ∧ LSt w wz n L gA gD N (.slice (some ⟨gS, 0, none⟩) n n) (tab n (fun b => dsum m i b)) (fA (lpC m) n i) (fD (lpC m) n (i + 1))) (fun iv _ => n - (intOf iv).toNat)
      case atStart => exact ⟨0, Nat.zero_le _, rfl, HST.out⟩
      case round =>
       obtain ⟨w9, rfl⟩ : ∃ w9, w9 = wr := ⟨_, rfl⟩
       clear HST
       obtain ⟨i, hi, rfl, hst⟩ := hrel
       by_cases hin : i < n
       · have di : decide (i < n) = true := decide_eq_true hin
         have di2 : decide ((i : Int) < (n : Int)) = true := decide_eq_true (by omega)
         obtain ⟨b, o, rfl, hb⟩ := HR.out.addr (by have := HN.out; omega)
         obtain ⟨Ar, cr, hcell, hrow, hrl⟩ := HR.out.at_ (r := i) (by have := HN.out; omega)
         have hbN : b < N := by rw [HNE.out]; exact hb
         obtain ⟨vA0, vD0, hall0, hW0⟩ := hst
         have hcell := (hW0.cell (p := ⟨b, o + i, none⟩) hbN).trans hcell
         have hrowN : Sl w N Ar (ints (m.getD i [])) := by rw [HNE.out]; exact hrow
         obtain ⟨R, hR⟩ : ∃ R, R = m.getD i [] := ⟨_, rfl⟩
         have hRl : R.length = n := by rw [hR, HS.out.len (by have := HN.out; omega)]; exact HN.out.symm
         rw [← hR] at hcell hrowN hrl
         have HST : Hid (LSt w w9 n L gA gD N (.slice (some ⟨gS, 0, none⟩) n n) (tab n (fun b => dsum m i b)) (fA (lpC m) n i) (fD (lpC m) n (i + 1))) := ⟨vA0, vD0, hall0, hW0⟩
         have HRE := Lib.hid hR
         have HRN := Lib.hid hrowN
         clear hR hrow hrowN hall0 hW0 vA0 vD0
         rw [hRl] at hcell
         go_upto_region 13 with fail
         clear hcell
         obtain ⟨x0, hx0⟩ : ∃ x, x = lpC m (.h i ((0 : Nat) : Int)) := ⟨_, rfl⟩
         have HX0 := Lib.hid hx0
         clear hx0
         go_cut [] (fun wy => LSt w wy n L gA gD N (.slice (some ⟨gS, 0, none⟩) n n) (tab n (fun b => dsum m i b)) (at1B (fA (lpC m) n i) i [x0]) (fD (lpC m) n (i + 1)))
         case first =>
          obtain ⟨vA, vD, hall, hW⟩ := HST.out
          have hpar : ((i : Int).tmod 2 == 0) = x0 := by rw [HX0.out, Int.tmod_eq_emod_of_nonneg (by omega)]; exact lp_left m i
          have HP := Lib.hid hpar
          clear hpar
          have hra : fA (lpC m) n i i = [] := if_neg (by omega)
          have hown := LSt.ownA hall hra
          have HV := Lib.hid hown
          have hNs : N ≤ w9.heap.size := Nat.le_of_lt (hall.lt (x := 0) rfl).2 |> Nat.le_trans (hall.lt (x := 0) rfl).1
          have c1 : w9.cell? ⟨L, 0, none⟩ = some (.slice (some ⟨gA, 0, none⟩) n n) := hall.cL.1
          have c2 : w9.cell? ⟨gA, i, none⟩ = some (vA i) := hall.cellA hin
          have c3 : ∀ o, (w9.alloc o).cell? ⟨L, 0, none⟩ = some (.slice (some ⟨gA, 0, none⟩) n n) := fun o => (hall.alloc o).cL.1
          have c4 : ∀ o, (w9.alloc o).cell? ⟨gA, i, none⟩ = some (vA i) := fun o => (hall.alloc o).cellA hin
          have HALL := Lib.hid hall
          have HW := Lib.hid hW
          clear hown hall hW
          go_wp2
          go_region_law (first | (refine step_app1B (base := N) (l := []) (v := vA i) ?_ (.tmp 55) (.tmp 59) ?_ ?_ ((i : Int).tmod 2 == 0) 0 w9.heap.size ?_ ?_ ?_ ?_ ?_ ?_; (· rfl); (· rfl); (· rfl); (· rfl); (· exact own_drew (HV.out.alloc _)); (· exact heap_alloc_new _ _); (· omega); (· (show _ ≤ (World.drew _).heap.size; simp; omega)); intro g2 c2' w6 hl6 hg6 hat6 hlt6; have hq := AllR.grownA (HALL.out.alloc (.cells #[.bool ((i : Int).tmod 2 == 0)] 4)).drew hin hg6; have q1 := hq.1; have q2 := hq.2.1; have q3 := hq.2.2; rw [HP.out] at hl6; have HL6 := Lib.hid hl6; have HG6 := Lib.hid hg6; have HAT6 := Lib.hid hat6; clear hq hl6 hat6 hg6) | fail)
          all_goals
           go_wp2
           go_meet
           exact LSt.appA (HALL.out.alloc _).drew (below_drewN (HW.out.alloc hNs _) 1) (bs := [x0]) rfl HL6.out HG6.out HAT6.out
         case rest =>
          have HSB := Lib.hid hcut
          clear HST hcut
          go_upto_region 14 with fail
          go_cut [] (fun wy => LSt w wy n L gA gD N (.slice (some ⟨gS, 0, none⟩) n n) (tab n (fun b => dsum m i b)) (at1B (fA (lpC m) n i) i [x0]) (at1B (fD (lpC m) n (i + 1)) (i + 1) (mixD (lpC m) n (i + 1) 0)))
          case first =>
           obtain ⟨vA, vD, hall, hW⟩ := HSB.out
           have hcl := (hall.alloc (.cells (madeCells #[.bool false] n) 4)).drew
           have HALL := Lib.hid hall
           have HW := Lib.hid hW
           obtain ⟨i0, hi0, hz0, hz1, hz2⟩ := info_parts Tryz.infoBool
           have hmk := fun w => run_make (P := Tryz.prog) w 193 4 i0 (.bool false) Tryz.underlying193 hi0 hz0 .i64 .i64 n n (by omega) (by omega) (by rw [hz2]; omega) (by omega)
           have c1 : wc.drew.cell? ⟨L, 1, none⟩ = some (.slice (some ⟨gD, 0, none⟩) (n + 1) (n + 1)) := hall.drew.cL.2
           have c2 : (wc.alloc (.cells (madeCells #[.bool false] n) 4)).drew.cell? ⟨L, 1, none⟩ = some (.slice (some ⟨gD, 0, none⟩) (n + 1) (n + 1)) := hcl.cL.2
           have c3 : (wc.alloc (.cells (madeCells #[.bool false] n) 4)).drew.cell? ⟨gD, i + 1, none⟩ = some (vD (i + 1)) := hcl.cellD (i := i + 1) (by show i + 1 < n + 1; omega)
           have c4 : (wc.alloc (.cells (madeCells #[.bool false] n) 4)).drew.frozen? ⟨gD, i + 1, none⟩ = false := hcl.fzD (i + 1)
           clear hcl hall hW
           go_region
           all_goals
            go_wp2
            go_meet
            exact LSt.newD HALL.out HW.out h7 (i := i + 1) _ (mixD_zero _ _ _).symm
          case rest =>
           have hst2 := hcut
           have ht1 : [x0] = (rowA (lpC m) n i).take 1 := by
            have := rowA_take (X := lpC m) (n := n) (i := i) (k := 0) (by omega)
            rw [← HX0.out] at this
            simpa using this
           rw [ht1] at hst2
           have HST := Lib.hid hst2
           clear HSB hcut hst2 ht1 HX0 x0
           go_wp2
           go_loopw [9, 71] (fun sv jv wz => ∃ j : Nat, j ≤ n ∧ jv = .int .i64 j ∧ sv = .int .i64 (rsum m i j) ∧ LSt w wz n L gA gD N (.slice (some ⟨gS, 0, none⟩) n n) (tab n (fun b => if b < j then dsum m (i + 1) b else dsum m i b)) (at1B (fA (lpC m) n i) i ((rowA (lpC m) n i).take (j + 1))) (at1B (fD (lpC m) n (i + 1)) (i + 1) (mixD (lpC m) n (i + 1) j))) (fun _ jv _ => n - (intOf jv).toNat)
           case atStart => exact ⟨0, Nat.zero_le _, rfl, rfl, by simpa using HST.out⟩
           case round =>
            obtain ⟨w8, rfl⟩ : ∃ w8, w8 = wr := ⟨_, rfl⟩
            clear HST
            obtain ⟨j, hj, rfl, rfl, hst⟩ := hrel
            by_cases hjn : j < n
            · have dj : decide (j < n) = true := decide_eq_true hjn
              have dj2 : decide ((j : Int) < (n : Int)) = true := decide_eq_true (by omega)
              obtain ⟨vA, vD, hall, hW⟩ := hst
              obtain ⟨b1, o1, rfl, hb1⟩ := HRN.out.addr (by omega)
              have hcx := getD_cell HRN.out (k := j) (by omega)
              have hent : R.getD j 0 = ent m i j := by rw [HRE.out]; rfl
              have hcx := (hW.cell (p := ⟨b1, o1 + j, none⟩) hb1).trans hcx
              obtain ⟨hz, hf, hset, hNg⟩ := LSt.atS hall (tab_length _ _).symm
              have hd := hz j _ (tab_get hjn)
              rw [if_neg (by omega)] at hd
              have hff := hf j
              have b1' := HS.out.2.row i j (by have := HN.out; omega) (by have := HN.out; omega)
              have b2' := HS.out.2.row i (j + 1) (by have := HN.out; omega) (by have := HN.out; omega)
              have b3' := HS.out.2.col i j (by have := HN.out; omega) (by have := HN.out; omega)
              have b4' := HS.out.2.col (i + 1) j (by have := HN.out; omega) (by have := HN.out; omega)
              have hss := (rsum_succ m i j).symm
              have hdd := (dsum_succ m i j).symm
              have hnx := hset j (dsum m (i + 1) j)
              rw [tab_set, tab_congr (g := fun b => if b < j + 1 then dsum m (i + 1) b else dsum m i b) (fun a _ => by
               by_cases e : a = j
               · subst e; rw [if_pos rfl, if_pos (by omega)]
               · rw [if_neg e]
                 by_cases e2 : a < j
                 · rw [if_pos e2, if_pos (by omega)]
                 · rw [if_neg e2, if_neg (by omega)])] at hnx
              have hWx := hW.setCell (p := ⟨gS, j, none⟩) hNg (.int .i64 (dsum m (i + 1) j))
              rw [hent] at hcx
              have h1p := lp_h m i j
              have h2p := lp_v m i j
              obtain ⟨x, hx⟩ : ∃ x, x = ent m i j := ⟨_, rfl⟩
              obtain ⟨s, hs⟩ : ∃ x, x = rsum m i j := ⟨_, rfl⟩
              obtain ⟨s', hs'⟩ : ∃ x, x = rsum m i (j + 1) := ⟨_, rfl⟩
              obtain ⟨d, hd0⟩ : ∃ x, x = dsum m i j := ⟨_, rfl⟩
              obtain ⟨d', hd'⟩ : ∃ x, x = dsum m (i + 1) j := ⟨_, rfl⟩
              rw [← hx] at hcx hss hdd
              rw [← hs] at hss b1' ⊢
              rw [← hs'] at hss b2' h1p
              rw [← hd0] at hdd b3' hd
              rw [← hd'] at hdd b4' hnx hWx h2p
              obtain ⟨w7, hw7⟩ : ∃ w7, w7 = w8.setCell ⟨gS, j, none⟩ (.int .i64 d') := ⟨_, rfl⟩
              rw [← hw7] at hnx hWx
              have H7 : Hid (LSt w w7 n L gA gD N (.slice (some ⟨gS, 0, none⟩) n n) (tab n (fun b => if b < j + 1 then dsum m (i + 1) b else dsum m i b)) (at1B (fA (lpC m) n i) i ((rowA (lpC m) n i).take (j + 1))) (at1B (fD (lpC m) n (i + 1)) (i + 1) (mixD (lpC m) n (i + 1) j))) := ⟨vA, vD, hnx, hWx⟩
              have H1P := Lib.hid h1p
              have H2P := Lib.hid h2p
              have HSE := Lib.hid hs'
              have HDE := Lib.hid hd'
              clear hx hs hs' hd0 hd' hent hnx hWx hset hz hf hall hW h1p h2p vA vD
              go_upto_region 21 with fail
              rw [← hw7]
              clear hw7 hcx hd hff hNg
              go_cut [] (fun wy => LSt w wy n L gA gD N (.slice (some ⟨gS, 0, none⟩) n n) (tab n (fun b => if b < j + 1 then dsum m (i + 1) b else dsum m i b)) (at1B (fA (lpC m) n i) i ((rowA (lpC m) n i).take (j + 1 + 1))) (at1B (fD (lpC m) n (i + 1)) (i + 1) (mixD (lpC m) n (i + 1) j)))
              case first =>
               obtain ⟨vA, vD, hall, hW⟩ := H7.out
               have hlen : ((rowA (lpC m) n i).take (j + 1)).length = j + 1 := by simp [rowA]; omega
               have hown := LSt.ownA hall (at1_self _ _ _)
               rw [hlen] at hown
               have HV := Lib.hid hown
               have htk := rowA_take (X := lpC m) (n := n) (i := i) (k := j + 1) (by omega)
               have hpar := H1P.out
               rw [← Int.tmod_eq_emod_of_nonneg (by omega)] at hpar
               obtain ⟨y1, hy1⟩ : ∃ y, y = lpC m (.h i ((j + 1 : Nat) : Int)) := ⟨_, rfl⟩
               rw [← hy1] at hpar htk
               have HP := Lib.hid hpar
               have HT := Lib.hid htk
               have hwr : IntKind.i64.wrap ((i : Int) + (j : Int)) = (i : Int) + (j : Int) := IntWalk.i64_in _ (by omega)
               have hNs : N ≤ w7.heap.size := Nat.le_of_lt (hall.lt (x := 0) rfl).2 |> Nat.le_trans (hall.lt (x := 0) rfl).1
               have c1 : w7.cell? ⟨L, 0, none⟩ = some (.slice (some ⟨gA, 0, none⟩) n n) := hall.cL.1
               have c2 : w7.cell? ⟨gA, i, none⟩ = some (vA i) := hall.cellA hin
               have c3 : ∀ o, (w7.alloc o).cell? ⟨L, 0, none⟩ = some (.slice (some ⟨gA, 0, none⟩) n n) := fun o => (hall.alloc o).cL.1
               have c4 : ∀ o, (w7.alloc o).cell? ⟨gA, i, none⟩ = some (vA i) := fun o => (hall.alloc o).cellA hin
               have HALL := Lib.hid hall
               have HW := Lib.hid hW
               clear hown hall hW hpar htk hy1 hlen hcell
               go_wp2
               go_region_law (first | (refine step_app1B (base := N) (l := (rowA (lpC m) n i).take (j + 1)) (v := vA i) ?_ (.tmp 93) (.tmp 102) ?_ ?_ ((s' == 1) == (((i : Int) + (j : Int)).tmod 2 == 0)) (j + 1) w7.heap.size ?_ ?_ ?_ ?_ ?_ ?_; (· rfl); (· rfl); (· rfl); (· rfl); (· exact own_drew (HV.out.alloc _)); (· exact heap_alloc_new _ _); (· omega); (· (show _ ≤ (World.drew _).heap.size; simp; omega)); intro g2 c2' w6 hl6 hg6 hat6 hlt6; have hq := AllR.grownA (HALL.out.alloc (.cells #[.bool ((s' == 1) == (((i : Int) + (j : Int)).tmod 2 == 0))] 4)).drew hin hg6; have q1 := hq.1; have q2 := hq.2.1; have q3 := hq.2.2; rw [HP.out, HT.out] at hl6; have HL6 := Lib.hid hl6; have HG6 := Lib.hid hg6; have HAT6 := Lib.hid hat6; clear hq hl6 hat6 hg6) | fail)
               all_goals
                go_wp2
                go_meet
                have hr := LSt.appA (HALL.out.alloc _).drew (below_drewN (HW.out.alloc hNs _) 1) (bs := (rowA (lpC m) n i).take (j + 1 + 1)) (by simp [rowA]; omega) HL6.out HG6.out HAT6.out
                rw [at1_at1] at hr
                exact hr
              case rest =>
               have HSB := Lib.hid hcut
               clear hcut H7 H1P
               go_upto_region 22 with fail
               obtain ⟨vA, vD, hall, hW⟩ := HSB.out
               obtain ⟨g, c, hcD, hz, hf, hset, hNg⟩ := LSt.atD hall (i := i + 1) (by omega) (at1_self _ _ _) (mixD_length _ _ _ _) h1
               obtain ⟨hzS, hfS, _, _⟩ := LSt.atS hall (tab_length _ _).symm
               have c1 : wc.cell? ⟨L, 1, none⟩ = some (.slice (some ⟨gD, 0, none⟩) (n + 1) (n + 1)) := hall.cL.2
               have c2 := hzS j _ (tab_get hjn)
               rw [if_pos (by omega), ← HDE.out] at c2
               have hold := hz j _ (List.getElem?_eq_getElem (by rw [mixD_length]; exact hjn))
               obtain ⟨zz, hzz⟩ : ∃ z, z = (mixD (lpC m) n (i + 1) j)[j]'(by rw [mixD_length]; exact hjn) := ⟨_, rfl⟩
               rw [← hzz] at hold
               have hff := hf j
               have hpar := H2P.out
               obtain ⟨y2, hy2⟩ : ∃ y, y = lpC m (.v ((i + 1 : Nat) : Int) j) := ⟨_, rfl⟩
               rw [← hy2] at hpar
               have hnx := hset j y2
               rw [at1_at1, hy2, mixD_set, ← hy2] at hnx
               have c1d : wc.drew.cell? ⟨L, 1, none⟩ = some (.slice (some ⟨gD, 0, none⟩) (n + 1) (n + 1)) := c1
               have c2d : wc.drew.cell? ⟨gS, j, none⟩ = some (.int .i64 d') := c2
               have c3d : wc.drew.cell? ⟨gD, i + 1, none⟩ = some (.slice (some ⟨g, 0, none⟩) n c) := hcD
               have c4d : wc.drew.cell? ⟨g, j, none⟩ = some (.bool zz) := hold
               have c5d : wc.drew.frozen? ⟨g, j, none⟩ = false := hff
               have HNX := Lib.hid hnx
               have HW := Lib.hid hW
               clear hzz hy2 hnx hset hz hf hall hW hzS hfS hcell
               go_region
               all_goals
                go_wp2
                go_roundw
                case rel => exact ⟨j + 1, by omega, by go_num, by rw [HSE.out], vA, vD, HNX.out.drew, below_drewN (HW.out.setCell (p := ⟨g, j, none⟩) hNg _) 1⟩
                case measure => simp [intOf]; omega
            · have dj : decide (j < n) = false := decide_eq_false hjn
              have dj2 : decide ((j : Int) < (n : Int)) = false := decide_eq_false (by omega)
              have hje : j = n := by omega
              rw [hje, fD_next, fA_next, tab_congr (g := fun b => dsum m (i + 1) b) (fun a ha => if_pos ha)] at hst
              have HST := Lib.hid hst
              clear hst hje
              go_wp2
              go_roundw
              case rel => exact ⟨i + 1, by omega, by go_num, HST.out⟩
              case measure => simp [intOf]; omega
       · have di : decide (i < n) = false := decide_eq_false hin
         have di2 : decide ((i : Int) < (n : Int)) = false := decide_eq_false (by omega)
         have hie : i = n := by omega
         rw [hie] at hst
         obtain ⟨vA, vD, hall, hW⟩ := hst
         obtain ⟨e0, e1, e2, e3, hfin⟩ := LSt.fin (w0 := w) hall
         have hfin := hfin (lpC m) rfl rfl hW HNE.out
         rw [HNE.out] at e0 e1 e2 e3 hfin
         have c1 : w9.cell? ⟨L, 0, none⟩ = some (.slice (some ⟨gA, 0, none⟩) n n) := hall.cL.1
         have c2 : w9.cell? ⟨L, 1, none⟩ = some (.slice (some ⟨gD, 0, none⟩) (n + 1) (n + 1)) := hall.cL.2
         obtain ⟨hfin, r0, r1⟩ := hfin
         have HF := Lib.hid hfin
         clear hfin hall hW hie
         go_wp2
         (try simp only [Exit.inBlock, Exit.then])
         refine bodyPost_ret (v := .agg #[.slice (some ⟨gA, 0, none⟩) n n, .slice (some ⟨gD, 0, none⟩) (n + 1) (n + 1)]) ?_ rfl HF.out
         have hres : Tryz.f183.results = #[.cell 2 190] := by kernel_rfl
         simp only [results, hres]
         go_simp
end
end Go.Proofs.YtpmkdihencepnaaGreatDoor
