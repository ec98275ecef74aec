/-
  rule.search in memory: the struct, its rows, its letters, what it counts.
-/
import Derived.Test.YtidnpmkdajicjaaDoorLrC
import Derived.Test.YtidnpmkdajicjaaDoorRegE
namespace Go.Proofs.YtidnpmkdajicjaaDoor
open Go.RowKit LR

def iv (x : Nat) : Value := .int .i64 (x : Int)
theorem map_put1 {n i y : Nat} {f : Nat → Nat} : (List.range n).map (fun x => iv (put1 f i y x)) = ((List.range n).map (fun x => iv (f x))).set i (iv y) := by
  apply List.ext_getElem (by simp)
  intro a h1 h2
  rw [List.getElem_set]
  simp only [List.getElem_map, List.getElem_range, put1]
  by_cases e : i = a
  · subst e; simp
  · have : ¬ a = i := fun h => e h.symm
    simp [e, this]
theorem map_get {n j : Nat} {f : Nat → Nat} (h : j < n) : ((List.range n).map (fun x => iv (f x)))[j]? = some (iv (f j)) := by simp [h]

/-- What stays as it is while one searches. -/
structure SK where
  b : Nat
  Aa : Option Addr
  na : Nat
  ca : Nat
  Ab : Option Addr
  cb : Nat
  Ac : Option Addr
  cc : Nat
  n : Nat
  k : Nat
  AR : Option Addr
  gO : Nat
  cR : Nat
  AL : Option Addr
  gL : Nat
  cL : Nat
  gU : Nat
  gN : Nat
  gR : Nat → Nat
  fa : Nat → Nat
  fc : Nat → Nat
def SK.cells (K : SK) : List Value :=
  [.slice K.Aa K.na K.ca, .slice K.Ab K.k K.cb, .slice K.Ac K.n K.cc, .slice K.AR K.n K.cR, .slice K.AL K.k K.cL, .slice (some ⟨K.gU, 0, none⟩) K.k K.k,
   .func (.func 17) #[] #[.pointer (some ⟨K.gN, 0, none⟩)]]
def SK.row (K : SK) (r : Nat) : Value := .slice (some ⟨K.gR r, 0, none⟩) (K.fc r) (K.fc r)
def SK.reg (K : SK) (F : Nat → Nat → Nat) (L Us : Nat → Nat) (q : Nat) : Nat → Reg
  | 0 => ⟨55, 7, .slice (some ⟨K.b, 0, none⟩) 1 1, 1, K.cells⟩
  | 1 => ⟨22, 1, .slice K.AR K.n K.cR, K.n, (List.range K.n).map K.row⟩
  | 2 => ⟨3, 1, .slice K.AL K.k K.cL, K.k, (List.range K.k).map (fun x => iv (L x))⟩
  | 3 => ⟨3, 1, .slice (some ⟨K.gU, 0, none⟩) K.k K.k, K.k, (List.range K.k).map (fun x => iv (Us x))⟩
  | 4 => ⟨3, 1, .slice (some ⟨K.gN, 0, none⟩) 1 1, 1, [iv q]⟩
  | r + 5 => if r < K.n then ⟨3, 1, K.row r, K.fc r, (List.range (K.fc r)).map (fun j => iv (F r j))⟩ else Reg.none 3
/-- Where the numbers lie. -/
structure SK.Ok (K : SK) (w : World) (B : Nat) : Prop where
  hR : 0 < K.n → K.AR = some ⟨K.gO, 0, none⟩
  hL : 0 < K.k → K.AL = some ⟨K.gL, 0, none⟩
  sa : Sl w B K.Aa ((List.range K.na).map (fun x => iv (K.fa x)))
  sc : Sl w B K.Ac ((List.range K.n).map (fun x => iv (K.fc x)))
  az : ∀ r, K.na ≤ r → K.fa r = 0
theorem SK.Ok.below {K : SK} {w w' : World} {B : Nat} (h : K.Ok w B) (hb : Below B w w') : K.Ok w' B := ⟨h.hR, h.hL, h.sa.below hb, h.sc.below hb, h.az⟩

section
variable {w w' : World} {B : Nat} {K : SK} {F : Nat → Nat → Nat} {L Us : Nat → Nat} {q : Nat}
theorem sea_cell (h : AllR w B (K.reg F L Us q)) {j : Nat} {u : Value} (hu : K.cells[j]? = some u) : w.cell? ⟨K.b, j, none⟩ = some u := by
  have h1 := (List.getElem?_eq_some_iff.1 hu).1
  exact h.cell (x := 0) (c := 1) rfl (by simp [SK.cells] at h1; show j < 1 * 7; omega) hu
theorem sea_n (h : AllR w B (K.reg F L Us q)) : w.cell? ⟨K.gN, 0, none⟩ = some (iv q) := h.cell (x := 4) (c := 1) rfl (by show 0 < 1 * 1; omega) rfl
theorem sea_nf (h : AllR w B (K.reg F L Us q)) : w.frozen? ⟨K.gN, 0, none⟩ = false := h.fz (x := 4) (c := 1) rfl 0
theorem sea_o (h : AllR w B (K.reg F L Us q)) (ok : K.Ok w B) {r : Nat} (hr : r < K.n) : w.cell? ⟨K.gO, r, none⟩ = some (K.row r) :=
  h.cell (x := 1) (c := K.cR) (by show Value.slice K.AR _ _ = _; rw [ok.hR (by omega)]; rfl) (by show r < K.n * 1; omega) (by show ((List.range K.n).map K.row)[r]? = _; simp [hr])
theorem sea_l (h : AllR w B (K.reg F L Us q)) (ok : K.Ok w B) {x : Nat} (hx : x < K.k) : w.cell? ⟨K.gL, x, none⟩ = some (iv (L x)) :=
  h.cell (x := 2) (c := K.cL) (by show Value.slice K.AL _ _ = _; rw [ok.hL (by omega)]; rfl) (by show x < K.k * 1; omega) (map_get hx)
theorem sea_lf (h : AllR w B (K.reg F L Us q)) (ok : K.Ok w B) {x : Nat} (hx : x < K.k) : w.frozen? ⟨K.gL, x, none⟩ = false :=
  h.fz (x := 2) (c := K.cL) (by show Value.slice K.AL _ _ = _; rw [ok.hL (by omega)]; rfl) x
theorem sea_u (h : AllR w B (K.reg F L Us q)) {x : Nat} (hx : x < K.k) : w.cell? ⟨K.gU, x, none⟩ = some (iv (Us x)) :=
  h.cell (x := 3) (c := K.k) rfl (by show x < K.k * 1; omega) (map_get hx)
theorem sea_uf (h : AllR w B (K.reg F L Us q)) (x : Nat) : w.frozen? ⟨K.gU, x, none⟩ = false := h.fz (x := 3) (c := K.k) rfl x
theorem reg_row {r : Nat} (hr : r < K.n) : K.reg F L Us q (r + 5) = ⟨3, 1, K.row r, K.fc r, (List.range (K.fc r)).map (fun j => iv (F r j))⟩ := if_pos hr
theorem sea_f (h : AllR w B (K.reg F L Us q)) {r j : Nat} (hr : r < K.n) (hj : j < K.fc r) : w.cell? ⟨K.gR r, j, none⟩ = some (iv (F r j)) :=
  h.cell (x := r + 5) (c := K.fc r) (by rw [reg_row hr]; rfl) (by rw [reg_row hr]; show j < K.fc r * 1; omega) (by rw [reg_row hr]; exact map_get hj)
theorem sea_ff (h : AllR w B (K.reg F L Us q)) {r : Nat} (hr : r < K.n) (j : Nat) : w.frozen? ⟨K.gR r, j, none⟩ = false :=
  h.fz (x := r + 5) (c := K.fc r) (by rw [reg_row hr]; rfl) j
/-- Stores. -/
theorem sea_setN (h : AllR w B (K.reg F L Us q)) (p : Nat) : AllR (w.setCell ⟨K.gN, 0, none⟩ (iv p)) B (K.reg F L Us p) := by
  refine h.set (x := 4) (g := K.gN) (c := 1) rfl 0 _ rfl (fun y hy => ?_)
  match y, hy with
  | 0, _ => rfl
  | 1, _ => rfl
  | 2, _ => rfl
  | 3, _ => rfl
  | 4, hy => exact absurd rfl hy
  | r + 5, _ => rfl
theorem sea_setL (h : AllR w B (K.reg F L Us q)) (ok : K.Ok w B) {x : Nat} (hx : x < K.k) (y : Nat) : AllR (w.setCell ⟨K.gL, x, none⟩ (iv y)) B (K.reg F (put1 L x y) Us q) := by
  refine h.set (x := 2) (g := K.gL) (c := K.cL) (by show Value.slice K.AL _ _ = _; rw [ok.hL (by omega)]; rfl) x _ ?_ (fun z hz => ?_)
  · show Reg.mk _ _ _ _ _ = Reg.mk _ _ _ _ _
    rw [map_put1]
    rfl
  · match z, hz with
    | 0, _ => rfl
    | 1, _ => rfl
    | 2, hz => exact absurd rfl hz
    | 3, _ => rfl
    | 4, _ => rfl
    | r + 5, _ => rfl
theorem sea_setU (h : AllR w B (K.reg F L Us q)) (x y : Nat) : AllR (w.setCell ⟨K.gU, x, none⟩ (iv y)) B (K.reg F L (put1 Us x y) q) := by
  refine h.set (x := 3) (g := K.gU) (c := K.k) rfl x _ ?_ (fun z hz => ?_)
  · show Reg.mk _ _ _ _ _ = Reg.mk _ _ _ _ _
    rw [map_put1]
    rfl
  · match z, hz with
    | 0, _ => rfl
    | 1, _ => rfl
    | 2, _ => rfl
    | 3, hz => exact absurd rfl hz
    | 4, _ => rfl
    | r + 5, _ => rfl
theorem put2_row {r j v : Nat} : put2 F r j v r = put1 (F r) j v := by
  funext s
  simp [put2, put1]
theorem put2_far {r r' j v : Nat} (h : r' ≠ r) : put2 F r j v r' = F r' := by
  funext s
  simp [put2, h]
theorem sea_setF (h : AllR w B (K.reg F L Us q)) {r : Nat} (hr : r < K.n) (j v : Nat) : AllR (w.setCell ⟨K.gR r, j, none⟩ (iv v)) B (K.reg (put2 F r j v) L Us q) := by
  refine h.set (x := r + 5) (g := K.gR r) (c := K.fc r) (by rw [reg_row hr]; rfl) j _ ?_ (fun z hz => ?_)
  · rw [reg_row hr, reg_row hr, put2_row, map_put1]
  · match z, hz with
    | 0, _ => rfl
    | 1, _ => rfl
    | 2, _ => rfl
    | 3, _ => rfl
    | 4, _ => rfl
    | s + 5, hz =>
      have e : s ≠ r := fun e => hz (by rw [e])
      by_cases hs : s < K.n
      · rw [reg_row hs, reg_row hs, put2_far e]
      · show (if s < K.n then _ else _) = (if s < K.n then _ else _)
        rw [if_neg hs, if_neg hs]
end
theorem put1_back {L : Nat → Nat} {x y : Nat} (h : L x = y) (z : Nat) : put1 (put1 L x z) x y = L := by
  funext r
  by_cases e : r = x
  · subst e; simp [put1, h]
  · simp [put1, e]
theorem put2_back {F : Nat → Nat → Nat} {i j y : Nat} (h : F i j = y) (z : Nat) : put2 (put2 F i j z) i j y = F := by
  funext r s
  by_cases e : r = i ∧ s = j
  · obtain ⟨rfl, rfl⟩ := e; simp [put2, h]
  · simp [put2, e]
end Go.Proofs.YtidnpmkdajicjaaDoor
