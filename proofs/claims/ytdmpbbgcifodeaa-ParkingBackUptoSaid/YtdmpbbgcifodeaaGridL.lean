/-
  Many regions that a call owns, all apart; rows of lines of a matrix' loops.
-/
import Derived.Test.YtdmpbbgcifodeaaMatL
import Derived.Test.YtdmpbbgcifodeaaBoolL
import Derived.Test.YtdmpbbgcifodeaaWieN
import Derived.Deep.RegionHeld3
namespace Go.Proofs.Ytdmpbbgcifodeaa
open Go.RowKit

/-- A region: what it holds, where. -/
structure Reg where
  e : TypeId
  z : Nat
  v : Value
  n : Nat
  cs : List Value
def Reg.ok (w : World) (B : Nat) (r : Reg) : Prop := w.ownsRow B r.e r.z r.v r.n r.cs
def Reg.none (e : TypeId) : Reg := ⟨e, 1, .slice Option.none 0 0, 0, []⟩
/-- All regions are owned, and apart. -/
structure AllR (w : World) (B : Nat) (R : Nat → Reg) : Prop where
  own : ∀ x, (R x).ok w B
  far : ∀ x y, x ≠ y → Far (R x).v (R y).v

theorem own_eq {w w' : World} {base n k : Nat} {e : TypeId} {v : Value} {cs : List Value} (h : w.ownsRow base e k v n cs) (hk : ∀ b, v.ownBlock = some b → w'.heap[b]? = w.heap[b]?) : w'.ownsRow base e k v n cs := by
  refine ⟨h.1, ?_⟩
  rcases h.2 with hn | ⟨g, cap, cur, e1, hg, hh, rest⟩
  · exact .inl hn
  · exact .inr ⟨g, cap, cur, e1, hg, (hk g (by rw [e1]; rfl)).trans hh, rest⟩

section
variable {w w' : World} {B : Nat} {R R' : Nat → Reg}
theorem AllR.keep (h : AllR w B R) (hk : ∀ x b, (R x).v.ownBlock = some b → w'.heap[b]? = w.heap[b]?) : AllR w' B R :=
  ⟨fun x => own_eq (h.own x) (hk x), h.far⟩
theorem AllR.lt (h : AllR w B R) {x b : Nat} (hb : (R x).v.ownBlock = some b) : B ≤ b ∧ b < w.heap.size := (h.own x).lt b hb
theorem AllR.below (h : AllR w B R) (hb : Below w.heap.size w w') : AllR w' B R :=
  h.keep fun _ b e => hb.block b (h.lt e).2
theorem AllR.drewN (h : AllR w B R) (k : Nat) : AllR (w.drewN k) B R := ⟨h.own, h.far⟩
theorem AllR.drew (h : AllR w B R) : AllR w.drew B R := ⟨h.own, h.far⟩
theorem AllR.alloc (h : AllR w B R) (o : Obj) : AllR (w.alloc o) B R := h.below ((Below.refl _ _).alloc (Nat.le_refl _) o)
theorem AllR.base (h : AllR w B R) {B' : Nat} (hB : B' ≤ B) : AllR w B' R := ⟨fun x => (h.own x).mono hB, h.far⟩
/-- One region turned. -/
theorem AllR.upd (h : AllR w B R) {x : Nat} (ho : (R' x).ok w' B) (he : ∀ y, y ≠ x → R' y = R y) (hk : ∀ b, b < w.heap.size → (R x).v.ownBlock ≠ some b → w'.heap[b]? = w.heap[b]?)
    (hat : ∀ b, (R' x).v.ownBlock = some b → (R x).v.ownBlock = some b ∨ w.heap.size ≤ b) : AllR w' B R' := by
  have hfar : ∀ y, y ≠ x → Far (R' x).v (R y).v := fun y hy b h1 h2 => by
    rcases hat b h1 with e | e
    · exact h.far x y (Ne.symm hy) b e h2
    · have := (h.lt h2).2; omega
  refine ⟨fun y => ?_, fun y z hyz => ?_⟩
  · by_cases e : y = x
    · subst e; exact ho
    · rw [he y e]
      exact own_eq (h.own y) fun b hb => hk b (h.lt hb).2 fun hx => h.far y x e b hb hx
  · by_cases e : y = x
    · subst e
      rw [he z (Ne.symm hyz)]; exact hfar z (Ne.symm hyz)
    · by_cases e2 : z = x
      · subst e2
        rw [he y e]; exact (hfar y e).symm
      · rw [he y e, he z e2]; exact h.far y z hyz
/-- A store into one region. -/
theorem AllR.set (h : AllR w B R) {x g c : Nat} (hv : (R x).v = .slice (some ⟨g, 0, none⟩) (R x).n c) (j : Nat) (u : Value) (hx : R' x = ⟨(R x).e, (R x).z, (R x).v, (R x).n, (R x).cs.set j u⟩) (he : ∀ y, y ≠ x → R' y = R y) : AllR (w.setCell ⟨g, j, none⟩ u) B R' := by
  have ho := h.own x
  unfold Reg.ok at ho
  refine h.upd (x := x) ?_ he (fun b hb hne => ?_) (fun b hb => .inl ?_)
  · rw [hx]
    unfold Reg.ok
    simp only
    rw [hv] at ho ⊢
    exact (ho.stored j u).1
  · have : g ≠ b := fun e => hne (by rw [hv, ← e]; rfl)
    simp [World.setCell, Array.getElem?_modify, this]
  · rw [hx] at hb; exact hb
theorem AllR.cell (h : AllR w B R) {x g c : Nat} (hv : (R x).v = .slice (some ⟨g, 0, none⟩) (R x).n c) {j : Nat} {u : Value} (hj : j < (R x).n * (R x).z) (hu : (R x).cs[j]? = some u) : w.cell? ⟨g, j, none⟩ = some u := by
  have ho := h.own x
  unfold Reg.ok at ho
  rw [hv] at ho
  rw [ho.cellAt j hj]; exact hu
theorem AllR.fz (h : AllR w B R) {x g c : Nat} (hv : (R x).v = .slice (some ⟨g, 0, none⟩) (R x).n c) (j : Nat) : w.frozen? ⟨g, j, none⟩ = false := by
  have ho := h.own x
  unfold Reg.ok at ho
  rw [hv] at ho
  exact ho.frozenAt j
end

/-! The lines of a matrix' loops. -/

/-- Where they lie, and what their rows hold. -/
structure LG where
  n : Nat
  L : Nat
  gA : Nat
  gD : Nat
  vS : Value
  S : List Int
  vR : Value
  nR : Nat
  cR : List Value
  vA : Nat → Value
  vD : Nat → Value
  rA : Nat → List Bool
  rD : Nat → List Bool
def LG.A (K : LG) : Value := .slice (some ⟨K.gA, 0, none⟩) K.n K.n
def LG.D (K : LG) : Value := .slice (some ⟨K.gD, 0, none⟩) (K.n + 1) (K.n + 1)
def LG.reg (K : LG) : Nat → Reg
  | 0 => ⟨90, 2, .slice (some ⟨K.L, 0, none⟩) 1 1, 1, [K.A, K.D]⟩
  | 1 => ⟨94, 1, K.A, K.n, (List.range K.n).map K.vA⟩
  | 2 => ⟨94, 1, K.D, K.n + 1, (List.range (K.n + 1)).map K.vD⟩
  | 3 => ⟨3, 1, K.vS, K.S.length, ints K.S⟩
  | 4 => ⟨90, 2, K.vR, K.nR, K.cR⟩
  | k + 5 => if k % 2 = 0 then ⟨4, 1, K.vA (k / 2), (K.rA (k / 2)).length, bools (K.rA (k / 2))⟩ else ⟨4, 1, K.vD (k / 2), (K.rD (k / 2)).length, bools (K.rD (k / 2))⟩
theorem LG.regA (K : LG) (i : Nat) : K.reg (2 * i + 5) = ⟨4, 1, K.vA i, (K.rA i).length, bools (K.rA i)⟩ := by
  show (if (2 * i) % 2 = 0 then _ else _) = _
  rw [if_pos (by omega), show 2 * i / 2 = i by omega]
theorem LG.regD (K : LG) (i : Nat) : K.reg (2 * i + 6) = ⟨4, 1, K.vD i, (K.rD i).length, bools (K.rD i)⟩ := by
  show (if (2 * i + 1) % 2 = 0 then _ else _) = _
  rw [if_neg (by omega), show (2 * i + 1) / 2 = i by omega]
/-- Which region a number names. -/
theorem reg_cases (x : Nat) : x < 5 ∨ (∃ i, x = 2 * i + 5) ∨ (∃ i, x = 2 * i + 6) := by
  by_cases h : x < 5
  · exact .inl h
  · by_cases h2 : (x - 5) % 2 = 0
    · exact .inr (.inl ⟨(x - 5) / 2, by omega⟩)
    · exact .inr (.inr ⟨(x - 6) / 2, by omega⟩)
/-- Two states that differ at most where named. -/
theorem LG.same {K K' : LG} {x : Nat} (h0 : x ≠ 0 → K'.reg 0 = K.reg 0) (h1 : x ≠ 1 → K'.reg 1 = K.reg 1) (h2 : x ≠ 2 → K'.reg 2 = K.reg 2) (h3 : x ≠ 3 → K'.reg 3 = K.reg 3) (h4 : x ≠ 4 → K'.reg 4 = K.reg 4)
    (hA : ∀ i, x ≠ 2 * i + 5 → K'.vA i = K.vA i ∧ K'.rA i = K.rA i) (hD : ∀ i, x ≠ 2 * i + 6 → K'.vD i = K.vD i ∧ K'.rD i = K.rD i) : ∀ y, y ≠ x → K'.reg y = K.reg y := by
  intro y hy
  rcases reg_cases y with h | ⟨i, rfl⟩ | ⟨i, rfl⟩
  · match y, h with
    | 0, _ => exact h0 (Ne.symm hy)
    | 1, _ => exact h1 (Ne.symm hy)
    | 2, _ => exact h2 (Ne.symm hy)
    | 3, _ => exact h3 (Ne.symm hy)
    | 4, _ => exact h4 (Ne.symm hy)
  · rw [K.regA, K'.regA, (hA i (Ne.symm hy)).1, (hA i (Ne.symm hy)).2]
  · rw [K.regD, K'.regD, (hD i (Ne.symm hy)).1, (hD i (Ne.symm hy)).2]

/-- A function changed at one place. -/
def at1 {α : Type} (f : Nat → α) (i : Nat) (y : α) : Nat → α := fun x => if x = i then y else f x
theorem at1_self {α : Type} (f : Nat → α) (i : Nat) (y : α) : at1 f i y i = y := if_pos rfl
theorem at1_ne {α : Type} (f : Nat → α) {i x : Nat} (y : α) (h : x ≠ i) : at1 f i y x = f x := if_neg h
theorem at1_map {α : Type} (f : Nat → α) (n i : Nat) (y : α) : (List.range n).map (at1 f i y) = ((List.range n).map f).set i y := by
  apply List.ext_getElem (by simp)
  intro a h1 h2
  rw [List.getElem_set]
  simp only [List.getElem_map, List.getElem_range]
  by_cases e : i = a
  · subst e; rw [if_pos rfl, at1_self]
  · rw [if_neg e, at1_ne _ _ (fun h => e h.symm)]

section
variable {w w' : World} {B : Nat} {K : LG}

/-- A row of A laid in or grown: its new block, then the cell that names it. -/
theorem AllR.putA (h : AllR w B K.reg) {i g c m : Nat} {bs : List Bool} (hm : m = bs.length) (ho : w'.ownsRow B 4 1 (.slice (some ⟨g, 0, none⟩) m c) m (bools bs))
    (hk : ∀ b, b < w.heap.size → (K.vA i).ownBlock ≠ some b → w'.heap[b]? = w.heap[b]?) (hat : (K.vA i).ownBlock = some g ∨ w.heap.size ≤ g) :
    AllR (w'.setCell ⟨K.gA, i, none⟩ (.slice (some ⟨g, 0, none⟩) m c)) B (LG.reg { K with vA := at1 K.vA i (.slice (some ⟨g, 0, none⟩) m c), rA := at1 K.rA i bs }) := by
  subst hm
  have h1 : AllR w' B (fun y => if y = 2 * i + 5 then ⟨4, 1, .slice (some ⟨g, 0, none⟩) bs.length c, bs.length, bools bs⟩ else K.reg y) := by
    refine h.upd (x := 2 * i + 5) ?_ (fun y hy => if_neg hy) (fun b hb hne => hk b hb ?_) (fun b hb => ?_)
    · show Reg.ok w' B (if 2 * i + 5 = 2 * i + 5 then _ else _)
      rw [if_pos rfl]
      exact ho
    · rw [K.regA] at hne; exact hne
    · rw [if_pos rfl] at hb
      obtain rfl : g = b := by simpa [Value.ownBlock] using hb
      rw [K.regA]; exact hat
  refine h1.set (x := 1) (g := K.gA) (c := K.n) (by rw [if_neg (by omega)]; rfl) i _ ?_ (fun y hy => ?_)
  · rw [if_neg (by omega)]
    show Reg.mk _ _ _ _ ((List.range K.n).map (at1 K.vA i _)) = _
    rw [at1_map]; rfl
  · rcases reg_cases y with hc | ⟨a, rfl⟩ | ⟨a, rfl⟩
    · rw [if_neg (by omega)]
      match y, hc, hy with
      | 0, _, _ => rfl
      | 1, _, hy => first | rfl | exact absurd rfl hy
      | 2, _, hy => first | rfl | exact absurd rfl hy
      | 3, _, _ => rfl
      | 4, _, _ => rfl
    · rw [LG.regA]
      by_cases e : a = i
      · subst e
        rw [if_pos rfl]; simp only [at1_self]
      · rw [if_neg (by omega), LG.regA]; simp only [at1_ne _ _ e]
    · rw [LG.regD]
      rw [if_neg (by omega), LG.regD]
/-- A cell of a row of A turned. -/
theorem AllR.inA (h : AllR w B K.reg) {i g c : Nat} (hv : K.vA i = .slice (some ⟨g, 0, none⟩) (K.rA i).length c) (j : Nat) (y : Bool) :
    AllR (w.setCell ⟨g, j, none⟩ (.bool y)) B (LG.reg { K with rA := at1 K.rA i ((K.rA i).set j y) }) := by
  refine h.set (x := 2 * i + 5) (g := g) (c := c) (by rw [K.regA]; exact hv) j _ ?_ (fun z hz => ?_)
  · rw [LG.regA, K.regA]
    simp only [at1_self, List.length_set]
    congr 1
    simp [bools, List.map_set]
  · rcases reg_cases z with hc | ⟨a, rfl⟩ | ⟨a, rfl⟩
    · match z, hc with
      | 0, _ => rfl
      | 1, _ => rfl
      | 2, _ => rfl
      | 3, _ => rfl
      | 4, _ => rfl
    · rw [LG.regA, LG.regA]
      have e : a ≠ i := fun e => hz (by rw [e])
      simp only [at1_ne _ _ e]
    · rw [LG.regD, LG.regD]
      skip
theorem AllR.rowA (h : AllR w B K.reg) {i : Nat} (hi : i < K.n) (hp : 0 < (K.rA i).length) : ∃ g c, K.vA i = .slice (some ⟨g, 0, none⟩) (K.rA i).length c ∧ w.cell? ⟨K.gA, i, none⟩ = some (.slice (some ⟨g, 0, none⟩) (K.rA i).length c) ∧
    w.ownsRow B 4 1 (.slice (some ⟨g, 0, none⟩) (K.rA i).length c) (K.rA i).length (bools (K.rA i)) ∧ B ≤ g ∧ g < w.heap.size := by
  have ho := h.own (2 * i + 5)
  rw [K.regA] at ho
  unfold Reg.ok at ho
  obtain ⟨g, c, e, h1, h2⟩ := ho.form hp
  simp only at e
  refine ⟨g, c, e, ?_, by rw [← e]; exact ho, h1, h2⟩
  exact h.cell (x := 1) (c := K.n) rfl (by show i < K.n * 1; omega) (by
    show ((List.range K.n).map K.vA)[i]? = _
    simp [hi, e])

/-- A row of D laid in or grown: its new block, then the cell that names it. -/
theorem AllR.putD (h : AllR w B K.reg) {i g c m : Nat} {bs : List Bool} (hm : m = bs.length) (ho : w'.ownsRow B 4 1 (.slice (some ⟨g, 0, none⟩) m c) m (bools bs))
    (hk : ∀ b, b < w.heap.size → (K.vD i).ownBlock ≠ some b → w'.heap[b]? = w.heap[b]?) (hat : (K.vD i).ownBlock = some g ∨ w.heap.size ≤ g) :
    AllR (w'.setCell ⟨K.gD, i, none⟩ (.slice (some ⟨g, 0, none⟩) m c)) B (LG.reg { K with vD := at1 K.vD i (.slice (some ⟨g, 0, none⟩) m c), rD := at1 K.rD i bs }) := by
  subst hm
  have h1 : AllR w' B (fun y => if y = 2 * i + 6 then ⟨4, 1, .slice (some ⟨g, 0, none⟩) bs.length c, bs.length, bools bs⟩ else K.reg y) := by
    refine h.upd (x := 2 * i + 6) ?_ (fun y hy => if_neg hy) (fun b hb hne => hk b hb ?_) (fun b hb => ?_)
    · show Reg.ok w' B (if 2 * i + 6 = 2 * i + 6 then _ else _)
      rw [if_pos rfl]
      exact ho
    · rw [K.regD] at hne; exact hne
    · rw [if_pos rfl] at hb
      obtain rfl : g = b := by simpa [Value.ownBlock] using hb
      rw [K.regD]; exact hat
  refine h1.set (x := 2) (g := K.gD) (c := (K.n + 1)) (by rw [if_neg (by omega)]; rfl) i _ ?_ (fun y hy => ?_)
  · rw [if_neg (by omega)]
    show Reg.mk _ _ _ _ ((List.range (K.n + 1)).map (at1 K.vD i _)) = _
    rw [at1_map]; rfl
  · rcases reg_cases y with hc | ⟨a, rfl⟩ | ⟨a, rfl⟩
    · rw [if_neg (by omega)]
      match y, hc, hy with
      | 0, _, _ => rfl
      | 1, _, hy => first | rfl | exact absurd rfl hy
      | 2, _, hy => first | rfl | exact absurd rfl hy
      | 3, _, _ => rfl
      | 4, _, _ => rfl
    · rw [LG.regA]
      rw [if_neg (by omega), LG.regA]
    · rw [LG.regD]
      by_cases e : a = i
      · subst e
        rw [if_pos rfl]; simp only [at1_self]
      · rw [if_neg (by omega), LG.regD]; simp only [at1_ne _ _ e]
/-- A cell of a row of D turned. -/
theorem AllR.inD (h : AllR w B K.reg) {i g c : Nat} (hv : K.vD i = .slice (some ⟨g, 0, none⟩) (K.rD i).length c) (j : Nat) (y : Bool) :
    AllR (w.setCell ⟨g, j, none⟩ (.bool y)) B (LG.reg { K with rD := at1 K.rD i ((K.rD i).set j y) }) := by
  refine h.set (x := 2 * i + 6) (g := g) (c := c) (by rw [K.regD]; exact hv) j _ ?_ (fun z hz => ?_)
  · rw [LG.regD, K.regD]
    simp only [at1_self, List.length_set]
    congr 1
    simp [bools, List.map_set]
  · rcases reg_cases z with hc | ⟨a, rfl⟩ | ⟨a, rfl⟩
    · match z, hc with
      | 0, _ => rfl
      | 1, _ => rfl
      | 2, _ => rfl
      | 3, _ => rfl
      | 4, _ => rfl
    · rw [LG.regA, LG.regA]
      skip
    · rw [LG.regD, LG.regD]
      have e : a ≠ i := fun e => hz (by rw [e])
      simp only [at1_ne _ _ e]
theorem AllR.rowD (h : AllR w B K.reg) {i : Nat} (hi : i < (K.n + 1)) (hp : 0 < (K.rD i).length) : ∃ g c, K.vD i = .slice (some ⟨g, 0, none⟩) (K.rD i).length c ∧ w.cell? ⟨K.gD, i, none⟩ = some (.slice (some ⟨g, 0, none⟩) (K.rD i).length c) ∧
    w.ownsRow B 4 1 (.slice (some ⟨g, 0, none⟩) (K.rD i).length c) (K.rD i).length (bools (K.rD i)) ∧ B ≤ g ∧ g < w.heap.size := by
  have ho := h.own (2 * i + 6)
  rw [K.regD] at ho
  unfold Reg.ok at ho
  obtain ⟨g, c, e, h1, h2⟩ := ho.form hp
  simp only at e
  refine ⟨g, c, e, ?_, by rw [← e]; exact ho, h1, h2⟩
  exact h.cell (x := 2) (c := (K.n + 1)) rfl (by show i < (K.n + 1) * 1; omega) (by
    show ((List.range (K.n + 1)).map K.vD)[i]? = _
    simp [hi, e])

/-- A sum turned. -/
theorem AllR.inS (h : AllR w B K.reg) {g c : Nat} (hv : K.vS = .slice (some ⟨g, 0, none⟩) K.S.length c) (j : Nat) (y : Int) : AllR (w.setCell ⟨g, j, none⟩ (.int .i64 y)) B (LG.reg { K with S := K.S.set j y }) := by
  refine h.set (x := 3) (g := g) (c := c) hv j _ ?_ (fun z hz => ?_)
  · show Reg.mk _ _ _ (K.S.set j y).length (ints (K.S.set j y)) = Reg.mk _ _ _ K.S.length ((ints K.S).set j _)
    rw [List.length_set]
    congr 1
    simp [ints, List.map_set]
  · rcases reg_cases z with hc | ⟨a, rfl⟩ | ⟨a, rfl⟩
    · match z, hc, hz with
      | 0, _, _ => rfl
      | 1, _, _ => rfl
      | 2, _, _ => rfl
      | 3, _, hz => exact absurd rfl hz
      | 4, _, _ => rfl
    · rw [LG.regA, LG.regA]
    · rw [LG.regD, LG.regD]
theorem AllR.cL (h : AllR w B K.reg) : w.cell? ⟨K.L, 0, none⟩ = some K.A ∧ w.cell? ⟨K.L, 1, none⟩ = some K.D :=
  ⟨h.cell (x := 0) (c := 1) rfl (by show 0 < 1 * 2; omega) rfl, h.cell (x := 0) (c := 1) rfl (by show 1 < 1 * 2; omega) rfl⟩
theorem AllR.fzA (h : AllR w B K.reg) (j : Nat) : w.frozen? ⟨K.gA, j, none⟩ = false := h.fz (x := 1) (c := K.n) rfl j
theorem AllR.fzD (h : AllR w B K.reg) (j : Nat) : w.frozen? ⟨K.gD, j, none⟩ = false := h.fz (x := 2) (c := K.n + 1) rfl j
theorem AllR.cellA (h : AllR w B K.reg) {i : Nat} (hi : i < K.n) : w.cell? ⟨K.gA, i, none⟩ = some (K.vA i) :=
  h.cell (x := 1) (c := K.n) rfl (by show i < K.n * 1; omega) (by show ((List.range K.n).map K.vA)[i]? = _; simp [hi])
theorem AllR.cellD (h : AllR w B K.reg) {i : Nat} (hi : i < K.n + 1) : w.cell? ⟨K.gD, i, none⟩ = some (K.vD i) :=
  h.cell (x := 2) (c := K.n + 1) rfl (by show i < (K.n + 1) * 1; omega) (by show ((List.range (K.n + 1)).map K.vD)[i]? = _; simp [hi])
theorem own_obj {g n z : Nat} {cur : Array Value} {e : TypeId} (hh : w.heap[g]? = some (.cells cur e)) (hB : B ≤ g) (hn : n ≤ 1000000) (hs : cur.size = n * z) : w.ownsRow B e z (.slice (some ⟨g, 0, none⟩) n n) n cur.toList :=
  ⟨by simpa using hs, .inr ⟨g, n, cur, rfl, hB, hh, Nat.le_refl _, by unfold maxLen; omega, hs, List.take_of_length_le (by rw [Array.length_toList, hs]; exact Nat.le_refl _)⟩⟩
end
end Go.Proofs.Ytdmpbbgcifodeaa
