/- Part of the proof. -/
import Derived.Deep.RegionHeld3
import Derived.Deep.AppendLies
import Derived.Test.YtpmkdihencepnaaGreatDoorMk04
import Derived.Test.YtpmkdihencepnaaGreatDoorMk28
import Derived.Test.YtpmkdihencepnaaGreatDoorMk33
namespace Go.Proofs.YtpmkdihencepnaaGreatDoor
section
open Go.RowKit
structure Reg where
 e : TypeId
 z : Nat
 v : Value
 n : Nat
 cs : List Value
def Reg.ok (w : World) (B : Nat) (r : Reg) : Prop := w.ownsRow B r.e r.z r.v r.n r.cs
structure AllR (w : World) (B : Nat) (R : Nat → Reg) : Prop where
 own : ∀ x, (R x).ok w B
 far : ∀ x y, x ≠ y → Far (R x).v (R y).v
theorem own_eq {w w' : World} {base n k : Nat} {e : TypeId} {v : Value} {cs : List Value} (h : w.ownsRow base e k v n cs) (hk : ∀ b, v.ownBlock = some b → w'.heap[b]? = w.heap[b]?) : w'.ownsRow base e k v n cs := by
 refine ⟨h.1, ?_⟩
 rcases h.2 with hn | ⟨g, cap, cur, e1, hg, hh, rest⟩
 · exact .inl hn
 · exact .inr ⟨g, cap, cur, e1, hg, (hk g (by rw [e1]; rfl)).trans hh, rest⟩
section
variable {w w' : World} {B : Nat} {R R' : Nat → Reg}
theorem AllR.keep (h : AllR w B R) (hk : ∀ x b, (R x).v.ownBlock = some b → w'.heap[b]? = w.heap[b]?) : AllR w' B R :=
 ⟨fun x => own_eq (h.own x) (hk x), h.far⟩
theorem AllR.lt (h : AllR w B R) {x b : Nat} (hb : (R x).v.ownBlock = some b) : B ≤ b ∧ b < w.heap.size := (h.own x).lt b hb
theorem AllR.below (h : AllR w B R) (hb : Below w.heap.size w w') : AllR w' B R :=
 h.keep fun _ b e => hb.block b (h.lt e).2
theorem AllR.drewN (h : AllR w B R) (k : Nat) : AllR (w.drewN k) B R := ⟨h.own, h.far⟩
theorem AllR.drew (h : AllR w B R) : AllR w.drew B R := ⟨h.own, h.far⟩
theorem AllR.alloc (h : AllR w B R) (o : Obj) : AllR (w.alloc o) B R := h.below ((Below.refl _ _).alloc (Nat.le_refl _) o)
theorem AllR.base (h : AllR w B R) {B' : Nat} (hB : B' ≤ B) : AllR w B' R := ⟨fun x => (h.own x).mono hB, h.far⟩
theorem AllR.upd (h : AllR w B R) {x : Nat} (ho : (R' x).ok w' B) (he : ∀ y, y ≠ x → R' y = R y) (hk : ∀ b, b < w.heap.size → (R x).v.ownBlock ≠ some b → w'.heap[b]? = w.heap[b]?)
 (hat : ∀ b, (R' x).v.ownBlock = some b → (R x).v.ownBlock = some b ∨ w.heap.size ≤ b) : AllR w' B R' := by
 have hfar : ∀ y, y ≠ x → Far (R' x).v (R y).v := fun y hy b h1 h2 => by
  rcases hat b h1 with e | e
  · exact h.far x y (Ne.symm hy) b e h2
  · have := (h.lt h2).2; omega
 refine ⟨fun y => ?_, fun y z hyz => ?_⟩
 · by_cases e : y = x
   · subst e; exact ho
   · rw [he y e]
     exact own_eq (h.own y) fun b hb => hk b (h.lt hb).2 fun hx => h.far y x e b hb hx
 · by_cases e : y = x
   · subst e
     rw [he z (Ne.symm hyz)]; exact hfar z (Ne.symm hyz)
   · by_cases e2 : z = x
     · subst e2
       rw [he y e]; exact (hfar y e).symm
     · rw [he y e, he z e2]; exact h.far y z hyz
theorem AllR.set (h : AllR w B R) {x g c : Nat} (hv : (R x).v = .slice (some ⟨g, 0, none⟩) (R x).n c) (j : Nat) (u : Value) (hx : R' x = ⟨(R x).e, (R x).z, (R x).v, (R x).n, (R x).cs.set j u⟩) (he : ∀ y, y ≠ x → R' y = R y) : AllR (w.setCell ⟨g, j, none⟩ u) B R' := by
 have ho := h.own x
 unfold Reg.ok at ho
 refine h.upd (x := x) ?_ he (fun b hb hne => ?_) (fun b hb => .inl ?_)
 · rw [hx]
   unfold Reg.ok
   simp only
   rw [hv] at ho ⊢
   exact (ho.stored j u).1
 · have : g ≠ b := fun e => hne (by rw [hv, ← e]; rfl)
   simp [World.setCell, Array.getElem?_modify, this]
 · rw [hx] at hb; exact hb
theorem AllR.cell (h : AllR w B R) {x g c : Nat} (hv : (R x).v = .slice (some ⟨g, 0, none⟩) (R x).n c) {j : Nat} {u : Value} (hj : j < (R x).n * (R x).z) (hu : (R x).cs[j]? = some u) : w.cell? ⟨g, j, none⟩ = some u := by
 have ho := h.own x
 unfold Reg.ok at ho
 rw [hv] at ho
 rw [ho.cellAt j hj]; exact hu
theorem AllR.fz (h : AllR w B R) {x g c : Nat} (hv : (R x).v = .slice (some ⟨g, 0, none⟩) (R x).n c) (j : Nat) : w.frozen? ⟨g, j, none⟩ = false := by
 have ho := h.own x
 unfold Reg.ok at ho
 rw [hv] at ho
 exact ho.frozenAt j
end
structure LG where
 n : Nat
 L : Nat
 gA : Nat
 gD : Nat
 vS : Value
 S : List Int
 vR : Value
 nR : Nat
 cR : List Value
 vA : Nat → Value
 vD : Nat → Value
 rA : Nat → List Bool
 rD : Nat → List Bool
def LG.A (K : LG) : Value := .slice (some ⟨K.gA, 0, none⟩) K.n K.n
def LG.D (K : LG) : Value := .slice (some ⟨K.gD, 0, none⟩) (K.n + 1) (K.n + 1)
def LG.reg (K : LG) : Nat → Reg
 | 0 => ⟨190, 2, .slice (some ⟨K.L, 0, none⟩) 1 1, 1, [K.A, K.D]⟩
 | 1 => ⟨193, 1, K.A, K.n, (List.range K.n).map K.vA⟩
 | 2 => ⟨193, 1, K.D, K.n + 1, (List.range (K.n + 1)).map K.vD⟩
 | 3 => ⟨3, 1, K.vS, K.S.length, ints K.S⟩
 | 4 => ⟨190, 2, K.vR, K.nR, K.cR⟩
 | k + 5 => if k % 2 = 0 then ⟨4, 1, K.vA (k / 2), (K.rA (k / 2)).length, bools (K.rA (k / 2))⟩ else ⟨4, 1, K.vD (k / 2), (K.rD (k / 2)).length, bools (K.rD (k / 2))⟩
theorem LG.regA (K : LG) (i : Nat) : K.reg (2 * i + 5) = ⟨4, 1, K.vA i, (K.rA i).length, bools (K.rA i)⟩ := by
 show (if (2 * i) % 2 = 0 then _ else _) = _
 rw [if_pos (by omega), show 2 * i / 2 = i by omega]
theorem LG.regD (K : LG) (i : Nat) : K.reg (2 * i + 6) = ⟨4, 1, K.vD i, (K.rD i).length, bools (K.rD i)⟩ := by
 show (if (2 * i + 1) % 2 = 0 then _ else _) = _
 rw [if_neg (by omega), show (2 * i + 1) / 2 = i by omega]
theorem reg_cases (x : Nat) : x < 5 ∨ (∃ i, x = 2 * i + 5) ∨ (∃ i, x = 2 * i + 6) := by
 by_cases h : x < 5
 · exact .inl h
 · by_cases h2 : (x - 5) % 2 = 0
   · exact .inr (.inl ⟨(x - 5) / 2, by omega⟩)
   · exact .inr (.inr ⟨(x - 6) / 2, by omega⟩)
theorem LG.same {K K' : LG} {x : Nat} (h0 : x ≠ 0 → K'.reg 0 = K.reg 0) (h1 : x ≠ 1 → K'.reg 1 = K.reg 1) (h2 : x ≠ 2 → K'.reg 2 = K.reg 2) (h3 : x ≠ 3 → K'.reg 3 = K.reg 3) (h4 : x ≠ 4 → K'.reg 4 = K.reg 4)
 (hA : ∀ i, x ≠ 2 * i + 5 → K'.vA i = K.vA i ∧ K'.rA i = K.rA i) (hD : ∀ i, x ≠ 2 * i + 6 → K'.vD i = K.vD i ∧ K'.rD i = K.rD i) : ∀ y, y ≠ x → K'.reg y = K.reg y := by
 intro y hy
 rcases reg_cases y with h | ⟨i, rfl⟩ | ⟨i, rfl⟩
 · match y, h with
   | 0, _ => exact h0 (Ne.symm hy)
   | 1, _ => exact h1 (Ne.symm hy)
   | 2, _ => exact h2 (Ne.symm hy)
   | 3, _ => exact h3 (Ne.symm hy)
   | 4, _ => exact h4 (Ne.symm hy)
 · rw [K.regA, K'.regA, (hA i (Ne.symm hy)).1, (hA i (Ne.symm hy)).2]
 · rw [K.regD, K'.regD, (hD i (Ne.symm hy)).1, (hD i (Ne.symm hy)).2]
def at1B {α : Type} (f : Nat → α) (i : Nat) (y : α) : Nat → α := fun x => if x = i then y else f x
theorem at1_self {α : Type} (f : Nat → α) (i : Nat) (y : α) : at1B f i y i = y := if_pos rfl
theorem at1_ne {α : Type} (f : Nat → α) {i x : Nat} (y : α) (h : x ≠ i) : at1B f i y x = f x := if_neg h
theorem at1_map {α : Type} (f : Nat → α) (n i : Nat) (y : α) : (List.range n).map (at1B f i y) = ((List.range n).map f).set i y := by
 apply List.ext_getElem (by simp)
 intro a h1 h2
 rw [List.getElem_set]
 simp only [List.getElem_map, List.getElem_range]
 by_cases e : i = a
 · subst e; rw [if_pos rfl, at1_self]
 · rw [if_neg e, at1_ne _ _ (fun h => e h.symm)]
section
variable {w w' : World} {B : Nat} {K : LG}
theorem AllR.putA (h : AllR w B K.reg) {i g c m : Nat} {bs : List Bool} (hm : m = bs.length) (ho : w'.ownsRow B 4 1 (.slice (some ⟨g, 0, none⟩) m c) m (bools bs))
 (hk : ∀ b, b < w.heap.size → (K.vA i).ownBlock ≠ some b → w'.heap[b]? = w.heap[b]?) (hat : (K.vA i).ownBlock = some g ∨ w.heap.size ≤ g) :
 AllR (w'.setCell ⟨K.gA, i, none⟩ (.slice (some ⟨g, 0, none⟩) m c)) B (LG.reg { K with vA := at1B K.vA i (.slice (some ⟨g, 0, none⟩) m c), rA := at1B K.rA i bs }) := by
 subst hm
 have h1 : AllR w' B (fun y => if y = 2 * i + 5 then ⟨4, 1, .slice (some ⟨g, 0, none⟩) bs.length c, bs.length, bools bs⟩ else K.reg y) := by
  refine h.upd (x := 2 * i + 5) ?_ (fun y hy => if_neg hy) (fun b hb hne => hk b hb ?_) (fun b hb => ?_)
  · show Reg.ok w' B (if 2 * i + 5 = 2 * i + 5 then _ else _)
    rw [if_pos rfl]
    exact ho
  · rw [K.regA] at hne; exact hne
  · rw [if_pos rfl] at hb
    obtain rfl : g = b := by simpa [Value.ownBlock] using hb
    rw [K.regA]; exact hat
 refine h1.set (x := 1) (g := K.gA) (c := K.n) (by rw [if_neg (by omega)]; rfl) i _ ?_ (fun y hy => ?_)
 · rw [if_neg (by omega)]
   show Reg.mk _ _ _ _ ((List.range K.n).map (at1B K.vA i _)) = _
   rw [at1_map]; rfl
 · rcases reg_cases y with hc | ⟨a, rfl⟩ | ⟨a, rfl⟩
   · rw [if_neg (by omega)]
     match y, hc, hy with
     | 0, _, _ => rfl
     | 1, _, hy => first | rfl | exact absurd rfl hy
     | 2, _, hy => first | rfl | exact absurd rfl hy
     | 3, _, _ => rfl
     | 4, _, _ => rfl
   · rw [LG.regA]
     by_cases e : a = i
     · subst e
       rw [if_pos rfl]; simp only [at1_self]
     · rw [if_neg (by omega), LG.regA]; simp only [at1_ne _ _ e]
   · rw [LG.regD]
     rw [if_neg (by omega), LG.regD]
theorem AllR.inA (h : AllR w B K.reg) {i g c : Nat} (hv : K.vA i = .slice (some ⟨g, 0, none⟩) (K.rA i).length c) (j : Nat) (y : Bool) :
 AllR (w.setCell ⟨g, j, none⟩ (.bool y)) B (LG.reg { K with rA := at1B K.rA i ((K.rA i).set j y) }) := by
 refine h.set (x := 2 * i + 5) (g := g) (c := c) (by rw [K.regA]; exact hv) j _ ?_ (fun z hz => ?_)
 · rw [LG.regA, K.regA]
   simp only [at1_self, List.length_set]
   congr 1
   simp [bools, List.map_set]
 · rcases reg_cases z with hc | ⟨a, rfl⟩ | ⟨a, rfl⟩
   · match z, hc with
     | 0, _ => rfl
     | 1, _ => rfl
     | 2, _ => rfl
     | 3, _ => rfl
     | 4, _ => rfl
   · rw [LG.regA, LG.regA]
     have e : a ≠ i := fun e => hz (by rw [e])
     simp only [at1_ne _ _ e]
   · rw [LG.regD, LG.regD]
     skip
theorem AllR.rowA (h : AllR w B K.reg) {i : Nat} (hi : i < K.n) (hp : 0 < (K.rA i).length) : ∃ g c, K.vA i = .slice (some ⟨g, 0, none⟩) (K.rA i).length c ∧ w.cell? ⟨K.gA, i, none⟩ = some (.slice (some ⟨g, 0, none⟩) (K.rA i).length c) ∧
 w.ownsRow B 4 1 (.slice (some ⟨g, 0, none⟩) (K.rA i).length c) (K.rA i).length (bools (K.rA i)) ∧ B ≤ g ∧ g < w.heap.size := by
 have ho := h.own (2 * i + 5)
 rw [K.regA] at ho
 unfold Reg.ok at ho
 obtain ⟨g, c, e, h1, h2⟩ := ho.form hp
 simp only at e
 refine ⟨g, c, e, ?_, by rw [← e]; exact ho, h1, h2⟩
 exact h.cell (x := 1) (c := K.n) rfl (by show i < K.n * 1; omega) (by
  show ((List.range K.n).map K.vA)[i]? = _
  simp [hi, e])
theorem AllR.putD (h : AllR w B K.reg) {i g c m : Nat} {bs : List Bool} (hm : m = bs.length) (ho : w'.ownsRow B 4 1 (.slice (some ⟨g, 0, none⟩) m c) m (bools bs))
 (hk : ∀ b, b < w.heap.size → (K.vD i).ownBlock ≠ some b → w'.heap[b]? = w.heap[b]?) (hat : (K.vD i).ownBlock = some g ∨ w.heap.size ≤ g) :
 AllR (w'.setCell ⟨K.gD, i, none⟩ (.slice (some ⟨g, 0, none⟩) m c)) B (LG.reg { K with vD := at1B K.vD i (.slice (some ⟨g, 0, none⟩) m c), rD := at1B K.rD i bs }) := by
 subst hm
 have h1 : AllR w' B (fun y => if y = 2 * i + 6 then ⟨4, 1, .slice (some ⟨g, 0, none⟩) bs.length c, bs.length, bools bs⟩ else K.reg y) := by
  refine h.upd (x := 2 * i + 6) ?_ (fun y hy => if_neg hy) (fun b hb hne => hk b hb ?_) (fun b hb => ?_)
  · show Reg.ok w' B (if 2 * i + 6 = 2 * i + 6 then _ else _)
    rw [if_pos rfl]
    exact ho
  · rw [K.regD] at hne; exact hne
  · rw [if_pos rfl] at hb
    obtain rfl : g = b := by simpa [Value.ownBlock] using hb
    rw [K.regD]; exact hat
 refine h1.set (x := 2) (g := K.gD) (c := (K.n + 1)) (by rw [if_neg (by omega)]; rfl) i _ ?_ (fun y hy => ?_)
 · rw [if_neg (by omega)]
   show Reg.mk _ _ _ _ ((List.range (K.n + 1)).map (at1B K.vD i _)) = _
   rw [at1_map]; rfl
 · rcases reg_cases y with hc | ⟨a, rfl⟩ | ⟨a, rfl⟩
   · rw [if_neg (by omega)]
     match y, hc, hy with
     | 0, _, _ => rfl
     | 1, _, hy => first | rfl | exact absurd rfl hy
     | 2, _, hy => first | rfl | exact absurd rfl hy
     | 3, _, _ => rfl
     | 4, _, _ => rfl
   · rw [LG.regA]
     rw [if_neg (by omega), LG.regA]
   · rw [LG.regD]
     by_cases e : a = i
     · subst e
       rw [if_pos rfl]; simp only [at1_self]
     · rw [if_neg (by omega), LG.regD]; simp only [at1_ne _ _ e]
theorem AllR.inD (h : AllR w B K.reg) {i g c : Nat} (hv : K.vD i = .slice (some ⟨g, 0, none⟩) (K.rD i).length c) (j : Nat) (y : Bool) :
 AllR (w.setCell ⟨g, j, none⟩ (.bool y)) B (LG.reg { K with rD := at1B K.rD i ((K.rD i).set j y) }) := by
 refine h.set (x := 2 * i + 6) (g := g) (c := c) (by rw [K.regD]; exact hv) j _ ?_ (fun z hz => ?_)
 · rw [LG.regD, K.regD]
   simp only [at1_self, List.length_set]
   congr 1
   simp [bools, List.map_set]
 · rcases reg_cases z with hc | ⟨a, rfl⟩ | ⟨a, rfl⟩
   · match z, hc with
     | 0, _ => rfl
     | 1, _ => rfl
     | 2, _ => rfl
     | 3, _ => rfl
     | 4, _ => rfl
   · rw [LG.regA, LG.regA]
     skip
   · rw [LG.regD, LG.regD]
     have e : a ≠ i := fun e => hz (by rw [e])
     simp only [at1_ne _ _ e]
theorem AllR.rowD (h : AllR w B K.reg) {i : Nat} (hi : i < (K.n + 1)) (hp : 0 < (K.rD i).length) : ∃ g c, K.vD i = .slice (some ⟨g, 0, none⟩) (K.rD i).length c ∧ w.cell? ⟨K.gD, i, none⟩ = some (.slice (some ⟨g, 0, none⟩) (K.rD i).length c) ∧
 w.ownsRow B 4 1 (.slice (some ⟨g, 0, none⟩) (K.rD i).length c) (K.rD i).length (bools (K.rD i)) ∧ B ≤ g ∧ g < w.heap.size := by
 have ho := h.own (2 * i + 6)
 rw [K.regD] at ho
 unfold Reg.ok at ho
 obtain ⟨g, c, e, h1, h2⟩ := ho.form hp
 simp only at e
 refine ⟨g, c, e, ?_, by rw [← e]; exact ho, h1, h2⟩
 exact h.cell (x := 2) (c := (K.n + 1)) rfl (by show i < (K.n + 1) * 1; omega) (by
  show ((List.range (K.n + 1)).map K.vD)[i]? = _
  simp [hi, e])
theorem AllR.inS (h : AllR w B K.reg) {g c : Nat} (hv : K.vS = .slice (some ⟨g, 0, none⟩) K.S.length c) (j : Nat) (y : Int) : AllR (w.setCell ⟨g, j, none⟩ (.int .i64 y)) B (LG.reg { K with S := K.S.set j y }) := by
 refine h.set (x := 3) (g := g) (c := c) hv j _ ?_ (fun z hz => ?_)
 · show Reg.mk _ _ _ (K.S.set j y).length (ints (K.S.set j y)) = Reg.mk _ _ _ K.S.length ((ints K.S).set j _)
   rw [List.length_set]
   congr 1
   simp [ints, List.map_set]
 · rcases reg_cases z with hc | ⟨a, rfl⟩ | ⟨a, rfl⟩
   · match z, hc, hz with
     | 0, _, _ => rfl
     | 1, _, _ => rfl
     | 2, _, _ => rfl
     | 3, _, hz => exact absurd rfl hz
     | 4, _, _ => rfl
   · rw [LG.regA, LG.regA]
   · rw [LG.regD, LG.regD]
theorem AllR.cL (h : AllR w B K.reg) : w.cell? ⟨K.L, 0, none⟩ = some K.A ∧ w.cell? ⟨K.L, 1, none⟩ = some K.D :=
 ⟨h.cell (x := 0) (c := 1) rfl (by show 0 < 1 * 2; omega) rfl, h.cell (x := 0) (c := 1) rfl (by show 1 < 1 * 2; omega) rfl⟩
theorem AllR.fzA (h : AllR w B K.reg) (j : Nat) : w.frozen? ⟨K.gA, j, none⟩ = false := h.fz (x := 1) (c := K.n) rfl j
theorem AllR.fzD (h : AllR w B K.reg) (j : Nat) : w.frozen? ⟨K.gD, j, none⟩ = false := h.fz (x := 2) (c := K.n + 1) rfl j
theorem AllR.cellA (h : AllR w B K.reg) {i : Nat} (hi : i < K.n) : w.cell? ⟨K.gA, i, none⟩ = some (K.vA i) :=
 h.cell (x := 1) (c := K.n) rfl (by show i < K.n * 1; omega) (by show ((List.range K.n).map K.vA)[i]? = _; simp [hi])
theorem AllR.cellD (h : AllR w B K.reg) {i : Nat} (hi : i < K.n + 1) : w.cell? ⟨K.gD, i, none⟩ = some (K.vD i) :=
 h.cell (x := 2) (c := K.n + 1) rfl (by show i < (K.n + 1) * 1; omega) (by show ((List.range (K.n + 1)).map K.vD)[i]? = _; simp [hi])
theorem own_obj {g n z : Nat} {cur : Array Value} {e : TypeId} (hh : w.heap[g]? = some (.cells cur e)) (hB : B ≤ g) (hn : n ≤ 1000000) (hs : cur.size = n * z) : w.ownsRow B e z (.slice (some ⟨g, 0, none⟩) n n) n cur.toList :=
 ⟨by simpa using hs, .inr ⟨g, n, cur, rfl, hB, hh, Nat.le_refl _, by unfold maxLen; omega, hs, List.take_of_length_le (by rw [Array.length_toList, hs]; exact Nat.le_refl _)⟩⟩
end
end
section
open Go.RowKit
theorem Tryz.infoSliceB : (Tryz.prog.info? 193).map (fun i => (i.zero, i.size, i.bytes)) = some (some (.slice none 0 0), 1, 24) := by kernel_rfl
def rowA (X : Cf) (n i : Nat) : List Bool := (List.range (n + 1)).map (fun j : Nat => X (.h i j))
def rowD (X : Cf) (n i : Nat) : List Bool := (List.range n).map (fun j : Nat => X (.v i j))
def fA (X : Cf) (n a : Nat) : Nat → List Bool := fun i => if i < a then rowA X n i else []
def fD (X : Cf) (n a : Nat) : Nat → List Bool := fun i => if i < a then rowD X n i else []
def mixD (X : Cf) (n i k : Nat) : List Bool := (List.range n).map (fun j : Nat => decide (j < k) && X (.v i j))
theorem mixD_length (X : Cf) (n i k : Nat) : (mixD X n i k).length = n := by simp [mixD]
theorem mixD_zero (X : Cf) (n i : Nat) : List.replicate n false = mixD X n i 0 := by
  apply List.ext_getElem (by simp [mixD])
  intro a h1 h2; simp [mixD]
theorem mixD_set {X : Cf} {n i k : Nat} : (mixD X n i k).set k (X (.v i k)) = mixD X n i (k + 1) := by
  apply List.ext_getElem (by simp [mixD])
  intro a h1 h2
  rw [List.getElem_set]
  simp only [mixD, List.getElem_map, List.getElem_range]
  by_cases e : k = a
  · subst e; simp
  · rw [if_neg e]
    congr 1
    by_cases c : a < k
    · rw [decide_eq_true c, decide_eq_true (by omega)]
    · rw [decide_eq_false c, decide_eq_false (by omega)]
theorem mixD_full (X : Cf) (n i : Nat) : mixD X n i n = rowD X n i := by
  unfold mixD rowD
  refine List.map_congr_left (fun j hj => ?_)
  rw [decide_eq_true (List.mem_range.1 hj)]; rfl
theorem fD_next (X : Cf) (n a : Nat) : at1B (fD X n a) a (mixD X n a n) = fD X n (a + 1) := by
  funext i
  unfold at1B fD
  by_cases e : i = a
  · subst e; rw [if_pos rfl, if_pos (by omega), mixD_full]
  · rw [if_neg e]
    by_cases c : i < a
    · rw [if_pos c, if_pos (by omega)]
    · rw [if_neg c, if_neg (by omega)]
theorem fA_next (X : Cf) (n a : Nat) : at1B (fA X n a) a ((rowA X n a).take (n + 1)) = fA X n (a + 1) := by
  funext i
  unfold at1B fA
  by_cases e : i = a
  · subst e; rw [if_pos rfl, if_pos (by omega), List.take_of_length_le (by simp [rowA])]
  · rw [if_neg e]
    by_cases c : i < a
    · rw [if_pos c, if_pos (by omega)]
    · rw [if_neg c, if_neg (by omega)]
theorem rowA_take {X : Cf} {n i k : Nat} (hk : k < n + 1) : (rowA X n i).take k ++ [X (.h i k)] = (rowA X n i).take (k + 1) := by
  rw [take_snoc (by simp [rowA]; omega)]
  simp [rowA]
theorem at1_at1 {α : Type} (f : Nat → α) (i : Nat) (x y : α) : at1B (at1B f i x) i y = at1B f i y := by
  funext a
  unfold at1B
  by_cases e : a = i <;> simp [e]
def kOf (n L gA gD N : Nat) (vS : Value) (S : List Int) (vA vD : Nat → Value) (rA rD : Nat → List Bool) : LG :=
  ⟨n, L, gA, gD, vS, S, .slice (some ⟨N, 0, none⟩) 1 1, 1, [.slice none 0 0, .slice none 0 0], vA, vD, rA, rD⟩
def LSt (w0 wz : World) (n L gA gD N : Nat) (vS : Value) (S : List Int) (rA rD : Nat → List Bool) : Prop :=
  ∃ vA vD, AllR wz N (kOf n L gA gD N vS S vA vD rA rD).reg ∧ Below N w0 wz
theorem rep_map (n : Nat) (v : Value) : (List.range n).map (fun _ => v) = List.replicate n v := by simp [List.map_const']
theorem two_bools (n : Nat) : (madeCells #[Value.slice none 0 0] n).toList = List.replicate n (.slice none 0 0) ∧ (madeCells #[Value.slice none 0 0] n).size = n * 1 := by
  constructor
  · simp [toList_madeCells_one]
  · rw [size_madeCells]; simp
theorem LSt.start {w0 wz : World} {n L gA gD N : Nat} (hn : n ≤ 7) (h0 : wz.heap[N]? = some (.cells #[.slice none 0 0, .slice none 0 0] 190))
    (h1 : wz.heap[L]? = some (.cells #[.slice (some ⟨gA, 0, none⟩) n n, .slice (some ⟨gD, 0, none⟩) (n + 1) (n + 1)] 190))
    (h2 : wz.heap[gA]? = some (.cells (madeCells #[.slice none 0 0] n) 193)) (h3 : wz.heap[gD]? = some (.cells (madeCells #[.slice none 0 0] (n + 1)) 193))
    (b1 : N < L) (b2 : N < gA) (b3 : N < gD) (d1 : L ≠ gA) (d2 : L ≠ gD) (d3 : gA ≠ gD) (hb : Below N w0 wz) :
    LSt w0 wz n L gA gD N (.slice none 0 0) [] (fun _ => []) (fun _ => []) := by
  refine ⟨fun _ => .slice none 0 0, fun _ => .slice none 0 0, ⟨fun x => ?_, fun x y hxy k hk1 hk2 => ?_⟩, hb⟩
  · rcases reg_cases x with h | ⟨i, rfl⟩ | ⟨i, rfl⟩
    · match x, h with
      | 0, _ => exact own_obj (n := 1) (z := 2) h1 (Nat.le_of_lt b1) (by omega) rfl
      | 1, _ =>
        have := own_obj (B := N) (z := 1) (n := n) h2 (by omega) (by omega) (two_bools n).2
        rw [(two_bools n).1] at this
        rw [← rep_map] at this
        exact this
      | 2, _ =>
        have := own_obj (B := N) (z := 1) (n := n + 1) h3 (by omega) (by omega) (two_bools (n + 1)).2
        rw [(two_bools (n + 1)).1] at this
        rw [← rep_map] at this
        exact this
      | 3, _ => exact World.ownsRow_nil _ _ _ _
      | 4, _ => exact own_obj (n := 1) (z := 2) h0 (Nat.le_refl _) (by omega) rfl
    · rw [LG.regA]; exact World.ownsRow_nil _ _ _ _
    · rw [LG.regD]; exact World.ownsRow_nil _ _ _ _
  · have key : ∀ x k, ((kOf n L gA gD N (.slice none 0 0) [] (fun _ => .slice none 0 0) (fun _ => .slice none 0 0) (fun _ => []) (fun _ => [])).reg x).v.ownBlock = some k → (x = 0 ∧ k = L) ∨ (x = 1 ∧ k = gA) ∨ (x = 2 ∧ k = gD) ∨ (x = 4 ∧ k = N) := by
      intro x k hk
      rcases reg_cases x with h | ⟨i, rfl⟩ | ⟨i, rfl⟩
      · match x, h, hk with
        | 0, _, hk => obtain rfl : L = k := by simpa [LG.reg, kOf, Value.ownBlock] using hk
                      exact .inl ⟨rfl, rfl⟩
        | 1, _, hk => obtain rfl : gA = k := by simpa [LG.reg, LG.A, kOf, Value.ownBlock] using hk
                      exact .inr (.inl ⟨rfl, rfl⟩)
        | 2, _, hk => obtain rfl : gD = k := by simpa [LG.reg, LG.D, kOf, Value.ownBlock] using hk
                      exact .inr (.inr (.inl ⟨rfl, rfl⟩))
        | 3, _, hk => simp [LG.reg, kOf, Value.ownBlock] at hk
        | 4, _, hk => obtain rfl : N = k := by simpa [LG.reg, kOf, Value.ownBlock] using hk
                      exact .inr (.inr (.inr ⟨rfl, rfl⟩))
      · rw [LG.regA] at hk; simp [kOf, Value.ownBlock] at hk
      · rw [LG.regD] at hk; simp [kOf, Value.ownBlock] at hk
    have e1 := key x k hk1
    have e2 := key y k hk2
    omega
theorem four_laid (w : World) (o0 o1 o2 o3 : Obj) : ((((w.alloc o0).alloc o1).alloc o2).alloc o3).heap[w.heap.size]? = some o0 ∧ ((((w.alloc o0).alloc o1).alloc o2).alloc o3).heap[w.heap.size + 1]? = some o1 ∧
    ((((w.alloc o0).alloc o1).alloc o2).alloc o3).heap[w.heap.size + 1 + 1]? = some o2 ∧ ((((w.alloc o0).alloc o1).alloc o2).alloc o3).heap[w.heap.size + 1 + 1 + 1]? = some o3 ∧ Below w.heap.size w ((((w.alloc o0).alloc o1).alloc o2).alloc o3) := by
  have s1 : (w.alloc o0).heap.size = w.heap.size + 1 := by simp
  have s2 : ((w.alloc o0).alloc o1).heap.size = w.heap.size + 1 + 1 := by simp
  have s3 : (((w.alloc o0).alloc o1).alloc o2).heap.size = w.heap.size + 1 + 1 + 1 := by simp
  have a0 := heap_alloc_new w o0
  have a1 := heap_alloc_new (w.alloc o0) o1
  have a2 := heap_alloc_new ((w.alloc o0).alloc o1) o2
  have a3 := heap_alloc_new (((w.alloc o0).alloc o1).alloc o2) o3
  rw [s1] at a1
  rw [s2] at a2
  rw [s3] at a3
  refine ⟨?_, ?_, ?_, a3, ((((Below.refl _ _).alloc (Nat.le_refl _) _).alloc (by omega) _).alloc (by omega) _).alloc (by omega) _⟩
  · rw [heap_alloc_old _ _ (by omega), heap_alloc_old _ _ (by omega), heap_alloc_old _ _ (by omega)]; exact a0
  · rw [heap_alloc_old _ _ (by omega), heap_alloc_old _ _ (by omega)]; exact a1
  · rw [heap_alloc_old _ _ (by omega)]; exact a2
theorem par_eq (i : Int) (b : Int) : (i % 2 == b) = decide (i % 2 = b) := rfl
theorem lp_top (m : List (List Int)) (k : Nat) : ((k : Int) % 2 == 1) = lpC m (.v ((0 : Nat) : Int) k) := by
  rw [par_eq]
  show _ = (decide ((0 : Int) = 0) == decide ((0 - 1 + (k : Int)) % 2 = 0))
  by_cases c : (k : Int) % 2 = 1
  · rw [decide_eq_true c, decide_eq_true (p := (0 - 1 + (k : Int)) % 2 = 0) (by omega)]; rfl
  · rw [decide_eq_false c, decide_eq_false (p := (0 - 1 + (k : Int)) % 2 = 0) (by omega)]; rfl
theorem lp_left (m : List (List Int)) (i : Nat) : ((i : Int) % 2 == 0) = lpC m (.h i ((0 : Nat) : Int)) := by
  rw [par_eq]
  show _ = (decide ((0 : Int) = 1) == decide (((i : Int) + 0 - 1) % 2 = 0))
  by_cases c : (i : Int) % 2 = 0
  · rw [decide_eq_true c, decide_eq_false (p := ((i : Int) + 0 - 1) % 2 = 0) (by omega)]; rfl
  · rw [decide_eq_false c, decide_eq_true (p := ((i : Int) + 0 - 1) % 2 = 0) (by omega)]; rfl
theorem lp_h (m : List (List Int)) (i j : Nat) : ((rsum m i (j + 1) == 1) == (((i : Int) + (j : Int)) % 2 == 0)) = lpC m (.h i ((j + 1 : Nat) : Int)) := by
  rw [par_eq]
  show _ = (decide (rsum m i (j + 1) = 1) == decide (((i : Int) + ((j + 1 : Nat) : Int) - 1) % 2 = 0))
  rw [show ((i : Int) + ((j + 1 : Nat) : Int) - 1) = (i : Int) + j by omega]
  rfl
theorem lp_v (m : List (List Int)) (i j : Nat) : ((dsum m (i + 1) j == 0) == (((i : Int) + (j : Int)) % 2 == 0)) = lpC m (.v ((i + 1 : Nat) : Int) j) := by
  rw [par_eq]
  show _ = (decide (dsum m (i + 1) j = 0) == decide ((((i + 1 : Nat) : Int) - 1 + (j : Int)) % 2 = 0))
  rw [show (((i + 1 : Nat) : Int) - 1 + (j : Int)) = (i : Int) + j by omega]
  rfl
section
variable {w w' w0 : World} {n L gA gD N : Nat} {vS : Value} {S : List Int} {vA vD : Nat → Value} {rA rD : Nat → List Bool}
theorem LSt.newD (h : AllR w N (kOf n L gA gD N vS S vA vD rA rD).reg) (hW : Below N w0 w) (hn : n ≤ 7) {i : Nat} (bs : List Bool) (hb : bs = List.replicate n false) :
    LSt w0 ((w.alloc (.cells (madeCells #[.bool false] n) 4)).setCell ⟨gD, i, none⟩ (.slice (some ⟨w.heap.size, 0, none⟩) n n)).drew n L gA gD N vS S rA (at1B rD i bs) := by
  have hN : N ≤ w.heap.size := Nat.le_of_lt (h.lt (x := 0) rfl |>.2) |> Nat.le_trans (h.lt (x := 0) rfl).1
  have ho := own_obj (B := N) (z := 1) (n := n) (heap_alloc_new w (.cells (madeCells #[.bool false] n) 4)) hN (by omega) (by rw [size_madeCells]; simp)
  have e : (madeCells #[Value.bool false] n).toList = bools bs := by rw [hb]; simp [toList_madeCells_one, bools]
  rw [e] at ho
  have hbl : Below w.heap.size w (w.alloc (.cells (madeCells #[.bool false] n) 4)) := (Below.refl _ _).alloc (Nat.le_refl _) _
  refine ⟨vA, at1B vD i (.slice (some ⟨w.heap.size, 0, none⟩) n n), (h.putD (i := i) (by rw [hb]; simp) ho (fun b hlt _ => hbl.block b hlt) (.inr (Nat.le_refl _))).drew, ?_⟩
  exact below_drewN ((hW.alloc hN _).setCell (p := ⟨gD, i, none⟩) (h.lt (x := 2) rfl).1 _) 1
theorem LSt.appA {w6 : World} (h : AllR w N (kOf n L gA gD N vS S vA vD rA rD).reg) (hW : Below N w0 w) {i g c k : Nat} {bs : List Bool} (hk : k = bs.length) (ho : w6.ownsRow N 4 1 (.slice (some ⟨g, 0, none⟩) k c) k (bools bs))
    (hg : w.grownBy w6 (vA i).ownBlock) (hat : (vA i).ownBlock = some g ∨ g = w.heap.size) :
    LSt w0 (w6.setCell ⟨gA, i, none⟩ (.slice (some ⟨g, 0, none⟩) k c)) n L gA gD N vS S (at1B rA i bs) rD := by
  have hN : N ≤ w.heap.size := Nat.le_of_lt (h.lt (x := 0) rfl |>.2) |> Nat.le_trans (h.lt (x := 0) rfl).1
  refine ⟨at1B vA i (.slice (some ⟨g, 0, none⟩) k c), vD, h.putA (i := i) hk ho (fun b hlt hne => hg.block b hlt (fun e => hne e.symm)) (hat.imp id (fun e => by omega)), ?_⟩
  refine (hW.grown hg hN (fun b hb => ?_)).setCell (p := ⟨gA, i, none⟩) (h.lt (x := 1) rfl).1 _
  have := h.lt (x := 2 * i + 5) (b := b) (by rw [LG.regA]; exact hb)
  exact this.1
theorem AllR.grownA {w6 : World} (h : AllR w N (kOf n L gA gD N vS S vA vD rA rD).reg) {i : Nat} (hi : i < n) (hg : w.grownBy w6 (vA i).ownBlock) :
    w6.cell? ⟨L, 0, none⟩ = some (.slice (some ⟨gA, 0, none⟩) n n) ∧ w6.cell? ⟨gA, i, none⟩ = some (vA i) ∧ w6.frozen? ⟨gA, i, none⟩ = false := by
  have hL : some L ≠ (vA i).ownBlock := fun e => h.far 0 (2 * i + 5) (by omega) L rfl (by rw [LG.regA]; exact e.symm)
  have hA : some gA ≠ (vA i).ownBlock := fun e => h.far 1 (2 * i + 5) (by omega) gA rfl (by rw [LG.regA]; exact e.symm)
  refine ⟨hg.cell h.cL.1 hL, hg.cell (h.cellA hi) hA, ?_⟩
  exact (World.frozen?_of_block (a := ⟨gA, i, none⟩) (hg.block gA (h.lt (x := 1) rfl).2 hA)).trans (h.fzA i)
theorem LSt.newS (h : AllR w N (kOf n L gA gD N (.slice none 0 0) [] vA vD rA rD).reg) (hW : Below N w0 w) (hb : Below w.heap.size w w') {S : List Int} {g : Nat} (hg : w.heap.size ≤ g) (hS : n = S.length) (ho : w'.ownsRow N 3 1 (.slice (some ⟨g, 0, none⟩) n n) n (ints S)) :
    LSt w0 w' n L gA gD N (.slice (some ⟨g, 0, none⟩) n n) S rA rD := by
  have hN : N ≤ w.heap.size := Nat.le_of_lt (h.lt (x := 0) rfl |>.2) |> Nat.le_trans (h.lt (x := 0) rfl).1
  refine ⟨vA, vD, h.upd (x := 3) (by subst hS; exact ho) (LG.same (fun _ => rfl) (fun _ => rfl) (fun _ => rfl) (fun h => absurd rfl h) (fun _ => rfl) (fun _ _ => ⟨rfl, rfl⟩) (fun _ _ => ⟨rfl, rfl⟩)) (fun b hlt _ => hb.block b hlt) (fun b e => ?_), hW.trans (hb.mono hN)⟩
  obtain rfl : g = b := by simpa [LG.reg, kOf, Value.ownBlock] using e
  exact .inr hg
end
theorem fA_zero (X : Cf) (n : Nat) : (fun _ => []) = fA X n 0 := by funext i; simp [fA]
theorem fD_zero (X : Cf) (n : Nat) : (fun _ => []) = fD X n 0 := by funext i; simp [fD]
section
variable {w w' w0 : World} {n L gA gD N : Nat} {vS : Value} {S : List Int} {vA vD : Nat → Value} {rA rD : Nat → List Bool}
theorem LSt.ownA (h : AllR w N (kOf n L gA gD N vS S vA vD rA rD).reg) {i : Nat} {bs : List Bool} (hr : rA i = bs) : w.ownsRow N 4 1 (vA i) bs.length (bools bs) := by
  have := h.own (2 * i + 5)
  rw [LG.regA] at this
  subst hr
  exact this
theorem LSt.atD (h : AllR w N (kOf n L gA gD N vS S vA vD rA rD).reg) {i : Nat} (hi : i < n + 1) {bs : List Bool} (hr : rD i = bs) (hb : bs.length = n) (hp : 0 < n) :
    ∃ g c, w.cell? ⟨gD, i, none⟩ = some (.slice (some ⟨g, 0, none⟩) n c) ∧ (∀ j z, bs[j]? = some z → w.cell? ⟨g, j, none⟩ = some (.bool z)) ∧ (∀ j, w.frozen? ⟨g, j, none⟩ = false) ∧
      (∀ j y, AllR (w.setCell ⟨g, j, none⟩ (.bool y)) N (kOf n L gA gD N vS S vA vD rA (at1B rD i (bs.set j y))).reg) ∧ N ≤ g := by
  subst hr
  obtain ⟨g, c, hv, hc, ho, h1, h2⟩ := h.rowD (i := i) hi (by show 0 < (rD i).length; omega)
  have hl : ((kOf n L gA gD N vS S vA vD rA rD).rD i).length = n := hb
  have hv' := hv
  rw [hl] at hc hv'
  refine ⟨g, c, hc, fun j z hz => ownB_get ho hz, fun j => ho.frozenAt j, fun j y => h.inD hv j y, h1⟩
theorem LSt.atS {gS c : Nat} (h : AllR w N (kOf n L gA gD N (.slice (some ⟨gS, 0, none⟩) n c) S vA vD rA rD).reg) (hS : n = S.length) :
    (∀ j z, S[j]? = some z → w.cell? ⟨gS, j, none⟩ = some (.int .i64 z)) ∧ (∀ j, w.frozen? ⟨gS, j, none⟩ = false) ∧
      (∀ j y, AllR (w.setCell ⟨gS, j, none⟩ (.int .i64 y)) N (kOf n L gA gD N (.slice (some ⟨gS, 0, none⟩) n c) (S.set j y) vA vD rA rD).reg) ∧ N ≤ gS := by
  subst hS
  have ho := h.own 3
  refine ⟨fun j z hz => own_get (n := S.length) (c := c) ho hz, fun j => h.fz (x := 3) (c := c) rfl j, fun j y => h.inS (g := gS) (c := c) rfl j y, (h.lt (x := 3) rfl).1⟩
end
def LOut (w : World) (n : Nat) (X : Cf) (e : Ending) (w' : World) : Prop :=
  ∃ K : LG, K.n = n ∧ e = .returned (.agg #[K.A, K.D]) ∧ K.rA = fA X n n ∧ K.rD = fD X n (n + 1) ∧ AllR w' w.heap.size K.reg ∧ Below w.heap.size w w'
theorem AllR.setR {w : World} {B : Nat} {K : LG} (h : AllR w B K.reg) {N n : Nat} (hv : K.vR = .slice (some ⟨N, 0, none⟩) n n) (hn : K.nR = n) (j : Nat) (u : Value) : AllR (w.setCell ⟨N, j, none⟩ u) B (LG.reg { K with cR := K.cR.set j u }) := by
  refine h.set (x := 4) (g := N) (c := n) (by rw [show (K.reg 4).n = K.nR from rfl, hn]; exact hv) j u rfl (fun z hz => ?_)
  rcases reg_cases z with hc | ⟨a, rfl⟩ | ⟨a, rfl⟩
  · match z, hc, hz with
    | 0, _, _ => rfl
    | 1, _, _ => rfl
    | 2, _, _ => rfl
    | 3, _, _ => rfl
    | 4, _, hz => exact absurd rfl hz
  · rw [LG.regA, LG.regA]
  · rw [LG.regD, LG.regD]
theorem LSt.fin {w w0 : World} {n L gA gD N : Nat} {vS : Value} {S : List Int} {vA vD : Nat → Value} {rA rD : Nat → List Bool} (h : AllR w N (kOf n L gA gD N vS S vA vD rA rD).reg) :
    w.cell? ⟨N, 0, none⟩ = some (.slice none 0 0) ∧ w.cell? ⟨N, 1, none⟩ = some (.slice none 0 0) ∧ w.frozen? ⟨N, 0, none⟩ = false ∧ w.frozen? ⟨N, 1, none⟩ = false ∧
      ∀ X, rA = fA X n n → rD = fD X n (n + 1) → Below N w0 w → N = w0.heap.size →
        LOut w0 n X (.returned (.agg #[.slice (some ⟨gA, 0, none⟩) n n, .slice (some ⟨gD, 0, none⟩) (n + 1) (n + 1)])) ((w.setCell ⟨N, 0, none⟩ (.slice (some ⟨gA, 0, none⟩) n n)).setCell ⟨N, 1, none⟩ (.slice (some ⟨gD, 0, none⟩) (n + 1) (n + 1))) ∧
        ((w.setCell ⟨N, 0, none⟩ (.slice (some ⟨gA, 0, none⟩) n n)).setCell ⟨N, 1, none⟩ (.slice (some ⟨gD, 0, none⟩) (n + 1) (n + 1))).cell? ⟨N, 0, none⟩ = some (.slice (some ⟨gA, 0, none⟩) n n) ∧
        ((w.setCell ⟨N, 0, none⟩ (.slice (some ⟨gA, 0, none⟩) n n)).setCell ⟨N, 1, none⟩ (.slice (some ⟨gD, 0, none⟩) (n + 1) (n + 1))).cell? ⟨N, 1, none⟩ = some (.slice (some ⟨gD, 0, none⟩) (n + 1) (n + 1)) := by
  refine ⟨h.cell (x := 4) (c := 1) rfl (by show 0 < 1 * 2; omega) rfl, h.cell (x := 4) (c := 1) rfl (by show 1 < 1 * 2; omega) rfl, h.fz (x := 4) (c := 1) rfl 0, h.fz (x := 4) (c := 1) rfl 1, fun X hA hD hW hN => ?_⟩
  have h1 := h.setR (N := N) (n := 1) rfl rfl 0 (.slice (some ⟨gA, 0, none⟩) n n)
  have h2 := h1.setR (N := N) (n := 1) rfl rfl 1 (.slice (some ⟨gD, 0, none⟩) (n + 1) (n + 1))
  subst hN
  refine ⟨⟨_, rfl, rfl, hA, hD, h2, (hW.setCell (p := ⟨w0.heap.size, 0, none⟩) (Nat.le_refl _) _).setCell (p := ⟨w0.heap.size, 1, none⟩) (Nat.le_refl _) _⟩, h2.cell (x := 4) (c := 1) rfl (by show 0 < 1 * 2; omega) rfl, h2.cell (x := 4) (c := 1) rfl (by show 1 < 1 * 2; omega) rfl⟩
theorem step_app1B {w : World} {base : Nat} {l : List Bool} {v : Value} {ops : Array Oper} {o : Oper} {a : Act} {K : Act → World → Prop} {Q : Exit → Act → World → Prop} {E : Prop} (hgd : o.guard = none) (s x : Operand)
    (ho : o.op = .call { callee := .builtin .append, args := #[s, x], argTypes := #[193, 193] }) (hs : a.eval s = v) (y : Bool) (n : Nat) (g0 : Nat)
    (hx : a.eval x = .slice (some ⟨g0, 0, none⟩) 1 1) (hown : w.ownsRow base 4 1 v n (bools l)) (hlit : w.heap[g0]? = some (.cells #[.bool y] 4)) (hlen : n < 1000000) (hbase : base ≤ w.heap.size)
    (h : ∀ g cap w', w'.ownsRow base 4 1 (.slice (some ⟨g, 0, none⟩) (n + 1) cap) (n + 1) (bools (l ++ [y])) → w.grownBy w' v.ownBlock → (v.ownBlock = some g ∨ g = w.heap.size) → g < w'.heap.size →
      K (a.put o.dst (.slice (some ⟨g, 0, none⟩) (n + 1) cap)) w') :
    if Region.wanted o (yielded ops a.tmps) = true then Oper.wp Tryz.prog o a w K Q else E := by
  obtain ⟨i0, hi, hz0, hz1, hz2⟩ := info_parts Tryz.infoBool
  refine step_append_lies _ hgd s x 193 ho base 4 i0 (.bool false) 1 1 Tryz.underlying193 hi hz0 hz1 hz2 rfl (by decide) v n (bools l) hs hown ⟨g0, 0, none⟩ 1 1 [.bool y] hx rfl (World.news_of_block (cs := #[.bool y]) hlit) (by simp [Value.oneCell']) (by decide)
    (by unfold maxLen; omega) (by omega) hbase _ rfl (fun g cap w' h1 h2 h3 h4 => h g cap w' (by simpa [bools] using h1) h2 h3 h4)
end
end Go.Proofs.YtpmkdihencepnaaGreatDoor
