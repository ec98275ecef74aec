/-
  Plain: the loops of a matrix of alternating signs, the matrix of loops; a gyration face by face.
-/
import Derived.Deep.RegionHeld3
import Derived.Deep.AppendLies
import Derived.Test.YtpmkdihencepnaaMg01
import Derived.Test.YtpmkdihencepnaaMg05
import Derived.Test.YtpmkdihencepnaaMg22
namespace Go.Proofs.Ytpmkdihencepnaa

/-- The loops of a matrix. -/
def lpC (m : List (List Int)) : Cf
  | .h i j => decide (rsum m i.toNat j.toNat = 1) == decide ((i + j - 1) % 2 = 0)
  | .v i j => decide (dsum m i.toNat j.toNat = 0) == decide ((i - 1 + j) % 2 = 0)

theorem two_pure {s0 s1 c0 c1 : Int} {e : Bool} (h : s1 - s0 = c1 - c0) (h0 : 0 ≤ s0 ∧ s0 ≤ 1) (h1 : 0 ≤ s1 ∧ s1 ≤ 1) (h2 : 0 ≤ c0 ∧ c0 ≤ 1) (h3 : 0 ≤ c1 ∧ c1 ≤ 1) :
    Two (decide (s0 = 1) == !e) (decide (c1 = 0) == e) (decide (s1 = 1) == e) (decide (c0 = 0) == !e) := by
  have e0 : s0 = 0 ∨ s0 = 1 := by omega
  have e1 : s1 = 0 ∨ s1 = 1 := by omega
  have e2 : c0 = 0 ∨ c0 = 1 := by omega
  have e3 : c1 = 0 ∨ c1 = 1 := by omega
  rcases e0 with rfl | rfl <;> rcases e1 with rfl | rfl <;> rcases e2 with rfl | rfl <;> rcases e3 with rfl | rfl <;> (first | (exfalso; omega) | (cases e <;> decide))
theorem lp_gdl {m : List (List Int)} {n : Nat} (h : IsSign m n) : GdL n (lpC m) 0 := by
  refine ⟨by have := h.pos; omega, .inl rfl, fun r q hi => ?_, fun k h0 h4 => ?_⟩
  · unfold Ins at hi
    obtain ⟨a, rfl⟩ : ∃ a : Nat, r = a := ⟨r.toNat, by omega⟩
    obtain ⟨b, rfl⟩ : ∃ b : Nat, q = b := ⟨q.toNat, by omega⟩
    have := two_pure (s0 := rsum m a b) (s1 := rsum m a (b + 1)) (c0 := dsum m a b) (c1 := dsum m (a + 1) b) (e := decide (((a : Int) + b) % 2 = 0)) (by rw [rsum_succ, dsum_succ]; omega)
      (h.row a b (by omega) (by omega)) (h.row a (b + 1) (by omega) (by omega)) (h.col a b (by omega) (by omega)) (h.col (a + 1) b (by omega) (by omega))
    have p1 : decide (((a : Int) + b - 1) % 2 = 0) = !decide (((a : Int) + b) % 2 = 0) := by
      by_cases c : ((a : Int) + b) % 2 = 0
      · rw [decide_eq_true c, decide_eq_false (by omega)]; rfl
      · rw [decide_eq_false c, decide_eq_true (by omega)]; rfl
    simp only [lpC]
    rw [show ((a : Int) + ((b : Int) + 1) - 1) = (a : Int) + b by omega, show ((a : Int) + 1 - 1 + b) = (a : Int) + b by omega, show ((a : Int) - 1 + b) = (a : Int) + b - 1 by omega, p1,
      show ((a : Int) + 1).toNat = a + 1 by omega, show ((b : Int) + 1).toNat = b + 1 by omega, Int.toNat_natCast, Int.toNat_natCast]
    exact this
  · have hn := h.pos
    by_cases c1 : k < n
    · rw [outer_h0 c1]
      simp only [lpC]
      rw [show rsum m k.toNat (0 : Int).toNat = 0 from rfl, show decide ((0 : Int) = 1) = false from rfl]
      by_cases c : k % 2 = 0
      · rw [decide_eq_true c, decide_eq_false (by omega)]; rfl
      · rw [decide_eq_false c, decide_eq_true (by omega)]; rfl
    · by_cases c2 : k < 2 * n
      · have e := outer_vn (n := (n : Int)) (j := k - n) (by omega) (by omega)
        rw [show (n : Int) + (k - n) = k by omega] at e
        rw [e]
        simp only [lpC]
        rw [Int.toNat_natCast, h.col1 _ (by omega), show decide ((1 : Int) = 0) = false from rfl]
        by_cases c : k % 2 = 0
        · rw [decide_eq_true c, decide_eq_false (by omega)]; rfl
        · rw [decide_eq_false c, decide_eq_true (by omega)]; rfl
      · by_cases c3 : k < 3 * n
        · have e := outer_hn (n := (n : Int)) (i := 3 * n - 1 - k) (by omega) (by omega)
          rw [show 3 * (n : Int) - 1 - (3 * n - 1 - k) = k by omega] at e
          rw [e]
          simp only [lpC]
          rw [Int.toNat_natCast, h.row1 _ (by omega), show decide ((1 : Int) = 1) = true from rfl]
          by_cases c : k % 2 = 0
          · rw [decide_eq_true c, decide_eq_true (by omega)]; rfl
          · rw [decide_eq_false c, decide_eq_false (by omega)]; rfl
        · have e := outer_v0 (n := (n : Int)) (j := 4 * n - 1 - k) (by omega) (by omega)
          rw [show 4 * (n : Int) - 1 - (4 * n - 1 - k) = k by omega] at e
          rw [e]
          simp only [lpC]
          rw [show dsum m (0 : Int).toNat (4 * (n : Int) - 1 - k).toNat = 0 from rfl, show decide ((0 : Int) = 0) = true from rfl]
          by_cases c : k % 2 = 0
          · rw [decide_eq_true c, decide_eq_true (by omega)]; rfl
          · rw [decide_eq_false c, decide_eq_false (by omega)]; rfl

/-- What stands so far in a row, told by its lines; likewise in a column. -/
def sOf (Y : Cf) (i j : Nat) : Int := if Y (.h i j) = decide (((i : Int) + j - 1) % 2 = 0) then 1 else 0
def matRow (n : Nat) (Y : Cf) (i : Nat) : List Int := (List.range n).map (fun j => sOf Y i (j + 1) - sOf Y i j)
def matOf (n : Nat) (Y : Cf) : List (List Int) := (List.range n).map (matRow n Y)
section
variable {n : Nat} {Y : Cf}
theorem sOf_zero (hY : GdL n Y 0) {i : Nat} (hi : i < n) : sOf Y i 0 = 0 := by
  have := hY.bnd i (by omega) (by omega)
  rw [outer_h0 (by omega)] at this
  unfold sOf
  rw [show (((0 : Nat) : Int)) = 0 from rfl, this]
  by_cases c : (i : Int) % 2 = 0
  · rw [decide_eq_true c, decide_eq_false (by omega)]; rfl
  · rw [decide_eq_false c, decide_eq_true (by omega)]; rfl
end

/-! Only the edges that there are count. -/
section
variable {n s : Int} {X Y : Cf}
theorem box_is {r q : Int} (hi : Ins n r q) : Is n (.h r q) ∧ Is n (.v (r + 1) q) ∧ Is n (.h r (q + 1)) ∧ Is n (.v r q) := by
  unfold Ins at hi; simp only [Is]; omega
theorem nx_same (h : ∀ e, Is n e → X e = Y e) {d : Dt} (hi : Ins n d.r d.q) : nx X d = nx Y d := by
  obtain ⟨a, b, c, e⟩ := box_is hi
  have : wyAt X d.r d.q d.c = wyAt Y d.r d.q d.c := by unfold wyAt; rw [h _ a, h _ b, h _ c, h _ e]
  unfold nx
  rw [this]
theorem it_same (h : ∀ e, Is n e → X e = Y e) {d : Dt} : ∀ M, (∀ t, t < M → Ins n (it X d t).r (it X d t).q) → it X d M = it Y d M
  | 0, _ => rfl
  | M + 1, hi => by
    change nx X (it X d M) = nx Y (it Y d M)
    rw [nx_same h (hi M (by omega)), it_same h M (fun t ht => hi t (by omega))]
theorem Lnk.same (h : ∀ e, Is n e → X e = Y e) {k k' : Int} (hL : Lnk n X k k') : Lnk n Y k k' := by
  obtain ⟨M, ⟨h1, h2⟩, e⟩ := hL
  have hs : ∀ t, t ≤ M → it X (gin n k) t = it Y (gin n k) t := fun t ht => it_same h t (fun u hu => h1 u (by omega))
  refine ⟨M, ⟨fun t ht => ?_, ?_⟩, ?_⟩
  · rw [← hs t (by omega)]; exact h1 t ht
  · rw [← hs M (Nat.le_refl _)]; exact h2
  · rw [← hs M (Nat.le_refl _)]; exact e

/-! Face by face. -/

/-- The faces before (a, b) are done. -/
def prog (n p : Int) (X : Cf) (a b : Int) : Cf := fun e => if fcR p e < a ∨ (fcR p e = a ∧ fcQ p e < b) then gy n p X e else X e
variable {p : Int}
theorem fc_par (hp : p = 0 ∨ p = 1) (e : Ed) : (fcR p e + fcQ p e) % 2 = p := by
  cases e <;> simp only [fcR, fcQ] <;> split <;> omega
theorem gy_noalt {e : Ed} (h : alt n X (fcR p e) (fcQ p e) = false) : gy n p X e = X e := by unfold gy; rw [h]; rfl
theorem prog_start : prog n p X 0 0 = X := by
  funext e
  unfold prog
  split
  · exact gy_noalt (alt_edge (by omega))
  · rfl
theorem prog_end : prog n p X (n - 1) 0 = gy n p X := by
  funext e
  unfold prog
  split
  · rfl
  · exact (gy_noalt (alt_edge (by omega))).symm
theorem prog_row {a : Int} : prog n p X a (n - 1) = prog n p X (a + 1) 0 := by
  funext e
  unfold prog
  by_cases c : fcR p e < a ∨ (fcR p e = a ∧ fcQ p e < n - 1)
  · rw [if_pos c, if_pos (by omega)]
  · rw [if_neg c]
    split
    · exact (gy_noalt (alt_edge (by omega))).symm
    · rfl
theorem prog_skip (hp : p = 0 ∨ p = 1) {a b : Int} (h : (a + b) % 2 ≠ p) : prog n p X a (b + 1) = prog n p X a b := by
  funext e
  have := fc_par hp e
  unfold prog
  by_cases c : fcR p e < a ∨ (fcR p e = a ∧ fcQ p e < b)
  · rw [if_pos c, if_pos (by omega)]
  · rw [if_neg c, if_neg (fun c2 => c (by
      rcases c2 with c2 | ⟨c2, c3⟩
      · exact .inl c2
      · right
        refine ⟨c2, ?_⟩
        rcases Int.lt_or_le (fcQ p e) b with c4 | c4
        · exact c4
        · exfalso
          have e1 : fcQ p e = b := by omega
          rw [c2, e1] at this
          exact h this))]
/-- The four edges of a face. -/
def four (a b : Int) (e : Ed) : Prop := e = .h a (b + 1) ∨ e = .h (a + 1) (b + 1) ∨ e = .v (a + 1) b ∨ e = .v (a + 1) (b + 1)
theorem fc_four (_ : p = 0 ∨ p = 1) {a b : Int} (h : (a + b) % 2 = p) (e : Ed) : (fcR p e = a ∧ fcQ p e = b) ↔ four a b e := by
  unfold four
  cases e with
  | h i j =>
    simp only [fcR, fcQ, Ed.h.injEq, reduceCtorEq, or_false]
    split <;> omega
  | v i j =>
    simp only [fcR, fcQ, Ed.v.injEq, reduceCtorEq, false_or]
    split <;> omega
theorem prog_four (hp : p = 0 ∨ p = 1) {a b : Int} (h : (a + b) % 2 = p) {e : Ed} (he : four a b e) : prog n p X a b e = X e := by
  have := (fc_four hp h e).2 he
  unfold prog
  rw [if_neg (by omega)]
/-- A face by turns: its four edges are turned overB. -/
theorem prog_turn (hp : p = 0 ∨ p = 1) {a b : Int} (h : (a + b) % 2 = p) (ha : alt n X a b = true) (e : Ed) :
    (four a b e → prog n p X a (b + 1) e = !prog n p X a b e) ∧ (¬ four a b e → prog n p X a (b + 1) e = prog n p X a b e) := by
  constructor
  · intro he
    obtain ⟨e1, e2⟩ := (fc_four hp h e).2 he
    rw [prog_four hp h he]
    unfold prog gy
    rw [if_pos (by omega), e1, e2, ha]
    rfl
  · intro he
    have e3 : ¬ (fcR p e = a ∧ fcQ p e = b) := fun c => he ((fc_four hp h e).1 c)
    unfold prog
    by_cases c : fcR p e < a ∨ (fcR p e = a ∧ fcQ p e < b)
    · rw [if_pos c, if_pos (by omega)]
    · rw [if_neg c, if_neg (by omega)]
theorem prog_stay (hp : p = 0 ∨ p = 1) {a b : Int} (h : (a + b) % 2 = p) (ha : alt n X a b = false) : prog n p X a (b + 1) = prog n p X a b := by
  funext e
  by_cases he : four a b e
  · obtain ⟨e1, e2⟩ := (fc_four hp h e).2 he
    rw [prog_four hp h he]
    unfold prog
    rw [if_pos (by omega)]
    exact gy_noalt (by rw [e1, e2]; exact ha)
  · have e3 : ¬ (fcR p e = a ∧ fcQ p e = b) := fun c => he ((fc_four hp h e).1 c)
    unfold prog
    by_cases c : fcR p e < a ∨ (fcR p e = a ∧ fcQ p e < b)
    · rw [if_pos c, if_pos (by omega)]
    · rw [if_neg c, if_neg (by omega)]
end

/-- The matrix gyrated. -/
def gyrM (m : List (List Int)) : List (List Int) := matOf m.length (gyr m.length (lpC m))
theorem gyr_gdl {m : List (List Int)} (h : IsSign m m.length) : GdL m.length (gyr m.length (lpC m)) 0 := by
  have h1 := half_gdl (p := 0) (lp_gdl h) (.inl rfl)
  have h2 := half_gdl (p := 1) h1 (.inr rfl)
  rw [gyr_half]
  exact h2
end Go.Proofs.Ytpmkdihencepnaa

/-
  Many regions that a call owns, all apart; rows of lines of a matrix' loops.
-/
namespace Go.Proofs.Ytpmkdihencepnaa
open Go.RowKit

/-- A region: what it holds, where. -/
structure Reg where
  e : TypeId
  z : Nat
  v : Value
  n : Nat
  cs : List Value
def Reg.ok (w : World) (B : Nat) (r : Reg) : Prop := w.ownsRow B r.e r.z r.v r.n r.cs
def Reg.none (e : TypeId) : Reg := ⟨e, 1, .slice Option.none 0 0, 0, []⟩
/-- All regions are owned, and apart. -/
structure AllR (w : World) (B : Nat) (R : Nat → Reg) : Prop where
  own : ∀ x, (R x).ok w B
  far : ∀ x y, x ≠ y → Far (R x).v (R y).v

theorem own_eq {w w' : World} {base n k : Nat} {e : TypeId} {v : Value} {cs : List Value} (h : w.ownsRow base e k v n cs) (hk : ∀ b, v.ownBlock = some b → w'.heap[b]? = w.heap[b]?) : w'.ownsRow base e k v n cs := by
  refine ⟨h.1, ?_⟩
  rcases h.2 with hn | ⟨g, cap, cur, e1, hg, hh, rest⟩
  · exact .inl hn
  · exact .inr ⟨g, cap, cur, e1, hg, (hk g (by rw [e1]; rfl)).trans hh, rest⟩

section
variable {w w' : World} {B : Nat} {R R' : Nat → Reg}
theorem AllR.keep (h : AllR w B R) (hk : ∀ x b, (R x).v.ownBlock = some b → w'.heap[b]? = w.heap[b]?) : AllR w' B R :=
  ⟨fun x => own_eq (h.own x) (hk x), h.far⟩
theorem AllR.lt (h : AllR w B R) {x b : Nat} (hb : (R x).v.ownBlock = some b) : B ≤ b ∧ b < w.heap.size := (h.own x).lt b hb
theorem AllR.below (h : AllR w B R) (hb : Below w.heap.size w w') : AllR w' B R :=
  h.keep fun _ b e => hb.block b (h.lt e).2
theorem AllR.drewN (h : AllR w B R) (k : Nat) : AllR (w.drewN k) B R := ⟨h.own, h.far⟩
theorem AllR.drew (h : AllR w B R) : AllR w.drew B R := ⟨h.own, h.far⟩
theorem AllR.alloc (h : AllR w B R) (o : Obj) : AllR (w.alloc o) B R := h.below ((Below.refl _ _).alloc (Nat.le_refl _) o)
theorem AllR.base (h : AllR w B R) {B' : Nat} (hB : B' ≤ B) : AllR w B' R := ⟨fun x => (h.own x).mono hB, h.far⟩
/-- One region turned. -/
theorem AllR.upd (h : AllR w B R) {x : Nat} (ho : (R' x).ok w' B) (he : ∀ y, y ≠ x → R' y = R y) (hk : ∀ b, b < w.heap.size → (R x).v.ownBlock ≠ some b → w'.heap[b]? = w.heap[b]?)
    (hat : ∀ b, (R' x).v.ownBlock = some b → (R x).v.ownBlock = some b ∨ w.heap.size ≤ b) : AllR w' B R' := by
  have hfar : ∀ y, y ≠ x → Far (R' x).v (R y).v := fun y hy b h1 h2 => by
    rcases hat b h1 with e | e
    · exact h.far x y (Ne.symm hy) b e h2
    · have := (h.lt h2).2; omega
  refine ⟨fun y => ?_, fun y z hyz => ?_⟩
  · by_cases e : y = x
    · subst e; exact ho
    · rw [he y e]
      exact own_eq (h.own y) fun b hb => hk b (h.lt hb).2 fun hx => h.far y x e b hb hx
  · by_cases e : y = x
    · subst e
      rw [he z (Ne.symm hyz)]; exact hfar z (Ne.symm hyz)
    · by_cases e2 : z = x
      · subst e2
        rw [he y e]; exact (hfar y e).symm
      · rw [he y e, he z e2]; exact h.far y z hyz
/-- A store into one region. -/
theorem AllR.set (h : AllR w B R) {x g c : Nat} (hv : (R x).v = .slice (some ⟨g, 0, none⟩) (R x).n c) (j : Nat) (u : Value) (hx : R' x = ⟨(R x).e, (R x).z, (R x).v, (R x).n, (R x).cs.set j u⟩) (he : ∀ y, y ≠ x → R' y = R y) : AllR (w.setCell ⟨g, j, none⟩ u) B R' := by
  have ho := h.own x
  unfold Reg.ok at ho
  refine h.upd (x := x) ?_ he (fun b hb hne => ?_) (fun b hb => .inl ?_)
  · rw [hx]
    unfold Reg.ok
    simp only
    rw [hv] at ho ⊢
    exact (ho.stored j u).1
  · have : g ≠ b := fun e => hne (by rw [hv, ← e]; rfl)
    simp [World.setCell, Array.getElem?_modify, this]
  · rw [hx] at hb; exact hb
theorem AllR.cell (h : AllR w B R) {x g c : Nat} (hv : (R x).v = .slice (some ⟨g, 0, none⟩) (R x).n c) {j : Nat} {u : Value} (hj : j < (R x).n * (R x).z) (hu : (R x).cs[j]? = some u) : w.cell? ⟨g, j, none⟩ = some u := by
  have ho := h.own x
  unfold Reg.ok at ho
  rw [hv] at ho
  rw [ho.cellAt j hj]; exact hu
theorem AllR.fz (h : AllR w B R) {x g c : Nat} (hv : (R x).v = .slice (some ⟨g, 0, none⟩) (R x).n c) (j : Nat) : w.frozen? ⟨g, j, none⟩ = false := by
  have ho := h.own x
  unfold Reg.ok at ho
  rw [hv] at ho
  exact ho.frozenAt j
end

/-! The lines of a matrix' loops. -/

/-- Where they lie, and what their rows hold. -/
structure LG where
  n : Nat
  L : Nat
  gA : Nat
  gD : Nat
  vS : Value
  S : List Int
  vR : Value
  nR : Nat
  cR : List Value
  vA : Nat → Value
  vD : Nat → Value
  rA : Nat → List Bool
  rD : Nat → List Bool
def LG.A (K : LG) : Value := .slice (some ⟨K.gA, 0, none⟩) K.n K.n
def LG.D (K : LG) : Value := .slice (some ⟨K.gD, 0, none⟩) (K.n + 1) (K.n + 1)
def LG.reg (K : LG) : Nat → Reg
  | 0 => ⟨63, 2, .slice (some ⟨K.L, 0, none⟩) 1 1, 1, [K.A, K.D]⟩
  | 1 => ⟨66, 1, K.A, K.n, (List.range K.n).map K.vA⟩
  | 2 => ⟨66, 1, K.D, K.n + 1, (List.range (K.n + 1)).map K.vD⟩
  | 3 => ⟨3, 1, K.vS, K.S.length, ints K.S⟩
  | 4 => ⟨63, 2, K.vR, K.nR, K.cR⟩
  | k + 5 => if k % 2 = 0 then ⟨4, 1, K.vA (k / 2), (K.rA (k / 2)).length, bools (K.rA (k / 2))⟩ else ⟨4, 1, K.vD (k / 2), (K.rD (k / 2)).length, bools (K.rD (k / 2))⟩
theorem LG.regA (K : LG) (i : Nat) : K.reg (2 * i + 5) = ⟨4, 1, K.vA i, (K.rA i).length, bools (K.rA i)⟩ := by
  show (if (2 * i) % 2 = 0 then _ else _) = _
  rw [if_pos (by omega), show 2 * i / 2 = i by omega]
theorem LG.regD (K : LG) (i : Nat) : K.reg (2 * i + 6) = ⟨4, 1, K.vD i, (K.rD i).length, bools (K.rD i)⟩ := by
  show (if (2 * i + 1) % 2 = 0 then _ else _) = _
  rw [if_neg (by omega), show (2 * i + 1) / 2 = i by omega]
/-- Which region a number names. -/
theorem reg_cases (x : Nat) : x < 5 ∨ (∃ i, x = 2 * i + 5) ∨ (∃ i, x = 2 * i + 6) := by
  by_cases h : x < 5
  · exact .inl h
  · by_cases h2 : (x - 5) % 2 = 0
    · exact .inr (.inl ⟨(x - 5) / 2, by omega⟩)
    · exact .inr (.inr ⟨(x - 6) / 2, by omega⟩)
/-- Two states that differ at most where named. -/
theorem LG.same {K K' : LG} {x : Nat} (h0 : x ≠ 0 → K'.reg 0 = K.reg 0) (h1 : x ≠ 1 → K'.reg 1 = K.reg 1) (h2 : x ≠ 2 → K'.reg 2 = K.reg 2) (h3 : x ≠ 3 → K'.reg 3 = K.reg 3) (h4 : x ≠ 4 → K'.reg 4 = K.reg 4)
    (hA : ∀ i, x ≠ 2 * i + 5 → K'.vA i = K.vA i ∧ K'.rA i = K.rA i) (hD : ∀ i, x ≠ 2 * i + 6 → K'.vD i = K.vD i ∧ K'.rD i = K.rD i) : ∀ y, y ≠ x → K'.reg y = K.reg y := by
  intro y hy
  rcases reg_cases y with h | ⟨i, rfl⟩ | ⟨i, rfl⟩
  · match y, h with
    | 0, _ => exact h0 (Ne.symm hy)
    | 1, _ => exact h1 (Ne.symm hy)
    | 2, _ => exact h2 (Ne.symm hy)
    | 3, _ => exact h3 (Ne.symm hy)
    | 4, _ => exact h4 (Ne.symm hy)
  · rw [K.regA, K'.regA, (hA i (Ne.symm hy)).1, (hA i (Ne.symm hy)).2]
  · rw [K.regD, K'.regD, (hD i (Ne.symm hy)).1, (hD i (Ne.symm hy)).2]

/-- A function changed at one place. -/
def at1B {α : Type} (f : Nat → α) (i : Nat) (y : α) : Nat → α := fun x => if x = i then y else f x
theorem at1_self {α : Type} (f : Nat → α) (i : Nat) (y : α) : at1B f i y i = y := if_pos rfl
theorem at1_ne {α : Type} (f : Nat → α) {i x : Nat} (y : α) (h : x ≠ i) : at1B f i y x = f x := if_neg h
theorem at1_map {α : Type} (f : Nat → α) (n i : Nat) (y : α) : (List.range n).map (at1B f i y) = ((List.range n).map f).set i y := by
  apply List.ext_getElem (by simp)
  intro a h1 h2
  rw [List.getElem_set]
  simp only [List.getElem_map, List.getElem_range]
  by_cases e : i = a
  · subst e; rw [if_pos rfl, at1_self]
  · rw [if_neg e, at1_ne _ _ (fun h => e h.symm)]

section
variable {w w' : World} {B : Nat} {K : LG}

/-- A row of A laid in or grown: its new block, then the cell that names it. -/
theorem AllR.putA (h : AllR w B K.reg) {i g c m : Nat} {bs : List Bool} (hm : m = bs.length) (ho : w'.ownsRow B 4 1 (.slice (some ⟨g, 0, none⟩) m c) m (bools bs))
    (hk : ∀ b, b < w.heap.size → (K.vA i).ownBlock ≠ some b → w'.heap[b]? = w.heap[b]?) (hat : (K.vA i).ownBlock = some g ∨ w.heap.size ≤ g) :
    AllR (w'.setCell ⟨K.gA, i, none⟩ (.slice (some ⟨g, 0, none⟩) m c)) B (LG.reg { K with vA := at1B K.vA i (.slice (some ⟨g, 0, none⟩) m c), rA := at1B K.rA i bs }) := by
  subst hm
  have h1 : AllR w' B (fun y => if y = 2 * i + 5 then ⟨4, 1, .slice (some ⟨g, 0, none⟩) bs.length c, bs.length, bools bs⟩ else K.reg y) := by
    refine h.upd (x := 2 * i + 5) ?_ (fun y hy => if_neg hy) (fun b hb hne => hk b hb ?_) (fun b hb => ?_)
    · show Reg.ok w' B (if 2 * i + 5 = 2 * i + 5 then _ else _)
      rw [if_pos rfl]
      exact ho
    · rw [K.regA] at hne; exact hne
    · rw [if_pos rfl] at hb
      obtain rfl : g = b := by simpa [Value.ownBlock] using hb
      rw [K.regA]; exact hat
  refine h1.set (x := 1) (g := K.gA) (c := K.n) (by rw [if_neg (by omega)]; rfl) i _ ?_ (fun y hy => ?_)
  · rw [if_neg (by omega)]
    show Reg.mk _ _ _ _ ((List.range K.n).map (at1B K.vA i _)) = _
    rw [at1_map]; rfl
  · rcases reg_cases y with hc | ⟨a, rfl⟩ | ⟨a, rfl⟩
    · rw [if_neg (by omega)]
      match y, hc, hy with
      | 0, _, _ => rfl
      | 1, _, hy => first | rfl | exact absurd rfl hy
      | 2, _, hy => first | rfl | exact absurd rfl hy
      | 3, _, _ => rfl
      | 4, _, _ => rfl
    · rw [LG.regA]
      by_cases e : a = i
      · subst e
        rw [if_pos rfl]; simp only [at1_self]
      · rw [if_neg (by omega), LG.regA]; simp only [at1_ne _ _ e]
    · rw [LG.regD]
      rw [if_neg (by omega), LG.regD]
/-- A cell of a row of A turned. -/
theorem AllR.inA (h : AllR w B K.reg) {i g c : Nat} (hv : K.vA i = .slice (some ⟨g, 0, none⟩) (K.rA i).length c) (j : Nat) (y : Bool) :
    AllR (w.setCell ⟨g, j, none⟩ (.bool y)) B (LG.reg { K with rA := at1B K.rA i ((K.rA i).set j y) }) := by
  refine h.set (x := 2 * i + 5) (g := g) (c := c) (by rw [K.regA]; exact hv) j _ ?_ (fun z hz => ?_)
  · rw [LG.regA, K.regA]
    simp only [at1_self, List.length_set]
    congr 1
    simp [bools, List.map_set]
  · rcases reg_cases z with hc | ⟨a, rfl⟩ | ⟨a, rfl⟩
    · match z, hc with
      | 0, _ => rfl
      | 1, _ => rfl
      | 2, _ => rfl
      | 3, _ => rfl
      | 4, _ => rfl
    · rw [LG.regA, LG.regA]
      have e : a ≠ i := fun e => hz (by rw [e])
      simp only [at1_ne _ _ e]
    · rw [LG.regD, LG.regD]
      skip
theorem AllR.rowA (h : AllR w B K.reg) {i : Nat} (hi : i < K.n) (hp : 0 < (K.rA i).length) : ∃ g c, K.vA i = .slice (some ⟨g, 0, none⟩) (K.rA i).length c ∧ w.cell? ⟨K.gA, i, none⟩ = some (.slice (some ⟨g, 0, none⟩) (K.rA i).length c) ∧
    w.ownsRow B 4 1 (.slice (some ⟨g, 0, none⟩) (K.rA i).length c) (K.rA i).length (bools (K.rA i)) ∧ B ≤ g ∧ g < w.heap.size := by
  have ho := h.own (2 * i + 5)
  rw [K.regA] at ho
  unfold Reg.ok at ho
  obtain ⟨g, c, e, h1, h2⟩ := ho.form hp
  simp only at e
  refine ⟨g, c, e, ?_, by rw [← e]; exact ho, h1, h2⟩
  exact h.cell (x := 1) (c := K.n) rfl (by show i < K.n * 1; omega) (by
    show ((List.range K.n).map K.vA)[i]? = _
    simp [hi, e])

/-- A row of D laid in or grown: its new block, then the cell that names it. -/
theorem AllR.putD (h : AllR w B K.reg) {i g c m : Nat} {bs : List Bool} (hm : m = bs.length) (ho : w'.ownsRow B 4 1 (.slice (some ⟨g, 0, none⟩) m c) m (bools bs))
    (hk : ∀ b, b < w.heap.size → (K.vD i).ownBlock ≠ some b → w'.heap[b]? = w.heap[b]?) (hat : (K.vD i).ownBlock = some g ∨ w.heap.size ≤ g) :
    AllR (w'.setCell ⟨K.gD, i, none⟩ (.slice (some ⟨g, 0, none⟩) m c)) B (LG.reg { K with vD := at1B K.vD i (.slice (some ⟨g, 0, none⟩) m c), rD := at1B K.rD i bs }) := by
  subst hm
  have h1 : AllR w' B (fun y => if y = 2 * i + 6 then ⟨4, 1, .slice (some ⟨g, 0, none⟩) bs.length c, bs.length, bools bs⟩ else K.reg y) := by
    refine h.upd (x := 2 * i + 6) ?_ (fun y hy => if_neg hy) (fun b hb hne => hk b hb ?_) (fun b hb => ?_)
    · show Reg.ok w' B (if 2 * i + 6 = 2 * i + 6 then _ else _)
      rw [if_pos rfl]
      exact ho
    · rw [K.regD] at hne; exact hne
    · rw [if_pos rfl] at hb
      obtain rfl : g = b := by simpa [Value.ownBlock] using hb
      rw [K.regD]; exact hat
  refine h1.set (x := 2) (g := K.gD) (c := (K.n + 1)) (by rw [if_neg (by omega)]; rfl) i _ ?_ (fun y hy => ?_)
  · rw [if_neg (by omega)]
    show Reg.mk _ _ _ _ ((List.range (K.n + 1)).map (at1B K.vD i _)) = _
    rw [at1_map]; rfl
  · rcases reg_cases y with hc | ⟨a, rfl⟩ | ⟨a, rfl⟩
    · rw [if_neg (by omega)]
      match y, hc, hy with
      | 0, _, _ => rfl
      | 1, _, hy => first | rfl | exact absurd rfl hy
      | 2, _, hy => first | rfl | exact absurd rfl hy
      | 3, _, _ => rfl
      | 4, _, _ => rfl
    · rw [LG.regA]
      rw [if_neg (by omega), LG.regA]
    · rw [LG.regD]
      by_cases e : a = i
      · subst e
        rw [if_pos rfl]; simp only [at1_self]
      · rw [if_neg (by omega), LG.regD]; simp only [at1_ne _ _ e]
/-- A cell of a row of D turned. -/
theorem AllR.inD (h : AllR w B K.reg) {i g c : Nat} (hv : K.vD i = .slice (some ⟨g, 0, none⟩) (K.rD i).length c) (j : Nat) (y : Bool) :
    AllR (w.setCell ⟨g, j, none⟩ (.bool y)) B (LG.reg { K with rD := at1B K.rD i ((K.rD i).set j y) }) := by
  refine h.set (x := 2 * i + 6) (g := g) (c := c) (by rw [K.regD]; exact hv) j _ ?_ (fun z hz => ?_)
  · rw [LG.regD, K.regD]
    simp only [at1_self, List.length_set]
    congr 1
    simp [bools, List.map_set]
  · rcases reg_cases z with hc | ⟨a, rfl⟩ | ⟨a, rfl⟩
    · match z, hc with
      | 0, _ => rfl
      | 1, _ => rfl
      | 2, _ => rfl
      | 3, _ => rfl
      | 4, _ => rfl
    · rw [LG.regA, LG.regA]
      skip
    · rw [LG.regD, LG.regD]
      have e : a ≠ i := fun e => hz (by rw [e])
      simp only [at1_ne _ _ e]
theorem AllR.rowD (h : AllR w B K.reg) {i : Nat} (hi : i < (K.n + 1)) (hp : 0 < (K.rD i).length) : ∃ g c, K.vD i = .slice (some ⟨g, 0, none⟩) (K.rD i).length c ∧ w.cell? ⟨K.gD, i, none⟩ = some (.slice (some ⟨g, 0, none⟩) (K.rD i).length c) ∧
    w.ownsRow B 4 1 (.slice (some ⟨g, 0, none⟩) (K.rD i).length c) (K.rD i).length (bools (K.rD i)) ∧ B ≤ g ∧ g < w.heap.size := by
  have ho := h.own (2 * i + 6)
  rw [K.regD] at ho
  unfold Reg.ok at ho
  obtain ⟨g, c, e, h1, h2⟩ := ho.form hp
  simp only at e
  refine ⟨g, c, e, ?_, by rw [← e]; exact ho, h1, h2⟩
  exact h.cell (x := 2) (c := (K.n + 1)) rfl (by show i < (K.n + 1) * 1; omega) (by
    show ((List.range (K.n + 1)).map K.vD)[i]? = _
    simp [hi, e])

/-- A sum turned. -/
theorem AllR.inS (h : AllR w B K.reg) {g c : Nat} (hv : K.vS = .slice (some ⟨g, 0, none⟩) K.S.length c) (j : Nat) (y : Int) : AllR (w.setCell ⟨g, j, none⟩ (.int .i64 y)) B (LG.reg { K with S := K.S.set j y }) := by
  refine h.set (x := 3) (g := g) (c := c) hv j _ ?_ (fun z hz => ?_)
  · show Reg.mk _ _ _ (K.S.set j y).length (ints (K.S.set j y)) = Reg.mk _ _ _ K.S.length ((ints K.S).set j _)
    rw [List.length_set]
    congr 1
    simp [ints, List.map_set]
  · rcases reg_cases z with hc | ⟨a, rfl⟩ | ⟨a, rfl⟩
    · match z, hc, hz with
      | 0, _, _ => rfl
      | 1, _, _ => rfl
      | 2, _, _ => rfl
      | 3, _, hz => exact absurd rfl hz
      | 4, _, _ => rfl
    · rw [LG.regA, LG.regA]
    · rw [LG.regD, LG.regD]
theorem AllR.cL (h : AllR w B K.reg) : w.cell? ⟨K.L, 0, none⟩ = some K.A ∧ w.cell? ⟨K.L, 1, none⟩ = some K.D :=
  ⟨h.cell (x := 0) (c := 1) rfl (by show 0 < 1 * 2; omega) rfl, h.cell (x := 0) (c := 1) rfl (by show 1 < 1 * 2; omega) rfl⟩
theorem AllR.fzA (h : AllR w B K.reg) (j : Nat) : w.frozen? ⟨K.gA, j, none⟩ = false := h.fz (x := 1) (c := K.n) rfl j
theorem AllR.fzD (h : AllR w B K.reg) (j : Nat) : w.frozen? ⟨K.gD, j, none⟩ = false := h.fz (x := 2) (c := K.n + 1) rfl j
theorem AllR.cellA (h : AllR w B K.reg) {i : Nat} (hi : i < K.n) : w.cell? ⟨K.gA, i, none⟩ = some (K.vA i) :=
  h.cell (x := 1) (c := K.n) rfl (by show i < K.n * 1; omega) (by show ((List.range K.n).map K.vA)[i]? = _; simp [hi])
theorem AllR.cellD (h : AllR w B K.reg) {i : Nat} (hi : i < K.n + 1) : w.cell? ⟨K.gD, i, none⟩ = some (K.vD i) :=
  h.cell (x := 2) (c := K.n + 1) rfl (by show i < (K.n + 1) * 1; omega) (by show ((List.range (K.n + 1)).map K.vD)[i]? = _; simp [hi])
theorem own_obj {g n z : Nat} {cur : Array Value} {e : TypeId} (hh : w.heap[g]? = some (.cells cur e)) (hB : B ≤ g) (hn : n ≤ 1000000) (hs : cur.size = n * z) : w.ownsRow B e z (.slice (some ⟨g, 0, none⟩) n n) n cur.toList :=
  ⟨by simpa using hs, .inr ⟨g, n, cur, rfl, hB, hh, Nat.le_refl _, by unfold maxLen; omega, hs, List.take_of_length_le (by rw [Array.length_toList, hs]; exact Nat.le_refl _)⟩⟩
end
end Go.Proofs.Ytpmkdihencepnaa

/-
  How things lie while the lines of a matrix' loops are drawn.
-/
namespace Go.Proofs.Ytpmkdihencepnaa
open Go.RowKit

theorem Try.infoSliceB : (Try.prog.info? 66).map (fun i => (i.zero, i.size, i.bytes)) = some (some (.slice none 0 0), 1, 24) := by kernel_rfl

def rowA (X : Cf) (n i : Nat) : List Bool := (List.range (n + 1)).map (fun j : Nat => X (.h i j))
def rowD (X : Cf) (n i : Nat) : List Bool := (List.range n).map (fun j : Nat => X (.v i j))
def fA (X : Cf) (n a : Nat) : Nat → List Bool := fun i => if i < a then rowA X n i else []
def fD (X : Cf) (n a : Nat) : Nat → List Bool := fun i => if i < a then rowD X n i else []
def mixD (X : Cf) (n i k : Nat) : List Bool := (List.range n).map (fun j : Nat => decide (j < k) && X (.v i j))
theorem mixD_length (X : Cf) (n i k : Nat) : (mixD X n i k).length = n := by simp [mixD]
theorem mixD_zero (X : Cf) (n i : Nat) : List.replicate n false = mixD X n i 0 := by
  apply List.ext_getElem (by simp [mixD])
  intro a h1 h2; simp [mixD]
theorem mixD_set {X : Cf} {n i k : Nat} : (mixD X n i k).set k (X (.v i k)) = mixD X n i (k + 1) := by
  apply List.ext_getElem (by simp [mixD])
  intro a h1 h2
  rw [List.getElem_set]
  simp only [mixD, List.getElem_map, List.getElem_range]
  by_cases e : k = a
  · subst e; simp
  · rw [if_neg e]
    congr 1
    by_cases c : a < k
    · rw [decide_eq_true c, decide_eq_true (by omega)]
    · rw [decide_eq_false c, decide_eq_false (by omega)]
theorem mixD_full (X : Cf) (n i : Nat) : mixD X n i n = rowD X n i := by
  unfold mixD rowD
  refine List.map_congr_left (fun j hj => ?_)
  rw [decide_eq_true (List.mem_range.1 hj)]; rfl
theorem fD_next (X : Cf) (n a : Nat) : at1B (fD X n a) a (mixD X n a n) = fD X n (a + 1) := by
  funext i
  unfold at1B fD
  by_cases e : i = a
  · subst e; rw [if_pos rfl, if_pos (by omega), mixD_full]
  · rw [if_neg e]
    by_cases c : i < a
    · rw [if_pos c, if_pos (by omega)]
    · rw [if_neg c, if_neg (by omega)]
theorem fA_next (X : Cf) (n a : Nat) : at1B (fA X n a) a ((rowA X n a).take (n + 1)) = fA X n (a + 1) := by
  funext i
  unfold at1B fA
  by_cases e : i = a
  · subst e; rw [if_pos rfl, if_pos (by omega), List.take_of_length_le (by simp [rowA])]
  · rw [if_neg e]
    by_cases c : i < a
    · rw [if_pos c, if_pos (by omega)]
    · rw [if_neg c, if_neg (by omega)]
theorem rowA_take {X : Cf} {n i k : Nat} (hk : k < n + 1) : (rowA X n i).take k ++ [X (.h i k)] = (rowA X n i).take (k + 1) := by
  rw [take_snoc (by simp [rowA]; omega)]
  simp [rowA]
theorem at1_at1 {α : Type} (f : Nat → α) (i : Nat) (x y : α) : at1B (at1B f i x) i y = at1B f i y := by
  funext a
  unfold at1B
  by_cases e : a = i <;> simp [e]

/-- How things lie while the lines are drawn. -/
def kOf (n L gA gD N : Nat) (vS : Value) (S : List Int) (vA vD : Nat → Value) (rA rD : Nat → List Bool) : LG :=
  ⟨n, L, gA, gD, vS, S, .slice (some ⟨N, 0, none⟩) 1 1, 1, [.slice none 0 0, .slice none 0 0], vA, vD, rA, rD⟩
def LSt (w0 wz : World) (n L gA gD N : Nat) (vS : Value) (S : List Int) (rA rD : Nat → List Bool) : Prop :=
  ∃ vA vD, AllR wz N (kOf n L gA gD N vS S vA vD rA rD).reg ∧ Below N w0 wz

theorem rep_map (n : Nat) (v : Value) : (List.range n).map (fun _ => v) = List.replicate n v := by simp [List.map_const']
theorem two_bools (n : Nat) : (madeCells #[Value.slice none 0 0] n).toList = List.replicate n (.slice none 0 0) ∧ (madeCells #[Value.slice none 0 0] n).size = n * 1 := by
  constructor
  · simp [toList_madeCells_one]
  · rw [size_madeCells]; simp
/-- The three blocks and the result's, whatever their order. -/
theorem LSt.start {w0 wz : World} {n L gA gD N : Nat} (hn : n ≤ 7) (h0 : wz.heap[N]? = some (.cells #[.slice none 0 0, .slice none 0 0] 63))
    (h1 : wz.heap[L]? = some (.cells #[.slice (some ⟨gA, 0, none⟩) n n, .slice (some ⟨gD, 0, none⟩) (n + 1) (n + 1)] 63))
    (h2 : wz.heap[gA]? = some (.cells (madeCells #[.slice none 0 0] n) 66)) (h3 : wz.heap[gD]? = some (.cells (madeCells #[.slice none 0 0] (n + 1)) 66))
    (b1 : N < L) (b2 : N < gA) (b3 : N < gD) (d1 : L ≠ gA) (d2 : L ≠ gD) (d3 : gA ≠ gD) (hb : Below N w0 wz) :
    LSt w0 wz n L gA gD N (.slice none 0 0) [] (fun _ => []) (fun _ => []) := by
  refine ⟨fun _ => .slice none 0 0, fun _ => .slice none 0 0, ⟨fun x => ?_, fun x y hxy k hk1 hk2 => ?_⟩, hb⟩
  · rcases reg_cases x with h | ⟨i, rfl⟩ | ⟨i, rfl⟩
    · match x, h with
      | 0, _ => exact own_obj (n := 1) (z := 2) h1 (Nat.le_of_lt b1) (by omega) rfl
      | 1, _ =>
        have := own_obj (B := N) (z := 1) (n := n) h2 (by omega) (by omega) (two_bools n).2
        rw [(two_bools n).1] at this
        rw [← rep_map] at this
        exact this
      | 2, _ =>
        have := own_obj (B := N) (z := 1) (n := n + 1) h3 (by omega) (by omega) (two_bools (n + 1)).2
        rw [(two_bools (n + 1)).1] at this
        rw [← rep_map] at this
        exact this
      | 3, _ => exact World.ownsRow_nil _ _ _ _
      | 4, _ => exact own_obj (n := 1) (z := 2) h0 (Nat.le_refl _) (by omega) rfl
    · rw [LG.regA]; exact World.ownsRow_nil _ _ _ _
    · rw [LG.regD]; exact World.ownsRow_nil _ _ _ _
  · have key : ∀ x k, ((kOf n L gA gD N (.slice none 0 0) [] (fun _ => .slice none 0 0) (fun _ => .slice none 0 0) (fun _ => []) (fun _ => [])).reg x).v.ownBlock = some k → (x = 0 ∧ k = L) ∨ (x = 1 ∧ k = gA) ∨ (x = 2 ∧ k = gD) ∨ (x = 4 ∧ k = N) := by
      intro x k hk
      rcases reg_cases x with h | ⟨i, rfl⟩ | ⟨i, rfl⟩
      · match x, h, hk with
        | 0, _, hk => obtain rfl : L = k := by simpa [LG.reg, kOf, Value.ownBlock] using hk
                      exact .inl ⟨rfl, rfl⟩
        | 1, _, hk => obtain rfl : gA = k := by simpa [LG.reg, LG.A, kOf, Value.ownBlock] using hk
                      exact .inr (.inl ⟨rfl, rfl⟩)
        | 2, _, hk => obtain rfl : gD = k := by simpa [LG.reg, LG.D, kOf, Value.ownBlock] using hk
                      exact .inr (.inr (.inl ⟨rfl, rfl⟩))
        | 3, _, hk => simp [LG.reg, kOf, Value.ownBlock] at hk
        | 4, _, hk => obtain rfl : N = k := by simpa [LG.reg, kOf, Value.ownBlock] using hk
                      exact .inr (.inr (.inr ⟨rfl, rfl⟩))
      · rw [LG.regA] at hk; simp [kOf, Value.ownBlock] at hk
      · rw [LG.regD] at hk; simp [kOf, Value.ownBlock] at hk
    have e1 := key x k hk1
    have e2 := key y k hk2
    omega


theorem four_laid (w : World) (o0 o1 o2 o3 : Obj) : ((((w.alloc o0).alloc o1).alloc o2).alloc o3).heap[w.heap.size]? = some o0 ∧ ((((w.alloc o0).alloc o1).alloc o2).alloc o3).heap[w.heap.size + 1]? = some o1 ∧
    ((((w.alloc o0).alloc o1).alloc o2).alloc o3).heap[w.heap.size + 1 + 1]? = some o2 ∧ ((((w.alloc o0).alloc o1).alloc o2).alloc o3).heap[w.heap.size + 1 + 1 + 1]? = some o3 ∧ Below w.heap.size w ((((w.alloc o0).alloc o1).alloc o2).alloc o3) := by
  have s1 : (w.alloc o0).heap.size = w.heap.size + 1 := by simp
  have s2 : ((w.alloc o0).alloc o1).heap.size = w.heap.size + 1 + 1 := by simp
  have s3 : (((w.alloc o0).alloc o1).alloc o2).heap.size = w.heap.size + 1 + 1 + 1 := by simp
  have a0 := heap_alloc_new w o0
  have a1 := heap_alloc_new (w.alloc o0) o1
  have a2 := heap_alloc_new ((w.alloc o0).alloc o1) o2
  have a3 := heap_alloc_new (((w.alloc o0).alloc o1).alloc o2) o3
  rw [s1] at a1
  rw [s2] at a2
  rw [s3] at a3
  refine ⟨?_, ?_, ?_, a3, ((((Below.refl _ _).alloc (Nat.le_refl _) _).alloc (by omega) _).alloc (by omega) _).alloc (by omega) _⟩
  · rw [heap_alloc_old _ _ (by omega), heap_alloc_old _ _ (by omega), heap_alloc_old _ _ (by omega)]; exact a0
  · rw [heap_alloc_old _ _ (by omega), heap_alloc_old _ _ (by omega)]; exact a1
  · rw [heap_alloc_old _ _ (by omega)]; exact a2


/-! What the walk reckons is what stands in the lines. -/
theorem par_eq (i : Int) (b : Int) : (i % 2 == b) = decide (i % 2 = b) := rfl
theorem lp_top (m : List (List Int)) (k : Nat) : ((k : Int) % 2 == 1) = lpC m (.v ((0 : Nat) : Int) k) := by
  rw [par_eq]
  show _ = (decide ((0 : Int) = 0) == decide ((0 - 1 + (k : Int)) % 2 = 0))
  by_cases c : (k : Int) % 2 = 1
  · rw [decide_eq_true c, decide_eq_true (p := (0 - 1 + (k : Int)) % 2 = 0) (by omega)]; rfl
  · rw [decide_eq_false c, decide_eq_false (p := (0 - 1 + (k : Int)) % 2 = 0) (by omega)]; rfl
theorem lp_left (m : List (List Int)) (i : Nat) : ((i : Int) % 2 == 0) = lpC m (.h i ((0 : Nat) : Int)) := by
  rw [par_eq]
  show _ = (decide ((0 : Int) = 1) == decide (((i : Int) + 0 - 1) % 2 = 0))
  by_cases c : (i : Int) % 2 = 0
  · rw [decide_eq_true c, decide_eq_false (p := ((i : Int) + 0 - 1) % 2 = 0) (by omega)]; rfl
  · rw [decide_eq_false c, decide_eq_true (p := ((i : Int) + 0 - 1) % 2 = 0) (by omega)]; rfl
theorem lp_h (m : List (List Int)) (i j : Nat) : ((rsum m i (j + 1) == 1) == (((i : Int) + (j : Int)) % 2 == 0)) = lpC m (.h i ((j + 1 : Nat) : Int)) := by
  rw [par_eq]
  show _ = (decide (rsum m i (j + 1) = 1) == decide (((i : Int) + ((j + 1 : Nat) : Int) - 1) % 2 = 0))
  rw [show ((i : Int) + ((j + 1 : Nat) : Int) - 1) = (i : Int) + j by omega]
  rfl
theorem lp_v (m : List (List Int)) (i j : Nat) : ((dsum m (i + 1) j == 0) == (((i : Int) + (j : Int)) % 2 == 0)) = lpC m (.v ((i + 1 : Nat) : Int) j) := by
  rw [par_eq]
  show _ = (decide (dsum m (i + 1) j = 0) == decide ((((i + 1 : Nat) : Int) - 1 + (j : Int)) % 2 = 0))
  rw [show (((i + 1 : Nat) : Int) - 1 + (j : Int)) = (i : Int) + j by omega]
  rfl

section
variable {w w' w0 : World} {n L gA gD N : Nat} {vS : Value} {S : List Int} {vA vD : Nat → Value} {rA rD : Nat → List Bool}
/-- A row of D laid in, new. -/
theorem LSt.newD (h : AllR w N (kOf n L gA gD N vS S vA vD rA rD).reg) (hW : Below N w0 w) (hn : n ≤ 7) {i : Nat} (bs : List Bool) (hb : bs = List.replicate n false) :
    LSt w0 ((w.alloc (.cells (madeCells #[.bool false] n) 4)).setCell ⟨gD, i, none⟩ (.slice (some ⟨w.heap.size, 0, none⟩) n n)).drew n L gA gD N vS S rA (at1B rD i bs) := by
  have hN : N ≤ w.heap.size := Nat.le_of_lt (h.lt (x := 0) rfl |>.2) |> Nat.le_trans (h.lt (x := 0) rfl).1
  have ho := own_obj (B := N) (z := 1) (n := n) (heap_alloc_new w (.cells (madeCells #[.bool false] n) 4)) hN (by omega) (by rw [size_madeCells]; simp)
  have e : (madeCells #[Value.bool false] n).toList = bools bs := by rw [hb]; simp [toList_madeCells_one, bools]
  rw [e] at ho
  have hbl : Below w.heap.size w (w.alloc (.cells (madeCells #[.bool false] n) 4)) := (Below.refl _ _).alloc (Nat.le_refl _) _
  refine ⟨vA, at1B vD i (.slice (some ⟨w.heap.size, 0, none⟩) n n), (h.putD (i := i) (by rw [hb]; simp) ho (fun b hlt _ => hbl.block b hlt) (.inr (Nat.le_refl _))).drew, ?_⟩
  exact below_drewN ((hW.alloc hN _).setCell (p := ⟨gD, i, none⟩) (h.lt (x := 2) rfl).1 _) 1
/-- A row of A grown by one. -/
theorem LSt.appA {w6 : World} (h : AllR w N (kOf n L gA gD N vS S vA vD rA rD).reg) (hW : Below N w0 w) {i g c k : Nat} {bs : List Bool} (hk : k = bs.length) (ho : w6.ownsRow N 4 1 (.slice (some ⟨g, 0, none⟩) k c) k (bools bs))
    (hg : w.grownBy w6 (vA i).ownBlock) (hat : (vA i).ownBlock = some g ∨ g = w.heap.size) :
    LSt w0 (w6.setCell ⟨gA, i, none⟩ (.slice (some ⟨g, 0, none⟩) k c)) n L gA gD N vS S (at1B rA i bs) rD := by
  have hN : N ≤ w.heap.size := Nat.le_of_lt (h.lt (x := 0) rfl |>.2) |> Nat.le_trans (h.lt (x := 0) rfl).1
  refine ⟨at1B vA i (.slice (some ⟨g, 0, none⟩) k c), vD, h.putA (i := i) hk ho (fun b hlt hne => hg.block b hlt (fun e => hne e.symm)) (hat.imp id (fun e => by omega)), ?_⟩
  refine (hW.grown hg hN (fun b hb => ?_)).setCell (p := ⟨gA, i, none⟩) (h.lt (x := 1) rfl).1 _
  have := h.lt (x := 2 * i + 5) (b := b) (by rw [LG.regA]; exact hb)
  exact this.1
/-- What a grown row leaves. -/
theorem AllR.grownA {w6 : World} (h : AllR w N (kOf n L gA gD N vS S vA vD rA rD).reg) {i : Nat} (hi : i < n) (hg : w.grownBy w6 (vA i).ownBlock) :
    w6.cell? ⟨L, 0, none⟩ = some (.slice (some ⟨gA, 0, none⟩) n n) ∧ w6.cell? ⟨gA, i, none⟩ = some (vA i) ∧ w6.frozen? ⟨gA, i, none⟩ = false := by
  have hL : some L ≠ (vA i).ownBlock := fun e => h.far 0 (2 * i + 5) (by omega) L rfl (by rw [LG.regA]; exact e.symm)
  have hA : some gA ≠ (vA i).ownBlock := fun e => h.far 1 (2 * i + 5) (by omega) gA rfl (by rw [LG.regA]; exact e.symm)
  refine ⟨hg.cell h.cL.1 hL, hg.cell (h.cellA hi) hA, ?_⟩
  exact (World.frozen?_of_block (a := ⟨gA, i, none⟩) (hg.block gA (h.lt (x := 1) rfl).2 hA)).trans (h.fzA i)
/-- The sums laid. -/
theorem LSt.newS (h : AllR w N (kOf n L gA gD N (.slice none 0 0) [] vA vD rA rD).reg) (hW : Below N w0 w) (hb : Below w.heap.size w w') {S : List Int} {g : Nat} (hg : w.heap.size ≤ g) (hS : n = S.length) (ho : w'.ownsRow N 3 1 (.slice (some ⟨g, 0, none⟩) n n) n (ints S)) :
    LSt w0 w' n L gA gD N (.slice (some ⟨g, 0, none⟩) n n) S rA rD := by
  have hN : N ≤ w.heap.size := Nat.le_of_lt (h.lt (x := 0) rfl |>.2) |> Nat.le_trans (h.lt (x := 0) rfl).1
  refine ⟨vA, vD, h.upd (x := 3) (by subst hS; exact ho) (LG.same (fun _ => rfl) (fun _ => rfl) (fun _ => rfl) (fun h => absurd rfl h) (fun _ => rfl) (fun _ _ => ⟨rfl, rfl⟩) (fun _ _ => ⟨rfl, rfl⟩)) (fun b hlt _ => hb.block b hlt) (fun b e => ?_), hW.trans (hb.mono hN)⟩
  obtain rfl : g = b := by simpa [LG.reg, kOf, Value.ownBlock] using e
  exact .inr hg
end

theorem fA_zero (X : Cf) (n : Nat) : (fun _ => []) = fA X n 0 := by funext i; simp [fA]
theorem fD_zero (X : Cf) (n : Nat) : (fun _ => []) = fD X n 0 := by funext i; simp [fD]
section
variable {w w' w0 : World} {n L gA gD N : Nat} {vS : Value} {S : List Int} {vA vD : Nat → Value} {rA rD : Nat → List Bool}
theorem LSt.ownA (h : AllR w N (kOf n L gA gD N vS S vA vD rA rD).reg) {i : Nat} {bs : List Bool} (hr : rA i = bs) : w.ownsRow N 4 1 (vA i) bs.length (bools bs) := by
  have := h.own (2 * i + 5)
  rw [LG.regA] at this
  subst hr
  exact this
/-- A row of D as it stands. -/
theorem LSt.atD (h : AllR w N (kOf n L gA gD N vS S vA vD rA rD).reg) {i : Nat} (hi : i < n + 1) {bs : List Bool} (hr : rD i = bs) (hb : bs.length = n) (hp : 0 < n) :
    ∃ g c, w.cell? ⟨gD, i, none⟩ = some (.slice (some ⟨g, 0, none⟩) n c) ∧ (∀ j z, bs[j]? = some z → w.cell? ⟨g, j, none⟩ = some (.bool z)) ∧ (∀ j, w.frozen? ⟨g, j, none⟩ = false) ∧
      (∀ j y, AllR (w.setCell ⟨g, j, none⟩ (.bool y)) N (kOf n L gA gD N vS S vA vD rA (at1B rD i (bs.set j y))).reg) ∧ N ≤ g := by
  subst hr
  obtain ⟨g, c, hv, hc, ho, h1, h2⟩ := h.rowD (i := i) hi (by show 0 < (rD i).length; omega)
  have hl : ((kOf n L gA gD N vS S vA vD rA rD).rD i).length = n := hb
  have hv' := hv
  rw [hl] at hc hv'
  refine ⟨g, c, hc, fun j z hz => ownB_get ho hz, fun j => ho.frozenAt j, fun j y => h.inD hv j y, h1⟩
/-- The sums as they stand. -/
theorem LSt.atS {gS c : Nat} (h : AllR w N (kOf n L gA gD N (.slice (some ⟨gS, 0, none⟩) n c) S vA vD rA rD).reg) (hS : n = S.length) :
    (∀ j z, S[j]? = some z → w.cell? ⟨gS, j, none⟩ = some (.int .i64 z)) ∧ (∀ j, w.frozen? ⟨gS, j, none⟩ = false) ∧
      (∀ j y, AllR (w.setCell ⟨gS, j, none⟩ (.int .i64 y)) N (kOf n L gA gD N (.slice (some ⟨gS, 0, none⟩) n c) (S.set j y) vA vD rA rD).reg) ∧ N ≤ gS := by
  subst hS
  have ho := h.own 3
  refine ⟨fun j z hz => own_get (n := S.length) (c := c) ho hz, fun j => h.fz (x := 3) (c := c) rfl j, fun j y => h.inS (g := gS) (c := c) rfl j y, (h.lt (x := 3) rfl).1⟩
end

/-- What loops answers: its two slices, in regions of the call's own. -/
def LOut (w : World) (n : Nat) (X : Cf) (e : Ending) (w' : World) : Prop :=
  ∃ K : LG, K.n = n ∧ e = .returned (.agg #[K.A, K.D]) ∧ K.rA = fA X n n ∧ K.rD = fD X n (n + 1) ∧ AllR w' w.heap.size K.reg ∧ Below w.heap.size w w'
theorem AllR.setR {w : World} {B : Nat} {K : LG} (h : AllR w B K.reg) {N n : Nat} (hv : K.vR = .slice (some ⟨N, 0, none⟩) n n) (hn : K.nR = n) (j : Nat) (u : Value) : AllR (w.setCell ⟨N, j, none⟩ u) B (LG.reg { K with cR := K.cR.set j u }) := by
  refine h.set (x := 4) (g := N) (c := n) (by rw [show (K.reg 4).n = K.nR from rfl, hn]; exact hv) j u rfl (fun z hz => ?_)
  rcases reg_cases z with hc | ⟨a, rfl⟩ | ⟨a, rfl⟩
  · match z, hc, hz with
    | 0, _, _ => rfl
    | 1, _, _ => rfl
    | 2, _, _ => rfl
    | 3, _, _ => rfl
    | 4, _, hz => exact absurd rfl hz
  · rw [LG.regA, LG.regA]
  · rw [LG.regD, LG.regD]
theorem LSt.fin {w w0 : World} {n L gA gD N : Nat} {vS : Value} {S : List Int} {vA vD : Nat → Value} {rA rD : Nat → List Bool} (h : AllR w N (kOf n L gA gD N vS S vA vD rA rD).reg) :
    w.cell? ⟨N, 0, none⟩ = some (.slice none 0 0) ∧ w.cell? ⟨N, 1, none⟩ = some (.slice none 0 0) ∧ w.frozen? ⟨N, 0, none⟩ = false ∧ w.frozen? ⟨N, 1, none⟩ = false ∧
      ∀ X, rA = fA X n n → rD = fD X n (n + 1) → Below N w0 w → N = w0.heap.size →
        LOut w0 n X (.returned (.agg #[.slice (some ⟨gA, 0, none⟩) n n, .slice (some ⟨gD, 0, none⟩) (n + 1) (n + 1)])) ((w.setCell ⟨N, 0, none⟩ (.slice (some ⟨gA, 0, none⟩) n n)).setCell ⟨N, 1, none⟩ (.slice (some ⟨gD, 0, none⟩) (n + 1) (n + 1))) ∧
        ((w.setCell ⟨N, 0, none⟩ (.slice (some ⟨gA, 0, none⟩) n n)).setCell ⟨N, 1, none⟩ (.slice (some ⟨gD, 0, none⟩) (n + 1) (n + 1))).cell? ⟨N, 0, none⟩ = some (.slice (some ⟨gA, 0, none⟩) n n) ∧
        ((w.setCell ⟨N, 0, none⟩ (.slice (some ⟨gA, 0, none⟩) n n)).setCell ⟨N, 1, none⟩ (.slice (some ⟨gD, 0, none⟩) (n + 1) (n + 1))).cell? ⟨N, 1, none⟩ = some (.slice (some ⟨gD, 0, none⟩) (n + 1) (n + 1)) := by
  refine ⟨h.cell (x := 4) (c := 1) rfl (by show 0 < 1 * 2; omega) rfl, h.cell (x := 4) (c := 1) rfl (by show 1 < 1 * 2; omega) rfl, h.fz (x := 4) (c := 1) rfl 0, h.fz (x := 4) (c := 1) rfl 1, fun X hA hD hW hN => ?_⟩
  have h1 := h.setR (N := N) (n := 1) rfl rfl 0 (.slice (some ⟨gA, 0, none⟩) n n)
  have h2 := h1.setR (N := N) (n := 1) rfl rfl 1 (.slice (some ⟨gD, 0, none⟩) (n + 1) (n + 1))
  subst hN
  refine ⟨⟨_, rfl, rfl, hA, hD, h2, (hW.setCell (p := ⟨w0.heap.size, 0, none⟩) (Nat.le_refl _) _).setCell (p := ⟨w0.heap.size, 1, none⟩) (Nat.le_refl _) _⟩, h2.cell (x := 4) (c := 1) rfl (by show 0 < 1 * 2; omega) rfl, h2.cell (x := 4) (c := 1) rfl (by show 1 < 1 * 2; omega) rfl⟩

/-- 'append(v, x)' of one bool at a step of a region that draws: x was laid in a block of its own. -/
theorem step_app1B {w : World} {base : Nat} {l : List Bool} {v : Value} {ops : Array Oper} {o : Oper} {a : Act} {K : Act → World → Prop} {Q : Exit → Act → World → Prop} {E : Prop} (hgd : o.guard = none) (s x : Operand)
    (ho : o.op = .call { callee := .builtin .append, args := #[s, x], argTypes := #[66, 66] }) (hs : a.eval s = v) (y : Bool) (n : Nat) (g0 : Nat)
    (hx : a.eval x = .slice (some ⟨g0, 0, none⟩) 1 1) (hown : w.ownsRow base 4 1 v n (bools l)) (hlit : w.heap[g0]? = some (.cells #[.bool y] 4)) (hlen : n < 1000000) (hbase : base ≤ w.heap.size)
    (h : ∀ g cap w', w'.ownsRow base 4 1 (.slice (some ⟨g, 0, none⟩) (n + 1) cap) (n + 1) (bools (l ++ [y])) → w.grownBy w' v.ownBlock → (v.ownBlock = some g ∨ g = w.heap.size) → g < w'.heap.size →
      K (a.put o.dst (.slice (some ⟨g, 0, none⟩) (n + 1) cap)) w') :
    if Region.wanted o (yielded ops a.tmps) = true then Oper.wp Try.prog o a w K Q else E := by
  obtain ⟨i0, hi, hz0, hz1, hz2⟩ := info_parts Try.infoBool
  refine step_append_lies _ hgd s x 66 ho base 4 i0 (.bool false) 1 1 Try.underlying66 hi hz0 hz1 hz2 rfl (by decide) v n (bools l) hs hown ⟨g0, 0, none⟩ 1 1 [.bool y] hx rfl (World.news_of_block (cs := #[.bool y]) hlit) (by simp [Value.oneCell']) (by decide)
    (by unfold maxLen; omega) (by omega) hbase _ rfl (fun g cap w' h1 h2 h3 h4 => h g cap w' (by simpa [bools] using h1) h2 h3 h4)
end Go.Proofs.Ytpmkdihencepnaa

/-
  What links reads: the lines as they lie; the way that the code picks; the answers.
-/
namespace Go.Proofs.Ytpmkdihencepnaa
open Go.RowKit

theorem cell_stay {w w' : World} {a : Addr} {v : Value} (hb : Below w.heap.size w w') (h : w.cell? a = some v) : w'.cell? a = some v := (hb.cell (World.block_lt_of_cell? w a h)).trans h
/-- Lines that can be read. -/
structure LR (w : World) (B gA gD n : Nat) (X : Cf) : Prop where
  a : ∀ i, i < n → ∃ g c, w.cell? ⟨gA, i, none⟩ = some (.slice (some ⟨g, 0, none⟩) (n + 1) c) ∧ (∀ j, j < n + 1 → w.cell? ⟨g, j, none⟩ = some (.bool (X (.h i j)))) ∧ g < B
  d : ∀ i, i < n + 1 → ∃ g c, w.cell? ⟨gD, i, none⟩ = some (.slice (some ⟨g, 0, none⟩) n c) ∧ (∀ j, j < n → w.cell? ⟨g, j, none⟩ = some (.bool (X (.v i j)))) ∧ g < B
  ltA : gA < B
  ltD : gD < B
section
variable {w w' : World} {B gA gD n : Nat} {X : Cf}
theorem LR.below (h : LR w B gA gD n X) (hb : Below B w w') : LR w' B gA gD n X := by
  refine ⟨fun i hi => ?_, fun i hi => ?_, h.ltA, h.ltD⟩
  · obtain ⟨g, c, h1, h2, h3⟩ := h.a i hi
    exact ⟨g, c, (hb.cell (p := ⟨gA, i, none⟩) h.ltA).trans h1, fun j hj => (hb.cell (p := ⟨g, j, none⟩) h3).trans (h2 j hj), h3⟩
  · obtain ⟨g, c, h1, h2, h3⟩ := h.d i hi
    exact ⟨g, c, (hb.cell (p := ⟨gD, i, none⟩) h.ltD).trans h1, fun j hj => (hb.cell (p := ⟨g, j, none⟩) h3).trans (h2 j hj), h3⟩
theorem AllR.lr {K : LG} (h : AllR w B K.reg) {X : Cf} (h1 : 1 ≤ K.n) (hA : K.rA = fA X K.n K.n) (hD : K.rD = fD X K.n (K.n + 1)) : LR w w.heap.size K.gA K.gD K.n X := by
  refine ⟨fun i hi => ?_, fun i hi => ?_, (h.lt (x := 1) rfl).2, (h.lt (x := 2) rfl).2⟩
  · have e : K.rA i = Go.Proofs.Ytpmkdihencepnaa.rowA X K.n i := by rw [hA]; exact if_pos hi
    have hl : (K.rA i).length = K.n + 1 := by rw [e]; simp [Go.Proofs.Ytpmkdihencepnaa.rowA]
    obtain ⟨g, c, _, hc, ho, _, hlt⟩ := h.rowA hi (by omega)
    rw [hl] at hc
    refine ⟨g, c, hc, fun j hj => ownB_get ho ?_, hlt⟩
    rw [e]; simp [Go.Proofs.Ytpmkdihencepnaa.rowA, hj]
  · have e : K.rD i = Go.Proofs.Ytpmkdihencepnaa.rowD X K.n i := by rw [hD]; exact if_pos hi
    have hl : (K.rD i).length = K.n := by rw [e]; simp [Go.Proofs.Ytpmkdihencepnaa.rowD]
    obtain ⟨g, c, _, hc, ho, _, hlt⟩ := h.rowD hi (by omega)
    rw [hl] at hc
    refine ⟨g, c, hc, fun j hj => ownB_get ho ?_, hlt⟩
    rw [e]; simp [Go.Proofs.Ytpmkdihencepnaa.rowD, hj]
end

/-- The way that the code has picked behind u looks. -/
def wayTo (b0 b1 b2 b3 : Bool) (c : Nat) : Nat → Int
  | 0 => -1
  | u + 1 => if (pick b0 b1 b2 b3 u && decide (u ≠ c)) = true then (u : Int) else wayTo b0 b1 b2 b3 c u
theorem wayTo_four : ∀ b0 b1 b2 b3 : Bool, ∀ c : Fin 4, Two b0 b1 b2 b3 → pick b0 b1 b2 b3 c = true → wayTo b0 b1 b2 b3 c 4 = wy b0 b1 b2 b3 c := by decide

/-- What links answers. -/
def LinkOk (n : Nat) (X : Cf) (f : Nat → Int) : Prop := ∀ e : Nat, e < 2 * n → 0 ≤ f e ∧ f e < 2 * n ∧ Lnk n X (2 * (e : Int)) (2 * f e)
theorem link_ok {n : Nat} {X : Cf} (hX : GdL n X 0) : ∃ f, LinkOk n X f := by
  have h : ∀ e : Nat, ∃ x : Int, e < 2 * n → 0 ≤ x ∧ x < 2 * n ∧ Lnk n X (2 * (e : Int)) (2 * x) := by
    intro e
    by_cases he : e < 2 * n
    · obtain ⟨k, hk⟩ := Lnk.any hX (k := 2 * (e : Int)) (by omega) (by omega) (by omega)
      obtain ⟨a, b, c⟩ := hk.end_ hX (by omega) (by omega) (by omega)
      exact ⟨k / 2, fun _ => ⟨by omega, by omega, by rw [show 2 * (k / 2) = k by omega]; exact hk⟩⟩
    · exact ⟨0, fun h => absurd h he⟩
  exact ⟨fun e => Classical.choose (h e), fun e he => Classical.choose_spec (h e) he⟩

/-- One look at a box. -/
theorem box_way {n : Nat} {X : Cf} (hX : GdL n X 0) {d : Dt} (h : On n X d) :
    wayTo (X (.h d.r d.q)) (X (.v (d.r + 1) d.q)) (X (.h d.r (d.q + 1))) (X (.v d.r d.q)) d.c 4 = wyAt X d.r d.q d.c ∧ wyAt X d.r d.q d.c < 4 := by
  have hw := hX.way h.ins h.c4 h.on
  refine ⟨?_, hw.1⟩
  have ho := h.on
  unfold ed at ho
  rw [edAt_pick X] at ho
  exact wayTo_four _ _ _ _ ⟨d.c, h.c4⟩ (hX.two _ _ h.ins) ho
theorem lit_four (w : World) (x0 x1 x2 x3 : Bool) (t : TypeId) {u : Nat} (hu : u < 4) : (w.alloc (.cells #[.bool x0, .bool x1, .bool x2, .bool x3] t)).drew.cell? ⟨w.heap.size, u, none⟩ = some (.bool (pick x0 x1 x2 x3 u)) := by
  rcases lt4 hu with rfl | rfl | rfl | rfl
  · show World.cell? (w.alloc _) _ = _; rw [World.cell?_alloc_at _ _ _ _ rfl]; rfl
  · show World.cell? (w.alloc _) _ = _; rw [World.cell?_alloc_at _ _ _ _ rfl]; rfl
  · show World.cell? (w.alloc _) _ = _; rw [World.cell?_alloc_at _ _ _ _ rfl]; rfl
  · show World.cell? (w.alloc _) _ = _; rw [World.cell?_alloc_at _ _ _ _ rfl]; rfl
/-- One step of the look. -/
theorem wayTo_hit {x0 x1 x2 x3 : Bool} {c u : Nat} (h1 : pick x0 x1 x2 x3 u = true) (h2 : u ≠ c) : wayTo x0 x1 x2 x3 c (u + 1) = u := by
  show (if (pick x0 x1 x2 x3 u && decide (u ≠ c)) = true then (u : Int) else wayTo x0 x1 x2 x3 c u) = u
  rw [h1, decide_eq_true h2]; rfl
theorem wayTo_miss {x0 x1 x2 x3 : Bool} {c u : Nat} (h : pick x0 x1 x2 x3 u = false ∨ u = c) : wayTo x0 x1 x2 x3 c (u + 1) = wayTo x0 x1 x2 x3 c u := by
  show (if (pick x0 x1 x2 x3 u && decide (u ≠ c)) = true then (u : Int) else wayTo x0 x1 x2 x3 c u) = _
  rcases h with h | h
  · rw [h]; rfl
  · rw [decide_eq_false (by omega), Bool.and_false]; rfl
end Go.Proofs.Ytpmkdihencepnaa

/-
  What a gyration does to the lines as they lie; the rows of the matrix read back.
-/
namespace Go.Proofs.Ytpmkdihencepnaa
open Go.RowKit

/-- The state of a gyration: where all lies is K's, the rows are those of Y. -/
def LG.wears (K : LG) (Y : Cf) : LG := { K with rA := fA Y K.n K.n, rD := fD Y K.n (K.n + 1) }
theorem rowA_get {Y : Cf} {n i j : Nat} (h : j < n + 1) : (rowA Y n i)[j]? = some (Y (.h i j)) := by simp [rowA, h]
theorem rowD_get {Y : Cf} {n i j : Nat} (h : j < n) : (rowD Y n i)[j]? = some (Y (.v i j)) := by simp [rowD, h]
theorem rowA_flip {Y Y' : Cf} {n i k : Nat} {b : Bool} (h1 : Y' (.h i k) = b) (h2 : ∀ x : Nat, x ≠ k → Y' (.h i x) = Y (.h i x)) : (rowA Y n i).set k b = rowA Y' n i := by
  apply List.ext_getElem (by simp [rowA])
  intro x g1 g2
  rw [List.getElem_set]
  simp only [rowA, List.getElem_map, List.getElem_range]
  by_cases e : k = x
  · subst e; rw [if_pos rfl]; exact h1.symm
  · rw [if_neg e]; exact (h2 x (fun h => e h.symm)).symm
theorem rowA_same {Y Y' : Cf} {n i : Nat} (h : ∀ x : Nat, Y' (.h i x) = Y (.h i x)) : rowA Y' n i = rowA Y n i := List.map_congr_left (fun x _ => h x)
theorem rowD_same {Y Y' : Cf} {n i : Nat} (h : ∀ x : Nat, Y' (.v i x) = Y (.v i x)) : rowD Y' n i = rowD Y n i := List.map_congr_left (fun x _ => h x)
theorem rowD_flip {Y Y' : Cf} {n i k : Nat} {b c : Bool} (h1 : Y' (.v i k) = b) (h1' : Y' (.v i (k + 1 : Nat)) = c) (h2 : ∀ x : Nat, x ≠ k → x ≠ k + 1 → Y' (.v i x) = Y (.v i x)) : ((rowD Y n i).set k b).set (k + 1) c = rowD Y' n i := by
  apply List.ext_getElem (by simp [rowD])
  intro x g1 g2
  rw [List.getElem_set, List.getElem_set]
  simp only [rowD, List.getElem_map, List.getElem_range]
  by_cases e : k + 1 = x
  · subst e; rw [if_pos rfl]; exact h1'.symm
  · rw [if_neg e]
    by_cases e2 : k = x
    · subst e2; rw [if_pos rfl]; exact h1.symm
    · rw [if_neg e2]; exact (h2 x (fun h => e2 h.symm) (fun h => e h.symm)).symm
theorem fA_flip {Y Y' : Cf} {n i j : Nat} {b1 b2 : Bool} (hi : i + 1 < n) (h1 : Y' (.h i (j + 1 : Nat)) = b1) (h2 : Y' (.h (i + 1 : Nat) (j + 1 : Nat)) = b2)
    (h : ∀ a x : Nat, ¬ (a = i ∧ x = j + 1) → ¬ (a = i + 1 ∧ x = j + 1) → Y' (.h a x) = Y (.h a x)) :
    at1B (at1B (fA Y n n) i ((fA Y n n i).set (j + 1) b1)) (i + 1) ((fA Y n n (i + 1)).set (j + 1) b2) = fA Y' n n := by
  funext a
  by_cases e : a = i + 1
  · subst e
    rw [at1_self]
    unfold fA
    rw [if_pos (by omega), if_pos (by omega)]
    exact rowA_flip h2 (fun x hx => h _ _ (by omega) (by omega))
  · rw [at1_ne _ _ e]
    by_cases e2 : a = i
    · subst e2
      rw [at1_self]
      unfold fA
      rw [if_pos (by omega), if_pos (by omega)]
      exact rowA_flip h1 (fun x hx => h _ _ (by omega) (by omega))
    · rw [at1_ne _ _ e2]
      unfold fA
      rw [rowA_same (fun x => h a x (by omega) (by omega))]
theorem fD_flip {Y Y' : Cf} {n i j : Nat} {b3 b4 : Bool} (hi : i + 1 < n) (h1 : Y' (.v (i + 1 : Nat) j) = b3) (h2 : Y' (.v (i + 1 : Nat) (j + 1 : Nat)) = b4)
    (h : ∀ a x : Nat, ¬ (a = i + 1 ∧ x = j) → ¬ (a = i + 1 ∧ x = j + 1) → Y' (.v a x) = Y (.v a x)) :
    at1B (fD Y n (n + 1)) (i + 1) (((fD Y n (n + 1) (i + 1)).set j b3).set (j + 1) b4) = fD Y' n (n + 1) := by
  funext a
  by_cases e : a = i + 1
  · subst e
    rw [at1_self]
    unfold fD
    rw [if_pos (by omega), if_pos (by omega)]
    exact rowD_flip h1 h2 (fun x hx hx' => h _ _ (by omega) (by omega))
  · rw [at1_ne _ _ e]
    unfold fD
    rw [rowD_same (fun x => h a x (by omega) (by omega))]

section
variable {w w' : World} {B : Nat} {K : LG} {Y : Cf}
/-- A new block for the struct. -/
theorem AllR.newL (h : AllR w B K.reg) : AllR (w.alloc (.cells #[K.A, K.D] 63)) B (LG.reg { K with L := w.heap.size }) := by
  have hB : B ≤ w.heap.size := by have := h.lt (x := 0) rfl; omega
  refine h.upd (x := 0) (own_obj (n := 1) (z := 2) (heap_alloc_new w _) hB (by omega) rfl) (LG.same (fun h => absurd rfl h) (fun _ => rfl) (fun _ => rfl) (fun _ => rfl) (fun _ => rfl) (fun _ _ => ⟨rfl, rfl⟩) (fun _ _ => ⟨rfl, rfl⟩)) (fun b hb _ => heap_alloc_old w _ hb) (fun b hb => ?_)
  obtain rfl : w.heap.size = b := by simpa [LG.reg, Value.ownBlock] using hb
  exact .inr (Nat.le_refl _)
/-- The rows of a face: two across, one down; what they hold; what comes of the four stores. -/
theorem face_rows {i j : Nat} (h : AllR w B (K.wears Y).reg) (hi : i + 1 < K.n) (hj : j + 1 < K.n) : ∃ g1 c1 g2 c2 g3 c3,
    w.cell? ⟨K.gA, i, none⟩ = some (.slice (some ⟨g1, 0, none⟩) (K.n + 1) c1) ∧ w.cell? ⟨K.gA, i + 1, none⟩ = some (.slice (some ⟨g2, 0, none⟩) (K.n + 1) c2) ∧ w.cell? ⟨K.gD, i + 1, none⟩ = some (.slice (some ⟨g3, 0, none⟩) K.n c3) ∧
    w.cell? ⟨g1, j + 1, none⟩ = some (.bool (Y (.h i (j + 1 : Nat)))) ∧ w.cell? ⟨g2, j + 1, none⟩ = some (.bool (Y (.h (i + 1 : Nat) (j + 1 : Nat)))) ∧
    w.cell? ⟨g3, j, none⟩ = some (.bool (Y (.v (i + 1 : Nat) j))) ∧ w.cell? ⟨g3, j + 1, none⟩ = some (.bool (Y (.v (i + 1 : Nat) (j + 1 : Nat)))) ∧
    g1 ≠ g2 ∧ g1 ≠ g3 ∧ g2 ≠ g3 ∧ B ≤ g1 ∧ B ≤ g2 ∧ B ≤ g3 ∧ (∀ x, w.frozen? ⟨g1, x, none⟩ = false) ∧ (∀ x, w.frozen? ⟨g2, x, none⟩ = false) ∧ (∀ x, w.frozen? ⟨g3, x, none⟩ = false) ∧
    ∀ (b1 b2 b3 b4 : Bool) (Y' : Cf), Y' (.h i (j + 1 : Nat)) = b1 → Y' (.h (i + 1 : Nat) (j + 1 : Nat)) = b2 → Y' (.v (i + 1 : Nat) j) = b3 → Y' (.v (i + 1 : Nat) (j + 1 : Nat)) = b4 → (∀ e, ¬ four i j e → Y' e = Y e) →
      AllR ((((w.setCell ⟨g1, j + 1, none⟩ (.bool b1)).setCell ⟨g2, j + 1, none⟩ (.bool b2)).setCell ⟨g3, j, none⟩ (.bool b3)).setCell ⟨g3, j + 1, none⟩ (.bool b4)) B (K.wears Y').reg := by
  have eA : ∀ a, a < K.n → (K.wears Y).rA a = rowA Y K.n a := fun a ha => if_pos ha
  have eD : ∀ a, a < K.n + 1 → (K.wears Y).rD a = rowD Y K.n a := fun a ha => if_pos ha
  have lA : ∀ a, a < K.n → ((K.wears Y).rA a).length = K.n + 1 := fun a ha => by rw [eA a ha]; simp [rowA]
  have lD : ∀ a, a < K.n + 1 → ((K.wears Y).rD a).length = K.n := fun a ha => by rw [eD a ha]; simp [rowD]
  obtain ⟨g1, c1, v1, q1, o1, B1, t1⟩ := h.rowA (i := i) (by show i < K.n; omega) (by rw [lA _ (by omega)]; omega)
  obtain ⟨g2, c2, v2, q2, o2, B2, t2⟩ := h.rowA (i := i + 1) (by show i + 1 < K.n; omega) (by rw [lA _ (by omega)]; omega)
  obtain ⟨g3, c3, v3, q3, o3, B3, t3⟩ := h.rowD (i := i + 1) (by show i + 1 < K.n + 1; omega) (by rw [lD _ (by omega)]; omega)
  have d12 : g1 ≠ g2 := fun e => h.far (2 * i + 5) (2 * (i + 1) + 5) (by omega) g1 (by rw [LG.regA, v1]; rfl) (by rw [LG.regA, v2, e]; rfl)
  have d13 : g1 ≠ g3 := fun e => h.far (2 * i + 5) (2 * (i + 1) + 6) (by omega) g1 (by rw [LG.regA, v1]; rfl) (by rw [LG.regD, v3, e]; rfl)
  have d23 : g2 ≠ g3 := fun e => h.far (2 * (i + 1) + 5) (2 * (i + 1) + 6) (by omega) g2 (by rw [LG.regA, v2]; rfl) (by rw [LG.regD, v3, e]; rfl)
  refine ⟨g1, c1, g2, c2, g3, c3, by rw [lA _ (by omega)] at q1; exact q1, by rw [lA _ (by omega)] at q2; exact q2, by rw [lD _ (by omega)] at q3; exact q3, ownB_get o1 ?_, ownB_get o2 ?_, ownB_get o3 ?_, ownB_get o3 ?_, d12, d13, d23, B1, B2, B3, fun x => o1.frozenAt x, fun x => o2.frozenAt x, fun x => o3.frozenAt x, ?_⟩
  · rw [eA _ (by omega)]; exact rowA_get (by omega)
  · rw [eA _ (by omega)]; exact rowA_get (by omega)
  · rw [eD _ (by omega)]; exact rowD_get (by omega)
  · rw [eD _ (by omega)]; exact rowD_get (by omega)
  · intro b1 b2 b3 b4 Y' y1 y2 y3 y4 hoth
    have s1 := h.inA v1 (j + 1) b1
    have s2 := s1.inA (i := i + 1) (g := g2) (c := c2) (by
      show K.vA (i + 1) = .slice _ (at1B (K.wears Y).rA i (((K.wears Y).rA i).set (j + 1) b1) (i + 1)).length c2
      rw [at1_ne _ _ (by omega)]; exact v2) (j + 1) b2
    have s3 := s2.inD (i := i + 1) (g := g3) (c := c3) v3 j b3
    have s4 := s3.inD (i := i + 1) (g := g3) (c := c3) (by
      show K.vD (i + 1) = .slice _ (at1B (K.wears Y).rD (i + 1) (((K.wears Y).rD (i + 1)).set j b3) (i + 1)).length c3
      rw [at1_self, List.length_set]; exact v3) (j + 1) b4
    have hA := fA_flip hi y1 y2 (fun a x n1 n2 => hoth _ (by
      unfold four
      simp only [Ed.h.injEq, reduceCtorEq, or_false]
      omega))
    have hD := fD_flip hi y3 y4 (fun a x n1 n2 => hoth _ (by
      unfold four
      simp only [Ed.v.injEq, reduceCtorEq, false_or]
      omega))
    have e : K.wears Y' = { K with rA := at1B (at1B (fA Y K.n K.n) i ((fA Y K.n K.n i).set (j + 1) b1)) (i + 1) ((at1B (fA Y K.n K.n) i ((fA Y K.n K.n i).set (j + 1) b1) (i + 1)).set (j + 1) b2), rD := at1B (at1B (fD Y K.n (K.n + 1)) (i + 1) ((fD Y K.n (K.n + 1) (i + 1)).set j b3)) (i + 1) ((at1B (fD Y K.n (K.n + 1)) (i + 1) ((fD Y K.n (K.n + 1) (i + 1)).set j b3) (i + 1)).set (j + 1) b4) } := by
      rw [at1_self, at1_at1, at1_ne (fA Y K.n K.n) _ (x := i + 1) (by omega), hA, hD]; rfl
    rw [e]
    exact s4
end
/-! The rows of the matrix read back. -/
theorem matRow_length (n : Nat) (Y : Cf) (i : Nat) : (matRow n Y i).length = n := by simp [matRow]
theorem matRow_take {n : Nat} {Y : Cf} {i j : Nat} (hj : j < n) {y : Int} (hy : y = sOf Y i (j + 1) - sOf Y i j) : (matRow n Y i).take j ++ [y] = (matRow n Y i).take (j + 1) := by
  rw [take_snoc (by rw [matRow_length]; exact hj)]
  simp [matRow, hy]
theorem matOf_length (n : Nat) (Y : Cf) : (matOf n Y).length = n := by simp [matOf]
theorem matOf_take {n : Nat} {Y : Cf} {i : Nat} (hi : i < n) : (matOf n Y).take i ++ [matRow n Y i] = (matOf n Y).take (i + 1) := by
  rw [take_snoc (by rw [matOf_length]; exact hi)]
  simp [matOf]
theorem sOf_bit (Y : Cf) (i j : Nat) : sOf Y i j = 0 ∨ sOf Y i j = 1 := by
  unfold sOf; split
  · exact .inr rfl
  · exact .inl rfl
theorem sOf_eq (Y : Cf) (i j : Nat) : (Y (.h i (j + 1 : Nat)) == (((i : Int) + (j : Int)) % 2 == 0)) = decide (sOf Y i (j + 1) = 1) := by
  unfold sOf
  rw [show ((i : Int) + ((j + 1 : Nat) : Int) - 1) = (i : Int) + j by omega]
  show (Y (.h i (j + 1 : Nat)) == decide (((i : Int) + (j : Int)) % 2 = 0)) = _
  cases Y (.h i (j + 1 : Nat)) <;> cases decide (((i : Int) + (j : Int)) % 2 = 0) <;> rfl
end Go.Proofs.Ytpmkdihencepnaa
