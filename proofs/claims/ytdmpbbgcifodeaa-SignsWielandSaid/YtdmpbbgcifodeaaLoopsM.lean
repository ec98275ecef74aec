/-
  How things lie while the lines of a matrix' loops are drawn.
-/
import Derived.Test.YtdmpbbgcifodeaaGridL
import Derived.Deep.AppendLies
namespace Go.Proofs.Ytdmpbbgcifodeaa
open Go.RowKit

theorem Try.infoSliceB : (Try.prog.info? 94).map (fun i => (i.zero, i.size, i.bytes)) = some (some (.slice none 0 0), 1, 24) := by kernel_rfl

def rowA (X : Cf) (n i : Nat) : List Bool := (List.range (n + 1)).map (fun j : Nat => X (.h i j))
def rowD (X : Cf) (n i : Nat) : List Bool := (List.range n).map (fun j : Nat => X (.v i j))
def fA (X : Cf) (n a : Nat) : Nat → List Bool := fun i => if i < a then rowA X n i else []
def fD (X : Cf) (n a : Nat) : Nat → List Bool := fun i => if i < a then rowD X n i else []
def mixD (X : Cf) (n i k : Nat) : List Bool := (List.range n).map (fun j : Nat => decide (j < k) && X (.v i j))
theorem mixD_length (X : Cf) (n i k : Nat) : (mixD X n i k).length = n := by simp [mixD]
theorem mixD_zero (X : Cf) (n i : Nat) : List.replicate n false = mixD X n i 0 := by
  apply List.ext_getElem (by simp [mixD])
  intro a h1 h2; simp [mixD]
theorem mixD_set {X : Cf} {n i k : Nat} : (mixD X n i k).set k (X (.v i k)) = mixD X n i (k + 1) := by
  apply List.ext_getElem (by simp [mixD])
  intro a h1 h2
  rw [List.getElem_set]
  simp only [mixD, List.getElem_map, List.getElem_range]
  by_cases e : k = a
  · subst e; simp
  · rw [if_neg e]
    congr 1
    by_cases c : a < k
    · rw [decide_eq_true c, decide_eq_true (by omega)]
    · rw [decide_eq_false c, decide_eq_false (by omega)]
theorem mixD_full (X : Cf) (n i : Nat) : mixD X n i n = rowD X n i := by
  unfold mixD rowD
  refine List.map_congr_left (fun j hj => ?_)
  rw [decide_eq_true (List.mem_range.1 hj)]; rfl
theorem fD_next (X : Cf) (n a : Nat) : at1 (fD X n a) a (mixD X n a n) = fD X n (a + 1) := by
  funext i
  unfold at1 fD
  by_cases e : i = a
  · subst e; rw [if_pos rfl, if_pos (by omega), mixD_full]
  · rw [if_neg e]
    by_cases c : i < a
    · rw [if_pos c, if_pos (by omega)]
    · rw [if_neg c, if_neg (by omega)]
theorem fA_next (X : Cf) (n a : Nat) : at1 (fA X n a) a ((rowA X n a).take (n + 1)) = fA X n (a + 1) := by
  funext i
  unfold at1 fA
  by_cases e : i = a
  · subst e; rw [if_pos rfl, if_pos (by omega), List.take_of_length_le (by simp [rowA])]
  · rw [if_neg e]
    by_cases c : i < a
    · rw [if_pos c, if_pos (by omega)]
    · rw [if_neg c, if_neg (by omega)]
theorem rowA_take {X : Cf} {n i k : Nat} (hk : k < n + 1) : (rowA X n i).take k ++ [X (.h i k)] = (rowA X n i).take (k + 1) := by
  rw [take_snoc (by simp [rowA]; omega)]
  simp [rowA]
theorem at1_at1 {α : Type} (f : Nat → α) (i : Nat) (x y : α) : at1 (at1 f i x) i y = at1 f i y := by
  funext a
  unfold at1
  by_cases e : a = i <;> simp [e]

/-- How things lie while the lines are drawn. -/
def kOf (n L gA gD N : Nat) (vS : Value) (S : List Int) (vA vD : Nat → Value) (rA rD : Nat → List Bool) : LG :=
  ⟨n, L, gA, gD, vS, S, .slice (some ⟨N, 0, none⟩) 1 1, 1, [.slice none 0 0, .slice none 0 0], vA, vD, rA, rD⟩
def LSt (w0 wz : World) (n L gA gD N : Nat) (vS : Value) (S : List Int) (rA rD : Nat → List Bool) : Prop :=
  ∃ vA vD, AllR wz N (kOf n L gA gD N vS S vA vD rA rD).reg ∧ Below N w0 wz

theorem rep_map (n : Nat) (v : Value) : (List.range n).map (fun _ => v) = List.replicate n v := by simp [List.map_const']
theorem two_bools (n : Nat) : (madeCells #[Value.slice none 0 0] n).toList = List.replicate n (.slice none 0 0) ∧ (madeCells #[Value.slice none 0 0] n).size = n * 1 := by
  constructor
  · simp [toList_madeCells_one]
  · rw [size_madeCells]; simp
/-- The three blocks and the result's, whatever their order. -/
theorem LSt.start {w0 wz : World} {n L gA gD N : Nat} (hn : n ≤ 7) (h0 : wz.heap[N]? = some (.cells #[.slice none 0 0, .slice none 0 0] 90))
    (h1 : wz.heap[L]? = some (.cells #[.slice (some ⟨gA, 0, none⟩) n n, .slice (some ⟨gD, 0, none⟩) (n + 1) (n + 1)] 90))
    (h2 : wz.heap[gA]? = some (.cells (madeCells #[.slice none 0 0] n) 94)) (h3 : wz.heap[gD]? = some (.cells (madeCells #[.slice none 0 0] (n + 1)) 94))
    (b1 : N < L) (b2 : N < gA) (b3 : N < gD) (d1 : L ≠ gA) (d2 : L ≠ gD) (d3 : gA ≠ gD) (hb : Below N w0 wz) :
    LSt w0 wz n L gA gD N (.slice none 0 0) [] (fun _ => []) (fun _ => []) := by
  refine ⟨fun _ => .slice none 0 0, fun _ => .slice none 0 0, ⟨fun x => ?_, fun x y hxy k hk1 hk2 => ?_⟩, hb⟩
  · rcases reg_cases x with h | ⟨i, rfl⟩ | ⟨i, rfl⟩
    · match x, h with
      | 0, _ => exact own_obj (n := 1) (z := 2) h1 (Nat.le_of_lt b1) (by omega) rfl
      | 1, _ =>
        have := own_obj (B := N) (z := 1) (n := n) h2 (by omega) (by omega) (two_bools n).2
        rw [(two_bools n).1] at this
        rw [← rep_map] at this
        exact this
      | 2, _ =>
        have := own_obj (B := N) (z := 1) (n := n + 1) h3 (by omega) (by omega) (two_bools (n + 1)).2
        rw [(two_bools (n + 1)).1] at this
        rw [← rep_map] at this
        exact this
      | 3, _ => exact World.ownsRow_nil _ _ _ _
      | 4, _ => exact own_obj (n := 1) (z := 2) h0 (Nat.le_refl _) (by omega) rfl
    · rw [LG.regA]; exact World.ownsRow_nil _ _ _ _
    · rw [LG.regD]; exact World.ownsRow_nil _ _ _ _
  · have key : ∀ x k, ((kOf n L gA gD N (.slice none 0 0) [] (fun _ => .slice none 0 0) (fun _ => .slice none 0 0) (fun _ => []) (fun _ => [])).reg x).v.ownBlock = some k → (x = 0 ∧ k = L) ∨ (x = 1 ∧ k = gA) ∨ (x = 2 ∧ k = gD) ∨ (x = 4 ∧ k = N) := by
      intro x k hk
      rcases reg_cases x with h | ⟨i, rfl⟩ | ⟨i, rfl⟩
      · match x, h, hk with
        | 0, _, hk => obtain rfl : L = k := by simpa [LG.reg, kOf, Value.ownBlock] using hk
                      exact .inl ⟨rfl, rfl⟩
        | 1, _, hk => obtain rfl : gA = k := by simpa [LG.reg, LG.A, kOf, Value.ownBlock] using hk
                      exact .inr (.inl ⟨rfl, rfl⟩)
        | 2, _, hk => obtain rfl : gD = k := by simpa [LG.reg, LG.D, kOf, Value.ownBlock] using hk
                      exact .inr (.inr (.inl ⟨rfl, rfl⟩))
        | 3, _, hk => simp [LG.reg, kOf, Value.ownBlock] at hk
        | 4, _, hk => obtain rfl : N = k := by simpa [LG.reg, kOf, Value.ownBlock] using hk
                      exact .inr (.inr (.inr ⟨rfl, rfl⟩))
      · rw [LG.regA] at hk; simp [kOf, Value.ownBlock] at hk
      · rw [LG.regD] at hk; simp [kOf, Value.ownBlock] at hk
    have e1 := key x k hk1
    have e2 := key y k hk2
    omega


theorem four_laid (w : World) (o0 o1 o2 o3 : Obj) : ((((w.alloc o0).alloc o1).alloc o2).alloc o3).heap[w.heap.size]? = some o0 ∧ ((((w.alloc o0).alloc o1).alloc o2).alloc o3).heap[w.heap.size + 1]? = some o1 ∧
    ((((w.alloc o0).alloc o1).alloc o2).alloc o3).heap[w.heap.size + 1 + 1]? = some o2 ∧ ((((w.alloc o0).alloc o1).alloc o2).alloc o3).heap[w.heap.size + 1 + 1 + 1]? = some o3 ∧ Below w.heap.size w ((((w.alloc o0).alloc o1).alloc o2).alloc o3) := by
  have s1 : (w.alloc o0).heap.size = w.heap.size + 1 := by simp
  have s2 : ((w.alloc o0).alloc o1).heap.size = w.heap.size + 1 + 1 := by simp
  have s3 : (((w.alloc o0).alloc o1).alloc o2).heap.size = w.heap.size + 1 + 1 + 1 := by simp
  have a0 := heap_alloc_new w o0
  have a1 := heap_alloc_new (w.alloc o0) o1
  have a2 := heap_alloc_new ((w.alloc o0).alloc o1) o2
  have a3 := heap_alloc_new (((w.alloc o0).alloc o1).alloc o2) o3
  rw [s1] at a1
  rw [s2] at a2
  rw [s3] at a3
  refine ⟨?_, ?_, ?_, a3, ((((Below.refl _ _).alloc (Nat.le_refl _) _).alloc (by omega) _).alloc (by omega) _).alloc (by omega) _⟩
  · rw [heap_alloc_old _ _ (by omega), heap_alloc_old _ _ (by omega), heap_alloc_old _ _ (by omega)]; exact a0
  · rw [heap_alloc_old _ _ (by omega), heap_alloc_old _ _ (by omega)]; exact a1
  · rw [heap_alloc_old _ _ (by omega)]; exact a2


/-! What the walk reckons is what stands in the lines. -/
theorem par_eq (i : Int) (b : Int) : (i % 2 == b) = decide (i % 2 = b) := rfl
theorem lp_top (m : List (List Int)) (k : Nat) : ((k : Int) % 2 == 1) = lpC m (.v ((0 : Nat) : Int) k) := by
  rw [par_eq]
  show _ = (decide ((0 : Int) = 0) == decide ((0 - 1 + (k : Int)) % 2 = 0))
  by_cases c : (k : Int) % 2 = 1
  · rw [decide_eq_true c, decide_eq_true (p := (0 - 1 + (k : Int)) % 2 = 0) (by omega)]; rfl
  · rw [decide_eq_false c, decide_eq_false (p := (0 - 1 + (k : Int)) % 2 = 0) (by omega)]; rfl
theorem lp_left (m : List (List Int)) (i : Nat) : ((i : Int) % 2 == 0) = lpC m (.h i ((0 : Nat) : Int)) := by
  rw [par_eq]
  show _ = (decide ((0 : Int) = 1) == decide (((i : Int) + 0 - 1) % 2 = 0))
  by_cases c : (i : Int) % 2 = 0
  · rw [decide_eq_true c, decide_eq_false (p := ((i : Int) + 0 - 1) % 2 = 0) (by omega)]; rfl
  · rw [decide_eq_false c, decide_eq_true (p := ((i : Int) + 0 - 1) % 2 = 0) (by omega)]; rfl
theorem lp_h (m : List (List Int)) (i j : Nat) : ((rsum m i (j + 1) == 1) == (((i : Int) + (j : Int)) % 2 == 0)) = lpC m (.h i ((j + 1 : Nat) : Int)) := by
  rw [par_eq]
  show _ = (decide (rsum m i (j + 1) = 1) == decide (((i : Int) + ((j + 1 : Nat) : Int) - 1) % 2 = 0))
  rw [show ((i : Int) + ((j + 1 : Nat) : Int) - 1) = (i : Int) + j by omega]
  rfl
theorem lp_v (m : List (List Int)) (i j : Nat) : ((dsum m (i + 1) j == 0) == (((i : Int) + (j : Int)) % 2 == 0)) = lpC m (.v ((i + 1 : Nat) : Int) j) := by
  rw [par_eq]
  show _ = (decide (dsum m (i + 1) j = 0) == decide ((((i + 1 : Nat) : Int) - 1 + (j : Int)) % 2 = 0))
  rw [show (((i + 1 : Nat) : Int) - 1 + (j : Int)) = (i : Int) + j by omega]
  rfl

section
variable {w w' w0 : World} {n L gA gD N : Nat} {vS : Value} {S : List Int} {vA vD : Nat → Value} {rA rD : Nat → List Bool}
/-- A row of D laid in, new. -/
theorem LSt.newD (h : AllR w N (kOf n L gA gD N vS S vA vD rA rD).reg) (hW : Below N w0 w) (hn : n ≤ 7) {i : Nat} (bs : List Bool) (hb : bs = List.replicate n false) :
    LSt w0 ((w.alloc (.cells (madeCells #[.bool false] n) 4)).setCell ⟨gD, i, none⟩ (.slice (some ⟨w.heap.size, 0, none⟩) n n)).drew n L gA gD N vS S rA (at1 rD i bs) := by
  have hN : N ≤ w.heap.size := Nat.le_of_lt (h.lt (x := 0) rfl |>.2) |> Nat.le_trans (h.lt (x := 0) rfl).1
  have ho := own_obj (B := N) (z := 1) (n := n) (heap_alloc_new w (.cells (madeCells #[.bool false] n) 4)) hN (by omega) (by rw [size_madeCells]; simp)
  have e : (madeCells #[Value.bool false] n).toList = bools bs := by rw [hb]; simp [toList_madeCells_one, bools]
  rw [e] at ho
  have hbl : Below w.heap.size w (w.alloc (.cells (madeCells #[.bool false] n) 4)) := (Below.refl _ _).alloc (Nat.le_refl _) _
  refine ⟨vA, at1 vD i (.slice (some ⟨w.heap.size, 0, none⟩) n n), (h.putD (i := i) (by rw [hb]; simp) ho (fun b hlt _ => hbl.block b hlt) (.inr (Nat.le_refl _))).drew, ?_⟩
  exact below_drewN ((hW.alloc hN _).setCell (p := ⟨gD, i, none⟩) (h.lt (x := 2) rfl).1 _) 1
/-- A row of A grown by one. -/
theorem LSt.appA {w6 : World} (h : AllR w N (kOf n L gA gD N vS S vA vD rA rD).reg) (hW : Below N w0 w) {i g c k : Nat} {bs : List Bool} (hk : k = bs.length) (ho : w6.ownsRow N 4 1 (.slice (some ⟨g, 0, none⟩) k c) k (bools bs))
    (hg : w.grownBy w6 (vA i).ownBlock) (hat : (vA i).ownBlock = some g ∨ g = w.heap.size) :
    LSt w0 (w6.setCell ⟨gA, i, none⟩ (.slice (some ⟨g, 0, none⟩) k c)) n L gA gD N vS S (at1 rA i bs) rD := by
  have hN : N ≤ w.heap.size := Nat.le_of_lt (h.lt (x := 0) rfl |>.2) |> Nat.le_trans (h.lt (x := 0) rfl).1
  refine ⟨at1 vA i (.slice (some ⟨g, 0, none⟩) k c), vD, h.putA (i := i) hk ho (fun b hlt hne => hg.block b hlt (fun e => hne e.symm)) (hat.imp id (fun e => by omega)), ?_⟩
  refine (hW.grown hg hN (fun b hb => ?_)).setCell (p := ⟨gA, i, none⟩) (h.lt (x := 1) rfl).1 _
  have := h.lt (x := 2 * i + 5) (b := b) (by rw [LG.regA]; exact hb)
  exact this.1
/-- What a grown row leaves. -/
theorem AllR.grownA {w6 : World} (h : AllR w N (kOf n L gA gD N vS S vA vD rA rD).reg) {i : Nat} (hi : i < n) (hg : w.grownBy w6 (vA i).ownBlock) :
    w6.cell? ⟨L, 0, none⟩ = some (.slice (some ⟨gA, 0, none⟩) n n) ∧ w6.cell? ⟨gA, i, none⟩ = some (vA i) ∧ w6.frozen? ⟨gA, i, none⟩ = false := by
  have hL : some L ≠ (vA i).ownBlock := fun e => h.far 0 (2 * i + 5) (by omega) L rfl (by rw [LG.regA]; exact e.symm)
  have hA : some gA ≠ (vA i).ownBlock := fun e => h.far 1 (2 * i + 5) (by omega) gA rfl (by rw [LG.regA]; exact e.symm)
  refine ⟨hg.cell h.cL.1 hL, hg.cell (h.cellA hi) hA, ?_⟩
  exact (World.frozen?_of_block (a := ⟨gA, i, none⟩) (hg.block gA (h.lt (x := 1) rfl).2 hA)).trans (h.fzA i)
/-- The sums laid. -/
theorem LSt.newS (h : AllR w N (kOf n L gA gD N (.slice none 0 0) [] vA vD rA rD).reg) (hW : Below N w0 w) (hb : Below w.heap.size w w') {S : List Int} {g : Nat} (hg : w.heap.size ≤ g) (hS : n = S.length) (ho : w'.ownsRow N 3 1 (.slice (some ⟨g, 0, none⟩) n n) n (ints S)) :
    LSt w0 w' n L gA gD N (.slice (some ⟨g, 0, none⟩) n n) S rA rD := by
  have hN : N ≤ w.heap.size := Nat.le_of_lt (h.lt (x := 0) rfl |>.2) |> Nat.le_trans (h.lt (x := 0) rfl).1
  refine ⟨vA, vD, h.upd (x := 3) (by subst hS; exact ho) (LG.same (fun _ => rfl) (fun _ => rfl) (fun _ => rfl) (fun h => absurd rfl h) (fun _ => rfl) (fun _ _ => ⟨rfl, rfl⟩) (fun _ _ => ⟨rfl, rfl⟩)) (fun b hlt _ => hb.block b hlt) (fun b e => ?_), hW.trans (hb.mono hN)⟩
  obtain rfl : g = b := by simpa [LG.reg, kOf, Value.ownBlock] using e
  exact .inr hg
end

theorem fA_zero (X : Cf) (n : Nat) : (fun _ => []) = fA X n 0 := by funext i; simp [fA]
theorem fD_zero (X : Cf) (n : Nat) : (fun _ => []) = fD X n 0 := by funext i; simp [fD]
section
variable {w w' w0 : World} {n L gA gD N : Nat} {vS : Value} {S : List Int} {vA vD : Nat → Value} {rA rD : Nat → List Bool}
theorem LSt.ownA (h : AllR w N (kOf n L gA gD N vS S vA vD rA rD).reg) {i : Nat} {bs : List Bool} (hr : rA i = bs) : w.ownsRow N 4 1 (vA i) bs.length (bools bs) := by
  have := h.own (2 * i + 5)
  rw [LG.regA] at this
  subst hr
  exact this
/-- A row of D as it stands. -/
theorem LSt.atD (h : AllR w N (kOf n L gA gD N vS S vA vD rA rD).reg) {i : Nat} (hi : i < n + 1) {bs : List Bool} (hr : rD i = bs) (hb : bs.length = n) (hp : 0 < n) :
    ∃ g c, w.cell? ⟨gD, i, none⟩ = some (.slice (some ⟨g, 0, none⟩) n c) ∧ (∀ j z, bs[j]? = some z → w.cell? ⟨g, j, none⟩ = some (.bool z)) ∧ (∀ j, w.frozen? ⟨g, j, none⟩ = false) ∧
      (∀ j y, AllR (w.setCell ⟨g, j, none⟩ (.bool y)) N (kOf n L gA gD N vS S vA vD rA (at1 rD i (bs.set j y))).reg) ∧ N ≤ g := by
  subst hr
  obtain ⟨g, c, hv, hc, ho, h1, h2⟩ := h.rowD (i := i) hi (by show 0 < (rD i).length; omega)
  have hl : ((kOf n L gA gD N vS S vA vD rA rD).rD i).length = n := hb
  have hv' := hv
  rw [hl] at hc hv'
  refine ⟨g, c, hc, fun j z hz => ownB_get ho hz, fun j => ho.frozenAt j, fun j y => h.inD hv j y, h1⟩
/-- The sums as they stand. -/
theorem LSt.atS {gS c : Nat} (h : AllR w N (kOf n L gA gD N (.slice (some ⟨gS, 0, none⟩) n c) S vA vD rA rD).reg) (hS : n = S.length) :
    (∀ j z, S[j]? = some z → w.cell? ⟨gS, j, none⟩ = some (.int .i64 z)) ∧ (∀ j, w.frozen? ⟨gS, j, none⟩ = false) ∧
      (∀ j y, AllR (w.setCell ⟨gS, j, none⟩ (.int .i64 y)) N (kOf n L gA gD N (.slice (some ⟨gS, 0, none⟩) n c) (S.set j y) vA vD rA rD).reg) ∧ N ≤ gS := by
  subst hS
  have ho := h.own 3
  refine ⟨fun j z hz => own_get (n := S.length) (c := c) ho hz, fun j => h.fz (x := 3) (c := c) rfl j, fun j y => h.inS (g := gS) (c := c) rfl j y, (h.lt (x := 3) rfl).1⟩
end

/-- What loops answers: its two slices, in regions of the call's own. -/
def LOut (w : World) (n : Nat) (X : Cf) (e : Ending) (w' : World) : Prop :=
  ∃ K : LG, K.n = n ∧ e = .returned (.agg #[K.A, K.D]) ∧ K.rA = fA X n n ∧ K.rD = fD X n (n + 1) ∧ AllR w' w.heap.size K.reg ∧ Below w.heap.size w w'
theorem AllR.setR {w : World} {B : Nat} {K : LG} (h : AllR w B K.reg) {N n : Nat} (hv : K.vR = .slice (some ⟨N, 0, none⟩) n n) (hn : K.nR = n) (j : Nat) (u : Value) : AllR (w.setCell ⟨N, j, none⟩ u) B (LG.reg { K with cR := K.cR.set j u }) := by
  refine h.set (x := 4) (g := N) (c := n) (by rw [show (K.reg 4).n = K.nR from rfl, hn]; exact hv) j u rfl (fun z hz => ?_)
  rcases reg_cases z with hc | ⟨a, rfl⟩ | ⟨a, rfl⟩
  · match z, hc, hz with
    | 0, _, _ => rfl
    | 1, _, _ => rfl
    | 2, _, _ => rfl
    | 3, _, _ => rfl
    | 4, _, hz => exact absurd rfl hz
  · rw [LG.regA, LG.regA]
  · rw [LG.regD, LG.regD]
theorem LSt.fin {w w0 : World} {n L gA gD N : Nat} {vS : Value} {S : List Int} {vA vD : Nat → Value} {rA rD : Nat → List Bool} (h : AllR w N (kOf n L gA gD N vS S vA vD rA rD).reg) :
    w.cell? ⟨N, 0, none⟩ = some (.slice none 0 0) ∧ w.cell? ⟨N, 1, none⟩ = some (.slice none 0 0) ∧ w.frozen? ⟨N, 0, none⟩ = false ∧ w.frozen? ⟨N, 1, none⟩ = false ∧
      ∀ X, rA = fA X n n → rD = fD X n (n + 1) → Below N w0 w → N = w0.heap.size →
        LOut w0 n X (.returned (.agg #[.slice (some ⟨gA, 0, none⟩) n n, .slice (some ⟨gD, 0, none⟩) (n + 1) (n + 1)])) ((w.setCell ⟨N, 0, none⟩ (.slice (some ⟨gA, 0, none⟩) n n)).setCell ⟨N, 1, none⟩ (.slice (some ⟨gD, 0, none⟩) (n + 1) (n + 1))) ∧
        ((w.setCell ⟨N, 0, none⟩ (.slice (some ⟨gA, 0, none⟩) n n)).setCell ⟨N, 1, none⟩ (.slice (some ⟨gD, 0, none⟩) (n + 1) (n + 1))).cell? ⟨N, 0, none⟩ = some (.slice (some ⟨gA, 0, none⟩) n n) ∧
        ((w.setCell ⟨N, 0, none⟩ (.slice (some ⟨gA, 0, none⟩) n n)).setCell ⟨N, 1, none⟩ (.slice (some ⟨gD, 0, none⟩) (n + 1) (n + 1))).cell? ⟨N, 1, none⟩ = some (.slice (some ⟨gD, 0, none⟩) (n + 1) (n + 1)) := by
  refine ⟨h.cell (x := 4) (c := 1) rfl (by show 0 < 1 * 2; omega) rfl, h.cell (x := 4) (c := 1) rfl (by show 1 < 1 * 2; omega) rfl, h.fz (x := 4) (c := 1) rfl 0, h.fz (x := 4) (c := 1) rfl 1, fun X hA hD hW hN => ?_⟩
  have h1 := h.setR (N := N) (n := 1) rfl rfl 0 (.slice (some ⟨gA, 0, none⟩) n n)
  have h2 := h1.setR (N := N) (n := 1) rfl rfl 1 (.slice (some ⟨gD, 0, none⟩) (n + 1) (n + 1))
  subst hN
  refine ⟨⟨_, rfl, rfl, hA, hD, h2, (hW.setCell (p := ⟨w0.heap.size, 0, none⟩) (Nat.le_refl _) _).setCell (p := ⟨w0.heap.size, 1, none⟩) (Nat.le_refl _) _⟩, h2.cell (x := 4) (c := 1) rfl (by show 0 < 1 * 2; omega) rfl, h2.cell (x := 4) (c := 1) rfl (by show 1 < 1 * 2; omega) rfl⟩

/-- 'append(v, x)' of one bool at a step of a region that draws: x was laid in a block of its own. -/
theorem step_app1B {w : World} {base : Nat} {l : List Bool} {v : Value} {ops : Array Oper} {o : Oper} {a : Act} {K : Act → World → Prop} {Q : Exit → Act → World → Prop} {E : Prop} (hgd : o.guard = none) (s x : Operand)
    (ho : o.op = .call { callee := .builtin .append, args := #[s, x], argTypes := #[94, 94] }) (hs : a.eval s = v) (y : Bool) (n : Nat) (g0 : Nat)
    (hx : a.eval x = .slice (some ⟨g0, 0, none⟩) 1 1) (hown : w.ownsRow base 4 1 v n (bools l)) (hlit : w.heap[g0]? = some (.cells #[.bool y] 4)) (hlen : n < 1000000) (hbase : base ≤ w.heap.size)
    (h : ∀ g cap w', w'.ownsRow base 4 1 (.slice (some ⟨g, 0, none⟩) (n + 1) cap) (n + 1) (bools (l ++ [y])) → w.grownBy w' v.ownBlock → (v.ownBlock = some g ∨ g = w.heap.size) → g < w'.heap.size →
      K (a.put o.dst (.slice (some ⟨g, 0, none⟩) (n + 1) cap)) w') :
    if Region.wanted o (yielded ops a.tmps) = true then Oper.wp Try.prog o a w K Q else E := by
  obtain ⟨i0, hi, hz0, hz1, hz2⟩ := info_parts Try.infoBool
  refine step_append_lies _ hgd s x 94 ho base 4 i0 (.bool false) 1 1 Try.underlying94 hi hz0 hz1 hz2 rfl (by decide) v n (bools l) hs hown ⟨g0, 0, none⟩ 1 1 [.bool y] hx rfl (World.news_of_block (cs := #[.bool y]) hlit) (by simp [Value.oneCell']) (by decide)
    (by unfold maxLen; omega) (by omega) hbase _ rfl (fun g cap w' h1 h2 h3 h4 => h g cap w' (by simpa [bools] using h1) h2 h3 h4)
end Go.Proofs.Ytdmpbbgcifodeaa
