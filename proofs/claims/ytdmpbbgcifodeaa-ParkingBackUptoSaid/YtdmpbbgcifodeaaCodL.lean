/-
  Lists of neighbours in memory: a slice of rows, a box, what is told.
-/
import Derived.Test.YtdmpbbgcifodeaaGridL
import Derived.Test.YtdmpbbgcifodeaaCodM
import Derived.Deep.AppendLies
import Derived.Shelf.SlicesE.DeleteFunc
import Derived.Shelf.Lay
import Derived.Ground.SlgfProg
import Derived.Lib.SliceRun
import Derived.Sort.OwnSortedInts
namespace Go.Proofs
open Go.Shelf
shelf_lay_g SlLaysH.n10 Slgf 10 at Try 96 as Try.delI
end Go.Proofs
namespace Go.Proofs.Ytdmpbbgcifodeaa
open Go.RowKit Go.Proofs
open Go.Shelf Go.Lib Go.Sort

structure CG where
  n : Nat
  gA : Nat
  bx : Reg
  vO : Value
  O : List Int
  vA : Nat → Value
  rA : Nat → List Int
def CG.reg (K : CG) : Nat → Reg
  | 0 => ⟨22, 1, .slice (some ⟨K.gA, 0, none⟩) K.n K.n, K.n, (List.range K.n).map K.vA⟩
  | 1 => K.bx
  | 2 => ⟨3, 1, K.vO, K.O.length, ints K.O⟩
  | i + 3 => ⟨3, 1, K.vA i, (K.rA i).length, ints (K.rA i)⟩
section
variable {w w' w0 : World} {B N n gA : Nat} {K : CG}

/-- Another box. -/
theorem AllR.putX (h : AllR w B K.reg) {r : Reg} (ho : r.ok w' B) (hk : ∀ b, b < w.heap.size → K.bx.v.ownBlock ≠ some b → w'.heap[b]? = w.heap[b]?) (hat : ∀ b, r.v.ownBlock = some b → K.bx.v.ownBlock = some b ∨ w.heap.size ≤ b) :
    AllR w' B (CG.reg { K with bx := r }) :=
  h.upd (x := 1) ho (fun y hy => by
    match y, hy with
    | 0, _ => rfl
    | 1, hy => exact absurd rfl hy
    | 2, _ => rfl
    | i + 3, _ => rfl) hk hat
/-- What is told, grown. -/
theorem AllR.putO (h : AllR w B K.reg) {v : Value} {O : List Int} (ho : w'.ownsRow B 3 1 v O.length (ints O)) (hk : ∀ b, b < w.heap.size → K.vO.ownBlock ≠ some b → w'.heap[b]? = w.heap[b]?) (hat : ∀ b, v.ownBlock = some b → K.vO.ownBlock = some b ∨ w.heap.size ≤ b) :
    AllR w' B (CG.reg { K with vO := v, O := O }) :=
  h.upd (x := 2) ho (fun y hy => by
    match y, hy with
    | 0, _ => rfl
    | 1, _ => rfl
    | 2, hy => exact absurd rfl hy
    | i + 3, _ => rfl) hk hat
/-- A row changed, then the cell that names it. -/
theorem AllR.putR (h : AllR w B K.reg) {i m : Nat} {v : Value} {bs : List Int} (hm : m = bs.length) (ho : w'.ownsRow B 3 1 v m (ints bs))
    (hk : ∀ b, b < w.heap.size → (K.vA i).ownBlock ≠ some b → w'.heap[b]? = w.heap[b]?) (hat : ∀ b, v.ownBlock = some b → (K.vA i).ownBlock = some b ∨ w.heap.size ≤ b) :
    AllR (w'.setCell ⟨K.gA, i, none⟩ v) B (CG.reg { K with vA := at1 K.vA i v, rA := at1 K.rA i bs }) := by
  subst hm
  have h1 : AllR w' B (fun y => if y = i + 3 then ⟨3, 1, v, bs.length, ints bs⟩ else K.reg y) := by
    refine h.upd (x := i + 3) ?_ (fun y hy => if_neg hy) hk (fun b hb => ?_)
    · show Reg.ok w' B (if i + 3 = i + 3 then _ else _)
      rw [if_pos rfl]; exact ho
    · rw [if_pos rfl] at hb; exact hat b hb
  refine h1.set (x := 0) (g := K.gA) (c := K.n) (by rw [if_neg (by omega)]; rfl) i _ ?_ (fun y hy => ?_)
  · rw [if_neg (by omega)]
    show Reg.mk _ _ _ _ ((List.range K.n).map (at1 K.vA i _)) = _
    rw [at1_map]; rfl
  · match y, hy with
    | 0, hy => exact absurd rfl hy
    | 1, _ => rw [if_neg (by omega)]; rfl
    | 2, _ => rw [if_neg (by omega)]; rfl
    | a + 3, _ =>
      by_cases e : a = i
      · subst e
        rw [if_pos rfl]
        show Reg.mk _ _ (at1 K.vA a v a) (List.length (at1 K.rA a bs a)) (ints (at1 K.rA a bs a)) = _
        rw [at1_self, at1_self]
      · rw [if_neg (by omega)]
        show Reg.mk _ _ (at1 K.vA i v a) (List.length (at1 K.rA i bs a)) (ints (at1 K.rA i bs a)) = _
        rw [at1_ne _ _ e, at1_ne _ _ e]; rfl
theorem AllR.cR (h : AllR w B K.reg) {i : Nat} (hi : i < K.n) : w.cell? ⟨K.gA, i, none⟩ = some (K.vA i) :=
  h.cell (x := 0) (c := K.n) rfl (by show i < K.n * 1; omega) (by show ((List.range K.n).map K.vA)[i]? = _; simp [hi])
theorem AllR.fR (h : AllR w B K.reg) (j : Nat) : w.frozen? ⟨K.gA, j, none⟩ = false := h.fz (x := 0) (c := K.n) rfl j
theorem AllR.oR (h : AllR w B K.reg) {i : Nat} {bs : List Int} (hb : K.rA i = bs) : w.ownsRow B 3 1 (K.vA i) bs.length (ints bs) := by
  subst hb; exact h.own (i + 3)
end

/-- The state: rows, box, what is told. -/
def CSt (w0 w : World) (n gA N : Nat) (bx : Reg) (vO : Value) (O : List Int) (rA : Nat → List Int) : Prop :=
  ∃ vA, AllR w N (CG.mk n gA bx vO O vA rA).reg ∧ Below N w0 w
section
variable {w w' w0 : World} {n gA N : Nat} {bx : Reg} {vO : Value} {O : List Int} {vA : Nat → Value} {rA : Nat → List Int}
theorem CSt.le (h : AllR w N (CG.mk n gA bx vO O vA rA).reg) : N ≤ w.heap.size ∧ N ≤ gA ∧ gA < w.heap.size := by
  have := h.lt (x := 0) (b := gA) rfl; omega
/-- A row grown by one. -/
theorem CSt.app {w6 : World} (h : AllR w N (CG.mk n gA bx vO O vA rA).reg) (hW : Below N w0 w) {i g c k : Nat} {bs : List Int} (hk : k = bs.length) (ho : w6.ownsRow N 3 1 (.slice (some ⟨g, 0, none⟩) k c) k (ints bs))
    (hg : w.grownBy w6 (vA i).ownBlock) (hat : (vA i).ownBlock = some g ∨ g = w.heap.size) :
    CSt w0 (w6.setCell ⟨gA, i, none⟩ (.slice (some ⟨g, 0, none⟩) k c)) n gA N bx vO O (at1 rA i bs) := by
  have hN := CSt.le h
  refine ⟨at1 vA i (.slice (some ⟨g, 0, none⟩) k c), h.putR (i := i) hk ho (fun b hlt hne => hg.block b hlt (fun e => hne e.symm)) (fun b hb => ?_), ?_⟩
  · obtain rfl : g = b := by simpa [Value.ownBlock] using hb
    exact hat.imp id (fun e => by omega)
  · refine (hW.grown hg hN.1 (fun b hb => ?_)).setCell (p := ⟨gA, i, none⟩) hN.2.1 _
    exact (h.lt (x := i + 3) (b := b) hb).1
/-- What a grown row leaves. -/
theorem CSt.left {w6 : World} (h : AllR w N (CG.mk n gA bx vO O vA rA).reg) {i j : Nat} (hj : j < n) (hg : w.grownBy w6 (vA i).ownBlock) :
    w6.cell? ⟨gA, j, none⟩ = some (vA j) ∧ w6.frozen? ⟨gA, j, none⟩ = false := by
  have hA : some gA ≠ (vA i).ownBlock := fun e => h.far 0 (i + 3) (by omega) gA rfl e.symm
  refine ⟨hg.cell (h.cR hj) hA, ?_⟩
  exact (World.frozen?_of_block (a := ⟨gA, j, none⟩) (hg.block gA hN.2.2 hA)).trans (h.fR j)
where hN := CSt.le h
/-- The box' cells. -/
theorem CSt.box {X c m k : Nat} {e : TypeId} {cs : List Value} (h : AllR w N (CG.mk n gA ⟨e, k, .slice (some ⟨X, 0, none⟩) m c, m, cs⟩ vO O vA rA).reg) {j : Nat} {u : Value} (hj : j < m * k) (hu : cs[j]? = some u) : w.cell? ⟨X, j, none⟩ = some u :=
  h.cell (x := 1) (c := c) rfl hj hu
theorem CSt.boxf {X c m k : Nat} {e : TypeId} {cs : List Value} (h : AllR w N (CG.mk n gA ⟨e, k, .slice (some ⟨X, 0, none⟩) m c, m, cs⟩ vO O vA rA).reg) (j : Nat) : w.frozen? ⟨X, j, none⟩ = false :=
  h.fz (x := 1) (c := c) rfl j
theorem CSt.boxNe {X c m k : Nat} {e : TypeId} {cs : List Value} (h : AllR w N (CG.mk n gA ⟨e, k, .slice (some ⟨X, 0, none⟩) m c, m, cs⟩ vO O vA rA).reg) : X ≠ gA ∧ ∀ i, (vA i).ownBlock ≠ some X :=
  ⟨fun e => h.far 1 0 (by omega) X rfl (by rw [e]; rfl), fun i e => h.far 1 (i + 3) (by omega) X rfl e⟩
/-- A new box laid. -/
theorem CSt.lay (h : AllR w N (CG.mk n gA bx vO O vA rA).reg) {z : Nat} {cur : Array Value} {e : TypeId} (hs : cur.size = 1 * z) :
    AllR (w.alloc (.cells cur e)) N (CG.mk n gA ⟨e, z, .slice (some ⟨w.heap.size, 0, none⟩) 1 1, 1, cur.toList⟩ vO O vA rA).reg := by
  have hN := CSt.le h
  refine h.putX (r := ⟨e, z, .slice (some ⟨w.heap.size, 0, none⟩) 1 1, 1, cur.toList⟩) (own_obj (heap_alloc_new _ _) hN.1 (by omega) hs) (fun b hb _ => ((Below.refl _ _).alloc (Nat.le_refl _) _).block b hb) (fun b hb => ?_)
  obtain rfl : w.heap.size = b := by simpa [Value.ownBlock] using hb
  exact .inr (Nat.le_refl _)
/-- The box written. -/
theorem CSt.setX {X c m k : Nat} {e : TypeId} {cs : List Value} (h : AllR w N (CG.mk n gA ⟨e, k, .slice (some ⟨X, 0, none⟩) m c, m, cs⟩ vO O vA rA).reg) (j : Nat) (u : Value) :
    AllR (w.setCell ⟨X, j, none⟩ u) N (CG.mk n gA ⟨e, k, .slice (some ⟨X, 0, none⟩) m c, m, cs.set j u⟩ vO O vA rA).reg :=
  h.set (x := 1) (c := c) rfl j u rfl (fun y hy => by
    match y, hy with
    | 0, _ => rfl
    | 1, hy => exact absurd rfl hy
    | 2, _ => rfl
    | i + 3, _ => rfl)
end

/-- 'append(v, x)' of one int at a step of a region that draws. -/
theorem step_app1I {w : World} {base : Nat} {l : List Int} {v : Value} {ops : Array Oper} {o : Oper} {a : Act} {K : Act → World → Prop} {Q : Exit → Act → World → Prop} {E : Prop} (hgd : o.guard = none) (s x : Operand)
    (ho : o.op = .call { callee := .builtin .append, args := #[s, x], argTypes := #[22, 22] }) (hs : a.eval s = v) (y : Int) (n : Nat) (g0 : Nat)
    (hx : a.eval x = .slice (some ⟨g0, 0, none⟩) 1 1) (hown : w.ownsRow base 3 1 v n (ints l)) (hlit : w.heap[g0]? = some (.cells #[.int .i64 y] 3)) (hlen : n < 1000000) (hbase : base ≤ w.heap.size)
    (h : ∀ g cap w', w'.ownsRow base 3 1 (.slice (some ⟨g, 0, none⟩) (n + 1) cap) (n + 1) (ints (l ++ [y])) → w.grownBy w' v.ownBlock → (v.ownBlock = some g ∨ g = w.heap.size) → g < w'.heap.size →
      K (a.put o.dst (.slice (some ⟨g, 0, none⟩) (n + 1) cap)) w') :
    if Region.wanted o (yielded ops a.tmps) = true then Oper.wp Try.prog o a w K Q else E := by
  obtain ⟨i0, hi, hz0, hz1, hz2⟩ := info_parts Try.infoInt
  refine step_append_lies _ hgd s x 22 ho base 3 i0 (.int .i64 0) 1 8 Try.underlying22 hi hz0 hz1 hz2 rfl (by decide) v n (ints l) hs hown ⟨g0, 0, none⟩ 1 1 [.int .i64 y] hx rfl (World.news_of_block (cs := #[.int .i64 y]) hlit) (by simp [Value.oneCell']) (by decide)
    (by unfold maxLen; omega) (by omega) hbase _ rfl (fun g cap w' h1 h2 h3 h4 => h g cap w' (by simpa [ints] using h1) h2 h3 h4)

/-! slices.DeleteFunc with the closure of Code. -/
theorem own_cut {w : World} {B g n c J : Nat} {e : TypeId} {cs : List Value} (h : w.ownsRow B e 1 (.slice (some ⟨g, 0, none⟩) n c) n cs) (hJ : J ≤ n) : w.ownsRow B e 1 (.slice (some ⟨g, 0, none⟩) J c) J (cs.take J) := by
  have hl := h.1
  refine ⟨by rw [List.length_take]; omega, ?_⟩
  rcases h.2 with ⟨e1, _⟩ | ⟨g', cap, cur, e1, h1, h2, h3, h4, h5, h6⟩
  · cases e1
  · obtain ⟨rfl, rfl⟩ : g = g' ∧ c = cap := by injection e1 with e2 _ e3; injection e2 with e4; injection e4 with e5; exact ⟨e5, e3⟩
    refine .inr ⟨g, c, cur, rfl, h1, h2, by omega, h4, h5, ?_⟩
    rw [← h6, List.take_take]
    congr 1
    omega
set_option maxHeartbeats 1000000 in
theorem gives_any (v x : Int) (X : Nat) (W : World) (hc : W.cell? ⟨X, 0, none⟩ = some (.int .i64 v)) :
    FnGives Try.prog 97 #[.pointer (some ⟨X, 0, none⟩)] #[.int .i64 x] (.bool (decide (x = v))) W := by
  show Calls Try.prog 97 #[.int .i64 x, .pointer (some ⟨X, 0, none⟩)] W _
  have hd : (x == v) = decide (x = v) := by by_cases h : x = v <;> simp [h]
  rw [← hd]
  clear hd
  go_enter Try.func97, Try.ntmps97
  go_wp2
  go_ret
  exact ⟨rfl, 0, rfl⟩
theorem del_any {base g n cap X : Nat} {r : List Int} (v : Int) (w : World) (h : w.ownsRow base 3 1 (.slice (some ⟨g, 0, none⟩) n cap) n (ints r)) (hX : X < w.heap.size) (hne : X ≠ g) (hc : w.cell? ⟨X, 0, none⟩ = some (.int .i64 v)) (hn : n < 1000000) :
    Calls Try.prog 96 #[.slice (some ⟨g, 0, none⟩) n cap, .func (.func 97) #[] #[.pointer (some ⟨X, 0, none⟩)]] w fun e w' =>
      (∃ m, m = (r.filter (fun x => decide (x ≠ v))).length ∧ e = .returned (.slice (some ⟨g, 0, none⟩) m cap) ∧ w'.ownsRow base 3 1 (.slice (some ⟨g, 0, none⟩) m cap) m (ints (r.filter (fun x => decide (x ≠ v))))) ∧ w.grownBy w' (some g) := by
  have hl : r.length = n := by have := h.1; rw [ints_length] at this; omega
  subst hl
  rcases h.2 with ⟨e1, _⟩ | ⟨g', cap', cur, e1, hg, hh, hc1, hc2, hc3, hc4⟩
  · cases e1
  · obtain ⟨rfl, rfl⟩ : g = g' ∧ cap = cap' := by injection e1 with e2 _ e3; injection e2 with e4; injection e4 with e5; exact ⟨e5, e3⟩
    have eg : ∀ args w, (callFunc 97 args).run Try.prog w = .ok (.enter 97 args) w := enters_of Try.func97 (by kernel_rfl) rfl
    have hS := AnyE.slices_DeleteFunc Try.delI (Value.int .i64) (fun _ => rfl) (fun x => decide (x = v)) 97 #[.pointer (some ⟨X, 0, none⟩)] eg 0 Try.zeroValue3 g 0 cap r.toArray w
      (fun W x hb => gives_any v x X W ((hb.cell (p := ⟨X, 0, none⟩) hX).trans hc))
      (fun n os dk x _ => gives_any v x X _ (by
        unfold sortWorld
        rw [cell?_grow _ _ _ (by show X < (putRow _ _ _ _ _).heap.size; rw [size_putRow]; exact hX), cell?_putRow_other _ _ g 0 _ _ (Or.inl hne)]
        exact hc)) (holds_of_blockI hh (by simpa [ints] using hc4)) (by simp; omega) (by simpa using hc1)
    have hsz : r.toArray.size = r.length := by simp
    have htl : r.toArray.toList = r := by simp
    rw [hsz, htl] at hS
    have hff : (r.filter fun x => !decide (x = v)) = r.filter (fun x => decide (x ≠ v)) := by congr 1; funext x; simp
    rw [hff] at hS
    refine (show Calls _ _ _ _ _ from hS).mono ?_
    rintro e w' ⟨rfl, q, rfl⟩
    obtain ⟨F, hF⟩ : ∃ F, F = r.filter (fun x => decide (x ≠ v)) := ⟨_, rfl⟩
    have hFl : F.length ≤ r.length := by rw [hF]; exact List.length_filter_le _ _
    rw [← hF]
    have hown := ownsRow_sortedI (n := q) (os := #[]) (ss := r) (ts := F ++ List.replicate (r.length - F.length) 0) (by simp; omega) hg hh hc1 hc2 hc3
    have hgr := grownBy_sortedI (w := w) (g := g) (n := q) (os := #[]) (F ++ List.replicate (r.length - F.length) 0).toArray
    rw [grow_empty] at hown hgr
    refine ⟨⟨F.length, rfl, rfl, ?_⟩, hgr⟩
    have := own_cut hown hFl
    rw [← List.map_take, List.take_left] at this
    exact this
end Go.Proofs.Ytdmpbbgcifodeaa
