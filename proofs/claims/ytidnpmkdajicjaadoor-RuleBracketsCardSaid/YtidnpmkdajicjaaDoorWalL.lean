/-
  rule.search while its rows are made.
-/
import Derived.Test.YtidnpmkdajicjaaDoorNatL
import Derived.Deep.RegionLaw
import Derived.BigRegion
namespace Go.Proofs.YtidnpmkdajicjaaDoor
open Go.RowKit LR

/-- 'append(v, u)' of one slice at a step of a region that draws: u was laid in a block of its own. -/
theorem step_pushE {w : World} {base : Nat} {hs : List Value} {v : Value} {ops : Array Oper} {o : Oper} {a : Act} {K : Act → World → Prop} {Q : Exit → Act → World → Prop} {E : Prop} (hgd : o.guard = none) (s x : Operand)
    (ho : o.op = .call { callee := .builtin .append, args := #[s, x], argTypes := #[33, 33] }) (hs' : a.eval s = v) (u : Value) (hu : u.oneCell' = true) (n : Nat) (g0 : Nat)
    (hx : a.eval x = .slice (some ⟨g0, 0, none⟩) 1 1) (hown : w.ownsRow base 22 1 v n hs) (hlit : w.heap[g0]? = some (.cells #[u] 22)) (hlen : n < 1000000) (hbase : base ≤ w.heap.size)
    (h : ∀ g cap w', w'.ownsRow base 22 1 (.slice (some ⟨g, 0, none⟩) (n + 1) cap) (n + 1) (hs ++ [u]) → w.grownBy w' v.ownBlock → (v.ownBlock = some g ∨ g = w.heap.size) → g < w'.heap.size →
      K (a.put o.dst (.slice (some ⟨g, 0, none⟩) (n + 1) cap)) w') :
    if Region.wanted o (yielded ops a.tmps) = true then Oper.wp Tryd.prog o a w K Q else E := by
  obtain ⟨i0, hi, hz0, hz1, hz2⟩ := info_parts Tryd.infoSlice
  refine step_append_lies _ hgd s x 33 ho base 22 i0 (.slice none 0 0) 1 24 Tryd.underlying33 hi hz0 hz1 hz2 rfl (by decide) v n hs hs' hown ⟨g0, 0, none⟩ 1 1 [u] hx rfl (World.news_of_block (cs := #[u]) hlit) (by simpa using hu) (by decide)
    (by unfold maxLen; omega) (by omega) hbase _ rfl (fun g cap w' h1 h2 h3 h4 => h g cap w' (by simpa using h1) h2 h3 h4)

/-- The struct with m rows so far. -/
def SK.bcells (K : SK) (m : Nat) (AR : Option Addr) (cR : Nat) : List Value :=
  [.slice K.Aa K.na K.ca, .slice K.Ab K.k K.cb, .slice K.Ac K.n K.cc, .slice AR m cR, .slice K.AL K.k K.cL, .slice (some ⟨K.gU, 0, none⟩) K.k K.k,
   .func (.func 17) #[] #[.pointer (some ⟨K.gN, 0, none⟩)]]
def SK.brow (K : SK) (gR : Nat → Nat) (r : Nat) : Value := .slice (some ⟨gR r, 0, none⟩) (K.fc r) (K.fc r)
def SK.breg (K : SK) (L Us : Nat → Nat) (q m : Nat) (AR : Option Addr) (cR : Nat) (gR : Nat → Nat) : Nat → Reg
  | 0 => ⟨55, 7, .slice (some ⟨K.b, 0, none⟩) 1 1, 1, K.bcells m AR cR⟩
  | 1 => ⟨22, 1, .slice AR m cR, m, (List.range m).map (K.brow gR)⟩
  | 2 => ⟨3, 1, .slice K.AL K.k K.cL, K.k, (List.range K.k).map (fun x => iv (L x))⟩
  | 3 => ⟨3, 1, .slice (some ⟨K.gU, 0, none⟩) K.k K.k, K.k, (List.range K.k).map (fun x => iv (Us x))⟩
  | 4 => ⟨3, 1, .slice (some ⟨K.gN, 0, none⟩) 1 1, 1, [iv q]⟩
  | r + 5 => if r < m then ⟨3, 1, K.brow gR r, K.fc r, (List.range (K.fc r)).map (fun _ => iv 0)⟩ else Reg.none 3
theorem breg_done {K : SK} {L Us : Nat → Nat} {q cR : Nat} {AR : Option Addr} {gR : Nat → Nat} (gO : Nat) :
    K.breg L Us q K.n AR cR gR = SK.reg { K with AR := AR, cR := cR, gR := gR, gO := gO } (fun _ _ => 0) L Us q := by
  funext x
  match x with
  | 0 => rfl
  | 1 => rfl
  | 2 => rfl
  | 3 => rfl
  | 4 => rfl
  | r + 5 => rfl

theorem zrow_list (n : Nat) : (madeCells #[Value.int .i64 0] n).toList = (List.range n).map (fun _ => iv 0) := by
  rw [toList_madeCells_one]
  apply List.ext_getElem (by simp)
  intro i h1 h2
  simp [iv]

/-- One row more: a block of zeros, a block that names it, the slice of rows grown, the struct's cell turned. -/
theorem breg_push {K : SK} {L Us : Nat → Nat} {q m cR : Nat} {AR : Option Addr} {gR : Nat → Nat} {w w5 : World} {B g2 c2 d : Nat} (h : AllR w B (K.breg L Us q m AR cR gR)) (hB : B ≤ w.heap.size) (hc : K.fc m ≤ 1000000)
    (hown : w5.ownsRow B 22 1 (.slice (some ⟨g2, 0, none⟩) (m + 1) c2) (m + 1) ((List.range m).map (K.brow gR) ++ [.slice (some ⟨w.heap.size, 0, none⟩) (K.fc m) (K.fc m)]))
    (hg : (((w.drewN d).alloc (.cells (madeCells #[Value.int .i64 0] (K.fc m)) 3)).alloc (.cells #[.slice (some ⟨w.heap.size, 0, none⟩) (K.fc m) (K.fc m)] 22)).grownBy w5 (Value.slice AR m cR).ownBlock)
    (hat : (Value.slice AR m cR).ownBlock = some g2 ∨ w.heap.size + 2 ≤ g2) :
    AllR (w5.setCell ⟨K.b, 3, none⟩ (.slice (some ⟨g2, 0, none⟩) (m + 1) c2)) B (K.breg L Us q (m + 1) (some ⟨g2, 0, none⟩) c2 (at1 gR m w.heap.size)) ∧ Below B w (w5.setCell ⟨K.b, 3, none⟩ (.slice (some ⟨g2, 0, none⟩) (m + 1) c2)) := by
  have hrow : ((w.drewN d).alloc (.cells (madeCells #[Value.int .i64 0] (K.fc m)) 3)).ownsRow B 3 1 (.slice (some ⟨w.heap.size, 0, none⟩) (K.fc m) (K.fc m)) (K.fc m) ((List.range (K.fc m)).map (fun _ => iv 0)) := by
    have := World.ownsRow_lit (e := 3) (size := 1) (base := B) (w.drewN d) (madeCells #[Value.int .i64 0] (K.fc m)) (K.fc m) hB (by unfold maxLen; omega) (by rw [size_madeCells]; simp)
    rwa [zrow_list] at this
  have h0 := h.drewN d
  have hm1 : K.breg L Us q m AR cR gR (m + 5) = Reg.none 3 := if_neg (Nat.lt_irrefl m)
  have h1 : AllR ((w.drewN d).alloc (.cells (madeCells #[Value.int .i64 0] (K.fc m)) 3)) B (fun y => if y = m + 5 then ⟨3, 1, .slice (some ⟨w.heap.size, 0, none⟩) (K.fc m) (K.fc m), K.fc m, (List.range (K.fc m)).map (fun _ => iv 0)⟩ else K.breg L Us q m AR cR gR y) := by
    refine h0.upd (x := m + 5) ?_ (fun y hy => if_neg hy) (fun b hb _ => heap_alloc_old _ _ hb) (fun b hb => ?_)
    · unfold Reg.ok
      simp only [if_true]
      exact hrow
    · rw [if_pos rfl] at hb
      obtain rfl : w.heap.size = b := by simpa [Value.ownBlock] using hb
      exact .inr (Nat.le_refl _)
  have h2 := h1.alloc (.cells #[.slice (some ⟨w.heap.size, 0, none⟩) (K.fc m) (K.fc m)] 22)
  have hz2 : (((w.drewN d).alloc (.cells (madeCells #[Value.int .i64 0] (K.fc m)) 3)).alloc (.cells #[.slice (some ⟨w.heap.size, 0, none⟩) (K.fc m) (K.fc m)] 22)).heap.size = w.heap.size + 2 := by
    show _ = (w.drewN d).heap.size + 2
    simp
  have h3 : AllR w5 B (fun y => if y = 1 then ⟨22, 1, .slice (some ⟨g2, 0, none⟩) (m + 1) c2, m + 1, (List.range m).map (K.brow gR) ++ [.slice (some ⟨w.heap.size, 0, none⟩) (K.fc m) (K.fc m)]⟩
      else if y = m + 5 then ⟨3, 1, .slice (some ⟨w.heap.size, 0, none⟩) (K.fc m) (K.fc m), K.fc m, (List.range (K.fc m)).map (fun _ => iv 0)⟩ else K.breg L Us q m AR cR gR y) := by
    refine h2.upd (x := 1) ?_ (fun y hy => if_neg hy) (fun b hb hne => hg.block b hb (fun e => hne ?_)) (fun b hb => ?_)
    · unfold Reg.ok
      simp only [if_true]
      exact hown
    · rw [if_neg (by omega)]; exact e.symm
    · rw [if_pos rfl] at hb
      obtain rfl : g2 = b := by simpa [Value.ownBlock] using hb
      rw [if_neg (by omega)]
      rcases hat with e | e
      · exact .inl e
      · exact .inr (by rw [hz2]; exact e)
  have hbB : B ≤ K.b := (h.lt (x := 0) (b := K.b) rfl).1
  have hbel : Below B w w5 := (((below_drewN (Below.refl B w) d).alloc hB _).alloc (by have : (w.drewN d).heap.size = w.heap.size := rfl; simp; omega) _).grown hg (by rw [hz2]; omega) (fun k hk => (h.lt (x := 1) hk).1)
  refine ⟨h3.set (x := 0) (g := K.b) (c := 1) (by rw [if_neg (by omega), if_neg (by omega)]; rfl) 3 _ ?_ (fun y hy => ?_), hbel.setCell (p := ⟨K.b, 3, none⟩) hbB _⟩
  · rw [if_neg (by omega), if_neg (by omega)]
    rfl
  · match y, hy with
    | 0, hy => exact absurd rfl hy
    | 1, _ =>
      rw [if_pos rfl]
      show Reg.mk _ _ _ _ _ = Reg.mk _ _ _ _ _
      congr 1
      rw [List.range_succ, List.map_append]
      congr 1
      · refine List.map_congr_left (fun r hr => ?_)
        have := List.mem_range.1 hr
        unfold SK.brow
        rw [at1_ne _ _ (by omega)]
      · simp [SK.brow, at1_self]
    | 2, _ => rw [if_neg (by omega), if_neg (by omega)]; rfl
    | 3, _ => rw [if_neg (by omega), if_neg (by omega)]; rfl
    | 4, _ => rw [if_neg (by omega), if_neg (by omega)]; rfl
    | r + 5, _ =>
      rw [if_neg (by omega)]
      show (if r < m + 1 then _ else _) = _
      by_cases e : r = m
      · subst e
        rw [if_pos (by omega), if_pos rfl]
        unfold SK.brow
        rw [at1_self]
      · rw [if_neg (show ¬ r + 5 = m + 5 by omega)]
        show _ = (if r < m then _ else _)
        by_cases c : r < m
        · rw [if_pos (by omega), if_pos c]
          unfold SK.brow
          rw [at1_ne _ _ e]
        · rw [if_neg (by omega), if_neg c]
/-- The struct as it is laid. -/
def mkK (a b c : List Nat) (A1 A2 A3 : Option Addr) (c1 c2 c3 gN bk : Nat) (AL : Option Addr) (gL cL gU : Nat) : SK :=
  { b := bk, Aa := A1, na := a.length, ca := c1, Ab := A2, cb := c2, Ac := A3, cc := c3, n := c.length, k := b.length, AR := none, gO := 0, cR := 0, AL := AL, gL := gL, cL := cL, gU := gU, gN := gN, gR := fun _ => 0, fa := at0 a, fc := at0 c }
theorem far_blk {u v : Value} (h : ∀ x y, u.ownBlock = some x → v.ownBlock = some y → x ≠ y) : Far u v := fun k h1 h2 => h k k h1 h2 rfl
theorem breg_start {K : SK} {L : Nat → Nat} {w : World} {B : Nat} (h0 : w.ownsRow B 55 7 (.slice (some ⟨K.b, 0, none⟩) 1 1) 1 (K.bcells 0 none 0))
    (h2 : w.ownsRow B 3 1 (.slice K.AL K.k K.cL) K.k ((List.range K.k).map (fun x => iv (L x)))) (h3 : w.ownsRow B 3 1 (.slice (some ⟨K.gU, 0, none⟩) K.k K.k) K.k ((List.range K.k).map (fun _ => iv 0)))
    (h4 : w.ownsRow B 3 1 (.slice (some ⟨K.gN, 0, none⟩) 1 1) 1 [iv 0]) (d1 : K.b ≠ K.gU) (d2 : K.b ≠ K.gN) (d3 : K.gU ≠ K.gN)
    (d4 : ∀ k, (Value.slice K.AL K.k K.cL).ownBlock = some k → k ≠ K.b ∧ k ≠ K.gU ∧ k ≠ K.gN) : AllR w B (K.breg L (fun _ => 0) 0 0 none 0 (fun _ => 0)) := by
  have e0 : ∀ x, (Value.slice (some ⟨K.b, 0, none⟩) 1 1).ownBlock = some x → x = K.b := fun x h => by simpa [Value.ownBlock] using h.symm
  have e3 : ∀ x, (Value.slice (some ⟨K.gU, 0, none⟩) K.k K.k).ownBlock = some x → x = K.gU := fun x h => by simpa [Value.ownBlock] using h.symm
  have e4 : ∀ x, (Value.slice (some ⟨K.gN, 0, none⟩) 1 1).ownBlock = some x → x = K.gN := fun x h => by simpa [Value.ownBlock] using h.symm
  refine ⟨fun x => ?_, fun x y hxy => ?_⟩
  · match x with
    | 0 => exact h0
    | 1 => exact World.ownsRow_nil _ _ _ _
    | 2 => exact h2
    | 3 => exact h3
    | 4 => exact h4
    | r + 5 => exact World.ownsRow_nil _ _ _ _
  · match x, y, hxy with
    | 1, _, _ => exact far_blk (fun x y h => by simp [SK.breg, Value.ownBlock] at h)
    | r + 5, _, _ => exact far_blk (fun x y h => by simp [SK.breg, Reg.none, Value.ownBlock] at h)
    | _, 1, _ => exact far_blk (fun x y _ h => by simp [SK.breg, Value.ownBlock] at h)
    | _, r + 5, _ => exact far_blk (fun x y _ h => by simp [SK.breg, Reg.none, Value.ownBlock] at h)
    | 0, 2, _ => exact far_blk (fun x y h h' => by have := e0 x h; have := d4 y h'; omega)
    | 0, 3, _ => exact far_blk (fun x y h h' => by have := e0 x h; have := e3 y h'; omega)
    | 0, 4, _ => exact far_blk (fun x y h h' => by have := e0 x h; have := e4 y h'; omega)
    | 2, 0, _ => exact far_blk (fun x y h h' => by have := e0 y h'; have := d4 x h; omega)
    | 2, 3, _ => exact far_blk (fun x y h h' => by have := e3 y h'; have := d4 x h; omega)
    | 2, 4, _ => exact far_blk (fun x y h h' => by have := e4 y h'; have := d4 x h; omega)
    | 3, 0, _ => exact far_blk (fun x y h h' => by have := e3 x h; have := e0 y h'; omega)
    | 3, 2, _ => exact far_blk (fun x y h h' => by have := e3 x h; have := d4 y h'; omega)
    | 3, 4, _ => exact far_blk (fun x y h h' => by have := e3 x h; have := e4 y h'; omega)
    | 4, 0, _ => exact far_blk (fun x y h h' => by have := e4 x h; have := e0 y h'; omega)
    | 4, 2, _ => exact far_blk (fun x y h h' => by have := e4 x h; have := d4 y h'; omega)
    | 4, 3, _ => exact far_blk (fun x y h h' => by have := e4 x h; have := e3 y h'; omega)
    | 0, 0, h => exact absurd rfl h
    | 2, 2, h => exact absurd rfl h
    | 3, 3, h => exact absurd rfl h
    | 4, 4, h => exact absurd rfl h

theorem rb_len {a : Nat → Nat} {i : Nat} : ∀ m, (rb a i m).length = m - a i
  | 0 => by simp [rb]
  | m + 1 => by
    by_cases h : m < a i
    · simp only [rb, h, if_true, List.length_nil]; omega
    · simp only [rb, h, if_false, List.length_cons, rb_len m]; omega
theorem rs_shift {f : Nat → Nat} : ∀ n, rs (n + 1) f = f 0 + rs n (fun r => f (r + 1))
  | 0 => by simp [rs]
  | n + 1 => by
    rw [rs, rs_shift n, rs]; omega
theorem bxs_len {a c : Nat → Nat} : ∀ (t i : Nat), (bxs a c t i (c i)).length = rs t (fun r => c (i + r) - a (i + r))
  | 0, _ => rfl
  | t + 1, i => by
    rw [bxs, List.length_append, rb_len, bxs_len t (i + 1), rs_shift]
    congr 1
    refine rs_congr (fun r _ => ?_)
    rw [show i + 1 + r = i + (r + 1) by omega]
theorem bxs_sum {a c : List Nat} (h : within a c) : (bxs (at0 a) (at0 c) c.length 0 (at0 c 0)).length + a.sum = c.sum := by
  rw [bxs_len, lsum_rs c, lsum_rs a, ← rs_cut h.1, ← rs_add]
  refine rs_congr (fun r _ => ?_)
  rw [Nat.zero_add]
  by_cases x : r < a.length
  · have := h.2 r x; simp only [x, if_true]; omega
  · rw [if_neg x, at0_far (show a.length ≤ r by omega)]; omega
theorem own_val {w : World} {B n z : Nat} {e : TypeId} {v : Value} {cs : List Value} (h : w.ownsRow B e z v n cs) : ∃ A c g, v = .slice A n c ∧ (0 < n → A = some ⟨g, 0, none⟩) := by
  rcases h.2 with ⟨e1, e2⟩ | ⟨g, c, _, e1, _⟩
  · exact ⟨none, 0, 0, by rw [e1, e2], fun h => by omega⟩
  · exact ⟨some ⟨g, 0, none⟩, c, g, e1, fun _ => rfl⟩
theorem frozen_of_blockE {w w' : World} {b : Nat} (h : w'.heap[b]? = w.heap[b]?) {o : Nat} : w'.frozen? ⟨b, o, none⟩ = w.frozen? ⟨b, o, none⟩ := by
  unfold World.frozen?
  rw [h]
theorem lit2' (w : World) (o o' : Obj) : ((w.alloc o).alloc o').heap[w.heap.size + 1]? = some o' := by
  have := heap_alloc_new (w.alloc o) o'
  simpa using this
theorem fac16 : fac 16 ≤ 4611686018427387904 := by decide
end Go.Proofs.YtidnpmkdajicjaaDoor
