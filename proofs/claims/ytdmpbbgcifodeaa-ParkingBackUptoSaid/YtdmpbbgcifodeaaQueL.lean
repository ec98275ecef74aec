/-
  A queue beside another region; an append of one int.
-/
import Derived.Test.YtdmpbbgcifodeaaGridL
import Derived.Test.YtdmpbbgcifodeaaPaiL
import Derived.Test.YtdmpbbgcifodeaaTreM
import Derived.Deep.AppendLies
namespace Go.Proofs.Ytdmpbbgcifodeaa
open Go.RowKit

/-- 'append(v, x)' of one int, by what it leaves. -/
theorem wpList_app1I {w : World} {base : Nat} {l : List Int} {v : Value} {ops : Array Oper} {rest : List Oper} {o : Oper} {a : Act} {Q : Exit → Act → World → Prop} (hgd : o.guard = none) (s x : Operand)
    (ho : o.op = .call { callee := .builtin .append, args := #[s, x], argTypes := #[22, 22] }) (hs : a.eval s = v) (y : Int) {n : Nat}
    (hown : w.ownsRow base 3 1 v n (ints l)) (g0 : Nat) (hg0 : g0 = w.heap.size) (hx : a.eval x = .slice (some ⟨g0, 0, none⟩) 1 1) (hlen : n < 1000000) (hbase : base ≤ w.heap.size)
    (h : ∀ g cap w', w'.ownsRow base 3 1 (.slice (some ⟨g, 0, none⟩) (n + 1) cap) (n + 1) (ints (l ++ [y])) → (w.alloc (.cells #[.int .i64 y] 3)).grownBy w' v.ownBlock → (v.ownBlock = some g ∨ g = w.heap.size + 1) →
      wpList Try.prog ops Q rest (a.put o.dst (.slice (some ⟨g, 0, none⟩) (n + 1) cap)) w') :
    wpList Try.prog ops Q (o :: rest) a (w.alloc (.cells #[.int .i64 y] 3)) := by
  subst hg0
  obtain ⟨i0, hi, hz0, hz1, hz2⟩ := info_parts Try.infoInt
  refine wpList_append_lies _ hgd s x 22 ho base 3 i0 (.int .i64 0) 1 8 Try.underlying22 hi hz0 hz1 hz2 rfl (by decide) v n (ints l) hs (hown.alloc _) ⟨w.heap.size, 0, none⟩ 1 1 [.int .i64 y] hx rfl ?_ (by simp [Value.oneCell']) (by decide)
    (by unfold maxLen; omega) (by omega) (by simp; omega) _ rfl (fun g cap w' h1 h2 h3 _ => ?_)
  · intro j u hu
    match j, hu with
    | 0, hu => simp at hu; subst hu; simp [Addr.add]
  · exact h g cap w' (by simpa [ints] using h1) h2 (by simpa using h3)

/-- Two regions: any, and a queue. -/
def QG (r : Reg) (vQ : Value) (q : List Int) : Nat → Reg
  | 0 => r
  | 1 => ⟨3, 1, vQ, q.length, ints q⟩
  | _ => Reg.none 3
section
variable {w w' : World} {B : Nat} {r r' : Reg} {vQ vQ' : Value} {q q' : List Int}
theorem AllR.put0 (h : AllR w B (QG r vQ q)) (ho : r'.ok w' B) (hk : ∀ b, b < w.heap.size → r.v.ownBlock ≠ some b → w'.heap[b]? = w.heap[b]?) (hat : ∀ b, r'.v.ownBlock = some b → r.v.ownBlock = some b ∨ w.heap.size ≤ b) : AllR w' B (QG r' vQ q) :=
  h.upd (x := 0) ho (fun y hy => by
    match y, hy with
    | 0, hy => exact absurd rfl hy
    | 1, _ => rfl
    | y + 2, _ => rfl) hk hat
theorem AllR.put1 (h : AllR w B (QG r vQ q)) (ho : w'.ownsRow B 3 1 vQ' q'.length (ints q')) (hk : ∀ b, b < w.heap.size → vQ.ownBlock ≠ some b → w'.heap[b]? = w.heap[b]?) (hat : ∀ b, vQ'.ownBlock = some b → vQ.ownBlock = some b ∨ w.heap.size ≤ b) : AllR w' B (QG r vQ' q') :=
  h.upd (x := 1) ho (fun y hy => by
    match y, hy with
    | 0, _ => rfl
    | 1, hy => exact absurd rfl hy
    | y + 2, _ => rfl) hk hat
theorem AllR.qOwn (h : AllR w B (QG r vQ q)) : w.ownsRow B 3 1 vQ q.length (ints q) := h.own 1
/-- A queue begun. -/
theorem AllR.queue {c : Nat} (ho : r.ok w B) (hB : B ≤ w.heap.size) (z : Int) (hc : c = 1) : AllR (w.alloc (.cells #[.int .i64 z] 3)) B (QG r (.slice (some ⟨w.heap.size, 0, none⟩) 1 c) [z]) := by
  subst hc
  have h0 : AllR w B (QG r (.slice none 0 0) []) := by
    refine ⟨fun x => ?_, fun x y hxy => ?_⟩
    · match x with
      | 0 => exact ho
      | 1 => exact World.ownsRow_nil _ _ _ _
      | x + 2 => exact World.ownsRow_nil _ _ _ _
    · intro b h1 h2
      match x, y, hxy with
      | 0, 0, hxy => exact absurd rfl hxy
      | 0, 1, _ => simp [QG, Value.ownBlock] at h2
      | 0, y + 2, _ => simp [QG, Reg.none, Value.ownBlock] at h2
      | 1, _, _ => simp [QG, Value.ownBlock] at h1
      | x + 2, _, _ => simp [QG, Reg.none, Value.ownBlock] at h1
  refine h0.put1 (own_obj (heap_alloc_new _ _) hB (by omega) rfl) (fun b hb _ => ((Below.refl _ _).alloc (Nat.le_refl _) _).block b hb) (fun b hb => ?_)
  obtain rfl : w.heap.size = b := by simpa [Value.ownBlock] using hb
  exact .inr (Nat.le_refl _)
end
/-- The pairs told, and the queue. -/
abbrev TQ (vO : Value) (T : List Edge) (vQ : Value) (q : List Int) : Nat → Reg := QG ⟨81, 2, vO, T.length, pcells T⟩ vQ q
theorem grown_two {w w6 : World} {o : Obj} {v : Value} (hg : (w.alloc o).grownBy w6 v.ownBlock) : ∀ b, b < w.heap.size → v.ownBlock ≠ some b → w6.heap[b]? = w.heap[b]? := fun b hb hne =>
  (hg.block b (by simp; omega) (fun e => hne e.symm)).trans (((Below.refl _ _).alloc (Nat.le_refl _) o).block b hb)
theorem TQ.appT {w w6 : World} {B : Nat} {vO vQ : Value} {T : List Edge} {q : List Int} {o : Obj} {g c : Nat} {x : Edge} (h : AllR w B (TQ vO T vQ q))
    (ho : w6.ownsRow B 81 2 (.slice (some ⟨g, 0, none⟩) (T.length + 1) c) (T.length + 1) (pcells (T ++ [x]))) (hg : (w.alloc o).grownBy w6 vO.ownBlock) (hat : vO.ownBlock = some g ∨ g = w.heap.size + 1) :
    AllR w6 B (TQ (.slice (some ⟨g, 0, none⟩) (T.length + 1) c) (T ++ [x]) vQ q) := by
  refine h.put0 (r' := ⟨81, 2, .slice (some ⟨g, 0, none⟩) (T.length + 1) c, (T ++ [x]).length, pcells (T ++ [x])⟩) ?_ (grown_two hg) (fun b hb => ?_)
  · show w6.ownsRow _ _ _ _ (T ++ [x]).length _
    rw [List.length_append]; exact ho
  · obtain rfl : g = b := by simpa [Value.ownBlock] using hb
    exact hat.imp id (fun e => by omega)
theorem AllR.appQ {w w6 : World} {B : Nat} {r : Reg} {vQ : Value} {q : List Int} {o : Obj} {g c : Nat} {x : Int} (h : AllR w B (QG r vQ q))
    (ho : w6.ownsRow B 3 1 (.slice (some ⟨g, 0, none⟩) (q.length + 1) c) (q.length + 1) (ints (q ++ [x]))) (hg : (w.alloc o).grownBy w6 vQ.ownBlock) (hat : vQ.ownBlock = some g ∨ g = w.heap.size + 1) :
    AllR w6 B (QG r (.slice (some ⟨g, 0, none⟩) (q.length + 1) c) (q ++ [x])) := by
  refine h.put1 ?_ (grown_two hg) (fun b hb => ?_)
  · rw [List.length_append]; exact ho
  · obtain rfl : g = b := by simpa [Value.ownBlock] using hb
    exact hat.imp id (fun e => by omega)
theorem below_app {w0 w w6 : World} {B : Nat} {o : Obj} {v : Value} (hW : Below B w0 w) (hB : B ≤ w.heap.size) (hg : (w.alloc o).grownBy w6 v.ownBlock) (hlt : ∀ b, v.ownBlock = some b → B ≤ b) : Below B w0 w6 :=
  (hW.alloc hB o).grown hg (by simp; omega) hlt

end Go.Proofs.Ytdmpbbgcifodeaa
