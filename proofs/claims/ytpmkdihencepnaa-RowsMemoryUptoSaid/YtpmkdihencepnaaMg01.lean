/-
  Words for slices and for memory that a call makes: plain lemmas over the kit's own, used by all walks of this seat.
-/
import Derived.Test.YtpmkdihencepnaaProg
import Derived.WalkKit
import Derived.WalkSpells
import Derived.WalkLawsBesides
import Derived.BigQuiet
import Derived.Deep.QuietTactic
import Derived.Deep.AppendLies
import Derived.Deep.LoopGhost
import Derived.Deep.DeepMust
import Derived.Deep.DeepCutAuto
import Derived.Deep.CutBlock
import Derived.Lib.Hide
import Derived.OwnWalk
import Derived.Deep.Onto
namespace Go.Proofs.Ytpmkdihencepnaa
open Go.RowKit

theorem Try.infoInt : (Try.prog.info? 3).map (fun i => (i.zero, i.size, i.bytes)) = some (some (.int .i64 0), 1, 8) := by kernel_rfl

/-- A slice value that reads as a list of cells, all of them below block B. -/
def Sl (w : World) (B : Nat) (A : Option Addr) (cs : List Value) : Prop :=
  0 < cs.length → ∃ b o, A = some ⟨b, o, none⟩ ∧ b < B ∧ ∀ k u, cs[k]? = some u → w.cell? ⟨b, o + k, none⟩ = some u

def ints (xs : List Int) : List Value := xs.map (Value.int .i64)

section
variable {w w' : World} {B B' : Nat} {A : Option Addr} {cs : List Value} {xs : List Int}

theorem ints_length : (ints xs).length = xs.length := by simp [ints]
theorem getD_getI {k : Nat} (h : k < xs.length) : xs.getD k 0 = xs[k] := by simp [h]
theorem ints_get {k : Nat} (h : k < xs.length) : (ints xs)[k]? = some (.int .i64 xs[k]) := by simp [ints, h]
theorem ints_one : ∀ u ∈ ints xs, u.oneCell' = true := ints_oneCell _ _

theorem Sl.below (h : Sl w B A cs) (hb : Below B w w') : Sl w' B A cs := fun hn => by
  obtain ⟨b, o, e, hlt, hc⟩ := h hn
  exact ⟨b, o, e, hlt, fun k u hk => (hb.cell (by exact hlt)).trans (hc k u hk)⟩
theorem Sl.more (h : Sl w B A cs) (hB : B ≤ B') : Sl w B' A cs := fun hn => by
  obtain ⟨b, o, e, hlt, hc⟩ := h hn
  exact ⟨b, o, e, by omega, hc⟩
theorem Sl.nil (w : World) (B : Nat) (A : Option Addr) : Sl w B A [] := fun h => absurd h (by simp)
/-- The cell at k of a slice of ints. -/
theorem Sl.at_ {k : Nat} (h : Sl w B A (ints xs)) (hk : k < xs.length) :
    ∃ b o, A = some ⟨b, o, none⟩ ∧ b < B ∧ w.cell? ⟨b, o + k, none⟩ = some (.int .i64 xs[k]) := by
  obtain ⟨b, o, e, hlt, hc⟩ := h (by rw [ints_length]; omega)
  exact ⟨b, o, e, hlt, hc k _ (ints_get hk)⟩
/-- The cell at k, where the slice is known to lie. -/
theorem getD_cell {b o : Nat} (h : Sl w B (some ⟨b, o, none⟩) (ints xs)) {k : Nat} (hk : k < xs.length) : w.cell? ⟨b, o + k, none⟩ = some (.int .i64 (xs.getD k 0)) := by
  obtain ⟨b', o', e1, _, hc'⟩ := h.at_ hk
  obtain ⟨rfl, rfl⟩ : b = b' ∧ o = o' := by simpa using e1
  rw [getD_getI hk]; exact hc'
/-- Where it lies. -/
theorem Sl.addr (h : Sl w B A (ints xs)) (hp : 0 < xs.length) : ∃ b o, A = some ⟨b, o, none⟩ ∧ b < B := by
  obtain ⟨b, o, e, hlt, _⟩ := h.at_ hp
  exact ⟨b, o, e, hlt⟩
theorem Sl.of_own {base n cap : Nat} {e : TypeId} (h : w.ownsRow base e 1 (.slice A n cap) n cs) : Sl w w.heap.size A cs := fun hn => by
  have hl := h.1
  obtain ⟨g, c, hv, _, hlt⟩ := h.form (by omega)
  injection hv with hA
  subst hA
  refine ⟨g, 0, rfl, hlt, fun k u hk => ?_⟩
  have := h.cells (g := g) rfl k u hk
  rwa [Addr.add_lit] at this

theorem below_drewN {a : World} (h : Below B a w) (n : Nat) : Below B a (w.drewN n) := ⟨h.os, h.tape, h.output, h.size, h.block⟩
/-- A call behind what has been done so far; a new block behind it. -/
theorem below_call {B0 : Nat} {a b c : World} (h : Below B0 a b) (hB : B0 ≤ a.heap.size) (hb : Below b.heap.size b c) : Below B0 a c := h.trans (hb.mono (Nat.le_trans hB h.size))
theorem below_lay {B0 : Nat} {a b : World} (h : Below B0 a b) (hB : B0 ≤ a.heap.size) (o : Obj) : Below B0 a (b.alloc o) := h.alloc (Nat.le_trans hB h.size) o
theorem Sl.now (h : Sl w B A cs) (hb : Below B w w') (hB : B ≤ w.heap.size) : Sl w' w'.heap.size A cs := (h.below hb).more (Nat.le_trans hB hb.size)
/-- A slice that a call gave, behind more. -/
theorem Sl.keep (h : Sl w w.heap.size A cs) (hb : Below w.heap.size w w') : Sl w' w'.heap.size A cs := (h.below hb).more hb.size
theorem own_drew {base n : Nat} {e : TypeId} {v : Value} (h : w.ownsRow base e 1 v n cs) : w.drew.ownsRow base e 1 v n cs := h
theorem own_set {base n g cap : Nat} {e : TypeId} (h : w.ownsRow base e 1 (.slice (some ⟨g, 0, none⟩) n cap) n (ints xs)) (j : Nat) (y : Int) :
    (w.setCell ⟨g, j, none⟩ (.int .i64 y)).ownsRow base e 1 (.slice (some ⟨g, 0, none⟩) n cap) n (ints (xs.set j y)) := by
  have := (h.stored j (.int .i64 y)).1
  rwa [ints, ← List.map_set] at this
theorem own_drewN {base n : Nat} {e : TypeId} {v : Value} (h : w.ownsRow base e 1 v n cs) (k : Nat) : (w.drewN k).ownsRow base e 1 v n cs := h

/-- What a row that is owned has room for. -/
theorem own_cap {base n g c : Nat} {e : TypeId} (h : w.ownsRow base e 1 (.slice (some ⟨g, 0, none⟩) n c) n cs) : n ≤ c ∧ c ≤ 9223372036854775807 := by
  rcases h.2 with ⟨e1, _⟩ | ⟨g', c', _, e1, _, _, e2, e3, _⟩
  · cases e1
  · obtain ⟨_, rfl⟩ : g = g' ∧ c = c' := by simpa using e1
    exact ⟨e2, by simpa [maxLen] using e3⟩
theorem mid_get {α : Type} {L pre post : List α} {z : α} {i : Nat} (h : L = pre ++ z :: post) (hi : pre.length = i) : L[i]? = some z := by
  subst h; subst hi; simp
/-- The cell at i of a row that is owned. -/
theorem own_get {base n g c : Nat} {e : TypeId} (h : w.ownsRow base e 1 (.slice (some ⟨g, 0, none⟩) n c) n (ints xs)) {i : Nat} {z : Int} (hz : xs[i]? = some z) : w.cell? ⟨g, i, none⟩ = some (.int .i64 z) := by
  obtain ⟨hi, e1⟩ := List.getElem?_eq_some_iff.1 hz
  have hl := h.1
  rw [ints_length] at hl
  rw [h.cellAt i (by omega), ints_get hi, e1]
theorem own_below {base n : Nat} {e : TypeId} {v : Value} (h : w.ownsRow base e 1 v n cs) (hb : Below w.heap.size w w') : w'.ownsRow base e 1 v n cs := by
  refine ⟨h.1, ?_⟩
  rcases h.2 with hn | ⟨g, cap, cur, rfl, hg, hh, rest⟩
  · exact .inl hn
  · exact .inr ⟨g, cap, cur, rfl, hg, (hb.block g (Array.getElem?_eq_some_iff.1 hh).1).trans hh, rest⟩
end

section
variable {w w' w0 : World} {B base : Nat} {A : Option Addr} {cs : List Value} {l xs : List Int} {v : Value}

/-- append of a slice that may be nil, empty or not, onto a slice that the call owns. -/
theorem run_app (t ty e : TypeId) (i : TypeInfo) (z : Value) (bytes : Nat) (ht : Try.prog.underlying t = some (.slice e)) (hi : Try.prog.info? e = some i) (hz : i.zero = some z)
    (hsize : i.size = 1) (hby : i.bytes = bytes) (hzs : z.cells.size = 1) (n : Nat) (ys : List Value) (hown : w.ownsRow base e 1 v n ys)
    (c : Nat) (hr : Sl w B A cs) (h1 : ∀ u ∈ cs, u.oneCell' = true) (h63 : n + cs.length ≤ maxLen) (hbytes : (n + cs.length) * bytes ≤ 140737488355328) (hbase : base ≤ w.heap.size) :
    ∃ v' w', (Builtin.append_ #[t, t] ty #[v, .slice A cs.length c]).run Try.prog w = .ok v' w' ∧ w'.ownsRow base e 1 v' (n + cs.length) (ys ++ cs) ∧ w.grownBy w' v.ownBlock := by
  by_cases hn : 0 < cs.length
  · obtain ⟨b, o, rfl, hb, hc⟩ := hr hn
    obtain ⟨v', w', h2, h3, h4, _⟩ := run_append_own (P := Try.prog) w base t ty e i z 1 bytes ht hi hz hsize hby hzs (by omega) v n ys hown ⟨b, o, none⟩ cs.length c cs (by omega)
      (fun j u hu => by rw [Addr.add_lit]; exact hc j u hu) h1 h63 hbytes hbase
    exact ⟨v', w', h2, h3, h4⟩
  · obtain rfl : cs = [] := List.eq_nil_of_length_eq_zero (by omega)
    refine ⟨v, w, ?_, by simpa using hown, World.grownBy.refl _ _⟩
    rcases hown.2 with ⟨rfl, rfl⟩ | ⟨g, cap, cur, rfl, _, _, hnc, _⟩
    · cases A <;> simp [Builtin.append_, run_underlying ht, sizeOf, typeInfo, hi, Builtin.lenOf, Builtin.firstCells, loadCells, loadCellsFrom]
    · cases A <;> simp [Builtin.append_, run_underlying ht, sizeOf, typeInfo, hi, Builtin.lenOf, Builtin.firstCells, loadCells, loadCellsFrom, hnc, storeCells]

theorem own_ge {e : TypeId} {n : Nat} (h : w.ownsRow base e 1 v n cs) (hB : B ≤ base) : ∀ k, v.ownBlock = some k → B ≤ k := fun k hk => by have := (h.lt k hk).1; omega

/-- 'append(v, x)' of one int: x was laid in a block of its own. -/
theorem wpList_app1 {ops : Array Oper} {rest : List Oper} {o : Oper} {a : Act} {Q : Exit → Act → World → Prop} (hgd : o.guard = none) (s x : Operand)
    (ho : o.op = .call { callee := .builtin .append, args := #[s, x], argTypes := #[26, 26] }) (hs : a.eval s = v) (y : Int) {n : Nat}
    (hown : w.ownsRow base 3 1 v n (ints l)) (hx : a.eval x = .slice (some ⟨w.heap.size, 0, none⟩) 1 1) (hlen : n < 1000000) (hbase : base ≤ w.heap.size)
    (h : ∀ g cap w', w'.ownsRow base 3 1 (.slice (some ⟨g, 0, none⟩) (n + 1) cap) (n + 1) (ints (l ++ [y])) → Below base w w' →
      wpList Try.prog ops Q rest (a.put o.dst (.slice (some ⟨g, 0, none⟩) (n + 1) cap)) w') :
    wpList Try.prog ops Q (o :: rest) a (w.alloc (.cells #[.int .i64 y] 3)) := by
  obtain ⟨i0, hi, hz0, hz1, hz2⟩ := info_parts Try.infoInt
  refine wpList_append_lies _ hgd s x 26 ho base 3 i0 (.int .i64 0) 1 8 Try.underlying26 hi hz0 hz1 hz2 rfl (by decide) v n (ints l) hs (hown.alloc _) ⟨w.heap.size, 0, none⟩ 1 1 [.int .i64 y] hx rfl ?_ (by simp [Value.oneCell']) (by decide)
    (by unfold maxLen; omega) (by omega) (by simp; omega) _ rfl (fun g cap w' h1 h2 _ _ => ?_)
  · intro j u hu
    match j, hu with
    | 0, hu => simp at hu; subst hu; simp [Addr.add]
  · refine h g cap w' (by simpa [ints] using h1) (((Below.refl _ _).alloc hbase _).grown h2 (by simp; omega) (own_ge hown (Nat.le_refl _)))

/-- 'make([]int, n)'. -/
theorem wpList_mk {ops : Array Oper} {rest : List Oper} {o : Oper} {a : Act} {Q : Exit → Act → World → Prop} (hgd : o.guard = none) (s x : Operand)
    (ho : o.op = Op.makeSlice 26 s x) (n : Nat) (hs : a.eval s = .int .i64 n) (hx : a.eval x = .int .i64 n) (hlen : n < 1000000) (hbase : base ≤ w.heap.size)
    (h : ∀ w', w'.ownsRow base 3 1 (.slice (some ⟨w.heap.size, 0, none⟩) n n) n (ints (List.replicate n 0)) → Below w.heap.size w w' → w'.heap.size = w.heap.size + 1 →
      wpList Try.prog ops Q rest (a.put o.dst (.slice (some ⟨w.heap.size, 0, none⟩) n n)) w') :
    wpList Try.prog ops Q (o :: rest) a w := by
  obtain ⟨i0, hi, hz0, hz1, hz2⟩ := info_parts Try.infoInt
  have hrun := run_make (P := Try.prog) w 26 3 i0 (.int .i64 0) Try.underlying26 hi hz0 .i64 .i64 n n (by omega) (by omega) (by rw [hz2]; omega) (by omega)
  refine wpList_plain hgd fun K hK => ?_
  unfold Oper.wp
  simp [execOp, ho, hs, hx, hrun, Result.andThen]
  refine hK _ _ (h _ ?_ ((Below.refl _ _).alloc (Nat.le_refl _) _) (by simp))
  have := World.ownsRow_lit (e := 3) (size := 1) (base := base) w (madeCells (Value.int .i64 0).cells (n * i0.size)) n hbase (by unfold maxLen; omega) (by rw [size_madeCells, hz1])
  have e : (madeCells (Value.int .i64 0).cells (n * i0.size)).toList = ints (List.replicate n 0) := by
    rw [hz1]; simp [Value.cells, toList_madeCells_one, ints]
  rwa [e] at this

/-- 'append(v, ws...)' of ints. -/
theorem wpList_app {ops : Array Oper} {rest : List Oper} {o : Oper} {a : Act} {Q : Exit → Act → World → Prop} (hgd : o.guard = none) (s x : Operand)
    (ho : o.op = .call { callee := .builtin .append, args := #[s, x], argTypes := #[26, 26] }) (hs : a.eval s = v)
    (hown : w.ownsRow base 3 1 v l.length (ints l)) (c : Nat) (hx : a.eval x = .slice A xs.length c) (hr : Sl w B A (ints xs)) (hlen : l.length + xs.length < 1000000) (hbase : base ≤ w.heap.size)
    (h : ∀ v' w', w'.ownsRow base 3 1 v' (l ++ xs).length (ints (l ++ xs)) → Below base w w' → wpList Try.prog ops Q rest (a.put o.dst v') w') :
    wpList Try.prog ops Q (o :: rest) a w := by
  obtain ⟨i0, hi, hz0, hz1, hz2⟩ := info_parts Try.infoInt
  have e : (ints xs).length = xs.length := ints_length
  obtain ⟨v', w', hrun, h2, h3⟩ := run_app 26 o.type 3 i0 (.int .i64 0) 8 Try.underlying26 hi hz0 hz1 hz2 rfl l.length (ints l) hown c hr ints_one (by unfold maxLen; omega) (by omega) hbase
  rw [e] at hrun h2
  refine wpList_plain hgd fun K hK => ?_
  unfold Oper.wp execOp
  simp only [ho, resolve, invoke, builtin, Sem.run_bind, Sem.run_pure, Result.andThen_ok, List.map_toArray, List.map_cons, List.map_nil, hs, hx, hrun]
  exact hK _ _ (h v' w' (by simpa [ints] using h2) ((Below.refl _ _).grown h3 hbase (own_ge hown (Nat.le_refl _))))
end

end Go.Proofs.Ytpmkdihencepnaa

/-
  Small plain lemmas on lists (no program in sight).
-/
namespace Go.Proofs.Ytpmkdihencepnaa

theorem getD_get {α : Type} {xs : List α} {i : Nat} {d : α} (h : i < xs.length) : xs.getD i d = xs[i] := by simp [h]

theorem getD_far {α : Type} {xs : List α} {i : Nat} {d : α} (h : xs.length ≤ i) : xs.getD i d = d := by simp [h]

theorem nodup_get {α : Type} {l : List α} (h : l.Nodup) {i j : Nat} (hi : i < l.length) (hj : j < l.length) (e : l[i] = l[j]) : i = j :=
  (List.getElem_inj h).1 e

theorem take_snoc {α : Type} {xs : List α} {k : Nat} (h : k < xs.length) : xs.take (k + 1) = xs.take k ++ [xs[k]] := by
  rw [List.take_succ_eq_append_getElem h]

theorem nodup_snoc {α : Type} {xs : List α} {x : α} : (xs ++ [x]).Nodup ↔ xs.Nodup ∧ x ∉ xs := by
  rw [List.nodup_append]
  simp
  intro _
  constructor
  · intro h hx; exact h x hx rfl
  · intro h a ha e; subst e; exact h ha

theorem getLastD_get {α : Type} {l : List α} {d : α} (h : 0 < l.length) : l.getLastD d = l[l.length - 1] := by
  rw [List.getLastD_eq_getLast?, List.getLast?_eq_getElem?, List.getElem?_eq_getElem (by omega)]; rfl

/-- Induction from behind. -/
theorem snoc_ind {α : Type} {motive : List α → Prop} (nil : motive []) (snoc : ∀ (l : List α) (x : α), motive l → motive (l ++ [x])) (l : List α) : motive l := by
  have key : ∀ (n : Nat) (l : List α), l.length = n → motive l := by
    intro n
    induction n with
    | zero => intro l h; rw [List.eq_nil_of_length_eq_zero h]; exact nil
    | succ n ih =>
      intro l h
      have hne : l ≠ [] := by intro e; rw [e] at h; cases h
      rw [← List.dropLast_concat_getLast hne]
      exact snoc _ _ (ih _ (by simp [h]))
  exact key _ l rfl

theorem getLastD_ne {α : Type} {l : List α} (h : l ≠ []) (d d' : α) : l.getLastD d = l.getLastD d' := by
  have := List.length_pos_iff.2 h
  rw [getLastD_get this, getLastD_get this]

end Go.Proofs.Ytpmkdihencepnaa

/-
  slices.Clone of ints; perms.Letters; ferref.Size.
-/
namespace Go.Proofs.Ytpmkdihencepnaa
open Go.RowKit

set_option maxHeartbeats 400000 in
theorem clone_any (A : Option Addr) (cap : Nat) (xs : List Int) (w : World) (hl : xs.length < 1000000) (h : Sl w w.heap.size A (ints xs)) :
    Calls Try.prog 75 #[.slice A xs.length cap] w fun e w' => ∃ v, e = .returned v ∧ w'.ownsRow w.heap.size 3 1 v xs.length (ints xs) ∧ Below w.heap.size w w' := by
  rcases A with _ | ad
  · have hx : xs = [] := by
      by_cases hp : 0 < xs.length
      · obtain ⟨b, o, e, _⟩ := h.at_ hp
        cases e
      · exact List.eq_nil_of_length_eq_zero (by omega)
    subst hx
    have he := fun w => Lib.run_eql_slice_nil (P := Try.prog) w 26 3 none 0 cap 0 0 Try.underlying26
    go_enter Try.func75, Try.ntmps75
    go_wp2
    go_ret
    exact ⟨_, rfl, World.ownsRow_nil _ _ _ _, Below.refl _ _⟩
  · have he := fun w => Lib.run_eql_slice_nil (P := Try.prog) w 26 3 (some ad) xs.length cap 0 0 Try.underlying26
    go_enter Try.func75, Try.ntmps75
    go_wp2_with (at_builtin; refine wpList_app (l := []) rfl (.tmp 5) (.tmp 6) rfl rfl (World.ownsRow_lit w #[] 0 (Nat.le_refl _) (by decide) rfl) cap rfl (h.below ((Below.refl _ _).alloc (Nat.le_refl _) _)) (by simp; omega) (by simp) (fun v3 w3 hv3 hb3 => ?_))
    go_ret
    exact ⟨_, rfl, by simpa using hv3, ((Below.refl _ _).alloc (Nat.le_refl _) _).trans hb3⟩

end Go.Proofs.Ytpmkdihencepnaa

/-
  ferlaw.Same, literals, owned rows (printed by wip/mkA.py).
-/
namespace Go.Proofs.Ytpmkdihencepnaa
open Go.RowKit

/-- A value that owns a row, as a slice that reads. -/
theorem own_sliceA {w : World} {base n : Nat} {v : Value} {xs : List Int} (h : w.ownsRow base 3 1 v n (ints xs)) : ∃ A c, v = .slice A xs.length c ∧ n = xs.length ∧ Sl w w.heap.size A (ints xs) ∧ xs.length ≤ c ∧ c ≤ 9223372036854775807 := by
  have hl : xs.length = n := by have := h.1; rw [ints_length] at this; omega
  subst hl
  rcases h.2 with ⟨e1, e2⟩ | ⟨g, c, _, e1, _⟩
  · refine ⟨none, 0, by rw [e2]; exact e1, rfl, ?_, by omega, by omega⟩
    rw [List.eq_nil_of_length_eq_zero e2]; exact Sl.nil _ _ _
  · rw [e1] at h
    exact ⟨_, c, e1, rfl, Sl.of_own h, (own_cap h).1, (own_cap h).2⟩
end Go.Proofs.Ytpmkdihencepnaa

/-
  Slices of slices of ints: read; built by the call itself (printed by wip/mkA.py).
-/
namespace Go.Proofs.Ytpmkdihencepnaa
open Go.RowKit

/-- A slice value '.slice A rows.length cap' that reads as rows, all below block B. -/
def SR (w : World) (B : Nat) (A : Option Addr) (rows : List (List Int)) : Prop :=
  ∃ hs : List Value, hs.length = rows.length ∧ Sl w B A hs ∧ ∀ r, r < rows.length → ∃ Ar cr, hs[r]? = some (.slice Ar (rows.getD r []).length cr) ∧ Sl w B Ar (ints (rows.getD r [])) ∧ (rows.getD r []).length ≤ 9223372036854775807

section
variable {w w' : World} {B B' : Nat} {A : Option Addr} {rows : List (List Int)}
theorem SR.below (h : SR w B A rows) (hb : Below B w w') : SR w' B A rows := by
  obtain ⟨hs, h1, h2, h3⟩ := h
  exact ⟨hs, h1, h2.below hb, fun r hr => by obtain ⟨Ar, cr, a, b, c⟩ := h3 r hr; exact ⟨Ar, cr, a, b.below hb, c⟩⟩
theorem SR.more (h : SR w B A rows) (hB : B ≤ B') : SR w B' A rows := by
  obtain ⟨hs, h1, h2, h3⟩ := h
  exact ⟨hs, h1, h2.more hB, fun r hr => by obtain ⟨Ar, cr, a, b, c⟩ := h3 r hr; exact ⟨Ar, cr, a, b.more hB, c⟩⟩
theorem SR.now (h : SR w B A rows) (hb : Below B w w') (hB : B ≤ w.heap.size) : SR w' w'.heap.size A rows := (h.below hb).more (Nat.le_trans hB hb.size)
theorem SR.keep (h : SR w w.heap.size A rows) (hb : Below w.heap.size w w') : SR w' w'.heap.size A rows := (h.below hb).more hb.size
theorem SR.nil (w : World) (B : Nat) (A : Option Addr) : SR w B A [] := ⟨[], rfl, Sl.nil _ _ _, fun r hr => by simp at hr⟩
/-- Where it lies. -/
theorem SR.addr (h : SR w B A rows) (hp : 0 < rows.length) : ∃ b o, A = some ⟨b, o, none⟩ ∧ b < B := by
  obtain ⟨hs, h1, h2, _⟩ := h
  obtain ⟨b, o, e, hlt, _⟩ := h2 (by omega)
  exact ⟨b, o, e, hlt⟩
/-- The r-th row. -/
theorem SR.at_ {b o : Nat} (h : SR w B (some ⟨b, o, none⟩) rows) {r : Nat} (hr : r < rows.length) :
    ∃ Ar cr, w.cell? ⟨b, o + r, none⟩ = some (.slice Ar (rows.getD r []).length cr) ∧ Sl w B Ar (ints (rows.getD r [])) ∧ (rows.getD r []).length ≤ 9223372036854775807 := by
  obtain ⟨hs, h1, h2, h3⟩ := h
  obtain ⟨Ar, cr, a, b', c⟩ := h3 r hr
  obtain ⟨b1, o1, e1, _, hc⟩ := h2 (by omega)
  obtain ⟨rfl, rfl⟩ : b = b1 ∧ o = o1 := by simpa using e1
  exact ⟨Ar, cr, hc r _ a, b', c⟩
end

/-- Two values that own no block together. -/
def Far (v u : Value) : Prop := ∀ k, v.ownBlock = some k → u.ownBlock ≠ some k
theorem Far.symm {u v : Value} (h : Far u v) : Far v u := fun k h1 h2 => h k h2 h1
theorem Far.ne {u v : Value} (h : Far u v) : v.ownBlock = none ∨ v.ownBlock ≠ u.ownBlock := by
  cases e : v.ownBlock with
  | none => exact .inl rfl
  | some k => exact .inr (fun h2 => h k h2.symm e)

/-- A slice of slices of ints that the call owns, hs the rows' values. -/
structure OwnM (w : World) (B : Nat) (v : Value) (hs : List Value) (rows : List (List Int)) : Prop where
  len : hs.length = rows.length
  out : w.ownsRow B 26 1 v rows.length hs
  inn : ∀ r, r < rows.length → w.ownsRow B 3 1 (hs.getD r undef) (rows.getD r []).length (ints (rows.getD r []))
  far : ∀ r s, r < rows.length → s < rows.length → r ≠ s → Far (hs.getD r undef) (hs.getD s undef)
  top : ∀ r, r < rows.length → Far v (hs.getD r undef)

section
variable {w w' : World} {B : Nat} {v : Value} {hs : List Value} {rows : List (List Int)}
theorem OwnM.nil (w : World) (B : Nat) : OwnM w B (.slice none 0 0) [] [] :=
  ⟨rfl, World.ownsRow_nil _ _ _ _, fun r hr => by simp at hr, fun r s hr => by simp at hr, fun r hr => by simp at hr⟩
theorem OwnM.below (h : OwnM w B v hs rows) (hb : Below w.heap.size w w') : OwnM w' B v hs rows :=
  ⟨h.len, own_below h.out hb, fun r hr => own_below (h.inn r hr) hb, h.far, h.top⟩
theorem OwnM.alloc (h : OwnM w B v hs rows) (o : Obj) : OwnM (w.alloc o) B v hs rows :=
  ⟨h.len, h.out.alloc o, fun r hr => (h.inn r hr).alloc o, h.far, h.top⟩
theorem OwnM.drewN (h : OwnM w B v hs rows) (k : Nat) : OwnM (w.drewN k) B v hs rows := ⟨h.len, h.out, h.inn, h.far, h.top⟩
theorem OwnM.get (h : OwnM w B v hs rows) {r : Nat} (hr : r < rows.length) : hs[r]? = some (hs.getD r undef) := by
  have : r < hs.length := by rw [h.len]; exact hr
  rw [List.getD_eq_getElem?_getD]; simp [this]
/-- As a slice that reads. -/
theorem OwnM.sr (h : OwnM w B v hs rows) : ∃ A c, v = .slice A rows.length c ∧ SR w w.heap.size A rows ∧ rows.length ≤ c ∧ c ≤ 9223372036854775807 := by
  have key : ∀ A, Sl w w.heap.size A hs → SR w w.heap.size A rows := fun A hA => ⟨hs, h.len, hA, fun r hr => by
    obtain ⟨Ar, cr, e, _, hsl, e1, e2⟩ := own_sliceA (h.inn r hr)
    exact ⟨Ar, cr, by rw [h.get hr, e], hsl, by omega⟩⟩
  rcases h.out.2 with ⟨e1, e2⟩ | ⟨g, c, _, e1, _⟩
  · refine ⟨none, 0, by rw [e2]; exact e1, key none ?_, by omega, by omega⟩
    have hz : hs = [] := List.eq_nil_of_length_eq_zero (by rw [h.len]; exact e2)
    rw [hz]; exact Sl.nil _ _ _
  · have ho := h.out
    rw [e1] at ho
    exact ⟨_, c, e1, key _ (Sl.of_own ho), (own_cap ho).1, (own_cap ho).2⟩
/-- A slice of rows that is the call's own, by its parts. -/
def OwnR (w : World) (B : Nat) (A : Option Addr) (c : Nat) (rows : List (List Int)) : Prop := ∃ hs, OwnM w B (.slice A rows.length c) hs rows
theorem OwnR.nil (w : World) (B : Nat) : OwnR w B none 0 [] := ⟨[], OwnM.nil w B⟩
theorem OwnM.lowr {B' : Nat} (h : OwnM w B v hs rows) (hB : B' ≤ B) : OwnM w B' v hs rows := ⟨h.len, h.out.mono hB, fun r hr => (h.inn r hr).mono hB, h.far, h.top⟩
theorem OwnM.ownR (h : OwnM w B v hs rows) : ∃ A c, v = .slice A rows.length c ∧ OwnR w B A c rows ∧ rows.length ≤ c ∧ c ≤ 9223372036854775807 := by
  obtain ⟨A, c, rfl, _, h1, h2⟩ := h.sr
  exact ⟨A, c, rfl, ⟨hs, h⟩, h1, h2⟩
theorem OwnR.sr {A : Option Addr} {c : Nat} (h : OwnR w B A c rows) : SR w w.heap.size A rows := by
  obtain ⟨hs, h⟩ := h
  obtain ⟨A', c', e, h1, _⟩ := h.sr
  cases e
  exact h1
theorem OwnR.below {A : Option Addr} {c : Nat} (h : OwnR w B A c rows) (hb : Below w.heap.size w w') : OwnR w' B A c rows := by
  obtain ⟨hs, h⟩ := h
  exact ⟨hs, h.below hb⟩
theorem OwnR.low {B' : Nat} {A : Option Addr} {c : Nat} (h : OwnR w B A c rows) (hB : B' ≤ B) : OwnR w B' A c rows := by
  obtain ⟨hs, h⟩ := h
  exact ⟨hs, h.lowr hB⟩
/-- A row put behind. -/
theorem OwnM.push (h : OwnM w B v hs rows) {u : Value} {l : List Int} (hu : w.ownsRow B 3 1 u l.length (ints l)) (hf : ∀ r, r < rows.length → Far (hs.getD r undef) u) (hv : Far v u) {g cap n' : Nat} (hn : n' = rows.length + 1)
    (ho : w'.ownsRow B 26 1 (.slice (some ⟨g, 0, none⟩) n' cap) n' (hs ++ [u])) (hg : w.grownBy w' v.ownBlock) (hat : v.ownBlock = some g ∨ g = w.heap.size) :
    OwnM w' B (.slice (some ⟨g, 0, none⟩) n' cap) (hs ++ [u]) (rows ++ [l]) := by
  have hl : (rows ++ [l]).length = rows.length + 1 := by simp
  have low : ∀ r, r < rows.length → (hs ++ [u]).getD r undef = hs.getD r undef ∧ (rows ++ [l]).getD r [] = rows.getD r [] := fun r hr => by
    rw [List.getD_eq_getElem?_getD, List.getD_eq_getElem?_getD, List.getD_eq_getElem?_getD, List.getD_eq_getElem?_getD, List.getElem?_append_left (by rw [h.len]; exact hr), List.getElem?_append_left hr]
    exact ⟨rfl, rfl⟩
  have top : (hs ++ [u]).getD rows.length undef = u ∧ (rows ++ [l]).getD rows.length [] = l := by
    rw [List.getD_eq_getElem?_getD, List.getD_eq_getElem?_getD]
    have := h.len
    constructor
    · rw [← this]; simp
    · simp
  have nf : ∀ x : Value, Far v x → (∀ k, x.ownBlock = some k → k < w.heap.size) → Far (.slice (some ⟨g, 0, none⟩) n' cap) x := fun x hx hlt k hk e => by
    obtain rfl : g = k := by simpa [Value.ownBlock] using hk
    rcases hat with e2 | e2
    · exact hx _ e2 e
    · have := hlt _ e; omega
  refine ⟨by rw [hl, List.length_append, h.len]; rfl, by rw [hl, ← hn]; exact ho, fun r hr => ?_, fun r s hr hs' hne => ?_, fun r hr => ?_⟩
  · by_cases c : r < rows.length
    · rw [(low r c).1, (low r c).2]; exact (h.inn r c).kept hg (h.top r c).ne
    · obtain rfl : r = rows.length := by omega
      rw [top.1, top.2]; exact hu.kept hg hv.ne
  · by_cases c : r < rows.length
    · by_cases c2 : s < rows.length
      · rw [(low r c).1, (low s c2).1]; exact h.far r s c c2 hne
      · obtain rfl : s = rows.length := by omega
        rw [(low r c).1, top.1]; exact hf r c
    · obtain rfl : r = rows.length := by omega
      have c2 : s < rows.length := by omega
      rw [(low s c2).1, top.1]; exact (hf s c2).symm
  · by_cases c : r < rows.length
    · rw [(low r c).1]; exact nf _ (h.top r c) (fun k hk => ((h.inn r c).lt k hk).2)
    · obtain rfl : r = rows.length := by omega
      rw [top.1]; exact nf _ hv (fun k hk => (hu.lt k hk).2)
end

theorem Try.infoSlice : (Try.prog.info? 26).map (fun i => (i.zero, i.size, i.bytes)) = some (some (.slice none 0 0), 1, 24) := by kernel_rfl

/-- 'append(v, u)' of one slice of ints: u was laid in a block of its own. -/
theorem wpList_push {w : World} {base : Nat} {v : Value} {hs : List Value} {ops : Array Oper} {rest : List Oper} {o : Oper} {a : Act} {Q : Exit → Act → World → Prop} (hgd : o.guard = none) (s x : Operand)
    (ho : o.op = .call { callee := .builtin .append, args := #[s, x], argTypes := #[22, 22] }) (hs' : a.eval s = v) (u : Value) (hu : u.oneCell' = true) {n : Nat}
    (hown : w.ownsRow base 26 1 v n hs) (g0 : Nat) (hg0 : g0 = w.heap.size) (hx : a.eval x = .slice (some ⟨g0, 0, none⟩) 1 1) (hlen : n < 1000000) (hbase : base ≤ w.heap.size)
    (h : ∀ g cap w', w'.ownsRow base 26 1 (.slice (some ⟨g, 0, none⟩) (n + 1) cap) (n + 1) (hs ++ [u]) → (w.alloc (.cells #[u] 26)).grownBy w' v.ownBlock → (v.ownBlock = some g ∨ g = w.heap.size + 1) →
      wpList Try.prog ops Q rest (a.put o.dst (.slice (some ⟨g, 0, none⟩) (n + 1) cap)) w') :
    wpList Try.prog ops Q (o :: rest) a (w.alloc (.cells #[u] 26)) := by
  subst hg0
  obtain ⟨i0, hi, hz0, hz1, hz2⟩ := info_parts Try.infoSlice
  refine wpList_append_lies _ hgd s x 22 ho base 26 i0 (.slice none 0 0) 1 24 Try.underlying22 hi hz0 hz1 hz2 rfl (by decide) v n hs hs' (hown.alloc _) ⟨w.heap.size, 0, none⟩ 1 1 [u] hx rfl ?_ (by simpa using hu) (by decide)
    (by unfold maxLen; omega) (by omega) (by simp; omega) _ rfl (fun g cap w' h1 h2 h3 _ => ?_)
  · intro j y hy
    match j, hy with
    | 0, hy => simp at hy; subst hy; simp [Addr.add]
  · exact h g cap w' (by simpa using h1) h2 (by simpa using h3)

/-- '[][]int{u}'. -/
theorem OwnM.single {w : World} {B : Nat} {u : Value} {l : List Int} {k : Nat} (hk : k = l.length) (hu : w.ownsRow B 3 1 u k (ints l)) (hB : B ≤ w.heap.size) : OwnM (w.alloc (.cells #[u] 26)) B (.slice (some ⟨w.heap.size, 0, none⟩) 1 1) [u] [l] := by
  subst hk
  have h0 : ∀ r, r < [l].length → r = 0 := fun r hr => by simp at hr; exact hr
  refine ⟨rfl, World.ownsRow_lit (e := 26) (size := 1) w #[u] 1 hB (by decide) rfl, fun r hr => ?_, fun r s hr hs' hne => ?_, fun r hr => ?_⟩
  · obtain rfl := h0 r hr; exact hu.alloc _
  · have := h0 r hr; have := h0 s hs'; omega
  · obtain rfl := h0 r hr
    intro k hk e
    obtain rfl : w.heap.size = k := by simpa [Value.ownBlock] using hk
    have := (hu.lt _ e).2
    omega
/-- The value of the r-th row, where it has something. -/
theorem OwnM.row {w : World} {B g n c : Nat} {hs : List Value} {rows : List (List Int)} (h : OwnM w B (.slice (some ⟨g, 0, none⟩) n c) hs rows) {r : Nat} (hr : r < rows.length) (hp : 0 < (rows.getD r []).length) :
    ∃ gr cr, hs.getD r undef = .slice (some ⟨gr, 0, none⟩) (rows.getD r []).length cr ∧ w.cell? ⟨g, r, none⟩ = some (.slice (some ⟨gr, 0, none⟩) (rows.getD r []).length cr) ∧
      w.ownsRow B 3 1 (.slice (some ⟨gr, 0, none⟩) (rows.getD r []).length cr) (rows.getD r []).length (ints (rows.getD r [])) ∧ B ≤ gr ∧ gr < w.heap.size := by
  have hi := h.inn r hr
  obtain ⟨gr, cr, e, h1, h2⟩ := hi.form hp
  refine ⟨gr, cr, e, ?_, by rw [← e]; exact hi, h1, h2⟩
  have ho := h.out
  have hn : n = rows.length := by
    rcases ho.2 with ⟨e1, _⟩ | ⟨_, _, _, e1, _⟩
    · cases e1
    · injection e1
  subst hn
  rw [ho.cellAt r (by omega), h.get hr, e]
theorem OwnM.far_new {w : World} {B : Nat} {v : Value} {hs : List Value} {rows : List (List Int)} (h : OwnM w B v hs rows) {u : Value} (hu : ∀ k, u.ownBlock = some k → w.heap.size ≤ k) : (∀ r, r < rows.length → Far (hs.getD r undef) u) ∧ Far v u :=
  ⟨fun r hr k hk e => by have := ((h.inn r hr).lt k hk).2; have := hu k e; omega, fun k hk e => by have := (h.out.lt k hk).2; have := hu k e; omega⟩

/-- A cell of one row turned. -/
theorem OwnM.setIn {w : World} {B : Nat} {v : Value} {hs : List Value} {rows : List (List Int)} (h : OwnM w B v hs rows) {r g c : Nat} (hr : r < rows.length) (hg : hs.getD r undef = .slice (some ⟨g, 0, none⟩) (rows.getD r []).length c) (j : Nat) (y : Int) :
    OwnM (w.setCell ⟨g, j, none⟩ (.int .i64 y)) B v hs (rows.set r ((rows.getD r []).set j y)) := by
  have other : ∀ {base n : Nat} {e : TypeId} {u : Value} {cs : List Value}, w.ownsRow base e 1 u n cs → (∀ k, u.ownBlock = some k → k ≠ g) → (w.setCell ⟨g, j, none⟩ (.int .i64 y)).ownsRow base e 1 u n cs := by
    intro base n e u cs ho hne
    refine ⟨ho.1, ?_⟩
    rcases ho.2 with hn | ⟨g', cap, cur, e1, hg', hh, rest⟩
    · exact .inl hn
    · refine .inr ⟨g', cap, cur, e1, hg', ?_, rest⟩
      have : g' ≠ g := hne g' (by rw [e1]; rfl)
      rw [← hh]
      simp [World.setCell, Array.getElem?_modify, Ne.symm this]
  have hgb : ∀ u : Value, Far u (hs.getD r undef) → ∀ k, u.ownBlock = some k → k ≠ g := fun u hf k hk e => by
    subst e; exact hf k hk (by rw [hg]; rfl)
  have hL : (rows.set r ((rows.getD r []).set j y)).length = rows.length := by simp
  refine ⟨by rw [hL]; exact h.len, by rw [hL]; exact other h.out (hgb v (h.top r hr)), fun s hs' => ?_, fun s t hs' ht hne => h.far s t (by rw [hL] at hs'; exact hs') (by rw [hL] at ht; exact ht) hne, fun s hs' => h.top s (by rw [hL] at hs'; exact hs')⟩
  rw [hL] at hs'
  by_cases e : s = r
  · subst e
    have e1 : (rows.set s ((rows.getD s []).set j y)).getD s [] = (rows.getD s []).set j y := by
      rw [List.getD_eq_getElem?_getD, List.getElem?_set_self hs']; rfl
    rw [e1, List.length_set]
    have hi := h.inn s hs'
    rw [hg] at hi ⊢
    exact own_set hi j y
  · have e1 : (rows.set r ((rows.getD r []).set j y)).getD s [] = rows.getD s [] := by
      rw [List.getD_eq_getElem?_getD, List.getElem?_set_ne (fun e2 => e e2.symm), ← List.getD_eq_getElem?_getD]
    rw [e1]
    exact other (h.inn s hs') (hgb _ (h.far s r hs' hr e))
/-- What a call that tells rows leaves: rows of its own, of a given kind. -/
def Told (R : List (List Int) → Prop) (B : Nat) (e : Ending) (w : World) : Prop :=
  ∃ (rows : List (List Int)) (A : Option Addr) (c : Nat) (k : Int), e = .returned (.tuple #[.slice A rows.length c, .int .i64 k]) ∧ OwnR w B A c rows ∧ R rows
/-- Likewise with a place between. -/
def Told3 (R : List (List Int) → Prop) (B : Nat) (e : Ending) (w : World) : Prop :=
  ∃ (rows : List (List Int)) (A : Option Addr) (c : Nat) (i k : Int), e = .returned (.tuple #[.slice A rows.length c, .int .i64 i, .int .i64 k]) ∧ OwnR w B A c rows ∧ R rows
/-- What a call that tells a list leaves: a list of its own, of a given kind. -/
def ToldL (R : List Int → Prop) (B : Nat) (e : Ending) (w : World) : Prop :=
  ∃ (xs : List Int) (A : Option Addr) (c : Nat) (k : Int), e = .returned (.tuple #[.slice A xs.length c, .int .i64 k]) ∧ w.ownsRow B 3 1 (.slice A xs.length c) xs.length (ints xs) ∧ R xs
theorem own_sliceV {w : World} {base n : Nat} {v : Value} {xs : List Int} (h : w.ownsRow base 3 1 v n (ints xs)) : ∃ A c, v = .slice A xs.length c ∧ n = xs.length ∧ w.ownsRow base 3 1 (.slice A xs.length c) xs.length (ints xs) := by
  obtain ⟨A, c, rfl, hn, _⟩ := own_sliceA h
  subst hn
  exact ⟨A, c, rfl, rfl, h⟩

end Go.Proofs.Ytpmkdihencepnaa
