/- Part of the proof. -/
import Derived.Test.YtpmkdihencepnaaGreatDoorProg
import Derived.WalkKit
import Derived.WalkSpells
import Derived.WalkLawsBesides
import Derived.BigQuiet
import Derived.Deep.QuietTactic
import Derived.Deep.AppendLies
import Derived.Deep.LoopGhost
import Derived.Deep.DeepMust
import Derived.Deep.DeepCutAuto
import Derived.Deep.CutBlock
import Derived.Lib.Hide
import Derived.Deep.RegionHeld3
import Derived.BigRegion
import Derived.Deep.RegionWith
import Derived.Shelf.SlicesG.Cmp
import Derived.Shelf.Lay
import Derived.Ground.SlgcProg
set_option maxHeartbeats 16000000
namespace Go.Proofs.YtpmkdihencepnaaGreatDoor
section
open Go.RowKit
theorem Tryz.infoInt : (Tryz.prog.info? 3).map (fun i => (i.zero, i.size, i.bytes)) = some (some (.int .i64 0), 1, 8) := by kernel_rfl
def Sl (w : World) (B : Nat) (A : Option Addr) (cs : List Value) : Prop :=
 0 < cs.length → ∃ b o, A = some ⟨b, o, none⟩ ∧ b < B ∧ ∀ k u, cs[k]? = some u → w.cell? ⟨b, o + k, none⟩ = some u
def ints (xs : List Int) : List Value := xs.map (Value.int .i64)
section
variable {w w' : World} {B B' : Nat} {A : Option Addr} {cs : List Value} {xs : List Int}
theorem ints_length : (ints xs).length = xs.length := by simp [ints]
theorem getD_getI {k : Nat} (h : k < xs.length) : xs.getD k 0 = xs[k] := by simp [h]
theorem ints_get {k : Nat} (h : k < xs.length) : (ints xs)[k]? = some (.int .i64 xs[k]) := by simp [ints, h]
theorem ints_one : ∀ u ∈ ints xs, u.oneCell' = true := ints_oneCell _ _
theorem Sl.below (h : Sl w B A cs) (hb : Below B w w') : Sl w' B A cs := fun hn => by
 obtain ⟨b, o, e, hlt, hc⟩ := h hn
 exact ⟨b, o, e, hlt, fun k u hk => (hb.cell (by exact hlt)).trans (hc k u hk)⟩
theorem Sl.more (h : Sl w B A cs) (hB : B ≤ B') : Sl w B' A cs := fun hn => by
 obtain ⟨b, o, e, hlt, hc⟩ := h hn
 exact ⟨b, o, e, by omega, hc⟩
theorem Sl.nil (w : World) (B : Nat) (A : Option Addr) : Sl w B A [] := fun h => absurd h (by simp)
theorem Sl.at_ {k : Nat} (h : Sl w B A (ints xs)) (hk : k < xs.length) :
 ∃ b o, A = some ⟨b, o, none⟩ ∧ b < B ∧ w.cell? ⟨b, o + k, none⟩ = some (.int .i64 xs[k]) := by
 obtain ⟨b, o, e, hlt, hc⟩ := h (by rw [ints_length]; omega)
 exact ⟨b, o, e, hlt, hc k _ (ints_get hk)⟩
theorem getD_cell {b o : Nat} (h : Sl w B (some ⟨b, o, none⟩) (ints xs)) {k : Nat} (hk : k < xs.length) : w.cell? ⟨b, o + k, none⟩ = some (.int .i64 (xs.getD k 0)) := by
 obtain ⟨b', o', e1, _, hc'⟩ := h.at_ hk
 obtain ⟨rfl, rfl⟩ : b = b' ∧ o = o' := by simpa using e1
 rw [getD_getI hk]; exact hc'
theorem Sl.addr (h : Sl w B A (ints xs)) (hp : 0 < xs.length) : ∃ b o, A = some ⟨b, o, none⟩ ∧ b < B := by
 obtain ⟨b, o, e, hlt, _⟩ := h.at_ hp
 exact ⟨b, o, e, hlt⟩
theorem Sl.of_own {base n cap : Nat} {e : TypeId} (h : w.ownsRow base e 1 (.slice A n cap) n cs) : Sl w w.heap.size A cs := fun hn => by
 have hl := h.1
 obtain ⟨g, c, hv, _, hlt⟩ := h.form (by omega)
 injection hv with hA
 subst hA
 refine ⟨g, 0, rfl, hlt, fun k u hk => ?_⟩
 have := h.cells (g := g) rfl k u hk
 rwa [Addr.add_lit] at this
theorem below_drewN {a : World} (h : Below B a w) (n : Nat) : Below B a (w.drewN n) := ⟨h.os, h.tape, h.output, h.size, h.block⟩
theorem below_call {B0 : Nat} {a b c : World} (h : Below B0 a b) (hB : B0 ≤ a.heap.size) (hb : Below b.heap.size b c) : Below B0 a c := h.trans (hb.mono (Nat.le_trans hB h.size))
theorem Sl.now (h : Sl w B A cs) (hb : Below B w w') (hB : B ≤ w.heap.size) : Sl w' w'.heap.size A cs := (h.below hb).more (Nat.le_trans hB hb.size)
theorem Sl.keep (h : Sl w w.heap.size A cs) (hb : Below w.heap.size w w') : Sl w' w'.heap.size A cs := (h.below hb).more hb.size
theorem own_drew {base n : Nat} {e : TypeId} {v : Value} (h : w.ownsRow base e 1 v n cs) : w.drew.ownsRow base e 1 v n cs := h
theorem own_set {base n g cap : Nat} {e : TypeId} (h : w.ownsRow base e 1 (.slice (some ⟨g, 0, none⟩) n cap) n (ints xs)) (j : Nat) (y : Int) :
 (w.setCell ⟨g, j, none⟩ (.int .i64 y)).ownsRow base e 1 (.slice (some ⟨g, 0, none⟩) n cap) n (ints (xs.set j y)) := by
 have := (h.stored j (.int .i64 y)).1
 rwa [ints, ← List.map_set] at this
theorem own_drewN {base n : Nat} {e : TypeId} {v : Value} (h : w.ownsRow base e 1 v n cs) (k : Nat) : (w.drewN k).ownsRow base e 1 v n cs := h
theorem own_cap {base n g c : Nat} {e : TypeId} (h : w.ownsRow base e 1 (.slice (some ⟨g, 0, none⟩) n c) n cs) : n ≤ c ∧ c ≤ 9223372036854775807 := by
 rcases h.2 with ⟨e1, _⟩ | ⟨g', c', _, e1, _, _, e2, e3, _⟩
 · cases e1
 · obtain ⟨_, rfl⟩ : g = g' ∧ c = c' := by simpa using e1
   exact ⟨e2, by simpa [maxLen] using e3⟩
theorem mid_get {α : Type} {L pre post : List α} {z : α} {i : Nat} (h : L = pre ++ z :: post) (hi : pre.length = i) : L[i]? = some z := by
 subst h; subst hi; simp
theorem own_get {base n g c : Nat} {e : TypeId} (h : w.ownsRow base e 1 (.slice (some ⟨g, 0, none⟩) n c) n (ints xs)) {i : Nat} {z : Int} (hz : xs[i]? = some z) : w.cell? ⟨g, i, none⟩ = some (.int .i64 z) := by
 obtain ⟨hi, e1⟩ := List.getElem?_eq_some_iff.1 hz
 have hl := h.1
 rw [ints_length] at hl
 rw [h.cellAt i (by omega), ints_get hi, e1]
theorem own_below {base n : Nat} {e : TypeId} {v : Value} (h : w.ownsRow base e 1 v n cs) (hb : Below w.heap.size w w') : w'.ownsRow base e 1 v n cs := by
 refine ⟨h.1, ?_⟩
 rcases h.2 with hn | ⟨g, cap, cur, rfl, hg, hh, rest⟩
 · exact .inl hn
 · exact .inr ⟨g, cap, cur, rfl, hg, (hb.block g (Array.getElem?_eq_some_iff.1 hh).1).trans hh, rest⟩
end
section
variable {w w' w0 : World} {B base : Nat} {A : Option Addr} {cs : List Value} {l xs : List Int} {v : Value}
theorem run_app (t ty e : TypeId) (i : TypeInfo) (z : Value) (bytes : Nat) (ht : Tryz.prog.underlying t = some (.slice e)) (hi : Tryz.prog.info? e = some i) (hz : i.zero = some z)
 (hsize : i.size = 1) (hby : i.bytes = bytes) (hzs : z.cells.size = 1) (n : Nat) (ys : List Value) (hown : w.ownsRow base e 1 v n ys)
 (c : Nat) (hr : Sl w B A cs) (h1 : ∀ u ∈ cs, u.oneCell' = true) (h63 : n + cs.length ≤ maxLen) (hbytes : (n + cs.length) * bytes ≤ 140737488355328) (hbase : base ≤ w.heap.size) :
 ∃ v' w', (Builtin.append_ #[t, t] ty #[v, .slice A cs.length c]).run Tryz.prog w = .ok v' w' ∧ w'.ownsRow base e 1 v' (n + cs.length) (ys ++ cs) ∧ w.grownBy w' v.ownBlock := by
 by_cases hn : 0 < cs.length
 · obtain ⟨b, o, rfl, hb, hc⟩ := hr hn
   obtain ⟨v', w', h2, h3, h4, _⟩ := run_append_own (P := Tryz.prog) w base t ty e i z 1 bytes ht hi hz hsize hby hzs (by omega) v n ys hown ⟨b, o, none⟩ cs.length c cs (by omega)
    (fun j u hu => by rw [Addr.add_lit]; exact hc j u hu) h1 h63 hbytes hbase
   exact ⟨v', w', h2, h3, h4⟩
 · obtain rfl : cs = [] := List.eq_nil_of_length_eq_zero (by omega)
   refine ⟨v, w, ?_, by simpa using hown, World.grownBy.refl _ _⟩
   rcases hown.2 with ⟨rfl, rfl⟩ | ⟨g, cap, cur, rfl, _, _, hnc, _⟩
   · cases A <;> simp [Builtin.append_, run_underlying ht, sizeOf, typeInfo, hi, Builtin.lenOf, Builtin.firstCells, loadCells, loadCellsFrom]
   · cases A <;> simp [Builtin.append_, run_underlying ht, sizeOf, typeInfo, hi, Builtin.lenOf, Builtin.firstCells, loadCells, loadCellsFrom, hnc, storeCells]
theorem own_ge {e : TypeId} {n : Nat} (h : w.ownsRow base e 1 v n cs) (hB : B ≤ base) : ∀ k, v.ownBlock = some k → B ≤ k := fun k hk => by have := (h.lt k hk).1; omega
theorem wpList_app1 {ops : Array Oper} {rest : List Oper} {o : Oper} {a : Act} {Q : Exit → Act → World → Prop} (hgd : o.guard = none) (s x : Operand)
 (ho : o.op = .call { callee := .builtin .append, args := #[s, x], argTypes := #[65, 65] }) (hs : a.eval s = v) (y : Int) {n : Nat}
 (hown : w.ownsRow base 3 1 v n (ints l)) (hx : a.eval x = .slice (some ⟨w.heap.size, 0, none⟩) 1 1) (hlen : n < 1000000) (hbase : base ≤ w.heap.size)
 (h : ∀ g cap w', w'.ownsRow base 3 1 (.slice (some ⟨g, 0, none⟩) (n + 1) cap) (n + 1) (ints (l ++ [y])) → Below base w w' →
  wpList Tryz.prog ops Q rest (a.put o.dst (.slice (some ⟨g, 0, none⟩) (n + 1) cap)) w') :
 wpList Tryz.prog ops Q (o :: rest) a (w.alloc (.cells #[.int .i64 y] 3)) := by
 obtain ⟨i0, hi, hz0, hz1, hz2⟩ := info_parts Tryz.infoInt
 refine wpList_append_lies _ hgd s x 65 ho base 3 i0 (.int .i64 0) 1 8 Tryz.underlying65 hi hz0 hz1 hz2 rfl (by decide) v n (ints l) hs (hown.alloc _) ⟨w.heap.size, 0, none⟩ 1 1 [.int .i64 y] hx rfl ?_ (by simp [Value.oneCell']) (by decide)
  (by unfold maxLen; omega) (by omega) (by simp; omega) _ rfl (fun g cap w' h1 h2 _ _ => ?_)
 · intro j u hu
   match j, hu with
   | 0, hu => simp at hu; subst hu; simp [Addr.add]
 · refine h g cap w' (by simpa [ints] using h1) (((Below.refl _ _).alloc hbase _).grown h2 (by simp; omega) (own_ge hown (Nat.le_refl _)))
theorem wpList_mk {ops : Array Oper} {rest : List Oper} {o : Oper} {a : Act} {Q : Exit → Act → World → Prop} (hgd : o.guard = none) (s x : Operand)
 (ho : o.op = Op.makeSlice 65 s x) (n : Nat) (hs : a.eval s = .int .i64 n) (hx : a.eval x = .int .i64 n) (hlen : n < 1000000) (hbase : base ≤ w.heap.size)
 (h : ∀ w', w'.ownsRow base 3 1 (.slice (some ⟨w.heap.size, 0, none⟩) n n) n (ints (List.replicate n 0)) → Below w.heap.size w w' → w'.heap.size = w.heap.size + 1 →
  wpList Tryz.prog ops Q rest (a.put o.dst (.slice (some ⟨w.heap.size, 0, none⟩) n n)) w') :
 wpList Tryz.prog ops Q (o :: rest) a w := by
 obtain ⟨i0, hi, hz0, hz1, hz2⟩ := info_parts Tryz.infoInt
 have hrun := run_make (P := Tryz.prog) w 65 3 i0 (.int .i64 0) Tryz.underlying65 hi hz0 .i64 .i64 n n (by omega) (by omega) (by rw [hz2]; omega) (by omega)
 refine wpList_plain hgd fun K hK => ?_
 unfold Oper.wp
 simp [execOp, ho, hs, hx, hrun, Result.andThen]
 refine hK _ _ (h _ ?_ ((Below.refl _ _).alloc (Nat.le_refl _) _) (by simp))
 have := World.ownsRow_lit (e := 3) (size := 1) (base := base) w (madeCells (Value.int .i64 0).cells (n * i0.size)) n hbase (by unfold maxLen; omega) (by rw [size_madeCells, hz1])
 have e : (madeCells (Value.int .i64 0).cells (n * i0.size)).toList = ints (List.replicate n 0) := by
  rw [hz1]; simp [Value.cells, toList_madeCells_one, ints]
 rwa [e] at this
theorem wpList_app {ops : Array Oper} {rest : List Oper} {o : Oper} {a : Act} {Q : Exit → Act → World → Prop} (hgd : o.guard = none) (s x : Operand)
 (ho : o.op = .call { callee := .builtin .append, args := #[s, x], argTypes := #[65, 65] }) (hs : a.eval s = v)
 (hown : w.ownsRow base 3 1 v l.length (ints l)) (c : Nat) (hx : a.eval x = .slice A xs.length c) (hr : Sl w B A (ints xs)) (hlen : l.length + xs.length < 1000000) (hbase : base ≤ w.heap.size)
 (h : ∀ v' w', w'.ownsRow base 3 1 v' (l ++ xs).length (ints (l ++ xs)) → Below base w w' → wpList Tryz.prog ops Q rest (a.put o.dst v') w') :
 wpList Tryz.prog ops Q (o :: rest) a w := by
 obtain ⟨i0, hi, hz0, hz1, hz2⟩ := info_parts Tryz.infoInt
 have e : (ints xs).length = xs.length := ints_length
 obtain ⟨v', w', hrun, h2, h3⟩ := run_app 65 o.type 3 i0 (.int .i64 0) 8 Tryz.underlying65 hi hz0 hz1 hz2 rfl l.length (ints l) hown c hr ints_one (by unfold maxLen; omega) (by omega) hbase
 rw [e] at hrun h2
 refine wpList_plain hgd fun K hK => ?_
 unfold Oper.wp execOp
 simp only [ho, resolve, invoke, builtin, Sem.run_bind, Sem.run_pure, Result.andThen_ok, List.map_toArray, List.map_cons, List.map_nil, hs, hx, hrun]
 exact hK _ _ (h v' w' (by simpa [ints] using h2) ((Below.refl _ _).grown h3 hbase (own_ge hown (Nat.le_refl _))))
end
end
end Go.Proofs.YtpmkdihencepnaaGreatDoor
namespace Go.Proofs
open Go.Shelf
shelf_lay_g SlLaysC2.n5 Slgc 5 at Tryz 169 as Tryz.cmpI
end Go.Proofs
namespace Go.Proofs.YtpmkdihencepnaaGreatDoor
open Go.RowKit Go.Proofs
open Go.Shelf
theorem cmp_any (x y : Int) (w : World) : Calls Tryz.prog 169 #[.int .i64 x, .int .i64 y] w fun e w' => e = .returned (.int .i64 (Lib.compareInt x y)) ∧ w = w' := by
 have h := AnyG.cmp_Compare_int Tryz.cmpI x y w
 change Calls Tryz.prog 169 _ _ _ at h
 exact h.mono (fun e w' hh => ⟨hh.1, hh.2.symm⟩)
def orP (x y : Int) : Int := if x ≠ 0 then x else y
theorem or_any (g cap : Nat) (x y : Int) (w : World) (h0 : w.cell? ⟨g, 0, none⟩ = some (.int .i64 x)) (h1 : w.cell? ⟨g, 1, none⟩ = some (.int .i64 y)) :
 Calls Tryz.prog 175 #[.slice (some ⟨g, 0, none⟩) 2 cap] w fun e w' => e = .returned (.int .i64 (orP x y)) ∧ w = w' := by
 go_enter Tryz.func175, Tryz.ntmps175
 go_wp2
 go_loopw [8] (fun iv wr => ∃ i : Nat, i ≤ 2 ∧ iv = .int .i64 i ∧ (1 ≤ i → x = 0) ∧ (2 ≤ i → y = 0) ∧ w = wr) (fun iv _ => 2 - (intOf iv).toNat)
 case atStart => exact ⟨0, by omega, rfl, fun h => by omega, fun h => by omega, rfl⟩
 case round =>
  obtain ⟨i, hi, rfl, k1, k2, rfl⟩ := hrel
  by_cases hi2 : i < 2
  · have di : decide (i < 2) = true := decide_eq_true hi2
    have di2 : decide ((i : Int) < 2) = true := decide_eq_true (by omega)
    obtain ⟨z, hz, z0, z1⟩ : ∃ z : Int, w.cell? ⟨g, i, none⟩ = some (.int .i64 z) ∧ (i = 0 → z = x) ∧ (i = 1 → z = y) := by
     rcases Nat.lt_or_ge i 1 with c | c
     · obtain rfl : i = 0 := by omega
       exact ⟨x, h0, fun _ => rfl, fun h => by omega⟩
     · obtain rfl : i = 1 := by omega
       exact ⟨y, h1, fun h => by omega, fun _ => rfl⟩
    have hfin : Hid (z ≠ 0 → orP x y = z) := fun hne => by
     unfold orP
     rcases Nat.lt_or_ge i 1 with c | c
     · have := z0 (by omega); rw [← this, if_pos hne]
     · have e1 := z1 (by omega)
       have e2 := k1 c
       rw [if_neg (by omega), e1]
    have hnx : Hid (z = 0 → (1 ≤ i + 1 → x = 0) ∧ (2 ≤ i + 1 → y = 0)) := fun hz0 => by
     refine ⟨fun _ => ?_, fun h => ?_⟩
     · rcases Nat.lt_or_ge i 1 with c | c
       · rw [← z0 (by omega)]; exact hz0
       · exact k1 c
     · rw [← z1 (by omega)]; exact hz0
    clear z0 z1 k1 k2
    by_cases hz0 : z = 0
    · have dz : (z != 0) = false := by simpa using hz0
      have hn := Lib.hid (hnx.out hz0)
      clear hz0 hnx hfin
      go_wp2
      go_roundw
      case rel => exact ⟨i + 1, by omega, by go_num, hn.out.1, hn.out.2, by first | rfl | trivial⟩
      case measure => simp [intOf]; omega
    · have dz : (z != 0) = true := by simpa using hz0
      have hf := Lib.hid (hfin.out hz0)
      clear hz0 hnx hfin
      go_wp2
      go_ret
      exact ⟨by rw [hf.out]; rfl, by first | rfl | trivial⟩
  · have di : decide (i < 2) = false := decide_eq_false hi2
    have di2 : decide ((i : Int) < 2) = false := decide_eq_false (by omega)
    have hf : Hid (orP x y = 0) := by
     have e1 := k1 (by omega); have e2 := k2 (by omega)
     show (if x ≠ 0 then x else y) = _; rw [if_neg (by omega), e2]
    clear k1 k2
    go_wp2
    go_ret
    exact ⟨by rw [hf.out]; rfl, by first | rfl | trivial⟩
end Go.Proofs.YtpmkdihencepnaaGreatDoor
namespace Go.Proofs.YtpmkdihencepnaaGreatDoor
section
theorem getD_get {α : Type} {xs : List α} {i : Nat} {d : α} (h : i < xs.length) : xs.getD i d = xs[i] := by simp [h]
theorem getD_far {α : Type} {xs : List α} {i : Nat} {d : α} (h : xs.length ≤ i) : xs.getD i d = d := by simp [h]
theorem nodup_get {α : Type} {l : List α} (h : l.Nodup) {i j : Nat} (hi : i < l.length) (hj : j < l.length) (e : l[i] = l[j]) : i = j :=
 (List.getElem_inj h).1 e
theorem take_snoc {α : Type} {xs : List α} {k : Nat} (h : k < xs.length) : xs.take (k + 1) = xs.take k ++ [xs[k]] := by
 rw [List.take_succ_eq_append_getElem h]
theorem nodup_snoc {α : Type} {xs : List α} {x : α} : (xs ++ [x]).Nodup ↔ xs.Nodup ∧ x ∉ xs := by
 rw [List.nodup_append]
 simp
 intro _
 constructor
 · intro h hx; exact h x hx rfl
 · intro h a ha e; subst e; exact h ha
theorem getLastD_get {α : Type} {l : List α} {d : α} (h : 0 < l.length) : l.getLastD d = l[l.length - 1] := by
 rw [List.getLastD_eq_getLast?, List.getLast?_eq_getElem?, List.getElem?_eq_getElem (by omega)]; rfl
theorem snoc_ind {α : Type} {motive : List α → Prop} (nil : motive []) (snoc : ∀ (l : List α) (x : α), motive l → motive (l ++ [x])) (l : List α) : motive l := by
 have key : ∀ (n : Nat) (l : List α), l.length = n → motive l := by
  intro n
  induction n with
  | zero => intro l h; rw [List.eq_nil_of_length_eq_zero h]; exact nil
  | succ n ih =>
   intro l h
   have hne : l ≠ [] := by intro e; rw [e] at h; cases h
   rw [← List.dropLast_concat_getLast hne]
   exact snoc _ _ (ih _ (by simp [h]))
 exact key _ l rfl
end
end Go.Proofs.YtpmkdihencepnaaGreatDoor
