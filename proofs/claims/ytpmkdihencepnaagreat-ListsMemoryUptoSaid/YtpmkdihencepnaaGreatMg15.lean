/-
  slices.BinarySearch of ints; a row that is appended to, in its tableau; insert.put, insert.Insert.
-/
import Derived.Ground.Names2Prog
import Derived.Shelf.Lay
import Derived.Shelf.Slices.SearchI
import Derived.Shelf.Slices.Empties
import Derived.Deep.RegionHeld3
import Derived.Deep.AppendLies
import Derived.BigRegion
import Derived.Test.YtpmkdihencepnaaGreatMg02
import Derived.Test.YtpmkdihencepnaaGreatMg04
import Derived.Test.YtpmkdihencepnaaGreatMg11
import Derived.Test.YtpmkdihencepnaaGreatMg13
import Derived.Test.YtpmkdihencepnaaGreatMg14
namespace Go.Proofs.YtpmkdihencepnaaGreat
open Go.RowKit Go.Proofs
open Go.Shelf Go.Lib Go.Sort

shelf_lay Lays2.n25 Nm2 25 at Tryz as Tryz.lays25

theorem search_any (A : Option Addr) (cap : Nat) (r : List Int) (x : Int) (w : World) (hb : r.length < 1000000) (hu : Up r) (h : Sl w w.heap.size A (ints r)) :
    Calls Tryz.prog 85 #[.slice A r.length cap, .int .i64 x] w fun e w' => (∃ z, e = .returned (.tuple #[.int .i64 (r.countP (· < x) : Nat), .bool z])) ∧ ∃ q, w' = w.drewN q := by
  by_cases h0 : 0 < r.length
  · obtain ⟨b, o, rfl, _⟩ := h.addr h0
    have := Any.slices_BinarySearch_int Tryz.lays25 b o r.length cap r x w (Nat.le_refl _) (by omega) (fun j hj => getD_cell h hj) (by rw [List.take_length]; exact hu)
    rw [List.take_length] at this
    exact this.mono (fun e w' hh => ⟨⟨_, hh.1⟩, hh.2⟩)
  · have e : r = [] := List.eq_nil_of_length_eq_zero (by omega)
    subst e
    exact (Any.slices_BinarySearch_int_empty Tryz.lays25 A cap x w).mono (fun e w' hh => ⟨⟨_, hh.1⟩, 0, hh.2⟩)

/-- Where a letter goes in. -/
theorem push1_at {r : List Int} {x : Int} (hu : Up r) : r.countP (· < x + 1) ≤ r.length ∧
    ((r.countP (· < x + 1) = r.length → push1 r x = (r ++ [x], none)) ∧ (∀ z, r[r.countP (· < x + 1)]? = some z → push1 r x = (r.set (r.countP (· < x + 1)) x, some z))) := by
  induction r with
  | nil => exact ⟨Nat.le_refl _, fun _ => rfl, fun z e => by simp at e⟩
  | cons a s ih =>
    obtain ⟨h1, h2, h3⟩ := ih hu.tail
    by_cases c : a < x + 1
    · rw [List.countP_cons_of_pos (by simpa using c), push1_ge (by omega)]
      refine ⟨by simp; omega, fun e => ?_, fun z e => ?_⟩
      · rw [h2 (by simpa using e)]; rfl
      · rw [h3 z (by simpa using e)]; rfl
    · have h0 : List.countP (fun y => decide (y < x + 1)) s = 0 := by
        rw [List.countP_eq_zero]
        intro y hy
        have := hu.head y hy
        simp; omega
      rw [List.countP_cons_of_neg (by simpa using c), push1_lt (by omega), h0]
      refine ⟨Nat.zero_le _, fun e => by simp at e, fun z e => ?_⟩
      obtain rfl : a = z := by simpa using e
      rfl
/-- In which row there is one more. -/
def irow : List (List Int) → Int → Nat
  | [], _ => 0
  | r :: t, x => match (push1 r x).2 with
    | none => 0
    | some z => irow t z + 1

/-- 'append(v, x)' of one int, with what else it leaves. -/
theorem wpList_app1g {w : World} {base : Nat} {l : List Int} {v : Value} {ops : Array Oper} {rest : List Oper} {o : Oper} {a : Act} {Q : Exit → Act → World → Prop} (hgd : o.guard = none) (s x : Operand)
    (ho : o.op = .call { callee := .builtin .append, args := #[s, x], argTypes := #[22, 22] }) (hs : a.eval s = v) (y : Int) {n : Nat}
    (hown : w.ownsRow base 3 1 v n (ints l)) (g0 : Nat) (hg0 : g0 = w.heap.size) (hx : a.eval x = .slice (some ⟨g0, 0, none⟩) 1 1) (hlen : n < 1000000) (hbase : base ≤ w.heap.size)
    (h : ∀ g cap w', w'.ownsRow base 3 1 (.slice (some ⟨g, 0, none⟩) (n + 1) cap) (n + 1) (ints (l ++ [y])) → (w.alloc (.cells #[.int .i64 y] 3)).grownBy w' v.ownBlock → (v.ownBlock = some g ∨ g = w.heap.size + 1) →
      wpList Tryz.prog ops Q rest (a.put o.dst (.slice (some ⟨g, 0, none⟩) (n + 1) cap)) w') :
    wpList Tryz.prog ops Q (o :: rest) a (w.alloc (.cells #[.int .i64 y] 3)) := by
  subst hg0
  obtain ⟨i0, hi, hz0, hz1, hz2⟩ := info_parts Tryz.infoInt
  refine wpList_append_lies _ hgd s x 22 ho base 3 i0 (.int .i64 0) 1 8 Tryz.underlying22 hi hz0 hz1 hz2 rfl (by decide) v n (ints l) hs (hown.alloc _) ⟨w.heap.size, 0, none⟩ 1 1 [.int .i64 y] hx rfl ?_ (by simp [Value.oneCell']) (by decide)
    (by unfold maxLen; omega) (by omega) (by simp; omega) _ rfl (fun g cap w' h1 h2 h3 _ => ?_)
  · intro j u hu
    match j, hu with
    | 0, hu => simp at hu; subst hu; simp [Addr.add]
  · exact h g cap w' (by simpa [ints] using h1) h2 (by simpa using h3)

theorem OwnM.put2 {w : World} {B g n c : Nat} {hs : List Value} {rows : List (List Int)} (hlen : hs.length = rows.length) (hn : n = rows.length) (hout : w.ownsRow B 22 1 (.slice (some ⟨g, 0, none⟩) n c) n hs) {i : Nat} (hi : i < rows.length)
    (hinn : ∀ r, r < rows.length → r ≠ i → w.ownsRow B 3 1 (hs.getD r undef) (rows.getD r []).length (ints (rows.getD r [])))
    (hfar : ∀ r s, r < rows.length → s < rows.length → r ≠ i → s ≠ i → r ≠ s → Far (hs.getD r undef) (hs.getD s undef))
    (htop : ∀ r, r < rows.length → r ≠ i → Far (.slice (some ⟨g, 0, none⟩) n c) (hs.getD r undef))
    {u : Value} {l : List Int} (hu : w.ownsRow B 3 1 u l.length (ints l)) (hf : ∀ r, r < rows.length → r ≠ i → Far (hs.getD r undef) u) (hv : Far (.slice (some ⟨g, 0, none⟩) n c) u) :
    OwnM (w.setCell ⟨g, i, none⟩ u) B (.slice (some ⟨g, 0, none⟩) n c) (hs.set i u) (rows.set i l) := by
  have hL : (rows.set i l).length = rows.length := by simp
  subst hn
  have hil : i < hs.length := by rw [hlen]; exact hi
  have other : ∀ {base m : Nat} {e : TypeId} {x : Value} {cs : List Value}, w.ownsRow base e 1 x m cs → (∀ k, x.ownBlock = some k → k ≠ g) → (w.setCell ⟨g, i, none⟩ u).ownsRow base e 1 x m cs := by
    intro base m e x cs ho hne
    refine ⟨ho.1, ?_⟩
    rcases ho.2 with hn | ⟨g', cap, cur, e1, hg', hh, rest⟩
    · exact .inl hn
    · refine .inr ⟨g', cap, cur, e1, hg', ?_, rest⟩
      have : g' ≠ g := hne g' (by rw [e1]; rfl)
      rw [← hh]
      simp [World.setCell, Array.getElem?_modify, Ne.symm this]
  have hgb : ∀ x : Value, Far (.slice (some ⟨g, 0, none⟩) rows.length c) x → ∀ k, x.ownBlock = some k → k ≠ g := fun x hf k hk e => by
    subst e; exact hf k rfl hk
  have here : (hs.set i u).getD i undef = u ∧ (rows.set i l).getD i [] = l := by
    rw [List.getD_eq_getElem?_getD, List.getD_eq_getElem?_getD, List.getElem?_set_self hil, List.getElem?_set_self hi]; exact ⟨rfl, rfl⟩
  have there : ∀ r, r ≠ i → (hs.set i u).getD r undef = hs.getD r undef ∧ (rows.set i l).getD r [] = rows.getD r [] := fun r hr => by
    simp only [List.getD_eq_getElem?_getD, List.getElem?_set_ne (fun e => hr (Eq.symm e))]; exact ⟨trivial, trivial⟩
  refine ⟨by rw [hL, List.length_set]; exact hlen, ?_, fun r hr => ?_, fun r s hr hs' hne => ?_, fun r hr => ?_⟩
  · rw [hL]; exact (hout.stored i u).1
  · rw [hL] at hr
    by_cases e : r = i
    · subst e; rw [here.1, here.2]; exact other hu (hgb u hv)
    · rw [(there r e).1, (there r e).2]; exact other (hinn r hr e) (hgb _ (htop r hr e))
  · rw [hL] at hr hs'
    by_cases e : r = i
    · subst e
      rw [here.1, (there s (Ne.symm hne)).1]; exact (hf s hs' (Ne.symm hne)).symm
    · by_cases e2 : s = i
      · subst e2
        rw [here.1, (there r hne).1]; exact hf r hr hne
      · rw [(there r e).1, (there s e2).1]; exact hfar r s hr hs' e e2 hne
  · rw [hL] at hr
    by_cases e : r = i
    · subst e; rw [here.1]; exact hv
    · rw [(there r e).1]; exact htop r hr e
/-- A row that was appended to, laid back in its place. -/
theorem OwnM.app {w w' : World} {B G n c : Nat} {hs : List Value} {rows : List (List Int)} (h : OwnM w B (.slice (some ⟨G, 0, none⟩) n c) hs rows) {i : Nat} (hi : i < rows.length) {l : List Int} {g cap m : Nat} {o : Obj} (hm : m = l.length)
    (ho : w'.ownsRow B 3 1 (.slice (some ⟨g, 0, none⟩) m cap) m (ints l)) (hg : (w.alloc o).grownBy w' (hs.getD i undef).ownBlock) (hat : (hs.getD i undef).ownBlock = some g ∨ g = w.heap.size + 1) :
    OwnM (w'.setCell ⟨G, i, none⟩ (.slice (some ⟨g, 0, none⟩) m cap)) B (.slice (some ⟨G, 0, none⟩) n c) (hs.set i (.slice (some ⟨g, 0, none⟩) m cap)) (rows.set i l) := by
  have hn : n = rows.length := by
    rcases h.out.2 with ⟨e1, _⟩ | ⟨_, _, _, e1, _⟩
    · cases e1
    · injection e1
  subst hm
  have nf : ∀ x : Value, Far (hs.getD i undef) x → (∀ k, x.ownBlock = some k → k < w.heap.size) → Far x (.slice (some ⟨g, 0, none⟩) l.length cap) := fun x hx hlt k hk e => by
    obtain rfl : g = k := by simpa [Value.ownBlock] using e
    rcases hat with e2 | e2
    · exact hx _ e2 hk
    · have := hlt _ hk; omega
  have hto := h.out
  rw [← hn] at hto
  exact OwnM.put2 h.len hn ((hto.alloc o).kept hg (h.top i hi).symm.ne) hi (fun r hr hne => ((h.inn r hr).alloc o).kept hg (h.far i r hi hr (Ne.symm hne)).ne)
    (fun r s hr hs' _ _ hne => h.far r s hr hs' hne) (fun r hr _ => h.top r hr) ho (fun r hr hne => nf _ (h.far i r hi hr (Ne.symm hne)) (fun k hk => ((h.inn r hr).lt k hk).2))
    (nf _ (h.top i hi).symm (fun k hk => (h.out.lt k hk).2))

/-- What has been put in and what is to come make the tableau. -/
structure Putting (T : List (List Int)) (x : Int) (i : Nat) (x' : Int) (D : List (List Int)) : Prop where
  len : D.length = i
  ins : ins1 T x = D ++ ins1 (T.drop i) x'
  row : irow T x = i + irow (T.drop i) x'
theorem Putting.start (T : List (List Int)) (x : Int) : Putting T x 0 x [] := ⟨rfl, by simp, by simp⟩
theorem drop_row {T : List (List Int)} {i : Nat} (hi : i < T.length) : T.drop i = T.getD i [] :: T.drop (i + 1) := by
  rw [List.drop_eq_getElem_cons hi, getD_get hi]
theorem Putting.on {T : List (List Int)} {x x' z : Int} {i : Nat} {D : List (List Int)} (h : Putting T x i x' D) (hi : i < T.length) (hp : (push1 (T.getD i []) x').2 = some z) : Putting T x (i + 1) z (D ++ [(push1 (T.getD i []) x').1]) := by
  refine ⟨by simp [h.len], ?_, ?_⟩
  · rw [h.ins, drop_row hi]; simp only [ins1]; rw [hp]; simp
  · rw [h.row, drop_row hi]; simp only [irow]; rw [hp]; simp; omega
theorem Putting.stop {T : List (List Int)} {x x' : Int} {i : Nat} {D : List (List Int)} (h : Putting T x i x' D) (hi : i < T.length) (hp : (push1 (T.getD i []) x').2 = none) : ins1 T x = (D ++ T.drop i).set i (push1 (T.getD i []) x').1 ∧ irow T x = i := by
  constructor
  · rw [h.ins, drop_row hi]; simp only [ins1]; rw [hp, ← h.len]; simp
  · rw [h.row, drop_row hi]; simp only [irow]; rw [hp]; rfl
theorem Putting.end_ {T : List (List Int)} {x x' : Int} {i : Nat} {D : List (List Int)} (h : Putting T x i x' D) (hi : i = T.length) : ins1 T x = D ++ [[x']] ∧ irow T x = i ∧ D ++ T.drop i = D := by
  have e : T.drop i = [] := List.drop_of_length_le (by omega)
  refine ⟨by rw [h.ins, e]; rfl, by rw [h.row, e]; rfl, by rw [e]; simp⟩
theorem Putting.cur {T : List (List Int)} {x x' : Int} {i : Nat} {D : List (List Int)} (h : Putting T x i x' D) (hi : i < T.length) : (D ++ T.drop i).length = T.length ∧ (D ++ T.drop i).getD i [] = T.getD i [] ∧ ∀ r, (D ++ T.drop i).set i r = (D ++ [r]) ++ T.drop (i + 1) := by
  refine ⟨by simp [h.len]; omega, ?_, fun r => ?_⟩
  · rw [drop_row hi, List.getD_eq_getElem?_getD, List.getElem?_append_right (by rw [h.len]; omega)]; simp [h.len]
  · rw [drop_row hi, ← h.len]; simp
end Go.Proofs.YtpmkdihencepnaaGreat

/-
  insert.put, insert.Insert: what they answer.
-/
namespace Go.Proofs.YtpmkdihencepnaaGreat
open Go.RowKit

theorem lt_wrap {x : Int} (h : Lt x) : IntKind.i64.wrap (x + 1) = x + 1 := IntWalk.i64_in _ (by have := h.1; have := h.2; omega)

end Go.Proofs.YtpmkdihencepnaaGreat

/-
  What a call leaves untouched; insert.put once more, with what it leaves (printed by wip/mkP5.py).
-/
namespace Go.Proofs.YtpmkdihencepnaaGreat
open Go.RowKit

/-- 'append(v, y)' at a step of a region that draws: y was laid in a block of its own. -/
theorem step_app1 {w : World} {base : Nat} {l : List Int} {v : Value} {ops : Array Oper} {o : Oper} {a : Act} {K : Act → World → Prop} {Q : Exit → Act → World → Prop} {E : Prop} (hgd : o.guard = none) (s x : Operand)
    (ho : o.op = .call { callee := .builtin .append, args := #[s, x], argTypes := #[22, 22] }) (hs : a.eval s = v) (y : Int) (n : Nat) (g0 : Nat)
    (hx : a.eval x = .slice (some ⟨g0, 0, none⟩) 1 1) (hown : w.ownsRow base 3 1 v n (ints l)) (hlit : w.heap[g0]? = some (.cells #[.int .i64 y] 3)) (hlen : n < 1000000) (hbase : base ≤ w.heap.size)
    (h : ∀ g cap w', w'.ownsRow base 3 1 (.slice (some ⟨g, 0, none⟩) (n + 1) cap) (n + 1) (ints (l ++ [y])) → w.grownBy w' v.ownBlock → (v.ownBlock = some g ∨ g = w.heap.size) → g < w'.heap.size →
      K (a.put o.dst (.slice (some ⟨g, 0, none⟩) (n + 1) cap)) w') :
    if Region.wanted o (yielded ops a.tmps) = true then Oper.wp Tryz.prog o a w K Q else E := by
  obtain ⟨i0, hi, hz0, hz1, hz2⟩ := info_parts Tryz.infoInt
  refine step_append_lies _ hgd s x 22 ho base 3 i0 (.int .i64 0) 1 8 Tryz.underlying22 hi hz0 hz1 hz2 rfl (by decide) v n (ints l) hs hown ⟨g0, 0, none⟩ 1 1 [.int .i64 y] hx rfl (World.news_of_block (cs := #[.int .i64 y]) hlit) (by simp [Value.oneCell']) (by decide)
    (by unfold maxLen; omega) (by omega) hbase _ rfl (fun g cap w' h1 h2 h3 h4 => h g cap w' (by simpa [ints] using h1) h2 h3 h4)

end Go.Proofs.YtpmkdihencepnaaGreat

/-
  parts.Frobenius: what it answers; two rows in one region.
-/
namespace Go.Proofs.YtpmkdihencepnaaGreat
open Go.RowKit

/-- Two rows apart. -/
def Apart (v u : Value) : Prop := ∀ k, v.ownBlock = some k → u.ownBlock ≠ some k
theorem Apart.symm {u v : Value} (h : Apart u v) : Apart v u := fun k h1 h2 => h k h2 h1
theorem Apart.ne {u v : Value} (h : Apart u v) : v.ownBlock = none ∨ v.ownBlock ≠ u.ownBlock := by
  cases e : v.ownBlock with
  | none => exact .inl rfl
  | some k => exact .inr (fun h2 => h k h2.symm e)
/-- Two rows that the call owns. -/
structure Pair2 (B : Nat) (a0 w : World) (u v : Value) (n m : Nat) (xs ys : List Int) : Prop where
  a : w.ownsRow B 3 1 u n (ints xs)
  l : w.ownsRow B 3 1 v m (ints ys)
  ap : Apart u v
  b : Below B a0 w
  sz : B ≤ w.heap.size
section
variable {B : Nat} {a0 w w' : World} {u v : Value} {n m : Nat} {xs ys : List Int}
theorem Pair2.alloc (h : Pair2 B a0 w u v n m xs ys) (o : Obj) : Pair2 B a0 (w.alloc o) u v n m xs ys :=
  ⟨h.a.alloc o, h.l.alloc o, h.ap, h.b.alloc h.sz o, by have := h.sz; simp; omega⟩
theorem Pair2.drew (h : Pair2 B a0 w u v n m xs ys) : Pair2 B a0 w.drew u v n m xs ys := ⟨h.a, h.l, h.ap, below_drewN h.b 1, h.sz⟩
theorem Pair2.swap (h : Pair2 B a0 w u v n m xs ys) : Pair2 B a0 w v u m n ys xs := ⟨h.l, h.a, h.ap.symm, h.b, h.sz⟩
theorem Pair2.farA (h : Pair2 B a0 w u v n m xs ys) {k : Nat} (hk : w.heap.size ≤ k) : some k ≠ u.ownBlock := fun e => by
  have := (h.a.lt k e.symm).2; omega
theorem Pair2.grow (h : Pair2 B a0 w u v n m xs ys) {g cap n' : Nat} {xs' : List Int} (ho : w'.ownsRow B 3 1 (.slice (some ⟨g, 0, none⟩) n' cap) n' (ints xs')) (hg : w.grownBy w' u.ownBlock)
    (hat : u.ownBlock = some g ∨ g = w.heap.size) : Pair2 B a0 w' (.slice (some ⟨g, 0, none⟩) n' cap) v n' m xs' ys :=
  ⟨ho, h.l.kept hg h.ap.ne, fun k hk hv => by
    obtain rfl : g = k := by simpa [Value.ownBlock] using hk
    rcases hat with e | e
    · exact h.ap _ e hv
    · have := (h.l.lt _ hv).2; omega, h.b.grown hg h.sz (own_ge h.a (Nat.le_refl _)), Nat.le_trans h.sz hg.size⟩
end

theorem step_appA {ops : Array Oper} {o : Oper} {a : Act} {K : Act → World → Prop} {Q : Exit → Act → World → Prop} {E : Prop} {B : Nat} {a0 w : World} {u v : Value} {n m : Nat} {xs ys : List Int} (hgd : o.guard = none) (s x : Operand)
    (ho : o.op = .call { callee := .builtin .append, args := #[s, x], argTypes := #[22, 22] }) (hs : a.eval s = u) (y : Int) (g0 : Nat)
    (hx : a.eval x = .slice (some ⟨g0, 0, none⟩) 1 1) (hP : Pair2 B a0 w u v n m xs ys) (hlit : w.heap[g0]? = some (.cells #[.int .i64 y] 3)) (hlen : n < 1000000)
    (h : ∀ g cap w', Pair2 B a0 w' (.slice (some ⟨g, 0, none⟩) (n + 1) cap) v (n + 1) m (xs ++ [y]) ys → w.heap.size ≤ w'.heap.size → (∀ k, k < w.heap.size → some k ≠ u.ownBlock → w'.heap[k]? = w.heap[k]?) →
      K (a.put o.dst (.slice (some ⟨g, 0, none⟩) (n + 1) cap)) w') :
    if Region.wanted o (yielded ops a.tmps) = true then Oper.wp Tryz.prog o a w K Q else E :=
  step_app1 hgd s x ho hs y n g0 hx hP.a hlit hlen hP.sz (fun g cap w' h1 h2 h3 _ => h g cap w' (hP.grow h1 h2 h3) h2.size (fun k hk hn => h2.block k hk hn))
theorem step_appL {ops : Array Oper} {o : Oper} {a : Act} {K : Act → World → Prop} {Q : Exit → Act → World → Prop} {E : Prop} {B : Nat} {a0 w : World} {u v : Value} {n m : Nat} {xs ys : List Int} (hgd : o.guard = none) (s x : Operand)
    (ho : o.op = .call { callee := .builtin .append, args := #[s, x], argTypes := #[22, 22] }) (hs : a.eval s = v) (y : Int) (g0 : Nat)
    (hx : a.eval x = .slice (some ⟨g0, 0, none⟩) 1 1) (hP : Pair2 B a0 w u v n m xs ys) (hlit : w.heap[g0]? = some (.cells #[.int .i64 y] 3)) (hlen : m < 1000000)
    (h : ∀ g cap w', Pair2 B a0 w' u (.slice (some ⟨g, 0, none⟩) (m + 1) cap) n (m + 1) xs (ys ++ [y]) → w.heap.size ≤ w'.heap.size → (∀ k, k < w.heap.size → some k ≠ v.ownBlock → w'.heap[k]? = w.heap[k]?) →
      K (a.put o.dst (.slice (some ⟨g, 0, none⟩) (m + 1) cap)) w') :
    if Region.wanted o (yielded ops a.tmps) = true then Oper.wp Tryz.prog o a w K Q else E :=
  step_app1 hgd s x ho hs y m g0 hx hP.l hlit hlen hP.sz (fun g cap w' h1 h2 h3 _ => h g cap w' (hP.swap.grow h1 h2 h3).swap h2.size (fun k hk hn => h2.block k hk hn))

theorem lit1 (w : World) (o o' : Obj) : ((w.alloc o).alloc o').heap[w.heap.size]? = some o := (heap_alloc_old (w.alloc o) o' (by simp)).trans (heap_alloc_new w o)
theorem lit2 (w : World) (o o' : Obj) : ((w.alloc o).alloc o').heap[w.heap.size + 1]? = some o' := by
  have := heap_alloc_new (w.alloc o) o'
  simpa using this
theorem lt1 (w : World) (o o' : Obj) : w.heap.size < ((w.alloc o).alloc o').heap.size := by simp; omega
theorem lt2 (w : World) (o o' : Obj) : w.heap.size + 1 < ((w.alloc o).alloc o').heap.size := by simp

/-- What Frobenius answers of a partition. -/
def TolP (R : List Int → List Int → Prop) (B : Nat) (e : Ending) (w : World) : Prop :=
  ∃ (xs ys : List Int) (A1 A2 : Option Addr) (c1 c2 : Nat) (k : Int), e = .returned (.tuple #[.slice A1 xs.length c1, .slice A2 ys.length c2, .int .i64 k]) ∧
    w.ownsRow B 3 1 (.slice A1 xs.length c1) xs.length (ints xs) ∧ w.ownsRow B 3 1 (.slice A2 ys.length c2) ys.length (ints ys) ∧ Apart (.slice A1 xs.length c1) (.slice A2 ys.length c2) ∧ R xs ys
def FrobT (p xs ys : List Int) : Prop := (∃ d, IsDiag p d ∧ xs = armsOf p d ∧ ys = armsOf (flipOf p) d) ∧ IsPart p ∧ p.sum ≤ 40 ∨ ¬ (IsPart p ∧ p.sum ≤ 40) ∧ xs = [] ∧ ys = []
theorem frob_fin {p : List Int} (hp : IsPart p) (hs : p.sum ≤ 40) {w w1 wr : World} {u v : Value} {i : Nat} (hd : IsDiag p i) (h : Pair2 w1.heap.size w1 wr u v i i (armsOf p i) (armsOf (flipOf p) i)) (hb : Below w.heap.size w w1) :
    TolP (FrobT p) w.heap.size (.returned (.tuple #[u, v, .int .i64 0])) wr ∧ Below w.heap.size w wr := by
  obtain ⟨A1, c1, e1, _, s1⟩ := own_sliceT (h.a.mono hb.size)
  obtain ⟨A2, c2, e2, _, s2⟩ := own_sliceT (h.l.mono hb.size)
  have hap := h.ap
  rw [e1, e2] at hap
  exact ⟨⟨_, _, A1, A2, c1, c2, 0, by rw [e1, e2], s1, s2, hap, .inl ⟨⟨i, hd, rfl, rfl⟩, hp, hs⟩⟩, hb.trans (h.b.mono hb.size)⟩

set_option maxRecDepth 100000 in
set_option maxHeartbeats 2000000 in
theorem frob_any (A : Option Addr) (cap : Nat) (p : List Int) (w : World) (hp : IsPart p) (hs : p.sum ≤ 40) (h : Sl w w.heap.size A (ints p)) :
    Calls Tryz.prog 22 #[.slice A p.length cap] w fun e w' => TolP (FrobT p) w.heap.size e w' ∧ Below w.heap.size w w' := by
  have hB := Nat.le_refl w.heap.size
  have hlen := hp.len hs
  have hc : partChk p = 0 := partChk_zero.2 ⟨hp, hs⟩
  have hfl : (flipOf p).length ≤ 40 := (flip_part hp).len (by rw [flip_sum hp]; exact hs)
  have HC := Lib.hid hc
  have HP := Lib.hid hp
  have HS := Lib.hid hs
  go_enter Tryz.func22, Tryz.ntmps22
  go_wp2_with fail
  refine (pcheck_any _ _ _ _ (by omega) h).mono ?_
  rintro e w0 ⟨rfl, rfl⟩
  rw [HC.out]
  go_wp2_with fail
  refine (flipped_any _ _ _ _ hp hs h).mono ?_
  rintro e w1 ⟨v, rfl, hown, hb1⟩
  obtain ⟨A', c', rfl, _, hs', _, _⟩ := own_slice hown
  have h1 := h.now hb1 (Nat.le_refl _)
  have HO := Lib.hid hown
  clear hown hc hp hs
  go_wp2
  go_loopw [2, 3, 7] (fun av lv iv wr => ∃ i : Nat, i ≤ p.length ∧ iv = .int .i64 i ∧ (∀ k, k < i → (k : Int) < p.getD k 0) ∧ Pair2 w1.heap.size w1 wr av lv i i (armsOf p i) (armsOf (flipOf p) i)) (fun _ _ iv _ => p.length - (intOf iv).toNat)
  case atStart => exact ⟨0, by omega, rfl, fun k hk => by omega, ⟨World.ownsRow_nil _ _ _ _, World.ownsRow_nil _ _ _ _, fun k hk => by simp [Value.ownBlock] at hk, Below.refl _ _, Nat.le_refl _⟩⟩
  case round =>
    obtain ⟨i, hi, rfl, hall, hp2⟩ := hrel
    have HALL := Lib.hid hall
    have HP1 := Lib.hid hp2
    have hW := hp2.b
    clear hall hp2
    by_cases hlt : i < p.length
    · have hd0 : decide (i < p.length) = true := decide_eq_true hlt
      obtain ⟨b, o, rfl, hb⟩ := h.addr (by omega)
      have hr := h1.below hW
      have hcx := getD_cell hr hlt
      have hx40 := part_le_sum HP.out hlt
      have hx40' := HS.out
      have hg := galois HP.out i i
      have hx0 := HP.out.1 i hlt
      obtain ⟨x, hx⟩ : ∃ x, x = p.getD i 0 := ⟨_, rfl⟩
      rw [← hx] at hcx hg hx0 hx40
      have hxx : x ≤ 40 := by omega
      have HX := Lib.hid hx
      clear hx hx40 hx40'
      by_cases hxi : (i : Int) < x
      · have hd1 : decide ((i : Int) < x) = true := decide_eq_true hxi
        have hyi := hg.1 hxi
        have hil : i < (flipOf p).length := by
          by_cases e : i < (flipOf p).length
          · exact e
          · rw [getD_out (by omega)] at hyi; omega
        obtain ⟨b2, o2, rfl, hb2⟩ := hs'.addr (by omega)
        have hcy := getD_cell (hs'.below hW) hil
        have hy40 : (flipOf p).getD i 0 ≤ 40 := by rw [flip_getD HP.out]; have := over_le p i; omega
        obtain ⟨y, hy⟩ : ∃ x, x = (flipOf p).getD i 0 := ⟨_, rfl⟩
        rw [← hy] at hcy hyi hy40
        have HY := Lib.hid hy
        clear hg hy
        go_upto_region 8 with fail
        have hfA : ∀ k, wr.heap.size ≤ k → some k ≠ u2.ownBlock := fun k hk => HP1.out.farA hk
        have hwz := hW.size
        have hb1z := hb1.size
        have hbA : some b ≠ u2.ownBlock := fun e => by have := (HP1.out.a.lt b e.symm).1; omega
        have hb2A : some b2 ≠ u2.ownBlock := fun e => by have := (HP1.out.a.lt b2 e.symm).1; omega
        have hbL : some b ≠ u3.ownBlock := fun e => by have := (HP1.out.l.lt b e.symm).1; omega
        have hb2L : some b2 ≠ u3.ownBlock := fun e => by have := (HP1.out.l.lt b2 e.symm).1; omega
        have w1x : IntKind.i64.wrap (x - (i : Int)) = x - (i : Int) := IntWalk.i64_in _ (by omega)
        have w2x : IntKind.i64.wrap (x - (i : Int) - 1) = x - (i : Int) - 1 := IntWalk.i64_in _ (by omega)
        have w1y : IntKind.i64.wrap (y - (i : Int)) = y - (i : Int) := IntWalk.i64_in _ (by omega)
        have w2y : IntKind.i64.wrap (y - (i : Int) - 1) = y - (i : Int) - 1 := IntWalk.i64_in _ (by omega)
        go_region_held3 (fun w' => w'.cell? ⟨b, o + i, none⟩ = some (.int .i64 x) ∧ w'.cell? ⟨b2, o2 + i, none⟩ = some (.int .i64 y))
          (first
            | go_keep
            | (go_split_ands
               refine ⟨?_, ?_⟩
               · (rw [World.cell?_of_block (hkA b (by first | omega | (simp; omega)) hbA)]; assumption)
               · (rw [World.cell?_of_block (hkA b2 (by first | omega | (simp; omega)) hb2A)]; assumption))
            | (go_split_ands
               refine ⟨?_, ?_⟩
               · (rw [World.cell?_of_block (hkL b (by first | omega | (simp; omega)) hbL)]; assumption)
               · (rw [World.cell?_of_block (hkL b2 (by first | omega | (simp; omega)) hb2L)]; assumption)))
          (first
            | ((refine step_appA (B := w1.heap.size) (a0 := w1) (u := u2) (v := u3) (n := i) (m := i) (xs := armsOf p i) (ys := armsOf (flipOf p) i) ?_ (.tmp 29) (.tmp 37) ?_ ?_ (x - (i : Int) - 1) (wr.heap.size) ?_ ?_ ?_ ?_ ?_
                · rfl
                · rfl
                · rfl
                · rfl
                · first | exact (HP1.out.alloc _).drew | exact ((HP1.out.alloc _).alloc _).drew
                · first | exact heap_alloc_new _ _ | exact lit1 _ _ _ | exact lit2 _ _ _
                · omega
                intro gA capA wA HP2 hszA hkA
                have hszA' : wr.heap.size + 1 ≤ wA.heap.size := Nat.le_trans (by simp; try omega) hszA))
            | ((refine step_appA (B := w1.heap.size) (a0 := w1) (u := u2) (v := u3) (n := i) (m := i) (xs := armsOf p i) (ys := armsOf (flipOf p) i) ?_ (.tmp 29) (.tmp 37) ?_ ?_ (x - (i : Int) - 1) (wr.heap.size + 1) ?_ ?_ ?_ ?_ ?_
                · rfl
                · rfl
                · rfl
                · rfl
                · first | exact (HP1.out.alloc _).drew | exact ((HP1.out.alloc _).alloc _).drew
                · first | exact heap_alloc_new _ _ | exact lit1 _ _ _ | exact lit2 _ _ _
                · omega
                intro gA capA wA HP2 hszA hkA
                have hszA' : wr.heap.size + 1 ≤ wA.heap.size := Nat.le_trans (by simp; try omega) hszA))
            | ((refine step_appL (B := w1.heap.size) (a0 := w1) (u := .slice (some ⟨gA, 0, none⟩) (i + 1) capA) (v := u3) (n := i + 1) (m := i) (xs := armsOf p i ++ [x - (i : Int) - 1]) (ys := armsOf (flipOf p) i) ?_ (.tmp 39) (.tmp 47) ?_ ?_ (y - (i : Int) - 1) (wA.heap.size) ?_ ?_ ?_ ?_ ?_
                · rfl
                · rfl
                · rfl
                · rfl
                · first | exact HP2 | exact HP2.alloc _ | exact (HP2.alloc _).drew
                · first | exact heap_alloc_new _ _ | exact (hkA _ (lt1 _ _ _) (hfA _ (Nat.le_refl _))).trans (lit1 _ _ _) | exact (hkA _ (lt2 _ _ _) (hfA _ (Nat.le_succ _))).trans (lit2 _ _ _)
                · omega
                intro gL capL wL HP3 hszL hkL))
            | ((refine step_appL (B := w1.heap.size) (a0 := w1) (u := .slice (some ⟨gA, 0, none⟩) (i + 1) capA) (v := u3) (n := i + 1) (m := i) (xs := armsOf p i ++ [x - (i : Int) - 1]) (ys := armsOf (flipOf p) i) ?_ (.tmp 39) (.tmp 47) ?_ ?_ (y - (i : Int) - 1) (wr.heap.size) ?_ ?_ ?_ ?_ ?_
                · rfl
                · rfl
                · rfl
                · rfl
                · first | exact HP2 | exact HP2.alloc _ | exact (HP2.alloc _).drew
                · first | exact heap_alloc_new _ _ | exact (hkA _ (lt1 _ _ _) (hfA _ (Nat.le_refl _))).trans (lit1 _ _ _) | exact (hkA _ (lt2 _ _ _) (hfA _ (Nat.le_succ _))).trans (lit2 _ _ _)
                · omega
                intro gL capL wL HP3 hszL hkL))
            | ((refine step_appL (B := w1.heap.size) (a0 := w1) (u := .slice (some ⟨gA, 0, none⟩) (i + 1) capA) (v := u3) (n := i + 1) (m := i) (xs := armsOf p i ++ [x - (i : Int) - 1]) (ys := armsOf (flipOf p) i) ?_ (.tmp 39) (.tmp 47) ?_ ?_ (y - (i : Int) - 1) (wr.heap.size + 1) ?_ ?_ ?_ ?_ ?_
                · rfl
                · rfl
                · rfl
                · rfl
                · first | exact HP2 | exact HP2.alloc _ | exact (HP2.alloc _).drew
                · first | exact heap_alloc_new _ _ | exact (hkA _ (lt1 _ _ _) (hfA _ (Nat.le_refl _))).trans (lit1 _ _ _) | exact (hkA _ (lt2 _ _ _) (hfA _ (Nat.le_succ _))).trans (lit2 _ _ _)
                · omega
                intro gL capL wL HP3 hszL hkL))
            | fail)
        all_goals
          go_wp2
          go_roundw
          case rel =>
            refine ⟨i + 1, by omega, by go_num, fun k hk => ?_, ?_⟩
            · by_cases e : k = i
              · rw [e, ← HX.out]; exact hxi
              · exact HALL.out k (by omega)
            · rw [← armsOf_succ p i, ← armsOf_succ (flipOf p) i, ← HX.out, ← HY.out]; exact HP3
          case measure => simp [intOf]; omega
      · have hd1 : decide ((i : Int) < x) = false := decide_eq_false hxi
        have hdg : Hid (IsDiag p i) := ⟨HALL.out, by rw [← HX.out]; omega⟩
        clear hg hxi
        go_wp2
        go_ret3
        exact frob_fin HP.out HS.out hdg.out HP1.out hb1
    · have hd0 : decide (i < p.length) = false := decide_eq_false hlt
      have hdg : Hid (IsDiag p i) := ⟨HALL.out, by rw [getD_out (by omega)]; omega⟩
      go_wp2
      go_ret3
      exact frob_fin HP.out HS.out hdg.out HP1.out hb1

end Go.Proofs.YtpmkdihencepnaaGreat
