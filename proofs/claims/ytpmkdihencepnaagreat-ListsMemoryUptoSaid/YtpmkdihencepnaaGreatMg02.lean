/-
  Slices of slices of ints: read; built by the call itself (printed by wip/mkA.py).
-/
import Derived.Deep.Onto
import Derived.Deep.AppendLies
import Derived.Test.YtpmkdihencepnaaGreatMg01
namespace Go.Proofs.YtpmkdihencepnaaGreat
open Go.RowKit

/-- A slice value '.slice A rows.length cap' that reads as rows, all below block B. -/
def SR (w : World) (B : Nat) (A : Option Addr) (rows : List (List Int)) : Prop :=
  ∃ hs : List Value, hs.length = rows.length ∧ Sl w B A hs ∧ ∀ r, r < rows.length → ∃ Ar cr, hs[r]? = some (.slice Ar (rows.getD r []).length cr) ∧ Sl w B Ar (ints (rows.getD r [])) ∧ (rows.getD r []).length ≤ 9223372036854775807

section
variable {w w' : World} {B B' : Nat} {A : Option Addr} {rows : List (List Int)}
theorem SR.below (h : SR w B A rows) (hb : Below B w w') : SR w' B A rows := by
  obtain ⟨hs, h1, h2, h3⟩ := h
  exact ⟨hs, h1, h2.below hb, fun r hr => by obtain ⟨Ar, cr, a, b, c⟩ := h3 r hr; exact ⟨Ar, cr, a, b.below hb, c⟩⟩
theorem SR.more (h : SR w B A rows) (hB : B ≤ B') : SR w B' A rows := by
  obtain ⟨hs, h1, h2, h3⟩ := h
  exact ⟨hs, h1, h2.more hB, fun r hr => by obtain ⟨Ar, cr, a, b, c⟩ := h3 r hr; exact ⟨Ar, cr, a, b.more hB, c⟩⟩
theorem SR.now (h : SR w B A rows) (hb : Below B w w') (hB : B ≤ w.heap.size) : SR w' w'.heap.size A rows := (h.below hb).more (Nat.le_trans hB hb.size)
theorem SR.keep (h : SR w w.heap.size A rows) (hb : Below w.heap.size w w') : SR w' w'.heap.size A rows := (h.below hb).more hb.size
theorem SR.nil (w : World) (B : Nat) (A : Option Addr) : SR w B A [] := ⟨[], rfl, Sl.nil _ _ _, fun r hr => by simp at hr⟩
/-- Where it lies. -/
theorem SR.addr (h : SR w B A rows) (hp : 0 < rows.length) : ∃ b o, A = some ⟨b, o, none⟩ ∧ b < B := by
  obtain ⟨hs, h1, h2, _⟩ := h
  obtain ⟨b, o, e, hlt, _⟩ := h2 (by omega)
  exact ⟨b, o, e, hlt⟩
/-- The r-th row. -/
theorem SR.at_ {b o : Nat} (h : SR w B (some ⟨b, o, none⟩) rows) {r : Nat} (hr : r < rows.length) :
    ∃ Ar cr, w.cell? ⟨b, o + r, none⟩ = some (.slice Ar (rows.getD r []).length cr) ∧ Sl w B Ar (ints (rows.getD r [])) ∧ (rows.getD r []).length ≤ 9223372036854775807 := by
  obtain ⟨hs, h1, h2, h3⟩ := h
  obtain ⟨Ar, cr, a, b', c⟩ := h3 r hr
  obtain ⟨b1, o1, e1, _, hc⟩ := h2 (by omega)
  obtain ⟨rfl, rfl⟩ : b = b1 ∧ o = o1 := by simpa using e1
  exact ⟨Ar, cr, hc r _ a, b', c⟩
end

/-- Two values that own no block together. -/
def Far (v u : Value) : Prop := ∀ k, v.ownBlock = some k → u.ownBlock ≠ some k
theorem Far.symm {u v : Value} (h : Far u v) : Far v u := fun k h1 h2 => h k h2 h1
theorem Far.ne {u v : Value} (h : Far u v) : v.ownBlock = none ∨ v.ownBlock ≠ u.ownBlock := by
  cases e : v.ownBlock with
  | none => exact .inl rfl
  | some k => exact .inr (fun h2 => h k h2.symm e)

/-- A slice of slices of ints that the call owns, hs the rows' values. -/
structure OwnM (w : World) (B : Nat) (v : Value) (hs : List Value) (rows : List (List Int)) : Prop where
  len : hs.length = rows.length
  out : w.ownsRow B 22 1 v rows.length hs
  inn : ∀ r, r < rows.length → w.ownsRow B 3 1 (hs.getD r undef) (rows.getD r []).length (ints (rows.getD r []))
  far : ∀ r s, r < rows.length → s < rows.length → r ≠ s → Far (hs.getD r undef) (hs.getD s undef)
  top : ∀ r, r < rows.length → Far v (hs.getD r undef)

section
variable {w w' : World} {B : Nat} {v : Value} {hs : List Value} {rows : List (List Int)}
theorem OwnM.nil (w : World) (B : Nat) : OwnM w B (.slice none 0 0) [] [] :=
  ⟨rfl, World.ownsRow_nil _ _ _ _, fun r hr => by simp at hr, fun r s hr => by simp at hr, fun r hr => by simp at hr⟩
theorem OwnM.below (h : OwnM w B v hs rows) (hb : Below w.heap.size w w') : OwnM w' B v hs rows :=
  ⟨h.len, own_below h.out hb, fun r hr => own_below (h.inn r hr) hb, h.far, h.top⟩
theorem OwnM.alloc (h : OwnM w B v hs rows) (o : Obj) : OwnM (w.alloc o) B v hs rows :=
  ⟨h.len, h.out.alloc o, fun r hr => (h.inn r hr).alloc o, h.far, h.top⟩
theorem OwnM.drewN (h : OwnM w B v hs rows) (k : Nat) : OwnM (w.drewN k) B v hs rows := ⟨h.len, h.out, h.inn, h.far, h.top⟩
theorem OwnM.get (h : OwnM w B v hs rows) {r : Nat} (hr : r < rows.length) : hs[r]? = some (hs.getD r undef) := by
  have : r < hs.length := by rw [h.len]; exact hr
  rw [List.getD_eq_getElem?_getD]; simp [this]
/-- As a slice that reads. -/
theorem OwnM.sr (h : OwnM w B v hs rows) : ∃ A c, v = .slice A rows.length c ∧ SR w w.heap.size A rows ∧ rows.length ≤ c ∧ c ≤ 9223372036854775807 := by
  have key : ∀ A, Sl w w.heap.size A hs → SR w w.heap.size A rows := fun A hA => ⟨hs, h.len, hA, fun r hr => by
    obtain ⟨Ar, cr, e, _, hsl, e1, e2⟩ := own_sliceA (h.inn r hr)
    exact ⟨Ar, cr, by rw [h.get hr, e], hsl, by omega⟩⟩
  rcases h.out.2 with ⟨e1, e2⟩ | ⟨g, c, _, e1, _⟩
  · refine ⟨none, 0, by rw [e2]; exact e1, key none ?_, by omega, by omega⟩
    have hz : hs = [] := List.eq_nil_of_length_eq_zero (by rw [h.len]; exact e2)
    rw [hz]; exact Sl.nil _ _ _
  · have ho := h.out
    rw [e1] at ho
    exact ⟨_, c, e1, key _ (Sl.of_own ho), (own_cap ho).1, (own_cap ho).2⟩
/-- A slice of rows that is the call's own, by its parts. -/
def OwnR (w : World) (B : Nat) (A : Option Addr) (c : Nat) (rows : List (List Int)) : Prop := ∃ hs, OwnM w B (.slice A rows.length c) hs rows
theorem OwnR.nil (w : World) (B : Nat) : OwnR w B none 0 [] := ⟨[], OwnM.nil w B⟩
theorem OwnM.lowr {B' : Nat} (h : OwnM w B v hs rows) (hB : B' ≤ B) : OwnM w B' v hs rows := ⟨h.len, h.out.mono hB, fun r hr => (h.inn r hr).mono hB, h.far, h.top⟩
theorem OwnM.ownR (h : OwnM w B v hs rows) : ∃ A c, v = .slice A rows.length c ∧ OwnR w B A c rows ∧ rows.length ≤ c ∧ c ≤ 9223372036854775807 := by
  obtain ⟨A, c, rfl, _, h1, h2⟩ := h.sr
  exact ⟨A, c, rfl, ⟨hs, h⟩, h1, h2⟩
theorem OwnR.sr {A : Option Addr} {c : Nat} (h : OwnR w B A c rows) : SR w w.heap.size A rows := by
  obtain ⟨hs, h⟩ := h
  obtain ⟨A', c', e, h1, _⟩ := h.sr
  cases e
  exact h1
theorem OwnR.below {A : Option Addr} {c : Nat} (h : OwnR w B A c rows) (hb : Below w.heap.size w w') : OwnR w' B A c rows := by
  obtain ⟨hs, h⟩ := h
  exact ⟨hs, h.below hb⟩
theorem OwnR.low {B' : Nat} {A : Option Addr} {c : Nat} (h : OwnR w B A c rows) (hB : B' ≤ B) : OwnR w B' A c rows := by
  obtain ⟨hs, h⟩ := h
  exact ⟨hs, h.lowr hB⟩
/-- A row put behind. -/
theorem OwnM.push (h : OwnM w B v hs rows) {u : Value} {l : List Int} (hu : w.ownsRow B 3 1 u l.length (ints l)) (hf : ∀ r, r < rows.length → Far (hs.getD r undef) u) (hv : Far v u) {g cap n' : Nat} (hn : n' = rows.length + 1)
    (ho : w'.ownsRow B 22 1 (.slice (some ⟨g, 0, none⟩) n' cap) n' (hs ++ [u])) (hg : w.grownBy w' v.ownBlock) (hat : v.ownBlock = some g ∨ g = w.heap.size) :
    OwnM w' B (.slice (some ⟨g, 0, none⟩) n' cap) (hs ++ [u]) (rows ++ [l]) := by
  have hl : (rows ++ [l]).length = rows.length + 1 := by simp
  have low : ∀ r, r < rows.length → (hs ++ [u]).getD r undef = hs.getD r undef ∧ (rows ++ [l]).getD r [] = rows.getD r [] := fun r hr => by
    rw [List.getD_eq_getElem?_getD, List.getD_eq_getElem?_getD, List.getD_eq_getElem?_getD, List.getD_eq_getElem?_getD, List.getElem?_append_left (by rw [h.len]; exact hr), List.getElem?_append_left hr]
    exact ⟨rfl, rfl⟩
  have top : (hs ++ [u]).getD rows.length undef = u ∧ (rows ++ [l]).getD rows.length [] = l := by
    rw [List.getD_eq_getElem?_getD, List.getD_eq_getElem?_getD]
    have := h.len
    constructor
    · rw [← this]; simp
    · simp
  have nf : ∀ x : Value, Far v x → (∀ k, x.ownBlock = some k → k < w.heap.size) → Far (.slice (some ⟨g, 0, none⟩) n' cap) x := fun x hx hlt k hk e => by
    obtain rfl : g = k := by simpa [Value.ownBlock] using hk
    rcases hat with e2 | e2
    · exact hx _ e2 e
    · have := hlt _ e; omega
  refine ⟨by rw [hl, List.length_append, h.len]; rfl, by rw [hl, ← hn]; exact ho, fun r hr => ?_, fun r s hr hs' hne => ?_, fun r hr => ?_⟩
  · by_cases c : r < rows.length
    · rw [(low r c).1, (low r c).2]; exact (h.inn r c).kept hg (h.top r c).ne
    · obtain rfl : r = rows.length := by omega
      rw [top.1, top.2]; exact hu.kept hg hv.ne
  · by_cases c : r < rows.length
    · by_cases c2 : s < rows.length
      · rw [(low r c).1, (low s c2).1]; exact h.far r s c c2 hne
      · obtain rfl : s = rows.length := by omega
        rw [(low r c).1, top.1]; exact hf r c
    · obtain rfl : r = rows.length := by omega
      have c2 : s < rows.length := by omega
      rw [(low s c2).1, top.1]; exact (hf s c2).symm
  · by_cases c : r < rows.length
    · rw [(low r c).1]; exact nf _ (h.top r c) (fun k hk => ((h.inn r c).lt k hk).2)
    · obtain rfl : r = rows.length := by omega
      rw [top.1]; exact nf _ hv (fun k hk => (hu.lt k hk).2)
end

theorem Tryz.infoSlice : (Tryz.prog.info? 22).map (fun i => (i.zero, i.size, i.bytes)) = some (some (.slice none 0 0), 1, 24) := by kernel_rfl

/-- 'append(v, u)' of one slice of ints: u was laid in a block of its own. -/
theorem wpList_push {w : World} {base : Nat} {v : Value} {hs : List Value} {ops : Array Oper} {rest : List Oper} {o : Oper} {a : Act} {Q : Exit → Act → World → Prop} (hgd : o.guard = none) (s x : Operand)
    (ho : o.op = .call { callee := .builtin .append, args := #[s, x], argTypes := #[28, 28] }) (hs' : a.eval s = v) (u : Value) (hu : u.oneCell' = true) {n : Nat}
    (hown : w.ownsRow base 22 1 v n hs) (g0 : Nat) (hg0 : g0 = w.heap.size) (hx : a.eval x = .slice (some ⟨g0, 0, none⟩) 1 1) (hlen : n < 1000000) (hbase : base ≤ w.heap.size)
    (h : ∀ g cap w', w'.ownsRow base 22 1 (.slice (some ⟨g, 0, none⟩) (n + 1) cap) (n + 1) (hs ++ [u]) → (w.alloc (.cells #[u] 22)).grownBy w' v.ownBlock → (v.ownBlock = some g ∨ g = w.heap.size + 1) →
      wpList Tryz.prog ops Q rest (a.put o.dst (.slice (some ⟨g, 0, none⟩) (n + 1) cap)) w') :
    wpList Tryz.prog ops Q (o :: rest) a (w.alloc (.cells #[u] 22)) := by
  subst hg0
  obtain ⟨i0, hi, hz0, hz1, hz2⟩ := info_parts Tryz.infoSlice
  refine wpList_append_lies _ hgd s x 28 ho base 22 i0 (.slice none 0 0) 1 24 Tryz.underlying28 hi hz0 hz1 hz2 rfl (by decide) v n hs hs' (hown.alloc _) ⟨w.heap.size, 0, none⟩ 1 1 [u] hx rfl ?_ (by simpa using hu) (by decide)
    (by unfold maxLen; omega) (by omega) (by simp; omega) _ rfl (fun g cap w' h1 h2 h3 _ => ?_)
  · intro j y hy
    match j, hy with
    | 0, hy => simp at hy; subst hy; simp [Addr.add]
  · exact h g cap w' (by simpa using h1) h2 (by simpa using h3)

/-- '[][]int{u}'. -/
theorem OwnM.single {w : World} {B : Nat} {u : Value} {l : List Int} {k : Nat} (hk : k = l.length) (hu : w.ownsRow B 3 1 u k (ints l)) (hB : B ≤ w.heap.size) : OwnM (w.alloc (.cells #[u] 22)) B (.slice (some ⟨w.heap.size, 0, none⟩) 1 1) [u] [l] := by
  subst hk
  have h0 : ∀ r, r < [l].length → r = 0 := fun r hr => by simp at hr; exact hr
  refine ⟨rfl, World.ownsRow_lit (e := 22) (size := 1) w #[u] 1 hB (by decide) rfl, fun r hr => ?_, fun r s hr hs' hne => ?_, fun r hr => ?_⟩
  · obtain rfl := h0 r hr; exact hu.alloc _
  · have := h0 r hr; have := h0 s hs'; omega
  · obtain rfl := h0 r hr
    intro k hk e
    obtain rfl : w.heap.size = k := by simpa [Value.ownBlock] using hk
    have := (hu.lt _ e).2
    omega
/-- The value of the r-th row, where it has something. -/
theorem OwnM.row {w : World} {B g n c : Nat} {hs : List Value} {rows : List (List Int)} (h : OwnM w B (.slice (some ⟨g, 0, none⟩) n c) hs rows) {r : Nat} (hr : r < rows.length) (hp : 0 < (rows.getD r []).length) :
    ∃ gr cr, hs.getD r undef = .slice (some ⟨gr, 0, none⟩) (rows.getD r []).length cr ∧ w.cell? ⟨g, r, none⟩ = some (.slice (some ⟨gr, 0, none⟩) (rows.getD r []).length cr) ∧
      w.ownsRow B 3 1 (.slice (some ⟨gr, 0, none⟩) (rows.getD r []).length cr) (rows.getD r []).length (ints (rows.getD r [])) ∧ B ≤ gr ∧ gr < w.heap.size := by
  have hi := h.inn r hr
  obtain ⟨gr, cr, e, h1, h2⟩ := hi.form hp
  refine ⟨gr, cr, e, ?_, by rw [← e]; exact hi, h1, h2⟩
  have ho := h.out
  have hn : n = rows.length := by
    rcases ho.2 with ⟨e1, _⟩ | ⟨_, _, _, e1, _⟩
    · cases e1
    · injection e1
  subst hn
  rw [ho.cellAt r (by omega), h.get hr, e]
theorem OwnM.far_new {w : World} {B : Nat} {v : Value} {hs : List Value} {rows : List (List Int)} (h : OwnM w B v hs rows) {u : Value} (hu : ∀ k, u.ownBlock = some k → w.heap.size ≤ k) : (∀ r, r < rows.length → Far (hs.getD r undef) u) ∧ Far v u :=
  ⟨fun r hr k hk e => by have := ((h.inn r hr).lt k hk).2; have := hu k e; omega, fun k hk e => by have := (h.out.lt k hk).2; have := hu k e; omega⟩

/-- A cell of one row turned. -/
theorem OwnM.setIn {w : World} {B : Nat} {v : Value} {hs : List Value} {rows : List (List Int)} (h : OwnM w B v hs rows) {r g c : Nat} (hr : r < rows.length) (hg : hs.getD r undef = .slice (some ⟨g, 0, none⟩) (rows.getD r []).length c) (j : Nat) (y : Int) :
    OwnM (w.setCell ⟨g, j, none⟩ (.int .i64 y)) B v hs (rows.set r ((rows.getD r []).set j y)) := by
  have other : ∀ {base n : Nat} {e : TypeId} {u : Value} {cs : List Value}, w.ownsRow base e 1 u n cs → (∀ k, u.ownBlock = some k → k ≠ g) → (w.setCell ⟨g, j, none⟩ (.int .i64 y)).ownsRow base e 1 u n cs := by
    intro base n e u cs ho hne
    refine ⟨ho.1, ?_⟩
    rcases ho.2 with hn | ⟨g', cap, cur, e1, hg', hh, rest⟩
    · exact .inl hn
    · refine .inr ⟨g', cap, cur, e1, hg', ?_, rest⟩
      have : g' ≠ g := hne g' (by rw [e1]; rfl)
      rw [← hh]
      simp [World.setCell, Array.getElem?_modify, Ne.symm this]
  have hgb : ∀ u : Value, Far u (hs.getD r undef) → ∀ k, u.ownBlock = some k → k ≠ g := fun u hf k hk e => by
    subst e; exact hf k hk (by rw [hg]; rfl)
  have hL : (rows.set r ((rows.getD r []).set j y)).length = rows.length := by simp
  refine ⟨by rw [hL]; exact h.len, by rw [hL]; exact other h.out (hgb v (h.top r hr)), fun s hs' => ?_, fun s t hs' ht hne => h.far s t (by rw [hL] at hs'; exact hs') (by rw [hL] at ht; exact ht) hne, fun s hs' => h.top s (by rw [hL] at hs'; exact hs')⟩
  rw [hL] at hs'
  by_cases e : s = r
  · subst e
    have e1 : (rows.set s ((rows.getD s []).set j y)).getD s [] = (rows.getD s []).set j y := by
      rw [List.getD_eq_getElem?_getD, List.getElem?_set_self hs']; rfl
    rw [e1, List.length_set]
    have hi := h.inn s hs'
    rw [hg] at hi ⊢
    exact own_set hi j y
  · have e1 : (rows.set r ((rows.getD r []).set j y)).getD s [] = rows.getD s [] := by
      rw [List.getD_eq_getElem?_getD, List.getElem?_set_ne (fun e2 => e e2.symm), ← List.getD_eq_getElem?_getD]
    rw [e1]
    exact other (h.inn s hs') (hgb _ (h.far s r hs' hr e))
/-- What a call that tells rows leaves: rows of its own, of a given kind. -/
def Told (R : List (List Int) → Prop) (B : Nat) (e : Ending) (w : World) : Prop :=
  ∃ (rows : List (List Int)) (A : Option Addr) (c : Nat) (k : Int), e = .returned (.tuple #[.slice A rows.length c, .int .i64 k]) ∧ OwnR w B A c rows ∧ R rows
/-- What a call that tells a list leaves: a list of its own, of a given kind. -/
def ToldL (R : List Int → Prop) (B : Nat) (e : Ending) (w : World) : Prop :=
  ∃ (xs : List Int) (A : Option Addr) (c : Nat) (k : Int), e = .returned (.tuple #[.slice A xs.length c, .int .i64 k]) ∧ w.ownsRow B 3 1 (.slice A xs.length c) xs.length (ints xs) ∧ R xs
theorem own_sliceV {w : World} {base n : Nat} {v : Value} {xs : List Int} (h : w.ownsRow base 3 1 v n (ints xs)) : ∃ A c, v = .slice A xs.length c ∧ n = xs.length ∧ w.ownsRow base 3 1 (.slice A xs.length c) xs.length (ints xs) := by
  obtain ⟨A, c, rfl, hn, _⟩ := own_sliceA h
  subst hn
  exact ⟨A, c, rfl, rfl, h⟩

end Go.Proofs.YtpmkdihencepnaaGreat

/-
  What a call leaves untouched.
-/
namespace Go.Proofs.YtpmkdihencepnaaGreat
open Go.RowKit

/-- Blocks that were there and are not in F stay as they are. -/
structure Fr (w w' : World) (F : Nat → Prop) : Prop where
  size : w.heap.size ≤ w'.heap.size
  block : ∀ k, k < w.heap.size → ¬ F k → w'.heap[k]? = w.heap[k]?
theorem Fr.refl (w : World) (F : Nat → Prop) : Fr w w F := ⟨Nat.le_refl _, fun _ _ _ => rfl⟩
theorem Fr.alloc {w w' : World} {F : Nat → Prop} (h : Fr w w' F) (o : Obj) : Fr w (w'.alloc o) F :=
  ⟨by have := h.size; simp; omega, fun k hk hn => by
    have h1 := h.size
    have h2 : (w'.alloc o).heap[k]? = w'.heap[k]? := by
      have := (World.grownBy_alloc w' o none).block k (by omega) (by simp)
      exact this
    rw [h2]; exact h.block k hk hn⟩
theorem Fr.grown {w w' w2 : World} {F : Nat → Prop} {row : Option Nat} (h : Fr w w' F) (hg : w'.grownBy w2 row) (hr : ∀ k, row = some k → F k) : Fr w w2 F :=
  ⟨Nat.le_trans h.size hg.size, fun k hk hn => by
    rw [hg.block k (by have := h.size; omega) (fun e => hn (hr k e.symm))]; exact h.block k hk hn⟩
theorem Fr.setCell {w w' : World} {F : Nat → Prop} (h : Fr w w' F) {a : Addr} {y : Value} (ha : F a.block) : Fr w (w'.setCell a y) F :=
  ⟨by have := h.size; simpa using this, fun k hk hn => by
    have hne : a.block ≠ k := fun e => hn (e ▸ ha)
    have : (w'.setCell a y).heap[k]? = w'.heap[k]? := by simp [World.setCell, Array.getElem?_modify, hne]
    rw [this]; exact h.block k hk hn⟩
theorem Fr.trans {a b c : World} {F G : Nat → Prop} (h : Fr a b F) (h' : Fr b c G) (hG : ∀ k, k < a.heap.size → G k → F k) : Fr a c F :=
  ⟨Nat.le_trans h.size h'.size, fun k hk hn => by
    rw [h'.block k (by have := h.size; omega) (fun e => hn (hG k hk e))]; exact h.block k hk hn⟩
theorem Fr.drewN {w w' : World} {F : Nat → Prop} (h : Fr w w' F) (q : Nat) : Fr w (w'.drewN q) F := ⟨h.size, h.block⟩
/-- The blocks of a tableau. -/
def foot (v : Value) (hs : List Value) (k : Nat) : Prop := v.ownBlock = some k ∨ ∃ r, r < hs.length ∧ (hs.getD r undef).ownBlock = some k
theorem foot_top {v : Value} {hs : List Value} {k : Nat} (h : v.ownBlock = some k) : foot v hs k := .inl h
theorem foot_row {v : Value} {hs : List Value} {i k : Nat} (hi : i < hs.length) (h : (hs.getD i undef).ownBlock = some k) : foot v hs k := .inr ⟨i, hi, h⟩
theorem OwnM.foot_lt {w : World} {B : Nat} {v : Value} {hs : List Value} {rows : List (List Int)} (h : OwnM w B v hs rows) {k : Nat} (hk : foot v hs k) : B ≤ k ∧ k < w.heap.size := by
  rcases hk with hk | ⟨r, hr, hk⟩
  · exact h.out.lt k hk
  · exact (h.inn r (by rw [← h.len]; exact hr)).lt k hk
theorem own_same {w w' : World} {base n : Nat} {e : TypeId} {v : Value} {cs : List Value} (h : w.ownsRow base e 1 v n cs) (hk : ∀ k, v.ownBlock = some k → w'.heap[k]? = w.heap[k]?) : w'.ownsRow base e 1 v n cs := by
  refine ⟨h.1, ?_⟩
  rcases h.2 with hn | ⟨g, cap, cur, e1, hg, hh, rest⟩
  · exact .inl hn
  · exact .inr ⟨g, cap, cur, e1, hg, (hk g (by rw [e1]; rfl)).trans hh, rest⟩
/-- A tableau that another's turning leaves. -/
theorem OwnM.frame {w w' : World} {B : Nat} {v : Value} {hs : List Value} {rows : List (List Int)} {F : Nat → Prop} (h : OwnM w B v hs rows) (hf : Fr w w' F) (hd : ∀ k, foot v hs k → ¬ F k) : OwnM w' B v hs rows := by
  have key : ∀ k, foot v hs k → w'.heap[k]? = w.heap[k]? := fun k hk => hf.block k (h.foot_lt hk).2 (hd k hk)
  exact ⟨h.len, own_same h.out (fun k hk => key k (.inl hk)), fun r hr => own_same (h.inn r hr) (fun k hk => key k (.inr ⟨r, by rw [h.len]; exact hr, hk⟩)), h.far, h.top⟩


end Go.Proofs.YtpmkdihencepnaaGreat

/-
  What stands behind a slice: a row that is owned is owned with its spare room; an append leaves the slice itself as it was.
-/
namespace Go.Proofs.YtpmkdihencepnaaGreat
open Go.RowKit

section
variable {w : World} {base n g cap : Nat} {e : TypeId} {xs : List Value}
/-- A row that is owned, with its spare room. -/
theorem own_full (h : w.ownsRow base e 1 (.slice (some ⟨g, 0, none⟩) n cap) n xs) : ∃ ys : List Value, ys.length = cap ∧ ys.take n = xs ∧ n ≤ cap ∧ cap ≤ 9223372036854775807 ∧ w.ownsRow base e 1 (.slice (some ⟨g, 0, none⟩) cap cap) cap ys := by
  rcases h.2 with ⟨e1, _⟩ | ⟨g', cap', cur, e1, hb, hg, h1, h2, h3, h4⟩
  · cases e1
  · cases e1
    exact ⟨cur.toList, by simp [h3], by simpa using h4, h1, by simpa [maxLen] using h2, by simp [h3], .inr ⟨g, cap, cur, rfl, hb, hg, Nat.le_refl _, h2, h3, List.take_of_length_le (by simp [h3])⟩⟩
theorem own_part {ys : List Value} {m : Nat} (h : w.ownsRow base e 1 (.slice (some ⟨g, 0, none⟩) cap cap) cap ys) (hm : m ≤ cap) : w.ownsRow base e 1 (.slice (some ⟨g, 0, none⟩) m cap) m (ys.take m) := by
  have hl := h.1
  rcases h.2 with ⟨e1, _⟩ | ⟨g', cap', cur, e1, hb, hg, h1, h2, h3, h4⟩
  · cases e1
  · cases e1
    refine ⟨by simp at hl ⊢; omega, .inr ⟨g, cap, cur, rfl, hb, hg, hm, h2, h3, ?_⟩⟩
    rw [← h4, List.take_take]
    congr 1
    omega
/-- Written over up to i. -/
def ovr (i : Nat) (k : Value) (ys : List Value) : List Value := List.replicate i k ++ ys.drop i
theorem ovr_zero (k : Value) (ys : List Value) : ovr 0 k ys = ys := by simp [ovr]
theorem ovr_set {i : Nat} {k : Value} {ys : List Value} (h : i < ys.length) : (ovr i k ys).set i k = ovr (i + 1) k ys := by
  unfold ovr
  rw [List.set_append_right _ _ (by simp)]
  simp only [List.length_replicate, Nat.sub_self]
  rw [List.drop_eq_getElem_cons h, List.set_cons_zero, List.replicate_succ', List.append_assoc]
  rfl
theorem ovr_length {i : Nat} {k : Value} {ys : List Value} (h : i ≤ ys.length) : (ovr i k ys).length = ys.length := by simp [ovr]; omega
theorem ovr_all {k : Value} {ys : List Value} : ovr ys.length k ys = List.replicate ys.length k := by simp [ovr]
end

/-- An append leaves the slice itself as it was: its own row, or a new block alone, is written. -/
theorem run_append_old {P : Program} (w : World) (base : Nat) (t ty e : TypeId) (i : TypeInfo) (z : Value) (size bytes : Nat) (ht : P.underlying t = some (.slice e)) (hi : P.info? e = some i) (hz : i.zero = some z)
    (hsize : i.size = size) (hby : i.bytes = bytes)
    (v : Value) (n : Nat) (xs : List Value) (hown : w.ownsRow base e size v n xs)
    (a : Addr) (m c : Nat) (news : List Value) (hm : 0 < m) (hl : news.length = m * size) (hnews : ∀ j u, news[j]? = some u → w.cell? (a.add j) = some u) (h1 : ∀ u ∈ news, u.oneCell' = true)
    (h63 : n + m ≤ maxLen) (hbytes : (n + m) * bytes ≤ 140737488355328) :
    ∃ v' w', (Builtin.append_ #[t, t] ty #[v, .slice (some a) m c]).run P w = .ok v' w' ∧ w'.ownsRow base e size v n xs ∧ w.grownBy w' v.ownBlock := by
  subst hsize
  subst hby
  have hsmall : n + m ≤ 9223372036854775807 := by simp only [maxLen] at h63; omega
  have lay : ∀ (o : Obj) (row : Option Nat), (w.drew.alloc o).ownsRow base e i.size v n xs ∧ w.grownBy (w.drew.alloc o) row := fun o row =>
    ⟨World.ownsRow.alloc (w := w.drew) hown o, ⟨rfl, rfl, rfl, by simp, fun k hk _ => Below.heap_alloc w.drew o k hk⟩⟩
  rcases hown.2 with ⟨rfl, rfl⟩ | ⟨g, cap, cur, rfl, hbg, hg, hnc, hcm, hcs, htake⟩
  · have hr := run_append_nil (P := P) w t ty e i z ht hi hz a m c news hl hnews hm (by omega) (by have hb := hbytes; simp only [Nat.zero_add] at hb; omega)
    exact ⟨_, _, hr, (lay _ none).1, (lay _ _).2⟩
  · by_cases hroom : n + m ≤ cap
    · have hfit : n * i.size + news.length ≤ cur.size := by rw [hl, hcs, ← Nat.add_mul]; exact Nat.mul_le_mul_right _ hroom
      have hr := run_append_room (P := P) w t ty e i ht hi g n cap cur hg a m c news hl hnews h1 hroom hfit
      refine ⟨_, _, hr, ⟨hown.1, .inr ⟨g, cap, _, rfl, hbg, setRow_heap w g cur _ e _ hg, hnc, hcm, ?_, ?_⟩⟩, ⟨rfl, rfl, rfl, by simp, fun k _ hk => setRow_other w g k _ (fun e => hk (by simp [Value.ownBlock, e]))⟩⟩
      · simp only [List.size_toArray, List.length_append, List.length_take, List.length_drop, Array.length_toList]
        omega
      · rw [htake, List.append_assoc]
        have h3 := hown.1
        rw [← h3]
        exact List.take_left
    · have holds : ∀ j u, xs[j]? = some u → w.cell? ((⟨g, 0, none⟩ : Addr).add j) = some u := hown.cells (g := g) rfl
      have hr := run_append_grow (P := P) w t ty e i z ht hi hz ⟨g, 0, none⟩ n cap xs hown.1 holds a m c news hl hnews (by omega) (by omega) (growslice_fits (by omega) hbytes)
      exact ⟨_, _, hr, (lay _ none).1, (lay _ _).2⟩
theorem wpList_append_old {P : Program} {w : World} {ops : Array Oper} {rest : List Oper} {o : Oper} {a : Act} {Q : Exit → Act → World → Prop} (hgd : o.guard = none) (s x : Operand) (t : TypeId)
    (ho : o.op = .call { callee := .builtin .append, args := #[s, x], argTypes := #[t, t] })
    (base : Nat) (e : TypeId) (i : TypeInfo) (z : Value) (size bytes : Nat) (ht : P.underlying t = some (.slice e)) (hi : P.info? e = some i) (hz : i.zero = some z)
    (hsize : i.size = size) (hby : i.bytes = bytes)
    (v : Value) (n : Nat) (xs : List Value) (hs : a.eval s = v) (hown : w.ownsRow base e size v n xs)
    (ad : Addr) (m c : Nat) (news : List Value) (hx : a.eval x = .slice (some ad) m c) (hm : 0 < m) (hl : news.length = m * size) (hnews : ∀ j u, news[j]? = some u → w.cell? (ad.add j) = some u) (h1 : ∀ u ∈ news, u.oneCell' = true)
    (h63 : n + m ≤ maxLen) (hbytes : (n + m) * bytes ≤ 140737488355328)
    (h : ∀ v' w', w'.ownsRow base e size v n xs → w.grownBy w' v.ownBlock → wpList P ops Q rest (a.put o.dst v') w') : wpList P ops Q (o :: rest) a w := by
  obtain ⟨v', w', hr, h2, h3⟩ := run_append_old (P := P) w base t o.type e i z size bytes ht hi hz hsize hby v n xs hown ad m c news hm hl hnews h1 h63 hbytes
  refine wpList_plain hgd fun K hK => ?_
  unfold Oper.wp execOp
  simp only [ho, resolve, invoke, builtin, Sem.run_bind, Sem.run_pure, Result.andThen_ok, List.map_toArray, List.map_cons, List.map_nil, hs, hx, hr]
  exact hK _ _ (h v' w' h2 h3)

end Go.Proofs.YtpmkdihencepnaaGreat
