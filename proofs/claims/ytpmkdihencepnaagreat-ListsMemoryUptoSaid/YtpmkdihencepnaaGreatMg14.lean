/-
  rule.strips in memory: the shape that is being turned, the shapes told so far.
-/
import Derived.Laws.EntriesVeiled
import Derived.Deep.RegionHeld3
import Derived.BigRegion
import Derived.Test.YtpmkdihencepnaaGreatMg02
import Derived.Test.YtpmkdihencepnaaGreatMg13
namespace Go.Proofs.YtpmkdihencepnaaGreat
open Go.RowKit

def fnStr (bq bo bp bf : Nat) : Value := .func (.func 71) #[] #[.pointer (some ⟨bq, 0, none⟩), .pointer (some ⟨bo, 0, none⟩), .pointer (some ⟨bp, 0, none⟩), .pointer (some ⟨bf, 0, none⟩)]
/-- The shapes' slice, in its box, apart from the shape that is being turned. -/
def StO (w : World) (base bo gq : Nat) (rows : List (List Int)) : Prop :=
  ∃ v hs, w.cell? ⟨bo, 0, none⟩ = some v ∧ w.frozen? ⟨bo, 0, none⟩ = false ∧ OwnM w base v hs rows ∧ ¬ foot v hs gq
/-- What stands in memory while one lists. -/
structure Sts (w : World) (B0 base bq bo bp bf gq cq : Nat) (Ap : Option Addr) (cp : Nat) (p q : List Int) (rows : List (List Int)) : Prop where
  lo : (B0 ≤ bq ∧ B0 ≤ bo ∧ B0 ≤ bp ∧ B0 ≤ bf) ∧ (bq < base ∧ bo < base ∧ bp < base ∧ bf < base) ∧ base ≤ w.heap.size ∧ (bo ≠ bq ∧ bo ≠ bp ∧ bo ≠ bf) ∧ (gq ≠ bq ∧ gq ≠ bo ∧ gq ≠ bp ∧ gq ≠ bf)
  eq : w.cell? ⟨bq, 0, none⟩ = some (.slice (some ⟨gq, 0, none⟩) q.length cq)
  ep : w.cell? ⟨bp, 0, none⟩ = some (.slice Ap p.length cp)
  ef : w.cell? ⟨bf, 0, none⟩ = some (fnStr bq bo bp bf)
  sp : Sl w B0 Ap (ints p)
  oq : w.ownsRow B0 3 1 (.slice (some ⟨gq, 0, none⟩) q.length cq) q.length (ints q)
  out : StO w base bo gq rows
section
variable {w w' : World} {B0 base bq bo bp bf gq cq : Nat} {Ap : Option Addr} {cp : Nat} {p q : List Int} {rows : List (List Int)}
theorem Sts.below (h : Sts w B0 base bq bo bp bf gq cq Ap cp p q rows) (hb : Below w.heap.size w w') : Sts w' B0 base bq bo bp bf gq cq Ap cp p q rows := by
  obtain ⟨l1, l2, l3, l4, l5⟩ := h.lo
  refine ⟨⟨l1, l2, Nat.le_trans l3 hb.size, l4, l5⟩, (hb.cell (p := ⟨bq, 0, none⟩) (by show bq < _; omega)).trans h.eq, (hb.cell (p := ⟨bp, 0, none⟩) (by show bp < _; omega)).trans h.ep, (hb.cell (p := ⟨bf, 0, none⟩) (by show bf < _; omega)).trans h.ef, h.sp.below (hb.mono (by omega)), own_below h.oq hb, ?_⟩
  obtain ⟨v, hs, o1, o2, o3, o4⟩ := h.out
  exact ⟨v, hs, (hb.cell (p := ⟨bo, 0, none⟩) (by show bo < _; omega)).trans o1, (World.frozen?_of_block (hb.block bo (by omega))).trans o2, o3.below hb, o4⟩
theorem OwnM.sameZ {B : Nat} {v : Value} {hs : List Value} {rows : List (List Int)} (h : OwnM w B v hs rows) (hk : ∀ k, foot v hs k → w'.heap[k]? = w.heap[k]?) : OwnM w' B v hs rows :=
  ⟨h.len, own_same h.out (fun k hk2 => hk k (.inl hk2)), fun r hr => own_same (h.inn r hr) (fun k hk2 => hk k (.inr ⟨r, by rw [h.len]; exact hr, hk2⟩)), h.far, h.top⟩
theorem set_other (w : World) {b k : Nat} {j : Nat} {y : Value} (h : k ≠ b) : (w.setCell ⟨b, j, none⟩ y).heap[k]? = w.heap[k]? := by
  simp [World.setCell, Array.getElem?_modify, Ne.symm h]
/-- A place of the shape turned. -/
theorem Sts.setq (h : Sts w B0 base bq bo bp bf gq cq Ap cp p q rows) (i : Nat) (y : Int) : Sts (w.setCell ⟨gq, i, none⟩ (.int .i64 y)) B0 base bq bo bp bf gq cq Ap cp p (q.set i y) rows := by
  obtain ⟨l1, l2, l3, l4, l5⟩ := h.lo
  have hg := (h.oq.lt gq rfl).1
  have hs : (w.setCell ⟨gq, i, none⟩ (.int .i64 y)).heap.size = w.heap.size := by simp
  have hk : ∀ k, k ≠ gq → (w.setCell ⟨gq, i, none⟩ (.int .i64 y)).heap[k]? = w.heap[k]? := fun k hk => set_other w hk
  have hc : ∀ k, gq ≠ k → (w.setCell ⟨gq, i, none⟩ (.int .i64 y)).cell? ⟨k, 0, none⟩ = w.cell? ⟨k, 0, none⟩ := fun k hk2 => World.cell?_of_block (a := ⟨k, 0, none⟩) (hk k (Ne.symm hk2))
  refine ⟨⟨l1, l2, by rw [hs]; exact l3, l4, l5⟩, ?_, (hc bp l5.2.2.1).trans h.ep, (hc bf l5.2.2.2).trans h.ef, h.sp.below ((Below.refl B0 w).setCell (p := ⟨gq, i, none⟩) hg _), ?_, ?_⟩
  · rw [List.length_set]; exact (hc bq l5.1).trans h.eq
  · rw [List.length_set]; exact own_set h.oq i y
  · obtain ⟨v, hs', o1, o2, o3, o4⟩ := h.out
    exact ⟨v, hs', (hc bo l5.2.1).trans o1, (World.frozen?_of_block (hk bo (Ne.symm l5.2.1))).trans o2, o3.sameZ (fun k hk2 => hk k (fun e => o4 (e ▸ hk2))), o4⟩
/-- A shape told: w2 the world behind its copying, w5 the one behind the append. -/
theorem Sts.push {w2 w5 : World} (h : Sts w2 B0 base bq bo bp bf gq cq Ap cp p q rows) {v : Value} {hs : List Value} (o1 : w2.cell? ⟨bo, 0, none⟩ = some v) (o2 : w2.frozen? ⟨bo, 0, none⟩ = false) (o3 : OwnM w2 base v hs rows) (o4 : ¬ foot v hs gq)
    {u : Value} {l : List Int} {B2 : Nat} (hu : w2.ownsRow B2 3 1 u l.length (ints l)) (hB2 : base ≤ B2) (hgq : gq < B2) (hfr : ∀ k, foot v hs k → k < B2) {g c n : Nat} (hn : n = rows.length)
    (ho : w5.ownsRow base 22 1 (.slice (some ⟨g, 0, none⟩) (n + 1) c) (n + 1) (hs ++ [u])) (hg : (w2.alloc (.cells #[u] 22)).grownBy w5 v.ownBlock) (hat : v.ownBlock = some g ∨ g = w2.heap.size + 1) :
    Sts (w5.setCell ⟨bo, 0, none⟩ (.slice (some ⟨g, 0, none⟩) (n + 1) c)) B0 base bq bo bp bf gq cq Ap cp p q (rows ++ [l]) := by
  obtain ⟨l1, l2, l3, l4, l5⟩ := h.lo
  have hsz : w2.heap.size + 1 ≤ w5.heap.size := by have := hg.size; simpa using this
  have hgq2 := (h.oq.lt gq rfl)
  have hvg : ∀ k, k < base → some k ≠ v.ownBlock := fun k hk e => by have := (o3.out.lt k e.symm).1; omega
  have hk5 : ∀ k, k < w2.heap.size → some k ≠ v.ownBlock → w5.heap[k]? = w2.heap[k]? := fun k hk hne => (hg.block k (by simp; omega) hne).trans (Below.heap_alloc w2 _ k hk)
  have hk6 : ∀ k, k ≠ bo → (w5.setCell ⟨bo, 0, none⟩ (.slice (some ⟨g, 0, none⟩) (n + 1) c)).heap[k]? = w5.heap[k]? := fun k hk => set_other w5 hk
  have hs6 : (w5.setCell ⟨bo, 0, none⟩ (.slice (some ⟨g, 0, none⟩) (n + 1) c)).heap.size = w5.heap.size := by simp
  have hkb : ∀ k, k < base → k ≠ bo → (w5.setCell ⟨bo, 0, none⟩ (.slice (some ⟨g, 0, none⟩) (n + 1) c)).heap[k]? = w2.heap[k]? := fun k hk hne => (hk6 k hne).trans (hk5 k (by omega) (hvg k hk))
  have hgne : some gq ≠ v.ownBlock := fun e => o4 (.inl e.symm)
  have hkq : (w5.setCell ⟨bo, 0, none⟩ (.slice (some ⟨g, 0, none⟩) (n + 1) c)).heap[gq]? = w2.heap[gq]? := (hk6 gq l5.2.1).trans (hk5 gq hgq2.2 hgne)
  have hfar : (∀ r, r < rows.length → Far (hs.getD r undef) u) ∧ Far v u := ⟨fun r hr k e hk => by
    have h1 := (hu.lt k hk).1
    have h2 := hfr k (.inr ⟨r, by rw [o3.len]; exact hr, e⟩)
    omega, fun k e hk => by
    have h1 := (hu.lt k hk).1
    have h2 := hfr k (.inl e)
    omega⟩
  have hpush := (o3.alloc (.cells #[u] 22)).push (u := u) (l := l) ((hu.mono hB2).alloc _) hfar.1 hfar.2 (by rw [hn]) ho hg (by simpa using hat)
  have hc5 : w5.cell? ⟨bo, 0, none⟩ = some v := (World.cell?_of_block (a := ⟨bo, 0, none⟩) (hk5 bo (by omega) (hvg bo l2.2.1))).trans o1
  have hf5 : w5.frozen? ⟨bo, 0, none⟩ = false := (World.frozen?_of_block (hk5 bo (by omega) (hvg bo l2.2.1))).trans o2
  refine ⟨⟨l1, l2, by rw [hs6]; omega, l4, l5⟩, (World.cell?_of_block (a := ⟨bq, 0, none⟩) (hkb bq l2.1 (Ne.symm l4.1))).trans h.eq, (World.cell?_of_block (a := ⟨bp, 0, none⟩) (hkb bp l2.2.2.1 (Ne.symm l4.2.1))).trans h.ep, (World.cell?_of_block (a := ⟨bf, 0, none⟩) (hkb bf l2.2.2.2 (Ne.symm l4.2.2))).trans h.ef, ?_, own_same h.oq (fun k hk => by
    obtain rfl : gq = k := by simpa [Value.ownBlock] using hk
    exact hkq), ?_⟩
  · intro hp
    obtain ⟨b, o, e, hlt, hcc⟩ := h.sp hp
    exact ⟨b, o, e, hlt, fun k u' hk => (World.cell?_of_block (a := ⟨b, o + k, none⟩) (hkb b (by omega) (by omega))).trans (hcc k u' hk)⟩
  · refine ⟨_, _, World.cell?_setCell_same' _ _ _ (by rw [hc5]; rfl), by rw [World.frozen?_setCell]; exact hf5, hpush.sameZ (fun k hk => hk6 k (fun e => by have := (hpush.foot_lt hk).1; omega)), fun hk => ?_⟩
    rcases hk with hk | ⟨r, hr, hk⟩
    · obtain rfl : g = gq := by simpa [Value.ownBlock] using hk
      rcases hat with e | e
      · exact hgne e.symm
      · omega
    · rw [List.length_append] at hr
      by_cases e : r < hs.length
      · rw [List.getD_eq_getElem?_getD, List.getElem?_append_left e, ← List.getD_eq_getElem?_getD] at hk
        exact o4 (.inr ⟨r, e, hk⟩)
      · have hr2 : r = hs.length := by simp at hr; omega
        rw [List.getD_eq_getElem?_getD, hr2, List.getElem?_append_right (Nat.le_refl _), Nat.sub_self] at hk
        have := (hu.lt gq hk).1
        omega
end
end Go.Proofs.YtpmkdihencepnaaGreat

/-
  ferkeep.ListsMemory's inner closure: what was told is copied, and where it is marked written over.
-/
namespace Go.Proofs.YtpmkdihencepnaaGreat
open Go.RowKit

/-- The lists' slice, in its box: in blocks of a kind. -/
def LstO (w : World) (Q : Nat → Prop) (base bo : Nat) (rows : List (List Int)) : Prop :=
  ∃ ov us, w.cell? ⟨bo, 0, none⟩ = some ov ∧ w.frozen? ⟨bo, 0, none⟩ = false ∧ OwnM w base ov us rows ∧ ∀ k, foot ov us k → Q k
/-- What the closures share: box bo holds the lists' slice, bm the mark. -/
structure Lst (w : World) (Q : Nat → Prop) (base bo bm : Nat) (mk : Bool) (rows : List (List Int)) : Prop where
  lo : bo < base ∧ bm < base ∧ base ≤ w.heap.size ∧ bo ≠ bm
  lt : ∀ k, Q k → k < w.heap.size
  cm : w.cell? ⟨bm, 0, none⟩ = some (.bool mk)
  out : LstO w Q base bo rows
section
variable {w w' : World} {Q Q' : Nat → Prop} {base bo bm : Nat} {mk : Bool} {rows : List (List Int)}
theorem Lst.keep (h : Lst w Q base bo bm mk rows) (hs : w.heap.size ≤ w'.heap.size) (hk : ∀ k, k < base ∨ Q k → w'.heap[k]? = w.heap[k]?) : Lst w' Q base bo bm mk rows := by
  obtain ⟨l1, l2, l3, l4⟩ := h.lo
  refine ⟨⟨l1, l2, Nat.le_trans l3 hs, l4⟩, fun k hq => Nat.lt_of_lt_of_le (h.lt k hq) hs, (World.cell?_of_block (a := ⟨bm, 0, none⟩) (hk bm (.inl l2))).trans h.cm, ?_⟩
  obtain ⟨ov, us, o1, o2, o3, o4⟩ := h.out
  exact ⟨ov, us, (World.cell?_of_block (a := ⟨bo, 0, none⟩) (hk bo (.inl l1))).trans o1, (World.frozen?_of_block (hk bo (.inl l1))).trans o2, o3.sameZ (fun k hk2 => hk k (.inr (o4 k hk2))), o4⟩
theorem Lst.below {L : Nat} (h : Lst w Q base bo bm mk rows) (hL : base ≤ L) (hQ : ∀ k, Q k → k < L) (hb : Below L w w') : Lst w' Q base bo bm mk rows :=
  h.keep hb.size (fun k hk => hb.block k (by
    rcases hk with e | e
    · omega
    · exact hQ k e))
theorem Lst.widen (h : Lst w Q base bo bm mk rows) (h1 : ∀ k, Q k → Q' k) (h2 : ∀ k, Q' k → k < w.heap.size) : Lst w Q' base bo bm mk rows := by
  obtain ⟨ov, us, o1, o2, o3, o4⟩ := h.out
  exact ⟨h.lo, h2, h.cm, ov, us, o1, o2, o3, fun k hk => h1 k (o4 k hk)⟩
/-- One list more: w2 the world behind its copying, w5 the one behind the append. -/
theorem Lst.push {w2 w5 : World} (h : Lst w2 Q base bo bm mk rows) {ov : Value} {us : List Value} (o1 : w2.cell? ⟨bo, 0, none⟩ = some ov) (o2 : w2.frozen? ⟨bo, 0, none⟩ = false) (o3 : OwnM w2 base ov us rows) (o4 : ∀ k, foot ov us k → Q k)
    {u : Value} {l : List Int} {L : Nat} (hu : w2.ownsRow L 3 1 u l.length (ints l)) (hL : base ≤ L) (hL2 : L ≤ w2.heap.size) (hQ : ∀ k, Q k → k < L) {g c n : Nat} (hn : n = rows.length)
    (ho : w5.ownsRow base 22 1 (.slice (some ⟨g, 0, none⟩) (n + 1) c) (n + 1) (us ++ [u])) (hg : (w2.alloc (.cells #[u] 22)).grownBy w5 ov.ownBlock) (hat : ov.ownBlock = some g ∨ g = w2.heap.size + 1) :
    Lst (w5.setCell ⟨bo, 0, none⟩ (.slice (some ⟨g, 0, none⟩) (n + 1) c)) (fun k => Q k ∨ (L ≤ k ∧ k < w5.heap.size)) base bo bm mk (rows ++ [l]) := by
  obtain ⟨l1, l2, l3, l4⟩ := h.lo
  have hsz : w2.heap.size + 1 ≤ w5.heap.size := by have := hg.size; simpa using this
  have hgb := ho.lt g rfl
  have hlow : ∀ k, k < base → some k ≠ ov.ownBlock := fun k hk e => by have := (o3.out.lt k e.symm).1; omega
  have hk5 : ∀ k, k < w2.heap.size → some k ≠ ov.ownBlock → w5.heap[k]? = w2.heap[k]? := fun k hk hne => (hg.block k (by simp; omega) hne).trans (Below.heap_alloc w2 _ k hk)
  have hk6 : ∀ k, k ≠ bo → (w5.setCell ⟨bo, 0, none⟩ (.slice (some ⟨g, 0, none⟩) (n + 1) c)).heap[k]? = w5.heap[k]? := fun k hk => set_other w5 hk
  have hs6 : (w5.setCell ⟨bo, 0, none⟩ (.slice (some ⟨g, 0, none⟩) (n + 1) c)).heap.size = w5.heap.size := by simp
  have hfar : (∀ r, r < rows.length → Far (us.getD r undef) u) ∧ Far ov u := ⟨fun r hr k e hk => by
    have h1 := (hu.lt k hk).1
    have h2 := hQ k (o4 k (.inr ⟨r, by rw [o3.len]; exact hr, e⟩))
    omega, fun k e hk => by
    have h1 := (hu.lt k hk).1
    have h2 := hQ k (o4 k (.inl e))
    omega⟩
  have hpush := (o3.alloc (.cells #[u] 22)).push (u := u) (l := l) ((hu.mono hL).alloc _) hfar.1 hfar.2 (by rw [hn]) ho hg (by simpa using hat)
  have hc5 : w5.cell? ⟨bo, 0, none⟩ = some ov := (World.cell?_of_block (a := ⟨bo, 0, none⟩) (hk5 bo (by omega) (hlow bo l1))).trans o1
  have hf5 : w5.frozen? ⟨bo, 0, none⟩ = false := (World.frozen?_of_block (hk5 bo (by omega) (hlow bo l1))).trans o2
  refine ⟨⟨l1, l2, by rw [hs6]; omega, l4⟩, fun k hk => ?_, ?_, ?_⟩
  · rw [hs6]
    rcases hk with e | e
    · have := h.lt k e; omega
    · exact e.2
  · exact (World.cell?_of_block (a := ⟨bm, 0, none⟩) ((hk6 bm (Ne.symm l4)).trans (hk5 bm (by omega) (hlow bm l2)))).trans h.cm
  · refine ⟨_, _, World.cell?_setCell_same' _ _ _ (by rw [hc5]; rfl), by rw [World.frozen?_setCell]; exact hf5, hpush.sameZ (fun k hk => hk6 k (fun e => by have := (hpush.foot_lt hk).1; omega)), fun k hk => ?_⟩
    rcases hk with hk | ⟨r, hr, hk⟩
    · obtain rfl : g = k := by simpa [Value.ownBlock] using hk
      rcases hat with e | e
      · exact .inl (o4 g (.inl e))
      · refine .inr ⟨?_, hgb.2⟩
        omega
    · rw [List.length_append] at hr
      by_cases e : r < us.length
      · rw [List.getD_eq_getElem?_getD, List.getElem?_append_left e, ← List.getD_eq_getElem?_getD] at hk
        exact .inl (o4 k (.inr ⟨r, e, hk⟩))
      · have hr2 : r = us.length := by simp at hr; omega
        rw [List.getD_eq_getElem?_getD, hr2, List.getElem?_append_right (Nat.le_refl _), Nat.sub_self] at hk
        have := hu.lt k hk
        exact .inr ⟨this.1, by omega⟩
end
def LadOut (e : Ending) (w w' : World) (Q : Nat → Prop) (v : Value) (B0 base bo bm : Nat) (mk : Bool) (rows : List (List Int)) : Prop :=
  e = .returned (.tuple #[]) ∧ Lst w' (fun k => Q k ∨ (w.heap.size ≤ k ∧ k < w'.heap.size)) base bo bm mk rows ∧ Below B0 w w' ∧ ∀ k, k < w.heap.size → k ≠ bo → ¬ Q k → v.ownBlock ≠ some k → w'.heap[k]? = w.heap[k]?
set_option maxRecDepth 100000 in
set_option maxHeartbeats 2000000 in
theorem ladd_any (A : Option Addr) (c : Nat) (l : List Int) (k : Int) (w : World) (Q : Nat → Prop) (base bo bm B0 : Nat) (mk : Bool) (rows : List (List Int)) (hB0 : B0 ≤ bo ∧ B0 ≤ bm) (hn : l.length ≤ 100000)
    (hr : rows.length < 1000) (h : Lst w Q base bo bm mk rows) (hl : w.ownsRow base 3 1 (.slice A l.length c) l.length (ints l)) (hq : ∀ k, (Value.slice A l.length c).ownBlock = some k → ¬ Q k) :
    Calls Tryz.prog 8 #[.slice A l.length c, .int .i64 k, .pointer (some ⟨bo, 0, none⟩), .pointer (some ⟨bm, 0, none⟩)] w fun e w' => LadOut e w w' Q (.slice A l.length c) B0 base bo bm mk (rows ++ [l]) := by
  obtain ⟨l1, l2, l3, l4⟩ := h.lo
  obtain ⟨b1, b2⟩ := hB0
  obtain ⟨ov, us, o1, o2, o3, o4⟩ := h.out
  have hQl := h.lt
  have HQL := Lib.hid hQl
  have HON := Lib.hid h
  have HL := Lib.hid hl
  have HSL := Lib.hid (Sl.of_own hl)
  have HO3 := Lib.hid o3
  have HO4 := Lib.hid o4
  have HNQ := Lib.hid hq
  obtain ⟨m, hm⟩ : ∃ m, m = l.length := ⟨_, rfl⟩
  have HM := Lib.hid hm
  have hm5 : m ≤ 100000 := by omega
  obtain ⟨n, hnn⟩ : ∃ n, n = rows.length := ⟨_, rfl⟩
  have HN := Lib.hid hnn
  have hn5 : n < 1000 := by omega
  have o3o := o3.out
  rw [← hnn] at o3o
  have HO3O := Lib.hid o3o
  rw [← hm] at HL HNQ ⊢
  clear h hl o3 o4 hq hQl hnn hr hn hm o3o
  have b0 : B0 ≤ w.heap.size := by omega
  go_enter Tryz.func8, Tryz.ntmps8
  go_upto_region 3 with (first | (at_builtin; refine wpList_app (l := []) (xs := l) (base := w.heap.size) rfl (.tmp 7) (.tmp 8) rfl rfl (World.ownsRow_nil _ _ _ _) c (by rw [← HM.out]; rfl) HSL.out (by rw [← HM.out]; simp; omega) (Nat.le_refl _) (fun v' w2 ho2 hb2 => ?_); rw [List.nil_append] at ho2; obtain ⟨Av, cv, rfl, -, ho2⟩ := own_sliceT ho2; have hsz2 := hb2.size; have o1' := (hb2.cell (p := ⟨bo, 0, none⟩) (by show bo < _; omega)).trans o1; have o2' := (World.frozen?_of_block (a := ⟨bo, 0, none⟩) (hb2.block bo (by omega))).trans o2; have HO2 := Lib.hid ho2; have HB2 := Lib.hid hb2; have HOO := Lib.hid (own_below HO3O.out hb2); clear ho2 hb2) | (at_builtin; refine wpList_push (v := ov) rfl (.tmp 10) (.tmp 12) rfl rfl (.slice Av l.length cv) rfl HOO.out w2.heap.size rfl rfl (by omega) (show base ≤ w2.heap.size by omega) (fun g2 c5 w5 hl5 hg5 hat5 => ?_); have HPU := Lib.hid ((HON.out.keep hsz2 (fun k hk => HB2.out.block k (by rcases hk with e | e; (· omega); (· exact HQL.out k e)))).push (L := w.heap.size) o1' o2' (HO3.out.below HB2.out) HO4.out HO2.out l3 hsz2 HQL.out HN.out hl5 hg5 hat5); have hs5 : w2.heap.size < w5.heap.size := (by have := hg5.size; simp at this; omega); have hlow : some bo ≠ ov.ownBlock := (fun e => by have := (HOO.out.lt bo e.symm).1; omega); have hc5 := (hg5.cell_far ⟨bo, 0, none⟩ (by simp; omega) hlow).trans ((World.cell?_of_block (a := ⟨bo, 0, none⟩) (Below.heap_alloc w2 _ bo (by omega))).trans o1'); have hf5 := (hg5.frozen_far ⟨bo, 0, none⟩ (by simp; omega) hlow).trans ((World.frozen?_of_block (a := ⟨bo, 0, none⟩) (Below.heap_alloc w2 _ bo (by omega))).trans o2'); have HK5 := Lib.hid (fun k (hk2 : k < w.heap.size) (hk3 : ¬ Q k) => ((hg5.block k (by simp; omega) (fun e => hk3 (HO4.out k (.inl e.symm)))).trans (Below.heap_alloc w2 (.cells #[.slice Av l.length cv] 22) k (by omega))).trans (HB2.out.block k hk2)); have HW5 := Lib.hid ((((HB2.out.mono b0).alloc (by omega) (.cells #[.slice Av l.length cv] 22)).grown hg5 (by simp; omega) (fun k hk => by have := (HOO.out.lt k hk).1; omega)).setCell (p := ⟨bo, 0, none⟩) b1 (.slice (some ⟨g2, 0, none⟩) (n + 1) c5)); clear hlow hl5 hg5 hat5) | fail)
  obtain ⟨w6, hw6⟩ : ∃ w6, w6 = w5.setCell ⟨bo, 0, none⟩ (.slice (some ⟨g2, 0, none⟩) (n + 1) c5) := ⟨_, rfl⟩
  have hs6 : w6.heap.size = w5.heap.size := by rw [hw6]; simp
  have HK6 : Hid (∀ k, k < w.heap.size → k ≠ bo → ¬ Q k → w6.heap[k]? = w.heap[k]?) := Lib.hid (fun k hk hkb hq => by
    have e6 : w6.heap[k]? = w5.heap[k]? := by rw [hw6]; exact set_other w5 hkb
    exact e6.trans (HK5.out k hk hq))
  have hl6 : w6.ownsRow base 3 1 (.slice A m c) m (ints l) := own_same HL.out (fun k hk => by
    have hlt := HL.out.lt k hk
    exact HK6.out k hlt.2 (by omega) (HNQ.out k hk))
  rw [← hw6] at HPU HW5 ⊢
  have HL6 := Lib.hid hl6
  have HLT := Lib.hid (fun k hk => (HL.out.lt k hk).2)
  have hsz6 : w.heap.size ≤ w6.heap.size := by omega
  have hcm := HPU.out.cm
  clear hw6 hl6 HK5 hc5 hf5 HO3 HO4 HON o1 o2 o1' o2' HOO HO3O HO2 HB2 HL
  cases mk with
  | false =>
    have HF := Lib.hid (HPU.out.widen (Q' := fun k => Q k ∨ (w.heap.size ≤ k ∧ k < w6.heap.size)) (fun k hk => by
      rcases hk with e | e
      · exact .inl e
      · exact .inr ⟨e.1, by omega⟩) (fun k hk => by
      rcases hk with e | e
      · exact HPU.out.lt k (.inl e)
      · exact e.2))
    go_wp2
    go_end0
    exact ⟨rfl, HF.out, HW5.out, fun k h1 h2 h3 _ => HK6.out k h1 h2 h3⟩
  | true =>
    go_wp2_with (first | (go_at_call 9; refine (spoilt_any A m c (ints l) (-9) w6 base (by omega) (by omega) HL6.out).mono ?_) | fail)
    rintro e w7 ⟨rfl, ho7, hf7, hb7⟩
    have hs7 := hf7.size
    have HON7 := Lib.hid ((HPU.out.keep hf7.size (fun k hk => hf7.block k (by
      rcases hk with e | e
      · have := HPU.out.lo.2.2.1; omega
      · exact HPU.out.lt k e) (fun hft => by
      have hft2 : (Value.slice A m c).ownBlock = some k := hft
      have hlt := HL6.out.lt k hft2
      rcases hk with e | e | e
      · omega
      · exact HNQ.out k hft2 e
      · have := HLT.out k hft2; omega))).widen (Q' := fun k => Q k ∨ (w.heap.size ≤ k ∧ k < w7.heap.size)) (fun k hk => by
      rcases hk with e | e
      · exact .inl e
      · exact .inr ⟨e.1, by omega⟩) (fun k hk => by
      rcases hk with e | e
      · have := HPU.out.lt k (.inl e); omega
      · exact e.2))
    have HK7 : Hid (∀ k, k < w.heap.size → k ≠ bo → ¬ Q k → (Value.slice A m c).ownBlock ≠ some k → w7.heap[k]? = w.heap[k]?) := Lib.hid (fun k hk hkb hq hv => (hf7.block k (by omega) hv).trans (HK6.out k hk hkb hq))
    have HW7 := Lib.hid (HW5.out.trans (hb7.mono (by omega)))
    clear ho7 hf7 hb7
    go_wp2
    go_end0
    exact ⟨rfl, HON7.out, HW7.out, HK7.out⟩
end Go.Proofs.YtpmkdihencepnaaGreat

/-
  ferlaw.Rows (printed by wip/mkA.py).
-/
namespace Go.Proofs.YtpmkdihencepnaaGreat
open Go.RowKit

theorem getD_take_succ {xs : List (List Int)} {k : Nat} (h : k < xs.length) : xs.take (k + 1) = xs.take k ++ [xs.getD k []] := by
  rw [take_snoc h, getD_get h]

end Go.Proofs.YtpmkdihencepnaaGreat
