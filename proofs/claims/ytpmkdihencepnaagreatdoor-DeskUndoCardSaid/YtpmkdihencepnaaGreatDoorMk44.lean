/- Part of the proof. -/
import Derived.Maps.AppendAt
import Derived.Test.YtpmkdihencepnaaGreatDoorMk43
set_option maxHeartbeats 16000000
set_option maxRecDepth 100000
namespace Go.Proofs.YtpmkdihencepnaaGreatDoor
section
open Go.RowKit Go.Proofs
open Go.Shelf Go.Lib
attribute [local go_sem] Oper.semAt_some
theorem far_typesK {w : World} {B B' e e' n m s s' : Nat} {v u : Value} {xs ys : List Value} (h : w.ownsRow B e s v n xs) (h' : w.ownsRow B' e' s' u m ys) (hne : e ≠ e') : Far v u := by
 intro k h1 h2
 rcases h.2 with ⟨rfl, _⟩ | ⟨g, cap, cur, rfl, _, hgb, _⟩
 · simp [Value.ownBlock] at h1
 · rcases h'.2 with ⟨rfl, _⟩ | ⟨g', cap', cur', rfl, _, hgb', _⟩
   · simp [Value.ownBlock] at h2
   · obtain rfl : g = k := by simpa [Value.ownBlock] using h1
     obtain rfl : g' = g := by simpa [Value.ownBlock] using h2
     have := hgb.symm.trans hgb'
     simp at this
     exact hne this.2
section
variable {w w' : World} {B : Nat} {v : Value} {hs : List Value} {rows : Rws}
theorem OwnM.pushT (h : OwnM w B v hs rows) {u v' : Value} {l : List Int} {n' : Nat} (hu : w.ownsRow B 3 1 u l.length (ints l)) (hf : ∀ r, r < rows.length → Far (hs.getD r undef) u) (hn : n' = rows.length + 1)
 (ho : w'.ownsRow B 65 1 v' n' (hs ++ [u])) (hg : w.grownBy w' v.ownBlock) : OwnM w' B v' (hs ++ [u]) (rows ++ [l]) := by
 have hv : Far v u := far_typesK h.out hu (by decide)
 have hl : (rows ++ [l]).length = rows.length + 1 := by simp
 have low : ∀ r, r < rows.length → (hs ++ [u]).getD r undef = hs.getD r undef ∧ (rows ++ [l]).getD r [] = rows.getD r [] := fun r hr => by
  rw [List.getD_eq_getElem?_getD, List.getD_eq_getElem?_getD, List.getD_eq_getElem?_getD, List.getD_eq_getElem?_getD, List.getElem?_append_left (by rw [h.len]; exact hr), List.getElem?_append_left hr]
  exact ⟨rfl, rfl⟩
 have top : (hs ++ [u]).getD rows.length undef = u ∧ (rows ++ [l]).getD rows.length [] = l := by
  rw [List.getD_eq_getElem?_getD, List.getD_eq_getElem?_getD]
  have := h.len
  constructor
  · rw [← this]; simp
  · simp
 have inn : ∀ r, r < (rows ++ [l]).length → w'.ownsRow B 3 1 ((hs ++ [u]).getD r undef) ((rows ++ [l]).getD r []).length (ints ((rows ++ [l]).getD r [])) := fun r hr => by
  by_cases c : r < rows.length
  · rw [(low r c).1, (low r c).2]; exact (h.inn r c).kept hg (h.top r c).ne
  · obtain rfl : r = rows.length := by omega
    rw [top.1, top.2]; exact hu.kept hg hv.ne
 refine ⟨by rw [hl, List.length_append, h.len]; rfl, by rw [hl, ← hn]; exact ho, inn, fun r s hr hs' hne => ?_, fun r hr => far_typesK ho (inn r hr) (by decide)⟩
 by_cases c : r < rows.length
 · by_cases c2 : s < rows.length
   · rw [(low r c).1, (low s c2).1]; exact h.far r s c c2 hne
   · obtain rfl : s = rows.length := by omega
     rw [(low r c).1, top.1]; exact hf r c
 · obtain rfl : r = rows.length := by omega
   have c2 : s < rows.length := by omega
   rw [(low s c2).1, top.1]; exact (hf s c2).symm
theorem own_keptC {e n size : Nat} {row : Option Nat} {xs : List Value} (h : w.ownsRow B e size v n xs) (hg : w.grownBy w' row) (hr : ∀ r, row = some r → ∃ o : Obj, w.heap[r]? = some o ∧ o.isCells = false) : w'.ownsRow B e size v n xs := by
 refine h.kept hg ?_
 rcases h.2 with ⟨rfl, _⟩ | ⟨g, cap, cur, rfl, _, hgb, _⟩
 · exact .inl rfl
 · refine .inr fun e' => ?_
   obtain ⟨o, ho, hc⟩ := hr g (by simpa [Value.ownBlock] using e'.symm)
   rw [hgb] at ho; cases ho; cases hc
theorem OwnM.keptC {row : Option Nat} (h : OwnM w B v hs rows) (hg : w.grownBy w' row) (hr : ∀ r, row = some r → ∃ o : Obj, w.heap[r]? = some o ∧ o.isCells = false) : OwnM w' B v hs rows :=
 ⟨h.len, own_keptC h.out hg hr, fun r hr' => own_keptC (h.inn r hr') hg hr, h.far, h.top⟩
theorem own_store {e n size b : Nat} {xs : List Value} (h : w.ownsRow B e size v n xs) (hb : b < B) (u : Value) : (w.setCell ⟨b, 0, none⟩ u).ownsRow B e size v n xs := by
 refine h.kept (grownBy_setCell' w b u) ?_
 rcases h.2 with ⟨rfl, _⟩ | ⟨g, cap, cur, rfl, hB, hgb, _⟩
 · exact .inl rfl
 · refine .inr fun e' => ?_
   obtain rfl : g = b := by simpa [Value.ownBlock] using e'
   omega
theorem OwnM.store {b : Nat} (h : OwnM w B v hs rows) (hb : b < B) (u : Value) : OwnM (w.setCell ⟨b, 0, none⟩ u) B v hs rows :=
 ⟨h.len, own_store h.out hb u, fun r hr => own_store (h.inn r hr) hb u, h.far, h.top⟩
end
theorem mapM_snoc {α β : Type} (f : α → Option β) : ∀ (xs : List α) (x : α), (xs ++ [x]).mapM f = (xs.mapM f).bind (fun l => (f x).map (fun y => l ++ [y]))
 | [], x => by
  cases h : f x <;> simp [h]
 | a :: xs, x => by
  have ih := mapM_snoc f xs x
  cases h : f a with
  | none => simp [h]
  | some b =>
   simp only [List.cons_append, List.mapM_cons, h, Option.bind_eq_bind, Option.bind_some, ih]
   cases h2 : xs.mapM f with
   | none => simp
   | some l => cases h3 : f x <;> simp
theorem mapM_len {α β : Type} (f : α → Option β) : ∀ (xs : List α) (l : List β), xs.mapM f = some l → l.length = xs.length
 | [], l, h => by simp at h; subst h; rfl
 | a :: xs, l, h => by
  cases h1 : f a with
  | none => simp [h1] at h
  | some b =>
   cases h2 : xs.mapM f with
   | none => simp [h1, h2] at h
   | some l2 =>
    simp [h1, h2] at h
    subst h
    simp [mapM_len f xs l2 h2]
theorem mapM_none {α β : Type} (f : α → Option β) : ∀ (xs : List α), (∃ x ∈ xs, f x = none) → xs.mapM f = none
 | [], ⟨x, h, _⟩ => by cases h
 | a :: xs, ⟨x, h, e⟩ => by
  cases h1 : f a with
  | none => simp [h1]
  | some b =>
   rcases List.mem_cons.1 h with rfl | h
   · rw [h1] at e; cases e
   · simp [h1, mapM_none f xs ⟨x, h, e⟩]
def ThgOut (s : Str) (e : Ending) (w : World) : Prop := match thgF s with
 | some t => ∃ (A : Option Addr) (c : Nat), e = .returned (.tuple #[.slice A t.length c, .bool true]) ∧ OwnR w 0 A c t ∧ t.length ≤ c
 | none => e = .returned (.tuple #[.slice none 0 0, .bool false])
theorem number_in (n : Nat) (s : Str) (w : World) (hs : s.length ≤ 281474976710656) (he : Env w) : CallsIn Fence.wide n Tryz.prog 74 #[sv s] w fun e w' => NumOut s e ∧ Below w.heap.size w w' := callsIn_wide.2 (number_c s w hs he)
structure ThgI (w : World) (n₀ : Nat) (pre : List SS) (W : World) : Prop where
 r0 : Boxed W w.heap.size 48 (.slice none 0 0)
 r1 : Boxed W (w.heap.size + 1) 4 (.bool false)
 len : pre.length ≤ 40
 out : ∃ v hs rows, Boxed W (w.heap.size + 1 + 1) 48 v ∧ OwnM W n₀ v hs rows ∧ (strs pre).mapM rowF = some rows
 bel : Below w.heap.size w W
 sz : n₀ ≤ W.heap.size
structure ThgX (w : World) (c : Code) (pre : List SS) (W : World) : Prop where
 c : c = .ret
 bad : (∃ p ∈ strs pre, rowF p = none) ∨ 40 < pre.length
 r0 : Boxed W w.heap.size 48 (.slice none 0 0)
 r1 : Boxed W (w.heap.size + 1) 4 (.bool false)
 bel : Below w.heap.size w W
theorem boxed_keptC {W W' : World} {row : Option Nat} {B : Nat} {t : TypeId} {v : Value} (h : Boxed W B t v) (hg : W.grownBy W' row) (hr : ∀ r, row = some r → ∃ o : Obj, W.heap[r]? = some o ∧ o.isCells = false) : Boxed W' B t v :=
 h.kept hg (fun e' => by obtain ⟨o, ho, hc⟩ := hr B e'.symm; rw [show W.heap[B]? = _ from h] at ho; cases ho; cases hc)
theorem below_keptC {W W' : World} {row : Option Nat} {B n : Nat} {w : World} (h : Below n w W) (hn : n ≤ W.heap.size) (hB : n ≤ B) (hg : W.grownBy W' row) (hr : ∀ r, row = some r → B ≤ r ∧ ∃ o : Obj, W.heap[r]? = some o ∧ o.isCells = false) : Below n w W' :=
 h.grown hg hn (fun k e => by have := (hr k e).1; omega)
theorem ThgI.own (w : World) (n₀ B : Nat) (h1 : w.heap.size ≤ n₀) (h2 : w.heap.size ≤ B) : OwnFrom B (ThgI w n₀) := fun s A A' row h hg hr => by
 have hr' : ∀ r, row = some r → ∃ o : Obj, A.heap[r]? = some o ∧ o.isCells = false := fun r e => (hr r e).2
 obtain ⟨v, hs, rows, ho1, ho2, ho3⟩ := h.out
 have h5 := h.sz
 exact ⟨boxed_keptC h.r0 hg hr', boxed_keptC h.r1 hg hr', h.len, ⟨v, hs, rows, boxed_keptC ho1 hg hr', ho2.keptC hg hr', ho3⟩, below_keptC h.bel (by omega) h2 hg hr, Nat.le_trans h5 hg.size⟩
theorem ThgX.own (w : World) (B : Nat) (h2 : w.heap.size ≤ B) (c : Code) : OwnFrom B (ThgX w c) := fun s A A' row h hg hr => by
 have hr' : ∀ r, row = some r → ∃ o : Obj, A.heap[r]? = some o ∧ o.isCells = false := fun r e => (hr r e).2
 have := h.r0.lt
 exact ⟨h.c, h.bad, boxed_keptC h.r0 hg hr', boxed_keptC h.r1 hg hr', below_keptC h.bel (by omega) h2 hg hr⟩
theorem ThgI.bears (w : World) (n₀ Bs : Nat) (h1 : w.heap.size + 1 + 1 < Bs) (h2 : Bs < n₀) : Bears Bs (ThgI w n₀) := fun s A v h => by
 obtain ⟨u, hs, rows, ho1, ho2, ho3⟩ := h.out
 have h5 := h.sz
 exact ⟨h.r0.other (by omega) _, h.r1.other (by omega) _, h.len, ⟨u, hs, rows, ho1.other (by omega) _, ho2.store h2 _, ho3⟩, h.bel.setCell (p := ⟨Bs, 0, none⟩) (by simp; omega) _, Nat.le_trans h5 (grownBy_setCell' A Bs v).size⟩
theorem ThgX.bears (w : World) (Bs : Nat) (h1 : w.heap.size + 1 < Bs) (c : Code) : Bears Bs (ThgX w c) := fun s A v h =>
 ⟨h.c, h.bad, h.r0.other (by omega) _, h.r1.other (by omega) _, h.bel.setCell (p := ⟨Bs, 0, none⟩) (by simp; omega) _⟩
structure ThgJ (W : World) (n₁ rl : Nat) (pre : List SS) (W' : World) : Prop where
 box : ∃ v l, Boxed W' W.heap.size 65 v ∧ W'.ownsRow n₁ 3 1 v l.length (ints l) ∧ (strs pre).mapM numF = some l
 len : pre.length ≤ 40
 roo : pre ≠ [] → rl < 40
 bel : Below W.heap.size W W'
 sz : n₁ ≤ W'.heap.size
structure ThgY (w W : World) (n₀ rl : Nat) (c : Code) (pre : List SS) (W' : World) : Prop where
 c : c = .ret
 bad : (∃ p ∈ strs pre, numF p = none) ∨ 40 < pre.length ∨ 40 ≤ rl
 r0 : Boxed W' w.heap.size 48 (.slice none 0 0)
 r1 : Boxed W' (w.heap.size + 1) 4 (.bool false)
 bel : Below w.heap.size w W'
 kf : KeepsFrom n₀ W W'
theorem ThgJ.own (W : World) (n₁ rl B : Nat) (h1 : W.heap.size ≤ n₁) (h2 : W.heap.size ≤ B) : OwnFrom B (ThgJ W n₁ rl) := fun s A A' row h hg hr => by
 have hr' : ∀ r, row = some r → ∃ o : Obj, A.heap[r]? = some o ∧ o.isCells = false := fun r e => (hr r e).2
 obtain ⟨v, l, ho1, ho2, ho3⟩ := h.box
 have h5 := h.sz
 exact ⟨⟨v, l, boxed_keptC ho1 hg hr', own_keptC ho2 hg hr', ho3⟩, h.len, h.roo, below_keptC h.bel (by omega) h2 hg hr, Nat.le_trans h5 hg.size⟩
theorem ThgY.own (w W : World) (n₀ rl B : Nat) (h1 : w.heap.size ≤ B) (h2 : W.heap.size ≤ B) (c : Code) : OwnFrom B (ThgY w W n₀ rl c) := fun s A A' row h hg hr => by
 have hr' : ∀ r, row = some r → ∃ o : Obj, A.heap[r]? = some o ∧ o.isCells = false := fun r e => (hr r e).2
 have := h.r0.lt
 exact ⟨h.c, h.bad, boxed_keptC h.r0 hg hr', boxed_keptC h.r1 hg hr', below_keptC h.bel (by omega) h1 hg hr, ownFrom_keepsFrom (β := Unit) h2 () A A' row h.kf hg hr⟩
theorem ThgJ.bears (W : World) (n₁ rl Bs : Nat) (h1 : W.heap.size < Bs) (h2 : Bs < n₁) : Bears Bs (ThgJ W n₁ rl) := fun s A v h => by
 obtain ⟨u, l, ho1, ho2, ho3⟩ := h.box
 have h5 := h.sz
 exact ⟨⟨u, l, ho1.other (by omega) _, own_store ho2 h2 _, ho3⟩, h.len, h.roo, h.bel.setCell (p := ⟨Bs, 0, none⟩) (by simp; omega) _, Nat.le_trans h5 (grownBy_setCell' A Bs v).size⟩
theorem ThgY.bears (w W : World) (n₀ rl Bs : Nat) (h1 : w.heap.size + 1 < Bs) (c : Code) : Bears Bs (ThgY w W n₀ rl c) := fun s A v h =>
 ⟨h.c, h.bad, h.r0.other (by omega) _, h.r1.other (by omega) _, h.bel.setCell (p := ⟨Bs, 0, none⟩) (by simp; omega) _, h.kf.trans ((KeepsOthers.setCell _ _ _).from _)⟩
theorem below_keeps {W W' : World} (n : Nat) (h : Below W.heap.size W W') : KeepsFrom n W W' := ⟨h.size, fun k _ _ hk _ => (h.block k (Array.getElem?_eq_some_iff.1 hk).1).trans hk⟩
theorem lies_app {W w1 : World} {b n k : Nat} {v u : Value} {tmp : Obj} (hg : (W.alloc tmp).grownBy w1 v.ownBlock) (hv : ∀ j, v.ownBlock = some j → n ≤ j) (hk : k < n) (hn : n ≤ W.heap.size) (hb : k ≠ b) : (w1.setCell ⟨b, 0, none⟩ u).heap[k]? = W.heap[k]? := by
 rw [Below.heap_setCell _ _ _ k (by show k ≠ b; omega), hg.block k (by simp; omega) (fun e => by have := hv k e.symm; omega), Below.heap_alloc _ _ k (by omega)]
theorem Tryz.infoIntK : (Tryz.prog.info? 3).map (fun i => (i.zero, i.size, i.bytes)) = some (some (.int .i64 0), 1, 8) := by kernel_rfl
theorem kept3_app {W w1 : World} {lo b n : Nat} {v u : Value} {tmp : Obj} (hg : (W.alloc tmp).grownBy w1 v.ownBlock) (hv : ∀ j, v.ownBlock = some j → n ≤ j) (hlo : lo + 3 ≤ n) (hn : n ≤ W.heap.size) (hb : b < lo) : Kept3 lo W (w1.setCell ⟨b, 0, none⟩ u) := fun k h1 h2 => by
 rw [Below.heap_setCell _ _ _ k (by show k ≠ b; omega), hg.block k (by simp; omega) (fun e => by have := hv k e.symm; omega), Below.heap_alloc _ _ k (by omega)]
theorem thing_in (n : Nat) (hn : 9 ≤ n) (s : Str) (w : World) (hs : s.length ≤ 100000) (he : Env w) :
 CallsIn Fence.wide n Tryz.prog 49 #[sv s] w fun e w' => ThgOut s e w' ∧ Below w.heap.size w w' := by
 have h1 : 1 ≤ n := by omega
 by_cases h0 : s = []
 · subst h0
   refine callsIn_of_wp Tryz.func49 rfl trivial ?_ rfl
   simp only [Tryz.ntmps49, List.size_toArray, List.length_cons, List.length_nil, Nat.reduceAdd, Nat.reduceSub, Array.replicate_succ, Array.replicate_zero, List.push_toArray, List.append_toArray, List.nil_append, List.cons_append]
   gi_wp2
   refine bodyPost_ret (v := .tuple #[.slice none 0 0, .bool true]) (by simp [results, Tryz.f49, go_sem]) rfl ?_
   exact ⟨⟨none, 0, rfl, OwnR.nil _ _, Nat.le_refl _⟩, (((Below.refl _ w).alloc (Nat.le_refl _) _).alloc (by simp) _).alloc (by simp; omega) _⟩
 · refine callsIn_of_wp_marks Tryz.func49 rfl trivial ?_ rfl
   simp only [Tryz.ntmps49, List.size_toArray, List.length_cons, List.length_nil, Nat.reduceAdd, Nat.reduceSub, Array.replicate_succ, Array.replicate_zero, List.push_toArray, List.append_toArray, List.nil_append, List.cons_append]
   have d0 : s.isEmpty = false := by simpa using h0
   have HS : Hid (∀ w1, CallsIn Fence.wide (n - 1) Tryz.prog 73 #[sv s, .string ⟨#[47]⟩] w1 fun e w' => e = .returned (.func (.func 162) #[] #[.pointer (some ⟨w1.heap.size + 1, 0, none⟩), .pointer (some ⟨w1.heap.size, 0, none⟩), .pointer (some ⟨w1.heap.size + 1 + 1, 0, none⟩)]) ∧ w' = sepW w1 s 47) := Lib.hid fun w1 => splitseq_in (n - 1) (by omega) s 47 w1
   gi_wp2_with (refine ⟨trivial, ?_⟩; gi_at_call 73; refine (HS.out _).mono ?_; rintro e w' ⟨rfl, rfl⟩)
   have b0 := Boxed.new w 48 (.slice none 0 0)
   have b1 := Boxed.new (w.alloc (.cells #[.slice none 0 0] 48)) 4 (.bool false)
   have b2 := Boxed.new ((w.alloc (.cells #[.slice none 0 0] 48)).alloc (.cells #[.bool false] 4)) 48 (.slice none 0 0)
   have hB0 : Below w.heap.size w (((w.alloc (.cells #[.slice none 0 0] 48)).alloc (.cells #[.bool false] 4)).alloc (.cells #[.slice none 0 0] 48)) := (((Below.refl _ w).alloc (Nat.le_refl _) _).alloc (by simp) _).alloc (by simp; omega) _
   replace b0 := (b0.alloc (.cells #[.bool false] 4)).alloc (.cells #[.slice none 0 0] 48)
   replace b1 := b1.alloc (.cells #[.slice none 0 0] 48)
   simp only [World.size_alloc] at b1 b2
   have hsz : (((w.alloc (.cells #[.slice none 0 0] 48)).alloc (.cells #[.bool false] 4)).alloc (.cells #[.slice none 0 0] 48)).heap.size = w.heap.size + 1 + 1 + 1 := by simp
   obtain ⟨V0, hV0⟩ : ∃ V0, ((w.alloc (.cells #[.slice none 0 0] 48)).alloc (.cells #[.bool false] 4)).alloc (.cells #[.slice none 0 0] 48) = V0 := ⟨_, rfl⟩
   rw [hV0] at b0 b1 b2 hB0 hsz ⊢
   clear hV0
   have S := sep_facts V0 s 47
   rw [hsz] at S
   obtain ⟨W0, hW0⟩ : ∃ W0, sepW V0 s 47 = W0 := ⟨_, rfl⟩
   rw [hW0] at S ⊢
   clear hW0
   obtain ⟨s1, s2, s3, s4, s5⟩ := S
   replace b0 := boxed_below b0 (by omega) s5
   replace b1 := boxed_below b1 (by omega) s5
   replace b2 := boxed_below b2 (by omega) s5
   have hB1 : Below w.heap.size w W0 := hB0.trans (s5.mono (by omega))
   have HE := Lib.hid he
   clear he hB0 s5
   have s4' : w.heap.size + 1 + 1 + 1 + 3 ≤ W0.heap.size := by omega
   clear s4
   refine rangeFunc_H rfl h1 (gf := 162) (lb := #[.pointer (some ⟨w.heap.size + 1 + 1 + 1 + 1, 0, none⟩), .pointer (some ⟨w.heap.size + 1 + 1 + 1, 0, none⟩), .pointer (some ⟨w.heap.size + 1 + 1 + 1 + 1 + 1, 0, none⟩)]) rfl trivial (enters_of Tryz.func162 (by kernel_rfl) rfl)
    (sep_stops (n - 1) (by omega) (w.heap.size + 1 + 1 + 1) 47 s hs W0 (by omega) s2 s1 s3) Kept3.trans (kept3_b (by omega)) (Below.refl _ _) (fun _ => rfl)
    (ThgI w W0.heap.size) (ThgX w) (ThgI.own _ _ _ (by omega) (by omega)) (ThgX.own _ _ (by omega)) (ThgI.bears _ _ _ (by omega) (by omega)) (ThgX.bears _ _ (by omega))
    ⟨b0, b1, by simp, ⟨_, [], [], b2, OwnM.nil _ _, by simp⟩, hB1, Nat.le_refl _⟩
    (fun x a' _ => a' = { tmps := #[sv s, undef, .pointer (some ⟨w.heap.size, 0, none⟩), .pointer (some ⟨w.heap.size + 1, 0, none⟩), .pointer (some ⟨w.heap.size + 1 + 1, 0, none⟩), sv x.1, undef, undef, undef, undef, sv s, .bool false, sv s, .func (.func 162) #[] #[.pointer (some ⟨w.heap.size + 1 + 1 + 1 + 1, 0, none⟩), .pointer (some ⟨w.heap.size + 1 + 1 + 1, 0, none⟩), .pointer (some ⟨w.heap.size + 1 + 1 + 1 + 1 + 1, 0, none⟩)], sv x.1, undef, undef, undef, undef, undef, undef, undef, undef, undef, undef, undef, undef, undef, undef, undef, undef, undef, undef, undef, undef, undef, undef, undef, undef, undef, undef, undef, undef, undef], defers := [] })
    (fun x a' _ X Y row h _ _ => h)
    ?assign ?body ?done ?stop
   case assign =>
    rintro l pre x W K hi hK
    gi_wp2
    exact hK _ _ (KeepsFrom.refl _ _) (Kept3.refl _ _) hi rfl
   case body =>
    rintro l pre x a' W hl ⟨r, hr⟩ hi rfl hlt
    have HSX : Hid (∀ w1, CallsIn Fence.wide (n - 1 - 1 - 1) Tryz.prog 73 #[sv x.1, .string ⟨#[32]⟩] w1 fun e w' => e = .returned (.func (.func 162) #[] #[.pointer (some ⟨w1.heap.size + 1, 0, none⟩), .pointer (some ⟨w1.heap.size, 0, none⟩), .pointer (some ⟨w1.heap.size + 1 + 1, 0, none⟩)]) ∧ w' = sepW w1 x.1 32) := Lib.hid fun w1 => splitseq_in (n - 1 - 1 - 1) (by omega) x.1 32 w1
    have h1' : 1 ≤ n - 1 - 1 := by omega
    gi_wp2_with (refine ⟨trivial, ?_⟩; gi_at_call 73; refine (CallsIn.inRound l (HSX.out _)).mono ?_; rintro e w' ⟨rfl, rfl⟩)
    have hsW := hi.sz
    have bL := Boxed.new W 65 (.slice none 0 0)
    have S := sep_facts (W.alloc (.cells #[.slice none 0 0] 65)) x.1 32
    have hz1 : (W.alloc (.cells #[.slice none 0 0] 65)).heap.size = W.heap.size + 1 := by simp
    rw [hz1] at S
    have hBA : Below W.heap.size W (W.alloc (.cells #[.slice none 0 0] 65)) := (Below.refl _ W).alloc (Nat.le_refl _) _
    obtain ⟨V1, hV1⟩ : ∃ V1, W.alloc (.cells #[.slice none 0 0] 65) = V1 := ⟨_, rfl⟩
    rw [hV1] at S hz1 hBA bL ⊢
    clear hV1
    obtain ⟨W1, hW1⟩ : ∃ W1, sepW V1 x.1 32 = W1 := ⟨_, rfl⟩
    rw [hW1] at S ⊢
    clear hW1
    obtain ⟨s1, s2, s3, s4, s5⟩ := S
    replace bL := boxed_below bL (by omega) s5
    have hBW : Below W.heap.size W W1 := hBA.trans (s5.mono (by omega))
    have hr' : W1.heap[l]? = some (.loop r) := (hBW.block l (Array.getElem?_eq_some_iff.1 hr).1).trans hr
    obtain ⟨v, hs', rows, bo, hm, hrows⟩ := hi.out
    obtain ⟨Ao, co, rfl, _, hrc, _⟩ := hm.ownR
    have hrl : rows.length = pre.length := by rw [mapM_len _ _ _ hrows, List.length_map]
    have HRL := Lib.hid hrl
    have s4' : W.heap.size + 1 + 3 ≤ W1.heap.size := by omega
    clear hrl s4
    refine rangeFunc_N (l₀ := l) (r₀ := r) rfl hr' h1' (gf := 162) (lb := #[.pointer (some ⟨W.heap.size + 1 + 1, 0, none⟩), .pointer (some ⟨W.heap.size + 1, 0, none⟩), .pointer (some ⟨W.heap.size + 1 + 1 + 1, 0, none⟩)]) rfl trivial (enters_of Tryz.func162 (by kernel_rfl) rfl)
     ((sep_stops (n - 1 - 1 - 1) (by omega) (W.heap.size + 1) 32 x.1 x.2 W1 (by omega) s2 s1 s3).inRound l) Kept3.trans (kept3_b (by omega)) (Below.refl _ _) (fun _ => rfl)
     (ThgJ W W1.heap.size rows.length) (ThgY w W W0.heap.size rows.length) (ThgJ.own _ _ _ _ (by omega) (by omega)) (ThgY.own _ _ _ _ _ (by omega) (by omega)) (ThgJ.bears _ _ _ _ (by omega) (by omega)) (ThgY.bears _ _ _ _ _ (by omega))
     ⟨⟨_, [], bL, World.ownsRow_nil _ _ _ _, rfl⟩, by simp, fun h => absurd rfl h, hBW, Nat.le_refl _⟩
     (fun y a'' _ => a'' = { tmps := #[sv s, undef, .pointer (some ⟨w.heap.size, 0, none⟩), .pointer (some ⟨w.heap.size + 1, 0, none⟩), .pointer (some ⟨w.heap.size + 1 + 1, 0, none⟩), sv x.1, .pointer (some ⟨W.heap.size, 0, none⟩), sv y.1, undef, undef, sv s, .bool false, sv s, .func (.func 162) #[] #[.pointer (some ⟨w.heap.size + 1 + 1 + 1 + 1, 0, none⟩), .pointer (some ⟨w.heap.size + 1 + 1 + 1, 0, none⟩), .pointer (some ⟨w.heap.size + 1 + 1 + 1 + 1 + 1, 0, none⟩)], sv x.1, sv x.1, .func (.func 162) #[] #[.pointer (some ⟨W.heap.size + 1 + 1, 0, none⟩), .pointer (some ⟨W.heap.size + 1, 0, none⟩), .pointer (some ⟨W.heap.size + 1 + 1 + 1, 0, none⟩)], sv y.1, undef, undef, undef, undef, undef, undef, undef, undef, undef, undef, undef, undef, undef, undef, undef, undef, undef, undef, undef, undef, undef, undef, undef, undef, undef, undef], defers := [] })
     (fun _ _ _ _ _ _ h _ _ => h)
     ?assign2 ?body2 ?done2 ?stop2
    case assign2 =>
     rintro l2 pre' y W' K hj hK
     gi_wp2
     exact hK _ _ (KeepsFrom.refl _ _) (Kept3.refl _ _) hj rfl
    case body2 =>
     rintro l2 pre' y a'' W' _ _ hj rfl hlt2
     have h1'' : 1 ≤ n - 1 - 1 - 1 - 1 := by omega
     obtain ⟨u, ls, bl, hl', hm'⟩ := hj.box
     obtain ⟨Al, cl, rfl, _, _, hlc, _⟩ := own_sliceA hl'
     have hll : ls.length = pre'.length := by rw [mapM_len _ _ _ hm', List.length_map]
     have hjl := hj.len
     have hjz := hj.sz
     have HN : Hid (∀ m, CallsIn Fence.wide m Tryz.prog 74 #[sv y.1] W' fun e w' => NumOut y.1 e ∧ Below W'.heap.size W' w') := Lib.hid fun m => number_in m y.1 W' (by have := y.2; omega) (HE.out.below (hi.bel.trans (hj.bel.mono (by omega))))
     have HK : Hid (∀ w2, Below W'.heap.size W' w2 → Boxed w2 (w.heap.size + 1 + 1) 48 (.slice Ao rows.length co) ∧ Boxed w2 W.heap.size 65 (.slice Al ls.length cl) ∧ Boxed w2 w.heap.size 48 (.slice none 0 0) ∧ Boxed w2 (w.heap.size + 1) 4 (.bool false)) := Lib.hid fun w2 hb => by
      have g := fun {B t v} (h : Boxed W B t v) => (boxed_below h h.lt hj.bel : Boxed W' B t v)
      exact ⟨boxed_below (g bo) (g bo).lt hb, boxed_below bl bl.lt hb, boxed_below (g hi.r0) (g hi.r0).lt hb, boxed_below (g hi.r1) (g hi.r1).lt hb⟩
     have HB : Hid (Below W.heap.size W W') := Lib.hid hj.bel
     have HI : Hid (ThgI w W0.heap.size pre W) := Lib.hid hi
     have HL := Lib.hid hl'
     have HM := Lib.hid hm'
     have hend : ∀ w2, Below W'.heap.size W' w2 → ((∃ p ∈ strs (pre' ++ [y]), numF p = none) ∨ 40 < (pre' ++ [y]).length ∨ 40 ≤ rows.length) →
      KeepsFrom W1.heap.size W' ((w2.setCell ⟨w.heap.size, 0, none⟩ (.slice none 0 0)).setCell ⟨w.heap.size + 1, 0, none⟩ (.bool false)) ∧ ThgY w W W0.heap.size rows.length .ret (pre' ++ [y]) ((w2.setCell ⟨w.heap.size, 0, none⟩ (.slice none 0 0)).setCell ⟨w.heap.size + 1, 0, none⟩ (.bool false)) := fun w2 hb2 hbad => by
      obtain ⟨c1, c2, c3, c4⟩ := HK.out w2 hb2
      have kk := (KeepsOthers.setCell w2 ⟨w.heap.size, 0, none⟩ (.slice none 0 0)).trans (KeepsOthers.setCell _ ⟨w.heap.size + 1, 0, none⟩ (.bool false))
      refine ⟨(below_keeps _ hb2).trans (kk.from _), rfl, hbad, (c3.set _).other (by omega) _, (c4.other (by omega) _).set _, ?_, ((below_keeps _ HB.out).trans (below_keeps _ hb2)).trans (kk.from _)⟩
      exact (((HI.out.bel.trans (HB.out.mono (by omega))).trans (hb2.mono (by have := HB.out.size; omega))).setCell (p := ⟨w.heap.size, 0, none⟩) (by simp) _).setCell (p := ⟨w.heap.size + 1, 0, none⟩) (by simp) _
     have HEND := Lib.hid hend
     have HLL := Lib.hid hll
     clear hend hj hl' hm' bl hll
     cases hnum : numF y.1 with
     | none =>
      have HN2 : Hid (∀ m, CallsIn Fence.wide m Tryz.prog 74 #[sv y.1] W' fun e w' => (∃ k, e = .returned (.tuple #[.int .i64 k, .bool false])) ∧ Below W'.heap.size W' w') := Lib.hid fun m => (HN.out m).mono (by
       rintro e w' ⟨⟨k, b, rfl, _, hb⟩, h2⟩
       exact ⟨⟨k, by rw [hb hnum]⟩, h2⟩)
      clear HN
      gi_wp2_with (refine ⟨trivial, ?_⟩; gi_at_call 74; refine (CallsIn.inRound l2 (CallsIn.inRound l (HN2.out _))).mono ?_; rintro e w2 ⟨⟨k, rfl⟩, hb2⟩; obtain ⟨c1, c2, c3, c4⟩ := HK.out w2 hb2; have e3 := c3.cell; have f3 := c3.frozen; have e4 := c4.cell; have f4 := c4.frozen)
      exact HEND.out _ hb2 (.inl ⟨y.1, by simp, hnum⟩)
     | some m =>
      have HN2 : Hid (∀ m', CallsIn Fence.wide m' Tryz.prog 74 #[sv y.1] W' fun e w' => e = .returned (.tuple #[.int .i64 m, .bool true]) ∧ Below W'.heap.size W' w') := Lib.hid fun m' => (HN.out m').mono (by
       rintro e w' ⟨⟨k, b, rfl, hb, _⟩, h2⟩
       obtain ⟨rfl, rfl⟩ := hb m hnum
       exact ⟨rfl, h2⟩)
      clear HN
      by_cases hr40 : rows.length = 40
      · have dr : (((rows.length : Nat) : Int) == 40) = true := by rw [hr40]; rfl
        have HR40 := Lib.hid hr40
        clear hr40
        gi_wp2_with (refine ⟨trivial, ?_⟩; gi_at_call 74; refine (CallsIn.inRound l2 (CallsIn.inRound l (HN2.out _))).mono ?_; rintro e w2 ⟨rfl, hb2⟩; obtain ⟨c1, c2, c3, c4⟩ := HK.out w2 hb2; have e1 := c1.cell; have e3 := c3.cell; have f3 := c3.frozen; have e4 := c4.cell; have f4 := c4.frozen)
        exact HEND.out _ hb2 (.inr (.inr (Nat.le_of_eq HR40.out.symm)))
      · have dr : (((rows.length : Nat) : Int) == 40) = false := by simp; omega
        have HR40 := Lib.hid hr40
        clear hr40
        by_cases hl40 : ls.length = 40
        · have dl : (((ls.length : Nat) : Int) == 40) = true := by rw [hl40]; rfl
          have HL40 := Lib.hid hl40
          clear hl40
          gi_wp2_with (refine ⟨trivial, ?_⟩; gi_at_call 74; refine (CallsIn.inRound l2 (CallsIn.inRound l (HN2.out _))).mono ?_; rintro e w2 ⟨rfl, hb2⟩; obtain ⟨c1, c2, c3, c4⟩ := HK.out w2 hb2; have e1 := c1.cell; have e2 := c2.cell; have e3 := c3.cell; have f3 := c3.frozen; have e4 := c4.cell; have f4 := c4.frozen)
          exact HEND.out _ hb2 (.inr (.inl (by have := HL40.out; have := HLL.out; simp; omega)))
        · have dl : (((ls.length : Nat) : Int) == 40) = false := by simp; omega
          have HL40 := Lib.hid hl40
          have hl39 : ls.length ≤ 40 := by have := HLL.out; omega
          clear hl40
          obtain ⟨i0, hi0, hz0, hz1', hz2⟩ := info_parts Tryz.infoIntK
          gi_wp2_with (first | (refine ⟨trivial, ?_⟩; gi_at_call 74; refine (CallsIn.inRound l2 (CallsIn.inRound l (HN2.out _))).mono ?_; rintro e w2 ⟨rfl, hb2⟩; obtain ⟨c1, c2, c3, c4⟩ := HK.out w2 hb2; have e1 := c1.cell; have e2 := c2.cell; have f2 := c2.frozen; have HL2 := own_belowK HL.out hb2; have z2 := hb2.size) | (gi_at_builtin; refine wpListIn_append_own _ rfl _ _ 65 rfl W1.heap.size 3 i0 (.int .i64 0) 1 8 Tryz.underlying65 hi0 hz0 hz1' hz2 rfl (by decide) _ _ _ rfl (HL2.alloc _) ⟨w2.heap.size, 0, none⟩ 1 1 [.int .i64 m] rfl rfl (cell_one_new _ _ _) (by simp [Value.oneCell']) (by unfold maxLen; omega) (by omega) (by simp; omega) ?_; intro v' w3 hown' hgrow _; obtain ⟨g', cap', rfl⟩ := ownsRow_succ hown'; obtain ⟨hv1, hv2, hr2, hk2, hb3⟩ := c2.appended (by decide) (HL2.mono (by omega)) (by omega) (Nat.le_refl _) (hown'.mono (by omega)) hgrow; have hc1 := hv1.cell; have hf1 := hv1.frozen) | fail)
          refine ⟨(below_keeps _ hb2).trans (hk2.from _), (Below.kept3 hb2 (by omega)).trans (kept3_app hgrow (own_ge HL2 (Nat.le_refl _)) (by omega) (by omega) (by omega)), ⟨_, ls ++ [m], hv2, ?_, ?_⟩, ?_, fun _ => ?_, (HB.out.trans (hb2.mono HB.out.size)).trans hb3, ?_⟩
          · have := own_store hown' (b := W.heap.size) (by omega) (.slice (some ⟨g', 0, none⟩) (ls.length + 1) cap')
            simpa [ints] using this
          · rw [strs, List.map_append, List.map_cons, List.map_nil, mapM_snoc, HM.out, hnum]; rfl
          · have := HLL.out; have := HL40.out; rw [List.length_append]; simp; omega
          · have := HRL.out; have := hi.len; have := HR40.out; omega
          · have := hb3.size; omega
    case done2 =>
     rintro ys W' hS hj
     obtain ⟨u, ls, bl, hl', hm'⟩ := hj.box
     obtain ⟨Al, cl, rfl, _, _, hlc, _⟩ := own_sliceA hl'
     have hrl' : rows.length < 40 := hj.roo (fun e => spl_ne 32 x.1 (by rw [← hS, e]; rfl))
     have hjz := hj.sz
     have bo' := boxed_below bo bo.lt hj.bel
     have eo := bo'.cell
     have fo := bo'.frozen
     have el := bl.cell
     have HM1 := Lib.hid (hm.below hj.bel)
     have HMO := Lib.hid HM1.out.out
     have HM0 := Lib.hid hm
     have HL := Lib.hid hl'
     have HROW : Hid (rowF x.1 = some ls) := by
      show _ = _
      unfold rowF
      rw [← hS, if_pos (by rw [List.length_map]; exact hj.len), hm']
     have HJ := Lib.hid hj
     have HI := Lib.hid hi
     have HRS := Lib.hid hrows
     have hWW : W.heap.size ≤ W'.heap.size := hj.bel.size
     obtain ⟨i0, hi0, hz0, hz1', hz2⟩ := info_parts Tryz.infoSlice
     clear hl' hm' hm hS hj hi hrows
     gi_wp2_with (gi_at_builtin; refine wpListIn_append_own _ rfl _ _ 48 rfl W0.heap.size 65 i0 (.slice none 0 0) 1 24 Tryz.underlying48 hi0 hz0 hz1' hz2 rfl (by decide) _ _ _ rfl (HMO.out.alloc _) ⟨W'.heap.size, 0, none⟩ 1 1 [.slice Al ls.length cl] rfl rfl (cell_one_new _ _ _) (by simp [Value.oneCell']) (by unfold maxLen; omega) (by omega) (by simp; omega) ?_; intro v' w3 hown' hgrow _; obtain ⟨g', cap', rfl⟩ := ownsRow_succ hown'; obtain ⟨hv1, hv2, hr2, hk2, hb3⟩ := bo'.appended (n₀ := w.heap.size) (by decide) (HMO.out.mono (by omega)) (by omega) (by omega) (hown'.mono (by omega)) hgrow; have hc1 := hv1.cell; have hf1 := hv1.frozen)
     have lies := fun {k : Nat} (h1 : k < W0.heap.size) (h2 : k ≠ w.heap.size + 1 + 1) => lies_app (u := .slice (some ⟨g', 0, none⟩) (rows.length + 1) cap') hgrow (own_ge HMO.out (Nat.le_refl _)) h1 (by omega) h2
     have g0 := boxed_below HI.out.r0 HI.out.r0.lt HJ.out.bel
     have g1 := boxed_below HI.out.r1 HI.out.r1.lt HJ.out.bel
     refine ⟨(below_keeps _ HJ.out.bel).trans (hk2.from _), (Below.kept3 HJ.out.bel (by omega)).trans (kept3_app hgrow (own_ge HMO.out (Nat.le_refl _)) (by omega) (by omega) (by omega)), (lies (by omega) (by omega)).trans g0, (lies (by omega) (by omega)).trans g1, ?_, ⟨_, hs' ++ [.slice Al ls.length cl], rows ++ [ls], hv2, (OwnM.pushT (HM1.out.alloc _) ((HL.out.mono (by omega)).alloc _) (fun r hr k h1 h2 => ?_) rfl hown' hgrow).store (by omega) _, ?_⟩, (HI.out.bel.trans (HJ.out.bel.mono (by omega))).trans hb3, ?_⟩
     · have := HRL.out; rw [List.length_append]; simp; omega
     · have a1 := ((HM0.out.inn r hr).lt k h1).2
       have a2 := own_ge HL.out (Nat.le_refl _) k h2
       omega
     · rw [strs, List.map_append, List.map_cons, List.map_nil, mapM_snoc, HRS.out, HROW.out]; rfl
     · have := hb3.size; omega
    case stop2 =>
     rintro c pre' W' hpre hy
     obtain rfl := hy.c
     have HY := Lib.hid hy
     have HI := Lib.hid hi
     clear hy hi
     gi_wp2
     refine ⟨HY.out.kf, rfl, ?_, HY.out.r0, HY.out.r1, HY.out.bel⟩
     rcases HY.out.bad with ⟨p, h2, h3⟩ | h2 | h2
     · refine .inl ⟨x.1, by simp, ?_⟩
       unfold rowF
       split
       · exact mapM_none _ _ ⟨p, hpre.subset h2, h3⟩
       · rfl
     · refine .inl ⟨x.1, by simp, ?_⟩
       unfold rowF
       have := hpre.length_le
       rw [List.length_map] at this
       rw [if_neg (by omega)]
     · refine .inr ?_
       have := HRL.out
       rw [List.length_append]; simp; omega
   case done =>
    rintro D ys W hD hS hi hK
    obtain ⟨v, hs', rows, bo, hm, hrows⟩ := hi.out
    obtain ⟨Ao, co, rfl, _, hrc, _⟩ := hm.ownR
    have eo := bo.cell
    have e0 := hi.r0.cell
    have f0 := hi.r0.frozen
    have e1 := (hi.r1.other (by omega : w.heap.size + 1 ≠ w.heap.size) (.slice Ao rows.length co)).cell
    have f1 := (hi.r1.other (by omega : w.heap.size + 1 ≠ w.heap.size) (.slice Ao rows.length co)).frozen
    have HI := Lib.hid hi
    have HM := Lib.hid hm
    have HT : Hid (thgF s = some rows) := by
     show _ = _
     unfold thgF
     rw [if_neg h0, ← hS, if_pos (by rw [List.length_map]; exact hi.len), hrows]
    clear hi hm hS hrows
    gi_wp2
    have hK' := ((KeepsOthers.setCell W ⟨w.heap.size, 0, none⟩ (.slice Ao rows.length co)).trans (KeepsOthers.setCell _ ⟨w.heap.size + 1, 0, none⟩ (.bool true))).same D _ hK rfl
    refine ⟨by simp, .inl ⟨_, _, rfl, run_takeDeferred hK', ?_⟩⟩
    have hr' : ∀ r, some D = some r → ∃ o : Obj, ((W.setCell ⟨w.heap.size, 0, none⟩ (.slice Ao rows.length co)).setCell ⟨w.heap.size + 1, 0, none⟩ (.bool true)).heap[r]? = some o ∧ o.isCells = false := fun r e => by cases e; exact ⟨_, hK', rfl⟩
    have c0 := cell_kept (((HI.out.r0.set (.slice Ao rows.length co)).other (by omega : w.heap.size ≠ w.heap.size + 1) (.bool true))).cell (grownBy_putObj' _ D (.deferred none)) hr'
    have c1 := cell_kept ((HI.out.r1.other (by omega : w.heap.size + 1 ≠ w.heap.size) (.slice Ao rows.length co)).set (.bool true)).cell (grownBy_putObj' _ D (.deferred none)) hr'
    refine ⟨.tuple #[.slice Ao rows.length co, .bool true], ?_, ?_, ((HI.out.bel.setCell (p := ⟨w.heap.size, 0, none⟩) (by simp) _).setCell (p := ⟨w.heap.size + 1, 0, none⟩) (by simp) _).trans (belowK_b (w := w) (Nat.le_refl _) _ D _ _ (by omega) hK' rfl rfl)⟩
    · simp [results, Tryz.f49, go_sem, c0, c1]
    · unfold ThgOut
      rw [HT.out]
      exact ⟨Ao, co, rfl, ⟨_, ((((HM.out.store (by omega) _).store (by omega) _).keptC (grownBy_putObj' _ D (.deferred none)) hr')).lowr (Nat.zero_le _)⟩, hrc⟩
   case stop =>
    rintro D c pre W hD hpre hx hK
    obtain rfl := hx.c
    have HX := Lib.hid hx
    clear hx
    gi_wp2
    have hr' : ∀ r, some D = some r → ∃ o : Obj, W.heap[r]? = some o ∧ o.isCells = false := fun r e => by cases e; exact ⟨_, hK, rfl⟩
    have c0 := cell_kept HX.out.r0.cell (grownBy_putObj' _ D (.deferred none)) hr'
    have c1 := cell_kept HX.out.r1.cell (grownBy_putObj' _ D (.deferred none)) hr'
    refine ⟨by simp, .inl ⟨_, _, rfl, run_takeDeferred hK, ?_⟩⟩
    refine ⟨.tuple #[.slice none 0 0, .bool false], ?_, ?_, HX.out.bel.trans (belowK_b (w := w) (Nat.le_refl _) W D _ _ (by omega) hK rfl rfl)⟩
    · simp [results, Tryz.f49, go_sem, c0, c1]
    · have : thgF s = none := by
       unfold thgF
       rw [if_neg h0]
       rcases HX.out.bad with ⟨p, h2, h3⟩ | h2
       · split
         · exact mapM_none _ _ ⟨p, hpre.subset h2, h3⟩
         · rfl
       · have := hpre.length_le
         rw [List.length_map] at this
         rw [if_neg (by omega)]
      unfold ThgOut
      rw [this]
end
end Go.Proofs.YtpmkdihencepnaaGreatDoor
