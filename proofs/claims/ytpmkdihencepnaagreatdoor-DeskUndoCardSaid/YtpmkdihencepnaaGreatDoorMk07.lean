/- Part of the proof. -/
import Derived.Deep.RegionHeld3
import Derived.Deep.AppendLies
import Derived.BigRegion
import Derived.Test.YtpmkdihencepnaaGreatDoorMk01
import Derived.Test.YtpmkdihencepnaaGreatDoorMk04
import Derived.Test.YtpmkdihencepnaaGreatDoorMk06
namespace Go.Proofs.YtpmkdihencepnaaGreatDoor
section
open Go.RowKit
structure Fr (w w' : World) (F : Nat → Prop) : Prop where
 size : w.heap.size ≤ w'.heap.size
 block : ∀ k, k < w.heap.size → ¬ F k → w'.heap[k]? = w.heap[k]?
theorem Fr.refl (w : World) (F : Nat → Prop) : Fr w w F := ⟨Nat.le_refl _, fun _ _ _ => rfl⟩
theorem Fr.alloc {w w' : World} {F : Nat → Prop} (h : Fr w w' F) (o : Obj) : Fr w (w'.alloc o) F :=
 ⟨by have := h.size; simp; omega, fun k hk hn => by
  have h1 := h.size
  have h2 : (w'.alloc o).heap[k]? = w'.heap[k]? := by
   have := (World.grownBy_alloc w' o none).block k (by omega) (by simp)
   exact this
  rw [h2]; exact h.block k hk hn⟩
theorem Fr.grown {w w' w2 : World} {F : Nat → Prop} {row : Option Nat} (h : Fr w w' F) (hg : w'.grownBy w2 row) (hr : ∀ k, row = some k → F k) : Fr w w2 F :=
 ⟨Nat.le_trans h.size hg.size, fun k hk hn => by
  rw [hg.block k (by have := h.size; omega) (fun e => hn (hr k e.symm))]; exact h.block k hk hn⟩
theorem Fr.setCell {w w' : World} {F : Nat → Prop} (h : Fr w w' F) {a : Addr} {y : Value} (ha : F a.block) : Fr w (w'.setCell a y) F :=
 ⟨by have := h.size; simpa using this, fun k hk hn => by
  have hne : a.block ≠ k := fun e => hn (e ▸ ha)
  have : (w'.setCell a y).heap[k]? = w'.heap[k]? := by simp [World.setCell, Array.getElem?_modify, hne]
  rw [this]; exact h.block k hk hn⟩
theorem Fr.drewN {w w' : World} {F : Nat → Prop} (h : Fr w w' F) (q : Nat) : Fr w (w'.drewN q) F := ⟨h.size, h.block⟩
def foot (v : Value) (hs : List Value) (k : Nat) : Prop := v.ownBlock = some k ∨ ∃ r, r < hs.length ∧ (hs.getD r undef).ownBlock = some k
theorem foot_top {v : Value} {hs : List Value} {k : Nat} (h : v.ownBlock = some k) : foot v hs k := .inl h
theorem foot_row {v : Value} {hs : List Value} {i k : Nat} (hi : i < hs.length) (h : (hs.getD i undef).ownBlock = some k) : foot v hs k := .inr ⟨i, hi, h⟩
theorem OwnM.foot_lt {w : World} {B : Nat} {v : Value} {hs : List Value} {rows : List (List Int)} (h : OwnM w B v hs rows) {k : Nat} (hk : foot v hs k) : B ≤ k ∧ k < w.heap.size := by
 rcases hk with hk | ⟨r, hr, hk⟩
 · exact h.out.lt k hk
 · exact (h.inn r (by rw [← h.len]; exact hr)).lt k hk
theorem own_same {w w' : World} {base n : Nat} {e : TypeId} {v : Value} {cs : List Value} (h : w.ownsRow base e 1 v n cs) (hk : ∀ k, v.ownBlock = some k → w'.heap[k]? = w.heap[k]?) : w'.ownsRow base e 1 v n cs := by
 refine ⟨h.1, ?_⟩
 rcases h.2 with hn | ⟨g, cap, cur, e1, hg, hh, rest⟩
 · exact .inl hn
 · exact .inr ⟨g, cap, cur, e1, hg, (hk g (by rw [e1]; rfl)).trans hh, rest⟩
theorem OwnM.frame {w w' : World} {B : Nat} {v : Value} {hs : List Value} {rows : List (List Int)} {F : Nat → Prop} (h : OwnM w B v hs rows) (hf : Fr w w' F) (hd : ∀ k, foot v hs k → ¬ F k) : OwnM w' B v hs rows := by
 have key : ∀ k, foot v hs k → w'.heap[k]? = w.heap[k]? := fun k hk => hf.block k (h.foot_lt hk).2 (hd k hk)
 exact ⟨h.len, own_same h.out (fun k hk => key k (.inl hk)), fun r hr => own_same (h.inn r hr) (fun k hk => key k (.inr ⟨r, by rw [h.len]; exact hr, hk⟩)), h.far, h.top⟩
theorem step_app1 {w : World} {base : Nat} {l : List Int} {v : Value} {ops : Array Oper} {o : Oper} {a : Act} {K : Act → World → Prop} {Q : Exit → Act → World → Prop} {E : Prop} (hgd : o.guard = none) (s x : Operand)
 (ho : o.op = .call { callee := .builtin .append, args := #[s, x], argTypes := #[65, 65] }) (hs : a.eval s = v) (y : Int) (n : Nat) (g0 : Nat)
 (hx : a.eval x = .slice (some ⟨g0, 0, none⟩) 1 1) (hown : w.ownsRow base 3 1 v n (ints l)) (hlit : w.heap[g0]? = some (.cells #[.int .i64 y] 3)) (hlen : n < 1000000) (hbase : base ≤ w.heap.size)
 (h : ∀ g cap w', w'.ownsRow base 3 1 (.slice (some ⟨g, 0, none⟩) (n + 1) cap) (n + 1) (ints (l ++ [y])) → w.grownBy w' v.ownBlock → (v.ownBlock = some g ∨ g = w.heap.size) → g < w'.heap.size →
  K (a.put o.dst (.slice (some ⟨g, 0, none⟩) (n + 1) cap)) w') :
 if Region.wanted o (yielded ops a.tmps) = true then Oper.wp Tryz.prog o a w K Q else E := by
 obtain ⟨i0, hi, hz0, hz1, hz2⟩ := info_parts Tryz.infoInt
 refine step_append_lies _ hgd s x 65 ho base 3 i0 (.int .i64 0) 1 8 Tryz.underlying65 hi hz0 hz1 hz2 rfl (by decide) v n (ints l) hs hown ⟨g0, 0, none⟩ 1 1 [.int .i64 y] hx rfl (World.news_of_block (cs := #[.int .i64 y]) hlit) (by simp [Value.oneCell']) (by decide)
  (by unfold maxLen; omega) (by omega) hbase _ rfl (fun g cap w' h1 h2 h3 h4 => h g cap w' (by simpa [ints] using h1) h2 h3 h4)
def Apt (v : Value) (hs : List Value) (u : Value) (us : List Value) : Prop := ∀ k, foot v hs k → ¬ foot u us k
def qpad (Q : List (List Int)) (r : Nat) : List (List Int) := if r = Q.length then Q ++ [[]] else Q
theorem qpad_new {Q : List (List Int)} {r : Nat} (h : r = Q.length) : qpad Q r = Q ++ [[]] := if_pos h
theorem qpad_old {Q : List (List Int)} {r : Nat} (h : ¬ r = Q.length) : qpad Q r = Q := if_neg h
theorem qpad_add {Q : List (List Int)} {r : Nat} (c : Int) (h : r ≤ Q.length) : r < (qpad Q r).length ∧ (qpad Q r).set r ((qpad Q r).getD r [] ++ [c]) = qadd Q r c := by
 unfold qpad qadd
 by_cases e : r = Q.length
 · rw [if_pos e, if_pos e]
   subst e
   refine ⟨by simp, ?_⟩
   rw [List.getD_eq_getElem?_getD, List.getElem?_append_right (Nat.le_refl _)]
   simp
 · rw [if_neg e, if_neg e]; exact ⟨by omega, rfl⟩
theorem qpad_len {Q : List (List Int)} {r n : Nat} (h : ∀ r, (Q.getD r []).length ≤ n) : ((qpad Q r).getD r []).length ≤ n := by
 unfold qpad
 by_cases e : r = Q.length
 · rw [if_pos e]
   subst e
   rw [List.getD_eq_getElem?_getD, List.getElem?_append_right (Nat.le_refl _)]
   simp
 · rw [if_neg e]; exact h r
end
section
def IsPerm (xs : List Int) : Prop := xs.Nodup ∧ ∀ x ∈ xs, 1 ≤ x ∧ x ≤ (xs.length : Int)
instance (xs : List Int) : Decidable (IsPerm xs) := by unfold IsPerm; infer_instance
def at1 (xs : List Int) (n : Int) : Int := xs.getD (n - 1).toNat 0
theorem IsPerm.at1_mem {xs : List Int} (h : IsPerm xs) {n : Int} (h1 : 1 ≤ n) (h2 : n ≤ xs.length) : 1 ≤ at1 xs n ∧ at1 xs n ≤ xs.length := by
 have hk : (n - 1).toNat < xs.length := by omega
 have e : at1 xs n = xs[(n - 1).toNat] := getD_get hk
 rw [e]
 exact h.2 _ (List.getElem_mem hk)
theorem IsPerm.at1_inj {xs : List Int} (h : IsPerm xs) {a b : Int} (a1 : 1 ≤ a) (a2 : a ≤ xs.length) (b1 : 1 ≤ b) (b2 : b ≤ xs.length) (e : at1 xs a = at1 xs b) : a = b := by
 have ha : (a - 1).toNat < xs.length := by omega
 have hb : (b - 1).toNat < xs.length := by omega
 have ea : at1 xs a = xs[(a - 1).toNat] := getD_get ha
 have eb : at1 xs b = xs[(b - 1).toNat] := getD_get hb
 rw [ea, eb] at e
 have := nodup_get h.1 ha hb e
 omega
theorem nodup_bound {L : List Int} {n : Nat} (h : L.Nodup) (hr : ∀ x ∈ L, 1 ≤ x ∧ x ≤ (n : Int)) : L.length ≤ n := by
 have hs : L ⊆ (List.range n).map (fun i : Nat => (i : Int) + 1) := by
  intro x hx
  have := hr x hx
  exact List.mem_map.2 ⟨(x - 1).toNat, by simp; omega, by omega⟩
 have := h.length_le_of_subset hs
 simpa using this
structure Path (xs : List Int) (top : Int) (l : List Int) (n : Int) : Prop where
 head : l.head? = some top
 step : ∀ i (h : i + 1 < l.length), l[i + 1] = at1 xs (l[i]'(by omega))
 low : ∀ i (h : i + 1 < l.length), l[i + 1] < top
 last : n = at1 xs (l.getLastD 0)
 range : ∀ x ∈ l, 1 ≤ x ∧ x ≤ (xs.length : Int)
theorem Path.ne {xs : List Int} {top n : Int} {l : List Int} (h : Path xs top l n) : l ≠ [] := by
 intro e; have := h.head; simp [e] at this
theorem Path.pos {xs : List Int} {top n : Int} {l : List Int} (h : Path xs top l n) : 0 < l.length := List.length_pos_iff.2 h.ne
theorem Path.zero {xs : List Int} {top n : Int} {l : List Int} (h : Path xs top l n) : l[0]'h.pos = top := by
 have := h.head
 rw [List.head?_eq_getElem?, List.getElem?_eq_getElem h.pos] at this
 exact Option.some.inj this
theorem Path.start {xs : List Int} {top : Int} (h1 : 1 ≤ top) (h2 : top ≤ xs.length) : Path xs top [top] (at1 xs top) :=
 ⟨rfl, fun i h => by simp at h, fun i h => by simp at h, rfl, fun x hx => by simp at hx; omega⟩
theorem Path.next {xs : List Int} {top n : Int} {l : List Int} (hp : IsPerm xs) (h : Path xs top l n) (hn : n < top) : Path xs top (l ++ [n]) (at1 xs n) := by
 have hpos := h.pos
 have hlast : l.getLastD 0 = l[l.length - 1] := getLastD_get hpos
 have hmem : 1 ≤ n ∧ n ≤ (xs.length : Int) := by
  rw [h.last, hlast]
  have := h.range _ (List.getElem_mem (show l.length - 1 < l.length by omega))
  exact hp.at1_mem this.1 this.2
 refine ⟨?_, ?_, ?_, by simp, ?_⟩
 · rw [List.head?_append, h.head]; rfl
 · intro i hi
   simp only [List.length_append, List.length_cons, List.length_nil] at hi
   by_cases hl : i + 1 < l.length
   · rw [List.getElem_append_left hl, List.getElem_append_left (by omega)]
     exact h.step i hl
   · have e : i + 1 = l.length := by omega
     rw [List.getElem_append_right (by omega), List.getElem_append_left (by omega)]
     simp only [e, Nat.sub_self, List.getElem_cons_zero]
     rw [h.last, hlast]
     congr 2
     omega
 · intro i hi
   simp only [List.length_append, List.length_cons, List.length_nil] at hi
   by_cases hl : i + 1 < l.length
   · rw [List.getElem_append_left hl]
     exact h.low i hl
   · have e : i + 1 = l.length := by omega
     rw [List.getElem_append_right (by omega)]
     simp only [e, Nat.sub_self, List.getElem_cons_zero]
     exact hn
 · intro x hx
   rcases List.mem_append.1 hx with hx | hx
   · exact h.range x hx
   · simp at hx; omega
theorem Path.nodup {xs : List Int} {top n : Int} {l : List Int} (hp : IsPerm xs) (h : Path xs top l n) : l.Nodup := by
 have key : ∀ (i j : Nat) (hi : i < l.length) (hj : j < l.length), i < j → l[i] ≠ l[j] := by
  intro i
  induction i with
  | zero =>
   intro j hi hj hij e
   obtain ⟨j, rfl⟩ : ∃ m, j = m + 1 := ⟨j - 1, by omega⟩
   have := h.low j hj
   rw [← e, h.zero] at this
   omega
  | succ i ih =>
   intro j hi hj hij e
   obtain ⟨j, rfl⟩ : ∃ m, j = m + 1 := ⟨j - 1, by omega⟩
   rw [h.step i hi, h.step j hj] at e
   have r1 := h.range _ (List.getElem_mem (show i < l.length by omega))
   have r2 := h.range _ (List.getElem_mem (show j < l.length by omega))
   exact ih j (by omega) (by omega) (by omega) (hp.at1_inj r1.1 r1.2 r2.1 r2.2 e)
 rw [List.nodup_iff_pairwise_ne, List.pairwise_iff_getElem]
 intro i j hi hj hij
 exact key i j hi hj hij
def topTo (q : List Int) (k : Nat) : Int := (q.take (k + 1)).foldl max 0
theorem foldl_max_ge (l : List Int) : ∀ a, a ≤ l.foldl max a ∧ ∀ x ∈ l, x ≤ l.foldl max a := by
 induction l with
 | nil => intro a; simp
 | cons y l ih =>
  intro a
  have h := ih (max a y)
  simp only [List.foldl_cons]
  refine ⟨by omega, fun x hx => ?_⟩
  rcases List.mem_cons.1 hx with rfl | hx
  · omega
  · exact h.2 x hx
theorem foldl_max_mem (l : List Int) : ∀ a, l.foldl max a = a ∨ l.foldl max a ∈ l := by
 induction l with
 | nil => intro a; simp
 | cons y l ih =>
  intro a
  simp only [List.foldl_cons]
  rcases ih (max a y) with h | h
  · rw [h]
    by_cases hay : a ≤ y
    · right; rw [Int.max_eq_right hay]; simp
    · left; rw [Int.max_eq_left (by omega)]
  · right; exact List.mem_cons_of_mem _ h
theorem topTo_eq {q : List Int} {k i : Nat} (hk : k < q.length) (hi : i ≤ k) (h0 : 0 ≤ q.getD i 0) (h : ∀ j, j ≤ k → q.getD j 0 ≤ q.getD i 0) : topTo q k = q.getD i 0 := by
 unfold topTo
 have h1 := foldl_max_ge (q.take (k + 1)) 0
 have hil : i < q.length := by omega
 have hmem : q.getD i 0 ∈ q.take (k + 1) := by
  rw [getD_get hil, List.mem_take_iff_getElem]
  exact ⟨i, by omega, rfl⟩
 have h2 := h1.2 _ hmem
 rcases foldl_max_mem (q.take (k + 1)) 0 with h3 | h3
 · omega
 · obtain ⟨j, hj, e⟩ := List.mem_take_iff_getElem.1 h3
   have := h j (by omega)
   rw [getD_get (show j < q.length by omega), e] at this
   omega
theorem IsPerm.getD_range {q : List Int} (hp : IsPerm q) {k : Nat} (hk : k < q.length) : 1 ≤ q.getD k 0 ∧ q.getD k 0 ≤ q.length := by
 rw [getD_get hk]; exact hp.2 _ (List.getElem_mem hk)
theorem IsPerm.getD_inj {q : List Int} (hp : IsPerm q) {j k : Nat} (hj : j < q.length) (hk : k < q.length) (e : q.getD j 0 = q.getD k 0) : j = k := by
 rw [getD_get hj, getD_get hk] at e
 exact nodup_get hp.1 hj hk e
structure IsBlock (q : List Int) (i t : Nat) : Prop where
 perm : IsPerm q
 n40 : q.length ≤ 40
 lt : i < q.length
 it : i < t
 tl : t ≤ q.length
 recd : ∀ j, j < i → q.getD j 0 < q.getD i 100
 low : ∀ j, i < j → j < t → q.getD j 0 < q.getD i 0
 stop : t = q.length ∨ q.getD i 0 ≤ q.getD t 0
theorem IsBlock.le {q : List Int} {i t : Nat} (h : IsBlock q i t) {j : Nat} (hj : j < t) : q.getD j 0 ≤ q.getD i 0 := by
 have hi := h.lt
 rcases Nat.lt_trichotomy j i with h1 | h1 | h1
 · have := h.recd j h1
   rw [getD_get hi] at this ⊢
   omega
 · subst h1; omega
 · have := h.low j h1 hj; omega
theorem IsBlock.top {q : List Int} {i t : Nat} (h : IsBlock q i t) {k : Nat} (hik : i ≤ k) (hkt : k < t) : topTo q k = q.getD i 0 := by
 have hr := h.perm.getD_range h.lt
 have htl := h.tl
 exact topTo_eq (by omega) hik (by omega) (fun j hj => h.le (by omega))
theorem IsBlock.next {q : List Int} {i t : Nat} (h : IsBlock q i t) : ∀ j, j < t → q.getD j 0 < q.getD t 100 := by
 intro j hj
 have hn := h.n40
 have htl := h.tl
 have hit := h.it
 have hjl : j < q.length := by omega
 have hr := h.perm.getD_range hjl
 by_cases hl : t < q.length
 · have hs : q.getD i 0 ≤ q.getD t 0 := by
    rcases h.stop with h | h
    · omega
    · exact h
   have hne : q.getD i 0 ≠ q.getD t 0 := fun e => by
    have := h.perm.getD_inj h.lt hl e; omega
   have hji := h.le hj
   have : q.getD t 100 = q.getD t 0 := by rw [getD_get hl, getD_get hl]
   omega
 · rw [getD_far (d := 100) (by omega)]; omega
def upTo (n : Nat) : List Int := (List.range n).map (fun i : Nat => (i : Int) + 1)
theorem mem_upTo {n : Nat} {x : Int} : x ∈ upTo n ↔ 1 ≤ x ∧ x ≤ (n : Int) := by
 simp only [upTo, List.mem_map, List.mem_range]
 constructor
 · rintro ⟨i, hi, rfl⟩; omega
 · intro h; exact ⟨(x - 1).toNat, by omega, by omega⟩
theorem nodup_upTo (n : Nat) : (upTo n).Nodup := by
 rw [upTo, List.nodup_iff_pairwise_ne, List.pairwise_map]
 have := List.nodup_range (n := n)
 rw [List.nodup_iff_pairwise_ne] at this
 exact this.imp (fun h e => h (by omega))
theorem length_upTo (n : Nat) : (upTo n).length = n := by simp [upTo]
section
variable {xs : List Int} {t : Int}
end
theorem IsPerm.length_of {q : List Int} {n : Nat} (h : q.Nodup) (hr : ∀ x ∈ q, 1 ≤ x ∧ x ≤ (n : Int)) (hall : ∀ x : Int, 1 ≤ x → x ≤ n → x ∈ q) : q.length = n := by
 have h1 := nodup_bound h hr
 have h2 := (nodup_upTo n).length_le_of_subset (l₂ := q) (fun x hx => by have := mem_upTo.1 hx; exact hall x this.1 this.2)
 rw [length_upTo] at h2
 omega
end
section
def side (x e : Int) (y : Int) : Bool := decide (y ≤ x) == decide (e ≤ x)
end
end Go.Proofs.YtpmkdihencepnaaGreatDoor
namespace Go.Proofs.YtpmkdihencepnaaGreatDoor
end Go.Proofs.YtpmkdihencepnaaGreatDoor
namespace Go.Proofs.YtpmkdihencepnaaGreatDoor
section
theorem IsPerm.mem {q : List Int} (hq : IsPerm q) {x : Int} (h1 : 1 ≤ x) (h2 : x ≤ q.length) : x ∈ q := by
 apply Classical.byContradiction
 intro hno
 have hnd : (x :: q).Nodup := List.nodup_cons.2 ⟨hno, hq.1⟩
 have := nodup_bound (n := q.length) hnd (fun y hy => by
  rcases List.mem_cons.1 hy with rfl | hy
  · exact ⟨h1, h2⟩
  · exact hq.2 y hy)
 simp at this
 omega
theorem IsPerm.of_perm {a b : List Int} (h : a.Perm b) (hb : IsPerm b) : IsPerm a :=
 ⟨h.symm.nodup hb.1, fun x hx => by rw [h.length_eq]; exact hb.2 x (h.mem_iff.1 hx)⟩
theorem Kn.keepLe (m : Int) {a b : List Int} (h : Kn a b) : Kn (a.filter (· ≤ m)) (b.filter (· ≤ m)) := by
 induction h with
 | refl w => exact .refl _
 | step u v k =>
  rw [List.filter_append, List.filter_append, List.filter_append, List.filter_append]
  refine Kn.ctx _ _ ?_
  cases k with
  | a x y z h1 h2 =>
   by_cases c1 : z ≤ m
   · have c2 : y ≤ m := by omega
     have c3 : x ≤ m := by omega
     simp only [List.filter_cons, c1, c2, c3, decide_true, if_true, List.filter_nil]
     exact .one (.a x y z h1 h2)
   · by_cases c2 : y ≤ m
     · by_cases c3 : x ≤ m
       · simp only [List.filter_cons, c1, c2, c3, decide_true, decide_false, if_true, List.filter_nil]; exact .refl _
       · simp only [List.filter_cons, c1, c2, c3, decide_true, decide_false, if_true, List.filter_nil]; exact .refl _
     · by_cases c3 : x ≤ m
       · simp only [List.filter_cons, c1, c2, c3, decide_true, decide_false, if_true, List.filter_nil]; exact .refl _
       · simp only [List.filter_cons, c1, c2, c3, decide_false, List.filter_nil]; exact .refl _
  | b x y z h1 h2 =>
   by_cases c1 : z ≤ m
   · have c2 : y ≤ m := by omega
     have c3 : x ≤ m := by omega
     simp only [List.filter_cons, c1, c2, c3, decide_true, if_true, List.filter_nil]
     exact .one (.b x y z h1 h2)
   · by_cases c2 : y ≤ m
     · by_cases c3 : x ≤ m
       · simp only [List.filter_cons, c1, c2, c3, decide_true, decide_false, if_true, List.filter_nil]; exact .refl _
       · simp only [List.filter_cons, c1, c2, c3, decide_true, decide_false, if_true, List.filter_nil]; exact .refl _
     · by_cases c3 : x ≤ m
       · simp only [List.filter_cons, c1, c2, c3, decide_true, decide_false, if_true, List.filter_nil]; exact .refl _
       · simp only [List.filter_cons, c1, c2, c3, decide_false, List.filter_nil]; exact .refl _
 | symm _ ih => exact ih.symm
 | trans _ _ ih1 ih2 => exact ih1.trans ih2
theorem filt_none {m : Int} {b : Int} {s : List Int} (h : Up (b :: s)) (hb : ¬ b ≤ m) : (b :: s).filter (· ≤ m) = [] := by
 rw [List.filter_eq_nil_iff]
 intro x hx
 rcases List.mem_cons.1 hx with e | e
 · rw [e]; simpa using hb
 · have := h.head x e; simp; omega
theorem dom_filt {m : Int} : ∀ {r s : List Int}, Up r → Up s → Dom r s → Dom (r.filter (· ≤ m)) (s.filter (· ≤ m))
 | _, [], _, _, _ => by simp [Dom]
 | [], _ :: _, _, _, h => h.elim
 | a :: r, b :: s, hr, hs, h => by
  by_cases c : b ≤ m
  · have ca : a ≤ m := by have := h.1; omega
    rw [List.filter_cons_of_pos (a := a) (by simpa using ca), List.filter_cons_of_pos (a := b) (by simpa using c)]
    exact ⟨h.1, dom_filt hr.tail hs.tail h.2⟩
  · rw [filt_none hs c]; simp only [Dom]
def resT (m : Int) (T : List (List Int)) : List (List Int) := (T.map (fun r => r.filter (· ≤ m))).filter (fun r => decide (r ≠ []))
theorem res_none {m : Int} : ∀ {r : List Int} {t : List (List Int)}, Tab (r :: t) → r.filter (· ≤ m) = [] → ∀ s ∈ t, s.filter (· ≤ m) = []
 | _, [], _, _ => fun s hs => by simp at hs
 | r, s :: t, h, e => by
  have hs2 : s.filter (· ≤ m) = [] := by
   have hd : Dom r s := h.2.2.1
   have hd2 := dom_filt (m := m) h.2.1 h.2.2.2.2.1 hd
   rw [e] at hd2
   cases e2 : s.filter (· ≤ m) with
   | nil => rfl
   | cons x y => rw [e2] at hd2; exact hd2.elim
  intro u hu
  rcases List.mem_cons.1 hu with e2 | e2
  · rw [e2]; exact hs2
  · exact res_none h.2.2.2 hs2 u e2
theorem res_nil {m : Int} {t : List (List Int)} (h : ∀ s ∈ t, s.filter (· ≤ m) = []) : resT m t = [] := by
 unfold resT
 rw [List.filter_eq_nil_iff]
 intro x hx
 obtain ⟨s, hs, rfl⟩ := List.mem_map.1 hx
 simp only [h s hs]; simp
theorem res_cons {m : Int} {r : List Int} {t : List (List Int)} (h : r.filter (· ≤ m) ≠ []) : resT m (r :: t) = r.filter (· ≤ m) :: resT m t := by
 unfold resT
 rw [List.map_cons, List.filter_cons_of_pos (by simpa using h)]
theorem res_skip {m : Int} {r : List Int} {t : List (List Int)} (h : r.filter (· ≤ m) = []) : resT m (r :: t) = resT m t := by
 unfold resT
 rw [List.map_cons, h, List.filter_cons_of_neg (by simp)]
theorem res_word {m : Int} : ∀ (T : List (List Int)), rword (resT m T) = (rword T).filter (· ≤ m)
 | [] => rfl
 | r :: t => by
  simp only [rword, List.filter_append]
  by_cases e : r.filter (· ≤ m) = []
  · rw [res_skip e, e, res_word t, List.append_nil]
  · rw [res_cons e]; simp only [rword]; rw [res_word t]
theorem res_tab {m : Int} : ∀ {T : List (List Int)}, Tab T → Tab (resT m T) ∧ ∀ r, (resT m T).getD r [] = (T.getD r []).filter (· ≤ m)
 | [], _ => ⟨trivial, fun r => by simp [resT]⟩
 | r :: t, h => by
  obtain ⟨ih1, ih2⟩ := res_tab (m := m) h.2.2.2
  by_cases e : r.filter (· ≤ m) = []
  · have h1 := res_none h e
    have h2 : resT m (r :: t) = [] := by rw [res_skip e]; exact res_nil h1
    rw [h2]
    refine ⟨trivial, fun q => ?_⟩
    cases q with
    | zero => simpa using e
    | succ q =>
     have := ih2 q
     rw [res_nil h1] at this
     simpa using this
  · rw [res_cons e]
    refine ⟨⟨e, List.Pairwise.sublist List.filter_sublist h.2.1, ?_, ih1⟩, fun q => ?_⟩
    · have h0 := ih2 0
      have h3 : (resT m t).headD [] = (resT m t).getD 0 [] := by cases resT m t <;> simp
      rw [h3, h0]
      cases t with
      | nil => simp [Dom]
      | cons s t => exact dom_filt h.2.1 h.2.2.2.2.1 h.2.2.1
    · cases q with
      | zero => simp
      | succ q => simpa using ih2 q
theorem res_made (m : Int) (w : List Int) : insW [] (w.filter (· ≤ m)) = resT m (insW [] w) := by
 have ht : Tab (insW [] w) := insW_tab w trivial
 have h1 : Kn w (rword (insW [] w)) := by
  have := insW_word w (T := []) (fun r hr => by simp at hr)
  simpa [rword] using this
 rw [insW_Kn0 _ (Nat.le_refl _) (h1.keepLe m), ← res_word, insW_rword (res_tab ht).1]
theorem rows_can : ∀ (T : List (List Int)) (c k : Nat), (∀ r ∈ T, Up r) → ∃ L : List (Int × Nat), L.map (·.1) = rword T ∧ (∀ t, 0 < t → (cls L t).Pairwise (· ≤ ·)) ∧ (∀ p ∈ L, p.2 ≤ c + k ∧ (p.2 = 0 ∨ c < p.2)) ∧ ncol L = boxes (T.take k)
 | [], c, k, _ => ⟨[], rfl, fun _ _ => List.Pairwise.nil, fun p hp => by simp at hp, by simp [boxes, ncol]⟩
 | r :: t, c, k, h => by
  have c1 : ∀ (l : List Int) (d t : Nat), cls (l.map (fun x => (x, d))) t = if t = d then l else [] := fun l d t => by
   induction l with
   | nil => split <;> rfl
   | cons a l ih =>
    rw [List.map_cons, cls_cons, ih]
    by_cases h : t = d
    · simp [h]
    · rw [if_neg (by show ¬ d = t; omega), if_neg h, if_neg h]
  have c2 : ∀ (l : List Int) (d : Nat), ncol (l.map (fun x => (x, d))) = if d = 0 then 0 else l.length := fun l d => by
   induction l with
   | nil => split <;> rfl
   | cons a l ih =>
    rw [List.map_cons, ncol_cons, ih]
    by_cases h : d = 0
    · simp [h]
    · rw [if_neg h, if_neg h, if_neg h]; simp
  have c3 : ∀ (l : List Int) (d : Nat), (l.map (fun x => (x, d))).map (·.1) = l := fun l d => by simp [Function.comp_def]
  have ht := fun s hs => h s (List.mem_cons_of_mem r hs)
  cases k with
  | zero =>
   obtain ⟨L, h1, h2, h3, h4⟩ := rows_can t c 0 ht
   refine ⟨L ++ r.map (fun x => (x, 0)), by rw [List.map_append, h1, c3]; rfl, fun t' ht' => ?_, fun p hp => ?_, by rw [ncol_append, h4, c2]; simp [boxes]⟩
   · rw [cls_append, c1, if_neg (by omega), List.append_nil]; exact h2 t' ht'
   · rcases List.mem_append.1 hp with e | e
     · exact h3 p e
     · obtain ⟨x, _, rfl⟩ := List.mem_map.1 e; exact ⟨Nat.zero_le _, .inl rfl⟩
  | succ k =>
   obtain ⟨L, h1, h2, h3, h4⟩ := rows_can t (c + 1) k ht
   refine ⟨L ++ r.map (fun x => (x, c + 1)), by rw [List.map_append, h1, c3]; rfl, fun t' ht' => ?_, fun p hp => ?_, ?_⟩
   · rw [cls_append, c1]
     by_cases e : t' = c + 1
     · have : cls L t' = [] := by
        unfold cls
        rw [List.map_eq_nil_iff, List.filter_eq_nil_iff]
        intro p hp
        have := h3 p hp
        simp; omega
       rw [if_pos e, this, List.nil_append]; exact h r (by simp)
     · rw [if_neg e, List.append_nil]; exact h2 t' ht'
   · rcases List.mem_append.1 hp with e | e
     · have := h3 p e; omega
     · obtain ⟨x, _, rfl⟩ := List.mem_map.1 e; exact ⟨by show c + 1 ≤ _; omega, .inr (by show c < c + 1; omega)⟩
   · rw [ncol_append, h4, c2, if_neg (by omega), List.take_succ_cons, boxes_cons]; omega
theorem top_can (w : List Int) (k : Nat) : Can (· ≤ ·) k w (boxes ((insW [] w).take k)) := by
 have ht : Tab (insW [] w) := insW_tab w trivial
 have h1 : Kn w (rword (insW [] w)) := by
  have := insW_word w (T := []) (fun r hr => by simp at hr)
  simpa [rword] using this
 refine (can_up h1).2 ?_
 obtain ⟨L, g1, g2, g3, g4⟩ := rows_can (insW [] w) 0 k ht.up
 exact ⟨L, g1, g2, fun p hp => by have := (g3 p hp).1; omega, g4⟩
theorem same_shape {a b : List Int} (h : ∀ k n, Can (· ≤ ·) k a n ↔ Can (· ≤ ·) k b n) (r : Nat) : ((insW [] a).getD r []).length = ((insW [] b).getD r []).length := by
 have h1 : ∀ k, boxes ((insW [] a).take k) = boxes ((insW [] b).take k) := fun k =>
  Nat.le_antisymm (greene_up ((h k _).1 (top_can a k))) (greene_up ((h k _).2 (top_can b k)))
 have h2 : ∀ T : List (List Int), boxes (T.take (r + 1)) = boxes (T.take r) + (T.getD r []).length := fun T => by
  by_cases c : r < T.length
  · exact boxes_take c
  · rw [List.take_of_length_le (by omega), List.take_of_length_le (by omega), List.getD_eq_getElem?_getD, List.getElem?_eq_none (by omega)]; simp
 have h3 := h2 (insW [] a)
 have h4 := h2 (insW [] b)
 have h5 := h1 r
 have h6 := h1 (r + 1)
 omega
theorem up_uniq : ∀ {a b : List Int} {n : Nat}, Up a → Up b → (∀ x ∈ a, 1 ≤ x ∧ x ≤ (n : Int)) → (∀ x ∈ b, 1 ≤ x ∧ x ≤ (n : Int)) → (∀ i : Nat, i ≤ n → (a.filter (· ≤ (i : Int))).length = (b.filter (· ≤ (i : Int))).length) → a = b
 | [], [], _, _, _, _, _, _ => rfl
 | [], y :: b, n, _, _, _, hb, h => by
  have h1 := h n (Nat.le_refl _)
  have h2 := hb y (by simp)
  rw [List.filter_cons_of_pos (by simpa using h2.2)] at h1
  simp at h1
 | x :: a, [], n, _, _, ha, _, h => by
  have h1 := h n (Nat.le_refl _)
  have h2 := ha x (by simp)
  rw [List.filter_cons_of_pos (by simpa using h2.2)] at h1
  simp at h1
 | x :: a, y :: b, n, ua, ub, ha, hb, h => by
  have hx := ha x (by simp)
  have hy := hb y (by simp)
  have hxy : x = y := by
   apply Classical.byContradiction
   intro hne
   by_cases c : x < y
   · have h1 := h x.toNat (by omega)
     rw [show ((x.toNat : Nat) : Int) = x by omega, List.filter_cons_of_pos (by simp), filt_none ub (by omega)] at h1
     simp at h1
   · have h1 := h y.toNat (by omega)
     rw [show ((y.toNat : Nat) : Int) = y by omega, filt_none ua (by omega), List.filter_cons_of_pos (a := y) (by simp)] at h1
     simp at h1
  subst hxy
  rw [up_uniq (n := n) ua.tail ub.tail (fun z hz => ha z (List.mem_cons_of_mem _ hz)) (fun z hz => hb z (List.mem_cons_of_mem _ hz)) (fun i hi => by
   have h1 := h i hi
   by_cases c : x ≤ (i : Int)
   · rw [List.filter_cons_of_pos (by simpa using c), List.filter_cons_of_pos (by simpa using c)] at h1
     simpa using h1
   · rw [List.filter_cons_of_neg (by simpa using c), List.filter_cons_of_neg (by simpa using c)] at h1
     exact h1)]
theorem qadd_getD {Q : List (List Int)} {r s : Nat} {c : Int} (h : r ≤ Q.length) : (qadd Q r c).getD s [] = if s = r then Q.getD r [] ++ [c] else Q.getD s [] := by
 unfold qadd
 by_cases e : r = Q.length
 · rw [if_pos e]
   subst e
   by_cases e2 : s = Q.length
   · subst e2
     rw [if_pos rfl, List.getD_eq_getElem?_getD, List.getElem?_append_right (Nat.le_refl _), List.getD_eq_getElem?_getD, List.getElem?_eq_none (Nat.le_refl _)]
     simp
   · rw [if_neg e2, List.getD_eq_getElem?_getD, List.getD_eq_getElem?_getD]
     by_cases c : s < Q.length
     · rw [List.getElem?_append_left c]
     · rw [List.getElem?_eq_none (l := Q ++ [_]) (by simp; omega), List.getElem?_eq_none (l := Q) (by omega)]
 · rw [if_neg e]
   by_cases e2 : s = r
   · subst e2
     rw [if_pos rfl, List.getD_eq_getElem?_getD, List.getElem?_set_self (by omega)]; rfl
   · rw [if_neg e2, List.getD_eq_getElem?_getD, List.getElem?_set_ne (Ne.symm e2), ← List.getD_eq_getElem?_getD]
theorem qadd_ne {Q : List (List Int)} {r : Nat} {c : Int} (h : ∀ s ∈ Q, s ≠ []) : ∀ s ∈ qadd Q r c, s ≠ [] := fun s hs => by
 unfold qadd at hs
 split at hs
 · rcases List.mem_append.1 hs with e | e
   · exact h s e
   · simp at e; rw [e]; simp
 · obtain ⟨k, hk, e⟩ := List.getElem_of_mem hs
   rw [List.getElem_set] at e
   split at e
   · rw [← e]; simp
   · rw [← e]; exact h _ (List.getElem_mem _)
theorem rows_ext {T Q : List (List Int)} (h1 : ∀ r ∈ T, r ≠ []) (h2 : ∀ r ∈ Q, r ≠ []) (h : ∀ r, T.getD r [] = Q.getD r []) : T = Q := by
 have key : ∀ {A B : List (List Int)}, (∀ r ∈ A, r ≠ []) → (∀ r, A.getD r [] = B.getD r []) → A.length ≤ B.length := fun {A B} hA hh => by
  apply Classical.byContradiction
  intro hn
  have h3 := hh B.length
  have h4 : B.length < A.length := by omega
  rw [getD_get h4, List.getD_eq_getElem?_getD, List.getElem?_eq_none (Nat.le_refl _)] at h3
  exact hA _ (List.getElem_mem h4) h3
 have hl := Nat.le_antisymm (key h1 h) (key h2 (fun r => (h r).symm))
 apply List.ext_getElem hl
 intro r g1 g2
 have := h r
 rwa [getD_get g1, getD_get g2] at this
theorem Kn.perm {a b : List Int} (h : Kn a b) : a.Perm b := by
 induction h with
 | refl w => exact .refl _
 | step u v k =>
  refine List.Perm.append_right _ (List.Perm.append_left _ ?_)
  cases k with
  | a x y z _ _ => exact List.Perm.cons _ (List.Perm.swap _ _ _)
  | b x y z _ _ => exact List.Perm.swap _ _ _
 | symm _ ih => exact ih.symm
 | trans _ _ ih1 ih2 => exact ih1.trans ih2
theorem rword_flat : ∀ (T : List (List Int)), (rword T).Perm T.flatten
 | [] => .refl _
 | r :: t => by
  simp only [rword, List.flatten_cons]
  exact List.perm_append_comm.trans (List.Perm.append_left r (rword_flat t))
theorem made_flat (w : List Int) : (insW [] w).flatten.Perm w := by
 have h1 : Kn w (rword (insW [] w)) := by
  have := insW_word w (T := []) (fun r hr => by simp at hr)
  simpa [rword] using this
 exact ((rword_flat _).symm).trans h1.perm.symm
theorem fill_rep {T : List (List Int)} (h : Tab T) : Rep (fillC [] T) T := by
 have := Rep.fill T Rep.nil h.ne (by simpa using h.lens.1)
 simpa using this
theorem addCol_len : ∀ (c : List Int), (addCol [] c).length = c.length
 | [] => rfl
 | b :: c => by simp only [addCol, List.length_cons]; rw [addCol_len c]
theorem addCol_keep : ∀ (U : List (List Int)) (c : List Int), c.length ≤ U.length → (addCol U c).length = U.length
 | U, [], _ => by simp [addCol]
 | [], _ :: _, h => by simp at h
 | s :: U, b :: c, h => by simp only [addCol, List.length_cons]; rw [addCol_keep U c (by simpa using h)]
theorem addCol_step : ∀ (U : List (List Int)) (r : List Int) {j : Nat} {x : Int}, r[j]? = some x → (U = [] ∨ r.length ≤ U.length) → addCol U (r.take (j + 1)) = qadd (addCol U (r.take j)) j x
 | _, [], _, _, h, _ => by simp at h
 | [], b :: r, 0, x, h, _ => by
  obtain rfl : b = x := by simpa using h
  simp [addCol, qadd]
 | [], b :: r, j + 1, x, h, _ => by
  have ih := addCol_step [] r (j := j) (x := x) (by simpa using h) (.inl rfl)
  simp only [List.take_succ_cons, addCol]
  rw [ih]
  unfold qadd
  by_cases e : j = (addCol [] (r.take j)).length
  · rw [if_pos e, if_pos (by rw [List.length_cons]; omega)]; rfl
  · rw [if_neg e, if_neg (by rw [List.length_cons]; omega)]; simp
 | s :: U, b :: r, 0, x, h, _ => by
  obtain rfl : b = x := by simpa using h
  simp [addCol, qadd]
 | s :: U, b :: r, j + 1, x, h, hl => by
  have hl2 : r.length ≤ U.length := by
   rcases hl with e | e
   · cases e
   · simpa using e
  have ih := addCol_step U r (j := j) (x := x) (by simpa using h) (.inr hl2)
  simp only [List.take_succ_cons, addCol]
  rw [ih]
  unfold qadd
  by_cases e : j = (addCol U (r.take j)).length
  · rw [if_pos e, if_pos (by rw [List.length_cons]; omega)]; rfl
  · rw [if_neg e, if_neg (by rw [List.length_cons]; omega)]; simp
theorem fillC_snoc (U T : List (List Int)) (r : List Int) : fillC U (T ++ [r]) = addCol (fillC U T) r := by
 unfold fillC; rw [List.foldl_append]; rfl
theorem fillC_take {T : List (List Int)} {i : Nat} (h : i < T.length) : fillC [] (T.take (i + 1)) = addCol (fillC [] (T.take i)) (T.getD i []) := by
 rw [take_snoc h, fillC_snoc, getD_get h]
theorem tab_take : ∀ {T : List (List Int)} (i : Nat), Tab T → Tab (T.take i)
 | [], i, _ => by simp [Tab]
 | r :: t, 0, _ => trivial
 | r :: t, i + 1, h => by
  refine ⟨h.1, h.2.1, ?_, tab_take i h.2.2.2⟩
  cases i with
  | zero => simp [Dom]
  | succ i =>
   cases t with
   | nil => simp [Dom]
   | cons s t => exact h.2.2.1
theorem fill_high {T : List (List Int)} (h : Tab T) {i : Nat} (hi : i < T.length) : fillC [] (T.take i) = [] ∧ i = 0 ∨ (T.getD i []).length ≤ (fillC [] (T.take i)).length ∧ i ≠ 0 := by
 by_cases h0 : i = 0
 · subst h0; exact .inl ⟨rfl, rfl⟩
 · refine .inr ⟨?_, h0⟩
   rw [(fill_rep (tab_take i h)).height]
   have h1 : (T.take i).getD 0 [] = T.headD [] := by
    cases T with
    | nil => simp at hi
    | cons r t =>
     obtain ⟨k, rfl⟩ : ∃ k, i = k + 1 := ⟨i - 1, by omega⟩
     simp
   rw [h1]
   exact h.lens.2 _ (by rw [getD_get hi]; exact List.getElem_mem hi)
theorem fill_short {T : List (List Int)} (h : FillOk T) (i : Nat) : (fillC [] (T.take i)).length ≤ 40 ∧ ∀ j, ((fillC [] (T.take i)).getD j []).length ≤ 40 := by
 have hr := fill_rep (tab_take i h.1)
 have h1 := hr.height
 have h2 := h.small
 refine ⟨?_, fun j => ?_⟩
 · rw [h1]
   have : ((T.take i).getD 0 []).length ≤ (T.getD 0 []).length := by
    cases T with
    | nil => simp
    | cons r t => cases i <;> simp
   have := h2.2 0
   omega
 · by_cases c : j < (fillC [] (T.take i)).length
   · apply Classical.byContradiction
     intro hn
     have h3 := hr.ent j 40
     rw [List.getElem?_eq_getElem (by omega)] at h3
     have h4 : (T.take i).length ≤ 40 := by rw [List.length_take]; omega
     rw [List.getD_eq_getElem?_getD (l := T.take i), List.getElem?_eq_none h4] at h3
     simp at h3
   · rw [List.getD_eq_getElem?_getD, List.getElem?_eq_none (by omega)]; simp
end
end Go.Proofs.YtpmkdihencepnaaGreatDoor
