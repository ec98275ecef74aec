/-
  Rows of bools that the call owns; base of a row lowered.
-/
import Derived.Deep.Onto
import Derived.Test.YtpmkdihencepnaaGreatMg01
import Derived.Test.YtpmkdihencepnaaGreatMg05
import Derived.Test.YtpmkdihencepnaaGreatMg08
import Derived.Test.YtpmkdihencepnaaGreatMg09
namespace Go.Proofs.YtpmkdihencepnaaGreat
open Go.RowKit

theorem Tryz.infoBool : (Tryz.prog.info? 4).map (fun i => (i.zero, i.size, i.bytes)) = some (some (.bool false), 1, 1) := by kernel_rfl

/-- Bools as a row reads them. -/
def bools (bs : List Bool) : List Value := bs.map Value.bool
theorem bools_length (bs : List Bool) : (bools bs).length = bs.length := by simp [bools]

section
variable {w w' : World} {base n g c : Nat} {bs : List Bool}
theorem ownB_get {e : TypeId} (h : w.ownsRow base e 1 (.slice (some ⟨g, 0, none⟩) n c) n (bools bs)) {i : Nat} {z : Bool} (hz : bs[i]? = some z) : w.cell? ⟨g, i, none⟩ = some (.bool z) := by
  obtain ⟨hi, e1⟩ := List.getElem?_eq_some_iff.1 hz
  have hl := h.1
  rw [bools_length] at hl
  rw [h.cellAt i (by omega)]
  simp [bools, hi, e1]
theorem ownB_set {e : TypeId} (h : w.ownsRow base e 1 (.slice (some ⟨g, 0, none⟩) n c) n (bools bs)) (j : Nat) (y : Bool) :
    (w.setCell ⟨g, j, none⟩ (.bool y)).ownsRow base e 1 (.slice (some ⟨g, 0, none⟩) n c) n (bools (bs.set j y)) := by
  have := (h.stored j (.bool y)).1
  rwa [bools, ← List.map_set] at this

/-- 'make([]bool, n)'. -/
theorem wpList_mkB {ops : Array Oper} {rest : List Oper} {o : Oper} {a : Act} {Q : Exit → Act → World → Prop} (hgd : o.guard = none) (s x : Operand)
    (ho : o.op = Op.makeSlice 56 s x) (n : Nat) (hs : a.eval s = .int .i64 n) (hx : a.eval x = .int .i64 n) (hlen : n < 1000000) (hbase : base ≤ w.heap.size)
    (h : ∀ w', w'.ownsRow base 4 1 (.slice (some ⟨w.heap.size, 0, none⟩) n n) n (bools (List.replicate n false)) → Below w.heap.size w w' → w'.heap.size = w.heap.size + 1 →
      wpList Tryz.prog ops Q rest (a.put o.dst (.slice (some ⟨w.heap.size, 0, none⟩) n n)) w') :
    wpList Tryz.prog ops Q (o :: rest) a w := by
  obtain ⟨i0, hi, hz0, hz1, hz2⟩ := info_parts Tryz.infoBool
  have hrun := run_make (P := Tryz.prog) w 56 4 i0 (.bool false) Tryz.underlying56 hi hz0 .i64 .i64 n n (by omega) (by omega) (by rw [hz2]; omega) (by omega)
  refine wpList_plain hgd fun K hK => ?_
  unfold Oper.wp
  simp [execOp, ho, hs, hx, hrun, Result.andThen]
  refine hK _ _ (h _ ?_ ((Below.refl _ _).alloc (Nat.le_refl _) _) (by simp))
  have := World.ownsRow_lit (e := 4) (size := 1) (base := base) w (madeCells (Value.bool false).cells (n * i0.size)) n hbase (by unfold maxLen; omega) (by rw [size_madeCells, hz1])
  have e : (madeCells (Value.bool false).cells (n * i0.size)).toList = bools (List.replicate n false) := by
    rw [hz1]; simp [Value.cells, toList_madeCells_one, bools]
  rwa [e] at this
end

/-- 'append(v, x)' of one int, where the walk writes the new block's number otherwise. -/
theorem wpList_app1h {w : World} {base : Nat} {l : List Int} {v : Value} {ops : Array Oper} {rest : List Oper} {o : Oper} {a : Act} {Q : Exit → Act → World → Prop} (hgd : o.guard = none) (s x : Operand)
    (ho : o.op = .call { callee := .builtin .append, args := #[s, x], argTypes := #[22, 22] }) (hs : a.eval s = v) (y : Int) {n : Nat}
    (hown : w.ownsRow base 3 1 v n (ints l)) (g0 : Nat) (hg0 : g0 = w.heap.size) (hx : a.eval x = .slice (some ⟨g0, 0, none⟩) 1 1) (hlen : n < 1000000) (hbase : base ≤ w.heap.size)
    (h : ∀ g cap w', w'.ownsRow base 3 1 (.slice (some ⟨g, 0, none⟩) (n + 1) cap) (n + 1) (ints (l ++ [y])) → Below base w w' →
      wpList Tryz.prog ops Q rest (a.put o.dst (.slice (some ⟨g, 0, none⟩) (n + 1) cap)) w') :
    wpList Tryz.prog ops Q (o :: rest) a (w.alloc (.cells #[.int .i64 y] 3)) := by
  subst hg0
  exact wpList_app1 hgd s x ho hs y hown hx hlen hbase h

/-- Which of n places stand in a list. -/
def marks (n : Nat) (q : List Int) : List Bool := (List.range n).map (fun s : Nat => decide ((s : Int) ∈ q))
theorem marks_nil (n : Nat) : marks n [] = List.replicate n false := by
  unfold marks
  apply List.ext_getElem
  · simp
  · intro i h1 h2; simp
theorem marks_get {n i : Nat} {q : List Int} (h : i < n) : (marks n q)[i]? = some (decide ((i : Int) ∈ q)) := by
  simp [marks, h]
theorem marks_snoc {n i : Nat} {q : List Int} : (marks n q).set i true = marks n (q ++ [(i : Int)]) := by
  unfold marks
  apply List.ext_getElem
  · simp
  · intro j h1 h2
    rw [List.getElem_set]
    simp only [List.getElem_map, List.getElem_range]
    by_cases e : i = j
    · subst e; rw [if_pos rfl]; symm; simp
    · rw [if_neg e]
      have : ((j : Int) ∈ q ++ [(i : Int)]) ↔ (j : Int) ∈ q := by
        rw [List.mem_append, List.mem_singleton]
        constructor
        · rintro (h | h)
          · exact h
          · omega
        · exact .inl
      simp only [this]

end Go.Proofs.YtpmkdihencepnaaGreat

/-
  Plain lists: cars that park: when all find a place; POLLAK's.
-/
namespace Go.Proofs.YtpmkdihencepnaaGreat

/-- Each place from 1 to n once. -/
structure AllSpots (n : Nat) (q : List Int) : Prop where
  nd : q.Nodup
  rg : ∀ x ∈ q, 1 ≤ x ∧ x ≤ (n : Int)
  len : q.length = n
theorem AllSpots.perm {n : Nat} {q : List Int} (h : AllSpots n q) : q.Perm (upTo n) := by
  rw [List.perm_ext_iff_of_nodup h.nd (nodup_upTo n)]
  intro x
  constructor
  · exact fun hx => mem_upTo.2 (h.rg x hx)
  · intro hx
    by_cases c : x ∈ q
    · exact c
    · exfalso
      have h1 : (x :: q).Nodup := List.nodup_cons.2 ⟨c, h.nd⟩
      have := h1.length_le_of_subset (l₂ := upTo n) (fun y hy => by
        rcases List.mem_cons.1 hy with rfl | hy
        · exact hx
        · exact mem_upTo.2 (h.rg y hy))
      rw [length_upTo, List.length_cons, h.len] at this
      omega
/-- How many are no more than j. -/
def cntLe (m : List Int) (j : Nat) : Nat := m.countP (fun x => decide (x ≤ (j : Int)))
theorem cntLe_upTo : ∀ (n j : Nat), j ≤ n → cntLe (upTo n) j = j
  | 0, j, h => by obtain rfl : j = 0 := by omega
                  rfl
  | n + 1, j, h => by
    have e : upTo (n + 1) = upTo n ++ [(n : Int) + 1] := by simp [upTo, List.range_succ]
    have e2 : cntLe (upTo (n + 1)) j = cntLe (upTo n) j + if ((n : Int) + 1) ≤ j then 1 else 0 := by
      rw [e]; unfold cntLe; rw [List.countP_append, List.countP_singleton]; simp
    rw [e2]
    by_cases c : j ≤ n
    · rw [cntLe_upTo n j c, if_neg (by omega)]; rfl
    · have e3 : cntLe (upTo n) j = n := by
        unfold cntLe
        rw [List.countP_eq_length.2 (fun x hx => by have := mem_upTo.1 hx; simp; omega), length_upTo]
      rw [e3, if_pos (by omega)]; omega
theorem cntLe_mono : ∀ {m q : List Int} (j : Nat), m.length = q.length → (∀ i, i < m.length → m.getD i 0 ≤ q.getD i 0) → cntLe q j ≤ cntLe m j
  | [], [], j, _, _ => Nat.le_refl _
  | x :: m, y :: q, j, hl, h => by
    have ih := cntLe_mono (m := m) (q := q) j (by simpa using hl) (fun i hi => by have := h (i + 1) (by simpa using hi); simpa using this)
    have h0 := h 0 (by simp)
    simp only [List.getD_cons_zero] at h0
    have e1 : cntLe (x :: m) j = cntLe m j + if x ≤ (j : Int) then 1 else 0 := by simp [cntLe, List.countP_cons]
    have e2 : cntLe (y :: q) j = cntLe q j + if y ≤ (j : Int) then 1 else 0 := by simp [cntLe, List.countP_cons]
    rw [e1, e2]
    split <;> split <;> omega
  | [], _ :: _, _, hl, _ => by simp at hl
  | _ :: _, [], _, hl, _ => by simp at hl

/-- All find a place. -/
def Crit (m : List Int) : Prop := (∀ x ∈ m, 1 ≤ x ∧ x ≤ (m.length : Int)) ∧ ∀ j, j ≤ m.length → j ≤ cntLe m j
theorem Crit.perm {m m' : List Int} (h : Crit m) (hp : m.Perm m') : Crit m' := by
  refine ⟨fun x hx => ?_, fun j hj => ?_⟩
  · rw [← hp.length_eq]; exact h.1 x (hp.mem_iff.2 hx)
  · have := h.2 j (by rw [hp.length_eq]; exact hj)
    unfold cntLe at *
    rwa [hp.countP_eq] at this
theorem crit_of_spots {m q : List Int} (hq : AllSpots m.length q) (h : ∀ i, i < m.length → 1 ≤ m.getD i 0 ∧ m.getD i 0 ≤ q.getD i 0) : Crit m := by
  refine ⟨fun x hx => ?_, fun j hj => ?_⟩
  · obtain ⟨i, hi, rfl⟩ := List.getElem_of_mem hx
    have := h i hi
    rw [getD_get hi, getD_get (by rw [hq.len]; exact hi)] at this
    have := hq.rg _ (List.getElem_mem (l := q) (n := i) (by rw [hq.len]; exact hi))
    omega
  · have h1 := cntLe_mono j hq.len.symm (fun i hi => (h i hi).2)
    have h2 : cntLe q j = j := by
      have := cntLe_upTo m.length j hj
      unfold cntLe at *
      rwa [hq.perm.countP_eq]
    omega

/-- Places so far, of the first cars. -/
structure ParkInv (m q : List Int) : Prop where
  nd : q.Nodup
  rg : ∀ x ∈ q, 1 ≤ x ∧ x ≤ (m.length : Int)
  le : ∀ t, t < q.length → m.getD t 0 ≤ q.getD t 0 ∧ ∀ s : Int, m.getD t 0 ≤ s → s < q.getD t 0 → s ∈ q
theorem ParkInv.nil (m : List Int) : ParkInv m [] := ⟨by simp, by simp, fun t ht => by simp at ht⟩
theorem ParkInv.snoc {m q : List Int} (h : ParkInv m q) {y : Int} (hy : y ∉ q) (h1 : 1 ≤ y) (h2 : y ≤ (m.length : Int)) (hm : m.getD q.length 0 ≤ y) (hs : ∀ s : Int, m.getD q.length 0 ≤ s → s < y → s ∈ q) : ParkInv m (q ++ [y]) := by
  refine ⟨nodup_snoc.2 ⟨h.nd, hy⟩, fun x hx => ?_, fun t ht => ?_⟩
  · rcases List.mem_append.1 hx with hx | hx
    · exact h.rg x hx
    · rw [List.mem_singleton] at hx; subst hx; exact ⟨h1, h2⟩
  · by_cases c : t < q.length
    · rw [snoc_getD_low c]
      exact ⟨(h.le t c).1, fun s a b => List.mem_append_left _ ((h.le t c).2 s a b)⟩
    · have : t = q.length := by simp at ht; omega
      subst this
      rw [snoc_getD_end]
      exact ⟨hm, fun s a b => List.mem_append_left _ (hs s a b)⟩
theorem ParkInv.crit {m q : List Int} (h : ParkInv m q) (hl : q.length = m.length) (hv : ∀ x ∈ m, 1 ≤ x) : AllSpots m.length q ∧ Crit m := by
  have ha : AllSpots m.length q := ⟨h.nd, h.rg, hl⟩
  refine ⟨ha, crit_of_spots ha (fun i hi => ⟨?_, (h.le i (by omega)).1⟩)⟩
  rw [getD_get hi]; exact hv _ (List.getElem_mem hi)

theorem countP_two {α : Type} (p q : α → Bool) : ∀ (l : List α), (∀ x ∈ l, ¬ (p x = true ∧ q x = true)) → l.countP p + l.countP q ≤ l.length
  | [], _ => by simp
  | x :: l, h => by
    have ih := countP_two p q l (fun y hy => h y (List.mem_cons_of_mem _ hy))
    have hx := h x (by simp)
    rw [List.countP_cons, List.countP_cons, List.length_cons]
    cases hp : p x <;> cases hq : q x <;> simp_all <;> omega

def cntGe (m : List Int) (b : Int) : Nat := m.countP (fun x => decide (b ≤ x))
theorem cntGe_mono : ∀ {m q : List Int} (b : Int), m.length = q.length → (∀ i, i < m.length → b ≤ q.getD i 0 → b ≤ m.getD i 0) → cntGe q b ≤ cntGe m b
  | [], [], j, _, _ => Nat.le_refl _
  | x :: m, y :: q, b, hl, h => by
    have ih := cntGe_mono (m := m) (q := q) b (by simpa using hl) (fun i hi => by have := h (i + 1) (by simpa using hi); simpa using this)
    have h0 := h 0 (by simp)
    simp only [List.getD_cons_zero] at h0
    have e1 : cntGe (x :: m) b = cntGe m b + if b ≤ x then 1 else 0 := by simp [cntGe, List.countP_cons]
    have e2 : cntGe (y :: q) b = cntGe q b + if b ≤ y then 1 else 0 := by simp [cntGe, List.countP_cons]
    rw [e1, e2]
    split <;> split <;> first | omega | (exfalso; omega)
  | [], _ :: _, _, hl, _ => by simp at hl
  | _ :: _, [], _, hl, _ => by simp at hl

theorem least_block {q : List Int} {n : Int} : ∀ k : Nat, (∀ s : Int, (k : Int) + 1 ≤ s → s ≤ n → s ∈ q) → ∃ b : Nat, b ≤ k ∧ (∀ s : Int, (b : Int) + 1 ≤ s → s ≤ n → s ∈ q) ∧ (b = 0 ∨ (b : Int) ∉ q)
  | 0, h => ⟨0, Nat.le_refl _, h, .inl rfl⟩
  | k + 1, h => by
    by_cases c : ((k + 1 : Nat) : Int) ∈ q
    · obtain ⟨b, h1, h2, h3⟩ := least_block k (fun s a b => by
        by_cases e : s = (k : Int) + 1
        · rw [e]; simpa using c
        · exact h s (by omega) b)
      exact ⟨b, by omega, h2, h3⟩
    · exact ⟨k + 1, Nat.le_refl _, h, .inr c⟩

/-- Where a car finds none: not all could. -/
theorem ParkInv.fail {m q : List Int} (h : ParkInv m q) (hl : q.length < m.length) (hv : ∀ x ∈ m, 1 ≤ x) (hs : ∀ s : Int, m.getD q.length 0 ≤ s → s ≤ (m.length : Int) → s ∈ q) : ¬ Crit m := by
  rintro ⟨hr, hc⟩
  have hmem : m.getD q.length 0 ∈ m := by rw [getD_get hl]; exact List.getElem_mem hl
  have h1 := hr _ hmem
  obtain ⟨b, hb1, hb2, hb3⟩ := least_block (q := q) (n := m.length) (m.getD q.length 0 - 1).toNat (fun s a b => hs s (by omega) b)
  -- those that wish for more than b
  have e1 : cntGe q ((b : Int) + 1) ≤ cntGe (m.take q.length) ((b : Int) + 1) := by
    refine cntGe_mono _ (by simp; omega) (fun i hi hqi => ?_)
    have hi' : i < q.length := by simp at hi; omega
    rw [take_getD hi']
    have hle := h.le i hi'
    by_cases c : (b : Int) + 1 ≤ m.getD i 0
    · exact c
    · rcases hb3 with e | e
      · have := hv (m.getD i 0) (by rw [getD_get (by omega)]; exact List.getElem_mem _)
        omega
      · exact absurd (hle.2 b (by omega) (by omega)) e
  have e2 : m.length - b ≤ cntGe q ((b : Int) + 1) := by
    have hnd : ((upTo m.length).filter (fun x => decide ((b : Int) + 1 ≤ x))).Nodup := (nodup_upTo _).filter _
    have hsub : (upTo m.length).filter (fun x => decide ((b : Int) + 1 ≤ x)) ⊆ q.filter (fun x => decide ((b : Int) + 1 ≤ x)) := fun x hx => by
      rw [List.mem_filter] at hx ⊢
      have h3 := mem_upTo.1 hx.1
      exact ⟨hb2 x (by simpa using hx.2) h3.2, hx.2⟩
    have h4 := hnd.length_le_of_subset hsub
    rw [← List.countP_eq_length_filter, ← List.countP_eq_length_filter] at h4
    have h5 : cntLe (upTo m.length) b + (upTo m.length).countP (fun x => decide ((b : Int) + 1 ≤ x)) = m.length := by
      have := List.length_eq_countP_add_countP (fun x => decide (x ≤ (b : Int))) (l := upTo m.length)
      rw [length_upTo] at this
      refine Eq.trans (congrArg (fun z => cntLe (upTo m.length) b + z) (List.countP_congr (fun x _ => ?_))) this.symm
      simp; omega
    rw [cntLe_upTo _ _ (by omega)] at h5
    unfold cntGe
    omega
  have e3 : cntGe (m.take q.length) ((b : Int) + 1) + 1 ≤ cntGe m ((b : Int) + 1) := by
    have h3 : m = m.take q.length ++ m.drop q.length := (List.take_append_drop _ _).symm
    have h4 : m.drop q.length = m[q.length] :: m.drop (q.length + 1) := List.drop_eq_getElem_cons hl
    have h5 : cntGe m ((b : Int) + 1) = cntGe (m.take q.length) ((b : Int) + 1) + cntGe (m.drop q.length) ((b : Int) + 1) := by
      unfold cntGe
      rw [← List.countP_append, List.take_append_drop]
    rw [h5, h4]
    unfold cntGe
    rw [List.countP_cons]
    rw [getD_get hl] at hb1 h1
    have : decide ((b : Int) + 1 ≤ m[q.length]) = true := by simp; omega
    rw [if_pos this]
    omega
  have e4 := countP_two (fun x => decide (x ≤ (b : Int))) (fun x => decide ((b : Int) + 1 ≤ x)) m (fun x _ => by simp; omega)
  have e5 := hc b (by omega)
  unfold cntLe at e5
  unfold cntGe at *
  omega

/-! On the round. -/

theorem mod_add {r k N : Int} (h1 : 0 ≤ r) (h2 : r < N) (h3 : 0 ≤ k) (h4 : k < N) : (r + k) % N = if r + k < N then r + k else r + k - N := by
  by_cases c : r + k < N
  · rw [if_pos c, Int.emod_eq_of_lt (by omega) c]
  · rw [if_neg c]
    have : (r + k) % N = (r + k - N) % N := by rw [Int.sub_emod_right]
    rw [this, Int.emod_eq_of_lt (by omega) (by omega)]
theorem mod_add' {y k N : Int} (hN : 0 < N) (h3 : 0 ≤ k) (h4 : k < N) : (y + k) % N = if y % N + k < N then y % N + k else y % N + k - N := by
  rw [← mod_add (Int.emod_nonneg y (by omega)) (Int.emod_lt_of_pos y hN) h3 h4, Int.emod_add_emod]

/-- All turned on by s. -/
def rotB (l : List Int) (s : Int) : List Int := l.map (fun x => (x - 1 + s) % ((l.length : Int) + 1) + 1)
theorem rotB_length (l : List Int) (s : Int) : (rotB l s).length = l.length := by simp [rotB]
theorem rot_getD {l : List Int} {s : Int} {i : Nat} (h : i < l.length) : (rotB l s).getD i 0 = (l.getD i 0 - 1 + s) % ((l.length : Int) + 1) + 1 := by
  rw [getD_get (by rw [rotB_length]; exact h), getD_get h]; simp [rotB]

/-- Places so far on the round. -/
structure RoundInv (l q : List Int) : Prop where
  nd : q.Nodup
  rg : ∀ x ∈ q, 0 ≤ x ∧ x ≤ (l.length : Int)
  le : ∀ t, t < q.length → ∃ e : Nat, q.getD t 0 = (l.getD t 0 + e) % ((l.length : Int) + 1) ∧ ∀ e' : Nat, e' < e → (l.getD t 0 + e') % ((l.length : Int) + 1) ∈ q
theorem RoundInv.nil (l : List Int) : RoundInv l [] := ⟨by simp, by simp, fun t ht => by simp at ht⟩
theorem RoundInv.snoc {l q : List Int} (h : RoundInv l q) {e : Nat} (hy : (l.getD q.length 0 + e) % ((l.length : Int) + 1) ∉ q) (hs : ∀ e' : Nat, e' < e → (l.getD q.length 0 + e') % ((l.length : Int) + 1) ∈ q) :
    RoundInv l (q ++ [(l.getD q.length 0 + e) % ((l.length : Int) + 1)]) := by
  refine ⟨nodup_snoc.2 ⟨h.nd, hy⟩, fun x hx => ?_, fun t ht => ?_⟩
  · rcases List.mem_append.1 hx with hx | hx
    · exact h.rg x hx
    · rw [List.mem_singleton] at hx; subst hx
      have h1 := Int.emod_nonneg (l.getD q.length 0 + e) (b := (l.length : Int) + 1) (by omega)
      have h2 := Int.emod_lt_of_pos (l.getD q.length 0 + e) (b := (l.length : Int) + 1) (by omega)
      omega
  · by_cases c : t < q.length
    · rw [snoc_getD_low c]
      obtain ⟨e, h1, h2⟩ := h.le t c
      exact ⟨e, h1, fun e' he => List.mem_append_left _ (h2 e' he)⟩
    · have : t = q.length := by simp at ht; omega
      subst this
      rw [snoc_getD_end]
      exact ⟨e, rfl, fun e' he => List.mem_append_left _ (hs e' he)⟩
/-- The place that stays free must become the one at which all begin. -/
theorem RoundInv.crit {l q : List Int} (h : RoundInv l q) (hl : q.length = l.length) {f : Int} (h0 : 0 ≤ f) (h1 : f ≤ (l.length : Int)) (hf : f ∉ q) :
    Crit (rotB l (((l.length : Int) + 1 - f) % ((l.length : Int) + 1))) := by
  have N0 : (0 : Int) < (l.length : Int) + 1 := by omega
  obtain ⟨k, hk⟩ : ∃ k, k = ((l.length : Int) + 1 - f) % ((l.length : Int) + 1) := ⟨_, rfl⟩
  rw [← hk]
  have hk' : (f = 0 ∧ k = 0) ∨ (0 < f ∧ k = (l.length : Int) + 1 - f) := by
    by_cases c : f = 0
    · left; rw [hk, c]; simp
    · right; rw [hk, Int.emod_eq_of_lt (by omega) (by omega)]; exact ⟨by omega, rfl⟩
  have hk0 : 0 ≤ k ∧ k < (l.length : Int) + 1 := by omega
  have nz : ∀ y : Int, y % ((l.length : Int) + 1) ∈ q → 1 ≤ (y + k) % ((l.length : Int) + 1) ∧ (y + k) % ((l.length : Int) + 1) ≤ (l.length : Int) := fun y hy => by
    have a1 := h.rg _ hy
    have a2 : y % ((l.length : Int) + 1) ≠ f := fun e => hf (e ▸ hy)
    rw [mod_add' N0 hk0.1 hk0.2]
    split <;> omega
  have hall : AllSpots l.length (q.map (fun y => (y + k) % ((l.length : Int) + 1))) := by
    refine ⟨?_, fun x hx => ?_, by simpa using hl⟩
    · rw [List.nodup_iff_pairwise_ne, List.pairwise_map]
      have := h.nd
      rw [List.nodup_iff_pairwise_ne] at this
      refine this.imp_of_mem (fun {a b} ha hb hab he => hab ?_)
      have ra := h.rg a ha
      have rb := h.rg b hb
      rw [mod_add ra.1 (by omega) hk0.1 hk0.2, mod_add rb.1 (by omega) hk0.1 hk0.2] at he
      split at he <;> split at he <;> omega
    · obtain ⟨y, hy, rfl⟩ := List.mem_map.1 hx
      have ry := h.rg y hy
      exact nz y (by rw [Int.emod_eq_of_lt ry.1 (by omega)]; exact hy)
  have hall' : AllSpots (rotB l k).length (q.map (fun y => (y + k) % ((l.length : Int) + 1))) := by rw [rotB_length]; exact hall
  refine crit_of_spots hall' (fun i hi => ?_)
  rw [rotB_length] at hi
  rw [rot_getD hi]
  obtain ⟨e, he1, he2⟩ := h.le i (by omega)
  have hqm : q.getD i 0 ∈ q := by rw [getD_get (by omega)]; exact List.getElem_mem _
  obtain ⟨x, hx⟩ : ∃ x, x = l.getD i 0 := ⟨_, rfl⟩
  rw [← hx] at he1 he2 ⊢
  have hin : ∀ e' : Nat, e' ≤ e → (x + e') % ((l.length : Int) + 1) ∈ q := fun e' h2 => by
    by_cases c : e' = e
    · rw [c, ← he1]; exact hqm
    · exact he2 e' (by omega)
  have m0 := Int.emod_nonneg (x - 1 + k) (b := (l.length : Int) + 1) (by omega)
  have step : ∀ e' : Nat, e' ≤ e → (x + e' + k) % ((l.length : Int) + 1) = (x - 1 + k) % ((l.length : Int) + 1) + 1 + e' := by
    intro e'
    induction e' with
    | zero =>
      intro hz
      have a1 := nz _ (hin 0 hz)
      have a2 : (x + ((0 : Nat) : Int) + k) = (x - 1 + k) + 1 := by simp; omega
      rw [a2] at a1 ⊢
      rw [mod_add' (by omega) (by omega) (by omega)] at a1 ⊢
      have m1 := Int.emod_lt_of_pos (x - 1 + k) N0
      split at a1
      · rename_i c; rw [if_pos c]; simp
      · omega
    | succ e' ih =>
      intro hz
      have a0 := ih (by omega)
      have a1 := nz _ (hin (e' + 1) hz)
      have a2 : (x + ((e' + 1 : Nat) : Int) + k) = (x + e' + k) + 1 := by simp; omega
      rw [a2] at a1 ⊢
      rw [mod_add' (by omega) (by omega) (by omega)] at a1 ⊢
      have m1 := Int.emod_lt_of_pos (x + e' + k) N0
      split at a1
      · rename_i c; rw [if_pos c, a0]; simp; omega
      · omega
  have hqi : (q.map (fun y => (y + k) % ((l.length : Int) + 1))).getD i 0 = (x - 1 + k) % ((l.length : Int) + 1) + 1 + e := by
    rw [getD_get (by simp; omega)]
    simp only [List.getElem_map]
    rw [← getD_get (d := 0), he1, Int.emod_add_emod, step e (Nat.le_refl _)]
  rw [hqi]
  omega

end Go.Proofs.YtpmkdihencepnaaGreat
