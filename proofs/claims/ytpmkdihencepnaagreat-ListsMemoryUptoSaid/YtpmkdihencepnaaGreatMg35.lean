/-
  parts.All in memory: what its closure has captured, the partitions so far.
-/
import Derived.Test.YtpmkdihencepnaaGreatMg15
import Derived.Test.YtpmkdihencepnaaGreatMg34
namespace Go.Proofs.YtpmkdihencepnaaGreat
open Go.RowKit LR

def fnAll (b1 b2 b3 : Nat) : Value := .func (.func 63) #[] #[.pointer (some ⟨b1, 0, none⟩), .pointer (some ⟨b2, 0, none⟩), .pointer (some ⟨b3, 0, none⟩)]
def areg (b1 b2 b3 : Nat) (vO vN : Value) (nw : List Nat) (m : Nat) (vR : Nat → Value) (rw : Nat → List Nat) : Nat → Reg
  | 0 => ⟨28, 1, .slice (some ⟨b1, 0, none⟩) 1 1, 1, [vO]⟩
  | 1 => ⟨22, 1, .slice (some ⟨b2, 0, none⟩) 1 1, 1, [vN]⟩
  | 2 => ⟨68, 1, .slice (some ⟨b3, 0, none⟩) 1 1, 1, [fnAll b1 b2 b3]⟩
  | 3 => ⟨22, 1, vO, m, (List.range m).map vR⟩
  | 4 => ⟨3, 1, vN, nw.length, ints (zs nw)⟩
  | r + 5 => if r < m then ⟨3, 1, vR r, (rw r).length, ints (zs (rw r))⟩ else Reg.none 3
def AllSt (w : World) (B b1 b2 b3 : Nat) (rows : List (List Nat)) (nw : List Nat) : Prop :=
  ∃ vO vN vR, AllR w B (areg b1 b2 b3 vO vN nw rows.length vR (fun r => rows.getD r []))

section
variable {w w' : World} {B b1 b2 b3 : Nat} {vO vN : Value} {nw : List Nat} {m : Nat} {vR : Nat → Value} {rw : Nat → List Nat}
theorem al_c1 (h : AllR w B (areg b1 b2 b3 vO vN nw m vR rw)) : w.cell? ⟨b1, 0, none⟩ = some vO := h.cell (x := 0) (c := 1) rfl (by show 0 < 1 * 1; omega) rfl
theorem al_c2 (h : AllR w B (areg b1 b2 b3 vO vN nw m vR rw)) : w.cell? ⟨b2, 0, none⟩ = some vN := h.cell (x := 1) (c := 1) rfl (by show 0 < 1 * 1; omega) rfl
theorem al_c3 (h : AllR w B (areg b1 b2 b3 vO vN nw m vR rw)) : w.cell? ⟨b3, 0, none⟩ = some (fnAll b1 b2 b3) := h.cell (x := 2) (c := 1) rfl (by show 0 < 1 * 1; omega) rfl
theorem al_f1 (h : AllR w B (areg b1 b2 b3 vO vN nw m vR rw)) : w.frozen? ⟨b1, 0, none⟩ = false := h.fz (x := 0) (c := 1) rfl 0
theorem al_f2 (h : AllR w B (areg b1 b2 b3 vO vN nw m vR rw)) : w.frozen? ⟨b2, 0, none⟩ = false := h.fz (x := 1) (c := 1) rfl 0
theorem areg_row {r : Nat} (hr : r < m) : areg b1 b2 b3 vO vN nw m vR rw (r + 5) = ⟨3, 1, vR r, (rw r).length, ints (zs (rw r))⟩ := if_pos hr
theorem areg_lt (h : AllR w B (areg b1 b2 b3 vO vN nw m vR rw)) : (B ≤ b1 ∧ b1 < w.heap.size) ∧ (B ≤ b2 ∧ b2 < w.heap.size) ∧ (B ≤ b3 ∧ b3 < w.heap.size) :=
  ⟨h.lt (x := 0) rfl, h.lt (x := 1) rfl, h.lt (x := 2) rfl⟩

/-- The now-row turned: its value and what it holds. -/
theorem areg_now (h : AllR w B (areg b1 b2 b3 vO vN nw m vR rw)) {vN' : Value} {nw' : List Nat} (ho : w'.ownsRow B 3 1 vN' nw'.length (ints (zs nw')))
    (hk : ∀ b, b < w.heap.size → vN.ownBlock ≠ some b → w'.heap[b]? = w.heap[b]?) (hat : ∀ b, vN'.ownBlock = some b → vN.ownBlock = some b ∨ w.heap.size ≤ b) :
    AllR (w'.setCell ⟨b2, 0, none⟩ vN') B (areg b1 b2 b3 vO vN' nw' m vR rw) := by
  have h1 : AllR w' B (fun y => if y = 4 then ⟨3, 1, vN', nw'.length, ints (zs nw')⟩ else areg b1 b2 b3 vO vN nw m vR rw y) :=
    h.upd (x := 4) (by unfold Reg.ok; simp only [if_true]; exact ho) (fun y hy => if_neg hy) hk (fun b hb => by rw [if_pos rfl] at hb; exact hat b hb)
  refine h1.set (x := 1) (g := b2) (c := 1) (by rw [if_neg (by omega)]; rfl) 0 _ ?_ (fun y hy => ?_)
  · rw [if_neg (by omega)]
    rfl
  · match y, hy with
    | 0, _ => rw [if_neg (by omega)]; rfl
    | 1, hy => exact absurd rfl hy
    | 2, _ => rw [if_neg (by omega)]; rfl
    | 3, _ => rw [if_neg (by omega)]; rfl
    | 4, _ => rw [if_pos rfl]; rfl
    | r + 5, _ => rw [if_neg (by omega)]; rfl

/-- One row more: a clone of what is now, a block that names it, the slice of rows grown, the captured cell turned. -/
theorem areg_push (h : AllR w B (areg b1 b2 b3 vO vN nw m vR rw)) (hB : B ≤ w.heap.size) {w2 : World} (hb2 : Below w.heap.size w w2) {vC : Value} {nw' : List Nat} (hC : w2.ownsRow w.heap.size 3 1 vC nw'.length (ints (zs nw')))
    {w5 : World} {g2 c2 : Nat} (hown : w5.ownsRow B 22 1 (.slice (some ⟨g2, 0, none⟩) (m + 1) c2) (m + 1) ((List.range m).map vR ++ [vC]))
    (hg : (w2.alloc (.cells #[vC] 22)).grownBy w5 vO.ownBlock) (hat : vO.ownBlock = some g2 ∨ w2.heap.size + 1 ≤ g2) :
    AllR (w5.setCell ⟨b1, 0, none⟩ (.slice (some ⟨g2, 0, none⟩) (m + 1) c2)) B (areg b1 b2 b3 (.slice (some ⟨g2, 0, none⟩) (m + 1) c2) vN nw (m + 1) (at1E vR m vC) (at1E rw m nw')) ∧ Below B w (w5.setCell ⟨b1, 0, none⟩ (.slice (some ⟨g2, 0, none⟩) (m + 1) c2)) := by
  have hm1 : areg b1 b2 b3 vO vN nw m vR rw (m + 5) = Reg.none 3 := if_neg (Nat.lt_irrefl m)
  have h1 : AllR w2 B (fun y => if y = m + 5 then ⟨3, 1, vC, nw'.length, ints (zs nw')⟩ else areg b1 b2 b3 vO vN nw m vR rw y) := by
    refine h.upd (x := m + 5) ?_ (fun y hy => if_neg hy) (fun b hb _ => hb2.block b hb) (fun b hb => ?_)
    · unfold Reg.ok
      simp only [if_true]
      exact hC.mono hB
    · rw [if_pos rfl] at hb
      exact .inr (hC.lt b hb).1
  have h2 := h1.alloc (.cells #[vC] 22)
  have hz2 : (w2.alloc (.cells #[vC] 22)).heap.size = w2.heap.size + 1 := by simp
  have h3 : AllR w5 B (fun y => if y = 3 then ⟨22, 1, .slice (some ⟨g2, 0, none⟩) (m + 1) c2, m + 1, (List.range m).map vR ++ [vC]⟩
      else if y = m + 5 then ⟨3, 1, vC, nw'.length, ints (zs nw')⟩ else areg b1 b2 b3 vO vN nw m vR rw y) := by
    refine h2.upd (x := 3) ?_ (fun y hy => if_neg hy) (fun b hb hne => hg.block b hb (fun e => hne ?_)) (fun b hb => ?_)
    · unfold Reg.ok
      simp only [if_true]
      exact hown
    · rw [if_neg (by omega)]; exact e.symm
    · rw [if_pos rfl] at hb
      obtain rfl : g2 = b := by simpa [Value.ownBlock] using hb
      rw [if_neg (by omega)]
      rcases hat with e | e
      · exact .inl e
      · exact .inr (by rw [hz2]; exact e)
  have hbB : B ≤ b1 := (h.lt (x := 0) (b := b1) rfl).1
  have hbel : Below B w w5 := ((hb2.mono hB).alloc (Nat.le_trans hB hb2.size) _).grown hg (by rw [hz2]; have := hb2.size; omega) (fun k hk => (h.lt (x := 3) hk).1)
  refine ⟨h3.set (x := 0) (g := b1) (c := 1) (by rw [if_neg (by omega), if_neg (by omega)]; rfl) 0 _ ?_ (fun y hy => ?_), hbel.setCell (p := ⟨b1, 0, none⟩) hbB _⟩
  · rw [if_neg (by omega), if_neg (by omega)]
    rfl
  · match y, hy with
    | 0, hy => exact absurd rfl hy
    | 1, _ => rw [if_neg (by omega), if_neg (by omega)]; rfl
    | 2, _ => rw [if_neg (by omega), if_neg (by omega)]; rfl
    | 3, _ =>
      rw [if_pos rfl]
      show Reg.mk _ _ _ _ _ = Reg.mk _ _ _ _ _
      congr 1
      rw [List.range_succ, List.map_append]
      congr 1
      · refine List.map_congr_left (fun r hr => ?_)
        have := List.mem_range.1 hr
        rw [at1_ne _ _ (by omega)]
      · simp [at1_self]
    | 4, _ => rw [if_neg (by omega), if_neg (by omega)]; rfl
    | r + 5, _ =>
      rw [if_neg (by omega)]
      show (if r < m + 1 then _ else _) = _
      by_cases e : r = m
      · subst e
        rw [if_pos (by omega), if_pos rfl, at1_self, at1_self]
      · rw [if_neg (show ¬ r + 5 = m + 5 by omega)]
        show _ = (if r < m then _ else _)
        by_cases c : r < m
        · rw [if_pos (by omega), if_pos c, at1_ne _ _ e, at1_ne _ _ e]
        · rw [if_neg (by omega), if_neg c]
end
theorem rows_at1 {rows : List (List Nat)} {p : List Nat} : at1E (fun r => rows.getD r []) rows.length p = fun r => (rows ++ [p]).getD r [] := by
  funext r
  by_cases e : r = rows.length
  · subst e; rw [at1_self]; simp
  · rw [at1_ne _ _ e]
    by_cases c : r < rows.length
    · simp [List.getElem?_append_left c]
    · have h1 : rows.length ≤ r := by omega
      simp [List.getElem?_eq_none h1, List.getElem?_eq_none (show (rows ++ [p]).length ≤ r by simp; omega)]

theorem cell_keepE {w w' : World} {b o : Nat} {x : Value} (hb : Below w.heap.size w w') (h : w.cell? ⟨b, o, none⟩ = some x) : w'.cell? ⟨b, o, none⟩ = some x := by
  have hlt : b < w.heap.size := by
    by_cases c : b < w.heap.size
    · exact c
    · unfold World.cell? at h
      have : w.heap[b]? = none := Array.getElem?_eq_none (by omega)
      rw [this] at h; cases h
  exact (hb.cell (p := ⟨b, o, none⟩) hlt).trans h
theorem keep_setE {w : World} {b k N j : Nat} {x y : Value} (hne : b ≠ N) (h : w.cell? ⟨N, j, none⟩ = some x) : (w.setCell ⟨b, k, none⟩ y).cell? ⟨N, j, none⟩ = some x := by
  have hk : (w.setCell ⟨b, k, none⟩ y).heap[N]? = w.heap[N]? := by simp [World.setCell, Array.getElem?_modify, hne]
  exact (World.cell?_of_block hk).trans h
/-- How many partitions at most. -/
theorem pts_len : ∀ (f left most : Nat), (pts f left most).length ≤ 2 ^ left
  | 0, left, most => by
    have : 1 ≤ 2 ^ left := Nat.one_le_two_pow
    by_cases z : left = 0
    · simp [pts, z]
    · simp [pts, z]
  | f + 1, left, most => by
    have p1 : 1 ≤ 2 ^ left := Nat.one_le_two_pow
    by_cases z : left = 0
    · simp [pts, z]
    · simp only [pts, z, if_false]
      have main : ∀ (l : List Nat) (u : Nat), (∀ k ∈ l, 1 ≤ k ∧ k ≤ left) → l.Pairwise (· > ·) → (∀ k ∈ l, k ≤ u) → u ≤ left → (l.flatMap (fun k => (pts f (left - k) k).map (k :: ·))).length + 2 ^ (left - u) ≤ 2 ^ left := by
        intro l
        induction l with
        | nil => intro u _ _ _ _; simpa using Nat.pow_le_pow_right (show 0 < 2 by omega) (show left - u ≤ left by omega)
        | cons k l ih =>
          intro u h1 h2 h3 h4
          have hk := h1 k (by simp)
          have h2' := List.pairwise_cons.1 h2
          have i := ih (k - 1) (fun x hx => h1 x (by simp [hx])) h2'.2 (fun x hx => by have := h2'.1 x hx; omega) (by omega)
          have g := pts_len f (left - k) k
          have ku := h3 k (by simp)
          have e1 : 2 ^ (left - (k - 1)) = 2 * 2 ^ (left - k) := by
            rw [show left - (k - 1) = (left - k) + 1 by omega, Nat.pow_succ]; omega
          have e2 : 2 ^ (left - u) ≤ 2 ^ (left - k) := Nat.pow_le_pow_right (by omega) (by omega)
          simp only [List.flatMap_cons, List.length_append, List.length_map]
          omega
      have := main (downs (min left most)) left (fun k hk => by have := mem_downs.1 hk; omega) (by
        unfold downs
        rw [List.pairwise_map]
        refine List.pairwise_lt_range.imp_of_mem (fun {a b} ha hb h => ?_)
        have := List.mem_range.1 hb
        omega) (fun k hk => by have := mem_downs.1 hk; omega) (Nat.le_refl _)
      exact Nat.le_trans (Nat.le_add_right _ _) this
end Go.Proofs.YtpmkdihencepnaaGreat
