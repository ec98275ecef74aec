/-
  Plain: what Tree counts while leaves are taken.
-/
import Derived.Test.YtdmpbbgcifodeaaTreeW
namespace Go.Proofs.Ytdmpbbgcifodeaa
open Go.RowKit

theorem upTo_sorted (n : Nat) : (upTo n).Pairwise (· < ·) := by
  unfold upTo
  rw [List.pairwise_map]
  exact List.pairwise_lt_range.imp (fun h => by omega)
/-- r tells how often each place that is left stands in c; those that are gone, -1. -/
structure DegOk (r : List Int) (n : Nat) (S c : List Int) : Prop where
  len : r.length = n + 1
  sub : ∀ u ∈ S, 1 ≤ u ∧ u ≤ n
  inn : ∀ u : Nat, 1 ≤ u → u ≤ n → (u : Int) ∈ S → r.getD u 0 = (c.count (u : Int) : Int)
  out : ∀ u : Nat, 1 ≤ u → u ≤ n → (u : Int) ∉ S → r.getD u 0 = -1
theorem set_getD {r : List Int} {v u : Nat} {y : Int} (hv : v < r.length) : (r.set v y).getD u 0 = if v = u then y else r.getD u 0 := by
  rw [List.getD_eq_getElem?_getD, List.getElem?_set]
  by_cases c : v = u
  · rw [if_pos c, if_pos c, if_pos hv]; rfl
  · rw [if_neg c, if_neg c, List.getD_eq_getElem?_getD]
/-- The least place that is told 0. -/
theorem DegOk.least {r : List Int} {n : Nat} {S c : List Int} (h : DegOk r n S c) {v : Int} (hv : v ∈ S) (hno : v ∉ c) (hmin : ∀ u ∈ S, u < v → u ∈ c) :
    ∃ k : Nat, v = k ∧ 1 ≤ k ∧ k ≤ n ∧ r.getD k 0 = 0 ∧ ∀ u : Nat, 1 ≤ u → u < k → r.getD u 0 ≠ 0 := by
  have hb := h.sub v hv
  obtain ⟨k, rfl⟩ : ∃ k : Nat, v = k := ⟨v.toNat, by omega⟩
  refine ⟨k, rfl, by omega, by omega, ?_, fun u u1 u2 => ?_⟩
  · rw [h.inn k (by omega) (by omega) hv, List.count_eq_zero_of_not_mem hno]; rfl
  · by_cases hu : (u : Int) ∈ S
    · rw [h.inn u u1 (by omega) hu]
      have := List.count_pos_iff.2 (hmin u hu (by omega))
      omega
    · rw [h.out u u1 (by omega) hu]; decide
/-- The place is taken. -/
theorem DegOk.take {r : List Int} {n : Nat} {S c : List Int} (h : DegOk r n S c) (hn : S.Nodup) {k : Nat} (hk : k ≤ n) : DegOk (r.set k (-1)) n (S.erase (k : Int)) c := by
  have hl : k < r.length := by rw [h.len]; omega
  refine ⟨by rw [List.length_set]; exact h.len, fun u hu => h.sub u (List.mem_of_mem_erase hu), fun u u1 u2 hu => ?_, fun u u1 u2 hu => ?_⟩
  · rw [set_getD hl]
    obtain ⟨a, b⟩ := hn.mem_erase_iff.1 hu
    rw [if_neg (by omega)]
    exact h.inn u u1 u2 b
  · rw [set_getD hl]
    by_cases e : k = u
    · rw [if_pos e]
    · rw [if_neg e]
      exact h.out u u1 u2 (fun hS => hu (hn.mem_erase_iff.2 ⟨by omega, hS⟩))
/-- One told less. -/
theorem DegOk.less {r : List Int} {n : Nat} {S c : List Int} {w : Int} (h : DegOk r n S (w :: c)) (hw : w ∈ S) : ∃ k : Nat, w = k ∧ 1 ≤ k ∧ k ≤ n ∧ DegOk (r.set k (r.getD k 0 - 1)) n S c ∧ 1 ≤ r.getD k 0 ∧ r.getD k 0 ≤ c.length + 1 := by
  have hb := h.sub w hw
  obtain ⟨k, rfl⟩ : ∃ k : Nat, w = k := ⟨w.toNat, by omega⟩
  have hl : k < r.length := by rw [h.len]; omega
  have hv := h.inn k (by omega) (by omega) hw
  rw [List.count_cons_self] at hv
  have hc : c.count (k : Int) ≤ c.length := List.count_le_length
  refine ⟨k, rfl, by omega, by omega, ⟨by rw [List.length_set]; exact h.len, h.sub, fun u u1 u2 hu => ?_, fun u u1 u2 hu => ?_⟩, by omega, by omega⟩
  · rw [set_getD hl]
    by_cases e : k = u
    · subst e; rw [if_pos rfl, hv]; omega
    · rw [if_neg e, h.inn u u1 u2 hu, List.count_cons]
      have : ((k : Int) == (u : Int)) = false := by simp; omega
      rw [this]; simp
  · rw [set_getD hl, if_neg (fun e => hu (by rw [← e]; exact hw))]
    exact h.out u u1 u2 hu
/-- The counting itself. -/
def cntR (n : Nat) (c : List Int) : List Int := (List.range (n + 1)).map (fun i : Nat => (c.count (i : Int) : Int))
theorem cntR_snoc {n k : Nat} {c : List Int} : (cntR n c).set k ((c.count (k : Int) : Int) + 1) = cntR n (c ++ [(k : Int)]) := by
  apply List.ext_getElem (by simp [cntR])
  intro j h1 h2
  rw [List.getElem_set]
  simp only [cntR, List.getElem_map, List.getElem_range, List.count_append]
  by_cases e : k = j
  · subst e; rw [if_pos rfl]; simp
  · rw [if_neg e]
    have : List.count (j : Int) [(k : Int)] = 0 := List.count_eq_zero_of_not_mem (by simp; omega)
    omega
theorem cntR_nil (n : Nat) : List.replicate (n + 1) 0 = cntR n [] := by
  apply List.ext_getElem (by simp [cntR])
  intro j h1 h2; simp [cntR]
theorem cntR_get {n k : Nat} {c : List Int} (hk : k ≤ n) : (cntR n c)[k]? = some (c.count (k : Int) : Int) := by
  unfold cntR; rw [List.getElem?_map, List.getElem?_range (by omega)]; rfl
theorem DegOk.start (n : Nat) (c : List Int) : DegOk (cntR n c) n (upTo n) c := by
  refine ⟨by simp [cntR], fun u hu => mem_upTo.1 hu, fun u u1 u2 _ => ?_, fun u u1 u2 hu => absurd (mem_upTo.2 ⟨by omega, by omega⟩) hu⟩
  rw [List.getD_eq_getElem?_getD, cntR_get u2]; rfl
end Go.Proofs.Ytdmpbbgcifodeaa
