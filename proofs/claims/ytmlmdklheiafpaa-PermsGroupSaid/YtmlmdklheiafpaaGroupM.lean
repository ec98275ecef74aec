/-
  Plain lists: inverses, products, codes, words of permutations.
-/
import Derived.Test.YtmlmdklheiafpaaBruhatLaw
namespace Go.Proofs.Ytmlmdklheiafpaa

/-! Inverses. -/

theorem IsInv.uniq {p x y : List Int} (hp : IsPerm p) (hx : IsInv p x) (hy : IsInv p y) : x = y := by
  rw [← at1_list (x := x), ← at1_list (x := y), hx.1, hy.1]
  apply List.map_congr_left
  intro v hv
  have h := mem_upTo.1 hv
  obtain ⟨k, hk, e⟩ := List.getElem_of_mem (hp.mem h.1 h.2)
  have h1 := hx.2 k hk
  have h2 := hy.2 k hk
  rw [getD_get hk, e] at h1 h2
  rw [h1, h2]

theorem sum_four (l : List Nat) (F A B G : Nat → Nat) (h : ∀ k ∈ l, F k + A k = B k + G k) : (l.map F).sum + (l.map A).sum = (l.map B).sum + (l.map G).sum := by
  induction l with
  | nil => rfl
  | cons x l ih =>
    have h1 := ih (fun k hk => h k (List.mem_cons_of_mem _ hk))
    have h2 := h x (by simp)
    simp only [List.map_cons, List.sum_cons]
    omega

theorem wrongTo_sum (p : List Int) : ∀ k, wrongTo p k = ((List.range k).map (fun i => overAt p i i)).sum
  | 0 => rfl
  | k + 1 => by
    rw [wrongTo, wrongTo_sum p k, List.range_succ, List.map_append, List.sum_append]
    simp

theorem overAt_rk (p : List Int) (i : Nat) : overAt p i i = rk p i (p.getD i 0 + 1) := by
  unfold overAt rk
  apply List.countP_congr
  intro a _
  simp only [decide_eq_true_eq]
  omega

theorem rk_skip {p : List Int} (hp : IsPerm p) {k : Nat} (hk : k < p.length) : rk p k (p.getD k 0) = rk p k (p.getD k 0 + 1) := by
  unfold rk
  apply List.countP_congr
  intro a ha
  simp only [decide_eq_true_eq]
  have : a ≠ p.getD k 0 := by
    intro e
    obtain ⟨j, hj, hja⟩ := List.getElem_of_mem ha
    rw [List.getElem_take] at hja
    rw [List.length_take] at hj
    have := hp.getD_inj (show j < p.length by omega) hk (by rw [getD_get (by omega), hja, e])
    omega
  omega

theorem IsInv.inv_eq {p x : List Int} (hp : IsPerm p) (hx : IsInv p x) : inv x = inv p := by
  unfold inv
  rw [wrongTo_sum, wrongTo_sum, hx.1]
  have hperm : ((List.range p.length).map (fun k => (p.getD k 0).toNat - 1)).Perm (List.range p.length) := by
    have h1 : (List.range p.length).map (fun k => (p.getD k 0).toNat - 1) = p.map (fun v => v.toNat - 1) := by
      apply List.ext_getElem (by simp)
      intro i h1 h2
      simp only [List.getElem_map, List.getElem_range]
      rw [getD_get (by simpa using h2)]
    have h2 : (upTo p.length).map (fun v => v.toNat - 1) = List.range p.length := by
      unfold upTo
      rw [List.map_map]
      conv => rhs; rw [← List.map_id (List.range p.length)]
      apply List.map_congr_left
      intro i _
      simp only [Function.comp, id]
      omega
    rw [h1, ← h2]
    exact hp.perm_upTo.map _
  have hs1 := (hperm.map (fun i => overAt x i i)).sum_nat
  have hs2 := (hperm.map (fun i => i)).sum_nat
  rw [List.map_map] at hs1 hs2
  have key := sum_four (List.range p.length) ((fun i => overAt x i i) ∘ fun k => (p.getD k 0).toNat - 1) (fun i => i) ((fun i => i) ∘ fun k => (p.getD k 0).toNat - 1) (fun i => overAt p i i) (fun k hk => by
    have hk' := List.mem_range.1 hk
    have hr := hp.getD_range hk'
    have h1 := hx.rank hp (i := (p.getD k 0).toNat - 1) (by omega) (k := k + 1) (by omega)
    have h2 := hx.2 k hk'
    unfold at1 at h2
    simp only [Function.comp]
    rw [overAt_rk, overAt_rk]
    rw [show (p.getD k 0 - 1).toNat = (p.getD k 0).toNat - 1 by omega] at h2
    rw [h2]
    rw [show (((p.getD k 0).toNat - 1 : Nat) : Int) + 1 = p.getD k 0 by omega, rk_succ p hk', if_pos (Int.le_refl _), rk_skip hp hk'] at h1
    rw [show ((k + 1 : Nat) : Int) + 1 = (k : Int) + 1 + 1 by omega] at h1
    omega)
  rw [hs1, hs2] at key
  omega

/-! Products. -/

def tms (a b : List Int) : List Int := b.map (at1 a)
theorem tms_length (a b : List Int) : (tms a b).length = b.length := by simp [tms]
theorem at1_map {f : Int → Int} {q : List Int} {m : Int} (h1 : 1 ≤ m) (h2 : m ≤ q.length) : at1 (q.map f) m = f (at1 q m) := by
  unfold at1
  rw [getD_get (by simp; omega), getD_get (by omega), List.getElem_map]
theorem tms_getD {a b : List Int} {k : Nat} (h : k < b.length) : (tms a b).getD k 0 = at1 a (b.getD k 0) := by
  rw [getD_get (by simpa [tms] using h), getD_get h]; simp [tms]
theorem tms_perm {a b : List Int} (ha : IsPerm a) (hb : IsPerm b) (hl : a.length = b.length) : IsPerm (tms a b) := by
  have h1 : (tms a b).Perm ((upTo b.length).map (at1 a)) := hb.perm_upTo.map _
  rw [← hl, at1_list] at h1
  exact IsPerm.of_perm h1 ha
theorem tms_assoc {p q r : List Int} (hr : IsPerm r) (hl : q.length = r.length) : tms (tms p q) r = tms p (tms q r) := by
  unfold tms
  rw [List.map_map]
  apply List.map_congr_left
  intro k hk
  have := hr.2 k hk
  exact at1_map this.1 (by omega)
theorem IsInv.tms {p q a s : List Int} (hp : IsPerm p) (hq : IsPerm q) (hl : p.length = q.length) (ha : IsInv p a) (hs : IsInv q s) : IsInv (tms p q) (tms s a) := by
  refine ⟨by rw [tms_length, tms_length, ha.1, hl], fun k hk => ?_⟩
  rw [tms_length] at hk
  have hr := hq.getD_range hk
  have h1 := hp.at1_mem hr.1 (by omega)
  rw [tms_getD hk]
  have e1 : at1 (Go.Proofs.Ytmlmdklheiafpaa.tms s a) (at1 p (q.getD k 0)) = at1 s (at1 a (at1 p (q.getD k 0))) := at1_map h1.1 (by rw [ha.1]; exact h1.2)
  rw [e1]
  have e2 : at1 a (at1 p (q.getD k 0)) = q.getD k 0 := by
    have := ha.2 ((q.getD k 0 - 1).toNat) (by omega)
    unfold at1 at this ⊢
    rw [this]; omega
  rw [e2, hs.2 k hk]

end Go.Proofs.Ytmlmdklheiafpaa
