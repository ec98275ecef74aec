/-
  Plain lists: what Frobenius tells of a partition, and the way back.
-/
import Derived.Test.YtdmpbbgcifodeaaFlipM
namespace Go.Proofs.Ytdmpbbgcifodeaa

/-- d boxes on the diagonal. -/
def IsDiag (p : List Int) (d : Nat) : Prop := (∀ i, i < d → (i : Int) < p.getD i 0) ∧ p.getD d 0 ≤ d
theorem IsDiag.uniq {p : List Int} {d d' : Nat} (h : IsDiag p d) (h' : IsDiag p d') : d = d' := by
  rcases Nat.lt_trichotomy d d' with c | c | c
  · have := h'.1 d c; have := h.2; omega
  · exact c
  · have := h.1 d' c; have := h'.2; omega
theorem IsDiag.flip {p : List Int} {d : Nat} (hp : IsPart p) (h : IsDiag p d) : IsDiag (flipOf p) d :=
  ⟨fun i hi => (galois hp i i).1 (h.1 i hi), by
    by_cases c : (d : Int) < (flipOf p).getD d 0
    · have := (galois hp d d).2 c; have := h.2; omega
    · omega⟩
theorem IsDiag.len {p : List Int} {d : Nat} (h : IsDiag p d) : d ≤ p.length := by
  by_cases c : d ≤ p.length
  · exact c
  · have := h.1 p.length (by omega)
    rw [getD_out (Nat.le_refl _)] at this
    omega

def armsOf (p : List Int) (d : Nat) : List Int := (List.range d).map (fun (k : Nat) => p.getD k 0 - (k : Int) - 1)
theorem armsOf_length (p : List Int) (d : Nat) : (armsOf p d).length = d := by simp [armsOf]
theorem armsOf_getD {p : List Int} {d i : Nat} (h : i < d) : (armsOf p d).getD i 0 = p.getD i 0 - (i : Int) - 1 := by
  rw [getD_get (by rw [armsOf_length]; exact h)]; simp [armsOf]
theorem armsOf_succ (p : List Int) (d : Nat) : armsOf p d ++ [p.getD d 0 - (d : Int) - 1] = armsOf p (d + 1) := by
  simp [armsOf, List.range_succ]
theorem arms_bound {p : List Int} {d : Nat} (h : IsDiag p d) {i : Nat} (hi : i < d) : 0 ≤ (armsOf p d).getD i 0 := by
  have := h.1 i hi
  rw [armsOf_getD hi]; omega
theorem arms_fall {p : List Int} {d : Nat} (hp : IsPart p) {i : Nat} (hi : i < d) (h1 : 1 ≤ i) : (armsOf p d).getD i 0 < (armsOf p d).getD (i - 1) 0 := by
  have := hp.anti (i := i - 1) (j := i) (by omega)
  rw [armsOf_getD hi, armsOf_getD (by omega)]; omega

/-- What the hooks of the first k have together. -/
def hooksTo (p : List Int) (k : Nat) : Int := psum (fun i => (p.getD i 0 - i - 1) + ((flipOf p).getD i 0 - i - 1) + 1) k
theorem hooksTo_eq (p : List Int) : ∀ k : Nat, hooksTo p k = pre p k + pre (flipOf p) k - k * k
  | 0 => by simp [hooksTo, pre, psum]
  | k + 1 => by
    have h : hooksTo p (k + 1) = hooksTo p k + ((p.getD k 0 - k - 1) + ((flipOf p).getD k 0 - k - 1) + 1) := rfl
    rw [h, hooksTo_eq p k, pre_succ, pre_succ]
    have e : ((k + 1 : Nat) : Int) * ((k + 1 : Nat) : Int) = k * k + 2 * k + 1 := by
      rw [Int.natCast_add, Int.add_mul, Int.mul_add, Int.mul_add]; simp; omega
    rw [e]; omega
theorem hooksTo_le {p : List Int} (hp : IsPart p) (k : Nat) : hooksTo p k ≤ p.sum := by
  rw [hooksTo_eq]
  have := both_le hp k k
  omega
theorem hooksTo_succ (p : List Int) (k : Nat) : hooksTo p (k + 1) = hooksTo p k + (p.getD k 0 - k - 1) + ((flipOf p).getD k 0 - k - 1) + 1 := by
  have : hooksTo p (k + 1) = hooksTo p k + ((p.getD k 0 - k - 1) + ((flipOf p).getD k 0 - k - 1) + 1) := rfl
  omega
theorem hooksTo_nonneg {p : List Int} {d : Nat} (hp : IsPart p) (h : IsDiag p d) : ∀ k, k ≤ d → 0 ≤ hooksTo p k
  | 0, _ => Int.le_refl _
  | k + 1, hk => by
    have h1 := hooksTo_nonneg hp h k (by omega)
    have h2 := h.1 k (by omega)
    have h3 := (h.flip hp).1 k (by omega)
    rw [hooksTo_succ]; omega

/-- What stands after i rounds, the last of them as far as r. -/
def Stage (p : List Int) (d i r : Nat) (out : List Int) : Prop :=
  out.length = p.length ∧ ∀ s, s < p.length → out.getD s 0 = if s < d then p.getD s 0 else if s < r then min ((i : Int) + 1) (p.getD s 0) else min (i : Int) (p.getD s 0)

theorem stage_start {p : List Int} (hp : IsPart p) {d z : Nat} (h : d + z = p.length) : Stage p d 0 d (p.take d ++ List.replicate z 0) := by
  refine ⟨by simp; omega, fun s hs => ?_⟩
  have h1 := hp.1 s hs
  by_cases c : s < d
  · rw [if_pos c, getD_get (by simp; omega), List.getElem_append_left (by simp; omega), List.getElem_take, getD_get hs]
  · rw [if_neg c, if_neg c, getD_get (by simp; omega), List.getElem_append_right (by simp; omega), List.getElem_replicate]
    omega
theorem stage_step {p : List Int} (hp : IsPart p) {d i r : Nat} {out : List Int} (h : Stage p d i r out) (hd : d ≤ r) (hr : (r : Int) < (flipOf p).getD i 0) :
    r < p.length ∧ out.getD r 0 = i ∧ Stage p d i (r + 1) (out.set r (out.getD r 0 + 1)) := by
  have hg := (galois hp r i).2 hr
  have hrl : r < p.length := by
    by_cases c : r < p.length
    · exact c
    · rw [getD_out (by omega)] at hg; omega
  have ho : out.getD r 0 = i := by
    rw [h.2 r hrl, if_neg (by omega), if_neg (by omega)]; omega
  refine ⟨hrl, ho, by rw [List.length_set]; exact h.1, fun s hs => ?_⟩
  rw [getD_get (by rw [List.length_set, h.1]; exact hs), List.getElem_set]
  by_cases e : r = s
  · subst e
    rw [if_pos rfl, ho, if_neg (by omega), if_pos (by omega)]; omega
  · rw [if_neg e, ← getD_get (d := 0), h.2 s hs]
    by_cases c : s < d
    · rw [if_pos c, if_pos c]
    · rw [if_neg c, if_neg c]
      by_cases c2 : s < r
      · rw [if_pos c2, if_pos (by omega)]
      · rw [if_neg c2, if_neg (by omega)]
theorem stage_next {p : List Int} (hp : IsPart p) {d i r : Nat} {out : List Int} (h : Stage p d i r out) (hr : (flipOf p).getD i 0 ≤ r) : Stage p d (i + 1) d out := by
  refine ⟨h.1, fun s hs => ?_⟩
  rw [h.2 s hs]
  by_cases c : s < d
  · rw [if_pos c, if_pos c]
  · rw [if_neg c, if_neg c, if_neg c]
    by_cases c2 : s < r
    · rw [if_pos c2]; omega
    · rw [if_neg c2]
      have hg := (galois hp s i)
      have : ¬ (i : Int) < p.getD s 0 := fun hh => by have := hg.1 hh; omega
      omega
theorem stage_end {p : List Int} (hp : IsPart p) {d : Nat} {out : List Int} (h : Stage p d d d out) (hd : IsDiag p d) : out = p := by
  apply ext_getD h.1
  intro s hs
  rw [h.1] at hs
  rw [h.2 s hs]
  by_cases c : s < d
  · rw [if_pos c]
  · rw [if_neg c, if_neg c]
    have := hp.anti (i := d) (j := s) (by omega)
    have := hd.2
    omega
theorem diag_zero {p : List Int} (hp : IsPart p) (h : IsDiag p 0) : p = [] := by
  by_cases c : 0 < p.length
  · have := hp.1 0 c; have := h.2; omega
  · exact List.eq_nil_of_length_eq_zero (by omega)
theorem flip_head {p : List Int} (hp : IsPart p) : (flipOf p).getD 0 0 = p.length := by rw [flip_getD hp, over_all hp]

/-! Dominance in as many steps as the longer one has. -/

theorem dom_of {a b : List Int} (h : ∀ k, k ≤ max a.length b.length → pre b k ≤ pre a k) : Dom a b := fun k => by
  by_cases c : k ≤ max a.length b.length
  · exact h k c
  · have := h _ (Nat.le_refl _)
    rw [pre_all (by omega), pre_all (p := a) (by omega)] at this
    rw [pre_all (by omega), pre_all (p := a) (by omega)]
    exact this

end Go.Proofs.Ytdmpbbgcifodeaa
