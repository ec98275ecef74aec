/-
  Plain: how a number is read, sign by sign.
-/
import Derived.Test.YtmlmdklheiafpaaDoorFilM
namespace Go.Proofs.YtmlmdklheiafpaaDoor.Fil
def sg (s : List UInt8) (i : Nat) : Nat := (s.getD i 0).toNat
theorem sg_get {s : List UInt8} {i : Nat} (h : i < s.length) : s[i]? = some (UInt8.ofNat (sg s i)) := by
  rw [List.getElem?_eq_getElem h]
  unfold sg
  rw [List.getD_eq_getElem?_getD, List.getElem?_eq_getElem h]
  simp
theorem sg_of {s : List UInt8} {i : Nat} {a : UInt8} (h : s[i]? = some a) : sg s i = a.toNat := by
  unfold sg
  rw [List.getD_eq_getElem?_getD, h]; rfl
theorem sg_lt (s : List UInt8) (i : Nat) : sg s i < 256 := UInt8.toNat_lt _
/-- The number so far. -/
def nv (s : List UInt8) (p : Nat) : Nat → Int
  | 0 => 0
  | k + 1 => 10 * nv s p k + ((sg s (p + k) : Int) - 48)
def Sgn (s : List UInt8) (p q : Nat) : Prop := q < s.length ∧ q < p + 2 ∧ 48 ≤ sg s q ∧ sg s q ≤ 57 ∧ (p < q ∨ 48 < sg s q)
instance (s : List UInt8) (p q : Nat) : Decidable (Sgn s p q) := by unfold Sgn; exact inferInstance
theorem drop_sg {s : List UInt8} {p j : Nat} {a : UInt8} (h : (s.drop p)[j]? = some a) : p + j < s.length ∧ sg s (p + j) = a.toNat := by
  rw [List.getElem?_drop] at h
  exact ⟨(List.getElem?_eq_some_iff.1 h).1, sg_of h⟩
theorem sg_drop {s : List UInt8} {p j : Nat} (h : p + j < s.length) : (s.drop p)[j]? = some (UInt8.ofNat (sg s (p + j))) := by
  rw [List.getElem?_drop]; exact sg_get h
theorem num_exit {s : List UInt8} {p k : Nat} (hk : k ≤ 2) (hall : ∀ j, j < k → Sgn s p (p + j)) (hx : ¬ Sgn s p (p + k)) : num1 (s.drop p) = (nv s p k, k) := by
  match k, hk with
  | 0, _ =>
    refine num1_none (fun a ha h => hx ?_)
    obtain ⟨h1, h2⟩ := drop_sg ha
    exact ⟨h1, by omega, by omega, by omega, .inr (by omega)⟩
  | 1, _ =>
    obtain ⟨h1, h2, h3, h4, h5⟩ := hall 0 (by omega)
    have e := num1_one (sg_drop h1) (by rw [ofNat_toNat (sg_lt _ _)]; rcases h5 with h | h <;> omega) (fun b hb h => hx (by
      obtain ⟨g1, g2⟩ := drop_sg hb
      exact ⟨g1, by omega, by omega, by omega, .inl (by omega)⟩))
    rw [e, ofNat_toNat (sg_lt _ _)]
    simp [nv]
  | 2, _ =>
    obtain ⟨h1, h2, h3, h4, h5⟩ := hall 0 (by omega)
    obtain ⟨g1, g2, g3, g4, g5⟩ := hall 1 (by omega)
    have e := num1_two (sg_drop h1) (by rw [ofNat_toNat (sg_lt _ _)]; rcases h5 with h | h <;> omega) (sg_drop g1) (by rw [ofNat_toNat (sg_lt _ _)]; omega)
    rw [e, ofNat_toNat (sg_lt _ _), ofNat_toNat (sg_lt _ _)]
    simp [nv]
theorem nv_le {s : List UInt8} {p : Nat} : ∀ {k : Nat}, (∀ j, j < k → Sgn s p (p + j)) → 0 ≤ nv s p k ∧ nv s p k < 10 ^ k
  | 0, _ => by simp [nv]
  | k + 1, h => by
    have h1 := nv_le (k := k) (fun j hj => h j (by omega))
    obtain ⟨_, _, h3, h4, _⟩ := h k (by omega)
    have e : nv s p (k + 1) = 10 * nv s p k + ((sg s (p + k) : Int) - 48) := rfl
    rw [e, Int.pow_succ]
    omega
theorem newAt_eq {s : List UInt8} {p : Nat} (hp : 0 < p) (hl : p ≤ s.length) : newAt s p = decide (sg s (p - 1) = 47) := by
  unfold newAt
  rw [decide_eq_false (show ¬ p = 0 by omega), Bool.false_or, sg_get (show p - 1 < s.length by omega)]
  have := sg_lt s (p - 1)
  congr 1
  apply propext
  constructor
  · intro h
    have := Option.some.inj h
    have := congrArg UInt8.toNat this
    rw [ofNat_toNat (sg_lt _ _)] at this
    simpa using this
  · intro h; rw [h]; rfl
theorem sep_of {s : List UInt8} {q : Nat} (hq : q < s.length) (h : sg s q = 32 ∨ sg s q = 47) : ∃ c, s[q]? = some c ∧ (c = 32 ∨ c = 47) := by
  refine ⟨_, sg_get hq, ?_⟩
  rcases h with h | h <;> rw [h]
  · exact .inl rfl
  · exact .inr rfl
theorem nosep_of {s : List UInt8} {q : Nat} (hq : q < s.length) (h1 : sg s q ≠ 32) (h2 : sg s q ≠ 47) : ∃ c, s[q]? = some c ∧ c ≠ 32 ∧ c ≠ 47 := by
  refine ⟨_, sg_get hq, fun e => h1 ?_, fun e => h2 ?_⟩
  · have := congrArg UInt8.toNat e; rw [ofNat_toNat (sg_lt _ _)] at this; simpa using this
  · have := congrArg UInt8.toNat e; rw [ofNat_toNat (sg_lt _ _)] at this; simpa using this
theorem push_set {V : List (List Int)} {i : Nat} (h : V.length = i + 1) (n : Int) : push V n = V.set i (V.getD i [] ++ [n]) := by
  obtain ⟨T, r, rfl⟩ : ∃ T r, V = T ++ [r] := ⟨V.dropLast, V.getLast (fun e => by rw [e] at h; simp at h), (List.dropLast_concat_getLast _).symm⟩
  have hT : T.length = i := by simpa using h
  subst hT
  rw [push_snoc]
  simp
theorem push_ne (V : List (List Int)) (n : Int) : push V n ≠ [] := by simp [push]
theorem Rd.bound {s : List UInt8} {p : Nat} {out : List (List Int)} (h : Rd s p out) : p ≤ s.length ∧ 2 * out.length ≤ p ∧ (∀ r ∈ out, 2 * r.length ≤ p) ∧ (0 < p → out ≠ []) := by
  induction h with
  | start => exact ⟨Nat.zero_le _, by simp, by simp, by omega⟩
  | @next p out n k c h hn hk hc hs ih =>
    obtain ⟨h1, h2, h3, h4⟩ := ih
    have hlt := (List.getElem?_eq_some_iff.1 hc).1
    have hbl : (begR out (newAt s p)).length ≤ out.length + 1 := by unfold begR; split <;> simp
    have hbr : ∀ r ∈ begR out (newAt s p), 2 * r.length ≤ p := fun r hr => by
      unfold begR at hr
      split at hr
      · rcases List.mem_append.1 hr with hr | hr
        · exact h3 r hr
        · simp at hr; subst hr; simp
      · exact h3 r hr
    obtain ⟨V, hV⟩ : ∃ V, V = begR out (newAt s p) := ⟨_, rfl⟩
    rw [← hV] at hbl hbr ⊢
    refine ⟨by omega, ?_, fun r hr => ?_, fun _ => push_ne _ _⟩
    · unfold push
      rw [List.length_append, List.length_dropLast, List.length_singleton]; omega
    · unfold push at hr
      rcases List.mem_append.1 hr with hr | hr
      · have := hbr r (List.dropLast_subset _ hr); omega
      · simp only [List.mem_singleton] at hr
        subst hr
        rw [List.length_append, List.length_singleton]
        by_cases he : V = []
        · subst he; simp; omega
        · have := hbr (V.getLastD []) (by rw [List.getLastD_eq_getLast?, List.getLast?_eq_some_getLast he]; exact List.getLast_mem he)
          omega
end Go.Proofs.YtmlmdklheiafpaaDoor.Fil
