/-
  Rows of natural numbers; rule.within; partitions as the walk has them.
-/
import Derived.Test.YtidnpmkdajicjaaDoorPChk
import Derived.Test.YtidnpmkdajicjaaDoorLrF
import Derived.Test.YtidnpmkdajicjaaDoorCloneW
import Derived.Test.YtidnpmkdajicjaaDoorSeaR
namespace Go.Proofs.YtidnpmkdajicjaaDoor
open Go.RowKit LR

/-- Natural numbers as the program has them. -/
def zs (a : List Nat) : List Int := a.map (fun x : Nat => (x : Int))
theorem zs_length {a : List Nat} : (zs a).length = a.length := by simp [zs]
theorem zs_getD {a : List Nat} {i : Nat} : (zs a).getD i 0 = (at0 a i : Int) := by
  unfold zs at0
  by_cases h : i < a.length
  · simp [h]
  · simp [h]
theorem zs_cells {a : List Nat} : ints (zs a) = (List.range a.length).map (fun x => iv (at0 a x)) := by
  apply List.ext_getElem (by simp [ints, zs])
  intro i h1 h2
  have h : i < a.length := by simpa [ints, zs] using h1
  simp [ints, zs, iv, at0, h]
theorem zs_sum {a : List Nat} : (zs a).sum = (a.sum : Int) := by
  induction a with
  | nil => rfl
  | cons x a ih =>
    have : zs (x :: a) = (x : Int) :: zs a := rfl
    rw [this, List.sum_cons, List.sum_cons, ih]; simp
theorem zs_part {a : List Nat} (h : Pn a) : IsPart (zs a) := by
  refine ⟨fun i hi => ?_, fun i hi h1 => ?_⟩
  · rw [zs_length] at hi
    rw [zs_getD, at0_get hi]
    have := h.pos _ (List.getElem_mem hi)
    omega
  · rw [zs_getD, zs_getD]
    have := at0_down h.down (show i - 1 ≤ i by omega)
    omega
/-- A partition that came in, in natural numbers. -/
theorem part_nat {p : List Int} (h : IsPart p) : ∃ a, p = zs a ∧ Pn a := by
  refine ⟨p.map Int.toNat, ?_, ?_, ?_⟩
  · unfold zs
    rw [List.map_map]
    have : ∀ x ∈ p, ((fun x : Nat => (x : Int)) ∘ Int.toNat) x = x := fun x hx => by
      have := h.mem x hx
      simp; omega
    rw [List.map_congr_left this]; simp
  · rw [List.pairwise_map, List.pairwise_iff_getElem]
    intro i j hi hj hij
    have key : ∀ d, ∀ i, i + d < p.length → p.getD (i + d) 0 ≤ p.getD i 0 := by
      intro d
      induction d with
      | zero => intro i _; exact Int.le_refl _
      | succ d ih =>
        intro i hd
        have h1 := ih i (by omega)
        have h2 := h.2 (i + (d + 1)) hd (by omega)
        rw [show i + (d + 1) - 1 = i + d by omega] at h2
        omega
    have := key (j - i) i (by omega)
    rw [show i + (j - i) = j by omega, getD_get hj, getD_get hi] at this
    show p[j].toNat ≤ p[i].toNat
    omega
  · intro x hx
    obtain ⟨y, hy, rfl⟩ := List.mem_map.1 hx
    have := h.mem y hy
    omega

def WOut (e : Ending) (a c : List Nat) (w w' : World) : Prop := e = .returned (.bool (decide (within a c))) ∧ w = w'
set_option maxHeartbeats 800000 in
theorem within_any (A C : Option Addr) (ca cc : Nat) (a c : List Nat) (w : World) (hla : a.length ≤ 1000) (hlc : c.length ≤ 1000) (h : Sl w w.heap.size A (ints (zs a))) (h' : Sl w w.heap.size C (ints (zs c))) :
    Calls Tryd.prog 22 #[.slice A a.length ca, .slice C c.length cc] w fun e w' => WOut e a c w w' := by
  by_cases hl : c.length < a.length
  · have d : decide ((c.length : Int) < (a.length : Int)) = true := decide_eq_true (by omega)
    have hf : Hid (decide (within a c) = false) := Lib.hid (decide_eq_false (fun x => by have := x.1; omega))
    go_enter Tryd.func22, Tryd.ntmps22
    go_wp2
    go_ret
    exact ⟨by rw [hf.out]; rfl, rfl⟩
  · have d : decide ((c.length : Int) < (a.length : Int)) = false := decide_eq_false (by omega)
    go_enter Tryd.func22, Tryd.ntmps22
    go_wp2
    go_loopw [5, 6, 14] (fun _ _ iv wr => ∃ i : Nat, i ≤ a.length ∧ iv = .int .i64 i ∧ (∀ r, r < i → at0 a r ≤ at0 c r) ∧ w = wr) (fun _ _ iv _ => a.length - (intOf iv).toNat)
    case atStart => exact ⟨0, Nat.zero_le _, rfl, by omega, rfl⟩
    case round =>
      obtain ⟨i, hi, rfl, hle, rfl⟩ := hrel
      have HLE := Lib.hid hle
      clear hle
      by_cases hia : i < a.length
      · have di : decide ((i : Int) < (a.length : Int)) = true := decide_eq_true (by omega)
        obtain ⟨b, o, rfl, hb⟩ := h.addr (by rw [zs_length]; omega)
        obtain ⟨b', o', rfl, hb'⟩ := h'.addr (by rw [zs_length]; omega)
        have ha := getD_cell h (k := i) (by rw [zs_length]; omega)
        have hc := getD_cell h' (k := i) (by rw [zs_length]; omega)
        rw [zs_getD] at ha hc
        have hic : i < c.length := by omega
        obtain ⟨x, hx⟩ : ∃ x, x = at0 a i := ⟨_, rfl⟩
        obtain ⟨y, hy⟩ : ∃ x, x = at0 c i := ⟨_, rfl⟩
        rw [← hx] at ha
        rw [← hy] at hc
        have HX := Lib.hid hx
        have HY := Lib.hid hy
        clear hx hy
        by_cases hxy : y < x
        · have dx : decide ((y : Int) < (x : Int)) = true := decide_eq_true (by omega)
          have hf : Hid (decide (within a c) = false) := Lib.hid (decide_eq_false (fun z => by have := z.2 i hia; have := HX.out; have := HY.out; omega))
          go_wp2
          go_ret
          exact ⟨by rw [hf.out]; rfl, rfl⟩
        · have dx : decide ((y : Int) < (x : Int)) = false := decide_eq_false (by omega)
          go_wp2
          go_roundw
          case rel =>
            refine ⟨i + 1, by omega, by go_num, fun r hr => ?_, trivial⟩
            by_cases e : r = i
            · subst e; have := HX.out; have := HY.out; omega
            · exact HLE.out r (by omega)
          case measure => simp [intOf]; omega
      · have di : decide ((i : Int) < (a.length : Int)) = false := decide_eq_false (by omega)
        have hf : Hid (decide (within a c) = true) := Lib.hid (decide_eq_true ⟨by omega, fun r hr => HLE.out r (by omega)⟩)
        go_wp2
        go_ret
        exact ⟨by rw [hf.out]; rfl, rfl⟩
end Go.Proofs.YtidnpmkdajicjaaDoor
