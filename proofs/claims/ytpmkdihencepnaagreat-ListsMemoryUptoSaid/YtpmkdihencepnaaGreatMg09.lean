/-
  Plain lists: partitions; Franklin's: there and back.
-/
import Derived.Test.YtpmkdihencepnaaGreatMg01
import Derived.Test.YtpmkdihencepnaaGreatMg08
namespace Go.Proofs.YtpmkdihencepnaaGreat

/-- A partition, but for its size. -/
def IsPart (p : List Int) : Prop := (∀ i, i < p.length → 1 ≤ p.getD i 0) ∧ ∀ i, i < p.length → 1 ≤ i → p.getD i 0 ≤ p.getD (i - 1) 0
instance (p : List Int) : Decidable (IsPart p) := by unfold IsPart; infer_instance
/-- No part twice. -/
def IsUnlike (p : List Int) : Prop := ∀ i, i < p.length → 1 ≤ i → p.getD i 0 ≠ p.getD (i - 1) 0
instance (p : List Int) : Decidable (IsUnlike p) := by unfold IsUnlike; infer_instance
def partChk (p : List Int) : Int := if IsPart p then (if p.sum ≤ 40 then 0 else 2) else 1
theorem partChk_zero {p : List Int} : partChk p = 0 ↔ IsPart p ∧ p.sum ≤ 40 := by
  unfold partChk
  by_cases h1 : IsPart p
  · by_cases h2 : p.sum ≤ 40 <;> simp [h1, h2]
  · simp [h1]

theorem ext_getD {a b : List Int} (hl : a.length = b.length) (h : ∀ i, i < a.length → a.getD i 0 = b.getD i 0) : a = b := by
  apply List.ext_getElem hl
  intro i h1 h2
  have := h i h1
  rwa [getD_get h1, getD_get h2] at this

theorem take_getD {p : List Int} {m i : Nat} (h : i < m) : (p.take m).getD i 0 = p.getD i 0 := by
  simp only [List.getD_eq_getElem?_getD, List.getElem?_take, if_pos h]
theorem snoc_getD_low {p : List Int} {x : Int} {i : Nat} (h : i < p.length) : (p ++ [x]).getD i 0 = p.getD i 0 := by
  rw [getD_get (by simp; omega), getD_get h, List.getElem_append_left h]
theorem snoc_getD_end {p : List Int} {x : Int} : (p ++ [x]).getD p.length 0 = x := by
  rw [getD_get (by simp)]; simp

/-- The first m, each with d more. -/
def addK (xs : List Int) (m : Nat) (d : Int) : List Int := (xs.take m).map (· + d) ++ xs.drop m
theorem addK_length (xs : List Int) (m : Nat) (d : Int) : (addK xs m d).length = xs.length := by simp [addK]; omega
theorem addK_getD {xs : List Int} {m : Nat} {d : Int} {i : Nat} (h : i < xs.length) : (addK xs m d).getD i 0 = xs.getD i 0 + if i < m then d else 0 := by
  unfold addK
  rw [getD_get (by simp; omega), getD_get h]
  by_cases hm : i < m
  · rw [if_pos hm, List.getElem_append_left (by simp; omega)]; simp
  · rw [if_neg hm, List.getElem_append_right (by simp; omega), List.getElem_drop]
    simp only [List.length_map, List.length_take, Int.add_zero]
    congr 1
    omega
theorem sum_map_add (xs : List Int) (d : Int) : (xs.map (· + d)).sum = xs.sum + xs.length * d := by
  induction xs with
  | nil => simp
  | cons x xs ih =>
    simp only [List.map_cons, List.sum_cons, List.length_cons, ih]
    rw [Int.natCast_add, Int.add_mul]
    simp; omega
theorem addK_sum {xs : List Int} {m : Nat} {d : Int} (h : m ≤ xs.length) : (addK xs m d).sum = xs.sum + m * d := by
  unfold addK
  rw [List.sum_append, sum_map_add, List.length_take, Nat.min_eq_left h]
  have : xs.sum = (xs.take m).sum + (xs.drop m).sum := by rw [← List.sum_append, List.take_append_drop]
  omega

theorem IsPart.mono {p : List Int} (h : IsPart p) : ∀ j, j < p.length → ∀ i, i ≤ j → p.getD j 0 ≤ p.getD i 0 := by
  intro j
  induction j with
  | zero => intro _ i hi; rw [show i = 0 by omega]; exact Int.le_refl _
  | succ j ih =>
    intro hj i hi
    by_cases e : i = j + 1
    · rw [e]; exact Int.le_refl _
    · have h1 := h.2 (j + 1) hj (by omega)
      have h2 := ih (by omega) i (by omega)
      simp only [Nat.add_sub_cancel] at h1
      omega
theorem strict_at {p : List Int} (h : IsPart p) (hu : IsUnlike p) {i : Nat} (hi : i < p.length) (h1 : 1 ≤ i) : p.getD i 0 < p.getD (i - 1) 0 := by
  have := h.2 i hi h1
  have := hu i hi h1
  omega

theorem len_le_sum : ∀ (p : List Int), (∀ x ∈ p, 1 ≤ x) → (p.length : Int) ≤ p.sum
  | [], _ => by simp
  | x :: p, h => by
    have h1 := len_le_sum p (fun y hy => h y (List.mem_cons_of_mem _ hy))
    have h2 := h x (by simp)
    simp only [List.length_cons, List.sum_cons]
    omega
theorem IsPart.mem {p : List Int} (h : IsPart p) : ∀ x ∈ p, 1 ≤ x := fun x hx => by
  obtain ⟨i, hi, rfl⟩ := List.getElem_of_mem hx
  have := h.1 i hi
  rwa [getD_get hi] at this
theorem IsPart.len {p : List Int} (h : IsPart p) (hs : p.sum ≤ 40) : p.length ≤ 40 := by
  have := len_le_sum p h.mem
  omega

/-- The run at the head: k parts one after the other. -/
def IsRun (p : List Int) (k : Nat) : Prop :=
  1 ≤ k ∧ k ≤ p.length ∧ (∀ j, 1 ≤ j → j < k → p.getD j 0 = p.getD (j - 1) 0 - 1) ∧ (k = p.length ∨ p.getD k 0 ≠ p.getD (k - 1) 0 - 1)
theorem IsRun.uniq {p : List Int} {k k' : Nat} (h : IsRun p k) (h' : IsRun p k') : k = k' := by
  obtain ⟨a1, a2, a3, a4⟩ := h
  obtain ⟨b1, b2, b3, b4⟩ := h'
  rcases Nat.lt_trichotomy k k' with e | e | e
  · rcases a4 with a4 | a4
    · omega
    · exact absurd (b3 k a1 e) a4
  · exact e
  · rcases b4 with b4 | b4
    · omega
    · exact absurd (a3 k' b1 e) b4

def CaseA (p : List Int) (k : Nat) : Prop := p.getD (p.length - 1) 0 ≤ k ∧ ¬ (k = p.length ∧ p.getD (p.length - 1) 0 = p.length)
def CaseB (p : List Int) (k : Nat) : Prop := (k : Int) < p.getD (p.length - 1) 0 ∧ ¬ (k = p.length ∧ p.getD (p.length - 1) 0 = p.length + 1)
def upA (p : List Int) : List Int := addK (p.take (p.length - 1)) (p.getD (p.length - 1) 0).toNat 1
def upB (p : List Int) (k : Nat) : List Int := addK p k (-1) ++ [(k : Int)]

structure Good (p : List Int) : Prop where
  part : IsPart p
  unlike : IsUnlike p
  sum : p.sum ≤ 40

theorem take_last {p : List Int} (h : 0 < p.length) : p = p.take (p.length - 1) ++ [p.getD (p.length - 1) 0] := by
  have := take_snoc (show p.length - 1 < p.length by omega)
  rw [show p.length - 1 + 1 = p.length by omega, List.take_length] at this
  rw [getD_get (by omega)]
  exact this

theorem caseA {p : List Int} {k : Nat} (h : Good p) (hr : IsRun p k) (hA : CaseA p k) :
    Good (upA p) ∧ 0 < (upA p).length ∧ (upA p).length + 1 = p.length ∧ (upA p).sum = p.sum ∧ (p.getD (p.length - 1) 0).toNat ≤ p.length - 1 ∧ IsRun (upA p) (p.getD (p.length - 1) 0).toNat ∧ CaseB (upA p) (p.getD (p.length - 1) 0).toNat ∧
      upB (upA p) (p.getD (p.length - 1) 0).toNat = p := by
  obtain ⟨r1, r2, r3, r4⟩ := hr
  obtain ⟨hA1, hA2⟩ := hA
  have hlp := h.part.1 (p.length - 1) (by omega)
  have htl := take_last (p := p) (by omega)
  have hst := fun i hi h1 => strict_at h.part h.unlike (i := i) hi h1
  obtain ⟨L, hL⟩ : ∃ L : Nat, p.getD (p.length - 1) 0 = L := ⟨(p.getD (p.length - 1) 0).toNat, by omega⟩
  have hn2 : 2 ≤ p.length := by
    by_cases e : p.length = 1
    · exact absurd ⟨by omega, by omega⟩ hA2
    · omega
  have hLn : L ≤ p.length - 1 := by
    by_cases e : L = p.length
    · exact absurd ⟨by omega, by omega⟩ hA2
    · omega
  unfold upA CaseB upB
  rw [hL, Int.toNat_natCast]
  have hlen : (addK (p.take (p.length - 1)) L 1).length = p.length - 1 := by rw [addK_length]; simp
  have hq : ∀ i, i < p.length - 1 → (addK (p.take (p.length - 1)) L 1).getD i 0 = p.getD i 0 + if i < L then 1 else 0 := fun i hi => by
    rw [addK_getD (by simp; omega), take_getD hi]
  have hsum : (addK (p.take (p.length - 1)) L 1).sum = p.sum := by
    rw [addK_sum (by simp; omega)]
    conv => rhs; rw [htl, hL]
    simp
  generalize addK (p.take (p.length - 1)) L 1 = q at *
  have hqs : ∀ i, i < q.length → 1 ≤ i → q.getD i 0 < q.getD (i - 1) 0 := fun i hi h1 => by
    rw [hq i (by omega), hq (i - 1) (by omega)]
    have := hst i (by omega) h1
    split <;> split <;> omega
  refine ⟨⟨⟨fun i hi => ?_, fun i hi h1 => ?_⟩, fun i hi h1 => ?_, by rw [hsum]; exact h.sum⟩, by omega, by omega, hsum, hLn, ⟨by omega, by omega, fun j h1 h2 => ?_, ?_⟩, ⟨?_, ?_⟩, ?_⟩
  · rw [hq i (by omega)]
    have := h.part.1 i (by omega)
    split <;> omega
  · have := hqs i hi h1; omega
  · have := hqs i hi h1; omega
  · rw [hq j (by omega), hq (j - 1) (by omega), if_pos h2, if_pos (by omega), r3 j h1 (by omega)]
    omega
  · by_cases e : L = q.length
    · exact .inl e
    · right
      rw [hq L (by omega), hq (L - 1) (by omega), if_neg (by omega), if_pos (by omega)]
      have := hst L (by omega) (by omega)
      omega
  · rw [hq (q.length - 1) (by omega)]
    have := hst (p.length - 1) (by omega) (by omega)
    rw [hlen]
    split <;> omega
  · rintro ⟨e1, e2⟩
    rw [hq (q.length - 1) (by omega), if_pos (by omega)] at e2
    have := hst (p.length - 1) (by omega) (by omega)
    rw [hlen] at e2
    omega
  · apply ext_getD
    · rw [List.length_append, addK_length]; simp; omega
    · intro i hi
      rw [List.length_append, addK_length, List.length_singleton] at hi
      by_cases e : i < q.length
      · rw [snoc_getD_low (by rw [addK_length]; exact e), addK_getD e, hq i (by omega)]
        split <;> omega
      · have : i = (addK q L (-1)).length := by rw [addK_length]; omega
        rw [this, snoc_getD_end, addK_length, hlen, hL]

theorem caseB {p : List Int} {k : Nat} (h : Good p) (hr : IsRun p k) (hB : CaseB p k) :
    Good (upB p k) ∧ (upB p k).length = p.length + 1 ∧ (upB p k).sum = p.sum ∧ (∀ k', IsRun (upB p k) k' → CaseA (upB p k) k') ∧ upA (upB p k) = p := by
  obtain ⟨r1, r2, r3, r4⟩ := hr
  obtain ⟨hB1, hB2⟩ := hB
  have hst := fun i hi h1 => strict_at h.part h.unlike (i := i) hi h1
  have hm := fun i hi => h.part.mono (p.length - 1) (by omega) i hi
  have hlen : (upB p k).length = p.length + 1 := by unfold upB; rw [List.length_append, addK_length]; rfl
  have hq : ∀ i, i < p.length → (upB p k).getD i 0 = p.getD i 0 + if i < k then -1 else 0 := fun i hi => by
    unfold upB
    rw [snoc_getD_low (by rw [addK_length]; exact hi), addK_getD hi]
  have hqn : (upB p k).getD p.length 0 = k := by
    unfold upB
    have : p.length = (addK p k (-1)).length := by rw [addK_length]
    conv => lhs; rw [this]
    rw [snoc_getD_end]
  have hsum : (upB p k).sum = p.sum := by
    unfold upB
    rw [List.sum_append, addK_sum r2]
    simp; omega
  have htk : (upB p k).take p.length = addK p k (-1) := by
    unfold upB
    rw [List.take_left' (addK_length _ _ _)]
  have hupA : upA (upB p k) = addK (addK p k (-1)) k 1 := by
    unfold upA
    rw [hlen, Nat.add_sub_cancel, htk, hqn, Int.toNat_natCast]
  rw [hupA]
  unfold CaseA
  rw [hlen, Nat.add_sub_cancel, hqn]
  generalize upB p k = q at *
  have hqs : ∀ i, i < q.length → 1 ≤ i → q.getD i 0 < q.getD (i - 1) 0 := fun i hi h1 => by
    by_cases e : i = p.length
    · subst e
      rw [hqn, hq (p.length - 1) (by omega)]
      split
      · have : k = p.length := by omega
        have : ¬ p.getD (p.length - 1) 0 = p.length + 1 := fun e => hB2 ⟨this, e⟩
        omega
      · omega
    · rw [hq i (by omega), hq (i - 1) (by omega)]
      have := hst i (by omega) h1
      by_cases e2 : i = k
      · subst e2
        rcases r4 with r4 | r4
        · omega
        · rw [if_neg (by omega), if_pos (by omega)]; omega
      · split <;> split <;> omega
  refine ⟨⟨⟨fun i hi => ?_, fun i hi h1 => ?_⟩, fun i hi h1 => ?_, by rw [hsum]; exact h.sum⟩, rfl, hsum, fun k' hk' => ⟨?_, ?_⟩, ?_⟩
  · by_cases e : i = p.length
    · subst e; rw [hqn]; omega
    · rw [hq i (by omega)]
      have := hm i (by omega)
      split <;> omega
  · have := hqs i hi h1; omega
  · have := hqs i hi h1; omega
  · obtain ⟨b1, b2, b3, b4⟩ := hk'
    by_cases e : k ≤ k'
    · omega
    · exfalso
      rcases b4 with b4 | b4
      · omega
      · refine b4 ?_
        rw [hq k' (by omega), hq (k' - 1) (by omega), if_pos (by omega), if_pos (by omega), r3 k' b1 (by omega)]
        omega
  · rintro ⟨e1, e2⟩
    omega
  · apply ext_getD
    · rw [addK_length, addK_length]
    · intro i hi
      rw [addK_length, addK_length] at hi
      rw [addK_getD (by rw [addK_length]; exact hi), addK_getD hi]
      split <;> omega

end Go.Proofs.YtpmkdihencepnaaGreat

/-
  parts.Check, parts.unlike: what they answer.
-/
namespace Go.Proofs.YtpmkdihencepnaaGreat
open Go.RowKit

theorem sum_nonneg {xs : List Int} (h : ∀ x ∈ xs, 1 ≤ x) : 0 ≤ xs.sum := by have := len_le_sum xs h; omega
theorem sumTo_le {p : List Int} (h : IsPart p) (k : Nat) : sumTo p k ≤ p.sum ∧ 0 ≤ sumTo p k := by
  have h1 : p.sum = (p.take k).sum + (p.drop k).sum := by rw [← List.sum_append, List.take_append_drop]
  have h2 := sum_nonneg (xs := p.drop k) (fun x hx => h.mem x (List.mem_of_mem_drop hx))
  have h3 := sum_nonneg (xs := p.take k) (fun x hx => h.mem x (List.mem_of_mem_take hx))
  unfold sumTo; omega
theorem sumTo_all (p : List Int) : sumTo p p.length = p.sum := by simp [sumTo]

set_option maxHeartbeats 1000000 in
theorem pcheck_any (A : Option Addr) (cap : Nat) (p : List Int) (w : World) (hcl : p.length ≤ 9223372036854775807) (h : Sl w w.heap.size A (ints p)) :
    Calls Tryz.prog 40 #[.slice A p.length cap] w fun e w' => e = .returned (.int .i64 (partChk p)) ∧ w = w' := by
  go_enter Tryz.func40, Tryz.ntmps40
  go_wp2
  go_loop [10] (fun iv => ∃ i : Nat, i ≤ p.length ∧ iv = .int .i64 i ∧ ∀ j, j < i → 1 ≤ p.getD j 0 ∧ (1 ≤ j → p.getD j 0 ≤ p.getD (j - 1) 0)) (fun iv => p.length - (intOf iv).toNat)
  case atStart => exact ⟨0, by omega, rfl, fun j hj => by omega⟩
  case round =>
    obtain ⟨i, hi, rfl, hok⟩ := hrel
    have HK := Lib.hid hok
    clear hok
    by_cases hlt : i < p.length
    · obtain ⟨b, o, rfl, hb⟩ := h.addr (by omega)
      have hcx := getD_cell h hlt
      have hcy := getD_cell h (show i - 1 < p.length by omega)
      have hnot : Hid (IsPart p → 1 ≤ p.getD i 0 ∧ (1 ≤ i → p.getD i 0 ≤ p.getD (i - 1) 0)) := fun hp => ⟨hp.1 i hlt, fun h1 => hp.2 i hlt h1⟩
      have hyes : Hid (1 ≤ p.getD i 0 ∧ (1 ≤ i → p.getD i 0 ≤ p.getD (i - 1) 0) → ∀ j, j < i + 1 → 1 ≤ p.getD j 0 ∧ (1 ≤ j → p.getD j 0 ≤ p.getD (j - 1) 0)) := fun h1 j hj => by
        by_cases e : j = i
        · subst e; exact h1
        · exact HK.out j (by omega)
      obtain ⟨x, hx⟩ : ∃ x, x = p.getD i 0 := ⟨_, rfl⟩
      obtain ⟨y, hy⟩ : ∃ x, x = p.getD (i - 1) 0 := ⟨_, rfl⟩
      rw [← hx] at hcx hnot hyes
      rw [← hy] at hcy hnot hyes
      clear hx hy
      by_cases h1 : x < 1
      · have hd1 : decide (x < 1) = true := by simpa using h1
        have hfin : Hid (partChk p = 1) := by show _ = _; unfold partChk; rw [if_neg (fun hp => by have := hnot.out hp; omega)]
        go_wp2
        go_ret
        exact ⟨by rw [hfin.out]; rfl, rfl⟩
      · have hd1 : decide (x < 1) = false := by simpa using h1
        by_cases h2 : 0 < i
        · have hd2 : decide ((0 : Int) < (i : Int)) = true := by simp; omega
          by_cases h3 : y < x
          · have hd3 : decide (y < x) = true := by simpa using h3
            have hfin : Hid (partChk p = 1) := by show _ = _; unfold partChk; rw [if_neg (fun hp => by have := hnot.out hp; omega)]
            go_wp2
            go_ret
            exact ⟨by rw [hfin.out]; rfl, rfl⟩
          · have hd3 : decide (y < x) = false := by simpa using h3
            go_wp2
            go_round
            case rel => exact ⟨i + 1, by omega, by go_num, hyes.out ⟨by omega, fun _ => by omega⟩⟩
            case measure => simp [intOf]; omega
        · have hd2 : decide ((0 : Int) < (i : Int)) = false := by simp; omega
          go_wp2
          go_round
          case rel => exact ⟨i + 1, by omega, by go_num, hyes.out ⟨by omega, fun _ => by omega⟩⟩
          case measure => simp [intOf]; omega
    · obtain rfl : i = p.length := by omega
      have HP : Hid (IsPart p) := ⟨fun j hj => (HK.out j hj).1, fun j hj h1 => (HK.out j hj).2 h1⟩
      clear hlt hi HK
      go_wp2
      go_loop [5, 33] (fun lv iv => ∃ i : Nat, i ≤ p.length ∧ iv = .int .i64 i ∧ lv = .int .i64 (40 - sumTo p i) ∧ sumTo p i ≤ 40) (fun _ iv => p.length - (intOf iv).toNat)
      case atStart => exact ⟨0, by omega, rfl, by simp [sumTo], by simp [sumTo]⟩
      case round =>
        obtain ⟨i, hi, rfl, rfl, hs40⟩ := hrel
        have hs0 := (sumTo_le HP.out i).2
        by_cases hlt : i < p.length
        · obtain ⟨b, o, rfl, hb⟩ := h.addr (by omega)
          have hcx := getD_cell h hlt
          have hss := sumTo_succ hlt
          rw [← getD_get (d := 0) hlt] at hss
          have hx1 := HP.out.1 i hlt
          have hle := (sumTo_le HP.out (i + 1)).1
          rw [hss] at hle
          obtain ⟨x, hx⟩ : ∃ x, x = p.getD i 0 := ⟨_, rfl⟩
          obtain ⟨s, hs⟩ : ∃ s, s = sumTo p i := ⟨_, rfl⟩
          rw [← hx] at hcx hss hx1 hle
          rw [← hs] at hs0 hs40 hss hle
          rw [← hs]
          have HSS := Lib.hid hss
          clear hx hs hss
          by_cases h1 : 40 - s < x
          · have hfin : Hid (partChk p = 2) := by show _ = _; unfold partChk; rw [if_pos HP.out, if_neg (by omega)]
            clear hle
            go_wp2
            go_ret
            exact ⟨by rw [hfin.out]; rfl, rfl⟩
          · clear hle
            go_wp2
            go_round
            case rel => exact ⟨i + 1, by omega, by go_num, by rw [HSS.out]; go_num, by rw [HSS.out]; omega⟩
            case measure => simp [intOf]; omega
        · obtain rfl : i = p.length := by omega
          have hfin : Hid (partChk p = 0) := partChk_zero.2 ⟨HP.out, by rw [← sumTo_all]; exact hs40⟩
          clear hs40 hs0
          go_wp2
          go_ret
          exact ⟨by rw [hfin.out]; rfl, rfl⟩

set_option maxHeartbeats 1000000 in
theorem unlike_any (A : Option Addr) (cap : Nat) (p : List Int) (w : World) (hcl : p.length ≤ 1000000) (h : Sl w w.heap.size A (ints p)) :
    Calls Tryz.prog 43 #[.slice A p.length cap] w fun e w' => e = .returned (.bool (decide (IsUnlike p))) ∧ Below w.heap.size w w' := by
  go_enter Tryz.func43, Tryz.ntmps43
  go_wp2
  go_loopw [3] (fun iv wr => ∃ i : Nat, 1 ≤ i ∧ i ≤ max 1 p.length ∧ iv = .int .i64 i ∧ (∀ j, j < i → 1 ≤ j → p.getD j 0 ≠ p.getD (j - 1) 0) ∧ ∃ n, wr = w.drewN n) (fun iv _ => p.length - (intOf iv).toNat)
  case atStart => exact ⟨1, by omega, by omega, by go_num, fun j hj h1 => by omega, 0, rfl⟩
  case round =>
    obtain ⟨i, h1, hi, rfl, hok, n, rfl⟩ := hrel
    have HK := Lib.hid hok
    clear hok
    by_cases hlt : i < p.length
    · obtain ⟨b, o, rfl, hb⟩ := h.addr (by omega)
      have hcx := getD_cell h hlt
      have hcy := getD_cell h (show i - 1 < p.length by omega)
      have hnot : Hid (IsUnlike p → p.getD i 0 ≠ p.getD (i - 1) 0) := fun hp => hp i hlt h1
      have hyes : Hid (p.getD i 0 ≠ p.getD (i - 1) 0 → ∀ j, j < i + 1 → 1 ≤ j → p.getD j 0 ≠ p.getD (j - 1) 0) := fun h1 j hj h2 => by
        by_cases e : j = i
        · subst e; exact h1
        · exact HK.out j (by omega) h2
      obtain ⟨x, hx⟩ : ∃ x, x = p.getD i 0 := ⟨_, rfl⟩
      obtain ⟨y, hy⟩ : ∃ x, x = p.getD (i - 1) 0 := ⟨_, rfl⟩
      rw [← hx] at hcx hnot hyes
      rw [← hy] at hcy hnot hyes
      clear hx hy
      by_cases hxy : x = y
      · have hfin : Hid (decide (IsUnlike p) = false) := by show _ = _; rw [decide_eq_false_iff_not]; exact fun hp => hnot.out hp hxy
        have hd : (x == y) = true := by simpa using hxy
        clear hnot hyes hxy
        go_wp2
        go_quiet (fail)
        go_wp2
        go_ret
        exact ⟨by rw [hfin.out]; rfl, below_drewN (below_drewN (Below.refl _ _) _) _⟩
      · have hd : (x == y) = false := by simpa using hxy
        have hy' := Lib.hid (hyes.out hxy)
        clear hnot hyes hxy
        go_wp2
        go_quiet (fail)
        go_wp2
        go_roundw
        case rel => exact ⟨i + 1, by omega, by omega, by go_num, hy'.out, _, rfl⟩
        case measure => simp [intOf]; omega
    · have hfin : Hid (decide (IsUnlike p) = true) := by show _ = _; rw [decide_eq_true_iff]; exact fun j hj h2 => HK.out j (by omega) h2
      go_wp2
      go_ret
      exact ⟨by rw [hfin.out]; rfl, below_drewN (Below.refl _ _) _⟩

end Go.Proofs.YtpmkdihencepnaaGreat
