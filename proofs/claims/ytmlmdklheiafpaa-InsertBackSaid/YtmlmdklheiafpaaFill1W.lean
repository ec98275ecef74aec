/-
  slices.Index and slices.Equal of ints; fill.Shape.
-/
import Derived.Test.YtmlmdklheiafpaaTabl5W
import Derived.Test.YtmlmdklheiafpaaPlacY
import Derived.Deep.QuietTactic
import Derived.BigQuiet
namespace Go.Proofs.Ytmlmdklheiafpaa
open Go.RowKit

/-- What slices.Index answers. -/
def IdxOut (r : List Int) (x z : Int) : Prop := (∃ j : Nat, z = j ∧ r[j]? = some x) ∨ (z = -1 ∧ x ∉ r)
set_option maxRecDepth 100000 in
theorem index_any {B : Nat} (A : Option Addr) (cap : Nat) (r : List Int) (x : Int) (w : World) (hl : r.length ≤ 9223372036854775807) (h : Sl w B A (ints r)) :
    Calls Try.prog 79 #[.slice A r.length cap, .int .i64 x] w fun e w' => (∃ z : Int, e = .returned (.int .i64 z) ∧ IdxOut r x z) ∧ w = w' := by
  go_enter Try.func79, Try.ntmps79
  go_wp2
  go_loop [8] (fun nv => ∃ (n : Nat), n ≤ r.length ∧ nv = .int .i64 n ∧ x ∉ r.take n) (fun nv => r.length - (intOf nv).toNat)
  case atStart => exact ⟨0, Nat.zero_le _, rfl, by simp⟩
  case round =>
    obtain ⟨n, hn, rfl, hz⟩ := hrel
    have HZ := Lib.hid hz
    clear hz
    by_cases hlt : n < r.length
    · have dn : decide (n < r.length) = true := decide_eq_true hlt
      obtain ⟨b, o, rfl, hb⟩ := h.addr (by omega)
      have hc := getD_cell h (k := n) hlt
      have hg := getD_some (l := r) (j := n) hlt
      obtain ⟨y, hy⟩ : ∃ y, y = r.getD n 0 := ⟨_, rfl⟩
      rw [← hy] at hc hg
      have HG := Lib.hid hg
      clear hy hg
      by_cases h0 : x = y
      · have hfin : Hid (IdxOut r x n) := .inl ⟨n, rfl, by rw [h0]; exact HG.out⟩
        have dx : decide (x = y) = true := decide_eq_true h0
        subst h0
        go_wp2
        go_ret
        exact ⟨⟨_, rfl, hfin.out⟩, rfl⟩
      · have dx : (x == y) = false := by simpa using h0
        have hnx : Hid (x ∉ r.take (n + 1)) := fun hm => by
          obtain ⟨hn1, e1⟩ := List.getElem?_eq_some_iff.1 HG.out
          rw [List.take_succ_eq_append_getElem hn1, List.mem_append] at hm
          rcases hm with e | e
          · exact HZ.out e
          · simp at e; rw [e1] at e; exact h0 e
        go_wp2
        go_round
        case rel => exact ⟨n + 1, by omega, by go_num, hnx.out⟩
        case measure => simp [intOf]; omega
    · have dn : decide (n < r.length) = false := decide_eq_false hlt
      have hfin : Hid (IdxOut r x (-1)) := .inr ⟨rfl, by have := HZ.out; rwa [List.take_of_length_le (by omega)] at this⟩
      go_wp2
      go_ret
      exact ⟨⟨_, rfl, hfin.out⟩, rfl⟩

set_option maxRecDepth 100000 in
theorem equal_any (A C : Option Addr) (cap cap2 : Nat) (r s : List Int) (w : World) (hl : r.length ≤ 9223372036854775807) (_hl2 : s.length ≤ 9223372036854775807) (h : Sl w w.heap.size A (ints r)) (h2 : Sl w w.heap.size C (ints s)) :
    Calls Try.prog 71 #[.slice A r.length cap, .slice C s.length cap2] w fun e w' => e = .returned (.bool (decide (r = s))) ∧ Below w.heap.size w w' := by
  go_enter Try.func71, Try.ntmps71
  by_cases hln : r.length = s.length
  · have dl : decide ((r.length : Int) = (s.length : Int)) = true := decide_eq_true (by omega)
    have hLN := Lib.hid hln
    go_wp2
    go_loopw [13] (fun nv wr => ∃ (n : Nat), n ≤ r.length ∧ nv = .int .i64 n ∧ r.take n = s.take n ∧ Below w.heap.size w wr) (fun nv _ => r.length - (intOf nv).toNat)
    case atStart => exact ⟨0, Nat.zero_le _, rfl, by simp, Below.refl _ _⟩
    case round =>
      obtain ⟨n, hn, rfl, hz, hW⟩ := hrel
      have HZ := Lib.hid hz
      clear hz
      by_cases hlt : n < r.length
      · have dn : decide (n < r.length) = true := decide_eq_true hlt
        have hlt2 : n < s.length := by omega
        have hA := h.below hW
        have hC := h2.below hW
        obtain ⟨b, o, rfl, hb⟩ := h.addr (by omega)
        obtain ⟨b2, o2, rfl, hb2⟩ := h2.addr (by omega)
        have hc := getD_cell hA (k := n) hlt
        have hc2 := getD_cell hC (k := n) hlt2
        have hg := getD_some (l := r) (j := n) hlt
        have hg2 := getD_some (l := s) (j := n) hlt2
        obtain ⟨x, hx⟩ : ∃ x, x = r.getD n 0 := ⟨_, rfl⟩
        obtain ⟨y, hy⟩ : ∃ y, y = s.getD n 0 := ⟨_, rfl⟩
        rw [← hx] at hc hg
        rw [← hy] at hc2 hg2
        have HG := Lib.hid hg
        have HG2 := Lib.hid hg2
        clear hx hy hg hg2 hA hC
        by_cases h0 : x = y
        · subst h0
          have hnx : Hid (r.take (n + 1) = s.take (n + 1)) := by
            show _ = _
            obtain ⟨a1, a2⟩ := List.getElem?_eq_some_iff.1 HG.out
            obtain ⟨a3, a4⟩ := List.getElem?_eq_some_iff.1 HG2.out
            rw [List.take_succ_eq_append_getElem a1, List.take_succ_eq_append_getElem a3, HZ.out, a2, a4]
          go_wp2
          go_quiet (fail)
          go_wp2
          go_roundw
          case rel => exact ⟨n + 1, by omega, by go_num, hnx.out, below_drewN hW _⟩
          case measure => simp [intOf]; omega
        · have dx : (x == y) = false := by simpa using h0
          have hfin : Hid (decide (r = s) = false) := decide_eq_false (fun e => by
            have h5 := HG.out
            rw [e, HG2.out] at h5
            injection h5 with h6
            exact h0 h6.symm)
          go_wp2
          go_quiet (fail)
          go_wp2
          go_ret
          exact ⟨by rw [hfin.out]; rfl, below_drewN hW _⟩
      · have dn : decide (n < r.length) = false := decide_eq_false hlt
        have hfin : Hid (decide (r = s) = true) := decide_eq_true (by
          have := HZ.out
          rwa [List.take_of_length_le (by omega), List.take_of_length_le (by have := hLN.out; omega)] at this)
        go_wp2
        go_ret
        exact ⟨by rw [hfin.out]; rfl, hW⟩
  · have dl : ((r.length : Int) == (s.length : Int)) = false := by simp; omega
    have hfin : Hid (decide (r = s) = false) := decide_eq_false (fun e => hln (by rw [e]))
    go_wp2
    go_ret
    exact ⟨by rw [hfin.out]; rfl, Below.refl _ _⟩

/-- A row's lengths. -/
def lensOf (T : List (List Int)) : List Int := T.map (fun r => (r.length : Int))
/-- What fill.Shape answers. -/
def ShapeOut (e : Ending) (w : World) (T : List (List Int)) : Prop :=
  ∃ (k : Int) (A : Option Addr) (c : Nat) (xs : List Int), e = .returned (.tuple #[.slice A xs.length c, .int .i64 k]) ∧ Sl w w.heap.size A (ints xs) ∧ (k = 0 → FillOk T ∧ xs = lensOf T) ∧ (FillOk T → k = 0)
set_option maxRecDepth 100000 in
theorem shape_any (A : Option Addr) (cap : Nat) (T : List (List Int)) (w : World) (hT : T.length ≤ 9223372036854775807) (h : SR w w.heap.size A T) :
    Calls Try.prog 78 #[.slice A T.length cap] w fun e w' => ShapeOut e w' T ∧ Below w.heap.size w w' := by
  go_enter Try.func78, Try.ntmps78
  go_wp2_with (first | (go_at_call 63; refine (fcheck_any A cap T _ hT h).mono ?_) | fail)
  rintro e w1 ⟨⟨k, rfl, hk1, hk2⟩, rfl⟩
  by_cases hk0 : k = 0
  · have hok := hk1 hk0
    have hT4 := hok.small.1
    have hT5 := hok.small.2
    have HOK := Lib.hid hok
    have HT5 := Lib.hid hT5
    subst hk0
    clear hk1 hk2 hok hT5
    go_wp2
    go_loopw [5, 15] (fun ov iv wr => ∃ (i : Nat) (l : List Int), i ≤ T.length ∧ iv = .int .i64 i ∧ l = lensOf (T.take i) ∧ wr.ownsRow w.heap.size 3 1 ov i (ints l) ∧ Below w.heap.size w wr) (fun _ iv _ => T.length - (intOf iv).toNat)
    case atStart => exact ⟨0, [], Nat.zero_le _, rfl, rfl, World.ownsRow_nil _ _ _ _, Below.refl _ _⟩
    case round =>
      obtain ⟨i, l, hi, rfl, hl, ho, hW⟩ := hrel
      have hsz := hW.size
      have HL := Lib.hid hl
      have HO := Lib.hid ho
      clear hl ho
      by_cases hit : i < T.length
      · have di : decide (i < T.length) = true := decide_eq_true hit
        have h2 := h.below hW
        obtain ⟨b, o, rfl, hb⟩ := h.addr (by omega)
        obtain ⟨Ar, cr, hcl, hr, hrl⟩ := h2.at_ hit
        have hr40 := HT5.out i
        have hnx : Hid (l ++ [((T.getD i []).length : Int)] = lensOf (T.take (i + 1))) := by
          show _ = _
          rw [HL.out]
          unfold lensOf
          rw [List.take_succ_eq_append_getElem hit, List.map_append, getD_get hit]; rfl
        obtain ⟨q, hq⟩ : ∃ q, q = (T.getD i []).length := ⟨_, rfl⟩
        rw [← hq] at hcl hr40 hnx
        clear hr hrl hq h2
        go_wp2_with (first | (at_builtin; refine wpList_app1 rfl (.tmp 19) (.tmp 22) rfl rfl (q : Int) HO.out rfl (by omega) hsz (fun g2 c2 w6 hl6 hb6 => ?_)) | fail)
        go_roundw
        case rel => exact ⟨i + 1, _, by omega, by go_num, hnx.out, hl6, hW.trans hb6⟩
        case measure => simp [intOf]; omega
      · have di : decide (i < T.length) = false := decide_eq_false hit
        have hfin : Hid (l = lensOf T) := by show _ = _; rw [HL.out, List.take_of_length_le (by omega)]
        obtain ⟨A6, c6, e6, hn6, hsl, _, _⟩ := own_sliceA HO.out
        have HSL := Lib.hid hsl
        subst e6
        clear hsl
        go_wp2
        go_ret2
        exact ⟨⟨0, A6, c6, l, rfl, HSL.out, fun _ => ⟨HOK.out, hfin.out⟩, fun _ => rfl⟩, hW⟩
  · have dk : (k != 0) = true := by simpa using hk0
    have hno : Hid (¬ FillOk T) := fun hh => hk0 (hk2 hh)
    have HK0 := Lib.hid hk0
    clear hk1 hk2
    go_wp2
    go_ret2
    exact ⟨⟨k, none, 0, [], rfl, Sl.nil _ _ _, fun e => absurd e HK0.out, fun e => absurd e hno.out⟩, Below.refl _ _⟩
end Go.Proofs.Ytmlmdklheiafpaa
