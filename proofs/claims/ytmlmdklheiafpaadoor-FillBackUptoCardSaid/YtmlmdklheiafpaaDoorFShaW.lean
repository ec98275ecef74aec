/-
  fill.Shape.
-/
import Derived.Test.YtmlmdklheiafpaaDoorFChkW
import Derived.Deep.QuietTactic
import Derived.BigQuiet
namespace Go.Proofs.YtmlmdklheiafpaaDoor
open Go.RowKit

/-- A row's lengths. -/
def lensOf (T : List (List Int)) : List Int := T.map (fun r => (r.length : Int))
/-- What fill.Shape answers. -/
def ShapeOut (e : Ending) (w : World) (T : List (List Int)) : Prop :=
  ∃ (k : Int) (A : Option Addr) (c : Nat) (xs : List Int), e = .returned (.tuple #[.slice A xs.length c, .int .i64 k]) ∧ Sl w w.heap.size A (ints xs) ∧ (k = 0 → FillOk T ∧ xs = lensOf T) ∧ (FillOk T → k = 0)
set_option maxRecDepth 100000 in
theorem shape_any (A : Option Addr) (cap : Nat) (T : List (List Int)) (w : World) (hT : T.length ≤ 9223372036854775807) (h : SR w w.heap.size A T) :
    Calls Tryd.prog 8 #[.slice A T.length cap] w fun e w' => ShapeOut e w' T ∧ Below w.heap.size w w' := by
  go_enter Tryd.func8, Tryd.ntmps8
  go_wp2_with (first | (go_at_call 12; refine (fcheck_any A cap T _ hT h).mono ?_) | fail)
  rintro e w1 ⟨⟨k, rfl, hk1, hk2⟩, rfl⟩
  by_cases hk0 : k = 0
  · have hok := hk1 hk0
    have hT4 := hok.small.1
    have hT5 := hok.small.2
    have HOK := Lib.hid hok
    have HT5 := Lib.hid hT5
    subst hk0
    clear hk1 hk2 hok hT5
    go_wp2
    go_loopw [5, 15] (fun ov iv wr => ∃ (i : Nat) (l : List Int), i ≤ T.length ∧ iv = .int .i64 i ∧ l = lensOf (T.take i) ∧ wr.ownsRow w.heap.size 3 1 ov i (ints l) ∧ Below w.heap.size w wr) (fun _ iv _ => T.length - (intOf iv).toNat)
    case atStart => exact ⟨0, [], Nat.zero_le _, rfl, rfl, World.ownsRow_nil _ _ _ _, Below.refl _ _⟩
    case round =>
      obtain ⟨i, l, hi, rfl, hl, ho, hW⟩ := hrel
      have hsz := hW.size
      have HL := Lib.hid hl
      have HO := Lib.hid ho
      clear hl ho
      by_cases hit : i < T.length
      · have di : decide (i < T.length) = true := decide_eq_true hit
        have h2 := h.below hW
        obtain ⟨b, o, rfl, hb⟩ := h.addr (by omega)
        obtain ⟨Ar, cr, hcl, hr, hrl⟩ := h2.at_ hit
        have hr40 := HT5.out i
        have hnx : Hid (l ++ [((T.getD i []).length : Int)] = lensOf (T.take (i + 1))) := by
          show _ = _
          rw [HL.out]
          unfold lensOf
          rw [List.take_succ_eq_append_getElem hit, List.map_append, getD_get hit]; rfl
        obtain ⟨q, hq⟩ : ∃ q, q = (T.getD i []).length := ⟨_, rfl⟩
        rw [← hq] at hcl hr40 hnx
        clear hr hrl hq h2
        go_wp2_with (first | (at_builtin; refine wpList_app1 rfl (.tmp 19) (.tmp 22) rfl rfl (q : Int) HO.out rfl (by omega) hsz (fun g2 c2 w6 hl6 hb6 => ?_)) | fail)
        go_roundw
        case rel => exact ⟨i + 1, _, by omega, by go_num, hnx.out, hl6, hW.trans hb6⟩
        case measure => simp [intOf]; omega
      · have di : decide (i < T.length) = false := decide_eq_false hit
        have hfin : Hid (l = lensOf T) := by show _ = _; rw [HL.out, List.take_of_length_le (by omega)]
        obtain ⟨A6, c6, e6, hn6, hsl, _, _⟩ := own_sliceA HO.out
        have HSL := Lib.hid hsl
        subst e6
        clear hsl
        go_wp2
        go_ret2
        exact ⟨⟨0, A6, c6, l, rfl, HSL.out, fun _ => ⟨HOK.out, hfin.out⟩, fun _ => rfl⟩, hW⟩
  · have dk : (k != 0) = true := by simpa using hk0
    have hno : Hid (¬ FillOk T) := fun hh => hk0 (hk2 hh)
    have HK0 := Lib.hid hk0
    clear hk1 hk2
    go_wp2
    go_ret2
    exact ⟨⟨k, none, 0, [], rfl, Sl.nil _ _ _, fun e => absurd e HK0.out, fun e => absurd e hno.out⟩, Below.refl _ _⟩
end Go.Proofs.YtmlmdklheiafpaaDoor
