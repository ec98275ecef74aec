/-
  slides.twin, slides.holes, slides.Check: what they answer (printed by wip/mkSl.py).
-/
import Derived.Test.YtmlmdklheiafpaaTabl1W
import Derived.Test.YtmlmdklheiafpaaPlacX
import Derived.Deep.QuietTactic
import Derived.BigQuiet
namespace Go.Proofs.Ytmlmdklheiafpaa
open Go.RowKit

set_option maxRecDepth 100000 in
theorem stwin_any (A : Option Addr) (cap : Nat) (T : List (List Int)) (w : World) (hT : T.length < 1000000) (hrl : ∀ i, (T.getD i []).length < 1000000) (h : SR w w.heap.size A T) :
    Calls Try.prog 75 #[.slice A T.length cap] w fun e w' => (∃ v hs, e = .returned v ∧ OwnM w' w.heap.size v hs T) ∧ Below w.heap.size w w' := by
  go_enter Try.func75, Try.ntmps75
  go_wp2
  go_loopw [3, 8] (fun ov iv wr => ∃ (i : Nat) (hs : List Value), i ≤ T.length ∧ iv = .int .i64 i ∧ OwnM wr w.heap.size ov hs (T.take i) ∧ Below w.heap.size w wr) (fun _ iv _ => T.length - (intOf iv).toNat)
  case atStart => exact ⟨0, [], Nat.zero_le _, rfl, OwnM.nil _ _, Below.refl _ _⟩
  case round =>
    obtain ⟨i, hs, hi, rfl, hm, hW⟩ := hrel
    have HM := Lib.hid hm
    have hsz := hW.size
    clear hm
    by_cases hlt : i < T.length
    · have di : decide (i < T.length) = true := decide_eq_true hlt
      obtain ⟨b, o, rfl, hb⟩ := h.addr (by omega)
      have h2 := h.below hW
      obtain ⟨Ar, cr, hc, hr, _⟩ := h2.at_ hlt
      have hrl2 := hrl i
      obtain ⟨r, hre⟩ : ∃ r, r = T.getD i [] := ⟨_, rfl⟩
      rw [← hre] at hc hr hrl2
      have HRE := Lib.hid hre
      clear hre h2
      go_wp2_with (first | (go_at_call 38; refine (clone_any Ar cr r _ hrl2 (hr.more hsz)).mono ?_) | fail)
      rintro e w4 ⟨v4, rfl, hv4, hb4⟩
      obtain ⟨A4, c4, rfl, _, _, hle, _⟩ := own_sliceA hv4
      have hu4 := hv4.mono hsz
      have hfar := HM.out.far_new (u := .slice A4 r.length c4) (fun k hk => by
        have := (hv4.lt k hk).1; exact this)
      have hm4 := HM.out.below hb4
      have hmo := hm4.out
      rw [List.length_take, Nat.min_eq_left (by omega)] at hmo
      have HM4 := Lib.hid hm4
      have HMO := Lib.hid hmo
      have HU4 := Lib.hid hu4
      have HF := Lib.hid hfar
      have hW4 := hW.trans (hb4.mono hsz)
      have hB9 := Lib.hid hW4.size
      clear hm4 hmo hu4 hfar hv4 hb4
      go_wp2_with (first | (at_builtin; refine wpList_push (v := u3) rfl (.tmp 12) (.tmp 15) rfl rfl (.slice A4 r.length c4) rfl HMO.out w4.heap.size rfl rfl (by omega) hB9.out (fun g2 c2 w5 hl5 hg5 hat5 => ?_)) | fail)
      have hpush := (HM4.out.alloc (.cells #[.slice A4 r.length c4] 22)).push (u := .slice A4 r.length c4) (l := r) (HU4.out.alloc _) HF.out.1 HF.out.2 (by rw [List.length_take, Nat.min_eq_left (by omega)]) hl5 hg5 (by simpa using hat5)
      have hts : T.take i ++ [r] = T.take (i + 1) := by rw [getD_take_succ hlt, HRE.out]
      rw [hts] at hpush
      have hW5 : Below w.heap.size w w5 := (hW4.alloc hB9.out _).grown hg5 (by have := hB9.out; simp; omega) (fun k hk => (HMO.out.lt k hk).1)
      have HPU := Lib.hid hpush
      clear hpush hl5 hg5 hat5 hts
      go_wp2
      go_roundw
      case rel => exact ⟨i + 1, _, by omega, by go_num, HPU.out, hW5⟩
      case measure => simp [intOf]; omega
    · have di : decide (i < T.length) = false := decide_eq_false hlt
      have hm := HM.out
      rw [List.take_of_length_le (by omega)] at hm
      have HM2 := Lib.hid hm
      clear hm
      go_wp2
      go_ret
      exact ⟨⟨_, _, rfl, HM2.out⟩, hW⟩


set_option maxRecDepth 100000 in
theorem holes_any {B : Nat} (A : Option Addr) (cap : Nat) (r : List Int) (w : World) (hl : r.length ≤ 9223372036854775807) (h : Sl w B A (ints r)) :
    Calls Try.prog 77 #[.slice A r.length cap] w fun e w' => e = .returned (.int .i64 (hol r)) ∧ w' = w := by
  go_enter Try.func77, Try.ntmps77
  go_wp2
  go_loop [3] (fun nv => ∃ (n : Nat), n ≤ r.length ∧ nv = .int .i64 n ∧ ∀ k, k < n → r[k]? = some 0) (fun nv => r.length - (intOf nv).toNat)
  case atStart => exact ⟨0, Nat.zero_le _, rfl, fun k hk => by omega⟩
  case round =>
    obtain ⟨n, hn, rfl, hz⟩ := hrel
    have HZ := Lib.hid hz
    clear hz
    by_cases hlt : n < r.length
    · have dn : decide (n < r.length) = true := decide_eq_true hlt
      obtain ⟨b, o, rfl, hb⟩ := h.addr (by simpa using (show 0 < r.length by omega))
      have hc := getD_cell h (k := n) hlt
      have hg := getD_some (l := r) (j := n) hlt
      obtain ⟨x, hx⟩ : ∃ x, x = r.getD n 0 := ⟨_, rfl⟩
      rw [← hx] at hc hg
      have HG := Lib.hid hg
      clear hx hg
      by_cases h0 : x = 0
      · subst h0
        go_wp2
        go_round
        case rel => exact ⟨n + 1, by omega, by go_num, fun k hk => by
          by_cases e : k = n
          · rw [e]; exact HG.out
          · exact HZ.out k (by omega)⟩
        case measure => simp [intOf]; omega
      · have dx : (x == 0) = false := by simpa using h0
        have hfin : Hid (hol r = n) := hol_at HZ.out (fun y hy => by rw [HG.out] at hy; cases hy; exact h0)
        go_wp2
        go_ret
        exact ⟨by rw [hfin.out]; rfl, rfl⟩
    · have dn : decide (n < r.length) = false := decide_eq_false hlt
      have hfin : Hid (hol r = n) := hol_at HZ.out (fun y hy => by rw [List.getElem?_eq_none (by omega)] at hy; cases hy)
      go_wp2
      go_ret
      exact ⟨by rw [hfin.out]; rfl, rfl⟩

end Go.Proofs.Ytmlmdklheiafpaa
