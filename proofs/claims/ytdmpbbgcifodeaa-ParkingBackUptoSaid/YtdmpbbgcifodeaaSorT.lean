/-
  parking.sorted.
-/
import Derived.Test.YtdmpbbgcifodeaaSorL
import Derived.Test.YtdmpbbgcifodeaaPTreW
namespace Go.Proofs.Ytdmpbbgcifodeaa
open Go.RowKit

def midS (m : List Edge) (i : Nat) : List Edge := (m.take i).map nrm ++ m.drop i
theorem midS_len (m : List Edge) {i : Nat} (hi : i ≤ m.length) : (midS m i).length = m.length := by simp [midS]; omega
theorem midS_get (m : List Edge) {i : Nat} (hi : i < m.length) : (midS m i).getD i (0, 0) = m.getD i (0, 0) := by
  unfold midS
  have hl : ((m.take i).map nrm).length = i := by simp; omega
  rw [List.getD_eq_getElem?_getD, List.getElem?_append_right (by omega), hl, Nat.sub_self, List.getElem?_drop, List.getD_eq_getElem?_getD]; rfl
theorem midS_set (m : List Edge) {i : Nat} (hi : i < m.length) : (midS m i).set i (nrm (m.getD i (0, 0))) = midS m (i + 1) := by
  unfold midS
  have hl : ((m.take i).map nrm).length = i := by simp; omega
  rw [List.set_append_right _ _ (by omega), hl, Nat.sub_self, List.drop_eq_getElem_cons hi, List.set_cons_zero, take_snoc hi, List.map_append, List.append_assoc]
  congr 1
  rw [getD_get hi]; rfl
theorem midS_zero (m : List Edge) : midS m 0 = m := by simp [midS]
theorem midS_all (m : List Edge) : midS m m.length = m.map nrm := by simp [midS]
theorem own_mid {w : World} {base : Nat} {v : Value} {m : List Edge} {i : Nat} (h : w.ownsRow base 81 2 v m.length (pcells (midS m i))) (hi : i < m.length) : ∃ g cap, v = .slice (some ⟨g, 0, none⟩) m.length cap ∧ base ≤ g ∧ g < w.heap.size ∧
    w.cell? ⟨g, i * 2, none⟩ = some (.int .i64 (m.getD i (0, 0)).1) ∧ w.cell? ⟨g, i * 2 + 1, none⟩ = some (.int .i64 (m.getD i (0, 0)).2) := by
  rcases h.2 with ⟨_, h0⟩ | ⟨g, cap, cur, rfl, hb, hh, hc⟩
  · omega
  · have hg := pcells_get (m := midS m i) (i := i) (by rw [midS_len m (by omega)]; exact hi)
    rw [midS_get m hi] at hg
    refine ⟨g, cap, rfl, hb, (Array.getElem?_eq_some_iff.1 hh).1, ?_, ?_⟩
    · rw [h.cellAt _ (by omega)]; exact hg.1
    · rw [h.cellAt _ (by omega)]; exact hg.2

set_option maxRecDepth 100000 in
set_option maxHeartbeats 4000000 in
theorem sorted_any : SortedC := by
  intro base v m w h hm hB
  obtain ⟨A, cap, rfl, -, -, hc1, hc2⟩ := psl_of_own h
  have HO := Lib.hid h
  clear h
  go_enter Try.func94, Try.ntmps94
  go_wp2
  go_loopw [7] (fun iv wr => ∃ i : Nat, i ≤ m.length ∧ iv = .int .i64 i ∧ wr.ownsRow base 81 2 (.slice A m.length cap) m.length (pcells (midS m i)) ∧ Below base w wr) (fun iv _ => m.length - (intOf iv).toNat)
  case atStart => exact ⟨0, Nat.zero_le _, rfl, by rw [midS_zero]; exact HO.out, Below.refl _ _⟩
  case round =>
    clear HO
    obtain ⟨w9, rfl⟩ : ∃ w9, w9 = wr := ⟨_, rfl⟩
    obtain ⟨i, hi, rfl, hown, hbw⟩ := hrel
    have hz9 := hbw.size
    by_cases hil : i < m.length
    · have di : decide (i < m.length) = true := decide_eq_true hil
      have di2 : decide ((i : Int) < (m.length : Int)) = true := decide_eq_true (by omega)
      obtain ⟨g, cap', e1, hg1, hg2, hx, hy⟩ := own_mid hown hil
      obtain ⟨rfl, -, rfl⟩ : A = some ⟨g, 0, none⟩ ∧ True ∧ cap = cap' := by simpa using e1
      have hms := midS_set m hil
      obtain ⟨⟨x, y⟩, hxy⟩ : ∃ x, x = m.getD i (0, 0) := ⟨_, rfl⟩
      rw [← hxy] at hx hy hms
      simp only at hx hy
      have HMS := Lib.hid hms
      have HOW := Lib.hid hown
      have HBW := Lib.hid hbw
      have HXY := Lib.hid hxy
      clear hms hxy hown hbw e1
      obtain ⟨X, hX⟩ : ∃ X, X = w9.heap.size := ⟨_, rfl⟩
      go_upto_region 4 with fail
      obtain ⟨w8, hw8⟩ : ∃ w8, w8 = w9.alloc (.cells #[.int .i64 x, .int .i64 y] 81) := ⟨_, rfl⟩
      have p1 : w8.cell? ⟨X, 0, none⟩ = some (.int .i64 x) := by rw [hw8, World.cell?_alloc_at _ _ _ _ hX]; rfl
      have p2 : w8.cell? ⟨X, 1, none⟩ = some (.int .i64 y) := by rw [hw8, World.cell?_alloc_at _ _ _ _ hX]; rfl
      have ho8 : w8.ownsRow base 81 2 (.slice (some ⟨g, 0, none⟩) m.length cap) m.length (pcells (midS m i)) := by rw [hw8]; exact HOW.out.alloc _
      have hb8 : Below base w w8 := by rw [hw8]; exact HBW.out.alloc (by omega) _
      rw [← hX, ← hw8]
      have f1 := ho8.frozenAt (i * 2)
      have f2 := (ho8.stored (i * 2) (.int .i64 (min x y))).1.frozenAt (i * 2 + 1)
      obtain ⟨g', cap', e1, -, -, hx8, hy8⟩ := own_mid ho8 hil
      obtain ⟨rfl, -, -⟩ : g = g' ∧ True ∧ cap = cap' := by simpa using e1
      rw [← HXY.out] at hx8 hy8
      simp only at hx8 hy8
      have hy9 : (w8.setCell ⟨g, i * 2, none⟩ (.int .i64 (min x y))).cell? ⟨g, i * 2 + 1, none⟩ = some (.int .i64 y) := by
        rw [(ho8.stored (i * 2) (.int .i64 (min x y))).1.cellAt (i * 2 + 1) (by omega), List.getElem?_set_ne (by omega), ← ho8.cellAt (i * 2 + 1) (by omega)]; exact hy8
      have HO9 := Lib.hid (own_setP ho8 i (min x y) (max x y))
      have HB9 := Lib.hid (hb8.setCell (p := ⟨g, i * 2, none⟩) hg1 (.int .i64 (min x y)) |>.setCell (p := ⟨g, i * 2 + 1, none⟩) hg1 (.int .i64 (max x y)))
      clear hw8 hX ho8 hb8 HOW HBW hx hy e1
      go_wp2
      go_roundw
      case rel => exact ⟨i + 1, by omega, by go_num, by rw [← HMS.out]; exact HO9.out, HB9.out⟩
      case measure => simp [intOf]; omega
    · have di : decide (i < m.length) = false := decide_eq_false hil
      have di2 : decide ((i : Int) < (m.length : Int)) = false := decide_eq_false (by omega)
      obtain rfl : i = m.length := by omega
      rw [midS_all] at hown
      have HS := Lib.hid (sortP_any _ m w9 (by omega) (by omega) hown)
      have HBW := Lib.hid hbw
      clear hown hbw
      go_wp2_with (first | (go_at_call 128; refine HS.out.mono ?_) | fail)
      rintro e w8 ⟨⟨rfl, ho8⟩, hb8⟩
      have HO8 := Lib.hid ho8
      have HB8 := Lib.hid (HBW.out.trans hb8)
      clear ho8 hb8
      go_wp2
      go_ret
      exact ⟨⟨rfl, HO8.out⟩, HB8.out⟩
end Go.Proofs.Ytdmpbbgcifodeaa
