/-
  paths.fits: what it answers.
-/
import Derived.Test.YtdmpbbgcifodeaaPt4W
namespace Go.Proofs.Ytdmpbbgcifodeaa
open Go.RowKit Go.Proofs

set_option maxRecDepth 100000 in
set_option maxHeartbeats 2000000 in
theorem fits_any (W H : Int) (A C : Option Addr) (cap c2 : Nat) (bar l : List (Int × Int)) (w : World) (hl : bar.length ≤ 9223372036854775807) (hcap : bar.length ≤ cap) (h : Sl w w.heap.size A (pcells bar)) (hl2 : l.length ≤ 9223372036854775807) (h2 : Sl w w.heap.size C (pcells l)) :
    Calls Try.prog 102 #[.agg #[.int .i64 W, .int .i64 H, .slice A bar.length cap], .slice C l.length c2] w fun e w' => (∃ k : Int, e = .returned (.int .i64 k) ∧ (k = 0 ↔ GridOk W H bar ∧ ∀ p ∈ l, inB W H p = true)) ∧ Below w.heap.size w w' := by
  obtain ⟨w0, hw0⟩ : ∃ w0, w0 = w.alloc (.cells #[.int .i64 W, .int .i64 H, .slice A bar.length cap] 43) := ⟨_, rfl⟩
  have hb0 : Below w.heap.size w w0 := by rw [hw0]; exact (Below.refl _ _).alloc (Nat.le_refl _) _
  have g1 : w0.cell? ⟨w.heap.size, 0, none⟩ = some (.int .i64 W) := by rw [hw0, World.cell?_alloc_at _ _ _ _ rfl]; rfl
  have g2 : w0.cell? ⟨w.heap.size, 1, none⟩ = some (.int .i64 H) := by rw [hw0, World.cell?_alloc_at _ _ _ _ rfl]; rfl
  have g3 : w0.cell? ⟨w.heap.size, 2, none⟩ = some (.slice A bar.length cap) := by rw [hw0, World.cell?_alloc_at _ _ _ _ rfl]; rfl
  have hz0 : w0.heap.size = w.heap.size + 1 := by rw [hw0]; simp
  have hck := pcheck_any' W H A cap bar w0 hl hcap (h.keep hb0)
  have HCK := Lib.hid hck
  have HS2 := Lib.hid (h2.below hb0)
  have HB0 := Lib.hid hb0
  have HZ0 := Lib.hid hz0
  go_enter Try.func102, Try.ntmps102
  go_upto_region 1 with fail
  rw [← hw0]
  clear hw0 h hb0 hz0 h2 hck
  go_wp2_with (first | (go_at_call 136; refine (HCK.out).mono ?_) | fail)
  rintro e w1 ⟨⟨k, rfl, hk⟩, hb1⟩
  have g1' := cell_keep hb1 g1
  have g2' := cell_keep hb1 g2
  have g3' := cell_keep hb1 g3
  have HK := Lib.hid hk
  have HW1 : Hid (HeldB w0 w1) := Lib.hid hb1
  clear hk hb1 g1 g2 g3 HCK
  by_cases hk0 : k = 0
  · have HG := Lib.hid (HK.out.1 hk0)
    subst hk0
    clear HK
    go_wp2
    go_loopw [15] (fun iv wr => ∃ i : Nat, i ≤ l.length ∧ iv = .int .i64 i ∧ (∀ j, j < i → inB W H (l.getD j (0, 0)) = true) ∧ Below w1.heap.size w1 wr) (fun iv _ => l.length - (intOf iv).toNat)
    case atStart => exact ⟨0, Nat.zero_le _, rfl, fun j hj => by omega, Below.refl _ _⟩
    case round =>
      obtain ⟨i, hi, rfl, hall, hW⟩ := hrel
      have HALL := Lib.hid hall
      have HW := Lib.hid hW
      have hWf : Below w.heap.size w wr := (HB0.out.trans (HW1.out.mono (by have := HZ0.out; omega))).trans (hW.mono (by have := HZ0.out; have := HW1.out.size; omega))
      clear hall hW
      by_cases hlt : i < l.length
      · have di : decide (i < l.length) = true := decide_eq_true hlt
        have hsl : Sl wr w.heap.size C (pcells l) := (HS2.out.below (HW1.out.mono (by have := HZ0.out; omega))).below (HW.out.mono (by have := HZ0.out; have := HW1.out.size; omega))
        obtain ⟨b, o, rfl, hb⟩ := psl_addr hsl (by omega)
        obtain ⟨hc1, hc2⟩ := psl_at hsl hlt
        obtain ⟨p, hp⟩ : ∃ p, p = l.getD i (0, 0) := ⟨_, rfl⟩
        obtain ⟨x, y⟩ := p
        rw [← hp] at hc1 hc2
        have hc1' : wr.cell? ⟨b, o + i * 2, none⟩ = some (.int .i64 x) := hc1
        have hc2' : wr.cell? ⟨b, o + i * 2 + 1, none⟩ = some (.int .i64 y) := hc2
        have HP := Lib.hid hp
        have hba : Below wr.heap.size wr (wr.alloc (.cells #[.int .i64 x, .int .i64 y] 48)) := (Below.refl _ _).alloc (Nat.le_refl _) _
        have m1 := cell_keep hba (cell_keep HW.out g1')
        have m2 := cell_keep hba (cell_keep HW.out g2')
        have m3 := cell_keep hba (cell_keep HW.out g3')
        have HW2 := Lib.hid (heldB_trans HW.out hba)
        have HWF := Lib.hid (heldB_trans (show HeldB w wr from hWf) hba)
        have hin := in_any W H x y (.slice A bar.length cap) (wr.alloc (.cells #[.int .i64 x, .int .i64 y] 48))
        have HIN := Lib.hid hin
        clear hp hc1 hc2 hba hin hsl hWf
        go_wp2_with (first | (go_at_call 137; refine (HIN.out).mono ?_) | fail)
        rintro e w9 ⟨rfl, hb9⟩
        have HW9 := Lib.hid (heldB_trans HW2.out hb9)
        have HWF9 := Lib.hid (heldB_trans HWF.out hb9)
        clear hb9 m1 m2 m3 HW2 HIN
        by_cases hok : inB W H (x, y) = true
        · have HOK := Lib.hid hok
          rw [hok]
          clear hok
          go_wp2
          go_roundw
          case rel =>
            refine ⟨i + 1, by omega, by go_num, fun j hj => ?_, HW9.out⟩
            by_cases e : j = i
            · rw [e, ← HP.out]; exact HOK.out
            · exact HALL.out j (by omega)
          case measure => simp [intOf]; omega
        · have hv : inB W H (x, y) = false := by simpa using hok
          have HNO : Hid (¬ ∀ p ∈ l, inB W H p = true) := Lib.hid fun hh => hok (by rw [HP.out, getD_get hlt]; exact hh _ (List.getElem_mem hlt))
          rw [hv]
          clear hv hok
          go_wp2
          go_ret
          exact ⟨⟨1, rfl, fun e => absurd e (by decide), fun hh => absurd hh.2 HNO.out⟩, HWF9.out⟩
      · have di : decide (i < l.length) = false := decide_eq_false hlt
        have HF : Hid (∀ p ∈ l, inB W H p = true) := Lib.hid fun p hp => by
          obtain ⟨j, hj, rfl⟩ := List.getElem_of_mem hp
          have := HALL.out j (by omega)
          rwa [getD_get hj] at this
        go_wp2
        go_ret
        exact ⟨⟨0, rfl, fun _ => ⟨HG.out, HF.out⟩, fun _ => rfl⟩, hWf⟩
  · have dk : (k != 0) = true := by simpa using hk0
    have HN := Lib.hid hk0
    have hWf : Below w.heap.size w w1 := HB0.out.trans (HW1.out.mono (by have := HZ0.out; omega))
    go_wp2
    go_ret
    exact ⟨⟨k, rfl, fun e => absurd e HN.out, fun hh => absurd (HK.out.2 hh.1) HN.out⟩, hWf⟩

end Go.Proofs.Ytdmpbbgcifodeaa
