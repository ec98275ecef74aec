/-
  perms.Unrounds: what it answers.
-/
import Derived.Test.YtmlmdklheiafpaaRoundsW
namespace Go.Proofs.Ytmlmdklheiafpaa
open Go.RowKit

set_option maxHeartbeats 1000000 in
theorem unrounds_ok (A : Option Addr) (cap : Nat) (q : List Int) (w : World) (hn : q.length ≤ 40) (hp : IsPerm q) (h : Sl w w.heap.size A (ints q)) :
    Calls Try.prog 16 #[.slice A q.length cap] w fun e w' => ∃ A' c' ys, e = .returned (.tuple #[.slice A' ys.length c', .int .i64 0]) ∧ Sl w' w'.heap.size A' (ints ys) ∧ ys.length = q.length ∧
      (∀ k, k < q.length → at1 ys (q.getD k 0) = nxt q k) ∧ Below w.heap.size w w' := by
  have hk : Hid (permChk q = 0) := permChk_ok (by omega) hp
  have HP := Lib.hid hp
  clear hp
  go_enter Try.func16, Try.ntmps16
  go_wp2_with fail
  refine (check_any _ _ _ _ (by omega) h).mono ?_
  rintro e w1 ⟨rfl, hb1⟩
  rw [hk.out]
  have h1 := (h.below hb1)
  go_wp2_with (at_make; refine wpList_mk rfl (.tmp 15) (.tmp 15) rfl q.length rfl rfl (by omega) (Nat.le_refl _) (fun w2 hown2 hb2 hz2 => ?_))
  have HO2 := Lib.hid hown2
  clear hown2
  go_loopw [6] (fun iv wr => ∃ (i : Nat) (ys : List Int), i ≤ q.length ∧ iv = .int .i64 i ∧ ys.length = q.length ∧ wr.ownsRow w1.heap.size 3 1 (.slice (some ⟨w1.heap.size, 0, none⟩) q.length q.length) q.length (ints ys) ∧ Below w1.heap.size w1 wr ∧
      (∀ k, k < i → at1 ys (q.getD k 0) = nxt q k) ∧ (∀ (j : Nat), j < i → q.getD j 0 < q.getD i 100)) (fun iv _ => q.length - (intOf iv).toNat)
  case atStart =>
    exact ⟨0, _, by omega, rfl, by simp, HO2.out, hb2, fun k hk => by omega, fun j hj => by omega⟩
  case round =>
    obtain ⟨i, ys, hi, rfl, hyl, hown, hbl, hdone, hrec⟩ := hrel
    obtain ⟨wo, rfl⟩ : ∃ wo : World, wo = wr := ⟨_, rfl⟩
    have HO := Lib.hid hown
    have HD := Lib.hid hdone
    have HR := Lib.hid hrec
    have HY := Lib.hid hyl
    clear hown hdone hrec hyl
    have h2 := h1.below (hbl.mono hb1.size)
    by_cases hlt : i < q.length
    · obtain ⟨b, o, rfl, hb, hc0⟩ := h2.at_ hlt
      have hd1 : decide (i < q.length) = true := by simpa using hlt
      have hb' : b < wo.heap.size := by have := hbl.size; have := hb1.size; omega
      go_upto_block 2 with fail
      go_cut [7] (fun tv wr => ∃ (t : Nat), i < t ∧ t ≤ q.length ∧ tv = .int .i64 t ∧ (∀ j, i < j → j < t → q.getD j 0 < q.getD i 0) ∧ (t = q.length ∨ q.getD i 0 ≤ q.getD t 0) ∧ ∃ d, wr = wo.drewN d)
      case first =>
        go_wp2
        go_loopw [7] (fun tv wr => ∃ (t : Nat), i < t ∧ t ≤ q.length ∧ tv = .int .i64 t ∧ (∀ j, i < j → j < t → q.getD j 0 < q.getD i 0) ∧ ∃ d, wr = wo.drewN d) (fun tv _ => q.length - (intOf tv).toNat)
        case atStart => exact ⟨i + 1, by omega, by omega, by go_num, fun j h1 h2 => by omega, 0, rfl⟩
        case round =>
          obtain ⟨t, hit, htl, rfl, hlow, d, rfl⟩ := hrel
          have HLOW := Lib.hid hlow
          clear hlow
          have hci : wo.cell? ⟨b, o + i, none⟩ = some (.int .i64 (q.getD i 0)) := by rw [getD_get hlt]; exact hc0
          by_cases hc1 : t < q.length
          · have hct : wo.cell? ⟨b, o + t, none⟩ = some (.int .i64 (q.getD t 0)) := by
              obtain ⟨b', o', e1, _, hc'⟩ := h2.at_ hc1
              obtain ⟨rfl, rfl⟩ : b = b' ∧ o = o' := by simpa using e1
              rw [getD_get hc1]; exact hc'
            have hd2 : decide (t < q.length) = true := by simpa using hc1
            obtain ⟨x, hx⟩ : ∃ x, x = q.getD i 0 := ⟨_, rfl⟩
            obtain ⟨y, hy⟩ : ∃ x, x = q.getD t 0 := ⟨_, rfl⟩
            rw [← hx] at hci
            rw [← hy] at hct
            have HX := Lib.hid hx
            have HYY := Lib.hid hy
            clear hx hy hc0
            by_cases hc2 : y < x
            · have hd3 : decide (y < x) = true := by simpa using hc2
              go_wp2
              go_quiet (fail)
              go_wp2
              go_roundw
              case rel =>
                refine ⟨t + 1, by omega, by omega, by go_num, fun j h1 h2 => ?_, _, rfl⟩
                by_cases hj : j < t
                · exact HLOW.out j h1 hj
                · obtain rfl : j = t := by omega
                  rw [← HX.out, ← HYY.out]; exact hc2
              case measure => simp [intOf]; omega
            · have hd3 : decide (y < x) = false := by simpa using hc2
              go_wp2
              go_quiet (fail)
              go_wp2
              go_meet
              case rel => exact ⟨t, hit, htl, rfl, HLOW.out, .inr (by rw [← HX.out, ← HYY.out]; omega), _, World.drewN_drewN ..⟩
          · have hd2 : decide (t < q.length) = false := by simpa using hc1
            go_wp2
            go_quiet (fail)
            go_wp2
            go_meet
            case rel => exact ⟨t, hit, htl, rfl, HLOW.out, .inl (by omega), _, World.drewN_drewN ..⟩
      case rest =>
        obtain ⟨t, hit, htl, rfl, hlow, hstop, d, rfl⟩ := hcut
        have HB : Hid (IsBlock q i t) := ⟨HP.out, hn, hlt, hit, htl, HR.out, hlow, hstop⟩
        clear hlow hstop
        go_wp2
        go_loopw [8] (fun kv wr => ∃ (k : Nat) (zs : List Int), i ≤ k ∧ k ≤ t ∧ kv = .int .i64 k ∧ zs.length = q.length ∧ wr.ownsRow w1.heap.size 3 1 (.slice (some ⟨w1.heap.size, 0, none⟩) q.length q.length) q.length (ints zs) ∧ Below w1.heap.size w1 wr ∧
            (∀ j, j < k → at1 zs (q.getD j 0) = nxt q j)) (fun kv _ => q.length - (intOf kv).toNat)
        case atStart => exact ⟨i, ys, by omega, by omega, rfl, HY.out, HO.out, below_drewN hbl _, HD.out⟩
        case round =>
          obtain ⟨k, zs, hik, hkt, rfl, hzl, hown, hbk, hdone⟩ := hrel
          have HZ := Lib.hid hzl
          have HOK := Lib.hid hown
          have HDK := Lib.hid hdone
          clear hzl hown hdone
          by_cases hk : k < t
          · have hdk : decide (k < t) = true := by simpa using hk
            have hd2 : k < q.length := by omega
            have h3 := h1.below (hbk.mono hb1.size)
            have hx : 1 ≤ q.getD k 0 ∧ q.getD k 0 ≤ q.length := by rw [getD_get hd2]; exact HP.out.2 _ (List.getElem_mem hd2)
            have hck : wr.cell? ⟨b, o + k, none⟩ = some (.int .i64 (q.getD k 0)) := by
              obtain ⟨b', o', e1, _, hc'⟩ := h3.at_ hd2
              obtain ⟨rfl, rfl⟩ : b = b' ∧ o = o' := by simpa using e1
              rw [getD_get hd2]; exact hc'
            have hci : wr.cell? ⟨b, o + i, none⟩ = some (.int .i64 (q.getD i 0)) := by
              obtain ⟨b', o', e1, _, hc'⟩ := h3.at_ hlt
              obtain ⟨rfl, rfl⟩ : b = b' ∧ o = o' := by simpa using e1
              rw [getD_get hlt]; exact hc'
            obtain ⟨x, hx0⟩ : ∃ x, x = q.getD k 0 := ⟨_, rfl⟩
            obtain ⟨y, hy⟩ : ∃ x, x = q.getD i 0 := ⟨_, rfl⟩
            rw [← hx0] at hck hx
            rw [← hy] at hci
            have HX := Lib.hid hx0
            have HYY := Lib.hid hy
            clear hx0 hy hc0
            have hox := HOK.out.cellAt (x.toNat - 1) (by have := HZ.out; omega)
            rw [ints_get (by have := HZ.out; omega)] at hox
            have hfx := HOK.out.frozenAt (x.toNat - 1)
            have hne : b ≠ w1.heap.size := by have := hb1.size; omega
            by_cases hk1 : k + 1 < t
            · have hd3 : decide ((k : Int) + 1 < (t : Int)) = true := by simp; omega
              have hck1 : wr.cell? ⟨b, o + (k + 1), none⟩ = some (.int .i64 (q.getD (k + 1) 0)) := by
                obtain ⟨b', o', e1, _, hc'⟩ := h3.at_ (show k + 1 < q.length by omega)
                obtain ⟨rfl, rfl⟩ : b = b' ∧ o = o' := by simpa using e1
                rw [getD_get (show k + 1 < q.length by omega)]; exact hc'
              go_wp2
              go_region
              go_wp2
              go_region
              all_goals (try go_wp2)
              go_roundw
              case rel =>
                refine ⟨k + 1, (zs.set (x.toNat - 1) y).set (x.toNat - 1) (q.getD (k + 1) 0), by omega, by omega, by go_num, ?_, ?_, ?_, ?_⟩
                · simp [HZ.out]
                · exact own_set (own_set HOK.out _ _) _ _
                · exact ((hbk.setCell (by exact Nat.le_refl _) _).drew.setCell (by exact Nat.le_refl _) _).drew
                · have hd := done_step HP.out HZ.out (v := q.getD (k + 1) 0) hd2 HDK.out (by rw [HB.out.nxt hik hk, if_pos hk1])
                  rw [List.set_set, HX.out]
                  exact hd
              case measure => simp [intOf]; omega
            · have hd3 : decide ((k : Int) + 1 < (t : Int)) = false := by simp; omega
              go_wp2
              go_region
              all_goals (try go_wp2)
              go_roundw
              case rel =>
                refine ⟨k + 1, zs.set (x.toNat - 1) y, by omega, by omega, by go_num, ?_, ?_, ?_, ?_⟩
                · simp [HZ.out]
                · exact own_set HOK.out _ _
                · exact (hbk.setCell (by exact Nat.le_refl _) _).drew
                · have hd := done_step HP.out HZ.out (v := y) hd2 HDK.out (by rw [HB.out.nxt hik hk, if_neg hk1, HYY.out])
                  rw [HX.out]
                  rw [HYY.out] at hd ⊢
                  exact hd
              case measure => simp [intOf]; omega
          · obtain rfl : k = t := by omega
            go_wp2
            go_roundw
            case rel => exact ⟨k, zs, htl, rfl, HZ.out, HOK.out, hbk, HDK.out, HB.out.next⟩
            case measure => simp [intOf]; omega
    · obtain rfl : i = q.length := by omega
      go_wp2
      go_ret2
      exact ⟨_, _, ys, by rw [HY.out]; rfl, (Sl.of_own HO.out), HY.out, HD.out, hb1.trans (hbl.mono hb1.size)⟩

end Go.Proofs.Ytmlmdklheiafpaa
