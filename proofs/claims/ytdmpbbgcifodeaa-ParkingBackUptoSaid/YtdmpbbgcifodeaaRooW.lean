/-
  parking.Rooted.
-/
import Derived.Test.YtdmpbbgcifodeaaRooM
import Derived.Test.YtdmpbbgcifodeaaSorT
import Derived.Test.YtdmpbbgcifodeaaParkW
import Derived.Test.YtdmpbbgcifodeaaQueL
namespace Go.Proofs.Ytdmpbbgcifodeaa
open Go.RowKit

def PRoot (d : List Int) (e : Ending) (w' : World) : Prop :=
  ((d.length ≤ 20 ∧ Crit d) ∧ ∃ A cap, e = .returned (.tuple #[.slice A d.length cap, .int .i64 0]) ∧ Sl w' w'.heap.size A (pcells (edgedL (edgesD d)))) ∨
  (¬ (d.length ≤ 20 ∧ Crit d) ∧ ∃ k : Int, k ≠ 0 ∧ e = .returned (.tuple #[.slice none 0 0, .int .i64 k]))

set_option maxRecDepth 100000 in
set_option maxHeartbeats 8000000 in
theorem root_any (A : Option Addr) (cap : Nat) (d : List Int) (w : World) (hcl : d.length ≤ 2000000) (h : Sl w w.heap.size A (ints d)) :
    Calls Try.prog 56 #[.slice A d.length cap] w fun e w' => PRoot d e w' ∧ Below w.heap.size w w' := by
  have HP := Lib.hid (park_any A cap d w (by omega) h)
  have HS := Lib.hid h
  clear h
  go_enter Try.func56, Try.ntmps56
  go_wp2_with (first | (go_at_call 42; refine HP.out.mono ?_) | fail)
  rintro e w1 ⟨⟨v, k, rfl, hk, -⟩, hb1⟩
  by_cases hkz : k = 0
  · obtain ⟨hd20, hcr⟩ := hk.1 hkz
    have hkd : (k != 0) = false := by simp [hkz]
    have HC := Lib.hid hcr
    have hsz1 := hb1.size
    obtain ⟨N, hN⟩ : ∃ N, N = w.heap.size := ⟨_, rfl⟩
    have hq := AllR.queue (w := w1) (B := N) (r := ⟨81, 2, .slice none 0 0, ([] : List Edge).length, pcells []⟩) (World.ownsRow_nil _ _ _ _) (by omega) 0 (c := 1) rfl
    have hbb : Below N w (w1.alloc (.cells #[.int .i64 0] 3)) := by rw [hN]; exact hb1.alloc hsz1 _
    have HNE := Lib.hid hN
    clear hk hcr hkz HP hb1 hsz1 hN
    go_upto_region 7 with fail
    obtain ⟨gQ, hgQ⟩ : ∃ g, g = w1.heap.size := ⟨_, rfl⟩
    obtain ⟨w2, hw2⟩ : ∃ w2, w2 = w1.alloc (.cells #[.int .i64 0] 3) := ⟨_, rfl⟩
    rw [← hgQ, ← hw2] at hq
    rw [← hw2] at hbb
    rw [← hgQ, ← hw2]
    have HQ := Lib.hid hq
    have HB := Lib.hid hbb
    clear hq hbb hgQ hw2
    go_loopw [6, 7, 8] (fun ov qv av wz => ∃ (vO vQ : Value) (a t : Nat) (T : List Edge), vO = ov ∧ vQ = qv ∧ a = t + 1 ∧ t ≤ d.length ∧ av = .int .i64 a ∧ AllR wz N (TQ vO T vQ (Qd d t)) ∧ RootE d T (Qd d t) ∧ Below N w wz) (fun _ _ av _ => d.length + 1 - (intOf av).toNat)
    case atStart => exact ⟨_, _, 1, 0, [], rfl, rfl, rfl, Nat.zero_le _, rfl, HQ.out, RootE.start d, HB.out⟩
    case round =>
      obtain ⟨w9, rfl⟩ : ∃ w9, w9 = wr := ⟨_, rfl⟩
      clear HQ HB
      obtain ⟨vO, vQ, a, t, T, rfl, rfl, hat, htn, rfl, hall, hre, hW⟩ := hrel
      by_cases han : a ≤ d.length
      · have da : decide (a ≤ d.length) = true := decide_eq_true han
        have da2 : decide ((a : Int) ≤ (d.length : Int)) = true := decide_eq_true (by omega)
        have ha1 : (a : Int) - 1 = (t : Int) := by omega
        obtain ⟨hlt, hqg⟩ := HC.out.at_ (t := t) (by omega)
        obtain ⟨AQ, cQ, rfl, -, hsq, hq1, hq2⟩ := own_slice hall.qOwn
        obtain ⟨bq, oq, rfl, hbq⟩ := hsq.addr (by omega)
        have hcq := getD_cell hsq hlt
        rw [hqg] at hcq
        have hlf : (Qd d t).length ≤ d.length + 1 := by have := Qd_len_mono d htn; rw [HC.out.full] at this; exact this
        obtain ⟨L, hL⟩ : ∃ L, L = (Qd d t).length := ⟨_, rfl⟩
        rw [← hL] at hlt hq1 hall hlf ⊢
        obtain ⟨x, hx⟩ : ∃ x, x = (Qd d d.length).getD t 0 := ⟨_, rfl⟩
        rw [← hx] at hcq
        have HX := Lib.hid hx
        have HALL := Lib.hid hall
        have HRE := Lib.hid hre
        have HW := Lib.hid hW
        have HAT := Lib.hid hat
        have HL := Lib.hid hL
        clear hx hall hre hW hat hqg hsq hL
        go_upto_region 11 with fail
        go_loopw [6, 7, 34] (fun ov qv jv wz => ∃ (vO2 vQ2 : Value) (j : Nat) (T2 : List Edge), vO2 = ov ∧ vQ2 = qv ∧ j ≤ d.length ∧ jv = .int .i64 j ∧ AllR wz N (TQ vO2 T2 vQ2 (Qd d t ++ kidsTo d a j)) ∧ RootE d T2 (Qd d t ++ kidsTo d a j) ∧ Below N w wz) (fun _ _ jv _ => d.length - (intOf jv).toNat)
        case atStart => exact ⟨_, _, 0, T, rfl, rfl, Nat.zero_le _, rfl, by rw [kidsTo_zero, List.append_nil]; exact HALL.out, by rw [kidsTo_zero, List.append_nil]; exact HRE.out, HW.out⟩
        case round =>
          obtain ⟨w8, rfl⟩ : ∃ w8, w8 = wr := ⟨_, rfl⟩
          clear HALL HRE HW hcq
          obtain ⟨vO2, vQ2, j, T2, rfl, rfl, hj, rfl, hall, hre, hW⟩ := hrel
          by_cases hjd : j < d.length
          · have dj : decide (j < d.length) = true := decide_eq_true hjd
            have dj2 : decide ((j : Int) < (d.length : Int)) = true := decide_eq_true (by omega)
            obtain ⟨b0, o0, rfl, hb0⟩ := HS.out.addr (by omega)
            have hcz := (hW.cell (p := ⟨b0, o0 + j, none⟩) (by rw [HNE.out]; exact hb0)).trans (getD_cell HS.out hjd)
            by_cases hz : d.getD j 0 = (a : Int)
            · have hkl := kidsTo_le d a j
              obtain ⟨q, hq⟩ : ∃ q, q = Qd d t ++ kidsTo d a j := ⟨_, rfl⟩
              have hql : q.length ≤ 100 := by rw [hq, List.length_append, ← HL.out]; omega
              rw [← hq] at hall hre
              have hTl : T2.length + 1 = q.length := by rw [hre.que]; simp
              have hT100 : T2.length ≤ 100 := by omega
              have hre2 := hre.step (t := t) hjd (by rw [hz, HAT.out]) HX.out
              have hq2' : q ++ [(j : Int) + 1] = Qd d t ++ kidsTo d a (j + 1) := by rw [hq, kidsTo_yes hz, List.append_assoc]
              rw [hz] at hcz
              obtain ⟨AQ2, cQ2, rfl, -, -, hc1, hc2⟩ := own_slice hall.qOwn
              obtain ⟨AT, cT, rfl, -, -, hd1, hd2⟩ := psl_of_own (m := T2) (hall.own 0)
              have hNs : N ≤ w8.heap.size := by have := hW.size; have := HNE.out; omega
              have HO1 : Hid (w8.ownsRow N 81 2 (.slice AT T2.length cT) T2.length (pcells T2)) := hall.own 0
              have HALL := Lib.hid hall
              have HRE := Lib.hid hre2
              have HW := Lib.hid hW
              have HQ := Lib.hid hq2'
              clear hq hall hre hre2 hW hq2' hz hkl hTl
              go_upto_region 15 with (first | (at_builtin; refine wpList_appP (base := N) (l := T2) (v := .slice AT T2.length cT) rfl (.tmp 42) (.tmp 47) rfl rfl x ((j : Int) + 1) HO1.out w8.heap.size rfl rfl (by omega) (by omega) (fun g6 c6 w6 hown6 hg6 hat6 => ?_)) | fail)
              have hall6 := TQ.appT HALL.out hown6 hg6 hat6
              have hW6 := below_app HW.out hNs hg6 (fun b hb => (HALL.out.lt (x := 0) (b := b) hb).1)
              have HO2 := Lib.hid hall6.qOwn
              have HALL6 := Lib.hid hall6
              have HW6 := Lib.hid hW6
              have hNs6 : N ≤ w6.heap.size := by have := hW6.size; have := HNE.out; omega
              clear hown6 hg6 hat6 hall6 hW6 HALL HW HO1 hcz
              go_upto_region 16 with (first | (at_builtin; refine wpList_app1I (base := N) (l := q) (v := .slice AQ2 q.length cQ2) rfl (.tmp 49) (.tmp 52) rfl rfl ((j : Int) + 1) HO2.out w6.heap.size rfl rfl (by omega) (by omega) (fun g7 c7 w7 hown7 hg7 hat7 => ?_)) | fail)
              have hall7 := HALL6.out.appQ hown7 hg7 hat7
              have hW7 := below_app HW6.out hNs6 hg7 (fun b hb => (HALL6.out.lt (x := 1) (b := b) hb).1)
              rw [HQ.out] at hall7
              have HRE2 := HRE.out
              rw [HQ.out] at HRE2
              have HALL7 := Lib.hid hall7
              have HW7 := Lib.hid hW7
              have HRE3 := Lib.hid HRE2
              clear hown7 hg7 hat7 hall7 hW7 HALL6 HW6 HO2 HRE2 HRE
              go_wp2
              go_roundw
              case rel => exact ⟨_, _, j + 1, T2 ++ [(x, (j : Int) + 1)], rfl, rfl, by omega, by go_num, HALL7.out, HRE3.out, HW7.out⟩
              case measure => simp [intOf]; omega
            · obtain ⟨z, hzz⟩ : ∃ z, z = d.getD j 0 := ⟨_, rfl⟩
              have hk := kidsTo_no hz
              rw [← hzz] at hcz hz
              have de : (z == (a : Int)) = false := by simpa using hz
              rw [← hk] at hall hre
              have HALL := Lib.hid hall
              have HRE := Lib.hid hre
              have HW := Lib.hid hW
              clear hk hall hre hW hzz
              go_wp2
              go_roundw
              case rel => exact ⟨_, _, j + 1, T2, rfl, rfl, by omega, by go_num, HALL.out, HRE.out, HW.out⟩
              case measure => simp [intOf]; omega
          · have dj : decide (j < d.length) = false := decide_eq_false hjd
            have dj2 : decide ((j : Int) < (d.length : Int)) = false := decide_eq_false (by omega)
            have hkk : Qd d t ++ kidsTo d a j = Qd d (t + 1) := by
              have e1 : j = d.length := by omega
              rw [e1, kidsTo_all, HAT.out]; rfl
            rw [hkk] at hall hre
            have HALL := Lib.hid hall
            have HRE := Lib.hid hre
            have HW := Lib.hid hW
            have HAT2 : Hid (a + 1 = t + 1 + 1) := by rw [HAT.out]; exact rfl
            have htn2 : t + 1 ≤ d.length := by have := HAT.out; omega
            clear hkk hall hre hW
            go_wp2
            go_roundw
            case rel => exact ⟨_, _, a + 1, t + 1, T2, rfl, rfl, HAT2.out, htn2, by go_num, HALL.out, HRE.out, HW.out⟩
            case measure => simp [intOf]; omega
      · have da : decide (a ≤ d.length) = false := decide_eq_false han
        have da2 : decide ((a : Int) ≤ (d.length : Int)) = false := decide_eq_false (by omega)
        have htn2 : t = d.length := by omega
        rw [htn2] at hall hre
        obtain ⟨hp, hl⟩ := hre.all HC.out
        have ho : w9.ownsRow N 81 2 vO T.length (pcells T) := hall.own 0
        have hsz := hW.size
        have hNs : N ≤ w9.heap.size := by have := HNE.out; omega
        have hs := sorted_any N vO T w9 ho (by omega) hNs
        have HS2 := Lib.hid hs
        have HPM := Lib.hid hp
        have HL := Lib.hid hl
        have HW := Lib.hid hW
        clear hs hp hl ho hall hre hW htn2
        go_wp2_with (first | (go_at_call 94; refine HS2.out.mono ?_) | fail)
        rintro e w8 ⟨⟨rfl, ho8⟩, hb8⟩
        obtain ⟨A8, c8, rfl, -, hs8, -, -⟩ := psl_of_own ho8
        have hf : Hid (PRoot d (.returned (.tuple #[.slice A8 (edgedL T).length c8, .int .i64 0])) w8) := by
          refine .inl ⟨⟨by omega, HC.out⟩, A8, c8, by rw [edged_len, HL.out], ?_⟩
          rw [← edged_same (HPM.out.map nrm)]
          exact hs8
        have hbb : Hid (Below w.heap.size w w8) := by rw [← HNE.out]; exact HW.out.trans hb8
        clear ho8 hb8 hs8
        go_wp2
        go_ret2
        exact ⟨hf.out, hbb.out⟩
  · have hkd : (k != 0) = true := by simp [hkz]
    have hf : Hid (PRoot d (.returned (.tuple #[.slice none 0 0, .int .i64 k])) w1) := .inr ⟨fun hh => hkz (hk.2 hh), k, hkz, rfl⟩
    clear hk HP HS
    go_wp2
    go_ret2
    exact ⟨hf.out, hb1⟩
end Go.Proofs.Ytdmpbbgcifodeaa
