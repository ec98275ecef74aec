/-
  parts.FromFrobenius: what it answers of what Frobenius tells.
-/
import Derived.Test.YtpmkdihencepnaaGreatMg11
import Derived.Test.YtpmkdihencepnaaGreatMg15
namespace Go.Proofs.YtpmkdihencepnaaGreat
open Go.RowKit

set_option maxHeartbeats 1000000 in
theorem pfalls_any (A : Option Addr) (cap : Nat) (l : List Int) (w : World) (hcl : l.length ≤ 1000000) (hf : ∀ i, i < l.length → 0 ≤ l.getD i 0 ∧ (1 ≤ i → l.getD i 0 < l.getD (i - 1) 0)) (h : Sl w w.heap.size A (ints l)) :
    Calls Tryz.prog 50 #[.slice A l.length cap] w fun e w' => e = .returned (.bool true) ∧ w = w' := by
  have HF := Lib.hid hf
  clear hf
  go_enter Tryz.func50, Tryz.ntmps50
  go_wp2
  go_loop [7] (fun iv => ∃ i : Nat, i ≤ l.length ∧ iv = .int .i64 i) (fun iv => l.length - (intOf iv).toNat)
  case atStart => exact ⟨0, by omega, rfl⟩
  case round =>
    obtain ⟨i, hi, rfl⟩ := hrel
    by_cases hlt : i < l.length
    · obtain ⟨b, o, rfl, hb⟩ := h.addr (by omega)
      have hcx := getD_cell h hlt
      have hcy := getD_cell h (show i - 1 < l.length by omega)
      have hyes := HF.out i hlt
      obtain ⟨x, hx⟩ : ∃ x, x = l.getD i 0 := ⟨_, rfl⟩
      obtain ⟨y, hy⟩ : ∃ x, x = l.getD (i - 1) 0 := ⟨_, rfl⟩
      rw [← hx] at hcx hyes
      rw [← hy] at hcy hyes
      clear hx hy
      have hd1 : decide (x < 0) = false := by simp; omega
      by_cases h2 : 0 < i
      · have hd2 : decide ((0 : Int) < (i : Int)) = true := by simp; omega
        have hd3 : decide (y ≤ x) = false := by have := hyes.2 (by omega); simp; omega
        clear hyes
        go_wp2
        go_round
        case rel => exact ⟨i + 1, by omega, by go_num⟩
        case measure => simp [intOf]; omega
      · have hd2 : decide ((0 : Int) < (i : Int)) = false := by simp; omega
        clear hyes
        go_wp2
        go_round
        case rel => exact ⟨i + 1, by omega, by go_num⟩
        case measure => simp [intOf]; omega
    · obtain rfl : i = l.length := by omega
      go_wp2
      go_ret
      exact ⟨rfl, rfl⟩

def lenOfV : Value → Nat
  | .slice _ n _ => n
  | _ => 0

theorem zeros_snoc {l : List Int} {d m : Nat} (h : d ≤ m) : l ++ List.replicate (m - d) 0 ++ [0] = l ++ List.replicate (m + 1 - d) 0 := by
  rw [show m + 1 - d = (m - d) + 1 by omega, List.replicate_succ', List.append_assoc]

set_option maxRecDepth 100000 in
set_option maxHeartbeats 2000000 in
theorem unfrob_any (A A' : Option Addr) (cap cap' : Nat) (p : List Int) (d : Nat) (xs ys : List Int) (w : World) (hp : IsPart p) (hs : p.sum ≤ 40) (hd : IsDiag p d)
    (hxs : xs = armsOf p d) (hys : ys = armsOf (flipOf p) d) (h : Sl w w.heap.size A (ints xs)) (h' : Sl w w.heap.size A' (ints ys)) :
    Calls Tryz.prog 27 #[.slice A xs.length cap, .slice A' ys.length cap'] w fun e w' => (∃ v, e = .returned (.tuple #[v, .int .i64 0]) ∧ w'.ownsRow w.heap.size 3 1 v p.length (ints p)) ∧ Below w.heap.size w w' := by
  have hB := Nat.le_refl w.heap.size
  have hlen := hp.len hs
  have hq := flip_part hp
  have hdq := hd.flip hp
  have hdl := hd.len
  have hxl : xs.length = d := by rw [hxs, armsOf_length]
  have hyl : ys.length = d := by rw [hys, armsOf_length]
  have hfx : ∀ i, i < xs.length → 0 ≤ xs.getD i 0 ∧ (1 ≤ i → xs.getD i 0 < xs.getD (i - 1) 0) := fun i hi => by
    rw [hxl] at hi; rw [hxs]; exact ⟨arms_bound hd hi, fun h1 => arms_fall hp hi h1⟩
  have hfy : ∀ i, i < ys.length → 0 ≤ ys.getD i 0 ∧ (1 ≤ i → ys.getD i 0 < ys.getD (i - 1) 0) := fun i hi => by
    rw [hyl] at hi; rw [hys]; exact ⟨arms_bound hdq hi, fun h1 => arms_fall hq hi h1⟩
  have HP := Lib.hid hp
  have HQ := Lib.hid hq
  have HS := Lib.hid hs
  have HD := Lib.hid hd
  have HDQ := Lib.hid hdq
  have HX : Hid (∀ i, i < d → xs.getD i 0 = p.getD i 0 - i - 1) := fun i hi => by rw [hxs, armsOf_getD hi]
  have HY : Hid (∀ i, i < d → ys.getD i 0 = (flipOf p).getD i 0 - i - 1) := fun i hi => by rw [hys, armsOf_getD hi]
  have hcallx := fun w (hh : Sl w w.heap.size A (ints xs)) => pfalls_any A cap xs w (by omega) hfx hh
  have hcally := fun w (hh : Sl w w.heap.size A' (ints ys)) => pfalls_any A' cap' ys w (by omega) hfy hh
  have hreadx : Hid (∀ (w' : World) b o, A = some ⟨b, o, none⟩ → Sl w' w.heap.size A (ints xs) → ∀ i, i < d → w'.cell? ⟨b, o + i, none⟩ = some (.int .i64 (xs.getD i 0))) := fun w' b o e hh i hi => by subst e; exact getD_cell hh (by omega)
  have hready : Hid (∀ (w' : World) b o, A' = some ⟨b, o, none⟩ → Sl w' w.heap.size A' (ints ys) → ∀ i, i < d → w'.cell? ⟨b, o + i, none⟩ = some (.int .i64 (ys.getD i 0))) := fun w' b o e hh i hi => by subst e; exact getD_cell hh (by omega)
  have haddrx : Hid (0 < d → ∃ b o, A = some ⟨b, o, none⟩ ∧ b < w.heap.size) := fun hd0 => h.addr (by omega)
  have haddry : Hid (0 < d → ∃ b o, A' = some ⟨b, o, none⟩ ∧ b < w.heap.size) := fun hd0 => h'.addr (by omega)
  rw [hxl] at hcallx ⊢
  rw [hyl] at hcally ⊢
  have HSX := Lib.hid h
  have HSY := Lib.hid h'
  have hd40 : d ≤ 40 := by omega
  clear hp hs hd hq hdq hxs hys hxl hyl hfx hfy
  go_enter Tryz.func27, Tryz.ntmps27
  go_wp2_with fail
  refine (hcallx _ HSX.out).mono ?_
  rintro e w0 ⟨rfl, rfl⟩
  go_wp2_with fail
  refine (hcally _ HSY.out).mono ?_
  rintro e w0 ⟨rfl, rfl⟩
  clear hcallx hcally
  go_wp2
  go_loopw [6, 31] (fun lv iv wr => ∃ i n : Nat, i ≤ d ∧ iv = .int .i64 i ∧ lv = .int .i64 (40 - hooksTo p i) ∧ wr = w.drewN n) (fun _ iv _ => d - (intOf iv).toNat)
  case atStart => exact ⟨0, 0, by omega, rfl, by simp [hooksTo, psum], rfl⟩
  case round =>
    obtain ⟨i, n, hi, rfl, rfl, rfl⟩ := hrel
    by_cases hlt : i < d
    · have hdl1 : decide (i < d) = true := decide_eq_true hlt
      obtain ⟨b, o, rfl, hb⟩ := haddrx.out (by omega)
      obtain ⟨b2, o2, rfl, hb2⟩ := haddry.out (by omega)
      have hcx := hreadx.out _ b o rfl HSX.out i hlt
      have hcy := hready.out _ b2 o2 rfl HSY.out i hlt
      have hx1 := HX.out i hlt
      have hy1 := HY.out i hlt
      have hg1 := HD.out.1 i hlt
      have hg2 := HDQ.out.1 i hlt
      have hss := hooksTo_succ p i
      have hs1 := hooksTo_nonneg HP.out HD.out i (by omega)
      have hs2 := hooksTo_le HP.out (i + 1)
      have hs3 := HS.out
      rw [← hx1, ← hy1] at hss
      obtain ⟨x, hx⟩ : ∃ x, x = xs.getD i 0 := ⟨_, rfl⟩
      obtain ⟨y, hy⟩ : ∃ x, x = ys.getD i 0 := ⟨_, rfl⟩
      obtain ⟨s, hs'⟩ : ∃ x, x = hooksTo p i := ⟨_, rfl⟩
      rw [← hx] at hcx hx1 hss
      rw [← hy] at hcy hy1 hss
      rw [← hs'] at hss hs1 ⊢
      rw [hss] at hs2
      have hx0 : 0 ≤ x := by omega
      have hy0 : 0 ≤ y := by omega
      have hsum : s + x + y + 1 ≤ 40 := by omega
      have HSS := Lib.hid hss
      clear hx hy hs' hss hs2 hs3 hx1 hy1 hg1 hg2
      have hd1 : decide (40 - s ≤ x) = false := by simp; omega
      have hd2 : decide (40 - s - x ≤ y) = false := by simp; omega
      go_wp2
      go_quiet (fail)
      go_wp2
      go_quiet (fail)
      go_wp2
      go_roundw
      case rel => exact ⟨i + 1, _, by omega, by go_num, by rw [HSS.out]; go_num, rfl⟩
      case measure => simp [intOf]; omega
    · have hdl1 : decide (i < d) = false := decide_eq_false hlt
      have hW : Below w.heap.size w (w.drewN n) := below_drewN (Below.refl _ _) n
      obtain ⟨wd, hwd⟩ : ∃ wd, wd = w.drewN n := ⟨_, rfl⟩
      rw [← hwd] at hW ⊢
      clear hwd
      go_wp2
      go_loopw [8, 68] (fun ov iv wr => ∃ i : Nat, i ≤ d ∧ iv = .int .i64 i ∧ wr.ownsRow w.heap.size 3 1 ov i (ints (p.take i)) ∧ Below w.heap.size w wr) (fun _ iv _ => d - (intOf iv).toNat)
      case atStart => exact ⟨0, by omega, rfl, by rw [List.take_zero]; exact World.ownsRow_nil _ _ _ _, hW⟩
      case round =>
        clear hW
        obtain ⟨j, hj, rfl, hown, hW⟩ := hrel
        have HO := Lib.hid hown
        clear hown
        by_cases hlt : j < d
        · have hdl1 : decide (j < d) = true := decide_eq_true hlt
          obtain ⟨b, o, rfl, hb⟩ := haddrx.out (by omega)
          have hcx := hreadx.out _ b o rfl (HSX.out.below hW) j hlt
          have hx1 := HX.out j hlt
          have hx2 := part_le_sum HP.out (i := j) (by omega)
          have hx3 := HS.out
          have hx4 := HD.out.1 j hlt
          have hsn : Hid (p.take j ++ [p.getD j 0] = p.take (j + 1)) := by show _ = _; rw [take_snoc (by omega), getD_get (by omega)]
          obtain ⟨x, hx⟩ : ∃ x, x = xs.getD j 0 := ⟨_, rfl⟩
          rw [← hx] at hcx hx1
          have hx0 : 0 ≤ x ∧ x ≤ 40 := by omega
          have HX1 : Hid (x + (j : Int) + 1 = p.getD j 0) := by show _ = _; omega
          clear hx hx1 hx2 hx3 hx4
          go_wp2_with (first | (at_builtin; refine wpList_app1 rfl (.tmp 71) (.tmp 79) rfl rfl (x + (j : Int) + 1) HO.out rfl (by omega) hW.size (fun g2 c2 w5 hl5 hb5 => ?_)) | fail)
          go_wp2
          go_roundw
          case rel =>
            refine ⟨j + 1, by omega, by go_num, ?_, hW.trans hb5⟩
            rw [← hsn.out, ← HX1.out]; exact hl5
          case measure => simp [intOf]; omega
        · have hdl1 : decide (j < d) = false := decide_eq_false hlt
          obtain rfl : j = d := by omega
          go_wp2
          go_loopw [8, 84] (fun ov iv wr => ∃ i m : Nat, i ≤ j ∧ iv = .int .i64 i ∧ j ≤ m ∧ m ≤ p.length ∧ (i = 0 → m = j) ∧ (0 < i → m = p.length) ∧ wr.ownsRow w.heap.size 3 1 ov m (ints (p.take j ++ List.replicate (m - j) 0)) ∧ Below w.heap.size w wr) (fun _ iv _ => j - (intOf iv).toNat)
          case atStart => exact ⟨0, j, by omega, rfl, by omega, by omega, fun _ => rfl, fun h => by omega, by simpa using HO.out, hW⟩
          case round =>
            clear HO hW
            obtain ⟨i2, m0, hi2, rfl, hm1, hm2, hm3, hm4, hown, hW⟩ := hrel
            have HO := Lib.hid hown
            clear hown
            by_cases hlt2 : i2 < j
            · have hdl2 : decide (i2 < j) = true := decide_eq_true hlt2
              obtain ⟨b2, o2, rfl, hb2⟩ := haddry.out (by omega)
              obtain ⟨g, c, hv, hg1, hg2⟩ := HO.out.form (by omega)
              subst hv
              have hy1 := HY.out i2 hlt2
              have hy2 : (flipOf p).getD i2 0 ≤ p.length := by rw [flip_getD HP.out]; have := over_le p i2; omega
              have hy3 := HDQ.out.1 i2 hlt2
              have hy4 : i2 = 0 → (flipOf p).getD i2 0 = p.length := fun e => by rw [e, flip_head HP.out]
              have hready2 := fun wr hh => hready.out wr b2 o2 rfl hh i2 hlt2
              obtain ⟨y, hy⟩ : ∃ x, x = ys.getD i2 0 := ⟨_, rfl⟩
              rw [← hy] at hy1
              rw [← hy] at hready2
              have HR := Lib.hid hready2
              have hy0 : 0 ≤ y ∧ y ≤ 40 := by omega
              have HY1 : Hid (y + (i2 : Int) + 1 ≤ p.length ∧ (i2 = 0 → y + (i2 : Int) + 1 = p.length)) := ⟨by omega, fun e => by have := hy4 e; omega⟩
              have HM := Lib.hid hm4
              clear hy hy1 hy2 hy3 hy4 hready2 hm3 hm4
              go_wp2
              go_loopw [8] (fun ov wr => ∃ (g c m : Nat), ov = .slice (some ⟨g, 0, none⟩) m c ∧ m0 ≤ m ∧ m ≤ p.length ∧ wr.ownsRow w.heap.size 3 1 ov m (ints (p.take j ++ List.replicate (m - j) 0)) ∧ Below w.heap.size w wr) (fun ov _ => p.length - lenOfV ov)
              case atStart => exact ⟨g, c, m0, rfl, Nat.le_refl _, hm2, HO.out, hW⟩
              case round =>
                clear HO hW hg1 hg2
                obtain ⟨g, c, m, rfl, hm5, hm6, hown, hW⟩ := hrel
                have HO := Lib.hid hown
                clear hown
                have hcy := HR.out _ (HSY.out.below hW)
                by_cases hmy : (m : Int) < y + (i2 : Int) + 1
                · have hdm : decide ((m : Int) < y + (i2 : Int) + 1) = true := decide_eq_true hmy
                  have hmp : Hid (m < p.length) := by have := HY1.out.1; show _ < _; omega
                  have hz : Hid (p.take j ++ List.replicate (m - j) 0 ++ [0] = p.take j ++ List.replicate (m + 1 - j) 0) := zeros_snoc (by omega)
                  clear hmy
                  go_wp2_with (first | (at_builtin; refine wpList_app1 rfl (.tmp 97) (.tmp 98) rfl rfl 0 HO.out rfl (by omega) hW.size (fun g2 c2 w5 hl5 hb5 => ?_)) | fail)
                  go_wp2
                  go_roundw
                  case rel => exact ⟨g2, c2, m + 1, rfl, by omega, hmp.out, by rw [← hz.out]; exact hl5, hW.trans hb5⟩
                  case measure => have := hmp.out; simp [lenOfV]; omega
                · have hdm : decide ((m : Int) < y + (i2 : Int) + 1) = false := decide_eq_false hmy
                  have hmp : Hid (m = p.length) := by
                    show _ = _
                    by_cases e : i2 = 0
                    · have := HY1.out.2 e; omega
                    · have := HM.out (by omega); omega
                  clear hmy
                  go_wp2
                  go_roundw
                  case rel => exact ⟨i2 + 1, m, by omega, by go_num, by omega, hm6, fun h => by omega, fun _ => hmp.out, HO.out, hW⟩
                  case measure => simp [intOf]; omega
            · have hdl2 : decide (i2 < j) = false := decide_eq_false hlt2
              obtain rfl : i2 = j := by omega
              by_cases hz : i2 = 0
              · have hp0 : p = [] := diag_zero HP.out (by rw [← hz]; exact HD.out)
                have hm0 : m0 = 0 := by have := hm3 (by omega); omega
                have HE : Hid (ints (p.take i2 ++ List.replicate (m0 - i2) 0) = ints [] ∧ p.length = 0) := by rw [hp0, hm0, hz]; exact ⟨rfl, rfl⟩
                have hdz : decide ((0 : Int) < (i2 : Int)) = false := by simp; omega
                have HZ := Lib.hid hp0
                have hO2 := HO.out
                rw [HE.out.1, hm0] at hO2
                clear hm3 hm4 hm0 hp0
                go_wp2
                go_loopw [103] (fun iv wz => iv = .int .i64 0 ∧ wz = wr) (fun _ _ => 0)
                case atStart => exact ⟨rfl, rfl⟩
                case round =>
                  obtain ⟨rfl, rfl⟩ := hrel
                  go_wp2
                  go_ret2
                  exact ⟨⟨_, rfl, by rw [HE.out.2, HZ.out]; exact hO2⟩, hW⟩
              · have hmp := hm4 (by omega)
                have HE := Lib.hid hmp
                have hO2 := HO.out
                rw [hmp] at hO2
                obtain ⟨g, c, hv, hg1, hg2⟩ := hO2.form (by omega)
                subst hv
                have hst := stage_start HP.out (d := i2) (z := m0 - i2) (by omega)
                rw [hmp] at hst
                have HO2 := Lib.hid hO2
                have HST := Lib.hid hst
                clear hm3 hm4 hmp hO2 hst hz HO
                go_wp2
                go_loopw [103] (fun iv wz => ∃ (i : Nat) (zs : List Int), i ≤ i2 ∧ iv = .int .i64 i ∧ wz.ownsRow w.heap.size 3 1 (.slice (some ⟨g, 0, none⟩) p.length c) p.length (ints zs) ∧ Stage p i2 i i2 zs ∧ Below w.heap.size w wz) (fun iv _ => i2 - (intOf iv).toNat)
                case atStart => exact ⟨0, _, by omega, rfl, HO2.out, HST.out, hW⟩
                case round =>
                  clear HO2 HST hW hg2
                  obtain ⟨k, zs, hk, rfl, hown, hstg, hW⟩ := hrel
                  have HO := Lib.hid hown
                  have HST := Lib.hid hstg
                  clear hown hstg
                  by_cases hlt3 : k < i2
                  · have hdl3 : decide (k < i2) = true := decide_eq_true hlt3
                    obtain ⟨b2, o2, rfl, hb2⟩ := haddry.out (by omega)
                    have hcy := hready.out _ b2 o2 rfl (HSY.out.below hW) k hlt3
                    have hy1 := HY.out k hlt3
                    have hy3 := HDQ.out.1 k hlt3
                    have hy2 : (flipOf p).getD k 0 ≤ p.length := by rw [flip_getD HP.out]; have := over_le p k; omega
                    obtain ⟨Y, hY⟩ : ∃ Y : Nat, ys.getD k 0 = Y := ⟨(ys.getD k 0).toNat, by omega⟩
                    rw [hY] at hcy hy1
                    have HYY : Hid ((flipOf p).getD k 0 = (Y : Int) + k + 1) := by show _ = _; omega
                    have hY40 : Y + k + 1 ≤ 40 := by omega
                    clear hy1 hy2 hy3 hY
                    go_wp2
                    go_loopw [13] (fun rv wz => ∃ (r : Nat) (zs : List Int), i2 ≤ r ∧ r ≤ 80 ∧ rv = .int .i64 r ∧ wz.ownsRow w.heap.size 3 1 (.slice (some ⟨g, 0, none⟩) p.length c) p.length (ints zs) ∧ Stage p i2 k r zs ∧ Below w.heap.size w wz) (fun rv _ => Y + k + 1 - (intOf rv).toNat)
                    case atStart => exact ⟨i2, zs, Nat.le_refl _, by omega, rfl, HO.out, HST.out, hW⟩
                    case round =>
                      clear HO HST hW hcy
                      obtain ⟨r, zs, hr1, hr2, rfl, hown, hstg, hW⟩ := hrel
                      have HO := Lib.hid hown
                      have HST := Lib.hid hstg
                      clear hown hstg
                      by_cases hrY : r ≤ Y + k
                      · have hdr : decide ((r : Int) ≤ (Y : Int) + (k : Int)) = true := by simp; omega
                        obtain ⟨hrl, hrv, hst2⟩ := stage_step HP.out HST.out hr1 (by rw [HYY.out]; omega)
                        have hzl := HST.out.1
                        have hcx := own_get HO.out (i := r) (z := (k : Int)) (by rw [← hrv, getD_get (by omega)]; exact List.getElem?_eq_getElem _)
                        have hfr := HO.out.frozenAt r
                        have hst := own_set HO.out r ((k : Int) + 1)
                        rw [hrv] at hst2
                        have HST2 := Lib.hid hst2
                        have HS2 := Lib.hid hst
                        have HRY := Lib.hid hrY
                        clear hrv hst2 hst hzl hrY
                        go_wp2
                        go_roundw
                        case rel => exact ⟨r + 1, _, by omega, by omega, by go_num, HS2.out, HST2.out, hW.setCell (by show _ ≤ g; omega) _⟩
                        case measure => have := HRY.out; simp [intOf]; omega
                      · have hdr : decide ((r : Int) ≤ (Y : Int) + (k : Int)) = false := by simp; omega
                        have hst2 := Lib.hid (stage_next HP.out HST.out (by rw [HYY.out]; omega))
                        clear hrY
                        go_wp2
                        go_roundw
                        case rel => exact ⟨k + 1, zs, by omega, by go_num, HO.out, hst2.out, hW⟩
                        case measure => simp [intOf]; omega
                  · have hdl3 : decide (k < i2) = false := decide_eq_false hlt3
                    obtain rfl : k = i2 := by omega
                    have hend := stage_end HP.out HST.out HD.out
                    have HEND := Lib.hid hend
                    clear hend
                    go_wp2
                    go_ret2
                    exact ⟨⟨_, rfl, by rw [← HEND.out] at HO ⊢; exact HO.out⟩, hW⟩

end Go.Proofs.YtpmkdihencepnaaGreat

/-
  Plain: two falling lists are those of a partition.
-/
namespace Go.Proofs.YtpmkdihencepnaaGreat

def FallsL (l : List Int) : Prop := ∀ i, i < l.length → 0 ≤ l.getD i 0 ∧ (1 ≤ i → l.getD i 0 < l.getD (i - 1) 0)
theorem FallsL.tail {x : Int} {l : List Int} (h : FallsL (x :: l)) : FallsL l := fun i hi => by
  have := h (i + 1) (by simpa using hi)
  refine ⟨by simpa using this.1, fun h1 => ?_⟩
  have h2 := this.2 (by omega)
  obtain ⟨k, rfl⟩ : ∃ k, i = k + 1 := ⟨i - 1, by omega⟩
  simpa using h2
theorem FallsL.head {x : Int} {l : List Int} (h : FallsL (x :: l)) : 0 ≤ x ∧ (0 < l.length → l.getD 0 0 < x) := by
  refine ⟨by have := (h 0 (by simp)).1; simpa using this, fun h1 => ?_⟩
  have := (h 1 (by simpa using h1)).2 (by omega)
  simpa using this
/-- The first hook laid round q. -/
def hookOn (x y : Int) (q : List Int) : List Int := (x + 1) :: (q.map (· + 1) ++ List.replicate (y.toNat - q.length) 1)
theorem hookOn_getD {x y : Int} {q : List Int} (hy : (q.length : Int) ≤ y) (k : Nat) : (hookOn x y q).getD (k + 1) 0 = if k < q.length then q.getD k 0 + 1 else if (k : Int) < y then 1 else 0 := by
  unfold hookOn
  rw [List.getD_cons_succ, List.getD_eq_getElem?_getD]
  by_cases c : k < q.length
  · rw [if_pos c, List.getElem?_append_left (by simpa using c), List.getElem?_map, List.getD_eq_getElem?_getD, List.getElem?_eq_getElem c]; simp
  · rw [if_neg c, List.getElem?_append_right (by simpa using c), List.length_map, List.getElem?_replicate]
    by_cases c2 : (k : Int) < y
    · rw [if_pos c2, if_pos (by omega)]; simp
    · rw [if_neg c2, if_neg (by omega)]; simp
theorem hookOn_length {x y : Int} {q : List Int} (hy : (q.length : Int) ≤ y) : (hookOn x y q).length = y.toNat + 1 := by
  unfold hookOn; simp; omega
theorem sum_inc : ∀ q : List Int, (q.map (· + 1)).sum = q.sum + q.length
  | [] => rfl
  | x :: q => by rw [List.map_cons, List.sum_cons, List.sum_cons, sum_inc q, List.length_cons]; push_cast; omega
theorem sum_ones : ∀ n : Nat, (List.replicate n (1 : Int)).sum = n
  | 0 => rfl
  | n + 1 => by rw [List.replicate_succ, List.sum_cons, sum_ones n]; push_cast; omega
theorem hookOn_over {x y : Int} {q : List Int} (k : Nat) : overB (hookOn x y q) (k + 1) = overB q k + if (k : Int) < x then 1 else 0 := by
  unfold hookOn overB
  rw [List.countP_cons, List.countP_append, List.countP_map, List.countP_replicate]
  have e1 : ((fun x : Int => decide (((k + 1 : Nat) : Int) < x)) ∘ fun x => x + 1) = fun x : Int => decide ((k : Int) < x) := by
    funext z; simp
  rw [e1]
  have e2 : ¬ ((k + 1 : Nat) : Int) < 1 := by omega
  by_cases c : (k : Int) < x
  · have c2 : ((k + 1 : Nat) : Int) < x + 1 := by omega
    simp only [c, c2, e2, decide_true, decide_false, if_true]
    simp
  · have c2 : ¬ ((k + 1 : Nat) : Int) < x + 1 := by omega
    simp only [c, c2, e2, decide_false]
    simp
theorem hookOn_part {x y : Int} {q : List Int} (hq : IsPart q) (hx : 0 ≤ x) (h0 : q.getD 0 0 ≤ x) (hy : (q.length : Int) ≤ y) : IsPart (hookOn x y q) := by
  refine ⟨fun i hi => ?_, fun i hi h1 => ?_⟩
  · rw [hookOn_length hy] at hi
    cases i with
    | zero => show 1 ≤ x + 1; omega
    | succ k =>
      rw [hookOn_getD hy]
      by_cases c : k < q.length
      · rw [if_pos c]; have := hq.1 k c; omega
      · rw [if_neg c, if_pos (by omega)]; omega
  · rw [hookOn_length hy] at hi
    obtain ⟨k, rfl⟩ : ∃ k, i = k + 1 := ⟨i - 1, by omega⟩
    rw [hookOn_getD hy, Nat.add_sub_cancel]
    cases k with
    | zero =>
      show _ ≤ x + 1
      by_cases c : 0 < q.length
      · rw [if_pos c]; omega
      · rw [if_neg c]; split <;> omega
    | succ j =>
      rw [hookOn_getD hy]
      by_cases c : j + 1 < q.length
      · rw [if_pos c, if_pos (by omega)]
        have := hq.2 (j + 1) c (by omega)
        rw [Nat.add_sub_cancel] at this; omega
      · rw [if_neg c, if_pos (by omega : ((j + 1 : Nat) : Int) < y)]
        by_cases c2 : j < q.length
        · rw [if_pos c2]; have := hq.1 j c2; omega
        · rw [if_neg c2, if_pos (by omega)]; omega
theorem frob_ex : ∀ (xs ys : List Int), FallsL xs → FallsL ys → xs.length = ys.length →
    ∃ p, IsPart p ∧ p.sum = xs.sum + ys.sum + xs.length ∧ IsDiag p xs.length ∧ xs = armsOf p xs.length ∧ ys = armsOf (flipOf p) xs.length
  | [], ys, _, _, hl => by
    have : ys = [] := List.eq_nil_of_length_eq_zero (by rw [← hl]; rfl)
    subst this
    exact ⟨[], ⟨fun i hi => by simp at hi, fun i hi => by simp at hi⟩, rfl, ⟨fun i hi => by simp at hi, by simp⟩, rfl, rfl⟩
  | x :: xs, [], _, _, hl => by simp at hl
  | x :: xs, y :: ys, hx, hy, hl => by
    have hl2 : xs.length = ys.length := by simpa using hl
    obtain ⟨q, hq, hs, hd, hax, hay⟩ := frob_ex xs ys hx.tail hy.tail hl2
    obtain ⟨d, hdd⟩ : ∃ d, d = xs.length := ⟨_, rfl⟩
    rw [← hdd] at hs hd hax hay
    have hx0 := hx.head
    have hy0 := hy.head
    have hql : (flipOf q).getD 0 0 = q.length := by rw [flip_getD hq, overB_all hq]
    have hq0 : q.getD 0 0 ≤ x := by
      by_cases c : d = 0
      · have := hd.2; rw [c] at this; have := hx0.1; omega
      · have h1 := hx0.2 (by omega)
        rw [hax, armsOf_getD (by omega)] at h1; omega
    have hqy : (q.length : Int) ≤ y := by
      by_cases c : d = 0
      · have h1 := hd.2
        rw [c] at h1
        by_cases c2 : 0 < q.length
        · have := hq.1 0 c2; omega
        · have := hy0.1; omega
      · have h1 := hy0.2 (by omega)
        rw [hay, armsOf_getD (by omega), hql] at h1; omega
    have hp := hookOn_part hq hx0.1 hq0 hqy
    have hdiag : IsDiag (hookOn x y q) (d + 1) := by
      refine ⟨fun i hi => ?_, ?_⟩
      · cases i with
        | zero => show (0 : Int) < x + 1; have := hx0.1; omega
        | succ k =>
          have h1 := hd.1 k (by omega)
          have hk : k < q.length := by
            by_cases e : k < q.length
            · exact e
            · rw [getD_out (by omega)] at h1; omega
          rw [hookOn_getD hqy, if_pos hk]; omega
      · rw [hookOn_getD hqy]
        have := hd.2
        split
        · omega
        · split <;> omega
    have hlen : (x :: xs).length = d + 1 := by simp [hdd]
    rw [hlen]
    refine ⟨hookOn x y q, hp, ?_, hdiag, ?_, ?_⟩
    · show (x + 1) + (q.map (· + 1) ++ List.replicate (y.toNat - q.length) 1).sum = _
      rw [List.sum_append, sum_inc, sum_ones, List.sum_cons, List.sum_cons, hs]
      have := hy0.1
      omega
    · apply List.ext_getElem (by rw [armsOf_length]; exact hlen)
      intro i h1 h2
      rw [← getD_get (d := 0) h1, ← getD_get (d := 0) h2, armsOf_getD (by omega)]
      cases i with
      | zero => show x = (x + 1) - 0 - 1; omega
      | succ k =>
        have hk : k < d := by omega
        have e := hd.1 k hk
        have hkq : k < q.length := by
          by_cases c : k < q.length
          · exact c
          · rw [getD_out (by omega)] at e; omega
        rw [List.getD_cons_succ, hookOn_getD hqy, if_pos hkq, hax, armsOf_getD hk]
        push_cast; omega
    · apply List.ext_getElem (by rw [armsOf_length, List.length_cons, ← hl2, hdd])
      intro i h1 h2
      have hid : i < d + 1 := by rw [armsOf_length] at h2; exact h2
      rw [← getD_get (d := 0) h1, ← getD_get (d := 0) h2, armsOf_getD hid, flip_getD hp]
      cases i with
      | zero =>
        rw [overB_all hp, hookOn_length hqy]
        show y = _
        have := hy0.1
        omega
      | succ k =>
        have hk : k < d := by omega
        have e := hx0.2 (by omega)
        have hxk : (k : Int) < x := by
          have h3 := hd.1 k hk
          have h4 := hq.anti (i := 0) (j := k) (by omega)
          omega
        rw [List.getD_cons_succ, hookOn_over, if_pos hxk, hay, armsOf_getD hk, flip_getD hq]
        push_cast; omega
end Go.Proofs.YtpmkdihencepnaaGreat
