/-
  parking.Unrooted.
-/
import Derived.Test.YtdmpbbgcifodeaaRooM
import Derived.Test.YtdmpbbgcifodeaaQueL
import Derived.Test.YtdmpbbgcifodeaaTreeW
import Derived.Test.YtdmpbbgcifodeaaConL
namespace Go.Proofs.Ytdmpbbgcifodeaa
open Go.RowKit

def UTree (l : List Edge) : Prop := l.length ≤ 20 ∧ TreeB l 0 l.length
/-- What is told, as a region. -/
abbrev OR (gO n : Nat) (out : List Int) : Reg := ⟨3, 1, .slice (some ⟨gO, 0, none⟩) n n, n, ints out⟩
theorem AllR.setO {w : World} {B gO n : Nat} {out : List Int} {vQ : Value} {q : List Int} (h : AllR w B (QG (OR gO n out) vQ q)) (j : Nat) (y : Int) : AllR (w.setCell ⟨gO, j, none⟩ (.int .i64 y)) B (QG (OR gO n (out.set j y)) vQ q) := by
  refine h.set (x := 0) (c := n) rfl j (.int .i64 y) ?_ (fun z hz => ?_)
  · show Reg.mk _ _ _ _ (ints (out.set j y)) = Reg.mk _ _ _ _ ((ints out).set j (.int .i64 y))
    rw [ints, ints, List.map_set]; rfl
  · match z, hz with
    | 0, hz => exact absurd rfl hz
    | 1, _ => rfl
    | z + 2, _ => rfl

open Classical in
set_option maxRecDepth 100000 in
set_option maxHeartbeats 8000000 in
theorem unr_no (A : Option Addr) (cap : Nat) (l : List Edge) (w : World) (hcl : l.length ≤ 2000000) (h : Sl w w.heap.size A (pcells l)) (hno : ¬ UTree l) :
    Calls Try.prog 57 #[.slice A l.length cap] w fun e w' => (∃ k : Int, k ≠ 0 ∧ e = .returned (.tuple #[.slice none 0 0, .int .i64 k])) ∧ Below w.heap.size w w' := by
  go_enter Try.func57, Try.ntmps57
  by_cases hbig : l.length ≤ 20
  · have d0 : decide ((20 : Int) < (l.length : Int)) = false := decide_eq_false (by omega)
    have d0' : decide (20 < l.length) = false := decide_eq_false (by omega)
    have ht := tree_any A cap l 0 l.length w (by omega) hbig (by omega) h
    have hf : decide (TreeB l 0 l.length) = false := decide_eq_false (fun e => hno ⟨hbig, e⟩)
    have HT : Hid (Calls Try.prog 95 #[.slice A l.length cap, .int .i64 0, .int .i64 l.length] w fun e w' => e = .returned (.bool false) ∧ Below w.heap.size w w') := Lib.hid (by
      refine (show Calls _ _ _ _ _ from ht).mono ?_
      rintro e w' ⟨rfl, hb⟩
      exact ⟨by rw [hf], hb⟩)
    clear ht hf hno h
    go_wp2_with (first | (go_at_call 95; refine HT.out.mono ?_) | fail)
    rintro e w1 ⟨rfl, hb1⟩
    go_wp2
    go_ret2
    exact ⟨⟨1, by decide, rfl⟩, hb1⟩
  · have d0 : decide ((20 : Int) < (l.length : Int)) = true := decide_eq_true (by omega)
    have d0' : decide (20 < l.length) = true := decide_eq_true (by omega)
    clear hno h
    go_wp2
    go_ret2
    exact ⟨⟨2, by decide, rfl⟩, Below.refl _ _⟩

open Classical in
set_option maxRecDepth 100000 in
set_option maxHeartbeats 8000000 in
theorem unr_yes (A : Option Addr) (cap : Nat) (l : List Edge) (d : List Int) (w : World) (h20 : l.length ≤ 20) (h : Sl w w.heap.size A (pcells l)) (hc : Crit d) (hdl : d.length = l.length) (hp : ((edgesD d).map nrm).Perm (l.map nrm)) :
    Calls Try.prog 57 #[.slice A l.length cap] w fun e w' => (∃ A' cap', e = .returned (.tuple #[.slice A' l.length cap', .int .i64 0]) ∧ Sl w' w'.heap.size A' (ints d)) ∧ Below w.heap.size w w' := by
  have htb : TreeB l 0 l.length := tree0_iff.2 (by rw [← hdl]; exact hc.tree.perm hp)
  have ht := tree_any A cap l 0 l.length w (by omega) h20 (by omega) h
  have HT : Hid (Calls Try.prog 95 #[.slice A l.length cap, .int .i64 0, .int .i64 l.length] w fun e w' => e = .returned (.bool true) ∧ Below w.heap.size w w') := Lib.hid (by
    refine (show Calls _ _ _ _ _ from ht).mono ?_
    rintro e w' ⟨rfl, hb⟩
    exact ⟨by rw [decide_eq_true htb], hb⟩)
  have HS := Lib.hid h
  have HC := Lib.hid hc
  have HD := Lib.hid hdl
  have HP := Lib.hid hp
  obtain ⟨n, hn⟩ : ∃ n, n = l.length := ⟨_, rfl⟩
  have HN := Lib.hid hn
  have d0 : decide ((20 : Int) < (n : Int)) = false := decide_eq_false (by omega)
  have d0' : decide (20 < n) = false := decide_eq_false (by omega)
  have hn20 : n ≤ 20 := by omega
  clear h hc hdl hp ht htb
  go_enter Try.func57, Try.ntmps57
  rw [← hn] at HT ⊢
  clear hn h20
  go_wp2_with (first | (go_at_call 95; refine HT.out.mono ?_) | fail)
  rintro e w1 ⟨rfl, hb1⟩
  have hsz1 := hb1.size
  obtain ⟨N, hN⟩ : ∃ N, N = w.heap.size := ⟨_, rfl⟩
  have hNs : N ≤ w1.heap.size := by omega
  have hW1 : Below N w w1 := by rw [hN]; exact hb1
  have HNE := Lib.hid hN
  have HW1 := Lib.hid hW1
  clear hb1 hsz1 hN HT hW1
  go_upto_region 7 with (first | (refine wpList_mk (base := N) rfl (.tmp 18) (.tmp 18) rfl n rfl rfl (by omega) hNs (fun w2 hown2 hb2 hz2 => ?_)) | fail)
  obtain ⟨gO, hgO⟩ : ∃ g, g = w1.heap.size := ⟨_, rfl⟩
  rw [← hgO] at hown2 ⊢
  have hW2 : Below N w w2 := HW1.out.trans (hb2.mono hNs)
  have hz2' := hb2.size
  have hq := AllR.queue (w := w2) (B := N) (r := OR gO n (outT d 0 0)) (by
    have e := outT_start HC.out
    rw [HD.out, ← HN.out] at e
    show w2.ownsRow N _ _ _ _ (ints (outT d 0 0))
    rw [← e]
    exact hown2) (by omega) 0 (c := 1) rfl
  have hW3 := hW2.alloc (by omega) (.cells #[.int .i64 0] 3)
  clear hown2 hb2 hz2 hgO hW2 HW1 hNs
  go_upto_region 9 with fail
  obtain ⟨gQ, hgQ⟩ : ∃ g, g = w2.heap.size := ⟨_, rfl⟩
  obtain ⟨w3, hw3⟩ : ∃ w3, w3 = w2.alloc (.cells #[.int .i64 0] 3) := ⟨_, rfl⟩
  rw [← hgQ, ← hw3] at hq
  rw [← hw3] at hW3
  rw [← hgQ, ← hw3]
  have HQ := Lib.hid hq
  have HW3 := Lib.hid hW3
  clear hq hW3 hgQ hw3 hz2'
  go_loopw [6, 7] (fun qv tv wz => ∃ (vQ : Value) (t : Nat), vQ = qv ∧ t ≤ n + 1 ∧ tv = .int .i64 t ∧ AllR wz N (QG (OR gO n (outT d t 0)) vQ (Qd d t)) ∧ Below N w wz) (fun _ tv _ => n + 1 - (intOf tv).toNat)
  case atStart => exact ⟨_, 0, rfl, Nat.zero_le _, rfl, HQ.out, HW3.out⟩
  case round =>
    obtain ⟨w9, rfl⟩ : ∃ w9, w9 = wr := ⟨_, rfl⟩
    clear HQ HW3
    obtain ⟨vQ, t, rfl, htn1, rfl, hall, hW⟩ := hrel
    obtain ⟨AQ, cQ, rfl, -, hsq, hq1, hq2⟩ := own_slice hall.qOwn
    by_cases htn : t ≤ n
    · obtain ⟨hlt, hqg⟩ := HC.out.at_ (t := t) (by rw [HD.out, ← HN.out]; exact htn)
      obtain ⟨bq, oq, rfl, hbq⟩ := hsq.addr (by omega)
      have hcq := getD_cell hsq hlt
      rw [hqg] at hcq
      have hlf : (Qd d t).length ≤ n + 1 := by
        have := Qd_len_mono d (k := t) (m := d.length) (by rw [HD.out, ← HN.out]; exact htn)
        rw [HC.out.full, HD.out, ← HN.out] at this
        exact this
      obtain ⟨L, hL⟩ : ∃ L, L = (Qd d t).length := ⟨_, rfl⟩
      rw [← hL] at hlt hq1 hall hlf ⊢
      obtain ⟨x, hx⟩ : ∃ x, x = (Qd d d.length).getD t 0 := ⟨_, rfl⟩
      rw [← hx] at hcq
      have dt : decide (t < L) = true := decide_eq_true hlt
      have dt2 : decide ((t : Int) < (L : Int)) = true := decide_eq_true (by omega)
      have HX := Lib.hid hx
      have HALL := Lib.hid hall
      have HW := Lib.hid hW
      have HL := Lib.hid hL
      clear hx hall hW hqg hsq hL
      go_upto_region 13 with fail
      go_loopw [6, 9] (fun qv uv wz => ∃ (vQ2 : Value) (u j : Nat), vQ2 = qv ∧ u = j + 1 ∧ j ≤ n ∧ uv = .int .i64 u ∧ AllR wz N (QG (OR gO n (outT d t j)) vQ2 (Qd d t ++ kidsTo d (t + 1) j)) ∧ Below N w wz) (fun _ uv _ => n + 1 - (intOf uv).toNat)
      case atStart => exact ⟨_, 1, 0, rfl, rfl, Nat.zero_le _, rfl, by rw [kidsTo_zero, List.append_nil]; exact HALL.out, HW.out⟩
      case round =>
        obtain ⟨w8, rfl⟩ : ∃ w8, w8 = wr := ⟨_, rfl⟩
        clear HALL HW hcq
        obtain ⟨vQ2, u, j, rfl, hu, hj, rfl, hall, hW⟩ := hrel
        have HU := Lib.hid hu
        by_cases hun : u ≤ n
        · have du : decide (u ≤ n) = true := decide_eq_true hun
          have du2 : decide ((u : Int) ≤ (n : Int)) = true := decide_eq_true (by omega)
          have hu1 : (u : Int) - 1 = (j : Int) := by omega
          have hjd : j < d.length := by rw [HD.out, ← HN.out]; omega
          obtain ⟨b0, o0, rfl, hb0⟩ := psl_addr HS.out (by have := HN.out; omega)
          obtain ⟨z, hz1, hz2⟩ := outT_zero HC.out (t := t) (j := j) hjd
          have hown : w8.ownsRow N 3 1 (.slice (some ⟨gO, 0, none⟩) n n) n (ints (outT d t j)) := hall.own 0
          have hcz := own_get hown hz1
          have hask := asked HC.out HP.out (t := t) (by rw [HD.out, ← HN.out]; exact htn) hjd HX.out
          have hju : (j : Int) + 1 = (u : Int) := by omega
          rw [hju] at hask
          have hNs : N ≤ w8.heap.size := by have := hW.size; have := HNE.out; omega
          have hHC : ∀ (y y' : Int) (w' : World), Below w8.heap.size w8 w' → Calls Try.prog 98 #[.slice (some ⟨b0, o0, none⟩) n cap, .agg #[.int .i64 y, .int .i64 y']] w' fun e w'' => e = .returned (.bool (decide ((y, y') ∈ l))) ∧ Below w'.heap.size w' w'' := fun y y' w' hb => by
            have hsw : Sl w' w'.heap.size (some ⟨b0, o0, none⟩) (pcells l) := HS.out.keep (by
              have := hW.trans (hb.mono hNs)
              rw [HNE.out] at this
              exact this)
            have := con_any (cap := cap) y y' w' (by have := HN.out; omega) hsw
            rw [← HN.out] at this
            exact this
          obtain ⟨p1, hp1⟩ : ∃ p, p = decide ((x, (u : Int)) ∈ l) := ⟨_, rfl⟩
          obtain ⟨p2, hp2⟩ : ∃ p, p = decide (((u : Int), x) ∈ l) := ⟨_, rfl⟩
          have HC1 := Lib.hid (hHC x u)
          have HC2 := Lib.hid (hHC u x)
          rw [← hp1] at HC1
          rw [← hp2] at HC2
          have hask2 : (z = 0 ∧ (p1 = true ∨ p2 = true) ∧ (u : Int) ≠ x) ↔ d.getD j 0 = ((t + 1 : Nat) : Int) := by
            rw [← hask, hz2, hp1, hp2, decide_eq_true_iff, decide_eq_true_iff]
          have HASK := Lib.hid hask2
          have HALL := Lib.hid hall
          have HW := Lib.hid hW
          have HZ := Lib.hid hz1
          have HJD := Lib.hid hjd
          clear hask hask2 hHC hp1 hp2 hall hW hown hz1 hz2 hju hu hjd
          go_upto_region 15 with fail
          go_cut [60] (fun bv wz => bv = .bool (decide (d.getD j 0 = ((t + 1 : Nat) : Int))) ∧ Below w8.heap.size w8 wz)
          case first =>
            by_cases hz0 : z = 0
            · have e1 : (z == 0) = true := by simpa using hz0
              cases p1 with
              | true =>
                by_cases h4 : (u : Int) = x
                · have e4 : ((u : Int) != x) = false := by simp [h4]
                  have hfin : Hid (decide (d.getD j 0 = ((t + 1 : Nat) : Int)) = false) := decide_eq_false (fun h => (HASK.out.2 h).2.2 h4)
                  clear h4 hz0
                  go_wp2_with (first | (go_at_call 98; refine (HC1.out _ (Below.refl _ _)).mono ?_) | fail)
                  first | rintro e w7 rfl hb7 | rintro e w7 ⟨rfl, hb7⟩
                  go_wp2
                  go_meet
                  exact ⟨by rw [hfin.out], hb7⟩
                · have e4 : ((u : Int) != x) = true := by simpa using h4
                  have hfin : Hid (decide (d.getD j 0 = ((t + 1 : Nat) : Int)) = true) := decide_eq_true (HASK.out.1 ⟨hz0, .inl rfl, h4⟩)
                  clear hz0
                  go_wp2_with (first | (go_at_call 98; refine (HC1.out _ (Below.refl _ _)).mono ?_) | fail)
                  first | rintro e w7 rfl hb7 | rintro e w7 ⟨rfl, hb7⟩
                  go_wp2
                  go_meet
                  exact ⟨by rw [hfin.out], hb7⟩
              | false =>
                cases p2 with
                | true =>
                  by_cases h4 : (u : Int) = x
                  · have e4 : ((u : Int) != x) = false := by simp [h4]
                    have hfin : Hid (decide (d.getD j 0 = ((t + 1 : Nat) : Int)) = false) := decide_eq_false (fun h => (HASK.out.2 h).2.2 h4)
                    clear h4 hz0
                    go_wp2_with (first | (go_at_call 98; refine (HC1.out _ (Below.refl _ _)).mono ?_) | fail)
                    first | rintro e w7 rfl hb7 | rintro e w7 ⟨rfl, hb7⟩
                    go_wp2_with (first | (go_at_call 98; refine (HC2.out _ hb7).mono ?_) | fail)
                    first | rintro e w6 rfl hb6 | rintro e w6 ⟨rfl, hb6⟩
                    have hbb := hb7.trans (hb6.mono hb7.size)
                    go_wp2
                    go_meet
                    exact ⟨by rw [hfin.out], hbb⟩
                  · have e4 : ((u : Int) != x) = true := by simpa using h4
                    have hfin : Hid (decide (d.getD j 0 = ((t + 1 : Nat) : Int)) = true) := decide_eq_true (HASK.out.1 ⟨hz0, .inr rfl, h4⟩)
                    clear hz0
                    go_wp2_with (first | (go_at_call 98; refine (HC1.out _ (Below.refl _ _)).mono ?_) | fail)
                    first | rintro e w7 rfl hb7 | rintro e w7 ⟨rfl, hb7⟩
                    go_wp2_with (first | (go_at_call 98; refine (HC2.out _ hb7).mono ?_) | fail)
                    first | rintro e w6 rfl hb6 | rintro e w6 ⟨rfl, hb6⟩
                    have hbb := hb7.trans (hb6.mono hb7.size)
                    go_wp2
                    go_meet
                    exact ⟨by rw [hfin.out], hbb⟩
                | false =>
                  have hfin : Hid (decide (d.getD j 0 = ((t + 1 : Nat) : Int)) = false) := decide_eq_false (fun h => by rcases (HASK.out.2 h).2.1 with h' | h' <;> cases h')
                  clear hz0
                  go_wp2_with (first | (go_at_call 98; refine (HC1.out _ (Below.refl _ _)).mono ?_) | fail)
                  first | rintro e w7 rfl hb7 | rintro e w7 ⟨rfl, hb7⟩
                  go_wp2_with (first | (go_at_call 98; refine (HC2.out _ hb7).mono ?_) | fail)
                  first | rintro e w6 rfl hb6 | rintro e w6 ⟨rfl, hb6⟩
                  have hbb := hb7.trans (hb6.mono hb7.size)
                  go_wp2
                  go_meet
                  exact ⟨by rw [hfin.out], hbb⟩
            · have e1 : (z == 0) = false := by simpa using hz0
              have hfin : Hid (decide (d.getD j 0 = ((t + 1 : Nat) : Int)) = false) := decide_eq_false (fun h => hz0 (HASK.out.2 h).1)
              go_wp2
              go_meet
              exact ⟨by rw [hfin.out], Below.refl _ _⟩
          case rest =>
            obtain ⟨rfl, hb⟩ := hcut
            have hall7 := HALL.out.below hb
            have hW7 := HW.out.trans (hb.mono hNs)
            clear hcz hb HALL HW HC1 HC2
            by_cases hd : d.getD j 0 = ((t + 1 : Nat) : Int)
            · have e1 : decide (d.getD j 0 = ((t + 1 : Nat) : Int)) = true := decide_eq_true hd
              rw [e1]
              have hown : wc.ownsRow N 3 1 (.slice (some ⟨gO, 0, none⟩) n n) n (ints (outT d t j)) := hall7.own 0
              have hold := own_get hown HZ.out
              have hfz := hown.frozenAt j
              have hall6 := hall7.setO j (((t + 1 : Nat) : Int))
              rw [outT_yes hd] at hall6
              have hWs := hW7.setCell (p := ⟨gO, j, none⟩) (hall7.lt (x := 0) (b := gO) rfl).1 (.int .i64 (((t + 1 : Nat) : Int)))
              have hky := kidsTo_yes hd
              have hkl := kidsTo_le d (t + 1) j
              obtain ⟨q, hq⟩ : ∃ q, q = Qd d t ++ kidsTo d (t + 1) j := ⟨_, rfl⟩
              have hql : q.length ≤ 100 := by rw [hq, List.length_append, ← HL.out]; omega
              rw [← hq] at hall6
              have hqq : q ++ [(u : Int)] = Qd d t ++ kidsTo d (t + 1) (j + 1) := by
                rw [hq, hky, List.append_assoc, show (j : Int) + 1 = (u : Int) by have := HU.out; omega]
              have HQQ := Lib.hid hqq
              have e9 : ((t + 1 : Nat) : Int) = (t : Int) + 1 := by omega
              rw [e9] at hall6 hWs
              have HALL6 := Lib.hid hall6
              have HW6 := Lib.hid hWs
              clear e1 hd hall6 hWs hall7 hW7 hown hky hkl hq hqq e9
              go_upto_region 17 with fail
              obtain ⟨w6, hw6⟩ : ∃ w6, w6 = wc.setCell ⟨gO, j, none⟩ (.int .i64 ((t : Int) + 1)) := ⟨_, rfl⟩
              rw [← hw6] at HALL6 HW6 ⊢
              clear hw6 hold hfz
              obtain ⟨AQ2, cQ2, rfl, -, -, hc1, hc2⟩ := own_slice HALL6.out.qOwn
              have HO2 := Lib.hid HALL6.out.qOwn
              have hNs6 : N ≤ w6.heap.size := by have := HW6.out.size; have := HNE.out; omega
              go_upto_region 18 with (first | (at_builtin; refine wpList_app1I (base := N) (l := q) (v := .slice AQ2 q.length cQ2) rfl (.tmp 67) (.tmp 69) rfl rfl (u : Int) HO2.out w6.heap.size rfl rfl (by omega) (by omega) (fun g7 c7 w5 hown7 hg7 hat7 => ?_)) | fail)
              have hall5 := HALL6.out.appQ hown7 hg7 hat7
              have hW5 := below_app HW6.out hNs6 hg7 (fun b hb => (HALL6.out.lt (x := 1) (b := b) hb).1)
              rw [HQQ.out] at hall5
              have HALL5 := Lib.hid hall5
              have HW5 := Lib.hid hW5
              have HU2 : Hid (u + 1 = j + 1 + 1) := by rw [HU.out]; exact rfl
              have hjn : j + 1 ≤ n := by have := HU.out; omega
              clear hown7 hg7 hat7 hall5 hW5 HALL6 HW6 HO2
              go_wp2
              go_roundw
              case rel => exact ⟨_, u + 1, j + 1, rfl, HU2.out, hjn, by go_num, HALL5.out, HW5.out⟩
              case measure => simp [intOf]; omega
            · have e1 : decide (d.getD j 0 = ((t + 1 : Nat) : Int)) = false := decide_eq_false hd
              rw [e1]
              rw [outT_no hd, ← kidsTo_no hd] at hall7
              have HALL7 := Lib.hid hall7
              have HW7 := Lib.hid hW7
              have HU2 : Hid (u + 1 = j + 1 + 1) := by rw [HU.out]; exact rfl
              have hjn : j + 1 ≤ n := by have := HU.out; omega
              clear e1 hd hall7 hW7
              go_wp2
              go_roundw
              case rel => exact ⟨_, u + 1, j + 1, rfl, HU2.out, hjn, by go_num, HALL7.out, HW7.out⟩
              case measure => simp [intOf]; omega
        · have du : decide (u ≤ n) = false := decide_eq_false hun
          have du2 : decide ((u : Int) ≤ (n : Int)) = false := decide_eq_false (by omega)
          have hje : j = n := by omega
          have hkk : Qd d t ++ kidsTo d (t + 1) j = Qd d (t + 1) := by
            rw [hje, HN.out, ← HD.out, kidsTo_all]; rfl
          have hoo : outT d t j = outT d (t + 1) 0 := by
            rw [hje, HN.out, ← HD.out, outT_next]
          rw [hkk, hoo] at hall
          have HALL := Lib.hid hall
          have HW := Lib.hid hW
          clear hkk hoo hall hW hje hu hj
          go_wp2
          go_roundw
          case rel => exact ⟨_, t + 1, rfl, by omega, by go_num, HALL.out, HW.out⟩
          case measure => simp [intOf]; omega
      --END
    · have ht : t = d.length + 1 := by rw [HD.out, ← HN.out]; omega
      have hQl : (Qd d t).length = n + 1 := by rw [ht, Qd_more HC.out, HC.out.full, HD.out, ← HN.out]
      have hoo : outT d t 0 = d := outT_end HC.out (by omega)
      rw [hoo] at hall
      have ho : w9.ownsRow N 3 1 (.slice (some ⟨gO, 0, none⟩) n n) n (ints d) := hall.own 0
      obtain ⟨A2, c2, e2, -, hs2, -, -⟩ := own_slice ho
      obtain ⟨L, hL⟩ : ∃ L, L = (Qd d t).length := ⟨_, rfl⟩
      rw [← hL] at hQl hq1 ⊢
      have dt : decide (t < L) = false := decide_eq_false (by omega)
      have dt2 : decide ((t : Int) < (L : Int)) = false := decide_eq_false (by omega)
      have hsf : Hid (Sl w9 w9.heap.size (some ⟨gO, 0, none⟩) (ints d)) := by
        simp only [Value.slice.injEq] at e2
        rw [e2.1]; exact hs2
      have hWf : Hid (Below w.heap.size w w9) := by rw [← HNE.out]; exact hW
      clear hoo hall ho e2 hs2 hL hQl ht hW hsq
      go_wp2
      go_ret2
      exact ⟨⟨_, _, rfl, hsf.out⟩, hWf.out⟩
end Go.Proofs.Ytdmpbbgcifodeaa
