/-
  insert.twin, fill.Check, insert.fits: what they answer (printed by wip/mkTabl.py).
-/
import Derived.Ground.Names2Prog
import Derived.Shelf.Lay
import Derived.Shelf.Slices.SearchI
import Derived.Shelf.Slices.Empties
import Derived.Deep.RegionHeld3
import Derived.Deep.AppendLies
import Derived.BigRegion
import Derived.Test.YtpmkdihencepnaaMg02
import Derived.Test.YtpmkdihencepnaaMg03
import Derived.Test.YtpmkdihencepnaaMg04
import Derived.Test.YtpmkdihencepnaaMg05
import Derived.Test.YtpmkdihencepnaaMg06
namespace Go.Proofs.Ytpmkdihencepnaa
open Go.RowKit

set_option maxRecDepth 100000 in
theorem twin_any (A : Option Addr) (cap : Nat) (T : List (List Int)) (w : World) (hT : T.length < 1000000) (hrl : ∀ i, (T.getD i []).length < 1000000) (h : SR w w.heap.size A T) :
    Calls Try.prog 58 #[.slice A T.length cap] w fun e w' => (∃ v hs, e = .returned v ∧ OwnM w' w.heap.size v hs T) ∧ Below w.heap.size w w' := by
  go_enter Try.func58, Try.ntmps58
  go_wp2
  go_loopw [3, 8] (fun ov iv wr => ∃ (i : Nat) (hs : List Value), i ≤ T.length ∧ iv = .int .i64 i ∧ OwnM wr w.heap.size ov hs (T.take i) ∧ Below w.heap.size w wr) (fun _ iv _ => T.length - (intOf iv).toNat)
  case atStart => exact ⟨0, [], Nat.zero_le _, rfl, OwnM.nil _ _, Below.refl _ _⟩
  case round =>
    obtain ⟨i, hs, hi, rfl, hm, hW⟩ := hrel
    have HM := Lib.hid hm
    have hsz := hW.size
    clear hm
    by_cases hlt : i < T.length
    · have di : decide (i < T.length) = true := decide_eq_true hlt
      obtain ⟨b, o, rfl, hb⟩ := h.addr (by omega)
      have h2 := h.below hW
      obtain ⟨Ar, cr, hc, hr, _⟩ := h2.at_ hlt
      have hrl2 := hrl i
      obtain ⟨r, hre⟩ : ∃ r, r = T.getD i [] := ⟨_, rfl⟩
      rw [← hre] at hc hr hrl2
      have HRE := Lib.hid hre
      clear hre h2
      go_wp2_with (first | (go_at_call 75; refine (clone_any Ar cr r _ hrl2 (hr.more hsz)).mono ?_) | fail)
      rintro e w4 ⟨v4, rfl, hv4, hb4⟩
      obtain ⟨A4, c4, rfl, _, _, hle, _⟩ := own_sliceA hv4
      have hu4 := hv4.mono hsz
      have hfar := HM.out.far_new (u := .slice A4 r.length c4) (fun k hk => by
        have := (hv4.lt k hk).1; exact this)
      have hm4 := HM.out.below hb4
      have hmo := hm4.out
      rw [List.length_take, Nat.min_eq_left (by omega)] at hmo
      have HM4 := Lib.hid hm4
      have HMO := Lib.hid hmo
      have HU4 := Lib.hid hu4
      have HF := Lib.hid hfar
      have hW4 := hW.trans (hb4.mono hsz)
      have hB9 := Lib.hid hW4.size
      clear hm4 hmo hu4 hfar hv4 hb4
      go_wp2_with (first | (at_builtin; refine wpList_push (v := u3) rfl (.tmp 12) (.tmp 15) rfl rfl (.slice A4 r.length c4) rfl HMO.out w4.heap.size rfl rfl (by omega) hB9.out (fun g2 c2 w5 hl5 hg5 hat5 => ?_)) | fail)
      have hpush := (HM4.out.alloc (.cells #[.slice A4 r.length c4] 26)).push (u := .slice A4 r.length c4) (l := r) (HU4.out.alloc _) HF.out.1 HF.out.2 (by rw [List.length_take, Nat.min_eq_left (by omega)]) hl5 hg5 (by simpa using hat5)
      have hts : T.take i ++ [r] = T.take (i + 1) := by rw [getD_take_succ hlt, HRE.out]
      rw [hts] at hpush
      have hW5 : Below w.heap.size w w5 := (hW4.alloc hB9.out _).grown hg5 (by have := hB9.out; simp; omega) (fun k hk => (HMO.out.lt k hk).1)
      have HPU := Lib.hid hpush
      clear hpush hl5 hg5 hat5 hts
      go_wp2
      go_roundw
      case rel => exact ⟨i + 1, _, by omega, by go_num, HPU.out, hW5⟩
      case measure => simp [intOf]; omega
    · have di : decide (i < T.length) = false := decide_eq_false hlt
      have hm := HM.out
      rw [List.take_of_length_le (by omega)] at hm
      have HM2 := Lib.hid hm
      clear hm
      go_wp2
      go_ret
      exact ⟨⟨_, _, rfl, HM2.out⟩, hW⟩

set_option maxRecDepth 100000 in
set_option maxHeartbeats 2000000 in
theorem fcheck_any (A : Option Addr) (cap : Nat) (T : List (List Int)) (w : World) (hT : T.length ≤ 9223372036854775807) (h : SR w w.heap.size A T) :
    Calls Try.prog 35 #[.slice A T.length cap] w fun e w' => (∃ k : Int, e = .returned (.int .i64 k) ∧ (k = 0 → FillOk T) ∧ (FillOk T → k = 0)) ∧ w = w' := by
  go_enter Try.func35, Try.ntmps35
  go_wp2
  go_loop [3, 12] (fun lv iv => ∃ (i : Nat), i ≤ T.length ∧ iv = .int .i64 i ∧ boxes (T.take i) ≤ 40 ∧ lv = .int .i64 ((40 : Int) - (boxes (T.take i) : Int))) (fun _ iv => T.length - (intOf iv).toNat)
  case atStart => exact ⟨0, Nat.zero_le _, rfl, by simp [boxes], by simp [boxes]⟩
  case round =>
    obtain ⟨i, hi, rfl, hbx, rfl⟩ := hrel
    by_cases hlt : i < T.length
    · have di : decide (i < T.length) = true := decide_eq_true hlt
      obtain ⟨b, o, rfl, hb⟩ := h.addr (by omega)
      obtain ⟨Ar, cr, hc, _, hrl⟩ := h.at_ hlt
      have hbt := boxes_take hlt
      have hble := boxes_le (T := T) (i + 1)
      obtain ⟨q, hq⟩ : ∃ q, q = (T.getD i []).length := ⟨_, rfl⟩
      obtain ⟨p, hp⟩ : ∃ p, p = boxes (T.take i) := ⟨_, rfl⟩
      rw [← hq] at hc hrl hbt
      rw [← hp] at hbx hbt ⊢
      have HBT := Lib.hid hbt
      clear hq hp hbt
      by_cases hbig : 40 - (p : Int) < (q : Int)
      · have dq : decide (40 - (p : Int) < (q : Int)) = true := decide_eq_true hbig
        have hno : Hid (¬ FillOk T) := fun hh => by have := hh.2.2; have := HBT.out; omega
        clear hble
        go_wp2
        go_ret
        exact ⟨⟨2, rfl, by simp, fun hh => absurd hh hno.out⟩, rfl⟩
      · have dq : decide (40 - (p : Int) < (q : Int)) = false := decide_eq_false hbig
        clear hble
        go_wp2
        go_round
        case rel => exact ⟨i + 1, by omega, rfl, by have := HBT.out; omega, by rw [HBT.out]; go_num⟩
        case measure => simp [intOf]; omega
    · have di : decide (i < T.length) = false := decide_eq_false hlt
      have hb40 : Hid (boxes T ≤ 40) := by
        show _ ≤ _
        rwa [List.take_of_length_le (by omega)] at hbx
      obtain ⟨p, hp⟩ : ∃ p, p = boxes (T.take i) := ⟨_, rfl⟩
      rw [← hp]
      clear hp hbx
      go_wp2
      go_loop [27] (fun iv => ∃ (i : Nat), i ≤ T.length ∧ iv = .int .i64 i ∧ ∀ i', i' < i → RowOk T i') (fun iv => T.length - (intOf iv).toNat)
      case atStart => exact ⟨0, Nat.zero_le _, rfl, fun i' hi' => by omega⟩
      case round =>
        clear hlt di hi
        obtain ⟨i, hi, rfl, hrows⟩ := hrel
        have HR := Lib.hid hrows
        clear hrows
        by_cases hit : i < T.length
        · have di : decide (i < T.length) = true := decide_eq_true hit
          obtain ⟨b, o, rfl, hb⟩ := h.addr (by omega)
          obtain ⟨Ar, cr, hc, hr, hrl⟩ := h.at_ hit
          obtain ⟨q, hq⟩ : ∃ q, q = (T.getD i []).length := ⟨_, rfl⟩
          have HQ := Lib.hid hq
          rw [← hq] at hc hrl
          have hcells : Hid (∀ j, j < q → ∃ g p, Ar = some ⟨g, p, none⟩ ∧ w.cell? ⟨g, p + j, none⟩ = some (.int .i64 ((T.getD i []).getD j 0))) := fun j hj => by
            obtain ⟨g, p, e, _⟩ := hr.addr (by omega)
            subst e
            exact ⟨g, p, rfl, getD_cell hr (k := j) (by omega)⟩
          clear hq hr
          by_cases hq0 : q = 0
          · have dq : decide ((q : Int) = 0) = true := decide_eq_true (by omega)
            have hno : Hid (¬ FillOk T) := fun hh => (hh.row hit).1 (by rw [← HQ.out]; exact hq0)
            subst hq0
            go_wp2
            go_ret
            exact ⟨⟨1, rfl, by simp, fun hh => absurd hh hno.out⟩, rfl⟩
          · have hup : ∃ (q1 : Nat) (A1 : Option Addr) (c1 : Nat), q1 ≤ 9223372036854775807 ∧ (0 < i → w.cell? ⟨b, o + (i - 1), none⟩ = some (.slice A1 q1 c1) ∧ q1 = (T.getD (i - 1) []).length ∧ Sl w w.heap.size A1 (ints (T.getD (i - 1) []))) := by
              by_cases h0 : 0 < i
              · obtain ⟨A1, c1, hc1, hr1, hl1⟩ := h.at_ (r := i - 1) (by omega)
                exact ⟨_, A1, c1, hl1, fun _ => ⟨hc1, rfl, hr1⟩⟩
              · exact ⟨0, none, 0, by omega, fun h1 => absurd h1 h0⟩
            obtain ⟨q1, A1, c1, hq19, hup⟩ := hup
            have HUP := Lib.hid hup
            clear hup
            by_cases hlen : 0 < i ∧ q1 < q
            · have hno : Hid (¬ FillOk T) := fun hh => by
                have h1 := (hh.row hit).2.1 hlen.1
                rw [← HQ.out, ← (HUP.out hlen.1).2.1] at h1
                have := hlen.2; omega
              obtain ⟨h0, hq1⟩ := hlen
              have hc1 := (HUP.out h0).1
              have d0 : decide ((0 : Int) < (i : Int)) = true := decide_eq_true (by omega)
              have d1 : decide ((q1 : Int) < (q : Int)) = true := decide_eq_true (by omega)
              go_wp2
              go_ret
              exact ⟨⟨1, rfl, by simp, fun hh => absurd hh hno.out⟩, rfl⟩
            · have hlo : Hid (0 < i → q ≤ q1) := fun h0 => by
                apply Classical.byContradiction
                intro hn
                exact hlen ⟨h0, by omega⟩
              have dq : ((q : Int) == 0) = false := by simp; omega
              go_upto_region 12 with fail
              go_cut [49] (fun bv wz => bv = .bool false ∧ w = wz)
              case first =>
                by_cases h0 : 0 < i
                · have hc1 := (HUP.out h0).1
                  have hq1 := hlo.out h0
                  have d0 : decide ((0 : Int) < (i : Int)) = true := decide_eq_true (by omega)
                  have d1 : decide (q1 < q) = false := decide_eq_false (by omega)
                  go_wp2
                  go_meet
                  exact ⟨rfl, rfl⟩
                · have d0 : decide ((0 : Int) < (i : Int)) = false := decide_eq_false (by omega)
                  go_wp2
                  go_meet
                  exact ⟨rfl, rfl⟩
              case rest =>
                obtain ⟨rfl, rfl⟩ := hcut
                obtain ⟨g, p, rfl, _⟩ := hcells.out 0 (by omega)
                have hcl : Hid (∀ j, j < q → w.cell? ⟨g, p + j, none⟩ = some (.int .i64 ((T.getD i []).getD j 0))) := fun j hj => by
                  obtain ⟨g', p', e, hh⟩ := hcells.out j hj
                  obtain ⟨rfl, rfl⟩ : g = g' ∧ p = p' := by simpa using e
                  exact hh
                clear hcells dq
                go_wp2
                go_loop [52] (fun jv => ∃ (j : Nat), j ≤ q ∧ jv = .int .i64 j ∧ ∀ j', j' < j → BoxOk T i j') (fun jv => q - (intOf jv).toNat)
                case atStart => exact ⟨0, Nat.zero_le _, rfl, fun j' hj' => by omega⟩
                case round =>
                  obtain ⟨j, hj, rfl, hbs⟩ := hrel
                  have HJ := Lib.hid hbs
                  clear hbs
                  by_cases hjq : j < q
                  · have dj : decide (j < q) = true := decide_eq_true hjq
                    have hjl : j < (T.getD i []).length := by rw [← HQ.out]; exact hjq
                    have hcn := hcl.out j hjq
                    obtain ⟨n, hn⟩ : ∃ n, n = (T.getD i []).getD j 0 := ⟨_, rfl⟩
                    rw [← hn] at hcn
                    have HN : Hid ((T.getD i []).getD j 0 = n) := hn.symm
                    clear hn
                    obtain ⟨m, hm⟩ : ∃ m, (T.getD i []).getD (j - 1) 0 = m := ⟨_, rfl⟩
                    have HP := Lib.hid hm
                    obtain ⟨u, hu⟩ : ∃ u, (T.getD (i - 1) []).getD j 0 = u := ⟨_, rfl⟩
                    have HU := Lib.hid hu
                    have hcp : 0 < j → w.cell? ⟨g, p + (j - 1), none⟩ = some (.int .i64 m) := fun h0 => by rw [← hm]; exact hcl.out (j - 1) (by omega)
                    have HCP := Lib.hid hcp
                    have hcu : 0 < i → ∃ g1 p1, A1 = some ⟨g1, p1, none⟩ ∧ w.cell? ⟨g1, p1 + j, none⟩ = some (.int .i64 u) := fun h0 => by
                      obtain ⟨_, hl1, hs1⟩ := HUP.out h0
                      have hq1 := hlo.out h0
                      obtain ⟨g1, p1, e, _⟩ := hs1.addr (by omega)
                      subst e
                      exact ⟨g1, p1, rfl, by rw [← hu]; exact getD_cell hs1 (by omega)⟩
                    have HCU := Lib.hid hcu
                    clear hm hu hcp hcu
                    by_cases c1 : n < 1
                    · have e1 : decide (n < 1) = true := decide_eq_true c1
                      have hno : Hid (¬ FillOk T) := fun hh => by
                        have hb := (hh.row hit).2.2 j hjl
                        obtain ⟨⟨h1, h2⟩, h3, h4⟩ := hb
                        rw [HN.out] at h1 h2
                        first | omega | (have h5 := h3 (by omega); rw [HN.out, HP.out] at h5; omega) | (have h5 := h4 (by omega); rw [HN.out, HU.out] at h5; omega)
                      go_wp2
                      go_ret
                      exact ⟨⟨1, rfl, by simp, fun hh => absurd hh hno.out⟩, rfl⟩
                    · have e1 : decide (n < 1) = false := decide_eq_false c1
                      by_cases c2 : 99 < n
                      · have e2 : decide (99 < n) = true := decide_eq_true c2
                        have hno : Hid (¬ FillOk T) := fun hh => by
                          have hb := (hh.row hit).2.2 j hjl
                          obtain ⟨⟨h1, h2⟩, h3, h4⟩ := hb
                          rw [HN.out] at h1 h2
                          first | omega | (have h5 := h3 (by omega); rw [HN.out, HP.out] at h5; omega) | (have h5 := h4 (by omega); rw [HN.out, HU.out] at h5; omega)
                        go_wp2
                        go_ret
                        exact ⟨⟨1, rfl, by simp, fun hh => absurd hh hno.out⟩, rfl⟩
                      · have e2 : decide (99 < n) = false := decide_eq_false c2
                        by_cases h0 : 0 < j
                        · have e0 : decide ((0 : Int) < (j : Int)) = true := decide_eq_true (by omega)
                          have hcp := HCP.out h0
                          by_cases c3 : n < m
                          · have e3 : decide (n < m) = true := decide_eq_true c3
                            have hno : Hid (¬ FillOk T) := fun hh => by
                              have hb := (hh.row hit).2.2 j hjl
                              obtain ⟨⟨h1, h2⟩, h3, h4⟩ := hb
                              rw [HN.out] at h1 h2
                              first | omega | (have h5 := h3 (by omega); rw [HN.out, HP.out] at h5; omega) | (have h5 := h4 (by omega); rw [HN.out, HU.out] at h5; omega)
                            go_wp2
                            go_ret
                            exact ⟨⟨1, rfl, by simp, fun hh => absurd hh hno.out⟩, rfl⟩
                          · have e3 : decide (n < m) = false := decide_eq_false c3
                            by_cases hi0 : 0 < i
                            · have ei : decide ((0 : Int) < (i : Int)) = true := decide_eq_true (by omega)
                              have hc1 := (HUP.out hi0).1
                              have hq1 := hlo.out hi0
                              obtain ⟨g1, p1, rfl, hcu⟩ := HCU.out hi0
                              by_cases c4 : n ≤ u
                              · have e4 : decide (n ≤ u) = true := decide_eq_true c4
                                have hno : Hid (¬ FillOk T) := fun hh => by
                                  have hb := (hh.row hit).2.2 j hjl
                                  obtain ⟨⟨h1, h2⟩, h3, h4⟩ := hb
                                  rw [HN.out] at h1 h2
                                  first | omega | (have h5 := h3 (by omega); rw [HN.out, HP.out] at h5; omega) | (have h5 := h4 (by omega); rw [HN.out, HU.out] at h5; omega)
                                go_wp2
                                go_ret
                                exact ⟨⟨1, rfl, by simp, fun hh => absurd hh hno.out⟩, rfl⟩
                              · have e4 : decide (n ≤ u) = false := decide_eq_false c4
                                have hbx : Hid (BoxOk T i j) := ⟨⟨by rw [HN.out]; omega, by rw [HN.out]; omega⟩, fun h0 => by first | omega | (rw [HN.out, HP.out]; omega), fun h0 => by first | omega | (rw [HN.out, HU.out]; omega)⟩
                                go_wp2
                                go_round
                                case rel => exact ⟨j + 1, by omega, rfl, fun j' hj' => by
                                  by_cases e : j' = j
                                  · rw [e]; exact hbx.out
                                  · exact HJ.out j' (by omega)⟩
                                case measure => simp [intOf]; omega
                            · have ei : decide ((0 : Int) < (i : Int)) = false := decide_eq_false (by omega)
                              have hbx : Hid (BoxOk T i j) := ⟨⟨by rw [HN.out]; omega, by rw [HN.out]; omega⟩, fun h0 => by first | omega | (rw [HN.out, HP.out]; omega), fun h0 => by first | omega | (rw [HN.out, HU.out]; omega)⟩
                              go_wp2
                              go_round
                              case rel => exact ⟨j + 1, by omega, rfl, fun j' hj' => by
                                by_cases e : j' = j
                                · rw [e]; exact hbx.out
                                · exact HJ.out j' (by omega)⟩
                              case measure => simp [intOf]; omega
                        · have e0 : decide ((0 : Int) < (j : Int)) = false := decide_eq_false (by omega)
                          by_cases hi0 : 0 < i
                          · have ei : decide ((0 : Int) < (i : Int)) = true := decide_eq_true (by omega)
                            have hc1 := (HUP.out hi0).1
                            have hq1 := hlo.out hi0
                            obtain ⟨g1, p1, rfl, hcu⟩ := HCU.out hi0
                            by_cases c4 : n ≤ u
                            · have e4 : decide (n ≤ u) = true := decide_eq_true c4
                              have hno : Hid (¬ FillOk T) := fun hh => by
                                have hb := (hh.row hit).2.2 j hjl
                                obtain ⟨⟨h1, h2⟩, h3, h4⟩ := hb
                                rw [HN.out] at h1 h2
                                first | omega | (have h5 := h3 (by omega); rw [HN.out, HP.out] at h5; omega) | (have h5 := h4 (by omega); rw [HN.out, HU.out] at h5; omega)
                              go_wp2
                              go_ret
                              exact ⟨⟨1, rfl, by simp, fun hh => absurd hh hno.out⟩, rfl⟩
                            · have e4 : decide (n ≤ u) = false := decide_eq_false c4
                              have hbx : Hid (BoxOk T i j) := ⟨⟨by rw [HN.out]; omega, by rw [HN.out]; omega⟩, fun h0 => by first | omega | (rw [HN.out, HP.out]; omega), fun h0 => by first | omega | (rw [HN.out, HU.out]; omega)⟩
                              go_wp2
                              go_round
                              case rel => exact ⟨j + 1, by omega, rfl, fun j' hj' => by
                                by_cases e : j' = j
                                · rw [e]; exact hbx.out
                                · exact HJ.out j' (by omega)⟩
                              case measure => simp [intOf]; omega
                          · have ei : decide ((0 : Int) < (i : Int)) = false := decide_eq_false (by omega)
                            have hbx : Hid (BoxOk T i j) := ⟨⟨by rw [HN.out]; omega, by rw [HN.out]; omega⟩, fun h0 => by first | omega | (rw [HN.out, HP.out]; omega), fun h0 => by first | omega | (rw [HN.out, HU.out]; omega)⟩
                            go_wp2
                            go_round
                            case rel => exact ⟨j + 1, by omega, rfl, fun j' hj' => by
                              by_cases e : j' = j
                              · rw [e]; exact hbx.out
                              · exact HJ.out j' (by omega)⟩
                            case measure => simp [intOf]; omega
                  · have dj : decide (j < q) = false := decide_eq_false hjq
                    have hro : Hid (RowOk T i) := ⟨by rw [← HQ.out]; exact hq0, fun h0 => by
                      have h1 := hlo.out h0
                      have h2 := (HUP.out h0).2.1
                      rw [← HQ.out, ← h2]; exact h1, fun j' hj' => by
                      rw [← HQ.out] at hj'
                      exact HJ.out j' (by omega)⟩
                    go_wp2
                    go_round
                    case rel => exact ⟨i + 1, by omega, rfl, fun i' hi' => by
                      by_cases e : i' = i
                      · rw [e]; exact hro.out
                      · exact HR.out i' (by omega)⟩
                    case measure => simp [intOf]; omega
        · have di : decide (i < T.length) = false := decide_eq_false hit
          have hfin : Hid (FillOk T) := fill_of hb40.out (fun i' hi' => HR.out i' (by omega))
          go_wp2
          go_ret
          exact ⟨⟨0, rfl, fun _ => hfin.out, fun _ => rfl⟩, rfl⟩

/-- What insert.fits answers. -/
def FitOut (T : List (List Int)) (x k : Int) : Prop := (FillOk T → Lt x → k = if boxes T = 40 then 2 else 0) ∧ (k = 0 → FillOk T ∧ Lt x ∧ boxes T ≠ 40)
set_option maxRecDepth 100000 in
theorem fits_any (A : Option Addr) (cap : Nat) (T : List (List Int)) (x : Int) (w : World) (hT : T.length ≤ 9223372036854775807) (h : SR w w.heap.size A T) :
    Calls Try.prog 56 #[.slice A T.length cap, .int .i64 x] w fun e w' => (∃ k : Int, e = .returned (.int .i64 k) ∧ FitOut T x k) ∧ w = w' := by
  go_enter Try.func56, Try.ntmps56
  go_wp2_with (first | (go_at_call 35; refine (fcheck_any A cap T _ hT h).mono ?_) | fail)
  rintro e w1 ⟨⟨k, rfl, hk1, hk2⟩, rfl⟩
  by_cases hk : k = 0
  · have hok := hk1 hk
    have HOK := Lib.hid hok
    have hsm := hok.small
    have hb40 := hok.2.2
    subst hk
    clear hk1 hk2 hok
    by_cases c1 : x < 1
    · have e1 : decide (x < 1) = true := decide_eq_true c1
      go_wp2
      go_ret
      exact ⟨⟨1, rfl, fun _ hl => absurd hl.1 (by omega), fun e => absurd e (by decide)⟩, rfl⟩
    · have e1 : decide (x < 1) = false := decide_eq_false c1
      by_cases c2 : 99 < x
      · have e2 : decide (99 < x) = true := decide_eq_true c2
        go_wp2
        go_ret
        exact ⟨⟨1, rfl, fun _ hl => absurd hl.2 (by omega), fun e => absurd e (by decide)⟩, rfl⟩
      · have e2 : decide (99 < x) = false := decide_eq_false c2
        have hlt : Hid (Lt x) := ⟨by omega, by omega⟩
        go_wp2
        go_loop [6, 22] (fun nv iv => ∃ (i : Nat), i ≤ T.length ∧ iv = .int .i64 i ∧ nv = .int .i64 (boxes (T.take i))) (fun _ iv => T.length - (intOf iv).toNat)
        case atStart => exact ⟨0, Nat.zero_le _, rfl, by simp [boxes]⟩
        case round =>
          obtain ⟨i, hi, rfl, rfl⟩ := hrel
          by_cases hit : i < T.length
          · have di : decide (i < T.length) = true := decide_eq_true hit
            obtain ⟨b, o, rfl, hb⟩ := h.addr (by omega)
            obtain ⟨Ar, cr, hc, _, hrl⟩ := h.at_ hit
            have hbt := boxes_take hit
            have hble := boxes_le (T := T) (i + 1)
            obtain ⟨q, hq⟩ : ∃ q, q = (T.getD i []).length := ⟨_, rfl⟩
            obtain ⟨p, hp⟩ : ∃ p, p = boxes (T.take i) := ⟨_, rfl⟩
            rw [← hq] at hc hrl hbt
            rw [← hp] at hbt ⊢
            have hpq : p + q ≤ 40 := by omega
            have HBT := Lib.hid hbt
            clear hq hp hbt hble
            go_wp2
            go_round
            case rel => exact ⟨i + 1, by omega, rfl, by rw [HBT.out]; go_num⟩
            case measure => simp [intOf]; omega
          · have di : decide (i < T.length) = false := decide_eq_false hit
            have hbx : boxes (T.take i) = boxes T := by rw [List.take_of_length_le (by omega)]
            rw [hbx]
            clear hbx
            obtain ⟨p, hp⟩ : ∃ p, p = boxes T := ⟨_, rfl⟩
            have HPB := Lib.hid hp
            rw [← hp] at hb40 ⊢
            clear hp
            by_cases h40 : p = 40
            · have e40 : decide ((p : Int) = 40) = true := decide_eq_true (by omega)
              subst h40
              have hb : Hid (boxes T = 40) := HPB.out.symm
              go_wp2
              go_ret
              exact ⟨⟨2, rfl, fun _ _ => by rw [if_pos hb.out], fun e => absurd e (by decide)⟩, rfl⟩
            · have e40 : ((p : Int) == 40) = false := by simp; omega
              have hb : Hid (boxes T ≠ 40) := fun e => h40 (by rw [HPB.out]; exact e)
              go_wp2
              go_ret
              exact ⟨⟨0, rfl, fun _ _ => by rw [if_neg hb.out], fun _ => ⟨HOK.out, hlt.out, hb.out⟩⟩, rfl⟩
  · have hno : Hid (¬ FillOk T) := fun hh => hk (hk2 hh)
    have dk : (k != 0) = true := by simpa using hk
    have HK := Lib.hid hk
    clear hk1 hk2
    go_wp2
    go_ret
    exact ⟨⟨k, rfl, fun hh => absurd hh hno.out, fun e => absurd e HK.out⟩, rfl⟩

end Go.Proofs.Ytpmkdihencepnaa

/-
  slices.BinarySearch of ints; a row that is appended to, in its tableau; insert.put, insert.Insert.
-/
namespace Go.Proofs.Ytpmkdihencepnaa
open Go.RowKit Go.Proofs
open Go.Shelf Go.Lib Go.Sort

shelf_lay Lays2.n25 Nm2 25 at Try as Try.lays25

theorem search_any (A : Option Addr) (cap : Nat) (r : List Int) (x : Int) (w : World) (hb : r.length < 1000000) (hu : Up r) (h : Sl w w.heap.size A (ints r)) :
    Calls Try.prog 76 #[.slice A r.length cap, .int .i64 x] w fun e w' => (∃ z, e = .returned (.tuple #[.int .i64 (r.countP (· < x) : Nat), .bool z])) ∧ ∃ q, w' = w.drewN q := by
  by_cases h0 : 0 < r.length
  · obtain ⟨b, o, rfl, _⟩ := h.addr h0
    have := Any.slices_BinarySearch_int Try.lays25 b o r.length cap r x w (Nat.le_refl _) (by omega) (fun j hj => getD_cell h hj) (by rw [List.take_length]; exact hu)
    rw [List.take_length] at this
    exact this.mono (fun e w' hh => ⟨⟨_, hh.1⟩, hh.2⟩)
  · have e : r = [] := List.eq_nil_of_length_eq_zero (by omega)
    subst e
    exact (Any.slices_BinarySearch_int_empty Try.lays25 A cap x w).mono (fun e w' hh => ⟨⟨_, hh.1⟩, 0, hh.2⟩)

/-- Where a letter goes in. -/
theorem push1_at {r : List Int} {x : Int} (hu : Up r) : r.countP (· < x + 1) ≤ r.length ∧
    ((r.countP (· < x + 1) = r.length → push1 r x = (r ++ [x], none)) ∧ (∀ z, r[r.countP (· < x + 1)]? = some z → push1 r x = (r.set (r.countP (· < x + 1)) x, some z))) := by
  induction r with
  | nil => exact ⟨Nat.le_refl _, fun _ => rfl, fun z e => by simp at e⟩
  | cons a s ih =>
    obtain ⟨h1, h2, h3⟩ := ih hu.tail
    by_cases c : a < x + 1
    · rw [List.countP_cons_of_pos (by simpa using c), push1_ge (by omega)]
      refine ⟨by simp; omega, fun e => ?_, fun z e => ?_⟩
      · rw [h2 (by simpa using e)]; rfl
      · rw [h3 z (by simpa using e)]; rfl
    · have h0 : List.countP (fun y => decide (y < x + 1)) s = 0 := by
        rw [List.countP_eq_zero]
        intro y hy
        have := hu.head y hy
        simp; omega
      rw [List.countP_cons_of_neg (by simpa using c), push1_lt (by omega), h0]
      refine ⟨Nat.zero_le _, fun e => by simp at e, fun z e => ?_⟩
      obtain rfl : a = z := by simpa using e
      rfl
/-- In which row there is one more. -/
def irow : List (List Int) → Int → Nat
  | [], _ => 0
  | r :: t, x => match (push1 r x).2 with
    | none => 0
    | some z => irow t z + 1

/-- 'append(v, x)' of one int, with what else it leaves. -/
theorem wpList_app1g {w : World} {base : Nat} {l : List Int} {v : Value} {ops : Array Oper} {rest : List Oper} {o : Oper} {a : Act} {Q : Exit → Act → World → Prop} (hgd : o.guard = none) (s x : Operand)
    (ho : o.op = .call { callee := .builtin .append, args := #[s, x], argTypes := #[26, 26] }) (hs : a.eval s = v) (y : Int) {n : Nat}
    (hown : w.ownsRow base 3 1 v n (ints l)) (g0 : Nat) (hg0 : g0 = w.heap.size) (hx : a.eval x = .slice (some ⟨g0, 0, none⟩) 1 1) (hlen : n < 1000000) (hbase : base ≤ w.heap.size)
    (h : ∀ g cap w', w'.ownsRow base 3 1 (.slice (some ⟨g, 0, none⟩) (n + 1) cap) (n + 1) (ints (l ++ [y])) → (w.alloc (.cells #[.int .i64 y] 3)).grownBy w' v.ownBlock → (v.ownBlock = some g ∨ g = w.heap.size + 1) →
      wpList Try.prog ops Q rest (a.put o.dst (.slice (some ⟨g, 0, none⟩) (n + 1) cap)) w') :
    wpList Try.prog ops Q (o :: rest) a (w.alloc (.cells #[.int .i64 y] 3)) := by
  subst hg0
  obtain ⟨i0, hi, hz0, hz1, hz2⟩ := info_parts Try.infoInt
  refine wpList_append_lies _ hgd s x 26 ho base 3 i0 (.int .i64 0) 1 8 Try.underlying26 hi hz0 hz1 hz2 rfl (by decide) v n (ints l) hs (hown.alloc _) ⟨w.heap.size, 0, none⟩ 1 1 [.int .i64 y] hx rfl ?_ (by simp [Value.oneCell']) (by decide)
    (by unfold maxLen; omega) (by omega) (by simp; omega) _ rfl (fun g cap w' h1 h2 h3 _ => ?_)
  · intro j u hu
    match j, hu with
    | 0, hu => simp at hu; subst hu; simp [Addr.add]
  · exact h g cap w' (by simpa [ints] using h1) h2 (by simpa using h3)

theorem OwnM.put2 {w : World} {B g n c : Nat} {hs : List Value} {rows : List (List Int)} (hlen : hs.length = rows.length) (hn : n = rows.length) (hout : w.ownsRow B 26 1 (.slice (some ⟨g, 0, none⟩) n c) n hs) {i : Nat} (hi : i < rows.length)
    (hinn : ∀ r, r < rows.length → r ≠ i → w.ownsRow B 3 1 (hs.getD r undef) (rows.getD r []).length (ints (rows.getD r [])))
    (hfar : ∀ r s, r < rows.length → s < rows.length → r ≠ i → s ≠ i → r ≠ s → Far (hs.getD r undef) (hs.getD s undef))
    (htop : ∀ r, r < rows.length → r ≠ i → Far (.slice (some ⟨g, 0, none⟩) n c) (hs.getD r undef))
    {u : Value} {l : List Int} (hu : w.ownsRow B 3 1 u l.length (ints l)) (hf : ∀ r, r < rows.length → r ≠ i → Far (hs.getD r undef) u) (hv : Far (.slice (some ⟨g, 0, none⟩) n c) u) :
    OwnM (w.setCell ⟨g, i, none⟩ u) B (.slice (some ⟨g, 0, none⟩) n c) (hs.set i u) (rows.set i l) := by
  have hL : (rows.set i l).length = rows.length := by simp
  subst hn
  have hil : i < hs.length := by rw [hlen]; exact hi
  have other : ∀ {base m : Nat} {e : TypeId} {x : Value} {cs : List Value}, w.ownsRow base e 1 x m cs → (∀ k, x.ownBlock = some k → k ≠ g) → (w.setCell ⟨g, i, none⟩ u).ownsRow base e 1 x m cs := by
    intro base m e x cs ho hne
    refine ⟨ho.1, ?_⟩
    rcases ho.2 with hn | ⟨g', cap, cur, e1, hg', hh, rest⟩
    · exact .inl hn
    · refine .inr ⟨g', cap, cur, e1, hg', ?_, rest⟩
      have : g' ≠ g := hne g' (by rw [e1]; rfl)
      rw [← hh]
      simp [World.setCell, Array.getElem?_modify, Ne.symm this]
  have hgb : ∀ x : Value, Far (.slice (some ⟨g, 0, none⟩) rows.length c) x → ∀ k, x.ownBlock = some k → k ≠ g := fun x hf k hk e => by
    subst e; exact hf k rfl hk
  have here : (hs.set i u).getD i undef = u ∧ (rows.set i l).getD i [] = l := by
    rw [List.getD_eq_getElem?_getD, List.getD_eq_getElem?_getD, List.getElem?_set_self hil, List.getElem?_set_self hi]; exact ⟨rfl, rfl⟩
  have there : ∀ r, r ≠ i → (hs.set i u).getD r undef = hs.getD r undef ∧ (rows.set i l).getD r [] = rows.getD r [] := fun r hr => by
    simp only [List.getD_eq_getElem?_getD, List.getElem?_set_ne (fun e => hr (Eq.symm e))]; exact ⟨trivial, trivial⟩
  refine ⟨by rw [hL, List.length_set]; exact hlen, ?_, fun r hr => ?_, fun r s hr hs' hne => ?_, fun r hr => ?_⟩
  · rw [hL]; exact (hout.stored i u).1
  · rw [hL] at hr
    by_cases e : r = i
    · subst e; rw [here.1, here.2]; exact other hu (hgb u hv)
    · rw [(there r e).1, (there r e).2]; exact other (hinn r hr e) (hgb _ (htop r hr e))
  · rw [hL] at hr hs'
    by_cases e : r = i
    · subst e
      rw [here.1, (there s (Ne.symm hne)).1]; exact (hf s hs' (Ne.symm hne)).symm
    · by_cases e2 : s = i
      · subst e2
        rw [here.1, (there r hne).1]; exact hf r hr hne
      · rw [(there r e).1, (there s e2).1]; exact hfar r s hr hs' e e2 hne
  · rw [hL] at hr
    by_cases e : r = i
    · subst e; rw [here.1]; exact hv
    · rw [(there r e).1]; exact htop r hr e
/-- A row that was appended to, laid back in its place. -/
theorem OwnM.app {w w' : World} {B G n c : Nat} {hs : List Value} {rows : List (List Int)} (h : OwnM w B (.slice (some ⟨G, 0, none⟩) n c) hs rows) {i : Nat} (hi : i < rows.length) {l : List Int} {g cap m : Nat} {o : Obj} (hm : m = l.length)
    (ho : w'.ownsRow B 3 1 (.slice (some ⟨g, 0, none⟩) m cap) m (ints l)) (hg : (w.alloc o).grownBy w' (hs.getD i undef).ownBlock) (hat : (hs.getD i undef).ownBlock = some g ∨ g = w.heap.size + 1) :
    OwnM (w'.setCell ⟨G, i, none⟩ (.slice (some ⟨g, 0, none⟩) m cap)) B (.slice (some ⟨G, 0, none⟩) n c) (hs.set i (.slice (some ⟨g, 0, none⟩) m cap)) (rows.set i l) := by
  have hn : n = rows.length := by
    rcases h.out.2 with ⟨e1, _⟩ | ⟨_, _, _, e1, _⟩
    · cases e1
    · injection e1
  subst hm
  have nf : ∀ x : Value, Far (hs.getD i undef) x → (∀ k, x.ownBlock = some k → k < w.heap.size) → Far x (.slice (some ⟨g, 0, none⟩) l.length cap) := fun x hx hlt k hk e => by
    obtain rfl : g = k := by simpa [Value.ownBlock] using e
    rcases hat with e2 | e2
    · exact hx _ e2 hk
    · have := hlt _ hk; omega
  have hto := h.out
  rw [← hn] at hto
  exact OwnM.put2 h.len hn ((hto.alloc o).kept hg (h.top i hi).symm.ne) hi (fun r hr hne => ((h.inn r hr).alloc o).kept hg (h.far i r hi hr (Ne.symm hne)).ne)
    (fun r s hr hs' _ _ hne => h.far r s hr hs' hne) (fun r hr _ => h.top r hr) ho (fun r hr hne => nf _ (h.far i r hi hr (Ne.symm hne)) (fun k hk => ((h.inn r hr).lt k hk).2))
    (nf _ (h.top i hi).symm (fun k hk => (h.out.lt k hk).2))

/-- What has been put in and what is to come make the tableau. -/
structure Putting (T : List (List Int)) (x : Int) (i : Nat) (x' : Int) (D : List (List Int)) : Prop where
  len : D.length = i
  ins : ins1 T x = D ++ ins1 (T.drop i) x'
  row : irow T x = i + irow (T.drop i) x'
theorem Putting.start (T : List (List Int)) (x : Int) : Putting T x 0 x [] := ⟨rfl, by simp, by simp⟩
theorem drop_row {T : List (List Int)} {i : Nat} (hi : i < T.length) : T.drop i = T.getD i [] :: T.drop (i + 1) := by
  rw [List.drop_eq_getElem_cons hi, getD_get hi]
theorem Putting.on {T : List (List Int)} {x x' z : Int} {i : Nat} {D : List (List Int)} (h : Putting T x i x' D) (hi : i < T.length) (hp : (push1 (T.getD i []) x').2 = some z) : Putting T x (i + 1) z (D ++ [(push1 (T.getD i []) x').1]) := by
  refine ⟨by simp [h.len], ?_, ?_⟩
  · rw [h.ins, drop_row hi]; simp only [ins1]; rw [hp]; simp
  · rw [h.row, drop_row hi]; simp only [irow]; rw [hp]; simp; omega
theorem Putting.stop {T : List (List Int)} {x x' : Int} {i : Nat} {D : List (List Int)} (h : Putting T x i x' D) (hi : i < T.length) (hp : (push1 (T.getD i []) x').2 = none) : ins1 T x = (D ++ T.drop i).set i (push1 (T.getD i []) x').1 ∧ irow T x = i := by
  constructor
  · rw [h.ins, drop_row hi]; simp only [ins1]; rw [hp, ← h.len]; simp
  · rw [h.row, drop_row hi]; simp only [irow]; rw [hp]; rfl
theorem Putting.end_ {T : List (List Int)} {x x' : Int} {i : Nat} {D : List (List Int)} (h : Putting T x i x' D) (hi : i = T.length) : ins1 T x = D ++ [[x']] ∧ irow T x = i ∧ D ++ T.drop i = D := by
  have e : T.drop i = [] := List.drop_of_length_le (by omega)
  refine ⟨by rw [h.ins, e]; rfl, by rw [h.row, e]; rfl, by rw [e]; simp⟩
theorem Putting.cur {T : List (List Int)} {x x' : Int} {i : Nat} {D : List (List Int)} (h : Putting T x i x' D) (hi : i < T.length) : (D ++ T.drop i).length = T.length ∧ (D ++ T.drop i).getD i [] = T.getD i [] ∧ ∀ r, (D ++ T.drop i).set i r = (D ++ [r]) ++ T.drop (i + 1) := by
  refine ⟨by simp [h.len]; omega, ?_, fun r => ?_⟩
  · rw [drop_row hi, List.getD_eq_getElem?_getD, List.getElem?_append_right (by rw [h.len]; omega)]; simp [h.len]
  · rw [drop_row hi, ← h.len]; simp
end Go.Proofs.Ytpmkdihencepnaa

/-
  insert.put, insert.Insert: what they answer.
-/
namespace Go.Proofs.Ytpmkdihencepnaa
open Go.RowKit

theorem lt_wrap {x : Int} (h : Lt x) : IntKind.i64.wrap (x + 1) = x + 1 := IntWalk.i64_in _ (by have := h.1; have := h.2; omega)

/-- What insert.put answers. -/
def PutOut (e : Ending) (w : World) (B : Nat) (T : List (List Int)) (x : Int) : Prop := ∃ v' hs', e = .returned (.tuple #[v', .int .i64 (irow T x)]) ∧ OwnM w B v' hs' (ins1 T x)
set_option maxRecDepth 100000 in
set_option maxHeartbeats 1000000 in
theorem put_any {B : Nat} (v : Value) (hs0 : List Value) (T : List (List Int)) (x : Int) (w : World) (hB : B ≤ w.heap.size) (hm : OwnM w B v hs0 T) (ht : Tab T) (hsm : T.length ≤ 1000 ∧ ∀ i, (T.getD i []).length ≤ 1000) (hlt : ∀ r ∈ T, ∀ y ∈ r, Lt y) (hx : Lt x) :
    Calls Try.prog 57 #[v, .int .i64 x] w fun e w' => PutOut e w' B T x ∧ Below B w w' := by
  obtain ⟨A, c, rfl, -, -, -⟩ := hm.sr
  have HM0 := Lib.hid hm
  have HT := Lib.hid ht
  have HSM := Lib.hid hsm
  have HLT := Lib.hid hlt
  have hT1 := hsm.1
  have HX := Lib.hid hx
  clear hm ht hsm hlt hx
  go_enter Try.func57, Try.ntmps57
  go_wp2
  go_loopw [1, 12] (fun xv iv wr => ∃ (i : Nat) (x' : Int) (D : List (List Int)) (hs : List Value), i ≤ T.length ∧ iv = .int .i64 i ∧ xv = .int .i64 x' ∧ Lt x' ∧ Putting T x i x' D ∧ OwnM wr B (.slice A T.length c) hs (D ++ T.drop i) ∧ Below B w wr) (fun _ iv _ => T.length - (intOf iv).toNat)
  case atStart => exact ⟨0, x, [], hs0, Nat.zero_le _, rfl, rfl, HX.out, Putting.start T x, by simpa using HM0.out, Below.refl _ _⟩
  case round =>
    clear HM0
    obtain ⟨i, x', D, hs, hi, rfl, rfl, hlx, hpt, hm, hW⟩ := hrel
    have HLX := Lib.hid hlx
    have HPT := Lib.hid hpt
    have HM := Lib.hid hm
    have hsz := Nat.le_trans hB hW.size
    by_cases hit : i < T.length
    · have di : decide (i < T.length) = true := decide_eq_true hit
      obtain ⟨hcl, hcr, hcs⟩ := hpt.cur hit
      have hmo := hm.out
      rw [hcl] at hmo
      obtain ⟨G, c', e1, hG, hGs⟩ := hmo.form (by omega)
      obtain ⟨rfl, rfl⟩ : A = some ⟨G, 0, none⟩ ∧ c = c' := by injection e1 with e2 _ e3; exact ⟨e2, e3⟩
      have hne : T.getD i [] ≠ [] := HT.out.ne _ (by rw [getD_get hit]; exact List.getElem_mem hit)
      have hpos : 0 < (T.getD i []).length := by
        apply Nat.pos_of_ne_zero
        intro e
        exact hne (List.eq_nil_of_length_eq_zero e)
      obtain ⟨gr, cr, hhr, hcc, hor, hg1, hg2⟩ := hm.row (r := i) (by rw [hcl]; exact hit) (by rw [hcr]; exact hpos)
      rw [hcr] at hhr hcc hor
      have hup := HT.out.upD i
      have hrl := HSM.out.2 i
      obtain ⟨r, hr⟩ : ∃ r, r = T.getD i [] := ⟨_, rfl⟩
      rw [← hr] at hhr hcc hor hup hrl hpos
      have HR := Lib.hid hr
      have hwr := lt_wrap hlx
      obtain ⟨k1, k2, k3⟩ := push1_at (x := x') hup
      have hbs := search_any (some ⟨gr, 0, none⟩) cr r (x' + 1) wr (by omega) hup (Sl.of_own hor)
      obtain ⟨k, hk⟩ : ∃ k, k = r.countP (· < x' + 1) := ⟨_, rfl⟩
      rw [← hk] at k1 k2 k3 hbs
      have HBS := Lib.hid hbs
      have K2 := Lib.hid k2
      have K3 := Lib.hid k3
      have HHR := Lib.hid hhr
      have HOR := Lib.hid hor
      have HCS := Lib.hid hcs
      clear hlx hpt hm hmo hne hup hbs k2 k3 hhr hor hcs hk hr e1
      go_wp2_with (first | (go_at_call 76; refine HBS.out.mono ?_) | fail)
      rintro e w4 ⟨⟨z, rfl⟩, q, rfl⟩
      have HM4 := Lib.hid (HM.out.drewN q)
      have HOR4 := Lib.hid (own_drewN HOR.out q)
      have hW4 := below_drewN hW q
      have hcc4 : (wr.drewN q).cell? ⟨G, i, none⟩ = some (.slice (some ⟨gr, 0, none⟩) r.length cr) := hcc
      have hfz := HM4.out.out
      rw [hcl] at hfz
      have hfar := Lib.hid ((HM4.out.top i (by rw [hcl]; exact hit)).symm.ne)
      rw [HHR.out] at hfar
      have hsz4 : B ≤ (wr.drewN q).heap.size := hsz
      have hgr4 : gr < (wr.drewN q).heap.size := hg2
      obtain ⟨w5, hw5⟩ : ∃ w5, w5 = wr.drewN q := ⟨_, rfl⟩
      rw [← hw5] at HM4 HOR4 hW4 hcc4 hfz hsz4 hgr4 ⊢
      have HFZ := Lib.hid hfz
      have HW4 := Lib.hid hW4
      clear hw5 HBS HM HOR hW hcc hsz hg2 hGs hfz hW4 wr
      by_cases hkl : k = r.length
      · have dk : decide ((k : Int) = (r.length : Int)) = true := decide_eq_true (by omega)
        have hpu := K2.out hkl
        have HPU := Lib.hid hpu
        clear hpu
        go_wp2_with (first | (at_builtin; refine wpList_app1g rfl (.tmp 30) (.tmp 32) rfl rfl x' HOR4.out w5.heap.size rfl rfl (by omega) hsz4 (fun g2 c2 w6 hl6 hg6 hat6 => ?_); have ho6 := (HFZ.out.alloc (.cells #[.int .i64 x'] 3)).kept hg6 hfar.out; have hc6 := ho6.cellAt i (by omega); have hf6 := ho6.frozenAt i; rw [HM4.out.get (by rw [hcl]; exact hit)] at hc6; have HL6 := Lib.hid hl6; have HG6 := Lib.hid hg6; have HAT6 := Lib.hid hat6; clear ho6 hl6 hg6 hat6) | fail)
        go_ret2
        obtain ⟨e1, e2⟩ := HPT.out.stop hit (by rw [← HR.out, HPU.out])
        rw [← HR.out, HPU.out] at e1
        have happ := HM4.out.app (i := i) (by rw [hcl]; exact hit) (l := r ++ [x']) (by simp) HL6.out (by rw [HHR.out]; exact HG6.out) (by rw [HHR.out]; exact HAT6.out)
        rw [← e1] at happ
        exact ⟨⟨_, _, by rw [e2]; rfl, happ⟩, ((HW4.out.alloc hsz4 _).grown HG6.out (by simp; omega) (fun b hb => by
          have hb2 : (some gr : Option Nat) = some b := hb
          cases hb2
          exact hg1)).setCell (p := ⟨G, i, none⟩) hG _⟩
      · have hkl2 : k < r.length := by omega
        have dk : decide ((k : Int) = (r.length : Int)) = false := decide_eq_false (by omega)
        obtain ⟨z2, hz2⟩ : ∃ z2, r[k]? = some z2 := ⟨_, List.getElem?_eq_getElem hkl2⟩
        have hpu := K3.out z2 hz2
        have hzl : Hid (Lt z2) := HLT.out r (by rw [HR.out, getD_get hit]; exact List.getElem_mem hit) z2 (List.mem_of_getElem? hz2)
        have hck := own_get HOR4.out hz2
        have hfk := HOR4.out.frozenAt k
        have hst := HM4.out.setIn (r := i) (g := gr) (c := cr) (by rw [hcl]; exact hit) (by rw [hcr, ← HR.out]; exact HHR.out) k x'
        rw [hcr, ← HR.out, HCS.out] at hst
        have hnx := HPT.out.on hit (by rw [← HR.out, hpu])
        rw [← HR.out, hpu] at hnx
        have HST := Lib.hid hst
        have HNX := Lib.hid hnx
        clear hpu hst hnx hz2
        go_wp2
        go_roundw
        case rel => exact ⟨i + 1, z2, _, hs, by omega, rfl, rfl, hzl.out, HNX.out, HST.out, HW4.out.setCell (p := ⟨gr, k, none⟩) hg1 _⟩
        case measure => simp [intOf]; omega
    · have di : decide (i < T.length) = false := decide_eq_false hit
      obtain ⟨e1, e2, e3⟩ := hpt.end_ (by omega)
      have hDl : D.length = T.length := by rw [hpt.len]; omega
      rw [e3] at hm
      have hm2 := hm.alloc (.cells #[.int .i64 x'] 3)
      have hmo := hm2.out
      rw [hDl] at hmo
      have hlit := World.ownsRow_lit (e := 3) (size := 1) (base := B) wr #[.int .i64 x'] 1 hsz (by decide) rfl
      have hfar := hm.far_new (u := .slice (some ⟨wr.heap.size, 0, none⟩) 1 1) (fun k hk => by
        obtain rfl : wr.heap.size = k := by simpa [Value.ownBlock] using hk
        exact Nat.le_refl _)
      have HM2 := Lib.hid hm2
      have HMO := Lib.hid hmo
      have HLIT := Lib.hid hlit
      have HFAR := Lib.hid hfar
      have E1 := Lib.hid e1
      have E2 := Lib.hid e2
      clear hm hm2 hmo hlit hfar hpt e1 e2 e3 HM
      go_wp2_with (first | (at_builtin; refine wpList_push (v := .slice A T.length c) rfl (.tmp 46) (.tmp 49) rfl rfl (.slice (some ⟨wr.heap.size, 0, none⟩) 1 1) rfl HMO.out (wr.heap.size + 1) (by simp) rfl (by omega) (by simp; omega) (fun g2 c2 w5 hl5 hg5 hat5 => ?_)) | fail)
      have hpush := (HM2.out.alloc (.cells #[.slice (some ⟨wr.heap.size, 0, none⟩) 1 1] 26)).push (u := .slice (some ⟨wr.heap.size, 0, none⟩) 1 1) (l := [x']) (HLIT.out.alloc _) HFAR.out.1 HFAR.out.2 (by rw [hDl]) hl5 hg5 (by simpa using hat5)
      have hW5 : Below B w w5 := ((hW.alloc hsz _).alloc (by simp; omega) _).grown hg5 (by simp; omega) (fun k hk => (HMO.out.lt k hk).1)
      rw [← E1.out] at hpush
      have HPU := Lib.hid hpush
      clear hpush hl5 hg5 hat5
      go_wp2
      go_ret2
      have hit2 : i = T.length := by omega
      exact ⟨⟨_, _, by rw [E2.out, hit2]; rfl, HPU.out⟩, hW5⟩
end Go.Proofs.Ytpmkdihencepnaa

/-
  What a call leaves untouched; insert.put once more, with what it leaves (printed by wip/mkP5.py).
-/
namespace Go.Proofs.Ytpmkdihencepnaa
open Go.RowKit

/-- 'append(v, y)' at a step of a region that draws: y was laid in a block of its own. -/
theorem step_app1 {w : World} {base : Nat} {l : List Int} {v : Value} {ops : Array Oper} {o : Oper} {a : Act} {K : Act → World → Prop} {Q : Exit → Act → World → Prop} {E : Prop} (hgd : o.guard = none) (s x : Operand)
    (ho : o.op = .call { callee := .builtin .append, args := #[s, x], argTypes := #[26, 26] }) (hs : a.eval s = v) (y : Int) (n : Nat) (g0 : Nat)
    (hx : a.eval x = .slice (some ⟨g0, 0, none⟩) 1 1) (hown : w.ownsRow base 3 1 v n (ints l)) (hlit : w.heap[g0]? = some (.cells #[.int .i64 y] 3)) (hlen : n < 1000000) (hbase : base ≤ w.heap.size)
    (h : ∀ g cap w', w'.ownsRow base 3 1 (.slice (some ⟨g, 0, none⟩) (n + 1) cap) (n + 1) (ints (l ++ [y])) → w.grownBy w' v.ownBlock → (v.ownBlock = some g ∨ g = w.heap.size) → g < w'.heap.size →
      K (a.put o.dst (.slice (some ⟨g, 0, none⟩) (n + 1) cap)) w') :
    if Region.wanted o (yielded ops a.tmps) = true then Oper.wp Try.prog o a w K Q else E := by
  obtain ⟨i0, hi, hz0, hz1, hz2⟩ := info_parts Try.infoInt
  refine step_append_lies _ hgd s x 26 ho base 3 i0 (.int .i64 0) 1 8 Try.underlying26 hi hz0 hz1 hz2 rfl (by decide) v n (ints l) hs hown ⟨g0, 0, none⟩ 1 1 [.int .i64 y] hx rfl (World.news_of_block (cs := #[.int .i64 y]) hlit) (by simp [Value.oneCell']) (by decide)
    (by unfold maxLen; omega) (by omega) hbase _ rfl (fun g cap w' h1 h2 h3 h4 => h g cap w' (by simpa [ints] using h1) h2 h3 h4)

end Go.Proofs.Ytpmkdihencepnaa

/-
  parts.Frobenius: what it answers; two rows in one region.
-/
namespace Go.Proofs.Ytpmkdihencepnaa
open Go.RowKit

/-- Two rows apart. -/
def Apart (v u : Value) : Prop := ∀ k, v.ownBlock = some k → u.ownBlock ≠ some k
theorem Apart.symm {u v : Value} (h : Apart u v) : Apart v u := fun k h1 h2 => h k h2 h1
theorem Apart.ne {u v : Value} (h : Apart u v) : v.ownBlock = none ∨ v.ownBlock ≠ u.ownBlock := by
  cases e : v.ownBlock with
  | none => exact .inl rfl
  | some k => exact .inr (fun h2 => h k h2.symm e)
/-- Two rows that the call owns. -/
structure Pair2 (B : Nat) (a0 w : World) (u v : Value) (n m : Nat) (xs ys : List Int) : Prop where
  a : w.ownsRow B 3 1 u n (ints xs)
  l : w.ownsRow B 3 1 v m (ints ys)
  ap : Apart u v
  b : Below B a0 w
  sz : B ≤ w.heap.size
section
variable {B : Nat} {a0 w w' : World} {u v : Value} {n m : Nat} {xs ys : List Int}
theorem Pair2.alloc (h : Pair2 B a0 w u v n m xs ys) (o : Obj) : Pair2 B a0 (w.alloc o) u v n m xs ys :=
  ⟨h.a.alloc o, h.l.alloc o, h.ap, h.b.alloc h.sz o, by have := h.sz; simp; omega⟩
theorem Pair2.drew (h : Pair2 B a0 w u v n m xs ys) : Pair2 B a0 w.drew u v n m xs ys := ⟨h.a, h.l, h.ap, below_drewN h.b 1, h.sz⟩
theorem Pair2.swap (h : Pair2 B a0 w u v n m xs ys) : Pair2 B a0 w v u m n ys xs := ⟨h.l, h.a, h.ap.symm, h.b, h.sz⟩
theorem Pair2.grow (h : Pair2 B a0 w u v n m xs ys) {g cap n' : Nat} {xs' : List Int} (ho : w'.ownsRow B 3 1 (.slice (some ⟨g, 0, none⟩) n' cap) n' (ints xs')) (hg : w.grownBy w' u.ownBlock)
    (hat : u.ownBlock = some g ∨ g = w.heap.size) : Pair2 B a0 w' (.slice (some ⟨g, 0, none⟩) n' cap) v n' m xs' ys :=
  ⟨ho, h.l.kept hg h.ap.ne, fun k hk hv => by
    obtain rfl : g = k := by simpa [Value.ownBlock] using hk
    rcases hat with e | e
    · exact h.ap _ e hv
    · have := (h.l.lt _ hv).2; omega, h.b.grown hg h.sz (own_ge h.a (Nat.le_refl _)), Nat.le_trans h.sz hg.size⟩
end

end Go.Proofs.Ytpmkdihencepnaa
