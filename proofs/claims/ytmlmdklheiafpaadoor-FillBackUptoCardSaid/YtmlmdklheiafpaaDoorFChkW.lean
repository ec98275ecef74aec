/-
  fill.Check, fill.twin: what they answer.
-/
import Derived.Test.YtmlmdklheiafpaaDoorRowsA
import Derived.Test.YtmlmdklheiafpaaDoorPlacF
namespace Go.Proofs.YtmlmdklheiafpaaDoor
open Go.RowKit

set_option maxRecDepth 100000 in
theorem ftwin_any (A : Option Addr) (cap : Nat) (T : List (List Int)) (w : World) (hT : T.length < 1000000) (hrl : ∀ i, (T.getD i []).length < 1000000) (h : SR w w.heap.size A T) :
    Calls Tryd.prog 18 #[.slice A T.length cap] w fun e w' => (∃ v hs, e = .returned v ∧ OwnM w' w.heap.size v hs T) ∧ Below w.heap.size w w' := by
  go_enter Tryd.func18, Tryd.ntmps18
  go_wp2
  go_loopw [3, 8] (fun ov iv wr => ∃ (i : Nat) (hs : List Value), i ≤ T.length ∧ iv = .int .i64 i ∧ OwnM wr w.heap.size ov hs (T.take i) ∧ Below w.heap.size w wr) (fun _ iv _ => T.length - (intOf iv).toNat)
  case atStart => exact ⟨0, [], Nat.zero_le _, rfl, OwnM.nil _ _, Below.refl _ _⟩
  case round =>
    obtain ⟨i, hs, hi, rfl, hm, hW⟩ := hrel
    have HM := Lib.hid hm
    have hsz := hW.size
    clear hm
    by_cases hlt : i < T.length
    · have di : decide (i < T.length) = true := decide_eq_true hlt
      obtain ⟨b, o, rfl, hb⟩ := h.addr (by omega)
      have h2 := h.below hW
      obtain ⟨Ar, cr, hc, hr, _⟩ := h2.at_ hlt
      have hrl2 := hrl i
      obtain ⟨r, hre⟩ : ∃ r, r = T.getD i [] := ⟨_, rfl⟩
      rw [← hre] at hc hr hrl2
      have HRE := Lib.hid hre
      clear hre h2
      go_wp2_with (first | (go_at_call 24; refine (clone_any Ar cr r _ hrl2 (hr.more hsz)).mono ?_) | fail)
      rintro e w4 ⟨v4, rfl, hv4, hb4⟩
      obtain ⟨A4, c4, rfl, _, _, hle, _⟩ := own_sliceA hv4
      have hu4 := hv4.mono hsz
      have hfar := HM.out.far_new (u := .slice A4 r.length c4) (fun k hk => by
        have := (hv4.lt k hk).1; exact this)
      have hm4 := HM.out.below hb4
      have hmo := hm4.out
      rw [List.length_take, Nat.min_eq_left (by omega)] at hmo
      have HM4 := Lib.hid hm4
      have HMO := Lib.hid hmo
      have HU4 := Lib.hid hu4
      have HF := Lib.hid hfar
      have hW4 := hW.trans (hb4.mono hsz)
      have hB9 := Lib.hid hW4.size
      clear hm4 hmo hu4 hfar hv4 hb4
      go_wp2_with (first | (at_builtin; refine wpList_push (v := u3) rfl (.tmp 12) (.tmp 15) rfl rfl (.slice A4 r.length c4) rfl HMO.out w4.heap.size rfl rfl (by omega) hB9.out (fun g2 c2 w5 hl5 hg5 hat5 => ?_)) | fail)
      have hpush := (HM4.out.alloc (.cells #[.slice A4 r.length c4] 34)).push (u := .slice A4 r.length c4) (l := r) (HU4.out.alloc _) HF.out.1 HF.out.2 (by rw [List.length_take, Nat.min_eq_left (by omega)]) hl5 hg5 (by simpa using hat5)
      have hts : T.take i ++ [r] = T.take (i + 1) := by rw [getD_take_succ hlt, HRE.out]
      rw [hts] at hpush
      have hW5 : Below w.heap.size w w5 := (hW4.alloc hB9.out _).grown hg5 (by have := hB9.out; simp; omega) (fun k hk => (HMO.out.lt k hk).1)
      have HPU := Lib.hid hpush
      clear hpush hl5 hg5 hat5 hts
      go_wp2
      go_roundw
      case rel => exact ⟨i + 1, _, by omega, by go_num, HPU.out, hW5⟩
      case measure => simp [intOf]; omega
    · have di : decide (i < T.length) = false := decide_eq_false hlt
      have hm := HM.out
      rw [List.take_of_length_le (by omega)] at hm
      have HM2 := Lib.hid hm
      clear hm
      go_wp2
      go_ret
      exact ⟨⟨_, _, rfl, HM2.out⟩, hW⟩

set_option maxRecDepth 100000 in
set_option maxHeartbeats 2000000 in
theorem fcheck_any (A : Option Addr) (cap : Nat) (T : List (List Int)) (w : World) (hT : T.length ≤ 9223372036854775807) (h : SR w w.heap.size A T) :
    Calls Tryd.prog 12 #[.slice A T.length cap] w fun e w' => (∃ k : Int, e = .returned (.int .i64 k) ∧ (k = 0 → FillOk T) ∧ (FillOk T → k = 0)) ∧ w = w' := by
  go_enter Tryd.func12, Tryd.ntmps12
  go_wp2
  go_loop [3, 12] (fun lv iv => ∃ (i : Nat), i ≤ T.length ∧ iv = .int .i64 i ∧ boxes (T.take i) ≤ 40 ∧ lv = .int .i64 ((40 : Int) - (boxes (T.take i) : Int))) (fun _ iv => T.length - (intOf iv).toNat)
  case atStart => exact ⟨0, Nat.zero_le _, rfl, by simp [boxes], by simp [boxes]⟩
  case round =>
    obtain ⟨i, hi, rfl, hbx, rfl⟩ := hrel
    by_cases hlt : i < T.length
    · have di : decide (i < T.length) = true := decide_eq_true hlt
      obtain ⟨b, o, rfl, hb⟩ := h.addr (by omega)
      obtain ⟨Ar, cr, hc, _, hrl⟩ := h.at_ hlt
      have hbt := boxes_take hlt
      have hble := boxes_le (T := T) (i + 1)
      obtain ⟨q, hq⟩ : ∃ q, q = (T.getD i []).length := ⟨_, rfl⟩
      obtain ⟨p, hp⟩ : ∃ p, p = boxes (T.take i) := ⟨_, rfl⟩
      rw [← hq] at hc hrl hbt
      rw [← hp] at hbx hbt ⊢
      have HBT := Lib.hid hbt
      clear hq hp hbt
      by_cases hbig : 40 - (p : Int) < (q : Int)
      · have dq : decide (40 - (p : Int) < (q : Int)) = true := decide_eq_true hbig
        have hno : Hid (¬ FillOk T) := fun hh => by have := hh.2.2; have := HBT.out; omega
        clear hble
        go_wp2
        go_ret
        exact ⟨⟨2, rfl, by simp, fun hh => absurd hh hno.out⟩, rfl⟩
      · have dq : decide (40 - (p : Int) < (q : Int)) = false := decide_eq_false hbig
        clear hble
        go_wp2
        go_round
        case rel => exact ⟨i + 1, by omega, rfl, by have := HBT.out; omega, by rw [HBT.out]; go_num⟩
        case measure => simp [intOf]; omega
    · have di : decide (i < T.length) = false := decide_eq_false hlt
      have hb40 : Hid (boxes T ≤ 40) := by
        show _ ≤ _
        rwa [List.take_of_length_le (by omega)] at hbx
      obtain ⟨p, hp⟩ : ∃ p, p = boxes (T.take i) := ⟨_, rfl⟩
      rw [← hp]
      clear hp hbx
      go_wp2
      go_loop [27] (fun iv => ∃ (i : Nat), i ≤ T.length ∧ iv = .int .i64 i ∧ ∀ i', i' < i → RowOk T i') (fun iv => T.length - (intOf iv).toNat)
      case atStart => exact ⟨0, Nat.zero_le _, rfl, fun i' hi' => by omega⟩
      case round =>
        clear hlt di hi
        obtain ⟨i, hi, rfl, hrows⟩ := hrel
        have HR := Lib.hid hrows
        clear hrows
        by_cases hit : i < T.length
        · have di : decide (i < T.length) = true := decide_eq_true hit
          obtain ⟨b, o, rfl, hb⟩ := h.addr (by omega)
          obtain ⟨Ar, cr, hc, hr, hrl⟩ := h.at_ hit
          obtain ⟨q, hq⟩ : ∃ q, q = (T.getD i []).length := ⟨_, rfl⟩
          have HQ := Lib.hid hq
          rw [← hq] at hc hrl
          have hcells : Hid (∀ j, j < q → ∃ g p, Ar = some ⟨g, p, none⟩ ∧ w.cell? ⟨g, p + j, none⟩ = some (.int .i64 ((T.getD i []).getD j 0))) := fun j hj => by
            obtain ⟨g, p, e, _⟩ := hr.addr (by omega)
            subst e
            exact ⟨g, p, rfl, getD_cell hr (k := j) (by omega)⟩
          clear hq hr
          by_cases hq0 : q = 0
          · have dq : decide ((q : Int) = 0) = true := decide_eq_true (by omega)
            have hno : Hid (¬ FillOk T) := fun hh => (hh.row hit).1 (by rw [← HQ.out]; exact hq0)
            subst hq0
            go_wp2
            go_ret
            exact ⟨⟨1, rfl, by simp, fun hh => absurd hh hno.out⟩, rfl⟩
          · have hup : ∃ (q1 : Nat) (A1 : Option Addr) (c1 : Nat), q1 ≤ 9223372036854775807 ∧ (0 < i → w.cell? ⟨b, o + (i - 1), none⟩ = some (.slice A1 q1 c1) ∧ q1 = (T.getD (i - 1) []).length ∧ Sl w w.heap.size A1 (ints (T.getD (i - 1) []))) := by
              by_cases h0 : 0 < i
              · obtain ⟨A1, c1, hc1, hr1, hl1⟩ := h.at_ (r := i - 1) (by omega)
                exact ⟨_, A1, c1, hl1, fun _ => ⟨hc1, rfl, hr1⟩⟩
              · exact ⟨0, none, 0, by omega, fun h1 => absurd h1 h0⟩
            obtain ⟨q1, A1, c1, hq19, hup⟩ := hup
            have HUP := Lib.hid hup
            clear hup
            by_cases hlen : 0 < i ∧ q1 < q
            · have hno : Hid (¬ FillOk T) := fun hh => by
                have h1 := (hh.row hit).2.1 hlen.1
                rw [← HQ.out, ← (HUP.out hlen.1).2.1] at h1
                have := hlen.2; omega
              obtain ⟨h0, hq1⟩ := hlen
              have hc1 := (HUP.out h0).1
              have d0 : decide ((0 : Int) < (i : Int)) = true := decide_eq_true (by omega)
              have d1 : decide ((q1 : Int) < (q : Int)) = true := decide_eq_true (by omega)
              go_wp2
              go_ret
              exact ⟨⟨1, rfl, by simp, fun hh => absurd hh hno.out⟩, rfl⟩
            · have hlo : Hid (0 < i → q ≤ q1) := fun h0 => by
                apply Classical.byContradiction
                intro hn
                exact hlen ⟨h0, by omega⟩
              have dq : ((q : Int) == 0) = false := by simp; omega
              go_upto_region 12 with fail
              go_cut [49] (fun bv wz => bv = .bool false ∧ w = wz)
              case first =>
                by_cases h0 : 0 < i
                · have hc1 := (HUP.out h0).1
                  have hq1 := hlo.out h0
                  have d0 : decide ((0 : Int) < (i : Int)) = true := decide_eq_true (by omega)
                  have d1 : decide (q1 < q) = false := decide_eq_false (by omega)
                  go_wp2
                  go_meet
                  exact ⟨rfl, rfl⟩
                · have d0 : decide ((0 : Int) < (i : Int)) = false := decide_eq_false (by omega)
                  go_wp2
                  go_meet
                  exact ⟨rfl, rfl⟩
              case rest =>
                obtain ⟨rfl, rfl⟩ := hcut
                obtain ⟨g, p, rfl, _⟩ := hcells.out 0 (by omega)
                have hcl : Hid (∀ j, j < q → w.cell? ⟨g, p + j, none⟩ = some (.int .i64 ((T.getD i []).getD j 0))) := fun j hj => by
                  obtain ⟨g', p', e, hh⟩ := hcells.out j hj
                  obtain ⟨rfl, rfl⟩ : g = g' ∧ p = p' := by simpa using e
                  exact hh
                clear hcells dq
                go_wp2
                go_loop [52] (fun jv => ∃ (j : Nat), j ≤ q ∧ jv = .int .i64 j ∧ ∀ j', j' < j → BoxOk T i j') (fun jv => q - (intOf jv).toNat)
                case atStart => exact ⟨0, Nat.zero_le _, rfl, fun j' hj' => by omega⟩
                case round =>
                  obtain ⟨j, hj, rfl, hbs⟩ := hrel
                  have HJ := Lib.hid hbs
                  clear hbs
                  by_cases hjq : j < q
                  · have dj : decide (j < q) = true := decide_eq_true hjq
                    have hjl : j < (T.getD i []).length := by rw [← HQ.out]; exact hjq
                    have hcn := hcl.out j hjq
                    obtain ⟨n, hn⟩ : ∃ n, n = (T.getD i []).getD j 0 := ⟨_, rfl⟩
                    rw [← hn] at hcn
                    have HN : Hid ((T.getD i []).getD j 0 = n) := hn.symm
                    clear hn
                    obtain ⟨m, hm⟩ : ∃ m, (T.getD i []).getD (j - 1) 0 = m := ⟨_, rfl⟩
                    have HP := Lib.hid hm
                    obtain ⟨u, hu⟩ : ∃ u, (T.getD (i - 1) []).getD j 0 = u := ⟨_, rfl⟩
                    have HU := Lib.hid hu
                    have hcp : 0 < j → w.cell? ⟨g, p + (j - 1), none⟩ = some (.int .i64 m) := fun h0 => by rw [← hm]; exact hcl.out (j - 1) (by omega)
                    have HCP := Lib.hid hcp
                    have hcu : 0 < i → ∃ g1 p1, A1 = some ⟨g1, p1, none⟩ ∧ w.cell? ⟨g1, p1 + j, none⟩ = some (.int .i64 u) := fun h0 => by
                      obtain ⟨_, hl1, hs1⟩ := HUP.out h0
                      have hq1 := hlo.out h0
                      obtain ⟨g1, p1, e, _⟩ := hs1.addr (by omega)
                      subst e
                      exact ⟨g1, p1, rfl, by rw [← hu]; exact getD_cell hs1 (by omega)⟩
                    have HCU := Lib.hid hcu
                    clear hm hu hcp hcu
                    by_cases c1 : n < 1
                    · have e1 : decide (n < 1) = true := decide_eq_true c1
                      have hno : Hid (¬ FillOk T) := fun hh => by
                        have hb := (hh.row hit).2.2 j hjl
                        obtain ⟨⟨h1, h2⟩, h3, h4⟩ := hb
                        rw [HN.out] at h1 h2
                        first | omega | (have h5 := h3 (by omega); rw [HN.out, HP.out] at h5; omega) | (have h5 := h4 (by omega); rw [HN.out, HU.out] at h5; omega)
                      go_wp2
                      go_ret
                      exact ⟨⟨1, rfl, by simp, fun hh => absurd hh hno.out⟩, rfl⟩
                    · have e1 : decide (n < 1) = false := decide_eq_false c1
                      by_cases c2 : 99 < n
                      · have e2 : decide (99 < n) = true := decide_eq_true c2
                        have hno : Hid (¬ FillOk T) := fun hh => by
                          have hb := (hh.row hit).2.2 j hjl
                          obtain ⟨⟨h1, h2⟩, h3, h4⟩ := hb
                          rw [HN.out] at h1 h2
                          first | omega | (have h5 := h3 (by omega); rw [HN.out, HP.out] at h5; omega) | (have h5 := h4 (by omega); rw [HN.out, HU.out] at h5; omega)
                        go_wp2
                        go_ret
                        exact ⟨⟨1, rfl, by simp, fun hh => absurd hh hno.out⟩, rfl⟩
                      · have e2 : decide (99 < n) = false := decide_eq_false c2
                        by_cases h0 : 0 < j
                        · have e0 : decide ((0 : Int) < (j : Int)) = true := decide_eq_true (by omega)
                          have hcp := HCP.out h0
                          by_cases c3 : n < m
                          · have e3 : decide (n < m) = true := decide_eq_true c3
                            have hno : Hid (¬ FillOk T) := fun hh => by
                              have hb := (hh.row hit).2.2 j hjl
                              obtain ⟨⟨h1, h2⟩, h3, h4⟩ := hb
                              rw [HN.out] at h1 h2
                              first | omega | (have h5 := h3 (by omega); rw [HN.out, HP.out] at h5; omega) | (have h5 := h4 (by omega); rw [HN.out, HU.out] at h5; omega)
                            go_wp2
                            go_ret
                            exact ⟨⟨1, rfl, by simp, fun hh => absurd hh hno.out⟩, rfl⟩
                          · have e3 : decide (n < m) = false := decide_eq_false c3
                            by_cases hi0 : 0 < i
                            · have ei : decide ((0 : Int) < (i : Int)) = true := decide_eq_true (by omega)
                              have hc1 := (HUP.out hi0).1
                              have hq1 := hlo.out hi0
                              obtain ⟨g1, p1, rfl, hcu⟩ := HCU.out hi0
                              by_cases c4 : n ≤ u
                              · have e4 : decide (n ≤ u) = true := decide_eq_true c4
                                have hno : Hid (¬ FillOk T) := fun hh => by
                                  have hb := (hh.row hit).2.2 j hjl
                                  obtain ⟨⟨h1, h2⟩, h3, h4⟩ := hb
                                  rw [HN.out] at h1 h2
                                  first | omega | (have h5 := h3 (by omega); rw [HN.out, HP.out] at h5; omega) | (have h5 := h4 (by omega); rw [HN.out, HU.out] at h5; omega)
                                go_wp2
                                go_ret
                                exact ⟨⟨1, rfl, by simp, fun hh => absurd hh hno.out⟩, rfl⟩
                              · have e4 : decide (n ≤ u) = false := decide_eq_false c4
                                have hbx : Hid (BoxOk T i j) := ⟨⟨by rw [HN.out]; omega, by rw [HN.out]; omega⟩, fun h0 => by first | omega | (rw [HN.out, HP.out]; omega), fun h0 => by first | omega | (rw [HN.out, HU.out]; omega)⟩
                                go_wp2
                                go_round
                                case rel => exact ⟨j + 1, by omega, rfl, fun j' hj' => by
                                  by_cases e : j' = j
                                  · rw [e]; exact hbx.out
                                  · exact HJ.out j' (by omega)⟩
                                case measure => simp [intOf]; omega
                            · have ei : decide ((0 : Int) < (i : Int)) = false := decide_eq_false (by omega)
                              have hbx : Hid (BoxOk T i j) := ⟨⟨by rw [HN.out]; omega, by rw [HN.out]; omega⟩, fun h0 => by first | omega | (rw [HN.out, HP.out]; omega), fun h0 => by first | omega | (rw [HN.out, HU.out]; omega)⟩
                              go_wp2
                              go_round
                              case rel => exact ⟨j + 1, by omega, rfl, fun j' hj' => by
                                by_cases e : j' = j
                                · rw [e]; exact hbx.out
                                · exact HJ.out j' (by omega)⟩
                              case measure => simp [intOf]; omega
                        · have e0 : decide ((0 : Int) < (j : Int)) = false := decide_eq_false (by omega)
                          by_cases hi0 : 0 < i
                          · have ei : decide ((0 : Int) < (i : Int)) = true := decide_eq_true (by omega)
                            have hc1 := (HUP.out hi0).1
                            have hq1 := hlo.out hi0
                            obtain ⟨g1, p1, rfl, hcu⟩ := HCU.out hi0
                            by_cases c4 : n ≤ u
                            · have e4 : decide (n ≤ u) = true := decide_eq_true c4
                              have hno : Hid (¬ FillOk T) := fun hh => by
                                have hb := (hh.row hit).2.2 j hjl
                                obtain ⟨⟨h1, h2⟩, h3, h4⟩ := hb
                                rw [HN.out] at h1 h2
                                first | omega | (have h5 := h3 (by omega); rw [HN.out, HP.out] at h5; omega) | (have h5 := h4 (by omega); rw [HN.out, HU.out] at h5; omega)
                              go_wp2
                              go_ret
                              exact ⟨⟨1, rfl, by simp, fun hh => absurd hh hno.out⟩, rfl⟩
                            · have e4 : decide (n ≤ u) = false := decide_eq_false c4
                              have hbx : Hid (BoxOk T i j) := ⟨⟨by rw [HN.out]; omega, by rw [HN.out]; omega⟩, fun h0 => by first | omega | (rw [HN.out, HP.out]; omega), fun h0 => by first | omega | (rw [HN.out, HU.out]; omega)⟩
                              go_wp2
                              go_round
                              case rel => exact ⟨j + 1, by omega, rfl, fun j' hj' => by
                                by_cases e : j' = j
                                · rw [e]; exact hbx.out
                                · exact HJ.out j' (by omega)⟩
                              case measure => simp [intOf]; omega
                          · have ei : decide ((0 : Int) < (i : Int)) = false := decide_eq_false (by omega)
                            have hbx : Hid (BoxOk T i j) := ⟨⟨by rw [HN.out]; omega, by rw [HN.out]; omega⟩, fun h0 => by first | omega | (rw [HN.out, HP.out]; omega), fun h0 => by first | omega | (rw [HN.out, HU.out]; omega)⟩
                            go_wp2
                            go_round
                            case rel => exact ⟨j + 1, by omega, rfl, fun j' hj' => by
                              by_cases e : j' = j
                              · rw [e]; exact hbx.out
                              · exact HJ.out j' (by omega)⟩
                            case measure => simp [intOf]; omega
                  · have dj : decide (j < q) = false := decide_eq_false hjq
                    have hro : Hid (RowOk T i) := ⟨by rw [← HQ.out]; exact hq0, fun h0 => by
                      have h1 := hlo.out h0
                      have h2 := (HUP.out h0).2.1
                      rw [← HQ.out, ← h2]; exact h1, fun j' hj' => by
                      rw [← HQ.out] at hj'
                      exact HJ.out j' (by omega)⟩
                    go_wp2
                    go_round
                    case rel => exact ⟨i + 1, by omega, rfl, fun i' hi' => by
                      by_cases e : i' = i
                      · rw [e]; exact hro.out
                      · exact HR.out i' (by omega)⟩
                    case measure => simp [intOf]; omega
        · have di : decide (i < T.length) = false := decide_eq_false hit
          have hfin : Hid (FillOk T) := fill_of hb40.out (fun i' hi' => HR.out i' (by omega))
          go_wp2
          go_ret
          exact ⟨⟨0, rfl, fun _ => hfin.out, fun _ => rfl⟩, rfl⟩

end Go.Proofs.YtmlmdklheiafpaaDoor
