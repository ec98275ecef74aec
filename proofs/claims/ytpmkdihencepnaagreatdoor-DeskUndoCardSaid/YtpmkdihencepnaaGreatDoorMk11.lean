/- Part of the proof. -/
import Derived.Deep.QuietTactic
import Derived.BigQuiet
import Derived.StillTailTactics
import Derived.IntWalk
import Derived.Test.YtpmkdihencepnaaGreatDoorMk04
import Derived.Test.YtpmkdihencepnaaGreatDoorMk10
set_option maxHeartbeats 16000000
set_option maxRecDepth 100000
namespace Go.Proofs.YtpmkdihencepnaaGreatDoor
section
open Go.RowKit
theorem scheck_code (A : Option Addr) (cap : Nat) (T : List (List Int)) (w : World) (hT : T.length ≤ 9223372036854775807) (h : SR w w.heap.size A T) :
 Calls Tryz.prog 177 #[.slice A T.length cap] w fun e w' => (∃ k : Int, e = .returned (.int .i64 k) ∧ (k = 0 → SkOk T) ∧ (SkOk T → k = 0) ∧ (k ≠ 0 → k = if boxes T ≤ 40 then 1 else 2)) ∧ Below w.heap.size w w' := by
 go_enter Tryz.func177, Tryz.ntmps177
 go_wp2
 go_loop [3, 12] (fun lv iv => ∃ (i : Nat), i ≤ T.length ∧ iv = .int .i64 i ∧ boxes (T.take i) ≤ 40 ∧ lv = .int .i64 ((40 : Int) - (boxes (T.take i) : Int))) (fun _ iv => T.length - (intOf iv).toNat)
 case atStart => exact ⟨0, Nat.zero_le _, rfl, by simp [boxes], by simp [boxes]⟩
 case round =>
  obtain ⟨i, hi, rfl, hbx, rfl⟩ := hrel
  by_cases hlt : i < T.length
  · have di : decide (i < T.length) = true := decide_eq_true hlt
    obtain ⟨b, o, rfl, hb⟩ := h.addr (by omega)
    obtain ⟨Ar, cr, hc, _, hrl⟩ := h.at_ hlt
    have hbt := boxes_take hlt
    have hble := boxes_le (T := T) (i + 1)
    obtain ⟨q, hq⟩ : ∃ q, q = (T.getD i []).length := ⟨_, rfl⟩
    obtain ⟨p, hp⟩ : ∃ p, p = boxes (T.take i) := ⟨_, rfl⟩
    rw [← hq] at hc hrl hbt
    rw [← hp] at hbx hbt ⊢
    have HBT := Lib.hid hbt
    clear hq hp hbt
    by_cases hbig : 40 - (p : Int) < (q : Int)
    · have dq : decide (40 - (p : Int) < (q : Int)) = true := decide_eq_true hbig
      have hno : Hid (¬ SkOk T) := fun hh => by have := hh.2; have := HBT.out; omega
      have hno4 : Hid (¬ boxes T ≤ 40) := fun hh => by have := HBT.out; omega
      clear hble
      go_wp2
      go_ret
      exact ⟨⟨2, rfl, by simp, fun hh => absurd hh hno.out, (by first | exact fun _ => rfl | exact fun _ => (if_neg hno4.out).symm)⟩, Below.refl _ _⟩
    · have dq : decide (40 - (p : Int) < (q : Int)) = false := decide_eq_false hbig
      clear hble
      go_wp2
      go_round
      case rel => exact ⟨i + 1, by omega, rfl, by have := HBT.out; omega, by rw [HBT.out]; go_num⟩
      case measure => simp [intOf]; omega
  · have di : decide (i < T.length) = false := decide_eq_false hlt
    have hb40 : Hid (boxes T ≤ 40) := by
     show _ ≤ _
     rwa [List.take_of_length_le (by omega)] at hbx
    obtain ⟨p, hp⟩ : ∃ p, p = boxes (T.take i) := ⟨_, rfl⟩
    rw [← hp]
    clear hp hbx
    go_wp2
    go_loopw [27] (fun iv wr => ∃ (i : Nat), i ≤ T.length ∧ iv = .int .i64 i ∧ (∀ i', i' < i → SRow T i') ∧ Below w.heap.size w wr) (fun iv _ => T.length - (intOf iv).toNat)
    case atStart => exact ⟨0, Nat.zero_le _, rfl, fun i' hi' => by omega, Below.refl _ _⟩
    case round =>
     clear hlt di hi
     obtain ⟨i, hi, rfl, hrows, hW⟩ := hrel
     have HR := Lib.hid hrows
     have h2 := h.below hW
     clear hrows
     by_cases hit : i < T.length
     · have di : decide (i < T.length) = true := decide_eq_true hit
       obtain ⟨b, o, rfl, hb⟩ := h.addr (by omega)
       obtain ⟨Ar, cr, hc, hr, hrl⟩ := h2.at_ hit
       have hca := fun (n : Nat) => holes_any Ar cr (T.getD i []) (wr.drewN n) hrl (hr.below (below_drewN (Below.refl _ _) n))
       obtain ⟨q, hq⟩ : ∃ q, q = (T.getD i []).length := ⟨_, rfl⟩
       obtain ⟨x1, hx1⟩ : ∃ x1, x1 = hol (T.getD i []) := ⟨_, rfl⟩
       have HQ := Lib.hid hq
       have HX1 := Lib.hid hx1
       have hx1q : x1 ≤ q := by rw [hx1, hq]; exact hol_le _
       rw [← hq, ← hx1] at hca
       rw [← hq] at hc hrl
       have HCA := Lib.hid hca
       have hcells : Hid (∀ j, j < q → ∃ g p, Ar = some ⟨g, p, none⟩ ∧ wr.cell? ⟨g, p + j, none⟩ = some (.int .i64 ((T.getD i []).getD j 0))) := fun j hj => by
        obtain ⟨g, p, e, _⟩ := hr.addr (by omega)
        subst e
        exact ⟨g, p, rfl, getD_cell hr (k := j) (by omega)⟩
       clear hq hr hx1 hca
       by_cases hq0 : q = 0
       · have dq : decide ((q : Int) = 0) = true := decide_eq_true (by omega)
         have hno : Hid (¬ SkOk T) := fun hh => (hh.1 i hit).1 (by rw [← HQ.out]; exact hq0)
         subst hq0
         go_wp2
         go_quiet (fail)
         go_wp2
         go_ret
         exact ⟨⟨1, rfl, by simp, fun hh => absurd hh hno.out, (by first | exact fun _ => rfl | exact fun _ => (if_pos hb40.out).symm)⟩, below_drewN hW _⟩
       · have hup : ∃ (q1 x2 : Nat) (A1 : Option Addr) (c1 : Nat), q1 ≤ 9223372036854775807 ∧ x2 ≤ q1 ∧ (0 < i → wr.cell? ⟨b, o + (i - 1), none⟩ = some (.slice A1 q1 c1) ∧ q1 = (T.getD (i - 1) []).length ∧ Sl wr w.heap.size A1 (ints (T.getD (i - 1) [])) ∧ x2 = hol (T.getD (i - 1) []) ∧ ∀ n, Calls Tryz.prog 179 #[.slice A1 q1 c1] (wr.drewN n) fun e w' => e = .returned (.int .i64 x2) ∧ w' = wr.drewN n) := by
          by_cases h0 : 0 < i
          · obtain ⟨A1, c1, hc1, hr1, hl1⟩ := h2.at_ (r := i - 1) (by omega)
            exact ⟨_, _, A1, c1, hl1, hol_le _, fun _ => ⟨hc1, rfl, hr1, rfl, fun n => holes_any A1 c1 (T.getD (i - 1) []) (wr.drewN n) hl1 (hr1.below (below_drewN (Below.refl _ _) n))⟩⟩
          · exact ⟨0, 0, none, 0, by omega, by omega, fun h1 => absurd h1 h0⟩
         obtain ⟨q1, x2, A1, c1, hq19, hx2q, hup⟩ := hup
         have HUP := Lib.hid hup
         clear hup
         have dq : ((q : Int) == 0) = false := by simp; omega
         by_cases hlen : 0 < i ∧ (q1 < q ∨ x2 < x1)
         · have hno : Hid (¬ SkOk T) := fun hh => by
            have h1 := (hh.1 i hit).2.1 hlen.1
            rw [← HQ.out, ← (HUP.out hlen.1).2.1, ← HX1.out, ← (HUP.out hlen.1).2.2.2.1] at h1
            have := hlen.2; omega
           obtain ⟨h0, hq1⟩ := hlen
           have hc1 := (HUP.out h0).1
           have HCB := Lib.hid (HUP.out h0).2.2.2.2
           have d0 : decide ((0 : Int) < (i : Int)) = true := decide_eq_true (by omega)
           by_cases hq2 : q1 < q
           · have d1 : decide ((q1 : Int) < (q : Int)) = true := decide_eq_true (by omega)
             go_wp2
             go_quiet (fail)
             go_wp2
             go_ret
             exact ⟨⟨1, rfl, by simp, fun hh => absurd hh hno.out, (by first | exact fun _ => rfl | exact fun _ => (if_pos hb40.out).symm)⟩, below_drewN hW _⟩
           · have d1 : decide ((q1 : Int) < (q : Int)) = false := decide_eq_false (by omega)
             have d2 : decide ((x2 : Int) < (x1 : Int)) = true := decide_eq_true (by omega)
             go_wp2
             go_quiet (first | (go_at_call_of 179 (Value.slice Ar q cr); exact Calls.quiet_of_same (HCA.out _)) | (go_at_call_of 179 (Value.slice A1 q1 c1); exact Calls.quiet_of_same (HCB.out _)))
             go_wp2
             go_ret
             exact ⟨⟨1, rfl, by simp, fun hh => absurd hh hno.out, (by first | exact fun _ => rfl | exact fun _ => (if_pos hb40.out).symm)⟩, below_drewN hW _⟩
         · have hlo : Hid (0 < i → q ≤ q1) := fun h0 => by
            apply Classical.byContradiction
            intro hn
            exact hlen ⟨h0, by omega⟩
           have hlo2 : Hid (0 < i → x1 ≤ x2) := fun h0 => by
            apply Classical.byContradiction
            intro hn
            exact hlen ⟨h0, by omega⟩
           clear hlen
           go_upto_region 12 with fail
           go_cut [60] (fun bv wz => bv = .bool false ∧ ∃ nn, wz = wr.drewN nn)
           case first =>
            by_cases h0 : 0 < i
            · have hc1 := (HUP.out h0).1
              have HCB := Lib.hid (HUP.out h0).2.2.2.2
              have hq1 := hlo.out h0
              have hx12 := hlo2.out h0
              have d0 : decide ((0 : Int) < (i : Int)) = true := decide_eq_true (by omega)
              have d1 : decide (q1 < q) = false := decide_eq_false (by omega)
              have d2 : decide (x2 < x1) = false := decide_eq_false (by omega)
              go_quiet (first | (go_at_call_of 179 (Value.slice Ar q cr); exact Calls.quiet_of_same (HCA.out _)) | (go_at_call_of 179 (Value.slice A1 q1 c1); exact Calls.quiet_of_same (HCB.out _)))
              go_wp2
              go_meet
              exact ⟨rfl, _, rfl⟩
            · have d0 : decide ((0 : Int) < (i : Int)) = false := decide_eq_false (by omega)
              go_quiet (fail)
              go_wp2
              go_meet
              exact ⟨rfl, _, rfl⟩
           case rest =>
            obtain ⟨rfl, nn, rfl⟩ := hcut
            obtain ⟨g, p, rfl, -⟩ := hcells.out 0 (by omega)
            have hcl : Hid (∀ j, j < q → (wr.drewN nn).cell? ⟨g, p + j, none⟩ = some (.int .i64 ((T.getD i []).getD j 0))) := fun j hj => by
             obtain ⟨g', p', e, hh⟩ := hcells.out j hj
             obtain ⟨rfl, rfl⟩ : g = g' ∧ p = p' := by simpa using e
             exact hh
            have HUP2 : Hid (0 < i → (wr.drewN nn).cell? ⟨b, o + (i - 1), none⟩ = some (.slice A1 q1 c1) ∧ q1 = (T.getD (i - 1) []).length ∧ Sl (wr.drewN nn) w.heap.size A1 (ints (T.getD (i - 1) []))) := fun h0 => ⟨(HUP.out h0).1, (HUP.out h0).2.1, (HUP.out h0).2.2.1.below (below_drewN (Below.refl _ _) nn)⟩
            have hlo3 : Hid (0 < i → x1 ≤ hol (T.getD (i - 1) [])) := fun h0 => by
             rw [← (HUP.out h0).2.2.2.1]; exact hlo2.out h0
            have HCA2 := Lib.hid (HCA.out nn)
            have hW2 := below_drewN hW nn
            clear hcells dq HUP HCA hlo2 hc h2
            obtain ⟨w2, hw2⟩ : ∃ x, x = wr.drewN nn := ⟨_, rfl⟩
            rw [← hw2] at hcl HUP2 HCA2 hW2 ⊢
            clear hw2 hW wr
            have HUP := HUP2
            clear HUP2
            go_wp2
            go_loop [63] (fun jv => ∃ (j : Nat), j ≤ q ∧ jv = .int .i64 j ∧ ∀ j', j' < j → x1 ≤ j' → BoxOk T i j') (fun jv => q - (intOf jv).toNat)
            case atStart => exact ⟨0, Nat.zero_le _, rfl, fun j' hj' => by omega⟩
            case round =>
             obtain ⟨j, hj, rfl, hbs⟩ := hrel
             have HJ := Lib.hid hbs
             clear hbs
             by_cases hjq : j < q
             · have dj : decide (j < q) = true := decide_eq_true hjq
               have hjl : j < (T.getD i []).length := by rw [← HQ.out]; exact hjq
               have hcn := hcl.out j hjq
               obtain ⟨n, hn⟩ : ∃ n, n = (T.getD i []).getD j 0 := ⟨_, rfl⟩
               rw [← hn] at hcn
               have HN : Hid ((T.getD i []).getD j 0 = n) := hn.symm
               clear hn
               by_cases hjh : j < x1
               · have dh : decide (j < x1) = true := decide_eq_true hjh
                 go_wp2_with (first | (go_at_call 179; refine HCA2.out.mono ?_) | fail)
                 go_round
                 case rel => exact ⟨j + 1, by omega, rfl, fun j' hj' hg' => by
                  by_cases e : j' = j
                  · omega
                  · exact HJ.out j' (by omega) hg'⟩
                 case measure => simp [intOf]; omega
               · have dh : decide (j < x1) = false := decide_eq_false hjh
                 have HGE : Hid (hol (T.getD i []) ≤ j) := by show _ ≤ _; rw [← HX1.out]; omega
                 obtain ⟨m, hm⟩ : ∃ m, (T.getD i []).getD (j - 1) 0 = m := ⟨_, rfl⟩
                 have HP := Lib.hid hm
                 obtain ⟨u, hu⟩ : ∃ u, (T.getD (i - 1) []).getD j 0 = u := ⟨_, rfl⟩
                 have HU := Lib.hid hu
                 have hcp : 0 < j → w2.cell? ⟨g, p + (j - 1), none⟩ = some (.int .i64 m) := fun h0 => by rw [← hm]; exact hcl.out (j - 1) (by omega)
                 have HCP := Lib.hid hcp
                 have hcu : 0 < i → ∃ g1 p1, A1 = some ⟨g1, p1, none⟩ ∧ w2.cell? ⟨g1, p1 + j, none⟩ = some (.int .i64 u) := fun h0 => by
                  obtain ⟨_, hl1, hs1⟩ := HUP.out h0
                  have hq1 := hlo.out h0
                  obtain ⟨g1, p1, e, _⟩ := hs1.addr (by omega)
                  subst e
                  exact ⟨g1, p1, rfl, by rw [← hu]; exact getD_cell hs1 (by omega)⟩
                 have HCU := Lib.hid hcu
                 clear hm hu hcp hcu
                 by_cases c1 : n < 1
                 · have e1 : decide (n < 1) = true := decide_eq_true c1
                   have hno : Hid (¬ SkOk T) := fun hh => by
                    have hb := (hh.1 i hit).2.2 j hjl HGE.out
                    obtain ⟨⟨h1, h2⟩, h3, h4⟩ := hb
                    rw [HN.out] at h1 h2
                    first | omega | (have h5 := h3 (by omega); rw [HN.out, HP.out] at h5; omega) | (have h5 := h4 (by omega); rw [HN.out, HU.out] at h5; omega)
                   go_wp2_with (first | (go_at_call 179; refine HCA2.out.mono ?_) | fail)
                   go_ret
                   exact ⟨⟨1, rfl, by simp, fun hh => absurd hh hno.out, (by first | exact fun _ => rfl | exact fun _ => (if_pos hb40.out).symm)⟩, hW2⟩
                 · have e1 : decide (n < 1) = false := decide_eq_false c1
                   by_cases c2 : 99 < n
                   · have e2 : decide (99 < n) = true := decide_eq_true c2
                     have hno : Hid (¬ SkOk T) := fun hh => by
                      have hb := (hh.1 i hit).2.2 j hjl HGE.out
                      obtain ⟨⟨h1, h2⟩, h3, h4⟩ := hb
                      rw [HN.out] at h1 h2
                      first | omega | (have h5 := h3 (by omega); rw [HN.out, HP.out] at h5; omega) | (have h5 := h4 (by omega); rw [HN.out, HU.out] at h5; omega)
                     go_wp2_with (first | (go_at_call 179; refine HCA2.out.mono ?_) | fail)
                     go_ret
                     exact ⟨⟨1, rfl, by simp, fun hh => absurd hh hno.out, (by first | exact fun _ => rfl | exact fun _ => (if_pos hb40.out).symm)⟩, hW2⟩
                   · have e2 : decide (99 < n) = false := decide_eq_false c2
                     by_cases h0 : 0 < j
                     · have e0 : decide ((0 : Int) < (j : Int)) = true := decide_eq_true (by omega)
                       have hcp := HCP.out h0
                       by_cases c3 : n < m
                       · have e3 : decide (n < m) = true := decide_eq_true c3
                         have hno : Hid (¬ SkOk T) := fun hh => by
                          have hb := (hh.1 i hit).2.2 j hjl HGE.out
                          obtain ⟨⟨h1, h2⟩, h3, h4⟩ := hb
                          rw [HN.out] at h1 h2
                          first | omega | (have h5 := h3 (by omega); rw [HN.out, HP.out] at h5; omega) | (have h5 := h4 (by omega); rw [HN.out, HU.out] at h5; omega)
                         go_wp2_with (first | (go_at_call 179; refine HCA2.out.mono ?_) | fail)
                         go_ret
                         exact ⟨⟨1, rfl, by simp, fun hh => absurd hh hno.out, (by first | exact fun _ => rfl | exact fun _ => (if_pos hb40.out).symm)⟩, hW2⟩
                       · have e3 : decide (n < m) = false := decide_eq_false c3
                         by_cases hi0 : 0 < i
                         · have ei : decide ((0 : Int) < (i : Int)) = true := decide_eq_true (by omega)
                           have hc1 := (HUP.out hi0).1
                           have hq1 := hlo.out hi0
                           obtain ⟨g1, p1, rfl, hcu⟩ := HCU.out hi0
                           by_cases c4 : n ≤ u
                           · have e4 : decide (n ≤ u) = true := decide_eq_true c4
                             have hno : Hid (¬ SkOk T) := fun hh => by
                              have hb := (hh.1 i hit).2.2 j hjl HGE.out
                              obtain ⟨⟨h1, h2⟩, h3, h4⟩ := hb
                              rw [HN.out] at h1 h2
                              first | omega | (have h5 := h3 (by omega); rw [HN.out, HP.out] at h5; omega) | (have h5 := h4 (by omega); rw [HN.out, HU.out] at h5; omega)
                             go_wp2_with (first | (go_at_call 179; refine HCA2.out.mono ?_) | fail)
                             go_ret
                             exact ⟨⟨1, rfl, by simp, fun hh => absurd hh hno.out, (by first | exact fun _ => rfl | exact fun _ => (if_pos hb40.out).symm)⟩, hW2⟩
                           · have e4 : decide (n ≤ u) = false := decide_eq_false c4
                             have hbx : Hid (BoxOk T i j) := ⟨⟨by rw [HN.out]; omega, by rw [HN.out]; omega⟩, fun h0 => by first | omega | (rw [HN.out, HP.out]; omega), fun h0 => by first | omega | (rw [HN.out, HU.out]; omega)⟩
                             go_wp2_with (first | (go_at_call 179; refine HCA2.out.mono ?_) | fail)
                             go_round
                             case rel => exact ⟨j + 1, by omega, rfl, fun j' hj' hg' => by
                              by_cases e : j' = j
                              · rw [e]; exact hbx.out
                              · exact HJ.out j' (by omega) hg'⟩
                             case measure => simp [intOf]; omega
                         · have ei : decide ((0 : Int) < (i : Int)) = false := decide_eq_false (by omega)
                           have hbx : Hid (BoxOk T i j) := ⟨⟨by rw [HN.out]; omega, by rw [HN.out]; omega⟩, fun h0 => by first | omega | (rw [HN.out, HP.out]; omega), fun h0 => by first | omega | (rw [HN.out, HU.out]; omega)⟩
                           go_wp2_with (first | (go_at_call 179; refine HCA2.out.mono ?_) | fail)
                           go_round
                           case rel => exact ⟨j + 1, by omega, rfl, fun j' hj' hg' => by
                            by_cases e : j' = j
                            · rw [e]; exact hbx.out
                            · exact HJ.out j' (by omega) hg'⟩
                           case measure => simp [intOf]; omega
                     · have e0 : decide ((0 : Int) < (j : Int)) = false := decide_eq_false (by omega)
                       by_cases hi0 : 0 < i
                       · have ei : decide ((0 : Int) < (i : Int)) = true := decide_eq_true (by omega)
                         have hc1 := (HUP.out hi0).1
                         have hq1 := hlo.out hi0
                         obtain ⟨g1, p1, rfl, hcu⟩ := HCU.out hi0
                         by_cases c4 : n ≤ u
                         · have e4 : decide (n ≤ u) = true := decide_eq_true c4
                           have hno : Hid (¬ SkOk T) := fun hh => by
                            have hb := (hh.1 i hit).2.2 j hjl HGE.out
                            obtain ⟨⟨h1, h2⟩, h3, h4⟩ := hb
                            rw [HN.out] at h1 h2
                            first | omega | (have h5 := h3 (by omega); rw [HN.out, HP.out] at h5; omega) | (have h5 := h4 (by omega); rw [HN.out, HU.out] at h5; omega)
                           go_wp2_with (first | (go_at_call 179; refine HCA2.out.mono ?_) | fail)
                           go_ret
                           exact ⟨⟨1, rfl, by simp, fun hh => absurd hh hno.out, (by first | exact fun _ => rfl | exact fun _ => (if_pos hb40.out).symm)⟩, hW2⟩
                         · have e4 : decide (n ≤ u) = false := decide_eq_false c4
                           have hbx : Hid (BoxOk T i j) := ⟨⟨by rw [HN.out]; omega, by rw [HN.out]; omega⟩, fun h0 => by first | omega | (rw [HN.out, HP.out]; omega), fun h0 => by first | omega | (rw [HN.out, HU.out]; omega)⟩
                           go_wp2_with (first | (go_at_call 179; refine HCA2.out.mono ?_) | fail)
                           go_round
                           case rel => exact ⟨j + 1, by omega, rfl, fun j' hj' hg' => by
                            by_cases e : j' = j
                            · rw [e]; exact hbx.out
                            · exact HJ.out j' (by omega) hg'⟩
                           case measure => simp [intOf]; omega
                       · have ei : decide ((0 : Int) < (i : Int)) = false := decide_eq_false (by omega)
                         have hbx : Hid (BoxOk T i j) := ⟨⟨by rw [HN.out]; omega, by rw [HN.out]; omega⟩, fun h0 => by first | omega | (rw [HN.out, HP.out]; omega), fun h0 => by first | omega | (rw [HN.out, HU.out]; omega)⟩
                         go_wp2_with (first | (go_at_call 179; refine HCA2.out.mono ?_) | fail)
                         go_round
                         case rel => exact ⟨j + 1, by omega, rfl, fun j' hj' hg' => by
                          by_cases e : j' = j
                          · rw [e]; exact hbx.out
                          · exact HJ.out j' (by omega) hg'⟩
                         case measure => simp [intOf]; omega
             · have dj : decide (j < q) = false := decide_eq_false hjq
               have hro : Hid (SRow T i) := ⟨by rw [← HQ.out]; exact hq0, fun h0 => by
                have h1 := hlo.out h0
                have h2 := (HUP.out h0).2.1
                rw [← HQ.out, ← h2, ← HX1.out]
                exact ⟨h1, hlo3.out h0⟩, fun j' hj' hg' => by
                rw [← HQ.out] at hj'
                rw [← HX1.out] at hg'
                exact HJ.out j' (by omega) hg'⟩
               go_wp2
               go_roundw
               case rel => exact ⟨i + 1, by omega, rfl, fun i' hi' => by
                by_cases e : i' = i
                · rw [e]; exact hro.out
                · exact HR.out i' (by omega), hW2⟩
               case measure => simp [intOf]; omega
     · have di : decide (i < T.length) = false := decide_eq_false hit
       have hfin : Hid (SkOk T) := ⟨fun i' hi' => HR.out i' (by omega), hb40.out⟩
       go_wp2
       go_ret
       exact ⟨⟨0, rfl, fun _ => hfin.out, fun _ => rfl, fun h => absurd rfl h⟩, hW⟩
theorem scheck_any (A : Option Addr) (cap : Nat) (T : List (List Int)) (w : World) (hT : T.length ≤ 9223372036854775807) (h : SR w w.heap.size A T) :
 Calls Tryz.prog 177 #[.slice A T.length cap] w fun e w' => (∃ k : Int, e = .returned (.int .i64 k) ∧ (k = 0 → SkOk T) ∧ (SkOk T → k = 0)) ∧ Below w.heap.size w w' :=
 (scheck_code A cap T w hT h).mono (fun _ _ ⟨⟨k, a, b, c, _⟩, d⟩ => ⟨⟨k, a, b, c⟩, d⟩)
end
section
open Go.RowKit
end
section
open Go.RowKit
theorem SkOk.small {T : List (List Int)} (h : SkOk T) : T.length ≤ 40 ∧ ∀ i, (T.getD i []).length ≤ 40 := by
 have h1 : ∀ (U : List (List Int)), (∀ r ∈ U, r ≠ []) → U.length ≤ boxes U := fun U => by
  induction U with
  | nil => intro _; simp
  | cons r t ih =>
   intro hu
   have := ih (fun s hs => hu s (List.mem_cons_of_mem _ hs))
   have h2 : r.length ≠ 0 := fun e => hu r (by simp) (List.eq_nil_of_length_eq_zero e)
   rw [boxes_cons]; simp; omega
 have h3 := h.2
 have h4 := h1 T (fun r hr e => by
  obtain ⟨i, hi, rfl⟩ := List.getElem_of_mem hr
  refine (h.1 i hi).1 ?_
  rw [getD_get hi, e]; rfl)
 refine ⟨by omega, fun i => ?_⟩
 by_cases hi : i < T.length
 · have h5 := boxes_take hi
   have h6 := boxes_le (T := T) (i + 1)
   omega
 · rw [List.getD_eq_getElem?_getD, List.getElem?_eq_none (by omega)]; simp
end
end Go.Proofs.YtpmkdihencepnaaGreatDoor
