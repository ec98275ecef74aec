/-
  SlidesRound: the law, walked.
-/
import Derived.Test.YtmlmdklheiafpaaEva3W
import Derived.Test.YtmlmdklheiafpaaSlidLaw
import Derived.BigQuiet
namespace Go.Proofs.Ytmlmdklheiafpaa
open Go.RowKit

theorem std_lit1 : Std [[1, 2], [3]] := by
  have := (std_of (w := [3, 1, 2]) (n := 3) ⟨by decide, by decide⟩ rfl (by decide)).1
  rwa [show insW [] [3, 1, 2] = [[1, 2], [3]] by decide] at this
theorem std_lit2 : Std [[1, 3], [2]] := by
  have := (std_of (w := [2, 1, 3]) (n := 3) ⟨by decide, by decide⟩ rfl (by decide)).1
  rwa [show insW [] [2, 1, 3] = [[1, 3], [2]] by decide] at this
theorem pro_lit : Pro [[1, 2], [3]] [[1, 3], [2]] := by
  refine ⟨std_lit1, std_lit2, fun a => ?_, rfl, ?_⟩
  · match a with
    | 0 => rfl
    | 1 => rfl
    | a + 2 => rfl
  · have e : dec 1 ((rword [[1, 2], [3]]).filter (fun x => decide (1 < x))) = (rword [[1, 3], [2]]).filter (fun x => decide (x ≤ (boxes [[1, 2], [3]] : Int) - 1)) := by decide
    rw [e]; exact .refl _
theorem rect_boxes {c : Nat} : ∀ {T : List (List Int)}, Rect T c → boxes T = T.length * c
  | [], _ => by simp [boxes]
  | r :: t, h => by
    rw [boxes_cons, rect_boxes (T := t) (fun s hs => h s (List.mem_cons_of_mem _ hs)), h r (List.mem_cons_self ..), List.length_cons, Nat.add_mul]
    omega
theorem rect_of {T : List (List Int)} (h : Std T) (h0 : 0 < T.length) (e : rl T (T.length - 1) = rl T 0) : Rect T (rl T 0) := fun r hr => by
  obtain ⟨i, hi, rfl⟩ := List.getElem_of_mem hr
  have h1 := h.1.skOk.1.sk.1.lens 0 i (Nat.zero_le _)
  have h2 := h.1.skOk.1.sk.1.lens i (T.length - 1) (by omega)
  have h3 : rl T i = T[i].length := by unfold rl; rw [getD_get hi]
  omega
theorem rows_same (A A' : Option Addr) (cap cap' n : Nat) (xs ys : List (List Int)) (w : World) (hx : xs.length ≤ 9223372036854775807) (h : SR w w.heap.size A xs) (h' : SR w w.heap.size A' ys) (e : xs = ys) (hn : n = xs.length) :
    Calls Try.prog 31 #[.slice A n cap, .slice A' ys.length cap'] w fun e w' => e = .returned (.bool true) ∧ Below w.heap.size w w' := by
  subst hn
  subst e
  refine (rows_any A A' cap cap' xs xs w hx hx h h').mono ?_
  rintro e w' ⟨rfl, hb⟩
  exact ⟨by simp, hb⟩

set_option maxRecDepth 100000 in
set_option maxHeartbeats 2000000 in
theorem slround_law (A : Option Addr) (cap : Nat) (T : List (List Int)) (w : World) (hT : T.length ≤ 9223372036854775807) (h : SR w w.heap.size A T) :
    Calls Try.prog 12 #[.slice A T.length cap] w fun e w' => e = .returned (.bool true) ∧ Below w.heap.size w w' := by
  have hB := Nat.le_refl w.heap.size
  have H := Lib.hid h
  have s0 : SR _ _ _ _ := lit2_srA w [1, 2] [3] (by decide) (by decide)
  have hr0 := promote_any (some ⟨w.heap.size + 2, 0, none⟩) 2 [[1, 2], [3]] _ (by simp) (s0.more (by simp))
  have HR0 := Lib.hid hr0
  clear h s0 hr0
  go_enter Try.func12, Try.ntmps12
  go_wp2_with (first | (go_at_call 48; refine (HR0.out).mono ?_) | fail)
  rintro e w1 ⟨⟨k, rows, A1, c1, rfl, hs1, _, hz, hk, _⟩, hb1⟩
  have hk0 := hk std_lit1
  have hr1 := (hz hk0).2.fn pro_lit
  subst hk0
  subst hr1
  have hW1 : Below w.heap.size w w1 := below_call ((((Below.refl _ w).alloc hB _).alloc (by simp) _).alloc (by simp; omega) _) hB hb1
  have hr1 := rows_any A1 (some ⟨w1.heap.size + 2, 0, none⟩) c1 2 [[1, 3], [2]] [[1, 3], [2]] _ (by simp) (by simp) (hs1.keep ((((Below.refl _ _).alloc (Nat.le_refl _) _).alloc (by simp) _).alloc (by simp; omega) _)) (SR.more (lit2_srA w1 [1, 3] [2] (by decide) (by decide)) (by simp))
  have HR1 := Lib.hid hr1
  clear hb1 hz hk hs1 HR0 hr1
  go_wp2_with (first | (go_at_call 31; refine (HR1.out).mono ?_) | fail)
  rintro e w2 ⟨rfl, hb2⟩
  have hW2 : Below w.heap.size w w2 := below_call (((hW1.alloc hW1.size _).alloc (by have := hW1.size; simp; omega) _).alloc (by have := hW1.size; simp; omega) _) hB hb2
  have hS2 := H.out.now hW2 hB
  clear hb2 HR1 hW1
  go_wp2_with (first | (go_at_call 49; refine (evacuate_any A cap T _ hT hS2).mono ?_) | fail)
  rintro e w3 ⟨⟨k3, ra, A3, c3, rfl, hs3, hl3, hz3, _, hn3⟩, hb3⟩
  have hW3 : Below w.heap.size w w3 := below_call hW2 hB hb3
  by_cases hk3 : k3 = 0
  · obtain ⟨hst, hra⟩ := hz3 hk3
    obtain ⟨v1, v2, v3, _⟩ := hst.eva
    rw [← hra] at v1 v3
    have HST := Lib.hid hst
    have HV1 := Lib.hid v1
    have HV3 := Lib.hid v3
    have HL3 := Lib.hid hl3
    subst hk3
    clear hz3 hn3 hb3 hW2 hst hra hS2 v1 v2 v3 hl3
    go_wp2_with (first | (go_at_call 49; refine (evacuate_any A3 c3 ra _ HL3.out hs3).mono ?_) | fail)
    rintro e w4 ⟨⟨k4, rb, A4, c4, rfl, hs4, hl4, hz4, hk4, _⟩, hb4⟩
    have hk40 := hk4 HV1.out
    have hrb := (hz4 hk40).2
    rw [HV3.out] at hrb
    have hW4 : Below w.heap.size w w4 := below_call hW3 hB hb4
    have hS4 := H.out.now hW4 hB
    have HS4 := Lib.hid hs4
    have HRB := Lib.hid hrb
    have HL4 := Lib.hid hl4
    subst hk40
    clear hb4 hW3 hk4 hz4 hs3 hs4 hrb hl4
    go_wp2_with (first | (go_at_call 48; refine (promote_any A cap T _ hT hS4).mono ?_) | fail)
    rintro e w5 ⟨⟨k5, rc, A5, c5, rfl, hs5, hl5, hz5, hk5, _⟩, hb5⟩
    have hk50 := hk5 HST.out
    have hrc := (hz5 hk50).2
    have hW5 : Below w.heap.size w w5 := below_call hW4 hB hb5
    have HS5 := Lib.hid (HS4.out.keep hb5)
    have HRC := Lib.hid hrc
    have HL5 := Lib.hid hl5
    subst hk50
    clear hb5 hW4 hk5 hz5 hS4 HS4 hrc hl5
    go_wp2_with (first | (go_at_call 50; refine (demote_any A5 c5 rc _ HL5.out hs5).mono ?_) | fail)
    rintro e w6 ⟨⟨k6, rd, A6, c6, rfl, hs6, hl6, hz6, hk6, _⟩, hb6⟩
    have hk60 := hk6 HRC.out.u
    have hrd := HRC.out.inj (hz6 hk60).2
    have hW6 : Below w.heap.size w w6 := below_call hW5 hB hb6
    have HS6 := Lib.hid (HS5.out.keep hb6)
    have HD6 := Lib.hid hs6
    have HRD := Lib.hid hrd
    have HL6 := Lib.hid hl6
    have hS6 := H.out.now hW6 hB
    subst hk60
    clear hb6 hW5 hk6 hz6 hs5 HS5 hrd hl6 hs6
    go_wp2_with (first | (go_at_call 50; refine (demote_any A cap T _ hT hS6).mono ?_) | fail)
    rintro e w7 ⟨⟨k7, rx, A7, c7, rfl, hs7, hl7, hz7, hk7, _⟩, hb7⟩
    have hk70 := hk7 HST.out
    have hrx := (hz7 hk70).2
    have hW7 : Below w.heap.size w w7 := below_call hW6 hB hb7
    have HS7 := Lib.hid (HS6.out.keep hb7)
    have HD7 := Lib.hid (HD6.out.keep hb7)
    have HRX := Lib.hid hrx
    have HL7 := Lib.hid hl7
    subst hk70
    clear hb7 hW6 hk7 hz7 HS6 HD6 hrx hl7 hS6
    go_wp2_with (first | (go_at_call 48; refine (promote_any A7 c7 rx _ HL7.out hs7).mono ?_) | fail)
    rintro e w8 ⟨⟨k8, ry, A8, c8, rfl, hs8, hl8, hz8, hk8, _⟩, hb8⟩
    have hk80 := hk8 HRX.out.t
    have hry := (hz8 hk80).2.fn HRX.out
    have hW8 : Below w.heap.size w w8 := below_call hW7 hB hb8
    have HS8 := Lib.hid (HS7.out.keep hb8)
    have HD8 := Lib.hid (HD7.out.keep hb8)
    have HY8 := Lib.hid hs8
    have HRY := Lib.hid hry
    have HL8 := Lib.hid hl8
    have hS8 := H.out.now hW8 hB
    subst hk80
    clear hb8 hW7 hk8 hz8 HS7 HD7 hry hl8 hs7 hs8
    go_wp2_with (first | (go_at_call 31; refine (rows_same A4 A c4 cap _ rb T _ HL4.out HS8.out hS8 HRB.out rfl).mono ?_) | fail)
    rintro e w9 ⟨rfl, hb9⟩
    have hW9 : Below w.heap.size w w9 := below_call hW8 hB hb9
    have HD9 := Lib.hid (HD8.out.keep hb9)
    have HY9 := Lib.hid (HY8.out.keep hb9)
    have hS9 := H.out.now hW9 hB
    clear hb9 hW8 HS8 hS8 HD8 HY8 HRB
    go_wp2_with (first | (go_at_call 31; refine (rows_same A6 A c6 cap _ rd T _ HL6.out HD9.out hS9 HRD.out.symm rfl).mono ?_) | fail)
    rintro e w10 ⟨rfl, hb10⟩
    have hW10 : Below w.heap.size w w10 := below_call hW9 hB hb10
    have HY10 := Lib.hid (HY9.out.keep hb10)
    have hS10 := H.out.now hW10 hB
    clear hb10 hW9 HD9 hS9 HY9 HRD
    go_wp2_with (first | (go_at_call 31; refine (rows_same A8 A c8 cap _ ry T _ HL8.out HY10.out hS10 HRY.out rfl).mono ?_) | fail)
    rintro e w11 ⟨rfl, hb11⟩
    have hW11 : Below w.heap.size w w11 := below_call hW10 hB hb11
    have hS11 := H.out.now hW11 hB
    clear hb11 hW10 HY10 hS10 HRY
    have hsm := HST.out.1.small
    have hT4 := hsm.1
    have HS11 := Lib.hid hS11
    by_cases hT0 : T.length = 0
    · have dT : decide ((T.length : Int) = 0) = true := decide_eq_true (by omega)
      have dT2 : ((T.length : Int) == 0) = true := beq_iff_eq.2 (by omega)
      clear hsm hS11
      go_wp2
      go_quiet (fail)
      go_wp2
      go_ret
      exact ⟨rfl, below_drewN hW11 _⟩
    · have dT : decide ((T.length : Int) = 0) = false := decide_eq_false (by omega)
      have dT2 : ((T.length : Int) == 0) = false := beq_eq_false_iff_ne.2 (by omega)
      obtain ⟨b, o, rfl, hb⟩ := hS11.addr (by omega)
      obtain ⟨Al, cl, hcl, _, _⟩ := hS11.at_ (r := T.length - 1) (by omega)
      obtain ⟨Af, cf, hcf, _, _⟩ := hS11.at_ (r := 0) (by omega)
      have hq1 : (T.getD (T.length - 1) []).length ≤ 40 := hsm.2 _
      have hq2 : (T.getD 0 []).length ≤ 40 := hsm.2 _
      obtain ⟨q1, hq1e⟩ : ∃ q1, q1 = (T.getD (T.length - 1) []).length := ⟨_, rfl⟩
      obtain ⟨q2, hq2e⟩ : ∃ q2, q2 = (T.getD 0 []).length := ⟨_, rfl⟩
      rw [← hq1e] at hcl hq1
      rw [← hq2e] at hcf hq2
      have hrc := fun (e : q1 = q2) => rect_of HST.out (by omega) (show rl T (T.length - 1) = rl T 0 by unfold rl; rw [← hq1e, ← hq2e]; exact e)
      have HRCT := Lib.hid hrc
      have HQ2 := Lib.hid hq2e
      have hTp : 0 < T.length := by omega
      have hcf2 : w11.cell? ⟨b, o, none⟩ = some (.slice Af q2 cf) := hcf
      clear hsm hS11 hrc hq1e hq2e
      by_cases hqq : q1 = q2
      · have dq : decide ((q1 : Int) = (q2 : Int)) = true := decide_eq_true (by omega)
        have dq2 : ((q1 : Int) == (q2 : Int)) = true := beq_iff_eq.2 (by omega)
        have dq3 : ((q1 : Int) != (q2 : Int)) = false := by simp [hqq]
        have hrect := HRCT.out hqq
        have hbx := rect_boxes hrect
        have hrl : rl T 0 = q2 := HQ2.out.symm
        rw [hrl] at hbx
        have hn40 := HST.out.1.2.2
        have hmul : IntKind.i64.wrap ((T.length : Int) * (q2 : Int)) = ((boxes T : Nat) : Int) := by
          rw [hbx]
          rw [IntWalk.i64_in _ (by rw [← Int.natCast_mul, ← hbx]; omega)]
          rw [Int.natCast_mul]
        obtain ⟨n, hn⟩ : ∃ n, n = boxes T := ⟨_, rfl⟩
        rw [← hn] at hmul hn40
        have HN := Lib.hid hn
        have HRECT := Lib.hid hrect
        clear hbx hrl hqq hn hrect HRCT
        go_wp2
        go_quiet (fail)
        go_wp2
        go_loopw [6, 17, 131] (fun ev nv kv wr => ∃ (k : Nat) (rows : List (List Int)) (A' : Option Addr) (c' : Nat), k ≤ n ∧ kv = .int .i64 k ∧ ev = .int .i64 0 ∧ nv = .slice A' rows.length c' ∧ SR wr wr.heap.size A' rows ∧ rows.length ≤ 9223372036854775807 ∧ Pros k T rows ∧ Below w.heap.size w wr) (fun _ _ kv _ => n - (intOf kv).toNat)
        case atStart => exact ⟨0, T, _, cap, Nat.zero_le _, rfl, rfl, rfl, HS11.out, hT, .zero HST.out, below_drewN hW11 _⟩
        case round =>
          obtain ⟨k, rows, A', c', hkn, rfl, rfl, rfl, hsr, hrl, hps, hW⟩ := hrel
          have HPS := Lib.hid hps
          have HW := Lib.hid hW
          have HRL := Lib.hid hrl
          have HSR := Lib.hid hsr
          clear hps hW hsr hrl
          by_cases hkk : k < n
          · have dk : decide (k < n) = true := decide_eq_true hkk
            go_wp2_with (first | (go_at_call 48; refine (promote_any A' c' rows _ HRL.out HSR.out).mono ?_) | fail)
            rintro e w12 ⟨⟨k12, r12, A12, c12, rfl, hs12, hl12, hz12, hk12, _⟩, hb12⟩
            have hk120 := hk12 HPS.out.facts.2.1
            have hp12 := Pros.succ HPS.out (hz12 hk120).2
            have hW12 : Below w.heap.size w w12 := below_call HW.out hB hb12
            have HP12 := Lib.hid hp12
            have HS12 := Lib.hid hs12
            have HL12 := Lib.hid hl12
            have HW12 := Lib.hid hW12
            subst hk120
            clear hz12 hk12 hb12 hp12 hs12 hl12 hW12
            go_wp2
            go_roundw
            case rel => exact ⟨k + 1, r12, A12, c12, by omega, by go_num, rfl, rfl, HS12.out, HL12.out, HP12.out, HW12.out⟩
            case measure => simp [intOf]; omega
          · have dk : decide (k < n) = false := decide_eq_false hkk
            have hps := HPS.out
            rw [show k = boxes T by rw [← HN.out]; omega] at hps
            have hfin := hps.rect HRECT.out
            have HFIN := Lib.hid hfin
            have hS12 := Lib.hid (H.out.now HW.out hB)
            clear hps hfin
            go_wp2_with (first | (go_at_call 31; refine (rows_same A' (some ⟨b, o, none⟩) c' cap _ rows T _ HRL.out HSR.out hS12.out HFIN.out rfl).mono ?_) | fail)
            rintro e w13 ⟨rfl, hb13⟩
            have hW13 : Below w.heap.size w w13 := below_call HW.out hB hb13
            go_wp2
            go_ret
            exact ⟨rfl, hW13⟩
      · have dq : decide ((q1 : Int) = (q2 : Int)) = false := decide_eq_false (by omega)
        have dq2 : ((q1 : Int) == (q2 : Int)) = false := beq_eq_false_iff_ne.2 (by omega)
        have dq3 : ((q1 : Int) != (q2 : Int)) = true := by simp; omega
        go_wp2
        go_quiet (fail)
        go_wp2
        go_ret
        exact ⟨rfl, below_drewN hW11 _⟩
  · have dk : (k3 != 0) = true := by simpa using hk3
    have hnil := hn3 hk3
    subst hnil
    clear hz3 hn3 hb3 hW2 hS2 hs3
    go_wp2
    go_ret
    exact ⟨rfl, hW3⟩
end Go.Proofs.Ytmlmdklheiafpaa
