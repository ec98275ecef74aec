/-
  slides.standard, slides.Evacuate: what they answer.
-/
import Derived.Test.YtmlmdklheiafpaaSlid8W
import Derived.Test.YtmlmdklheiafpaaEvaD
namespace Go.Proofs.Ytmlmdklheiafpaa
open Go.RowKit

def SStd (e : Ending) (T : List (List Int)) : Prop := ∃ k : Int, e = .returned (.int .i64 k) ∧ (k = 0 → Std T) ∧ (Std T → k = 0)
set_option maxRecDepth 100000 in
set_option maxHeartbeats 1000000 in
theorem sstd_any (A : Option Addr) (cap : Nat) (T : List (List Int)) (w : World) (hT : T.length ≤ 9223372036854775807) (h : SR w w.heap.size A T) :
    Calls Try.prog 73 #[.slice A T.length cap] w fun e w' => SStd e T ∧ Below w.heap.size w w' := by
  go_enter Try.func73, Try.ntmps73
  go_wp2_with (first | (go_at_call 65; refine (standard_any A cap T _ hT h).mono ?_) | fail)
  rintro e w1 ⟨⟨b, k, rfl, hk1, hk2, hk3⟩, hb1⟩
  have HK1 := Lib.hid hk1
  have HK2 := Lib.hid hk2
  have HK3 := Lib.hid hk3
  clear hk1 hk2 hk3
  by_cases hk0 : k = 0
  · subst hk0
    obtain ⟨h1, h2⟩ := HK1.out rfl
    have H1 := Lib.hid h1
    have H2 := Lib.hid h2
    clear h1 h2 HK1 HK2 HK3
    cases b with
    | true =>
      have HS := Lib.hid (show Std T from ⟨H1.out, H2.out.1 rfl⟩)
      clear H2
      go_wp2
      go_ret
      exact ⟨⟨0, rfl, fun _ => HS.out, fun _ => rfl⟩, hb1⟩
    | false =>
      have HS := Lib.hid (show ¬ Std T from fun hs => by have := H2.out.2 hs.2; cases this)
      clear H2
      go_wp2
      go_ret
      exact ⟨⟨3, rfl, fun e => absurd e (by decide), fun hs => absurd hs HS.out⟩, hb1⟩
  · have dk : (k == 0) = false := by simpa using hk0
    have HK0 := Lib.hid hk0
    go_wp2
    go_ret
    exact ⟨⟨k, rfl, fun e => absurd e HK0.out, fun hs => HK2.out hs.1⟩, hb1⟩

/-- What Evacuate, Promote, Demote answer. -/
def OpOut (e : Ending) (w : World) (T : List (List Int)) (F : List (List Int) → Prop) : Prop := ∃ (k : Int) (rows : List (List Int)) (A' : Option Addr) (c' : Nat), e = .returned (.tuple #[.slice A' rows.length c', .int .i64 k]) ∧ SR w w.heap.size A' rows ∧ rows.length ≤ 9223372036854775807 ∧ (k = 0 → Std T ∧ F rows) ∧ (Std T → k = 0) ∧ (k ≠ 0 → rows = [])
theorem op_own {w : World} {B : Nat} {v : Value} {hs : List Value} {rows T : List (List Int)} {F : List (List Int) → Prop} (h : OwnM w B v hs rows) (hT : Std T) (hF : F rows) : OpOut (.returned (.tuple #[v, .int .i64 0])) w T F := by
  obtain ⟨A, c, rfl, hs', h1, h2⟩ := h.sr
  exact ⟨0, rows, A, c, rfl, hs', by omega, fun _ => ⟨hT, hF⟩, fun _ => rfl, fun e => absurd rfl e⟩
theorem op_bad {w : World} {T : List (List Int)} {F : List (List Int) → Prop} {k : Int} (hk : k ≠ 0) (hT : Std T → k = 0) : OpOut (.returned (.tuple #[.slice none 0 0, .int .i64 k])) w T F :=
  ⟨k, [], none, 0, rfl, SR.nil _ _ _, by simp, fun e => absurd e hk, hT, fun _ => rfl⟩
/-- On the way of Evacuate. -/
structure Evas (T : List (List Int)) (s E : List (List Int)) (n : Nat) : Prop where
  g : Evag T s n
  w : Evaw T E n

set_option maxRecDepth 100000 in
set_option maxHeartbeats 1000000 in
theorem evacuate_any (A : Option Addr) (cap : Nat) (T : List (List Int)) (w : World) (hT : T.length ≤ 9223372036854775807) (h : SR w w.heap.size A T) :
    Calls Try.prog 49 #[.slice A T.length cap] w fun e w' => OpOut e w' T (fun rows => rows = eva T) ∧ Below w.heap.size w w' := by
  have H := Lib.hid h
  go_enter Try.func49, Try.ntmps49
  go_wp2_with (first | (go_at_call 73; refine (sstd_any A cap T _ hT h).mono ?_) | fail)
  rintro e w1 ⟨⟨k, rfl, hk1, hk2⟩, hb1⟩
  by_cases hk0 : k = 0
  · have hst := hk1 hk0
    have hT4 := hst.1.small.1
    have hT5 := hst.1.small.2
    have hn40 := hst.1.2.2
    have h1 := h.now hb1 (Nat.le_refl _)
    have HST := Lib.hid hst
    have HT5 := Lib.hid hT5
    have e1 : T.length < 1000000 := by omega
    have e2 : ∀ i, (T.getD i []).length < 1000000 := fun i => by have := hT5 i; omega
    have E2 := Lib.hid e2
    subst hk0
    clear hk1 hk2 hst h hT5 e2
    go_wp2_with (first | (go_at_call 75; refine (stwin_out A cap T _ e1 E2.out h1).mono ?_) | fail)
    rintro e w2 ⟨⟨v, hs, rfl, hm⟩, hb2⟩
    have h2 := h1.now hb2 (Nat.le_refl _)
    have HM := Lib.hid hm
    have HB1 := Lib.hid hb1
    have HB2 := Lib.hid hb2
    clear hm h1 hb1 hb2
    go_wp2_with (first | (go_at_call 75; refine (stwin_out A cap T _ e1 E2.out h2).mono ?_) | fail)
    rintro e w3 ⟨⟨v2, hs2, rfl, hm2⟩, hb3⟩
    have hW3 : Below w.heap.size w w3 := below_call (below_call HB1.out (Nat.le_refl _) HB2.out) (Nat.le_refl _) hb3
    have HM3 := Lib.hid ((HM.out.below hb3).low HB1.out.size)
    have HD : Hid (∀ k, foot v2 hs2 k → ¬ foot v hs k) := fun k g1 g2 => by
      have a1 := (hm2.foot_lt g1).1
      have a2 := (HM.out.foot_lt g2).2
      omega
    have HM2 := Lib.hid (hm2.low (Nat.le_trans HB1.out.size HB2.out.size))
    have HW3 := Lib.hid hW3
    obtain ⟨A2, c2, rfl, -, -, -⟩ := hm2.sr
    obtain ⟨A1, c1, rfl, -, -, -⟩ := HM.out.sr
    have HS3 := Lib.hid (h2.now hb3 (Nat.le_refl _))
    clear hm2 hb3 h2 hW3 HB1 HB2 HM e1 E2
    go_wp2
    go_loop [7, 23] (fun nv iv => ∃ (i : Nat), i ≤ T.length ∧ iv = .int .i64 i ∧ nv = .int .i64 (boxes (T.take i))) (fun _ iv => T.length - (intOf iv).toNat)
    case atStart => exact ⟨0, Nat.zero_le _, rfl, by simp [boxes]⟩
    case round =>
      obtain ⟨i, hi, rfl, rfl⟩ := hrel
      by_cases hip : i < T.length
      · have di : decide (i < T.length) = true := decide_eq_true hip
        obtain ⟨b, o, rfl, hb⟩ := HS3.out.addr (by omega)
        obtain ⟨Ar, cr, hcl, hr, hrl⟩ := HS3.out.at_ hip
        have hbt := boxes_take (T := T) (i := i) (by omega)
        have hble := boxes_le (T := T) (i + 1)
        obtain ⟨q, hq⟩ : ∃ q, q = (T.getD i []).length := ⟨_, rfl⟩
        obtain ⟨y, hy⟩ : ∃ y, y = boxes (T.take i) := ⟨_, rfl⟩
        rw [← hq] at hcl
        rw [← hq, ← hy] at hbt
        rw [← hy]
        have HBT := Lib.hid hbt
        have hyq : y + q ≤ 40 := by omega
        clear hq hy hbt hble hr hrl
        go_wp2
        go_round
        case rel => exact ⟨i + 1, by omega, by go_num, by rw [HBT.out]; go_num⟩
        case measure => simp [intOf]; omega
      · have di : decide (i < T.length) = false := decide_eq_false hip
        have hall : boxes (T.take i) = boxes T := by rw [List.take_of_length_le (by omega)]
        rw [hall]
        clear hall
        have HEV : Hid (Evas T T T (boxes T)) := Lib.hid ⟨Evag.start HST.out, Evaw.start HST.out⟩
        obtain ⟨N, hN⟩ : ∃ N, N = boxes T := ⟨_, rfl⟩
        have HN := Lib.hid hN
        rw [← hN] at HEV hn40 ⊢
        clear hN
        go_wp2
        go_loopw [5, 7] (fun sv nv wr => ∃ (n : Nat) (s E : List (List Int)) (hs : List Value) (A5 : Option Addr) (c5 : Nat), n ≤ N ∧ nv = .int .i64 n ∧ sv = .slice A5 s.length c5 ∧ Evas T s E n ∧ OwnM wr w.heap.size (.slice A5 s.length c5) hs s ∧ OwnM wr w.heap.size (.slice A2 T.length c2) hs2 E ∧ (∀ k, foot (.slice A2 T.length c2) hs2 k → ¬ foot (.slice A5 s.length c5) hs k) ∧ Below w.heap.size w wr) (fun _ nv _ => (intOf nv).toNat)
        case atStart => exact ⟨N, T, T, hs, A1, c1, Nat.le_refl _, rfl, rfl, HEV.out, HM3.out, HM2.out, HD.out, HW3.out⟩
        case round =>
          clear HEV HM3 HM2 HW3 HD HS3
          obtain ⟨n, s, E, hs, A5, c5, hnN, rfl, rfl, hev, hm, hm2, hd, hW⟩ := hrel
          have HEV := Lib.hid hev
          have HM := Lib.hid hm
          have HM2 := Lib.hid hm2
          have HD := Lib.hid hd
          have HW := Lib.hid hW
          have hB := hW.size
          clear hev hm hm2 hd hW
          by_cases hn0 : 0 < n
          · have dn : decide ((0 : Int) < (n : Int)) = true := decide_eq_true (by omega)
            obtain ⟨n', hn'⟩ : ∃ n', n' + 1 = n := ⟨n - 1, by omega⟩
            have hev := HEV.out
            rw [← hn'] at hev
            have HEV2 := Lib.hid hev
            have hnn : n ≤ 40 := by omega
            have HNN := Lib.hid hn'
            have hn40 : n' ≤ 40 := by omega
            have hsm := HEV.out.g.ok.small
            have hs1 : s.length ≤ 1000 := by have := hsm.1; omega
            have hs2' : ∀ a, rl s a ≤ 1000 := fun a => Nat.le_trans (hsm.2 a) (by omega)
            have HS2 := Lib.hid hs2'
            have hsl := slid_any _ hs s 0 0 wr hB HM.out hev.g.cfg hs1 HS2.out
            rw [show ((0 : Nat) : Int) = 0 from rfl] at hsl
            have HSL := Lib.hid hsl
            clear hev hn' hsm hs2' hsl HEV
            go_wp2_with (first | (go_at_call 74; refine (HSL.out).mono ?_) | fail)
            rintro e w6 ⟨⟨v6, hs6, out, i, j, rfl, hm6, hsl, hfr, hft⟩, hb6⟩
            obtain ⟨A6, c6, rfl, -, -, -⟩ := hm6.sr
            have hst2 := HEV2.out.w.step HST.out HEV2.out.g hsl
            have hgg := HEV2.out.g.step HST.out hsl
            have hEi := hst2.1.1
            have hEj := hst2.1.2
            have hm2 := HM2.out.frame hfr HD.out
            have hElen : E.length = T.length := HEV2.out.w.len
            obtain ⟨G, c', eG, -, -⟩ := hm2.out.form (by omega)
            obtain ⟨rfl, rfl⟩ : A2 = some ⟨G, 0, none⟩ ∧ c2 = c' := by injection eG with g1 _ g3; exact ⟨g1, g3⟩
            obtain ⟨gr, cr, hhr, hcc, hor, hg1, hg2⟩ := hm2.row (r := i) hEi (by unfold rl at hEj; omega)
            have hck := own_get hor (getD_some (l := E.getD i []) (j := j) hEj)
            have hfk := hor.frozenAt j
            have hmo := hm2.out
            rw [hElen] at hmo
            have hfz := hmo.frozenAt i
            clear hmo
            obtain ⟨z, hz⟩ : ∃ z, z = (E.getD i []).getD j 0 := ⟨_, rfl⟩
            obtain ⟨q, hq⟩ : ∃ q, q = rl E i := ⟨_, rfl⟩
            have hq2 : (E.getD i []).length = q := hq.symm
            rw [← hz] at hck
            rw [← hq] at hEj
            rw [hq2] at hcc
            have hcap := (own_cap hor).1
            have hcap2 := (own_cap hor).2
            rw [hq2] at hcap
            have hstI := hm2.setIn (r := i) (g := gr) (c := cr) hEi hhr j (n : Int)
            have hfoot : foot (.slice (some ⟨G, 0, none⟩) T.length c2) hs2 gr := foot_row (i := i) (by rw [hm2.len]; exact hEi) (by rw [hhr]; rfl)
            have hm6' := hm6.frame ((Fr.refl w6 (foot (.slice (some ⟨G, 0, none⟩) T.length c2) hs2)).setCell (a := ⟨gr, j, none⟩) (y := .int .i64 (n : Int)) hfoot) (fun k g1 g2 => HD.out k g2 (hft k g1))
            have hW6 := (HW.out.trans hb6).setCell (p := ⟨gr, j, none⟩) hg1 (.int .i64 (n : Int))
            have HEV3 : Hid (Evas T out (put E i j ((n' + 1 : Nat) : Int)) n') := Lib.hid ⟨hgg, hst2.2⟩
            have HST2 := Lib.hid hstI
            have HM6 := Lib.hid hm6'
            have HW6 := Lib.hid hW6
            have hit : i < T.length := by omega
            have HD6 : Hid (∀ k, foot (.slice (some ⟨G, 0, none⟩) T.length c2) hs2 k → ¬ foot (.slice A6 out.length c6) hs6 k) := fun k g1 g2 => HD.out k g1 (hft k g2)
            clear hst2 hgg hm2 hhr hor hq hq2 hz hstI hfoot hm6' hW6 hm6 hfr hft hb6 hsl eG HM HM2 HW HD HS2 HSL HEV2 hElen
            go_wp2
            go_roundw
            case rel => exact ⟨n', out, _, hs6, A6, c6, by have := HNN.out; omega, by have := HNN.out; congr 1; omega, rfl, HEV3.out, HM6.out, by have := HST2.out; rw [← HNN.out] at this ⊢; exact this, HD6.out, HW6.out⟩
            case measure => simp [intOf]; have := HNN.out; omega
          · have dn : decide ((0 : Int) < (n : Int)) = false := decide_eq_false (by omega)
            obtain rfl : n = 0 := by omega
            have hfn := op_own (F := fun rows => rows = eva T) HM2.out HST.out (HEV.out.w.done HST.out)
            have HFN := Lib.hid hfn
            clear hfn
            go_wp2
            go_ret2
            exact ⟨HFN.out, HW.out⟩
  · have dk : (k != 0) = true := by simpa using hk0
    have HK0 := Lib.hid hk0
    have HK2 := Lib.hid hk2
    clear hk1 hk2
    go_wp2
    go_ret2
    exact ⟨op_bad HK0.out HK2.out, hb1⟩
end Go.Proofs.Ytmlmdklheiafpaa
