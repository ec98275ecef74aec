/- Part of the proof. -/
import Derived.Test.YtpmkdihencepnaaGreatDoorMk12
import Derived.Test.YtpmkdihencepnaaGreatDoorMk14
set_option maxHeartbeats 16000000
set_option maxRecDepth 100000
namespace Go.Proofs.YtpmkdihencepnaaGreatDoor
section
open Go.RowKit
def SStd (e : Ending) (T : List (List Int)) : Prop := ∃ k : Int, e = .returned (.int .i64 k) ∧ (k = 0 → Std T) ∧ (Std T → k = 0)
theorem sstd_any (A : Option Addr) (cap : Nat) (T : List (List Int)) (w : World) (hT : T.length ≤ 9223372036854775807) (h : SR w w.heap.size A T) :
 Calls Tryz.prog 181 #[.slice A T.length cap] w fun e w' => SStd e T ∧ Below w.heap.size w w' := by
 go_enter Tryz.func181, Tryz.ntmps181
 go_wp2_with (first | (go_at_call 147; refine (standard_any A cap T _ hT h).mono ?_) | fail)
 rintro e w1 ⟨⟨b, k, rfl, hk1, hk2, hk3⟩, hb1⟩
 have HK1 := Lib.hid hk1
 have HK2 := Lib.hid hk2
 have HK3 := Lib.hid hk3
 clear hk1 hk2 hk3
 by_cases hk0 : k = 0
 · subst hk0
   obtain ⟨h1, h2⟩ := HK1.out rfl
   have H1 := Lib.hid h1
   have H2 := Lib.hid h2
   clear h1 h2 HK1 HK2 HK3
   cases b with
   | true =>
    have HS := Lib.hid (show Std T from ⟨H1.out, H2.out.1 rfl⟩)
    clear H2
    go_wp2
    go_ret
    exact ⟨⟨0, rfl, fun _ => HS.out, fun _ => rfl⟩, hb1⟩
   | false =>
    have HS := Lib.hid (show ¬ Std T from fun hs => by have := H2.out.2 hs.2; cases this)
    clear H2
    go_wp2
    go_ret
    exact ⟨⟨3, rfl, fun e => absurd e (by decide), fun hs => absurd hs HS.out⟩, hb1⟩
 · have dk : (k == 0) = false := by simpa using hk0
   have HK0 := Lib.hid hk0
   go_wp2
   go_ret
   exact ⟨⟨k, rfl, fun e => absurd e HK0.out, fun hs => HK2.out hs.1⟩, hb1⟩
def OpOut (B : Nat) (e : Ending) (w : World) (T : List (List Int)) (F : List (List Int) → Prop) : Prop := ∃ (k : Int) (rows : List (List Int)) (A' : Option Addr) (c' : Nat), e = .returned (.tuple #[.slice A' rows.length c', .int .i64 k]) ∧ OwnR w B A' c' rows ∧ rows.length ≤ 9223372036854775807 ∧ (k = 0 → Std T ∧ F rows) ∧ (Std T → k = 0) ∧ (k ≠ 0 → rows = [])
theorem op_own {w : World} {B : Nat} {v : Value} {hs : List Value} {rows T : List (List Int)} {F : List (List Int) → Prop} (h : OwnM w B v hs rows) (hT : Std T) (hF : F rows) : OpOut B (.returned (.tuple #[v, .int .i64 0])) w T F := by
 obtain ⟨A, c, rfl, hs', h1, h2⟩ := h.ownR
 exact ⟨0, rows, A, c, rfl, hs', by omega, fun _ => ⟨hT, hF⟩, fun _ => rfl, fun e => absurd rfl e⟩
theorem op_bad {B : Nat} {w : World} {T : List (List Int)} {F : List (List Int) → Prop} {k : Int} (hk : k ≠ 0) (hT : Std T → k = 0) : OpOut B (.returned (.tuple #[.slice none 0 0, .int .i64 k])) w T F :=
 ⟨k, [], none, 0, rfl, OwnR.nil _ _, by simp, fun e => absurd e hk, hT, fun _ => rfl⟩
structure Evas (T : List (List Int)) (s E : List (List Int)) (n : Nat) : Prop where
 g : Evag T s n
 w : Evaw T E n
theorem evacuate_any (A : Option Addr) (cap : Nat) (T : List (List Int)) (w : World) (hT : T.length ≤ 9223372036854775807) (h : SR w w.heap.size A T) :
 Calls Tryz.prog 139 #[.slice A T.length cap] w fun e w' => OpOut w.heap.size e w' T (fun rows => rows = eva T) ∧ Below w.heap.size w w' := by
 have H := Lib.hid h
 go_enter Tryz.func139, Tryz.ntmps139
 go_wp2_with (first | (go_at_call 181; refine (sstd_any A cap T _ hT h).mono ?_) | fail)
 rintro e w1 ⟨⟨k, rfl, hk1, hk2⟩, hb1⟩
 by_cases hk0 : k = 0
 · have hst := hk1 hk0
   have hT4 := hst.1.small.1
   have hT5 := hst.1.small.2
   have hn40 := hst.1.2.2
   have h1 := h.now hb1 (Nat.le_refl _)
   have HST := Lib.hid hst
   have HT5 := Lib.hid hT5
   have e1 : T.length < 1000000 := by omega
   have e2 : ∀ i, (T.getD i []).length < 1000000 := fun i => by have := hT5 i; omega
   have E2 := Lib.hid e2
   subst hk0
   clear hk1 hk2 hst h hT5 e2
   go_wp2_with (first | (go_at_call 178; refine (stwin_out A cap T _ e1 E2.out h1).mono ?_) | fail)
   rintro e w2 ⟨⟨v, hs, rfl, hm⟩, hb2⟩
   have h2 := h1.now hb2 (Nat.le_refl _)
   have HM := Lib.hid hm
   have HB1 := Lib.hid hb1
   have HB2 := Lib.hid hb2
   clear hm h1 hb1 hb2
   go_wp2_with (first | (go_at_call 178; refine (stwin_out A cap T _ e1 E2.out h2).mono ?_) | fail)
   rintro e w3 ⟨⟨v2, hs2, rfl, hm2⟩, hb3⟩
   have hW3 : Below w.heap.size w w3 := below_call (below_call HB1.out (Nat.le_refl _) HB2.out) (Nat.le_refl _) hb3
   have HM3 := Lib.hid ((HM.out.below hb3).low HB1.out.size)
   have HD : Hid (∀ k, foot v2 hs2 k → ¬ foot v hs k) := fun k g1 g2 => by
    have a1 := (hm2.foot_lt g1).1
    have a2 := (HM.out.foot_lt g2).2
    omega
   have HM2 := Lib.hid (hm2.low (Nat.le_trans HB1.out.size HB2.out.size))
   have HW3 := Lib.hid hW3
   obtain ⟨A2, c2, rfl, -, -, -⟩ := hm2.sr
   obtain ⟨A1, c1, rfl, -, -, -⟩ := HM.out.sr
   have HS3 := Lib.hid (h2.now hb3 (Nat.le_refl _))
   clear hm2 hb3 h2 hW3 HB1 HB2 HM e1 E2
   go_wp2
   go_loop [7, 23] (fun nv iv => ∃ (i : Nat), i ≤ T.length ∧ iv = .int .i64 i ∧ nv = .int .i64 (boxes (T.take i))) (fun _ iv => T.length - (intOf iv).toNat)
   case atStart => exact ⟨0, Nat.zero_le _, rfl, by simp [boxes]⟩
   case round =>
    obtain ⟨i, hi, rfl, rfl⟩ := hrel
    by_cases hip : i < T.length
    · have di : decide (i < T.length) = true := decide_eq_true hip
      obtain ⟨b, o, rfl, hb⟩ := HS3.out.addr (by omega)
      obtain ⟨Ar, cr, hcl, hr, hrl⟩ := HS3.out.at_ hip
      have hbt := boxes_take (T := T) (i := i) (by omega)
      have hble := boxes_le (T := T) (i + 1)
      obtain ⟨q, hq⟩ : ∃ q, q = (T.getD i []).length := ⟨_, rfl⟩
      obtain ⟨y, hy⟩ : ∃ y, y = boxes (T.take i) := ⟨_, rfl⟩
      rw [← hq] at hcl
      rw [← hq, ← hy] at hbt
      rw [← hy]
      have HBT := Lib.hid hbt
      have hyq : y + q ≤ 40 := by omega
      clear hq hy hbt hble hr hrl
      go_wp2
      go_round
      case rel => exact ⟨i + 1, by omega, by go_num, by rw [HBT.out]; go_num⟩
      case measure => simp [intOf]; omega
    · have di : decide (i < T.length) = false := decide_eq_false hip
      have hall : boxes (T.take i) = boxes T := by rw [List.take_of_length_le (by omega)]
      rw [hall]
      clear hall
      have HEV : Hid (Evas T T T (boxes T)) := Lib.hid ⟨Evag.start HST.out, Evaw.start HST.out⟩
      obtain ⟨N, hN⟩ : ∃ N, N = boxes T := ⟨_, rfl⟩
      have HN := Lib.hid hN
      rw [← hN] at HEV hn40 ⊢
      clear hN
      go_wp2
      go_loopw [5, 7] (fun sv nv wr => ∃ (n : Nat) (s E : List (List Int)) (hs : List Value) (A5 : Option Addr) (c5 : Nat), n ≤ N ∧ nv = .int .i64 n ∧ sv = .slice A5 s.length c5 ∧ Evas T s E n ∧ OwnM wr w.heap.size (.slice A5 s.length c5) hs s ∧ OwnM wr w.heap.size (.slice A2 T.length c2) hs2 E ∧ (∀ k, foot (.slice A2 T.length c2) hs2 k → ¬ foot (.slice A5 s.length c5) hs k) ∧ Below w.heap.size w wr) (fun _ nv _ => (intOf nv).toNat)
      case atStart => exact ⟨N, T, T, hs, A1, c1, Nat.le_refl _, rfl, rfl, HEV.out, HM3.out, HM2.out, HD.out, HW3.out⟩
      case round =>
       clear HEV HM3 HM2 HW3 HD HS3
       obtain ⟨n, s, E, hs, A5, c5, hnN, rfl, rfl, hev, hm, hm2, hd, hW⟩ := hrel
       have HEV := Lib.hid hev
       have HM := Lib.hid hm
       have HM2 := Lib.hid hm2
       have HD := Lib.hid hd
       have HW := Lib.hid hW
       have hB := hW.size
       clear hev hm hm2 hd hW
       by_cases hn0 : 0 < n
       · have dn : decide ((0 : Int) < (n : Int)) = true := decide_eq_true (by omega)
         obtain ⟨n', hn'⟩ : ∃ n', n' + 1 = n := ⟨n - 1, by omega⟩
         have hev := HEV.out
         rw [← hn'] at hev
         have HEV2 := Lib.hid hev
         have hnn : n ≤ 40 := by omega
         have HNN := Lib.hid hn'
         have hn40 : n' ≤ 40 := by omega
         have hsm := HEV.out.g.ok.small
         have hs1 : s.length ≤ 1000 := by have := hsm.1; omega
         have hs2' : ∀ a, rl s a ≤ 1000 := fun a => Nat.le_trans (hsm.2 a) (by omega)
         have HS2 := Lib.hid hs2'
         have hsl := slid_any _ hs s 0 0 wr hB HM.out hev.g.cfg hs1 HS2.out
         rw [show ((0 : Nat) : Int) = 0 from rfl] at hsl
         have HSL := Lib.hid hsl
         clear hev hn' hsm hs2' hsl HEV
         go_wp2_with (first | (go_at_call 180; refine (HSL.out).mono ?_) | fail)
         rintro e w6 ⟨⟨v6, hs6, out, i, j, rfl, hm6, hsl, hfr, hft⟩, hb6⟩
         obtain ⟨A6, c6, rfl, -, -, -⟩ := hm6.sr
         have hst2 := HEV2.out.w.step HST.out HEV2.out.g hsl
         have hgg := HEV2.out.g.step HST.out hsl
         have hEi := hst2.1.1
         have hEj := hst2.1.2
         have hm2 := HM2.out.frame hfr HD.out
         have hElen : E.length = T.length := HEV2.out.w.len
         obtain ⟨G, c', eG, -, -⟩ := hm2.out.form (by omega)
         obtain ⟨rfl, rfl⟩ : A2 = some ⟨G, 0, none⟩ ∧ c2 = c' := by injection eG with g1 _ g3; exact ⟨g1, g3⟩
         obtain ⟨gr, cr, hhr, hcc, hor, hg1, hg2⟩ := hm2.row (r := i) hEi (by unfold rl at hEj; omega)
         have hck := own_get hor (getD_some (l := E.getD i []) (j := j) hEj)
         have hfk := hor.frozenAt j
         have hmo := hm2.out
         rw [hElen] at hmo
         have hfz := hmo.frozenAt i
         clear hmo
         obtain ⟨z, hz⟩ : ∃ z, z = (E.getD i []).getD j 0 := ⟨_, rfl⟩
         obtain ⟨q, hq⟩ : ∃ q, q = rl E i := ⟨_, rfl⟩
         have hq2 : (E.getD i []).length = q := hq.symm
         rw [← hz] at hck
         rw [← hq] at hEj
         rw [hq2] at hcc
         have hcap := (own_cap hor).1
         have hcap2 := (own_cap hor).2
         rw [hq2] at hcap
         have hstI := hm2.setIn (r := i) (g := gr) (c := cr) hEi hhr j (n : Int)
         have hfoot : foot (.slice (some ⟨G, 0, none⟩) T.length c2) hs2 gr := foot_row (i := i) (by rw [hm2.len]; exact hEi) (by rw [hhr]; rfl)
         have hm6' := hm6.frame ((Fr.refl w6 (foot (.slice (some ⟨G, 0, none⟩) T.length c2) hs2)).setCell (a := ⟨gr, j, none⟩) (y := .int .i64 (n : Int)) hfoot) (fun k g1 g2 => HD.out k g2 (hft k g1))
         have hW6 := (HW.out.trans hb6).setCell (p := ⟨gr, j, none⟩) hg1 (.int .i64 (n : Int))
         have HEV3 : Hid (Evas T out (put E i j ((n' + 1 : Nat) : Int)) n') := Lib.hid ⟨hgg, hst2.2⟩
         have HST2 := Lib.hid hstI
         have HM6 := Lib.hid hm6'
         have HW6 := Lib.hid hW6
         have hit : i < T.length := by omega
         have HD6 : Hid (∀ k, foot (.slice (some ⟨G, 0, none⟩) T.length c2) hs2 k → ¬ foot (.slice A6 out.length c6) hs6 k) := fun k g1 g2 => HD.out k g1 (hft k g2)
         clear hst2 hgg hm2 hhr hor hq hq2 hz hstI hfoot hm6' hW6 hm6 hfr hft hb6 hsl eG HM HM2 HW HD HS2 HSL HEV2 hElen
         go_wp2
         go_roundw
         case rel => exact ⟨n', out, _, hs6, A6, c6, by have := HNN.out; omega, by have := HNN.out; congr 1; omega, rfl, HEV3.out, HM6.out, by have := HST2.out; rw [← HNN.out] at this ⊢; exact this, HD6.out, HW6.out⟩
         case measure => simp [intOf]; have := HNN.out; omega
       · have dn : decide ((0 : Int) < (n : Int)) = false := decide_eq_false (by omega)
         obtain rfl : n = 0 := by omega
         have hfn := op_own (F := fun rows => rows = eva T) HM2.out HST.out (HEV.out.w.done HST.out)
         have HFN := Lib.hid hfn
         clear hfn
         go_wp2
         go_ret2
         exact ⟨HFN.out, HW.out⟩
 · have dk : (k != 0) = true := by simpa using hk0
   have HK0 := Lib.hid hk0
   have HK2 := Lib.hid hk2
   clear hk1 hk2
   go_wp2
   go_ret2
   exact ⟨op_bad HK0.out HK2.out, hb1⟩
end
section
structure Mixf (f : Int → Int) (P S : List (List Int)) (a k : Nat) : Prop where
 len : S.length = P.length
 rls : ∀ r, rl S r = rl P r
 val : ∀ r b, b < rl P r → cell S r b = if r < a ∨ (r = a ∧ b < k) then f (cell P r b) else cell P r b
theorem Mixf.start (f : Int → Int) (P : List (List Int)) : Mixf f P P 0 0 := ⟨rfl, fun _ => rfl, fun r b _ => by rw [if_neg (by omega)]⟩
theorem Mixf.cur {f : Int → Int} {P S : List (List Int)} {a k : Nat} (h : Mixf f P S a k) (hk : k < rl P a) : cell S a k = cell P a k := by
 rw [h.val a k hk, if_neg (by omega)]
theorem Mixf.step {f : Int → Int} {P S : List (List Int)} {a k : Nat} (h : Mixf f P S a k) (hk : k < rl P a) : Mixf f P (put S a k (f (cell P a k))) a (k + 1) := by
 refine ⟨by rw [put_length]; exact h.len, fun r => by rw [put_rl]; exact h.rls r, fun r b hb => ?_⟩
 rw [put_cell (by rw [h.rls]; exact hk)]
 by_cases e : r = a ∧ b = k
 · rw [if_pos e, if_pos (by omega), e.1, e.2]
 · rw [if_neg e, h.val r b hb]
   by_cases e2 : r < a ∨ (r = a ∧ b < k)
   · rw [if_pos e2, if_pos (by omega)]
   · rw [if_neg e2, if_neg (by omega)]
theorem Mixf.next {f : Int → Int} {P S : List (List Int)} {a k : Nat} (h : Mixf f P S a k) (hk : rl P a ≤ k) : Mixf f P S (a + 1) 0 := by
 refine ⟨h.len, h.rls, fun r b hb => ?_⟩
 rw [h.val r b hb]
 by_cases e : r < a ∨ (r = a ∧ b < k)
 · rw [if_pos e, if_pos (by omega)]
 · rw [if_neg e, if_neg (by
    intro e2
    have : r = a := by omega
    subst this
    omega)]
theorem Mixf.done {f : Int → Int} {P S : List (List Int)} {a : Nat} (h : Mixf f P S a 0) (ha : P.length ≤ a) : S = P.map (List.map f) := by
 apply List.ext_getElem (by rw [List.length_map]; exact h.len)
 intro r h1 h2
 rw [List.length_map] at h2
 rw [List.getElem_map]
 have h3 := h.rls r
 unfold rl at h3
 rw [getD_get h1, getD_get h2] at h3
 apply List.ext_getElem (by rw [List.length_map]; exact h3)
 intro b g1 g2
 have h4 := h.val r b (by unfold rl; rw [getD_get h2]; omega)
 rw [if_pos (by omega)] at h4
 unfold cell at h4
 rw [getD_get h1, getD_get h2, getD_get g1, getD_get (by omega)] at h4
 rw [h4, List.getElem_map]
theorem pro_nil (h : Std []) : Pro [] [] := ⟨h, h, fun _ => rfl, rfl, .refl _⟩
theorem Gone.bnd {T out : List (List Int)} {i j : Nat} (h : Gone T out i j) (a b : Nat) (hb : b < rl (pad out i) a) : 0 ≤ cell (pad out i) a b ∧ cell (pad out i) a b ≤ 99 := by
 unfold rl at hb
 rw [pad_getD] at hb
 unfold cell
 rw [pad_getD]
 have h1 := h.ok.skOk.2 a b hb
 have h2 := h.ok.skOk.1.sk.2 a b hb
 unfold cell at h1 h2
 omega
theorem Gone.lens {T out : List (List Int)} {i j : Nat} (h : Gone T out i j) (a : Nat) : rl (pad out i) a ≤ rl T a ∧ rl (pad out i) i = j := by
 have h1 := h.rls a
 have h2 := h.rls i
 have h3 := h.here
 rw [if_pos rfl] at h2
 unfold rl at *
 rw [pad_getD, pad_getD]
 by_cases e : a = i
 · rw [if_pos e] at h1; rw [e] at h1 ⊢; omega
 · rw [if_neg e] at h1; omega
end
section
open Go.RowKit
theorem pro_twin {B : Nat} {w : World} {G c n : Nat} {hs : List Value} {S U T : List (List Int)} (h : OwnM w B (.slice (some ⟨G, 0, none⟩) n c) hs S) (e : S = U) (hp : Pro T U) (_ht : Std T) :
 Calls Tryz.prog 178 #[.slice (some ⟨G, 0, none⟩) n c] w fun e w' => TwinOut e w w' U ∧ Below w.heap.size w w' := by
 subst e
 have hn := h.n_eq
 subst hn
 obtain ⟨A, c', e, hsr, _, _⟩ := h.sr
 obtain ⟨rfl, rfl⟩ : some ⟨G, 0, none⟩ = A ∧ c = c' := by injection e with g1 _ g3; exact ⟨g1, g3⟩
 have hsm := hp.u.1.small
 exact stwin_out _ c S w (by have := hsm.1; omega) (fun i => by have := hsm.2 i; omega) hsr
theorem promote_any (A : Option Addr) (cap : Nat) (T : List (List Int)) (w : World) (hT : T.length ≤ 9223372036854775807) (h : SR w w.heap.size A T) :
 Calls Tryz.prog 140 #[.slice A T.length cap] w fun e w' => OpOut w.heap.size e w' T (fun rows => Pro T rows) ∧ Below w.heap.size w w' := by
 have H := Lib.hid h
 go_enter Tryz.func140, Tryz.ntmps140
 go_wp2_with (first | (go_at_call 181; refine (sstd_any A cap T _ hT h).mono ?_) | fail)
 rintro e w1 ⟨⟨k, rfl, hk1, hk2⟩, hb1⟩
 by_cases hk0 : k = 0
 · have hst := hk1 hk0
   have HST := Lib.hid hst
   have hT4 := hst.1.small.1
   by_cases hT0 : T.length = 0
   · have hnil : T = [] := List.eq_nil_of_length_eq_zero hT0
     have HOUT : Hid (OpOut w.heap.size (.returned (.tuple #[.slice none 0 0, .int .i64 0])) w1 T (fun rows => Pro T rows)) := Lib.hid ⟨0, [], none, 0, rfl, OwnR.nil _ _, by simp, fun _ => ⟨HST.out, by rw [hnil]; rw [hnil] at hst; exact pro_nil hst⟩, fun _ => rfl, fun e => absurd rfl e⟩
     have dT : decide ((T.length : Int) = 0) = true := decide_eq_true (by omega)
     subst hk0
     clear hk1 hk2 hst hnil
     go_wp2
     go_ret2
     exact ⟨HOUT.out, hb1⟩
   · have hT5 := hst.1.small.2
     have hn40 := hst.1.2.2
     have h1 := h.now hb1 (Nat.le_refl _)
     have HT5 := Lib.hid hT5
     have HB1 := Lib.hid hb1
     have e1 : T.length < 1000000 := by omega
     have e2 : ∀ i, (T.getD i []).length < 1000000 := fun i => by have := hT5 i; omega
     have E2 := Lib.hid e2
     have dT : decide ((T.length : Int) = 0) = false := decide_eq_false (by omega)
     have hT0' : 0 < T.length := by omega
     have HS3 := Lib.hid h1
     subst hk0
     clear hk1 hk2 hst h hT5 e2 hb1 h1
     go_wp2
     go_loop [5, 26] (fun nv iv => ∃ (i : Nat), i ≤ T.length ∧ iv = .int .i64 i ∧ nv = .int .i64 (boxes (T.take i))) (fun _ iv => T.length - (intOf iv).toNat)
     case atStart => exact ⟨0, Nat.zero_le _, rfl, by simp [boxes]⟩
     case round =>
      obtain ⟨i, hi, rfl, rfl⟩ := hrel
      by_cases hip : i < T.length
      · have di : decide (i < T.length) = true := decide_eq_true hip
        obtain ⟨b, o, rfl, hb⟩ := HS3.out.addr (by omega)
        obtain ⟨Ar, cr, hcl, hr, hrl⟩ := HS3.out.at_ hip
        have hbt := boxes_take (T := T) (i := i) (by omega)
        have hble := boxes_le (T := T) (i + 1)
        obtain ⟨q, hq⟩ : ∃ q, q = (T.getD i []).length := ⟨_, rfl⟩
        obtain ⟨y, hy⟩ : ∃ y, y = boxes (T.take i) := ⟨_, rfl⟩
        rw [← hq] at hcl
        rw [← hq, ← hy] at hbt
        rw [← hy]
        have HBT := Lib.hid hbt
        have hyq : y + q ≤ 40 := by omega
        clear hq hy hbt hble hr hrl
        go_wp2
        go_round
        case rel => exact ⟨i + 1, by omega, by go_num, by rw [HBT.out]; go_num⟩
        case measure => simp [intOf]; omega
      · have di : decide (i < T.length) = false := decide_eq_false hip
        have hall : boxes (T.take i) = boxes T := by rw [List.take_of_length_le (by omega)]
        rw [hall]
        clear hall
        obtain ⟨N, hN⟩ : ∃ N, N = boxes T := ⟨_, rfl⟩
        have HN := Lib.hid hN
        rw [← hN] at hn40 ⊢
        clear hN
        go_wp2_with (first | (go_at_call 178; refine (stwin_out A cap T _ e1 E2.out HS3.out).mono ?_) | fail)
        rintro e w2 ⟨v, hs, rfl, hm⟩ hb2
        have hW2 : Below w.heap.size w w2 := below_call HB1.out (Nat.le_refl _) hb2
        have hB2 := hW2.size
        have HW2 := Lib.hid hW2
        have hs1 : T.length ≤ 1000 := by omega
        have hs2' : ∀ a, rl T a ≤ 1000 := fun a => Nat.le_trans (HT5.out a) (by omega)
        have HS2 := Lib.hid hs2'
        have hsl := slid_any v hs T 0 0 w2 hB2 (hm.low HB1.out.size) (HST.out.1.cfg hT0') hs1 HS2.out
        rw [show ((0 : Nat) : Int) = 0 from rfl] at hsl
        have HSL := Lib.hid hsl
        obtain ⟨A1, c1, rfl, -, -, -⟩ := hm.sr
        clear hm hb2 hs2' hsl HS2 HS3 hW2 HB1 e1 E2
        go_wp2_with (first | (go_at_call 180; refine (HSL.out).mono ?_) | fail)
        rintro e w6 ⟨⟨v6, hs6, out, I, J, rfl, hm6, hsl, -, -⟩, hb6⟩
        obtain ⟨A6, c6, rfl, -, -, -⟩ := hm6.sr
        have hgo := Gone.of HST.out hT0' hsl
        have HGO := Lib.hid hgo
        have hpl := hgo.padlen
        have hil := hgo.inn
        have hj0 := hgo.zer
        have hj1 := hgo.pos
        have HM6 := Lib.hid hm6
        have hW6 := HW2.out.trans hb6
        have hB6 := hW6.size
        have HW6 := Lib.hid hW6
        have hol : out.length ≤ T.length := by
         by_cases e : J = 0
         · have := hj0 e; omega
         · have := hj1 e; omega
        have hif : (I = out.length → pad out I = out ++ [[]]) ∧ (I ≠ out.length → pad out I = out) := ⟨fun e => by unfold pad; rw [if_pos e], fun e => by unfold pad; rw [if_neg e]⟩
        have HIF := Lib.hid hif
        have HPL := Lib.hid hpl
        clear hm6 hsl hb6 hgo hj0 hj1 HSL HW2 hif hW6 hpl
        go_upto_if 45 with fail
        go_cut [8] (fun sv wz => ∃ (us5 : List Value) (A7 : Option Addr) (c7 : Nat), sv = .slice A7 (pad out I).length c7 ∧ OwnM wz w.heap.size sv us5 (pad out I) ∧ Below w.heap.size w wz)
        case first =>
         by_cases hio : I = out.length
         · have dr : ((I : Int) == (out.length : Int)) = true := beq_iff_eq.2 (by omega)
           have hqo := HM6.out.out
           have HQO := Lib.hid hqo
           have HP := Lib.hid (HIF.out.1 hio)
           clear hqo hio HIF
           go_wp2_with (first | (at_builtin; refine wpList_push (v := .slice A6 out.length c6) rfl (.tmp 46) (.tmp 47) rfl rfl (.slice none 0 0) rfl HQO.out w6.heap.size rfl rfl (by omega) hB6 (fun g2 c3 w5 hl5 hg5 hat5 => ?_)) | fail)
           have hpush := (HM6.out.alloc (.cells #[.slice none 0 0] 65)).push (u := .slice none 0 0) (l := []) (World.ownsRow_nil _ _ _ _) (HM6.out.far_new (u := .slice none 0 0) (fun k hk => by simp [Value.ownBlock] at hk)).1 (HM6.out.far_new (u := .slice none 0 0) (fun k hk => by simp [Value.ownBlock] at hk)).2 rfl hl5 hg5 (by simpa using hat5)
           have hW5 := (HW6.out.alloc hB6 _).grown hg5 (by simp; omega) (fun k hk => (HQO.out.lt k hk).1)
           have hqn : (pad out I).length = out.length + 1 := by rw [HP.out]; simp
           rw [← HP.out] at hpush
           have HPU := Lib.hid hpush
           have HW5 := Lib.hid hW5
           have HQN := Lib.hid hqn
           clear hpush hW5 hl5 hg5 hat5 hqn
           go_wp2
           go_meet
           exact ⟨_, _, _, by rw [HQN.out], HPU.out, HW5.out⟩
         · have dr : ((I : Int) == (out.length : Int)) = false := beq_eq_false_iff_ne.2 (by omega)
           have hqn := Lib.hid (HIF.out.2 hio)
           clear HIF
           go_wp2
           go_meet
           exact ⟨hs6, A6, c6, by rw [hqn.out], by rw [hqn.out]; exact HM6.out, HW6.out⟩
        case rest =>
         obtain ⟨us5, A7, c7, rfl, hm7, hW7⟩ := hcut
         have hbnd := HGO.out.bnd
         have hlens := HGO.out.lens
         obtain ⟨P, hP⟩ : ∃ P, P = pad out I := ⟨_, rfl⟩
         have hPl := HPL.out
         rw [← hP] at hm7 hbnd hlens hPl ⊢
         have hP40 : P.length ≤ 40 := by omega
         have hIP : I < P.length := by omega
         clear hPl
         have hP5 : ∀ a, rl P a ≤ 40 := fun a => Nat.le_trans (hlens a).1 (HT5.out a)
         have HP5 := Lib.hid hP5
         have HBN := Lib.hid hbnd
         have HPJ := Lib.hid (hlens 0).2
         have HP := Lib.hid hP
         have HM7 := Lib.hid hm7
         have HW7 := Lib.hid hW7
         clear hbnd hlens hP hP5 hm7 hW7 HM6 HW6 HIF HPL hB6
         go_wp2
         go_loopw [51] (fun iv wr => ∃ (a : Nat) (S : List (List Int)), a ≤ P.length ∧ iv = .int .i64 a ∧ Mixf (fun x => x - 1) P S a 0 ∧ OwnM wr w.heap.size (.slice A7 P.length c7) us5 S ∧ Below w.heap.size w wr) (fun iv _ => P.length - (intOf iv).toNat)
         case atStart => exact ⟨0, P, Nat.zero_le _, rfl, Mixf.start _ _, HM7.out, HW7.out⟩
         case round =>
          clear HM7 HW7
          obtain ⟨a, S, haP, rfl, hmx, hm, hW⟩ := hrel
          have hB := hW.size
          have hSl := hmx.len
          obtain ⟨G, c', eG, hG1, hG2⟩ := hm.out.form (by omega)
          obtain ⟨rfl, rfl⟩ : A7 = some ⟨G, 0, none⟩ ∧ c7 = c' := by injection eG with g1 _ g3; exact ⟨g1, g3⟩
          clear eG
          by_cases ha : a < P.length
          · have da : decide (a < P.length) = true := decide_eq_true ha
            have haS : a < S.length := by omega
            have hin := hm.inn a haS
            obtain ⟨Aj, cj, hrv, _, _, _, _⟩ := own_sliceA hin
            have hmo := hm.out
            rw [hSl] at hmo
            have hqc := hmo.cellAt a (by omega)
            rw [hm.get haS, hrv] at hqc
            have hql : (S.getD a []).length = rl P a := hmx.rls a
            rw [hql] at hqc hrv
            have hq40 := HP5.out a
            obtain ⟨q, hq⟩ : ∃ q, q = rl P a := ⟨_, rfl⟩
            rw [← hq] at hqc hrv hq40
            have HQ := Lib.hid hq
            have HRV := Lib.hid hrv
            have HMX := Lib.hid hmx
            have HM := Lib.hid hm
            have HW := Lib.hid hW
            clear hmo hin hql hq hrv hmx hm hW hSl haS
            go_wp2
            go_loopw [57] (fun kv wz => ∃ (k : Nat) (S : List (List Int)), k ≤ q ∧ kv = .int .i64 k ∧ Mixf (fun x => x - 1) P S a k ∧ OwnM wz w.heap.size (.slice (some ⟨G, 0, none⟩) P.length c7) us5 S ∧ Below w.heap.size w wz) (fun kv _ => q - (intOf kv).toNat)
            case atStart => exact ⟨0, S, Nat.zero_le _, rfl, HMX.out, HM.out, HW.out⟩
            case round =>
             obtain ⟨w9, rfl⟩ : ∃ w9, w9 = wr := ⟨_, rfl⟩
             clear HMX HM HW hqc
             obtain ⟨k, S, hkq, rfl, hmx, hm, hW⟩ := hrel
             have hB := hW.size
             have HMX := Lib.hid hmx
             have HM := Lib.hid hm
             have HW := Lib.hid hW
             by_cases hk : k < q
             · have dk : decide (k < q) = true := decide_eq_true hk
               have hkr : k < rl P a := by rw [← HQ.out]; exact hk
               have hSl := hmx.len
               have haS : a < S.length := by omega
               have hrq : (S.getD a []).length = q := by have := hmx.rls a; unfold rl at this; rw [HQ.out]; exact this
               obtain ⟨gr, cr, hhr, hcc, hor, hg1, hg2⟩ := hm.row (r := a) haS (by omega)
               have eR := HRV.out
               rw [hhr, hrq] at eR
               obtain ⟨rfl, rfl⟩ : some ⟨gr, 0, none⟩ = Aj ∧ cr = cj := by injection eR with g1 _ g3; exact ⟨g1, g3⟩
               have hck := own_get hor (getD_some (l := S.getD a []) (j := k) (by omega))
               have hx1 : (S.getD a []).getD k 0 = cell P a k := hmx.cur hkr
               have hx2 := HBN.out a k hkr
               rw [hx1] at hck
               have hstep := hmx.step hkr
               obtain ⟨x, hx⟩ : ∃ x, x = cell P a k := ⟨_, rfl⟩
               rw [← hx] at hck hx2 hstep
               have hfk := hor.frozenAt k
               have hst := hm.setIn (r := a) (g := gr) (c := cr) haS hhr k (x - 1)
               have hW2 := hW.setCell (p := ⟨gr, k, none⟩) hg1 (.int .i64 (x - 1))
               have hwr : IntKind.i64.wrap (x - 1) = x - 1 := IntWalk.i64_in _ (by omega)
               have HST := Lib.hid hst
               have HW2 := Lib.hid hW2
               have HSTEP := Lib.hid hstep
               clear hmx hm hW hhr hcc hor hx1 hx hst hW2 hstep eR hrq hSl haS hkr HMX HM HW
               go_wp2
               go_roundw
               case rel => exact ⟨k + 1, _, by omega, by go_num, HSTEP.out, HST.out, HW2.out⟩
               case measure => simp [intOf]; omega
             · have dk : decide (k < q) = false := decide_eq_false hk
               have hnx := hmx.next (by rw [← HQ.out]; omega)
               have HNX := Lib.hid hnx
               clear hnx hmx hm hW
               go_wp2
               go_roundw
               case rel => exact ⟨a + 1, S, by omega, by go_num, HNX.out, HM.out, HW.out⟩
               case measure => simp [intOf]; omega
          · have da : decide (a < P.length) = false := decide_eq_false ha
            have hdn : S = dn P := hmx.done (by omega)
            have hSI : I < S.length := by omega
            have hin := hm.inn I hSI
            obtain ⟨Aj, cj, hrv, _, _, _, _⟩ := own_sliceA hin
            have hrl : (S.getD I []).length = J := by
             have h1 := hmx.rls I
             have h2 := (HGO.out.lens I).2
             rw [← HP.out] at h2
             unfold rl at h1 h2
             omega
            have hj40 : J ≤ 40 := by
             have h1 := HP5.out I
             have h2 := (HGO.out.lens I).2
             rw [← HP.out] at h2
             omega
            have hmo := hm.out
            rw [hSl] at hmo
            have hqc := hmo.cellAt I (by omega)
            rw [hm.get hSI, hrv, hrl] at hqc
            have hqf := hmo.frozenAt I
            have hfar := (hm.top I hSI).symm
            rw [hrv, hrl] at hin hfar
            rw [hrl] at hrv
            have hpro : S.set I (S.getD I [] ++ [(N : Int)]) = proU out I (boxes T) := by
             rw [hdn, HP.out, ← HN.out]; rfl
            obtain ⟨R, hR⟩ : ∃ R, R = S.getD I [] := ⟨_, rfl⟩
            rw [← hR] at hin hpro hrl
            have hPn := HGO.out.pro HST.out
            have HIN := Lib.hid hin
            have HFAR := Lib.hid hfar.ne
            have HRV := Lib.hid hrv
            have HM := Lib.hid hm
            have HMO := Lib.hid hmo
            have HW := Lib.hid hW
            have HPRO := Lib.hid hpro
            have HPN := Lib.hid hPn
            have HRL := Lib.hid hrl
            clear hmx hdn hin hrv hmo hfar hpro hPn hR hrl hm hW
            rcases HIN.out.2 with ⟨e1, e2⟩ | ⟨g, c, _, e1, _⟩
            · obtain ⟨rfl, rfl, rfl⟩ : Aj = none ∧ J = 0 ∧ cj = 0 := by injection e1 with x1 x2 x3; exact ⟨x1, x2, x3⟩
              clear e1 e2
              go_wp2_with (first | (at_builtin; go_loud (refine wpList_app1g rfl (.tmp 75) (.tmp 77) rfl rfl (N : Int) HIN.out wr.heap.size rfl rfl (by omega) hB (fun g2 c3 w6 hl6 hg6 hat6 => ?_); have ho6 := (HMO.out.alloc (.cells #[.int .i64 (N : Int)] 3)).kept hg6 HFAR.out; have hc6 := (ho6.cellAt I (by omega)).trans ((HM.out.get hSI).trans (congrArg some HRV.out)); have hf6 := ho6.frozenAt I; have HAPP := Lib.hid (HM.out.app (i := I) hSI (l := R ++ [(N : Int)]) (by rw [List.length_append, HRL.out]; rfl) hl6 (by rw [HRV.out]; exact hg6) (by rw [HRV.out]; exact hat6)); have HW6 := Lib.hid (((HW.out.alloc hB _).grown hg6 (by simp; omega) (fun b hb => (HIN.out.lt b hb).1)).setCell (p := ⟨G, I, none⟩) hG1 (.slice (some ⟨g2, 0, none⟩) (0 + 1) c3)); clear ho6 hl6 hg6 hat6)) | (go_at_call 178; refine (pro_twin HAPP.out HPRO.out HPN.out HST.out).mono ?_) | fail)
              rintro e w8 ⟨v8, hs8, rfl, hm8⟩ hb8
              go_wp2
              go_ret2
              exact ⟨op_own (hm8.lowr (by have := HW6.out.size; simpa using this)) HST.out HPN.out, HW6.out.trans (hb8.mono (by have := HW6.out.size; simpa using this))⟩
            · obtain ⟨rfl, rfl⟩ : Aj = some ⟨g, 0, none⟩ ∧ cj = c := by injection e1 with x1 x2 x3; exact ⟨x1, x3⟩
              have hJc := (own_cap HIN.out).1
              have hJc2 := (own_cap HIN.out).2
              clear e1
              go_wp2_with (first | (at_builtin; refine wpList_app1g rfl (.tmp 75) (.tmp 77) rfl rfl (N : Int) HIN.out wr.heap.size rfl rfl (by omega) hB (fun g2 c3 w6 hl6 hg6 hat6 => ?_); have ho6 := (HMO.out.alloc (.cells #[.int .i64 (N : Int)] 3)).kept hg6 HFAR.out; have hc6 := (ho6.cellAt I (by omega)).trans ((HM.out.get hSI).trans (congrArg some HRV.out)); have hf6 := ho6.frozenAt I; have HAPP := Lib.hid (HM.out.app (i := I) hSI (l := R ++ [(N : Int)]) (by rw [List.length_append, HRL.out]; rfl) hl6 (by rw [HRV.out]; exact hg6) (by rw [HRV.out]; exact hat6)); have HW6 := Lib.hid (((HW.out.alloc hB _).grown hg6 (by simp; omega) (fun b hb => (HIN.out.lt b hb).1)).setCell (p := ⟨G, I, none⟩) hG1 (.slice (some ⟨g2, 0, none⟩) (J + 1) c3)); clear ho6 hl6 hg6 hat6) | (go_at_call 178; refine (pro_twin HAPP.out HPRO.out HPN.out HST.out).mono ?_) | fail)
              rintro e w8 ⟨v8, hs8, rfl, hm8⟩ hb8
              go_wp2
              go_ret2
              exact ⟨op_own (hm8.lowr (by have := HW6.out.size; simpa using this)) HST.out HPN.out, HW6.out.trans (hb8.mono (by have := HW6.out.size; simpa using this))⟩
 · have dk : (k != 0) = true := by simpa using hk0
   have HK0 := Lib.hid hk0
   have HK2 := Lib.hid hk2
   clear hk1 hk2
   go_wp2
   go_ret2
   exact ⟨op_bad HK0.out HK2.out, hb1⟩
end
end Go.Proofs.YtpmkdihencepnaaGreatDoor
