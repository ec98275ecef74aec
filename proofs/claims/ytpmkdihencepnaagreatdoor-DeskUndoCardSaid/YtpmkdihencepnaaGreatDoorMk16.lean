/- Part of the proof. -/
import Derived.Test.YtpmkdihencepnaaGreatDoorMk15
set_option maxHeartbeats 16000000
set_option maxRecDepth 100000
namespace Go.Proofs.YtpmkdihencepnaaGreatDoor
section
open Go.RowKit
structure Found (T : List (List Int)) (n : Int) (a i j : Nat) : Prop where
 hit : (∃ r, r < a ∧ cell T r (rl T r - 1) = n) → rl T i = j + 1 ∧ cell T i j = n
theorem Found.start (T : List (List Int)) (n : Int) : Found T n 0 0 0 := ⟨fun ⟨r, h, _⟩ => by omega⟩
theorem Found.yes {T : List (List Int)} {n : Int} {a : Nat} (h0 : 0 < rl T a) (h : cell T a (rl T a - 1) = n) : Found T n (a + 1) a (rl T a - 1) := ⟨fun _ => ⟨by omega, h⟩⟩
theorem Found.no {T : List (List Int)} {n : Int} {a i j : Nat} (h : Found T n a i j) (hn : cell T a (rl T a - 1) ≠ n) : Found T n (a + 1) i j := ⟨fun ⟨r, h1, h2⟩ => h.hit ⟨r, by
 have : r ≠ a := fun e => hn (by rw [← e]; exact h2)
 omega, h2⟩⟩
theorem Found.done {T : List (List Int)} {a i j : Nat} (h : Found T (boxes T) a i j) (hT : Std T) (ha : T.length ≤ a) (h0 : 0 < T.length) : Back T T i j := by
 obtain ⟨h1, h2⟩ := hT.1.skOk
 have hk := h1.sk.1
 have hne := hk.ne 0 h0
 have hb : 0 < boxes T := by
  have h3 := mem_row (cell_mem hne)
  rw [← flatten_len]
  exact List.length_pos_of_mem h3
 have hm : (boxes T : Int) ∈ rword T := hT.perm.1.mem (by omega) (by rw [hT.perm.2]; omega)
 rw [← rword_lets (s := T) (fun r hr x hx => by have := (hT.1.2.1 r hr x hx).1; omega)] at hm
 obtain ⟨r, b, g1, g2, _⟩ := mem_sword hm
 have g3 : cell T r (rl T r - 1) = (boxes T : Int) := by
  have e1 := (hT.bnd _ (word_of (show rl T r - 1 < rl T r by omega))).2
  by_cases e : b = rl T r - 1
  · rw [← e]; exact g2
  · have := hk.row r b (rl T r - 1) (by omega) (by omega); omega
 obtain ⟨e1, e2⟩ := h.hit ⟨r, by have := rl_in g1; omega, g3⟩
 exact Back.start hT e1 e2
theorem Back.bnd {T s : List (List Int)} (h : Back T s 0 0) (hT : Std T) (a b : Nat) (hb : b < rl (put s 0 0 0) a) : 0 ≤ cell (put s 0 0 0) a b ∧ cell (put s 0 0 0) a b ≤ 99 := by
 have h1 := (h.pro hT).t.1
 have h2 := h1.skOk.2 a b (by rw [ups_rl]; exact hb)
 have h3 := h1.skOk.1.sk.2 a b (by rw [ups_rl]; exact hb)
 rw [ups_cell hb] at h2 h3
 omega
theorem demote_any (A : Option Addr) (cap : Nat) (T : List (List Int)) (w : World) (hT : T.length ≤ 9223372036854775807) (h : SR w w.heap.size A T) :
 Calls Tryz.prog 141 #[.slice A T.length cap] w fun e w' => OpOut w.heap.size e w' T (fun rows => Pro rows T) ∧ Below w.heap.size w w' := by
 have H := Lib.hid h
 go_enter Tryz.func141, Tryz.ntmps141
 go_wp2_with (first | (go_at_call 181; refine (sstd_any A cap T _ hT h).mono ?_) | fail)
 rintro e w1 ⟨⟨k, rfl, hk1, hk2⟩, hb1⟩
 by_cases hk0 : k = 0
 · have hst := hk1 hk0
   have HST := Lib.hid hst
   have hT4 := hst.1.small.1
   by_cases hT0 : T.length = 0
   · have hnil : T = [] := List.eq_nil_of_length_eq_zero hT0
     have HOUT : Hid (OpOut w.heap.size (.returned (.tuple #[.slice none 0 0, .int .i64 0])) w1 T (fun rows => Pro rows T)) := Lib.hid ⟨0, [], none, 0, rfl, OwnR.nil _ _, by simp, fun _ => ⟨HST.out, by rw [hnil]; rw [hnil] at hst; exact pro_nil hst⟩, fun _ => rfl, fun e => absurd rfl e⟩
     have dT : decide ((T.length : Int) = 0) = true := decide_eq_true (by omega)
     subst hk0
     clear hk1 hk2 hst hnil
     go_wp2
     go_ret2
     exact ⟨HOUT.out, hb1⟩
   · have hT5 := hst.1.small.2
     have hn40 := hst.1.2.2
     have h1 := h.now hb1 (Nat.le_refl _)
     have HT5 := Lib.hid hT5
     have HB1 := Lib.hid hb1
     have e1 : T.length < 1000000 := by omega
     have e2 : ∀ i, (T.getD i []).length < 1000000 := fun i => by have := hT5 i; omega
     have E2 := Lib.hid e2
     have dT : decide ((T.length : Int) = 0) = false := decide_eq_false (by omega)
     have hT0' : 0 < T.length := by omega
     have HS3 := Lib.hid h1
     subst hk0
     clear hk1 hk2 hst h hT5 e2 hb1 h1
     go_wp2
     go_loop [5, 30] (fun nv iv => ∃ (i : Nat), i ≤ T.length ∧ iv = .int .i64 i ∧ nv = .int .i64 (boxes (T.take i))) (fun _ iv => T.length - (intOf iv).toNat)
     case atStart => exact ⟨0, Nat.zero_le _, rfl, by simp [boxes]⟩
     case round =>
      obtain ⟨i, hi, rfl, rfl⟩ := hrel
      by_cases hip : i < T.length
      · have di : decide (i < T.length) = true := decide_eq_true hip
        obtain ⟨b, o, rfl, hb⟩ := HS3.out.addr (by omega)
        obtain ⟨Ar, cr, hcl, hr, hrl⟩ := HS3.out.at_ hip
        have hbt := boxes_take (T := T) (i := i) (by omega)
        have hble := boxes_le (T := T) (i + 1)
        obtain ⟨q, hq⟩ : ∃ q, q = (T.getD i []).length := ⟨_, rfl⟩
        obtain ⟨y, hy⟩ : ∃ y, y = boxes (T.take i) := ⟨_, rfl⟩
        rw [← hq] at hcl
        rw [← hq, ← hy] at hbt
        rw [← hy]
        have HBT := Lib.hid hbt
        have hyq : y + q ≤ 40 := by omega
        clear hq hy hbt hble hr hrl
        go_wp2
        go_round
        case rel => exact ⟨i + 1, by omega, by go_num, by rw [HBT.out]; go_num⟩
        case measure => simp [intOf]; omega
      · have di : decide (i < T.length) = false := decide_eq_false hip
        have hall : boxes (T.take i) = boxes T := by rw [List.take_of_length_le (by omega)]
        rw [hall]
        clear hall
        obtain ⟨N, hN⟩ : ∃ N, N = boxes T := ⟨_, rfl⟩
        have HN := Lib.hid hN
        rw [← hN] at hn40 ⊢
        clear hN
        go_wp2_with (first | (go_at_call 178; refine (stwin_out A cap T _ e1 E2.out HS3.out).mono ?_) | fail)
        rintro e w2 ⟨v, hs, rfl, hm⟩ hb2
        have hW2 : Below w.heap.size w w2 := below_call HB1.out (Nat.le_refl _) hb2
        have HW2 := Lib.hid hW2
        have hml := hm.low HB1.out.size
        obtain ⟨G, c, rfl, hG1, hG2⟩ := hml.out.form hT0'
        have HM2 := Lib.hid hml
        have hB2 := hW2.size
        clear hm hb2 HS3 hW2 HB1 e1 E2 hml
        go_wp2
        go_loop [9, 10, 43] (fun pv qv iv => ∃ (a i j : Nat), a ≤ T.length ∧ iv = .int .i64 a ∧ pv = .int .i64 i ∧ qv = .int .i64 j ∧ Found T N a i j) (fun _ _ iv => T.length - (intOf iv).toNat)
        case atStart => exact ⟨0, 0, 0, Nat.zero_le _, rfl, rfl, rfl, Found.start _ _⟩
        case round =>
         obtain ⟨a, I, J, haT, rfl, rfl, rfl, hfd⟩ := hrel
         have HFD := Lib.hid hfd
         clear hfd
         by_cases ha : a < T.length
         · have da : decide (a < T.length) = true := decide_eq_true ha
           have hrp : 0 < rl T a := HST.out.1.skOk.1.sk.1.ne a ha
           obtain ⟨gr, cr, hhr, hcc, hor, hg1, hg2⟩ := HM2.out.row (r := a) ha hrp
           have hck := own_get hor (getD_some (l := T.getD a []) (j := rl T a - 1) (by unfold rl at *; omega))
           have hq40 := HT5.out a
           have hy := fun e => Found.yes (T := T) (n := (N : Int)) (a := a) hrp e
           have hn := fun e => HFD.out.no (a := a) e
           have e9 : (T.getD a []).getD (rl T a - 1) 0 = cell T a (rl T a - 1) := rfl
           rw [e9] at hck
           obtain ⟨x, hx⟩ : ∃ x, x = cell T a (rl T a - 1) := ⟨_, rfl⟩
           rw [← hx] at hck hy hn
           obtain ⟨q, hq⟩ : ∃ q, q = rl T a := ⟨_, rfl⟩
           have hq2 : (T.getD a []).length = q := hq.symm
           rw [hq2] at hcc hq40
           rw [← hq] at hck hrp hy
           have HY := Lib.hid hy
           have HNO := Lib.hid hn
           clear hhr hor hx hq hq2 hy hn e9
           by_cases hxn : x = (N : Int)
           · have dx : decide (x = (N : Int)) = true := decide_eq_true hxn
             have HY2 := Lib.hid (HY.out hxn)
             have HXN := Lib.hid hxn
             obtain ⟨q', hq'⟩ : ∃ q', q' + 1 = q := ⟨q - 1, by omega⟩
             have HQ' := Lib.hid hq'
             clear HY HNO
             have dx2 : (x == (N : Int)) = true := beq_iff_eq.2 hxn
             clear hxn
             go_wp2
             go_round
             case rel => exact ⟨a + 1, a, q - 1, by omega, by go_num, rfl, by congr 1; omega, HY2.out⟩
             case measure => simp [intOf]; omega
           · have dx : decide (x = (N : Int)) = false := decide_eq_false hxn
             have dx2 : (x == (N : Int)) = false := beq_eq_false_iff_ne.2 hxn
             have HN2 := Lib.hid (HNO.out hxn)
             clear HY HNO
             go_wp2
             go_round
             case rel => exact ⟨a + 1, I, J, by omega, by go_num, rfl, rfl, HN2.out⟩
             case measure => simp [intOf]; omega
         · have da : decide (a < T.length) = false := decide_eq_false ha
           have hfd := HFD.out
           rw [HN.out] at hfd
           have hbk := hfd.done HST.out (by omega) hT0'
           have HBK := Lib.hid hbk
           clear hfd hbk HFD
           go_wp2
           go_loopw [9, 10] (fun iv jv wr => ∃ (I J : Nat) (S : List (List Int)), iv = .int .i64 I ∧ jv = .int .i64 J ∧ Back T S I J ∧ OwnM wr w.heap.size (.slice (some ⟨G, 0, none⟩) T.length c) hs S ∧ Below w.heap.size w wr) (fun iv jv _ => (intOf iv).toNat + (intOf jv).toNat)
           case atStart => exact ⟨I, J, T, rfl, rfl, HBK.out, HM2.out, HW2.out⟩
           case round =>
            clear HBK HM2 HW2
            obtain ⟨I, J, S, rfl, rfl, hbk, hm, hW⟩ := hrel
            have HBK := Lib.hid hbk
            have HM := Lib.hid hm
            have HW := Lib.hid hW
            have hB := hW.size
            have hat := hbk.cfg.at_
            have hII := hbk.cfg.inI
            have hSl := hbk.len
            have hI40 : I < T.length := by omega
            have hrlI := hbk.rls I
            obtain ⟨gr, cr, hhr, hcc, hor, hg1, hg2⟩ := hm.row (r := I) hII (by unfold rl at hat; omega)
            have hq40 : rl S I ≤ 40 := by rw [hrlI]; exact HT5.out I
            have hmo := hm.out
            rw [hSl] at hmo
            have hcapG := (own_cap hmo).1
            have hcapG2 := (own_cap hmo).2
            have hck := own_get hor (getD_some (l := S.getD I []) (j := J) hat)
            have hfk := hor.frozenAt J
            have hcp1 := (own_cap hor).1
            have hcp2 := (own_cap hor).2
            have HHR := Lib.hid hhr
            have HOR := Lib.hid hor
            have HSL := Lib.hid hSl
            have HII := Lib.hid hII
            obtain ⟨q, hq⟩ : ∃ q, q = rl S I := ⟨_, rfl⟩
            have hq2 : (S.getD I []).length = q := hq.symm
            rw [← hq] at hat hq40
            rw [hq2] at hcc hcp1
            obtain ⟨z, hz⟩ : ∃ z, z = (S.getD I []).getD J 0 := ⟨_, rfl⟩
            rw [← hz] at hck
            have HQ := Lib.hid hq
            have hJ40 : J ≤ 40 := by omega
            clear hbk hm hW hhr hor hSl hII hrlI hmo hq hq2 hz
            by_cases hz0 : I = 0 ∧ J = 0
            · obtain ⟨hI0, hJ0⟩ := hz0
              have HI0 := Lib.hid hI0
              have HJ0 := Lib.hid hJ0
              go_upto_region 18 with fail
              go_cut [9, 10, 66] (fun iv jv bv wz => iv = .int .i64 I ∧ jv = .int .i64 J ∧ bv = .bool false ∧ wr = wz)
              case first =>
               go_wp2
               go_meet
               exact ⟨by rw [HI0.out], by rw [HJ0.out], rfl, rfl⟩
              case rest =>
              obtain ⟨rfl, rfl, rfl, rfl⟩ := hcut
              have HII2 := HII.out
              have HHR2 := HHR.out
              have hbk := HBK.out
              rw [hI0] at hcc HII2 HHR2
              rw [hI0, hJ0] at hbk
              rw [hJ0] at hck hfk
              have hq0 : 0 < q := by omega
              have hstI := HM.out.setIn (r := 0) (g := gr) (c := cr) HII2 HHR2 0 0
              have hW2 := HW.out.setCell (p := ⟨gr, 0, none⟩) hg1 (.int .i64 0)
              have hP := hbk.pro HST.out
              have hbnd := hbk.bnd HST.out
              have hPl : (put S 0 0 0).length = T.length := by rw [put_length]; exact HSL.out
              have hP5 : ∀ a, rl (put S 0 0 0) a ≤ 40 := fun a => by rw [put_rl, hbk.rls]; exact HT5.out a
              have hstI' : OwnM _ _ _ hs (put S 0 0 0) := hstI
              obtain ⟨P, hPe⟩ : ∃ P, P = put S 0 0 0 := ⟨_, rfl⟩
              rw [← hPe] at hstI' hP hbnd hPl hP5
              have HST2 := Lib.hid hstI'
              have HW2 := Lib.hid hW2
              have HP := Lib.hid hP
              have HBN := Lib.hid hbnd
              have HPL := Lib.hid hPl
              have HP5 := Lib.hid hP5
              clear hstI hstI' hW2 hP hbnd hPl hP5 hPe HBK HM HW HHR HOR HSL HII hbk HII2 HHR2 hI0 hJ0
              go_wp2
              go_loopw [114] (fun iv wr => ∃ (a : Nat) (S : List (List Int)), a ≤ T.length ∧ iv = .int .i64 a ∧ Mixf (fun x => x + 1) P S a 0 ∧ OwnM wr w.heap.size (.slice (some ⟨G, 0, none⟩) T.length c) hs S ∧ Below w.heap.size w wr) (fun iv _ => T.length - (intOf iv).toNat)
              case atStart => exact ⟨0, P, Nat.zero_le _, rfl, Mixf.start _ _, HST2.out, HW2.out⟩
              case round =>
               clear HST2 HW2
               obtain ⟨w8, hw8⟩ : ∃ w8, w8 = wr := ⟨_, rfl⟩
               subst hw8
               obtain ⟨a, S, haP, rfl, hmx, hm, hW⟩ := hrel
               have hB := hW.size
               have hSl := hmx.len
               rw [HPL.out] at hSl
               by_cases ha : a < T.length
               · have da : decide (a < T.length) = true := decide_eq_true ha
                 have haS : a < S.length := by omega
                 have hin := hm.inn a haS
                 obtain ⟨Aj, cj, hrv, _, _, _, _⟩ := own_sliceA hin
                 have hmo := hm.out
                 rw [hSl] at hmo
                 have hqc := hmo.cellAt a (by omega)
                 rw [hm.get haS, hrv] at hqc
                 have hql : (S.getD a []).length = rl P a := hmx.rls a
                 rw [hql] at hqc hrv
                 have hq40 := HP5.out a
                 obtain ⟨q, hq⟩ : ∃ q, q = rl P a := ⟨_, rfl⟩
                 rw [← hq] at hqc hrv hq40
                 have HQ := Lib.hid hq
                 have HRV := Lib.hid hrv
                 have HMX := Lib.hid hmx
                 have HM := Lib.hid hm
                 have HW := Lib.hid hW
                 clear hmo hin hql hq hrv hmx hm hW hSl haS
                 go_wp2
                 go_loopw [120] (fun kv wz => ∃ (k : Nat) (S : List (List Int)), k ≤ q ∧ kv = .int .i64 k ∧ Mixf (fun x => x + 1) P S a k ∧ OwnM wz w.heap.size (.slice (some ⟨G, 0, none⟩) T.length c) hs S ∧ Below w.heap.size w wz) (fun kv _ => q - (intOf kv).toNat)
                 case atStart => exact ⟨0, S, Nat.zero_le _, rfl, HMX.out, HM.out, HW.out⟩
                 case round =>
                  clear HMX HM HW hqc
                  obtain ⟨k, S, hkq, rfl, hmx, hm, hW⟩ := hrel
                  have hB := hW.size
                  have HMX := Lib.hid hmx
                  have HM := Lib.hid hm
                  have HW := Lib.hid hW
                  by_cases hk : k < q
                  · have dk : decide (k < q) = true := decide_eq_true hk
                    have hkr : k < rl P a := by rw [← HQ.out]; exact hk
                    have hSl := hmx.len
                    rw [HPL.out] at hSl
                    have haS : a < S.length := by omega
                    have hrq : (S.getD a []).length = q := by have := hmx.rls a; unfold rl at this; rw [HQ.out]; exact this
                    obtain ⟨gr, cr, hhr, hcc, hor, hg1, hg2⟩ := hm.row (r := a) haS (by omega)
                    have eR := HRV.out
                    rw [hhr, hrq] at eR
                    obtain ⟨rfl, rfl⟩ : some ⟨gr, 0, none⟩ = Aj ∧ cr = cj := by injection eR with g1 _ g3; exact ⟨g1, g3⟩
                    have hck := own_get hor (getD_some (l := S.getD a []) (j := k) (by omega))
                    have hx1 : (S.getD a []).getD k 0 = cell P a k := hmx.cur hkr
                    have hx2 := HBN.out a k hkr
                    rw [hx1] at hck
                    have hstep := hmx.step hkr
                    obtain ⟨x, hx⟩ : ∃ x, x = cell P a k := ⟨_, rfl⟩
                    rw [← hx] at hck hx2 hstep
                    have hfk := hor.frozenAt k
                    have hst := hm.setIn (r := a) (g := gr) (c := cr) haS hhr k (x + 1)
                    have hW2 := hW.setCell (p := ⟨gr, k, none⟩) hg1 (.int .i64 (x + 1))
                    have hwr : IntKind.i64.wrap (x + 1) = x + 1 := IntWalk.i64_in _ (by omega)
                    have HST2 := Lib.hid hst
                    have HW2 := Lib.hid hW2
                    have HSTEP := Lib.hid hstep
                    clear hmx hm hW hhr hcc hor hx1 hx hst hW2 hstep eR hrq hSl haS hkr HMX HM HW
                    go_wp2
                    go_roundw
                    case rel => exact ⟨k + 1, _, by omega, by go_num, HSTEP.out, HST2.out, HW2.out⟩
                    case measure => simp [intOf]; omega
                  · have dk : decide (k < q) = false := decide_eq_false hk
                    have hnx := hmx.next (by rw [← HQ.out]; omega)
                    have HNX := Lib.hid hnx
                    clear hnx hmx hm hW
                    go_wp2
                    go_roundw
                    case rel => exact ⟨a + 1, S, by omega, by go_num, HNX.out, HM.out, HW.out⟩
                    case measure => simp [intOf]; omega
               · have da : decide (a < T.length) = false := decide_eq_false ha
                 have hdn : S = ups P := hmx.done (by rw [HPL.out]; omega)
                 rw [hdn] at hm
                 have HFN := Lib.hid (op_own (F := fun rows => Pro rows T) hm HST.out HP.out)
                 have HW := Lib.hid hW
                 clear hdn hm hmx hW
                 go_wp2
                 go_ret2
                 exact ⟨HFN.out, HW.out⟩
            · have hdj : ¬ (0 < I) → 0 < J := fun hh => by omega
              have hleft : 0 < J → 1 ≤ cell S I (J - 1) ∧ wr.cell? ⟨gr, J - 1, none⟩ = some (.int .i64 (cell S I (J - 1))) := fun hh => by
               refine ⟨HBK.out.pos I (J - 1) (by rw [← HQ.out]; omega) (by omega), ?_⟩
               exact own_get HOR.out (getD_some (l := S.getD I []) (j := J - 1) (by have := HQ.out; unfold rl at this; omega))
              have hover : 0 < I → ∃ gr2 cr2 q2, 1 ≤ cell S (I - 1) J ∧ J < q2 ∧ wr.cell? ⟨G, I - 1, none⟩ = some (.slice (some ⟨gr2, 0, none⟩) q2 cr2) ∧ wr.cell? ⟨gr2, J, none⟩ = some (.int .i64 (cell S (I - 1) J)) ∧ q2 ≤ cr2 := fun hh => by
               have hl := HBK.out.cfg.lens (I - 1) I (by omega)
               rw [← HQ.out] at hl
               obtain ⟨gr2, cr2, _, x1, x2, _⟩ := HM.out.row (r := I - 1) (by have := HII.out; omega) (by unfold rl at hl; omega)
               exact ⟨gr2, cr2, _, HBK.out.pos (I - 1) J (by omega) (by omega), by unfold rl at hl; omega, x1, own_get x2 (getD_some (l := S.getD (I - 1) []) (j := J) (by unfold rl at hl; omega)), (own_cap x2).1⟩
              have hup := fun (I' : Nat) (e : I' + 1 = I) (hc : ∀ k, k + 1 = J → cell S I k < cell S I' J) => by
               have hb := HBK.out
               rw [← e] at hb hc
               exact hb.up hc
              have hlf := fun (J' : Nat) (e : J' + 1 = J) (hc : ∀ k, k + 1 = I → cell S k J ≤ cell S I J') => by
               have hb := HBK.out
               rw [← e] at hb hc
               exact hb.left hc
              have HLEFT := Lib.hid hleft
              have HOVER := Lib.hid hover
              have HUP := Lib.hid hup
              have HLF := Lib.hid hlf
              have HZ := Lib.hid hz0
              clear hleft hover hup hlf hz0
              go_upto_region 18 with fail
              go_cut [66] (fun bv wz => bv = .bool true ∧ wr = wz)
              case first =>
               by_cases hI0 : 0 < I
               · have d1 : decide ((0 : Int) < (I : Int)) = true := decide_eq_true (by omega)
                 go_wp2
                 go_meet
                 exact ⟨rfl, rfl⟩
               · have d1 : decide ((0 : Int) < (I : Int)) = false := decide_eq_false (by omega)
                 have d2 : decide ((0 : Int) < (J : Int)) = true := decide_eq_true (by have := hdj hI0; omega)
                 go_wp2
                 go_meet
                 exact ⟨rfl, rfl⟩
              case rest =>
              obtain ⟨rfl, rfl⟩ := hcut
              go_upto_if 68 with fail
              go_cut [13] (fun lv wz => ∃ l : Int, lv = .int .i64 l ∧ wr = wz ∧ (0 < J → l = cell S I (J - 1) ∧ 1 ≤ l) ∧ (J = 0 → l = 0))
              case first =>
               by_cases hJ0 : 0 < J
               · have d2 : decide ((0 : Int) < (J : Int)) = true := decide_eq_true (by omega)
                 obtain ⟨x1, x2⟩ := HLEFT.out hJ0
                 obtain ⟨l, hl⟩ : ∃ l, l = cell S I (J - 1) := ⟨_, rfl⟩
                 rw [← hl] at x1 x2
                 have HL := Lib.hid hl
                 have HX1 := Lib.hid x1
                 clear hl x1
                 go_wp2
                 go_meet
                 exact ⟨l, rfl, rfl, fun _ => ⟨HL.out, HX1.out⟩, fun e => by omega⟩
               · have d2 : decide ((0 : Int) < (J : Int)) = false := decide_eq_false (by omega)
                 go_wp2
                 go_meet
                 exact ⟨0, rfl, rfl, fun e => by omega, fun e => rfl⟩
              case rest =>
              obtain ⟨l, rfl, rfl, hl1, hl2⟩ := hcut
              have HL1 := Lib.hid hl1
              have HL2 := Lib.hid hl2
              clear hl1 hl2
              go_upto_if 78 with fail
              go_cut [14] (fun ov wz => ∃ o : Int, ov = .int .i64 o ∧ wr = wz ∧ (0 < I → o = cell S (I - 1) J ∧ 1 ≤ o) ∧ (I = 0 → o = 0))
              case first =>
               by_cases hI0 : 0 < I
               · have d1 : decide ((0 : Int) < (I : Int)) = true := decide_eq_true (by omega)
                 obtain ⟨gr2, cr2, q2, y1, y2, y3, y4, y5⟩ := HOVER.out hI0
                 obtain ⟨o, ho⟩ : ∃ o, o = cell S (I - 1) J := ⟨_, rfl⟩
                 rw [← ho] at y1 y4
                 have HO := Lib.hid ho
                 have HY1 := Lib.hid y1
                 clear ho y1
                 go_wp2
                 go_meet
                 exact ⟨o, rfl, rfl, fun _ => ⟨HO.out, HY1.out⟩, fun e => by omega⟩
               · have d1 : decide ((0 : Int) < (I : Int)) = false := decide_eq_false (by omega)
                 go_wp2
                 go_meet
                 exact ⟨0, rfl, rfl, fun e => by omega, fun e => rfl⟩
              case rest =>
               obtain ⟨o, rfl, rfl, ho1, ho2⟩ := hcut
               have HO1 := Lib.hid ho1
               have HO2 := Lib.hid ho2
               clear ho1 ho2 HLEFT HOVER
               by_cases hlo : l < o
               · have dl : decide (l < o) = true := decide_eq_true hlo
                 have hI0 : 0 < I := by
                  apply Classical.byContradiction
                  intro hn
                  have e1 := HO2.out (by omega)
                  have e2 := HL1.out (hdj hn)
                  omega
                 obtain ⟨I', hI'⟩ : ∃ I', I' + 1 = I := ⟨I - 1, by omega⟩
                 have eI : I - 1 = I' := by omega
                 have hoe := (HO1.out hI0).1
                 rw [eI] at hoe
                 have hbk := HUP.out I' hI' (fun k hk => by
                  have e1 := (HL1.out (by omega)).1
                  have e3 : J - 1 = k := by omega
                  rw [e3] at e1
                  omega)
                 rw [← hoe, hI'] at hbk
                 have hst := HM.out.setIn (r := I) (g := gr) (c := cr) HII.out HHR.out J o
                 have hst' : OwnM _ _ _ hs (put S I J o) := hst
                 have hW2 := HW.out.setCell (p := ⟨gr, J, none⟩) hg1 (.int .i64 o)
                 have HBK2 := Lib.hid hbk
                 have HST2 := Lib.hid hst'
                 have HW2 := Lib.hid hW2
                 have HI' := Lib.hid hI'
                 clear hst hst' hW2 hbk hoe eI hI' HL1 HL2 HO1 HO2 HBK HM HW
                 go_wp2
                 go_roundw
                 case rel => exact ⟨I', J, _, by have := HI'.out; congr 1; omega, rfl, HBK2.out, HST2.out, HW2.out⟩
                 case measure => simp [intOf]; have := HI'.out; omega
               · have dl : decide (l < o) = false := decide_eq_false hlo
                 have hJ0 : 0 < J := by
                  apply Classical.byContradiction
                  intro hn
                  have e1 := HL2.out (by omega)
                  have e2 := HO1.out (by
                   apply Classical.byContradiction
                   intro hI
                   exact hn (hdj hI))
                  omega
                 obtain ⟨J', hJ'⟩ : ∃ J', J' + 1 = J := ⟨J - 1, by omega⟩
                 have eJ : J - 1 = J' := by omega
                 have hle := (HL1.out hJ0).1
                 rw [eJ] at hle
                 have hbk := HLF.out J' hJ' (fun k hk => by
                  have e1 := (HO1.out (by omega)).1
                  have e3 : I - 1 = k := by omega
                  rw [e3] at e1
                  omega)
                 rw [← hle, hJ'] at hbk
                 have hst := HM.out.setIn (r := I) (g := gr) (c := cr) HII.out HHR.out J l
                 have hst' : OwnM _ _ _ hs (put S I J l) := hst
                 have hW2 := HW.out.setCell (p := ⟨gr, J, none⟩) hg1 (.int .i64 l)
                 have HBK2 := Lib.hid hbk
                 have HST2 := Lib.hid hst'
                 have HW2 := Lib.hid hW2
                 have HJ' := Lib.hid hJ'
                 clear hst hst' hW2 hbk hle eJ hJ' HL1 HL2 HO1 HO2 HBK HM HW
                 go_wp2
                 go_roundw
                 case rel => exact ⟨I, J', _, rfl, by have := HJ'.out; congr 1; omega, HBK2.out, HST2.out, HW2.out⟩
                 case measure => simp [intOf]; have := HJ'.out; omega
 · have dk : (k != 0) = true := by simpa using hk0
   have HK0 := Lib.hid hk0
   have HK2 := Lib.hid hk2
   clear hk1 hk2
   go_wp2
   go_ret2
   exact ⟨op_bad HK0.out HK2.out, hb1⟩
end
end Go.Proofs.YtpmkdihencepnaaGreatDoor
