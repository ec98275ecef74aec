/-
  hooks.Hooks: rows of its own, whatever comes in.
-/
import Derived.Test.YtpmkdihencepnaaGreatMg01
import Derived.Test.YtpmkdihencepnaaGreatMg13
namespace Go.Proofs.YtpmkdihencepnaaGreat
open Go.RowKit

set_option maxRecDepth 100000 in
set_option maxHeartbeats 2000000 in
theorem hooks_any (A : Option Addr) (cap : Nat) (p : List Int) (w : World) (hcl : p.length ≤ 9223372036854775807) (h : Sl w w.heap.size A (ints p)) :
    Calls Tryz.prog 29 #[.slice A p.length cap] w fun e w' => Told Sm w.heap.size e w' ∧ Below w.heap.size w w' := by
  go_enter Tryz.func29, Tryz.ntmps29
  go_wp2_with (first | (go_at_call 4; refine (conj_any A cap p _ hcl h).mono ?_) | fail)
  rintro e w1 ⟨⟨k, q, A1, c1, rfl, hq, hz, hk, hqe⟩, hb1⟩
  by_cases hk0 : k = 0
  · obtain ⟨hp, hs⟩ := partChk_zero.1 (hk.1 hk0)
    have hq1 := hqe hk0
    have hl40 := hp.len hs
    have HP := Lib.hid hp
    have HS := Lib.hid hs
    have hql : Hid (∀ i, i < p.length → (p.getD i 0).toNat ≤ q.length) := fun i hi => by
      rw [hq1, flipOf_length]
      have := hp.mono i hi 0 (by omega)
      omega
    have HQ := Lib.hid hq
    have hpp := Lib.hid (h.now hb1 (Nat.le_refl _))
    have HB1 := Lib.hid hb1
    subst hk0
    clear hp hs hq1 hq h hb1 hz hk hqe
    go_wp2
    go_loopw [6, 21] (fun ov iv wr => ∃ (i : Nat) (hs : List Value) (rows : List (List Int)), i ≤ p.length ∧ iv = .int .i64 i ∧ rows.length = i ∧ (∀ r, (rows.getD r []).length ≤ 1000000) ∧ OwnM wr w1.heap.size ov hs rows ∧ Below w1.heap.size w1 wr) (fun _ iv _ => p.length - (intOf iv).toNat)
    case atStart => exact ⟨0, [], [], Nat.zero_le _, rfl, rfl, fun r => by simp, OwnM.nil _ _, Below.refl _ _⟩
    case round =>
      obtain ⟨i, hs, rows, hi, rfl, hrl, hsm, hm, hW⟩ := hrel
      have HRL := Lib.hid hrl
      have HSM := Lib.hid hsm
      have HM := Lib.hid hm
      have HW := Lib.hid hW
      have hsz := hW.size
      obtain ⟨w9, rfl⟩ : ∃ w9, w9 = wr := ⟨_, rfl⟩
      by_cases hit : i < p.length
      · have di : decide (i < p.length) = true := decide_eq_true hit
        have hp2 := hpp.out.below hW
        obtain ⟨b, o, rfl, hb⟩ := hp2.addr (by omega)
        have hcx := getD_cell hp2 hit
        have hel := HP.out.el HS.out hit
        have hqi := hql.out i hit
        obtain ⟨n, hn⟩ : ∃ n : Nat, p.getD i 0 = (n : Int) := ⟨(p.getD i 0).toNat, by omega⟩
        rw [hn] at hcx hel hqi
        have hnq : n ≤ q.length := by omega
        have hmo := hm.out
        rw [hrl] at hmo
        have HMO := Lib.hid hmo
        clear hp2 hn hqi hm hW hmo hrl hsm
        go_wp2_with (first | (refine wpList_mk (base := w9.heap.size) rfl (.tmp 26) (.tmp 26) rfl n rfl rfl (by omega) (Nat.le_refl _) (fun w2 hown2 hb2 hz2 => ?_)) | fail)
        have HO2 := Lib.hid hown2
        have HB2 := Lib.hid hb2
        clear hown2 hb2 hz2
        go_wp2
        go_loopw [30] (fun jv wz => ∃ (j : Nat) (l : List Int), j ≤ n ∧ jv = .int .i64 j ∧ l.length = n ∧ wz.ownsRow w9.heap.size 3 1 (.slice (some ⟨w9.heap.size, 0, none⟩) n n) n (ints l) ∧ Below w9.heap.size w9 wz) (fun jv _ => n - (intOf jv).toNat)
        case atStart => exact ⟨0, List.replicate n 0, by omega, rfl, by simp, HO2.out, HB2.out⟩
        case round =>
          clear HO2 HB2
          obtain ⟨j, l, hj, rfl, hll, hown, hW2⟩ := hrel
          have HO := Lib.hid hown
          have HW2 := Lib.hid hW2
          have HLL := Lib.hid hll
          by_cases hjn : j < n
          · have dj : decide (j < n) = true := decide_eq_true hjn
            have hq2 := (HQ.out.below HW.out).below (hW2.mono hsz)
            obtain ⟨b2, o2, rfl, hb2⟩ := hq2.addr (by omega)
            have hcq := getD_cell hq2 (k := j) (by omega)
            obtain ⟨z, hze⟩ : ∃ z, z = q.getD j 0 := ⟨_, rfl⟩
            rw [← hze] at hcq
            have hjq : j < q.length := by omega
            have hco := own_get hown (getD_some (l := l) (j := j) (by omega))
            obtain ⟨y, hy⟩ : ∃ y, y = l.getD j 0 := ⟨_, rfl⟩
            rw [← hy] at hco
            have hfr := hown.frozenAt j
            have HST : Hid (∀ y : Int, (wr.setCell ⟨w9.heap.size, j, none⟩ (.int .i64 y)).ownsRow w9.heap.size 3 1 (.slice (some ⟨w9.heap.size, 0, none⟩) n n) n (ints (l.set j y))) := Lib.hid (fun y => own_set hown j y)
            have HSW : Hid (∀ y : Int, Below w9.heap.size w9 (wr.setCell ⟨w9.heap.size, j, none⟩ (.int .i64 y))) := Lib.hid (fun y => hW2.setCell (p := ⟨w9.heap.size, j, none⟩) (Nat.le_refl _) _)
            clear hze hy hq2 hown hW2 hll
            go_wp2
            go_roundw
            case rel => exact ⟨j + 1, l.set j _, by omega, by go_num, by rw [List.length_set]; exact HLL.out, HST.out _, HSW.out _⟩
            case measure => simp [intOf]; omega
          · have dj : decide (j < n) = false := decide_eq_false hjn
            have hbz := hW2.size
            have HM2 := Lib.hid (HM.out.below hW2)
            have HMO2 := Lib.hid (own_below HMO.out hW2)
            have hB9 : w1.heap.size ≤ wr.heap.size := Nat.le_trans hsz hbz
            clear hown hW2 hll
            go_wp2_with (first | (at_builtin; refine wpList_push (v := u6) rfl (.tmp 48) (.tmp 50) rfl rfl (.slice (some ⟨w9.heap.size, 0, none⟩) n n) rfl HMO2.out wr.heap.size rfl rfl (by omega) hB9 (fun g2 c2 w5 hl5 hg5 hat5 => ?_)) | fail)
            have HPU := Lib.hid (HM.out.push1 HW2.out hsz (u := .slice (some ⟨w9.heap.size, 0, none⟩) n n) (l := l) (by rw [HLL.out]; exact HO.out) HRL.out.symm hl5 hg5 hat5)
            have HW5 := Lib.hid (((HW.out.trans (HW2.out.mono hsz)).alloc hB9 (.cells #[.slice (some ⟨w9.heap.size, 0, none⟩) n n] 22)).grown hg5 (by simp; omega) (fun k hk => (HMO2.out.lt k hk).1))
            clear hl5 hg5 hat5
            go_wp2
            go_roundw
            case rel => exact ⟨i + 1, _, rows ++ [l], by omega, by go_num, by rw [List.length_append, HRL.out]; rfl, Sm.snoc HSM.out (by rw [HLL.out]; omega), HPU.out, HW5.out⟩
            case measure => simp [intOf]; omega
      · have di : decide (i < p.length) = false := decide_eq_false hit
        have HF := Lib.hid (told_own (R := Sm) (hm.lowr HB1.out.size) 0 ⟨by omega, hsm⟩)
        have HWF := Lib.hid (HB1.out.trans (hW.mono HB1.out.size))
        clear hm hW hrl hsm
        go_wp2
        go_ret2
        exact ⟨HF.out, HWF.out⟩
  · have dk : (k != 0) = true := by simpa using hk0
    have hq0 := hz hk0
    have HB1 := Lib.hid hb1
    clear hq hz hk hqe hb1 hk0 hq0
    go_wp2
    go_ret2
    exact ⟨told_bad _ _ _ Sm.nil, HB1.out⟩
end Go.Proofs.YtpmkdihencepnaaGreat

/-
  hooks.Below, hooks.Above: rows of their own, whatever comes in.
-/
namespace Go.Proofs.YtpmkdihencepnaaGreat
open Go.RowKit

/-- The first of a row that is owned. -/
theorem own_cutZ {w : World} {B g n c J : Nat} {xs : List Int} (h : w.ownsRow B 3 1 (.slice (some ⟨g, 0, none⟩) n c) n (ints xs)) (hJ : J ≤ n) : w.ownsRow B 3 1 (.slice (some ⟨g, 0, none⟩) J c) J (ints (xs.take J)) := by
  have hl := h.1
  rcases h.2 with ⟨e1, _⟩ | ⟨g', cap, cur, e1, hg, hh, h1, h2, h3, h4⟩
  · cases e1
  · cases e1
    refine ⟨by rw [ints_length] at hl ⊢; rw [List.length_take]; omega, .inr ⟨g, c, cur, rfl, hg, hh, by omega, h2, h3, ?_⟩⟩
    have h5 : cur.toList.take (J * 1) = (cur.toList.take (n * 1)).take (J * 1) := by rw [List.take_take]; congr 1; omega
    rw [h5, h4, ints, ints, List.map_take, Nat.mul_one]
set_option maxRecDepth 100000 in
set_option maxHeartbeats 2000000 in
theorem hbelow_any (A : Option Addr) (cap : Nat) (p : List Int) (w : World) (hcl : p.length ≤ 9223372036854775807) (h : Sl w w.heap.size A (ints p)) :
    Calls Tryz.prog 30 #[.slice A p.length cap] w fun e w' => Told Sm w.heap.size e w' ∧ Below w.heap.size w w' := by
  go_enter Tryz.func30, Tryz.ntmps30
  go_wp2_with (first | (go_at_call 40; refine (pcheck_any A cap p _ hcl h).mono ?_) | fail)
  rintro e w1 ⟨rfl, rfl⟩
  by_cases hk0 : partChk p = 0
  · obtain ⟨hp, hs⟩ := partChk_zero.1 hk0
    have hl40 := hp.len hs
    have HP := Lib.hid hp
    have HS := Lib.hid hs
    rw [hk0]
    clear hp hs hk0
    go_wp2
    go_loopw [5, 16] (fun ov iv wr => ∃ (i : Nat) (hs : List Value) (rows : List (List Int)), i ≤ p.length ∧ iv = .int .i64 i ∧ rows.length ≤ i ∧ (∀ r, (rows.getD r []).length ≤ 1000000) ∧ OwnM wr w.heap.size ov hs rows ∧ Below w.heap.size w wr) (fun _ iv _ => p.length - (intOf iv).toNat)
    case atStart => exact ⟨0, [], [], Nat.zero_le _, rfl, by simp, fun r => by simp, OwnM.nil _ _, Below.refl _ _⟩
    case round =>
      obtain ⟨i, hs, rows, hi, rfl, hrl, hsm, hm, hW⟩ := hrel
      have HSM := Lib.hid hsm
      have HM := Lib.hid hm
      have HW := Lib.hid hW
      have hsz := hW.size
      obtain ⟨w9, rfl⟩ : ∃ w9, w9 = wr := ⟨_, rfl⟩
      by_cases hit : i < p.length
      · have di : decide (i < p.length) = true := decide_eq_true hit
        have hp2 := h.below hW
        obtain ⟨b, o, rfl, hb⟩ := hp2.addr (by omega)
        have hcx := getD_cell hp2 hit
        have hel := HP.out.el HS.out hit
        obtain ⟨n, hn⟩ : ∃ n, n = p.getD i 0 := ⟨_, rfl⟩
        rw [← hn] at hcx hel
        have HN := Lib.hid hn
        have HMO := Lib.hid hm.out
        have HP2 := Lib.hid (hp2.more hsz)
        have hstop : ∀ q : Prop, Decidable q → q ∨ ¬ q := fun q _ => Classical.em q
        clear hn hm hW hsm hstop
        by_cases hc1 : i + 1 < p.length ∧ p.getD (i + 1) 0 = n
        · obtain ⟨hc2, hc3⟩ := hc1
          have d1 : decide ((i : Int) + 1 < (p.length : Int)) = true := decide_eq_true (by omega)
          have hcy := getD_cell hp2 hc2
          rw [hc3] at hcy
          clear hp2 hc3
          go_wp2
          go_roundw
          case rel => exact ⟨i + 1, hs, rows, by omega, by go_num, by omega, HSM.out, HM.out, HW.out⟩
          case measure => simp [intOf]; omega
        · have HCL := Lib.hid (clone_any (some ⟨b, o, none⟩) cap p w9 (by omega) HP2.out)
          have hcc : ∃ bb : Bool, (bb = false) ∧ True := ⟨false, rfl, trivial⟩
          clear hcc
          by_cases hc2 : i + 1 < p.length
          · have d1 : decide ((i : Int) + 1 < (p.length : Int)) = true := decide_eq_true (by omega)
            have hcy := getD_cell hp2 hc2
            obtain ⟨y, hy⟩ : ∃ y, y = p.getD (i + 1) 0 := ⟨_, rfl⟩
            rw [← hy] at hcy
            have hyn : (y == n) = false := by
              have : y ≠ n := fun e => hc1 ⟨hc2, by rw [← hy]; exact e⟩
              simpa using this
            clear hy hp2 hc1
            go_wp2_with (first | (go_at_call 46; refine (HCL.out).mono ?_) | fail)
            rintro e w3 ⟨v3, rfl, ho3, hb3⟩
            obtain ⟨g, c3, rfl, hg1, hg2⟩ := ho3.form (by omega)
            have hcap := own_cap ho3
            have hc3 := own_get ho3 (getD_some (l := p) hit)
            rw [← HN.out] at hc3
            have hfz := ho3.frozenAt i
            have hst := own_set ho3 i (n - 1)
            have hcn : (p.set i (n - 1)).getD i 0 = n - 1 := by rw [getD_get (by rw [List.length_set]; exact hit), List.getElem_set_self]
            have HS4 := Lib.hid hst
            have HB94 := Lib.hid (hb3.setCell (p := ⟨g, i, none⟩) hg1 (.int .i64 (n - 1)))
            have HNC := Lib.hid hcn
            have hcap1 := hcap.1
            have hcap2 := hcap.2
            clear hst hcn hcap hb3 ho3
            go_upto_region 11 with fail
            obtain ⟨w4, hw4⟩ : ∃ w4, w4 = w3.setCell ⟨g, i, none⟩ (.int .i64 (n - 1)) := ⟨_, rfl⟩
            rw [← hw4] at HS4 HB94 ⊢
            clear hw4 hc3 hfz
            have HW94 := HB94
            have HW4 := Lib.hid (HW.out.trans (HB94.out.mono hsz))
            have hsz4 : w.heap.size ≤ w4.heap.size := HW4.out.size
            have hc4 := own_get HS4.out (i := i) (z := n - 1) (by rw [getD_some (by rw [List.length_set]; exact hit), HNC.out])
            by_cases hn1 : n = 1
            · have hz : (n - 1 == 0) = true := by simp; omega
              have hil : i ≤ c3 := by omega
              have hsl : Sl w4 w4.heap.size (some ⟨g, 0, none⟩) (ints ((p.set i (n - 1)).take i)) := Sl.of_own (own_cutZ HS4.out (by omega))
              have hll : (((p.set i (n - 1)).take i)).length = i := by rw [List.length_take, List.length_set]; omega
              obtain ⟨L, hL⟩ : ∃ L, L = ((p.set i (n - 1)).take i) := ⟨_, rfl⟩
              rw [← hL] at hsl hll
              have hL40 : L.length ≤ 1000000 := by omega
              have hcl2 : Calls Tryz.prog 46 #[.slice (some ⟨g, 0, none⟩) i c3] w4 fun e w' => ∃ v, e = .returned v ∧ w'.ownsRow w4.heap.size 3 1 v L.length (ints L) ∧ Below w4.heap.size w4 w' := by
                have := clone_any (some ⟨g, 0, none⟩) c3 L w4 (by omega) hsl
                rw [hll] at this ⊢; exact this
              have HCL2 := Lib.hid hcl2
              clear hsl hL hcl2 hll
              go_wp2_with (first | (go_at_call 46; refine (HCL2.out).mono ?_) | fail)
              rintro e w5 ⟨v5, rfl, ho5, hb5⟩
              obtain ⟨Av, cv, rfl, -, -, -⟩ := own_sliceA ho5
              have HO5 := Lib.hid ho5
              have HW5 := Lib.hid (HW4.out.trans (hb5.mono hsz4))
              have HMO5 := Lib.hid (own_below HMO.out (HW94.out.trans (hb5.mono HW94.out.size)))
              have HB5 := Lib.hid hb5
              have hB5 : w.heap.size ≤ w5.heap.size := Nat.le_trans hsz4 hb5.size
              clear ho5 hb5
              go_wp2_with (first | (at_builtin; refine wpList_push (v := u5) rfl (.tmp 51) (.tmp 54) rfl rfl (.slice Av L.length cv) rfl HMO5.out w5.heap.size rfl rfl (by omega) hB5 (fun g2 c2 w6 hl6 hg6 hat6 => ?_)) | fail)
              have HPU := Lib.hid (HM.out.push1 (HW94.out.trans (HB5.out.mono HW94.out.size)) hsz (u := .slice Av L.length cv) (l := L) (HO5.out.mono HW94.out.size) rfl hl6 hg6 hat6)
              have HW6 := Lib.hid ((HW5.out.alloc hB5 (.cells #[.slice Av L.length cv] 22)).grown hg6 (by simp; omega) (fun k hk => (HMO5.out.lt k hk).1))
              clear hl6 hg6 hat6
              go_wp2
              go_roundw
              case rel => exact ⟨i + 1, _, rows ++ [L], by omega, by go_num, by rw [List.length_append]; simp; omega, Sm.snoc HSM.out hL40, HPU.out, HW6.out⟩
              case measure => simp [intOf]; omega
            · have hz : (n - 1 == 0) = false := by simp; omega
              have hsl : Sl w4 w4.heap.size (some ⟨g, 0, none⟩) (ints (p.set i (n - 1))) := Sl.of_own HS4.out
              have hll : ((p.set i (n - 1))).length = p.length := by rw [List.length_set]
              obtain ⟨L, hL⟩ : ∃ L, L = (p.set i (n - 1)) := ⟨_, rfl⟩
              rw [← hL] at hsl hll
              have hL40 : L.length ≤ 1000000 := by omega
              have hcl2 : Calls Tryz.prog 46 #[.slice (some ⟨g, 0, none⟩) p.length c3] w4 fun e w' => ∃ v, e = .returned v ∧ w'.ownsRow w4.heap.size 3 1 v L.length (ints L) ∧ Below w4.heap.size w4 w' := by
                have := clone_any (some ⟨g, 0, none⟩) c3 L w4 (by omega) hsl
                rw [hll] at this ⊢; exact this
              have HCL2 := Lib.hid hcl2
              clear hsl hL hcl2 hll
              go_wp2_with (first | (go_at_call 46; refine (HCL2.out).mono ?_) | fail)
              rintro e w5 ⟨v5, rfl, ho5, hb5⟩
              obtain ⟨Av, cv, rfl, -, -, -⟩ := own_sliceA ho5
              have HO5 := Lib.hid ho5
              have HW5 := Lib.hid (HW4.out.trans (hb5.mono hsz4))
              have HMO5 := Lib.hid (own_below HMO.out (HW94.out.trans (hb5.mono HW94.out.size)))
              have HB5 := Lib.hid hb5
              have hB5 : w.heap.size ≤ w5.heap.size := Nat.le_trans hsz4 hb5.size
              clear ho5 hb5
              go_wp2_with (first | (at_builtin; refine wpList_push (v := u5) rfl (.tmp 51) (.tmp 54) rfl rfl (.slice Av L.length cv) rfl HMO5.out w5.heap.size rfl rfl (by omega) hB5 (fun g2 c2 w6 hl6 hg6 hat6 => ?_)) | fail)
              have HPU := Lib.hid (HM.out.push1 (HW94.out.trans (HB5.out.mono HW94.out.size)) hsz (u := .slice Av L.length cv) (l := L) (HO5.out.mono HW94.out.size) rfl hl6 hg6 hat6)
              have HW6 := Lib.hid ((HW5.out.alloc hB5 (.cells #[.slice Av L.length cv] 22)).grown hg6 (by simp; omega) (fun k hk => (HMO5.out.lt k hk).1))
              clear hl6 hg6 hat6
              go_wp2
              go_roundw
              case rel => exact ⟨i + 1, _, rows ++ [L], by omega, by go_num, by rw [List.length_append]; simp; omega, Sm.snoc HSM.out hL40, HPU.out, HW6.out⟩
              case measure => simp [intOf]; omega
          · have d1 : decide ((i : Int) + 1 < (p.length : Int)) = false := decide_eq_false (by omega)
            clear hp2 hc1
            go_wp2_with (first | (go_at_call 46; refine (HCL.out).mono ?_) | fail)
            rintro e w3 ⟨v3, rfl, ho3, hb3⟩
            obtain ⟨g, c3, rfl, hg1, hg2⟩ := ho3.form (by omega)
            have hcap := own_cap ho3
            have hc3 := own_get ho3 (getD_some (l := p) hit)
            rw [← HN.out] at hc3
            have hfz := ho3.frozenAt i
            have hst := own_set ho3 i (n - 1)
            have hcn : (p.set i (n - 1)).getD i 0 = n - 1 := by rw [getD_get (by rw [List.length_set]; exact hit), List.getElem_set_self]
            have HS4 := Lib.hid hst
            have HB94 := Lib.hid (hb3.setCell (p := ⟨g, i, none⟩) hg1 (.int .i64 (n - 1)))
            have HNC := Lib.hid hcn
            have hcap1 := hcap.1
            have hcap2 := hcap.2
            clear hst hcn hcap hb3 ho3
            go_upto_region 11 with fail
            obtain ⟨w4, hw4⟩ : ∃ w4, w4 = w3.setCell ⟨g, i, none⟩ (.int .i64 (n - 1)) := ⟨_, rfl⟩
            rw [← hw4] at HS4 HB94 ⊢
            clear hw4 hc3 hfz
            have HW94 := HB94
            have HW4 := Lib.hid (HW.out.trans (HB94.out.mono hsz))
            have hsz4 : w.heap.size ≤ w4.heap.size := HW4.out.size
            have hc4 := own_get HS4.out (i := i) (z := n - 1) (by rw [getD_some (by rw [List.length_set]; exact hit), HNC.out])
            by_cases hn1 : n = 1
            · have hz : (n - 1 == 0) = true := by simp; omega
              have hil : i ≤ c3 := by omega
              have hsl : Sl w4 w4.heap.size (some ⟨g, 0, none⟩) (ints ((p.set i (n - 1)).take i)) := Sl.of_own (own_cutZ HS4.out (by omega))
              have hll : (((p.set i (n - 1)).take i)).length = i := by rw [List.length_take, List.length_set]; omega
              obtain ⟨L, hL⟩ : ∃ L, L = ((p.set i (n - 1)).take i) := ⟨_, rfl⟩
              rw [← hL] at hsl hll
              have hL40 : L.length ≤ 1000000 := by omega
              have hcl2 : Calls Tryz.prog 46 #[.slice (some ⟨g, 0, none⟩) i c3] w4 fun e w' => ∃ v, e = .returned v ∧ w'.ownsRow w4.heap.size 3 1 v L.length (ints L) ∧ Below w4.heap.size w4 w' := by
                have := clone_any (some ⟨g, 0, none⟩) c3 L w4 (by omega) hsl
                rw [hll] at this ⊢; exact this
              have HCL2 := Lib.hid hcl2
              clear hsl hL hcl2 hll
              go_wp2_with (first | (go_at_call 46; refine (HCL2.out).mono ?_) | fail)
              rintro e w5 ⟨v5, rfl, ho5, hb5⟩
              obtain ⟨Av, cv, rfl, -, -, -⟩ := own_sliceA ho5
              have HO5 := Lib.hid ho5
              have HW5 := Lib.hid (HW4.out.trans (hb5.mono hsz4))
              have HMO5 := Lib.hid (own_below HMO.out (HW94.out.trans (hb5.mono HW94.out.size)))
              have HB5 := Lib.hid hb5
              have hB5 : w.heap.size ≤ w5.heap.size := Nat.le_trans hsz4 hb5.size
              clear ho5 hb5
              go_wp2_with (first | (at_builtin; refine wpList_push (v := u5) rfl (.tmp 51) (.tmp 54) rfl rfl (.slice Av L.length cv) rfl HMO5.out w5.heap.size rfl rfl (by omega) hB5 (fun g2 c2 w6 hl6 hg6 hat6 => ?_)) | fail)
              have HPU := Lib.hid (HM.out.push1 (HW94.out.trans (HB5.out.mono HW94.out.size)) hsz (u := .slice Av L.length cv) (l := L) (HO5.out.mono HW94.out.size) rfl hl6 hg6 hat6)
              have HW6 := Lib.hid ((HW5.out.alloc hB5 (.cells #[.slice Av L.length cv] 22)).grown hg6 (by simp; omega) (fun k hk => (HMO5.out.lt k hk).1))
              clear hl6 hg6 hat6
              go_wp2
              go_roundw
              case rel => exact ⟨i + 1, _, rows ++ [L], by omega, by go_num, by rw [List.length_append]; simp; omega, Sm.snoc HSM.out hL40, HPU.out, HW6.out⟩
              case measure => simp [intOf]; omega
            · have hz : (n - 1 == 0) = false := by simp; omega
              have hsl : Sl w4 w4.heap.size (some ⟨g, 0, none⟩) (ints (p.set i (n - 1))) := Sl.of_own HS4.out
              have hll : ((p.set i (n - 1))).length = p.length := by rw [List.length_set]
              obtain ⟨L, hL⟩ : ∃ L, L = (p.set i (n - 1)) := ⟨_, rfl⟩
              rw [← hL] at hsl hll
              have hL40 : L.length ≤ 1000000 := by omega
              have hcl2 : Calls Tryz.prog 46 #[.slice (some ⟨g, 0, none⟩) p.length c3] w4 fun e w' => ∃ v, e = .returned v ∧ w'.ownsRow w4.heap.size 3 1 v L.length (ints L) ∧ Below w4.heap.size w4 w' := by
                have := clone_any (some ⟨g, 0, none⟩) c3 L w4 (by omega) hsl
                rw [hll] at this ⊢; exact this
              have HCL2 := Lib.hid hcl2
              clear hsl hL hcl2 hll
              go_wp2_with (first | (go_at_call 46; refine (HCL2.out).mono ?_) | fail)
              rintro e w5 ⟨v5, rfl, ho5, hb5⟩
              obtain ⟨Av, cv, rfl, -, -, -⟩ := own_sliceA ho5
              have HO5 := Lib.hid ho5
              have HW5 := Lib.hid (HW4.out.trans (hb5.mono hsz4))
              have HMO5 := Lib.hid (own_below HMO.out (HW94.out.trans (hb5.mono HW94.out.size)))
              have HB5 := Lib.hid hb5
              have hB5 : w.heap.size ≤ w5.heap.size := Nat.le_trans hsz4 hb5.size
              clear ho5 hb5
              go_wp2_with (first | (at_builtin; refine wpList_push (v := u5) rfl (.tmp 51) (.tmp 54) rfl rfl (.slice Av L.length cv) rfl HMO5.out w5.heap.size rfl rfl (by omega) hB5 (fun g2 c2 w6 hl6 hg6 hat6 => ?_)) | fail)
              have HPU := Lib.hid (HM.out.push1 (HW94.out.trans (HB5.out.mono HW94.out.size)) hsz (u := .slice Av L.length cv) (l := L) (HO5.out.mono HW94.out.size) rfl hl6 hg6 hat6)
              have HW6 := Lib.hid ((HW5.out.alloc hB5 (.cells #[.slice Av L.length cv] 22)).grown hg6 (by simp; omega) (fun k hk => (HMO5.out.lt k hk).1))
              clear hl6 hg6 hat6
              go_wp2
              go_roundw
              case rel => exact ⟨i + 1, _, rows ++ [L], by omega, by go_num, by rw [List.length_append]; simp; omega, Sm.snoc HSM.out hL40, HPU.out, HW6.out⟩
              case measure => simp [intOf]; omega
      · have di : decide (i < p.length) = false := decide_eq_false hit
        have HF := Lib.hid (told_own (R := Sm) hm 0 ⟨by omega, hsm⟩)
        clear hm hsm
        go_wp2
        go_ret2
        exact ⟨HF.out, hW⟩
  · obtain ⟨c, hcc⟩ : ∃ c, c = partChk p := ⟨_, rfl⟩
    rw [← hcc] at hk0 ⊢
    have dk : (c != 0) = true := by simpa using hk0
    clear hk0 hcc
    go_wp2
    go_ret2
    exact ⟨told_bad _ _ _ Sm.nil, Below.refl _ _⟩
end Go.Proofs.YtpmkdihencepnaaGreat
