/-
  insert.made: what it answers.
-/
import Derived.Test.YtmlmdklheiafpaaTabl5W
import Derived.Test.YtmlmdklheiafpaaPlacR
namespace Go.Proofs.Ytmlmdklheiafpaa
open Go.RowKit

/-- Two tableaux that own no block together. -/
def Apt (v : Value) (hs : List Value) (u : Value) (us : List Value) : Prop := ∀ k, foot v hs k → ¬ foot u us k
/-- What insert.made answers. -/
def MadeOut (e : Ending) (w : World) (B : Nat) (P Q : List (List Int)) : Prop := ∃ v hs u us, e = .returned (.tuple #[v, u]) ∧ OwnM w B v hs P ∧ OwnM w B u us Q ∧ Apt v hs u us

def qpad (Q : List (List Int)) (r : Nat) : List (List Int) := if r = Q.length then Q ++ [[]] else Q
theorem qpad_new {Q : List (List Int)} {r : Nat} (h : r = Q.length) : qpad Q r = Q ++ [[]] := if_pos h
theorem qpad_old {Q : List (List Int)} {r : Nat} (h : ¬ r = Q.length) : qpad Q r = Q := if_neg h
theorem qpad_add {Q : List (List Int)} {r : Nat} (c : Int) (h : r ≤ Q.length) : r < (qpad Q r).length ∧ (qpad Q r).set r ((qpad Q r).getD r [] ++ [c]) = qadd Q r c := by
  unfold qpad qadd
  by_cases e : r = Q.length
  · rw [if_pos e, if_pos e]
    subst e
    refine ⟨by simp, ?_⟩
    rw [List.getD_eq_getElem?_getD, List.getElem?_append_right (Nat.le_refl _)]
    simp
  · rw [if_neg e, if_neg e]; exact ⟨by omega, rfl⟩
theorem qpad_len {Q : List (List Int)} {r n : Nat} (h : ∀ r, (Q.getD r []).length ≤ n) : ((qpad Q r).getD r []).length ≤ n := by
  unfold qpad
  by_cases e : r = Q.length
  · rw [if_pos e]
    subst e
    rw [List.getD_eq_getElem?_getD, List.getElem?_append_right (Nat.le_refl _)]
    simp
  · rw [if_neg e]; exact h r

set_option maxRecDepth 100000 in
set_option maxHeartbeats 2000000 in
theorem made_any (A A2 : Option Addr) (cap cap2 : Nat) (xs cs : List Int) (w : World) (hl : xs.length ≤ 40) (hc : xs.length = cs.length) (hx : ∀ x ∈ xs, Lt x) (h : Sl w w.heap.size A (ints xs)) (h2 : Sl w w.heap.size A2 (ints cs)) :
    Calls Try.prog 62 #[.slice A xs.length cap, .slice A2 cs.length cap2] w fun e w' => MadeOut e w' w.heap.size (insW [] xs) (recQ xs cs xs.length) ∧ Below w.heap.size w w' := by
  have HC := Lib.hid hc
  have HX := Lib.hid hx
  clear hx hc
  go_enter Try.func62, Try.ntmps62
  go_wp2
  go_loopw [4, 5, 11] (fun pv qv iv wr => ∃ (i : Nat) (hs us : List Value), i ≤ xs.length ∧ iv = .int .i64 i ∧ OwnM wr w.heap.size pv hs (insW [] (xs.take i)) ∧ OwnM wr w.heap.size qv us (recQ xs cs i) ∧ Apt pv hs qv us ∧ Below w.heap.size w wr) (fun _ _ iv _ => xs.length - (intOf iv).toNat)
  case atStart =>
    refine ⟨0, [], [], Nat.zero_le _, rfl, OwnM.nil _ _, OwnM.nil _ _, fun k hk => ?_, Below.refl _ _⟩
    rcases hk with hk | ⟨r, hr, _⟩
    · simp [Value.ownBlock] at hk
    · simp at hr
  case round =>
    obtain ⟨i, hs, us, hi, rfl, hm, hq, hap, hW⟩ := hrel
    have HM := Lib.hid hm
    have HQ := Lib.hid hq
    have HAP := Lib.hid hap
    have HW := Lib.hid hW
    have hsz := hW.size
    clear hm hq hap hW
    by_cases hit : i < xs.length
    · have di : decide (i < xs.length) = true := decide_eq_true hit
      obtain ⟨b, o, rfl, hb⟩ := h.addr (by omega)
      have hxc := (HW.out.cell (p := ⟨b, o + i, none⟩) hb).trans (getD_cell h hit)
      obtain ⟨b2, o2, rfl, hb2⟩ := h2.addr (by rw [← HC.out]; omega)
      have hcc0 := getD_cell h2 (k := i) (by rw [← HC.out]; exact hit)
      have hok := take_ok hl HX.out i
      have hxl : Lt (xs.getD i 0) := HX.out _ (by rw [getD_get hit]; exact List.getElem_mem hit)
      have hir := sh_ins1 (insW [] (xs.take i)) (xs.getD i 0)
      have hrl := rec_length (xs := xs) (cs := cs) (i := i) hi
      have hrr := fun r => rec_row (xs := xs) (cs := cs) (i := i) (r := r) hi
      have hsm := hok.small
      have htk := insW_take hit
      have hrq : recQ xs cs (i + 1) = qadd (recQ xs cs i) (irow (insW [] (xs.take i)) (xs.getD i 0)) (cs.getD i 0) := rfl
      obtain ⟨T, hT⟩ : ∃ T, T = insW [] (xs.take i) := ⟨_, rfl⟩
      obtain ⟨x, hxe⟩ : ∃ x, x = xs.getD i 0 := ⟨_, rfl⟩
      obtain ⟨c, hce⟩ : ∃ c, c = cs.getD i 0 := ⟨_, rfl⟩
      obtain ⟨Q, hQe⟩ : ∃ Q, Q = recQ xs cs i := ⟨_, rfl⟩
      rw [← hT] at hok hir hrl hrr hsm htk hrq HM
      rw [← hxe] at hxc hxl hir htk hrq
      rw [← hce] at hcc0 hrq
      rw [← hQe] at hrl hrr hrq HQ
      obtain ⟨r, hre⟩ : ∃ r, r = irow T x := ⟨_, rfl⟩
      rw [← hre] at hir hrq
      have HOK := Lib.hid hok
      have HTK := Lib.hid htk
      have HRQ := Lib.hid hrq
      have hrT := hir.1
      have hT40 := hsm.1
      have HR40 := Lib.hid hsm.2
      have HRR := Lib.hid hrr
      have HRE := Lib.hid hre
      have HCC : Hid (cs.getD i 0 = c) := hce.symm
      clear hok htk hrq hsm hrr hir hT hxe hce hQe hre
      go_wp2_with (first | (go_at_call 60; refine (put_fr _ hs T x _ hsz HM.out HOK.out.1 ⟨by omega, fun i => by have := HR40.out i; omega⟩ HOK.out.2.1 hxl).mono ?_) | fail)
      rintro e w4 ⟨⟨v4, hs4, rfl, hm4, hf4, hft4⟩, hb4⟩
      rw [← HRE.out, ← HTK.out] at *
      have hq4 := HQ.out.frame hf4 (fun k hk hk2 => HAP.out k hk2 hk)
      have hap4 : Apt v4 hs4 u5 us := fun k hk hk2 => by
        rcases hft4 k hk with e | e
        · exact HAP.out k e hk2
        · have := (HQ.out.foot_lt hk2).2; omega
      have hW4 := HW.out.trans hb4
      have hcc := (hW4.cell (p := ⟨b2, o2 + i, none⟩) hb2).trans hcc0
      have hsz4 := hW4.size
      obtain ⟨Aq, cq, hqe, -, -, -⟩ := hq4.sr
      have hrQ : r ≤ Q.length := by omega
      have hqa := qpad_add c hrQ
      have hql := Lib.hid (qpad_len (Q := Q) (r := r) (n := 40) (fun i => by rw [HRR.out]; exact HR40.out i))
      have HQA := Lib.hid hqa
      have HM4 := Lib.hid hm4
      have HQ4 := Lib.hid hq4
      have HAP4 := Lib.hid hap4
      have HW4 := Lib.hid hW4
      clear hqa hm4 hf4 hft4 hb4 hq4 hap4 hW4 HM HQ HAP HW HRE HTK hxl hxc hcc0 hrT hcc HOK
      have hQ40 : Q.length ≤ 40 := by omega
      clear hrl hT40
      subst hqe
      go_upto_if 25 with fail
      go_cut [5] (fun qv wz => ∃ (us5 : List Value) (A5 : Option Addr) (c5 : Nat), qv = .slice A5 (qpad Q r).length c5 ∧ OwnM wz w.heap.size qv us5 (qpad Q r) ∧ OwnM wz w.heap.size v4 hs4 (insW [] (xs.take (i + 1))) ∧ Apt v4 hs4 qv us5 ∧ Below w.heap.size w wz)
      case first =>
        by_cases hrq : r = Q.length
        · have dr : ((r : Int) == (Q.length : Int)) = true := by simp [hrq]
          have hqo := HQ4.out.out
          have HRQ2 := Lib.hid hrq
          clear hrq
          have HQO := Lib.hid hqo
          clear hqo
          go_wp2_with (first | (at_builtin; refine wpList_push (v := .slice Aq Q.length cq) rfl (.tmp 26) (.tmp 27) rfl rfl (.slice none 0 0) rfl HQO.out w4.heap.size rfl rfl (by omega) hsz4 (fun g2 c3 w5 hl5 hg5 hat5 => ?_)) | fail)
          have hpush := (HQ4.out.alloc (.cells #[.slice none 0 0] 22)).push (u := .slice none 0 0) (l := []) (World.ownsRow_nil _ _ _ _) (HQ4.out.far_new (u := .slice none 0 0) (fun k hk => by simp [Value.ownBlock] at hk)).1 (HQ4.out.far_new (u := .slice none 0 0) (fun k hk => by simp [Value.ownBlock] at hk)).2 rfl hl5 hg5 (by simpa using hat5)
          have hf5 : Fr w4 w5 (foot (.slice Aq Q.length cq) us) := ((Fr.refl _ _).alloc _).grown hg5 (fun k hk => .inl hk)
          have hm5 := HM4.out.frame hf5 (fun k hk hk2 => HAP4.out k hk hk2)
          have hap5 : Apt v4 hs4 (.slice (some ⟨g2, 0, none⟩) (Q.length + 1) c3) (us ++ [.slice none 0 0]) := fun k hk hk2 => by
            have hlt := (HM4.out.foot_lt hk).2
            rcases hk2 with hk2 | ⟨q, hq, hk2⟩
            · obtain rfl : g2 = k := by simpa [Value.ownBlock] using hk2
              rcases hat5 with e | e
              · exact HAP4.out _ hk (.inl e)
              · omega
            · rw [List.length_append] at hq
              by_cases c2 : q < us.length
              · rw [List.getD_eq_getElem?_getD, List.getElem?_append_left c2, ← List.getD_eq_getElem?_getD] at hk2
                exact HAP4.out k hk (.inr ⟨q, c2, hk2⟩)
              · obtain rfl : q = us.length := by simp at hq; omega
                rw [List.getD_eq_getElem?_getD, List.getElem?_append_right (Nat.le_refl _)] at hk2
                simp [Value.ownBlock] at hk2
          have hW5 := (HW4.out.alloc hsz4 _).grown hg5 (by simp; omega) (fun k hk => (HQO.out.lt k hk).1)
          have hqn : (qpad Q r).length = Q.length + 1 := by rw [qpad_new HRQ2.out]; simp
          rw [← qpad_new HRQ2.out] at hpush
          have HP := Lib.hid hpush
          have HM5 := Lib.hid hm5
          have HAP5 := Lib.hid hap5
          have HW5 := Lib.hid hW5
          have HQN := Lib.hid hqn
          clear hpush hm5 hap5 hW5 hl5 hg5 hat5 hf5 hqn
          go_wp2
          go_meet
          exact ⟨_, _, _, by rw [HQN.out], HP.out, HM5.out, HAP5.out, HW5.out⟩
        · have dr : decide ((r : Int) = (Q.length : Int)) = false := decide_eq_false (by omega)
          have hqn := Lib.hid (qpad_old hrq)
          go_wp2
          go_meet
          exact ⟨us, Aq, cq, by rw [hqn.out], by rw [hqn.out]; exact HQ4.out, HM4.out, HAP4.out, HW4.out⟩
      case rest =>
        obtain ⟨us5, A5, c5, rfl, hq5, hm5, hap5, hW5⟩ := hcut
        clear HQ4 HM4 HAP4 HW4 hsz4
        have hrp := HQA.out.1
        obtain ⟨Gq, c5', e5, hG5, hG6⟩ := hq5.out.form (by omega)
        obtain ⟨rfl, rfl⟩ : A5 = some ⟨Gq, 0, none⟩ ∧ c5 = c5' := by injection e5 with e2 _ e3; exact ⟨e2, e3⟩
        have hin := hq5.inn r hrp
        obtain ⟨Ar, cr, hrv, hnl, _, _, _⟩ := own_sliceA hin
        have hqc := hq5.out.cellAt r (by omega)
        rw [hq5.get hrp, hrv] at hqc
        have hqf := hq5.out.frozenAt r
        have hcc := (hW5.cell (p := ⟨b2, o2 + i, none⟩) hb2).trans (getD_cell h2 (k := i) (by rw [← HC.out]; exact hit))
        obtain ⟨c', hce⟩ : ∃ c', c' = cs.getD i 0 := ⟨_, rfl⟩
        rw [← hce] at hcc
        have hnr := hql.out
        obtain ⟨R, hR⟩ : ∃ R, R = (qpad Q r).getD r [] := ⟨_, rfl⟩
        rw [← hR] at hrv hin hqc hnr
        have hfar := (hq5.top r hrp).symm
        rw [hrv] at hin hfar
        have HIN := Lib.hid hin
        have HFAR := Lib.hid hfar
        have HR := Lib.hid hR
        have HRV := Lib.hid hrv
        have HQ5 := Lib.hid hq5
        have HM5 := Lib.hid hm5
        have HAP5 := Lib.hid hap5
        have HW5 := Lib.hid hW5
        have hsz5 := hW5.size
        have hwlt : b2 < wc.heap.size := by omega
        have hrl2 : r < (qpad Q r).length := hrp
        have hic : i < cs.length := by rw [← HC.out]; exact hit
        have hic2 : (i : Int) < (cs.length : Int) := by omega
        have hrl3 : (r : Int) < ((qpad Q r).length : Int) := by omega
        have HCE : Hid (c' = c) := by show _ = _; rw [hce, HCC.out]
        clear hin hfar hR hrv hq5 hm5 hap5 hW5 e5 hnl hce
        have hfb : some b2 ≠ (Value.slice Ar R.length cr).ownBlock := fun e => by have := (HIN.out.lt b2 e.symm).1; omega
        go_wp2
        go_region_law (first | (refine step_app1 (base := w.heap.size) (l := R) (v := .slice Ar R.length cr) ?_ (.tmp 34) (.tmp 39) ?_ ?_ c' R.length wc.heap.size ?_ ?_ ?_ ?_ ?_ ?_; (· rfl); (· rfl); (· rfl); (· rfl); (· exact own_drew (HIN.out.alloc _)); (· exact heap_alloc_new _ _); (· omega); (· (show _ ≤ (World.drew _).heap.size; simp; omega)); intro g2 c2 w6 hl6 hg6 hat6 hlt6; have ho6 := (own_drew (HQ5.out.out.alloc (.cells #[.int .i64 c'] 3))).kept hg6 HFAR.out.ne; have hq6 : w6.cell? ⟨Gq, r, none⟩ = some (.slice Ar R.length cr) := (ho6.cellAt r (by omega)).trans ((HQ5.out.get hrl2).trans (congrArg some HRV.out)); have hz6 := ho6.frozenAt r; have HL6 := Lib.hid hl6; have HG6 := Lib.hid hg6; have HAT6 := Lib.hid hat6; clear ho6 hl6 hat6 hg6) | fail)
        all_goals
          have hg : (wc.drew.alloc (.cells #[.int .i64 c'] 3)).grownBy w6 (us5.getD r undef).ownBlock := by rw [HRV.out]; exact HG6.out
          have hat : (us5.getD r undef).ownBlock = some g2 ∨ g2 = wc.drew.heap.size + 1 := by
            rw [HRV.out]
            rcases HAT6.out with e | e
            · exact .inl e
            · exact .inr (by simpa using e)
          have happ := (HQ5.out.drewN 1).app (i := r) hrl2 (l := R ++ [c']) (by simp) HL6.out hg hat
          have hfoot : ∀ k, (us5.getD r undef).ownBlock = some k → foot (.slice (some ⟨Gq, 0, none⟩) (qpad Q r).length c5) us5 k := fun k hk => foot_row (by rw [HQ5.out.len]; exact hrl2) hk
          have hfr : Fr wc (w6.setCell ⟨Gq, r, none⟩ (.slice (some ⟨g2, 0, none⟩) (R.length + 1) c2)) (foot (.slice (some ⟨Gq, 0, none⟩) (qpad Q r).length c5) us5) := ((((Fr.refl _ _).drewN 1).alloc _).grown hg hfoot).setCell (foot_top rfl)
          have hm6 := HM5.out.frame hfr (fun k hk hk2 => HAP5.out k hk hk2)
          have hap6 : Apt v4 hs4 (.slice (some ⟨Gq, 0, none⟩) (qpad Q r).length c5) (us5.set r (.slice (some ⟨g2, 0, none⟩) (R.length + 1) c2)) := fun k hk hk2 => by
            have hlt := (HM5.out.foot_lt hk).2
            rcases foot_set (N := wc.heap.size) (fun k hk => by
              obtain rfl : g2 = k := by simpa [Value.ownBlock] using hk
              rcases hat with e | e
              · exact .inl (hfoot _ e)
              · exact .inr (by have : wc.drew.heap.size = wc.heap.size := rfl; omega)) k hk2 with e | e
            · exact HAP5.out k hk e
            · omega
          have hW6 : Below w.heap.size w (w6.setCell ⟨Gq, r, none⟩ (.slice (some ⟨g2, 0, none⟩) (R.length + 1) c2)) := (((below_drewN HW5.out 1).alloc hsz5 _).grown hg (by show w.heap.size ≤ (World.alloc _ _).heap.size; simp; omega) (fun k hk => by
            rw [HRV.out] at hk
            exact (HIN.out.lt k hk).1)).setCell (p := ⟨Gq, r, none⟩) hG5 _
          have hcE : c' = c := HCE.out
          have hset : (qpad Q r).set r (R ++ [c']) = recQ xs cs (i + 1) := by rw [HR.out, hcE, HQA.out.2, HRQ.out]
          rw [hset] at happ
          have HP6 := Lib.hid happ
          have HM6 := Lib.hid hm6
          have HA6 := Lib.hid hap6
          have HW6 := Lib.hid hW6
          clear happ hm6 hap6 hW6 hfr hfoot hat hg hcE hset
          go_wp2
          go_roundw
          case rel => exact ⟨i + 1, hs4, _, by omega, rfl, HM6.out, HP6.out, HA6.out, HW6.out⟩
          case measure => simp [intOf]; omega
    · have di : decide (i < xs.length) = false := decide_eq_false hit
      have hie : i = xs.length := by omega
      have hm := HM.out
      rw [hie, List.take_length] at hm
      have hq := HQ.out
      rw [hie] at hq
      have HM' := Lib.hid hm
      have HQ' := Lib.hid hq
      clear hm hq hie HM HQ
      go_wp2
      go_ret2
      exact ⟨⟨_, _, _, _, rfl, HM'.out, HQ'.out, HAP.out⟩, HW.out⟩
end Go.Proofs.Ytmlmdklheiafpaa
