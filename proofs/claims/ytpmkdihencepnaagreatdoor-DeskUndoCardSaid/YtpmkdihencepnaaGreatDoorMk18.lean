/- Part of the proof. -/
import Derived.Deep.Onto
import Derived.Test.YtpmkdihencepnaaGreatDoorMk01
import Derived.Test.YtpmkdihencepnaaGreatDoorMk02
import Derived.Test.YtpmkdihencepnaaGreatDoorMk03
import Derived.Test.YtpmkdihencepnaaGreatDoorMk07
import Derived.Test.YtpmkdihencepnaaGreatDoorMk17
set_option maxHeartbeats 16000000
set_option maxRecDepth 100000
namespace Go.Proofs.YtpmkdihencepnaaGreatDoor
section
open Go.RowKit
def MadeOut (e : Ending) (w : World) (B : Nat) (P Q : List (List Int)) : Prop := ∃ v hs u us, e = .returned (.tuple #[v, u]) ∧ OwnM w B v hs P ∧ OwnM w B u us Q ∧ Apt v hs u us
theorem made_any (A A2 : Option Addr) (cap cap2 : Nat) (xs cs : List Int) (w : World) (hl : xs.length ≤ 40) (hc : xs.length = cs.length) (hx : ∀ x ∈ xs, Lt x) (h : Sl w w.heap.size A (ints xs)) (h2 : Sl w w.heap.size A2 (ints cs)) :
 Calls Tryz.prog 170 #[.slice A xs.length cap, .slice A2 cs.length cap2] w fun e w' => MadeOut e w' w.heap.size (insW [] xs) (recQ xs cs xs.length) ∧ Below w.heap.size w w' := by
 have HC := Lib.hid hc
 have HX := Lib.hid hx
 clear hx hc
 go_enter Tryz.func170, Tryz.ntmps170
 go_wp2
 go_loopw [4, 5, 11] (fun pv qv iv wr => ∃ (i : Nat) (hs us : List Value), i ≤ xs.length ∧ iv = .int .i64 i ∧ OwnM wr w.heap.size pv hs (insW [] (xs.take i)) ∧ OwnM wr w.heap.size qv us (recQ xs cs i) ∧ Apt pv hs qv us ∧ Below w.heap.size w wr) (fun _ _ iv _ => xs.length - (intOf iv).toNat)
 case atStart =>
  refine ⟨0, [], [], Nat.zero_le _, rfl, OwnM.nil _ _, OwnM.nil _ _, fun k hk => ?_, Below.refl _ _⟩
  rcases hk with hk | ⟨r, hr, _⟩
  · simp [Value.ownBlock] at hk
  · simp at hr
 case round =>
  obtain ⟨i, hs, us, hi, rfl, hm, hq, hap, hW⟩ := hrel
  have HM := Lib.hid hm
  have HQ := Lib.hid hq
  have HAP := Lib.hid hap
  have HW := Lib.hid hW
  have hsz := hW.size
  clear hm hq hap hW
  by_cases hit : i < xs.length
  · have di : decide (i < xs.length) = true := decide_eq_true hit
    obtain ⟨b, o, rfl, hb⟩ := h.addr (by omega)
    have hxc := (HW.out.cell (p := ⟨b, o + i, none⟩) hb).trans (getD_cell h hit)
    obtain ⟨b2, o2, rfl, hb2⟩ := h2.addr (by rw [← HC.out]; omega)
    have hcc0 := getD_cell h2 (k := i) (by rw [← HC.out]; exact hit)
    have hok := take_ok hl HX.out i
    have hxl : Lt (xs.getD i 0) := HX.out _ (by rw [getD_get hit]; exact List.getElem_mem hit)
    have hir := sh_ins1 (insW [] (xs.take i)) (xs.getD i 0)
    have hrl := rec_length (xs := xs) (cs := cs) (i := i) hi
    have hrr := fun r => rec_row (xs := xs) (cs := cs) (i := i) (r := r) hi
    have hsm := hok.small
    have htk := insW_take hit
    have hrq : recQ xs cs (i + 1) = qadd (recQ xs cs i) (irow (insW [] (xs.take i)) (xs.getD i 0)) (cs.getD i 0) := rfl
    obtain ⟨T, hT⟩ : ∃ T, T = insW [] (xs.take i) := ⟨_, rfl⟩
    obtain ⟨x, hxe⟩ : ∃ x, x = xs.getD i 0 := ⟨_, rfl⟩
    obtain ⟨c, hce⟩ : ∃ c, c = cs.getD i 0 := ⟨_, rfl⟩
    obtain ⟨Q, hQe⟩ : ∃ Q, Q = recQ xs cs i := ⟨_, rfl⟩
    rw [← hT] at hok hir hrl hrr hsm htk hrq HM
    rw [← hxe] at hxc hxl hir htk hrq
    rw [← hce] at hcc0 hrq
    rw [← hQe] at hrl hrr hrq HQ
    obtain ⟨r, hre⟩ : ∃ r, r = irow T x := ⟨_, rfl⟩
    rw [← hre] at hir hrq
    have HOK := Lib.hid hok
    have HTK := Lib.hid htk
    have HRQ := Lib.hid hrq
    have hrT := hir.1
    have hT40 := hsm.1
    have HR40 := Lib.hid hsm.2
    have HRR := Lib.hid hrr
    have HRE := Lib.hid hre
    have HCC : Hid (cs.getD i 0 = c) := hce.symm
    clear hok htk hrq hsm hrr hir hT hxe hce hQe hre
    go_wp2_with (first | (go_at_call 200; refine (put_fr _ hs T x _ hsz HM.out HOK.out.1 ⟨by omega, fun i => by have := HR40.out i; omega⟩ HOK.out.2.1 hxl).mono ?_) | fail)
    rintro e w4 ⟨⟨v4, hs4, rfl, hm4, hf4, hft4⟩, hb4⟩
    rw [← HRE.out, ← HTK.out] at *
    have hq4 := HQ.out.frame hf4 (fun k hk hk2 => HAP.out k hk2 hk)
    have hap4 : Apt v4 hs4 u5 us := fun k hk hk2 => by
     rcases hft4 k hk with e | e
     · exact HAP.out k e hk2
     · have := (HQ.out.foot_lt hk2).2; omega
    have hW4 := HW.out.trans hb4
    have hcc := (hW4.cell (p := ⟨b2, o2 + i, none⟩) hb2).trans hcc0
    have hsz4 := hW4.size
    obtain ⟨Aq, cq, hqe, -, -, -⟩ := hq4.sr
    have hrQ : r ≤ Q.length := by omega
    have hqa := qpad_add c hrQ
    have hql := Lib.hid (qpad_len (Q := Q) (r := r) (n := 40) (fun i => by rw [HRR.out]; exact HR40.out i))
    have HQA := Lib.hid hqa
    have HM4 := Lib.hid hm4
    have HQ4 := Lib.hid hq4
    have HAP4 := Lib.hid hap4
    have HW4 := Lib.hid hW4
    clear hqa hm4 hf4 hft4 hb4 hq4 hap4 hW4 HM HQ HAP HW HRE HTK hxl hxc hcc0 hrT hcc HOK
    have hQ40 : Q.length ≤ 40 := by omega
    clear hrl hT40
    subst hqe
    go_upto_if 25 with fail
    go_cut [5] (fun qv wz => ∃ (us5 : List Value) (A5 : Option Addr) (c5 : Nat), qv = .slice A5 (qpad Q r).length c5 ∧ OwnM wz w.heap.size qv us5 (qpad Q r) ∧ OwnM wz w.heap.size v4 hs4 (insW [] (xs.take (i + 1))) ∧ Apt v4 hs4 qv us5 ∧ Below w.heap.size w wz)
    case first =>
     by_cases hrq : r = Q.length
     · have dr : ((r : Int) == (Q.length : Int)) = true := by simp [hrq]
       have hqo := HQ4.out.out
       have HRQ2 := Lib.hid hrq
       clear hrq
       have HQO := Lib.hid hqo
       clear hqo
       go_wp2_with (first | (at_builtin; refine wpList_push (v := .slice Aq Q.length cq) rfl (.tmp 26) (.tmp 27) rfl rfl (.slice none 0 0) rfl HQO.out w4.heap.size rfl rfl (by omega) hsz4 (fun g2 c3 w5 hl5 hg5 hat5 => ?_)) | fail)
       have hpush := (HQ4.out.alloc (.cells #[.slice none 0 0] 65)).push (u := .slice none 0 0) (l := []) (World.ownsRow_nil _ _ _ _) (HQ4.out.far_new (u := .slice none 0 0) (fun k hk => by simp [Value.ownBlock] at hk)).1 (HQ4.out.far_new (u := .slice none 0 0) (fun k hk => by simp [Value.ownBlock] at hk)).2 rfl hl5 hg5 (by simpa using hat5)
       have hf5 : Fr w4 w5 (foot (.slice Aq Q.length cq) us) := ((Fr.refl _ _).alloc _).grown hg5 (fun k hk => .inl hk)
       have hm5 := HM4.out.frame hf5 (fun k hk hk2 => HAP4.out k hk hk2)
       have hap5 : Apt v4 hs4 (.slice (some ⟨g2, 0, none⟩) (Q.length + 1) c3) (us ++ [.slice none 0 0]) := fun k hk hk2 => by
        have hlt := (HM4.out.foot_lt hk).2
        rcases hk2 with hk2 | ⟨q, hq, hk2⟩
        · obtain rfl : g2 = k := by simpa [Value.ownBlock] using hk2
          rcases hat5 with e | e
          · exact HAP4.out _ hk (.inl e)
          · omega
        · rw [List.length_append] at hq
          by_cases c2 : q < us.length
          · rw [List.getD_eq_getElem?_getD, List.getElem?_append_left c2, ← List.getD_eq_getElem?_getD] at hk2
            exact HAP4.out k hk (.inr ⟨q, c2, hk2⟩)
          · obtain rfl : q = us.length := by simp at hq; omega
            rw [List.getD_eq_getElem?_getD, List.getElem?_append_right (Nat.le_refl _)] at hk2
            simp [Value.ownBlock] at hk2
       have hW5 := (HW4.out.alloc hsz4 _).grown hg5 (by simp; omega) (fun k hk => (HQO.out.lt k hk).1)
       have hqn : (qpad Q r).length = Q.length + 1 := by rw [qpad_new HRQ2.out]; simp
       rw [← qpad_new HRQ2.out] at hpush
       have HP := Lib.hid hpush
       have HM5 := Lib.hid hm5
       have HAP5 := Lib.hid hap5
       have HW5 := Lib.hid hW5
       have HQN := Lib.hid hqn
       clear hpush hm5 hap5 hW5 hl5 hg5 hat5 hf5 hqn
       go_wp2
       go_meet
       exact ⟨_, _, _, by rw [HQN.out], HP.out, HM5.out, HAP5.out, HW5.out⟩
     · have dr : decide ((r : Int) = (Q.length : Int)) = false := decide_eq_false (by omega)
       have hqn := Lib.hid (qpad_old hrq)
       go_wp2
       go_meet
       exact ⟨us, Aq, cq, by rw [hqn.out], by rw [hqn.out]; exact HQ4.out, HM4.out, HAP4.out, HW4.out⟩
    case rest =>
     obtain ⟨us5, A5, c5, rfl, hq5, hm5, hap5, hW5⟩ := hcut
     clear HQ4 HM4 HAP4 HW4 hsz4
     have hrp := HQA.out.1
     obtain ⟨Gq, c5', e5, hG5, hG6⟩ := hq5.out.form (by omega)
     obtain ⟨rfl, rfl⟩ : A5 = some ⟨Gq, 0, none⟩ ∧ c5 = c5' := by injection e5 with e2 _ e3; exact ⟨e2, e3⟩
     have hin := hq5.inn r hrp
     obtain ⟨Ar, cr, hrv, hnl, _, _, _⟩ := own_sliceA hin
     have hqc := hq5.out.cellAt r (by omega)
     rw [hq5.get hrp, hrv] at hqc
     have hqf := hq5.out.frozenAt r
     have hcc := (hW5.cell (p := ⟨b2, o2 + i, none⟩) hb2).trans (getD_cell h2 (k := i) (by rw [← HC.out]; exact hit))
     obtain ⟨c', hce⟩ : ∃ c', c' = cs.getD i 0 := ⟨_, rfl⟩
     rw [← hce] at hcc
     have hnr := hql.out
     obtain ⟨R, hR⟩ : ∃ R, R = (qpad Q r).getD r [] := ⟨_, rfl⟩
     rw [← hR] at hrv hin hqc hnr
     have hfar := (hq5.top r hrp).symm
     rw [hrv] at hin hfar
     have HIN := Lib.hid hin
     have HFAR := Lib.hid hfar
     have HR := Lib.hid hR
     have HRV := Lib.hid hrv
     have HQ5 := Lib.hid hq5
     have HM5 := Lib.hid hm5
     have HAP5 := Lib.hid hap5
     have HW5 := Lib.hid hW5
     have hsz5 := hW5.size
     have hwlt : b2 < wc.heap.size := by omega
     have hrl2 : r < (qpad Q r).length := hrp
     have hic : i < cs.length := by rw [← HC.out]; exact hit
     have hic2 : (i : Int) < (cs.length : Int) := by omega
     have hrl3 : (r : Int) < ((qpad Q r).length : Int) := by omega
     have HCE : Hid (c' = c) := by show _ = _; rw [hce, HCC.out]
     clear hin hfar hR hrv hq5 hm5 hap5 hW5 e5 hnl hce
     have hfb : some b2 ≠ (Value.slice Ar R.length cr).ownBlock := fun e => by have := (HIN.out.lt b2 e.symm).1; omega
     go_wp2
     go_region_law (first | (refine step_app1 (base := w.heap.size) (l := R) (v := .slice Ar R.length cr) ?_ (.tmp 34) (.tmp 39) ?_ ?_ c' R.length wc.heap.size ?_ ?_ ?_ ?_ ?_ ?_; (· rfl); (· rfl); (· rfl); (· rfl); (· exact own_drew (HIN.out.alloc _)); (· exact heap_alloc_new _ _); (· omega); (· (show _ ≤ (World.drew _).heap.size; simp; omega)); intro g2 c2 w6 hl6 hg6 hat6 hlt6; have ho6 := (own_drew (HQ5.out.out.alloc (.cells #[.int .i64 c'] 3))).kept hg6 HFAR.out.ne; have hq6 : w6.cell? ⟨Gq, r, none⟩ = some (.slice Ar R.length cr) := (ho6.cellAt r (by omega)).trans ((HQ5.out.get hrl2).trans (congrArg some HRV.out)); have hz6 := ho6.frozenAt r; have HL6 := Lib.hid hl6; have HG6 := Lib.hid hg6; have HAT6 := Lib.hid hat6; clear ho6 hl6 hat6 hg6) | fail)
     all_goals
      have hg : (wc.drew.alloc (.cells #[.int .i64 c'] 3)).grownBy w6 (us5.getD r undef).ownBlock := by rw [HRV.out]; exact HG6.out
      have hat : (us5.getD r undef).ownBlock = some g2 ∨ g2 = wc.drew.heap.size + 1 := by
       rw [HRV.out]
       rcases HAT6.out with e | e
       · exact .inl e
       · exact .inr (by simpa using e)
      have happ := (HQ5.out.drewN 1).app (i := r) hrl2 (l := R ++ [c']) (by simp) HL6.out hg hat
      have hfoot : ∀ k, (us5.getD r undef).ownBlock = some k → foot (.slice (some ⟨Gq, 0, none⟩) (qpad Q r).length c5) us5 k := fun k hk => foot_row (by rw [HQ5.out.len]; exact hrl2) hk
      have hfr : Fr wc (w6.setCell ⟨Gq, r, none⟩ (.slice (some ⟨g2, 0, none⟩) (R.length + 1) c2)) (foot (.slice (some ⟨Gq, 0, none⟩) (qpad Q r).length c5) us5) := ((((Fr.refl _ _).drewN 1).alloc _).grown hg hfoot).setCell (foot_top rfl)
      have hm6 := HM5.out.frame hfr (fun k hk hk2 => HAP5.out k hk hk2)
      have hap6 : Apt v4 hs4 (.slice (some ⟨Gq, 0, none⟩) (qpad Q r).length c5) (us5.set r (.slice (some ⟨g2, 0, none⟩) (R.length + 1) c2)) := fun k hk hk2 => by
       have hlt := (HM5.out.foot_lt hk).2
       rcases foot_set (N := wc.heap.size) (fun k hk => by
        obtain rfl : g2 = k := by simpa [Value.ownBlock] using hk
        rcases hat with e | e
        · exact .inl (hfoot _ e)
        · exact .inr (by have : wc.drew.heap.size = wc.heap.size := rfl; omega)) k hk2 with e | e
       · exact HAP5.out k hk e
       · omega
      have hW6 : Below w.heap.size w (w6.setCell ⟨Gq, r, none⟩ (.slice (some ⟨g2, 0, none⟩) (R.length + 1) c2)) := (((below_drewN HW5.out 1).alloc hsz5 _).grown hg (by show w.heap.size ≤ (World.alloc _ _).heap.size; simp; omega) (fun k hk => by
       rw [HRV.out] at hk
       exact (HIN.out.lt k hk).1)).setCell (p := ⟨Gq, r, none⟩) hG5 _
      have hcE : c' = c := HCE.out
      have hset : (qpad Q r).set r (R ++ [c']) = recQ xs cs (i + 1) := by rw [HR.out, hcE, HQA.out.2, HRQ.out]
      rw [hset] at happ
      have HP6 := Lib.hid happ
      have HM6 := Lib.hid hm6
      have HA6 := Lib.hid hap6
      have HW6 := Lib.hid hW6
      clear happ hm6 hap6 hW6 hfr hfoot hat hg hcE hset
      go_wp2
      go_roundw
      case rel => exact ⟨i + 1, hs4, _, by omega, rfl, HM6.out, HP6.out, HA6.out, HW6.out⟩
      case measure => simp [intOf]; omega
  · have di : decide (i < xs.length) = false := decide_eq_false hit
    have hie : i = xs.length := by omega
    have hm := HM.out
    rw [hie, List.take_length] at hm
    have hq := HQ.out
    rw [hie] at hq
    have HM' := Lib.hid hm
    have HQ' := Lib.hid hq
    clear hm hq hie HM HQ
    go_wp2
    go_ret2
    exact ⟨⟨_, _, _, _, rfl, HM'.out, HQ'.out, HAP.out⟩, HW.out⟩
def upTil (n i : Nat) : List Int := (List.range n).map (fun j => if j < i then (j : Int) + 1 else 0)
def upN (n : Nat) : List Int := upTil n n
theorem upTil_length (n i : Nat) : (upTil n i).length = n := by simp [upTil]
theorem upTil_zero (n : Nat) : upTil n 0 = List.replicate n 0 := by
 unfold upTil
 apply List.ext_getElem (by simp)
 intro j h1 h2
 rw [List.getElem_replicate, List.getElem_map, if_neg (by omega)]
theorem upTil_get {n i : Nat} (h : i < n) : (upTil n i)[i]? = some 0 := by simp [upTil, h]
theorem upTil_set {n i : Nat} : (upTil n i).set i ((i : Int) + 1) = upTil n (i + 1) := by
 unfold upTil
 apply List.ext_getElem (by simp)
 intro j h1 h2
 rw [List.getElem_set]
 by_cases e : i = j
 · subst e; simp
 · rw [if_neg e]
   have : (j < i) ↔ (j < i + 1) := by omega
   simp [this]
def MakeOut (e : Ending) (w : World) (B : Nat) (xs : List Int) : Prop :=
 ∃ (k : Int) (A1 A2 : Option Addr) (c1 c2 : Nat) (P Q : List (List Int)), e = .returned (.tuple #[.slice A1 P.length c1, .slice A2 Q.length c2, .int .i64 k]) ∧ OwnR w B A1 c1 P ∧ OwnR w B A2 c2 Q ∧ P.length ≤ 9223372036854775807 ∧ Q.length ≤ 9223372036854775807 ∧
  k = wordChk xs ∧ (k = 0 → P = insW [] xs ∧ Q = recQ xs (upN xs.length) xs.length) ∧ (k ≠ 0 → P = [] ∧ Q = [])
theorem make_any (A : Option Addr) (cap : Nat) (xs : List Int) (w : World) (hcl : xs.length ≤ 9223372036854775807) (h : Sl w w.heap.size A (ints xs)) :
 Calls Tryz.prog 132 #[.slice A xs.length cap] w fun e w' => MakeOut e w' w.heap.size xs ∧ Below w.heap.size w w' := by
 go_enter Tryz.func132, Tryz.ntmps132
 go_wp2_with (first | (go_at_call 130; refine (letters_any A cap xs _ hcl h).mono ?_) | fail)
 rintro e w1 ⟨rfl, rfl⟩
 obtain ⟨k, hk⟩ : ∃ k, k = wordChk xs := ⟨_, rfl⟩
 rw [← hk]
 have HK := Lib.hid hk
 by_cases hk0 : k = 0
 · have hw := wordChk_zero (xs := xs) (by rw [← hk]; exact hk0)
   have hl := hw.1
   have HX : Hid (∀ x ∈ xs, Lt x) := hw.2
   subst hk0
   clear hk hw
   go_wp2_with (first | (refine wpList_mk (base := w.heap.size) rfl (.tmp 14) (.tmp 14) rfl xs.length rfl rfl (by omega) (Nat.le_refl _) (fun w2 hown2 hb2 hz2 => ?_)) | fail)
   rw [← upTil_zero] at hown2
   have HO2 := Lib.hid hown2
   clear hown2
   go_wp2
   go_loopw [18] (fun iv wr => ∃ i : Nat, i ≤ xs.length ∧ iv = .int .i64 i ∧ wr.ownsRow w.heap.size 3 1 (.slice (some ⟨w.heap.size, 0, none⟩) xs.length xs.length) xs.length (ints (upTil xs.length i)) ∧ Below w.heap.size w wr) (fun iv _ => xs.length - (intOf iv).toNat)
   case atStart => exact ⟨0, Nat.zero_le _, rfl, HO2.out, hb2⟩
   case round =>
    clear HO2 hb2 hz2
    obtain ⟨i, hi, rfl, ho, hW⟩ := hrel
    have HO := Lib.hid ho
    by_cases hit : i < xs.length
    · have di : decide (i < xs.length) = true := decide_eq_true hit
      have hc := own_get ho (upTil_get hit)
      have hf := ho.frozenAt i
      have hst := own_set ho i ((i : Int) + 1)
      rw [upTil_set] at hst
      have HST := Lib.hid hst
      clear hst ho
      go_wp2
      go_roundw
      case rel => exact ⟨i + 1, by omega, rfl, HST.out, hW.setCell (p := ⟨w.heap.size, i, none⟩) (Nat.le_refl _) _⟩
      case measure => simp [intOf]; omega
    · have di : decide (i < xs.length) = false := decide_eq_false hit
      have hie : i = xs.length := by omega
      rw [hie] at ho
      have hsl := Sl.of_own ho
      have hmd := made_any A (some ⟨w.heap.size, 0, none⟩) cap xs.length xs (upN xs.length) wr hl (upTil_length _ _).symm HX.out (h.now hW (Nat.le_refl _)) hsl
      have hun : (upN xs.length).length = xs.length := upTil_length _ _
      rw [hun] at hmd
      have HMD := Lib.hid hmd
      clear hmd hsl ho HO hie hun
      go_wp2_with (first | (go_at_call 170; refine HMD.out.mono ?_) | fail)
      rintro e w3 ⟨⟨v, hs, u, us, rfl, hm, hq, _⟩, hb3⟩
      obtain ⟨A1, c1, rfl, hs1, hl1, hl1'⟩ := hm.ownR
      obtain ⟨A2, c2, rfl, hs2, hl2, hl2'⟩ := hq.ownR
      have hs1 := hs1.low hW.size
      have hs2 := hs2.low hW.size
      have HS1 := Lib.hid hs1
      have HS2 := Lib.hid hs2
      have hW3 := below_call hW (Nat.le_refl _) hb3
      clear hs1 hs2 hm hq hb3 HMD
      go_wp2
      go_ret3
      exact ⟨⟨0, A1, A2, c1, c2, _, _, rfl, HS1.out, HS2.out, by omega, by omega, HK.out, fun _ => ⟨rfl, rfl⟩, fun e => absurd rfl e⟩, hW3⟩
 · have dk : (k != 0) = true := by simpa using hk0
   have HK0 := Lib.hid hk0
   clear hk
   go_wp2
   go_ret3
   exact ⟨⟨k, none, none, 0, 0, [], [], rfl, OwnR.nil _ _, OwnR.nil _ _, by simp, by simp, HK.out, fun e => absurd e HK0.out, fun _ => ⟨rfl, rfl⟩⟩, Below.refl _ _⟩
end
section
def mx : Int → List Int → List Nat → Nat
 | a, b :: t, f :: fs => max (if a ≤ b then f else 0) (mx a t fs)
 | _, _, _ => 0
def frs : List Int → List Nat
 | [] => []
 | a :: t => (1 + mx a t (frs t)) :: frs t
theorem frs_length : ∀ xs : List Int, (frs xs).length = xs.length
 | [] => rfl
 | a :: t => by simp [frs, frs_length t]
theorem frs_drop : ∀ (xs : List Int) (i : Nat), (frs xs).drop i = frs (xs.drop i)
 | _, 0 => by simp
 | [], i + 1 => by simp [frs]
 | a :: t, i + 1 => by simp only [frs, List.drop_succ_cons]; exact frs_drop t i
def fr (xs : List Int) (i : Nat) : Nat := (frs xs).getD i 0
theorem mx_at {a : Int} : ∀ {t : List Int} {fs : List Nat}, 0 < mx a t fs → ∃ (k : Nat) (b : Int), t[k]? = some b ∧ fs[k]? = some (mx a t fs) ∧ a ≤ b
 | [], _, h => by simp [mx] at h
 | _ :: _, [], h => by simp [mx] at h
 | b :: t, f :: fs, h => by
  simp only [mx] at h ⊢
  by_cases c : mx a t fs ≤ (if a ≤ b then f else 0)
  · rw [Nat.max_eq_left c] at h ⊢
    by_cases d : a ≤ b
    · rw [if_pos d]; exact ⟨0, b, rfl, rfl, d⟩
    · rw [if_neg d] at h; omega
  · rw [Nat.max_eq_right (by omega)] at h ⊢
    obtain ⟨k, b', h1, h2, h3⟩ := mx_at h
    exact ⟨k + 1, b', by simpa using h1, by simpa using h2, h3⟩
theorem mx_snoc {a : Int} : ∀ {t : List Int} {fs : List Nat} {j : Nat} {b : Int} {f : Nat}, t[j]? = some b → fs[j]? = some f → mx a (t.take (j + 1)) (fs.take (j + 1)) = max (mx a (t.take j) (fs.take j)) (if a ≤ b then f else 0)
 | [], _, _, _, _, h, _ => by simp at h
 | _ :: _, [], _, _, _, _, h => by simp at h
 | b0 :: t, f0 :: fs, 0, b, f, h1, h2 => by
  have e1 : b0 = b := by simpa using h1
  have e2 : f0 = f := by simpa using h2
  subst e1 e2
  simp [mx]
 | b0 :: t, f0 :: fs, j + 1, b, f, h1, h2 => by
  have := mx_snoc (a := a) (t := t) (fs := fs) (j := j) (by simpa using h1) (by simpa using h2)
  simp only [List.take_succ_cons, mx]
  rw [this]; omega
def mo : List Nat → Nat
 | [] => 0
 | f :: fs => max f (mo fs)
theorem mo_at : ∀ {fs : List Nat}, 0 < mo fs → ∃ k : Nat, fs[k]? = some (mo fs)
 | [], h => by simp [mo] at h
 | g :: fs, h => by
  simp only [mo] at h ⊢
  by_cases c : mo fs ≤ g
  · rw [Nat.max_eq_left c]; exact ⟨0, rfl⟩
  · rw [Nat.max_eq_right (by omega)] at h ⊢
    obtain ⟨k, hk⟩ := mo_at h
    exact ⟨k + 1, by simpa using hk⟩
theorem mo_drop {fs : List Nat} {i : Nat} (h : i < fs.length) : mo (fs.drop i) = max (mo (fs.drop (i + 1))) (fs.getD i 0) := by
 rw [List.drop_eq_getElem_cons h]
 simp only [mo]
 rw [show fs.getD i 0 = fs[i] by simp [h]]
 omega
theorem fr_at {xs : List Int} {i : Nat} (h : i < xs.length) : (frs xs)[i]? = some (fr xs i) := by
 unfold fr
 rw [List.getElem?_eq_getElem (by rw [frs_length]; exact h)]
 simp [frs_length, h]
theorem fr_head {xs : List Int} {i : Nat} (h : i < xs.length) : fr xs i = 1 + mx (xs.getD i 0) (xs.drop (i + 1)) (frs (xs.drop (i + 1))) := by
 have h1 := frs_drop xs i
 rw [List.drop_eq_getElem_cons (show i < (frs xs).length by rw [frs_length]; exact h), List.drop_eq_getElem_cons h] at h1
 simp only [frs] at h1
 have h2 := (List.cons.inj h1).1
 unfold fr
 rw [show (frs xs).getD i 0 = (frs xs)[i]'(by rw [frs_length]; exact h) by simp [frs_length, h], h2, getD_get h]
theorem fr_pos {xs : List Int} {i : Nat} (h : i < xs.length) : 1 ≤ fr xs i := by rw [fr_head h]; omega
theorem mx_bound {a : Int} : ∀ (t : List Int) (fs : List Nat) {n : Nat}, (∀ f ∈ fs, f ≤ n) → mx a t fs ≤ n
 | [], _, _, _ => by simp [mx]
 | _ :: _, [], _, _ => by simp [mx]
 | b :: t, f :: fs, n, h => by
  have h1 := mx_bound (a := a) t fs (fun g hg => h g (List.mem_cons_of_mem _ hg))
  have h2 := h f (by simp)
  simp only [mx]
  split <;> omega
theorem frs_bound : ∀ (xs : List Int), ∀ f ∈ frs xs, f ≤ xs.length
 | [], f, h => by simp [frs] at h
 | a :: t, f, h => by
  have ih := frs_bound t
  simp only [frs] at h
  rcases List.mem_cons.1 h with e | e
  · have := mx_bound (a := a) t (frs t) ih
    rw [List.length_cons]; omega
  · have := ih f e; rw [List.length_cons]; omega
theorem fr_le {xs : List Int} {i : Nat} : fr xs i ≤ xs.length := by
 unfold fr
 rw [List.getD_eq_getElem?_getD]
 cases e : (frs xs)[i]? with
 | none => exact Nat.zero_le _
 | some f => exact frs_bound xs f (List.mem_of_getElem? e)
theorem mo_bound : ∀ (fs : List Nat) {n : Nat}, (∀ f ∈ fs, f ≤ n) → mo fs ≤ n
 | [], _, _ => Nat.zero_le _
 | f :: fs, n, h => by
  have h1 := mo_bound fs (fun g hg => h g (List.mem_cons_of_mem _ hg))
  have h2 := h f (by simp)
  simp only [mo]; omega
def most (xs : List Int) : Nat := mo (frs xs)
theorem most_le (xs : List Int) : most xs ≤ xs.length := mo_bound _ (frs_bound xs)
structure Grd (xs : List Int) (i : Nat) (l : List Int) (last : Int) : Prop where
 pos : ∀ q, q < l.length → 1 ≤ l.getD q 0 ∧ l.getD q 0 ≤ (i : Int)
 inc : ∀ q, q + 1 < l.length → l.getD q 0 < l.getD (q + 1) 0 ∧ xs.getD (l.getD q 0 - 1).toNat 0 ≤ xs.getD (l.getD (q + 1) 0 - 1).toNat 0
 top : ∀ q, q + 1 = l.length → last = xs.getD (l.getD q 0 - 1).toNat 0
 zero : l.length = 0 → last = 0
 le : l.length ≤ most xs
 need : l.length < most xs → ∃ j, i ≤ j ∧ j < xs.length ∧ fr xs j = most xs - l.length ∧ last ≤ xs.getD j 0
theorem Grd.start {xs : List Int} (h : ∀ x ∈ xs, Lt x) : Grd xs 0 [] 0 := by
 refine ⟨fun q hq => by simp at hq, fun q hq => by simp at hq, fun q hq => by simp at hq, fun _ => rfl, Nat.zero_le _, fun hm => ?_⟩
 have hm' : 0 < mo (frs xs) := by simpa [most] using hm
 obtain ⟨k, hk⟩ := mo_at hm'
 have hk1 := (List.getElem?_eq_some_iff.1 hk).1
 rw [frs_length] at hk1
 refine ⟨k, Nat.zero_le _, hk1, ?_, ?_⟩
 · unfold fr most; rw [List.getD_eq_getElem?_getD, hk]; simp
 · have := h _ (List.getElem_mem hk1)
   rw [getD_get hk1]; have := this.1; omega
theorem Grd.skip {xs l : List Int} {i : Nat} {last : Int} (h : Grd xs i l last) (hn : ¬ (fr xs i = most xs - l.length ∧ last ≤ xs.getD i 0)) : Grd xs (i + 1) l last := by
 refine ⟨fun q hq => by have := h.pos q hq; omega, h.inc, h.top, h.zero, h.le, fun hm => ?_⟩
 obtain ⟨j, h1, h2, h3, h4⟩ := h.need hm
 refine ⟨j, ?_, h2, h3, h4⟩
 by_cases e : j = i
 · subst e; exact absurd ⟨h3, h4⟩ hn
 · omega
theorem Grd.take {xs l : List Int} {i : Nat} {last : Int} (h : Grd xs i l last) (hi : i < xs.length) (h1 : fr xs i = most xs - l.length) (h2 : last ≤ xs.getD i 0) : Grd xs (i + 1) (l ++ [(i : Int) + 1]) (xs.getD i 0) := by
 have hp := fr_pos hi
 have low : ∀ q, q < l.length → (l ++ [(i : Int) + 1]).getD q 0 = l.getD q 0 := fun q hq => by
  rw [List.getD_eq_getElem?_getD, List.getD_eq_getElem?_getD, List.getElem?_append_left hq]
 have top : (l ++ [(i : Int) + 1]).getD l.length 0 = (i : Int) + 1 := by
  rw [List.getD_eq_getElem?_getD, List.getElem?_append_right (Nat.le_refl _)]; simp
 have hl : (l ++ [(i : Int) + 1]).length = l.length + 1 := by simp
 have hti : ((i : Int) + 1 - 1).toNat = i := by omega
 refine ⟨fun q hq => ?_, fun q hq => ?_, fun q hq => ?_, fun e => by rw [hl] at e; omega, by rw [hl]; omega, fun hm => ?_⟩
 · rw [hl] at hq
   by_cases c : q < l.length
   · rw [low q c]; have := h.pos q c; omega
   · obtain rfl : q = l.length := by omega
     rw [top]; omega
 · rw [hl] at hq
   by_cases c : q + 1 < l.length
   · rw [low q (by omega), low (q + 1) c]; exact h.inc q c
   · have e : q + 1 = l.length := by omega
     rw [low q (by omega), e, top, hti]
     have := h.pos q (by omega)
     have h3 := h.top q e
     exact ⟨by omega, by rw [← h3]; exact h2⟩
 · rw [hl] at hq
   obtain rfl : q = l.length := by omega
   rw [top, hti]
 · rw [hl] at hm ⊢
   have h4 := fr_head hi
   have h5 : 0 < mx (xs.getD i 0) (xs.drop (i + 1)) (frs (xs.drop (i + 1))) := by omega
   obtain ⟨k, b, h6, h7, h8⟩ := mx_at h5
   rw [← frs_drop, List.getElem?_drop] at h7
   rw [List.getElem?_drop] at h6
   obtain ⟨g1, g2⟩ := List.getElem?_eq_some_iff.1 h6
   refine ⟨i + 1 + k, by omega, g1, ?_, ?_⟩
   · unfold fr
     rw [List.getD_eq_getElem?_getD, h7]
     simp only [Option.getD_some]
     rw [frs_drop]; omega
   · rw [getD_get g1, g2]; exact h8
end
section
open Go.RowKit
theorem own_sliceT {w : World} {base n : Nat} {v : Value} {xs : List Int} (h : w.ownsRow base 3 1 v n (ints xs)) : ∃ A c, v = .slice A xs.length c ∧ n = xs.length ∧ w.ownsRow base 3 1 (.slice A xs.length c) xs.length (ints xs) := by
 have hl : xs.length = n := by have := h.1; rw [ints_length] at this; omega
 subst hl
 rcases h.2 with ⟨e1, e2⟩ | ⟨g, c, _, e1, _⟩
 · rw [e1] at h
   exact ⟨none, 0, by rw [e2]; exact e1, rfl, by rw [e2] at h ⊢; exact h⟩
 · rw [e1] at h
   exact ⟨_, c, e1, rfl, h⟩
def Tol0 (R : List Int → Prop) (B : Nat) (e : Ending) (w : World) : Prop :=
 ∃ (xs : List Int) (A : Option Addr) (c : Nat), e = .returned (.tuple #[.slice A xs.length c, .int .i64 0]) ∧ w.ownsRow B 3 1 (.slice A xs.length c) xs.length (ints xs) ∧ R xs
theorem tol0_own {R : List Int → Prop} {w : World} {B n : Nat} {v : Value} {xs : List Int} (h : w.ownsRow B 3 1 v n (ints xs)) (hR : R xs) : Tol0 R B (.returned (.tuple #[v, .int .i64 0])) w := by
 obtain ⟨A, c, rfl, _, h1⟩ := own_sliceT h
 exact ⟨xs, A, c, rfl, h1, hR⟩
end
end Go.Proofs.YtpmkdihencepnaaGreatDoor
