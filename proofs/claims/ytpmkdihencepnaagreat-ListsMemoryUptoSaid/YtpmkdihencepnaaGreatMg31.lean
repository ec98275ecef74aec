/-
  rule.strips: its closure, which calls itself.
-/
import Derived.Test.YtpmkdihencepnaaGreatMg14
import Derived.Test.YtpmkdihencepnaaGreatMg20
import Derived.Test.YtpmkdihencepnaaGreatMg30
namespace Go.Proofs.YtpmkdihencepnaaGreat
open Go.RowKit

def StcOut (e : Ending) (w w' : World) (B0 base bq bo bp bf gq cq : Nat) (Ap : Option Addr) (cp : Nat) (p q : List Int) (rows : List (List Int)) : Prop :=
  e = .returned (.tuple #[]) ∧ Sts w' B0 base bq bo bp bf gq cq Ap cp p q rows ∧ Below B0 w w'
theorem set_self {q : List Int} {i : Nat} (h : i < q.length) (y : Int) : (q.set i y).set i (q.getD i 0) = q := by
  rw [List.set_set]
  apply List.ext_getElem (by simp)
  intro k h1 h2
  rw [List.getElem_set]
  by_cases e : i = k
  · subst e; rw [if_pos rfl, getD_get h]
  · rw [if_neg e]
/-- The end: the shape is told. -/
def TailOut (e : Ending) (w w' : World) (B0 base bq bo bp bf gq cq : Nat) (Ap : Option Addr) (cp : Nat) (p q : List Int) (rows : List (List Int)) : Prop := StcOut e w w' B0 base bq bo bp bf gq cq Ap cp p q rows

set_option maxRecDepth 100000 in
set_option maxHeartbeats 4000000 in
theorem stc_zero {B0 base bq bo bp bf gq cq : Nat} {Ap : Option Addr} {cp : Nat} {p : List Int} (i left : Nat) (q : List Int) (rows : List (List Int)) (w : World) (hi : i = p.length + 1) (hq : q.length = p.length + 1) (hp40 : p.length ≤ 40) (hlf : left ≤ 100) (hr : rows.length ≤ 800000)
    (hst : Sts w B0 base bq bo bp bf gq cq Ap cp p q rows) :
    Calls Tryz.prog 71 #[.int .i64 i, .int .i64 left, .pointer (some ⟨bq, 0, none⟩), .pointer (some ⟨bo, 0, none⟩), .pointer (some ⟨bp, 0, none⟩), .pointer (some ⟨bf, 0, none⟩)] w fun e w' =>
      StcOut e w w' B0 base bq bo bp bf gq cq Ap cp p q (rows ++ stR p 0 i q left) := by
  have HST := Lib.hid hst
  have ceq := hst.eq
  obtain ⟨m, hm⟩ : ∃ m, m = q.length := ⟨_, rfl⟩
  rw [← hm] at ceq
  have hmi : i = m := by omega
  have HM := Lib.hid hm
  have hm41 : m ≤ 41 := by omega
  have hm1 : 1 ≤ m := by omega
  clear hm hq hi hst
  subst hmi
  by_cases hl0 : left = 0
  · have e0 : stR p 0 i q left = [trimS q] := by unfold stR; rw [if_pos hl0]
    have HE0 := Lib.hid e0
    subst hl0
    have hsl : Sl w w.heap.size (some ⟨gq, 0, none⟩) (ints q) := Sl.of_own HST.out.oq
    have hcl : Calls Tryz.prog 46 #[.slice (some ⟨gq, 0, none⟩) i cq] w fun e w' => ∃ v, e = .returned v ∧ w'.ownsRow w.heap.size 3 1 v q.length (ints q) ∧ Below w.heap.size w w' := by
      have := clone_any (some ⟨gq, 0, none⟩) cq q w (by have := HM.out; omega) hsl
      rwa [← HM.out] at this ⊢
    have HCL := Lib.hid hcl
    clear hsl hcl e0
    go_enter Tryz.func71, Tryz.ntmps71
    go_wp2_with (first | (go_at_call 46; refine (HCL.out).mono ?_) | fail)
    rintro e w2 ⟨v2, rfl, ho2, hb2⟩
    have ho2' := ho2
    rw [← HM.out] at ho2'
    obtain ⟨g, c2, rfl, hg1, hg2⟩ := ho2'.form (by omega)
    have hcap := own_cap ho2'
    have hlast := own_get ho2' (getD_some (l := q) (j := i - 1) (by have := HM.out; omega))
    have hwi : IntKind.i64.wrap ((i : Int) - 1) = ((i - 1 : Nat) : Int) := by rw [IntWalk.i64_in _ (by omega)]; omega
    have hwi2 : (i : Int) - 1 = ((i - 1 : Nat) : Int) := by omega
    obtain ⟨ov, us, p1, p2, p3, p4⟩ := HST.out.out
    obtain ⟨⟨l1, l2, l3, l4⟩, ⟨m1, m2, m3, m4⟩, hbase, -⟩ := HST.out.lo
    have hgq := (HST.out.oq.lt gq rfl).2
    have HFT : Hid (∀ k, foot ov us k → k < w.heap.size) := Lib.hid (fun k hk => (p3.foot_lt hk).2)
    have o1 := (hb2.cell (p := ⟨bo, 0, none⟩) (by show bo < w.heap.size; omega)).trans p1
    have o2 := (World.frozen?_of_block (a := ⟨bo, 0, none⟩) (hb2.block bo (by omega))).trans p2
    have HO3 := Lib.hid (p3.below hb2)
    have HMO := Lib.hid (p3.below hb2).out
    have HO4 := Lib.hid p4
    have HS2 := Lib.hid (HST.out.below hb2)
    have HO2 := Lib.hid ho2'
    have HB2 := Lib.hid hb2
    have hsz2 := hb2.size
    have hB2 : base ≤ w2.heap.size := by omega
    have hB0w : B0 ≤ w.heap.size := by omega
    have hB0w2 : B0 ≤ w2.heap.size := by omega
    have hB0o : B0 ≤ bo := l2
    obtain ⟨z, hz⟩ : ∃ z, z = q.getD (i - 1) 0 := ⟨_, rfl⟩
    rw [← hz] at hlast
    have htz : trimS q = if z = 0 then q.take (i - 1) else q := by unfold trimS; rw [← HM.out, hz]
    have hc1 := hcap.1
    have hc2 := hcap.2
    clear hz hcap ho2 ho2' hb2 p1 p2 p3 p4 ceq HST HCL l1 l2 l3 l4
    by_cases hz0 : z = 0
    · have dz : (z == 0) = true := by simpa using hz0
      rw [if_pos hz0] at htz
      have hTR : [trimS q] = [q.take (i - 1)] := by rw [htz]
      clear htz hz0
      have HU : Hid (w2.ownsRow w.heap.size 3 1 (.slice (some ⟨g, 0, none⟩) (i - 1) c2) (q.take (i - 1)).length (ints (q.take (i - 1)))) := Lib.hid (by
        have h9 := own_cutZ HO2.out (show i - 1 ≤ i by omega)
        rwa [show (q.take (i - 1)).length = i - 1 from by rw [List.length_take, ← HM.out]; omega])
      obtain ⟨L, hL⟩ : ∃ L, L = q.take (i - 1) := ⟨_, rfl⟩
      rw [← hL] at HU
      have HL := Lib.hid (hTR.trans (congrArg (fun x => [x]) hL.symm))
      clear hL hTR
      go_wp2_with (first | (at_builtin; refine wpList_push (v := ov) rfl (.tmp 32) (.tmp 34) rfl rfl (.slice (some ⟨g, 0, none⟩) (i - 1) c2) rfl HMO.out w2.heap.size rfl rfl (by omega) hB2 (fun g2 c5 w5 hl5 hg5 hat5 => ?_); have HPU := Lib.hid (HS2.out.push o1 o2 HO3.out HO4.out HU.out hbase hgq HFT.out rfl hl5 hg5 hat5); have hlow : some bo ≠ ov.ownBlock := (fun e => by have := (HMO.out.lt bo e.symm).1; omega); have hc5 := (hg5.cell_far ⟨bo, 0, none⟩ (by simp; omega) hlow).trans ((World.cell?_of_block (a := ⟨bo, 0, none⟩) (Below.heap_alloc w2 _ bo (by omega))).trans o1); have hf5 := (hg5.frozen_far ⟨bo, 0, none⟩ (by simp; omega) hlow).trans ((World.frozen?_of_block (a := ⟨bo, 0, none⟩) (Below.heap_alloc w2 _ bo (by omega))).trans o2); have HWB := Lib.hid ((((HB2.out.mono hB0w).alloc hB0w2 (.cells #[.slice (some ⟨g, 0, none⟩) (i - 1) c2] 22)).grown hg5 (by simp; omega) (fun k hk => by have := (HMO.out.lt k hk).1; omega)).setCell (p := ⟨bo, 0, none⟩) hB0o (.slice (some ⟨g2, 0, none⟩) (rows.length + 1) c5)); clear hlow hl5 hg5 hat5) | fail)
      refine bodyPost_ret (results_none rfl _ _ _) rfl ?_
      refine ⟨rfl, ?_, HWB.out⟩
      rw [HE0.out, HL.out]
      exact HPU.out
    · have dz : (z == 0) = false := by simpa using hz0
      rw [if_neg hz0] at htz
      have hTR : [trimS q] = [q] := by rw [htz]
      clear htz hz0
      have HU : Hid (w2.ownsRow w.heap.size 3 1 (.slice (some ⟨g, 0, none⟩) (i) c2) (q).length (ints (q))) := Lib.hid (by
        have h9 := HO2.out
        rwa [show (q).length = i from by rw [← HM.out]])
      obtain ⟨L, hL⟩ : ∃ L, L = q := ⟨_, rfl⟩
      rw [← hL] at HU
      have HL := Lib.hid (hTR.trans (congrArg (fun x => [x]) hL.symm))
      clear hL hTR
      go_wp2_with (first | (at_builtin; refine wpList_push (v := ov) rfl (.tmp 32) (.tmp 34) rfl rfl (.slice (some ⟨g, 0, none⟩) (i) c2) rfl HMO.out w2.heap.size rfl rfl (by omega) hB2 (fun g2 c5 w5 hl5 hg5 hat5 => ?_); have HPU := Lib.hid (HS2.out.push o1 o2 HO3.out HO4.out HU.out hbase hgq HFT.out rfl hl5 hg5 hat5); have hlow : some bo ≠ ov.ownBlock := (fun e => by have := (HMO.out.lt bo e.symm).1; omega); have hc5 := (hg5.cell_far ⟨bo, 0, none⟩ (by simp; omega) hlow).trans ((World.cell?_of_block (a := ⟨bo, 0, none⟩) (Below.heap_alloc w2 _ bo (by omega))).trans o1); have hf5 := (hg5.frozen_far ⟨bo, 0, none⟩ (by simp; omega) hlow).trans ((World.frozen?_of_block (a := ⟨bo, 0, none⟩) (Below.heap_alloc w2 _ bo (by omega))).trans o2); have HWB := Lib.hid ((((HB2.out.mono hB0w).alloc hB0w2 (.cells #[.slice (some ⟨g, 0, none⟩) (i) c2] 22)).grown hg5 (by simp; omega) (fun k hk => by have := (HMO.out.lt k hk).1; omega)).setCell (p := ⟨bo, 0, none⟩) hB0o (.slice (some ⟨g2, 0, none⟩) (rows.length + 1) c5)); clear hlow hl5 hg5 hat5) | fail)
      refine bodyPost_ret (results_none rfl _ _ _) rfl ?_
      refine ⟨rfl, ?_, HWB.out⟩
      rw [HE0.out, HL.out]
      exact HPU.out
  · have e0 : stR p 0 i q left = [] := by unfold stR; rw [if_neg hl0]
    rw [e0, List.append_nil]
    have dl : (left == 0) = false := by simpa using hl0
    have dl2 : ((left : Int) == 0) = false := by simp; exact hl0
    clear e0
    go_enter Tryz.func71, Tryz.ntmps71
    go_wp2
    refine bodyPost_ret (results_none rfl _ _ _) rfl ?_
    exact ⟨rfl, HST.out, Below.refl _ _⟩

set_option maxRecDepth 100000 in
set_option maxHeartbeats 4000000 in
theorem stc_any {B0 base bq bo bp bf gq cq : Nat} {Ap : Option Addr} {cp : Nat} {p : List Int} (hp : IsPart p) (hs : p.sum ≤ 40) : ∀ (f i left : Nat) (q : List Int) (rows : List (List Int)) (w : World), i + f = p.length + 1 → q.length = p.length + 1 →
    (∀ j, i ≤ j → j < q.length → q.getD j 0 = wasS p j) → left ≤ 100 → rows.length + (stR p f i q left).length ≤ 800000 → Sts w B0 base bq bo bp bf gq cq Ap cp p q rows →
    Calls Tryz.prog 71 #[.int .i64 i, .int .i64 left, .pointer (some ⟨bq, 0, none⟩), .pointer (some ⟨bo, 0, none⟩), .pointer (some ⟨bp, 0, none⟩), .pointer (some ⟨bf, 0, none⟩)] w fun e w' =>
      StcOut e w w' B0 base bq bo bp bf gq cq Ap cp p q (rows ++ stR p f i q left) := by
  have hl40 := hp.len hs
  intro f
  induction f with
  | zero =>
    intro i left q rows w hif hq _ hlf hr hst
    exact stc_zero i left q rows w (by omega) hq hl40 hlf (by omega) hst
  | succ f IH =>
    intro i left q rows w hif hq hwas hlf hr hst
    have hil : i ≤ p.length := by omega
    have HIH := Lib.hid IH
    have HP := Lib.hid hp
    have HSM := Lib.hid hs
    have HST := Lib.hid hst
    have HWAS := Lib.hid hwas
    have HQ := Lib.hid hq
    have HR := Lib.hid hr
    have HIF := Lib.hid hif
    have ceq := hst.eq
    obtain ⟨⟨l1, l2, l3, l4⟩, ⟨m1, m2, m3, m4⟩, hbase, -⟩ := hst.lo
    obtain ⟨m, hm⟩ : ∃ m, m = q.length := ⟨_, rfl⟩
    rw [← hm] at ceq
    have HM := Lib.hid hm
    have hmp : m = p.length + 1 := by omega
    have HMP := Lib.hid hmp
    have him : i < m := by omega
    have hm41 : m ≤ 41 := by omega
    have hcq := own_get hst.oq (getD_some (l := q) (j := i) (by omega))
    rw [hwas i (Nat.le_refl _) (by omega)] at hcq
    have hwb : 0 ≤ wasS p i ∧ wasS p i ≤ 40 := by
      unfold wasS
      by_cases e : i < p.length
      · rw [List.getD_eq_getElem?_getD, List.getElem?_append_left e, ← List.getD_eq_getElem?_getD]
        have := hp.el hs e; omega
      · rw [List.getD_eq_getElem?_getD, List.getElem?_append_right (by omega), show i - p.length = 0 by omega]; simp
    obtain ⟨was, hw⟩ : ∃ x, x = wasS p i := ⟨_, rfl⟩
    rw [← hw] at hcq hwb
    have HW := Lib.hid hw
    obtain ⟨mn, hmn⟩ : ∃ x, x = mostS p i left := ⟨_, rfl⟩
    have HMN := Lib.hid hmn
    have hmle : mn ≤ left := by rw [hmn]; exact mostS_le p i left
    have dim : ((i : Int) == (m : Int)) = false := by simp; omega
    clear hif hq hwas hr hst hm hmp IH hp hs hw hmn
    go_enter Tryz.func71, Tryz.ntmps71
    go_upto_if 42 with fail
    go_cut [10] (fun mv wz => mv = .int .i64 mn ∧ w = wz)
    case first =>
      by_cases hi0 : i = 0
      · have d0 : decide (0 < i) = false := decide_eq_false (by omega)
        have hmn1 : Hid (mn = left) := Lib.hid (by rw [HMN.out]; unfold mostS; rw [if_pos hi0])
        go_wp2
        go_meet
        exact ⟨by rw [hmn1.out], rfl⟩
      · have d0 : decide (0 < i) = true := decide_eq_true (by omega)
        have hcp := HST.out.ep
        have hsp := HST.out.sp
        obtain ⟨b, o, rfl, hb⟩ := hsp.addr (by omega)
        have hcx := getD_cell hsp (k := i - 1) (by omega)
        have hpe := HP.out.el HSM.out (i := i - 1) (by omega)
        have hpw : was ≤ p.getD (i - 1) 0 := by
          rw [HW.out]
          unfold wasS
          by_cases e : i < p.length
          · rw [List.getD_eq_getElem?_getD, List.getElem?_append_left e, ← List.getD_eq_getElem?_getD]
            exact HP.out.2 i e (by omega)
          · rw [List.getD_eq_getElem?_getD, List.getElem?_append_right (by omega), show i - p.length = 0 by omega]
            show (0 : Int) ≤ p.getD (i - 1) 0
            omega
        have hmn1 : Hid ((mn : Int) = min (left : Int) (p.getD (i - 1) 0 - was)) := Lib.hid (by
          rw [HMN.out]; unfold mostS; rw [if_neg hi0, ← HW.out]; omega)
        obtain ⟨x, hx⟩ : ∃ x, x = p.getD (i - 1) 0 := ⟨_, rfl⟩
        rw [← hx] at hcx hpe hpw hmn1
        have hwi : IntKind.i64.wrap ((i : Int) - 1) = ((i - 1 : Nat) : Int) := by rw [IntWalk.i64_in _ (by omega)]; omega
        have hwi2 : (i : Int) - 1 = ((i - 1 : Nat) : Int) := by omega
        have hwx : IntKind.i64.wrap (x - was) = x - was := IntWalk.i64_in _ (by omega)
        clear hx hsp
        go_wp2
        all_goals
          go_meet
          exact ⟨by rw [hmn1.out], rfl⟩
    case rest =>
      obtain ⟨rfl, rfl⟩ := hcut
      clear hcq
      go_wp2
      go_loopw [11] (fun nv wr => ∃ (m' : Nat) (z y : Int), m' ≤ mn + 1 ∧ nv = .int .i64 z ∧ z + 1 = (m' : Int) ∧ Sts wr B0 base bq bo bp bf gq cq Ap cp p (q.set i y) (rows ++ accR p f i q left m') ∧ Below B0 w wr) (fun nv _ => (intOf nv + 1).toNat)
      case atStart =>
        refine ⟨mn + 1, mn, was, Nat.le_refl _, rfl, by omega, ?_, Below.refl _ _⟩
        have e1 : q.set i was = q := by
          have := set_self (q := q) (i := i) (by have := HM.out; omega) 0
          rw [List.set_set, HWAS.out i (Nat.le_refl _) (by have := HM.out; omega), ← HW.out] at this
          exact this
        rw [e1, HMN.out, accR_top, List.append_nil]
        exact HST.out
      case round =>
        obtain ⟨m', z, y, hm', rfl, hz, hst, hW⟩ := hrel
        have HS := Lib.hid hst
        have HWW := Lib.hid hW
        have hql : (q.set i y).length = m := by rw [List.length_set]; exact HM.out.symm
        have ceq2 := hst.eq
        rw [hql] at ceq2
        have hoq := hst.oq
        have hgb := (hoq.lt gq rfl).1
        have hcq := own_get hoq (getD_some (l := q.set i y) (j := i) (by omega))
        have hfz := hoq.frozenAt i
        obtain ⟨yy, hyy⟩ : ∃ x, x = (q.set i y).getD i 0 := ⟨_, rfl⟩
        rw [← hyy] at hcq
        clear hyy hoq hst hW
        by_cases hz0 : 0 ≤ z
        · obtain ⟨n, rfl⟩ : ∃ n : Nat, z = n := ⟨z.toNat, by omega⟩
          have hmn' : m' = n + 1 := by omega
          subst hmn'
          have dz : decide ((0 : Int) ≤ (n : Int)) = true := decide_eq_true hz0
          have hst2 := HS.out.setq i (was + (n : Int))
          rw [List.set_set] at hst2
          have hbw : Below B0 w (wr.setCell ⟨gq, i, none⟩ (.int .i64 (was + (n : Int)))) := HWW.out.setCell (p := ⟨gq, i, none⟩) (by show B0 ≤ gq; omega) _
          have HS2 := Lib.hid hst2
          have HB2 := Lib.hid hbw
          have hws : IntKind.i64.wrap (was + (n : Int)) = was + (n : Int) := IntWalk.i64_in _ (by omega)
          clear hst2 hbw hql
          go_upto_region 14 with fail
          obtain ⟨w5, hw5⟩ : ∃ w5, w5 = wr.setCell ⟨gq, i, none⟩ (.int .i64 (was + (n : Int))) := ⟨_, rfl⟩
          rw [← hw5] at HS2 HB2 ⊢
          clear hw5 hcq hfz ceq2
          have hef : w5.cell? ⟨bf, 0, none⟩ = some (.func (.func 71) #[] #[.pointer (some ⟨bq, 0, none⟩), .pointer (some ⟨bo, 0, none⟩), .pointer (some ⟨bp, 0, none⟩), .pointer (some ⟨bf, 0, none⟩)]) := HS2.out.ef
          have hwl : IntKind.i64.wrap ((left : Int) - (n : Int)) = (left : Int) - (n : Int) := IntWalk.i64_in _ (by omega)
          have hwi1 : IntKind.i64.wrap ((i : Int) + 1) = (i : Int) + 1 := IntWalk.i64_in _ (by omega)
          have hacc := accR_step (p := p) (f := f) (i := i) (left := left) (n := n) (q := q) (by have := HMN.out; omega)
          have hle := accR_le p f i q left n
          rw [hacc, List.length_append] at hle
          have hcall := HIH.out (i + 1) (left - n) (q.set i (was + (n : Int))) (rows ++ accR p f i q left (n + 1)) w5 (by have := HIF.out; omega) (by rw [List.length_set]; exact HQ.out) (fun j h1 h2 => by
            rw [List.length_set] at h2
            rw [List.getD_eq_getElem?_getD, List.getElem?_set_ne (by omega), ← List.getD_eq_getElem?_getD]
            exact HWAS.out j (by omega) h2) (by omega) (by rw [List.length_append, HW.out]; have := HR.out; omega) HS2.out
          rw [HW.out, List.append_assoc, ← hacc] at hcall
          rw [← HW.out] at hcall
          have e1 : ((i + 1 : Nat) : Int) = (i : Int) + 1 := rfl
          have e2 : ((left - n : Nat) : Int) = (left : Int) - (n : Int) := by omega
          rw [e1, e2] at hcall
          have HCALL := Lib.hid hcall
          clear hcall hacc hle e1 e2
          go_wp2_with (first | (go_at_call 71; refine (HCALL.out).mono ?_) | fail)
          rintro e w6 ⟨rfl, hs6, hb6⟩
          have HS6 := Lib.hid hs6
          have HB6 := Lib.hid (HB2.out.trans hb6)
          clear hs6 hb6 HCALL hef
          go_wp2
          go_roundw
          case rel => exact ⟨n, (n : Int) - 1, was + (n : Int), by omega, by go_num, by omega, HS6.out, HB6.out⟩
          case measure => simp [intOf]
        · have dz : decide ((0 : Int) ≤ z) = false := decide_eq_false hz0
          have hm0 : m' = 0 := by omega
          subst hm0
          have hs9 := HS.out.setq i was
          have e1 : (q.set i y).set i was = q := by
            have := set_self (q := q) (i := i) (by have := HM.out; omega) y
            rw [HWAS.out i (Nat.le_refl _) (by have := HM.out; omega), ← HW.out] at this
            exact this
          rw [e1, accR_all] at hs9
          have HS9 := Lib.hid hs9
          have HB9 := Lib.hid (HWW.out.setCell (p := ⟨gq, i, none⟩) (by show B0 ≤ gq; omega) (.int .i64 was))
          clear hs9 e1 hql
          go_wp2
          first | (refine bodyPost_ret (results_none rfl _ _ _) rfl ?_) | go_end0
          exact ⟨rfl, HS9.out, HB9.out⟩
end Go.Proofs.YtpmkdihencepnaaGreat

/-
  rule.strips.
-/
namespace Go.Proofs.YtpmkdihencepnaaGreat
open Go.RowKit

theorem sts_start {w5 : World} {s g2 c2 : Nat} {Ap : Option Addr} {cp : Nat} {p q : List Int} (hp : w5.cell? ⟨s, 0, none⟩ = some (.slice Ap p.length cp)) (ho : w5.cell? ⟨s + 1, 0, none⟩ = some (.slice none 0 0)) (hof : w5.frozen? ⟨s + 1, 0, none⟩ = false)
    (hs : Sl w5 s Ap (ints p)) (hq : w5.ownsRow (s + 2) 3 1 (.slice (some ⟨g2, 0, none⟩) q.length c2) q.length (ints q)) :
    Sts ((w5.alloc (.cells #[.slice (some ⟨g2, 0, none⟩) q.length c2] 22)).alloc (.cells #[fnStr w5.heap.size (s + 1) s (w5.heap.size + 1)] 68))
      s (w5.heap.size + 2) w5.heap.size (s + 1) s (w5.heap.size + 1) g2 c2 Ap cp p q [] := by
  have hg := hq.lt g2 rfl
  obtain ⟨w6, hw6⟩ : ∃ w6, w6 = (w5.alloc (.cells #[.slice (some ⟨g2, 0, none⟩) q.length c2] 22)).alloc (.cells #[fnStr w5.heap.size (s + 1) s (w5.heap.size + 1)] 68) := ⟨_, rfl⟩
  have hsz : w6.heap.size = w5.heap.size + 2 := by rw [hw6]; simp
  have hb : Below w5.heap.size w5 w6 := by
    rw [hw6]
    exact ((Below.refl _ _).alloc (Nat.le_refl _) _).alloc (by simp) _
  have c1 : w6.cell? ⟨w5.heap.size, 0, none⟩ = some (.slice (some ⟨g2, 0, none⟩) q.length c2) := by
    rw [hw6, World.cell?_of_block (heap_alloc_old _ _ (by simp)), World.cell?_alloc_at _ _ _ _ rfl]; rfl
  have c2' : w6.cell? ⟨w5.heap.size + 1, 0, none⟩ = some (fnStr w5.heap.size (s + 1) s (w5.heap.size + 1)) := by
    rw [hw6, World.cell?_alloc_at _ _ _ _ (by simp)]; rfl
  rw [← hw6]
  clear hw6
  refine ⟨⟨⟨by omega, by omega, by omega, by omega⟩, ⟨by omega, by omega, by omega, by omega⟩, by omega, ⟨by omega, by omega, by omega⟩, ⟨by omega, by omega, by omega, by omega⟩⟩, c1, (hb.cell (p := ⟨s, 0, none⟩) (by show s < _; omega)).trans hp, c2', hs.below (hb.mono (by omega)), own_below (hq.mono (by omega)) hb, .slice none 0 0, [], (hb.cell (p := ⟨s + 1, 0, none⟩) (by show s + 1 < _; omega)).trans ho, (World.frozen?_of_block (a := ⟨s + 1, 0, none⟩) (hb.block (s + 1) (by omega))).trans hof, OwnM.nil _ _, ?_⟩
  rintro (h | ⟨r, hr, _⟩)
  · simp [Value.ownBlock] at h
  · simp at hr
set_option maxRecDepth 100000 in
set_option maxHeartbeats 4000000 in
theorem strips_any (A : Option Addr) (cap : Nat) (p : List Int) (k : Nat) (w : World) (hp : IsPart p) (hk : p.sum + (k : Int) ≤ 16) (h : Sl w w.heap.size A (ints p)) :
    Calls Tryz.prog 60 #[.slice A p.length cap, .int .i64 k] w fun e w' => ∃ v hs, e = .returned v ∧ OwnM w' w.heap.size v hs (stR p (p.length + 1) 0 (p ++ [0]) k) ∧ Below w.heap.size w w' := by
  have hpl : (p.length : Int) ≤ p.sum := len_le_sum p hp.mem
  have hlen := stR_len p (p.length + 1) 0 (p ++ [0]) k
  have hpow : 2 ^ (k + (p.length + 1)) ≤ 2 ^ 17 := Nat.pow_le_pow_right (by omega) (by omega)
  have hlen2 : (stR p (p.length + 1) 0 (p ++ [0]) k).length ≤ 800000 := Nat.le_trans hlen (Nat.le_trans hpow (by decide))
  have HL := Lib.hid hlen2
  have HP := Lib.hid hp
  have HS40 : Hid (p.sum ≤ 40) := Lib.hid (by omega)
  have hpl2 : p.length ≤ 16 := by omega
  have hk16 : k ≤ 16 := by omega
  obtain ⟨n, hn⟩ : ∃ n, n = p.length := ⟨_, rfl⟩
  have HN := Lib.hid hn
  have hn16 : n ≤ 16 := by omega
  obtain ⟨w0, hw0⟩ : ∃ w0, w0 = (w.alloc (.cells #[.slice A n cap] 22)).alloc (.cells #[.slice none 0 0] 28) := ⟨_, rfl⟩
  have z0 : w0.heap.size = w.heap.size + 2 := by rw [hw0]; simp
  have hb0 : Below w.heap.size w w0 := by rw [hw0]; exact ((Below.refl _ _).alloc (Nat.le_refl _) _).alloc (by simp) _
  have c0 : w0.cell? ⟨w.heap.size, 0, none⟩ = some (.slice A n cap) := by
    rw [hw0, World.cell?_of_block (heap_alloc_old _ _ (by simp)), World.cell?_alloc_at _ _ _ _ rfl]; rfl
  have c1 : w0.cell? ⟨w.heap.size + 1, 0, none⟩ = some (.slice none 0 0) := by
    rw [hw0, World.cell?_alloc_at _ _ _ _ (by simp)]; rfl
  have f1 : w0.frozen? ⟨w.heap.size + 1, 0, none⟩ = false := by
    have e : w0.heap[w.heap.size + 1]? = some (.cells #[.slice none 0 0] 28) := by
      rw [hw0]
      have := heap_alloc_new (w.alloc (.cells #[.slice A n cap] 22)) (.cells #[.slice none 0 0] 28)
      simpa using this
    simp [World.frozen?, e]
  have HCL := Lib.hid (clone_any A cap p w0 (by omega) (h.now hb0 (Nat.le_refl _)))
  rw [← hn] at HCL ⊢
  have HSL := Lib.hid (h.below hb0)
  have HB0 := Lib.hid hb0
  clear hpl hlen hpow hlen2 hp hn hb0 h hk
  go_enter Tryz.func60, Tryz.ntmps60
  go_upto_region 2 with fail
  rw [← hw0]
  clear hw0
  go_upto_region 3 with (first | (go_at_call 46; refine (HCL.out).mono ?_; rintro e w3 ⟨v3, rfl, ho3, hb3⟩; have hz3 : w.heap.size + 2 ≤ w3.heap.size := (by have := hb3.size; omega); have HO3 := Lib.hid ho3; have HB3 := Lib.hid hb3; clear ho3 hb3) | (at_builtin; refine wpList_app1h rfl (.tmp 9) (.tmp 10) rfl rfl (0 : Int) HO3.out w3.heap.size rfl rfl (by omega) (by omega) (fun g2 c2 w5 hl5 hb5 => ?_)) | fail)
  have hq5 : w5.ownsRow (w.heap.size + 2) 3 1 (.slice (some ⟨g2, 0, none⟩) (p ++ [0]).length c2) (p ++ [0]).length (ints (p ++ [0])) := by
    rw [List.length_append, ← HN.out]
    rw [z0] at hl5
    exact hl5
  rw [z0] at hb5 HB3
  have hb35 : Below (w.heap.size + 2) w0 w5 := (HB3.out).trans hb5
  have hst := sts_start (q := p ++ [0]) (p := p) (Ap := A) (cp := cap) (g2 := g2) (c2 := c2) (by rw [← HN.out]; exact (hb35.cell (p := ⟨w.heap.size, 0, none⟩) (by show w.heap.size < _; omega)).trans c0) ((hb35.cell (p := ⟨w.heap.size + 1, 0, none⟩) (by show w.heap.size + 1 < _; omega)).trans c1) ((World.frozen?_of_block (a := ⟨w.heap.size + 1, 0, none⟩) (hb35.block (w.heap.size + 1) (by omega))).trans f1) (HSL.out.below (hb35.mono (by omega))) hq5
  have hb5s : Below w.heap.size w w5 := HB0.out.trans (hb35.mono (by omega))
  have hsz5 : w.heap.size + 2 ≤ w5.heap.size := by have := hb5.size; omega
  have hlq : (p ++ [0]).length = n + 1 := by rw [List.length_append, ← HN.out]; rfl
  rw [hlq] at hst
  have HST := Lib.hid hst
  have HB5 := Lib.hid hb5s
  clear hst hb5s hq5 hb35 hb5 hl5 HB3 HO3 HCL HSL HB0 c0 c1 f1 z0 hz3
  go_upto_region 5 with fail
  obtain ⟨w7, hw7⟩ : ∃ w7, w7 = (w5.alloc (.cells #[.slice (some ⟨g2, 0, none⟩) (n + 1) c2] 22)).alloc (.cells #[.func (.func 71) #[] #[.pointer (some ⟨w5.heap.size, 0, none⟩), .pointer (some ⟨w.heap.size + 1, 0, none⟩), .pointer (some ⟨w.heap.size, 0, none⟩), .pointer (some ⟨w5.heap.size + 1, 0, none⟩)]] 68) := ⟨_, rfl⟩
  have hst7 : Sts w7 w.heap.size (w5.heap.size + 2) w5.heap.size (w.heap.size + 1) w.heap.size (w5.heap.size + 1) g2 c2 A cap p (p ++ [0]) [] := by rw [hw7]; exact HST.out
  have hb7 : Below w.heap.size w w7 := by rw [hw7]; exact ((HB5.out).alloc (by omega) _).alloc (by simp; omega) _
  rw [← hw7]
  have hef : w7.cell? ⟨w5.heap.size + 1, 0, none⟩ = some (.func (.func 71) #[] #[.pointer (some ⟨w5.heap.size, 0, none⟩), .pointer (some ⟨w.heap.size + 1, 0, none⟩), .pointer (some ⟨w.heap.size, 0, none⟩), .pointer (some ⟨w5.heap.size + 1, 0, none⟩)]) := hst7.ef
  have hcall := stc_any HP.out HS40.out (p.length + 1) 0 k (p ++ [0]) [] w7 (by omega) (by rw [hlq, HN.out]) (fun j _ _ => rfl) (by omega) (by simpa using HL.out) hst7
  rw [List.nil_append, ← HN.out] at hcall
  have HCALL := Lib.hid hcall
  have HB7 := Lib.hid hb7
  clear hw7 hst7 hb7 hcall HST HB5
  go_upto_region 6 with (first | (go_at_call 71; refine (HCALL.out).mono ?_; rintro e w8 ⟨rfl, hs8, hb8⟩) | fail)
  obtain ⟨v8, hs, o1, o2, o3, o4⟩ := hs8.out
  have HO := Lib.hid (o3.lowr (B' := w.heap.size) (by omega))
  have HB8 := Lib.hid (HB7.out.trans hb8)
  clear o2 o3 o4 hs8 hb8 HCALL HB7 hef
  go_wp2
  go_ret
  exact ⟨v8, hs, rfl, HO.out, HB8.out⟩
end Go.Proofs.YtpmkdihencepnaaGreat
