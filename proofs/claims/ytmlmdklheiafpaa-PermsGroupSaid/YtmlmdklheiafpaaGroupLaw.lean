/-
  PermsGroup: the law, walked.
-/
import Derived.Test.YtmlmdklheiafpaaFromCodeW
namespace Go.Proofs.Ytmlmdklheiafpaa
open Go.RowKit

def FromRes (c : List Int) (e : Ending) (w' : World) : Prop :=
  ∃ v k, e = .returned (.tuple #[v, .int .i64 k]) ∧ (k = 0 → c.length ≤ 40 ∧ ∃ B out c', v = .slice B out.length c' ∧ Sl w' w'.heap.size B (ints out) ∧ out.length ≤ c' ∧ out.length = c.length ∧ IsPerm out ∧ codeOf out = c) ∧ (c.length ≤ 40 → IsCode c → k = 0)

theorem fromCode_res (A : Option Addr) (cap : Nat) (c : List Int) (w : World) (hcl : c.length ≤ 9223372036854775807) (h : Sl w w.heap.size A (ints c)) :
    Calls Try.prog 24 #[.slice A c.length cap] w fun e w' => FromRes c e w' ∧ Below w.heap.size w w' := by
  refine (fromCode_any A cap c w hcl h).mono ?_
  rintro e w' ⟨h1 | h1, hb⟩
  · obtain ⟨k, hk, rfl, hn⟩ := h1
    exact ⟨⟨_, k, rfl, fun e => absurd e hk, fun h2 h3 => absurd ⟨h2, h3⟩ hn⟩, hb⟩
  · obtain ⟨h2, h3, B, out, c', rfl, h4⟩ := h1
    exact ⟨⟨_, 0, rfl, fun _ => ⟨h2, B, out, c', rfl, h4⟩, fun _ _ => rfl⟩, hb⟩

def TmsRes (p q : List Int) (e : Ending) (w' : World) : Prop :=
  ∃ v, e = .returned (.tuple #[v, .int .i64 (pairChk p q)]) ∧ (pairChk p q = 0 → ∃ B c', v = .slice B (tms p q).length c' ∧ Sl w' w'.heap.size B (ints (tms p q)) ∧ (tms p q).length ≤ c')

theorem times_res (A A' : Option Addr) (cap cap' : Nat) (p q : List Int) (w : World) (hp : p.length ≤ 9223372036854775807) (hq : q.length ≤ 9223372036854775807) (h : Sl w w.heap.size A (ints p)) (h' : Sl w w.heap.size A' (ints q)) :
    Calls Try.prog 29 #[.slice A p.length cap, .slice A' q.length cap'] w fun e w' => TmsRes p q e w' ∧ Below w.heap.size w w' := by
  by_cases hc : pairChk p q = 0
  · refine (times_ok A A' cap cap' p q w hc h h').mono ?_
    rintro e w' ⟨B, c', rfl, h1, h2, h3⟩
    exact ⟨⟨_, by rw [hc], fun _ => ⟨B, c', rfl, h1, h2⟩⟩, h3⟩
  · refine (times_err A A' cap cap' p q w hp hq hc h h').mono ?_
    rintro e w' ⟨rfl, h3⟩
    exact ⟨⟨_, rfl, fun h => absurd h hc⟩, h3⟩

set_option maxRecDepth 100000 in
set_option maxHeartbeats 4000000 in
theorem group_law (A B C D : Option Addr) (ca cb cc cd : Nat) (p q r c : List Int) (w : World) (hpc : p.length ≤ ca) (hpl : p.length ≤ 9223372036854775807) (hql : q.length ≤ 9223372036854775807) (hrl : r.length ≤ 9223372036854775807) (hcl : c.length ≤ 9223372036854775807)
    (h : Sl w w.heap.size A (ints p)) (h' : Sl w w.heap.size B (ints q)) (h'' : Sl w w.heap.size C (ints r)) (h3 : Sl w w.heap.size D (ints c)) :
    Calls Try.prog 6 #[.slice A p.length ca, .slice B q.length cb, .slice C r.length cc, .slice D c.length cd] w fun e w' => e = .returned (.bool true) ∧ Below w.heap.size w w' := by
  have hpp : Hid (IsPerm [2, 3, 1]) := by show IsPerm _; decide
  have hii : Hid (IsInv [2, 3, 1] [3, 1, 2]) := by
    refine ⟨rfl, fun k hk => ?_⟩
    obtain rfl | rfl | rfl : k = 0 ∨ k = 1 ∨ k = 2 := by simp at hk; omega
    all_goals rfl
  have hB := Nat.le_refl w.heap.size
  go_enter Try.func6, Try.ntmps6
  go_wp2_with fail
  refine (inverse_ok (some ⟨w.heap.size, 0, none⟩) 3 [2, 3, 1] _ (by simp) hpp.out (sl_lit w (ints [2, 3, 1]) _ (by simp))).mono ?_
  rintro e w1 ⟨A1, c1, ys, rfl, hs1, _, hi1, hb1⟩
  obtain rfl : ys = [3, 1, 2] := hi1.uniq hpp.out hii.out
  have hW1 : Below w.heap.size w w1 := below_call (below_lay (Below.refl _ _) hB _) hB hb1
  clear hb1 hi1
  go_wp2_with fail
  refine (same_b A1 (some ⟨w1.heap.size, 0, none⟩) c1 3 [3, 1, 2] [3, 1, 2] _ (by simp) (by simp) (hs1.keep (below_lay (Below.refl _ _) (Nat.le_refl _) _)) (sl_lit w1 (ints [3, 1, 2]) _ (by simp))).mono ?_
  rintro e w2 ⟨rfl, hb2⟩
  have hW2 : Below w.heap.size w w2 := below_call (below_lay hW1 hB _) hB hb2
  clear hb2 hs1 hW1 hpp hii
  simp only [decide_true]
  go_wp2_with fail
  refine (fromCode_res D cd c _ hcl (h3.now hW2 hB)).mono ?_
  rintro e w3 ⟨⟨v, k, rfl, hk0, _⟩, hb3⟩
  have hW3 : Below w.heap.size w w3 := below_call hW2 hB hb3
  have h3' := h3.now hW3 hB
  have HK := Lib.hid hk0
  clear hb3 hW2 hk0 h3
  go_upto_if 59 with fail
  go_cut [] (fun wz => Below w.heap.size w wz)
  case first =>
    by_cases hk : k = 0
    · obtain ⟨h40, E, out, c', rfl, hs4, hc4, ho4, hop4, hoc4⟩ := HK.out hk
      have HOP := Lib.hid hop4
      have HOC := Lib.hid hoc4
      have HOL := Lib.hid ho4
      subst hk
      clear hop4 hoc4 ho4
      go_wp2_with fail
      refine (code_ok E c' out _ hc4 (by have := HOL.out; omega) (permChk_of (by have := HOL.out; omega) HOP.out) hs4).mono ?_
      rintro e w4 ⟨A5, c5, rfl, hs5, hc5, hb4⟩
      have hW4 : Below w.heap.size w w4 := below_call hW3 hB hb4
      rw [HOC.out] at hs5 ⊢
      have h3'' := h3'.keep hb4
      go_wp2_with fail
      refine (same_b A5 D c5 cd c c _ hcl hcl hs5 h3'').mono ?_
      rintro e w5 ⟨rfl, hb5⟩
      have hW5 : Below w.heap.size w w5 := below_call hW4 hB hb5
      simp only [decide_true]
      go_wp2
      go_meet
      exact hW5
    · go_wp2
      go_meet
      exact hW3
  case rest =>
    have hW5 := hcut
    clear hcut hW3 HK h3'
    by_cases hp : permChk p = 0
    · obtain ⟨hp40, hpp⟩ := permChk_zero hp
      have HP0 := Lib.hid hp
      have HP := Lib.hid hpp
      clear hp hpp
      go_wp2_with fail
      refine (inverse_ok A ca p _ hp40 HP.out (h.now hW5 hB)).mono ?_
      rintro e w6 ⟨A6, c6, a, rfl, hs6, hc6, hi6, hb6⟩
      have hW6 : Below w.heap.size w w6 := below_call hW5 hB hb6
      have HI := Lib.hid hi6
      have hal : a.length ≤ 40 := by have := hi6.1; omega
      clear hb6 hW5 hi6
      go_wp2_with fail
      refine (measure_ok A ca p _ hpc hp40 HP0.out (h.now hW6 hB)).mono ?_
      rintro e w7 ⟨⟨mj1, v1, rfl⟩, hb7⟩
      have hW7 : Below w.heap.size w w7 := below_call hW6 hB hb7
      have hs7 := hs6.keep hb7
      clear hb7 hW6 hs6
      go_wp2_with fail
      refine (measure_ok A6 c6 a _ hc6 hal (permChk_of hal (HI.out.perm HP.out)) hs7).mono ?_
      rintro e w8 ⟨⟨mj2, v2, rfl⟩, hb8⟩
      have hW8 : Below w.heap.size w w8 := below_call hW7 hB hb8
      have hs8 := hs7.keep hb8
      rw [HI.out.inv_eq HP.out]
      clear hb8 hW7 hs7
      go_wp2_with fail
      refine (word_ok A ca p _ hp40 HP0.out HP.out (h.now hW8 hB)).mono ?_
      rintro e w9 ⟨A9, ys, c9, rfl, hs9, hc9, ⟨hy1, hy2, hy3⟩, hb9⟩
      have hW9 : Below w.heap.size w w9 := below_call hW8 hB hb9
      have hs8 := hs8.keep hb9
      have HY1 := Lib.hid hy1
      have HY2 := Lib.hid hy2
      have HY3 := Lib.hid hy3
      have hyl : ys.length < 1000000 := by
        have h1 := inv_le_sq p
        have h2 : p.length * p.length ≤ 40 * 40 := Nat.mul_le_mul hp40 hp40
        omega
      clear hb9 hW8 hy1 hy2 hy3
      go_wp2_with fail
      refine (product_ok A9 c9 p.length ys _ hp40 hyl HY3.out hs9).mono ?_
      rintro e w10 ⟨A10, c10, rfl, hs10, hc10, hb10⟩
      have hW10 : Below w.heap.size w w10 := below_call hW9 hB hb10
      have hs8 := hs8.keep hb10
      rw [HY2.out] at hs10 ⊢
      clear hb10 hW9 hs9
      go_wp2_with fail
      refine (code_ok A ca p _ hpc hp40 HP0.out (h.now hW10 hB)).mono ?_
      rintro e w11 ⟨A11, c11, rfl, hs11, hc11, hb11⟩
      have hW11 : Below w.heap.size w w11 := below_call hW10 hB hb11
      have hs8 := hs8.keep hb11
      have hs10 := hs10.keep hb11
      have hdl := codeOf_length p
      have hdc := codeOf_isCode p
      have hds := codeOf_sum p
      have hdm : ∀ k, 0 ≤ sumTo (codeOf p) k ∧ sumTo (codeOf p) k ≤ 1600 := fun k => by
        have := sumTo_bound (xs := codeOf p) (m := p.length) (by omega) (fun x hx => codeOf_mem hx) k
        rw [codeOf_length] at this
        have : (p.length : Int) * p.length ≤ 40 * 40 := Int.mul_le_mul (by omega) (by omega) (by omega) (by omega)
        omega
      have hdi : ∀ out : List Int, IsPerm out → out.length = (codeOf p).length → codeOf out = codeOf p → out = p := fun out h1 h2 h3 => by
        rw [codeOf_length] at h2
        exact code_inj out p (by have := h1.perm_upTo; rw [h2] at this; exact this.trans HP.out.perm_upTo.symm) h3
      obtain ⟨d, hd⟩ : ∃ d, d = codeOf p := ⟨_, rfl⟩
      rw [← hd] at hs11 hdl hdc hds hdm hdi hc11 ⊢
      have HDC := Lib.hid hdc
      have HDS := Lib.hid hds
      have HDM := Lib.hid hdm
      have HDI := Lib.hid hdi
      have HDL := Lib.hid hdl
      have hd40 : d.length ≤ 40 := by omega
      clear hb11 hW10 hd hdl hdc hds hdm hdi
      go_wp2_with fail
      refine (fromCode_res A11 c11 d _ (by omega) hs11).mono ?_
      rintro e w12 ⟨⟨v, k, rfl, hk0, hk1⟩, hb12⟩
      have hW12 : Below w.heap.size w w12 := below_call hW11 hB hb12
      obtain rfl : k = 0 := hk1 hd40 HDC.out
      obtain ⟨_, A12, out, c12, rfl, hs12, hc12, ho1, ho2, ho3⟩ := hk0 rfl
      obtain rfl : out = p := HDI.out out ho2 ho1 ho3
      obtain ⟨p, rfl⟩ : ∃ x, x = out := ⟨_, rfl⟩
      have hs8 := hs8.keep hb12
      have hs10 := hs10.keep hb12
      have hs11 := hs11.keep hb12
      clear hb12 hW11 hk0 hk1 ho1 ho2 ho3
      have hdy : (((ys.length : Nat) : Int) != ((inv p : Nat) : Int)) = false := by rw [HY1.out]; simp
      obtain ⟨n, hn⟩ : ∃ n, n = inv p := ⟨_, rfl⟩
      rw [← hn] at hdy
      rw [← hn]
      have HN := Lib.hid hn
      clear hn
      go_wp2_with fail
      refine (same_b A10 A c10 ca p p _ hpl hpl hs10 (h.now hW12 hB)).mono ?_
      rintro e w13 ⟨rfl, hb13⟩
      have hW13 : Below w.heap.size w w13 := below_call hW12 hB hb13
      have hs8 := hs8.keep hb13
      have hs11 := hs11.keep hb13
      have hs12 := hs12.keep hb13
      simp only [decide_true]
      clear hb13 hW12 hs10
      go_wp2_with fail
      refine (same_b A12 A c12 ca p p _ hpl hpl hs12 (h.now hW13 hB)).mono ?_
      rintro e w14 ⟨rfl, hb14⟩
      have hW14 : Below w.heap.size w w14 := below_call hW13 hB hb14
      have hs8 := hs8.keep hb14
      have hs11 := hs11.keep hb14
      simp only [decide_true]
      clear hb14 hW13 hs12
      go_wp2_with fail
      refine (size_any A11 c11 d _ (by omega) (fun k _ => by have := HDM.out k; omega) hs11).mono ?_
      rintro e w15 ⟨rfl, rfl⟩
      rw [show d.sum = (n : Int) by rw [HDS.out, HN.out]]
      have hn800 : (n : Int) ≤ 1600 := by
        have := HDM.out d.length
        rw [show sumTo d d.length = (n : Int) by unfold sumTo; rw [List.take_length, HDS.out, HN.out]] at this
        exact this.2
      clear hs11
      go_wp2_with fail
      refine (times_res A B ca cb p q _ hpl hql (h.now hW14 hB) (h'.now hW14 hB)).mono ?_
      rintro e w16 ⟨⟨xv, rfl, hx⟩, hb16⟩
      have hW16 : Below w.heap.size w w16 := below_call hW14 hB hb16
      have hs8 := hs8.keep hb16
      have HX := Lib.hid hx
      clear hb16 hW14 hx
      go_wp2_with fail
      refine (times_res B C cb cc q r _ hql hrl (h'.now hW16 hB) (h''.now hW16 hB)).mono ?_
      rintro e w17 ⟨⟨yv, rfl, hy⟩, hb17⟩
      have hW17 : Below w.heap.size w w17 := below_call hW16 hB hb17
      have hs8 := hs8.keep hb17
      by_cases hpq : pairChk p q = 0
      · by_cases hqr : pairChk q r = 0
        · obtain ⟨B16, c16, rfl, hs16, hc16⟩ := HX.out hpq
          have hs16 := hs16.keep hb17
          obtain ⟨B17, c17, rfl, hs17, hc17⟩ := hy hqr
          rw [hpq, hqr]
          obtain ⟨_, hq0, hlpq⟩ := pairChk_zero.1 hpq
          obtain ⟨_, hr0, hlqr⟩ := pairChk_zero.1 hqr
          obtain ⟨hq40, hqq⟩ := permChk_zero hq0
          obtain ⟨hr40, hrr⟩ := permChk_zero hr0
          have hxp := tms_perm HP.out hqq hlpq
          have hyp := tms_perm hqq hrr hlqr
          have hxl := tms_length p q
          have hyl' := tms_length q r
          have HXR : Hid (pairChk (tms p q) r = 0) := pairChk_zero.2 ⟨permChk_of (by omega) hxp, hr0, by omega⟩
          have HPY : Hid (pairChk p (tms q r) = 0) := pairChk_zero.2 ⟨HP0.out, permChk_of (by omega) hyp, by omega⟩
          have HAS : Hid (tms (tms p q) r = tms p (tms q r)) := tms_assoc hrr hlqr
          have HIX : Hid (∀ s z, IsInv q s → IsInv (tms p q) z → z = tms s a) := fun s z h1 h2 => h2.uniq hxp (IsInv.tms HP.out hqq hlpq HI.out h1)
          have HSA : Hid (∀ s, IsInv q s → pairChk s a = 0) := fun s h1 => pairChk_zero.2 ⟨permChk_of (by have := h1.1; omega) (h1.perm hqq), permChk_of hal (HI.out.perm HP.out), by have := h1.1; have := HI.out.1; omega⟩
          have HXP := Lib.hid hxp
          have HQQ := Lib.hid hqq
          have hx40 : (tms p q).length ≤ 40 := by omega
          have hy40 : (tms q r).length ≤ 40 := by omega
          obtain ⟨x, hx⟩ : ∃ x, x = tms p q := ⟨_, rfl⟩
          obtain ⟨y, hy'⟩ : ∃ y, y = tms q r := ⟨_, rfl⟩
          rw [← hx] at HXR HIX HXP hs16 hc16 hx40 HAS ⊢
          rw [← hy'] at HPY hs17 hc17 hy40 HAS ⊢
          clear hpq hqr hq0 hlpq hr0 hlqr hqq hrr hxp hyp hxl hyl' hx hy' hy hb17 HX hW16
          go_wp2_with fail
          refine (times_ok B16 C c16 cc x r _ HXR.out hs16 (h''.now hW17 hB)).mono ?_
          rintro e w18 ⟨B18, c18, rfl, hs18, hc18, hb18⟩
          have hW18 : Below w.heap.size w w18 := below_call hW17 hB hb18
          have hs8 := hs8.keep hb18
          have hs16 := hs16.keep hb18
          have hs17 := hs17.keep hb18
          rw [HAS.out] at hs18 ⊢
          clear hb18 hW17
          go_wp2_with fail
          refine (times_ok A B17 ca c17 p y _ HPY.out (h.now hW18 hB) hs17).mono ?_
          rintro e w19 ⟨B19, c19, rfl, hs19, hc19, hb19⟩
          have hW19 : Below w.heap.size w w19 := below_call hW18 hB hb19
          have hs8 := hs8.keep hb19
          have hs16 := hs16.keep hb19
          have hs18 := hs18.keep hb19
          clear hb19 hW18 hs17
          go_wp2_with fail
          refine (inverse_ok B16 c16 x _ hx40 HXP.out hs16).mono ?_
          rintro e w20 ⟨B20, c20, z, rfl, hs20, hc20, hi20, hb20⟩
          have hW20 : Below w.heap.size w w20 := below_call hW19 hB hb20
          have hs8 := hs8.keep hb20
          have hs18 := hs18.keep hb20
          have hs19 := hs19.keep hb20
          have HI20 := Lib.hid hi20
          clear hb20 hW19 hs16 hi20
          go_wp2_with fail
          refine (inverse_ok B cb q _ hq40 HQQ.out (h'.now hW20 hB)).mono ?_
          rintro e w21 ⟨B21, c21, s, rfl, hs21, hc21, hi21, hb21⟩
          have hW21 : Below w.heap.size w w21 := below_call hW20 hB hb21
          have hs8 := hs8.keep hb21
          have hs18 := hs18.keep hb21
          have hs19 := hs19.keep hb21
          have hs20 := hs20.keep hb21
          have HZ : Hid (z = tms s a) := HIX.out s z hi21 HI20.out
          have HSA' : Hid (pairChk s a = 0) := HSA.out s hi21
          clear hb21 hW20 hi21
          go_wp2_with fail
          refine (times_ok B21 A6 c21 c6 s a _ HSA'.out hs21 hs8).mono ?_
          rintro e w22 ⟨B22, c22, rfl, hs22, hc22, hb22⟩
          have hW22 : Below w.heap.size w w22 := below_call hW21 hB hb22
          have hs18 := hs18.keep hb22
          have hs19 := hs19.keep hb22
          have hs20 := hs20.keep hb22
          rw [← HZ.out] at hs22 ⊢
          have hzl : z.length ≤ 40 := by have := HI20.out.1; omega
          have htl : (tms p y).length ≤ 40 := by rw [tms_length]; exact hy40
          clear hb22 hW21 hs21 hs8
          go_wp2_with fail
          refine (same_b B18 B19 c18 c19 (tms p y) (tms p y) _ (by omega) (by omega) hs18 hs19).mono ?_
          rintro e w23 ⟨rfl, hb23⟩
          have hW23 : Below w.heap.size w w23 := below_call hW22 hB hb23
          have hs20 := hs20.keep hb23
          have hs22 := hs22.keep hb23
          simp only [decide_true]
          clear hb23 hW22 hs18 hs19
          go_wp2_with fail
          refine (same_b B20 B22 c20 c22 z z _ (by omega) (by omega) hs20 hs22).mono ?_
          rintro e w24 ⟨rfl, hb24⟩
          have hW24 : Below w.heap.size w w24 := below_call hW23 hB hb24
          simp only [decide_true]
          clear hb24 hW23 hs20 hs22
          go_wp2
          go_ret
          exact ⟨rfl, hW24⟩
        · have hd : (pairChk q r != 0) = true := by simpa using hqr
          obtain ⟨g, hg⟩ : ∃ g, g = pairChk q r := ⟨_, rfl⟩
          rw [← hg] at hd
          rw [hpq, ← hg]
          clear hg hy hqr hb17
          have hpq' := Lib.hid hpq
          clear hpq
          go_wp2
          go_ret
          exact ⟨rfl, hW17⟩
      · have hd : (pairChk p q != 0) = true := by simpa using hpq
        obtain ⟨g, hg⟩ : ∃ g, g = pairChk p q := ⟨_, rfl⟩
        obtain ⟨g', hg'⟩ : ∃ g, g = pairChk q r := ⟨_, rfl⟩
        rw [← hg] at hd
        rw [← hg, ← hg']
        clear hg hg' hy hpq hb17
        go_wp2
        go_ret
        exact ⟨rfl, hW17⟩
    · have hd : (permChk p != 0) = true := by simpa using hp
      have HP0 := Lib.hid hp
      clear hp
      go_wp2_with fail
      refine (inverse_err A ca p _ hpl HP0.out (h.now hW5 hB)).mono ?_
      rintro e w6 ⟨rfl, hb6⟩
      have hW6 : Below w.heap.size w w6 := below_call hW5 hB hb6
      clear hb6 hW5
      go_wp2
      go_ret
      exact ⟨rfl, hW6⟩

end Go.Proofs.Ytmlmdklheiafpaa
