/-
  PermsBruhat: the law, walked.
-/
import Derived.Test.YtmlmdklheiafpaaBelowW
import Derived.Test.YtmlmdklheiafpaaMeasW
import Derived.Test.YtmlmdklheiafpaaRoundsLaw
namespace Go.Proofs.Ytmlmdklheiafpaa
open Go.RowKit

theorem isPerm_upTo (n : Nat) : IsPerm (upTo n) := ⟨nodup_upTo n, fun x hx => by have := mem_upTo.1 hx; rw [length_upTo]; exact this⟩

theorem IsInv.perm {p x : List Int} (hp : IsPerm p) (h : IsInv p x) : IsPerm x := by
  have h1 : x.Perm (p.map (at1 x)) := by
    conv => lhs; rw [← at1_list (x := x), h.1]
    exact (hp.perm_upTo.symm).map _
  have h2 : p.map (at1 x) = upTo p.length := by
    apply List.ext_getElem (by simp [upTo])
    intro i h1 h2
    simp only [upTo, List.getElem_map, List.getElem_range]
    have := h.2 i (by simpa using h1)
    rwa [getD_get (by simpa using h1)] at this
  rw [h2] at h1
  exact IsPerm.of_perm h1 (isPerm_upTo _)

theorem pairChk_ne_symm {p q : List Int} (h : pairChk p q ≠ 0) : pairChk q p ≠ 0 := fun h' => h (by
  obtain ⟨a, b, c⟩ := pairChk_zero.1 h'
  exact pairChk_zero.2 ⟨b, a, c.symm⟩)

theorem sl_lit2 (w : World) (xs ys : List Value) (B : Nat) (hB : w.heap.size + 1 < B) : Sl ((w.alloc (.cells xs.toArray 3)).alloc (.cells ys.toArray 3)) B (some ⟨w.heap.size + 1, 0, none⟩) ys := by
  have e : (w.alloc (.cells xs.toArray 3)).heap.size = w.heap.size + 1 := by simp
  have := sl_lit (w.alloc (.cells xs.toArray 3)) ys B (by rw [e]; exact hB)
  rwa [e] at this

set_option maxRecDepth 100000 in
set_option maxHeartbeats 4000000 in
theorem bruhat_law (A B C : Option Addr) (ca cb cc : Nat) (p q r : List Int) (w : World) (hpc : p.length ≤ ca) (hqc : q.length ≤ cb) (hpl : p.length ≤ 9223372036854775807) (hql : q.length ≤ 9223372036854775807) (hrl : r.length ≤ 9223372036854775807)
    (h : Sl w w.heap.size A (ints p)) (h' : Sl w w.heap.size B (ints q)) (h'' : Sl w w.heap.size C (ints r)) :
    Calls Try.prog 5 #[.slice A p.length ca, .slice B q.length cb, .slice C r.length cc] w fun e w' => e = .returned (.bool true) ∧ Below w.heap.size w w' := by
  have hchk : Hid (pairChk [1, 2] [2, 1] = 0) := by show _ = _; decide
  have hle : Hid (LeB [1, 2] [2, 1]) := by
    intro i hi k h1 h2
    obtain rfl | rfl : i = 0 ∨ i = 1 := by simp at hi; omega
    all_goals (obtain rfl | rfl : k = 1 ∨ k = 2 := by simp at h2; omega) <;> decide
  have hB := Nat.le_refl w.heap.size
  go_enter Try.func5, Try.ntmps5
  go_wp2_with fail
  refine (below_ok (some ⟨w.heap.size, 0, none⟩) (some ⟨w.heap.size + 1, 0, none⟩) 2 2 [1, 2] [2, 1] _ (by simp) (by simp) hchk.out ((sl_lit w (ints [1, 2]) _ (by simp)).keep (below_lay (Below.refl _ _) (Nat.le_refl _) _)) (sl_lit2 w (ints [1, 2]) (ints [2, 1]) _ (by simp))).mono ?_
  rintro e w1 ⟨⟨bv, rfl, hbv⟩, hb1⟩
  obtain rfl : bv = true := hbv.2 hle.out
  have hW1 : Below w.heap.size w w1 := below_call (below_lay (below_lay (Below.refl _ _) hB _) hB _) hB hb1
  clear hb1 hbv hle hchk
  by_cases hpq : pairChk p q = 0
  · obtain ⟨hp0, hq0, hl⟩ := pairChk_zero.1 hpq
    obtain ⟨hp40, hpp⟩ := permChk_zero hp0
    obtain ⟨hq40, hqq⟩ := permChk_zero hq0
    have hqp : pairChk q p = 0 := pairChk_zero.2 ⟨hq0, hp0, hl.symm⟩
    have hppc : pairChk p p = 0 := pairChk_zero.2 ⟨hp0, hp0, rfl⟩
    have hprr : pairChk q r = 0 ↔ pairChk p r = 0 := by rw [pairChk_zero, pairChk_zero]; simp [hp0, hq0, hl]
    have HPQ := Lib.hid hpq
    have HQP := Lib.hid hqp
    have HPP := Lib.hid hppc
    have HPRR := Lib.hid hprr
    have HP0 := Lib.hid hp0
    have HQ0 := Lib.hid hq0
    have HP := Lib.hid hpp
    have HQ := Lib.hid hqq
    have HL := Lib.hid hl
    clear hpq hqp hppc hprr hp0 hq0 hpp hqq hl
    go_wp2_with fail
    refine (below_any A B ca cb p q _ hpl hql (h.now hW1 hB) (h'.now hW1 hB)).mono ?_
    rintro e w2 ⟨⟨av, rfl, hav⟩, hb2⟩
    have hW2 : Below w.heap.size w w2 := below_call hW1 hB hb2
    have hav' := Lib.hid (hav HPQ.out)
    rw [HPQ.out]
    clear hb2 hW1 hav
    go_wp2_with fail
    refine (below_any B A cb ca q p _ hql hpl (h'.now hW2 hB) (h.now hW2 hB)).mono ?_
    rintro e w3 ⟨⟨bv, rfl, hbv⟩, hb3⟩
    have hW3 : Below w.heap.size w w3 := below_call hW2 hB hb3
    have hbv' := Lib.hid (hbv HQP.out)
    rw [HQP.out]
    clear hb3 hW2 hbv
    go_wp2_with fail
    refine (below_any B C cb cc q r _ hql hrl (h'.now hW3 hB) (h''.now hW3 hB)).mono ?_
    rintro e w4 ⟨⟨cv, rfl, hcv⟩, hb4⟩
    have hW4 : Below w.heap.size w w4 := below_call hW3 hB hb4
    have hcv' := Lib.hid hcv
    obtain ⟨gq, hgq⟩ : ∃ g, g = pairChk q r := ⟨_, rfl⟩
    rw [← hgq]
    have HGQ := Lib.hid hgq
    clear hb4 hW3 hcv hgq
    go_wp2_with fail
    refine (below_any A C ca cc p r _ hpl hrl (h.now hW4 hB) (h''.now hW4 hB)).mono ?_
    rintro e w5 ⟨⟨dv, rfl, hdv⟩, hb5⟩
    have hW5 : Below w.heap.size w w5 := below_call hW4 hB hb5
    have hdv' := Lib.hid hdv
    obtain ⟨gp, hgp⟩ : ∃ g, g = pairChk p r := ⟨_, rfl⟩
    rw [← hgp]
    have HGP := Lib.hid hgp
    clear hb5 hW4 hdv hgp
    go_wp2_with fail
    refine (below_any A A ca ca p p _ hpl hpl (h.now hW5 hB) (h.now hW5 hB)).mono ?_
    rintro e w6 ⟨⟨sv, rfl, hsv⟩, hb6⟩
    have hW6 : Below w.heap.size w w6 := below_call hW5 hB hb6
    obtain rfl : sv = true := (hsv HPP.out).2 (LeB.refl p)
    rw [HPP.out]
    clear hb6 hW5 hsv
    go_wp2_with fail
    refine (inverse_ok A ca p _ hp40 HP.out (h.now hW6 hB)).mono ?_
    rintro e w7 ⟨A7, c7, x, rfl, hs7, hxc, hx, hb7⟩
    have hW7 : Below w.heap.size w w7 := below_call hW6 hB hb7
    have HX := Lib.hid hx
    clear hb7 hW6 hx
    go_wp2_with fail
    refine (inverse_ok B cb q _ hq40 HQ.out (h'.now hW7 hB)).mono ?_
    rintro e w8 ⟨A8, c8, y, rfl, hs8, hyc, hy, hb8⟩
    have hW8 : Below w.heap.size w w8 := below_call hW7 hB hb8
    have hs7 := hs7.keep hb8
    have HY := Lib.hid hy
    clear hb8 hW7 hy
    have HXY : Hid (pairChk x y = 0) := pairChk_zero.2 ⟨permChk_of (by have := HX.out.1; omega) (HX.out.perm HP.out), permChk_of (by have := HY.out.1; omega) (HY.out.perm HQ.out), by have := HX.out.1; have := HY.out.1; have := HL.out; omega⟩
    have hxl : x.length ≤ 40 := by have := HX.out.1; omega
    have hyl : y.length ≤ 40 := by have := HY.out.1; omega
    go_wp2_with fail
    refine (below_any A7 A8 c7 c8 x y _ (by omega) (by omega) hs7 hs8).mono ?_
    rintro e w9 ⟨⟨zv, rfl, hzv⟩, hb9⟩
    have hW9 : Below w.heap.size w w9 := below_call hW8 hB hb9
    obtain rfl : zv = av := by
      have h1 := hzv HXY.out
      have h2 := HX.out.leB HP.out HQ.out HL.out HY.out
      have h3 := hav'.out
      rw [Bool.eq_iff_iff, h1, ← h2, h3]
    rw [HXY.out]
    clear hb9 hW8 hzv hs7 hs8
    go_wp2_with fail
    refine (measure_ok A ca p _ hpc hp40 HP0.out (h.now hW9 hB)).mono ?_
    rintro e w10 ⟨⟨mj1, v1, rfl⟩, hb10⟩
    have hW10 : Below w.heap.size w w10 := below_call hW9 hB hb10
    clear hb10 hW9
    go_wp2_with fail
    refine (measure_ok B cb q _ hqc hq40 HQ0.out (h'.now hW10 hB)).mono ?_
    rintro e w11 ⟨⟨mj2, v2, rfl⟩, hb11⟩
    have hW11 : Below w.heap.size w w11 := below_call hW10 hB hb11
    clear hb11 hW10
    obtain ⟨n, hn⟩ : ∃ n, n = inv p := ⟨_, rfl⟩
    obtain ⟨m, hm⟩ : ∃ n, n = inv q := ⟨_, rfl⟩
    rw [← hn, ← hm]
    have HN := Lib.hid hn
    have HM := Lib.hid hm
    clear hn hm
    have hf : gq ≠ 0 ∨ (gq = 0 ∧ gp = 0 ∧ cv = false) ∨ (gq = 0 ∧ gp = 0 ∧ cv = true ∧ (zv = true → dv = true)) := by
      by_cases hg : gq = 0
      · have hg' : gp = 0 := by rw [HGP.out]; exact HPRR.out.1 (by rw [← HGQ.out]; exact hg)
        cases cv
        · exact .inr (.inl ⟨hg, hg', rfl⟩)
        · refine .inr (.inr ⟨hg, hg', rfl, fun hz => ?_⟩)
          have h1 := hav'.out.1 hz
          have h2 := (hcv'.out (by rw [← HGQ.out]; exact hg)).1 rfl
          exact (hdv'.out (by rw [← HGP.out]; exact hg')).2 (h1.trans HL.out h2)
      · exact .inl hg
    have hz : zv = false ∨ (zv = true ∧ bv = true ∧ p = q ∧ n = m) ∨ (zv = true ∧ bv = false ∧ n < m) := by
      cases zv
      · exact .inl rfl
      · have h1 := hav'.out.1 rfl
        rcases h1.inv_le HP.out HQ.out HL.out with e | e
        · exact .inr (.inl ⟨rfl, hbv'.out.2 (by rw [← e]; exact LeB.refl p), e, by rw [HN.out, HM.out, e]⟩)
        · refine .inr (.inr ⟨rfl, ?_, by rw [HN.out, HM.out]; exact e⟩)
          cases hb : bv
          · rfl
          · have h2 := hbv'.out.1 hb
            have e' := LeB.antisymm HP.out HQ.out HL.out h1 h2
            subst e'; omega
    clear hav' hbv' hcv' hdv'
    rcases hz with rfl | ⟨rfl, rfl, rfl, rfl⟩ | ⟨rfl, rfl, hlt⟩
    · rcases hf with hg | ⟨rfl, rfl, rfl⟩ | ⟨rfl, rfl, rfl, _⟩
      · have hd : (gq != 0) = true := by simpa using hg
        go_wp2
        go_ret
        exact ⟨rfl, hW11⟩
      · go_wp2
        go_ret
        exact ⟨rfl, hW11⟩
      · go_wp2
        go_ret
        exact ⟨rfl, hW11⟩
    · go_wp2_with fail
      refine (same_b A B ca cb p p _ hpl hql (h.now hW11 hB) (h'.now hW11 hB)).mono ?_
      rintro e w12 ⟨rfl, hb12⟩
      have hW12 : Below w.heap.size w w12 := below_call hW11 hB hb12
      clear hb12 hW11
      simp only [decide_true]
      go_wp2_with fail
      refine (same_b A B ca cb p p _ hpl hql (h.now hW12 hB) (h'.now hW12 hB)).mono ?_
      rintro e w13 ⟨rfl, hb13⟩
      have hW13 : Below w.heap.size w w13 := below_call hW12 hB hb13
      clear hb13 hW12
      simp only [decide_true]
      rcases hf with hg | ⟨rfl, rfl, rfl⟩ | ⟨rfl, rfl, rfl, hdd⟩
      · have hd : (gq != 0) = true := by simpa using hg
        go_wp2
        go_ret
        exact ⟨rfl, hW13⟩
      · go_wp2
        go_ret
        exact ⟨rfl, hW13⟩
      · obtain rfl : dv = true := hdd trivial
        go_wp2
        go_ret
        exact ⟨rfl, hW13⟩
    · have hnm : ¬ n = m := by omega
      rcases hf with hg | ⟨rfl, rfl, rfl⟩ | ⟨rfl, rfl, rfl, hdd⟩
      · have hd : (gq != 0) = true := by simpa using hg
        go_wp2
        go_ret
        exact ⟨rfl, hW11⟩
      · go_wp2
        go_ret
        exact ⟨rfl, hW11⟩
      · obtain rfl : dv = true := hdd rfl
        go_wp2
        go_ret
        exact ⟨rfl, hW11⟩
  · have hqp : Hid (pairChk q p ≠ 0) := pairChk_ne_symm hpq
    obtain ⟨c, hc⟩ : ∃ c, c = pairChk p q := ⟨_, rfl⟩
    have hd : (c != 0) = true := by rw [hc]; simpa using hpq
    have HC := Lib.hid hc
    have HPQ := Lib.hid hpq
    clear hc hpq
    go_wp2_with fail
    refine (below_err A B ca cb p q _ hpl hql HPQ.out (h.now hW1 hB) (h'.now hW1 hB)).mono ?_
    rintro e w2 ⟨rfl, hb2⟩
    have hW2 : Below w.heap.size w w2 := below_call hW1 hB hb2
    rw [← HC.out]
    clear hb2 hW1
    go_wp2_with fail
    refine (below_err B A cb ca q p _ hql hpl hqp.out (h'.now hW2 hB) (h.now hW2 hB)).mono ?_
    rintro e w3 ⟨rfl, hb3⟩
    have hW3 : Below w.heap.size w w3 := below_call hW2 hB hb3
    clear hb3 hW2
    go_wp2
    go_ret
    exact ⟨rfl, hW3⟩

end Go.Proofs.Ytmlmdklheiafpaa
