/-
  PartsOrder: the law, walked.
-/
import Derived.Test.YtdmpbbgcifodeaaUnfrobW
namespace Go.Proofs.Ytdmpbbgcifodeaa
open Go.RowKit

theorem conj31 {e : Ending} {w : World} (h : ConjRes [3, 1] e w) : ∃ A c, e = .returned (.tuple #[.slice A 3 c, .int .i64 0]) ∧ Sl w w.heap.size A (ints [2, 1, 1]) := by
  obtain ⟨k, q, A, c, he, hs, _, h2, h3⟩ := h
  have hk : k = 0 := h2.2 (by decide)
  have hq : q = [2, 1, 1] := (h3 hk).trans (by decide)
  subst hk hq
  exact ⟨A, c, he, hs⟩

theorem own_big {w : World} {base n : Nat} {v : Value} {xs : List Int} (h : w.ownsRow base 3 1 v n (ints xs)) : xs.length ≤ 9223372036854775807 := by
  obtain ⟨_, _, _, _, _, h1, h2⟩ := own_slice h
  omega

set_option maxRecDepth 100000 in
set_option maxHeartbeats 4000000 in
theorem order_law (A B : Option Addr) (cap capb : Nat) (p q : List Int) (w : World) (hcl : p.length ≤ 9223372036854775807) (hclq : q.length ≤ 9223372036854775807) (h : Sl w w.heap.size A (ints p)) (hq : Sl w w.heap.size B (ints q)) :
    Calls Try.prog 4 #[.slice A p.length cap, .slice B q.length capb] w fun e w' => e = .returned (.bool true) ∧ Below w.heap.size w w' := by
  have hB := Nat.le_refl w.heap.size
  go_enter Try.func4, Try.ntmps4
  go_wp2_with fail
  refine (conj_any (some ⟨w.heap.size, 0, none⟩) 2 [3, 1] _ (by simp) (sl_lit w (ints [3, 1]) _ (by simp))).mono ?_
  rintro e w1 ⟨hf1, hb1⟩
  obtain ⟨A1, c1, rfl, hs1⟩ := conj31 hf1
  have hW1 : Below w.heap.size w w1 := below_call (below_lay (Below.refl _ _) hB _) hB hb1
  clear hb1 hf1
  go_wp2_with fail
  refine (same_b A1 (some ⟨w1.heap.size, 0, none⟩) c1 3 [2, 1, 1] [2, 1, 1] _ (by simp) (by simp) (hs1.keep (below_lay (Below.refl _ _) (Nat.le_refl _) _)) (sl_lit w1 (ints [2, 1, 1]) _ (by simp))).mono ?_
  rintro e w2 ⟨rfl, hb2⟩
  have hW2 : Below w.heap.size w w2 := below_call (below_lay hW1 hB _) hB hb2
  clear hb2 hs1 hW1
  simp only [decide_true]
  go_wp2_with fail
  refine (conj_any A cap p _ hcl (h.now hW2 hB)).mono ?_
  rintro e w3 ⟨⟨k, a, A3, c3, rfl, hs3, ha1, ha2, ha3⟩, hb3⟩
  have hW3 : Below w.heap.size w w3 := below_call hW2 hB hb3
  clear hb3 hW2
  by_cases hk : k = 0
  · have hch := ha2.1 hk
    have hfa := ha3 hk
    obtain ⟨hp, hs⟩ := partChk_zero.1 hch
    have hpa : IsPart a := by rw [hfa]; exact flip_part hp
    have hsa : a.sum ≤ 40 := by rw [hfa, flip_sum hp]; exact hs
    have hba : flipOf a = p := by rw [hfa]; exact flip_flip hp
    have hcha : partChk a = 0 := partChk_zero.2 ⟨hpa, hsa⟩
    have hlp := hp.len hs
    have hla := hpa.len hsa
    have HCH := Lib.hid hch
    have HCHA := Lib.hid hcha
    have HFA := Lib.hid hfa
    have HBA := Lib.hid hba
    have HP := Lib.hid hp
    have HS := Lib.hid hs
    have HPA := Lib.hid hpa
    have HSA := Lib.hid hsa
    clear ha1 ha2 ha3 hch hfa hp hs hpa hsa hba hcha
    subst hk
    go_wp2_with fail
    refine (conj_any A3 c3 a _ (by omega) hs3).mono ?_
    rintro e w4 ⟨⟨k, b, A4, c4, rfl, hs4, hb1, hb2, hb3⟩, hb4⟩
    have hk := hb2.2 HCHA.out
    have hbb := hb3 hk
    rw [HBA.out] at hbb
    have hW4 : Below w.heap.size w w4 := below_call hW3 hB hb4
    have hs3 := hs3.keep hb4
    subst hk hbb
    clear hb1 hb2 hb3 hb4 hW3
    go_wp2_with fail
    refine (frob_any A cap b _ HP.out HS.out (h.now hW4 hB)).mono ?_
    rintro e w5 ⟨⟨d, A5, A6, c5, c6, hd, rfl, hs5, hs6⟩, hb5⟩
    have hW5 : Below w.heap.size w w5 := below_call hW4 hB hb5
    have hs3 := hs3.keep hb5
    have hs4 := hs4.keep hb5
    clear hb5 hW4
    have HD := Lib.hid hd
    clear hd
    go_wp2_with fail
    refine (frob_any A3 c3 a _ HPA.out HSA.out hs3).mono ?_
    rintro e w6 ⟨⟨d', A7, A8, c7, c8, hd', rfl, hs7, hs8⟩, hb6⟩
    have hdd : d' = d := hd'.uniq (by rw [HFA.out]; exact HD.out.flip HP.out)
    have hW6 : Below w.heap.size w w6 := below_call hW5 hB hb6
    have hs3 := hs3.keep hb6
    have hs4 := hs4.keep hb6
    have hs5 := hs5.keep hb6
    have hs6 := hs6.keep hb6
    subst hdd
    rw [HBA.out] at hs8 ⊢
    rw [← HFA.out] at hs6 ⊢
    clear hb6 hW5 hd'
    obtain ⟨xs, hxs⟩ : ∃ xs, xs = armsOf b d' := ⟨_, rfl⟩
    obtain ⟨ys, hys⟩ : ∃ ys, ys = armsOf a d' := ⟨_, rfl⟩
    rw [← hxs] at hs5 hs8 ⊢
    rw [← hys] at hs6 hs7 ⊢
    have hlx : xs.length ≤ 40 := by rw [hxs, armsOf_length]; have := HD.out.len; omega
    have hly : ys.length ≤ 40 := by rw [hys, armsOf_length]; have := HD.out.len; omega
    have HXS := Lib.hid hxs
    have HYS := Lib.hid hys
    clear hxs hys
    go_wp2_with fail
    refine (unfrob_any A5 A6 c5 c6 b d' xs ys _ HP.out HS.out HD.out HXS.out (by rw [← HFA.out]; exact HYS.out) hs5 hs6).mono ?_
    rintro e w7 ⟨⟨v, rfl, hown⟩, hb7⟩
    obtain ⟨A9, c9, rfl, _, hs9, _, _⟩ := own_slice hown
    have hW7 : Below w.heap.size w w7 := below_call hW6 hB hb7
    have hs3 := hs3.keep hb7
    have hs4 := hs4.keep hb7
    have hs5 := hs5.keep hb7
    have hs6 := hs6.keep hb7
    have hs7 := hs7.keep hb7
    have hs8 := hs8.keep hb7
    clear hb7 hW6 hown
    go_wp2_with fail
    refine (same_b A4 A c4 cap b b _ (by omega) (by omega) hs4 (h.now hW7 hB)).mono ?_
    rintro e w8 ⟨rfl, hb8⟩
    have hW8 : Below w.heap.size w w8 := below_call hW7 hB hb8
    have hs3 := hs3.keep hb8
    have hs4 := hs4.keep hb8
    have hs5 := hs5.keep hb8
    have hs6 := hs6.keep hb8
    have hs7 := hs7.keep hb8
    have hs8 := hs8.keep hb8
    have hs9 := hs9.keep hb8
    simp only [decide_true]
    clear hb8 hW7
    go_wp2_with fail
    refine (same_b A5 A8 c5 c8 xs xs _ (by omega) (by omega) hs5 hs8).mono ?_
    rintro e w9 ⟨rfl, hb9⟩
    have hW9 : Below w.heap.size w w9 := below_call hW8 hB hb9
    have hs3 := hs3.keep hb9
    have hs4 := hs4.keep hb9
    have hs5 := hs5.keep hb9
    have hs6 := hs6.keep hb9
    have hs7 := hs7.keep hb9
    have hs8 := hs8.keep hb9
    have hs9 := hs9.keep hb9
    simp only [decide_true]
    clear hb9 hW8
    go_wp2_with fail
    refine (same_b A6 A7 c6 c7 ys ys _ (by omega) (by omega) hs6 hs7).mono ?_
    rintro e w10 ⟨rfl, hb10⟩
    have hW10 : Below w.heap.size w w10 := below_call hW9 hB hb10
    have hs3 := hs3.keep hb10
    have hs4 := hs4.keep hb10
    have hs5 := hs5.keep hb10
    have hs6 := hs6.keep hb10
    have hs7 := hs7.keep hb10
    have hs8 := hs8.keep hb10
    have hs9 := hs9.keep hb10
    simp only [decide_true]
    clear hb10 hW9
    go_wp2_with fail
    refine (same_b A9 A c9 cap b b _ (by omega) (by omega) hs9 (h.now hW10 hB)).mono ?_
    rintro e w11 ⟨rfl, hb11⟩
    have hW11 : Below w.heap.size w w11 := below_call hW10 hB hb11
    have hs3 := hs3.keep hb11
    have hs4 := hs4.keep hb11
    have hs5 := hs5.keep hb11
    have hs6 := hs6.keep hb11
    have hs7 := hs7.keep hb11
    have hs8 := hs8.keep hb11
    have hs9 := hs9.keep hb11
    simp only [decide_true]
    clear hb11 hW10
    go_wp2_with fail
    refine (conj_any B capb q _ hclq (hq.now hW11 hB)).mono ?_
    rintro e w12 ⟨⟨kq, cq, A12, c12, rfl, hs12, hq1, hq2, hq3⟩, hb12⟩
    have hW12 : Below w.heap.size w w12 := below_call hW11 hB hb12
    have hs3 := hs3.keep hb12
    clear hb12 hW11 hs4 hs5 hs6 hs7 hs8 hs9
    have HQ1 := Lib.hid hq1
    have HQ2 := Lib.hid hq2
    have HQ3 := Lib.hid hq3
    clear hq1 hq2 hq3
    go_wp2_with fail
    refine (dom_any A B cap capb b q _ hcl hclq (h.now hW12 hB) (hq.now hW12 hB)).mono ?_
    rintro e w13 ⟨⟨m, kf, rfl, hf1, hf2, hf3⟩, hb13⟩
    have hW13 : Below w.heap.size w w13 := below_call hW12 hB hb13
    have hs3 := hs3.keep hb13
    have hs12 := hs12.keep hb13
    have HF1 := Lib.hid hf1
    have HF2 := Lib.hid hf2
    have HF3 := Lib.hid hf3
    clear hb13 hW12 hf1 hf2 hf3
    have hlcq : cq.length ≤ 9223372036854775807 := by
      by_cases e : kq = 0
      · obtain ⟨hpq, hsq⟩ := partChk_zero.1 (HQ2.out.1 e)
        rw [HQ3.out e]
        have := (flip_part hpq).len (by rw [flip_sum hpq]; exact hsq)
        omega
      · rw [HQ1.out e]; simp
    go_wp2_with fail
    refine (dom_any A12 A3 c12 c3 cq a _ hlcq (by omega) hs12 hs3).mono ?_
    rintro e w14 ⟨⟨n, kg, rfl, hg1, hg2, hg3⟩, hb14⟩
    have hW14 : Below w.heap.size w w14 := below_call hW13 hB hb14
    have HG1 := Lib.hid hg1
    have HG3 := Lib.hid hg3
    clear hb14 hW13 hg1 hg2 hg3 hs3 hs12
    by_cases hkq : kq = 0
    · have hd1 : (kq != 0) = false := by simpa using hkq
      have hchq := Lib.hid (HQ2.out.1 hkq)
      have hcq := Lib.hid (HQ3.out hkq)
      clear hkq
      by_cases hkf : kf = 0
      · have hd2 : (kf != 0) = false := by simpa using hkf
        have hsum := Lib.hid (HF1.out.1 hkf).2.2
        have hm := Lib.hid (HF3.out hkf)
        clear hkf
        have hkg : kg = 0 := by
          obtain ⟨hpq, hsq⟩ := partChk_zero.1 hchq.out
          refine HG1.out.2 ⟨?_, HCHA.out, ?_⟩
          · rw [hcq.out]; exact partChk_zero.2 ⟨flip_part hpq, by rw [flip_sum hpq]; exact hsq⟩
          · rw [hcq.out, HFA.out, flip_sum hpq, flip_sum HP.out]; exact hsum.out.symm
        have hmn : m = n := by
          rw [Bool.eq_iff_iff, hm.out, HG3.out hkg, hcq.out, HFA.out]
          exact Dom.flip_iff HP.out (partChk_zero.1 hchq.out).1 hsum.out
        subst hkg hmn
        go_wp2_with fail
        refine (dom_any B A capb cap q b _ hclq hcl (hq.now hW14 hB) (h.now hW14 hB)).mono ?_
        rintro e w15 ⟨⟨o, kh, rfl, hh1, hh2, hh3⟩, hb15⟩
        have hW15 : Below w.heap.size w w15 := below_call hW14 hB hb15
        have hkh : kh = 0 := hh1.2 ⟨hchq.out, HCH.out, hsum.out.symm⟩
        have ho := Lib.hid (hh3 hkh)
        subst hkh
        clear hb15 hW14 hh1 hh2 hh3
        cases m with
        | false =>
          go_wp2
          go_ret
          exact ⟨rfl, hW15⟩
        | true =>
          cases o with
          | false =>
            go_wp2
            go_ret
            exact ⟨rfl, hW15⟩
          | true =>
            have heq : Hid (b = q) := Dom.antisymm HP.out (partChk_zero.1 hchq.out).1 (hm.out.1 rfl) (ho.out.1 rfl)
            go_wp2_with fail
            refine (same_b A B cap capb b q _ hcl hclq (h.now hW15 hB) (hq.now hW15 hB)).mono ?_
            rintro e w16 ⟨rfl, hb16⟩
            rw [decide_eq_true heq.out]
            have hW16 : Below w.heap.size w w16 := below_call hW15 hB hb16
            clear hb16 hW15
            go_wp2
            go_ret
            exact ⟨rfl, hW16⟩
      · have hd2 : (kf != 0) = true := by simpa using hkf
        have hm : m = false := HF2.out hkf
        subst hm
        clear hkf
        go_wp2
        go_ret
        exact ⟨rfl, hW14⟩
    · have hd1 : (kq != 0) = true := by simpa using hkq
      have hm : m = false := HF2.out (fun e => hkq (HQ2.out.2 (HF1.out.1 e).2.1))
      subst hm
      clear hkq
      go_wp2
      go_ret
      exact ⟨rfl, hW14⟩
  · have hd1 : (k != 0) = true := by simpa using hk
    have ha0 := ha1 hk
    subst ha0
    clear hk ha1 ha2 ha3
    go_wp2
    go_ret
    exact ⟨rfl, hW3⟩

end Go.Proofs.Ytdmpbbgcifodeaa
