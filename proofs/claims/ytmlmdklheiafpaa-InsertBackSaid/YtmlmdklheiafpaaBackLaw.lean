/-
  InsertBack: the law, walked.
-/
import Derived.Test.YtmlmdklheiafpaaBack5W
import Derived.Test.YtmlmdklheiafpaaBack3W
import Derived.Test.YtmlmdklheiafpaaBackQ
import Derived.Test.YtmlmdklheiafpaaRowsA
import Derived.Test.YtmlmdklheiafpaaSidesLaw
namespace Go.Proofs.Ytmlmdklheiafpaa
open Go.RowKit

theorem lit2_srB (w : World) (r s : List Int) (l1 : r.length ≤ 1000) (l2 : s.length ≤ 1000) : SR (((w.alloc (.cells (ints r).toArray 3)).alloc (.cells (ints s).toArray 3)).alloc (.cells #[.slice (some ⟨w.heap.size, 0, none⟩) r.length r.length, .slice (some ⟨w.heap.size + 1, 0, none⟩) s.length s.length] 22)) (w.heap.size + 3) (some ⟨w.heap.size + 2, 0, none⟩) [r, s] := by
  have a1 : (w.alloc (.cells (ints r).toArray 3)).heap.size = w.heap.size + 1 := by simp
  have a2 : ((w.alloc (.cells (ints r).toArray 3)).alloc (.cells (ints s).toArray 3)).heap.size = w.heap.size + 2 := by simp
  refine ⟨[.slice (some ⟨w.heap.size, 0, none⟩) r.length r.length, .slice (some ⟨w.heap.size + 1, 0, none⟩) s.length s.length], rfl, fun _ => ⟨w.heap.size + 2, 0, rfl, by omega, fun j u hu => ?_⟩, fun k hk => ?_⟩
  · rw [World.cell?_alloc_at _ _ _ _ (by rw [a2])]; simpa using hu
  · match k, hk with
    | 0, _ =>
      refine ⟨_, _, rfl, ?_, by simp; omega⟩
      have h1 := (sl_litA w (ints r) (w.heap.size + 1) (by omega)).below (((Below.refl _ (w.alloc (.cells (ints r).toArray 3))).alloc (by rw [a1]; exact Nat.le_refl _) (.cells (ints s).toArray 3)))
      have h2 := h1.below (((Below.refl _ ((w.alloc (.cells (ints r).toArray 3)).alloc (.cells (ints s).toArray 3))).alloc (B := w.heap.size + 1) (by rw [a2]; omega) (.cells #[.slice (some ⟨w.heap.size, 0, none⟩) r.length r.length, .slice (some ⟨w.heap.size + 1, 0, none⟩) s.length s.length] 22)))
      exact h2.more (by omega)
    | 1, _ =>
      refine ⟨_, _, rfl, ?_, by simp; omega⟩
      have h1 := (sl_litA (w.alloc (.cells (ints r).toArray 3)) (ints s) (w.heap.size + 2) (by rw [a1]; omega))
      rw [a1] at h1
      have h2 := h1.below (((Below.refl _ ((w.alloc (.cells (ints r).toArray 3)).alloc (.cells (ints s).toArray 3))).alloc (B := w.heap.size + 2) (by rw [a2]; exact Nat.le_refl _) (.cells #[.slice (some ⟨w.heap.size, 0, none⟩) r.length r.length, .slice (some ⟨w.heap.size + 1, 0, none⟩) s.length s.length] 22)))
      exact h2.more (by omega)
theorem rows_sameB (A A' : Option Addr) (cap cap' n : Nat) (xs ys : List (List Int)) (w : World) (hx : xs.length ≤ 9223372036854775807) (h : SR w w.heap.size A xs) (h' : SR w w.heap.size A' ys) (e : xs = ys) (hn : n = xs.length) :
    Calls Try.prog 31 #[.slice A n cap, .slice A' ys.length cap'] w fun e w' => e = .returned (.bool true) ∧ Below w.heap.size w w' := by
  subst hn
  subst e
  refine (rows_any A A' cap cap' xs xs w hx hx h h').mono ?_
  rintro e w' ⟨rfl, hb⟩
  exact ⟨by simp, hb⟩

theorem isPerm_upN (n : Nat) : IsPerm (upN n) := by
  have e : upN n = (List.range n).map (fun (i : Nat) => (i : Int) + 1) := by
    unfold upN upTil
    apply List.map_congr_left
    intro i hi
    rw [if_pos (List.mem_range.1 hi)]
  refine ⟨?_, fun x hx => ?_⟩
  · rw [e]
    exact List.Pairwise.map (R := fun a b : Nat => a ≠ b) _ (fun a b h => by omega) List.nodup_range
  · rw [e] at hx ⊢
    obtain ⟨i, hi, rfl⟩ := List.mem_map.1 hx
    have := List.mem_range.1 hi
    simp; omega
/-- What a word makes comes back. -/
theorem word_back {xs : List Int} (h : wordChk xs = 0) : FillOk (insW [] xs) ∧ FillOk (recQ xs (upN xs.length) xs.length) ∧ SameSh (insW [] xs) (recQ xs (upN xs.length) xs.length) ∧ IsPerm (recQ xs (upN xs.length) xs.length).flatten ∧
    ∀ m, Und (insW [] xs) (recQ xs (upN xs.length) xs.length) m → wB m = xs := by
  obtain ⟨hl, hx⟩ := wordChk_zero h
  obtain ⟨h1, h2, h3, h4⟩ := made_back (wm_sorted xs)
  have hf := fill_rec (wm_sorted xs) (by rw [wm_len]; exact hl) (fun x hx => by
    rw [wm_A] at hx
    have := (isPerm_upN xs.length).2 x hx
    have e : (upN xs.length).length = xs.length := upTil_length _ _
    rw [e] at this
    exact ⟨this.1, by omega⟩) (fun x hx' => by rw [wm_B] at hx'; exact hx x hx')
  rw [wm_B, wm_A, wm_len] at h1 h2 h3 h4 hf
  refine ⟨hf.1, hf.2, h2, IsPerm.of_perm h4 (isPerm_upN _), fun m hm => ?_⟩
  rw [hm.fn h3, wm_B]
theorem pairs_back {m : List (Int × Int)} (h : PairsOk m) : FillOk (insW [] (wB m)) ∧ FillOk (recQ (wB m) (wA m) m.length) ∧ SameSh (insW [] (wB m)) (recQ (wB m) (wA m) m.length) ∧ ∀ m', Und (insW [] (wB m)) (recQ (wB m) (wA m) m.length) m' → m' = m := by
  obtain ⟨h1, h2, h3, h4⟩ := made_back h.sorted
  have hf := fill_rec h.sorted h.len (fun x hx => by obtain ⟨y, hy, rfl⟩ := List.mem_map.1 hx; exact (h.ok y hy).1) (fun x hx => by obtain ⟨y, hy, rfl⟩ := List.mem_map.1 hx; exact (h.ok y hy).2)
  exact ⟨hf.1, hf.2, h2, fun m' hm => hm.fn h3⟩
theorem back_pairs {p q : List (List Int)} {m : List (Int × Int)} (hp : FillOk p) (hq : FillOk q) (hs : SameSh p q) (hu : Und p q m) (hl : m.length ≤ 40) : PairsOk m ∧ insW [] (wB m) = p ∧ recQ (wB m) (wA m) m.length = q := by
  obtain ⟨h1, h2, h3⟩ := und_good hu hp.1 hq.1 hs
  obtain ⟨_, _, _, h4⟩ := made_back h1
  refine ⟨⟨hl, fun x hx => ⟨?_, ?_⟩, h1⟩, h2, h3⟩
  · have : x.1 ∈ wA m := List.mem_map.2 ⟨x, hx, rfl⟩
    have := h4.mem_iff.2 this
    rw [h3] at this
    obtain ⟨r, hr, hxr⟩ := List.mem_flatten.1 this
    exact hq.2.1 r hr _ hxr
  · have hk := insW_word (wB m) (T := []) (fun r hr => by simp at hr)
    simp only [rword, List.nil_append] at hk
    have hm : x.2 ∈ wB m := List.mem_map.2 ⟨x, hx, rfl⟩
    have := (hk.mem x.2).1 hm
    rw [h2] at this
    obtain ⟨r, hr, hxr⟩ := rword_mem.1 this
    exact hp.2.1 r hr _ hxr

set_option maxRecDepth 100000 in
set_option maxHeartbeats 2000000 in
theorem back_law (A C D E : Option Addr) (cap cap1 cap2 cap3 : Nat) (xs : List Int) (l : List (Int × Int)) (p q : List (List Int)) (w : World) (hxl : xs.length ≤ 9223372036854775807) (hll : l.length ≤ 9223372036854775807) (hpl : p.length ≤ 9223372036854775807) (hql : q.length ≤ 9223372036854775807)
    (h : Sl w w.heap.size A (ints xs)) (h1 : Sl w w.heap.size C (pcells l)) (h2 : SR w w.heap.size D p) (h3 : SR w w.heap.size E q) :
    Calls Try.prog 10 #[.slice A xs.length cap, .slice C l.length cap1, .slice D p.length cap2, .slice E q.length cap3] w fun e w' => e = .returned (.bool true) ∧ Below w.heap.size w w' := by
  have hB := Nat.le_refl w.heap.size
  have H := Lib.hid h
  have H1 := Lib.hid h1
  have H2 := Lib.hid h2
  have H3 := Lib.hid h3
  have s0 := make_any (some ⟨w.heap.size, 0, none⟩) 2 [2, 1] (w.alloc (.cells (ints [2, 1]).toArray 3)) (by simp) (sl_litA w (ints [2, 1]) _ (by simp))
  have HR0 := Lib.hid s0
  clear h h1 h2 h3 s0
  go_enter Try.func10, Try.ntmps10
  go_wp2_with (first | (go_at_call 37; refine (HR0.out).mono ?_) | fail)
  rintro e w1 ⟨⟨k, A1, A2, c1, c2, P, Q, rfl, hs1, hs2, _, _, hk, hz, _⟩, hb1⟩
  have hk0 : k = 0 := hk.trans (by decide)
  subst hk0
  have hP : P = [[1], [2]] := (hz rfl).1.trans (by decide)
  have hQ : Q = [[1], [2]] := (hz rfl).2.trans (by decide)
  subst hP
  subst hQ
  have hW1 : Below w.heap.size w w1 := below_call ((Below.refl _ w).alloc hB _) hB hb1
  have hl2 : SR _ _ _ _ := lit2_srB w1 [1] [2] (by decide) (by decide)
  have hlB : Below w1.heap.size w1 (((w1.alloc (.cells (ints [1]).toArray 3)).alloc (.cells (ints [2]).toArray 3)).alloc (.cells #[.slice (some ⟨w1.heap.size, 0, none⟩) 1 1, .slice (some ⟨w1.heap.size + 1, 0, none⟩) 1 1] 22)) := (((Below.refl _ _).alloc (Nat.le_refl _) _).alloc (by simp) _).alloc (by simp; omega) _
  have hr1 := rows_sameB A1 (some ⟨w1.heap.size + 2, 0, none⟩) c1 2 2 [[1], [2]] [[1], [2]] _ (by simp) (hs1.keep hlB) (SR.more hl2 (by simp)) rfl rfl
  have HR1 := Lib.hid hr1
  have HS1 := Lib.hid (hs1.keep hlB)
  have HS2 := Lib.hid (hs2.keep hlB)
  have hW1' := hW1.trans (hlB.mono hW1.size)
  have HW1 := Lib.hid hW1'
  clear hb1 hz hk HR0 hr1 hs1 hs2 hl2 hlB hW1'
  go_wp2_with (first | (go_at_call 31; refine (HR1.out).mono ?_) | fail)
  rintro e w2 ⟨rfl, hb2⟩
  have hW2 := below_call HW1.out hB hb2
  have hr2 := rows_sameB A1 A2 c1 c2 2 [[1], [2]] [[1], [2]] w2 (by simp) (HS1.out.keep hb2) (HS2.out.keep hb2) rfl rfl
  have HR2 := Lib.hid hr2
  have HW2 := Lib.hid hW2
  clear hr2 HR1 HW1 hW1 hb2 hW2 HS1 HS2
  go_wp2_with (first | (go_at_call 31; refine (HR2.out).mono ?_) | fail)
  rintro e w3 ⟨rfl, hb3⟩
  have hW3 := below_call HW2.out hB hb3
  have hm3 := make_any A cap xs w3 hxl (H.out.now hW3 hB)
  have HM3 := Lib.hid hm3
  clear hb3 HW2 HR2 hm3
  go_wp2_with (first | (go_at_call 37; refine (HM3.out).mono ?_) | fail)
  rintro e w4 ⟨⟨k4, A3, A4, c3, c4, P, Q, rfl, hs3, hs4, hl3, hl4, hk4, hz4, _⟩, hb4⟩
  have hW4 := below_call hW3 hB hb4
  have HS3 := Lib.hid hs3
  have HS4 := Lib.hid hs4
  have HK4 := Lib.hid hk4
  have HZ4 := Lib.hid hz4
  have HW4 := Lib.hid hW4
  clear HM3 hs3 hs4 hk4 hz4 hb4 hW3 hW4
  go_upto_if 56 with fail
  go_cut [] (fun wz => Below w.heap.size w wz)
  case first =>
    by_cases k40 : k4 = 0
    · subst k40
      obtain ⟨e1, e2⟩ := HZ4.out rfl
      obtain ⟨f1, f2, f3, f4, f5⟩ := word_back HK4.out.symm
      rw [← e1] at f1 f3 f5
      rw [← e2] at f2 f3 f4 f5
      have hbk := back_any A3 A4 c3 c4 P Q w4 hl3 hl4 HS3.out HS4.out
      have HBK := Lib.hid hbk
      have F5 := Lib.hid f5
      have F4 := Lib.hid (⟨f1, f2, f3, f4⟩ : FillOk P ∧ FillOk Q ∧ SameSh P Q ∧ IsPerm Q.flatten)
      clear e1 e2 f1 f2 f3 f4 f5 hbk HZ4 HK4 HS3 HS4
      go_wp2_with (first | (go_at_call 41; refine (HBK.out).mono ?_) | fail)
      rintro e w5 ⟨⟨k5, A5, c5, ys, rfl, hs5, hy40, hz5, hk5⟩, hb5⟩
      have k50 := hk5 F4.out
      subst k50
      obtain ⟨m, hu, hy⟩ := hz5 rfl
      have hyx : ys = xs := by rw [hy, F5.out m hu]
      subst hyx
      have hW5 := below_call HW4.out hB hb5
      have hsm := same_bA A5 A c5 cap ys ys w5 hxl hxl hs5 (H.out.now hW5 hB)
      have HSM := Lib.hid hsm
      have d5 : Hid (decide (ys = ys) = true) := decide_eq_true rfl
      clear hz5 hk5 hu hy hb5 hs5 HW4 HBK F4 F5 hsm
      go_wp2_with (first | (go_at_call 15; refine (HSM.out).mono ?_) | fail)
      rintro e w6 ⟨rfl, hb6⟩
      rw [d5.out]
      have hW6 := below_call hW5 hB hb6
      go_wp2
      go_meet
      exact hW6
    · have dk : (k4 == 0) = false := by simpa using k40
      go_wp2
      go_meet
      exact HW4.out
  case rest =>
    have hmp := makep_any C cap1 l wc hll (H1.out.now hcut hB)
    have HMP := Lib.hid hmp
    clear hmp HS3 HS4 HK4 HZ4 HW4
    go_wp2_with (first | (go_at_call 42; refine (HMP.out).mono ?_) | fail)
    rintro e w5 ⟨⟨k5, A5, A6, c5, c6, P5, Q5, rfl, hs5, hs6, hl5, hl6, hz5, hk5⟩, hb5⟩
    have hW5 := below_call hcut hB hb5
    have HS5 := Lib.hid hs5
    have HS6 := Lib.hid hs6
    have HZ5 := Lib.hid hz5
    have HW5 := Lib.hid hW5
    clear HMP hs5 hs6 hk5 hz5 hb5 hW5
    obtain ⟨w0, hw0⟩ : ∃ w0, w0 = wc := ⟨_, rfl⟩
    go_upto_if 78 with fail
    go_cut [] (fun wz => Below w.heap.size w wz)
    case first =>
      by_cases k50 : k5 = 0
      · subst k50
        obtain ⟨hok, e1, e2⟩ := HZ5.out rfl
        obtain ⟨f1, f2, f3, f5⟩ := pairs_back hok
        have hl40 := hok.len
        rw [← e1] at f1 f3 f5
        rw [← e2] at f2 f3 f5
        have hbk := backp_any A5 A6 c5 c6 P5 Q5 w5 hl5 hl6 HS5.out HS6.out
        have HBK := Lib.hid hbk
        have F5 := Lib.hid f5
        have F4 := Lib.hid (⟨f1, f2, f3⟩ : FillOk P5 ∧ FillOk Q5 ∧ SameSh P5 Q5)
        clear e1 e2 f1 f2 f3 f5 hbk HZ5 HS5 HS6 hok
        go_wp2_with (first | (go_at_call 43; refine (HBK.out).mono ?_) | fail)
        rintro e w6 ⟨⟨k6, A7, c7, m, rfl, hs7, hm40, hz6, hk6, _⟩, hb6⟩
        have k60 := hk6 F4.out
        subst k60
        have hml := F5.out m (hz6 rfl).2.2.2
        subst hml
        have hW6 := below_call HW5.out hB hb6
        have hsm := psame_any A7 C c7 cap1 m m w6 hll hll hs7 (H1.out.now hW6 hB)
        have HSM := Lib.hid hsm
        have d5 : Hid (decide (m = m) = true) := decide_eq_true rfl
        clear hz6 hk6 hb6 hs7 HW5 HBK F4 F5 hsm
        go_wp2_with (first | (go_at_call 44; refine (HSM.out).mono ?_) | fail)
        rintro e w7 ⟨rfl, d, rfl⟩
        rw [d5.out]
        have hW7 := below_drewN hW6 d
        go_wp2
        go_meet
        exact hW7
      · have dk : (k5 == 0) = false := by simpa using k50
        go_wp2
        go_meet
        exact HW5.out
    case rest =>
      clear HS5 HS6 HZ5 HW5 hw0
      have hbk := backp_any D E cap2 cap3 p q wc hpl hql (H2.out.now hcut hB) (H3.out.now hcut hB)
      have HBK := Lib.hid hbk
      clear hbk
      go_wp2_with (first | (go_at_call 43; refine (HBK.out).mono ?_) | fail)
      rintro e w6 ⟨⟨k6, A7, c7, m, rfl, hs7, hm40, hz6, hk6, hn6⟩, hb6⟩
      have hW6 := below_call hcut hB hb6
      by_cases k60 : k6 = 0
      · obtain ⟨f1, f2, f3, f4⟩ := hz6 k60
        obtain ⟨hok, g1, g2⟩ := back_pairs f1 f2 f3 f4 hm40
        subst k60
        have hmp := makep_any A7 c7 m w6 (by omega) hs7
        have HMP := Lib.hid hmp
        have HOK := Lib.hid hok
        have HG1 := Lib.hid g1
        have HG2 := Lib.hid g2
        have HW6 := Lib.hid hW6
        clear hz6 hk6 hn6 hb6 f1 f2 f3 f4 g1 g2 hok hmp hs7 HBK hW6 hcut
        go_wp2_with (first | (go_at_call 42; refine (HMP.out).mono ?_) | fail)
        rintro e w7 ⟨⟨k7, A8, A9, c8, c9, P7, Q7, rfl, hs8, hs9, hl8, hl9, hz7, hk7⟩, hb7⟩
        have k70 := hk7 HOK.out
        subst k70
        obtain ⟨_, e1, e2⟩ := hz7 rfl
        have hP : P7 = p := by rw [e1, HG1.out]
        have hQ : Q7 = q := by rw [e2, HG2.out]
        subst hP
        subst hQ
        have hW7 := below_call HW6.out hB hb7
        have hr7 := rows_sameB A8 D c8 cap2 P7.length P7 P7 w7 hpl hs8 (H2.out.now hW7 hB) rfl rfl
        have HR7 := Lib.hid hr7
        have HS9 := Lib.hid hs9
        clear hz7 hk7 e1 e2 hb7 hs8 hs9 hr7 HOK HG1 HG2 HW6 HMP
        go_wp2_with (first | (go_at_call 31; refine (HR7.out).mono ?_) | fail)
        rintro e w8 ⟨rfl, hb8⟩
        have hW8 := below_call hW7 hB hb8
        have hr8 := rows_sameB A9 E c9 cap3 Q7.length Q7 Q7 w8 hql (HS9.out.keep hb8) (H3.out.now hW8 hB) rfl rfl
        have HR8 := Lib.hid hr8
        clear hb8 hW7 HR7 HS9 hr8
        go_wp2_with (first | (go_at_call 31; refine (HR8.out).mono ?_) | fail)
        rintro e w9 ⟨rfl, hb9⟩
        have hW9 := below_call hW8 hB hb9
        go_wp2
        go_ret
        exact ⟨rfl, hW9⟩
      · have dk : (k6 != 0) = true := by simpa using k60
        have hmn := hn6 k60
        subst hmn
        clear hz6 hk6 hn6
        go_wp2
        go_ret
        exact ⟨rfl, hW6⟩
end Go.Proofs.Ytmlmdklheiafpaa
