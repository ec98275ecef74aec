/-
  signs.end, lines.links: which ends of the loops hang together.
-/
import Derived.StillTailTactics
import Derived.BigRegion
import Derived.Deep.RegionHeld3
import Derived.Test.YtpmkdihencepnaaMg23
import Derived.Test.YtpmkdihencepnaaMg24
namespace Go.Proofs.Ytpmkdihencepnaa
open Go.RowKit

/-- The place and the way in of an outer line. -/
theorem end_any (k n : Nat) (w : World) (hn : 1 ≤ n) (hn7 : n ≤ 7) (hk : k < 4 * n) :
    Calls Try.prog 79 #[.int .i64 k, .int .i64 n] w fun e w' => e = .returned (.tuple #[.int .i64 (gin n k).r, .int .i64 (gin n k).q, .int .i64 (gin n k).c]) ∧ w' = w := by
  have hdiv : (k : Int).tdiv n = ((k / n : Nat) : Int) := by rw [Int.tdiv_eq_ediv_of_nonneg (by omega)]; rfl
  have hn0 : (n : Int) ≠ 0 := by omega
  have hq : k / n < 4 := Nat.div_lt_of_lt_mul (by omega)
  have c0 : k / n = 0 ↔ k < n := by
    rw [Nat.div_eq_zero_iff]; omega
  have c1 : k / n ≤ 1 ↔ k < 2 * n := by rw [← Nat.lt_succ_iff, Nat.div_lt_iff_lt_mul (by omega)]
  have c2 : k / n ≤ 2 ↔ k < 3 * n := by rw [← Nat.lt_succ_iff, Nat.div_lt_iff_lt_mul (by omega)]
  obtain ⟨q, hqe⟩ : ∃ q, q = k / n := ⟨_, rfl⟩
  rw [← hqe] at hdiv hq c0 c1 c2
  clear hqe
  have hg : gin n k = if k < n then ⟨k, 0, 0⟩ else if k < 2 * n then ⟨n - 1, k - n, 1⟩ else if k < 3 * n then ⟨3 * n - 1 - k, n - 1, 2⟩ else ⟨0, 4 * n - 1 - k, 3⟩ := by
    unfold gin
    by_cases a : k < n
    · rw [if_pos (by omega), if_pos a]
    · rw [if_neg (by omega), if_neg a]
      by_cases b : k < 2 * n
      · rw [if_pos (by omega), if_pos b]
      · rw [if_neg (by omega), if_neg b]
        by_cases c : k < 3 * n
        · rw [if_pos (by omega), if_pos c]
        · rw [if_neg (by omega), if_neg c]
  rw [hg]
  clear hg
  go_enter Try.func79, Try.ntmps79
  by_cases d0 : q = 0
  · have e0 : ((q : Int) == 0) = true := by simpa using d0
    have hk1 : k < n := by omega
    rw [if_pos hk1]
    go_wp2
    go_ret3
    exact ⟨rfl, rfl⟩
  · have e0 : ((q : Int) == 0) = false := by simpa using d0
    have hk1 : ¬ k < n := by omega
    rw [if_neg hk1]
    by_cases d1 : q = 1
    · have e1 : ((q : Int) == 1) = true := by simp; omega
      have hk2 : k < 2 * n := by omega
      rw [if_pos hk2]
      go_wp2
      go_ret3
      exact ⟨rfl, rfl⟩
    · have e1 : ((q : Int) == 1) = false := by simp; omega
      have hk2 : ¬ k < 2 * n := by omega
      rw [if_neg hk2]
      by_cases d2 : q = 2
      · have e2 : ((q : Int) == 2) = true := by simp; omega
        have hk3 : k < 3 * n := by omega
        rw [if_pos hk3]
        go_wp2
        go_ret3
        exact ⟨rfl, rfl⟩
      · have e2 : ((q : Int) == 2) = false := by simp; omega
        have hk3 : ¬ k < 3 * n := by omega
        rw [if_neg hk3]
        go_wp2
        go_ret3
        exact ⟨rfl, rfl⟩

set_option maxRecDepth 100000 in
set_option maxHeartbeats 20000000 in
theorem links_any (gA gD n : Nat) (X : Cf) (f : Nat → Int) (hf : LinkOk n X f) (w : World) (hn7 : n ≤ 7) (hX : GdL n X 0) (hr : LR w w.heap.size gA gD n X) :
    Calls Try.prog 70 #[.agg #[.slice (some ⟨gA, 0, none⟩) n n, .slice (some ⟨gD, 0, none⟩) (n + 1) (n + 1)]] w fun e w' =>
      (∃ A c, e = .returned (.slice A (2 * n) c) ∧ w'.ownsRow w.heap.size 3 1 (.slice A (2 * n) c) (2 * n) (ints (tab (2 * n) f))) ∧ Below w.heap.size w w' := by
  have hn1 : 1 ≤ n := by have := hX.pos; omega
  obtain ⟨n2, hn2'⟩ : ∃ m, m = 2 * n := ⟨_, rfl⟩
  have hn2 : 2 * (n : Int) = (n2 : Int) := by omega
  rw [← hn2']
  have HN2 := Lib.hid hn2'
  have HF := Lib.hid hf
  have HX := Lib.hid hX
  have HR := Lib.hid hr
  have hsm : n2 ≤ 14 := by omega
  clear hn2' hf hX hr
  go_enter Try.func70, Try.ntmps70
  go_upto_region 1 with fail
  obtain ⟨w1, hw1⟩ : ∃ w1, w1 = w.alloc (.cells #[.slice (some ⟨gA, 0, none⟩) n n, .slice (some ⟨gD, 0, none⟩) (n + 1) (n + 1)] 63) := ⟨_, rfl⟩
  have hW1 : Below w.heap.size w w1 := by rw [hw1]; exact (Below.refl _ _).alloc (Nat.le_refl _) _
  have hc0 : w1.cell? ⟨w.heap.size, 0, none⟩ = some (.slice (some ⟨gA, 0, none⟩) n n) := by rw [hw1, World.cell?_alloc_at _ _ _ _ rfl]; rfl
  have hc1 : w1.cell? ⟨w.heap.size, 1, none⟩ = some (.slice (some ⟨gD, 0, none⟩) (n + 1) (n + 1)) := by rw [hw1, World.cell?_alloc_at _ _ _ _ rfl]; rfl
  have hs1 : w1.heap.size = w.heap.size + 1 := by rw [hw1]; simp
  rw [← hw1]
  clear hw1
  obtain ⟨N, hNe⟩ : ∃ N, N = w.heap.size := ⟨_, rfl⟩
  rw [← hNe] at hc0 hc1 hs1 ⊢
  have HNE := Lib.hid hNe
  have hN1 : N + 1 ≤ w1.heap.size := by omega
  clear hNe hs1
  go_wp2_with (first | (refine wpList_mk (base := N + 1) rfl (.tmp 16) (.tmp 16) rfl n2 rfl rfl (by omega) hN1 (fun w2 hown hb2 hz2 => ?_)) | fail)
  rw [tab_zero] at hown
  obtain ⟨gO, hgO⟩ : ∃ g, g = w1.heap.size := ⟨_, rfl⟩
  have hgN : N < gO := by omega
  rw [← hgO] at hown ⊢
  have HO := Lib.hid hown
  have HW2 : Hid (Below w1.heap.size w1 w2) := Lib.hid hb2
  have HW1 := Lib.hid hW1
  have HC0 := Lib.hid hc0
  have HC1 := Lib.hid hc1
  clear hown hb2 hz2 hW1 hc0 hc1 hN1
  have HG := Lib.hid hgO
  clear hgO
  go_wp2
  go_loopw [20] (fun ev wz => ∃ e : Nat, e ≤ n2 ∧ ev = .int .i64 e ∧ wz.ownsRow (N + 1) 3 1 (.slice (some ⟨gO, 0, none⟩) n2 n2) n2 (ints (tab n2 (fun b => if b < e then f b else 0))) ∧ Below (N + 1) w1 wz) (fun ev _ => n2 - (intOf ev).toNat)
  case atStart => exact ⟨0, Nat.zero_le _, rfl, by simpa using HO.out, HW2.out.mono (by have := HG.out; omega)⟩
  case round =>
    clear HO HW2
    obtain ⟨e, he, rfl, hown, hW⟩ := hrel
    have HO := Lib.hid hown
    have HW := Lib.hid hW
    clear hown hW
    by_cases hen : e < n2
    · have de : decide (e < n2) = true := decide_eq_true hen
      have de2 : decide ((e : Int) < (n2 : Int)) = true := decide_eq_true (by omega)
      have HEND : Hid (∀ w', Calls Try.prog 79 #[.int .i64 (2 * (e : Int)), .int .i64 n] w' fun x w'' => x = .returned (.tuple #[.int .i64 (gin n (2 * (e : Int))).r, .int .i64 (gin n (2 * (e : Int))).q, .int .i64 (gin n (2 * (e : Int))).c]) ∧ w'' = w') := Lib.hid fun w' => by
        have := end_any (2 * e) n w' hn1 hn7 (by have := HN2.out; omega)
        rwa [show ((2 * e : Nat) : Int) = 2 * (e : Int) by omega] at this
      obtain ⟨f0, f1, M, hM, hl⟩ := HF.out e (by have := HN2.out; omega)
      have hon := gin_on HX.out (k := 2 * (e : Int)) (by omega) (by have := HN2.out; omega) (by omega)
      obtain ⟨d0, hd0⟩ : ∃ d, d = gin n (2 * (e : Int)) := ⟨_, rfl⟩
      unfold Outs at hM
      rw [← hd0] at HEND hM hl hon
      obtain ⟨r0, hr0⟩ : ∃ r, r = d0.r := ⟨_, rfl⟩
      obtain ⟨q0, hq0⟩ : ∃ r, r = d0.q := ⟨_, rfl⟩
      obtain ⟨c0, hc0⟩ : ∃ r, r = d0.c := ⟨_, rfl⟩
      rw [← hr0, ← hq0, ← hc0] at HEND
      have HR0 := Lib.hid hr0
      have HQ0 := Lib.hid hq0
      have HCC := Lib.hid hc0
      have HM := Lib.hid hM
      have HL := Lib.hid hl
      have HON := Lib.hid hon
      clear hM hl hon hd0 hr0 hq0 hc0
      go_wp2_with (first | (go_at_call 79; refine (HEND.out _).mono ?_; rintro x w5 ⟨rfl, rfl⟩) | fail)
      clear HEND
      have hM0 : 0 < M := by
        rcases Nat.eq_zero_or_pos M with h | h
        · subst h; exact absurd HON.out.ins HM.out.2
        · exact h
      go_wp2
      go_loopg [6, 7, 8] M (fun g iv jv cv wz => ∃ t a b c : Nat, t < M ∧ g + t = M ∧ (it X d0 t).r = a ∧ (it X d0 t).q = b ∧ (it X d0 t).c = c ∧ iv = .int .i64 a ∧ jv = .int .i64 b ∧ cv = .int .i64 c ∧
        wz.ownsRow (N + 1) 3 1 (.slice (some ⟨gO, 0, none⟩) n2 n2) n2 (ints (tab n2 (fun b => if b < e then f b else 0))) ∧ Below (N + 1) w1 wz)
      case atStart =>
        have hi := HON.out.ins
        unfold Ins at hi
        refine ⟨0, r0.toNat, q0.toNat, c0, hM0, rfl, ?_, ?_, HCC.out.symm, ?_, ?_, rfl, HO.out, HW.out⟩
        · rw [← HR0.out] at hi; show d0.r = _; rw [← HR0.out]; omega
        · rw [← HQ0.out] at hi; show d0.q = _; rw [← HQ0.out]; omega
        · rw [← HR0.out] at hi; congr 1; omega
        · rw [← HQ0.out] at hi; congr 1; omega
      case round =>
        obtain ⟨w9, rfl⟩ : ∃ w9, w9 = wr := ⟨_, rfl⟩
        clear HO HW HR0 HQ0 HCC
        obtain ⟨t, a, b, c, htM, hgt, ha, hb, hc, rfl, rfl, rfl, hown, hW⟩ := hrel
        have hon : On n X (it X d0 t) := it_on HX.out HON.out (M := t) (fun u hu => HM.out.1 u (by omega))
        obtain ⟨hway4, hwy⟩ := box_way HX.out hon
        have hi := hon.ins
        unfold Ins at hi
        rw [ha, hb] at hi hway4 hwy
        rw [hc] at hway4 hwy
        have hnx1 : (it X d0 (t + 1)).r = mvR a (wyAt X a b c) := by show mvR (it X d0 t).r (wyAt X (it X d0 t).r (it X d0 t).q (it X d0 t).c) = _; rw [ha, hb, hc]
        have hnx2 : (it X d0 (t + 1)).q = mvQ b (wyAt X a b c) := by show mvQ (it X d0 t).q (wyAt X (it X d0 t).r (it X d0 t).q (it X d0 t).c) = _; rw [ha, hb, hc]
        have hnx3 : (it X d0 (t + 1)).c = (wyAt X a b c + 2) % 4 := by show (wyAt X (it X d0 t).r (it X d0 t).q (it X d0 t).c + 2) % 4 = _; rw [ha, hb, hc]
        have hc4 : c < 4 := by rw [← hc]; exact hon.c4
        have han : a < n := by omega
        have hbn : b < n := by omega
        have hr := HR.out.below (HW1.out.trans (hW.mono (by have := HNE.out; omega)))
        obtain ⟨g1, k1, l1, l2, _⟩ := hr.a a han
        obtain ⟨g2, k2, l3, l4, _⟩ := hr.d (a + 1) (by omega)
        obtain ⟨g3, k3, l5, l6, _⟩ := hr.d a (by omega)
        have m1 := l2 b (by omega)
        have m2 := l2 (b + 1) (by omega)
        have m3 := l4 b hbn
        have m4 := l6 b hbn
        obtain ⟨x0, hx0⟩ : ∃ x, x = X (.h a b) := ⟨_, rfl⟩
        obtain ⟨x1, hx1⟩ : ∃ x, x = X (.v ((a : Int) + 1) b) := ⟨_, rfl⟩
        obtain ⟨x2, hx2⟩ : ∃ x, x = X (.h a ((b : Int) + 1)) := ⟨_, rfl⟩
        obtain ⟨x3, hx3⟩ : ∃ x, x = X (.v a b) := ⟨_, rfl⟩
        rw [← hx0, ← hx1, ← hx2, ← hx3] at hway4
        rw [← hx0] at m1
        rw [show ((b + 1 : Nat) : Int) = (b : Int) + 1 from rfl, ← hx2] at m2
        rw [show ((a + 1 : Nat) : Int) = (a : Int) + 1 from rfl, ← hx1] at m3
        rw [← hx3] at m4
        have n0 := (hW.cell (p := ⟨N, 0, none⟩) (Nat.lt_succ_self N)).trans HC0.out
        have n1 := (hW.cell (p := ⟨N, 1, none⟩) (Nat.lt_succ_self N)).trans HC1.out
        have HO := Lib.hid hown
        have HW := Lib.hid hW
        have HN1 := Lib.hid hnx1
        have HN2' := Lib.hid hnx2
        have HN3 := Lib.hid hnx3
        have HW4 := Lib.hid hway4
        have HWY := Lib.hid hwy
        clear hown hW hnx1 hnx2 hnx3 hway4 hwy hon ha hb hc hx0 hx1 hx2 hx3 hr l2 l4 l6 hi
        have n0d : w9.drew.cell? ⟨N, 0, none⟩ = some (.slice (some ⟨gA, 0, none⟩) n n) := n0
        have n1d : w9.drew.cell? ⟨N, 1, none⟩ = some (.slice (some ⟨gD, 0, none⟩) (n + 1) (n + 1)) := n1
        have l1d : w9.drew.cell? ⟨gA, a, none⟩ = some (.slice (some ⟨g1, 0, none⟩) (n + 1) k1) := l1
        have l3d : w9.drew.cell? ⟨gD, a + 1, none⟩ = some (.slice (some ⟨g2, 0, none⟩) n k2) := l3
        have l5d : w9.drew.cell? ⟨gD, a, none⟩ = some (.slice (some ⟨g3, 0, none⟩) n k3) := l5
        have m1d : w9.drew.cell? ⟨g1, b, none⟩ = some (.bool x0) := m1
        have m2d : w9.drew.cell? ⟨g1, b + 1, none⟩ = some (.bool x2) := m2
        have m3d : w9.drew.cell? ⟨g2, b, none⟩ = some (.bool x1) := m3
        have m4d : w9.drew.cell? ⟨g3, b, none⟩ = some (.bool x3) := m4
        have hwa : IntKind.i64.wrap ((a : Int) + 1) = (a : Int) + 1 := IntWalk.i64_in _ (by omega)
        have hwb : IntKind.i64.wrap ((b : Int) + 1) = (b : Int) + 1 := IntWalk.i64_in _ (by omega)
        go_upto_region 8 with fail
        go_cut [65, 66, 67] (fun sv lv zv wz => ∃ g, sv = .slice (some ⟨g, 0, none⟩) 4 4 ∧ lv = .int .i64 4 ∧ zv = .int .i64 0 ∧ (∀ u, u < 4 → wz.cell? ⟨g, u, none⟩ = some (.bool (pick x0 x1 x2 x3 u))) ∧ Below w9.heap.size w9 wz)
        case first =>
          have hbz : Below w9.heap.size w9 (w9.alloc (.cells #[.bool x0, .bool x1, .bool x2, .bool x3] 4)).drew := below_drewN ((Below.refl _ _).alloc (Nat.le_refl _) _) 1
          have z0 : (w9.alloc (.cells #[.bool x0, .bool x1, .bool x2, .bool x3] 4)).drew.cell? ⟨N, 0, none⟩ = some (.slice (some ⟨gA, 0, none⟩) n n) := cell_stay hbz n0
          have z1 : (w9.alloc (.cells #[.bool x0, .bool x1, .bool x2, .bool x3] 4)).drew.cell? ⟨N, 1, none⟩ = some (.slice (some ⟨gD, 0, none⟩) (n + 1) (n + 1)) := cell_stay hbz n1
          have z2 : (w9.alloc (.cells #[.bool x0, .bool x1, .bool x2, .bool x3] 4)).drew.cell? ⟨gA, a, none⟩ = some (.slice (some ⟨g1, 0, none⟩) (n + 1) k1) := cell_stay hbz l1
          have z3 : (w9.alloc (.cells #[.bool x0, .bool x1, .bool x2, .bool x3] 4)).drew.cell? ⟨gD, a + 1, none⟩ = some (.slice (some ⟨g2, 0, none⟩) n k2) := cell_stay hbz l3
          have z4 : (w9.alloc (.cells #[.bool x0, .bool x1, .bool x2, .bool x3] 4)).drew.cell? ⟨gD, a, none⟩ = some (.slice (some ⟨g3, 0, none⟩) n k3) := cell_stay hbz l5
          have z5 : (w9.alloc (.cells #[.bool x0, .bool x1, .bool x2, .bool x3] 4)).drew.cell? ⟨g1, b, none⟩ = some (.bool x0) := cell_stay hbz m1
          have z6 : (w9.alloc (.cells #[.bool x0, .bool x1, .bool x2, .bool x3] 4)).drew.cell? ⟨g1, b + 1, none⟩ = some (.bool x2) := cell_stay hbz m2
          have z7 : (w9.alloc (.cells #[.bool x0, .bool x1, .bool x2, .bool x3] 4)).drew.cell? ⟨g2, b, none⟩ = some (.bool x1) := cell_stay hbz m3
          have z8 : (w9.alloc (.cells #[.bool x0, .bool x1, .bool x2, .bool x3] 4)).drew.cell? ⟨g3, b, none⟩ = some (.bool x3) := cell_stay hbz m4
          clear hbz n0 n1 l1 l3 l5 m1 m2 m3 m4 HO HW HN1 HN2' HN3 HW4 HWY HF HX HR HON HM HL HC0 HC1 HW1 HG HNE HN2
          have v4 : IntKind.i64.wrap (a : Int) = a := IntWalk.i64_in _ (by omega)
          have v5 : IntKind.i64.wrap (b : Int) = b := IntWalk.i64_in _ (by omega)
          have y0 : (0 : Int) ≤ (a : Int) + 1 := by omega
          have y1 : (0 : Int) ≤ (b : Int) + 1 := by omega
          have y2 : a + 1 < n + 1 := by omega
          have y3 : (a : Int) + 1 < (n : Int) + 1 := by omega
          have y4 : b + 1 < n + 1 := by omega
          have y5 : (a : Int) < (n : Int) + 1 := by omega
          have y6 : (b : Int) + 1 < (n : Int) + 1 := by omega
          have y7 : (b : Int) < (n : Int) + 1 := by omega
          have y8 : (a : Int) < (n : Int) := by omega
          have y9 : (b : Int) < (n : Int) := by omega
          go_wp2
          go_region_held3 (fun w' => w'.cell? ⟨N, 0, none⟩ = some (.slice (some ⟨gA, 0, none⟩) n n) ∧ w'.cell? ⟨N, 1, none⟩ = some (.slice (some ⟨gD, 0, none⟩) (n + 1) (n + 1)) ∧ w'.cell? ⟨gA, a, none⟩ = some (.slice (some ⟨g1, 0, none⟩) (n + 1) k1) ∧ w'.cell? ⟨gD, a + 1, none⟩ = some (.slice (some ⟨g2, 0, none⟩) n k2) ∧ w'.cell? ⟨gD, a, none⟩ = some (.slice (some ⟨g3, 0, none⟩) n k3) ∧ w'.cell? ⟨g1, b, none⟩ = some (.bool x0) ∧ w'.cell? ⟨g1, b + 1, none⟩ = some (.bool x2) ∧ w'.cell? ⟨g2, b, none⟩ = some (.bool x1) ∧ w'.cell? ⟨g3, b, none⟩ = some (.bool x3)) (first | go_keep | exact ⟨z0, z1, z2, z3, z4, z5, z6, z7, z8⟩) (first | fail)
          all_goals
            go_wp2
            go_meet
            refine ⟨_, rfl, rfl, rfl, fun u hu => ?_, below_drewN ((Below.refl _ _).alloc (Nat.le_refl _) _) 1⟩
            exact lit_four _ _ _ _ _ _ hu
        case rest =>
          obtain ⟨gB, rfl, rfl, rfl, hlit, hbz⟩ := hcut
          have HLIT := Lib.hid hlit
          have HBZ := Lib.hid hbz
          clear hlit hbz n0d n1d l1d l3d l5d m1d m2d m3d m4d n0 n1 l1 l3 l5 m1 m2 m3 m4
          go_wp2
          go_loopw [9, 67] (fun wv uv wz => ∃ u : Nat, u ≤ 4 ∧ uv = .int .i64 u ∧ wv = .int .i64 (wayTo x0 x1 x2 x3 c u) ∧ wz = wc) (fun _ uv _ => 4 - (intOf uv).toNat)
          case atStart => exact ⟨0, by omega, rfl, rfl, rfl⟩
          case round =>
            obtain ⟨u, hu, rfl, rfl, rfl⟩ := hrel
            by_cases hu4 : u < 4
            · have du : decide (u < 4) = true := decide_eq_true hu4
              have du2 : decide ((u : Int) < 4) = true := decide_eq_true (by omega)
              have hcu := HLIT.out u hu4
              obtain ⟨pb, hpb⟩ : ∃ x, x = pick x0 x1 x2 x3 u := ⟨_, rfl⟩
              rw [← hpb] at hcu
              cases pb with
              | false =>
                have hms := Lib.hid (wayTo_miss (c := c) (.inl hpb.symm))
                clear hpb
                go_wp2
                go_roundw
                case rel => exact ⟨u + 1, by omega, by go_num, by rw [hms.out], by first | rfl | trivial⟩
                case measure => simp [intOf]; omega
              | true =>
                by_cases huc : u = c
                · have dne : ((u : Int) != (c : Int)) = false := by simp; omega
                  have hms := Lib.hid (wayTo_miss (x0 := x0) (x1 := x1) (x2 := x2) (x3 := x3) (.inr huc))
                  clear hpb huc
                  go_wp2
                  go_roundw
                  case rel => exact ⟨u + 1, by omega, by go_num, by rw [hms.out], by first | rfl | trivial⟩
                  case measure => simp [intOf]; omega
                · have dne : ((u : Int) != (c : Int)) = true := by simp; omega
                  have hms := Lib.hid (wayTo_hit hpb.symm huc)
                  clear hpb huc
                  go_wp2
                  go_roundw
                  case rel => exact ⟨u + 1, by omega, by go_num, by rw [hms.out], by first | rfl | trivial⟩
                  case measure => simp [intOf]; omega
            · have du : decide (u < 4) = false := decide_eq_false hu4
              have du2 : decide ((u : Int) < 4) = false := decide_eq_false (by omega)
              obtain rfl : u = 4 := by omega
              rw [HW4.out]
              obtain ⟨v, hv⟩ : ∃ v, v = wyAt X a b c := ⟨_, rfl⟩
              rw [← hv] at HN1 HN2' HN3 HWY ⊢
              clear hv hu4 hu
              go_upto_block 6 with fail
              go_cut [6, 7] (fun iv jv wz => iv = .int .i64 (mvR a v) ∧ jv = .int .i64 (mvQ b v) ∧ wr = wz)
              case first =>
                have hv4 := HWY.out
                clear HN1 HN2' HN3 HWY HW4 HF HX HR HON HM HL
                rcases lt4 hv4 with rfl | rfl | rfl | rfl
                · go_wp2
                  go_meet
                  exact ⟨rfl, rfl, rfl⟩
                · go_wp2
                  go_meet
                  exact ⟨rfl, rfl, rfl⟩
                · go_wp2
                  go_meet
                  exact ⟨rfl, rfl, rfl⟩
                · go_wp2
                  go_meet
                  exact ⟨rfl, rfl, rfl⟩
              case rest =>
                obtain ⟨rfl, rfl, rfl⟩ := hcut
                rw [← HN1.out, ← HN2'.out]
                obtain ⟨r1, hr1⟩ : ∃ r, r = (it X d0 (t + 1)).r := ⟨_, rfl⟩
                obtain ⟨q1, hq1⟩ : ∃ r, r = (it X d0 (t + 1)).q := ⟨_, rfl⟩
                have hb1 : -1 ≤ r1 ∧ r1 ≤ n := by
                  rw [hr1, HN1.out]
                  rcases lt4 HWY.out with h | h | h | h <;> rw [h] <;> simp only [mvR] <;> omega
                have hb2 : -1 ≤ q1 ∧ q1 ≤ n := by
                  rw [hq1, HN2'.out]
                  rcases lt4 HWY.out with h | h | h | h <;> rw [h] <;> simp only [mvQ] <;> omega
                have hins : Hid ((t + 1 < M → Ins n r1 q1) ∧ (t + 1 = M → ¬ Ins n r1 q1 ∧ lineOf n r1 q1 = 2 * f e)) := by
                  refine ⟨fun h => ?_, fun h => ?_⟩
                  · rw [hr1, hq1]; exact HM.out.1 (t + 1) h
                  · have h2 := HM.out.2
                    have h3 := HL.out
                    rw [← h] at h2 h3
                    rw [hr1, hq1]; exact ⟨h2, h3⟩
                obtain ⟨c', hc'⟩ : ∃ k, k = (v + 2) % 4 := ⟨_, rfl⟩
                have hcm : ((v : Int) + 2) % 4 = (c' : Int) := by rw [hc']; omega
                have hcm2 : ((v : Int) + 2).tmod 4 = (c' : Int) := by rw [Int.tmod_eq_emod_of_nonneg (by omega)]; exact hcm
                have hv4 := HWY.out
                rw [← hr1, ← hq1]
                have HR1 := Lib.hid hr1
                have HQ1 := Lib.hid hq1
                have HCP := Lib.hid hc'
                have hWB : Hid (Below (N + 1) w1 wr ∧ wr.ownsRow (N + 1) 3 1 (.slice (some ⟨gO, 0, none⟩) n2 n2) n2 (ints (tab n2 (fun b => if b < e then f b else 0)))) := by
                  have hlt := HO.out.lt gO rfl
                  exact ⟨HW.out.trans (HBZ.out.mono (by omega)), own_below HO.out HBZ.out⟩
                clear hr1 hq1 hc' du du2
                by_cases ht : t + 1 < M
                · have hi := hins.out.1 ht
                  unfold Ins at hi
                  have e1 : decide (q1 < 0) = false := decide_eq_false (by omega)
                  have e2 : decide ((n : Int) ≤ r1) = false := decide_eq_false (by omega)
                  have e3 : decide ((n : Int) ≤ q1) = false := decide_eq_false (by omega)
                  have e4 : decide (r1 < 0) = false := decide_eq_false (by omega)
                  have hgt2 : gk - 1 + (t + 1) = M := by omega
                  have HT := Lib.hid hgt2
                  go_wp2
                  go_roundg (gk - 1)
                  case measure => omega
                  case rel =>
                    refine ⟨t + 1, r1.toNat, q1.toNat, c', ht, HT.out, ?_, ?_, ?_, ?_, ?_, rfl, hWB.out.2, hWB.out.1⟩
                    · rw [← HR1.out]; omega
                    · rw [← HQ1.out]; omega
                    · rw [HN3.out, HCP.out]
                    · congr 1; omega
                    · congr 1; omega
                · have hte : t + 1 = M := by omega
                  obtain ⟨hno, hln⟩ := hins.out.2 hte
                  unfold Ins at hno
                  unfold lineOf at hln
                  have hwo := hWB.out.2
                  have hold := own_get hwo (tab_get hen)
                  have hfz := hwo.frozenAt e
                  have hst := own_set hwo e (f e)
                  rw [tab_set, tab_congr (g := fun b => if b < e + 1 then f b else 0) (fun x _ => by
                    by_cases c1 : x = e
                    · subst c1; rw [if_pos rfl, if_pos (by omega)]
                    · rw [if_neg c1]
                      by_cases c2 : x < e
                      · rw [if_pos c2, if_pos (by omega)]
                      · rw [if_neg c2, if_neg (by omega)])] at hst
                  have hWs := hWB.out.1.setCell (p := ⟨gO, e, none⟩) (by show N + 1 ≤ gO; omega) (.int .i64 (f e))
                  obtain ⟨fe, hfe⟩ : ∃ x, x = f e := ⟨_, rfl⟩
                  rw [← hfe] at hln hst hWs f0 f1
                  have HFE := Lib.hid hfe
                  have HSTR := Lib.hid hst
                  have HWS := Lib.hid hWs
                  clear hst hWs hwo hfe hte ht
                  by_cases k1 : q1 < 0
                  · have e1 : decide (q1 < 0) = true := decide_eq_true k1
                    rw [if_pos k1] at hln
                    have hd1 : r1.tdiv 2 = fe := by rw [hln]; exact Int.mul_tdiv_cancel_left _ (by decide)
                    have hd2 : r1 / 2 = fe := by omega
                    clear hln hno
                    go_wp2
                    go_roundw
                    case rel => exact ⟨e + 1, by omega, by go_num, HSTR.out, HWS.out⟩
                    case measure => simp [intOf]; omega
                  · have e1 : decide (q1 < 0) = false := decide_eq_false k1
                    rw [if_neg k1] at hln
                    by_cases k2 : r1 ≥ n
                    · have e2 : decide ((n : Int) ≤ r1) = true := decide_eq_true k2
                      rw [if_pos k2] at hln
                      have hd1 : ((n : Int) + q1).tdiv 2 = fe := by rw [hln]; exact Int.mul_tdiv_cancel_left _ (by decide)
                      have hd2 : ((n : Int) + q1) / 2 = fe := by omega
                      clear hln hno
                      go_wp2
                      go_roundw
                      case rel => exact ⟨e + 1, by omega, by go_num, HSTR.out, HWS.out⟩
                      case measure => simp [intOf]; omega
                    · have e2 : decide ((n : Int) ≤ r1) = false := decide_eq_false k2
                      rw [if_neg k2] at hln
                      by_cases k3 : q1 ≥ n
                      · have e3 : decide ((n : Int) ≤ q1) = true := decide_eq_true k3
                        rw [if_pos k3] at hln
                        have hd1 : (3 * (n : Int) - 1 - r1).tdiv 2 = fe := by rw [hln]; exact Int.mul_tdiv_cancel_left _ (by decide)
                        have hd2 : (3 * (n : Int) - 1 - r1) / 2 = fe := by omega
                        clear hln hno
                        go_wp2
                        go_roundw
                        case rel => exact ⟨e + 1, by omega, by go_num, HSTR.out, HWS.out⟩
                        case measure => simp [intOf]; omega
                      · have e3 : decide ((n : Int) ≤ q1) = false := decide_eq_false k3
                        rw [if_neg k3] at hln
                        have e4 : decide (r1 < 0) = true := decide_eq_true (by omega)
                        have hd1 : (4 * (n : Int) - 1 - q1).tdiv 2 = fe := by rw [hln]; exact Int.mul_tdiv_cancel_left _ (by decide)
                        have hd2 : (4 * (n : Int) - 1 - q1) / 2 = fe := by omega
                        clear hln hno
                        go_wp2
                        go_roundw
                        case rel => exact ⟨e + 1, by omega, by go_num, HSTR.out, HWS.out⟩
                        case measure => simp [intOf]; omega
    · have de : decide (e < n2) = false := decide_eq_false hen
      have de2 : decide ((e : Int) < (n2 : Int)) = false := decide_eq_false (by omega)
      have hee : e = n2 := by omega
      go_wp2
      go_ret
      have ho := HO.out
      rw [hee, tab_congr (g := f) (fun x hx => if_pos hx)] at ho
      exact ⟨⟨_, _, rfl, ho.mono (by have := HNE.out; omega)⟩, HW1.out.trans (HW.out.mono (by have := HNE.out; omega))⟩
end Go.Proofs.Ytpmkdihencepnaa

/-
  signs.Links: what it answers; what the law asks of two answers.
-/
namespace Go.Proofs.Ytpmkdihencepnaa
open Go.RowKit

/-- The ends, one of the ways to tell them. -/
noncomputable def linkF (n : Nat) (X : Cf) : Nat → Int := open Classical in if h : ∃ f, LinkOk n X f then h.choose else fun _ => 0
theorem linkF_ok {n : Nat} {X : Cf} (h : GdL n X 0) : LinkOk n X (linkF n X) := by
  have h2 := link_ok h
  unfold linkF
  rw [dif_pos h2]
  exact h2.choose_spec
def LinksTo (m : List (List Int)) (xs : List Int) : Prop := (SignOk m ∧ xs = tab (2 * m.length) (linkF m.length (lpC m))) ∨ (¬ SignOk m ∧ xs = [])
theorem LinksTo.fn {m : List (List Int)} {r s : List Int} (h : LinksTo m r) (h' : LinksTo m s) : r = s := by
  rcases h with ⟨a, rfl⟩ | ⟨a, rfl⟩ <;> rcases h' with ⟨c, rfl⟩ | ⟨c, rfl⟩
  · rfl
  · exact absurd a c
  · exact absurd c a
  · rfl
def LinksOut (B : Nat) (m : List (List Int)) (e : Ending) (w' : World) : Prop := ToldL (LinksTo m) B e w'


set_option maxRecDepth 100000 in
set_option maxHeartbeats 2000000 in
theorem linksF_any (A : Option Addr) (cap : Nat) (m : List (List Int)) (w : World) (hcl : m.length ≤ 9223372036854775807) (h : SR w w.heap.size A m) :
    Calls Try.prog 32 #[.slice A m.length cap] w fun e w' => LinksOut w.heap.size m e w' ∧ Below w.heap.size w w' := by
  go_enter Try.func32, Try.ntmps32
  go_wp2_with fail
  refine (gcheck_any A cap m w hcl h).mono ?_
  rintro e w1 ⟨⟨k, rfl, hk⟩, hb1⟩
  rcases hk with ⟨hok, rfl⟩ | ⟨hno, rfl⟩
  · have HLO := Lib.hid (loops_any A cap m w1 hok (h.keep hb1))
    have HOK := Lib.hid hok
    have HB1 := Lib.hid hb1
    clear hok hb1 h
    go_wp2_with (first | (go_at_call 54; refine HLO.out.mono ?_) | fail)
    rintro e w2 hout
    obtain ⟨K, hKn, he, hA, hD, hall, hb2⟩ := hout
    have he2 : e = .returned (.agg #[.slice (some ⟨K.gA, 0, none⟩) m.length m.length, .slice (some ⟨K.gD, 0, none⟩) (m.length + 1) (m.length + 1)]) := by rw [← hKn]; exact he
    clear he
    subst he2
    have hp := HOK.out.2.pos
    have hlr := hall.lr (X := lpC m) (by omega) (by rw [hKn]; exact hA) (by rw [hKn]; exact hD)
    rw [hKn] at hlr
    have HLK := Lib.hid (links_any K.gA K.gD m.length (lpC m) (linkF m.length (lpC m)) (linkF_ok (lp_gdl HOK.out.2)) w2 HOK.out.1 (lp_gdl HOK.out.2) hlr)
    have hW2 := below_call HB1.out (Nat.le_refl _) hb2
    clear hlr hall hA hD hb2 HLO
    go_wp2_with (first | (go_at_call 70; refine HLK.out.mono ?_) | fail)
    rintro e w3 ⟨⟨A3, c3, rfl, hs⟩, hb3⟩
    have hfin : Hid (LinksOut w.heap.size m (.returned (.tuple #[.slice A3 (2 * m.length) c3, .int .i64 0])) w3 ∧ Below w.heap.size w w3) := by
      refine ⟨?_, below_call hW2 (Nat.le_refl _) hb3⟩
      have e9 : (tab (2 * m.length) (linkF m.length (lpC m))).length = 2 * m.length := tab_length _ _
      refine ⟨_, A3, c3, 0, by rw [e9], ?_, .inl ⟨HOK.out, rfl⟩⟩
      have h9 := hs.mono hW2.size
      rwa [e9]
    clear hs hb3 hW2 HLK
    go_wp2
    go_ret2
    exact hfin.out
  · have hfin : Hid (LinksOut w.heap.size m (.returned (.tuple #[.slice none 0 0, .int .i64 1])) w1) := ⟨[], none, 0, 1, rfl, World.ownsRow_nil _ _ _ _, .inr ⟨hno, rfl⟩⟩
    clear hno h
    go_wp2
    go_ret2
    exact ⟨hfin.out, hb1⟩

end Go.Proofs.Ytpmkdihencepnaa
