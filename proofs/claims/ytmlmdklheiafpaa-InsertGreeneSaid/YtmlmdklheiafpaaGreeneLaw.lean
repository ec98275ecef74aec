/-
  InsertGreene: the law, walked.
-/
import Derived.Test.YtmlmdklheiafpaaTabl8W
import Derived.Test.YtmlmdklheiafpaaPlacI
namespace Go.Proofs.Ytmlmdklheiafpaa
open Go.RowKit

theorem pick_anyA (x : Int) (n : Nat) (w : World) (hn : 0 < n) (hn2 : n ≤ 1000000) (h1 : -9223372036854775808 ≤ x) (h2 : x ≤ 9223372036854775807) :
    Calls Try.prog 36 #[.int .i64 x, .int .i64 n] w fun e w' => (∃ k : Nat, k < n ∧ e = .returned (.int .i64 k)) ∧ w = w' := by
  have key : ∀ y : Int, 0 ≤ y → ∃ k : Nat, k < n ∧ y.tmod (n : Int) = k := fun y hy => by
    have a1 := Int.emod_nonneg y (b := (n : Int)) (by omega)
    have a2 := Int.emod_lt_of_pos y (b := (n : Int)) (by omega)
    exact ⟨(y % (n : Int)).toNat, by omega, by rw [Int.tmod_eq_emod_of_nonneg hy]; omega⟩
  go_enter Try.func36, Try.ntmps36
  by_cases hx : x < 0
  · have hd : decide (x < 0) = true := decide_eq_true hx
    obtain ⟨k, hk, he⟩ := key (-(x + 1)) (by omega)
    clear key
    go_wp2
    go_ret
    exact ⟨⟨k, hk, rfl⟩, rfl⟩
  · have hd : decide (x < 0) = false := decide_eq_false hx
    obtain ⟨k, hk, he⟩ := key x (by omega)
    clear key
    go_wp2
    go_ret
    exact ⟨⟨k, hk, rfl⟩, rfl⟩
theorem RisOut.err {xs : List Int} {k v j : Int} {f : Nat → Nat} (h : RisOut xs k v j f) (hw : wordChk xs ≠ 0) : j = wordChk xs ∧ v = 0 := by
  rcases h with ⟨_, h1, h2⟩ | ⟨h1, _⟩ | ⟨h1, _⟩
  · exact ⟨h1, h2⟩
  · exact absurd h1 hw
  · exact absurd h1 hw
theorem RisOut.neg {xs : List Int} {k v j : Int} {f : Nat → Nat} (h : RisOut xs k v j f) (hw : wordChk xs = 0) (hk : k < 0) : j = 1 ∧ v = 0 := by
  rcases h with ⟨h1, _⟩ | ⟨_, _, h1, h2⟩ | ⟨_, h1, _⟩
  · exact absurd hw h1
  · exact ⟨h1, h2⟩
  · omega
theorem RisOut.ok {xs : List Int} {k v j : Int} {f : Nat → Nat} (h : RisOut xs k v j f) (hw : wordChk xs = 0) (hk : 0 ≤ k) : j = 0 ∧ v = (f k.toNat : Int) := by
  rcases h with ⟨h1, _⟩ | ⟨_, h1, _⟩ | ⟨_, _, h1, h2⟩
  · exact absurd hw h1
  · omega
  · exact ⟨h1, h2⟩

theorem two_made (w : World) {B n : Nat} (hB : B ≤ w.heap.size) (hn : n < 1000000) :
    ((w.alloc (.cells (madeCells #[.int .i64 0] n) 3)).alloc (.cells (madeCells #[.int .i64 0] n) 3)).ownsRow B 3 1 (.slice (some ⟨w.heap.size, 0, none⟩) n n) n (ints (List.replicate n 0)) ∧
    ((w.alloc (.cells (madeCells #[.int .i64 0] n) 3)).alloc (.cells (madeCells #[.int .i64 0] n) 3)).ownsRow B 3 1 (.slice (some ⟨w.heap.size + 1, 0, none⟩) n n) n (ints (List.replicate n 0)) ∧
    Below B w ((w.alloc (.cells (madeCells #[.int .i64 0] n) 3)).alloc (.cells (madeCells #[.int .i64 0] n) 3)) := by
  have e : (madeCells #[Value.int .i64 0] n).toList = ints (List.replicate n 0) := by simp [toList_madeCells_one, ints]
  have hs : (madeCells #[Value.int .i64 0] n).size = n * 1 := by rw [size_madeCells]; simp
  have h1 := World.ownsRow_lit (e := 3) (size := 1) (base := B) w (madeCells #[.int .i64 0] n) n hB (by unfold maxLen; omega) hs
  have h2 := World.ownsRow_lit (e := 3) (size := 1) (base := B) (w.alloc (.cells (madeCells #[.int .i64 0] n) 3)) (madeCells #[.int .i64 0] n) n (by simp; omega) (by unfold maxLen; omega) hs
  rw [e] at h1 h2
  have hz : (w.alloc (.cells (madeCells #[.int .i64 0] n) 3)).heap.size = w.heap.size + 1 := by simp
  rw [hz] at h2
  exact ⟨h1.alloc _, h2, ((Below.refl _ _).alloc hB _).alloc (by rw [hz]; omega) _⟩
theorem own_beside {w : World} {base n g1 g2 c j : Nat} {y : Value} {e : TypeId} {cs : List Value} (h : w.ownsRow base e 1 (.slice (some ⟨g2, 0, none⟩) n c) n cs) (hne : g1 ≠ g2) : (w.setCell ⟨g1, j, none⟩ y).ownsRow base e 1 (.slice (some ⟨g2, 0, none⟩) n c) n cs :=
  own_same h (fun k hk => by
    obtain rfl : g2 = k := by simpa [Value.ownBlock] using hk
    simp [World.setCell, Array.getElem?_modify, hne])

set_option maxRecDepth 100000 in
set_option maxHeartbeats 2000000 in
theorem greene_law (A A' : Option Addr) (cap cap' : Nat) (xs ps : List Int) (k : Int) (w : World) (hcl : xs.length ≤ 9223372036854775807) (hpl : ps.length ≤ 9223372036854775807) (h : Sl w w.heap.size A (ints xs)) (h' : Sl w w.heap.size A' (ints ps)) :
    Calls Try.prog 8 #[.slice A xs.length cap, .slice A' ps.length cap', .int .i64 k] w fun e w' => e = .returned (.bool true) ∧ Below w.heap.size w w' := by
  have hB := Nat.le_refl w.heap.size
  go_enter Try.func8, Try.ntmps8
  go_wp2_with (first | (go_at_call 33; refine (rising_any (some ⟨w.heap.size, 0, none⟩) 3 [1, 2, 1] 1 _ (by simp) (sl_litA w (ints [1, 2, 1]) _ (by simp))).mono ?_) | fail)
  rintro e w1 ⟨⟨v0, j0, rfl, hr0⟩, hb1⟩
  obtain ⟨h1, h2⟩ := hr0.ok (by decide) (by decide)
  have h3 : v0 = 2 := by rw [h2]; decide
  have hW1 : Below w.heap.size w w1 := below_call ((Below.refl _ _).alloc hB _) hB hb1
  subst h1 h3
  clear hr0 hb1 h2
  go_wp2_with (first | (go_at_call 33; refine (rising_any A cap xs k _ hcl (h.now hW1 hB)).mono ?_) | fail)
  rintro e w2 ⟨⟨v1, j1, rfl, hr1⟩, hb2⟩
  have hW2 : Below w.heap.size w w2 := below_call hW1 hB hb2
  clear hb2 hW1
  go_wp2_with (first | (go_at_call 34; refine (falling_any A cap xs k _ hcl (h.now hW2 hB)).mono ?_) | fail)
  rintro e w3 ⟨⟨v2, j2, rfl, hr2⟩, hb3⟩
  have hW3 : Below w.heap.size w w3 := below_call hW2 hB hb3
  clear hb3 hW2
  go_wp2_with (first | (go_at_call 33; refine (rising_any A cap xs 1 _ hcl (h.now hW3 hB)).mono ?_) | fail)
  rintro e w4 ⟨⟨v3, j3, rfl, hr3⟩, hb4⟩
  have hW4 : Below w.heap.size w w4 := below_call hW3 hB hb4
  clear hb4 hW3
  go_wp2_with (first | (go_at_call 35; refine (longest_any A cap xs _ hcl (h.now hW4 hB)).mono ?_) | fail)
  rintro e w5 ⟨⟨j4, l, A5, c5, rfl, hl5, hll, hj4, hg⟩, hb5⟩
  have hW5 : Below w.heap.size w w5 := below_call hW4 hB hb5
  have HR1 := Lib.hid hr1
  have HR2 := Lib.hid hr2
  have HR3 := Lib.hid hr3
  have HJ4 := Lib.hid hj4
  have HG := Lib.hid hg
  have HW5 := Lib.hid hW5
  clear hb5 hW4 hr1 hr2 hr3 hj4 hg
  by_cases hw : wordChk xs = 0
  · by_cases hk : k < 0
    · obtain ⟨rfl, rfl⟩ := HR1.out.neg hw hk
      obtain ⟨rfl, rfl⟩ := HR2.out.neg hw hk
      clear hw
      go_wp2
      go_ret
      exact ⟨rfl, HW5.out⟩
    · obtain ⟨rfl, e1⟩ := HR1.out.ok hw (by omega)
      obtain ⟨rfl, e2⟩ := HR2.out.ok hw (by omega)
      obtain ⟨rfl, e3⟩ := HR3.out.ok hw (by decide)
      have e4 := HJ4.out.trans hw
      subst e4
      obtain ⟨m, rfl⟩ := Int.eq_ofNat_of_zero_le (show 0 ≤ k by omega)
      rw [Int.toNat_natCast] at e1 e2
      obtain ⟨a, ha⟩ : ∃ a, a = topRows (insW [] xs) m := ⟨_, rfl⟩
      obtain ⟨b, hb⟩ : ∃ b, b = topCols (insW [] xs) m := ⟨_, rfl⟩
      obtain ⟨c, hc⟩ : ∃ c, c = topRows (insW [] xs) (1 : Int).toNat := ⟨_, rfl⟩
      rw [← ha] at e1
      rw [← hb] at e2
      rw [← hc] at e3
      subst e1 e2 e3
      have HA := Lib.hid ha
      have HBB := Lib.hid hb
      have HCC := Lib.hid hc
      have HWZ := Lib.hid hw
      clear ha hb hc hw hk
      by_cases hk40 : 40 < m
      · have dk : decide ((40 : Int) < (m : Int)) = true := decide_eq_true (by omega)
        by_cases ha0 : a = 0
        · by_cases hb0 : b = 0
          · subst ha0 hb0
            go_wp2
            go_ret
            exact ⟨rfl, HW5.out⟩
          · subst ha0
            have db : ((b : Int) == 0) = false := by simpa using hb0
            go_wp2
            go_ret
            exact ⟨rfl, HW5.out⟩
        · have da : ((a : Int) == 0) = false := by simpa using ha0
          go_wp2
          go_ret
          exact ⟨rfl, HW5.out⟩
      · have dk : decide ((40 : Int) < (m : Int)) = false := decide_eq_false (by omega)
        have hwz := wordChk_zero HWZ.out
        have hx40 := hwz.1
        have HX : Hid (∀ x ∈ xs, Lt x) := hwz.2
        obtain ⟨last, hgr⟩ := HG.out rfl
        have hlm := hgr.fin rfl
        have hlc : Hid (l.length = c) := by
          show _ = _
          rw [HCC.out, hlm, most_row]; rfl
        have HGR := Lib.hid hgr
        have dlc : ((l.length : Int) != (c : Int)) = false := by rw [hlc.out]; simp
        clear hwz hgr hlm
        have hn5 := HW5.out
        go_wp2
        go_loopw [97] (fun iv wr => ∃ (i : Nat), i ≤ l.length ∧ iv = .int .i64 i ∧ ∃ d, wr = w5.drewN d) (fun iv _ => l.length - (intOf iv).toNat)
        case atStart => exact ⟨0, Nat.zero_le _, rfl, 0, rfl⟩
        case round =>
          obtain ⟨i, hi, rfl, d, rfl⟩ := hrel
          by_cases hit : i < l.length
          · have di : decide (i < l.length) = true := decide_eq_true hit
            obtain ⟨b5, o5, rfl, hb5⟩ := hl5.addr (by omega)
            have hci := getD_cell hl5 hit
            have hp := HGR.out.pos i hit
            obtain ⟨X, hX⟩ : ∃ X : Nat, l.getD i 0 = (X : Int) + 1 := ⟨(l.getD i 0 - 1).toNat, by omega⟩
            rw [hX] at hci hp
            have hXn : X < xs.length := by omega
            obtain ⟨bx, ox, rfl, hbx⟩ := h.addr (by omega)
            have hcx := (hn5.cell (p := ⟨bx, ox + X, none⟩) hbx).trans (getD_cell h hXn)
            have dx1 : decide ((X : Int) + 1 < 1) = false := decide_eq_false (by omega)
            have dx2 : decide ((xs.length : Int) < (X : Int) + 1) = false := decide_eq_false (by omega)
            by_cases h0 : 0 < i
            · have d0 : decide ((0 : Int) < (i : Int)) = true := decide_eq_true (by omega)
              have hcp := getD_cell hl5 (k := i - 1) (by omega)
              have hpp := HGR.out.pos (i - 1) (by omega)
              obtain ⟨Y, hY⟩ : ∃ Y : Nat, l.getD (i - 1) 0 = (Y : Int) + 1 := ⟨(l.getD (i - 1) 0 - 1).toNat, by omega⟩
              rw [hY] at hcp hpp
              have hYn : Y < xs.length := by omega
              have hcy := (hn5.cell (p := ⟨bx, ox + Y, none⟩) hbx).trans (getD_cell h hYn)
              have hin := HGR.out.inc (i - 1) (by omega)
              rw [show i - 1 + 1 = i by omega, hX, hY, show ((X : Int) + 1 - 1).toNat = X by omega, show ((Y : Int) + 1 - 1).toNat = Y by omega] at hin
              have dx3 : decide ((X : Int) + 1 ≤ (Y : Int) + 1) = false := decide_eq_false (by omega)
              have dx3' : decide (X ≤ Y) = false := decide_eq_false (by omega)
              obtain ⟨p, hp2⟩ : ∃ p, p = xs.getD X 0 := ⟨_, rfl⟩
              obtain ⟨q, hq2⟩ : ∃ q, q = xs.getD Y 0 := ⟨_, rfl⟩
              rw [← hp2] at hcx hin
              rw [← hq2] at hcy hin
              have dx4 : decide (p < q) = false := decide_eq_false (by omega)
              clear hin hX hY hp hpp hp2 hq2
              go_wp2
              go_quiet (fail)
              go_wp2
              go_roundw
              case rel => exact ⟨i + 1, by omega, by go_num, _, rfl⟩
              case measure => simp [intOf]; omega
            · have d0 : decide ((0 : Int) < (i : Int)) = false := decide_eq_false (by omega)
              clear hX hp
              go_wp2
              go_quiet (fail)
              go_wp2
              go_roundw
              case rel => exact ⟨i + 1, by omega, by go_num, _, rfl⟩
              case measure => simp [intOf]; omega
          · have di : decide (i < l.length) = false := decide_eq_false hit
            clear HGR HG hl5 HR1 HR2 HR3
            have hm0 : ¬ (m : Int) < 0 := by omega
            have dm0 : decide ((m : Int) < 0) = false := decide_eq_false hm0
            obtain ⟨i0, hi0, hz0, hz1, hz2⟩ := info_parts Try.infoInt
            have hmk := fun w => run_make (P := Try.prog) w 22 3 i0 (.int .i64 0) Try.underlying22 hi0 hz0 .i64 .i64 m m (by omega) (by omega) (by rw [hz2]; omega) (by omega)
            go_upto_region 19 with fail
            go_cut [21, 22] (fun lv uv wz => ∃ g1 g2, lv = .slice (some ⟨g1, 0, none⟩) m m ∧ uv = .slice (some ⟨g2, 0, none⟩) m m ∧ g1 ≠ g2 ∧ wz.ownsRow w5.heap.size 3 1 lv m (ints (List.replicate m 0)) ∧ wz.ownsRow w5.heap.size 3 1 uv m (ints (List.replicate m 0)) ∧ Below w5.heap.size w5 wz)
            case first =>
              have h2m := two_made (w5.drewN (d + 1)) (B := w5.heap.size) (n := m) (Nat.le_refl _) (by omega)
              have H2M := Lib.hid h2m
              clear h2m
              go_region
              · go_wp2
                go_meet
                exact ⟨_, _, rfl, rfl, by omega, H2M.out.1, H2M.out.2.1, (below_drewN (Below.refl _ _) (d + 1)).trans H2M.out.2.2⟩
              · go_wp2
                go_meet
                exact ⟨_, _, rfl, rfl, by omega, H2M.out.2.1, H2M.out.1, (below_drewN (Below.refl _ _) (d + 1)).trans H2M.out.2.2⟩
            case rest =>
              obtain ⟨g1, g2, rfl, rfl, hne, ho1, ho2, hW6⟩ := hcut
              have HO1 := Lib.hid ho1
              have HO2 := Lib.hid ho2
              have HW6 := Lib.hid hW6
              clear ho1 ho2 hW6 hmk hz0 hz1 hz2 hi0 hm0 dm0 di hit hi
              go_wp2
              go_loopw [19, 20, 147] (fun nv mv iv wr => ∃ (i n' m' : Nat) (Lu Ld : List (Int × Nat)) (r1 r2 : List Int), i ≤ xs.length ∧ iv = .int .i64 i ∧ nv = .int .i64 n' ∧ mv = .int .i64 m' ∧ Colr (· ≤ ·) m xs i Lu r1 n' ∧ Colr (fun a b => b < a) m xs i Ld r2 m' ∧ wr.ownsRow w5.heap.size 3 1 (.slice (some ⟨g1, 0, none⟩) m m) m (ints r1) ∧ wr.ownsRow w5.heap.size 3 1 (.slice (some ⟨g2, 0, none⟩) m m) m (ints r2) ∧ Below w5.heap.size w5 wr) (fun _ _ iv _ => xs.length - (intOf iv).toNat)
              case atStart => exact ⟨0, 0, 0, [], [], _, _, Nat.zero_le _, rfl, rfl, rfl, Colr.start _ _ _, Colr.start _ _ _, HO1.out, HO2.out, HW6.out⟩
              case round =>
                clear HO1 HO2 HW6
                obtain ⟨i, n', m', Lu, Ld, r1, r2, hi, rfl, rfl, rfl, hu, hd, ho1, ho2, hW6⟩ := hrel
                have HU := Lib.hid hu
                have HD := Lib.hid hd
                have HO1 := Lib.hid ho1
                have HO2 := Lib.hid ho2
                have HW6 := Lib.hid hW6
                have hfin : Hid (n' ≤ a ∧ m' ≤ b ∧ a ≤ xs.length ∧ b ≤ xs.length) := by
                  have hbx := (fill_word hx40 HX.out).2
                  refine ⟨by rw [HA.out]; exact greene_up hu.can, by rw [HBB.out]; exact greene_dn hd.can, ?_, ?_⟩
                  · rw [HA.out, ← hbx]; exact boxes_le _
                  · rw [HBB.out, ← hbx]; exact cols_le _ _
                have hn40 := hu.count
                have hm40 := hd.count
                clear hu hd ho1 ho2 hW6
                by_cases hit : i < xs.length
                · have di : decide (i < xs.length) = true := decide_eq_true hit
                  by_cases hmz : m = 0
                  · have dmz : ((m : Int) == 0) = true := by simpa using hmz
                    have HMZ := Lib.hid hmz
                    obtain ⟨f1, f2, f3, f4⟩ := hfin.out
                    have q1 : decide ((n' : Int) ≤ (a : Int)) = true := decide_eq_true (by omega)
                    have q2 : decide ((m' : Int) ≤ (b : Int)) = true := decide_eq_true (by omega)
                    have q3 : decide ((a : Int) ≤ (xs.length : Int)) = true := decide_eq_true (by omega)
                    have q4 : decide ((b : Int) ≤ (xs.length : Int)) = true := decide_eq_true (by omega)
                    clear hmz
                    go_wp2
                    go_ret
                    exact ⟨rfl, below_call HW5.out hB HW6.out⟩
                  · have dmz : ((m : Int) == 0) = false := by simpa using hmz
                    by_cases hpz : ps.length = 0
                    · have dpz : ((ps.length : Int) == 0) = true := by simp [hpz]
                      obtain ⟨f1, f2, f3, f4⟩ := hfin.out
                      have q1 : decide ((n' : Int) ≤ (a : Int)) = true := decide_eq_true (by omega)
                      have q2 : decide ((m' : Int) ≤ (b : Int)) = true := decide_eq_true (by omega)
                      have q3 : decide ((a : Int) ≤ (xs.length : Int)) = true := decide_eq_true (by omega)
                      have q4 : decide ((b : Int) ≤ (xs.length : Int)) = true := decide_eq_true (by omega)
                      have HPZ := Lib.hid hpz
                      clear hpz
                      go_wp2
                      go_ret
                      exact ⟨rfl, below_call HW5.out hB HW6.out⟩
                    · have dpz : ((ps.length : Int) == 0) = false := beq_false_of_ne (by omega)
                      obtain ⟨bp, op, rfl, hbp⟩ := h'.addr (by omega)
                      obtain ⟨bx, ox, rfl, hbx⟩ := h.addr (by omega)
                      have hWw := below_call HW5.out hB HW6.out
                      obtain ⟨j, hj⟩ : ∃ j, j = i % ps.length := ⟨_, rfl⟩
                      have hjl : j < ps.length := by rw [hj]; exact Nat.mod_lt _ (by omega)
                      have hjm : (i : Int).tmod (ps.length : Int) = (j : Int) := by
                        rw [hj, Int.natCast_emod]
                        exact Int.tmod_eq_emod_of_nonneg (by omega)
                      have hcp := (hWw.cell (p := ⟨bp, op + j, none⟩) hbp).trans (getD_cell h' hjl)
                      obtain ⟨p, hp⟩ : ∃ p, p = ps.getD j 0 := ⟨_, rfl⟩
                      rw [← hp] at hcp
                      have hcx := (hWw.cell (p := ⟨bx, ox + i, none⟩) hbx).trans (getD_cell h hit)
                      obtain ⟨x, hx⟩ : ∃ x, x = xs.getD i 0 := ⟨_, rfl⟩
                      rw [← hx] at hcx
                      have HXE := Lib.hid hx
                      have hrg : -9223372036854775808 ≤ wrap64 (p + (i : Int)) ∧ wrap64 (p + (i : Int)) ≤ 9223372036854775807 := by unfold wrap64; omega
                      have hpk := fun w => pick_anyA (wrap64 (p + (i : Int))) m w (by omega) (by omega) hrg.1 hrg.2
                      have HPK := Lib.hid hpk
                      clear hpk hp hj hx hrg
                      go_wp2_with (first | (go_at_call 36; refine (HPK.out _).mono ?_) | fail)
                      rintro e w8 ⟨⟨C, hC, rfl⟩, rfl⟩
                      have hga := HU.out.len
                      have hgb := HD.out.len
                      have hc1 := own_get HO1.out (i := C) (z := r1.getD C 0) (getD_some (by omega))
                      have hc2 := own_get HO2.out (i := C) (z := r2.getD C 0) (getD_some (by omega))
                      have hf1 := HO1.out.frozenAt C
                      obtain ⟨y1, hy1⟩ : ∃ y, y = r1.getD C 0 := ⟨_, rfl⟩
                      obtain ⟨y2, hy2⟩ : ∃ y, y = r2.getD C 0 := ⟨_, rfl⟩
                      rw [← hy1] at hc1
                      rw [← hy2] at hc2
                      have HY1 := Lib.hid hy1
                      have HY2 := Lib.hid hy2
                      have hg5 := (HO1.out.lt g1 rfl).1
                      have hg6 := (HO2.out.lt g2 rfl).1
                      have hbxg : bx < w5.heap.size := Nat.lt_of_lt_of_le hbx HW5.out.size
                      clear hy1 hy2 hga hgb hWw hcp hjm hjl dmz dpz HPK
                      go_wp2
                      go_quiet (fail)
                      go_upto_if 176 with fail
                      go_cut [19] (fun nv wz => ∃ (n2 : Nat) (Lu' : List (Int × Nat)) (r1' : List Int), nv = .int .i64 n2 ∧ Colr (· ≤ ·) m xs (i + 1) Lu' r1' n2 ∧ wz.ownsRow w5.heap.size 3 1 (.slice (some ⟨g1, 0, none⟩) m m) m (ints r1') ∧ wz.ownsRow w5.heap.size 3 1 (.slice (some ⟨g2, 0, none⟩) m m) m (ints r2) ∧ Below w5.heap.size w5 wz ∧ wz.cell? ⟨bx, ox + i, none⟩ = some (.int .i64 x))
                      case first =>
                        by_cases hyx : y1 ≤ x
                        · have dyx : decide (y1 ≤ x) = true := decide_eq_true hyx
                          obtain ⟨Lu', hu'⟩ := HU.out.up hit hC (by rw [← HY1.out, ← HXE.out]; exact hyx)
                          rw [← HXE.out] at hu'
                          have HU' := Lib.hid hu'
                          have hst := own_set HO1.out C x
                          have HST := Lib.hid hst
                          have hbs := Lib.hid (own_beside (g1 := g1) (j := C) (y := .int .i64 x) HO2.out hne)
                          have hws := Lib.hid (HW6.out.setCell (p := ⟨g1, C, none⟩) hg5 (.int .i64 x))
                          have hcs : Hid ((wr.setCell ⟨g1, C, none⟩ (.int .i64 x)).cell? ⟨bx, ox + i, none⟩ = some (.int .i64 x)) := by
                            have : (wr.setCell ⟨g1, C, none⟩ (.int .i64 x)).heap[bx]? = wr.heap[bx]? := by simp [World.setCell, Array.getElem?_modify, show g1 ≠ bx by omega]
                            exact (World.cell?_of_block (a := ⟨bx, ox + i, none⟩) this).trans hcx
                          clear hu' hst
                          go_wp2
                          go_meet
                          exact ⟨n' + 1, Lu', _, by go_num, HU'.out, own_drewN HST.out nq, own_drewN hbs.out nq, below_drewN hws.out nq, hcs.out⟩
                        · have dyx : decide (y1 ≤ x) = false := decide_eq_false hyx
                          have hu' := Lib.hid (HU.out.skip hit)
                          go_wp2
                          go_meet
                          exact ⟨n', _, _, rfl, hu'.out, own_drewN HO1.out nq, own_drewN HO2.out nq, below_drewN HW6.out nq, hcx⟩
                      case rest =>
                        obtain ⟨n2, Lu', r1', rfl, hu, ho1, ho2, hW6, hcx⟩ := hcut
                        have HU' := Lib.hid hu
                        have HO1' := Lib.hid ho1
                        have HO2' := Lib.hid ho2
                        have HW6' := Lib.hid hW6
                        have hgb := HD.out.len
                        have hc2 := own_get ho2 (i := C) (z := r2.getD C 0) (getD_some (by omega))
                        rw [← HY2.out] at hc2
                        have hf2 := ho2.frozenAt C
                        clear hu ho1 ho2 hW6 HU HO1 HO2 HW6 hgb
                        by_cases hy0 : y2 = 0
                        · have dy0 : (y2 == 0) = true := by simpa using hy0
                          have HY0 := Lib.hid hy0
                          clear hy0
                          obtain ⟨Ld', hd'⟩ := HD.out.dn HX.out hit hC (by rw [← HY2.out, ← HXE.out]; exact .inl HY0.out)
                          rw [← HXE.out] at hd'
                          have HD' := Lib.hid hd'
                          have hst := own_set HO2'.out C x
                          have HST := Lib.hid hst
                          have hbs := Lib.hid (own_beside (g1 := g2) (j := C) (y := .int .i64 x) HO1'.out hne.symm)
                          have hws := Lib.hid (HW6'.out.setCell (p := ⟨g2, C, none⟩) hg6 (.int .i64 x))
                          clear hd' hst
                          go_wp2
                          go_quiet (fail)
                          go_wp2
                          go_roundw
                          case rel => exact ⟨i + 1, n2, m' + 1, Lu', Ld', r1', _, by omega, by go_num, rfl, by go_num, HU'.out, HD'.out, own_drewN hbs.out _, own_drewN HST.out _, below_drewN hws.out _⟩
                          case measure => simp [intOf]; omega
                        · have dy0 : (y2 == 0) = false := by simpa using hy0
                          by_cases hxy : x < y2
                          · have dxy : decide (x < y2) = true := decide_eq_true hxy
                            have HXY := Lib.hid hxy
                            clear hy0
                            obtain ⟨Ld', hd'⟩ := HD.out.dn HX.out hit hC (by rw [← HY2.out, ← HXE.out]; exact .inr HXY.out)
                            rw [← HXE.out] at hd'
                            have HD' := Lib.hid hd'
                            have hst := own_set HO2'.out C x
                            have HST := Lib.hid hst
                            have hbs := Lib.hid (own_beside (g1 := g2) (j := C) (y := .int .i64 x) HO1'.out hne.symm)
                            have hws := Lib.hid (HW6'.out.setCell (p := ⟨g2, C, none⟩) hg6 (.int .i64 x))
                            clear hd' hst
                            go_wp2
                            go_quiet (fail)
                            go_wp2
                            go_roundw
                            case rel => exact ⟨i + 1, n2, m' + 1, Lu', Ld', r1', _, by omega, by go_num, rfl, by go_num, HU'.out, HD'.out, own_drewN hbs.out _, own_drewN HST.out _, below_drewN hws.out _⟩
                            case measure => simp [intOf]; omega
                          · have dxy : decide (x < y2) = false := decide_eq_false hxy
                            have hd' := Lib.hid (HD.out.skip hit)
                            clear hy0
                            go_wp2
                            go_quiet (fail)
                            go_wp2
                            go_roundw
                            case rel => exact ⟨i + 1, n2, m', Lu', _, r1', r2, by omega, by go_num, rfl, rfl, HU'.out, hd'.out, own_drewN HO1'.out _, own_drewN HO2'.out _, below_drewN HW6'.out _⟩
                            case measure => simp [intOf]; omega
                · have di : decide (i < xs.length) = false := decide_eq_false hit
                  obtain ⟨f1, f2, f3, f4⟩ := hfin.out
                  have q1 : decide ((n' : Int) ≤ (a : Int)) = true := decide_eq_true (by omega)
                  have q2 : decide ((m' : Int) ≤ (b : Int)) = true := decide_eq_true (by omega)
                  have q3 : decide ((a : Int) ≤ (xs.length : Int)) = true := decide_eq_true (by omega)
                  have q4 : decide ((b : Int) ≤ (xs.length : Int)) = true := decide_eq_true (by omega)
                  go_wp2
                  go_ret
                  exact ⟨rfl, below_call HW5.out hB HW6.out⟩
  · obtain ⟨rfl, rfl⟩ := HR1.out.err hw
    obtain ⟨rfl, rfl⟩ := HR2.out.err hw
    obtain ⟨W, hW⟩ : ∃ W, W = wordChk xs := ⟨_, rfl⟩
    rw [← hW] at hw ⊢
    have dw : (W != 0) = true := by simpa using hw
    clear hW
    go_wp2
    go_ret
    exact ⟨rfl, HW5.out⟩
end Go.Proofs.Ytmlmdklheiafpaa
