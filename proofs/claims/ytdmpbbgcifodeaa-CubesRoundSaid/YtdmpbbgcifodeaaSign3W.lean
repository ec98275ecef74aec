/-
  ferlaw.Rows, signs.uncornered: what they answer.
-/
import Derived.Test.YtdmpbbgcifodeaaSign2W
import Derived.Test.YtdmpbbgcifodeaaFrobW
namespace Go.Proofs.Ytdmpbbgcifodeaa
open Go.RowKit

theorem getD_take_succ {xs : List (List Int)} {k : Nat} (h : k < xs.length) : xs.take (k + 1) = xs.take k ++ [xs.getD k []] := by
  rw [take_snoc h, getD_get h]

set_option maxRecDepth 100000 in
set_option maxHeartbeats 2000000 in
theorem rows_any (A A' : Option Addr) (cap cap' : Nat) (xs ys : List (List Int)) (w : World) (hx : xs.length ≤ 9223372036854775807) (hy : ys.length ≤ 9223372036854775807) (h : SR w w.heap.size A xs) (h' : SR w w.heap.size A' ys) :
    Calls Try.prog 29 #[.slice A xs.length cap, .slice A' ys.length cap'] w fun e w' => e = .returned (.bool (decide (xs = ys))) ∧ Below w.heap.size w w' := by
  by_cases hl : xs.length = ys.length
  · have HL := Lib.hid hl
    have hd0 : (((xs.length : Nat) : Int) != ((ys.length : Nat) : Int)) = false := by simp [hl]
    clear hl
    go_enter Try.func29, Try.ntmps29
    go_wp2
    go_loopw [13] (fun iv wr => ∃ (i : Nat), i ≤ xs.length ∧ iv = .int .i64 i ∧ xs.take i = ys.take i ∧ Below w.heap.size w wr) (fun iv _ => xs.length - (intOf iv).toNat)
    case atStart => exact ⟨0, by omega, rfl, by simp, Below.refl _ _⟩
    case round =>
      obtain ⟨i, hi, rfl, heq, hW⟩ := hrel
      have HE := Lib.hid heq
      clear heq
      have hwsz := hW.size
      by_cases hlt : i < xs.length
      · have hlt' : i < ys.length := by have := HL.out; omega
        have hdl : decide (i < xs.length) = true := by simpa using hlt
        obtain ⟨b, o, rfl, hb⟩ := h.addr (by omega)
        obtain ⟨b', o', rfl, hb'⟩ := h'.addr (by omega)
        obtain ⟨Ar, cr, hc, hr, hrl⟩ := (h.below hW).at_ hlt
        obtain ⟨Ar', cr', hc', hr', hrl'⟩ := (h'.below hW).at_ hlt'
        obtain ⟨x, hxx⟩ : ∃ x, x = xs.getD i [] := ⟨_, rfl⟩
        obtain ⟨y, hyy⟩ : ∃ x, x = ys.getD i [] := ⟨_, rfl⟩
        rw [← hxx] at hc hr hrl
        rw [← hyy] at hc' hr' hrl'
        have HX := Lib.hid hxx
        have HY := Lib.hid hyy
        have hcall := same_b Ar Ar' cr cr' x y wr.drew hrl hrl' ((hr.more hwsz)) ((hr'.more hwsz))
        have HCALL := Lib.hid hcall
        clear hxx hyy hcall
        by_cases hxy : x = y
        · have hd : decide (x = y) = true := decide_eq_true hxy
          have hnx : Hid (xs.take (i + 1) = ys.take (i + 1)) := by
            show _ = _
            rw [getD_take_succ hlt, getD_take_succ hlt', HE.out, ← HX.out, ← HY.out, hxy]
          clear hxy
          go_wp2
          go_region_held3 (fun w' => w'.cell? ⟨b, o + i, none⟩ = some (.slice Ar x.length cr) ∧ w'.cell? ⟨b', o' + i, none⟩ = some (.slice Ar' y.length cr')) (first | go_keep | (go_split_ands; refine ⟨(hb9.cell (by show _ < _; simp; omega)).trans ?_, (hb9.cell (by show _ < _; simp; omega)).trans ?_⟩ <;> assumption))
            (first | ((go_at_call 14; refine HCALL.out.mono ?_; rintro e w9 ⟨rfl, hb9⟩)) | fail)
          go_wp2
          go_roundw
          case rel => exact ⟨i + 1, by omega, by go_num, hnx.out, (hW.drew).trans (hb9.mono hwsz)⟩
          case measure => simp [intOf]; omega
        · have hd : decide (x = y) = false := decide_eq_false hxy
          have hfin : Hid (decide (xs = ys) = false) := by
            show _ = _
            rw [decide_eq_false_iff_not]
            intro e
            subst e
            exact hxy (HX.out.trans HY.out.symm)
          clear hxy
          go_wp2
          go_region_held3 (fun w' => w'.cell? ⟨b, o + i, none⟩ = some (.slice Ar x.length cr) ∧ w'.cell? ⟨b', o' + i, none⟩ = some (.slice Ar' y.length cr')) (first | go_keep | (go_split_ands; refine ⟨(hb9.cell (by show _ < _; simp; omega)).trans ?_, (hb9.cell (by show _ < _; simp; omega)).trans ?_⟩ <;> assumption))
            (first | ((go_at_call 14; refine HCALL.out.mono ?_; rintro e w9 ⟨rfl, hb9⟩)) | fail)
          go_wp2
          go_ret
          exact ⟨by rw [hfin.out]; rfl, (hW.drew).trans (hb9.mono hwsz)⟩
      · have hdl : decide (i < xs.length) = false := by simpa using hlt
        have hfin : Hid (decide (xs = ys) = true) := by
          show _ = _
          rw [decide_eq_true_iff]
          have := HE.out
          have hl := HL.out
          rwa [List.take_of_length_le (by omega), List.take_of_length_le (by omega)] at this
        go_wp2
        go_ret
        exact ⟨by rw [hfin.out]; rfl, hW⟩
  · have hd0 : (((xs.length : Nat) : Int) != ((ys.length : Nat) : Int)) = true := by simp; omega
    have hfin : Hid (decide (xs = ys) = false) := by
      show _ = _
      rw [decide_eq_false_iff_not]
      intro e
      subst e
      exact hl rfl
    clear hl
    go_enter Try.func29, Try.ntmps29
    go_wp2
    go_ret
    exact ⟨by rw [hfin.out]; rfl, Below.refl _ _⟩

/-- A square of a function's values. -/
def fmat (k : Nat) (f : Nat → Nat → Int) : List (List Int) := (List.range k).map (fun a => tab k (f a))
theorem fmat_length (k : Nat) (f : Nat → Nat → Int) : (fmat k f).length = k := by simp [fmat]
theorem fmat_getD {k a : Nat} {f : Nat → Nat → Int} (h : a < k) : (fmat k f).getD a [] = tab k (f a) := by simp [fmat, h]
def urow (n : Nat) (f : Nat → Nat → Int) (a : Nat) : List Int := tab n (fun j => f (a + 1) (j + 1) - f a (j + 1) - f (a + 1) j + f a j)
theorem unc_tab (n : Nat) (f : Nat → Nat → Int) : unc n f = (List.range n).map (urow n f) := rfl
theorem unc_length (n : Nat) (f : Nat → Nat → Int) : (unc n f).length = n := by simp [unc]
theorem unc_getD {n a : Nat} {f : Nat → Nat → Int} (h : a < n) : (unc n f).getD a [] = urow n f a := by rw [unc_tab]; simp [h]
theorem urow_length (n : Nat) (f : Nat → Nat → Int) (a : Nat) : (urow n f a).length = n := tab_length _ _
theorem urow_getD {n a j : Nat} {f : Nat → Nat → Int} (h : j < n) : (urow n f a).getD j 0 = f (a + 1) (j + 1) - f a (j + 1) - f (a + 1) j + f a j := tab_getD h

set_option maxRecDepth 100000 in
set_option maxHeartbeats 4000000 in
theorem uncornered_any (A : Option Addr) (cap n : Nat) (f : Nat → Nat → Int) (w : World) (hn : n ≤ 7) (hf : ∀ i j, i ≤ n → j ≤ n → 0 ≤ f i j ∧ f i j ≤ 1000) (h : SR w w.heap.size A (fmat (n + 1) f)) :
    Calls Try.prog 76 #[.slice A (n + 1) cap] w fun e w' => (∃ v hs, e = .returned v ∧ OwnM w' w.heap.size v hs (unc n f)) ∧ Below w.heap.size w w' := by
  have hB := Nat.le_refl w.heap.size
  have HF := Lib.hid hf
  clear hf
  obtain ⟨b, o, rfl, hb⟩ := h.addr (by rw [fmat_length]; omega)
  go_enter Try.func76, Try.ntmps76
  go_wp2
  go_loopw [3, 4] (fun ov iv wr => ∃ (a : Nat) (hs : List Value), a ≤ n ∧ iv = .int .i64 ((a : Int) + 1) ∧ OwnM wr w.heap.size ov hs ((unc n f).take a) ∧ Below w.heap.size w wr) (fun _ iv _ => n + 1 - (intOf iv).toNat)
  case atStart => exact ⟨0, [], by omega, rfl, by rw [List.take_zero]; exact OwnM.nil _ _, Below.refl _ _⟩
  case round =>
    obtain ⟨a, hs, ha, rfl, hm, hW⟩ := hrel
    obtain ⟨w9, rfl⟩ : ∃ w9, w9 = wr := ⟨_, rfl⟩
    have HM := Lib.hid hm
    have hsz := hW.size
    clear hm
    by_cases hlt : a < n
    · have hd1 : decide (a < n) = true := decide_eq_true hlt
      obtain ⟨A1, c1, hc1, hr1, _⟩ := h.at_ (r := a + 1) (by rw [fmat_length]; omega)
      obtain ⟨A0, c0, hc0, hr0, _⟩ := h.at_ (r := a) (by rw [fmat_length]; omega)
      rw [fmat_getD (by omega), tab_length] at hc1 hc0
      rw [fmat_getD (by omega)] at hr1 hr0
      obtain ⟨b1, o1, rfl, hb1⟩ := hr1.addr (by rw [tab_length]; omega)
      obtain ⟨b0, o0, rfl, hb0⟩ := hr0.addr (by rw [tab_length]; omega)
      have HC1 := Lib.hid hc1
      have HC0 := Lib.hid hc0
      clear hc1 hc0
      go_wp2
      go_loopw [5, 6] (fun rv jv wz => ∃ j : Nat, j ≤ n ∧ jv = .int .i64 ((j : Int) + 1) ∧ wz.ownsRow w9.heap.size 3 1 rv j (ints ((urow n f a).take j)) ∧ Below w9.heap.size w9 wz) (fun _ jv _ => n + 1 - (intOf jv).toNat)
      case atStart => exact ⟨0, by omega, rfl, by rw [List.take_zero]; exact World.ownsRow_nil _ _ _ _, Below.refl _ _⟩
      case round =>
        obtain ⟨j, hj, rfl, hown, hW2⟩ := hrel
        have HO := Lib.hid hown
        clear hown
        have hWw := hW.trans (hW2.mono hsz)
        by_cases hlt2 : j < n
        · have hd2 : decide (j < n) = true := decide_eq_true hlt2
          have g1 : wr.cell? ⟨b, o + (a + 1), none⟩ = _ := (hWw.cell (p := ⟨b, o + (a + 1), none⟩) hb).trans HC1.out
          have g0 : wr.cell? ⟨b, o + a, none⟩ = _ := (hWw.cell (p := ⟨b, o + a, none⟩) hb).trans HC0.out
          have k11 := getD_cell (hr1.below hWw) (k := j + 1) (by rw [tab_length]; omega)
          have k10 := getD_cell (hr1.below hWw) (k := j) (by rw [tab_length]; omega)
          have k01 := getD_cell (hr0.below hWw) (k := j + 1) (by rw [tab_length]; omega)
          have k00 := getD_cell (hr0.below hWw) (k := j) (by rw [tab_length]; omega)
          rw [tab_getD (by omega)] at k11 k10 k01 k00
          have l11 := HF.out (a + 1) (j + 1) (by omega) (by omega)
          have l10 := HF.out (a + 1) j (by omega) (by omega)
          have l01 := HF.out a (j + 1) (by omega) (by omega)
          have l00 := HF.out a j (by omega) (by omega)
          have hsn : Hid ((urow n f a).take j ++ [f (a + 1) (j + 1) - f a (j + 1) - f (a + 1) j + f a j] = (urow n f a).take (j + 1)) := by
            show _ = _
            rw [take_snoc (by rw [urow_length]; exact hlt2), ← urow_getD hlt2, getD_get (by rw [urow_length]; exact hlt2)]
          obtain ⟨p, hp⟩ : ∃ x, x = f (a + 1) (j + 1) := ⟨_, rfl⟩
          obtain ⟨q, hq⟩ : ∃ x, x = f a (j + 1) := ⟨_, rfl⟩
          obtain ⟨r, hr⟩ : ∃ x, x = f (a + 1) j := ⟨_, rfl⟩
          obtain ⟨s, hs'⟩ : ∃ x, x = f a j := ⟨_, rfl⟩
          rw [← hp] at k11 l11 hsn
          rw [← hq] at k01 l01 hsn
          rw [← hr] at k10 l10 hsn
          rw [← hs'] at k00 l00 hsn
          clear hp hq hr hs'
          have w1 : IntKind.i64.wrap (p - q) = p - q := IntWalk.i64_in _ (by omega)
          have w2 : IntKind.i64.wrap (p - q - r) = p - q - r := IntWalk.i64_in _ (by omega)
          have w3 : IntKind.i64.wrap (p - q - r + s) = p - q - r + s := IntWalk.i64_in _ (by omega)
          have w4 : IntKind.i64.wrap (a : Int) = a := IntWalk.i64_in _ (by omega)
          have w5 : IntKind.i64.wrap (j : Int) = j := IntWalk.i64_in _ (by omega)
          have x0 : (0 : Int) ≤ (a : Int) + 1 := by omega
          have x1 : (0 : Int) ≤ (j : Int) + 1 := by omega
          have x2 : a + 1 < n + 1 := by omega
          have x3 : (a : Int) + 1 < (n : Int) + 1 := by omega
          have x4 : a < n + 1 := by omega
          have x5 : (a : Int) < (n : Int) + 1 := by omega
          have x6 : (j : Int) + 1 < (n : Int) + 1 := by omega
          have x7 : (j : Int) < (n : Int) + 1 := by omega
          have hu9 : w9.heap.size ≤ wr.heap.size := hW2.size
          have hfb : ∀ k, k < w.heap.size → some k ≠ u5.ownBlock := fun k hk e => by have := (HO.out.lt k e.symm).1; omega
          go_wp2
          go_region_held3 (fun w' => w'.cell? ⟨b, o + (a + 1), none⟩ = some (.slice (some ⟨b1, o1, none⟩) (n + 1) c1) ∧ w'.cell? ⟨b, o + a, none⟩ = some (.slice (some ⟨b0, o0, none⟩) (n + 1) c0) ∧
              w'.cell? ⟨b1, o1 + (j + 1), none⟩ = some (.int .i64 p) ∧ w'.cell? ⟨b0, o0 + (j + 1), none⟩ = some (.int .i64 q) ∧ w'.cell? ⟨b1, o1 + j, none⟩ = some (.int .i64 r) ∧ w'.cell? ⟨b0, o0 + j, none⟩ = some (.int .i64 s))
            (first
              | go_keep
              | (go_split_ands
                 refine ⟨(hcf b _ hb).trans ?_, (hcf b _ hb).trans ?_, (hcf b1 _ hb1).trans ?_, (hcf b0 _ hb0).trans ?_, (hcf b1 _ hb1).trans ?_, (hcf b0 _ hb0).trans ?_⟩ <;> assumption))
            (first
              | ((refine step_app1 (base := w9.heap.size) (l := (urow n f a).take j) (v := u5) ?_ (.tmp 19) (.tmp 55) ?_ ?_ (p - q - r + s) j wr.heap.size ?_ ?_ ?_ ?_ ?_ ?_
                  · rfl
                  · rfl
                  · rfl
                  · rfl
                  · exact own_drew (HO.out.alloc _)
                  · exact heap_alloc_new _ _
                  · omega
                  · (show _ ≤ (World.drew _).heap.size; simp; omega)
                  intro g2 c2 w5 hl5 hg5 hat5 hlt5
                  have hcf := fun bb oo (hbb : bb < w.heap.size) => hg5.cell_far ⟨bb, oo, none⟩ (by show bb < (World.drew _).heap.size; simp; omega) (hfb bb hbb)))
              | fail)
          go_wp2
          go_roundw
          case rel =>
            refine ⟨j + 1, by omega, by go_num, by rw [← hsn.out]; exact hl5, ?_⟩
            exact ((hW2.alloc hu9 _).drew).grown hg5 (by show _ ≤ (World.drew _).heap.size; simp; omega) (fun k hk => (HO.out.lt k hk).1)
          case measure => simp [intOf]; omega
        · have hd2 : decide (j < n) = false := decide_eq_false hlt2
          obtain rfl : j = n := by omega
          obtain ⟨gr, cr, hv, hgr1, hgr2⟩ := HO.out.form (by omega)
          subst hv
          have hO3 := HO.out
          rw [List.take_of_length_le (by rw [urow_length]; omega)] at hO3
          have HO3 := Lib.hid hO3
          have hm2 := HM.out.below hW2
          have hmo := hm2.out
          rw [List.length_take, unc_length, Nat.min_eq_left (by omega)] at hmo
          have HM2 := Lib.hid hm2
          have HMO := Lib.hid hmo
          have hB9 := Lib.hid (Nat.le_trans hsz hW2.size)
          clear hm2 hmo hO3
          go_wp2_with (first | (at_builtin; refine wpList_push (v := u3) rfl (.tmp 57) (.tmp 59) rfl rfl (.slice (some ⟨gr, 0, none⟩) j cr) rfl HMO.out wr.heap.size rfl rfl (by omega) hB9.out (fun g2 c2 w5 hl5 hg5 hat5 => ?_)) | fail)
          have hfar := HM.out.far_new (u := .slice (some ⟨gr, 0, none⟩) j cr) (fun k hk => by
            obtain rfl : gr = k := by simpa [Value.ownBlock] using hk
            exact hgr1)
          have hpush := (HM2.out.alloc (.cells #[.slice (some ⟨gr, 0, none⟩) j cr] 22)).push (u := .slice (some ⟨gr, 0, none⟩) j cr) (l := urow j f a)
            (by rw [urow_length]; exact (HO3.out.mono hsz).alloc _) hfar.1 hfar.2 (by rw [List.length_take, unc_length, Nat.min_eq_left (by omega)]) hl5 hg5 (by simpa using hat5)
          have hts : (unc j f).take a ++ [urow j f a] = (unc j f).take (a + 1) := by rw [getD_take_succ (by rw [unc_length]; exact hlt), unc_getD hlt]
          rw [hts] at hpush
          have hW5 : Below w.heap.size w w5 := (hWw.alloc hB9.out _).grown hg5 (by have := hB9.out; simp; omega) (fun k hk => (HMO.out.lt k hk).1)
          have HPU := Lib.hid hpush
          clear hpush hfar hl5 hg5 hat5 hts
          go_wp2
          go_roundw
          case rel => exact ⟨a + 1, _, by omega, by go_num, HPU.out, hW5⟩
          case measure => simp [intOf]; omega
    · have hd1 : decide (a < n) = false := decide_eq_false hlt
      have han : Hid (a = n) := by show _ = _; omega
      go_wp2
      go_ret
      refine ⟨⟨_, hs, rfl, ?_⟩, hW⟩
      have := HM.out
      rw [List.take_of_length_le (by rw [unc_length, han.out]; exact Nat.le_refl _)] at this
      exact this

end Go.Proofs.Ytdmpbbgcifodeaa
