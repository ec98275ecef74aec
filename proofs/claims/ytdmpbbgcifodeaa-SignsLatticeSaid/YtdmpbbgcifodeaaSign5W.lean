/-
  signs.Meet, Join, Corner, FromCorner, Below: what they answer.
-/
import Derived.Test.YtdmpbbgcifodeaaSign4W
namespace Go.Proofs.Ytdmpbbgcifodeaa
open Go.RowKit

/-- Rows and an error. -/
def RowsOut (e : Ending) (w : World) (k : Int) (rows : List (List Int)) : Prop :=
  ∃ A c, e = .returned (.tuple #[.slice A rows.length c, .int .i64 k]) ∧ SR w w.heap.size A rows ∧ rows.length ≤ 9223372036854775807
theorem rowsOut_own {w : World} {B : Nat} {v : Value} {hs : List Value} {rows : List (List Int)} (h : OwnM w B v hs rows) (k : Int) : RowsOut (.returned (.tuple #[v, .int .i64 k])) w k rows := by
  obtain ⟨A, c, e, h1, h2, h3⟩ := h.sr
  exact ⟨A, c, by rw [e], h1, by omega⟩
theorem rowsOut_nil (w : World) (k : Int) : RowsOut (.returned (.tuple #[.slice none 0 0, .int .i64 k])) w k [] := ⟨none, 0, rfl, SR.nil _ _ _, by simp⟩

set_option maxHeartbeats 1000000 in
theorem meet_any (A A' : Option Addr) (cap cap' : Nat) (a b : List (List Int)) (w : World) (hx : a.length ≤ 9223372036854775807) (hy : b.length ≤ 9223372036854775807) (h : SR w w.heap.size A a) (h' : SR w w.heap.size A' b) :
    Calls Try.prog 28 #[.slice A a.length cap, .slice A' b.length cap'] w fun e w' => (∃ (k : Int) (rows : List (List Int)), RowsOut e w' k rows ∧ PairChk a b k ∧ (k ≠ 0 → rows = []) ∧ (k = 0 → rows = meetOf a.length a b)) ∧ Below w.heap.size w w' := by
  go_enter Try.func28, Try.ntmps28
  go_wp2_with fail
  refine (pair_any A A' cap cap' a b w hx hy h h').mono ?_
  rintro e w1 ⟨⟨k, rfl, hk⟩, hb1⟩
  by_cases hk0 : k = 0
  · obtain ⟨ha, hb, hl⟩ := hk.1.1 hk0
    have HK := Lib.hid hk
    subst hk0
    have HL := Lib.hid hl
    clear hk hl
    go_wp2_with fail
    refine (both_max A A' cap cap' a b w1 ha hb HL.out (h.keep hb1) (h'.keep hb1)).mono ?_
    rintro e w2 ⟨⟨v, hs, rfl, hm⟩, hb2⟩
    have hW : Below w.heap.size w w2 := below_call hb1 (Nat.le_refl _) hb2
    have HM := Lib.hid hm
    clear hm ha hb hb1 hb2
    go_wp2
    go_ret2
    exact ⟨⟨0, _, rowsOut_own HM.out 0, HK.out, fun e => absurd rfl e, fun _ => rfl⟩, hW⟩
  · have hd : (k != 0) = true := by simpa using hk0
    have HK := Lib.hid hk
    have hne := Lib.hid hk0
    clear hk hk0
    go_wp2
    go_ret2
    exact ⟨⟨k, [], rowsOut_nil _ k, HK.out, fun _ => rfl, fun e => absurd e hne.out⟩, hb1⟩

set_option maxHeartbeats 1000000 in
theorem join_any (A A' : Option Addr) (cap cap' : Nat) (a b : List (List Int)) (w : World) (hx : a.length ≤ 9223372036854775807) (hy : b.length ≤ 9223372036854775807) (h : SR w w.heap.size A a) (h' : SR w w.heap.size A' b) :
    Calls Try.prog 34 #[.slice A a.length cap, .slice A' b.length cap'] w fun e w' => (∃ (k : Int) (rows : List (List Int)), RowsOut e w' k rows ∧ PairChk a b k ∧ (k ≠ 0 → rows = []) ∧ (k = 0 → rows = joinOf a.length a b)) ∧ Below w.heap.size w w' := by
  go_enter Try.func34, Try.ntmps34
  go_wp2_with fail
  refine (pair_any A A' cap cap' a b w hx hy h h').mono ?_
  rintro e w1 ⟨⟨k, rfl, hk⟩, hb1⟩
  by_cases hk0 : k = 0
  · obtain ⟨ha, hb, hl⟩ := hk.1.1 hk0
    have HK := Lib.hid hk
    subst hk0
    have HL := Lib.hid hl
    clear hk hl
    go_wp2_with fail
    refine (both_min A A' cap cap' a b w1 ha hb HL.out (h.keep hb1) (h'.keep hb1)).mono ?_
    rintro e w2 ⟨⟨v, hs, rfl, hm⟩, hb2⟩
    have hW : Below w.heap.size w w2 := below_call hb1 (Nat.le_refl _) hb2
    have HM := Lib.hid hm
    clear hm ha hb hb1 hb2
    go_wp2
    go_ret2
    exact ⟨⟨0, _, rowsOut_own HM.out 0, HK.out, fun e => absurd rfl e, fun _ => rfl⟩, hW⟩
  · have hd : (k != 0) = true := by simpa using hk0
    have HK := Lib.hid hk
    have hne := Lib.hid hk0
    clear hk hk0
    go_wp2
    go_ret2
    exact ⟨⟨k, [], rowsOut_nil _ k, HK.out, fun _ => rfl, fun e => absurd e hne.out⟩, hb1⟩

set_option maxHeartbeats 1000000 in
theorem corn_any (A : Option Addr) (cap : Nat) (a : List (List Int)) (w : World) (hx : a.length ≤ 9223372036854775807) (h : SR w w.heap.size A a) :
    Calls Try.prog 30 #[.slice A a.length cap] w fun e w' => (∃ (k : Int) (rows : List (List Int)), RowsOut e w' k rows ∧ ChkSign a k ∧ (k ≠ 0 → rows = []) ∧ (k = 0 → rows = cornTo a (a.length + 1))) ∧ Below w.heap.size w w' := by
  go_enter Try.func30, Try.ntmps30
  go_wp2_with fail
  refine (scheck_any A cap a w hx h).mono ?_
  rintro e w1 ⟨⟨k, rfl, hk⟩, hb1⟩
  rcases hk with ⟨ha, rfl⟩ | ⟨ha, rfl⟩
  · have HA := Lib.hid ha
    clear ha
    go_wp2_with fail
    refine (corner_any A cap a w1 HA.out (h.keep hb1)).mono ?_
    rintro e w2 ⟨⟨v, hs, rfl, hm⟩, hb2⟩
    have hW : Below w.heap.size w w2 := below_call hb1 (Nat.le_refl _) hb2
    have HM := Lib.hid hm
    clear hm hb1 hb2
    go_wp2
    go_ret2
    exact ⟨⟨0, _, rowsOut_own HM.out 0, .inl ⟨HA.out, rfl⟩, fun e => absurd rfl e, fun _ => rfl⟩, hW⟩
  · have HA := Lib.hid ha
    clear ha
    go_wp2
    go_ret2
    exact ⟨⟨1, [], rowsOut_nil _ 1, .inr ⟨HA.out, rfl⟩, fun _ => rfl, fun e => (by cases e)⟩, hb1⟩

/-- What Below answers. -/
def BelowRes (a b : List (List Int)) (e : Ending) : Prop :=
  ∃ (t : Bool) (k : Int), e = .returned (.tuple #[.bool t, .int .i64 k]) ∧ PairChk a b k ∧ (k ≠ 0 → t = false) ∧ (k = 0 → (t = true ↔ Ge a b a.length))

set_option maxRecDepth 100000 in
set_option maxHeartbeats 2000000 in
theorem sbelow_any (A A' : Option Addr) (cap cap' : Nat) (a b : List (List Int)) (w : World) (hx : a.length ≤ 9223372036854775807) (hy : b.length ≤ 9223372036854775807) (h : SR w w.heap.size A a) (h' : SR w w.heap.size A' b) :
    Calls Try.prog 35 #[.slice A a.length cap, .slice A' b.length cap'] w fun e w' => BelowRes a b e ∧ Below w.heap.size w w' := by
  go_enter Try.func35, Try.ntmps35
  go_wp2_with fail
  refine (pair_any A A' cap cap' a b w hx hy h h').mono ?_
  rintro e w1 ⟨⟨k, rfl, hk⟩, hb1⟩
  by_cases hk0 : k = 0
  · obtain ⟨ha, hb, hl⟩ := hk.1.1 hk0
    have HK := Lib.hid hk
    subst hk0
    have HA := Lib.hid ha
    have HB := Lib.hid hb
    have HL := Lib.hid hl
    have h7 := ha.1
    clear hk ha hb hl
    go_wp2_with fail
    refine (corner_any A cap a w1 HA.out (h.keep hb1)).mono ?_
    rintro e w2 ⟨⟨v1, hs1, rfl, hm1⟩, hb2⟩
    have hW2 : Below w.heap.size w w2 := below_call hb1 (Nat.le_refl _) hb2
    go_wp2_with fail
    refine (corner_any A' cap' b w2 HB.out (h'.now hW2 (Nat.le_refl _))).mono ?_
    rintro e w3 ⟨⟨v2, hs2, rfl, hm2⟩, hb3⟩
    have hW : Below w.heap.size w w3 := below_call hW2 (Nat.le_refl _) hb3
    have hm1 := hm1.below hb3
    obtain ⟨A1, c1, hv1, hr1, _, _⟩ := hm1.sr
    obtain ⟨A2, c2, hv2, hr2, _, _⟩ := hm2.sr
    rw [cornTo_length] at hv1 hv2
    rw [← HL.out] at hv2
    obtain ⟨n, hn⟩ : ∃ n, n = a.length := ⟨_, rfl⟩
    have e1 : cornTo a (a.length + 1) = fmat (n + 1) (csum a) := by rw [hn]; rfl
    have e2 : cornTo b (b.length + 1) = fmat (n + 1) (csum b) := by rw [hn, HL.out]; rfl
    rw [e1] at hr1
    rw [e2] at hr2
    rw [← hn] at hv1 hv2 h7
    subst hv1 hv2
    have HN := Lib.hid hn
    clear hn e1 e2 hm1 hm2 hb1 hb2 hb3 hW2
    obtain ⟨b1, o1, rfl, hb1⟩ := hr1.addr (by rw [fmat_length]; omega)
    obtain ⟨b2, o2, rfl, hb2⟩ := hr2.addr (by rw [fmat_length]; omega)
    go_wp2
    go_loopw [23] (fun iv wr => ∃ i d : Nat, i ≤ n + 1 ∧ iv = .int .i64 i ∧ (∀ x y, x < i → y ≤ n → csum b x y ≤ csum a x y) ∧ wr = w3.drewN d) (fun iv _ => n + 1 - (intOf iv).toNat)
    case atStart => exact ⟨0, 0, by omega, rfl, fun x y hx => by omega, rfl⟩
    case round =>
      obtain ⟨i, d, hi, rfl, hall, rfl⟩ := hrel
      have HALL := Lib.hid hall
      clear hall
      by_cases hlt : i < n + 1
      · have hd1 : decide ((i : Int) < (n : Int) + 1) = true := by simp; omega
        have x1 : (i : Int) < (n : Int) + 1 := by omega
        obtain ⟨Ai, ci, hci, hri, _⟩ := hr1.at_ (r := i) (by rw [fmat_length]; exact hlt)
        obtain ⟨Bi, di, hdi, hsi, _⟩ := hr2.at_ (r := i) (by rw [fmat_length]; exact hlt)
        rw [fmat_getD hlt, tab_length] at hci hdi
        rw [fmat_getD hlt] at hri hsi
        obtain ⟨b3, o3, rfl, hb3⟩ := hri.addr (by rw [tab_length]; omega)
        obtain ⟨b4, o4, rfl, hb4⟩ := hsi.addr (by rw [tab_length]; omega)
        go_wp2
        go_loopw [31] (fun jv wr => ∃ j e : Nat, j ≤ n + 1 ∧ jv = .int .i64 j ∧ (∀ y, y < j → csum b i y ≤ csum a i y) ∧ wr = w3.drewN e) (fun jv _ => n + 1 - (intOf jv).toNat)
        case atStart => exact ⟨0, d, by omega, rfl, fun y hy => by omega, rfl⟩
        case round =>
          obtain ⟨j, e, hj, rfl, hrow, rfl⟩ := hrel
          have HROW := Lib.hid hrow
          clear hrow
          by_cases hlt2 : j < n + 1
          · have hd2 : decide ((j : Int) < (n : Int) + 1) = true := by simp; omega
            have x2 : (j : Int) < (n : Int) + 1 := by omega
            have hcx := getD_cell hri (k := j) (by rw [tab_length]; exact hlt2)
            have hcy := getD_cell hsi (k := j) (by rw [tab_length]; exact hlt2)
            rw [tab_getD hlt2] at hcx hcy
            have hno : Hid (csum a i j < csum b i j → ¬ Ge a b a.length) := fun hh hg => by have := hg i j (by rw [← HN.out]; omega) (by rw [← HN.out]; omega); omega
            have hyes : Hid (¬ csum a i j < csum b i j → ∀ y, y < j + 1 → csum b i y ≤ csum a i y) := fun hh y hy => by
              by_cases c : y = j
              · rw [c]; omega
              · exact HROW.out y (by omega)
            obtain ⟨x, hxx⟩ : ∃ x, x = csum a i j := ⟨_, rfl⟩
            obtain ⟨y, hyy⟩ : ∃ x, x = csum b i j := ⟨_, rfl⟩
            rw [← hxx] at hcx hno hyes
            rw [← hyy] at hcy hno hyes
            clear hxx hyy
            by_cases hxy : x < y
            · have hd3 : decide (x < y) = true := decide_eq_true hxy
              have hfin := Lib.hid (hno.out hxy)
              clear hno hyes hxy
              go_wp2
              go_quiet (fail)
              go_wp2
              go_ret2
              exact ⟨⟨false, 0, rfl, HK.out, fun h => absurd rfl h, fun _ => ⟨fun h => (Bool.noConfusion h), fun hg => absurd hg hfin.out⟩⟩, below_drewN (below_drewN hW _) _⟩
            · have hd3 : decide (x < y) = false := decide_eq_false hxy
              have hfin := Lib.hid (hyes.out hxy)
              clear hno hyes hxy
              go_wp2
              go_quiet (fail)
              go_wp2
              go_roundw
              case rel => exact ⟨j + 1, _, by omega, by go_num, hfin.out, rfl⟩
              case measure => simp [intOf]; omega
          · have hd2 : decide ((j : Int) < (n : Int) + 1) = false := by simp; omega
            have hnx : Hid (∀ x y, x < i + 1 → y ≤ n → csum b x y ≤ csum a x y) := fun x y hx hy => by
              by_cases c : x = i
              · rw [c]; exact HROW.out y (by omega)
              · exact HALL.out x y (by omega) hy
            go_wp2
            go_roundw
            case rel => exact ⟨i + 1, e, by omega, by go_num, hnx.out, rfl⟩
            case measure => simp [intOf]; omega
      · have hd1 : decide ((i : Int) < (n : Int) + 1) = false := by simp; omega
        have hfin : Hid (Ge a b a.length) := fun x y hx hy => HALL.out x y (by rw [← HN.out] at hx; omega) (by rw [← HN.out] at hy; exact hy)
        go_wp2
        go_ret2
        exact ⟨⟨true, 0, rfl, HK.out, fun h => absurd rfl h, fun _ => ⟨fun _ => hfin.out, fun _ => rfl⟩⟩, below_drewN hW _⟩
  · have hd : (k != 0) = true := by simpa using hk0
    have HK := Lib.hid hk
    have hne := Lib.hid hk0
    clear hk hk0
    go_wp2
    go_ret2
    exact ⟨⟨false, k, rfl, HK.out, fun _ => rfl, fun e => absurd e hne.out⟩, hb1⟩

end Go.Proofs.Ytdmpbbgcifodeaa
