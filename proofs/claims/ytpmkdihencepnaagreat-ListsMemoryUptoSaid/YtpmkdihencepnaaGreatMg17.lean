/-
  parts.FromFrobenius, whatever comes in.
-/
import Derived.OwnWalk
import Derived.Test.YtpmkdihencepnaaGreatMg01
import Derived.Test.YtpmkdihencepnaaGreatMg05
import Derived.Test.YtpmkdihencepnaaGreatMg14
import Derived.Test.YtpmkdihencepnaaGreatMg16
namespace Go.Proofs.YtpmkdihencepnaaGreat
open Go.RowKit

def PfOut (e : Ending) (l : List Int) (w w' : World) : Prop := (∃ b, e = .returned (.bool b) ∧ (b = true ↔ FallsL l)) ∧ w = w'
set_option maxHeartbeats 1000000 in
theorem pfalls_b (A : Option Addr) (cap : Nat) (l : List Int) (w : World) (hcl : l.length ≤ 9223372036854775807) (h : Sl w w.heap.size A (ints l)) :
    Calls Tryz.prog 50 #[.slice A l.length cap] w fun e w' => PfOut e l w w' := by
  go_enter Tryz.func50, Tryz.ntmps50
  go_wp2
  go_loop [7] (fun iv => ∃ i : Nat, i ≤ l.length ∧ iv = .int .i64 i ∧ ∀ j, j < i → 0 ≤ l.getD j 0 ∧ (1 ≤ j → l.getD j 0 < l.getD (j - 1) 0)) (fun iv => l.length - (intOf iv).toNat)
  case atStart => exact ⟨0, by omega, rfl, fun j hj => by omega⟩
  case round =>
    obtain ⟨i, hi, rfl, hall⟩ := hrel
    have HALL := Lib.hid hall
    clear hall
    by_cases hlt : i < l.length
    · obtain ⟨b, o, rfl, hb⟩ := h.addr (by omega)
      have hcx := getD_cell h hlt
      have hcy := getD_cell h (show i - 1 < l.length by omega)
      obtain ⟨x, hx⟩ : ∃ x, x = l.getD i 0 := ⟨_, rfl⟩
      obtain ⟨y, hy⟩ : ∃ x, x = l.getD (i - 1) 0 := ⟨_, rfl⟩
      rw [← hx] at hcx
      rw [← hy] at hcy
      have HX := Lib.hid hx
      have HY := Lib.hid hy
      clear hx hy
      by_cases h1 : x < 0
      · have d1 : decide (x < 0) = true := decide_eq_true h1
        have hno : Hid (¬ FallsL l) := Lib.hid (fun hh => by have := (hh i hlt).1; rw [← HX.out] at this; omega)
        go_wp2
        go_ret
        exact ⟨⟨false, rfl, ⟨fun e => (by cases e), fun e => absurd e hno.out⟩⟩, rfl⟩
      · have d1 : decide (x < 0) = false := decide_eq_false h1
        by_cases h2 : 0 < i
        · have d2 : decide ((0 : Int) < (i : Int)) = true := by simp; omega
          by_cases h3 : y ≤ x
          · have d3 : decide (y ≤ x) = true := decide_eq_true h3
            have hno : Hid (¬ FallsL l) := Lib.hid (fun hh => by have := (hh i hlt).2 (by omega); rw [← HX.out, ← HY.out] at this; omega)
            go_wp2
            go_ret
            exact ⟨⟨false, rfl, ⟨fun e => (by cases e), fun e => absurd e hno.out⟩⟩, rfl⟩
          · have d3 : decide (y ≤ x) = false := decide_eq_false h3
            go_wp2
            go_round
            case rel =>
              refine ⟨i + 1, by omega, by go_num, fun j hj => ?_⟩
              by_cases e : j = i
              · subst e; rw [← HX.out, ← HY.out]; omega
              · exact HALL.out j (by omega)
            case measure => simp [intOf]; omega
        · have d2 : decide ((0 : Int) < (i : Int)) = false := by simp; omega
          go_wp2
          go_round
          case rel =>
            refine ⟨i + 1, by omega, by go_num, fun j hj => ?_⟩
            by_cases e : j = i
            · subst e; rw [← HX.out]; omega
            · exact HALL.out j (by omega)
          case measure => simp [intOf]; omega
    · obtain rfl : i = l.length := by omega
      have hyes : Hid (FallsL l) := HALL.out
      go_wp2
      go_ret
      exact ⟨⟨true, rfl, ⟨fun _ => hyes.out, fun _ => rfl⟩⟩, rfl⟩

def FbOk (xs ys : List Int) : Prop := FallsL xs ∧ FallsL ys ∧ xs.length = ys.length ∧ xs.sum + ys.sum + xs.length ≤ 40
def Frobs (xs ys p : List Int) : Prop := IsPart p ∧ p.sum ≤ 40 ∧ IsDiag p xs.length ∧ xs = armsOf p xs.length ∧ ys = armsOf (flipOf p) xs.length
theorem FbOk.ex {xs ys : List Int} (h : FbOk xs ys) : ∃ p, Frobs xs ys p := by
  obtain ⟨p, h1, h2, h3, h4, h5⟩ := frob_ex xs ys h.1 h.2.1 h.2.2.1
  exact ⟨p, h1, by have := h.2.2.2; omega, h3, h4, h5⟩
noncomputable def frobP (xs ys : List Int) : List Int := open Classical in if h : ∃ p, Frobs xs ys p then Classical.choose h else []
theorem frobP_is {xs ys : List Int} (h : FbOk xs ys) : Frobs xs ys (frobP xs ys) := by
  unfold frobP
  rw [dif_pos h.ex]
  exact Classical.choose_spec h.ex
def UnfT (xs ys zs : List Int) : Prop := (FbOk xs ys ∧ zs = frobP xs ys) ∨ (¬ FbOk xs ys ∧ zs = [])
theorem UnfT.fn {xs ys r s : List Int} (h : UnfT xs ys r) (h' : UnfT xs ys s) : r = s := by
  rcases h with ⟨a, rfl⟩ | ⟨a, rfl⟩ <;> rcases h' with ⟨b, rfl⟩ | ⟨b, rfl⟩
  · rfl
  · exact absurd a b
  · exact absurd b a
  · rfl
theorem UnfT.len {xs ys r : List Int} (h : UnfT xs ys r) : r.length ≤ 40 := by
  rcases h with ⟨a, rfl⟩ | ⟨a, rfl⟩
  · exact (frobP_is a).1.len (frobP_is a).2.1
  · simp
def UfOut (e : Ending) (w w' : World) : Prop := (∃ k : Int, e = .returned (.tuple #[.slice none 0 0, .int .i64 k])) ∧ Below w.heap.size w w'
theorem sum_nn : ∀ {l : List Int}, (∀ x ∈ l, 0 ≤ x) → 0 ≤ l.sum
  | [], _ => Int.le_refl _
  | x :: l, h => by
    have h1 := sum_nn (l := l) (fun y hy => h y (List.mem_cons_of_mem _ hy))
    have h2 := h x (by simp)
    rw [List.sum_cons]; omega
theorem falls_nonneg {l : List Int} (h : FallsL l) : ∀ x ∈ l, 0 ≤ x := fun x hx => by
  obtain ⟨i, hi, rfl⟩ := List.getElem_of_mem hx
  have := (h i hi).1
  rwa [getD_get hi] at this
theorem sumTo_up {l : List Int} (h : FallsL l) (i : Nat) : sumTo l i ≤ l.sum ∧ 0 ≤ sumTo l i := by
  have e : l.sum = (l.take i).sum + (l.drop i).sum := by rw [← List.sum_append, List.take_append_drop]
  have h1 := sum_nn (l := l.drop i) (fun x hx => falls_nonneg h x (List.mem_of_mem_drop hx))
  have h2 := sum_nn (l := l.take i) (fun x hx => falls_nonneg h x (List.mem_of_mem_take hx))
  unfold sumTo
  omega

set_option maxRecDepth 100000 in
set_option maxHeartbeats 2000000 in
theorem unfrob_err (A A' : Option Addr) (cap cap' : Nat) (xs ys : List Int) (w : World) (hl : xs.length ≤ 9223372036854775807) (hl' : ys.length ≤ 9223372036854775807) (hn : ¬ FbOk xs ys) (h : Sl w w.heap.size A (ints xs)) (h' : Sl w w.heap.size A' (ints ys)) :
    Calls Tryz.prog 27 #[.slice A xs.length cap, .slice A' ys.length cap'] w fun e w' => UfOut e w w' := by
  by_cases hlen : xs.length = ys.length
  · have HC1 := Lib.hid (pfalls_b A cap xs w hl h)
    have hc2 := pfalls_b A' cap' ys w hl' h'
    rw [← hlen] at hc2 hl' ⊢
    have HC2 := Lib.hid hc2
    have HN := Lib.hid hn
    have HLEN := Lib.hid hlen
    clear hn hc2 hlen
    go_enter Tryz.func27, Tryz.ntmps27
    go_wp2_with (first | (go_at_call 50; refine (HC1.out).mono ?_) | fail)
    rintro e w1 ⟨⟨b1, rfl, hb1⟩, rfl⟩
    cases b1 with
    | false =>
      go_wp2
      go_ret2
      exact ⟨⟨1, rfl⟩, Below.refl _ _⟩
    | true =>
      have HF1 := Lib.hid (hb1.1 rfl)
      clear hb1
      go_wp2_with (first | (go_at_call 50; refine (HC2.out).mono ?_) | fail)
      rintro e w2 ⟨⟨b2, rfl, hb2⟩, rfl⟩
      cases b2 with
      | false =>
        go_wp2
        go_ret2
        exact ⟨⟨1, rfl⟩, Below.refl _ _⟩
      | true =>
        have HF2 := Lib.hid (hb2.1 rfl)
        clear hb2
        have HBIG : Hid (40 < xs.sum + ys.sum + xs.length) := Lib.hid (by
          by_cases c : 40 < xs.sum + ys.sum + xs.length
          · exact c
          · exact absurd ⟨HF1.out, HF2.out, HLEN.out, by omega⟩ HN.out)
        go_wp2
        go_loopw [6, 31] (fun lv iv wr => ∃ (i n : Nat) (L : Int), i ≤ xs.length ∧ iv = .int .i64 i ∧ lv = .int .i64 L ∧ L = 40 - (sumTo xs i + sumTo ys i + i) ∧ 0 ≤ L ∧ wr = w.drewN n) (fun _ iv _ => xs.length - (intOf iv).toNat)
        case atStart => exact ⟨0, 0, 40, by omega, rfl, rfl, by simp [sumTo], by omega, rfl⟩
        case round =>
          obtain ⟨i, n, L, hi, rfl, rfl, hL, hL0, rfl⟩ := hrel
          have HLL := Lib.hid hL
          by_cases hlt : i < xs.length
          · have hdl1 : decide (i < xs.length) = true := decide_eq_true hlt
            obtain ⟨b, o, rfl, hb⟩ := h.addr (by omega)
            have hlty : i < ys.length := by rw [← HLEN.out]; exact hlt
            obtain ⟨b2, o2, rfl, hb2⟩ := h'.addr (by omega)
            have hcx := getD_cell h hlt
            have hcy := getD_cell h' hlty
            have hx0 := (HF1.out i hlt).1
            have hy0 := (HF2.out i hlty).1
            have hs0 := (sumTo_up HF1.out i).2
            have hs1 := (sumTo_up HF2.out i).2
            have hsx : sumTo xs (i + 1) = sumTo xs i + xs.getD i 0 := by rw [sumTo_succ hlt, getD_get hlt]
            have hsy : sumTo ys (i + 1) = sumTo ys i + ys.getD i 0 := by rw [sumTo_succ hlty, getD_get hlty]
            obtain ⟨x, hx⟩ : ∃ x, x = xs.getD i 0 := ⟨_, rfl⟩
            obtain ⟨y, hy⟩ : ∃ x, x = ys.getD i 0 := ⟨_, rfl⟩
            rw [← hx] at hcx hx0 hsx
            rw [← hy] at hcy hy0 hsy
            have hLu : L ≤ 40 := by omega
            have HSX := Lib.hid hsx
            have HSY := Lib.hid hsy
            clear hx hy hsx hsy hs0 hs1 hL
            clear HLEN HBIG hlty
            by_cases h1 : L ≤ x
            · have d1 : decide (L ≤ x) = true := decide_eq_true h1
              go_wp2
              go_quiet (fail)
              go_wp2
              go_ret2
              exact ⟨⟨2, rfl⟩, below_drewN (below_drewN (Below.refl _ _) _) _⟩
            · have d1 : decide (L ≤ x) = false := decide_eq_false h1
              have wL : IntKind.i64.wrap (L - x) = L - x := IntWalk.i64_in _ (by omega)
              by_cases h2 : L - x ≤ y
              · have d2 : decide (L - x ≤ y) = true := decide_eq_true h2
                go_wp2
                go_quiet (fail)
                go_wp2
                go_ret2
                exact ⟨⟨2, rfl⟩, below_drewN (below_drewN (Below.refl _ _) _) _⟩
              · have d2 : decide (L - x ≤ y) = false := decide_eq_false h2
                have hy40 : y ≤ 40 := by omega
                go_wp2
                go_quiet (fail)
                go_wp2
                go_quiet (fail)
                go_wp2
                go_roundw
                case rel => exact ⟨i + 1, _, L - (x + y + 1), by omega, by go_num, by go_num, by rw [HSX.out, HSY.out, HLL.out]; push_cast; omega, by omega, rfl⟩
                case measure => simp [intOf]; omega
          · obtain rfl : i = xs.length := by omega
            have h1 := HBIG.out
            have e1 : sumTo xs xs.length = xs.sum := by simp [sumTo]
            have e2 : sumTo ys xs.length = ys.sum := by rw [HLEN.out]; simp [sumTo]
            rw [e1, e2] at hL
            omega
  · have dl : ((xs.length : Int) != (ys.length : Int)) = true := by simp; omega
    clear hn
    go_enter Tryz.func27, Tryz.ntmps27
    go_wp2
    go_ret2
    exact ⟨⟨1, rfl⟩, Below.refl _ _⟩
theorem unfrob_all (A A' : Option Addr) (cap cap' : Nat) (xs ys : List Int) (w : World) (hl : xs.length ≤ 9223372036854775807) (hl' : ys.length ≤ 9223372036854775807) (h : Sl w w.heap.size A (ints xs)) (h' : Sl w w.heap.size A' (ints ys)) :
    Calls Tryz.prog 27 #[.slice A xs.length cap, .slice A' ys.length cap'] w fun e w' => Tol (UnfT xs ys) w.heap.size e w' ∧ Below w.heap.size w w' := by
  by_cases hok : FbOk xs ys
  · obtain ⟨h1, h2, h3, h4, h5⟩ := frobP_is hok
    refine (unfrob_any A A' cap cap' (frobP xs ys) xs.length xs ys w h1 h2 h3 h4 h5 h h').mono ?_
    rintro e w' ⟨⟨v, rfl, ho⟩, hb⟩
    exact ⟨tol_own ho 0 (.inl ⟨hok, rfl⟩), hb⟩
  · refine (unfrob_err A A' cap cap' xs ys w hl hl' hok h h').mono ?_
    rintro e w' ⟨⟨k, rfl⟩, hb⟩
    exact ⟨tol_bad _ _ _ (.inr ⟨hok, rfl⟩), hb⟩
end Go.Proofs.YtpmkdihencepnaaGreat

/-
  ferlaw.Same, Rows, Tables: what they answer.
-/
namespace Go.Proofs.YtpmkdihencepnaaGreat
open Go.RowKit

set_option maxHeartbeats 1000000 in
theorem same_anyA (A A' : Option Addr) (cap cap' : Nat) (xs ys : List Int) (w : World) (hx : xs.length ≤ 9223372036854775807) (hy : ys.length ≤ 9223372036854775807)
    (h : Sl w w.heap.size A (ints xs)) (h' : Sl w w.heap.size A' (ints ys)) :
    Calls Tryz.prog 5 #[.slice A xs.length cap, .slice A' ys.length cap'] w fun e w' => e = .returned (.bool (decide (xs = ys))) ∧ ∃ n, w' = w.drewN n := by
  by_cases hl : xs.length = ys.length
  · have HL := Lib.hid hl
    have hd0 : (((xs.length : Nat) : Int) != ((ys.length : Nat) : Int)) = false := by simp [hl]
    clear hl
    go_enter Tryz.func5, Tryz.ntmps5
    go_wp2
    go_loopw [13] (fun iv wr => ∃ (i : Nat), i ≤ xs.length ∧ iv = .int .i64 i ∧ xs.take i = ys.take i ∧ ∃ d, wr = w.drewN d) (fun iv _ => xs.length - (intOf iv).toNat)
    case atStart => exact ⟨0, by omega, rfl, by simp, 0, rfl⟩
    case round =>
      obtain ⟨i, hi, rfl, heq, d, rfl⟩ := hrel
      have HE := Lib.hid heq
      clear heq
      by_cases hlt : i < xs.length
      · have hlt' : i < ys.length := by have := HL.out; omega
        obtain ⟨b, o, rfl, hb, hc⟩ := h.at_ hlt
        obtain ⟨b', o', rfl, hb', hc'⟩ := h'.at_ hlt'
        obtain ⟨x, hxx⟩ : ∃ x, x = xs[i] := ⟨_, rfl⟩
        obtain ⟨y, hyy⟩ : ∃ x, x = ys[i] := ⟨_, rfl⟩
        rw [← hxx] at hc
        rw [← hyy] at hc'
        have HX := Lib.hid hxx
        have HY := Lib.hid hyy
        have hdl : decide (i < xs.length) = true := by simpa using hlt
        clear hxx hyy
        by_cases hxy : x = y
        · have hd : (x != y) = false := by simpa using hxy
          have HXY := Lib.hid hxy
          clear hxy
          go_wp2
          go_quiet (fail)
          go_wp2
          go_roundw
          case rel =>
            refine ⟨i + 1, by omega, by go_num, ?_, _, rfl⟩
            rw [take_snoc hlt, take_snoc hlt', HE.out, ← HX.out, ← HY.out, HXY.out]
          case measure => simp [intOf]; omega
        · have hd : (x != y) = true := by simpa using hxy
          have HXY := Lib.hid hxy
          have hfin : Hid (decide (xs = ys) = false) := by
            show _ = _
            rw [decide_eq_false_iff_not]
            intro e
            subst e
            exact HXY.out (HX.out.trans HY.out.symm)
          clear hxy
          go_wp2
          go_quiet (fail)
          go_wp2
          go_ret
          exact ⟨by rw [hfin.out]; rfl, _, World.drewN_drewN ..⟩
      · have hfin : Hid (decide (xs = ys) = true) := by
          show _ = _
          rw [decide_eq_true_iff]
          have := HE.out
          have hl := HL.out
          rwa [List.take_of_length_le (by omega), List.take_of_length_le (by omega)] at this
        go_wp2
        go_ret
        exact ⟨by rw [hfin.out]; rfl, _, rfl⟩
  · have hd0 : (((xs.length : Nat) : Int) != ((ys.length : Nat) : Int)) = true := by simp; omega
    have hfin : Hid (decide (xs = ys) = false) := by
      show _ = _
      rw [decide_eq_false_iff_not]
      intro e
      subst e
      exact hl rfl
    clear hl
    go_enter Tryz.func5, Tryz.ntmps5
    go_wp2
    go_ret
    exact ⟨by rw [hfin.out]; rfl, 0, rfl⟩

theorem same_bA (A A' : Option Addr) (cap cap' : Nat) (xs ys : List Int) (w : World) (hx : xs.length ≤ 9223372036854775807) (hy : ys.length ≤ 9223372036854775807)
    (h : Sl w w.heap.size A (ints xs)) (h' : Sl w w.heap.size A' (ints ys)) :
    Calls Tryz.prog 5 #[.slice A xs.length cap, .slice A' ys.length cap'] w fun e w' => e = .returned (.bool (decide (xs = ys))) ∧ Below w.heap.size w w' :=
  (same_anyA A A' cap cap' xs ys w hx hy h h').mono fun e w' ⟨h1, n, h2⟩ => ⟨h1, by rw [h2]; exact below_drewN (Below.refl _ _) n⟩

set_option maxRecDepth 100000 in
set_option maxHeartbeats 2000000 in
theorem rows_any (A A' : Option Addr) (cap cap' : Nat) (xs ys : List (List Int)) (w : World) (hx : xs.length ≤ 9223372036854775807) (hy : ys.length ≤ 9223372036854775807) (h : SR w w.heap.size A xs) (h' : SR w w.heap.size A' ys) :
    Calls Tryz.prog 28 #[.slice A xs.length cap, .slice A' ys.length cap'] w fun e w' => e = .returned (.bool (decide (xs = ys))) ∧ Below w.heap.size w w' := by
  by_cases hl : xs.length = ys.length
  · have HL := Lib.hid hl
    have hd0 : (((xs.length : Nat) : Int) != ((ys.length : Nat) : Int)) = false := by simp [hl]
    clear hl
    go_enter Tryz.func28, Tryz.ntmps28
    go_wp2
    go_loopw [13] (fun iv wr => ∃ (i : Nat), i ≤ xs.length ∧ iv = .int .i64 i ∧ xs.take i = ys.take i ∧ Below w.heap.size w wr) (fun iv _ => xs.length - (intOf iv).toNat)
    case atStart => exact ⟨0, by omega, rfl, by simp, Below.refl _ _⟩
    case round =>
      obtain ⟨i, hi, rfl, heq, hW⟩ := hrel
      have HE := Lib.hid heq
      clear heq
      have hwsz := hW.size
      by_cases hlt : i < xs.length
      · have hlt' : i < ys.length := by have := HL.out; omega
        have hdl : decide (i < xs.length) = true := by simpa using hlt
        obtain ⟨b, o, rfl, hb⟩ := h.addr (by omega)
        obtain ⟨b', o', rfl, hb'⟩ := h'.addr (by omega)
        obtain ⟨Ar, cr, hc, hr, hrl⟩ := (h.below hW).at_ hlt
        obtain ⟨Ar', cr', hc', hr', hrl'⟩ := (h'.below hW).at_ hlt'
        obtain ⟨x, hxx⟩ : ∃ x, x = xs.getD i [] := ⟨_, rfl⟩
        obtain ⟨y, hyy⟩ : ∃ x, x = ys.getD i [] := ⟨_, rfl⟩
        rw [← hxx] at hc hr hrl
        rw [← hyy] at hc' hr' hrl'
        have HX := Lib.hid hxx
        have HY := Lib.hid hyy
        have hcall := same_bA Ar Ar' cr cr' x y wr.drew hrl hrl' ((hr.more hwsz)) ((hr'.more hwsz))
        have HCALL := Lib.hid hcall
        clear hxx hyy hcall
        by_cases hxy : x = y
        · have hd : decide (x = y) = true := decide_eq_true hxy
          have hnx : Hid (xs.take (i + 1) = ys.take (i + 1)) := by
            show _ = _
            rw [getD_take_succ hlt, getD_take_succ hlt', HE.out, ← HX.out, ← HY.out, hxy]
          clear hxy
          go_wp2
          go_region_held3 (fun w' => w'.cell? ⟨b, o + i, none⟩ = some (.slice Ar x.length cr) ∧ w'.cell? ⟨b', o' + i, none⟩ = some (.slice Ar' y.length cr')) (first | go_keep | (go_split_ands; refine ⟨(hb9.cell (by show _ < _; simp; omega)).trans ?_, (hb9.cell (by show _ < _; simp; omega)).trans ?_⟩ <;> assumption))
            (first | ((go_at_call 5; refine HCALL.out.mono ?_; rintro e w9 ⟨rfl, hb9⟩)) | fail)
          go_wp2
          go_roundw
          case rel => exact ⟨i + 1, by omega, by go_num, hnx.out, (hW.drew).trans (hb9.mono hwsz)⟩
          case measure => simp [intOf]; omega
        · have hd : decide (x = y) = false := decide_eq_false hxy
          have hfin : Hid (decide (xs = ys) = false) := by
            show _ = _
            rw [decide_eq_false_iff_not]
            intro e
            subst e
            exact hxy (HX.out.trans HY.out.symm)
          clear hxy
          go_wp2
          go_region_held3 (fun w' => w'.cell? ⟨b, o + i, none⟩ = some (.slice Ar x.length cr) ∧ w'.cell? ⟨b', o' + i, none⟩ = some (.slice Ar' y.length cr')) (first | go_keep | (go_split_ands; refine ⟨(hb9.cell (by show _ < _; simp; omega)).trans ?_, (hb9.cell (by show _ < _; simp; omega)).trans ?_⟩ <;> assumption))
            (first | ((go_at_call 5; refine HCALL.out.mono ?_; rintro e w9 ⟨rfl, hb9⟩)) | fail)
          go_wp2
          go_ret
          exact ⟨by rw [hfin.out]; rfl, (hW.drew).trans (hb9.mono hwsz)⟩
      · have hdl : decide (i < xs.length) = false := by simpa using hlt
        have hfin : Hid (decide (xs = ys) = true) := by
          show _ = _
          rw [decide_eq_true_iff]
          have := HE.out
          have hl := HL.out
          rwa [List.take_of_length_le (by omega), List.take_of_length_le (by omega)] at this
        go_wp2
        go_ret
        exact ⟨by rw [hfin.out]; rfl, hW⟩
  · have hd0 : (((xs.length : Nat) : Int) != ((ys.length : Nat) : Int)) = true := by simp; omega
    have hfin : Hid (decide (xs = ys) = false) := by
      show _ = _
      rw [decide_eq_false_iff_not]
      intro e
      subst e
      exact hl rfl
    clear hl
    go_enter Tryz.func28, Tryz.ntmps28
    go_wp2
    go_ret
    exact ⟨by rw [hfin.out]; rfl, Below.refl _ _⟩

/-- A slice of tables that reads as ts, all below block B. -/
def TR (w : World) (B : Nat) (A : Option Addr) (ts : List (List (List Int))) : Prop :=
  ∃ hs : List Value, hs.length = ts.length ∧ Sl w B A hs ∧ ∀ r, r < ts.length → ∃ Ar cr, hs[r]? = some (.slice Ar (ts.getD r []).length cr) ∧ SR w B Ar (ts.getD r []) ∧ (ts.getD r []).length ≤ 9223372036854775807
section
variable {w w' : World} {B B' : Nat} {A : Option Addr} {ts : List (List (List Int))}
theorem TR.below (h : TR w B A ts) (hb : Below B w w') : TR w' B A ts := by
  obtain ⟨hs, h1, h2, h3⟩ := h
  exact ⟨hs, h1, h2.below hb, fun r hr => by obtain ⟨Ar, cr, a, b, c⟩ := h3 r hr; exact ⟨Ar, cr, a, b.below hb, c⟩⟩
theorem TR.more (h : TR w B A ts) (hB : B ≤ B') : TR w B' A ts := by
  obtain ⟨hs, h1, h2, h3⟩ := h
  exact ⟨hs, h1, h2.more hB, fun r hr => by obtain ⟨Ar, cr, a, b, c⟩ := h3 r hr; exact ⟨Ar, cr, a, b.more hB, c⟩⟩
theorem TR.keep (h : TR w w.heap.size A ts) (hb : Below w.heap.size w w') : TR w' w'.heap.size A ts := (h.below hb).more hb.size
theorem TR.addr (h : TR w B A ts) (hp : 0 < ts.length) : ∃ b o, A = some ⟨b, o, none⟩ ∧ b < B := by
  obtain ⟨hs, h1, h2, _⟩ := h
  obtain ⟨b, o, e, hlt, _⟩ := h2 (by omega)
  exact ⟨b, o, e, hlt⟩
theorem TR.at_ {b o : Nat} (h : TR w B (some ⟨b, o, none⟩) ts) {r : Nat} (hr : r < ts.length) :
    ∃ Ar cr, w.cell? ⟨b, o + r, none⟩ = some (.slice Ar (ts.getD r []).length cr) ∧ SR w B Ar (ts.getD r []) ∧ (ts.getD r []).length ≤ 9223372036854775807 := by
  obtain ⟨hs, h1, h2, h3⟩ := h
  obtain ⟨Ar, cr, a, b', c⟩ := h3 r hr
  obtain ⟨b1, o1, e1, _, hc⟩ := h2 (by omega)
  obtain ⟨rfl, rfl⟩ : b = b1 ∧ o = o1 := by simpa using e1
  exact ⟨Ar, cr, hc r _ a, b', c⟩
end
end Go.Proofs.YtpmkdihencepnaaGreat

/-
  ferlaw.Same, literals, owned rows (printed by wip/mkA.py).
-/
namespace Go.Proofs.YtpmkdihencepnaaGreat
open Go.RowKit

theorem own_lowA {w w' : World} {base g n c B : Nat} {e : TypeId} {cs : List Value} (h : w.ownsRow base e 1 (.slice (some ⟨g, 0, none⟩) n c) n cs) (hg : g < B) (hb : Below B w w') : w'.ownsRow base e 1 (.slice (some ⟨g, 0, none⟩) n c) n cs := by
  refine ⟨h.1, ?_⟩
  rcases h.2 with hn | ⟨g', cap, cur, e1, hg', hh, rest⟩
  · exact .inl hn
  · obtain rfl : g = g' := by
      have : g = g' ∧ c = cap := by simpa using e1
      exact this.1
    exact .inr ⟨g, cap, cur, e1, hg', (hb.block g hg).trans hh, rest⟩
end Go.Proofs.YtpmkdihencepnaaGreat
