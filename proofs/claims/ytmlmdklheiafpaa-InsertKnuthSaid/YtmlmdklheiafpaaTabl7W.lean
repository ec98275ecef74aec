/-
  insert.Make, insert.Rising, insert.Falling: what they answer.
-/
import Derived.Test.YtmlmdklheiafpaaTabl6W
namespace Go.Proofs.Ytmlmdklheiafpaa
open Go.RowKit

/-- 1 to n, as far as i. -/
def upTil (n i : Nat) : List Int := (List.range n).map (fun j => if j < i then (j : Int) + 1 else 0)
def upN (n : Nat) : List Int := upTil n n
theorem upTil_length (n i : Nat) : (upTil n i).length = n := by simp [upTil]
theorem upTil_zero (n : Nat) : upTil n 0 = List.replicate n 0 := by
  unfold upTil
  apply List.ext_getElem (by simp)
  intro j h1 h2
  rw [List.getElem_replicate, List.getElem_map, if_neg (by omega)]
theorem upTil_get {n i : Nat} (h : i < n) : (upTil n i)[i]? = some 0 := by simp [upTil, h]
theorem upTil_set {n i : Nat} : (upTil n i).set i ((i : Int) + 1) = upTil n (i + 1) := by
  unfold upTil
  apply List.ext_getElem (by simp)
  intro j h1 h2
  rw [List.getElem_set]
  by_cases e : i = j
  · subst e; simp
  · rw [if_neg e]
    have : (j < i) ↔ (j < i + 1) := by omega
    simp [this]
/-- What insert.Make answers. -/
def MakeOut (e : Ending) (w : World) (xs : List Int) : Prop :=
  ∃ (k : Int) (A1 A2 : Option Addr) (c1 c2 : Nat) (P Q : List (List Int)), e = .returned (.tuple #[.slice A1 P.length c1, .slice A2 Q.length c2, .int .i64 k]) ∧ SR w w.heap.size A1 P ∧ SR w w.heap.size A2 Q ∧ P.length ≤ 9223372036854775807 ∧ Q.length ≤ 9223372036854775807 ∧
    k = wordChk xs ∧ (k = 0 → P = insW [] xs ∧ Q = recQ xs (upN xs.length) xs.length) ∧ (k ≠ 0 → P = [] ∧ Q = [])

set_option maxRecDepth 100000 in
theorem make_any (A : Option Addr) (cap : Nat) (xs : List Int) (w : World) (hcl : xs.length ≤ 9223372036854775807) (h : Sl w w.heap.size A (ints xs)) :
    Calls Try.prog 37 #[.slice A xs.length cap] w fun e w' => MakeOut e w' xs ∧ Below w.heap.size w w' := by
  go_enter Try.func37, Try.ntmps37
  go_wp2_with (first | (go_at_call 56; refine (letters_any A cap xs _ hcl h).mono ?_) | fail)
  rintro e w1 ⟨rfl, rfl⟩
  obtain ⟨k, hk⟩ : ∃ k, k = wordChk xs := ⟨_, rfl⟩
  rw [← hk]
  have HK := Lib.hid hk
  by_cases hk0 : k = 0
  · have hw := wordChk_zero (xs := xs) (by rw [← hk]; exact hk0)
    have hl := hw.1
    have HX : Hid (∀ x ∈ xs, Lt x) := hw.2
    subst hk0
    clear hk hw
    go_wp2_with (first | (refine wpList_mk (base := w.heap.size) rfl (.tmp 14) (.tmp 14) rfl xs.length rfl rfl (by omega) (Nat.le_refl _) (fun w2 hown2 hb2 hz2 => ?_)) | fail)
    rw [← upTil_zero] at hown2
    have HO2 := Lib.hid hown2
    clear hown2
    go_wp2
    go_loopw [18] (fun iv wr => ∃ i : Nat, i ≤ xs.length ∧ iv = .int .i64 i ∧ wr.ownsRow w.heap.size 3 1 (.slice (some ⟨w.heap.size, 0, none⟩) xs.length xs.length) xs.length (ints (upTil xs.length i)) ∧ Below w.heap.size w wr) (fun iv _ => xs.length - (intOf iv).toNat)
    case atStart => exact ⟨0, Nat.zero_le _, rfl, HO2.out, hb2⟩
    case round =>
      clear HO2 hb2 hz2
      obtain ⟨i, hi, rfl, ho, hW⟩ := hrel
      have HO := Lib.hid ho
      by_cases hit : i < xs.length
      · have di : decide (i < xs.length) = true := decide_eq_true hit
        have hc := own_get ho (upTil_get hit)
        have hf := ho.frozenAt i
        have hst := own_set ho i ((i : Int) + 1)
        rw [upTil_set] at hst
        have HST := Lib.hid hst
        clear hst ho
        go_wp2
        go_roundw
        case rel => exact ⟨i + 1, by omega, rfl, HST.out, hW.setCell (p := ⟨w.heap.size, i, none⟩) (Nat.le_refl _) _⟩
        case measure => simp [intOf]; omega
      · have di : decide (i < xs.length) = false := decide_eq_false hit
        have hie : i = xs.length := by omega
        rw [hie] at ho
        have hsl := Sl.of_own ho
        have hmd := made_any A (some ⟨w.heap.size, 0, none⟩) cap xs.length xs (upN xs.length) wr hl (upTil_length _ _).symm HX.out (h.now hW (Nat.le_refl _)) hsl
        have hun : (upN xs.length).length = xs.length := upTil_length _ _
        rw [hun] at hmd
        have HMD := Lib.hid hmd
        clear hmd hsl ho HO hie hun
        go_wp2_with (first | (go_at_call 62; refine HMD.out.mono ?_) | fail)
        rintro e w3 ⟨⟨v, hs, u, us, rfl, hm, hq, _⟩, hb3⟩
        obtain ⟨A1, c1, rfl, hs1, hl1, hl1'⟩ := hm.sr
        obtain ⟨A2, c2, rfl, hs2, hl2, hl2'⟩ := hq.sr
        have HS1 := Lib.hid hs1
        have HS2 := Lib.hid hs2
        have hW3 := below_call hW (Nat.le_refl _) hb3
        clear hs1 hs2 hm hq hb3 HMD
        go_wp2
        go_ret3
        exact ⟨⟨0, A1, A2, c1, c2, _, _, rfl, HS1.out, HS2.out, by omega, by omega, HK.out, fun _ => ⟨rfl, rfl⟩, fun e => absurd rfl e⟩, hW3⟩
  · have dk : (k != 0) = true := by simpa using hk0
    have HK0 := Lib.hid hk0
    clear hk
    go_wp2
    go_ret3
    exact ⟨⟨k, none, none, 0, 0, [], [], rfl, SR.nil _ _ _, SR.nil _ _ _, by simp, by simp, HK.out, fun e => absurd e HK0.out, fun _ => ⟨rfl, rfl⟩⟩, Below.refl _ _⟩

/-- What Rising and Falling answer. -/
def RisOut (xs : List Int) (k v j : Int) (f : Nat → Nat) : Prop := (wordChk xs ≠ 0 ∧ j = wordChk xs ∧ v = 0) ∨ (wordChk xs = 0 ∧ k < 0 ∧ j = 1 ∧ v = 0) ∨ (wordChk xs = 0 ∧ 0 ≤ k ∧ j = 0 ∧ v = (f k.toNat : Int))
/-- The first k rows' boxes. -/
def topRows (T : List (List Int)) (k : Nat) : Nat := boxes (T.take k)
/-- The first k columns' boxes. -/
def topCols (T : List (List Int)) (k : Nat) : Nat := (T.map (fun r => min k r.length)).sum
theorem boxes_min {T : List (List Int)} {k i : Nat} (h : i < T.length) : boxes (T.take (min (i + 1) k)) = boxes (T.take (min i k)) + if i < k then (T.getD i []).length else 0 := by
  by_cases c : i < k
  · rw [if_pos c, Nat.min_eq_left (by omega), Nat.min_eq_left (by omega), boxes_take h]
  · rw [if_neg c, Nat.min_eq_right (by omega), Nat.min_eq_right (by omega)]; rfl
theorem cols_take {T : List (List Int)} {k i : Nat} (h : i < T.length) : topCols (T.take (i + 1)) k = topCols (T.take i) k + min k (T.getD i []).length := by
  unfold topCols
  rw [take_snoc h, List.map_append, List.sum_append, getD_get h]
  simp only [List.map_cons, List.map_nil, List.sum_cons, List.sum_nil, Nat.add_zero]
theorem cols_le (T : List (List Int)) (k : Nat) : topCols T k ≤ boxes T := by
  induction T with
  | nil => exact Nat.le_refl _
  | cons r t ih =>
    have : topCols (r :: t) k = min k r.length + topCols t k := by simp [topCols]
    rw [this, boxes_cons]; omega
theorem cols_take_le (T : List (List Int)) (k i : Nat) : topCols (T.take i) k ≤ boxes T := Nat.le_trans (cols_le _ _) (boxes_le i)

set_option maxRecDepth 100000 in
theorem rising_any (A : Option Addr) (cap : Nat) (xs : List Int) (k : Int) (w : World) (hcl : xs.length ≤ 9223372036854775807) (h : Sl w w.heap.size A (ints xs)) :
    Calls Try.prog 33 #[.slice A xs.length cap, .int .i64 k] w fun e w' => (∃ v j : Int, e = .returned (.tuple #[.int .i64 v, .int .i64 j]) ∧ RisOut xs k v j (topRows (insW [] xs))) ∧ Below w.heap.size w w' := by
  go_enter Try.func33, Try.ntmps33
  go_wp2_with (first | (go_at_call 37; refine (make_any A cap xs _ hcl h).mono ?_) | fail)
  rintro e w1 ⟨⟨j, A1, A2, c1, c2, P, Q, rfl, hs1, _, hP, _, hj, hz, hn⟩, hb1⟩
  have HJ := Lib.hid hj
  by_cases hj0 : j = 0
  · obtain ⟨hPe, _⟩ := hz hj0
    have hwz : wordChk xs = 0 := by rw [← hj]; exact hj0
    have hw := wordChk_zero hwz
    have HWZ := Lib.hid hwz
    have hb40 : boxes P ≤ 40 := by rw [hPe, (fill_word hw.1 hw.2).2]; exact hw.1
    have HPE := Lib.hid hPe
    subst hj0
    clear hj hz hn hPe hwz hw
    by_cases hk : k < 0
    · have dk : decide (k < 0) = true := decide_eq_true hk
      have HKN := Lib.hid hk
      go_wp2
      go_ret2
      exact ⟨⟨0, 1, rfl, .inr (.inl ⟨HWZ.out, HKN.out, rfl, rfl⟩)⟩, hb1⟩
    · obtain ⟨m, rfl⟩ := Int.eq_ofNat_of_zero_le (show 0 ≤ k by omega)
      have dk : decide ((m : Int) < 0) = false := decide_eq_false hk
      go_wp2
      go_loop [9, 25] (fun nv iv => ∃ (i : Nat), i ≤ P.length ∧ iv = .int .i64 i ∧ nv = .int .i64 (boxes (P.take (min i m)))) (fun _ iv => P.length - (intOf iv).toNat)
      case atStart => exact ⟨0, Nat.zero_le _, rfl, by simp [boxes]⟩
      case round =>
        obtain ⟨i, hi, rfl, rfl⟩ := hrel
        by_cases hit : i < P.length
        · have di : decide (i < P.length) = true := decide_eq_true hit
          obtain ⟨b, o, rfl, hb⟩ := hs1.addr (by omega)
          obtain ⟨Ar, cr, hc, _, hrl⟩ := hs1.at_ hit
          have hbt := boxes_min (k := m) hit
          have hble := boxes_le (T := P) (min (i + 1) m)
          obtain ⟨q, hq⟩ : ∃ q, q = (P.getD i []).length := ⟨_, rfl⟩
          obtain ⟨p, hp⟩ : ∃ p, p = boxes (P.take (min i m)) := ⟨_, rfl⟩
          rw [← hq] at hc hrl hbt
          rw [← hp] at hbt ⊢
          have HBT := Lib.hid hbt
          by_cases him : i < m
          · have dm : decide (i < m) = true := decide_eq_true him
            have hpq : p + q ≤ 40 := by rw [if_pos him] at hbt; omega
            clear hq hp hbt hble
            go_wp2
            go_round
            case rel => exact ⟨i + 1, by omega, rfl, by rw [HBT.out, if_pos him]; go_num⟩
            case measure => simp [intOf]; omega
          · have dm : decide (i < m) = false := decide_eq_false him
            clear hq hp hbt hble
            go_wp2
            go_round
            case rel => exact ⟨i + 1, by omega, rfl, by rw [HBT.out, if_neg him]; go_num⟩
            case measure => simp [intOf]; omega
        · have di : decide (i < P.length) = false := decide_eq_false hit
          have hfin : Hid (boxes (P.take (min i m)) = topRows (insW [] xs) m) := by
            show _ = _
            unfold topRows
            rw [← HPE.out]
            by_cases c : m ≤ i
            · rw [Nat.min_eq_right c]
            · rw [Nat.min_eq_left (by omega), List.take_of_length_le (by omega), List.take_of_length_le (by omega)]
          obtain ⟨p, hp⟩ : ∃ p, p = boxes (P.take (min i m)) := ⟨_, rfl⟩
          rw [← hp]
          have HP := Lib.hid hp
          clear hp
          go_wp2
          go_ret2
          exact ⟨⟨p, 0, rfl, .inr (.inr ⟨HWZ.out, by omega, rfl, by rw [HP.out, hfin.out, Int.toNat_natCast]⟩)⟩, hb1⟩
  · have dj : (j != 0) = true := by simpa using hj0
    have HJ0 := Lib.hid hj0
    clear hj hz hn
    go_wp2
    go_ret2
    exact ⟨⟨0, j, rfl, .inl ⟨by rw [← HJ.out]; exact HJ0.out, HJ.out, rfl⟩⟩, hb1⟩

set_option maxRecDepth 100000 in
theorem falling_any (A : Option Addr) (cap : Nat) (xs : List Int) (k : Int) (w : World) (hcl : xs.length ≤ 9223372036854775807) (h : Sl w w.heap.size A (ints xs)) :
    Calls Try.prog 34 #[.slice A xs.length cap, .int .i64 k] w fun e w' => (∃ v j : Int, e = .returned (.tuple #[.int .i64 v, .int .i64 j]) ∧ RisOut xs k v j (topCols (insW [] xs))) ∧ Below w.heap.size w w' := by
  go_enter Try.func34, Try.ntmps34
  go_wp2_with (first | (go_at_call 37; refine (make_any A cap xs _ hcl h).mono ?_) | fail)
  rintro e w1 ⟨⟨j, A1, A2, c1, c2, P, Q, rfl, hs1, _, hP, _, hj, hz, hn⟩, hb1⟩
  have HJ := Lib.hid hj
  by_cases hj0 : j = 0
  · obtain ⟨hPe, _⟩ := hz hj0
    have hwz : wordChk xs = 0 := by rw [← hj]; exact hj0
    have hw := wordChk_zero hwz
    have HWZ := Lib.hid hwz
    have hb40 : boxes P ≤ 40 := by rw [hPe, (fill_word hw.1 hw.2).2]; exact hw.1
    have HPE := Lib.hid hPe
    subst hj0
    clear hj hz hn hPe hwz hw
    by_cases hk : k < 0
    · have dk : decide (k < 0) = true := decide_eq_true hk
      have HKN := Lib.hid hk
      go_wp2
      go_ret2
      exact ⟨⟨0, 1, rfl, .inr (.inl ⟨HWZ.out, HKN.out, rfl, rfl⟩)⟩, hb1⟩
    · obtain ⟨m, rfl⟩ := Int.eq_ofNat_of_zero_le (show 0 ≤ k by omega)
      have dk : decide ((m : Int) < 0) = false := decide_eq_false hk
      go_wp2
      go_loop [9, 25] (fun nv iv => ∃ (i : Nat), i ≤ P.length ∧ iv = .int .i64 i ∧ nv = .int .i64 (topCols (P.take i) m)) (fun _ iv => P.length - (intOf iv).toNat)
      case atStart => exact ⟨0, Nat.zero_le _, rfl, by simp [topCols]⟩
      case round =>
        obtain ⟨i, hi, rfl, rfl⟩ := hrel
        by_cases hit : i < P.length
        · have di : decide (i < P.length) = true := decide_eq_true hit
          obtain ⟨b, o, rfl, hb⟩ := hs1.addr (by omega)
          obtain ⟨Ar, cr, hc, _, hrl⟩ := hs1.at_ hit
          have hbt := cols_take (k := m) hit
          have hble := cols_take_le P m (i + 1)
          obtain ⟨q, hq⟩ : ∃ q, q = (P.getD i []).length := ⟨_, rfl⟩
          obtain ⟨p, hp⟩ : ∃ p, p = topCols (P.take i) m := ⟨_, rfl⟩
          rw [← hq] at hc hrl hbt
          rw [← hp] at hbt ⊢
          have HBT := Lib.hid hbt
          have hpq : p + min m q ≤ 40 := by omega
          clear hq hp hbt hble
          by_cases hmq : m ≤ q
          · have hmin : Hid (min m q = m) := Nat.min_eq_left hmq
            rw [Nat.min_eq_left hmq] at hpq
            have dm : decide ((m : Int) ≤ (q : Int)) = true := decide_eq_true (by omega)
            go_wp2
            go_round
            case rel => exact ⟨i + 1, by omega, rfl, by rw [HBT.out, hmin.out]; go_num⟩
            case measure => simp [intOf]; omega
          · have hmin : Hid (min m q = q) := Nat.min_eq_right (by omega)
            rw [Nat.min_eq_right (by omega)] at hpq
            have dm : decide ((m : Int) ≤ (q : Int)) = false := decide_eq_false (by omega)
            go_wp2
            go_round
            case rel => exact ⟨i + 1, by omega, rfl, by rw [HBT.out, hmin.out]; go_num⟩
            case measure => simp [intOf]; omega
        · have di : decide (i < P.length) = false := decide_eq_false hit
          have hfin : Hid (topCols (P.take i) m = topCols (insW [] xs) m) := by
            show _ = _
            rw [← HPE.out, List.take_of_length_le (by omega)]
          obtain ⟨p, hp⟩ : ∃ p, p = topCols (P.take i) m := ⟨_, rfl⟩
          rw [← hp]
          have HP := Lib.hid hp
          clear hp
          go_wp2
          go_ret2
          exact ⟨⟨p, 0, rfl, .inr (.inr ⟨HWZ.out, by omega, rfl, by rw [HP.out, hfin.out, Int.toNat_natCast]⟩)⟩, hb1⟩
  · have dj : (j != 0) = true := by simpa using hj0
    have HJ0 := Lib.hid hj0
    clear hj hz hn
    go_wp2
    go_ret2
    exact ⟨⟨0, j, rfl, .inl ⟨by rw [← HJ.out]; exact HJ0.out, HJ.out, rfl⟩⟩, hb1⟩
end Go.Proofs.Ytmlmdklheiafpaa
