/-
  insert.Back, insert.BackPairs: what they answer.
-/
import Derived.Test.YtmlmdklheiafpaaBack2W
import Derived.Test.YtmlmdklheiafpaaFill2W
namespace Go.Proofs.Ytmlmdklheiafpaa
open Go.RowKit

theorem wB_len (m : List (Int × Int)) : (wB m).length = m.length := by simp [wB]
theorem wA_len (m : List (Int × Int)) : (wA m).length = m.length := by simp [wA]
theorem wB_take {m : List (Int × Int)} {i : Nat} (h : i < m.length) : (wB m).take i ++ [(m.getD i (0, 0)).2] = (wB m).take (i + 1) := by
  rw [List.take_add_one, List.getElem?_eq_getElem (by rw [wB_len]; exact h), getD_get h]
  simp [wB]
theorem wA_take {m : List (Int × Int)} {i : Nat} (h : i < m.length) : (wA m).take i ++ [(m.getD i (0, 0)).1] = (wA m).take (i + 1) := by
  rw [List.take_add_one, List.getElem?_eq_getElem (by rw [wA_len]; exact h), getD_get h]
  simp [wA]
theorem own_alloc1 {w : World} {base n : Nat} {v : Value} {l : List Int} (h : w.ownsRow base 3 1 v n (ints l)) (o : Obj) : (w.alloc o).ownsRow base 3 1 v n (ints l) := h.alloc o
/-- What insert.Back answers. -/
def BackOut (e : Ending) (w : World) (p q : List (List Int)) : Prop := ∃ (k : Int) (A : Option Addr) (c : Nat) (xs : List Int), e = .returned (.tuple #[.slice A xs.length c, .int .i64 k]) ∧ Sl w w.heap.size A (ints xs) ∧ xs.length ≤ 40 ∧
  (k = 0 → ∃ m, Und p q m ∧ xs = wB m) ∧ (FillOk p ∧ FillOk q ∧ SameSh p q ∧ IsPerm q.flatten → k = 0)

set_option maxRecDepth 100000 in
set_option maxHeartbeats 2000000 in
theorem back_any (A C : Option Addr) (cap cap2 : Nat) (p q : List (List Int)) (w : World) (hp : p.length ≤ 9223372036854775807) (hq : q.length ≤ 9223372036854775807) (h : SR w w.heap.size A p) (h2 : SR w w.heap.size C q) :
    Calls Try.prog 41 #[.slice A p.length cap, .slice C q.length cap2] w fun e w' => BackOut e w' p q ∧ Below w.heap.size w w' := by
  go_enter Try.func41, Try.ntmps41
  go_wp2_with (first | (go_at_call 64; refine (shapes_any A C cap cap2 p q _ hp hq h h2).mono ?_) | fail)
  rintro e w1 ⟨⟨k1, rfl, hk1, hk2⟩, hb1⟩
  have h3 := h.keep hb1
  have h4 := h2.keep hb1
  have HB1 := Lib.hid hb1
  have HK1 := Lib.hid hk1
  have HK2 := Lib.hid hk2
  clear hk1 hk2 h h2 hb1
  by_cases hk0 : k1 = 0
  · obtain ⟨ok1, ok2, hs⟩ := HK1.out hk0
    have OK1 := Lib.hid ok1
    have OK2 := Lib.hid ok2
    have HS := Lib.hid hs
    subst hk0
    clear ok1 ok2 hs HK1 HK2
    go_wp2_with (first | (go_at_call 65; refine (standard_any C cap2 q _ hq h4).mono ?_) | fail)
    rintro e w2 ⟨⟨b, k, rfl, hk1, hk2, hk3⟩, hb2⟩
    obtain rfl : k = 0 := hk2 OK2.out
    have hbi := (hk1 rfl).2
    have HBI := Lib.hid hbi
    have h5 := h3.keep hb2
    have h6 := h4.keep hb2
    have HB2 := Lib.hid (below_call HB1.out (Nat.le_refl _) hb2)
    clear hk1 hk2 hk3 hbi hb2 h3 h4 HB1
    cases b with
    | false =>
      have HNO : Hid (¬ IsPerm q.flatten) := Lib.hid fun hh => by have := HBI.out.2 hh; cases this
      clear HBI
      go_wp2
      go_ret2
      exact ⟨⟨3, none, 0, [], rfl, Sl.nil _ _ _, by simp, fun e => absurd e (by decide), fun hh => absurd hh.2.2.2 HNO.out⟩, HB2.out⟩
    | true =>
      go_wp2_with (first | (go_at_call 66; refine (undone_any A C cap cap2 p q _ OK1.out OK2.out HS.out h5 h6).mono ?_) | fail)
      rintro e w3 ⟨⟨v, m, rfl, ho, hu, hm40⟩, hb3⟩
      have HW3 := Lib.hid (below_call HB2.out (Nat.le_refl _) hb3)
      obtain ⟨Am, cm, rfl, -, hsl, -, -⟩ := psl_of_own ho
      have HU := Lib.hid hu
      have HSL := Lib.hid hsl
      clear ho hu hsl hb3 h5 h6 HB2
      go_wp2
      go_loopw [9, 29] (fun ov iv wr => ∃ (i : Nat), i ≤ m.length ∧ iv = .int .i64 i ∧ wr.ownsRow w3.heap.size 3 1 ov i (ints ((wB m).take i)) ∧ Below w3.heap.size w3 wr) (fun _ iv _ => m.length - (intOf iv).toNat)
      case atStart => exact ⟨0, Nat.zero_le _, rfl, World.ownsRow_nil _ _ _ _, Below.refl _ _⟩
      case round =>
        obtain ⟨i, hi, rfl, ho, hW⟩ := hrel
        have HO := Lib.hid ho
        have hsz := hW.size
        clear ho
        by_cases hit : i < m.length
        · have di : decide (i < m.length) = true := decide_eq_true hit
          have hsl := HSL.out.below hW
          obtain ⟨b, o, rfl, hb⟩ := psl_addr hsl (by omega)
          obtain ⟨hc1, hc2⟩ := psl_at hsl hit
          have htk := wB_take hit
          obtain ⟨y, hy⟩ : ∃ y, y = (m.getD i (0, 0)).1 := ⟨_, rfl⟩
          obtain ⟨z, hz⟩ : ∃ z, z = (m.getD i (0, 0)).2 := ⟨_, rfl⟩
          rw [← hy] at hc1
          rw [← hz] at hc2 htk
          have HTK := Lib.hid htk
          clear hy hz htk hsl
          go_wp2_with (first | (at_builtin; refine wpList_app1g (base := w3.heap.size) (l := (wB m).take i) rfl (.tmp 33) (.tmp 36) rfl rfl z (own_alloc1 HO.out _) (wr.heap.size + 1) (by simp) rfl (by omega) (by simp; omega) (fun g2 c2 w5 hl5 hg5 hat5 => ?_)) | fail)
          have hW5 := ((hW.alloc hsz (.cells #[.int .i64 y, .int .i64 z] 62)).alloc (by simp; omega) _).grown hg5 (by simp; omega) (fun k hk => (HO.out.lt k hk).1)
          rw [HTK.out] at hl5
          have HL5 := Lib.hid hl5
          have HW5 := Lib.hid hW5
          clear hl5 hW5 hg5 hat5
          go_wp2
          go_roundw
          case rel => exact ⟨i + 1, by omega, by go_num, HL5.out, HW5.out⟩
          case measure => simp [intOf]; omega
        · have di : decide (i < m.length) = false := decide_eq_false hit
          have hie : i = m.length := by omega
          have ho := HO.out
          rw [hie, List.take_of_length_le (by rw [wB_len]; omega)] at ho
          obtain ⟨Ao, co, rfl, -, hso, -, -⟩ := own_sliceA ho
          have HSO := Lib.hid hso
          have hW9 := HW3.out.trans (hW.mono HW3.out.size)
          clear ho hso hie
          go_wp2
          go_ret2
          exact ⟨⟨0, Ao, co, wB m, rfl, HSO.out, by rw [wB_len]; exact hm40, fun _ => ⟨m, HU.out, rfl⟩, fun _ => rfl⟩, hW9⟩
  · have dk : (k1 != 0) = true := by simpa using hk0
    have HN := Lib.hid hk0
    go_wp2
    go_ret2
    exact ⟨⟨k1, none, 0, [], rfl, Sl.nil _ _ _, by simp, fun e => absurd e HN.out, fun hh => HK2.out ⟨hh.1, hh.2.1, hh.2.2.1⟩⟩, HB1.out⟩

/-- What insert.BackPairs answers. -/
def BkpOut (e : Ending) (w : World) (p q : List (List Int)) : Prop := ∃ (k : Int) (A : Option Addr) (c : Nat) (m : List (Int × Int)), e = .returned (.tuple #[.slice A m.length c, .int .i64 k]) ∧ Sl w w.heap.size A (pcells m) ∧ m.length ≤ 40 ∧
  (k = 0 → FillOk p ∧ FillOk q ∧ SameSh p q ∧ Und p q m) ∧ (FillOk p ∧ FillOk q ∧ SameSh p q → k = 0) ∧ (k ≠ 0 → m = [])
set_option maxRecDepth 100000 in
theorem backp_any (A C : Option Addr) (cap cap2 : Nat) (p q : List (List Int)) (w : World) (hp : p.length ≤ 9223372036854775807) (hq : q.length ≤ 9223372036854775807) (h : SR w w.heap.size A p) (h2 : SR w w.heap.size C q) :
    Calls Try.prog 43 #[.slice A p.length cap, .slice C q.length cap2] w fun e w' => BkpOut e w' p q ∧ Below w.heap.size w w' := by
  go_enter Try.func43, Try.ntmps43
  go_wp2_with (first | (go_at_call 64; refine (shapes_any A C cap cap2 p q _ hp hq h h2).mono ?_) | fail)
  rintro e w1 ⟨⟨k1, rfl, hk1, hk2⟩, hb1⟩
  have h3 := h.keep hb1
  have h4 := h2.keep hb1
  have HB1 := Lib.hid hb1
  have HK1 := Lib.hid hk1
  have HK2 := Lib.hid hk2
  clear hk1 hk2 h h2 hb1
  by_cases hk0 : k1 = 0
  · obtain ⟨ok1, ok2, hs⟩ := HK1.out hk0
    have OK1 := Lib.hid ok1
    have OK2 := Lib.hid ok2
    have HS := Lib.hid hs
    subst hk0
    clear ok1 ok2 hs HK1 HK2
    go_wp2_with (first | (go_at_call 66; refine (undone_any A C cap cap2 p q _ OK1.out OK2.out HS.out h3 h4).mono ?_) | fail)
    rintro e w3 ⟨⟨v, m, rfl, ho, hu, hm40⟩, hb3⟩
    have HW3 := Lib.hid (below_call HB1.out (Nat.le_refl _) hb3)
    obtain ⟨Am, cm, rfl, -, hsl, -, -⟩ := psl_of_own ho
    have HU := Lib.hid hu
    have HSL := Lib.hid hsl
    clear ho hu hsl hb3 h3 h4 HB1
    go_wp2
    go_ret2
    exact ⟨⟨0, Am, cm, m, rfl, HSL.out, hm40, fun _ => ⟨OK1.out, OK2.out, HS.out, HU.out⟩, fun _ => rfl, fun e => absurd rfl e⟩, HW3.out⟩
  · have dk : (k1 != 0) = true := by simpa using hk0
    have HN := Lib.hid hk0
    go_wp2
    go_ret2
    exact ⟨⟨k1, none, 0, [], rfl, Sl.nil _ _ _, by simp, fun e => absurd e HN.out, fun hh => HK2.out hh, fun _ => rfl⟩, HB1.out⟩
end Go.Proofs.Ytmlmdklheiafpaa
