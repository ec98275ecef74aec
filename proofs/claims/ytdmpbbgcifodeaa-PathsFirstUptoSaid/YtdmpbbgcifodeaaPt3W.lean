/-
  slices.Clone of points, slices.Concat of two rows of points.
-/
import Derived.Test.YtdmpbbgcifodeaaPt2W
namespace Go.Proofs.Ytdmpbbgcifodeaa
open Go.RowKit Go.Proofs

set_option maxHeartbeats 400000 in
theorem pclone_any (A : Option Addr) (cap : Nat) (m : List (Int × Int)) (w : World) (hl : m.length ≤ 1000000) (h : Sl w w.heap.size A (pcells m)) :
    Calls Try.prog 25 #[.slice A m.length cap] w fun e w' => ∃ v, e = .returned v ∧ w'.ownsRow w.heap.size 48 2 v m.length (pcells m) ∧ Below w.heap.size w w' := by
  rcases A with _ | ad
  · have hx : m = [] := by
      by_cases hp : 0 < m.length
      · obtain ⟨b, o, e, _⟩ := psl_addr h hp
        cases e
      · exact List.eq_nil_of_length_eq_zero (by omega)
    subst hx
    have he := fun w => Lib.run_eql_slice_nil (P := Try.prog) w 41 48 none 0 cap 0 0 Try.underlying41
    go_enter Try.func25, Try.ntmps25
    go_wp2
    go_ret
    exact ⟨_, rfl, World.ownsRow_nil _ _ _ _, Below.refl _ _⟩
  · have he := fun w => Lib.run_eql_slice_nil (P := Try.prog) w 41 48 (some ad) m.length cap 0 0 Try.underlying41
    go_enter Try.func25, Try.ntmps25
    go_wp2_with (at_builtin; refine wpList_appPs (l := []) rfl (.tmp 5) (.tmp 6) rfl rfl 0 (World.ownsRow_lit w #[] 0 (Nat.le_refl _) (by decide) rfl) cap rfl (h.below ((Below.refl _ _).alloc (Nat.le_refl _) _)) (by omega) (by simp) (fun v3 w3 hv3 _ hb3 => ?_))
    go_ret
    exact ⟨_, rfl, by simpa using hv3, ((Below.refl _ _).alloc (Nat.le_refl _) _).trans hb3⟩

theorem grow0_any (n : Nat) (w : World) (hn : n ≤ 2000000) :
    Calls Try.prog 138 #[.slice none 0 0, .int .i64 n] w fun e w' => ∃ v, e = .returned v ∧ w'.ownsRow w.heap.size 48 2 v 0 (pcells []) ∧ Below w.heap.size w w' := by
  by_cases h0 : n = 0
  · subst h0
    refine (show Calls _ _ _ _ _ from Any8.slices_Grow_room Try.growP none 0 0 0 w (by omega) (by omega) (by omega) (by omega)).mono ?_
    rintro e w' ⟨rfl, rfl⟩
    exact ⟨_, rfl, World.ownsRow_nil _ _ _ _, Below.refl _ _⟩
  · obtain ⟨i0, hi, hz0, hz1, hz2⟩ := info_parts Try.infoPt
    refine (show Calls _ _ _ _ _ from Any8.slices_Grow_grow Try.growP i0 (.agg #[.int .i64 0, .int .i64 0]) hi hz0 (by omega) none 0 0 n [] w (by omega) (by omega) (by rw [hz2]; omega) (by omega) (by simp) (fun _ => rfl) (fun a e => by cases e)).mono ?_
    rintro e w' ⟨rfl, rfl⟩
    have hge := grownCap_ge w (0 + n) 0 (Try.growP_ren.t 25)
    have hle := grownCap_le_maxLen w (0 + n) 0 (Try.growP_ren.t 25) (by unfold maxLen; omega)
    refine ⟨_, rfl, World.ownsRow_made (size := 2) (base := w.heap.size) w.drew _ _ (Nat.le_refl _) hle ?_, (below_drewN (Below.refl _ w) 1).alloc (Nat.le_refl _) _⟩
    have hz : (Value.agg #[.int .i64 0, .int .i64 0]).cells.size = 2 := rfl
    simp only [Array.size_append, size_zeroCells, hz, List.size_toArray, List.length_nil]
    omega

/-- Of the first i of two lengths. -/
def totL (p q i : Nat) : Nat := if i = 0 then 0 else if i = 1 then p else p + q
def totP (m1 m2 : List (Int × Int)) (i : Nat) : List (Int × Int) := if i = 0 then [] else if i = 1 then m1 else m1 ++ m2
set_option maxRecDepth 100000 in
set_option maxHeartbeats 2000000 in
theorem concat_any (b : Nat) (A1 A2 : Option Addr) (c1 c2 : Nat) (m1 m2 : List (Int × Int)) (w : World) (hl1 : m1.length ≤ 1000000) (hl2 : m2.length ≤ 1000000) (hb : b < w.heap.size)
    (hc1 : w.cell? ⟨b, 0, none⟩ = some (.slice A1 m1.length c1)) (hc2 : w.cell? ⟨b, 1, none⟩ = some (.slice A2 m2.length c2)) (h1 : Sl w w.heap.size A1 (pcells m1)) (h2 : Sl w w.heap.size A2 (pcells m2)) :
    Calls Try.prog 103 #[.slice (some ⟨b, 0, none⟩) 2 2] w fun e w' => ∃ v, e = .returned v ∧ w'.ownsRow w.heap.size 48 2 v (m1.length + m2.length) (pcells (m1 ++ m2)) ∧ Below w.heap.size w w' := by
  have hgr := grow0_any (m1.length + m2.length) w (by omega)
  have HGR := Lib.hid hgr
  clear hgr
  go_enter Try.func103, Try.ntmps103
  go_wp2
  go_loopw [3, 11] (fun sv iv wr => ∃ i : Nat, i ≤ 2 ∧ iv = .int .i64 i ∧ sv = .int .i64 (totL m1.length m2.length i) ∧ w = wr) (fun _ iv _ => 2 - (intOf iv).toNat)
  case atStart => exact ⟨0, by omega, rfl, rfl, rfl⟩
  case round =>
    obtain ⟨i, hi, rfl, rfl, rfl⟩ := hrel
    by_cases hlt : i < 2
    · have di : decide (i < 2) = true := decide_eq_true hlt
      have di2 : decide ((i : Int) < 2) = true := decide_eq_true (by omega)
      have hci : ∃ (A : Option Addr) (c n : Nat), w.cell? ⟨b, i, none⟩ = some (.slice A n c) ∧ totL m1.length m2.length (i + 1) = totL m1.length m2.length i + n ∧ totL m1.length m2.length i + n ≤ 2000000 := by
        rcases (show i = 0 ∨ i = 1 by omega) with rfl | rfl
        · exact ⟨A1, c1, _, hc1, by simp [totL], by simp [totL]; omega⟩
        · exact ⟨A2, c2, _, hc2, by simp [totL], by simp [totL]; omega⟩
      obtain ⟨A, c, n, hc, ht, hle⟩ := hci
      obtain ⟨p, hp⟩ : ∃ p, p = totL m1.length m2.length i := ⟨_, rfl⟩
      rw [← hp] at ht hle ⊢
      have HT := Lib.hid ht
      clear hp ht
      have wp : IntKind.i64.wrap ((p : Int) + (n : Int)) = ((p + n : Nat) : Int) := by rw [IntWalk.i64_in _ (by omega)]; omega
      have dn : decide (((p + n : Nat) : Int) < 0) = false := decide_eq_false (by omega)
      go_wp2
      go_roundw
      case rel => exact ⟨i + 1, by omega, by go_num, by rw [HT.out, Int.natCast_add], trivial⟩
      case measure => simp [intOf]; omega
    · have di : decide (i < 2) = false := decide_eq_false hlt
      have di2 : decide ((i : Int) < 2) = false := decide_eq_false (by omega)
      have hie : i = 2 := by omega
      have ht : totL m1.length m2.length i = m1.length + m2.length := by rw [hie]; rfl
      rw [ht]
      clear ht hie
      go_wp2_with (first | (go_at_call 138; refine (HGR.out).mono ?_) | fail)
      rintro e w2 ⟨v, rfl, ho, hb2⟩
      have HO := Lib.hid ho
      have HB2 := Lib.hid hb2
      clear ho hb2
      go_wp2
      go_loopw [6, 27] (fun ov iv wr => ∃ j : Nat, j ≤ 2 ∧ iv = .int .i64 j ∧ wr.ownsRow w.heap.size 48 2 ov (totL m1.length m2.length j) (pcells (totP m1 m2 j)) ∧ Below w.heap.size w wr) (fun _ iv _ => 2 - (intOf iv).toNat)
      case atStart => exact ⟨0, by omega, rfl, HO.out, HB2.out⟩
      case round =>
        clear HO HB2
        obtain ⟨j, hj, rfl, ho, hW⟩ := hrel
        have HO := Lib.hid ho
        clear ho
        by_cases hlt2 : j < 2
        · have dj : decide (j < 2) = true := decide_eq_true hlt2
          have dj2 : decide ((j : Int) < 2) = true := decide_eq_true (by omega)
          have hci : ∃ (A : Option Addr) (c : Nat) (m : List (Int × Int)), wr.cell? ⟨b, j, none⟩ = some (.slice A m.length c) ∧ totL m1.length m2.length (j + 1) = totL m1.length m2.length j + m.length ∧ totL m1.length m2.length j + m.length ≤ 2000000 ∧ totP m1 m2 (j + 1) = totP m1 m2 j ++ m ∧ Sl wr w.heap.size A (pcells m) := by
            rcases (show j = 0 ∨ j = 1 by omega) with rfl | rfl
            · exact ⟨A1, c1, m1, (hW.cell (p := ⟨b, 0, none⟩) hb).trans hc1, by simp [totL], by simp [totL]; omega, by simp [totP], h1.below hW⟩
            · exact ⟨A2, c2, m2, (hW.cell (p := ⟨b, 1, none⟩) hb).trans hc2, by simp [totL], by simp [totL]; omega, by simp [totP], h2.below hW⟩
          obtain ⟨A, c, m, hc, ht, hle, htp, hs⟩ := hci
          obtain ⟨p, hp⟩ : ∃ p, p = totL m1.length m2.length j := ⟨_, rfl⟩
          obtain ⟨l, hl⟩ : ∃ l, l = totP m1 m2 j := ⟨_, rfl⟩
          rw [← hp] at ht hle HO
          rw [← hl] at htp HO
          have HT := Lib.hid ht
          have HTP := Lib.hid htp
          have HS := Lib.hid hs
          have hsz := hW.size
          clear hp hl ht htp hs
          go_wp2_with (first | (at_builtin; refine wpList_appPs (l := l) rfl (.tmp 31) (.tmp 32) rfl rfl p HO.out c rfl HS.out (by omega) hsz (fun v3 w3 hv3 hg3 hb3 => ?_)) | fail)
          have hW3 := hW.trans hb3
          rw [← HT.out, ← HTP.out] at hv3
          have HV3 := Lib.hid hv3
          clear hv3 hg3 hb3 HO HS
          go_wp2
          go_roundw
          case rel => exact ⟨j + 1, by omega, by go_num, HV3.out, hW3⟩
          case measure => simp [intOf]; omega
        · have dj : decide (j < 2) = false := decide_eq_false hlt2
          have dj2 : decide ((j : Int) < 2) = false := decide_eq_false (by omega)
          have hje : j = 2 := by omega
          have ho := HO.out
          rw [hje] at ho
          have HO2 : Hid (wr.ownsRow w.heap.size 48 2 u6 (m1.length + m2.length) (pcells (m1 ++ m2))) := Lib.hid ho
          clear ho hje
          go_wp2
          go_ret
          exact ⟨_, rfl, HO2.out, hW⟩
end Go.Proofs.Ytdmpbbgcifodeaa
