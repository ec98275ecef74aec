/-
  PathsCycle: the law, walked.
-/
import Derived.Test.YtdmpbbgcifodeaaPath4W
namespace Go.Proofs.Ytdmpbbgcifodeaa
open Go.RowKit

theorem bytes_toList (l : List UInt8) : (⟨l.toArray⟩ : ByteArray).toList = l := by
  rw [ByteArray.toList_eq]
theorem bytesLess_lex : ∀ (a b : List UInt8), Op.bytesLess a b = lexLt a b
  | _, [] => by cases ‹List UInt8› <;> rfl
  | [], _ :: _ => rfl
  | a :: s, b :: t => by
    have ih := bytesLess_lex s t
    simp only [Op.bytesLess, lexLt]
    rw [ih]
    rfl
theorem turns_lit (w : World) :
    Calls Try.prog 37 #[.string ⟨#[40, 40, 41]⟩] w fun e w' => (∃ A c, e = .returned (.tuple #[.slice A 1 c, .int .i64 0]) ∧ Sl w' w'.heap.size A (ints [0])) ∧ Below w.heap.size w w' := by
  refine (turns_any ⟨#[40, 40, 41]⟩ [40, 40, 41] rfl w).mono ?_
  rintro e w' ⟨⟨k, xs, ⟨A, c, rfl, hs, _⟩, hk⟩, hb⟩
  have hbr : Brks [40, 40, 41] := fun c hc => by
    simp at hc
    rcases hc with e | e
    · exact .inl e
    · exact .inr e
  have hz : turnsTo [40, 40, 41] 3 = [0] := by decide
  rcases hk with ⟨rfl, _, _, rfl⟩ | ⟨_, _, hn⟩
  · exact ⟨⟨A, c, by show Ending.returned (.tuple #[.slice A (turnsTo [40, 40, 41] 3).length c, .int .i64 0]) = _; rw [hz]; rfl, by have h2 : Sl w' w'.heap.size A (ints (turnsTo [40, 40, 41] 3)) := hs; rwa [hz] at h2⟩, hb⟩
  · have := hn hbr; simp at this
/-- There and back. -/
theorem rank_back {l : List UInt8} {r : Nat} (h : rk l 0 = some r) (hl : l.length ≤ 60) : InR ((l.length / 2 : Nat) : Int) (r : Int) ∧ ur (2 * (l.length / 2)) 0 r = l := by
  obtain ⟨h1, h2⟩ := rk_ur l 0 r h
  have h3 := bal_odd l.length 0 (by omega)
  have e : 2 * (l.length / 2) = l.length := by omega
  refine ⟨⟨by omega, by omega, by omega, ?_⟩, by rw [e]; exact h2⟩
  rw [Int.toNat_natCast, e]; omega
theorem UnrOut.yes {n r : Int} {t : List UInt8} {k : Int} (h : UnrOut n r t k) (hi : InR n r) : k = 0 ∧ t = ur (2 * n.toNat) 0 r.toNat := by
  rcases h with ⟨h1, _, h2⟩ | ⟨_, _, h2⟩
  · exact ⟨h1, h2⟩
  · exact absurd hi h2
theorem unrank_rank {n r : Int} (h : InR n r) : (ur (2 * n.toNat) 0 r.toNat).length ≤ 60 ∧ rk (ur (2 * n.toNat) 0 r.toNat) 0 = some r.toNat := by
  obtain ⟨h0, h1, h2, h3⟩ := h
  exact ⟨by rw [ur_length]; omega, ur_rk _ _ _ (by omega)⟩

set_option maxRecDepth 100000 in
set_option maxHeartbeats 1000000 in
theorem cycle_law (s : ByteArray) (n r0 : Int) (w : World) :
    Calls Try.prog 8 #[.string s, .int .i64 n, .int .i64 r0] w fun e w' => e = .returned (.bool true) ∧ Below w.heap.size w w' := by
  have hB := Nat.le_refl w.heap.size
  obtain ⟨l, hl⟩ : ∃ l : List UInt8, s = ⟨l.toArray⟩ := ⟨s.data.toList, by simp⟩
  have HL := Lib.hid hl
  have hss : Hid (s.size = l.length) := by show _ = _; rw [hl]; simp [ByteArray.size]
  have hc40 : ∀ w, Calls Try.prog 38 #[.string s, .string ⟨#[40]⟩] w fun e w' => e = .returned (.int .i64 (l.count 40)) ∧ w = w' := fun w => by rw [hl]; exact cntB_any l 40 w
  have hc41 : ∀ w, Calls Try.prog 38 #[.string s, .string ⟨#[41]⟩] w fun e w' => e = .returned (.int .i64 (l.count 41)) ∧ w = w' := fun w => by rw [hl]; exact cntB_any l 41 w
  have H40 := Lib.hid hc40
  have H41 := Lib.hid hc41
  clear hl hc40 hc41
  go_enter Try.func8, Try.ntmps8
  go_wp2_with (first | (go_at_call 37; refine (turns_lit _).mono ?_) | fail)
  rintro e w1 ⟨⟨A1, c1, rfl, hs1⟩, hb1⟩
  go_wp2_with fail
  refine (same_b A1 (some ⟨w1.heap.size, 0, none⟩) c1 1 [0] [0] _ (by simp) (by simp) (hs1.keep (below_lay (Below.refl _ _) (Nat.le_refl _) _)) (sl_lit w1 (ints [0]) _ (by simp))).mono ?_
  rintro e w2 ⟨rfl, hb2⟩
  have hW2 : Below w.heap.size w w2 := below_call (below_lay hb1 hB _) hB hb2
  clear hb2 hs1 hb1
  simp only [decide_true]
  go_wp2_with (first | (go_at_call 37; refine (turns_any s l HL.out _).mono ?_) | fail)
  rintro e w3 ⟨⟨k, xs, ⟨A3, c3, rfl, _, _⟩, hk⟩, hb3⟩
  have hW3 : Below w.heap.size w w3 := below_call hW2 hB hb3
  clear hb3 hW2
  rcases hk with ⟨rfl, hbr, hl60, rfl⟩ | ⟨hk0, rfl, _⟩
  · have hm := turns_many hbr
    obtain ⟨T, hT⟩ : ∃ T, T = (turnsTo l l.length).length := ⟨_, rfl⟩
    have hle := turnsTo_le l l.length
    have hp1 : l.count 40 ≤ l.length := List.count_le_length
    have hp2 : l.count 41 ≤ l.length := List.count_le_length
    rw [← hT] at hm hle ⊢
    obtain ⟨p, hp⟩ : ∃ p, p = l.count 40 := ⟨_, rfl⟩
    obtain ⟨q, hq⟩ : ∃ q, q = l.count 41 := ⟨_, rfl⟩
    have g40 : ∀ w, Calls Try.prog 38 #[.string s, .string ⟨#[40]⟩] w fun e w' => e = .returned (.int .i64 p) ∧ w = w' := by rw [hp]; exact H40.out
    have g41 : ∀ w, Calls Try.prog 38 #[.string s, .string ⟨#[41]⟩] w fun e w' => e = .returned (.int .i64 q) ∧ w = w' := by rw [hq]; exact H41.out
    have G40 := Lib.hid g40
    have G41 := Lib.hid g41
    rw [← hp, ← hq] at hm
    rw [← hp] at hp1
    rw [← hq] at hp2
    clear hT hp hq hbr H40 H41 g40 g41
    go_wp2_with (first | (go_at_call_of 38 (Value.string ⟨#[40]⟩); refine (G40.out _).mono ?_) | fail)
    rintro e w4 ⟨rfl, rfl⟩
    go_wp2_with (first | (go_at_call_of 38 (Value.string ⟨#[41]⟩); refine (G41.out _).mono ?_) | fail)
    rintro e w4 ⟨rfl, rfl⟩
    clear G40 G41
    go_wp2_with (first | (go_at_call 39; refine (rank_any s l HL.out _).mono ?_) | fail)
    rintro e w4 ⟨⟨v, k, rfl, hk⟩, hb4⟩
    have hW4 : Below w.heap.size w w4 := below_call hW3 hB hb4
    clear hb4 hW3 hm hp1 hp2
    go_upto_if 57 with fail
    go_cut [] (fun wz => Below w.heap.size w wz)
    case first =>
      rcases hk with ⟨rfl, _, r, rfl, hr⟩ | ⟨hk0, rfl, _⟩
      · obtain ⟨hin, hur⟩ := rank_back hr hl60
        rw [← hss.out] at hin
        obtain ⟨m, hm2⟩ : ∃ m : Nat, m = s.size / 2 := ⟨_, rfl⟩
        have hm30 : m ≤ 30 := by have := hss.out; omega
        have hdv : IntKind.i64.wrap (((s.size : Nat) : Int) / 2) = (m : Int) := by
          rw [show ((s.size : Nat) : Int) / 2 = (m : Int) by omega]
          exact IntWalk.i64_in _ (by omega)
        rw [← hm2] at hin
        rw [← hss.out, ← hm2] at hur
        have HIN := Lib.hid hin
        have HUR := Lib.hid hur
        clear hin hur hr hm2 hm30
        go_wp2_with (first | (go_at_call 40; refine (unrank_any (m : Int) (r : Int) _).mono ?_) | fail)
        rintro e w5 ⟨⟨t, k, rfl, hk⟩, hb5⟩
        have hW5 : Below w.heap.size w w5 := below_call hW4 hB hb5
        obtain ⟨rfl, ht⟩ := hk.yes HIN.out
        rw [Int.toNat_natCast, Int.toNat_natCast, HUR.out] at ht
        subst ht
        rw [← HL.out]
        clear hk hb5 hW4
        go_wp2
        go_meet
        exact hW5
      · go_wp2
        go_meet
        exact hW4
    case rest =>
      clear hk hW4
      have hW4 := hcut
      clear hcut
      go_wp2_with (first | (go_at_call 40; refine (unrank_any n r0 _).mono ?_) | fail)
      rintro e w5 ⟨⟨t, k, rfl, hk⟩, hb5⟩
      have hW5 : Below w.heap.size w w5 := below_call hW4 hB hb5
      clear hb5 hW4
      rcases hk with ⟨rfl, hin, ht⟩ | ⟨hk0, rfl, _⟩
      · obtain ⟨hl, hrk⟩ := unrank_rank hin
        obtain ⟨h0, h30, hr1, hr2⟩ := id hin
        have hb60 := bal_int (k := 2 * n.toNat) (e := 0) (by omega)
        have hr60 : r0 < 1152921504606846976 := by omega
        have hwr : IntKind.i64.wrap (r0 + 1) = r0 + 1 := IntWalk.i64_in _ (by omega)
        rw [← ht] at hl hrk
        obtain ⟨sT, hsT⟩ : ∃ sT : ByteArray, sT = ⟨t.toArray⟩ := ⟨_, rfl⟩
        rw [← hsT]
        have HT := Lib.hid ht
        have HST := Lib.hid hsT
        have HIN := Lib.hid hin
        have HRK := Lib.hid hrk
        clear ht hsT hin hrk hr2 hb60
        go_wp2_with (first | (go_at_call 39; refine (rank_any sT t HST.out _).mono ?_) | fail)
        rintro e w6 ⟨⟨v, k, rfl, hk⟩, hb6⟩
        have hW6 : Below w.heap.size w w6 := below_call hW5 hB hb6
        clear hb6 hW5
        obtain ⟨rfl, hv⟩ : k = 0 ∧ v = r0 := by
          rcases hk with ⟨h1, _, r, h2, h3⟩ | ⟨_, _, h2⟩
          · rw [HRK.out] at h3
            have : r0.toNat = r := by simpa using h3
            exact ⟨h1, by omega⟩
          · exfalso
            rcases h2 with h2 | h2
            · omega
            · rw [HRK.out] at h2; cases h2
        subst hv
        clear hk
        go_wp2_with (first | (go_at_call 40; refine (unrank_any n (v + 1) _).mono ?_) | fail)
        rintro e w7 ⟨⟨u, g, rfl, hg⟩, hb7⟩
        have hW7 : Below w.heap.size w w7 := below_call hW6 hB hb7
        clear hb7 hW6
        rcases hg with ⟨rfl, hin2, hu⟩ | ⟨hg0, rfl, _⟩
        · obtain ⟨sU, hsU⟩ : ∃ sU : ByteArray, sU = ⟨u.toArray⟩ := ⟨_, rfl⟩
          rw [← hsU]
          have hlt : Op.bytesLess sT.toList sU.toList = true := by
            rw [HST.out, hsU, bytes_toList, bytes_toList, bytesLess_lex, HT.out, hu]
            obtain ⟨_, _, _, h4⟩ := hin2
            exact ur_lt _ _ _ _ (by omega) (by omega)
          clear hu hsU hin2
          go_wp2
          go_ret
          exact ⟨rfl, hW7⟩
        · go_wp2
          go_ret
          exact ⟨rfl, hW7⟩
      · go_wp2
        go_ret
        exact ⟨rfl, hW5⟩
  · go_wp2
    go_ret
    exact ⟨rfl, hW3⟩
end Go.Proofs.Ytdmpbbgcifodeaa
