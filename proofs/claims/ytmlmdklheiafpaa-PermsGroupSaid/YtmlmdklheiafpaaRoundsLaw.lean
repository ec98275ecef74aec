/-
  PermsRounds: the law, walked.
-/
import Derived.Test.YtmlmdklheiafpaaRoundsQ
import Derived.Test.YtmlmdklheiafpaaSameW
namespace Go.Proofs.Ytmlmdklheiafpaa
open Go.RowKit

theorem sl_lit (w : World) (cs : List Value) (B : Nat) (hB : w.heap.size < B) : Sl (w.alloc (.cells cs.toArray 3)) B (some ⟨w.heap.size, 0, none⟩) cs := fun _ =>
  ⟨_, _, rfl, hB, fun k u hk => by rw [World.cell?_alloc_at _ _ _ _ rfl]; simpa using hk⟩

set_option maxHeartbeats 2000000 in
theorem rounds_law (A : Option Addr) (cap : Nat) (xs : List Int) (w : World) (hcl : xs.length ≤ 9223372036854775807) (h : Sl w w.heap.size A (ints xs)) :
    Calls Try.prog 3 #[.slice A xs.length cap] w fun e w' => e = .returned (.bool true) ∧ Below w.heap.size w w' := by
  have hperm : Hid (IsPerm [2, 1, 3]) := by show IsPerm _; decide
  have hro : Hid (roundsOf [2, 1, 3] = [2, 1, 3]) := by show _ = _; decide
  have hB := Nat.le_refl w.heap.size
  go_enter Try.func3, Try.ntmps3
  go_wp2_with fail
  refine (rounds_ok (some ⟨w.heap.size, 0, none⟩) 3 [2, 1, 3] _ (by simp) hperm.out (sl_lit w (ints [2, 1, 3]) _ (by simp))).mono ?_
  rintro e w1 ⟨A1, c1, rfl, hs1, hb1⟩
  rw [hro.out] at hs1 ⊢
  have hW1 : Below w.heap.size w w1 := below_call (below_lay (Below.refl _ _) hB _) hB hb1
  clear hb1
  go_wp2_with fail
  refine (same_b A1 (some ⟨w1.heap.size, 0, none⟩) c1 3 [2, 1, 3] [2, 1, 3] _ (by simp) (by simp) (hs1.keep (below_lay (Below.refl _ _) (Nat.le_refl _) _)) (sl_lit w1 (ints [2, 1, 3]) _ (by simp))).mono ?_
  rintro e w2 ⟨rfl, hb2⟩
  have hW2 : Below w.heap.size w w2 := below_call (below_lay hW1 hB _) hB hb2
  clear hb2 hs1
  clear hW1
  simp only [decide_true]
  by_cases hp : permChk xs = 0
  · have hg : Hid (xs.length ≤ 40 ∧ IsPerm xs) := by
      unfold permChk at hp
      split at hp
      · cases hp
      · split at hp
        · exact ⟨by omega, by assumption⟩
        · cases hp
    clear hp
    have hn := hg.out.1
    have HP : Hid (IsPerm xs) := hg.out.2
    clear hg
    have HQ := Lib.hid (roundsOf_perm HP.out)
    go_wp2_with fail
    refine (rounds_ok A cap xs _ hn HP.out (h.now hW2 hB)).mono ?_
    rintro e w3 ⟨A3, c3, rfl, hs3, hb3⟩
    have hW3 : Below w.heap.size w w3 := below_call hW2 hB hb3
    clear hb3 hW2
    go_wp2_with fail
    refine (unrounds_ok A cap xs _ hn HP.out (h.now hW3 hB)).mono ?_
    rintro e w4 ⟨A4, c4, rs, rfl, hs4, hl4, hr4, hb4⟩
    have hW4 : Below w.heap.size w w4 := below_call hW3 hB hb4
    have hs3 := hs3.keep hb4
    have HR := Lib.hid (rounds_of HP.out hn hl4 hr4)
    have HL4 := Lib.hid hl4
    clear hb4 hW3 hr4 hl4
    go_wp2_with fail
    refine (unrounds_ok A3 c3 (roundsOf xs) _ (by have := HQ.out.2; omega) HQ.out.1 hs3).mono ?_
    rintro e w5 ⟨A5, c5, aa, rfl, hs5, hl5, hr5, hb5⟩
    have HA : Hid (aa = xs) := unrounds_of HP.out hn hl5 hr5
    have hW5 : Below w.heap.size w w5 := below_call hW4 hB hb5
    have hs3 := hs3.keep hb5
    have hs4 := hs4.keep hb5
    clear hb5 hW4 hr5 hl5
    go_wp2_with fail
    refine (rounds_ok A4 c4 rs _ (by have := HL4.out; omega) HR.out.1 hs4).mono ?_
    rintro e w6 ⟨A6, c6, rfl, hs6, hb6⟩
    have hW6 : Below w.heap.size w w6 := below_call hW5 hB hb6
    have hs3 := hs3.keep hb6
    have hs5 := hs5.keep hb6
    clear hb6 hW5
    go_wp2_with fail
    have hql : (roundsOf xs).length ≤ 40 := by have := HQ.out.2; omega
    obtain ⟨q, hq⟩ : ∃ q, q = roundsOf xs := ⟨_, rfl⟩
    rw [← hq] at hs3 hql ⊢
    have HQE := Lib.hid hq
    clear hq
    go_loopw [13, 14, 72] (fun nv tv iv wy => ∃ i : Nat, i ≤ q.length ∧ iv = .int .i64 i ∧ nv = .int .i64 (recs (q.take i)).1 ∧ tv = .int .i64 (recs (q.take i)).2 ∧ wy = w6) (fun _ _ iv _ => q.length - (intOf iv).toNat)
    case atStart => exact ⟨0, by omega, rfl, rfl, rfl, rfl⟩
    case round =>
      obtain ⟨i, hi, rfl, rfl, rfl, hwr⟩ := hrel
      obtain rfl : wr = w6 := hwr
      obtain ⟨w6, rfl⟩ : ∃ w6 : World, w6 = wr := ⟨_, rfl⟩
      have hrb := recs_bound (q.take i)
      rw [List.length_take] at hrb
      by_cases hlt : i < q.length
      · obtain ⟨b, o, rfl, hb, hc⟩ := hs3.at_ hlt
        obtain ⟨x, hx⟩ : ∃ x, x = q[i] := ⟨_, rfl⟩
        rw [← hx] at hc
        have HX := Lib.hid hx
        have HT : Hid (recs (q.take (i + 1)) = if (recs (q.take i)).2 < x then ((recs (q.take i)).1 + 1, x) else recs (q.take i)) := by
          show _ = _
          rw [take_snoc hlt, recs_snoc, HX.out]
        clear hx
        obtain ⟨s, hs⟩ : ∃ s, s = recs (q.take i) := ⟨_, rfl⟩
        rw [← hs] at hrb HT ⊢
        have HS := Lib.hid hs
        clear hs
        obtain ⟨c, m⟩ := s
        simp only at hrb HT ⊢
        by_cases hxm : m < x
        · go_wp2
          go_roundw
          case rel => exact ⟨i + 1, by omega, by go_num, by rw [HT.out, if_pos hxm], by rw [HT.out, if_pos hxm], trivial⟩
          case measure => simp [intOf]; omega
        · go_wp2
          go_roundw
          case rel => exact ⟨i + 1, by omega, by go_num, by rw [HT.out, if_neg hxm], by rw [HT.out, if_neg hxm], trivial⟩
          case measure => simp [intOf]; omega
      · obtain rfl : i = q.length := by omega
        rw [List.take_length] at hrb ⊢
        have hn0 : (recs q).1 = (left xs (fun _ => false) xs.length : Nat) := by
          have := (recs_roundsTo HP.out xs.length (Nat.le_refl _)).1
          rwa [← roundsOf, ← HQE.out] at this
        rw [hn0]
        obtain ⟨m, hm⟩ : ∃ m, m = (recs q).2 := ⟨_, rfl⟩
        rw [← hm]
        clear hrb hn0 hm
        go_wp2
        go_loopw [13, 18] (fun nv iv wx => ∃ (i : Nat) (S : List Int), i ≤ xs.length ∧ iv = .int .i64 ((i : Int) + 1) ∧ nv = .int .i64 (left xs (fun x => decide (x ∈ S)) xs.length : Nat) ∧ SeenArr wx w6.heap.size S ∧ Shut xs S ∧ (∀ j : Int, 1 ≤ j → j ≤ i → j ∈ S) ∧ Below w6.heap.size w6 wx) (fun _ iv _ => xs.length + 1 - (intOf iv).toNat)
        case atStart => exact ⟨0, [], by omega, rfl, by rw [left_nil], seen_new _, by simp [Shut], by omega, (Below.refl _ _).alloc (Nat.le_refl _) _⟩
        case round =>
          obtain ⟨i, S, hi, rfl, rfl, hseen, hshut, hall, hbx⟩ := hrel
          have HSN := Lib.hid hseen
          have HSH := Lib.hid hshut
          have HAL := Lib.hid hall
          clear hseen hshut hall
          obtain ⟨wz, rfl⟩ : ∃ wz : World, wz = wr := ⟨_, rfl⟩
          obtain ⟨c, hc⟩ : ∃ c : Nat, c = left xs (fun x => decide (x ∈ S)) xs.length := ⟨_, rfl⟩
          have hcb : c ≤ xs.length := by rw [hc]; exact left_le _ _ _
          rw [← hc]
          have HC := Lib.hid hc
          clear hc
          by_cases hlt : i < xs.length
          · have hcs := HSN.out.cellN (k := i + 1) (by omega) (x := (i : Int) + 1) (by omega)
            have hd1 : decide ((i : Int) + 1 ≤ (xs.length : Int)) = true := by simp; omega
            by_cases hS : (i : Int) + 1 ∈ S
            · rw [decide_eq_true hS] at hcs
              have HS' := Lib.hid hS
              clear hS
              go_wp2
              refine wp_loop_rounds 1 ?_
              rw [rounds_succ]
              go_wp2
              go_roundw
              case rel =>
                refine ⟨i + 1, S, by omega, by go_num, by rw [HC.out], HSN.out, HSH.out, fun j h1 h2 => ?_, hbx⟩
                by_cases hj : j ≤ i
                · exact HAL.out j h1 hj
                · obtain rfl : j = (i : Int) + 1 := by omega
                  exact HS'.out
              case measure => simp [intOf]; omega
            · rw [decide_eq_false hS] at hcs
              have HS' := Lib.hid hS
              clear hS
              go_wp2
              go_loopg [19] (xs.length + 1) (fun gn kv wx => ∃ (l : List Int) (k : Int), Going xs S ((i : Int) + 1) l k ∧ kv = .int .i64 k ∧ SeenArr wx w6.heap.size (S ++ l) ∧ Below w6.heap.size w6 wx ∧ gn + l.length = xs.length + 1)
              case atStart => exact ⟨[], _, Going.nil (by omega) (by omega), rfl, by simpa using HSN.out, hbx, by simp⟩
              case round =>
                obtain ⟨l, k, hgo, rfl, hsn, hby, hgn⟩ := hrel
                have hkr := hgo.krange
                have hlb := nodup_bound hgo.nodup hgo.range
                have HGO := Lib.hid hgo
                have HSL := Lib.hid hsn
                have HGN := Lib.hid hgn
                clear hgo hsn hgn hcs
                have hck := HSL.out.cell (x := k) (by omega) (by omega)
                by_cases hk : k ∈ S ++ l
                · rw [decide_eq_true hk] at hck
                  have hfin : Hid (left xs (fun x => decide (x ∈ S ++ l)) xs.length + 1 = c) := by
                    show _ = _
                    rw [HC.out]
                    exact HGO.out.left HP.out HSH.out hk (by omega) (by omega) HS'.out
                  have hsh := Lib.hid (HGO.out.shut HSH.out hk)
                  have hst : Hid ((i : Int) + 1 ∈ S ++ l) := by
                    rcases HGO.out.start with h3 | h3
                    · exact List.mem_append_right _ h3
                    · rw [← h3]; exact hk
                  have hc1 : 1 ≤ c := by have := hfin.out; omega
                  clear hk
                  go_wp2
                  go_roundw
                  case rel =>
                    refine ⟨i + 1, S ++ l, by omega, by go_num, by rw [← hfin.out]; go_num, HSL.out, hsh.out, fun j h1 h2 => ?_, hby⟩
                    by_cases hj : j ≤ i
                    · exact List.mem_append_left _ (HAL.out j h1 hj)
                    · obtain rfl : j = (i : Int) + 1 := by omega
                      exact hst.out
                  case measure => simp [intOf]; omega
                · rw [decide_eq_false hk] at hck
                  have HK := Lib.hid hk
                  clear hk
                  obtain ⟨b, o, rfl, hb⟩ := h.addr (show 0 < xs.length by omega)
                  have hne : b ≠ w6.heap.size := by have := hW6.size; omega
                  have hck2 := cell_at1 (h.below (hW6.trans (hby.mono hW6.size))) hkr.1 hkr.2
                  have hfr := HSL.out.frozen k.toNat
                  go_wp2
                  go_roundg (gk - 1)
                  case measure => have := HGN.out; omega
                  case rel =>
                    refine ⟨l ++ [k], at1 xs k, HGO.out.next HP.out (fun hm => HK.out (List.mem_append_right _ hm)), rfl, ?_, hby.setCell (by exact Nat.le_refl _) _, by have := HGN.out; simp; omega⟩
                    refine HSL.out.set_ (by omega) (by omega) (fun y => ?_)
                    simp [or_assoc]
          · obtain rfl : i = xs.length := by omega
            have hc0 : c = 0 := by
              rw [HC.out]
              exact left_all (fun j h1 h2 => HAL.out j h1 h2)
            subst hc0
            have hW7 : Below w.heap.size w wz := hW6.trans (hbx.mono hW6.size)
            have hs5 := hs5.keep hbx
            have hs6 := hs6.keep hbx
            go_wp2_with fail
            refine (same_b A5 A c5 cap aa xs _ (by have := HA.out; subst this; exact hcl) hcl hs5 (h.now hW7 hB)).mono ?_
            rintro e w8 ⟨rfl, hb8⟩
            rw [decide_eq_true HA.out]
            have hW8 : Below w.heap.size w w8 := below_call hW7 hB hb8
            have hs6 := hs6.keep hb8
            go_wp2_with fail
            refine (same_b A6 A c6 cap (roundsOf rs) xs _ (by rw [HR.out.2]; exact hcl) hcl hs6 (h.now hW8 hB)).mono ?_
            rintro e w9 ⟨rfl, hb9⟩
            rw [decide_eq_true HR.out.2]
            have hW9 : Below w.heap.size w w9 := below_call hW8 hB hb9
            go_wp2
            go_ret
            exact ⟨rfl, hW9⟩
  · have HPN := Lib.hid hp
    clear hp
    go_wp2_with fail
    refine (rounds_err A cap xs _ hcl HPN.out (h.now hW2 hB)).mono ?_
    rintro e w3 ⟨rfl, hb3⟩
    have hW3 : Below w.heap.size w w3 := below_call hW2 hB hb3
    obtain ⟨c, hc⟩ : ∃ c, c = permChk xs := ⟨_, rfl⟩
    rw [← hc]
    have hd : (c != 0) = true := by rw [hc]; simpa using HPN.out
    have HC := Lib.hid hc
    clear hc
    go_wp2_with fail
    refine (unrounds_err A cap xs _ hcl HPN.out (h.now hW3 hB)).mono ?_
    rintro e w4 ⟨rfl, hb4⟩
    have hW4 : Below w.heap.size w w4 := below_call hW3 hB hb4
    rw [← HC.out]
    go_wp2
    go_ret
    exact ⟨rfl, hW4⟩

end Go.Proofs.Ytmlmdklheiafpaa
