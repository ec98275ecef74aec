/-
  cubes.Turned, Rest, Volume: what they answer.
-/
import Derived.Test.YtdmpbbgcifodeaaCube2W
import Derived.Test.YtdmpbbgcifodeaaSign1W
namespace Go.Proofs.Ytdmpbbgcifodeaa
open Go.RowKit

theorem tab_range (n : Nat) (f : Nat → Int) : tab n f = (List.range n).map f := rfl
theorem cnt_step (P : Nat → Bool) (i : Nat) : cnt P (i + 1) = cnt P i + if P i = true then 1 else 0 := rfl

set_option maxRecDepth 100000 in
set_option maxHeartbeats 2000000 in
theorem turn_any (A : Option Addr) (cap : Nat) (p : List (List Int)) (h : Int) (w : World) (hcl : p.length ≤ 9223372036854775807) (hr : SR w w.heap.size A p) :
    Calls Try.prog 45 #[.slice A p.length cap, .int .i64 h] w fun e w' => (∃ (k : Int) (rows : List (List Int)), CubeOut e w' k rows ∧ ChkPile p h k ∧ (k ≠ 0 → rows = []) ∧ (k = 0 → rows = turnOf p p.length (p.getD 0 []).length h.toNat)) ∧ Below w.heap.size w w' := by
  go_enter Try.func45, Try.ntmps45
  go_wp2_with fail
  refine (ccheck_any A cap p h w hcl hr).mono ?_
  rintro e w0 ⟨⟨k, rfl, hk⟩, rfl⟩
  rcases hk with ⟨hok, rfl⟩ | ⟨hok, rfl⟩
  · have HOK := Lib.hid hok
    obtain ⟨H, hH, hp⟩ := hok
    subst hH
    have hr8 := hp.r1
    have hc8 := hp.c1
    have hh8 := hp.h1
    obtain ⟨b, o, rfl, hb⟩ := hr.addr (by omega)
    obtain ⟨A0, c0, hc0, hr0, hl0⟩ := hr.at_ (r := 0) (by omega)
    rw [Nat.add_zero] at hc0
    obtain ⟨c, hc⟩ : ∃ c, c = (p.getD 0 []).length := ⟨_, rfl⟩
    rw [← hc] at hc0 hl0 hp hc8
    have HC := Lib.hid hc
    have HP := Lib.hid hp
    clear hc hp
    go_wp2
    go_loopw [7, 22] (fun ov jv wr => ∃ (j : Nat) (hs : List Value), j ≤ c ∧ jv = .int .i64 j ∧ OwnM wr w.heap.size ov hs ((turnOf p p.length c H).take j) ∧ Below w.heap.size w wr) (fun _ jv _ => c - (intOf jv).toNat)
    case atStart => exact ⟨0, [], by omega, rfl, by rw [List.take_zero]; exact OwnM.nil _ _, Below.refl _ _⟩
    case round =>
      obtain ⟨j, hs, hj, rfl, hm, hW⟩ := hrel
      obtain ⟨w9, rfl⟩ : ∃ w9, w9 = wr := ⟨_, rfl⟩
      have HM := Lib.hid hm
      have hsz := hW.size
      clear hm
      by_cases hlt : j < c
      · have hd1 : decide (j < c) = true := decide_eq_true hlt
        go_wp2_with (first | (refine wpList_mk rfl (.tmp 25) (.tmp 25) rfl H rfl rfl (by omega) (Nat.le_refl _) (fun w2 hown2 hb2 hz2 => ?_)) | fail)
        rw [tab_zero] at hown2
        have HO2 := Lib.hid hown2
        clear hown2
        go_wp2
        go_loopw [29] (fun zv wz => ∃ z : Nat, z ≤ H ∧ zv = .int .i64 z ∧ wz.ownsRow w9.heap.size 3 1 (.slice (some ⟨w9.heap.size, 0, none⟩) H H) H (ints (tab H (fun a => if a < z then turnAt p p.length j a else 0))) ∧ Below w9.heap.size w9 wz) (fun zv _ => H - (intOf zv).toNat)
        case atStart => exact ⟨0, by omega, rfl, by simpa using HO2.out, hb2⟩
        case round =>
          clear HO2 hb2
          obtain ⟨z, hz, rfl, hown, hW2⟩ := hrel
          have HO := Lib.hid hown
          clear hown
          by_cases hlt2 : z < H
          · have hd2 : decide (z < H) = true := decide_eq_true hlt2
            go_wp2
            go_loopw [34] (fun iv wz => ∃ i : Nat, i ≤ p.length ∧ iv = .int .i64 i ∧ wz.ownsRow w9.heap.size 3 1 (.slice (some ⟨w9.heap.size, 0, none⟩) H H) H (ints (tab H (fun a => if a < z then turnAt p p.length j a else if a = z then (cnt (fun i => decide ((z : Int) < ent p i j)) i : Int) else 0))) ∧ Below w9.heap.size w9 wz) (fun iv _ => p.length - (intOf iv).toNat)
            case atStart =>
              refine ⟨0, by omega, rfl, ?_, hW2⟩
              rw [tab_congr (g := fun a => if a < z then turnAt p p.length j a else 0) (fun a _ => by
                by_cases e : a < z
                · rw [if_pos e, if_pos e]
                · rw [if_neg e, if_neg e]; split <;> rfl)]
              exact HO.out
            case round =>
              clear HO hW2
              obtain ⟨i, hi, rfl, hown, hW2⟩ := hrel
              have HO := Lib.hid hown
              have hWw := hW.trans (hW2.mono hsz)
              clear hown
              by_cases hlt3 : i < p.length
              · have hd3 : decide (i < p.length) = true := decide_eq_true hlt3
                obtain ⟨Ai, ci, hci, hri, _⟩ := hr.at_ (r := i) hlt3
                have hli := HP.out.rowlen hlt3
                rw [hli] at hci
                obtain ⟨b1, o1, rfl, hb1⟩ := hri.addr (by rw [hli]; omega)
                have hci := (hWw.cell (p := ⟨b, o + i, none⟩) hb).trans hci
                have hcx := getD_cell (hri.below hWw) (k := j) (by rw [hli]; exact hlt)
                rw [show (p.getD i []).getD j 0 = ent p i j from rfl] at hcx
                have hcs := cnt_step (fun i => decide ((z : Int) < ent p i j)) i
                have hcle := cnt_le (fun i => decide ((z : Int) < ent p i j)) i
                have hcy := own_get HO.out (i := z) (tab_get hlt2)
                rw [if_neg (by omega), if_pos rfl] at hcy
                have hfr := HO.out.frozenAt z
                have hst := own_set HO.out z ((cnt (fun i => decide ((z : Int) < ent p i j)) i : Int) + 1)
                have hWs := hW2.setCell (p := ⟨w9.heap.size, z, none⟩) (Nat.le_refl _) (.int .i64 ((cnt (fun i => decide ((z : Int) < ent p i j)) i : Int) + 1))
                have HCS := Lib.hid hcs
                obtain ⟨n, hn⟩ : ∃ n, n = cnt (fun i => decide ((z : Int) < ent p i j)) i := ⟨_, rfl⟩
                have HN := Lib.hid hn
                rw [← hn] at hcle hcy hst hWs
                obtain ⟨x, hx⟩ : ∃ x, x = ent p i j := ⟨_, rfl⟩
                rw [← hx] at hcx
                have HX := Lib.hid hx
                have HST := Lib.hid hst
                clear hn hx hst hcs hli
                by_cases hzx : (z : Int) < x
                · have hd4 : decide ((z : Int) < x) = true := decide_eq_true hzx
                  have HZX := Lib.hid hzx
                  clear hzx
                  go_wp2
                  go_roundw
                  case rel =>
                    refine ⟨i + 1, by omega, by go_num, ?_, hWs⟩
                    have hq := HST.out
                    rw [tab_set, tab_congr (g := fun a => if a < z then turnAt p p.length j a else if a = z then (cnt (fun i => decide ((z : Int) < ent p i j)) (i + 1) : Int) else 0) (fun a _ => by
                      by_cases e : a = z
                      · subst e
                        rw [if_pos rfl, if_neg (by omega), if_pos rfl, HCS.out, ← HN.out, if_pos (by rw [← HX.out]; exact decide_eq_true HZX.out)]; rfl
                      · rw [if_neg e]
                        by_cases e2 : a < z
                        · rw [if_pos e2, if_pos e2]
                        · rw [if_neg e2, if_neg e2, if_neg e, if_neg e])] at hq
                    exact hq
                  case measure => simp [intOf]; omega
                · have hd4 : decide ((z : Int) < x) = false := decide_eq_false hzx
                  have HZX := Lib.hid hzx
                  clear hzx
                  go_wp2
                  go_roundw
                  case rel =>
                    refine ⟨i + 1, by omega, by go_num, ?_, hW2⟩
                    rw [HCS.out, if_neg (by rw [← HX.out]; simpa using HZX.out), Nat.add_zero]
                    exact HO.out
                  case measure => simp [intOf]; omega
              · have hd3 : decide (i < p.length) = false := decide_eq_false hlt3
                obtain rfl : i = p.length := by omega
                have hq := HO.out
                rw [tab_congr (g := fun a => if a < z + 1 then turnAt p p.length j a else 0) (fun a _ => by
                  by_cases e2 : a < z
                  · rw [if_pos e2, if_pos (by omega)]
                  · rw [if_neg e2]
                    by_cases e : a = z
                    · subst e; rw [if_pos rfl, if_pos (by omega)]; rfl
                    · rw [if_neg e, if_neg (by omega)])] at hq
                have HQ := Lib.hid hq
                clear hq
                go_wp2
                go_roundw
                case rel => exact ⟨z + 1, by omega, by go_num, HQ.out, hW2⟩
                case measure => simp [intOf]; omega
          · have hd2 : decide (z < H) = false := decide_eq_false hlt2
            have hq := HO.out
            rw [tab_congr (g := turnAt p p.length j) (fun a ha => by rw [if_pos (by omega)])] at hq
            have HQ := Lib.hid hq
            have hWw := hW.trans (hW2.mono hsz)
            clear hq HO
            go_wp2_with (first | (at_builtin; refine wpList_pushRow (v := u7) (u := .slice (some ⟨w9.heap.size, 0, none⟩) H H) rfl (.tmp 54) (.tmp 56) rfl rfl rfl HM.out hW2 (by rw [tab_length]) HQ.out hWw hsz j (by rw [List.length_take]; unfold turnOf; rw [gmat_length]; omega) (by omega) (fun g2 c2 w5 hs5 hm5 hb5 hz5 => ?_)) | fail)
            have hts := gmat_take (r := c) (c := H) (f := turnAt p p.length) hlt
            have hm5' : OwnM w5 w.heap.size (.slice (some ⟨g2, 0, none⟩) (j + 1) c2) hs5 ((turnOf p p.length c H).take (j + 1)) := by
              have hq := hm5
              unfold turnOf at hq ⊢
              rw [tab_range, hts] at hq
              exact hq
            have HM5 := Lib.hid hm5'
            clear hm5 hm5' hts
            go_wp2
            go_roundw
            case rel => exact ⟨j + 1, hs5, by omega, by go_num, HM5.out, hb5⟩
            case measure => simp [intOf]; omega
      · have hd1 : decide (j < c) = false := decide_eq_false hlt
        have hjc : Hid (j = c) := by show _ = _; omega
        have hm := HM.out
        rw [List.take_of_length_le (by unfold turnOf; rw [gmat_length, hjc.out]; exact Nat.le_refl _)] at hm
        have HM' := Lib.hid hm
        clear hm
        go_wp2
        go_ret2
        exact ⟨⟨0, _, cubeOut_own HM'.out 0, .inl ⟨HOK.out, rfl⟩, fun e => absurd rfl e, fun _ => by rw [← HC.out, Int.toNat_natCast]⟩, hW⟩
  · have HOK := Lib.hid hok
    clear hok
    go_wp2
    go_ret2
    exact ⟨⟨1, [], cubeOut_nil _ 1, .inr ⟨HOK.out, rfl⟩, fun _ => rfl, fun e => (by cases e)⟩, Below.refl _ _⟩

end Go.Proofs.Ytdmpbbgcifodeaa
