/-
  ferref.Edged.
-/
import Derived.Test.YtdmpbbgcifodeaaInsW
import Derived.BigQuiet
import Derived.Deep.RegionHeld3
namespace Go.Proofs.Ytdmpbbgcifodeaa
open Go.RowKit

theorem drewN_two (w : World) (a b : Nat) : w.drewN (a + b) = (w.drewN a).drewN b := by simp [World.drewN, Nat.add_assoc]
theorem edged_snoc (a : List Edge) (x : Edge) : edgedL (a ++ [x]) = insE (nrm x) (edgedL a) := by simp [edgedL, List.foldl_append]
theorem edged_length (a : List Edge) : (edgedL a).length = a.length := by
  have := (edged_perm a).length_eq
  simpa using this

set_option maxRecDepth 100000 in
set_option maxHeartbeats 8000000 in
theorem edged_any (A : Option Addr) (cap : Nat) (l : List Edge) (w : World) (h20 : l.length ≤ 20) (h : Sl w w.heap.size A (pcells l)) :
    Calls Try.prog 58 #[.slice A l.length cap] w fun e w' => (∃ A' cap', e = .returned (.slice A' l.length cap') ∧ Sl w' w'.heap.size A' (pcells (edgedL l))) ∧ Below w.heap.size w w' := by
  have HS := Lib.hid h
  clear h
  obtain ⟨N, hN⟩ : ∃ N, N = w.heap.size := ⟨_, rfl⟩
  rw [← hN]
  have HNE := Lib.hid hN
  clear hN
  go_enter Try.func58, Try.ntmps58
  go_wp2
  go_loopw [3, 4] (fun ov iv wr => ∃ (vO : Value) (i : Nat), vO = ov ∧ i ≤ l.length ∧ iv = .int .i64 i ∧ wr.ownsRow N 81 2 vO i (pcells (edgedL (l.take i))) ∧ Below N w wr) (fun _ iv _ => l.length - (intOf iv).toNat)
  case atStart => exact ⟨_, 0, rfl, Nat.zero_le _, rfl, World.ownsRow_nil _ _ _ _, by rw [HNE.out]; exact Below.refl _ _⟩
  case round =>
    obtain ⟨w9, rfl⟩ : ∃ w9, w9 = wr := ⟨_, rfl⟩
    obtain ⟨vO, i, rfl, hi, rfl, hown, hW⟩ := hrel
    by_cases hil : i < l.length
    · have di : decide (i < l.length) = true := decide_eq_true hil
      have di2 : decide ((i : Int) < (l.length : Int)) = true := decide_eq_true (by omega)
      obtain ⟨b0, o0, rfl, hb0⟩ := psl_addr HS.out (by omega)
      obtain ⟨q1, q2⟩ := psl_at HS.out hil
      have q1 := (hW.cell (p := ⟨b0, o0 + i * 2, none⟩) (by rw [HNE.out]; exact hb0)).trans q1
      have q2 := (hW.cell (p := ⟨b0, o0 + i * 2 + 1, none⟩) (by rw [HNE.out]; exact hb0)).trans q2
      have htk : l.take (i + 1) = l.take i ++ [l.getD i (0, 0)] := by rw [take_snoc hil, getD_get hil]
      obtain ⟨⟨x, y⟩, hxy⟩ : ∃ x, x = l.getD i (0, 0) := ⟨_, rfl⟩
      rw [← hxy] at q1 q2 htk
      simp only at q1 q2
      have hnx : edgedL (l.take (i + 1)) = insE (min x y, max x y) (edgedL (l.take i)) := by rw [htk, edged_snoc]; rfl
      obtain ⟨T, hT⟩ : ∃ T, T = edgedL (l.take i) := ⟨_, rfl⟩
      have hTl : T.length = i := by rw [hT, edged_length, List.length_take]; omega
      rw [← hT] at hown hnx
      have hNs : N ≤ w9.heap.size := by have := hW.size; have := HNE.out; omega
      have HOW := Lib.hid hown
      have HW := Lib.hid hW
      have HNX := Lib.hid hnx
      have HTL := Lib.hid hTl
      clear hxy htk hnx hT hown hW hTl
      go_upto_region 5 with fail
      obtain ⟨p1, hp1⟩ : ∃ p, p = min x y := ⟨_, rfl⟩
      obtain ⟨p2, hp2⟩ : ∃ p, p = max x y := ⟨_, rfl⟩
      go_cut [5] (fun pv wz => ∃ X, pv = .pointer (some ⟨X, 0, none⟩) ∧ w9.heap.size ≤ X ∧ X < wz.heap.size ∧ wz.cell? ⟨X, 0, none⟩ = some (.int .i64 p1) ∧ wz.cell? ⟨X, 1, none⟩ = some (.int .i64 p2) ∧ Below w9.heap.size w9 wz)
      case first =>
        have HP1 := Lib.hid hp1
        have HP2 := Lib.hid hp2
        clear HOW HW HNX hp1 hp2
        go_wp2
        go_region_held3 (fun w' => w'.cell? ⟨b0, o0 + i * 2, none⟩ = some (.int .i64 x) ∧ w'.cell? ⟨b0, o0 + i * 2 + 1, none⟩ = some (.int .i64 y)) (first | go_keep | exact ⟨q1, q2⟩) (fail)
        all_goals
          go_wp2
          go_meet
          refine ⟨w9.heap.size, rfl, Nat.le_refl _, by simp, ?_, ?_, ?_⟩
          · show (w9.alloc (.cells #[.int .i64 (min x y), .int .i64 (max x y)] 81)).cell? ⟨w9.heap.size, 0, none⟩ = _
            rw [World.cell?_alloc_at _ _ _ _ rfl, HP1.out]; rfl
          · show (w9.alloc (.cells #[.int .i64 (min x y), .int .i64 (max x y)] 81)).cell? ⟨w9.heap.size, 1, none⟩ = _
            rw [World.cell?_alloc_at _ _ _ _ rfl, HP2.out]; rfl
          · exact below_drewN ((Below.refl _ _).alloc (Nat.le_refl _) _) 1
      case rest =>
        obtain ⟨X, rfl, hX1, hX2, c1, c2, hb8⟩ := hcut
        have HO8 := Lib.hid (own_eq HOW.out (fun b e => hb8.block b (HOW.out.lt b e).2))
        have hW8 : Below N w wc := HW.out.trans (hb8.mono hNs)
        obtain ⟨w8, rfl⟩ : ∃ w8, w8 = wc := ⟨_, rfl⟩
        obtain ⟨AT, cT, hv, hn1, hsT, hcT1, hcT2⟩ := psl_of_own HO8.out
        rw [← hn1] at hv hcT1
        subst hv
        have HST := Lib.hid hsT
        have HW8 := Lib.hid hW8
        have HP : Hid (edgedL (l.take (i + 1)) = insE (p1, p2) T) := by rw [hp1, hp2]; exact HNX.out
        have hNs8 : N ≤ w8.heap.size := by have := hW8.size; have := HNE.out; omega
        clear hn1 hsT hW8 hb8 HOW HW HNX hX1 hp1 hp2 q1 q2 hNs
        go_wp2
        go_loopw [6] (fun kv wz => ∃ k : Nat, k ≤ i ∧ kv = .int .i64 k ∧ (∀ j u, j < k → T[j]? = some u → ltE u (p1, p2) = true) ∧ ∃ d, w8.drewN d = wz) (fun kv _ => i - (intOf kv).toNat)
        case atStart => exact ⟨0, Nat.zero_le _, rfl, fun j u h => by omega, 0, rfl⟩
        case round =>
          obtain ⟨k, hk, rfl, hlt, d, rfl⟩ := hrel
          have HLT := Lib.hid hlt
          clear hlt
          obtain ⟨bb, hbb⟩ : ∃ bb : Bool, bb = true ↔ (k < i ∧ ltE (T.getD k (0, 0)) (p1, p2) = true) := ⟨decide _, decide_eq_true_iff⟩
          have HBB := Lib.hid hbb
          clear hbb
          go_upto_region 7 with fail
          go_cut [69] (fun bv wz => bv = .bool bb ∧ ∃ d, w8.drewN d = wz)
          case first =>
            by_cases hki : k < i
            · have dk : decide (k < i) = true := decide_eq_true hki
              have dk2 : decide ((k : Int) < (i : Int)) = true := decide_eq_true (by omega)
              have hkT : k < T.length := by rw [HTL.out]; exact hki
              obtain ⟨bT, oT, rfl, hbT⟩ := psl_addr HST.out (by omega)
              obtain ⟨r1, r2⟩ := psl_at HST.out hkT
              obtain ⟨⟨u1, u2⟩, hu⟩ : ∃ x, x = T.getD k (0, 0) := ⟨_, rfl⟩
              rw [← hu] at r1 r2 HBB
              simp only at r1 r2
              have hbb2 : bb = true ↔ (u1 < p1 ∨ (u1 = p1 ∧ u2 < p2)) := by
                rw [HBB.out]
                simp [ltE, hki]
              have HB2 := Lib.hid hbb2
              clear hu hbb2 hkT
              by_cases hA : u1 < p1
              · have e1 : decide (u1 < p1) = true := decide_eq_true hA
                have hf : Hid (bb = true) := HB2.out.2 (.inl hA)
                go_wp2
                go_quiet (fail)
                go_wp2
                go_meet
                exact ⟨by rw [hf.out], _, drewN_two _ _ _⟩
              · have e1 : decide (u1 < p1) = false := decide_eq_false hA
                by_cases hE : u1 = p1
                · subst hE
                  have e2 : (u1 == u1) = true := by simp
                  by_cases hB : u2 < p2
                  · have e3 : decide (u2 < p2) = true := decide_eq_true hB
                    have hf : Hid (bb = true) := HB2.out.2 (.inr ⟨rfl, hB⟩)
                    go_wp2
                    go_quiet (fail)
                    go_wp2
                    go_meet
                    exact ⟨by rw [hf.out], _, drewN_two _ _ _⟩
                  · have e3 : decide (u2 < p2) = false := decide_eq_false hB
                    have hf : Hid (bb = false) := by
                      cases hh : bb with
                      | false => rfl
                      | true => rcases HB2.out.1 hh with h1 | h1 <;> omega
                    go_wp2
                    go_quiet (fail)
                    go_wp2
                    go_meet
                    exact ⟨by rw [hf.out], _, drewN_two _ _ _⟩
                · have e2 : (u1 == p1) = false := by simpa using hE
                  have hf : Hid (bb = false) := by
                    cases hh : bb with
                    | false => rfl
                    | true => rcases HB2.out.1 hh with h1 | h1 <;> omega
                  go_wp2
                  go_quiet (fail)
                  go_wp2
                  go_meet
                  exact ⟨by rw [hf.out], _, drewN_two _ _ _⟩
            · have dk : decide (k < i) = false := decide_eq_false hki
              have dk2 : decide ((k : Int) < (i : Int)) = false := decide_eq_false (by omega)
              have hf : Hid (bb = false) := by
                cases hh : bb with
                | false => rfl
                | true => exact absurd (HBB.out.1 hh).1 hki
              go_wp2
              go_quiet (fail)
              go_wp2
              go_meet
              exact ⟨by rw [hf.out], _, drewN_two _ _ _⟩
          case rest =>
            obtain ⟨rfl, d2, rfl⟩ := hcut
            cases bb with
            | true =>
              have h2 := HBB.out.1 rfl
              have hlt2 : Hid (∀ j u, j < k + 1 → T[j]? = some u → ltE u (p1, p2) = true) := fun j u hj hu => by
                by_cases e : j = k
                · subst e
                  have := h2.2
                  rw [List.getD_eq_getElem?_getD, hu] at this
                  exact this
                · exact HLT.out j u (by omega) hu
              have hki := h2.1
              clear h2
              go_wp2
              go_roundw
              case rel => exact ⟨k + 1, by omega, by go_num, hlt2.out, d2, rfl⟩
              case measure => simp [intOf]; omega
            | false =>
              have hat := insE_at (p1, p2) T k (by rw [HTL.out]; exact hk) (fun j u hj hu => HLT.out j u hj hu) (fun u hu => by
                have hkT := (List.getElem?_eq_some_iff.1 hu).1
                cases hh : ltE u (p1, p2) with
                | false => rfl
                | true =>
                  have := HBB.out.2 ⟨by rw [← HTL.out]; exact hkT, by rw [List.getD_eq_getElem?_getD, hu]; exact hh⟩
                  cases this)
              have HAT : Hid (edgedL (l.take (i + 1)) = T.take k ++ (p1, p2) :: T.drop k) := HP.out.trans hat
              obtain ⟨w7, hw7⟩ : ∃ w7, w7 = (w8.drewN d2).alloc (.cells #[.int .i64 p1, .int .i64 p2] 81) := ⟨_, rfl⟩
              have ho7 : w7.ownsRow N 81 2 (.slice AT i cT) i (pcells T) := by
                rw [hw7]
                exact World.ownsRow.alloc (w := w8.drewN d2) HO8.out _
              have hX7 : w7.heap[w8.heap.size]? = some (.cells #[.int .i64 p1, .int .i64 p2] 81) := by rw [hw7]; exact heap_alloc_new (w8.drewN d2) _
              have hXv : (Value.slice AT i cT).ownBlock ≠ some w8.heap.size := fun e => by have := (HO8.out.lt _ e).2; omega
              have hb7 : Below N w w7 := by rw [hw7]; exact (below_drewN HW8.out d2).alloc hNs8 _
              have HI := Lib.hid (ins_any (k := k) p1 p2 w7 ho7 hk hX7 hXv (by have := hb7.size; have := HNE.out; omega) (by omega))
              have HB7 := Lib.hid hb7
              clear hat ho7 hX7 hXv hb7 HBB HLT HP
              obtain ⟨Y, hY⟩ : ∃ Y, Y = w8.heap.size := ⟨_, rfl⟩
              rw [← hY] at HI
              have HY := Lib.hid hY
              clear hY
              go_wp2_with (first | (go_at_call 99; rw [← hw7]; have hI := HI.out; rw [HY.out] at hI; refine hI.mono ?_) | fail)
              rintro e w6 ⟨⟨v', rfl, hown'⟩, hb6⟩
              rw [← HAT.out] at hown'
              have HO6 := Lib.hid hown'
              have HW6 := Lib.hid (HB7.out.trans hb6)
              clear hown' hb6 hI HI HB7 hw7
              go_wp2
              go_roundw
              case rel => exact ⟨_, i + 1, rfl, by omega, by go_num, HO6.out, HW6.out⟩
              case measure => simp [intOf]; omega
    · have di : decide (i < l.length) = false := decide_eq_false hil
      have di2 : decide ((i : Int) < (l.length : Int)) = false := decide_eq_false (by omega)
      have hie : i = l.length := by omega
      rw [List.take_of_length_le (by omega)] at hown
      obtain ⟨A8, c8, rfl, hl8, hs8, -, -⟩ := psl_of_own hown
      rw [edged_length] at *
      have HS8 := Lib.hid hs8
      have HW := Lib.hid hW
      clear hs8 hW hown hie
      go_wp2
      go_ret
      exact ⟨⟨_, _, rfl, HS8.out⟩, HW.out⟩
end Go.Proofs.Ytdmpbbgcifodeaa
