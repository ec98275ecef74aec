/-
  paths.Check, fits, sides: are grid, starts and ends right?
-/
import Derived.Test.YtdmpbbgcifodeaaPt3W
import Derived.Deep.RegionHeld3
import Derived.Deep.RegionWith
namespace Go.Proofs.Ytdmpbbgcifodeaa
open Go.RowKit Go.Proofs

def GridOk (W H : Int) (bar : List (Int × Int)) : Prop := (1 ≤ W ∧ 1 ≤ H ∧ W ≤ 8 ∧ H ≤ 8) ∧ bar.Nodup ∧ ∀ p ∈ bar, inB W H p = true
def HeldB (w0 w' : World) : Prop := Below w0.heap.size w0 w'
theorem cell_keep {w w' : World} {a : Addr} {v : Value} (hb : Below w.heap.size w w') (h : w.cell? a = some v) : w'.cell? a = some v := (hb.cell (World.block_lt_of_cell? w a h)).trans h
theorem heldB_trans {w0 w w' : World} (h : HeldB w0 w) (hb : Below w.heap.size w w') : HeldB w0 w' := below_call h (Nat.le_refl _) hb
theorem nodup_of {m : List (Int × Int)} (h : ∀ j, j < m.length → m.getD j (0, 0) ∉ m.take j) : m.Nodup := by
  rw [List.Nodup, List.pairwise_iff_getElem]
  intro i j hi hj hij e
  refine h j hj ?_
  rw [getD_get hj, ← e]
  exact List.mem_take_iff_getElem.2 ⟨i, by omega, rfl⟩
theorem of_nodup {m : List (Int × Int)} (h : m.Nodup) {j : Nat} (hj : j < m.length) : m.getD j (0, 0) ∉ m.take j := fun hm => by
  obtain ⟨i, hi, e⟩ := List.mem_take_iff_getElem.1 hm
  rw [List.Nodup, List.pairwise_iff_getElem] at h
  rw [getD_get hj] at e
  exact h i j (by omega) hj (by omega) e

set_option maxRecDepth 100000 in
set_option maxHeartbeats 2000000 in
theorem pcheck_any' (W H : Int) (A : Option Addr) (cap : Nat) (bar : List (Int × Int)) (w : World) (hl : bar.length ≤ 9223372036854775807) (hcap : bar.length ≤ cap) (h : Sl w w.heap.size A (pcells bar)) :
    Calls Try.prog 136 #[.agg #[.int .i64 W, .int .i64 H, .slice A bar.length cap]] w fun e w' => (∃ k : Int, e = .returned (.int .i64 k) ∧ (k = 0 ↔ GridOk W H bar)) ∧ Below w.heap.size w w' := by
  obtain ⟨w0, hw0⟩ : ∃ w0, w0 = w.alloc (.cells #[.int .i64 W, .int .i64 H, .slice A bar.length cap] 43) := ⟨_, rfl⟩
  have hb0 : Below w.heap.size w w0 := by rw [hw0]; exact (Below.refl _ _).alloc (Nat.le_refl _) _
  have g1 : w0.cell? ⟨w.heap.size, 0, none⟩ = some (.int .i64 W) := by rw [hw0, World.cell?_alloc_at _ _ _ _ rfl]; rfl
  have g2 : w0.cell? ⟨w.heap.size, 1, none⟩ = some (.int .i64 H) := by rw [hw0, World.cell?_alloc_at _ _ _ _ rfl]; rfl
  have g3 : w0.cell? ⟨w.heap.size, 2, none⟩ = some (.slice A bar.length cap) := by rw [hw0, World.cell?_alloc_at _ _ _ _ rfl]; rfl
  have hz0 : w0.heap.size = w.heap.size + 1 := by rw [hw0]; simp
  have hs0 := h.below hb0
  have HB0 := Lib.hid hb0
  have HZ0 := Lib.hid hz0
  go_enter Try.func136, Try.ntmps136
  go_upto_region 1 with fail
  rw [← hw0]
  clear hw0 h hb0 hz0
  go_cut [22] (fun bv wz => bv = .bool (decide (W < 1) || decide (H < 1) || decide (8 < W) || decide (8 < H)) ∧ w0 = wz)
  case first =>
    cases h1 : decide (W < 1) <;> cases h2 : decide (H < 1) <;> cases h3 : decide (8 < W) <;> cases h4 : decide (8 < H) <;>
    · have H1 := Lib.hid h1
      have H2 := Lib.hid h2
      have H3 := Lib.hid h3
      have H4 := Lib.hid h4
      go_wp2
      go_meet
      exact ⟨by rw [H1.out, H2.out, H3.out, H4.out]; rfl, rfl⟩
  case rest =>
    obtain ⟨rfl, rfl⟩ := hcut
    by_cases hrng : 1 ≤ W ∧ 1 ≤ H ∧ W ≤ 8 ∧ H ≤ 8
    · obtain ⟨r1, r2, r3, r4⟩ := hrng
      have d1 : decide (W < 1) = false := decide_eq_false (by omega)
      have d2 : decide (H < 1) = false := decide_eq_false (by omega)
      have d3 : decide (8 < W) = false := decide_eq_false (by omega)
      have d4 : decide (8 < H) = false := decide_eq_false (by omega)
      rw [d1, d2, d3, d4]
      go_wp2
      have HR := Lib.hid (⟨r1, r2, r3, r4⟩ : 1 ≤ W ∧ 1 ≤ H ∧ W ≤ 8 ∧ H ≤ 8)
      clear r1 r2 r3 r4 d1 d2 d3 d4
      go_loopw [26] (fun iv wr => ∃ i : Nat, i ≤ bar.length ∧ iv = .int .i64 i ∧ (∀ j, j < i → inB W H (bar.getD j (0, 0)) = true ∧ bar.getD j (0, 0) ∉ bar.take j) ∧ HeldB w0 wr) (fun iv _ => bar.length - (intOf iv).toNat)
      case atStart => exact ⟨0, Nat.zero_le _, rfl, fun j hj => by omega, Below.refl _ _⟩
      case round =>
        obtain ⟨i, hi, rfl, hall, hW⟩ := hrel
        have HALL := Lib.hid hall
        have HW := Lib.hid hW
        clear hall
        by_cases hlt : i < bar.length
        · have di : decide (i < bar.length) = true := decide_eq_true hlt
          obtain ⟨b, o, rfl, hb⟩ := psl_addr hs0 (by omega)
          have hsl : Sl wr w.heap.size (some ⟨b, o, none⟩) (pcells bar) := hs0.below (HW.out.mono (by have := HZ0.out; omega))
          obtain ⟨hc1, hc2⟩ := psl_at hsl hlt
          have htk : Hid (∀ w', HeldB w0 w' → Sl w' w.heap.size (some ⟨b, o, none⟩) (pcells (bar.take i))) := Lib.hid fun w' hw' => by
            have h5 := hs0.below (hw'.mono (show w.heap.size ≤ w0.heap.size by have := HZ0.out; omega))
            intro hp
            obtain ⟨b', o', e1, e2, e3⟩ := h5 (by rw [pcells_len]; omega)
            refine ⟨b', o', e1, e2, fun k u hk => e3 k u ?_⟩
            have hk2 := (List.getElem?_eq_some_iff.1 hk).1
            have e4 : pcells bar = pcells (bar.take i) ++ pcells (bar.drop i) := by rw [← pcells_app, List.take_append_drop]
            rw [e4, List.getElem?_append_left hk2]
            exact hk
          have hic : i ≤ cap := by omega
          have hic2 : (i : Int) ≤ (cap : Int) := by omega
          have htl : (bar.take i).length = i := by rw [List.length_take]; omega
          obtain ⟨p, hp⟩ : ∃ p, p = bar.getD i (0, 0) := ⟨_, rfl⟩
          obtain ⟨x, y⟩ := p
          rw [← hp] at hc1 hc2
          have hc1' : wr.cell? ⟨b, o + i * 2, none⟩ = some (.int .i64 x) := hc1
          have hc2' : wr.cell? ⟨b, o + i * 2 + 1, none⟩ = some (.int .i64 y) := hc2
          have HP := Lib.hid hp
          have HIN : Hid (∀ w', Calls Try.prog 137 #[.agg #[.int .i64 W, .int .i64 H, .slice (some ⟨b, o, none⟩) bar.length cap], .agg #[.int .i64 x, .int .i64 y]] w' fun e w'' => e = .returned (.bool (inB W H (x, y))) ∧ Below w'.heap.size w' w'') := Lib.hid fun w' => in_any W H x y _ w'
          have HCON : Hid (∀ w', HeldB w0 w' → Calls Try.prog 27 #[.slice (some ⟨b, o, none⟩) i cap, .agg #[.int .i64 x, .int .i64 y]] w' fun e w'' => e = .returned (.bool (decide ((x, y) ∈ bar.take i))) ∧ Below w'.heap.size w' w'') := Lib.hid fun w' hw' => by
            have h5 := pcon_any (B := w.heap.size) (some ⟨b, o, none⟩) cap (bar.take i) x y w' (by omega) (by have := hw'.size; have := HZ0.out; omega) (htk.out w' hw')
            rw [htl] at h5
            refine h5.mono ?_
            rintro e w'' ⟨⟨c, rfl, hc⟩, hb9⟩
            refine ⟨?_, hb9⟩
            have : c = decide ((x, y) ∈ bar.take i) := by rw [Bool.eq_iff_iff, hc]; simp
            rw [this]
          have k1 : wr.cell? ⟨w.heap.size, 0, none⟩ = some (.int .i64 W) := cell_keep HW.out g1
          have k2 : wr.cell? ⟨w.heap.size, 1, none⟩ = some (.int .i64 H) := cell_keep HW.out g2
          have k3 : wr.cell? ⟨w.heap.size, 2, none⟩ = some (.slice (some ⟨b, o, none⟩) bar.length cap) := cell_keep HW.out g3
          have hba : Below wr.heap.size wr (wr.alloc (.cells #[.int .i64 x, .int .i64 y] 48)) := (Below.refl _ _).alloc (Nat.le_refl _) _
          have hn1 : (wr.alloc (.cells #[.int .i64 x, .int .i64 y] 48)).cell? ⟨wr.heap.size, 0, none⟩ = some (.int .i64 x) := by rw [World.cell?_alloc_at _ _ _ _ rfl]; rfl
          have hn2 : (wr.alloc (.cells #[.int .i64 x, .int .i64 y] 48)).cell? ⟨wr.heap.size, 1, none⟩ = some (.int .i64 y) := by rw [World.cell?_alloc_at _ _ _ _ rfl]; rfl
          have m1 := cell_keep hba k1
          have m2 := cell_keep hba k2
          have m3 := cell_keep hba k3
          have hH := heldB_trans HW.out hba
          go_upto_region 6 with fail
          obtain ⟨w5, hw5⟩ : ∃ w5, w5 = wr.alloc (.cells #[.int .i64 x, .int .i64 y] 48) := ⟨_, rfl⟩
          rw [← hw5] at hn1 hn2 m1 m2 m3 hH
          rw [← hw5]
          obtain ⟨N, hN⟩ : ∃ N, N = wr.heap.size := ⟨_, rfl⟩
          rw [← hN] at hn1 hn2 ⊢
          have HH := Lib.hid hH
          clear hw5 hN hba k1 k2 k3 hc1 hc2 hc1' hc2' hsl hp hH
          go_cut [42] (fun bv wz => bv = .bool (!inB W H (x, y) || decide ((x, y) ∈ bar.take i)) ∧ HeldB w0 wz)
          case first =>
            cases h1 : inB W H (x, y) with
            | false =>
              rw [h1] at HIN
              have HI := Lib.hid h1
              go_wp2
              first | go_region_with (first | (go_at_call 137; refine (HIN.out _).mono ?_; rintro e w9 ⟨rfl, hb9⟩; have q2 := cell_keep hb9 m2; have q3 := cell_keep hb9 m3; have q4 := cell_keep hb9 hn1; have q5 := cell_keep hb9 hn2; have HB9 := Lib.hid hb9; clear hb9) | fail) | fail
              all_goals
                go_wp2
                go_meet
                exact ⟨by rw [HI.out]; rfl, heldB_trans (below_drewN HH.out 1) HB9.out⟩
            | true =>
              rw [h1] at HIN
              have HI := Lib.hid h1
              go_wp2
              go_region_with (first | (go_at_call 137; refine (HIN.out _).mono ?_; rintro e w9 ⟨rfl, hb9⟩; have q2 := cell_keep hb9 m2; have q3 := cell_keep hb9 m3; have q4 := cell_keep hb9 hn1; have q5 := cell_keep hb9 hn2; have HB9 := Lib.hid hb9; clear hb9) | (go_at_call 27; refine (HCON.out _ (heldB_trans (below_drewN HH.out 1) HB9.out)).mono ?_; rintro e w10 ⟨rfl, hb10⟩; have HB10 := Lib.hid hb10; clear hb10) | fail)
              all_goals
                go_wp2
                go_meet
                exact ⟨by rw [HI.out]; rfl, heldB_trans (heldB_trans (below_drewN HH.out 1) HB9.out) HB10.out⟩
          case rest =>
            obtain ⟨rfl, hH⟩ := hcut
            have hW9 : Below w.heap.size w wc := HB0.out.trans (hH.mono (by have := HZ0.out; omega))
            by_cases hok : inB W H (x, y) = true ∧ (x, y) ∉ bar.take i
            · have hv : (!inB W H (x, y) || decide ((x, y) ∈ bar.take i)) = false := by simp [hok.1, hok.2]
              have HOK := Lib.hid hok
              rw [hv]
              have HH2 := Lib.hid hH
              clear hv hok hH HIN HCON
              go_wp2
              go_roundw
              case rel =>
                refine ⟨i + 1, by omega, by go_num, fun j hj => ?_, HH2.out⟩
                by_cases e : j = i
                · rw [e, ← HP.out]; exact HOK.out
                · exact HALL.out j (by omega)
              case measure => simp [intOf]; omega
            · have hv : (!inB W H (x, y) || decide ((x, y) ∈ bar.take i)) = true := by
                cases h1 : inB W H (x, y)
                · rfl
                · simp
                  exact Classical.byContradiction fun h2 => hok ⟨h1, h2⟩
              have HNO : Hid (¬ GridOk W H bar) := Lib.hid fun hh => hok (by
                have h3 := hh.2.2 (bar.getD i (0, 0)) (by rw [getD_get hlt]; exact List.getElem_mem hlt)
                have h4 := of_nodup hh.2.1 hlt
                rw [← HP.out] at h3 h4
                exact ⟨h3, h4⟩)
              rw [hv]
              clear hv hok hH HIN HCON
              go_wp2
              go_ret
              exact ⟨⟨1, rfl, fun e => absurd e (by decide), fun hh => absurd hh HNO.out⟩, hW9⟩
        · have di : decide (i < bar.length) = false := decide_eq_false hlt
          have hW9 : Below w.heap.size w wr := HB0.out.trans (HW.out.mono (by have := HZ0.out; omega))
          have hok : Hid (GridOk W H bar) := Lib.hid ⟨HR.out, nodup_of (fun j hj => (HALL.out j (by omega)).2), fun p hp => by
            obtain ⟨j, hj, rfl⟩ := List.getElem_of_mem hp
            have := (HALL.out j (by omega)).1
            rwa [getD_get hj] at this⟩
          go_wp2
          go_ret
          exact ⟨⟨0, rfl, fun _ => hok.out, fun _ => rfl⟩, hW9⟩
    · have hb : (decide (W < 1) || decide (H < 1) || decide (8 < W) || decide (8 < H)) = true := by
        simp; omega
      have HN := Lib.hid hrng
      rw [hb]
      clear hrng hb
      go_wp2
      go_ret
      exact ⟨⟨1, rfl, fun e => absurd e (by decide), fun hh => absurd hh.1 HN.out⟩, HB0.out⟩
end Go.Proofs.Ytdmpbbgcifodeaa
