/-
  InsertSides: the law, walked.
-/
import Derived.Test.YtmlmdklheiafpaaTabl4W
namespace Go.Proofs.Ytmlmdklheiafpaa
open Go.RowKit

theorem lit1_srA (w : World) (r : List Int) (N : Nat) (hN : N = w.heap.size) (l1 : r.length ≤ 1000) : SR ((w.alloc (.cells (ints r).toArray 3)).alloc (.cells #[.slice (some ⟨N, 0, none⟩) r.length r.length] 22)) (w.heap.size + 2) (some ⟨N + 1, 0, none⟩) [r] := by
  subst hN
  have a1 : (w.alloc (.cells (ints r).toArray 3)).heap.size = w.heap.size + 1 := by simp
  refine ⟨[.slice (some ⟨w.heap.size, 0, none⟩) r.length r.length], rfl, fun _ => ⟨w.heap.size + 1, 0, rfl, by omega, fun j u hu => ?_⟩, fun k hk => ?_⟩
  · rw [World.cell?_alloc_at _ _ _ _ (by rw [a1])]; simpa using hu
  · match k, hk with
    | 0, _ =>
      refine ⟨_, _, rfl, ?_, by simp; omega⟩
      have := (sl_litA w (ints r) (w.heap.size + 1) (by omega)).below (((Below.refl _ (w.alloc (.cells (ints r).toArray 3))).alloc (by rw [a1]; exact Nat.le_refl _) (.cells #[.slice (some ⟨w.heap.size, 0, none⟩) r.length r.length] 22)))
      exact this.more (by omega)
theorem FitOut.ok {T : List (List Int)} {x k : Int} (h : FitOut T x k) (hf : FillOk T) (hx : Lt x) : k = if boxes T = 40 then 2 else 0 := h.1 hf hx
theorem fill_right {T : List (List Int)} {x : Int} (h : FillOk T) (hx : Lt x) (hb : boxes T ≠ 40) : FillOk (ins1 T x) ∧ boxes (ins1 T x) = boxes T + 1 := by
  rw [right_made h.1]
  have hw := h.word
  have h40 := h.2.2
  have := fill_word (w := rword T ++ [x]) (by rw [List.length_append, hw.1]; simp; omega) (fun z hz => by
    rcases List.mem_append.1 hz with e | e
    · exact hw.2 z e
    · simp at e; rw [e]; exact hx)
  exact ⟨this.1, by rw [this.2, List.length_append, hw.1]; rfl⟩
theorem fill_left {T : List (List Int)} {y : Int} (h : FillOk T) (hy : Lt y) (hb : boxes T ≠ 40) : FillOk (insW [] (y :: rword T)) ∧ boxes (insW [] (y :: rword T)) = boxes T + 1 := by
  have hw := h.word
  have h40 := h.2.2
  have := fill_word (w := y :: rword T) (by rw [List.length_cons, hw.1]; omega) (fun z hz => by
    rcases List.mem_cons.1 hz with e | e
    · rw [e]; exact hy
    · exact hw.2 z e)
  exact ⟨this.1, by rw [this.2, List.length_cons, hw.1]⟩
theorem both_ways {T : List (List Int)} {x y : Int} (h : FillOk T) : insW [] (y :: rword (ins1 T x)) = ins1 (insW [] (y :: rword T)) x := by
  have e3 : ins1 (insW [] (y :: rword T)) x = insW [] (y :: rword T ++ [x]) := by rw [insW_append]; rfl
  rw [e3]
  refine insW_Kn0 _ (Nat.le_refl _) ?_
  have h2 := (Kn.cons y (ins1_Kn (T := T) (x := x) h.1.up)).symm
  simpa using h2
theorem FillOk.nil : FillOk [] := ⟨trivial, fun r hr => by simp at hr, by simp [boxes]⟩

set_option maxRecDepth 100000 in
set_option maxHeartbeats 1000000 in
theorem sides_law (A : Option Addr) (cap : Nat) (T : List (List Int)) (x y : Int) (w : World) (hT : T.length ≤ 9223372036854775807) (h : SR w w.heap.size A T) :
    Calls Try.prog 7 #[.slice A T.length cap, .int .i64 x, .int .i64 y] w fun e w' => e = .returned (.bool true) ∧ Below w.heap.size w w' := by
  have hB := Nat.le_refl w.heap.size
  go_enter Try.func7, Try.ntmps7
  go_wp2_with (first | (go_at_call 30; refine (insert_any none 0 [] 5 _ (by simp) (SR.nil _ _ _)).mono ?_) | fail)
  rintro e w1 ⟨⟨k, row, rows, A1, c1, rfl, hs1, _, hk, hz, _⟩, hb1⟩
  have hk0 : k = 0 := hk.ok FillOk.nil ⟨by decide, by decide⟩
  obtain ⟨hr, hrw⟩ := hz hk0
  subst hk0
  have hr1 : rows = [[5]] := hr
  have hrw1 : row = 0 := hrw
  subst hr1
  subst hrw1
  clear hk hz hr hrw
  go_wp2_with (first | (go_at_call 31; refine (rows_any A1 (some ⟨w1.heap.size + 1, 0, none⟩) c1 1 [[5]] [[5]] _ (by simp) (by simp) (hs1.keep (((Below.refl _ _).alloc (Nat.le_refl _) _).alloc (by simp) _)) (SR.more (lit1_srA w1 [5] w1.heap.size rfl (by simp)) (by simp))).mono ?_) | fail)
  rintro e w2 rfl hb2
  have hW2 : Below w.heap.size w w2 := ((hb1.alloc hb1.size _).alloc (by have := hb1.size; simp; omega) _).trans (hb2.mono (by have := hb1.size; omega))
  clear hb1 hb2 hs1
  go_wp2_with (first | (go_at_call 30; refine (insert_any A cap T x _ hT (h.now hW2 hB)).mono ?_) | fail)
  rintro e w3 ⟨⟨k1, row1, ra, A3, c3, rfl, hs3, hla, hk1, hz1, hn1⟩, hb3⟩
  have hW3 : Below w.heap.size w w3 := below_call hW2 hB hb3
  clear hb3 hW2
  have HS3 := Lib.hid hs3
  have HK1 := Lib.hid hk1
  have HZ1 := Lib.hid hz1
  clear hs3 hk1 hz1 hn1
  go_wp2_with (first | (go_at_call 32; refine (insleft_any A cap T y _ hT (h.now hW3 hB)).mono ?_) | fail)
  rintro e w4 ⟨⟨k2, col2, rb, A4, c4, rfl, hs4, hlb, hk2, hz2, hn2⟩, hb4⟩
  have hW4 : Below w.heap.size w w4 := below_call hW3 hB hb4
  have HS3' := Lib.hid (HS3.out.keep hb4)
  have HS4 := Lib.hid hs4
  have HK2 := Lib.hid hk2
  have HZ2 := Lib.hid hz2
  clear hb4 hW3 hs4 hk2 hz2 hn2 HS3
  by_cases e1 : k1 = 0
  · by_cases e2 : k2 = 0
    · obtain ⟨hf, hx, hbx⟩ := HK1.out.2 e1
      obtain ⟨_, hy, _⟩ := HK2.out.2 e2
      have ha := (HZ1.out e1).1
      have hb := HZ2.out e2
      obtain ⟨fa, ba⟩ := fill_right hf hx hbx
      obtain ⟨fb, bb⟩ := fill_left hf hy hbx
      have hbw := both_ways (x := x) (y := y) hf
      rw [← ha] at fa ba hbw
      rw [← hb] at fb bb hbw
      subst e1 e2
      have HX := Lib.hid hx
      have HY := Lib.hid hy
      have FA := Lib.hid fa
      have FB := Lib.hid fb
      have BA := Lib.hid ba
      have BB := Lib.hid bb
      have HBW := Lib.hid hbw
      clear hf hx hbx hy ha hb fa fb ba bb hbw HK1 HK2 HZ1 HZ2
      go_wp2_with (first | (go_at_call 32; refine (insleft_any A3 c3 ra y _ hla HS3'.out).mono ?_) | fail)
      rintro e w5 ⟨⟨k3, col3, rc, A5, c5, rfl, hs5, hlc, hk3, hz3, hn3⟩, hb5⟩
      have hW5 : Below w.heap.size w w5 := below_call hW4 hB hb5
      have HS4' := Lib.hid (HS4.out.keep hb5)
      have e3 := hk3.ok FA.out HY.out
      rw [BA.out] at e3
      have HS5 := Lib.hid hs5
      have HZ3 := Lib.hid hz3
      have HN3 := Lib.hid hn3
      have E3 := Lib.hid e3
      clear hb5 hW4 hk3 hs5 hz3 hn3 e3 HS4 HS3'
      go_wp2_with (first | (go_at_call 30; refine (insert_any A4 c4 rb x _ hlb HS4'.out).mono ?_) | fail)
      rintro e w6 ⟨⟨k4, row4, rd, A6, c6, rfl, hs6, hld, hk4, hz4, hn4⟩, hb6⟩
      have hW6 : Below w.heap.size w w6 := below_call hW5 hB hb6
      have hs5' := HS5.out.keep hb6
      have e4 := hk4.ok FB.out HX.out
      rw [BB.out, ← E3.out] at e4
      subst e4
      have hcd : rc = rd := by
        by_cases c : k4 = 0
        · rw [HZ3.out c, (hz4 c).1]; exact HBW.out
        · rw [HN3.out c, hn4 c]
      subst hcd
      clear hb6 hW5 hk4 hz4 hn4 HZ3 HN3 E3 HS4' HS5
      go_wp2_with (first | (go_at_call 31; refine (rows_any A5 A6 c5 c6 rc rc _ hlc hlc hs5' hs6).mono ?_) | fail)
      rintro e w7 rfl hb7
      have hW7 : Below w.heap.size w w7 := below_call hW6 hB hb7
      go_wp2
      go_ret
      exact ⟨rfl, hW7⟩
    · have d2 : (k2 != 0) = true := by simpa using e2
      have d1 : (k1 != 0) = false := by simpa using e1
      go_wp2
      go_ret
      exact ⟨rfl, hW4⟩
  · have d1 : (k1 != 0) = true := by simpa using e1
    go_wp2
    go_ret
    exact ⟨rfl, hW4⟩
end Go.Proofs.Ytmlmdklheiafpaa
