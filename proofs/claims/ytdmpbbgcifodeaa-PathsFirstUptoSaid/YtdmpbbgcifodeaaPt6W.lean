/-
  paths.sides: what it answers.
-/
import Derived.Test.YtdmpbbgcifodeaaPt5W
namespace Go.Proofs.Ytdmpbbgcifodeaa
open Go.RowKit Go.Proofs

/-- Are these starts and ends of families? -/
def SidesOk (W H : Int) (bar ss es : List (Int × Int)) : Prop := GridOk W H bar ∧ (∀ p ∈ ss, inB W H p = true) ∧ (∀ p ∈ es, inB W H p = true) ∧ ss.length = es.length ∧ ss.length ≤ 4
set_option maxRecDepth 100000 in
set_option maxHeartbeats 2000000 in
theorem sides_any (W H : Int) (A C D : Option Addr) (cap c2 c3 : Nat) (bar ss es : List (Int × Int)) (w : World) (hl : bar.length ≤ 1000000) (hcap : bar.length ≤ cap) (h : Sl w w.heap.size A (pcells bar)) (hl2 : ss.length ≤ 1000000) (h2 : Sl w w.heap.size C (pcells ss)) (hl3 : es.length ≤ 1000000) (h3 : Sl w w.heap.size D (pcells es)) :
    Calls Try.prog 67 #[.agg #[.int .i64 W, .int .i64 H, .slice A bar.length cap], .slice C ss.length c2, .slice D es.length c3] w fun e w' => (∃ k : Int, e = .returned (.int .i64 k) ∧ (k = 0 ↔ SidesOk W H bar ss es)) ∧ Below w.heap.size w w' := by
  obtain ⟨w0, hw0⟩ : ∃ w0, w0 = w.alloc (.cells #[.int .i64 W, .int .i64 H, .slice A bar.length cap] 43) := ⟨_, rfl⟩
  have hb0 : Below w.heap.size w w0 := by rw [hw0]; exact (Below.refl _ _).alloc (Nat.le_refl _) _
  have g1 : w0.cell? ⟨w.heap.size, 0, none⟩ = some (.int .i64 W) := by rw [hw0, World.cell?_alloc_at _ _ _ _ rfl]; rfl
  have g2 : w0.cell? ⟨w.heap.size, 1, none⟩ = some (.int .i64 H) := by rw [hw0, World.cell?_alloc_at _ _ _ _ rfl]; rfl
  have g3 : w0.cell? ⟨w.heap.size, 2, none⟩ = some (.slice A bar.length cap) := by rw [hw0, World.cell?_alloc_at _ _ _ _ rfl]; rfl
  have hz0 : w0.heap.size = w.heap.size + 1 := by rw [hw0]; simp
  obtain ⟨w1, hw1⟩ : ∃ w1, w1 = (w0.alloc (.cells #[.slice C ss.length c2, .slice D es.length c3] 41)).drew := ⟨_, rfl⟩
  have hb1 : Below w0.heap.size w0 w1 := by rw [hw1]; exact below_drewN ((Below.refl _ _).alloc (Nat.le_refl _) _) 1
  have hc1 : w1.cell? ⟨w0.heap.size, 0, none⟩ = some (.slice C ss.length c2) := by
    rw [hw1]; show (w0.alloc _).cell? _ = _
    rw [World.cell?_alloc_at _ _ _ _ rfl]; rfl
  have hc2 : w1.cell? ⟨w0.heap.size, 1, none⟩ = some (.slice D es.length c3) := by
    rw [hw1]; show (w0.alloc _).cell? _ = _
    rw [World.cell?_alloc_at _ _ _ _ rfl]; rfl
  have hz1 : w1.heap.size = w0.heap.size + 1 := by rw [hw1]; show (w0.alloc _).heap.size = _; simp
  have hcon := concat_any w0.heap.size C D c2 c3 ss es w1 hl2 hl3 (by omega) hc1 hc2 ((h2.keep hb0).keep hb1) ((h3.keep hb0).keep hb1)
  obtain ⟨M, hM⟩ : ∃ M, M = ss ++ es := ⟨_, rfl⟩
  have hMl : M.length ≤ 9223372036854775807 := by rw [hM]; simp; omega
  rw [← hM] at hcon
  have HM := Lib.hid hM
  have HCON := Lib.hid hcon
  have HS := Lib.hid ((h.keep hb0).keep hb1)
  have HB0 := Lib.hid hb0
  have HB1 := Lib.hid hb1
  have HZ0 := Lib.hid hz0
  have p1 := cell_keep hb1 g1
  have p2 := cell_keep hb1 g2
  have p3 := cell_keep hb1 g3
  rw [hw1] at HCON HS HB1 p1 p2 p3
  go_enter Try.func67, Try.ntmps67
  go_upto_region 1 with fail
  rw [← hw0]
  clear hw0 h hb0 hz0 h2 h3 hb1 hc1 hc2 hz1 hcon hw1 hM
  have g1d : w0.drew.cell? ⟨w.heap.size, 0, none⟩ = some (.int .i64 W) := g1
  have g2d : w0.drew.cell? ⟨w.heap.size, 1, none⟩ = some (.int .i64 H) := g2
  have g3d : w0.drew.cell? ⟨w.heap.size, 2, none⟩ = some (.slice A bar.length cap) := g3
  go_cut [7] (fun kv wz => (∃ k : Int, kv = .int .i64 k ∧ (k = 0 ↔ GridOk W H bar ∧ ∀ p ∈ M, inB W H p = true)) ∧ HeldB w0 wz)
  case first =>
    go_wp2
    go_region_held3 (fun w' => w'.cell? ⟨w.heap.size, 0, none⟩ = some (.int .i64 W) ∧ w'.cell? ⟨w.heap.size, 1, none⟩ = some (.int .i64 H) ∧ w'.cell? ⟨w.heap.size, 2, none⟩ = some (.slice A bar.length cap))
      (first | with_reducible exact ⟨g1d, g2d, g3d⟩ | with_reducible exact ⟨p1, p2, p3⟩ | with_reducible exact ⟨q1, q2, q3⟩ | with_reducible exact ⟨r1, r2, r3⟩)
      (first | ((go_at_call 103; refine (HCON.out).mono ?_; rintro e w9 ⟨v9, rfl, ho9, hb9⟩; obtain ⟨A9, c9, rfl, hn9, hs9, hl9, hl9'⟩ := psl_of_own ho9; have HS9 := Lib.hid hs9; have q1 := cell_keep hb9 p1; have q2 := cell_keep hb9 p2; have q3 := cell_keep hb9 p3; have HB9 := Lib.hid hb9; clear hs9 ho9 hb9)) | ((go_at_call 102; refine (fits_any W H A A9 cap c9 bar M _ (by omega) hcap (HS.out.keep HB9.out) hMl HS9.out).mono ?_; rintro e w10 ⟨⟨k, rfl, hk⟩, hb10⟩; have r1 := cell_keep hb10 q1; have r2 := cell_keep hb10 q2; have r3 := cell_keep hb10 q3; have HB10 := Lib.hid hb10; have HK := Lib.hid hk; clear hb10 hk q1 q2 q3)) | fail)
    all_goals
      go_wp2
      go_meet
      exact ⟨⟨k, rfl, HK.out⟩, heldB_trans (heldB_trans HB1.out HB9.out) HB10.out⟩
  case rest =>
    obtain ⟨⟨k, rfl, hk⟩, hH⟩ := hcut
    rw [HM.out] at hk
    have hWf : Below w.heap.size w wc := HB0.out.trans (hH.mono (by have := HZ0.out; omega))
    have HK := Lib.hid hk
    clear hk hH HCON HS p1 p2 p3 g1 g2 g3 g1d g2d g3d
    by_cases hk0 : k = 0
    · obtain ⟨h1, h2⟩ := HK.out.1 hk0
      have HG := Lib.hid h1
      have HA : Hid ((∀ p ∈ ss, inB W H p = true) ∧ ∀ p ∈ es, inB W H p = true) := Lib.hid ⟨fun p hp => h2 p (List.mem_append.2 (.inl hp)), fun p hp => h2 p (List.mem_append.2 (.inr hp))⟩
      subst hk0
      clear h1 h2 HK
      by_cases hln : ss.length = es.length
      · have dn : ((ss.length : Int) != (es.length : Int)) = false := by simp [hln]
        by_cases h4 : 4 < ss.length
        · have d4 : decide ((4 : Int) < (ss.length : Int)) = true := decide_eq_true (by omega)
          have HN : Hid (¬ SidesOk W H bar ss es) := Lib.hid fun hh => by have := hh.2.2.2.2; omega
          have HL := Lib.hid hln
          clear hln
          go_wp2
          go_ret
          exact ⟨⟨2, rfl, fun e => absurd e (by decide), fun hh => absurd hh HN.out⟩, hWf⟩
        · have d4 : decide ((4 : Int) < (ss.length : Int)) = false := decide_eq_false (by omega)
          have HO : Hid (SidesOk W H bar ss es) := Lib.hid ⟨HG.out, HA.out.1, HA.out.2, hln, by omega⟩
          have HL := Lib.hid hln
          clear hln
          go_wp2
          go_ret
          exact ⟨⟨0, rfl, fun _ => HO.out, fun _ => rfl⟩, hWf⟩
      · have dn : ((ss.length : Int) != (es.length : Int)) = true := by simpa using (by omega : ¬ (ss.length : Int) = es.length)
        have HN : Hid (¬ SidesOk W H bar ss es) := Lib.hid fun hh => hln hh.2.2.2.1
        clear hln
        go_wp2
        go_ret
        exact ⟨⟨3, rfl, fun e => absurd e (by decide), fun hh => absurd hh HN.out⟩, hWf⟩
    · have dk : (k != 0) = true := by simpa using hk0
      have HN : Hid (k ≠ 0 ∧ ¬ SidesOk W H bar ss es) := Lib.hid ⟨hk0, fun hh => hk0 (HK.out.2 ⟨hh.1, fun p hp => (List.mem_append.1 hp).elim (hh.2.1 p) (hh.2.2.1 p)⟩)⟩
      clear HK
      go_wp2
      go_ret
      exact ⟨⟨k, rfl, fun e => absurd e HN.out.1, fun hh => absurd hh HN.out.2⟩, hWf⟩
end Go.Proofs.Ytdmpbbgcifodeaa
