/-
  paths.ordered of 0, 1, .. ; paths.Apart.
-/
import Derived.Test.YtdmpbbgcifodeaaFam3W
namespace Go.Proofs.Ytdmpbbgcifodeaa
open Go.RowKit Go.Proofs

set_option maxHeartbeats 1000000 in
theorem widx_any (wb j : Nat) (w : World) (hj : j ≤ 4) (h : ∀ i, i < j → w.cell? ⟨wb, i, none⟩ = some (.int .i64 i)) :
    Calls Try.prog 139 #[.slice (some ⟨wb, 0, none⟩) j 4, .int .i64 j] w fun e w' => e = .returned (.int .i64 (-1)) ∧ w = w' := by
  go_enter Try.func139, Try.ntmps139
  go_wp2
  go_loopw [8] (fun iv wr => ∃ i : Nat, i ≤ j ∧ iv = .int .i64 i ∧ w = wr) (fun iv _ => j - (intOf iv).toNat)
  case atStart => exact ⟨0, Nat.zero_le _, rfl, rfl⟩
  case round =>
    obtain ⟨i, hi, rfl, rfl⟩ := hrel
    by_cases hlt : i < j
    · have hc := h i hlt
      have d0 : ((j : Int) == (i : Int)) = false := by simpa using (by omega : ¬ (j : Int) = (i : Int))
      go_wp2
      go_roundw
      case rel => exact ⟨i + 1, by omega, by go_num, trivial⟩
      case measure => simp [intOf]; omega
    · go_wp2
      go_ret
      exact ⟨rfl, rfl⟩
theorem wcon_any (wb j : Nat) (w : World) (hj : j ≤ 4) (h : ∀ i, i < j → w.cell? ⟨wb, i, none⟩ = some (.int .i64 i)) :
    Calls Try.prog 107 #[.slice (some ⟨wb, 0, none⟩) j 4, .int .i64 j] w fun e w' => e = .returned (.bool false) ∧ w = w' := by
  have HX := Lib.hid (widx_any wb j w hj h)
  clear h
  go_enter Try.func107, Try.ntmps107
  go_wp2_with (first | (go_at_call 139; refine (HX.out).mono ?_; rintro e w2 ⟨rfl, rfl⟩) | fail)
  go_ret
  exact ⟨rfl, rfl⟩
set_option maxHeartbeats 1000000 in
theorem ordered_any (wb L : Nat) (w : World) (hL : L ≤ 4) (h : ∀ i, i < L → w.cell? ⟨wb, i, none⟩ = some (.int .i64 i)) :
    Calls Try.prog 70 #[.slice (some ⟨wb, 0, none⟩) L 4, .int .i64 L] w fun e w' => e = .returned (.int .i64 0) ∧ ∃ d, w' = w.drewN d := by
  go_enter Try.func70, Try.ntmps70
  go_wp2
  go_loopw [13] (fun iv wr => ∃ i : Nat, i ≤ L ∧ iv = .int .i64 i ∧ ∃ d, wr = w.drewN d) (fun iv _ => L - (intOf iv).toNat)
  case atStart => exact ⟨0, Nat.zero_le _, rfl, 0, rfl⟩
  case round =>
    obtain ⟨i, hi, rfl, d, rfl⟩ := hrel
    by_cases hlt : i < L
    · have hc := h i hlt
      have HC : Hid (∀ d', Calls Try.prog 107 #[.slice (some ⟨wb, 0, none⟩) i 4, .int .i64 i] (w.drewN d') fun e w' => e = .returned (.bool false) ∧ w.drewN d' = w') := Lib.hid fun d' => wcon_any wb i (w.drewN d') (by omega) fun k hk => h k (by omega)
      have hi4 : i ≤ 4 := by omega
      go_wp2_with (first | (go_at_call 107; refine (HC.out d).mono ?_; rintro e w2 ⟨rfl, rfl⟩) | (go_at_call 107; refine (HC.out (d + 1)).mono ?_; rintro e w2 ⟨rfl, rfl⟩) | fail)
      go_roundw
      case rel => exact ⟨i + 1, by omega, by go_num, _, rfl⟩
      case measure => simp [intOf]; omega
    · go_wp2
      go_ret
      exact ⟨rfl, _, rfl⟩

set_option maxRecDepth 100000 in
set_option maxHeartbeats 2000000 in
theorem apart_any (W H : Int) (A C D : Option Addr) (cap c2 c3 wb : Nat) (bar ss es : List (Int × Int)) (w : World) (hl : bar.length ≤ 1000000) (hcap : bar.length ≤ cap) (h : Sl w w.heap.size A (pcells bar)) (hl2 : ss.length ≤ 1000000) (h2 : Sl w w.heap.size C (pcells ss)) (hl3 : es.length ≤ 1000000) (h3 : Sl w w.heap.size D (pcells es))
    (L : Nat) (hL : L ≤ 4) (hLs : ss.length ≤ 4 → L = ss.length) (hwb : wb < w.heap.size) (hway : ∀ i, i < 4 → w.cell? ⟨wb, i, none⟩ = some (.int .i64 i)) :
    Calls Try.prog 24 #[.agg #[.int .i64 W, .int .i64 H, .slice A bar.length cap], .slice C ss.length c2, .slice D es.length c3, .slice (some ⟨wb, 0, none⟩) L 4] w fun e w' => (∃ n k : Int, e = .returned (.tuple #[.int .i64 n, .int .i64 k]) ∧
      (k = 0 → SidesOk W H bar ss es) ∧ (SidesOk W H bar ss es → ∀ W' H' : Nat, W = W' → H = H' → (1000000 < (res W' H' bar ss es 0).steps → k ≠ 0) ∧ ((res W' H' bar ss es 0).steps ≤ 1000000 → k = 0 ∧ n = (res W' H' bar ss es 0).n))) ∧ Below w.heap.size w w' := by
  obtain ⟨w0, hw0⟩ : ∃ w0, w0 = w.alloc (.cells #[.int .i64 W, .int .i64 H, .slice A bar.length cap] 43) := ⟨_, rfl⟩
  have hb0 : Below w.heap.size w w0 := by rw [hw0]; exact (Below.refl _ _).alloc (Nat.le_refl _) _
  have g1 : w0.cell? ⟨w.heap.size, 0, none⟩ = some (.int .i64 W) := by rw [hw0, World.cell?_alloc_at _ _ _ _ rfl]; rfl
  have g2 : w0.cell? ⟨w.heap.size, 1, none⟩ = some (.int .i64 H) := by rw [hw0, World.cell?_alloc_at _ _ _ _ rfl]; rfl
  have g3 : w0.cell? ⟨w.heap.size, 2, none⟩ = some (.slice A bar.length cap) := by rw [hw0, World.cell?_alloc_at _ _ _ _ rfl]; rfl
  have hsid := sides_any W H A C D cap c2 c3 bar ss es w0 hl hcap (h.keep hb0) hl2 (h2.keep hb0) hl3 (h3.keep hb0)
  have HSID := Lib.hid hsid
  have HB0 := Lib.hid hb0
  have HS := Lib.hid h
  have HS2 := Lib.hid h2
  have HS3 := Lib.hid h3
  have HWAY := Lib.hid hway
  have HLS := Lib.hid hLs
  go_enter Try.func24, Try.ntmps24
  go_upto_region 1 with fail
  rw [← hw0]
  clear hw0 hb0 hsid h h2 h3 hway hLs
  go_upto_region 2 with (first | (go_at_call 67; refine (HSID.out).mono ?_; rintro e w2 ⟨⟨k, rfl, hk⟩, hb2⟩; have HK := Lib.hid hk; have HB2 := Lib.hid hb2; clear hk hb2) | fail)
  by_cases hk0 : k = 0
  · subst hk0
    have hok := HK.out.1 rfl
    obtain ⟨W, H, rfl, rfl, _⟩ := grid_nat hok
    have hLe : L = ss.length := HLS.out hok.2.2.2.2
    subst hLe
    have m1 := cell_keep HB2.out g1
    have m2 := cell_keep HB2.out g2
    have m3 := cell_keep HB2.out g3
    have hbt : Below w.heap.size w w2 := HB0.out.trans (HB2.out.mono HB0.out.size)
    have hwy : ∀ i, i < 4 → w2.cell? ⟨wb, i, none⟩ = some (.int .i64 i) := fun i hi => cell_keep hbt (HWAY.out i hi)
    have HORD := Lib.hid (ordered_any wb ss.length w2 hL fun i hi => hwy i (by omega))
    have HBT := Lib.hid hbt
    have HWY := Lib.hid hwy
    have HOK := Lib.hid hok
    clear HK hok g1 g2 g3 hbt HSID HB0 HB2 hwy
    obtain ⟨N, hN⟩ : ∃ N, N = w.heap.size := ⟨_, rfl⟩
    rw [← hN] at m1 m2 m3 hwb ⊢
    have HN := Lib.hid hN
    clear hN
    have HOP : Hid (∀ w', Below w2.heap.size w2 w' → Calls Try.prog 68 #[.agg #[.int .i64 W, .int .i64 H, .slice A bar.length cap]] w' fun e w'' => ∃ G, e = .returned (.slice (some ⟨G, 0, none⟩) (W * H) (W * H)) ∧ w''.ownsRow w'.heap.size 4 1 (.slice (some ⟨G, 0, none⟩) (W * H) (W * H)) (W * H) (bools (openF W H bar)) ∧ Below w'.heap.size w' w'') := Lib.hid fun w' hw' =>
      open_any W H A cap bar w' HOK.out.1 hl ((HS.out.keep HBT.out).keep hw')
    obtain ⟨n, hn⟩ : ∃ n, n = W * H := ⟨_, rfl⟩
    rw [← hn] at HOP
    have HNN := Lib.hid hn
    clear hn
    go_upto_region 7 with (first | (go_at_call 70; refine (HORD.out).mono ?_; rintro e w3 ⟨rfl, d3, rfl⟩) | fail)
    obtain ⟨w3, hw3⟩ : ∃ w3, w3 = w2.drewN d3 := ⟨_, rfl⟩
    have hb3 : Below w2.heap.size w2 w3 := by rw [hw3]; exact below_drewN (Below.refl _ _) _
    have hz3 : w3.heap.size = w2.heap.size := by rw [hw3]; rfl
    rw [← hw3]
    have m1 := cell_keep hb3 m1
    have m2 := cell_keep hb3 m2
    have m3 := cell_keep hb3 m3
    have hbd : Below w2.heap.size w2 w3.drew := below_drewN hb3 1
    have m1d : w3.drew.cell? ⟨N, 0, none⟩ = some (.int .i64 W) := m1
    have m2d : w3.drew.cell? ⟨N, 1, none⟩ = some (.int .i64 H) := m2
    have m3d : w3.drew.cell? ⟨N, 2, none⟩ = some (.slice A bar.length cap) := m3
    clear hw3
    go_cut [12] (fun pv wz => ∃ b G, pv = .pointer (some ⟨b, 0, none⟩) ∧ FamR wz N (kOf W H (.slice A bar.length cap) C D c2 c3 ss es wb ss.length 4 G 0 b) (.slice none 0 0) (.slice none 0 0) (st0 W H bar) ∧ Below N w2 wz)
    case first =>
      go_wp2
      go_region_held3 (fun w' => w'.cell? ⟨N, 0, none⟩ = some (.int .i64 W) ∧ w'.cell? ⟨N, 1, none⟩ = some (.int .i64 H) ∧ w'.cell? ⟨N, 2, none⟩ = some (.slice A bar.length cap))
        (first | with_reducible exact ⟨m1d, m2d, m3d⟩ | with_reducible exact ⟨q1, q2, q3⟩ | with_reducible exact ⟨cell_keep ((Below.refl _ _).alloc (Nat.le_refl _) _) q1, cell_keep ((Below.refl _ _).alloc (Nat.le_refl _) _) q2, cell_keep ((Below.refl _ _).alloc (Nat.le_refl _) _) q3⟩)
        (first | (go_at_call 68; refine (HOP.out _ hbd).mono ?_; rintro e w9 ⟨G, rfl, ho9, hb9⟩; have q1 := cell_keep hb9 m1d; have q2 := cell_keep hb9 m2d; have q3 := cell_keep hb9 m3d; have HO9 := Lib.hid ho9; have HB9 := Lib.hid hb9; clear ho9 hb9) | fail)
      all_goals
        go_wp2
        go_meet
        have hz : w.heap.size ≤ w2.heap.size := HBT.out.size
        have h9 := HB9.out.size
        have hz2 : w3.drew.heap.size = w2.heap.size := hz3
        have hbel2 : Below w.heap.size w2 w9 := (hbd.mono hz).trans (HB9.out.mono (by omega))
        have hbel : Below w.heap.size w w9 := HBT.out.trans hbel2
        have hlt := HO9.out.lt G rfl
        have ho := HO9.out
        have hN := HN.out
        rw [HNN.out] at ho ⊢
        refine ⟨w9.heap.size, G, rfl, famMk (B := N) (K := kOf W H (.slice A bar.length cap) C D c2 c3 ss es wb ss.length 4 G 0 w9.heap.size) W H bar (by omega) rfl (ho.mono (by omega)) ?_ ?_ ?_ (by show wb < _; omega) (by show wb ≠ G; omega), ?_⟩
        · rw [hN]; exact HS2.out.below hbel
        · rw [hN]; exact HS3.out.below hbel
        · intro i hi
          have hi4 : i < ss.length := hi
          exact cell_keep HB9.out (cell_keep (below_drewN (Below.refl _ _) 1) (cell_keep hb3 (HWY.out i (by omega))))
        · rw [hN]
          exact hbel2.trans ((Below.refl _ _).alloc (by omega) _)
    case rest =>
      obtain ⟨b, G, rfl, hF, hbz⟩ := hcut
      have hcall : Calls Try.prog 69 #[.pointer (some ⟨b, 0, none⟩), .int .i64 0] wc fun e w' => Post (kOf W H (.slice A bar.length cap) C D c2 c3 ss es wb ss.length 4 G 0 b) N (.slice none 0 0) wc (run ⟨W, ss, es, 0⟩ 400 (.next 0) (st0 W H bar)) e w' :=
        (both_any (kOk_of HOK.out (.slice A bar.length cap) C D c2 c3 wb ss.length 4 G 0 b (Nat.le_refl _) hL (Nat.zero_le _)) 400).2 0 (st0 W H bar) _ _ wc hF ⟨Nat.zero_le _, Nat.le_refl _⟩ (openF_len W H bar) rfl (Nat.zero_le _) (by have := HOK.out.2.2.2.2; show (ss.length - 0) * 80 + 60 ≤ 400; omega)
      obtain ⟨r, hr⟩ : ∃ r, r = run ⟨W, ss, es, 0⟩ 400 (.next 0) (st0 W H bar) := ⟨_, rfl⟩
      have hres : res W H bar ss es 0 = r.2 := by rw [hr]; rfl
      rw [← hr] at hcall
      have HCALL := Lib.hid hcall
      have HRES := Lib.hid hres
      have HBZ := Lib.hid hbz
      have HFC := Lib.hid hF
      clear hF hbz hcall hr hres m1 m2 m3 m1d m2d m3d HOP hbd hb3 HORD
      go_upto_region 9 with (first | (go_at_call 69; refine (HCALL.out).mono ?_; rintro e w10 ⟨rfl, v10, uu, hF10, hB10⟩; have HF10 := Lib.hid hF10; have HB10 := Lib.hid hB10; clear hF10 hB10) | fail)
      have p10 : w10.cell? ⟨b, 10, none⟩ = some (.int .i64 r.2.n) := HF10.out.cell (k := 10) rfl
      have p11 : w10.cell? ⟨b, 11, none⟩ = some (.int .i64 r.2.steps) := HF10.out.cell (k := 11) rfl
      have hwf : Below w.heap.size w w10 := HBT.out.trans ((by rw [← HN.out]; exact HBZ.out.trans HB10.out.bel))
      have HWF := Lib.hid hwf
      clear hwf
      by_cases hs : 1000000 < r.2.steps
      · have ds : decide ((1000000 : Int) < (r.2.steps : Int)) = true := decide_eq_true (by omega)
        have HST := Lib.hid hs
        go_wp2
        go_ret2
        refine ⟨⟨0, 2, rfl, fun e => absurd e (by decide), fun _ W' H' e1 e2 => ?_⟩, HWF.out⟩
        obtain rfl : W = W' := by omega
        obtain rfl : H = H' := by omega
        rw [HRES.out]
        exact ⟨fun _ => by decide, fun hh => absurd hh (by have := HST.out; omega)⟩
      · have ds : decide ((1000000 : Int) < (r.2.steps : Int)) = false := decide_eq_false (by omega)
        have HST := Lib.hid hs
        go_wp2
        go_ret2
        refine ⟨⟨r.2.n, 0, rfl, fun _ => HOK.out, fun _ W' H' e1 e2 => ?_⟩, HWF.out⟩
        obtain rfl : W = W' := by omega
        obtain rfl : H = H' := by omega
        rw [HRES.out]
        exact ⟨fun hh => absurd hh HST.out, fun _ => ⟨rfl, rfl⟩⟩
  · have dk : (k != 0) = true := by simpa using hk0
    have HNK := Lib.hid hk0
    have hbt : Below w.heap.size w w2 := HB0.out.trans (HB2.out.mono HB0.out.size)
    go_wp2
    go_ret2
    exact ⟨⟨0, k, rfl, fun e => absurd e HNK.out, fun hh => absurd (HK.out.2 hh) HNK.out⟩, hbt⟩
end Go.Proofs.Ytdmpbbgcifodeaa
