/-
  ferkeep.PathsFirst: the walk.
-/
import Derived.Test.YtdmpbbgcifodeaaFamT
namespace Go.Proofs.Ytdmpbbgcifodeaa
open Go.RowKit Go.Proofs

/-- First of the smallest grid. -/
theorem lit_any (w : World) (b1 b2 : Nat) (h1 : w.cell? ⟨b1, 0, none⟩ = some (.int .i64 0)) (h2 : w.cell? ⟨b1, 1, none⟩ = some (.int .i64 0)) (h3 : w.cell? ⟨b2, 0, none⟩ = some (.int .i64 1)) (h4 : w.cell? ⟨b2, 1, none⟩ = some (.int .i64 0)) :
    Calls Try.prog 22 #[.agg #[.int .i64 2, .int .i64 1, .slice none 0 0], .slice (some ⟨b1, 0, none⟩) 1 1, .slice (some ⟨b2, 0, none⟩) 1 1] w fun e w' => (∃ g c, e = .returned (.tuple #[.slice (some ⟨g, 0, none⟩) 1 c, .int .i64 0]) ∧ w'.cell? ⟨g, 0, none⟩ = some (.string ⟨#[82]⟩)) ∧ Below w.heap.size w w' := by
  have hs1 : Sl w w.heap.size (some ⟨b1, 0, none⟩) (pcells [(0, 0)]) := fun _ => ⟨b1, 0, rfl, World.block_lt_of_cell? w _ h1, fun k u hk => by
    match k, hk with
    | 0, hk => obtain rfl := Option.some.inj hk; exact h1
    | 1, hk => obtain rfl := Option.some.inj hk; exact h2
    | k + 2, hk => exact absurd hk (by simp [pcells])⟩
  have hs2 : Sl w w.heap.size (some ⟨b2, 0, none⟩) (pcells [(1, 0)]) := fun _ => ⟨b2, 0, rfl, World.block_lt_of_cell? w _ h3, fun k u hk => by
    match k, hk with
    | 0, hk => obtain rfl := Option.some.inj hk; exact h3
    | 1, hk => obtain rfl := Option.some.inj hk; exact h4
    | k + 2, hk => exact absurd hk (by simp [pcells])⟩
  refine (first_any 2 1 none (some ⟨b1, 0, none⟩) (some ⟨b2, 0, none⟩) 0 1 1 [] [(0, 0)] [(1, 0)] w (by decide) (by decide) (fun hp => absurd hp (by decide)) (by decide) hs1 (by decide) hs2).mono ?_
  rintro e w' ⟨⟨v, k, ps, rfl, ho, hk0, hk1⟩, hb⟩
  have e0 : k = 0 := by
    by_cases h : k = 0
    · exact h
    · have := (hk1 h).2 lit_sides 2 1 rfl rfl
      rw [lit_res.1] at this
      cases this
  have eps : ps = [[82]] := by rw [((hk0 e0).2 2 1 rfl rfl).2, lit_res.2]
  subst e0 eps
  rcases ho.2 with ⟨_, e⟩ | ⟨g, c, cur, rfl, _⟩
  · cases e
  · refine ⟨⟨g, c, rfl, ?_⟩, hb⟩
    exact ho.cellAt 0 (by decide)

theorem fz_same {w w' : World} {b j : Nat} (hk : w'.heap[b]? = w.heap[b]?) (h : w.frozen? ⟨b, j, none⟩ = false) : w'.frozen? ⟨b, j, none⟩ = false := by
  unfold World.frozen? at h ⊢
  rw [hk]; exact h
set_option maxRecDepth 100000 in
set_option maxHeartbeats 2000000 in
theorem law_any (W H : Int) (A C D : Option Addr) (cap c2 c3 : Nat) (bar ss es : List (Int × Int)) (w : World) (hl : bar.length ≤ 1000000) (hcap : bar.length ≤ cap) (h : Sl w w.heap.size A (pcells bar)) (hl2 : ss.length ≤ 1000000) (h2 : Sl w w.heap.size C (pcells ss)) (hl3 : es.length ≤ 1000000) (h3 : Sl w w.heap.size D (pcells es)) :
    Calls Try.prog 6 #[.agg #[.int .i64 W, .int .i64 H, .slice A bar.length cap], .slice C ss.length c2, .slice D es.length c3] w fun e w' => e = .returned (.bool true) ∧ Below w.heap.size w w' := by
  obtain ⟨w0, hw0⟩ : ∃ w0, w0 = w.alloc (.cells #[.int .i64 W, .int .i64 H, .slice A bar.length cap] 43) := ⟨_, rfl⟩
  have hb0 : Below w.heap.size w w0 := by rw [hw0]; exact (Below.refl _ _).alloc (Nat.le_refl _) _
  have g1 : w0.cell? ⟨w.heap.size, 0, none⟩ = some (.int .i64 W) := by rw [hw0, World.cell?_alloc_at _ _ _ _ rfl]; rfl
  have g2 : w0.cell? ⟨w.heap.size, 1, none⟩ = some (.int .i64 H) := by rw [hw0, World.cell?_alloc_at _ _ _ _ rfl]; rfl
  have g3 : w0.cell? ⟨w.heap.size, 2, none⟩ = some (.slice A bar.length cap) := by rw [hw0, World.cell?_alloc_at _ _ _ _ rfl]; rfl
  obtain ⟨wa, hwa⟩ : ∃ wa, wa = w0.alloc (.cells #[.int .i64 0, .int .i64 0] 48) := ⟨_, rfl⟩
  have hba : Below w0.heap.size w0 wa := by rw [hwa]; exact (Below.refl _ _).alloc (Nat.le_refl _) _
  have hza : wa.heap.size = w0.heap.size + 1 := by rw [hwa]; simp
  have b1 : wa.cell? ⟨w0.heap.size, 0, none⟩ = some (.int .i64 0) := by rw [hwa, World.cell?_alloc_at _ _ _ _ rfl]; rfl
  have b2 : wa.cell? ⟨w0.heap.size, 1, none⟩ = some (.int .i64 0) := by rw [hwa, World.cell?_alloc_at _ _ _ _ rfl]; rfl
  obtain ⟨wb, hwb⟩ : ∃ wb, wb = wa.alloc (.cells #[.int .i64 1, .int .i64 0] 48) := ⟨_, rfl⟩
  have hbb : Below wa.heap.size wa wb := by rw [hwb]; exact (Below.refl _ _).alloc (Nat.le_refl _) _
  have b3 : wb.cell? ⟨wa.heap.size, 0, none⟩ = some (.int .i64 1) := by rw [hwb, World.cell?_alloc_at _ _ _ _ rfl]; rfl
  have b4 : wb.cell? ⟨wa.heap.size, 1, none⟩ = some (.int .i64 0) := by rw [hwb, World.cell?_alloc_at _ _ _ _ rfl]; rfl
  have hlit := lit_any wb w0.heap.size wa.heap.size (cell_keep hbb b1) (cell_keep hbb b2) b3 b4
  rw [hza] at hlit
  have hbw : Below w.heap.size w wb := hb0.trans ((hba.trans (hbb.mono hba.size)).mono hb0.size)
  have HLIT := Lib.hid hlit
  have HBW := Lib.hid hbw
  have HB0 := Lib.hid hb0
  have k1 := cell_keep hbb (cell_keep hba g1)
  have k2 := cell_keep hbb (cell_keep hba g2)
  have k3 := cell_keep hbb (cell_keep hba g3)
  have HFIRST : Hid (∀ w', Below w.heap.size w w' → Calls Try.prog 22 #[.agg #[.int .i64 W, .int .i64 H, .slice A bar.length cap], .slice C ss.length c2, .slice D es.length c3] w' fun e w'' => (∃ (v : Value) (k : Int) (ps : List (List UInt8)), e = .returned (.tuple #[v, .int .i64 k]) ∧ w''.ownsRow w'.heap.size 9 1 v ps.length (strs ps) ∧
      (k = 0 → SidesOk W H bar ss es ∧ ∀ W' H' : Nat, W = W' → H = H' → (res W' H' bar ss es 1).n ≠ 0 ∧ ps = (res W' H' bar ss es 1).first) ∧
      (k ≠ 0 → ps = [] ∧ (SidesOk W H bar ss es → ∀ W' H' : Nat, W = W' → H = H' → (res W' H' bar ss es 1).n = 0))) ∧ Below w'.heap.size w' w'') := Lib.hid fun w' hw' => first_any W H A C D cap c2 c3 bar ss es w' hl hcap (h.keep hw') hl2 (h2.keep hw') hl3 (h3.keep hw')
  have HAPART : Hid (∀ w' wy L, Below w.heap.size w w' → L ≤ 4 → (ss.length ≤ 4 → L = ss.length) → wy < w'.heap.size → (∀ i, i < 4 → w'.cell? ⟨wy, i, none⟩ = some (.int .i64 i)) → Calls Try.prog 24 #[.agg #[.int .i64 W, .int .i64 H, .slice A bar.length cap], .slice C ss.length c2, .slice D es.length c3, .slice (some ⟨wy, 0, none⟩) L 4] w' fun e w'' => (∃ n k : Int, e = .returned (.tuple #[.int .i64 n, .int .i64 k]) ∧
      (k = 0 → SidesOk W H bar ss es) ∧ (SidesOk W H bar ss es → ∀ W' H' : Nat, W = W' → H = H' → (1000000 < (res W' H' bar ss es 0).steps → k ≠ 0) ∧ ((res W' H' bar ss es 0).steps ≤ 1000000 → k = 0 ∧ n = (res W' H' bar ss es 0).n))) ∧ Below w'.heap.size w' w'') :=
    Lib.hid fun w' wy L hw' a1 a2 a3 a4 => apart_any W H A C D cap c2 c3 wy bar ss es w' hl hcap (h.keep hw') hl2 (h2.keep hw') hl3 (h3.keep hw') L a1 a2 a3 a4
  have HS := Lib.hid h
  have HS2 := Lib.hid h2
  have HS3 := Lib.hid h3
  go_enter Try.func6, Try.ntmps6
  go_upto_region 1 with fail
  rw [← hw0]
  rw [hwb, hwa] at HLIT
  clear hw0 hb0 g1 g2 g3 hba hza b1 b2 hbb b3 b4 hlit hbw h h2 h3
  go_upto_region 2 with (first | (go_at_call 22; refine (HLIT.out).mono ?_; rintro e w2 ⟨⟨g, c, rfl, hg⟩, hb2⟩; rw [← hwa, ← hwb] at hb2; have HB2 := Lib.hid hb2; clear hb2) | fail)
  have k1 := cell_keep HB2.out k1
  have k2 := cell_keep HB2.out k2
  have k3 := cell_keep HB2.out k3
  have hbt : Below w.heap.size w w2 := HBW.out.trans (HB2.out.mono HBW.out.size)
  clear HBW HB2 HLIT hwa hwb HB0
  obtain ⟨wq, hwq⟩ : ∃ wq, wq = w2.alloc (.cells #[.string { data := #[82] }] 9) := ⟨_, rfl⟩
  have hbq : Below w2.heap.size w2 wq := by rw [hwq]; exact (Below.refl _ _).alloc (Nat.le_refl _) _
  have hq : wq.cell? ⟨w2.heap.size, 0, none⟩ = some (.string { data := #[82] }) := by rw [hwq, World.cell?_alloc_at _ _ _ _ rfl]; rfl
  have hsame := same1_any g w2.heap.size c 1 wq (cell_keep hbq hg) hq
  have k1 := cell_keep hbq k1
  have k2 := cell_keep hbq k2
  have k3 := cell_keep hbq k3
  have hbt : Below w.heap.size w wq := hbt.trans (hbq.mono hbt.size)
  rw [hwq] at hsame
  have HSAME := Lib.hid hsame
  have HBT := Lib.hid hbt
  clear hsame hbt hbq hq
  go_upto_region 4 with (first | (go_at_call 23; refine (HSAME.out).mono ?_; rintro e w3 ⟨rfl, d3, rfl⟩) | fail)
  rw [← hwq]
  obtain ⟨w3, hw3⟩ : ∃ w3, w3 = wq.drewN d3 := ⟨_, rfl⟩
  have hb3 : Below wq.heap.size wq w3 := by rw [hw3]; exact below_drewN (Below.refl _ _) _
  rw [← hw3]
  have k1 := cell_keep hb3 k1
  have k2 := cell_keep hb3 k2
  have k3 := cell_keep hb3 k3
  have hbt : Below w.heap.size w w3 := HBT.out.trans (hb3.mono HBT.out.size)
  have hfst := HFIRST.out w3 hbt
  have HFST := Lib.hid hfst
  have HBT3 := Lib.hid hbt
  clear hw3 hb3 hfst hbt HSAME HBT hwq HFIRST hg
  go_upto_region 5 with (first | (go_at_call 22; refine (HFST.out).mono ?_; rintro e w4 ⟨⟨v, k, ps, rfl, ho, hk0, hk1⟩, hb4⟩; obtain ⟨P, cP, rfl, _, hP, _⟩ := ssl_of_own ho; have HP := Lib.hid hP; have HK0 := Lib.hid hk0; have HK1 := Lib.hid hk1; have HB4 := Lib.hid hb4; clear ho hk0 hk1 hb4 hP) | fail)
  have k1 := cell_keep HB4.out k1
  have k2 := cell_keep HB4.out k2
  have k3 := cell_keep HB4.out k3
  have hbt : Below w.heap.size w w4 := HBT3.out.trans (HB4.out.mono HBT3.out.size)
  obtain ⟨w5, hw5⟩ : ∃ w5, w5 = w4.alloc (.cells #[.int .i64 0, .int .i64 1, .int .i64 2, .int .i64 3] 3) := ⟨_, rfl⟩
  have hb5 : Below w4.heap.size w4 w5 := by rw [hw5]; exact (Below.refl _ _).alloc (Nat.le_refl _) _
  have hz5 : w5.heap.size = w4.heap.size + 1 := by rw [hw5]; simp
  have k1 := cell_keep hb5 k1
  have k2 := cell_keep hb5 k2
  have k3 := cell_keep hb5 k3
  have hbt : Below w.heap.size w w5 := hbt.trans (hb5.mono hbt.size)
  have hway : ∀ i, i < 4 → w5.cell? ⟨w4.heap.size, i, none⟩ = some (.int .i64 i) := fun i hi4 => by
    rw [hw5, World.cell?_alloc_at _ _ _ _ rfl]
    match i, hi4 with
    | 0, _ => rfl
    | 1, _ => rfl
    | 2, _ => rfl
    | 3, _ => rfl
  have HP5 := Lib.hid (HP.out.keep hb5)
  obtain ⟨wy, hwy⟩ : ∃ wy, wy = w4.heap.size := ⟨_, rfl⟩
  go_upto_region 6 with fail
  rw [← hw5, ← hwy]
  rw [← hwy] at hway hz5
  obtain ⟨L, hL⟩ : ∃ L : Nat, L = if ss.length ≤ 4 then ss.length else 4 := ⟨_, rfl⟩
  have hL4 : L ≤ 4 := by rw [hL]; split <;> omega
  have hLs : ss.length ≤ 4 → L = ss.length := fun hh => by rw [hL, if_pos hh]
  have hap : Hid (∀ w', Below w5.heap.size w5 w' → Calls Try.prog 24 #[.agg #[.int .i64 W, .int .i64 H, .slice A bar.length cap], .slice C ss.length c2, .slice D es.length c3, .slice (some ⟨wy, 0, none⟩) L 4] w' fun e w'' => (∃ n k : Int, e = .returned (.tuple #[.int .i64 n, .int .i64 k]) ∧
      (k = 0 → SidesOk W H bar ss es) ∧ (SidesOk W H bar ss es → ∀ W' H' : Nat, W = W' → H = H' → (1000000 < (res W' H' bar ss es 0).steps → k ≠ 0) ∧ ((res W' H' bar ss es 0).steps ≤ 1000000 → k = 0 ∧ n = (res W' H' bar ss es 0).n))) ∧ Below w'.heap.size w' w'') :=
    Lib.hid fun w' hw' => HAPART.out w' wy L (hbt.trans (hw'.mono hbt.size)) hL4 hLs (by have := hw'.size; omega) (fun i hi => cell_keep hw' (hway i hi))
  have HAP := hap
  have HBT5 := Lib.hid hbt
  clear hw5 hbt hb5 HB4 HBT3 HFST hwy hap HAPART hway hz5
  have hbd : Below w5.heap.size w5 w5.drew := below_drewN (Below.refl _ _) 1
  have hmin : min (4 : Int) (ss.length : Int) = (L : Int) := by rw [hL]; split <;> omega
  go_cut [12, 13] (fun nv kv wz => ∃ n k' : Int, nv = .int .i64 n ∧ kv = .int .i64 k' ∧ (k' = 0 → SidesOk W H bar ss es) ∧ (SidesOk W H bar ss es → ∀ W' H' : Nat, W = W' → H = H' → (1000000 < (res W' H' bar ss es 0).steps → k' ≠ 0) ∧ ((res W' H' bar ss es 0).steps ≤ 1000000 → k' = 0 ∧ n = (res W' H' bar ss es 0).n)) ∧ Below w5.heap.size w5 wz)
  case first =>
    have k1d : w5.drew.cell? ⟨w.heap.size, 0, none⟩ = some (.int .i64 W) := k1
    have k2d : w5.drew.cell? ⟨w.heap.size, 1, none⟩ = some (.int .i64 H) := k2
    have k3d : w5.drew.cell? ⟨w.heap.size, 2, none⟩ = some (.slice A bar.length cap) := k3
    have hm1 : (0 : Int) ≤ min 4 (ss.length : Int) := by omega
    have hm2 : min 4 (ss.length : Int) ≤ 4 := by omega
    have eL : L = (min 4 (ss.length : Int)).toNat := by rw [hL]; split <;> omega
    rw [eL] at HAP
    clear hL hmin hLs eL hL4
    go_wp2
    go_region_held3 (fun w' => w'.cell? ⟨w.heap.size, 0, none⟩ = some (.int .i64 W) ∧ w'.cell? ⟨w.heap.size, 1, none⟩ = some (.int .i64 H) ∧ w'.cell? ⟨w.heap.size, 2, none⟩ = some (.slice A bar.length cap))
      (first | with_reducible exact ⟨k1d, k2d, k3d⟩ | with_reducible exact ⟨q1, q2, q3⟩)
      (first | (go_at_call 24; refine (HAP.out _ hbd).mono ?_; rintro e w9 ⟨⟨n, k', rfl, ha1, ha2⟩, hb9⟩; have q1 := cell_keep hb9 k1d; have q2 := cell_keep hb9 k2d; have q3 := cell_keep hb9 k3d; have HA1 := Lib.hid ha1; have HA2 := Lib.hid ha2; have HB9 := Lib.hid hb9; clear ha1 ha2 hb9) | fail)
    all_goals
      go_wp2
      go_meet
      exact ⟨n, k', rfl, rfl, HA1.out, HA2.out, hbd.trans (HB9.out.mono (Nat.le_refl _))⟩
  case rest =>
    obtain ⟨n, k', rfl, rfl, ha1, ha2, hb9⟩ := hcut
    have k1 := cell_keep hb9 k1
    have k2 := cell_keep hb9 k2
    have k3 := cell_keep hb9 k3
    have hbt : Below w.heap.size w wc := HBT5.out.trans (hb9.mono HBT5.out.size)
    have hp := HP5.out.keep hb9
    have HP := Lib.hid hp
    have HBT := Lib.hid hbt
    have HA1 := Lib.hid ha1
    have HA2 := Lib.hid ha2
    clear hp hbt ha1 ha2 hb9 HP5 HBT5 HAP hbd hL hmin hLs
    by_cases hk : k = 0
    · subst hk
      obtain ⟨hok, hall⟩ := HK0.out rfl
      obtain ⟨W, H, rfl, rfl, _⟩ := grid_nat hok
      obtain ⟨hn1, hps⟩ := hall W H rfl rfl
      have hfam := res_fam (most := 1) hok hn1
      rw [← hps] at hfam
      have hn0 := res_some hn1
      have hkn : (k' == 0) = false ∨ (k' = 0 ∧ (n == 0) = false) := by
        by_cases hk' : k' = 0
        · refine .inr ⟨hk', ?_⟩
          have h5 := HA2.out hok W H rfl rfl
          have h6 := (h5.2 (by
            by_cases hs : 1000000 < (res W H bar ss es 0).steps
            · exact absurd hk' (h5.1 hs)
            · omega)).2
          rw [h6]
          simpa using hn0
        · exact .inl (by simpa using hk')
      have hlen : ps.length = ss.length := hfam.1
      have HOK := Lib.hid hok
      have HFAM := Lib.hid hfam
      have HLEN := Lib.hid hlen
      clear hall hn1 hps hn0 HK0 HK1 HA1 HA2 hok hfam
      go_upto_region 9 with fail
      go_cut [81] (fun bv wz => bv = .bool false ∧ wc = wz)
      case first =>
        have dl : ((ps.length : Int) != (ss.length : Int)) = false := by simp [hlen]
        clear hlen
        rcases hkn with h1 | ⟨rfl, h1⟩
        · go_wp2
          go_meet
          exact ⟨rfl, rfl⟩
        · go_wp2
          go_meet
          exact ⟨rfl, rfl⟩
      case rest =>
      obtain ⟨rfl, rfl⟩ := hcut
      clear hkn hlen
      have hcl := pclone_any A cap bar wc hl (HS.out.keep HBT.out)
      have HCL := Lib.hid hcl
      clear hcl
      go_upto_region 12 with (first | (go_at_call 25; refine (HCL.out).mono ?_; rintro e w6 ⟨v6, rfl, ho6, hb6⟩; have HO6 := Lib.hid ho6; have HB6 := Lib.hid hb6; clear ho6 hb6) | fail)
      have ho0 : w6.ownsRow wc.heap.size 48 2 v6 (takenT ss bar ps 0 0).length (pcells (takenT ss bar ps 0 0)) := by rw [takenT_zero]; exact HO6.out
      have HO0 := Lib.hid ho0
      have hW8 : W ≤ 8 ∧ H ≤ 8 := by have := HOK.out.1.1; omega
      have h4 : ps.length ≤ 4 := by have := HOK.out.2.2.2.2; have := HLEN.out; omega
      obtain ⟨Z, hZ⟩ : ∃ Z, Z = wc.heap.size := ⟨_, rfl⟩
      rw [← hZ] at HO0 HB6
      have HZ := Lib.hid hZ
      clear hZ HCL HO6 ho0
      go_wp2
      go_loopw [14, 87] (fun tv0 iv wr => ∃ (i : Nat) (tv : Value), i ≤ ps.length ∧ iv = .int .i64 i ∧ tv = tv0 ∧ wr.ownsRow Z 48 2 tv (takenT ss bar ps i 0).length (pcells (takenT ss bar ps i 0)) ∧ Below Z wc wr) (fun _ iv _ => ps.length - (intOf iv).toNat)
      case atStart => exact ⟨0, _, Nat.zero_le _, rfl, rfl, HO0.out, HB6.out⟩
      case round =>
        obtain ⟨i, tv, hi, rfl, rfl, ho, hbw⟩ := hrel
        clear HO0 HB6
        have HO := Lib.hid ho
        have HBR := Lib.hid hbw
        clear ho
        have hheld : Below wc.heap.size wc wr := by rw [← HZ.out]; exact hbw
        have r1 := cell_keep hheld k1
        have r2 := cell_keep hheld k2
        have r3 := cell_keep hheld k3
        have hbt : Below w.heap.size w wr := HBT.out.trans (hheld.mono HBT.out.size)
        by_cases hlt : i < ps.length
        · have his : i < ss.length := by have := HLEN.out; omega
          have hie : i < es.length := by have := HOK.out.2.2.2.1; omega
          obtain ⟨pb, po, rfl, _, hpc⟩ := HP.out.keep hheld (by rw [strs_length]; omega)
          have hpi := hpc i (.string ⟨(ps.getD i []).toArray⟩) (by rw [strs, List.getElem?_map, List.getElem?_eq_getElem hlt, getD_get hlt]; rfl)
          have hs2 := HS2.out.keep hbt
          obtain ⟨sb, so, rfl, _⟩ := psl_addr hs2 (by omega)
          obtain ⟨s7, s8⟩ := psl_at hs2 his
          have hs3 := HS3.out.keep hbt
          obtain ⟨eb, eo, rfl, _⟩ := psl_addr hs3 (by omega)
          have HE3 := Lib.hid hs3
          obtain ⟨path, hpath⟩ : ∃ path, path = ps.getD i [] := ⟨_, rfl⟩
          have hpl : path.length ≤ 20 := by rw [hpath]; exact fam_len HFAM.out hW8.1 hW8.2 hlt
          rw [← hpath] at hpi
          have HPATH := Lib.hid hpath
          clear hpath hs2 hs3 hpc
          obtain ⟨sx, hsx⟩ : ∃ sx, sx = (ss.getD i (0, 0)).1 := ⟨_, rfl⟩
          obtain ⟨sy, hsy⟩ : ∃ sy, sy = (ss.getD i (0, 0)).2 := ⟨_, rfl⟩
          rw [← hsx] at s7
          rw [← hsy] at s8
          have HSX := Lib.hid hsx
          have HSY := Lib.hid hsy
          clear hsx hsy
          go_upto_region 16 with fail
          obtain ⟨w7, hw7⟩ : ∃ w7, w7 = wr.alloc (.cells #[.int .i64 sx, .int .i64 sy] 48) := ⟨_, rfl⟩
          have hb7 : Below wr.heap.size wr w7 := by rw [hw7]; exact (Below.refl _ _).alloc (Nat.le_refl _) _
          have n1 : w7.cell? ⟨wr.heap.size, 0, none⟩ = some (.int .i64 sx) := by rw [hw7, World.cell?_alloc_at _ _ _ _ rfl]; rfl
          have n2 : w7.cell? ⟨wr.heap.size, 1, none⟩ = some (.int .i64 sy) := by rw [hw7, World.cell?_alloc_at _ _ _ _ rfl]; rfl
          have fz7 : ∀ j, w7.frozen? ⟨wr.heap.size, j, none⟩ = false := fun j => by rw [hw7, World.frozen?_alloc_at _ _ _ _ rfl]
          rw [← hw7]
          obtain ⟨M, hM⟩ : ∃ M, M = wr.heap.size := ⟨_, rfl⟩
          have hnM : ∀ k, tv.ownBlock = some k → k ≠ M := fun k hk => by have := (HO.out.lt k hk).2; omega
          have hZM : Z ≤ M := by rw [hM, HZ.out]; exact hheld.size
          have ho7 : w7.ownsRow Z 48 2 tv (takenT ss bar ps i 0).length (pcells (takenT ss bar ps i 0)) := own_sameG HO.out (fun k hk => hb7.block k (HO.out.lt k hk).2)
          have hb7' : Below Z wc w7 := hbw.trans (hb7.mono (by rw [← hM]; exact hZM))
          rw [← hM] at n1 n2 fz7 ⊢
          have HFZ7 := Lib.hid fz7
          have HN1 := Lib.hid n1
          have HN2 := Lib.hid n2
          have HNM := Lib.hid hnM
          have HO7 := Lib.hid ho7
          have HB7 := Lib.hid hb7'
          clear hw7 hb7 fz7 n1 n2 hM hnM ho7 hb7' s7 s8 r1 r2 r3 hpi HE3 hheld hbt hbw HBR HO
          go_wp2
          go_loopw [14, 18] (fun tv qv wq => ∃ q : Nat, q ≤ path.length ∧ qv = .int .i64 q ∧ wq.ownsRow Z 48 2 tv (takenT ss bar ps i q).length (pcells (takenT ss bar ps i q)) ∧ wq.cell? ⟨M, 0, none⟩ = some (.int .i64 (finOf (ss.getD i (0, 0)) (path.take q)).1) ∧ wq.cell? ⟨M, 1, none⟩ = some (.int .i64 (finOf (ss.getD i (0, 0)) (path.take q)).2) ∧ (∀ k, tv.ownBlock = some k → k ≠ M) ∧ Below Z wc wq ∧ ∀ j, wq.frozen? ⟨M, j, none⟩ = false) (fun _ qv _ => path.length - (intOf qv).toNat)
          case atStart => exact ⟨0, Nat.zero_le _, rfl, HO7.out, (by have h := HN1.out; rw [HSX.out] at h; exact h), (by have h := HN2.out; rw [HSY.out] at h; exact h), HNM.out, HB7.out, HFZ7.out⟩
          case round =>
            clear HO7 HN1 HN2 HNM HB7 HFZ7
            obtain ⟨q, hq, rfl, ho, m1, m2, hnM, hbw, hfz⟩ := hrel
            have HFZ := Lib.hid hfz
            clear hfz
            have hq' : q ≤ (ps.getD i []).length := by rw [← HPATH.out]; exact hq
            obtain ⟨f1, f2, f3⟩ := fam_step HFAM.out hlt hq'
            rw [← HPATH.out] at f1 f2 f3
            obtain ⟨p, hp⟩ : ∃ p, p = finOf (ss.getD i (0, 0)) (path.take q) := ⟨_, rfl⟩
            rw [← hp] at m1 m2 f1 f2 f3
            obtain ⟨T, hT⟩ : ∃ T, T = takenT ss bar ps i q := ⟨_, rfl⟩
            have hTl : T.length ≤ 1000104 := by
              have := takenT_len (q := q) HFAM.out hW8.1 hW8.2 h4 (k := i) (by omega)
              rw [hT]; omega
            rw [← hT] at ho f2 f3
            have HPP := Lib.hid hp
            have HT := Lib.hid f3
            have hheld : Below wc.heap.size wc wr := by rw [← HZ.out]; exact hbw
            have r1 := cell_keep hheld k1
            have r2 := cell_keep hheld k2
            have r3 := cell_keep hheld k3
            obtain ⟨A7, c7, rfl, hTn, hs7, hc7, _⟩ := psl_of_own ho
            have hin : inB (W : Int) (H : Int) (p.1, p.2) = true := inB_true.2 f1
            obtain ⟨x, hx⟩ : ∃ x, x = p.1 := ⟨_, rfl⟩
            obtain ⟨y, hy⟩ : ∃ y, y = p.2 := ⟨_, rfl⟩
            have hxy : p = (x, y) := by rw [hx, hy]
            rw [← hx] at m1 hin
            rw [← hy] at m2 hin
            have hxb : 0 ≤ x ∧ x < 8 := by rw [hx]; exact ⟨f1.1, by have := f1.2.2.1; omega⟩
            have hyb : 0 ≤ y ∧ y < 8 := by rw [hy]; exact ⟨f1.2.1, by have := f1.2.2.2; omega⟩
            have HIN : Hid (∀ w', Calls Try.prog 26 #[.agg #[.int .i64 W, .int .i64 H, .slice A bar.length cap], .agg #[.int .i64 x, .int .i64 y]] w' fun e w'' => e = .returned (.bool true) ∧ Below w'.heap.size w' w'') := Lib.hid fun w' => by
              have := rin_any W H x y (.slice A bar.length cap) w'
              rw [hin] at this
              exact this
            have HCON : Hid (∀ w', Below wr.heap.size wr w' → Calls Try.prog 27 #[.slice A7 T.length c7, .agg #[.int .i64 x, .int .i64 y]] w' fun e w'' => e = .returned (.bool false) ∧ Below w'.heap.size w' w'') := Lib.hid fun w' hw' => by
              refine (pcon_any A7 c7 T x y w' (by omega) (Nat.le_refl _) (hs7.keep hw')).mono ?_
              rintro e w'' ⟨⟨c, rfl, hc⟩, hb⟩
              cases c with
              | false => exact ⟨rfl, hb⟩
              | true => exact absurd (hc.1 rfl) (by rw [← hxy]; exact f2)
            have HO := Lib.hid ho
            have HXY := Lib.hid hxy
            have HNM := Lib.hid hnM
            have HBW := Lib.hid hbw
            clear hp hT hs7 hin f1 f2 f3 ho hxy hnM hbw hx hy hheld
            go_upto_region 20 with (first | (go_at_call 26; refine (HIN.out _).mono ?_; rintro e w9 ⟨rfl, hb9⟩; have q1 := cell_keep hb9 m1; have q2 := cell_keep hb9 m2; have HB9 := Lib.hid hb9; clear hb9) | (go_at_call 27; refine (HCON.out _ HB9.out).mono ?_; rintro e w10 ⟨rfl, hb10⟩; have t1 := cell_keep hb10 q1; have t2 := cell_keep hb10 q2; have HB10 := Lib.hid hb10; clear hb10) | fail)
            have hzz : Z ≤ wr.heap.size := by rw [HZ.out]; exact HBW.out.size
            have hz9 := HB9.out.size
            have hz10 := HB10.out.size
            have hb10 : Below wr.heap.size wr w10 := HB9.out.trans (HB10.out.mono hz9)
            have hbZ : Below Z wc w10 := HBW.out.trans (hb10.mono hzz)
            have ho10 : w10.ownsRow Z 48 2 (.slice A7 T.length c7) T.length (pcells T) := own_sameG HO.out (fun k hk => hb10.block k (HO.out.lt k hk).2)
            have hMr : M < wr.heap.size := World.block_lt_of_cell? wr _ m1
            have HFZ10 : Hid (∀ j, w10.frozen? ⟨M, j, none⟩ = false) := Lib.hid fun j => fz_same (hb10.block M hMr) (HFZ.out j)
            clear hMr
            have HO10 := Lib.hid ho10
            have HBZ := Lib.hid hbZ
            have hz : Z ≤ w10.heap.size := by omega
            clear hzz hz9 hz10 hb10 hbZ ho10 m1 m2 q1 q2 HIN HCON HB9 HB10 HO HBW r1 r2 r3
            go_upto_region 21 with (first | (refine wpList_appP1 (v := .slice A7 T.length c7) rfl (.tmp 107) (.tmp 109) rfl rfl (x, y) HO10.out rfl (by omega) hz (fun v11 w11 ho11 hb11 hf11 ha11 => ?_); have HO11 := Lib.hid ho11; have HB11 := Lib.hid hb11; have HF11 := Lib.hid hf11; have HA11 := Lib.hid ha11; clear ho11 hb11 hf11 ha11) | fail)
            have hMlt : M < w10.heap.size := World.block_lt_of_cell? w10 _ t1
            have hMne : (Value.slice A7 T.length c7).ownBlock ≠ some M := fun e => HNM.out M e rfl
            have m1 := way_same (HF11.out M hMlt hMne) t1
            have m2 := way_same (HF11.out M hMlt hMne) t2
            have HFZ11 : Hid (∀ j, w11.frozen? ⟨M, j, none⟩ = false) := Lib.hid fun j => fz_same (HF11.out M hMlt hMne) (HFZ10.out j)
            have hnM : ∀ k, v11.ownBlock = some k → k ≠ M := fun k hk => (HA11.out k hk).elim (HNM.out k) (fun h => by omega)
            have hTT : T ++ [(x, y)] = takenT ss bar ps i (q + 1) := by rw [← HXY.out]; exact HT.out
            have ho11 : w11.ownsRow Z 48 2 v11 (takenT ss bar ps i (q + 1)).length (pcells (takenT ss bar ps i (q + 1))) := by
              rw [← hTT, List.length_append]; exact HO11.out
            have hbZ := HBZ.out.trans HB11.out
            have HO12 := Lib.hid ho11
            have HNM2 := Lib.hid hnM
            have HBZ2 := Lib.hid hbZ
            clear hMlt hMne hnM hTT ho11 hbZ HO11 HB11 HF11 HA11 HNM HO10 HBZ t1 t2
            by_cases hql : q = path.length
            · have dq : ((q : Int) == (path.length : Int)) = true := by simp [hql]
              have hend : (x, y) = es.getD i (0, 0) := by
                rw [← HXY.out, HPP.out, hql, List.take_length, HPATH.out]
                exact (HFAM.out.2.1 i hlt).2
              have hheld : Below wc.heap.size wc w11 := by rw [← HZ.out]; exact HBZ2.out
              have hs3 := (HS3.out.keep HBT.out).keep hheld
              obtain ⟨e7, e8⟩ := psl_at hs3 hie
              rw [← hend] at e7 e8
              have e7' : w11.cell? ⟨eb, eo + i * 2, none⟩ = some (.int .i64 x) := e7
              have e8' : w11.cell? ⟨eb, eo + i * 2 + 1, none⟩ = some (.int .i64 y) := e8
              have ho := HO12.out
              rw [hql, HPATH.out, takenT_next hlt] at ho
              have HO13 := Lib.hid ho
              clear hend hheld hs3 e7 e8 ho
              go_wp2
              go_quiet (fail)
              go_wp2
              go_roundw
              case rel => exact ⟨i + 1, v11, by omega, by go_num, rfl, HO13.out, below_drewN HBZ2.out _⟩
              case measure => simp [intOf]; omega
            · have dq : ((q : Int) == (path.length : Int)) = false := by simpa using (by omega : ¬ (q : Int) = (path.length : Int))
              have hqlt : q < path.length := by omega
              have hchc : path.getD q 0 = 82 ∨ path.getD q 0 = 85 := by
                have := (HFAM.out.2.1 i hlt).1 (path.getD q 0)
                rw [← HPATH.out] at this
                exact this (by rw [getD_get hqlt]; exact List.getElem_mem hqlt)
              go_upto_region 24 with fail
              rcases hchc with hch | hch
              · skip
                have hb : ((ByteArray.mk path.toArray)[q]'(by simpa [ByteArray.size] using hqlt)).toNat = 82 := by
                  have h1 : (ByteArray.mk path.toArray)[q]'(by simpa [ByteArray.size] using hqlt) = path.getD q 0 := by
                    rw [getD_get hqlt]; rfl
                  rw [h1, hch]; rfl
                rw [hb]
                have hst : stepP (x, y) 82 = (x + 1, y) := rfl
                have f0 := HFZ11.out 0
                have hnx := fin_next (p := ss.getD i (0, 0)) hqlt
                rw [hch, ← HPP.out, HXY.out, hst] at hnx
                have ho := own_sameG (w' := w11.setCell ⟨M, 0, none⟩ (.int .i64 (x + 1))) HO12.out (fun k hk => by
                  have := HNM2.out k hk
                  simp [World.setCell, Array.getElem?_modify, Ne.symm this])
                have HO13 := Lib.hid ho
                have HNX := Lib.hid hnx
                have HM1 := Lib.hid m1
                have HM2 := Lib.hid m2
                clear ho hst hnx
                go_wp2
                go_roundw
                case rel => exact ⟨q + 1, by omega, by go_num, HO13.out, (by rw [HNX.out]; exact World.cell?_setCell_same _ _ _ HM1.out), (by rw [HNX.out]; exact (World.cell?_setCell_other _ _ _ _ (by simp)).trans HM2.out), HNM2.out, HBZ2.out.setCell (p := ⟨M, 0, none⟩) hZM _, fun j => (World.frozen?_setCell _ _ _ _).trans (HFZ11.out j)⟩
                case measure => simp [intOf]; omega
              · skip
                have hb : ((ByteArray.mk path.toArray)[q]'(by simpa [ByteArray.size] using hqlt)).toNat = 85 := by
                  have h1 : (ByteArray.mk path.toArray)[q]'(by simpa [ByteArray.size] using hqlt) = path.getD q 0 := by
                    rw [getD_get hqlt]; rfl
                  rw [h1, hch]; rfl
                rw [hb]
                have hst : stepP (x, y) 85 = (x, y + 1) := rfl
                have f0 := HFZ11.out 1
                have hnx := fin_next (p := ss.getD i (0, 0)) hqlt
                rw [hch, ← HPP.out, HXY.out, hst] at hnx
                have ho := own_sameG (w' := w11.setCell ⟨M, 1, none⟩ (.int .i64 (y + 1))) HO12.out (fun k hk => by
                  have := HNM2.out k hk
                  simp [World.setCell, Array.getElem?_modify, Ne.symm this])
                have HO13 := Lib.hid ho
                have HNX := Lib.hid hnx
                have HM1 := Lib.hid m1
                have HM2 := Lib.hid m2
                clear ho hst hnx
                go_wp2
                go_roundw
                case rel => exact ⟨q + 1, by omega, by go_num, HO13.out, (by rw [HNX.out]; exact (World.cell?_setCell_other _ _ _ _ (by simp)).trans HM1.out), (by rw [HNX.out]; exact World.cell?_setCell_same _ _ _ HM2.out), HNM2.out, HBZ2.out.setCell (p := ⟨M, 1, none⟩) hZM _, fun j => (World.frozen?_setCell _ _ _ _).trans (HFZ11.out j)⟩
                case measure => simp [intOf]; omega
        · have hBT := Lib.hid hbt
          go_wp2
          go_ret
          exact ⟨rfl, hBT.out⟩
    · have dk : (k != 0) = true := by simpa using hk
      obtain ⟨hps, hsn⟩ := HK1.out hk
      subst hps
      have hcase : (k' != 0) = true ∨ (k' = 0 ∧ n = 0) := by
        by_cases hk' : k' = 0
        · refine .inr ⟨hk', ?_⟩
          have hok := HA1.out hk'
          obtain ⟨W, H, rfl, rfl, _⟩ := grid_nat hok
          have h1 := hsn hok W H rfl rfl
          have h5 := HA2.out hok W H rfl rfl
          have h6 := (h5.2 (by
            by_cases hs : 1000000 < (res W H bar ss es 0).steps
            · exact absurd hk' (h5.1 hs)
            · omega)).2
          rw [h6, res_none h1, h1]; rfl
        · exact .inl (by simpa using hk')
      clear hsn HA1 HA2 HK0 HK1 hk
      rcases hcase with h1 | ⟨rfl, rfl⟩
      · go_wp2
        go_ret
        exact ⟨rfl, HBT.out⟩
      · go_wp2
        go_ret
        exact ⟨rfl, HBT.out⟩
end Go.Proofs.Ytdmpbbgcifodeaa
