/-
  paths.First: what it answers.
-/
import Derived.Test.YtdmpbbgcifodeaaFam2W
namespace Go.Proofs.Ytdmpbbgcifodeaa
open Go.RowKit Go.Proofs

def st0 (W H : Nat) (bar : List Pt) : St := ⟨openF W H bar, [], [], 0, 0⟩
/-- The family as it is made. -/
theorem famMk {w : World} {B : Nat} {K : FK} (W H : Nat) (bar : List Pt) (hB : B ≤ w.heap.size) (hb : K.b = w.heap.size) (hfree : w.ownsRow B 4 1 (.slice (some ⟨K.G, 0, none⟩) K.n K.n) K.n (bools (openF W H bar)))
    (hs : Sl w B K.sa (pcells K.ss)) (he : Sl w B K.ea (pcells K.es)) (hway : ∀ i, i < K.wl → w.cell? ⟨K.wb, i, none⟩ = some (.int .i64 i)) (hwl : K.wb < w.heap.size) (hwG : K.wb ≠ K.G) :
    FamR (w.alloc (.cells (fcells K (.slice none 0 0) (.slice none 0 0) (st0 W H bar)).toArray 99)) B K (.slice none 0 0) (.slice none 0 0) (st0 W H bar) := by
  have hb0 : Below w.heap.size w (w.alloc (.cells (fcells K (.slice none 0 0) (.slice none 0 0) (st0 W H bar)).toArray 99)) := (Below.refl _ _).alloc (Nat.le_refl _) _
  have hG := hfree.lt K.G rfl
  refine ⟨?_, hfree.alloc _, World.ownsRow_nil _ _ _ _, World.ownsRow_nil _ _ _ _, hs.below (hb0.mono hB), he.below (hb0.mono hB), fun i hi => cell_keep hb0 (hway i hi), by simp; omega, by omega, ⟨by omega, hwG⟩, fun k hk => (by cases hk), fun k hk => (by cases hk), fun k hk => (by cases hk)⟩
  rw [hb]
  have h := World.ownsRow_lit (base := B) (e := 99) (size := 12) w (fcells K (.slice none 0 0) (.slice none 0 0) (st0 W H bar)).toArray 1 hB (by decide) rfl
  exact h
def kOf (W H : Nat) (bv : Value) (C D : Option Addr) (c2 c3 : Nat) (ss es : List Pt) (wb wl wc G most b : Nat) : FK := ⟨W, H, W * H, bv, ss, es, C, D, wb, c2, c3, wl, wc, G, most, b⟩
/-- Natural numbers of a grid that is right. -/
theorem grid_nat {W H : Int} {bar ss es : List Pt} (h : SidesOk W H bar ss es) : ∃ W' H' : Nat, W = W' ∧ H = H' ∧ W' ≤ 8 ∧ H' ≤ 8 ∧ (∀ p ∈ ss, InG W' H' p) ∧ (∀ p ∈ es, InG W' H' p) := by
  obtain ⟨⟨⟨h1, h2, h3, h4⟩, _, _⟩, hs, he, _⟩ := h
  have e1 : W = ((W.toNat : Nat) : Int) := by omega
  have e2 : H = ((H.toNat : Nat) : Int) := by omega
  refine ⟨W.toNat, H.toNat, e1, e2, by omega, by omega, fun p hp => ?_, fun p hp => ?_⟩
  · have := hs p hp
    rw [e1, e2] at this
    exact inG_of this
  · have := he p hp
    rw [e1, e2] at this
    exact inG_of this
theorem kOk_of {W H : Nat} {bar ss es : List Pt} (h : SidesOk W H bar ss es) (bv : Value) (C D : Option Addr) (c2 c3 wb wl wc G most b : Nat) (hw : ss.length ≤ wl) (hw4 : wl ≤ 4) (hm : most ≤ 1) : KOk (kOf W H bv C D c2 c3 ss es wb wl wc G most b) := by
  obtain ⟨⟨⟨h1, h2, h3, h4⟩, _, _⟩, hs, he, hl, h4'⟩ := h
  exact ⟨by show W ≤ 8; omega, by show H ≤ 8; omega, rfl, hl, h4', hw, hw4, fun p hp => inG_of (hs p hp), fun p hp => inG_of (he p hp), hm⟩
/-- What both of them find. -/
def res (W H : Nat) (bar ss es : List Pt) (most : Nat) : St := (run ⟨W, ss, es, most⟩ 400 (.next 0) (st0 W H bar)).2

set_option maxRecDepth 100000 in
set_option maxHeartbeats 2000000 in
theorem first_any (W H : Int) (A C D : Option Addr) (cap c2 c3 : Nat) (bar ss es : List Pt) (w : World) (hl : bar.length ≤ 1000000) (hcap : bar.length ≤ cap) (h : Sl w w.heap.size A (pcells bar)) (hl2 : ss.length ≤ 1000000) (h2 : Sl w w.heap.size C (pcells ss)) (hl3 : es.length ≤ 1000000) (h3 : Sl w w.heap.size D (pcells es)) :
    Calls Try.prog 22 #[.agg #[.int .i64 W, .int .i64 H, .slice A bar.length cap], .slice C ss.length c2, .slice D es.length c3] w fun e w' => (∃ (v : Value) (k : Int) (ps : List (List UInt8)), e = .returned (.tuple #[v, .int .i64 k]) ∧ w'.ownsRow w.heap.size 9 1 v ps.length (strs ps) ∧
      (k = 0 → SidesOk W H bar ss es ∧ ∀ W' H' : Nat, W = W' → H = H' → (res W' H' bar ss es 1).n ≠ 0 ∧ ps = (res W' H' bar ss es 1).first) ∧
      (k ≠ 0 → ps = [] ∧ (SidesOk W H bar ss es → ∀ W' H' : Nat, W = W' → H = H' → (res W' H' bar ss es 1).n = 0))) ∧ Below w.heap.size w w' := by
  obtain ⟨w0, hw0⟩ : ∃ w0, w0 = w.alloc (.cells #[.int .i64 W, .int .i64 H, .slice A bar.length cap] 43) := ⟨_, rfl⟩
  have hb0 : Below w.heap.size w w0 := by rw [hw0]; exact (Below.refl _ _).alloc (Nat.le_refl _) _
  have g1 : w0.cell? ⟨w.heap.size, 0, none⟩ = some (.int .i64 W) := by rw [hw0, World.cell?_alloc_at _ _ _ _ rfl]; rfl
  have g2 : w0.cell? ⟨w.heap.size, 1, none⟩ = some (.int .i64 H) := by rw [hw0, World.cell?_alloc_at _ _ _ _ rfl]; rfl
  have g3 : w0.cell? ⟨w.heap.size, 2, none⟩ = some (.slice A bar.length cap) := by rw [hw0, World.cell?_alloc_at _ _ _ _ rfl]; rfl
  have hsid := sides_any W H A C D cap c2 c3 bar ss es w0 hl hcap (h.keep hb0) hl2 (h2.keep hb0) hl3 (h3.keep hb0)
  have HSID := Lib.hid hsid
  have HB0 := Lib.hid hb0
  have HS := Lib.hid h
  have HS2 := Lib.hid h2
  have HS3 := Lib.hid h3
  go_enter Try.func22, Try.ntmps22
  go_upto_region 1 with fail
  rw [← hw0]
  clear hw0 hb0 hsid h h2 h3
  go_upto_region 2 with (first | (go_at_call 67; refine (HSID.out).mono ?_; rintro e w2 ⟨⟨k, rfl, hk⟩, hb2⟩; have HK := Lib.hid hk; have HB2 := Lib.hid hb2; clear hk hb2) | fail)
  by_cases hk0 : k = 0
  · subst hk0
    have hok := HK.out.1 rfl
    obtain ⟨W, H, rfl, rfl, _⟩ := grid_nat hok
    have m1 := cell_keep HB2.out g1
    have m2 := cell_keep HB2.out g2
    have m3 := cell_keep HB2.out g3
    have hbt : Below w.heap.size w w2 := HB0.out.trans (HB2.out.mono HB0.out.size)
    have HBT := Lib.hid hbt
    have HOK := Lib.hid hok
    clear HK hok g1 g2 g3 hbt HSID HB0 HB2
    obtain ⟨N, hN⟩ : ∃ N, N = w.heap.size := ⟨_, rfl⟩
    rw [← hN] at m1 m2 m3 ⊢
    have HN := Lib.hid hN
    clear hN
    have HOP : Hid (∀ w', Below w2.heap.size w2 w' → Calls Try.prog 68 #[.agg #[.int .i64 W, .int .i64 H, .slice A bar.length cap]] w' fun e w'' => ∃ G, e = .returned (.slice (some ⟨G, 0, none⟩) (W * H) (W * H)) ∧ w''.ownsRow w'.heap.size 4 1 (.slice (some ⟨G, 0, none⟩) (W * H) (W * H)) (W * H) (bools (openF W H bar)) ∧ Below w'.heap.size w' w'') := Lib.hid fun w' hw' =>
      open_any W H A cap bar w' HOK.out.1 hl ((HS.out.keep HBT.out).keep hw')
    obtain ⟨n, hn⟩ : ∃ n, n = W * H := ⟨_, rfl⟩
    rw [← hn] at HOP
    have HNN := Lib.hid hn
    clear hn
    have hbd : Below w2.heap.size w2 w2.drew := below_drewN (Below.refl _ _) 1
    have m1d := cell_keep hbd m1
    have m2d := cell_keep hbd m2
    have m3d := cell_keep hbd m3
    have hba : Below w2.heap.size w2 (w2.alloc (.cells #[.int .i64 0, .int .i64 1, .int .i64 2, .int .i64 3] 3)).drew := below_drewN ((Below.refl _ _).alloc (Nat.le_refl _) _) 1
    have a1 := cell_keep hba m1
    have a2 := cell_keep hba m2
    have a3 := cell_keep hba m3
    go_upto_region 4 with fail
    go_cut [9] (fun pv wz => ∃ b G wb, pv = .pointer (some ⟨b, 0, none⟩) ∧ FamR wz N (kOf W H (.slice A bar.length cap) C D c2 c3 ss es wb 4 4 G 1 b) (.slice none 0 0) (.slice none 0 0) (st0 W H bar) ∧ Below N w2 wz)
    case first =>
      go_wp2
      go_region_held3 (fun w' => w'.cell? ⟨N, 0, none⟩ = some (.int .i64 W) ∧ w'.cell? ⟨N, 1, none⟩ = some (.int .i64 H) ∧ w'.cell? ⟨N, 2, none⟩ = some (.slice A bar.length cap))
        (first | with_reducible exact ⟨m1d, m2d, m3d⟩ | with_reducible exact ⟨a1, a2, a3⟩ | with_reducible exact ⟨q1, q2, q3⟩ | with_reducible exact ⟨r1, r2, r3⟩ | with_reducible exact ⟨cell_keep ((Below.refl _ _).alloc (Nat.le_refl _) _) q1, cell_keep ((Below.refl _ _).alloc (Nat.le_refl _) _) q2, cell_keep ((Below.refl _ _).alloc (Nat.le_refl _) _) q3⟩ | with_reducible exact ⟨cell_keep ((Below.refl _ _).alloc (Nat.le_refl _) _) r1, cell_keep ((Below.refl _ _).alloc (Nat.le_refl _) _) r2, cell_keep ((Below.refl _ _).alloc (Nat.le_refl _) _) r3⟩)
        (first | ((go_at_call 68; first | (refine (HOP.out _ hbd).mono ?_; rintro e w9 ⟨G, rfl, ho9, hb9⟩; have q1 := cell_keep hb9 m1d; have q2 := cell_keep hb9 m2d; have q3 := cell_keep hb9 m3d; have hbr : Below w9.heap.size w9 (w9.alloc (.cells #[.int .i64 0, .int .i64 1, .int .i64 2, .int .i64 3] 3)) := (Below.refl _ _).alloc (Nat.le_refl _) _; have r1 := cell_keep hbr q1; have r2 := cell_keep hbr q2; have r3 := cell_keep hbr q3; have HO9 := Lib.hid ho9; have HB9 := Lib.hid hb9; clear ho9 hb9 hbr) | (refine (HOP.out _ hba).mono ?_; rintro e w9 ⟨G, rfl, ho9, hb9⟩; have q1 := cell_keep hb9 a1; have q2 := cell_keep hb9 a2; have q3 := cell_keep hb9 a3; have HO9 := Lib.hid ho9; have HB9 := Lib.hid hb9; clear ho9 hb9))) | fail)
      · go_wp2
        go_meet
        have hz : w.heap.size ≤ w2.heap.size := HBT.out.size
        have h9 := HB9.out.size
        have hz2 : (w2.alloc (.cells #[.int .i64 0, .int .i64 1, .int .i64 2, .int .i64 3] 3)).drew.heap.size = w2.heap.size + 1 := by show (w2.alloc _).heap.size = _; simp
        have hbel : Below w.heap.size w w9 := (HBT.out.trans (hba.mono hz)).trans (HB9.out.mono (by omega))
        have hlt := HO9.out.lt G rfl
        have ho := HO9.out
        have hN := HN.out
        rw [HNN.out] at ho ⊢
        refine ⟨w9.heap.size, G, w2.heap.size, rfl, famMk (B := N) (K := kOf W H (.slice A bar.length cap) C D c2 c3 ss es w2.heap.size 4 4 G 1 w9.heap.size) W H bar (by omega) rfl (ho.mono (by omega)) ?_ ?_ ?_ (by show w2.heap.size < _; omega) (by show w2.heap.size ≠ G; omega), ?_⟩
        · rw [hN]; exact HS2.out.below hbel
        · rw [hN]; exact HS3.out.below hbel
        · intro i hi
          have hi4 : i < 4 := hi
          refine cell_keep HB9.out ?_
          show (w2.alloc _).cell? ⟨w2.heap.size, i, none⟩ = _
          rw [World.cell?_alloc_at _ _ _ _ rfl]
          match i, hi4 with
          | 0, _ => rfl
          | 1, _ => rfl
          | 2, _ => rfl
          | 3, _ => rfl
        · rw [hN]
          exact ((hba.mono hz).trans (HB9.out.mono (by omega))).trans ((Below.refl _ _).alloc (by omega) _)
      · go_wp2
        go_meet
        obtain ⟨w8, hw8⟩ : ∃ w8, w8 = w9.alloc (.cells #[.int .i64 0, .int .i64 1, .int .i64 2, .int .i64 3] 3) := ⟨_, rfl⟩
        have hb8 : Below w9.heap.size w9 w8 := by rw [hw8]; exact (Below.refl _ _).alloc (Nat.le_refl _) _
        have hz8 : w8.heap.size = w9.heap.size + 1 := by rw [hw8]; simp
        have hway : ∀ i, i < 4 → w8.cell? ⟨w9.heap.size, i, none⟩ = some (.int .i64 i) := fun i hi4 => by
          rw [hw8, World.cell?_alloc_at _ _ _ _ rfl]
          match i, hi4 with
          | 0, _ => rfl
          | 1, _ => rfl
          | 2, _ => rfl
          | 3, _ => rfl
        rw [← hw8]
        have hz : w.heap.size ≤ w2.heap.size := HBT.out.size
        have h9 := HB9.out.size
        have hz2 : w2.drew.heap.size = w2.heap.size := rfl
        have hbel2 : Below w.heap.size w2 w8 := ((hbd.mono hz).trans (HB9.out.mono (by omega))).trans (hb8.mono (by omega))
        have hbel : Below w.heap.size w w8 := HBT.out.trans hbel2
        have hlt := HO9.out.lt G rfl
        have ho := own_below HO9.out hb8
        have hN := HN.out
        rw [← hz8]
        rw [HNN.out] at ho ⊢
        refine ⟨w8.heap.size, G, w9.heap.size, rfl, famMk (B := N) (K := kOf W H (.slice A bar.length cap) C D c2 c3 ss es w9.heap.size 4 4 G 1 w8.heap.size) W H bar (by omega) rfl (ho.mono (by omega)) ?_ ?_ hway (by show w9.heap.size < _; omega) (by show w9.heap.size ≠ G; omega), ?_⟩
        · rw [hN]; exact HS2.out.below hbel
        · rw [hN]; exact HS3.out.below hbel
        · rw [hN]
          exact hbel2.trans ((Below.refl _ _).alloc (by omega) _)
    case rest =>
      obtain ⟨b, G, wb, rfl, hF, hbz⟩ := hcut
      have hcall : Calls Try.prog 69 #[.pointer (some ⟨b, 0, none⟩), .int .i64 0] wc fun e w' => Post (kOf W H (.slice A bar.length cap) C D c2 c3 ss es wb 4 4 G 1 b) N (.slice none 0 0) wc (run ⟨W, ss, es, 1⟩ 400 (.next 0) (st0 W H bar)) e w' :=
        (both_any (kOk_of HOK.out (.slice A bar.length cap) C D c2 c3 wb 4 4 G 1 b HOK.out.2.2.2.2 (Nat.le_refl _) (Nat.le_refl _)) 400).2 0 (st0 W H bar) _ _ wc hF ⟨Nat.zero_le _, Nat.le_refl _⟩ (openF_len W H bar) rfl (Nat.zero_le _) (by have := HOK.out.2.2.2.2; show (ss.length - 0) * 80 + 60 ≤ 400; omega)
      obtain ⟨r, hr⟩ : ∃ r, r = run ⟨W, ss, es, 1⟩ 400 (.next 0) (st0 W H bar) := ⟨_, rfl⟩
      have hres : res W H bar ss es 1 = r.2 := by rw [hr]; rfl
      rw [← hr] at hcall
      have HCALL := Lib.hid hcall
      have HRES := Lib.hid hres
      have HBZ := Lib.hid hbz
      have HFC := Lib.hid hF
      clear hF hbz hcall hr hres m1 m2 m3 m1d m2d m3d a1 a2 a3 HOP hbd hba
      go_upto_region 6 with (first | (go_at_call 69; refine (HCALL.out).mono ?_; rintro e w10 ⟨rfl, v10, uu, hF10, hB10⟩; have HF10 := Lib.hid hF10; have HB10 := Lib.hid hB10; clear hF10 hB10) | fail)
      have p10 : w10.cell? ⟨b, 10, none⟩ = some (.int .i64 r.2.n) := HF10.out.cell (k := 10) rfl
      have p8 : w10.cell? ⟨b, 8, none⟩ = some uu := HF10.out.cell (k := 8) rfl
      have p11 : w10.cell? ⟨b, 11, none⟩ = some (.int .i64 r.2.steps) := HF10.out.cell (k := 11) rfl
      have hwf : Below w.heap.size w w10 := HBT.out.trans ((by rw [← HN.out]; exact HBZ.out.trans HB10.out.bel))
      have ho := HF10.out.first
      rw [HN.out] at ho
      have HO := Lib.hid ho
      have HWF := Lib.hid hwf
      clear ho hwf
      by_cases hn0 : r.2.n = 0
      · rw [hn0] at p10
        have HN0 := Lib.hid hn0
        clear hn0
        have hall : ∀ W' H' : Nat, (W : Int) = W' → (H : Int) = H' → (res W' H' bar ss es 1).n = 0 := fun W' H' e1 e2 => by
          obtain rfl : W = W' := by omega
          obtain rfl : H = H' := by omega
          rw [HRES.out]; exact HN0.out
        have HALL := Lib.hid hall
        clear hall
        by_cases hs : 1000000 < r.2.steps
        · have ds : decide ((1000000 : Int) < (r.2.steps : Int)) = true := decide_eq_true (by omega)
          go_wp2
          go_ret2
          exact ⟨⟨_, 2, [], rfl, World.ownsRow_nil _ _ _ _, fun e => absurd e (by decide), fun _ => ⟨rfl, fun _ => HALL.out⟩⟩, HWF.out⟩
        · have ds : decide ((1000000 : Int) < (r.2.steps : Int)) = false := decide_eq_false (by omega)
          go_wp2
          go_ret2
          exact ⟨⟨_, 5, [], rfl, World.ownsRow_nil _ _ _ _, fun e => absurd e (by decide), fun _ => ⟨rfl, fun _ => HALL.out⟩⟩, HWF.out⟩
      · have HN0 := Lib.hid hn0
        have dn : decide ((0 : Int) < (r.2.n : Int)) = true := decide_eq_true (by omega)
        go_wp2
        go_ret2
        refine ⟨⟨uu, 0, r.2.first, rfl, HO.out, fun _ => ⟨HOK.out, fun W' H' e1 e2 => ?_⟩, fun e => absurd rfl e⟩, HWF.out⟩
        obtain rfl : W = W' := by omega
        obtain rfl : H = H' := by omega
        rw [HRES.out]
        exact ⟨HN0.out, rfl⟩
  · have dk : (k != 0) = true := by simpa using hk0
    have HNK := Lib.hid hk0
    have hbt : Below w.heap.size w w2 := HB0.out.trans (HB2.out.mono HB0.out.size)
    go_wp2
    go_ret2
    refine ⟨⟨_, k, [], rfl, World.ownsRow_nil _ _ _ _, fun e => absurd e HNK.out, fun _ => ⟨rfl, fun hh => absurd (HK.out.2 hh) HNK.out⟩⟩, hbt⟩
end Go.Proofs.Ytdmpbbgcifodeaa
