/-
  (*family).each and next: what they are called with, what they answer.
-/
import Derived.Test.YtdmpbbgcifodeaaFamR
import Derived.BigRegion
import Derived.Laws.Concat
namespace Go.Proofs.Ytdmpbbgcifodeaa
open Go.RowKit Go.Proofs

def FK.env (K : FK) : Env := ⟨K.W, K.ss, K.es, K.most⟩
structure KOk (K : FK) : Prop where
  W8 : K.W ≤ 8
  H8 : K.H ≤ 8
  n : K.n = K.W * K.H
  le : K.ss.length = K.es.length
  l4 : K.ss.length ≤ 4
  wl : K.ss.length ≤ K.wl
  wl4 : K.wl ≤ 4
  ss : ∀ p ∈ K.ss, InG K.W K.H p
  es : ∀ p ∈ K.es, InG K.W K.H p
  most : K.most ≤ 1
def Post (K : FK) (B : Nat) (v : Value) (w : World) (r : Bool × St) (e : Ending) (w' : World) : Prop := e = .returned (.bool r.1) ∧ ∃ v' u', FamR w' B K v' u' r.2 ∧ Fr B K v v' w w'
def EachOk (K : FK) (B f : Nat) : Prop := ∀ (k : Nat) (x y : Int) (path : List UInt8) (s : St) (v u : Value) (w : World), FamR w B K v u s → Num (.each k (x, y) path) s → s.free.length = K.n → s.now.length = k → k < K.ss.length → InG K.W K.H (x, y) →
  path.length + ((K.es.getD k (0, 0)).1 - x).toNat + ((K.es.getD k (0, 0)).2 - y).toNat ≤ 30 → mu K.env (.each k (x, y) path) ≤ f →
  Calls Try.prog 105 #[.pointer (some ⟨K.b, 0, none⟩), .int .i64 k, .agg #[.int .i64 x, .int .i64 y], .string ⟨path.toArray⟩] w fun e w' => Post K B v w (run K.env f (.each k (x, y) path) s) e w'
def NextOk (K : FK) (B f : Nat) : Prop := ∀ (k : Nat) (s : St) (v u : Value) (w : World), FamR w B K v u s → Num (.next k) s → s.free.length = K.n → s.now.length = k → k ≤ K.ss.length → mu K.env (.next k) ≤ f →
  Calls Try.prog 69 #[.pointer (some ⟨K.b, 0, none⟩), .int .i64 k] w fun e w' => Post K B v w (run K.env f (.next k) s) e w'

set_option maxRecDepth 100000 in
set_option maxHeartbeats 2000000 in
theorem each_step {K : FK} {B f : Nat} (hK : KOk K) (hX : NextOk K B f) (hE : EachOk K B f) : EachOk K B (f + 1) := by
  intro k x y path s v u w hF hN hfl hk hks hin hlen hmu
  obtain ⟨w0, hw0⟩ : ∃ w0, w0 = w.alloc (.cells #[.int .i64 x, .int .i64 y] 48) := ⟨_, rfl⟩
  have hb0 : Below w.heap.size w w0 := by rw [hw0]; exact (Below.refl _ _).alloc (Nat.le_refl _) _
  have n0 : w0.cell? ⟨w.heap.size, 0, none⟩ = some (.int .i64 x) := by rw [hw0, World.cell?_alloc_at _ _ _ _ rfl]; rfl
  have n1 : w0.cell? ⟨w.heap.size, 1, none⟩ = some (.int .i64 y) := by rw [hw0, World.cell?_alloc_at _ _ _ _ rfl]; rfl
  have hF0 := hF.below hb0
  have hB0 : Fr B K v v w w0 := Fr.of v (by have := hF.blt; omega) hb0
  have hNB : B ≤ w.heap.size ∧ w.heap.size ≠ K.b ∧ w.heap.size ≠ K.G ∧ v.ownBlock ≠ some w.heap.size := by
    have := hF.blt
    have := hF.glt
    exact ⟨by omega, by omega, by omega, fun e => by have := (hF.now.lt _ e).2; omega⟩
  have g0 : w0.cell? ⟨K.b, 0, none⟩ = some (.int .i64 K.W) := hF0.cell (k := 0) rfl
  have g1 : w0.cell? ⟨K.b, 1, none⟩ = some (.int .i64 K.H) := hF0.cell (k := 1) rfl
  have g2 : w0.cell? ⟨K.b, 2, none⟩ = some K.bv := hF0.cell (k := 2) rfl
  have HPX : Hid (∀ w', Calls Try.prog 104 #[.agg #[.int .i64 K.W, .int .i64 K.H, K.bv], .agg #[.int .i64 x, .int .i64 y]] w' fun e w'' => e = .returned (.int .i64 (ix K.W (x, y) : Nat)) ∧ Below w'.heap.size w' w'') := Lib.hid fun w' => pix_any K.W K.H (x, y) K.bv w' hK.W8 hK.H8 hin
  have hi : ix K.W (x, y) < K.n := by rw [hK.n]; exact ix_lt hin
  obtain ⟨i, hie⟩ : ∃ i, i = ix K.W (x, y) := ⟨_, rfl⟩
  rw [← hie] at HPX hi
  have HIE := Lib.hid hie
  have HF0 := Lib.hid hF0
  have HB0 := Lib.hid hB0
  have HN := Lib.hid hN
  have HIN := Lib.hid hin
  have HK := Lib.hid hK
  have HX := Lib.hid hX
  have HE := Lib.hid hE
  have HKS := Lib.hid hks
  have HLEN := Lib.hid hlen
  have HMU := Lib.hid hmu
  clear hie hF0 hB0 hN hin hK hX hE hF hlen hmu
  go_enter Try.func105, Try.ntmps105
  go_upto_region 1 with fail
  rw [← hw0]
  clear hw0 hb0
  obtain ⟨N, hNe⟩ : ∃ N, N = w.heap.size := ⟨_, rfl⟩
  rw [← hNe] at n0 n1 hNB ⊢
  clear hNe
  have g0d : w0.drew.cell? ⟨K.b, 0, none⟩ = some (.int .i64 K.W) := g0
  have g1d : w0.drew.cell? ⟨K.b, 1, none⟩ = some (.int .i64 K.H) := g1
  have g2d : w0.drew.cell? ⟨K.b, 2, none⟩ = some K.bv := g2
  have n0d : w0.drew.cell? ⟨N, 0, none⟩ = some (.int .i64 x) := n0
  have n1d : w0.drew.cell? ⟨N, 1, none⟩ = some (.int .i64 y) := n1
  go_cut [9] (fun iv wz => iv = .int .i64 i ∧ HeldB w0 wz)
  case first =>
    go_wp2
    go_region_held3 (fun w' => w'.cell? ⟨K.b, 0, none⟩ = some (.int .i64 K.W) ∧ w'.cell? ⟨K.b, 1, none⟩ = some (.int .i64 K.H) ∧ w'.cell? ⟨K.b, 2, none⟩ = some K.bv ∧ w'.cell? ⟨N, 0, none⟩ = some (.int .i64 x) ∧ w'.cell? ⟨N, 1, none⟩ = some (.int .i64 y))
      (first | with_reducible exact ⟨g0d, g1d, g2d, n0d, n1d⟩ | with_reducible exact ⟨q0, q1, q2, q3, q4⟩)
      (first | ((go_at_call 104; refine (HPX.out _).mono ?_; rintro e w9 ⟨rfl, hb9⟩; have q0 := cell_keep hb9 g0d; have q1 := cell_keep hb9 g1d; have q2 := cell_keep hb9 g2d; have q3 := cell_keep hb9 n0d; have q4 := cell_keep hb9 n1d; have HB9 := Lib.hid hb9; clear hb9)) | fail)
    all_goals
      go_wp2
      go_meet
      exact ⟨rfl, heldB_trans (below_drewN (Below.refl _ w0) 1) HB9.out⟩
  case rest =>
    obtain ⟨rfl, hH⟩ := hcut
    clear HPX g0d g1d g2d n0d n1d
    have n0 := cell_keep hH n0
    have n1 := cell_keep hH n1
    have hF1 := HF0.out.below hH
    have hB1 : Fr B K v v w wc := HB0.out.trans (Fr.of v (by have := HF0.out.blt; omega) hH)
    clear hH HF0 HB0 g0 g1 g2
    have p4 : wc.cell? ⟨K.b, 6, none⟩ = some (.slice (some ⟨K.G, 0, none⟩) K.n K.n) := hF1.cell (k := 6) rfl
    have hfi : wc.cell? ⟨K.G, i, none⟩ = some (.bool (s.free.getD i false)) := hF1.bit hfl hi
    have HF1 := Lib.hid hF1
    have HB1 := Lib.hid hB1
    clear hF1 hB1
    cases hc : s.free.getD i false with
    | false =>
      rw [hc] at hfi
      have HC := Lib.hid hc
      go_wp2
      go_ret
      have hrun : run K.env (f + 1) (.each k (x, y) path) s = (true, s) := by
        unfold run
        rw [if_pos (by show s.free.getD (ix K.W (x, y)) false = false; rw [← HIE.out]; exact HC.out)]
      rw [hrun]
      exact ⟨rfl, v, u, HF1.out, HB1.out⟩
    | true =>
      rw [hc] at hfi
      have HC := Lib.hid hc
      have p11 : wc.cell? ⟨K.b, 11, none⟩ = some (.int .i64 s.steps) := HF1.out.cell (k := 11) rfl
      have f11 := HF1.out.fz 11
      have hst : s.steps ≤ 1000000 := HN.out.1
      have hF5 := HF1.out.put (k := 11) (y := .int .i64 ((s.steps : Int) + 1)) (s' := { s with steps := s.steps + 1 }) rfl rfl rfl rfl
      have hB5 := HB1.out.trans (Fr.set (k := 11) (y := .int .i64 ((s.steps : Int) + 1)) v v HF1.out.blt.1 rfl)
      have n05 := keep_set (k := 11) (y := .int .i64 ((s.steps : Int) + 1)) hNB.2.1 n0
      have n15 := keep_set (k := 11) (y := .int .i64 ((s.steps : Int) + 1)) hNB.2.1 n1
      have HF5 := Lib.hid hF5
      have HB5 := Lib.hid hB5
      clear hF5 hB5
      go_upto_region 5 with fail
      obtain ⟨w5, hw5⟩ : ∃ w5, w5 = wc.setCell ⟨K.b, 11, none⟩ (.int .i64 ((s.steps : Int) + 1)) := ⟨_, rfl⟩
      rw [← hw5] at HF5 HB5 n05 n15
      rw [← hw5]
      clear hw5 p4 hfi p11 f11 n0 n1
      have p11 : w5.cell? ⟨K.b, 11, none⟩ = some (.int .i64 ((s.steps : Int) + 1)) := HF5.out.cell (k := 11) rfl
      by_cases c2 : 1000000 < s.steps + 1
      · have d2 : decide ((1000000 : Int) < ((s.steps : Int) + 1)) = true := decide_eq_true (by omega)
        have C2 := Lib.hid c2
        clear c2
        go_wp2
        go_ret
        have hrun : run K.env (f + 1) (.each k (x, y) path) s = (false, { s with steps := s.steps + 1 }) := by
          unfold run
          rw [if_neg (by show ¬ s.free.getD (ix K.W (x, y)) false = false; rw [← HIE.out, HC.out]; decide), if_pos C2.out]
        rw [hrun]
        exact ⟨rfl, v, u, HF5.out, HB5.out⟩
      · have d2 : decide ((1000000 : Int) < ((s.steps : Int) + 1)) = false := decide_eq_false (by omega)
        have C2 := Lib.hid c2
        clear c2
        have hke : k < K.es.length := by have := HK.out.le; omega
        have hkw : k < K.wl := by have := HK.out.wl; omega
        have q4 : w5.cell? ⟨K.b, 4, none⟩ = some (.slice K.ea K.es.length K.ec) := HF5.out.cell (k := 4) rfl
        have q5 : w5.cell? ⟨K.b, 5, none⟩ = some (.slice (some ⟨K.wb, 0, none⟩) K.wl K.wc) := HF5.out.cell (k := 5) rfl
        have q6 := HF5.out.way k hkw
        have hea := HF5.out.ends
        obtain ⟨eb, eo, he1, he2⟩ := psl_addr hea (by omega)
        rw [he1] at q4 hea
        obtain ⟨q7, q8⟩ := psl_at hea hke
        obtain ⟨ex, hex⟩ : ∃ ex, ex = (K.es.getD k (0, 0)).1 := ⟨_, rfl⟩
        obtain ⟨ey, hey⟩ : ∃ ey, ey = (K.es.getD k (0, 0)).2 := ⟨_, rfl⟩
        rw [← hex] at q7
        rw [← hey] at q8
        have HEX := Lib.hid hex
        have HEY := Lib.hid hey
        clear hea hex hey he1 he2
        go_upto_region 7 with fail
        go_cut [10] (fun pv wz => pv = .pointer (some ⟨w5.heap.size, 0, none⟩) ∧ wz.cell? ⟨w5.heap.size, 0, none⟩ = some (.int .i64 ex) ∧ wz.cell? ⟨w5.heap.size, 1, none⟩ = some (.int .i64 ey) ∧ HeldB w5 wz)
        case first =>
          obtain ⟨wa, hwa⟩ : ∃ wa, wa = w5.alloc (.cells #[.int .i64 0, .int .i64 0] 48) := ⟨_, rfl⟩
          have hba : Below w5.heap.size w5 wa := by rw [hwa]; exact (Below.refl _ _).alloc (Nat.le_refl _) _
          have a4 := cell_keep hba q4
          have a5 := cell_keep hba q5
          have a6 := cell_keep hba q6
          have a7 := cell_keep hba q7
          have a8 := cell_keep hba q8
          rw [hwa] at a4 a5 a6 a7 a8
          clear hwa hba
          go_wp2
          go_region
          all_goals
            go_wp2
            go_meet
            refine ⟨rfl, ?_, ?_, ?_⟩
            · show (w5.alloc _).cell? _ = _
              rw [World.cell?_alloc_at _ _ _ _ rfl]; rfl
            · show (w5.alloc _).cell? _ = _
              rw [World.cell?_alloc_at _ _ _ _ rfl]; rfl
            · exact below_drewN ((Below.refl _ _).alloc (Nat.le_refl _) _) 1
        case rest =>
          obtain ⟨rfl, m0, m1, hH⟩ := hcut
          clear q4 q5 q6 q7 q8 p11 hke hkw d2 hst
          have hMB : w5.heap.size ≠ K.b ∧ w5.heap.size ≠ K.G ∧ v.ownBlock ≠ some w5.heap.size := by
            have := HF5.out.blt
            have := HF5.out.glt
            exact ⟨by omega, by omega, fun e => by have := (HF5.out.now.lt _ e).2; omega⟩
          have n0 := cell_keep hH n05
          have n1 := cell_keep hH n15
          have hF6 := HF5.out.below hH
          have hB6 := HB5.out.trans (Fr.of v (by have := HF5.out.blt; omega) hH)
          obtain ⟨M, hM⟩ : ∃ M, M = w5.heap.size := ⟨_, rfl⟩
          rw [← hM] at m0 m1 hMB ⊢
          clear hM hH n05 n15 HF5 HB5
          obtain ⟨s1, hs1⟩ : ∃ s1 : St, s1 = { s with steps := s.steps + 1 } := ⟨_, rfl⟩
          rw [← hs1] at hF6
          have hfl1 : s1.free.length = K.n := by rw [hs1]; exact hfl
          have q4 : wc.cell? ⟨K.b, 6, none⟩ = some (.slice (some ⟨K.G, 0, none⟩) K.n K.n) := hF6.cell (k := 6) rfl
          have qi := hF6.bit hfl1 hi
          have qf := hF6.free.frozenAt i
          have hF7 := hF6.mark i false
          have hB7 := hB6.trans (Fr.bit (k := i) (y := .bool false) v hF6.glt.1)
          have HS1 := Lib.hid hs1
          have HF7 := Lib.hid hF7
          have HB7 := Lib.hid hB7
          clear hs1 hF7 hB7 hF6 hB6
          obtain ⟨s2, hs2⟩ : ∃ s2 : St, s2 = { s1 with free := s1.free.set i false } := ⟨_, rfl⟩
          rw [← hs2] at HF7
          have HS2 := Lib.hid hs2
          clear hs2
          go_upto_region 8 with fail
          go_cut [54] (fun bv wz => bv = .bool (decide (x = ex ∧ y = ey)) ∧ wc = wz)
          case first =>
            by_cases e1 : x = ex
            · by_cases e2 : y = ey
              · have d1 : (x == ex) = true := by simpa using e1
                have d2 : (y == ey) = true := by simpa using e2
                have HD : Hid (decide (x = ex ∧ y = ey) = true) := Lib.hid (decide_eq_true ⟨e1, e2⟩)
                clear e1 e2
                go_wp2
                go_meet
                exact ⟨by rw [HD.out], rfl⟩
              · have d1 : (x == ex) = true := by simpa using e1
                have d2 : (y == ey) = false := by simpa using e2
                have HD : Hid (decide (x = ex ∧ y = ey) = false) := Lib.hid (decide_eq_false fun h => e2 h.2)
                clear e1 e2
                go_wp2
                go_meet
                exact ⟨by rw [HD.out], rfl⟩
            · have d1 : (x == ex) = false := by simpa using e1
              have HD : Hid (decide (x = ex ∧ y = ey) = false) := Lib.hid (decide_eq_false fun h => e1 h.1)
              clear e1
              go_wp2
              go_meet
              exact ⟨by rw [HD.out], rfl⟩
          case rest =>
          obtain ⟨rfl, rfl⟩ := hcut
          have hxb : 0 ≤ x ∧ x < 8 := by have h1 := HIN.out; have h2 := HK.out.W8; exact ⟨h1.1, by have := h1.2.2.1; simp only at this; omega⟩
          have hyb : 0 ≤ y ∧ y < 8 := by have h1 := HIN.out; have h2 := HK.out.H8; exact ⟨h1.2.1, by have := h1.2.2.2; simp only at this; omega⟩
          by_cases h1 : x = ex ∧ y = ey
          · rw [decide_eq_true h1]
            have H1 := Lib.hid h1
            clear h1
            have hk2 : s2.now.length = k := by rw [HS2.out, HS1.out]; exact hk
            have hk4 : k < 4 := by have := HK.out.l4; omega
            go_upto_region 10 with fail
            obtain ⟨w7, hw7⟩ : ∃ w7, w7 = wc.setCell ⟨K.G, i, none⟩ (.bool false) := ⟨_, rfl⟩
            rw [← hw7] at HF7 HB7
            rw [← hw7]
            clear hw7 q4 qi qf m0 m1 n0 n1
            have p7 : w7.cell? ⟨K.b, 7, none⟩ = some v := HF7.out.cell (k := 7) rfl
            have hk6 : s2.now.length < 1000000 := by have := HK.out.l4; omega
            go_upto_region 11 with (first | (refine wpList_fpush (v := v) rfl (.tmp 65) (.tmp 67) rfl rfl path HF7.out rfl hk6 (fun g c w8 hc8 hf8 hF8 hB8 => ?_); have HF8 := Lib.hid hF8; have HB8 := Lib.hid hB8; clear hF8 hB8) | fail)
            obtain ⟨w9, hw9⟩ : ∃ w9, w9 = w8.setCell ⟨K.b, 7, none⟩ (.slice (some ⟨g, 0, none⟩) (k + 1) c) := ⟨_, rfl⟩
            rw [hk2] at HF8 HB8
            rw [← hw9] at HF8 HB8 ⊢
            clear hw9 p7 hc8 hf8
            obtain ⟨s3, hs3⟩ : ∃ s3 : St, s3 = { s2 with now := s2.now ++ [path] } := ⟨_, rfl⟩
            rw [← hs3] at HF8
            have hk3 : s3.now.length = k + 1 := by rw [hs3]; simp [hk2]
            have hfl3 : s3.free.length = K.n := by rw [hs3, HS2.out, HS1.out]; simp [hfl]
            have hn3 : Num (.next (k + 1)) s3 := by
              have := HN.out.2
              have := C2.out
              rw [hs3, HS2.out, HS1.out]
              exact ⟨by show s.steps + 1 ≤ 1000000; omega, by show s.n ≤ s.steps + 1; omega⟩
            have hmu3 : mu K.env (.next (k + 1)) ≤ f := by
              have h1 := HMU.out
              unfold mu FK.env at h1 ⊢
              simp only at h1 ⊢
              have h2 : (K.ss.length - k) * 80 = (K.ss.length - (k + 1)) * 80 + 80 := by omega
              omega
            have hcall : Calls Try.prog 69 #[.pointer (some ⟨K.b, 0, none⟩), .int .i64 ((k : Int) + 1)] w9 fun e w' => Post K B (.slice (some ⟨g, 0, none⟩) (k + 1) c) w9 (run K.env f (.next (k + 1)) s3) e w' := HX.out (k + 1) s3 _ u w9 HF8.out hn3 hfl3 hk3 (by omega) hmu3
            have hrn := run_num K.env f (.next (k + 1)) s3 hn3
            obtain ⟨r, hr⟩ : ∃ r, r = run K.env f (.next (k + 1)) s3 := ⟨_, rfl⟩
            rw [← hr] at hcall hrn
            have hn4 : r.2.now.length = k + 1 := by rw [hrn.1]; exact hk3
            have hfl4 : r.2.free.length = K.n := by rw [hrn.2.1]; exact hfl3
            have HCALL := Lib.hid hcall
            have HS3 := Lib.hid hs3
            have HR := Lib.hid hr
            clear hcall hs3 hr hrn hn3 hfl3 hk3 hmu3 hk6
            go_upto_region 12 with (first | (go_at_call 69; refine (HCALL.out).mono ?_; rintro e w10 ⟨rfl, v10, u10, hF10, hB10⟩; have HF10 := Lib.hid hF10; have HB10 := Lib.hid hB10; clear hF10 hB10) | fail)
            obtain ⟨g10, c10, rfl, hc10, hc10'⟩ := HF10.out.nowv hn4
            have p7 : w10.cell? ⟨K.b, 7, none⟩ = some (.slice (some ⟨g10, 0, none⟩) (k + 1) c10) := HF10.out.cell (k := 7) rfl
            have f7 := HF10.out.fz 7
            have hkc : k ≤ c10 := by omega
            go_cut [] (fun wz => ∃ d, wz = (w10.setCell ⟨K.b, 7, none⟩ (.slice (some ⟨g10, 0, none⟩) k c10)).drewN d)
            case first =>
              go_wp2
              go_region
              all_goals
                go_wp2
                go_meet
                exact ⟨1, rfl⟩
            case rest =>
              obtain ⟨d, rfl⟩ := hcut
              have hF11 := (HF10.out.pop hn4).drewN d
              have hB11 := ((HB7.out.trans (HB8.out.trans HB10.out)).trans (Fr.set (k := 7) (y := .slice (some ⟨g10, 0, none⟩) k c10) (.slice (some ⟨g10, 0, none⟩) (k + 1) c10) (.slice (some ⟨g10, 0, none⟩) k c10) HF10.out.blt.1 rfl))
              have hB12 := hB11.trans (Fr.of (.slice (some ⟨g10, 0, none⟩) k c10) (by have := hF11.blt; show B ≤ ((w10.setCell _ _).drewN d).heap.size; omega) (below_drewN (Below.refl _ _) d))
              obtain ⟨w11, hw11⟩ : ∃ w11, w11 = (w10.setCell ⟨K.b, 7, none⟩ (.slice (some ⟨g10, 0, none⟩) k c10)).drewN d := ⟨_, rfl⟩
              rw [← hw11] at hF11 hB12
              rw [← hw11]
              clear hw11 hB11 p7 f7 hkc
              obtain ⟨s5, hs5⟩ : ∃ s5 : St, s5 = { r.2 with now := r.2.now.dropLast } := ⟨_, rfl⟩
              rw [← hs5] at hF11
              have hfl5 : s5.free.length = K.n := by rw [hs5]; exact hfl4
              have q4 : w11.cell? ⟨K.b, 6, none⟩ = some (.slice (some ⟨K.G, 0, none⟩) K.n K.n) := hF11.cell (k := 6) rfl
              have qi := hF11.bit hfl5 hi
              have qf := hF11.free.frozenAt i
              have hF12 := hF11.mark i true
              have hB13 := hB12.trans (Fr.bit (k := i) (y := .bool true) (.slice (some ⟨g10, 0, none⟩) k c10) hF11.glt.1)
              have HF12 := Lib.hid hF12
              have HB13 := Lib.hid hB13
              have HS5 := Lib.hid hs5
              clear hF11 hB12 hF12 hB13 hs5
              go_wp2
              go_ret
              have hrun : run K.env (f + 1) (.each k (x, y) path) s = (r.1, { s5 with free := s5.free.set i true }) := by
                unfold run
                rw [if_neg (by show ¬ s.free.getD (ix K.W (x, y)) false = false; rw [← HIE.out, HC.out]; decide), if_neg C2.out, if_pos (show (x, y) = K.env.ends.getD k (0, 0) from Prod.ext (H1.out.1.trans HEX.out) (H1.out.2.trans HEY.out))]
                rw [HS5.out, HR.out, HS3.out, HS2.out, HS1.out, HIE.out]
                rfl
              rw [hrun]
              exact ⟨rfl, _, u10, HF12.out, HB13.out⟩
          · rw [decide_eq_false h1]
            have H1 := Lib.hid h1
            clear h1
            go_upto_if 106 with fail
            obtain ⟨w7, hw7⟩ : ∃ w7, w7 = wc.setCell ⟨K.G, i, none⟩ (.bool false) := ⟨_, rfl⟩
            have n0 := keep_set (k := i) (y := .bool false) hNB.2.2.1 n0
            have n1 := keep_set (k := i) (y := .bool false) hNB.2.2.1 n1
            have m0 := keep_set (k := i) (y := .bool false) hMB.2.1 m0
            have m1 := keep_set (k := i) (y := .bool false) hMB.2.1 m1
            rw [← hw7] at HF7 HB7 n0 n1 m0 m1
            rw [← hw7]
            clear hw7 q4 qi qf
            have hpl : path.length ≤ 30 := by have := HLEN.out; omega
            have hpl2 : ¬ (9223372036854775807 < path.length + 1) := by omega
            obtain ⟨r1, hr1⟩ : ∃ r1, r1 = (if x < ex then run K.env f (.each k (x + 1, y) (path ++ [82])) s2 else (true, s2)) := ⟨_, rfl⟩
            have hk2 : s2.now.length = k := by rw [HS2.out, HS1.out]; exact hk
            have hfl2 : s2.free.length = K.n := by rw [HS2.out, HS1.out]; simp [hfl]
            have hn2 : Num (.each k (x, y) path) s2 := by
              have h1 := HN.out
              have h2 := C2.out
              rw [HS2.out, HS1.out]
              exact ⟨by show s.steps + 1 ≤ 1000000; omega, by show s.n ≤ s.steps + 1 + 1; have := h1.2; omega⟩
            have hxE : ex < (K.W : Int) ∧ ey < (K.H : Int) := by
              have hke : k < K.es.length := by have := HK.out.le; omega
              have := HK.out.es _ (List.getElem_mem hke)
              rw [HEX.out, HEY.out, getD_get hke]
              exact ⟨this.2.2.1, this.2.2.2⟩
            go_cut [12] (fun bv wz => bv = .bool r1.1 ∧ ∃ v' u', FamR wz B K v' u' r1.2 ∧ Fr B K v v' w7 wz)
            case first =>
              by_cases hx : x < ex
              · have dx : decide (x < ex) = true := decide_eq_true hx
                rw [if_pos hx] at hr1
                have hinx : InG K.W K.H (x + 1, y) := by
                  have h1 := HIN.out
                  have h2 := hxE
                  exact ⟨by have := h1.1; simp only at this ⊢; omega, h1.2.1, by simp only; omega, h1.2.2.2⟩
                have hlx : (path ++ [82]).length + ((K.es.getD k (0, 0)).1 - (x + 1)).toNat + ((K.es.getD k (0, 0)).2 - y).toNat ≤ 30 := by
                  have h1 := HLEN.out
                  rw [← HEX.out] at h1 ⊢
                  rw [List.length_append, List.length_singleton]
                  omega
                have hmx : mu K.env (.each k (x + 1, y) (path ++ [82])) ≤ f := by
                  have h1 := HMU.out
                  unfold mu FK.env at h1 ⊢
                  simp only at h1 ⊢
                  rw [← HEX.out] at h1 ⊢
                  omega
                have hcall : Calls Try.prog 105 #[.pointer (some ⟨K.b, 0, none⟩), .int .i64 k, .agg #[.int .i64 (x + 1), .int .i64 y], .string ({ data := path.toArray } ++ { data := #[82] })] w7 fun e w' => Post K B v w7 (run K.env f (.each k (x + 1, y) (path ++ [82])) s2) e w' := by
                  rw [ByteArray.mk_append_mk path [82]]
                  exact HE.out k (x + 1) y (path ++ [82]) s2 v u w7 HF7.out hn2 hfl2 hk2 hks hinx hlx hmx
                have HR1 := Lib.hid hr1
                have HCALL := Lib.hid hcall
                clear hr1 hcall hinx hlx hmx
                go_wp2_with (first | (go_at_call 105; refine (HCALL.out).mono ?_; rintro e w8 ⟨rfl, vv, uu, hF8, hB8⟩; have HF8 := Lib.hid hF8; have HB8 := Lib.hid hB8; clear hF8 hB8) | fail)
                go_meet
                exact ⟨by rw [HR1.out], vv, uu, by rw [HR1.out]; exact HF8.out, HB8.out⟩
              · have dx : decide (x < ex) = false := decide_eq_false hx
                rw [if_neg hx] at hr1
                go_wp2
                go_meet
                exact ⟨by rw [hr1], v, u, by rw [hr1]; exact HF7.out, Fr.of v (by have := HF7.out.blt; omega) (Below.refl _ _)⟩
            case rest =>
              obtain ⟨rfl, v1, uu1, hF8, hB8⟩ := hcut
              have hr1n : r1.2.now = s2.now ∧ r1.2.free.length = s2.free.length ∧ (r1.1 = true → r1.2.steps ≤ 1000000) ∧ r1.2.n ≤ r1.2.steps + 1 := by
                rw [hr1]
                split
                · have h := run_num K.env f (.each k (x + 1, y) (path ++ [82])) s2 hn2
                  exact ⟨h.1, h.2.1, h.2.2.1, h.2.2.2.2⟩
                · exact ⟨rfl, rfl, fun _ => hn2.1, hn2.2⟩
              have n0 := hB8.cell hNB.2.1 hNB.2.2.1 hNB.2.2.2 n0
              have n1 := hB8.cell hNB.2.1 hNB.2.2.1 hNB.2.2.2 n1
              have m0 := hB8.cell hMB.1 hMB.2.1 hMB.2.2 m0
              have m1 := hB8.cell hMB.1 hMB.2.1 hMB.2.2 m1
              have hB8 := HB7.out.trans hB8
              have HR1 := Lib.hid hr1
              have HR1N := Lib.hid hr1n
              have HF8 := Lib.hid hF8
              have HB8 := Lib.hid hB8
              have HN2 := Lib.hid hn2
              clear hr1 hr1n hF8 hB8 HF7 HB7 hn2
              go_upto_region 19 with fail
              go_cut [12, 125] (fun av bv wz => av = .bool r1.1 ∧ bv = .bool (r1.1 && decide (y < ey)) ∧ wc = wz)
              case first =>
                cases hb : r1.1 with
                | false =>
                  have HB := Lib.hid hb
                  clear hb
                  go_wp2
                  go_meet
                  exact ⟨by rw [HB.out], by rw [HB.out]; rfl, rfl⟩
                | true =>
                  have HB := Lib.hid hb
                  clear hb
                  by_cases hy : y < ey
                  · have HD : Hid (decide (y < ey) = true) := Lib.hid (decide_eq_true hy)
                    go_wp2
                    go_meet
                    exact ⟨by rw [HB.out], by rw [HB.out, HD.out]; rfl, rfl⟩
                  · have HD : Hid (decide (y < ey) = false) := Lib.hid (decide_eq_false hy)
                    go_wp2
                    go_meet
                    exact ⟨by rw [HB.out], by rw [HB.out, HD.out]; rfl, rfl⟩
              case rest =>
              obtain ⟨rfl, rfl, rfl⟩ := hcut
              go_upto_if 125 with fail
              obtain ⟨r2, hr2⟩ : ∃ r2, r2 = (if r1.1 = true ∧ y < ey then run K.env f (.each k (x, y + 1) (path ++ [85])) r1.2 else r1) := ⟨_, rfl⟩
              go_cut [12] (fun bv wz => bv = .bool r2.1 ∧ ∃ v' u', FamR wz B K v' u' r2.2 ∧ Fr B K v1 v' wc wz)
              case first =>
                by_cases hy : r1.1 = true ∧ y < ey
                · have hd : (r1.1 && decide (y < ey)) = true := by simp [hy]
                  rw [hd]
                  rw [if_pos hy] at hr2
                  have hiny : InG K.W K.H (x, y + 1) := by
                    have h1 := HIN.out
                    have h2 := hxE
                    exact ⟨h1.1, by have := h1.2.1; simp only at this ⊢; omega, h1.2.2.1, by simp only; omega⟩
                  have hly : (path ++ [85]).length + ((K.es.getD k (0, 0)).1 - x).toNat + ((K.es.getD k (0, 0)).2 - (y + 1)).toNat ≤ 30 := by
                    have h1 := HLEN.out
                    rw [← HEY.out] at h1 ⊢
                    rw [List.length_append, List.length_singleton]
                    omega
                  have hmy : mu K.env (.each k (x, y + 1) (path ++ [85])) ≤ f := by
                    have h1 := HMU.out
                    unfold mu FK.env at h1 ⊢
                    simp only at h1 ⊢
                    rw [← HEY.out] at h1 ⊢
                    omega
                  have hcall : Calls Try.prog 105 #[.pointer (some ⟨K.b, 0, none⟩), .int .i64 k, .agg #[.int .i64 x, .int .i64 (y + 1)], .string ({ data := path.toArray } ++ { data := #[85] })] wc fun e w' => Post K B v1 wc (run K.env f (.each k (x, y + 1) (path ++ [85])) r1.2) e w' := by
                    rw [ByteArray.mk_append_mk path [85]]
                    exact HE.out k x (y + 1) (path ++ [85]) r1.2 v1 uu1 wc HF8.out ⟨HR1N.out.2.2.1 hy.1, HR1N.out.2.2.2⟩ (by rw [HR1N.out.2.1]; exact hfl2) (by rw [HR1N.out.1]; exact hk2) hks hiny hly hmy
                  have HR2 := Lib.hid hr2
                  have HCALL := Lib.hid hcall
                  clear hr2 hcall hiny hly hmy hy hd
                  go_wp2_with (first | (go_at_call 105; refine (HCALL.out).mono ?_; rintro e w8 ⟨rfl, vv, uu, hF9, hB9⟩; have HF9 := Lib.hid hF9; have HB9 := Lib.hid hB9; clear hF9 hB9) | fail)
                  go_meet
                  exact ⟨by rw [HR2.out], vv, uu, by rw [HR2.out]; exact HF9.out, HB9.out⟩
                · have hd : (r1.1 && decide (y < ey)) = false := by
                    cases hb : r1.1
                    · rfl
                    · rw [hb] at hy
                      simpa using hy
                  rw [hd]
                  rw [if_neg hy] at hr2
                  clear hy hd
                  go_wp2
                  go_meet
                  exact ⟨by rw [hr2], v1, uu1, by rw [hr2]; exact HF8.out, Fr.of v1 (by have := HF8.out.blt; omega) (Below.refl _ _)⟩
              case rest =>
              obtain ⟨rfl, v2, uu2, hF9, hB9⟩ := hcut
              have hfl9 : r2.2.free.length = K.n := by
                rw [hr2]
                split
                · rename_i hy
                  have h := run_num K.env f (.each k (x, y + 1) (path ++ [85])) r1.2 ⟨HR1N.out.2.2.1 hy.1, HR1N.out.2.2.2⟩
                  rw [h.2.1, HR1N.out.2.1]; exact hfl2
                · rw [HR1N.out.2.1]; exact hfl2
              have q4 : wc.cell? ⟨K.b, 6, none⟩ = some (.slice (some ⟨K.G, 0, none⟩) K.n K.n) := hF9.cell (k := 6) rfl
              have qi := hF9.bit hfl9 hi
              have qf := hF9.free.frozenAt i
              have hF12 := hF9.mark i true
              have hB13 := (HB8.out.trans hB9).trans (Fr.bit (k := i) (y := .bool true) v2 hF9.glt.1)
              have HF12 := Lib.hid hF12
              have HB13 := Lib.hid hB13
              have HR2 := Lib.hid hr2
              clear hF9 hB9 hF12 hB13 hr2 HF8 HB8 n0 n1 m0 m1
              go_wp2
              go_ret
              have hrun : run K.env (f + 1) (.each k (x, y) path) s = (r2.1, { r2.2 with free := r2.2.free.set i true }) := by
                unfold run
                rw [if_neg (by show ¬ s.free.getD (ix K.W (x, y)) false = false; rw [← HIE.out, HC.out]; decide), if_neg C2.out, if_neg (show ¬ (x, y) = K.env.ends.getD k (0, 0) from fun e => H1.out ⟨(congrArg Prod.fst e).trans HEX.out.symm, (congrArg Prod.snd e).trans HEY.out.symm⟩)]
                rw [HR2.out, HR1.out, HS2.out, HS1.out, HIE.out, HEX.out, HEY.out]
                rfl
              rw [hrun]
              exact ⟨rfl, v2, uu2, HF12.out, HB13.out⟩
end Go.Proofs.Ytdmpbbgcifodeaa
