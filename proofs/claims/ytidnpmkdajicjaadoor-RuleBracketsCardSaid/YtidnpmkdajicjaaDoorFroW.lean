/-
  (*rule.search).from: it comes to as many ends as cnt says.
-/
import Derived.Test.YtidnpmkdajicjaaDoorSeaW
namespace Go.Proofs.YtidnpmkdajicjaaDoor
open Go.RowKit LR

theorem bxs_step {fa fc : Nat → Nat} {t i m : Nat} (h : m ≤ fa i) : bxs fa fc (t + 1) i m = bxs fa fc t (i + 1) (fc (i + 1)) := by
  match m, h with
  | 0, _ => rfl
  | m + 1, h =>
    simp only [bxs, rb, show m < fa i by omega, if_true, List.nil_append]
theorem bxs_box {fa fc : Nat → Nat} {t i j : Nat} (h : fa i ≤ j) : bxs fa fc (t + 1) i (j + 1) = (i, j) :: bxs fa fc (t + 1) i j := by
  simp only [bxs, rb, show ¬ j < fa i by omega, if_false, List.cons_append]
def Zer (i m : Nat) (F : Nat → Nat → Nat) : Prop := ∀ r j, (i < r ∨ (r = i ∧ j < m)) → F r j = 0
/-- What the letter x adds. -/
def term (K : SK) (i j : Nat) (bs : List (Nat × Nat)) (F : Nat → Nat → Nat) (L Us : Nat → Nat) (x : Nat) : Nat :=
  if may K.fc i j x F L Us then cnt K.k K.fc bs (put2 F i j (x + 1)) (put1 L x (L x - 1)) (put1 Us x (Us x + 1)) else 0
structure Bnd (K : SK) (F : Nat → Nat → Nat) (L Us : Nat → Nat) : Prop where
  f : ∀ r j, F r j ≤ 1000
  u : ∀ x, x < K.k → L x + Us x ≤ 1000
structure KB (K : SK) : Prop where
  n : K.n ≤ 1000
  k : K.k < 1000
  c : ∀ r, K.fc r ≤ 1000
  d : ∀ r, K.fc (r + 1) ≤ K.fc r

set_option maxRecDepth 100000 in
set_option maxHeartbeats 8000000 in
theorem from_any {K : SK} (kb : KB K) {B : Nat} : ∀ (N t i m : Nat) (F : Nat → Nat → Nat) (L Us : Nat → Nat) (q : Nat) (w : World), (bxs K.fa K.fc t i m).length < N → i + t = K.n → (i < K.n → m ≤ K.fc i) → m ≤ 1000 →
    AllR w B (K.reg F L Us q) → K.Ok w B → B ≤ w.heap.size → Zer i m F → Bnd K F L Us → q + cnt K.k K.fc (bxs K.fa K.fc t i m) F L Us ≤ 4611686018427387904 →
    Calls Tryd.prog 23 #[.pointer (some ⟨K.b, 0, none⟩), .int .i64 i, .int .i64 ((m : Int) - 1)] w fun e w' => EachOut K B (q + cnt K.k K.fc (bxs K.fa K.fc t i m) F L Us) F L Us w e w' := by
  intro N
  induction N with
  | zero => intro t i m F L Us q w hN; exact absurd hN (Nat.not_lt_zero _)
  | succ N ih =>
    intro t i m F L Us q w hN hit hm hm1 hA ok hBw hZ hB hq
    have IH := Lib.hid ih
    have HA := Lib.hid hA
    have HOK := Lib.hid ok
    have HZ := Lib.hid hZ
    have HBD := Lib.hid hB
    have KBD := Lib.hid kb
    obtain ⟨bs, hbs⟩ : ∃ bs, bs = bxs K.fa K.fc t i m := ⟨_, rfl⟩
    rw [← hbs] at hN hq ⊢
    have HBS := Lib.hid hbs
    have HN := Lib.hid hN
    have HQ := Lib.hid hq
    have HIT := Lib.hid hit
    have HM := Lib.hid hm
    have hkn := kb.n
    have c2 : w.cell? ⟨K.b, 2, none⟩ = some (.slice K.Ac K.n K.cc) := sea_cell hA rfl
    have hin := fun r => inner_any hA ok r
    have HIN := Lib.hid hin
    clear ih hA ok hZ hB kb hbs hN hq hit hm hin
    go_enter Tryd.func23, Tryd.ntmps23
    go_wp2
    go_loopw [1, 2] (fun iv jv wr => ∃ t i' m' : Nat, i' + t = K.n ∧ iv = .int .i64 i' ∧ jv = .int .i64 ((m' : Int) - 1) ∧ bs = bxs K.fa K.fc t i' m' ∧ (i' < K.n → m' ≤ K.fc i') ∧ m' ≤ 1000 ∧ Zer i' m' F ∧ w = wr) (fun iv _ _ => K.n - (intOf iv).toNat)
    case atStart => exact ⟨t, i, m, HIT.out, rfl, rfl, HBS.out, HM.out, hm1, HZ.out, rfl⟩
    case round =>
      obtain ⟨t', i', m', hit', rfl, rfl, hbs', hm', hm1', hZ', rfl⟩ := hrel
      have HBS' := Lib.hid hbs'
      have HM' := Lib.hid hm'
      have HZ' := Lib.hid hZ'
      have HIT' := Lib.hid hit'
      clear hbs' hm' hZ' hit'

      by_cases hin : i' < K.n
      · have d0 : decide ((i' : Int) < (K.n : Int)) = true := decide_eq_true (by omega)
        by_cases hj : m' ≤ K.fa i'
        · have d1 : decide ((m' : Int) - 1 < (K.fa i' : Int)) = true := decide_eq_true (by omega)
          obtain ⟨t2, ht2⟩ : ∃ t2, t' = t2 + 1 := ⟨t' - 1, by have := HIT'.out; omega⟩
          by_cases hi1 : i' + 1 < K.n
          · have d2 : decide ((i' : Int) + 1 < (K.n : Int)) = true := decide_eq_true (by omega)
            obtain ⟨b, o, e, hb, hc⟩ := sl_nat HOK.out.sc hi1
            rw [e] at c2
            have hcb := KBD.out.c (i' + 1)
            have HC := Lib.hid e
            clear e
            go_wp2_with (first | (go_at_call 30; refine (HIN.out _).mono ?_; rintro e w' ⟨rfl, rfl⟩) | fail)
            go_roundw
            case rel =>
              refine ⟨t2, i' + 1, K.fc (i' + 1), by have := HIT'.out; omega, by go_num, by go_num, ?_, fun _ => Nat.le_refl _, hcb, fun r j hr => HZ'.out r j (by omega), trivial⟩
              rw [HBS'.out, ht2, bxs_step hj]
            case measure => simp [intOf]; omega
          · have d2 : decide ((i' : Int) + 1 < (K.n : Int)) = false := decide_eq_false (by omega)
            go_wp2_with (first | (go_at_call 30; refine (HIN.out _).mono ?_; rintro e w' ⟨rfl, rfl⟩) | fail)
            go_roundw
            case rel =>
              refine ⟨t2, i' + 1, m', by have := HIT'.out; omega, by go_num, rfl, ?_, fun h => absurd h hi1, hm1', fun r j hr => HZ'.out r j (by omega), trivial⟩
              rw [HBS'.out, ht2, bxs_step hj]
              have : t2 = 0 := by have := HIT'.out; omega
              rw [this]; rfl
            case measure => simp [intOf]; omega
        · have d1 : decide ((m' : Int) - 1 < (K.fa i' : Int)) = false := decide_eq_false (by omega)
          have d2 : ((i' : Int) == (K.n : Int)) = false := by simpa using (by omega : ¬ (i' : Int) = (K.n : Int))
          obtain ⟨t2, ht2⟩ : ∃ t2, t' = t2 + 1 := ⟨t' - 1, by have := HIT'.out; omega⟩
          obtain ⟨j, rfl⟩ : ∃ j, m' = j + 1 := ⟨m' - 1, by omega⟩
          have hbx : bs = (i', j) :: bxs K.fa K.fc (t2 + 1) i' j := by rw [HBS'.out, ht2, bxs_box (by omega)]
          have hjc : j < K.fc i' := by have := HM'.out hin; omega
          have c4 : w.cell? ⟨K.b, 4, none⟩ = some (.slice K.AL K.k K.cL) := sea_cell HA.out rfl
          have HBX := Lib.hid hbx
          have HA2 := Lib.hid (show K.fa i' ≤ j by omega)
          have HT2 := Lib.hid ht2
          clear hbx ht2 HBS'
          go_upto_region 8 with (first | (go_at_call 30; refine (HIN.out _).mono ?_; rintro e w' ⟨rfl, rfl⟩) | fail)
          obtain ⟨bz, hbz⟩ : ∃ bz, bz = decide (j < K.fa i') := ⟨_, rfl⟩
          rw [← hbz]
          clear hbz d1
          go_loopw [61] (fun xv wr => ∃ x : Nat, x ≤ K.k ∧ xv = .int .i64 x ∧ AllR wr B (K.reg F L Us (q + rs x (term K i' j (bxs K.fa K.fc (t2 + 1) i' j) F L Us))) ∧ Below B w wr) (fun xv _ => K.k - (intOf xv).toNat)
          case atStart => exact ⟨0, Nat.zero_le _, rfl, HA.out, Below.refl _ _⟩
          case round =>
            obtain ⟨x, hx, rfl, hAr, hbr⟩ := hrel
            obtain ⟨w9, rfl⟩ : ∃ w9, w9 = wr := ⟨_, rfl⟩
            have HAR := Lib.hid hAr
            have HBR := Lib.hid hbr
            have hokr := HOK.out.below hbr
            have HOKR := Lib.hid hokr
            have m2 : w9.cell? ⟨K.b, 2, none⟩ = some (.slice K.Ac K.n K.cc) := sea_cell hAr rfl
            have m3 : w9.cell? ⟨K.b, 3, none⟩ = some (.slice K.AR K.n K.cR) := sea_cell hAr rfl
            have m4 : w9.cell? ⟨K.b, 4, none⟩ = some (.slice K.AL K.k K.cL) := sea_cell hAr rfl
            have m5 : w9.cell? ⟨K.b, 5, none⟩ = some (.slice (some ⟨K.gU, 0, none⟩) K.k K.k) := sea_cell hAr rfl
            clear hAr hbr c2 c4
            by_cases hxk : x < K.k
            · have dx : decide ((x : Int) < (K.k : Int)) = true := decide_eq_true (by omega)
              have hAL := HOKR.out.hL (by omega)
              have hARe := HOKR.out.hR (by omega)
              rw [hAL] at m4
              rw [hARe] at m3
              obtain ⟨cb, co, hce, hcb, hcc⟩ := sl_nat HOKR.out.sc hin
              rw [hce] at m2
              have eL : w9.cell? ⟨K.gL, x, none⟩ = some (.int .i64 (L x : Int)) := sea_l HAR.out HOKR.out hxk
              have eU : w9.cell? ⟨K.gU, x, none⟩ = some (.int .i64 (Us x : Int)) := sea_u HAR.out hxk
              have eU1 : w9.cell? ⟨K.gU, x - 1, none⟩ = some (.int .i64 (Us (x - 1) : Int)) := sea_u HAR.out (show x - 1 < K.k by omega)
              have eO : w9.cell? ⟨K.gO, i', none⟩ = some (.slice (some ⟨K.gR i', 0, none⟩) (K.fc i') (K.fc i')) := sea_o HAR.out HOKR.out hin
              have eO1 : w9.cell? ⟨K.gO, i' - 1, none⟩ = some (.slice (some ⟨K.gR (i' - 1), 0, none⟩) (K.fc (i' - 1)) (K.fc (i' - 1))) := sea_o HAR.out HOKR.out (show i' - 1 < K.n by omega)
              have HAL := Lib.hid hAL
              have HARE := Lib.hid hARe
              have HCE := Lib.hid hce
              have hk1000 := KBD.out.k
              have hc1000 := KBD.out.c i'
              clear hAL hARe hce
              go_upto_region 10 with fail
              go_cut [141] (fun bv wz => (∃ b : Bool, bv = .bool b ∧ (b = true ↔ ¬ may K.fc i' j x F L Us)) ∧ ∃ d, wz = w9.drewN d)
              case first =>
                simp only [List.append]
                have hUx := HBD.out.u x hxk
                have hUx1 := HBD.out.u (x - 1) (by omega)
                have eF : j + 1 < K.fc i' → w9.cell? ⟨K.gR i', j + 1, none⟩ = some (.int .i64 (F i' (j + 1) : Int)) := fun h => sea_f HAR.out hin h
                have hF1 := HBD.out.f i' (j + 1)
                have hF2 := HBD.out.f (i' - 1) j
                have hcd : j < K.fc (i' - 1) := by
                  by_cases e : i' = 0
                  · rw [e] at hjc ⊢; exact hjc
                  · have := KBD.out.d (i' - 1)
                    rw [show i' - 1 + 1 = i' by omega] at this; omega
                have eF2 : w9.cell? ⟨K.gR (i' - 1), j, none⟩ = some (.int .i64 (F (i' - 1) j : Int)) := sea_f HAR.out (show i' - 1 < K.n by omega) hcd
                have hc1001 := KBD.out.c (i' - 1)
                obtain ⟨lx, hlx⟩ : ∃ y, y = L x := ⟨_, rfl⟩
                obtain ⟨ux, hux⟩ : ∃ y, y = Us x := ⟨_, rfl⟩
                obtain ⟨uy, huy⟩ : ∃ y, y = Us (x - 1) := ⟨_, rfl⟩
                obtain ⟨f1, hf1⟩ : ∃ y, y = F i' (j + 1) := ⟨_, rfl⟩
                obtain ⟨f2, hf2⟩ : ∃ y, y = F (i' - 1) j := ⟨_, rfl⟩
                obtain ⟨C, hC⟩ : ∃ y, y = K.fc i' := ⟨_, rfl⟩
                obtain ⟨C1, hC1⟩ : ∃ y, y = K.fc (i' - 1) := ⟨_, rfl⟩
                obtain ⟨G0, hG0⟩ : ∃ y, y = K.gR i' := ⟨_, rfl⟩
                obtain ⟨G1, hG1⟩ : ∃ y, y = K.gR (i' - 1) := ⟨_, rfl⟩
                have hmay : Hid (may K.fc i' j x F L Us ↔ lx ≠ 0 ∧ (0 < x → ux ≠ uy) ∧ (j + 1 < C → x + 1 ≤ f1) ∧ (0 < i' → f2 < x + 1)) := by
                  show _ ↔ _
                  rw [hlx, hux, huy, hf1, hf2, hC]; rfl
                rw [← hlx] at eL
                rw [← hux] at eU hUx
                rw [← huy] at eU1
                rw [← hf1, ← hG0, ← hC] at eF
                rw [← hf2, ← hG1] at eF2
                rw [← hG0, ← hC] at eO
                rw [← hG1, ← hC1] at eO1
                rw [← hC] at hcc hc1000 hjc
                rw [← hC1] at hcd hc1001
                rw [← hf1] at hF1
                rw [← hf2] at hF2
                rw [← hlx] at hUx
                rw [← huy] at hUx1
                clear hlx hux huy hf1 hf2 hC hC1 hG0 hG1 HAR HBR HOKR hokr HQ HM HM' HZ HZ' HN HBX HIN IH
                have leafT : ∀ P : Prop, (P → False) → (P ↔ may K.fc i' j x F L Us) → Hid (¬ may K.fc i' j x F L Us) := fun P h1 h2 => Lib.hid (fun h => h1 (h2.2 h))
                have leafF : ∀ P : Prop, P → (P ↔ may K.fc i' j x F L Us) → Hid (may K.fc i' j x F L Us) := fun P h1 h2 => Lib.hid (h2.1 h1)
                have HT := Lib.hid leafT
                have HF := Lib.hid leafF
                clear leafT leafF
                by_cases h0 : lx = 0
                · have d00 : ((lx : Int) == 0) = true := by simpa using (by omega : (lx : Int) = 0)
                  have HE := HT.out _ (by clear eL eU eU1 eO eO1 eF eF2 hcc; intro hh; have := hh.1; have := hh.2.1; have := hh.2.2.1; have := hh.2.2.2; omega) hmay.out.symm
                  clear h0
                  go_wp2
                  go_quiet (fail)
                  go_wp2
                  go_meet
                  exact ⟨⟨_, rfl, ⟨fun _ => HE.out, fun _ => rfl⟩⟩, _, rfl⟩
                · have d00 : ((lx : Int) == 0) = false := by simpa using (by omega : ¬ (lx : Int) = 0)
                  by_cases h1 : 0 < x
                  · have d10 : decide ((0 : Int) < (x : Int)) = true := decide_eq_true (by omega)
                    as_aux_lemma =>
                      have p1 : 0 < x := h1
                      by_cases h6 : ux = uy
                      · have d6 : ((ux : Int) == (uy : Int)) = true := by simpa using (by omega : (ux : Int) = (uy : Int))
                        have HE := HT.out _ (by clear eL eU eU1 eO eO1 eF eF2 hcc; intro hh; have := hh.1; have := hh.2.1; have := hh.2.2.1; have := hh.2.2.2; omega) hmay.out.symm
                        clear h0 h6
                        go_wp2
                        go_quiet (fail)
                        go_wp2
                        go_meet
                        exact ⟨⟨_, rfl, ⟨fun _ => HE.out, fun _ => rfl⟩⟩, _, rfl⟩
                      · have d6 : ((ux : Int) == (uy : Int)) = false := by simpa using (by omega : ¬ (ux : Int) = (uy : Int))
                        by_cases h2 : j + 1 < C
                        · have d2' : decide ((j : Int) + 1 < (C : Int)) = true := decide_eq_true (by omega)
                          have eF' := eF h2
                          by_cases h3 : f1 < x + 1
                          · have d3 : decide ((f1 : Int) < (x : Int) + 1) = true := decide_eq_true (by omega)
                            have HE := HT.out _ (by clear eL eU eU1 eO eO1 eF eF2 hcc; intro hh; have := hh.1; have := hh.2.1; have := hh.2.2.1; have := hh.2.2.2; omega) hmay.out.symm
                            clear h0 h6 h3
                            go_wp2
                            go_quiet (fail)
                            go_wp2
                            go_meet
                            exact ⟨⟨_, rfl, ⟨fun _ => HE.out, fun _ => rfl⟩⟩, _, rfl⟩
                          · have d3 : decide ((f1 : Int) < (x : Int) + 1) = false := decide_eq_false (by omega)
                            by_cases h4 : 0 < i'
                            · have d4 : decide ((0 : Int) < (i' : Int)) = true := decide_eq_true (by omega)
                              have g4 := Lib.hid h4
                              have p4 : 0 < i' := h4
                              by_cases h5 : x + 1 ≤ f2
                              · have d5 : decide ((x : Int) + 1 ≤ (f2 : Int)) = true := decide_eq_true (by omega)
                                have HE := HT.out _ (by clear eL eU eU1 eO eO1 eF eF2 hcc; intro hh; have := hh.1; have := hh.2.1; have := hh.2.2.1; have := hh.2.2.2; omega) hmay.out.symm
                                clear h0 h6 h3 g4 h5
                                go_wp2
                                go_quiet (fail)
                                go_wp2
                                go_meet
                                exact ⟨⟨_, rfl, ⟨fun _ => HE.out, fun _ => rfl⟩⟩, _, rfl⟩
                              · have d5 : decide ((x : Int) + 1 ≤ (f2 : Int)) = false := decide_eq_false (by omega)
                                have HE := HF.out _ (by clear eL eU eU1 eO eO1 eF eF2 hcc; exact ⟨by omega, by omega, by omega, by omega⟩) hmay.out.symm
                                clear h0 h6 h3 g4 h5
                                go_wp2
                                go_quiet (fail)
                                go_wp2
                                go_meet
                                exact ⟨⟨_, rfl, ⟨fun e => (by cases e), fun h => absurd HE.out h⟩⟩, _, rfl⟩
                            · have d4 : decide ((0 : Int) < (i' : Int)) = false := decide_eq_false (by omega)
                              have p4 : ¬ 0 < i' := h4
                              have HE := HF.out _ (by clear eL eU eU1 eO eO1 eF eF2 hcc; exact ⟨by omega, by omega, by omega, by omega⟩) hmay.out.symm
                              clear h0 h6 h3 h4
                              go_wp2
                              go_quiet (fail)
                              go_wp2
                              go_meet
                              exact ⟨⟨_, rfl, ⟨fun e => (by cases e), fun h => absurd HE.out h⟩⟩, _, rfl⟩
                        · have d2' : decide ((j : Int) + 1 < (C : Int)) = false := decide_eq_false (by omega)
                          have p2 : ¬ j + 1 < C := h2
                          by_cases h4 : 0 < i'
                          · have d4 : decide ((0 : Int) < (i' : Int)) = true := decide_eq_true (by omega)
                            have g4 := Lib.hid h4
                            have p4 : 0 < i' := h4
                            by_cases h5 : x + 1 ≤ f2
                            · have d5 : decide ((x : Int) + 1 ≤ (f2 : Int)) = true := decide_eq_true (by omega)
                              have HE := HT.out _ (by clear eL eU eU1 eO eO1 eF eF2 hcc; intro hh; have := hh.1; have := hh.2.1; have := hh.2.2.1; have := hh.2.2.2; omega) hmay.out.symm
                              clear h0 h6 h2 g4 h5
                              go_wp2
                              go_quiet (fail)
                              go_wp2
                              go_meet
                              exact ⟨⟨_, rfl, ⟨fun _ => HE.out, fun _ => rfl⟩⟩, _, rfl⟩
                            · have d5 : decide ((x : Int) + 1 ≤ (f2 : Int)) = false := decide_eq_false (by omega)
                              have HE := HF.out _ (by clear eL eU eU1 eO eO1 eF eF2 hcc; exact ⟨by omega, by omega, by omega, by omega⟩) hmay.out.symm
                              clear h0 h6 h2 g4 h5
                              go_wp2
                              go_quiet (fail)
                              go_wp2
                              go_meet
                              exact ⟨⟨_, rfl, ⟨fun e => (by cases e), fun h => absurd HE.out h⟩⟩, _, rfl⟩
                          · have d4 : decide ((0 : Int) < (i' : Int)) = false := decide_eq_false (by omega)
                            have p4 : ¬ 0 < i' := h4
                            have HE := HF.out _ (by clear eL eU eU1 eO eO1 eF eF2 hcc; exact ⟨by omega, by omega, by omega, by omega⟩) hmay.out.symm
                            clear h0 h6 h2 h4
                            go_wp2
                            go_quiet (fail)
                            go_wp2
                            go_meet
                            exact ⟨⟨_, rfl, ⟨fun e => (by cases e), fun h => absurd HE.out h⟩⟩, _, rfl⟩
                  · have d10 : decide ((0 : Int) < (x : Int)) = false := decide_eq_false (by omega)
                    as_aux_lemma =>
                      have p1 : ¬ 0 < x := h1
                      by_cases h2 : j + 1 < C
                      · have d2' : decide ((j : Int) + 1 < (C : Int)) = true := decide_eq_true (by omega)
                        have eF' := eF h2
                        by_cases h3 : f1 < x + 1
                        · have d3 : decide ((f1 : Int) < (x : Int) + 1) = true := decide_eq_true (by omega)
                          have HE := HT.out _ (by clear eL eU eU1 eO eO1 eF eF2 hcc; intro hh; have := hh.1; have := hh.2.1; have := hh.2.2.1; have := hh.2.2.2; omega) hmay.out.symm
                          clear h0 h1 h3
                          go_wp2
                          go_quiet (fail)
                          go_wp2
                          go_meet
                          exact ⟨⟨_, rfl, ⟨fun _ => HE.out, fun _ => rfl⟩⟩, _, rfl⟩
                        · have d3 : decide ((f1 : Int) < (x : Int) + 1) = false := decide_eq_false (by omega)
                          by_cases h4 : 0 < i'
                          · have d4 : decide ((0 : Int) < (i' : Int)) = true := decide_eq_true (by omega)
                            have g4 := Lib.hid h4
                            have p4 : 0 < i' := h4
                            by_cases h5 : x + 1 ≤ f2
                            · have d5 : decide ((x : Int) + 1 ≤ (f2 : Int)) = true := decide_eq_true (by omega)
                              have HE := HT.out _ (by clear eL eU eU1 eO eO1 eF eF2 hcc; intro hh; have := hh.1; have := hh.2.1; have := hh.2.2.1; have := hh.2.2.2; omega) hmay.out.symm
                              clear h0 h1 h3 g4 h5
                              go_wp2
                              go_quiet (fail)
                              go_wp2
                              go_meet
                              exact ⟨⟨_, rfl, ⟨fun _ => HE.out, fun _ => rfl⟩⟩, _, rfl⟩
                            · have d5 : decide ((x : Int) + 1 ≤ (f2 : Int)) = false := decide_eq_false (by omega)
                              have HE := HF.out _ (by clear eL eU eU1 eO eO1 eF eF2 hcc; exact ⟨by omega, by omega, by omega, by omega⟩) hmay.out.symm
                              clear h0 h1 h3 g4 h5
                              go_wp2
                              go_quiet (fail)
                              go_wp2
                              go_meet
                              exact ⟨⟨_, rfl, ⟨fun e => (by cases e), fun h => absurd HE.out h⟩⟩, _, rfl⟩
                          · have d4 : decide ((0 : Int) < (i' : Int)) = false := decide_eq_false (by omega)
                            have p4 : ¬ 0 < i' := h4
                            have HE := HF.out _ (by clear eL eU eU1 eO eO1 eF eF2 hcc; exact ⟨by omega, by omega, by omega, by omega⟩) hmay.out.symm
                            clear h0 h1 h3 h4
                            go_wp2
                            go_quiet (fail)
                            go_wp2
                            go_meet
                            exact ⟨⟨_, rfl, ⟨fun e => (by cases e), fun h => absurd HE.out h⟩⟩, _, rfl⟩
                      · have d2' : decide ((j : Int) + 1 < (C : Int)) = false := decide_eq_false (by omega)
                        have p2 : ¬ j + 1 < C := h2
                        by_cases h4 : 0 < i'
                        · have d4 : decide ((0 : Int) < (i' : Int)) = true := decide_eq_true (by omega)
                          have g4 := Lib.hid h4
                          have p4 : 0 < i' := h4
                          by_cases h5 : x + 1 ≤ f2
                          · have d5 : decide ((x : Int) + 1 ≤ (f2 : Int)) = true := decide_eq_true (by omega)
                            have HE := HT.out _ (by clear eL eU eU1 eO eO1 eF eF2 hcc; intro hh; have := hh.1; have := hh.2.1; have := hh.2.2.1; have := hh.2.2.2; omega) hmay.out.symm
                            clear h0 h1 h2 g4 h5
                            go_wp2
                            go_quiet (fail)
                            go_wp2
                            go_meet
                            exact ⟨⟨_, rfl, ⟨fun _ => HE.out, fun _ => rfl⟩⟩, _, rfl⟩
                          · have d5 : decide ((x : Int) + 1 ≤ (f2 : Int)) = false := decide_eq_false (by omega)
                            have HE := HF.out _ (by clear eL eU eU1 eO eO1 eF eF2 hcc; exact ⟨by omega, by omega, by omega, by omega⟩) hmay.out.symm
                            clear h0 h1 h2 g4 h5
                            go_wp2
                            go_quiet (fail)
                            go_wp2
                            go_meet
                            exact ⟨⟨_, rfl, ⟨fun e => (by cases e), fun h => absurd HE.out h⟩⟩, _, rfl⟩
                        · have d4 : decide ((0 : Int) < (i' : Int)) = false := decide_eq_false (by omega)
                          have p4 : ¬ 0 < i' := h4
                          have HE := HF.out _ (by clear eL eU eU1 eO eO1 eF eF2 hcc; exact ⟨by omega, by omega, by omega, by omega⟩) hmay.out.symm
                          clear h0 h1 h2 h4
                          go_wp2
                          go_quiet (fail)
                          go_wp2
                          go_meet
                          exact ⟨⟨_, rfl, ⟨fun e => (by cases e), fun h => absurd HE.out h⟩⟩, _, rfl⟩
              case rest =>
                obtain ⟨⟨b, rfl, hbm⟩, d, rfl⟩ := hcut
                have HBM := Lib.hid hbm
                clear hbm
                obtain ⟨w8, hw8⟩ : ∃ w8, w8 = w9.drewN d := ⟨_, rfl⟩
                have hA8 : AllR w8 B (K.reg F L Us (q + rs x (term K i' j (bxs K.fa K.fc (t2 + 1) i' j) F L Us))) := by rw [hw8]; exact HAR.out.drewN d
                have hb8 : Below B w w8 := by rw [hw8]; exact below_drewN HBR.out d
                have ok8 := HOK.out.below hb8
                have n3 : w8.cell? ⟨K.b, 3, none⟩ = some (.slice (some ⟨K.gO, 0, none⟩) K.n K.cR) := by rw [hw8]; exact m3
                have n4 : w8.cell? ⟨K.b, 4, none⟩ = some (.slice (some ⟨K.gL, 0, none⟩) K.k K.cL) := by rw [hw8]; exact m4
                have n5 : w8.cell? ⟨K.b, 5, none⟩ = some (.slice (some ⟨K.gU, 0, none⟩) K.k K.k) := by rw [hw8]; exact m5
                have nO : w8.cell? ⟨K.gO, i', none⟩ = some (.slice (some ⟨K.gR i', 0, none⟩) (K.fc i') (K.fc i')) := by rw [hw8]; exact eO
                rw [← hw8]
                have HA8 := Lib.hid hA8
                have HB8 := Lib.hid hb8
                have OK8 := Lib.hid ok8
                obtain ⟨T, hT⟩ : ∃ T, T = rs x (term K i' j (bxs K.fa K.fc (t2 + 1) i' j) F L Us) := ⟨_, rfl⟩
                rw [← hT] at HA8
                have HTT := Lib.hid hT
                clear hw8 m2 m3 m4 m5 eL eU eU1 eO eO1 hcc HAR HBR HOKR hokr hA8 hb8 ok8 hT
                cases b
                · have hmay : may K.fc i' j x F L Us := Classical.byContradiction (fun h => by have := HBM.out.2 h; cases this)
                  have HMAY := Lib.hid hmay
                  have hLx := hmay.1
                  have hUx := HBD.out.u x hxk
                  clear hmay
                  have f1 : w8.frozen? ⟨K.gR i', j, none⟩ = false := sea_ff HA8.out hin j
                  have e1 : w8.cell? ⟨K.gR i', j, none⟩ = some (.int .i64 (F i' j : Int)) := sea_f HA8.out hin hjc
                  go_upto_region 12 with fail
                  obtain ⟨w1, hw1⟩ : ∃ w1, w1 = w8.setCell ⟨K.gR i', j, none⟩ (.int .i64 ((x : Int) + 1)) := ⟨_, rfl⟩
                  have hA1 : AllR w1 B (K.reg (put2 F i' j (x + 1)) L Us (q + T)) := by
                    rw [hw1]
                    have := sea_setF HA8.out hin j (x + 1)
                    rwa [show iv (x + 1) = .int .i64 ((x : Int) + 1) by simp [iv]] at this
                  have hb1 : Below B w w1 := by rw [hw1]; exact HB8.out.setCell (p := ⟨K.gR i', j, none⟩) (HA8.out.lt (x := i' + 5) (b := K.gR i') (by rw [reg_row hin]; rfl)).1 _
                  have ok1 := HOK.out.below hb1
                  have HA1 := Lib.hid hA1
                  have HB1 := Lib.hid hb1
                  have OK1 := Lib.hid ok1
                  have n4' : w1.cell? ⟨K.b, 4, none⟩ = some (.slice (some ⟨K.gL, 0, none⟩) K.k K.cL) := by have := sea_cell hA1 (j := 4) rfl; rwa [HOK.out.hL (by omega)] at this
                  have eL1 : w1.cell? ⟨K.gL, x, none⟩ = some (.int .i64 (L x : Int)) := sea_l hA1 ok1 hxk
                  have fL1 := sea_lf hA1 ok1 hxk
                  rw [← hw1]
                  clear hw1 hA1 hb1 ok1 n3 n4 n5 nO f1 e1
                  go_upto_region 13 with fail
                  obtain ⟨w2, hw2⟩ : ∃ w2, w2 = w1.setCell ⟨K.gL, x, none⟩ (.int .i64 ((L x : Int) - 1)) := ⟨_, rfl⟩
                  have hA2 : AllR w2 B (K.reg (put2 F i' j (x + 1)) (put1 L x (L x - 1)) Us (q + T)) := by
                    rw [hw2]
                    have := sea_setL HA1.out OK1.out hxk (L x - 1)
                    rwa [show iv (L x - 1) = .int .i64 ((L x : Int) - 1) by simp [iv]; omega] at this
                  have hb2 : Below B w w2 := by rw [hw2]; exact HB1.out.setCell (p := ⟨K.gL, x, none⟩) (HA1.out.lt (x := 2) (b := K.gL) (by show (Value.slice K.AL _ _).ownBlock = _; rw [HOK.out.hL (by omega)]; rfl)).1 _
                  have ok2 := HOK.out.below hb2
                  have HA2 := Lib.hid hA2
                  have HB2 := Lib.hid hb2
                  have OK2 := Lib.hid ok2
                  have n5' : w2.cell? ⟨K.b, 5, none⟩ = some (.slice (some ⟨K.gU, 0, none⟩) K.k K.k) := sea_cell hA2 (j := 5) rfl
                  have eU2 : w2.cell? ⟨K.gU, x, none⟩ = some (.int .i64 (Us x : Int)) := sea_u hA2 hxk
                  have fU2 := sea_uf hA2 x
                  rw [← hw2]
                  clear hw2 hA2 hb2 ok2 n4' eL1 fL1
                  go_upto_region 14 with fail
                  obtain ⟨w3, hw3⟩ : ∃ w3, w3 = w2.setCell ⟨K.gU, x, none⟩ (.int .i64 ((Us x : Int) + 1)) := ⟨_, rfl⟩
                  have hA3 : AllR w3 B (K.reg (put2 F i' j (x + 1)) (put1 L x (L x - 1)) (put1 Us x (Us x + 1)) (q + T)) := by
                    rw [hw3]
                    have := sea_setU HA2.out x (Us x + 1)
                    rwa [show iv (Us x + 1) = .int .i64 ((Us x : Int) + 1) by simp [iv]] at this
                  have hb3 : Below B w w3 := by rw [hw3]; exact HB2.out.setCell (p := ⟨K.gU, x, none⟩) (HA2.out.lt (x := 3) (b := K.gU) rfl).1 _
                  have ok3 := HOK.out.below hb3
                  rw [← hw3]
                  clear hw3 n5' eU2 fU2
                  have hterm : term K i' j (bxs K.fa K.fc (t2 + 1) i' j) F L Us x = cnt K.k K.fc (bxs K.fa K.fc (t2 + 1) i' j) (put2 F i' j (x + 1)) (put1 L x (L x - 1)) (put1 Us x (Us x + 1)) := if_pos HMAY.out
                  have hsum : T + term K i' j (bxs K.fa K.fc (t2 + 1) i' j) F L Us x ≤ cnt K.k K.fc bs F L Us := by
                    rw [HBX.out, HTT.out]
                    show _ ≤ rs K.k (term K i' j (bxs K.fa K.fc (t2 + 1) i' j) F L Us)
                    exact rs_part (show x + 1 ≤ K.k by omega) (term K i' j (bxs K.fa K.fc (t2 + 1) i' j) F L Us)
                  have hcall := IH.out (t2 + 1) i' j (put2 F i' j (x + 1)) (put1 L x (L x - 1)) (put1 Us x (Us x + 1)) (q + T) w3 (by have h1 := HN.out; rw [HBX.out, List.length_cons] at h1; omega)
                    (by have h1 := HT2.out; have h2 := HIT'.out; omega) (fun _ => by omega) (by omega) hA3 ok3 (Nat.le_trans hBw hb3.size)
                    (fun r s hr => by
                      have : ¬ (r = i' ∧ s = j) := by omega
                      simp only [put2, this, if_false]
                      exact HZ'.out r s (by omega))
                    ⟨fun r s => by
                      unfold put2
                      by_cases c : r = i' ∧ s = j
                      · rw [if_pos c]; omega
                      · rw [if_neg c]; exact HBD.out.f r s, fun y hy => by
                      have := HBD.out.u y hy
                      unfold put1
                      by_cases c : y = x
                      · rw [if_pos c, if_pos c]; omega
                      · rw [if_neg c, if_neg c]; exact this⟩ (by have := HQ.out; rw [hterm] at hsum; omega)
                  rw [← hterm] at hcall
                  have HCALL := Lib.hid hcall
                  have HB3 := Lib.hid hb3
                  have HSUM := Lib.hid hsum
                  clear hcall hA3 hb3 ok3 hterm hsum
                  go_upto_region 15 with (first | (go_at_call 23; refine (HCALL.out).mono ?_; rintro e w4 ⟨rfl, hA4, hb4⟩) | fail)
                  have HA4 := Lib.hid hA4
                  have HB4 : Hid (Below B w w4) := Lib.hid (HB3.out.trans hb4)
                  have ok4 := HOK.out.below HB4.out
                  have OK4 := Lib.hid ok4
                  have n4' : w4.cell? ⟨K.b, 4, none⟩ = some (.slice (some ⟨K.gL, 0, none⟩) K.k K.cL) := by have := sea_cell hA4 (j := 4) rfl; rwa [HOK.out.hL (by omega)] at this
                  have eL4 : w4.cell? ⟨K.gL, x, none⟩ = some (.int .i64 ((L x - 1 : Nat) : Int)) := by have := sea_l hA4 ok4 hxk; rwa [show put1 L x (L x - 1) x = L x - 1 by simp [put1]] at this
                  have fL4 := sea_lf hA4 ok4 hxk
                  obtain ⟨lz, hlz⟩ : ∃ z, z = L x - 1 := ⟨_, rfl⟩
                  rw [← hlz] at eL4
                  have HLZ : Hid (L x = lz + 1) := Lib.hid (by show _ = _; omega)
                  have hlz2 : lz ≤ 1000 := by omega
                  clear hA4 hb4 ok4 hlz hLx
                  go_upto_region 16 with fail
                  obtain ⟨w5, hw5⟩ : ∃ w5, w5 = w4.setCell ⟨K.gL, x, none⟩ (.int .i64 ((lz : Int) + 1)) := ⟨_, rfl⟩
                  have hA5 : AllR w5 B (K.reg (put2 F i' j (x + 1)) L (put1 Us x (Us x + 1)) (q + T + term K i' j (bxs K.fa K.fc (t2 + 1) i' j) F L Us x)) := by
                    rw [hw5]
                    have := sea_setL HA4.out OK4.out hxk (lz + 1)
                    rw [put1_back HLZ.out] at this
                    rwa [show iv (lz + 1) = .int .i64 ((lz : Int) + 1) by simp [iv]] at this
                  have hb5 : Below B w w5 := by rw [hw5]; exact HB4.out.setCell (p := ⟨K.gL, x, none⟩) (HA4.out.lt (x := 2) (b := K.gL) (by show (Value.slice K.AL _ _).ownBlock = _; rw [HOK.out.hL (by omega)]; rfl)).1 _
                  have HA5 := Lib.hid hA5
                  have HB5 := Lib.hid hb5
                  have n5' : w5.cell? ⟨K.b, 5, none⟩ = some (.slice (some ⟨K.gU, 0, none⟩) K.k K.k) := sea_cell hA5 (j := 5) rfl
                  have eU5 : w5.cell? ⟨K.gU, x, none⟩ = some (.int .i64 ((Us x : Int) + 1)) := by
                    have := sea_u hA5 hxk
                    rw [show put1 Us x (Us x + 1) x = Us x + 1 by simp [put1]] at this
                    rwa [show iv (Us x + 1) = .int .i64 ((Us x : Int) + 1) by simp [iv]] at this
                  have fU5 := sea_uf hA5 x
                  rw [← hw5]
                  clear hw5 hA5 hb5 n4' eL4 fL4
                  go_upto_region 17 with fail
                  obtain ⟨w6, hw6⟩ : ∃ w6, w6 = w5.setCell ⟨K.gU, x, none⟩ (.int .i64 (Us x : Int)) := ⟨_, rfl⟩
                  have hA6 : AllR w6 B (K.reg (put2 F i' j (x + 1)) L Us (q + T + term K i' j (bxs K.fa K.fc (t2 + 1) i' j) F L Us x)) := by
                    rw [hw6]
                    have := sea_setU HA5.out x (Us x)
                    rw [put1_back rfl] at this
                    exact this
                  have hb6 : Below B w w6 := by rw [hw6]; exact HB5.out.setCell (p := ⟨K.gU, x, none⟩) (HA5.out.lt (x := 3) (b := K.gU) rfl).1 _
                  have ok6 := HOK.out.below hb6
                  have HA6 := Lib.hid hA6
                  have HB6 := Lib.hid hb6
                  have n3' : w6.cell? ⟨K.b, 3, none⟩ = some (.slice (some ⟨K.gO, 0, none⟩) K.n K.cR) := by have := sea_cell hA6 (j := 3) rfl; rwa [HOK.out.hR (by omega)] at this
                  have nO' : w6.cell? ⟨K.gO, i', none⟩ = some (.slice (some ⟨K.gR i', 0, none⟩) (K.fc i') (K.fc i')) := sea_o hA6 ok6 hin
                  have f6 : w6.frozen? ⟨K.gR i', j, none⟩ = false := sea_ff hA6 hin j
                  have e6 : w6.cell? ⟨K.gR i', j, none⟩ = some (.int .i64 (put2 F i' j (x + 1) i' j : Int)) := sea_f hA6 hin hjc
                  rw [← hw6]
                  clear hw6 hA6 hb6 ok6 n5' eU5 fU5
                  go_upto_region 18 with fail
                  obtain ⟨w7, hw7⟩ : ∃ w7, w7 = w6.setCell ⟨K.gR i', j, none⟩ (.int .i64 0) := ⟨_, rfl⟩
                  have hA7 : AllR w7 B (K.reg F L Us (q + T + term K i' j (bxs K.fa K.fc (t2 + 1) i' j) F L Us x)) := by
                    rw [hw7]
                    have := sea_setF HA6.out hin j 0
                    rw [put2_back (HZ'.out i' j (Or.inr ⟨rfl, by omega⟩))] at this
                    exact this
                  have hb7 : Below B w w7 := by rw [hw7]; exact HB6.out.setCell (p := ⟨K.gR i', j, none⟩) (HA6.out.lt (x := i' + 5) (b := K.gR i') (by rw [reg_row hin]; rfl)).1 _
                  have HA7 := Lib.hid hA7
                  have HB7 := Lib.hid hb7
                  rw [← hw7]
                  clear hw7 hA7 hb7 n3' nO' f6 e6
                  go_wp2
                  go_roundw
                  case rel =>
                    refine ⟨x + 1, by omega, by go_num, ?_, HB7.out⟩
                    have := HA7.out
                    rw [HTT.out, Nat.add_assoc] at this
                    simp only [rs]
                    exact this
                  case measure => simp [intOf]; omega
                · have hmay : ¬ may K.fc i' j x F L Us := HBM.out.1 rfl
                  have hterm : term K i' j (bxs K.fa K.fc (t2 + 1) i' j) F L Us x = 0 := if_neg hmay
                  have HTM := Lib.hid hterm
                  clear hmay hterm
                  go_wp2
                  go_roundw
                  case rel =>
                    refine ⟨x + 1, by omega, by go_num, ?_, HB8.out⟩
                    have := HA8.out
                    rw [HTT.out] at this
                    simp only [rs]
                    rw [HTM.out]
                    exact this
                  case measure => simp [intOf]; omega
            · obtain rfl : x = K.k := by omega
              have hq' : q + rs K.k (term K i' j (bxs K.fa K.fc (t2 + 1) i' j) F L Us) = q + cnt K.k K.fc bs F L Us := by rw [HBX.out]; rfl
              have HQ' := Lib.hid hq'
              clear hq'
              have dx : decide ((K.k : Int) < (K.k : Int)) = false := decide_eq_false (by omega)
              go_wp2
              go_ret
              have := HAR.out
              rw [HQ'.out] at this
              exact ⟨rfl, this, HBR.out⟩
      · obtain rfl : i' = K.n := by have := HIT'.out; omega
        have d0 : decide ((K.n : Int) < (K.n : Int)) = false := decide_eq_false (by omega)
        have d2 : ((K.n : Int) == (K.n : Int)) = true := by simp
        have c3 : w.cell? ⟨K.b, 3, none⟩ = some (.slice K.AR K.n K.cR) := sea_cell HA.out rfl
        have c6 : w.cell? ⟨K.b, 6, none⟩ = some (.func (.func 17) #[] #[.pointer (some ⟨K.gN, 0, none⟩)]) := sea_cell HA.out rfl
        have hbs0 : bs = [] := by
          rw [HBS'.out]
          have : t' = 0 := by have := HIT'.out; omega
          rw [this]; rfl
        have c3' : w.drew.cell? ⟨K.b, 3, none⟩ = some (.slice K.AR K.n K.cR) := c3
        have c6' : w.drew.cell? ⟨K.b, 6, none⟩ = some (.func (.func 17) #[] #[.pointer (some ⟨K.gN, 0, none⟩)]) := c6
        have hea := each_any (HA.out.drewN 1) (by have := HQ.out; rw [hbs0] at this; simp only [cnt] at this; omega) (.slice K.AR K.n K.cR)
        have HEA := Lib.hid hea
        have HB0 := Lib.hid hbs0
        clear hea hbs0
        go_wp2_with (first | (go_at_call 30; refine (HIN.out _).mono ?_; rintro e w' ⟨rfl, rfl⟩) | fail)
        go_region_held3 (fun w' => w'.cell? ⟨K.b, 3, none⟩ = some (.slice K.AR K.n K.cR) ∧ w'.cell? ⟨K.b, 6, none⟩ = some (.func (.func 17) #[] #[.pointer (some ⟨K.gN, 0, none⟩)]))
          (first | with_reducible exact ⟨c3', c6'⟩ | with_reducible exact ⟨q1, q2⟩)
          (first | (go_at_call 17; refine (HEA.out).mono ?_; rintro e w' ⟨rfl, hA', hb'⟩; have q1 : w'.cell? ⟨K.b, 3, none⟩ = some (.slice K.AR K.n K.cR) := sea_cell hA' rfl; have q2 : w'.cell? ⟨K.b, 6, none⟩ = some (.func (.func 17) #[] #[.pointer (some ⟨K.gN, 0, none⟩)]) := sea_cell hA' rfl; have HA' := Lib.hid hA'; have HB' := Lib.hid hb'; clear hA' hb') | fail)
        all_goals
          go_wp2
          go_ret
          have hb : Below B w w' := (below_drewN (Below.refl _ _) 1).trans HB'.out
          rw [HB0.out]
          exact ⟨rfl, HA'.out, hb⟩
end Go.Proofs.YtidnpmkdajicjaaDoor
