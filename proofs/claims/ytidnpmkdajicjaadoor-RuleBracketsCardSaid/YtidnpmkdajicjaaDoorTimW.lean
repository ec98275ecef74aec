/-
  ferkeep.times: what it answers.
-/
import Derived.Test.YtidnpmkdajicjaaDoorTimL
namespace Go.Proofs.YtidnpmkdajicjaaDoor
open Go.RowKit Go.Proofs Go.Maps LR

theorem law_str : Keyed Tryd.prog 9 := string_keyed Tryd.underlying9
theorem zero_intE (w : World) : (zeroValue 3).run Tryd.prog w = .ok (.int .i64 0) w := by kernel_rfl
theorem mapE_below {w w' : World} {B b n : Nat} {D : SMap} (h : w.ownsMap Tryd.prog 9 (plainElem Tryd.prog 3) b n D) (hb : Below B w w') (hlt : b < B) : w'.ownsMap Tryd.prog 9 (plainElem Tryd.prog 3) b n D := by
  obtain ⟨es, clock, h1, h2, h3, h4⟩ := h
  exact ⟨es, clock, (hb.block b hlt).trans h1, h2, h3, h4⟩
theorem cell_gM {w w' : World} {M b o : Nat} {x : Value} {n : Nat} {D : SMap} (hm : w.ownsMap Tryd.prog 9 (plainElem Tryd.prog 3) M n D) (hg : w.grownBy w' (some M)) (h : w.cell? ⟨b, o, none⟩ = some x) : w'.cell? ⟨b, o, none⟩ = some x := by
  obtain ⟨es, clock, h1, _⟩ := hm
  have hlt : b < w.heap.size := by
    by_cases c : b < w.heap.size
    · exact c
    · unfold World.cell? at h
      have : w.heap[b]? = none := Array.getElem?_eq_none (by omega)
      rw [this] at h; cases h
  have hne : b ≠ M := by
    intro e
    subst e
    unfold World.cell? at h
    rw [h1] at h
    cases h
  exact (World.cell?_of_block (hg.block b hlt (fun e => hne (Option.some.inj e)))).trans h
theorem Sl.gM {w w' : World} {M B : Nat} {A : Option Addr} {cs : List Value} {n : Nat} {D : SMap} (hm : w.ownsMap Tryd.prog 9 (plainElem Tryd.prog 3) M n D) (hg : w.grownBy w' (some M)) (h : Sl w B A cs) (hB : B ≤ w'.heap.size) : Sl w' w'.heap.size A cs := fun hn => by
  obtain ⟨b, o, e, hb, hc⟩ := h hn
  exact ⟨b, o, e, by omega, fun k u hk => cell_gM hm hg (hc k u hk)⟩
def TimOut (e : Ending) (w w' : World) (ts : List (List Nat × Nat)) (S : Nat) (c : List Nat) : Prop :=
  (S + c.sum ≤ 16 → ∃ (b n : Nat) (D : SMap), e = .returned (.tuple #[.map (some b), .bool true]) ∧ w.heap.size ≤ b ∧ w'.ownsMap Tryd.prog 9 (plainElem Tryd.prog 3) b n D ∧ n ≤ 65536 * 65536 ∧ SumOf D (contrib ts c)) ∧
  (¬ S + c.sum ≤ 16 → e = .returned (.tuple #[.map none, .bool false]))
structure TsOk (ts : List (List Nat × Nat)) (S m : Nat) : Prop where
  pn : ∀ t ∈ ts, Pn t.1 ∧ t.1.sum = S ∧ 0 < t.2 ∧ t.2 ≤ fac m
  ne : ts ≠ []
  len : ts.length ≤ 65536
  S16 : S ≤ 16

set_option maxRecDepth 100000 in
set_option maxHeartbeats 4000000 in
theorem times_any (ts : List (List Nat × Nat)) (S m : Nat) (c : List Nat) (A A2 : Option Addr) (cap c2 : Nat) (w : World) (ht : Tab10 w) (hts : TsOk ts S m) (hm : m ≤ S) (hc : Pn c) (c16 : c.sum ≤ 16)
    (h1 : TR w w.heap.size A ts) (h2 : Sl w w.heap.size A2 (ints (zs c))) :
    Calls Tryd.prog 5 #[.slice A ts.length cap, .slice A2 c.length c2] w fun e w' => TimOut e w w' ts S c ∧ Below w.heap.size w w' := by
  obtain ⟨vs, hvl, hvs, hvv⟩ := h1
  have HT := Lib.hid ht
  have HTS := Lib.hid hts
  have PC := Lib.hid hc
  have HVL := Lib.hid hvl
  have HVS := Lib.hid hvs
  have HVV := Lib.hid hvv
  have H2 := Lib.hid h2
  have hmm := @run_makeMap Tryd.prog
  have hlen := hts.len
  have lc := small_len hc c16
  obtain ⟨L, hL⟩ : ∃ L, L = ts.length := ⟨_, rfl⟩
  rw [← hL] at hlen ⊢
  have HL := Lib.hid hL
  clear ht hts hc hvl hvs hvv h2 hL
  go_enter Tryd.func5, Tryd.ntmps5
  go_upto_region 3 with fail
  obtain ⟨M, hM⟩ : ∃ M, M = w.heap.size := ⟨_, rfl⟩
  have hb0 : Below w.heap.size w (w.alloc (.map #[] 0)) := (Below.refl _ _).alloc (Nat.le_refl _) _
  have ho0 : (w.alloc (.map #[] 0)).ownsMap Tryd.prog 9 (plainElem (H := Unit) Tryd.prog 3) M 0 (.map []) := by rw [hM]; exact World.ownsMap_made _ _ _ _
  have HB0 := Lib.hid hb0
  have HO0 := Lib.hid ho0
  rw [← hM]
  have HM := Lib.hid hM
  clear hM hb0 ho0
  go_loopw [20] (fun iv wr => ∃ (i n : Nat) (D : SMap), i ≤ L ∧ iv = .int .i64 i ∧ wr.ownsMap Tryd.prog 9 (plainElem Tryd.prog 3) M n D ∧ n ≤ i * 65536 ∧ SumOf D (contrib (ts.take i) c) ∧ (0 < i → S + c.sum ≤ 16) ∧ Below w.heap.size w wr) (fun iv _ => L - (intOf iv).toNat)
  case atStart => exact ⟨0, 0, .map [], Nat.zero_le _, rfl, HO0.out, Nat.zero_le _, by simpa [contrib] using SumOf.nil, fun h => absurd h (by omega), HB0.out⟩
  case round =>
    obtain ⟨i, n, D, hi, rfl, hown, hn, hsum, hpos, hbr⟩ := hrel
    obtain ⟨w9, rfl⟩ : ∃ w9, w9 = wr := ⟨_, rfl⟩
    have HOWN := Lib.hid hown
    have HSUM := Lib.hid hsum
    have HPOS := Lib.hid hpos
    have HBR := Lib.hid hbr
    have hs9 := hbr.size
    clear hown hsum hpos hbr HB0 HO0
    by_cases hin : i < L
    · have di : decide ((i : Int) < (L : Int)) = true := decide_eq_true (by omega)
      have hiv : i < vs.length := by rw [HVL.out, ← HL.out]; exact hin
      obtain ⟨b, o, rfl, hb⟩ := tsl_addr HVS.out (by omega)
      have hcl := tsl_at HVS.out hiv
      obtain ⟨g1, Ai, ci, g2, g3⟩ := HVV.out i hiv
      have hmem : ts.getD i ([], 0) ∈ ts := by rw [getD_get (by rw [← HL.out]; exact hin)]; exact List.getElem_mem _
      have hpn := HTS.out.pn _ hmem
      have hct := contrib_take (c := c) (show i < ts.length by rw [← HL.out]; exact hin)
      obtain ⟨t, hte⟩ : ∃ t, t = ts.getD i ([], 0) := ⟨_, rfl⟩
      rw [← hte] at g1 g2 g3 hpn hct
      rw [g1, g2] at hcl
      have hk1 : w9.cell? ⟨b, o + i * 2, none⟩ = some (.slice Ai t.1.length ci) := (HBR.out.cell (p := ⟨b, o + i * 2, none⟩) hb).trans hcl.1
      have hk2 : w9.cell? ⟨b, o + i * 2 + 1, none⟩ = some (.string ⟨(Lib.decDigits t.2).toArray⟩) := (HBR.out.cell (p := ⟨b, o + i * 2 + 1, none⟩) hb).trans (by rw [show o + i * 2 + 1 = o + (i * 2 + 1) by omega]; exact hcl.2)
      have HCT := Lib.hid hct
      have HPN := Lib.hid hpn
      have HG3 := Lib.hid g3
      obtain ⟨DG, hDG⟩ : ∃ DG, DG = Lib.decDigits t.2 := ⟨_, rfl⟩
      rw [← hDG] at hk2
      have HDG := Lib.hid hDG
      clear hcl g1 g2 g3 hmem hpn hct hte hDG
      go_upto_region 5 with fail
      obtain ⟨wA, hwA⟩ : ∃ wA, wA = w9.alloc (.cells #[.slice Ai t.1.length ci, .string ⟨DG.toArray⟩] 40) := ⟨_, rfl⟩
      have hbA : Below w.heap.size w wA := by rw [hwA]; exact HBR.out.alloc (by omega) _
      have hoA : wA.ownsMap Tryd.prog 9 (plainElem (H := Unit) Tryd.prog 3) M n D := by rw [hwA]; exact HOWN.out.alloc _
      have e0 : wA.cell? ⟨w9.heap.size, 0, none⟩ = some (.slice Ai t.1.length ci) := by rw [hwA, World.cell?_alloc_at _ _ _ _ rfl]; rfl
      have e1 : wA.cell? ⟨w9.heap.size, 1, none⟩ = some (.string ⟨DG.toArray⟩) := by rw [hwA, World.cell?_alloc_at _ _ _ _ rfl]; rfl
      have ht2 : t.2 ≤ 20922789888000 := by
        have h1 := HPN.out.2.2.2
        have h2 := fac_mono (show m ≤ 16 by have := HTS.out.S16; omega)
        rw [fac16_eq] at h2; omega
      have hAT := atoi_any t.2 (by omega) wA
      rw [← HDG.out] at hAT
      have HAT := Lib.hid hAT
      have HBA := Lib.hid hbA
      have HOA := Lib.hid hoA
      obtain ⟨G, hG⟩ : ∃ G, G = w9.heap.size := ⟨_, rfl⟩
      have hMA := hoA.lt
      rw [← hwA, ← hG]
      rw [← hG] at e0 e1
      have hGs : w.heap.size ≤ G := by omega
      clear hwA hbA hoA hAT hk1 hk2 hG
      obtain ⟨N1, hN1⟩ : ∃ x : Nat, x = t.2 := ⟨_, rfl⟩
      rw [← hN1] at HAT ht2
      have HN1 := Lib.hid hN1
      clear hN1
      go_upto_region 6 with (first | (go_at_call 11; refine (HAT.out).mono ?_; rintro e wB ⟨rfl, hbB⟩; have HBB := Lib.hid hbB; have e0B := cell_keepE hbB e0; clear hbB) | fail)
      have hwB : Below w.heap.size w wB := HBA.out.trans (HBB.out.mono HBA.out.size)
      have hpr := product_any (zs t.1) (zs c) Ai A2 ci c2 wB (tab10_below HT.out hwB) (by rw [zs_length]; have := small_len HPN.out.1 (by have := HTS.out.S16; have := HPN.out.2.1; omega); omega) (by rw [zs_length]; omega) (HG3.out.keep hwB) (H2.out.keep hwB)
      rw [zs_length, zs_length] at hpr
      have HPR := Lib.hid hpr
      have HWB := Lib.hid hwB
      have HOB := Lib.hid (mapE_below HOA.out HBB.out hMA)
      have hMB : M < wB.heap.size := Nat.lt_of_lt_of_le hMA HBB.out.size
      clear hpr hwB e0 e1
      go_upto_region 7 with (first | (go_at_call 4; refine (HPR.out).mono ?_; rintro e wC ⟨⟨AP, nP, cP, k, rfl, hpk, hpn0, hpt⟩, hbC⟩; have HPK := Lib.hid hpk; have HPT := Lib.hid hpt; have HBC := Lib.hid hbC; clear hpk hpn0 hpt hbC) | fail)
      have hok : ProOk (zs t.1) (zs c) ↔ S + c.sum ≤ 16 := by
        have hS := HPN.out.2.1
        constructor
        · intro h
          have := h.2.2
          rw [zs_sum, zs_sum, hS] at this; omega
        · intro h
          exact ⟨zs_part HPN.out.1, zs_part PC.out, by rw [zs_sum, zs_sum, hS]; omega⟩
      have HOK := Lib.hid hok
      clear hok
      have hwC : Below w.heap.size w wC := HWB.out.trans (HBC.out.mono HWB.out.size)
      have HWC := Lib.hid hwC
      have HOC := Lib.hid (mapE_below HOB.out HBC.out hMB)
      have hMC : M < wC.heap.size := Nat.lt_of_lt_of_le hMB HBC.out.size
      clear hwC e0B
      by_cases hk0 : k = 0
      · have hS := HOK.out.1 (HPK.out.1 hk0)
        have htr := HPT.out _ _ rfl rfl hk0
        obtain ⟨rfl, us, hul, hus, huv⟩ := htr
        subst hk0
        have HS := Lib.hid hS
        have HUL := Lib.hid hul
        have HUS := Lib.hid hus
        have HUV := Lib.hid huv
        clear hS hul hus huv
        obtain ⟨E, hE⟩ : ∃ E, E = i * 65536 := ⟨_, rfl⟩
        rw [← hE] at hn
        have HE := Lib.hid hE
        clear hE
        obtain ⟨Q, hQ⟩ : ∃ Q, Q = (prodT t.1 c).length := ⟨_, rfl⟩
        rw [← hQ]
        have HQ := Lib.hid hQ
        have hQb : Q ≤ 65536 := by
          rw [hQ]
          unfold prodT
          refine Nat.le_trans (List.length_filter_le _ _) ?_
          rw [List.length_map]
          exact allP_len (by have := HPN.out.2.1; have := HS.out; omega)
        clear hQ
        go_upto_region 10 with fail
        go_loopw [41] (fun jv wr => ∃ (j n' : Nat) (D' : SMap), j ≤ Q ∧ jv = .int .i64 j ∧ wr.ownsMap Tryd.prog 9 (plainElem Tryd.prog 3) M n' D' ∧ n' ≤ E + j ∧ SumOf D' (contrib (ts.take i) c ++ ((prodT t.1 c).take j).map (fun u => (u.1, t.2 * u.2))) ∧ wC.grownBy wr (some M)) (fun jv _ => Q - (intOf jv).toNat)
        case atStart => exact ⟨0, n, D, Nat.zero_le _, rfl, HOC.out, hn, by simpa using HSUM.out, World.grownBy.refl _ _⟩
        case round =>
          obtain ⟨j, n', D', hj, rfl, hown', hn', hsum', hbr'⟩ := hrel
          obtain ⟨wD, rfl⟩ : ∃ wD, wD = wr := ⟨_, rfl⟩
          have HOWN' := Lib.hid hown'
          have HSUM' := Lib.hid hsum'
          have HBR' := Lib.hid hbr'
          have hsD := hbr'.size
          have hMD := hown'.lt
          clear hown' hsum' hbr'
          by_cases hjq : j < Q
          · have dj : decide ((j : Int) < (Q : Int)) = true := decide_eq_true (by omega)
            have hju : j < us.length := by rw [HUL.out, ← HQ.out]; exact hjq
            obtain ⟨bP, oP, rfl, hbP⟩ := tsl_addr HUS.out (by omega)
            have hcl := tsl_at HUS.out hju
            obtain ⟨g1, Au, cu, g2, g3⟩ := HUV.out j hju
            have hmem : (prodT t.1 c).getD j ([], 0) ∈ prodT t.1 c := by rw [getD_get (by rw [← HQ.out]; exact hjq)]; exact List.getElem_mem _
            have hpm := prodT_mem hmem
            have htk : (prodT t.1 c).take (j + 1) = (prodT t.1 c).take j ++ [(prodT t.1 c).getD j ([], 0)] := by
              rw [List.take_succ_eq_append_getElem (by rw [← HQ.out]; exact hjq), getD_get]
            obtain ⟨u, hue⟩ : ∃ u, u = (prodT t.1 c).getD j ([], 0) := ⟨_, rfl⟩
            rw [← hue] at g1 g2 g3 hpm htk
            rw [g1, g2] at hcl
            have hk1 : wD.cell? ⟨bP, oP + j * 2, none⟩ = some (.slice Au u.1.length cu) := cell_gM HOC.out HBR'.out hcl.1
            have hk2 : wD.cell? ⟨bP, oP + j * 2 + 1, none⟩ = some (.string ⟨(Lib.decDigits u.2).toArray⟩) := cell_gM HOC.out HBR'.out (by rw [show oP + j * 2 + 1 = oP + (j * 2 + 1) by omega]; exact hcl.2)
            have HPM := Lib.hid hpm
            have HTK := Lib.hid htk
            have HG3u := Lib.hid g3
            obtain ⟨DU, hDU⟩ : ∃ DU, DU = Lib.decDigits u.2 := ⟨_, rfl⟩
            rw [← hDU] at hk2
            have HDU := Lib.hid hDU
            have hu2 : u.2 ≤ fac c.sum := by rw [hpm.2.1]; exact num3_le
            have hu2b : u.2 ≤ 20922789888000 := by
              have h2 := fac_mono (show c.sum ≤ 16 by omega)
              rw [fac16_eq] at h2; omega
            have hprod : t.2 * u.2 ≤ 20922789888000 := by
              rw [← fac16_eq]
              have := HS.out
              have hS16 := HTS.out.S16
              exact Nat.le_trans (Nat.mul_le_mul HPN.out.2.2.2 hu2) (Nat.le_trans (fac_mul m c.sum) (fac_mono (by omega)))
            have hpu : Pn u.1 ∧ u.1.sum ≤ 16 := by
              have h1 := mem_allP.1 hpm.1
              have h2 := HPN.out.2.1
              have h3 := HS.out
              exact ⟨h1.2, by rw [h1.1, h2]; exact h3⟩
            have hgs : gsum (contrib (ts.take i) c ++ ((prodT t.1 c).take j).map (fun u => (u.1, t.2 * u.2))) (keyT u.1) ≤ 65536 * 20922789888000 := by
              have hS16 := HTS.out.S16
              have h3 := HS.out
              have h1 := gsum_contrib_le (ts := ts.take i) (c := c) (m := m) (by omega) (fun x hx => (HTS.out.pn x (List.mem_of_mem_take hx)).2.2.2) (keyT u.1)
              have h2 := gsum_part_le (t := t) (c := c) (m := m) (by omega) HPN.out.2.2.2 j (keyT u.1)
              rw [gsum_app]
              rw [fac16_eq] at h1 h2
              rw [List.length_take] at h1
              have h4 : min i ts.length + 1 ≤ 65536 := by rw [← HL.out]; omega
              calc _ ≤ min i ts.length * 20922789888000 + 20922789888000 := Nat.add_le_add h1 h2
                _ = (min i ts.length + 1) * 20922789888000 := by rw [Nat.succ_mul]
                _ ≤ 65536 * 20922789888000 := Nat.mul_le_mul_right _ h4
            have HPU := Lib.hid hpu
            clear hcl g1 g2 g3 hmem hpm htk hue hDU hpu hu2
            go_upto_region 12 with fail
            obtain ⟨wE, hwE⟩ : ∃ wE, wE = wD.alloc (.cells #[.slice Au u.1.length cu, .string ⟨DU.toArray⟩] 40) := ⟨_, rfl⟩
            have hbE : wC.grownBy wE (some M) := by rw [hwE]; exact HBR'.out.andThen (World.grownBy_alloc wD _ none) (fun j h => by cases h)
            have hoE : wE.ownsMap Tryd.prog 9 (plainElem (H := Unit) Tryd.prog 3) M n' D' := by rw [hwE]; exact HOWN'.out.alloc _
            have e0 : wE.cell? ⟨wD.heap.size, 0, none⟩ = some (.slice Au u.1.length cu) := by rw [hwE, World.cell?_alloc_at _ _ _ _ rfl]; rfl
            have e1 : wE.cell? ⟨wD.heap.size, 1, none⟩ = some (.string ⟨DU.toArray⟩) := by rw [hwE, World.cell?_alloc_at _ _ _ _ rfl]; rfl
            have hAT := atoi_any u.2 (by omega) wE
            rw [← HDU.out] at hAT
            have HAT2 := Lib.hid hAT
            have HBE := Lib.hid hbE
            have HOE := Lib.hid hoE
            obtain ⟨G2, hG2⟩ : ∃ G, G = wD.heap.size := ⟨_, rfl⟩
            have hME := hoE.lt
            have hsE := hbE.size
            rw [← hwE, ← hG2]
            rw [← hG2] at e0 e1
            clear hwE hbE hoE hAT hk1 hk2 hG2
            obtain ⟨N2, hN2⟩ : ∃ x : Nat, x = u.2 := ⟨_, rfl⟩
            rw [← hN2] at HAT2 hu2b hprod
            rw [← HN1.out] at hprod
            have HN2 := Lib.hid hN2
            clear hN2
            go_upto_region 13 with (first | (go_at_call 11; refine (HAT2.out).mono ?_; rintro e wF ⟨rfl, hbF⟩; have HBF := Lib.hid hbF; have e0F := cell_keepE hbF e0; clear hbF) | fail)
            have hgF : wC.grownBy wF (some M) := HBE.out.andThen (row' := none) ⟨HBF.out.os, HBF.out.tape, HBF.out.output, HBF.out.size, fun k hk _ => HBF.out.block k hk⟩ (fun j h => by cases h)
            have hoF := mapE_below HOE.out HBF.out hME
            have hsl := Sl.gM HOC.out hgF HG3u.out hgF.size
            have hlu : u.1.length ≤ 16 := small_len HPU.out.1 HPU.out.2
            have hkc := Key_any Au cu u.1 wF hlu (fun x hx => by have := le_sum x hx; have := HPU.out.2; omega) hsl
            have hks : (keyT u.1).length ≤ 48 := by
              have := keyT_len (p := u.1) (fun x hx => by have := le_sum x hx; have := HPU.out.2; omega)
              omega
            have hadd := HSUM'.out.add u.1 (t.2 * u.2)
            have hlook := HSUM'.out.at_ (keyT u.1)
            obtain ⟨gs, hgse⟩ : ∃ g, g = gsum (contrib (ts.take i) c ++ ((prodT t.1 c).take j).map (fun u => (u.1, t.2 * u.2))) (keyT u.1) := ⟨_, rfl⟩
            rw [← hgse] at hadd hlook hgs
            obtain ⟨KT, hKT⟩ : ∃ K, K = keyT u.1 := ⟨_, rfl⟩
            rw [← hKT] at hkc hks hadd hlook
            obtain ⟨Pm, hPm⟩ : ∃ P, P = t.2 * u.2 := ⟨_, rfl⟩
            rw [← hPm] at hadd
            have hprod2 : Pm ≤ 20922789888000 := by rw [hPm, ← HN1.out, ← HN2.out]; exact hprod
            have hmul : (N1 : Int) * (N2 : Int) = (Pm : Int) := by rw [hPm, HN1.out, HN2.out]; simp
            have hkey : keyOf Tryd.prog 9 (.string ⟨KT.toArray⟩) = some (.string KT) := by
              have := Go.WideMaps.keyOf_string_mk (P := Tryd.prog) (k := 9) Tryd.underlying9 (s := ⟨KT.toArray⟩) (by simp [ByteArray.size, maxLen]; omega)
              simpa using this
            have hw1 : IntKind.i64.wrap ((N1 : Int) * (N2 : Int)) = (Pm : Int) := by rw [hmul]; exact IntWalk.i64_in _ (by omega)
            have hw1b : IntKind.i64.wrap (Pm : Int) = (Pm : Int) := IntWalk.i64_in _ (by omega)
            have hw2 : IntKind.i64.wrap ((gs : Int) + (Pm : Int)) = (gs : Int) + (Pm : Int) := IntWalk.i64_in _ (by omega)
            have hwf : (Lit.int .i64 ((gs : Int) + (Pm : Int))).wf = true := WalkArith.wf_i64 (by omega)
            have HLOOK : Hid (∀ x : Int, D'.atKey (.string KT) (.lit (.int .i64 0)) = .lit (.int .i64 x) → x = (gs : Int)) := Lib.hid (fun x hx => by
              rw [hlook] at hx
              injection hx with e
              injection e with _ e2
              exact e2.symm)
            have HKC := Lib.hid hkc
            have HADD := Lib.hid hadd
            have HKEY := Lib.hid hkey
            have HWF := Lib.hid hwf
            have HOF := Lib.hid hoF
            have HGF := Lib.hid hgF
            have HPME : Hid (Pm = t.2 * u.2) := Lib.hid hPm
            have hn65 : n' < maxLen := by
              have h1 : E + Q ≤ 65536 * 65536 + 65536 := by
                have hE1 : E ≤ 65536 * 65536 := by rw [HE.out]; exact Nat.mul_le_mul (by omega) (Nat.le_refl _)
                exact Nat.add_le_add hE1 hQb
              unfold maxLen
              have h2 : (65536 * 65536 + 65536 : Nat) < 9223372036854775807 := by decide
              omega
            have HN65 := Lib.hid hn65
            clear hoF hsl hkc hadd hlook hgse hKT hPm hkey hwf hgF hn65
            go_wp2_with (first | (go_at_call 12; refine (HKC.out).mono ?_; rintro e w' ⟨rfl, rfl⟩) | (at_lookup; refine wpList_lookup_own_int _ rfl _ _ 27 rfl 9 3 .i64 law_str Tryd.underlying27 Tryd.underlying3 (zero_intE _) M n' _ rfl HOF.out _ _ rfl HKEY.out ?_; intro x hat hwc; obtain rfl := HLOOK.out x hat; clear hat hwc) | (at_mapUpdate; refine wpList_mapUpdate_own _ rfl _ _ _ 27 rfl 9 3 law_str Tryd.underlying27 _ M n' _ rfl HOF.out HN65.out _ _ _ rfl rfl HKEY.out _ [] (plainElem_int Tryd.underlying3 HWF.out) ?_; intro w6 hown6 hgrow6; have HO6 := Lib.hid hown6; have HG6 := Lib.hid hgrow6; clear hown6 hgrow6) | fail)
            go_roundw
            case rel =>
              refine ⟨j + 1, n' + 1, _, by omega, by go_num, HO6.out, by omega, ?_, HGF.out.andThen HG6.out (fun j h => .inr h)⟩
              have := HADD.out
              rw [HTK.out, List.map_append, ← List.append_assoc]
              simp only [List.map_cons, List.map_nil]
              rw [← HPME.out]
              exact this
            case measure => simp [intOf]; omega
          · obtain rfl : j = Q := by omega
            have dj : decide ((j : Int) < (j : Int)) = false := decide_eq_false (by omega)
            have hsum2 : SumOf D' (contrib (ts.take (i + 1)) c) := by
              have := HSUM'.out
              have e : (prodT t.1 c).take j = prodT t.1 c := List.take_of_length_le (by rw [← HQ.out]; exact Nat.le_refl _)
              rw [e] at this
              rw [HCT.out]; exact this
            have hnE : n' ≤ (i + 1) * 65536 := by
              rw [Nat.succ_mul, ← HE.out]
              exact Nat.le_trans hn' (Nat.add_le_add_left hQb E)
            have HSUM2 := Lib.hid hsum2
            have HNE := Lib.hid hnE
            have hMw : w.heap.size ≤ M := by rw [HM.out]; exact Nat.le_refl _
            have HWD : Hid (Below w.heap.size w wD) := Lib.hid (HWC.out.grown HBR'.out HWC.out.size (fun k hk => by
              obtain rfl := Option.some.inj hk
              exact hMw))
            clear hsum2 hnE
            go_wp2
            go_roundw
            case rel => exact ⟨i + 1, n', D', by omega, by go_num, HOWN'.out, HNE.out, HSUM2.out, fun _ => HS.out, HWD.out⟩
            case measure => simp [intOf]; omega
      · have dk : (k != 0) = true := by simpa using hk0
        have hS : ¬ S + c.sum ≤ 16 := fun h => hk0 (HPK.out.2 (HOK.out.2 h))
        have HS := Lib.hid hS
        clear hS hk0
        go_wp2
        go_ret2
        exact ⟨⟨fun h => absurd h HS.out, fun _ => rfl⟩, HWC.out⟩
    · obtain rfl : i = L := by omega
      have di : decide ((i : Int) < (i : Int)) = false := decide_eq_false (by omega)
      have hS := HPOS.out (by
        have := HTS.out.ne
        rw [HL.out]
        exact List.length_pos_iff.2 this)
      have HS := Lib.hid hS
      clear hS
      go_wp2
      go_ret2
      have h1 := HSUM.out
      rw [List.take_of_length_le (by rw [HL.out]; exact Nat.le_refl _)] at h1
      exact ⟨⟨fun _ => ⟨M, n, D, rfl, by rw [HM.out]; exact Nat.le_refl _, HOWN.out, Nat.le_trans hn (Nat.mul_le_mul hlen (Nat.le_refl 65536)), h1⟩, fun h => absurd HS.out h⟩, HBR.out⟩
end Go.Proofs.YtidnpmkdajicjaaDoor
