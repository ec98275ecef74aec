/- Part of the proof. -/
import Derived.Deep.DeepCutAuto
import Derived.Deep.CutBlock
import Derived.Maps.OwnOps
import Derived.Shelf.Strings.Builder1
import Derived.Shelf.Strings.BuilderK
import Derived.Maps.Own
import Derived.Shelf.SlIter.Sorted
import Derived.Shelf.SortM.Plain
import Derived.Shelf.SortM.SortNone
import Derived.Ground.GgzProg
import Derived.Ground.SlgmProg
import Derived.Test.YtpmkdihencepnaaGreatDoorMk41
import Derived.Test.YtpmkdihencepnaaGreatDoorMk45
import Derived.Test.YtpmkdihencepnaaGreatDoorMk49
set_option maxHeartbeats 16000000
set_option maxRecDepth 100000
namespace Go.Proofs.YtpmkdihencepnaaGreatDoor
section
open Go.RowKit Go.Proofs
open Go.Shelf Go.Lib
def DoOut (r : (Str × Int) × St) (e : Ending) (w w' : World) (p : Nat) (v1 v2 : Value) : Prop := e = .returned (.tuple #[sv r.1.1, .int .i64 r.1.2]) ∧ DLeft r.2 w w' p v1 v2
theorem chgF_drop {S : St} {line : Str} (h : Lib.hasPrefix line sDrop = true ∧ namF (Lib.trimPrefix line sDrop) = true) :
 chgF S line = match S.th (Lib.trimPrefix line sDrop) with
 | none => (([], 6), S)
 | some _ => (([], (keepF S line (updT S.th (Lib.trimPrefix line sDrop) none)).1), (keepF S line (updT S.th (Lib.trimPrefix line sDrop) none)).2) := by
 unfold chgF; rw [if_pos h]
 cases S.th (Lib.trimPrefix line sDrop) <;> rfl
theorem chgF_cut {S : St} {line : Str} (h : ¬ (Lib.hasPrefix line sDrop = true ∧ namF (Lib.trimPrefix line sDrop) = true)) :
 chgF S line = if (Lib.cut line sEq).2.2 = false ∨ namF (Lib.cut line sEq).1 = false then (([], 4), S)
  else if (worF S.th (Lib.cut line sEq).2.1).2 ≠ 0 then (([], (worF S.th (Lib.cut line sEq).2.1).2), S)
  else if S.th (Lib.cut line sEq).1 = none ∧ cntT S.th = 50 then (([], 2), S)
  else if (keepF S line (updT S.th (Lib.cut line sEq).1 (some (worF S.th (Lib.cut line sEq).2.1).1))).1 ≠ 0 then (([], (keepF S line (updT S.th (Lib.cut line sEq).1 (some (worF S.th (Lib.cut line sEq).2.1).1))).1), S)
  else ((texF (worF S.th (Lib.cut line sEq).2.1).1, 0), (keepF S line (updT S.th (Lib.cut line sEq).1 (some (worF S.th (Lib.cut line sEq).2.1).1))).2) := by
 unfold chgF; rw [if_neg h]
theorem trimp_len (s p : Str) : (Lib.trimPrefix s p).length ≤ s.length := by
 unfold Lib.trimPrefix
 split
 · rw [List.length_drop]; omega
 · exact Nat.le_refl _
theorem cut_len (s sep : Str) : (Lib.cut s sep).1.length ≤ s.length ∧ (Lib.cut s sep).2.1.length ≤ s.length := by
 unfold Lib.cut
 split
 · exact ⟨by rw [List.length_take]; omega, by rw [List.length_drop]; omega⟩
 · exact ⟨Nat.le_refl _, Nat.zero_le _⟩
theorem own_map {w w' : World} {B b : Nat} {A : Option Addr} {c : Nat} {T : Rws} (h : OwnR w B A c T) (hf : Fx (fun k => k = b) w w') (hm : ∃ x y, w.heap[b]? = some (.map x y)) : OwnR w' B A c T := by
 obtain ⟨x, y, hm⟩ := hm
 have hbb : ∀ {B e size n : Nat} {v : Value} {xs : List Value}, w.ownsRow B e size v n xs → ∀ k, v.ownBlock = some k → ¬ k = b := by
  intro B e size n v xs h k hk e'
  subst e'
  rcases h.2 with ⟨rfl, _⟩ | ⟨g, cap, cur, rfl, _, hh, _⟩
  · simp [Value.ownBlock] at hk
  · obtain rfl : g = k := by simpa [Value.ownBlock] using hk
    rw [hm] at hh; cases hh
 obtain ⟨hs, hm'⟩ := h
 exact ⟨hs, hm'.len, own_fr hm'.out hf (hbb hm'.out), fun r hr => own_fr (hm'.inn r hr) hf (hbb (hm'.inn r hr)), hm'.far, hm'.top⟩
theorem namF_len {s : Str} (h : namF s = true) : s.length ≤ 10 := (of_decide_eq_true h).2.1
theorem chg_drop (p : Nat) (v1 v2 : Value) (S : St) (line : Str) (w : World) (h : DeskM w p v1 v2 S) (hA : Lib.hasPrefix line sDrop = true ∧ namF (Lib.trimPrefix line sDrop) = true) :
 Calls Tryz.prog 18 #[.pointer (some ⟨p, 0, none⟩), sv line] w fun e w' => DoOut (chgF S line) e w w' p v1 v2 := by
 rw [chgF_drop hA]
 have HCP := Lib.hid (cutprefix_c line sDrop w)
 have hnl := namF_len hA.2
 obtain ⟨nm, hnm⟩ : ∃ nm, nm = Lib.trimPrefix line sDrop := ⟨_, rfl⟩
 rw [← hnm] at hA hnl HCP ⊢
 rw [hA.1] at HCP
 have HNM := Lib.hid (named_c nm w (by omega))
 rw [hA.2] at HNM
 obtain ⟨b, ho, hTb⟩ := h.obj
 have c0 : w.cell? ⟨p, 0, none⟩ = some (.map (some b)) := by simp [World.cell?, ho]
 have H := Lib.hid h
 have HT := Lib.hid hTb
 unfold sDrop at HCP
 clear h hTb ho hA hnm
 cases hth : S.th nm with
 | none =>
  have HTH := Lib.hid hth
  clear hth
  go_enter Tryz.func18, Tryz.ntmps18
  go_upto_region 3 with (first | (go_at_call 15; refine (HCP.out).mono ?_; rintro e w0 ⟨rfl, rfl⟩) | (go_at_call 16; refine (HNM.out).mono ?_; rintro e w1 ⟨rfl, hb1⟩; have HB1 := Lib.hid hb1; have c1 := (hb1.cell (World.block_lt_of_cell? w _ c0)).trans c0; have HT1 := Lib.hid (HT.out.below hb1); clear hb1) | fail)
  go_wp2_with (first | (at_lookup; refine TM.look HT1.out rfl _ _ rfl rfl (s := nm) (by omega) rfl ?_; intro A1 c1 _; rw [HTH.out]; simp only [Option.getD_none, Option.isSome_none, List.length_nil]) | fail)
  go_ret2
  exact ⟨rfl, .same H.out (Fx.of_below HB1.out)⟩
 | some T =>
  have HTH := Lib.hid hth
  clear hth
  obtain ⟨kr, hkr⟩ : ∃ kr, kr = keepF S line (updT S.th nm none) := ⟨_, rfl⟩
  have HKR := Lib.hid hkr
  show Calls _ _ _ _ fun e w' => DoOut (([], (keepF S line (updT S.th nm none)).1), (keepF S line (updT S.th nm none)).2) e w w' p v1 v2
  rw [← hkr]
  clear hkr
  go_enter Tryz.func18, Tryz.ntmps18
  go_upto_region 3 with (first | (go_at_call 15; refine (HCP.out).mono ?_; rintro e w0 ⟨rfl, rfl⟩) | (go_at_call 16; refine (HNM.out).mono ?_; rintro e w1 ⟨rfl, hb1⟩; have HB1 := Lib.hid hb1; have c1 := (hb1.cell (World.block_lt_of_cell? w _ c0)).trans c0; have HT1 := Lib.hid (HT.out.below hb1); clear hb1) | fail)
  go_upto_region 8 with (first | (at_lookup; refine TM.look HT1.out rfl _ _ rfl rfl (s := nm) (by omega) rfl ?_; intro A1 c1 _; rw [HTH.out]; simp only [Option.getD_some, Option.isSome_some]) | (go_at_call 30; refine (TM.clone HT1.out).mono ?_; rintro e w2 ⟨rfl, hcl, hb2⟩; have HCL := Lib.hid hcl; have HB2 := Lib.hid hb2; clear hcl hb2) | (at_delete; refine TM.del HCL.out rfl _ _ rfl rfl (s := nm) (by omega) rfl ?_; intro w3 ht3 hf3; have HT3 := Lib.hid (ht3.mono (Nat.le_succ _)); have HO3 := Lib.hid (Old.then_own ((Fx.of_below HB1.out).trans (Fx.of_below HB2.out)) hf3 HB1.out.size); clear ht3 hf3) | fail)
  have HK := Lib.hid (keep_c p w1.heap.size v1 v2 S line _ w3 (H.out.old HO3.out) HT3.out)
  rw [← HKR.out] at HK
  go_wp2_with (first | (go_at_call 31; refine (HK.out).mono ?_; rintro e w4 ⟨rfl, hl4⟩; have HL4 := Lib.hid hl4; clear hl4) | fail)
  go_ret2
  exact ⟨rfl, .of_old HO3.out HL4.out⟩
theorem chg_eq (p B : Nat) (v1 v2 : Value) (S : St) (line : Str) (w : World) (h : DeskM w p v1 v2 S) (he : EnvB B w) (hi : Hi B p v1 v2) (hl : line.length ≤ 400) (hA : ¬ (Lib.hasPrefix line sDrop = true ∧ namF (Lib.trimPrefix line sDrop) = true)) :
 Calls Tryz.prog 18 #[.pointer (some ⟨p, 0, none⟩), sv line] w fun e w' => DoOut (chgF S line) e w w' p v1 v2 := by
 rw [chgF_cut hA]
 have HCP := Lib.hid (cutprefix_c line sDrop w)
 have hnl := trimp_len line sDrop
 have hcl := cut_len line sEq
 obtain ⟨nm, hnm⟩ : ∃ nm, nm = Lib.trimPrefix line sDrop := ⟨_, rfl⟩
 obtain ⟨pf, hpf⟩ : ∃ pf, pf = Lib.hasPrefix line sDrop := ⟨_, rfl⟩
 rw [← hnm] at hA hnl HCP
 rw [← hpf] at hA HCP
 have HNM := Lib.hid (named_c nm w (by omega))
 have HCUT : Hid (∀ w1, Below w.heap.size w w1 → Calls Tryz.prog 22 #[sv line, .string ⟨#[32, 61, 32]⟩] w1 fun e w' => e = .returned (.tuple #[sv (Lib.cut line sEq).1, sv (Lib.cut line sEq).2.1, .bool (Lib.cut line sEq).2.2]) ∧ Below w1.heap.size w1 w') := Lib.hid fun w1 hb => cut_c line sEq w1 (by omega) (he.below hb).env
 obtain ⟨cn, hcn⟩ : ∃ cn, cn = (Lib.cut line sEq).1 := ⟨_, rfl⟩
 obtain ⟨cs, hcs⟩ : ∃ cs, cs = (Lib.cut line sEq).2.1 := ⟨_, rfl⟩
 obtain ⟨ck, hck⟩ : ∃ ck, ck = (Lib.cut line sEq).2.2 := ⟨_, rfl⟩
 rw [← hcn, ← hcs] at hcl
 rw [← hcn, ← hcs, ← hck] at HCUT ⊢
 have HNC : Hid (∀ w1, Calls Tryz.prog 16 #[sv cn] w1 fun e w' => e = .returned (.bool (namF cn)) ∧ Below w1.heap.size w1 w') := Lib.hid fun w1 => named_c cn w1 (by omega)
 obtain ⟨b, ho, hTb⟩ := h.obj
 have c0 : w.cell? ⟨p, 0, none⟩ = some (.map (some b)) := by simp [World.cell?, ho]
 have hpl := World.block_lt_of_cell? w _ c0
 have H := Lib.hid h
 have HE := Lib.hid he
 have HT := Lib.hid hTb
 have HI := Lib.hid hi
 have HA : Hid (¬ (pf = true ∧ namF nm = true)) := Lib.hid hA
 have HW : Hid (∀ w1, Below w.heap.size w w1 → Calls Tryz.prog 32 #[.pointer (some ⟨p, 0, none⟩), sv cs] w1 fun e w' => DOut (worF S.th cs) 0 e w' ∧ Below w1.heap.size w1 w') := Lib.hid fun w1 hb => worth_c p b _ S.th cs w1 (by omega) ((he.below hb).env) ((hb.cell hpl).trans c0) (hTb.below hb)
 have hwf := worF_few S.th cs
 obtain ⟨⟨T, k⟩, hr⟩ : ∃ r, r = worF S.th cs := ⟨_, rfl⟩
 rw [← hr] at HW hwf ⊢
 have HWF : Hid (FewT T) := Lib.hid hwf
 obtain ⟨kn, hkn⟩ : ∃ kn, kn = namF cn := ⟨_, rfl⟩
 rw [← hkn] at HNC ⊢
 obtain ⟨o, hoo⟩ : ∃ o, o = S.th cn := ⟨_, rfl⟩
 obtain ⟨q, hq⟩ : ∃ q, q = cntT S.th := ⟨_, rfl⟩
 have HO := Lib.hid hoo
 have HQ := Lib.hid hq
 rw [← hoo, ← hq]
 obtain ⟨⟨k2, S2⟩, hkr⟩ : ∃ kr, kr = keepF S line (updT S.th cn (some T)) := ⟨_, rfl⟩
 have HKR := Lib.hid hkr
 show Calls _ _ _ _ fun e w' => DoOut (if ck = false ∨ kn = false then (([], 4), S) else if k ≠ 0 then (([], k), S) else if o = none ∧ q = 50 then (([], 2), S) else if (keepF S line (updT S.th cn (some T))).1 ≠ 0 then (([], (keepF S line (updT S.th cn (some T))).1), S) else ((texF T, 0), (keepF S line (updT S.th cn (some T))).2)) e w w' p v1 v2
 rw [← hkr]
 obtain ⟨tx, htx⟩ : ∃ tx, tx = texF T := ⟨_, rfl⟩
 have HTXE := Lib.hid htx
 rw [← htx]
 obtain ⟨R, hR⟩ : ∃ R, R = (if ck = false ∨ kn = false then (([], 4), S) else if k ≠ 0 then (([], k), S) else if o = none ∧ q = 50 then (([], 2), S) else if k2 ≠ 0 then (([], k2), S) else ((tx, 0), S2) : (Str × Int) × St) := ⟨_, rfl⟩
 show Calls _ _ _ _ fun e w' => DoOut (if ck = false ∨ kn = false then (([], 4), S) else if k ≠ 0 then (([], k), S) else if o = none ∧ q = 50 then (([], 2), S) else if k2 ≠ 0 then (([], k2), S) else ((tx, 0), S2)) e w w' p v1 v2
 rw [← hR]
 have HR := Lib.hid hR
 unfold sDrop at HCP
 clear h hTb ho hA hnm he hi hcn hcs hck hpf hr hwf hkn hoo hq hkr htx hR
 have hcn : cn.length ≤ 1000000 := by omega
 go_enter Tryz.func18, Tryz.ntmps18
 go_upto_region 2 with (first | (go_at_call 15; refine (HCP.out).mono ?_; rintro e w0 ⟨rfl, rfl⟩) | fail)
 go_cut [29] (fun bv wz => bv = .bool false ∧ Below w.heap.size w wz)
 case first =>
  cases pf with
  | false =>
   go_wp2
   go_meet
   exact ⟨rfl, Below.refl _ _⟩
  | true =>
   have HNF : Hid (namF nm = false) := by
    have := HA.out
    show _ = _
    simpa using this
   rw [HNF.out] at HNM
   go_wp2_with (first | (go_at_call 16; refine (HNM.out).mono ?_; rintro e w1 ⟨rfl, hb1⟩; have HB1 := Lib.hid hb1; clear hb1) | fail)
   go_meet
   exact ⟨rfl, HB1.out⟩
 case rest =>
  obtain ⟨rfl, hbz⟩ := hcut
  have HBZ := Lib.hid hbz
  clear hbz
  go_upto_region 10 with (first | (go_at_call 22; refine (HCUT.out _ HBZ.out).mono ?_; rintro e w2 ⟨rfl, hb2⟩; have HB2 := Lib.hid (below_of HBZ.out hb2); clear hb2) | fail)
  go_cut [64] (fun bv wz => bv = .bool (!(ck && kn)) ∧ Below w.heap.size w wz)
  case first =>
   cases ck with
   | false =>
    go_wp2
    go_meet
    exact ⟨rfl, HB2.out⟩
   | true =>
    go_wp2_with (first | (go_at_call 16; refine (HNC.out _).mono ?_; rintro e w3 ⟨rfl, hb3⟩; have HB3 := Lib.hid (below_of HB2.out hb3); clear hb3) | fail)
    go_meet
    exact ⟨by simp, HB3.out⟩
  case rest =>
   obtain ⟨rfl, hby⟩ := hcut
   have HBY := Lib.hid hby
   clear hby
   have hr := HR.out
   by_cases hok : ck = false ∨ kn = false
   · rw [if_pos hok] at hr
     have hf : (!(ck && kn)) = true := by rcases hok with rfl | rfl <;> simp
     rw [hf]
     have HR2 := Lib.hid hr
     clear hok hf hr
     go_wp2
     go_ret2
     rw [HR2.out]
     exact ⟨rfl, .same H.out (Fx.of_below HBY.out)⟩
   · rw [if_neg hok] at hr
     have hf : (!(ck && kn)) = false := by
      have := not_or.1 hok
      cases ck <;> cases kn <;> simp_all
     rw [hf]
     clear hok hf
     have hsz := HBY.out.size
     have hc1 := (HBY.out.cell hpl).trans c0
     have HT2 := Lib.hid (HT.out.below HBY.out)
     by_cases hk : k = 0
     · subst hk
       rw [if_neg (by simp)] at hr
       have HR2 := Lib.hid hr
       clear hr
       go_upto_region 16 with (first | (go_at_call 32; refine (HW.out _ HBY.out).mono ?_; rintro e w4 ⟨hd, hb4⟩; unfold DOut at hd; obtain ⟨A4, c4, rfl, ho4⟩ := hd; have HO4 := Lib.hid ho4; have HB4 := Lib.hid (below_of HBY.out hb4); have hc4 := (hb4.cell (World.block_lt_of_cell? _ _ hc1)).trans hc1; have HT4 := Lib.hid (HT2.out.below hb4); clear ho4 hb4) | (at_lookup; refine TM.look HT4.out rfl _ _ rfl rfl (s := cn) (by omega) rfl ?_; intro A1 c1 _; rw [← HO.out]) | fail)
       obtain ⟨iz, hiz⟩ : ∃ iz, iz = o.isSome := ⟨_, rfl⟩
       have HIZ := Lib.hid hiz
       rw [← hiz]
       clear hiz
       go_cut [92] (fun bv wy => bv = .bool (!iz && decide (q = 50)) ∧ w4 = wy)
       case first =>
        cases iz with
        | true =>
         go_wp2
         go_meet
         exact ⟨rfl, rfl⟩
        | false =>
         have hlen := fun ty => (TM.size HT4.out ty).1
         rw [← HQ.out] at hlen
         have hq50 : ((q : Int) == 50) = decide (q = 50) := by
          by_cases e : q = 50
          · subst e; rfl
          · rw [decide_eq_false e]; simp; omega
         go_wp2
         go_meet
         exact ⟨rfl, rfl⟩
       case rest =>
        obtain ⟨rfl, hw⟩ := hcut
        rw [← hw]
        clear hw
        have hr := HR2.out
        by_cases hlg : o = none ∧ q = 50
        · rw [if_pos hlg] at hr
          have hf : (!iz && decide (q = 50)) = true := by rw [HIZ.out, hlg.1, hlg.2]; rfl
          rw [hf]
          have HR3 := Lib.hid hr
          clear hlg hf hr
          go_wp2
          go_ret2
          rw [HR3.out]
          exact ⟨rfl, .same H.out (Fx.of_below HB4.out)⟩
        · rw [if_neg hlg] at hr
          have hf : (!iz && decide (q = 50)) = false := by
           rw [HIZ.out]
           cases o with
           | none => simp at hlg ⊢; exact hlg
           | some _ => rfl
          rw [hf]
          have HR3 := Lib.hid hr
          clear hlg hf hr
          go_upto_region 20 with (first | (go_at_call 30; refine (TM.clone HT4.out).mono ?_; rintro e w5 ⟨rfl, hcl, hb5⟩; have HCL := Lib.hid hcl; have HB5 := Lib.hid hb5; have HO5 := Lib.hid (HO4.out.below hb5); clear hcl hb5) | (at_mapUpdate; refine TM.put HCL.out (by have := H.out.le; omega) rfl _ _ _ rfl rfl (s := cn) hcn rfl (T := T) (A := A4) (c := c4) rfl HWF.out HO5.out ?_; intro w6 ht6 hf6; have HT6 := Lib.hid ht6; have HF6 := Lib.hid hf6; clear ht6 hf6) | fail)
          have HO6 : Hid (Old w w6) := Lib.hid (Old.then_own ((Fx.of_below HB4.out).trans ((Fx.of_below HB5.out).wide (fun _ _ h => h))) HF6.out HB4.out.size)
          have HD6 := Lib.hid (H.out.old HO6.out)
          have HK := Lib.hid (keep_c p w4.heap.size v1 v2 S line _ w6 HD6.out HT6.out)
          rw [← HKR.out] at HK
          by_cases hk2 : k2 = 0
          · subst hk2
            have hr := HR3.out
            rw [if_neg (by simp)] at hr
            have HR4 := Lib.hid hr
            have HR6 : Hid (OwnR w6 0 A4 c4 T) := Lib.hid (by
             refine own_map HO5.out HF6.out ?_
             obtain ⟨D, ⟨es, clock, hb, _⟩, _⟩ := HCL.out
             exact ⟨_, _, hb⟩)
            have HTX : Hid (∀ w7, DLeft S2 w6 w7 p v1 v2 → Calls Tryz.prog 17 #[.slice A4 T.length c4] w7 fun e w' => e = .returned (sv tx) ∧ Below w7.heap.size w7 w') := Lib.hid fun w7 hl7 => by
             have he7 := (hl7.env (HE.out.old HO6.out) HI.out).env
             obtain ⟨v1', v2', h1, h2⟩ := hl7
             rw [HTXE.out]
             exact text_c A4 c4 T w7 HWF.out he7 (HR6.out.fr h2.1 HD6.out.bare).tc
            clear hr
            go_wp2_with (first | (go_at_call 31; refine (HK.out).mono ?_; rintro e w7 ⟨rfl, hl7⟩; have HL7 := Lib.hid hl7; clear hl7) | (go_at_call 17; refine (HTX.out _ HL7.out).mono ?_; rintro e w8 ⟨rfl, hb8⟩; have HB8 := Lib.hid hb8; clear hb8) | fail)
            go_ret2
            rw [HR4.out]
            exact ⟨rfl, .of_old HO6.out (HL7.out.then_old (Fx.of_below HB8.out))⟩
          · have hr := HR3.out
            rw [if_pos hk2] at hr
            have HR4 := Lib.hid hr
            have dk2 : (k2 != 0) = true := by simpa using hk2
            have hS2 : S2 = S := by
             have := HKR.out
             rcases keep_cases S line (updT S.th cn (some T)) with ⟨g1, g2⟩ | ⟨g1, _⟩
             · rw [← this] at g2; exact g2
             · rw [← this] at g1; exact absurd g1 hk2
            rw [hS2] at HK
            clear hk2 hr hS2
            go_wp2_with (first | (go_at_call 31; refine (HK.out).mono ?_; rintro e w7 ⟨rfl, hl7⟩; have HL7 := Lib.hid hl7; clear hl7) | fail)
            go_ret2
            rw [HR4.out]
            exact ⟨rfl, .of_old HO6.out HL7.out⟩
     · rw [if_pos hk] at hr
       have HR2 := Lib.hid hr
       have dk : (k != 0) = true := by simpa using hk
       clear hk hr
       go_wp2_with (first | (go_at_call 32; refine (HW.out _ HBY.out).mono ?_; rintro e w4 ⟨hd, hb4⟩; unfold DOut at hd; obtain ⟨A4, c4, rfl, _⟩ := hd; have HB4 := Lib.hid (below_of HBY.out hb4); clear hb4) | fail)
       go_ret2
       rw [HR2.out]
       exact ⟨rfl, .same H.out (Fx.of_below HB4.out)⟩
theorem chg_c (p B : Nat) (v1 v2 : Value) (S : St) (line : Str) (w : World) (h : DeskM w p v1 v2 S) (he : EnvB B w) (hi : Hi B p v1 v2) (hl : line.length ≤ 400) :
 Calls Tryz.prog 18 #[.pointer (some ⟨p, 0, none⟩), sv line] w fun e w' => DoOut (chgF S line) e w w' p v1 v2 := by
 by_cases hA : Lib.hasPrefix line sDrop = true ∧ namF (Lib.trimPrefix line sDrop) = true
 · exact chg_drop p v1 v2 S line w h hA
 · exact chg_eq p B v1 v2 S line w h he hi hl hA
theorem lays166 : Lays.n166 Tryz.prog Tryz.lays156_ren := { Tryz.lays156 with }
theorem lays169 : Lays.n169 Tryz.prog Tryz.lays156_ren := { Tryz.lays156 with }
abbrev Bld (b : Nat) (l : List UInt8) (w : World) : Prop := Lib.IsBuilder 56 5 b b (Lib.byteCells l) w
theorem Bld.lt {b : Nat} {l : List UInt8} {w : World} (h : Bld b l w) : b < w.heap.size := h.elim (fun k => k.lt) (fun k => k.lt)
theorem bld_new (w : World) : Bld w.heap.size [] (w.alloc (.cells #[.pointer none, .slice none 0 0] 56)) := Lib.fresh_isBuilder _ _ w
theorem ws_any {b : Nat} {l m : List UInt8} {w : World} (h : Bld b l w) (hl : l.length + m.length < 1000000) :
 Calls Tryz.prog 19 #[.pointer (some ⟨b, 0, none⟩), sv m] w fun e w' => (∃ v, e = .returned v) ∧ Bld b (l ++ m) w' ∧ Below b w w' := by
 have hs : (⟨m.toArray⟩ : ByteArray).size = m.length := by simp [ByteArray.size]
 refine (Any.Builder_WriteString lays166 extraJ b b (Lib.byteCells l) ⟨m.toArray⟩ w h (by rw [hs]; simp [Lib.byteCells]; omega) (Nat.le_of_lt h.lt)).mono ?_
 rintro e w' ⟨he, h1, h2⟩
 have e1 : Lib.byteCells (l ++ m) = Lib.byteCells l ++ Lib.strCells ⟨m.toArray⟩ := by simp [Lib.byteCells, Lib.strCells]
 exact ⟨⟨_, he⟩, .inr (by rw [e1]; exact h1), h2⟩
theorem bs_any {b : Nat} {l : List UInt8} {w : World} (h : Bld b l w) :
 Calls Tryz.prog 20 #[.pointer (some ⟨b, 0, none⟩)] w fun e w' => e = .returned (sv l) ∧ Below b w w' :=
 Any.Builder_String_any lays169 extraJ b b l w h (Nat.le_of_lt h.lt)
theorem getD_str {l : List Str} {i : Nat} (h : i < l.length) : l.getD i [] = l[i] := by
 rw [List.getD_eq_getElem?_getD, List.getElem?_eq_getElem h]; rfl
theorem TM.nil (w : World) : TM (w.alloc (.map #[] 0)) w.heap.size 0 (fun _ => none) :=
 ⟨.map [], World.ownsMap_made _ _ _ _, fun _ => rfl, fun _ _ e => by cases e⟩
theorem hi_nil {B p : Nat} (h : B ≤ p) : Hi B p (.slice none 0 0) (.slice none 0 0) := by
 rintro k (rfl | hk | hk)
 · exact h
 · simp [Value.ownBlock] at hk
 · simp [Value.ownBlock] at hk
theorem deskM_new (w : World) (b : Nat) (h : TM w b 0 (fun _ => none)) : DeskM (w.alloc (.cells #[.map (some b), .slice none 0 0, .slice none 0 0] 42 (0, 0))) w.heap.size (.slice none 0 0) (.slice none 0 0) St.new :=
 ⟨⟨b, World.alloc_heap_new _ _, h.below ((Below.refl _ _).alloc (Nat.le_refl _) _)⟩, World.ownsRow_nil _ _ _ _, ⟨[], rfl, World.ownsRow_nil _ _ _ _, fun i hi => by simp [St.new] at hi⟩, rfl, by simp [St.new]⟩
theorem new_c (w : World) : Calls Tryz.prog 5 #[] w fun e w' => ∃ p, e = .returned (.pointer (some ⟨p, 0, none⟩)) ∧ DeskM w' p (.slice none 0 0) (.slice none 0 0) St.new ∧ Below w.heap.size w w' ∧ w.heap.size ≤ p := by
 have hmm := @run_makeMap Tryz.prog
 have HT := Lib.hid (TM.nil w)
 go_enter Tryz.func5, Tryz.ntmps5
 go_wp2
 go_ret
 exact ⟨_, rfl, (by have h1 := deskM_new _ _ HT.out; rwa [World.size_alloc] at h1), ((Below.refl _ w).alloc (Nat.le_refl _) _).alloc (by simp) _, by simp⟩
theorem save_c (p : Nat) (v1 v2 : Value) (S : St) (w : World) (h : DeskM w p v1 v2 S) (hr : RepD S) :
 Calls Tryz.prog 7 #[.pointer (some ⟨p, 0, none⟩)] w fun e w' => e = .returned (sv (sav S.log)) ∧ Below w.heap.size w w' := by
 obtain ⟨⟨A, c, rfl⟩, _⟩ := h.vals
 obtain ⟨b, ho, hTb⟩ := h.obj
 have c1 : w.cell? ⟨p, 1, none⟩ = some (.slice A S.log.length c) := by simp [World.cell?, ho]
 have hsl := (own_str h.log)
 obtain ⟨A', c', e1, _, _, hsl⟩ := hsl
 injection e1 with e1 _ _
 subst e1
 have hsh := hr.short
 have hlen := h.le
 have hsv := hr.sav_le
 obtain ⟨L, hL⟩ : ∃ L, L = S.log := ⟨_, rfl⟩
 rw [← hL] at hsl hsh hlen c1 hsv ⊢
 have HSH := Lib.hid hsh
 clear h hTb ho hr hL hsh
 have hpl := World.block_lt_of_cell? w _ c1
 go_enter Tryz.func7, Tryz.ntmps7
 go_upto_region 2 with fail
 have hb0 := bld_new w
 obtain ⟨w1, hw1⟩ : ∃ w1, w1 = w.alloc (.cells #[.pointer none, .slice none 0 0] 56) := ⟨_, rfl⟩
 have hB1 : Below w.heap.size w w1 := by rw [hw1]; exact (Below.refl _ w).alloc (Nat.le_refl _) _
 have q1 := (hB1.cell hpl).trans c1
 rw [← hw1] at hb0 ⊢
 have HSL := Lib.hid (hsl.below hB1)
 have HB0 := Lib.hid hb0
 have HB1 := Lib.hid hB1
 clear hb0 hB1 hw1 hsl c1
 go_wp2
 go_loopw [11] (fun iv wr => ∃ i, i ≤ L.length ∧ iv = .int .i64 i ∧ Bld w.heap.size (sav (L.take i)) wr ∧ Below w.heap.size w1 wr) (fun iv _ => L.length - (Go.RowKit.intOf iv).toNat)
 case atStart => exact ⟨0, Nat.zero_le _, rfl, HB0.out, Below.refl _ _⟩
 case round =>
  obtain ⟨i, hi, rfl, hbl, hbw⟩ := hrel
  have HBL := Lib.hid hbl
  have HBW := Lib.hid hbw
  obtain ⟨w9, rfl⟩ : ∃ w9, w9 = wr := ⟨_, rfl⟩
  clear hbl hbw
  by_cases hit : i < L.length
  · have di : decide (i < L.length) = true := decide_eq_true hit
    have hs9 := HSL.out.below HBW.out
    obtain ⟨bk, o, rfl, hbl, hcells⟩ := hs9 (by simp; omega)
    have hcl := hcells i (sv (L.getD i [])) (by rw [List.getElem?_map, List.getElem?_eq_getElem hit, getD_str hit]; rfl)
    clear hcells
    have hxl : (L.getD i []).length ≤ 400 := HSH.out _ (by rw [getD_str hit]; exact List.getElem_mem hit)
    have hsn : sav (L.take (i + 1)) = sav (L.take i) ++ (L.getD i [] ++ [10]) := by rw [List.take_succ_eq_append_getElem hit, sav_snoc, getD_str hit]
    have hsl2 : (sav (L.take i)).length ≤ 80200 := by
     have h1 := sav_len 400 (L.take i) (fun x hx => HSH.out x (List.mem_of_mem_take hx))
     have h2 : (L.take i).length ≤ 200 := by rw [List.length_take]; omega
     omega
    obtain ⟨x, hx⟩ : ∃ x, x = L.getD i [] := ⟨_, rfl⟩
    rw [← hx] at hcl hxl hsn
    have HW := Lib.hid (ws_any (m := x ++ [10]) HBL.out (by simp; omega))
    have HSN := Lib.hid hsn
    have hbig : ¬ 9223372036854775807 < x.length + 1 := by omega
    clear hx hsn hs9 hxl hsl2 hbl
    go_wp2_with (first | (go_at_call 19; refine (HW.out).mono ?_; rintro e w7 ⟨⟨v7, rfl⟩, hbl7, hb7⟩; have HBL7 := Lib.hid hbl7; have HB7 := Lib.hid hb7; clear hbl7 hb7) | fail)
    go_roundw
    case rel => exact ⟨i + 1, by omega, by go_num, by rw [HSN.out]; exact HBL7.out, HBW.out.trans HB7.out⟩
    case measure => simp [Go.RowKit.intOf]; omega
  · have di : decide (i < L.length) = false := decide_eq_false hit
    obtain rfl : i = L.length := by omega
    have hbl := HBL.out
    rw [List.take_length] at hbl
    have HS := Lib.hid (bs_any hbl)
    clear hbl
    go_wp2_with (first | (go_at_call 20; refine (HS.out).mono ?_; rintro e w7 ⟨rfl, hb7⟩; have HB7 := Lib.hid hb7; clear hb7) | fail)
    go_ret
    exact ⟨rfl, HB1.out.trans (HBW.out.trans HB7.out)⟩
end
end Go.Proofs.YtpmkdihencepnaaGreatDoor
namespace Go.Proofs
open Go.RowKit Go.Maps Go.Sort Go.Shelf
shelf_lay_g SlLaysZ.n7 Ggz 7 at Tryz 14 as Tryz.keysA
shelf_lay_g SlLaysZ.n6 Ggz 6 at Tryz 13 as Tryz.sortedA
shelf_lay_g SlLaysM.n6 Slgm 6 at Tryz 25 as Tryz.sortA
theorem Tryz.sortsA (m : Nat) : AnyZ.SortsIn Tryz.prog Tryz.sortedA_ren Fence.wide m :=
 ⟨fun blk off cap ss W hH hblk hsz => callsIn_wide.2 (AnyM.slices_Sort_string Tryz.sortA blk off cap ss W hH hblk hsz),
  fun p cap W => callsIn_wide.2 (AnyM.slices_Sort_string_none Tryz.sortA p cap W)⟩
end Go.Proofs
namespace Go.Proofs.YtpmkdihencepnaaGreatDoor
open Go.RowKit Go.Proofs Go.Maps
open Go.Shelf Go.Lib
theorem keys_c (b : Nat) (w : World) : Calls Tryz.prog 14 #[.map (some b)] w fun e w' => e = .returned (.func (.func 26) #[] #[.pointer (some ⟨w.heap.size, 0, none⟩)]) ∧ w' = w.alloc (.cells #[.map (some b)] 39) :=
 (callsIn_wide (n := 5)).1 (AnyZ.keys_in Tryz.keysA Fence.wide 5 trivial rfl (some b) w)
theorem sorted_c (b n : Nat) (th : Thg) (w : World) (h : TM w b n th) (hn : n ≤ 1000) : Calls Tryz.prog 13 #[.func (.func 26) #[] #[.pointer (some ⟨w.heap.size, 0, none⟩)]] (w.alloc (.cells #[.map (some b)] 39)) fun e w' =>
 (∃ v, e = .returned v ∧ w'.ownsRow 0 9 1 v (keysT th).length ((keysT th).map sv)) ∧ Below w.heap.size w w' ∧ (keysT th).length ≤ n := by
 obtain ⟨D, h1, h2, h3⟩ := h
 obtain ⟨g1, g2, g3⟩ := TM.keys h1 h2
 have hsz := h1.size_le
 have hbl := h1.lt
 have hseq : SeqGives Fence.wide 2 Tryz.prog 26 #[.pointer (some ⟨w.heap.size, 0, none⟩)] encStr (fun ss => ss.Perm (strKeys D)) (Maps.size D) (w.alloc (.cells #[.map (some b)] 39)) :=
  AnyZ.keys_gives (ρ := Tryz.keysA_ren) { Tryz.keysA with } Fence.wide _ trivial rfl (by omega) w.heap.size b n D _ (by simp) (by simp) (by
   obtain ⟨es, clock, hb, Ft, hs, hD⟩ := h1
   exact ⟨es, clock, (Below.heap_alloc _ _ b hbl).trans hb, Ft, hs, hD⟩)
 have cS := AnyZ.sorted_in Tryz.sortedA Fence.wide 5 trivial trivial trivial trivial rfl (by omega) (Tryz.sortsA _) (enters_of Tryz.func25 (by kernel_rfl) rfl) 26 #[.pointer (some ⟨w.heap.size, 0, none⟩)] trivial (enters_of Tryz.func26 (by kernel_rfl) rfl) _ _ (by unfold maxLen; omega) (by omega) _ hseq
 refine ((callsIn_wide (n := 5)).1 (show CallsIn Fence.wide 5 Tryz.prog 13 _ _ _ from cS)).mono ?_
 rintro e w' ⟨v, ss, rfl, hS, hrow, _, hb⟩
 have hk := (cnt_of g1 g2).2
 have e1 : keysT th = ss.mergeSort (fun x y => decide (x ≤ y)) := hk.trans (mergeSort_of_perm hS).symm
 have e2 : (keysT th).length = ss.length := by rw [e1]; exact (List.mergeSort_perm ss _).length_eq
 refine ⟨⟨v, rfl, ?_⟩, ((Below.refl _ w).alloc (Nat.le_refl _) _).trans (hb.mono (by simp)), by rw [e2, hS.length_eq, g3]; exact hsz⟩
 rw [e2, e1]
 exact hrow.mono (Nat.zero_le _)
end Go.Proofs.YtpmkdihencepnaaGreatDoor
