/- Part of the proof. -/
import Derived.BigRegion
import Derived.Test.YtpmkdihencepnaaGreatDoorMk50
set_option maxHeartbeats 16000000
set_option maxRecDepth 100000
namespace Go.Proofs.YtpmkdihencepnaaGreatDoor
section
open Go.RowKit Go.Proofs
open Go.Shelf Go.Lib
theorem str_ne {s t : Str} (h : s ≠ t) : (s == t) = false := by simpa using h
theorem doF_long {S : St} {line : Str} (h : 400 < line.length) : doF S line = (([], 2), S) := by unfold doF; rw [if_pos h]
theorem doF_names {S : St} : doF S sNames = ((Lib.join (keysT S.th) [32], 0), S) := by unfold doF; rw [if_neg (by decide), if_pos rfl]
theorem doF_undo {S : St} : doF S sUndo = if S.log = [] then (([], 5), S) else (([], 0), undoF S) := by
 unfold doF; rw [if_neg (by decide), if_neg (by decide), if_pos rfl]
theorem doF_show {S : St} {line : Str} (h1 : ¬ 400 < line.length) (h2 : line ≠ sNames) (h3 : line ≠ sUndo) (h4 : Lib.hasPrefix line sShow = true ∧ namF (Lib.trimPrefix line sShow) = true) :
 doF S line = match S.th (Lib.trimPrefix line sShow) with
 | none => (([], 6), S)
 | some t => ((texF t, 0), S) := by
 unfold doF; rw [if_neg h1, if_neg h2, if_neg h3, if_pos h4]
 cases S.th (Lib.trimPrefix line sShow) <;> rfl
theorem doF_chg {S : St} {line : Str} (h1 : ¬ 400 < line.length) (h2 : line ≠ sNames) (h3 : line ≠ sUndo) (h4 : ¬ (Lib.hasPrefix line sShow = true ∧ namF (Lib.trimPrefix line sShow) = true)) :
 doF S line = chgF S line := by
 unfold doF; rw [if_neg h1, if_neg h2, if_neg h3, if_neg h4]
theorem do_long (p : Nat) (v1 v2 : Value) (S : St) (line : Str) (w : World) (h : DeskM w p v1 v2 S) (hl : line.length ≤ 9223372036854775807) (h1 : 400 < line.length) :
 Calls Tryz.prog 6 #[.pointer (some ⟨p, 0, none⟩), sv line] w fun e w' => DoOut (doF S line) e w w' p v1 v2 := by
 rw [doF_long h1]
 have H := Lib.hid h
 have d1 : decide ((400 : Int) < (line.length : Int)) = true := decide_eq_true (by omega)
 clear h
 go_enter Tryz.func6, Tryz.ntmps6
 go_wp2
 go_ret2
 exact ⟨rfl, .same H.out (Fx.refl _ _)⟩
theorem keys_len {S : St} (hr : RepD S) (hn : (keysT S.th).length ≤ 200) : (Lib.join (keysT S.th) [32]).length ≤ 140737488355328 := by
 have := join_len [32] 10 (keysT S.th) (fun x hx => namF_len (hr.names x (keys_mem hx)))
 simp at this
 omega
theorem do_names (p : Nat) (v1 v2 : Value) (S : St) (w : World) (h : DeskM w p v1 v2 S) (hr : RepD S) :
 Calls Tryz.prog 6 #[.pointer (some ⟨p, 0, none⟩), sv sNames] w fun e w' => DoOut (doF S sNames) e w w' p v1 v2 := by
 rw [doF_names]
 obtain ⟨b, ho, hTb⟩ := h.obj
 have c0 : w.cell? ⟨p, 0, none⟩ = some (.map (some b)) := by simp [World.cell?, ho]
 have hle := h.le
 have HS := Lib.hid (sorted_c b _ S.th w hTb (by omega))
 have HKL : Hid ((keysT S.th).length ≤ S.log.length → (Lib.join (keysT S.th) [32]).length ≤ 140737488355328) := Lib.hid fun hk => keys_len hr (by omega)
 have H := Lib.hid h
 clear h ho hTb hr
 obtain ⟨KS, hKS⟩ : ∃ KS, KS = keysT S.th := ⟨_, rfl⟩
 rw [← hKS] at HS HKL ⊢
 clear hKS
 unfold sNames
 go_enter Tryz.func6, Tryz.ntmps6
 go_wp2_with (first | (go_at_call 14; refine (keys_c b w).mono ?_; rintro e w1 ⟨rfl, rfl⟩) | (go_at_call 13; refine (HS.out).mono ?_; rintro e w2 ⟨⟨v, rfl, hrow⟩, hb2, hlen⟩; obtain ⟨Ay, cy, rfl, _, hyc, hsy⟩ := own_str hrow; have HJ := Lib.hid (join_c Ay cy KS [32] w2 hyc (by omega) (HKL.out hlen) hsy); have HB2 := Lib.hid hb2; clear hrow hb2 hlen hsy) | (go_at_call 12; refine (HJ.out).mono ?_; rintro e w3 ⟨rfl, hb3⟩; have HB3 := Lib.hid hb3; clear hb3) | fail)
 go_ret2
 exact ⟨rfl, .same H.out (Fx.of_below (below_of HB2.out HB3.out))⟩
theorem do_undo0 (p : Nat) (v1 v2 : Value) (S : St) (w : World) (h : DeskM w p v1 v2 S) (h0 : S.log = []) :
 Calls Tryz.prog 6 #[.pointer (some ⟨p, 0, none⟩), sv sUndo] w fun e w' => DoOut (doF S sUndo) e w w' p v1 v2 := by
 rw [doF_undo, if_pos h0]
 obtain ⟨⟨A, c, rfl⟩, _⟩ := h.vals
 obtain ⟨b, ho, hTb⟩ := h.obj
 have c1 : w.cell? ⟨p, 1, none⟩ = some (.slice A 0 c) := by simp [World.cell?, ho, h0]
 have H := Lib.hid h
 clear h ho hTb h0
 unfold sUndo
 go_enter Tryz.func6, Tryz.ntmps6
 go_wp2
 go_ret2
 exact ⟨rfl, .same H.out (Fx.refl _ _)⟩
theorem own_drop {w : World} {B e n : Nat} {v : Value} {xs : List Value} (h : w.ownsRow B e 1 v (n + 1) xs) : ∃ g c, v = .slice (some ⟨g, 0, none⟩) (n + 1) c ∧ n + 1 ≤ c ∧ c ≤ maxLen ∧ (∀ k x, xs[k]? = some x → w.cell? ⟨g, k, none⟩ = some x) ∧ w.ownsRow B e 1 (.slice (some ⟨g, 0, none⟩) n c) n (xs.take n) := by
 have hl := h.1
 obtain ⟨g0, c0, e0, hcell, hc0⟩ := own_tab h (by omega)
 rcases h.2 with ⟨_, e2⟩ | ⟨g, cap, cur, rfl, hg, hh, hc, hm, hs, ht⟩
 · omega
 · injection e0 with e1 _ e3
   injection e1 with e1
   injection e1 with e1
   subst e1 e3
   refine ⟨g, cap, rfl, hc, hm, hcell, by simp at hl ⊢; omega, .inr ⟨g, cap, cur, rfl, hg, hh, by omega, hm, hs, ?_⟩⟩
   rw [← ht, List.take_take]
   congr 1
   omega
theorem undo_end {w w' : World} {p m b ga gd ca cd : Nat} {S : St} {bs : List Nat} (h : DeskM w p (.slice (some ⟨ga, 0, none⟩) (m + 1) ca) (.slice (some ⟨gd, 0, none⟩) (m + 1) cd) S) (hm : S.log.length = m + 1)
 (hbl : bs.length = S.done.length) (hts : ∀ i, i < S.done.length → TM w (bs.getD i 0) i (S.done.getD i (fun _ => none)))
 (hl : w.ownsRow 0 9 1 (.slice (some ⟨ga, 0, none⟩) m ca) m ((S.log.map sv).take m)) (hd : w.ownsRow 0 39 1 (.slice (some ⟨gd, 0, none⟩) m cd) m ((bs.map fun b => Value.map (some b)).take m))
 (hb : b = bs.getD m 0) (hp : w'.heap[p]? = some (.cells #[.map (some b), .slice (some ⟨ga, 0, none⟩) m ca, .slice (some ⟨gd, 0, none⟩) m cd] 42 (0, 0))) (hf : Fx (fun k => k = p) w w') :
 DLeft (undoF S) w w' p (.slice (some ⟨ga, 0, none⟩) (m + 1) ca) (.slice (some ⟨gd, 0, none⟩) (m + 1) cd) := by
 have hdl : S.done.length = m + 1 := by rw [h.len, hm]
 have hX : Bare (fun k => k = p) w := fun k hk => h.bare k (.inl hk)
 obtain ⟨_, f2, f3⟩ := h.far
 have e1 : (undoF S).log.length = m := by show S.log.dropLast.length = m; rw [List.length_dropLast]; omega
 have e2 : (undoF S).done.length = m := by show S.done.dropLast.length = m; rw [List.length_dropLast]; omega
 have eT : (undoF S).th = S.done.getD m (fun _ => none) := by
  show S.done.getLastD (fun _ => none) = _
  rw [List.getLastD_eq_getLast?, List.getLast?_eq_getElem?, hdl, List.getD_eq_getElem?_getD]
  rfl
 have eL : (S.log.map sv).take m = (undoF S).log.map sv := by
  show _ = S.log.dropLast.map sv
  rw [List.dropLast_eq_take, hm, List.map_take]; rfl
 refine ⟨.slice (some ⟨ga, 0, none⟩) m ca, .slice (some ⟨gd, 0, none⟩) m cd, ⟨⟨b, hp, ?_⟩, ?_, ⟨bs.take m, ?_, ?_, fun i hi => ?_⟩, ?_, ?_⟩, hf.wide (fun k _ hk => .inl hk), fun k hk => .inl ?_⟩
 · rw [e1, eT, hb]; exact (hts m (by omega)).fr hf hX
 · rw [e1, ← eL]; exact own_fr hl hf (fun k h1 h2 => by subst h2; exact f2 h1)
 · rw [e2, List.length_take]; omega
 · rw [e2, List.map_take]; exact own_fr hd hf (fun k h1 h2 => by subst h2; exact f3 h1)
 · rw [e2] at hi
   have g1 : (bs.take m).getD i 0 = bs.getD i 0 := by rw [List.getD_eq_getElem?_getD, List.getElem?_take_of_lt hi, ← List.getD_eq_getElem?_getD]
   have g2 : (undoF S).done.getD i (fun _ => none) = S.done.getD i (fun _ => none) := by
    show S.done.dropLast.getD i _ = _
    rw [List.dropLast_eq_take, hdl, List.getD_eq_getElem?_getD, List.getElem?_take_of_lt (by omega), ← List.getD_eq_getElem?_getD]
   rw [g1, g2]; exact (hts i (by omega)).fr hf hX
 · rw [e1, e2]
 · rw [e1]; have := h.le; omega
 · rcases hk with rfl | hk | hk
   · exact .inl rfl
   · exact .inr (.inl hk)
   · exact .inr (.inr hk)
theorem do_undo1 (p m : Nat) (v1 v2 : Value) (S : St) (w : World) (h : DeskM w p v1 v2 S) (h0 : S.log.length = m + 1) :
 Calls Tryz.prog 6 #[.pointer (some ⟨p, 0, none⟩), sv sUndo] w fun e w' => DoOut (doF S sUndo) e w w' p v1 v2 := by
 rw [doF_undo, if_neg (by intro e; rw [e] at h0; simp at h0)]
 obtain ⟨b, ho, hTb⟩ := h.obj
 obtain ⟨bs, hbl, hdn, hts⟩ := h.done
 have hdl := h.len
 have hlg := h.log
 rw [h0] at hlg
 rw [hdl, h0] at hdn
 obtain ⟨ga, ca, rfl, hca, hcm, _, hl'⟩ := own_drop hlg
 obtain ⟨gd, cd, rfl, hcd, hdm, hcells, hd'⟩ := own_drop hdn
 have c0 : w.cell? ⟨p, 0, none⟩ = some (.map (some b)) := by simp [World.cell?, ho]
 have c1 : w.cell? ⟨p, 1, none⟩ = some (.slice (some ⟨ga, 0, none⟩) (m + 1) ca) := by simp [World.cell?, ho]
 have c2 : w.cell? ⟨p, 2, none⟩ = some (.slice (some ⟨gd, 0, none⟩) (m + 1) cd) := by simp [World.cell?, ho]
 have z0 : w.frozen? ⟨p, 0, none⟩ = false := by simp [World.frozen?, ho]
 have hcb := hcells m (.map (some (bs.getD m 0))) (by
  have hm : m < bs.length := by omega
  rw [List.getElem?_map, List.getElem?_eq_getElem hm, List.getD_eq_getElem?_getD, List.getElem?_eq_getElem hm]; rfl)
 have hgp : gd ≠ p := by
  have := h.far.2.2
  intro e; exact this (by rw [e]; rfl)
 obtain ⟨bn, hbn⟩ : ∃ bn, bn = bs.getD m 0 := ⟨_, rfl⟩
 rw [← hbn] at hcb
 have H := Lib.hid h
 have HBL := Lib.hid hbl
 have HTS := Lib.hid hts
 have HL := Lib.hid hl'
 have HD := Lib.hid hd'
 have HBN := Lib.hid hbn
 have HO := Lib.hid ho
 have H0 := Lib.hid h0
 have hle := h.le
 have hmm : m ≤ 200 := by omega
 have d0 : (((m + 1 : Nat) : Int) == 0) = false := by simp; omega
 clear h hbl hts hl' hd' hbn ho h0 hTb hdl hlg hdn hcells hle
 unfold sUndo
 go_enter Tryz.func6, Tryz.ntmps6
 go_upto_region 8 with fail
 have hw1 : IntKind.i64.wrap ((m : Int) + 1 - 1) = (m : Int) := by rw [IntWalk.i64_in _ (by omega)]; omega
 go_region
 go_upto_region 9 with fail
 obtain ⟨w2, hw2⟩ : ∃ w2, w2 = (w.setCell ⟨p, 0, none⟩ (.map (some bn))).drew := ⟨_, rfl⟩
 rw [← hw2]
 have hh2 : w2.heap[p]? = some (.cells #[.map (some bn), .slice (some ⟨ga, 0, none⟩) (m + 1) ca, .slice (some ⟨gd, 0, none⟩) (m + 1) cd] 42 (0, 0)) := by
  rw [hw2]; exact obj_set (k := 0) HO.out (.map (some bn))
 have hf2 : Fx (fun k => k = p) w w2 := by
  rw [hw2]
  have := fx_set w ⟨p, 0, none⟩ (.map (some bn))
  exact ⟨this.1, this.2, this.3⟩
 have HH2 := Lib.hid hh2
 have HF2 := Lib.hid hf2
 have e1 : w2.cell? ⟨p, 1, none⟩ = some (.slice (some ⟨ga, 0, none⟩) (m + 1) ca) := by simp [World.cell?, hh2]
 have e2 : w2.cell? ⟨p, 2, none⟩ = some (.slice (some ⟨gd, 0, none⟩) (m + 1) cd) := by simp [World.cell?, hh2]
 have z1 : w2.frozen? ⟨p, 1, none⟩ = false := by simp [World.frozen?, hh2]
 have z2 : w2.frozen? ⟨p, 2, none⟩ = false := by simp [World.frozen?, hh2]
 have hma : m ≤ ca := by omega
 have hmd : m ≤ cd := by omega
 clear hh2 hf2 hw2 c0 c1 c2 z0 hcb HO
 go_region
 obtain ⟨w9, hw9⟩ : ∃ w9, w9 = ((w2.setCell ⟨p, 1, none⟩ (.slice (some ⟨ga, 0, none⟩) m ca)).setCell ⟨p, 2, none⟩ (.slice (some ⟨gd, 0, none⟩) m cd)).drew := ⟨_, rfl⟩
 rw [← hw9]
 have HH9 : Hid (w9.heap[p]? = some (.cells #[.map (some bn), .slice (some ⟨ga, 0, none⟩) m ca, .slice (some ⟨gd, 0, none⟩) m cd] 42 (0, 0))) := Lib.hid (by
  rw [hw9]; exact obj_set (k := 2) (obj_set (k := 1) HH2.out (.slice (some ⟨ga, 0, none⟩) m ca)) (.slice (some ⟨gd, 0, none⟩) m cd))
 have HF9 : Hid (Fx (fun k => k = p) w w9) := Lib.hid (by
  rw [hw9]
  have := HF2.out.trans ((fx_set w2 ⟨p, 1, none⟩ (.slice (some ⟨ga, 0, none⟩) m ca)).trans (fx_set _ ⟨p, 2, none⟩ (.slice (some ⟨gd, 0, none⟩) m cd)))
  exact ⟨this.1, this.2, this.3⟩)
 clear hw9 e1 e2 z1 z2
 go_wp2
 go_ret2
 exact ⟨rfl, undo_end H.out H0.out HBL.out HTS.out HL.out HD.out HBN.out HH9.out HF9.out⟩
theorem do_show (p B : Nat) (v1 v2 : Value) (S : St) (line : Str) (w : World) (h : DeskM w p v1 v2 S) (he : EnvB B w) (h1 : ¬ 400 < line.length) (h2 : line ≠ sNames) (h3 : line ≠ sUndo) (h4 : Lib.hasPrefix line sShow = true ∧ namF (Lib.trimPrefix line sShow) = true) :
 Calls Tryz.prog 6 #[.pointer (some ⟨p, 0, none⟩), sv line] w fun e w' => DoOut (doF S line) e w w' p v1 v2 := by
 rw [doF_show h1 h2 h3 h4]
 have HCP := Lib.hid (cutprefix_c line sShow w)
 have hnl := namF_len h4.2
 have e2 := str_ne h2
 have e3 := str_ne h3
 have d1 : decide ((400 : Int) < (line.length : Int)) = false := decide_eq_false (by omega)
 obtain ⟨nm, hnm⟩ : ∃ nm, nm = Lib.trimPrefix line sShow := ⟨_, rfl⟩
 rw [← hnm] at h4 hnl HCP ⊢
 rw [h4.1] at HCP
 have HNM := Lib.hid (named_c nm w (by omega))
 rw [h4.2] at HNM
 obtain ⟨b, ho, hTb⟩ := h.obj
 have c0 : w.cell? ⟨p, 0, none⟩ = some (.map (some b)) := by simp [World.cell?, ho]
 have H := Lib.hid h
 have HT := Lib.hid hTb
 have HE := Lib.hid he
 unfold sShow at HCP
 unfold sNames at e2
 unfold sUndo at e3
 clear h hTb ho h4 hnm he h1 h2 h3
 cases hth : S.th nm with
 | none =>
  have HTH := Lib.hid hth
  clear hth
  go_enter Tryz.func6, Tryz.ntmps6
  go_wp2_with (first | (go_at_call 15; refine (HCP.out).mono ?_; rintro e w0 ⟨rfl, rfl⟩) | (go_at_call 16; refine (HNM.out).mono ?_; rintro e w1 ⟨rfl, hb1⟩; have HB1 := Lib.hid hb1; have c1 := (hb1.cell (World.block_lt_of_cell? w _ c0)).trans c0; have HT1 := Lib.hid (HT.out.below hb1); clear hb1) | (at_lookup; refine TM.look HT1.out rfl _ _ rfl rfl (s := nm) (by omega) rfl ?_; intro A1 c1 _; rw [HTH.out]; simp only [Option.getD_none, Option.isSome_none, List.length_nil]) | fail)
  go_ret2
  exact ⟨rfl, .same H.out (Fx.of_below HB1.out)⟩
 | some T =>
  have HTH := Lib.hid hth
  have hfT := HT.out.few hth
  have HFT := Lib.hid hfT
  clear hth hfT
  obtain ⟨tx, htx⟩ : ∃ tx, tx = texF T := ⟨_, rfl⟩
  have HTX := Lib.hid htx
  show Calls _ _ _ _ fun e w' => DoOut ((texF T, 0), S) e w w' p v1 v2
  rw [← htx]
  clear htx
  go_enter Tryz.func6, Tryz.ntmps6
  go_wp2_with (first | (go_at_call 15; refine (HCP.out).mono ?_; rintro e w0 ⟨rfl, rfl⟩) | (go_at_call 16; refine (HNM.out).mono ?_; rintro e w1 ⟨rfl, hb1⟩; have HB1 := Lib.hid hb1; have c1 := (hb1.cell (World.block_lt_of_cell? w _ c0)).trans c0; have HT1 := Lib.hid (HT.out.below hb1); clear hb1) | (at_lookup; refine TM.look HT1.out rfl _ _ rfl rfl (s := nm) (by omega) rfl ?_; intro A1 c1 hAc; obtain ⟨_, hoT⟩ := hAc T HTH.out; have HTE := Lib.hid (text_c A1 c1 T w1 HFT.out (HE.out.below HB1.out).env hoT.tc); rw [← HTX.out] at HTE; clear hoT hAc; rw [HTH.out]; simp only [Option.getD_some, Option.isSome_some]) | (go_at_call 17; refine (HTE.out).mono ?_; rintro e w2 ⟨rfl, hb2⟩; have HB2 := Lib.hid hb2; clear hb2) | fail)
  go_ret2
  exact ⟨rfl, .same H.out (Fx.of_below (below_of HB1.out HB2.out))⟩
theorem do_chg (p B : Nat) (v1 v2 : Value) (S : St) (line : Str) (w : World) (h : DeskM w p v1 v2 S) (he : EnvB B w) (hi : Hi B p v1 v2) (h1 : ¬ 400 < line.length) (h2 : line ≠ sNames) (h3 : line ≠ sUndo) (h4 : ¬ (Lib.hasPrefix line sShow = true ∧ namF (Lib.trimPrefix line sShow) = true)) :
 Calls Tryz.prog 6 #[.pointer (some ⟨p, 0, none⟩), sv line] w fun e w' => DoOut (doF S line) e w w' p v1 v2 := by
 rw [doF_chg h1 h2 h3 h4]
 have HCP := Lib.hid (cutprefix_c line sShow w)
 have hnl := trimp_len line sShow
 have e2 := str_ne h2
 have e3 := str_ne h3
 have d1 : decide ((400 : Int) < (line.length : Int)) = false := decide_eq_false (by omega)
 obtain ⟨nm, hnm⟩ : ∃ nm, nm = Lib.trimPrefix line sShow := ⟨_, rfl⟩
 obtain ⟨pf, hpf⟩ : ∃ pf, pf = Lib.hasPrefix line sShow := ⟨_, rfl⟩
 rw [← hnm] at h4 hnl HCP
 rw [← hpf] at h4 HCP
 have HNM := Lib.hid (named_c nm w (by omega))
 have HA : Hid (¬ (pf = true ∧ namF nm = true)) := Lib.hid h4
 have HCH : Hid (∀ w1, Below w.heap.size w w1 → Calls Tryz.prog 18 #[.pointer (some ⟨p, 0, none⟩), sv line] w1 fun e w' => DoOut (chgF S line) e w1 w' p v1 v2) := Lib.hid fun w1 hb => chg_c p B v1 v2 S line w1 (h.old (Fx.of_below hb)) (he.below hb) hi (by omega)
 obtain ⟨r, hr⟩ : ∃ r, r = chgF S line := ⟨_, rfl⟩
 rw [← hr] at HCH ⊢
 unfold sShow at HCP
 unfold sNames at e2
 unfold sUndo at e3
 clear h he hi h1 h2 h3 h4 hnm hpf hr
 go_enter Tryz.func6, Tryz.ntmps6
 go_upto_region 12 with (first | (go_at_call 15; refine (HCP.out).mono ?_; rintro e w0 ⟨rfl, rfl⟩) | fail)
 go_cut [84] (fun bv wz => bv = .bool false ∧ Below w.heap.size w wz)
 case first =>
  cases pf with
  | false =>
   go_wp2
   go_meet
   exact ⟨rfl, Below.refl _ _⟩
  | true =>
   have HNF : Hid (namF nm = false) := by
    have := HA.out
    show _ = _
    simpa using this
   rw [HNF.out] at HNM
   go_wp2_with (first | (go_at_call 16; refine (HNM.out).mono ?_; rintro e w1 ⟨rfl, hb1⟩; have HB1 := Lib.hid hb1; clear hb1) | fail)
   go_meet
   exact ⟨rfl, HB1.out⟩
 case rest =>
  obtain ⟨rfl, hbz⟩ := hcut
  have HBZ := Lib.hid hbz
  clear hbz
  go_wp2_with (first | (go_at_call 18; refine (HCH.out _ HBZ.out).mono ?_; rintro e w2 ⟨rfl, hl2⟩; have HL2 := Lib.hid hl2; clear hl2) | fail)
  go_ret2
  exact ⟨rfl, .of_old (Fx.of_below HBZ.out) HL2.out⟩
theorem do_c (p B : Nat) (v1 v2 : Value) (S : St) (line : Str) (w : World) (h : DeskM w p v1 v2 S) (hr : RepD S) (he : EnvB B w) (hi : Hi B p v1 v2) (hl : line.length ≤ 9223372036854775807) :
 Calls Tryz.prog 6 #[.pointer (some ⟨p, 0, none⟩), sv line] w fun e w' => DoOut (doF S line) e w w' p v1 v2 := by
 by_cases h1 : 400 < line.length
 · exact do_long p v1 v2 S line w h hl h1
 · by_cases h2 : line = sNames
   · subst h2; exact do_names p v1 v2 S w h hr
   · by_cases h3 : line = sUndo
     · subst h3
       by_cases h0 : S.log = []
       · exact do_undo0 p v1 v2 S w h h0
       · have := List.length_pos_iff.2 h0
         exact do_undo1 p (S.log.length - 1) v1 v2 S w h (by omega)
     · by_cases h4 : Lib.hasPrefix line sShow = true ∧ namF (Lib.trimPrefix line sShow) = true
       · exact do_show p B v1 v2 S line w h he h1 h2 h3 h4
       · exact do_chg p B v1 v2 S line w h he hi h1 h2 h3 h4
theorem wrote2 {w : World} {M : Nat} {a b x y : Value} (h0 : w.cell? ⟨M, 0, none⟩ = some a) (h1 : w.cell? ⟨M, 1, none⟩ = some b) :
 ((w.setCell ⟨M, 0, none⟩ x).setCell ⟨M, 1, none⟩ y).cell? ⟨M, 0, none⟩ = some x ∧ ((w.setCell ⟨M, 0, none⟩ x).setCell ⟨M, 1, none⟩ y).cell? ⟨M, 1, none⟩ = some y ∧ Fx (fun k => k = M) w ((w.setCell ⟨M, 0, none⟩ x).setCell ⟨M, 1, none⟩ y) := by
 refine ⟨?_, ?_, (fx_set w ⟨M, 0, none⟩ x).trans (fx_set _ ⟨M, 1, none⟩ y)⟩
 · rw [World.cell?_setCell_other _ _ _ _ (by simp)]; exact World.cell?_setCell_same _ _ _ h0
 · exact World.cell?_setCell_same _ _ _ ((World.cell?_setCell_other _ _ _ _ (by simp)).trans h1)
theorem sav_drop {L : List Str} {i : Nat} (h : i < L.length) : sav (L.drop i) = L.getD i [] ++ [10] ++ sav (L.drop (i + 1)) := by
 unfold sav
 rw [List.drop_eq_getElem_cons h, List.flatMap_cons, getD_str h]
def Loaded (S : St) (e : Ending) (w w' : World) : Prop := ∃ q v1 v2, e = .returned (.tuple #[.pointer (some ⟨q, 0, none⟩), .agg #[.int .i64 0, .int .i64 0]]) ∧ DeskM w' q v1 v2 S ∧ Hi w.heap.size q v1 v2 ∧ Old w w'
theorem Loaded.fin {S : St} {w w1 w2 w9 w' : World} {q N : Nat} {v1 v2 : Value} (hN : N = w.heap.size) (h1 : Below w.heap.size w w1) (hz : w1.heap.size = N + 1) (h2 : Below w1.heap.size w1 w2) (hf : Fx (fun k => N + 1 ≤ k) w2 w9) (hd : DeskM w9 q v1 v2 S) (hi : Hi (N + 1) q v1 v2) (hw : Fx (fun k => k = N) w9 w') (hb : Bare (fun k => k = N) w9) :
 Loaded S (.returned (.tuple #[.pointer (some ⟨q, 0, none⟩), .agg #[.int .i64 0, .int .i64 0]])) w w' := by
 refine ⟨q, v1, v2, rfl, hd.fr hw hb (fun k hk e => ?_), fun k hk => ?_, ?_⟩
 · have := hi k hk; omega
 · have := hi k hk; omega
 · have f1 : Fx (fun k => N ≤ k) w w' := (((Fx.of_below h1).trans (Fx.of_below h2)).trans (hf.wide (fun k _ hk => by omega))).trans (hw.wide (fun k _ hk => by omega))
   exact ⟨f1.1, fun k hk _ => f1.2 k hk (by omega), f1.3⟩
theorem load_c (S : St) (hr : RepD S) (w : World) (he : Env w) :
 Calls Tryz.prog 11 #[sv (sav S.log)] w fun e w' => Loaded S e w w' := by
 obtain ⟨N, hN⟩ : ∃ N, N = w.heap.size := ⟨_, rfl⟩
 have HNE := Lib.hid hN
 obtain ⟨w1, hw1⟩ : ∃ w1, w1 = w.alloc (.cells #[.int .i64 0, .int .i64 0] 34) := ⟨_, rfl⟩
 have HW1 := Lib.hid hw1
 have HB1 : Hid (Below w.heap.size w w1) := Lib.hid (by rw [hw1]; exact (Below.refl _ w).alloc (Nat.le_refl _) _)
 have HBK : Hid (w1.heap[N]? = some (.cells #[.int .i64 0, .int .i64 0] 34 (0, 0))) := Lib.hid (by rw [hw1, hN]; exact World.alloc_heap_new _ _)
 have HSZ : Hid (w1.heap.size = N + 1) := by show _ = _; rw [hw1, hN]; simp
 have HE1 : Hid (EnvB (N + 1) w1) := Lib.hid (by have := EnvB.of (he.below HB1.out); rwa [HSZ.out] at this)
 obtain ⟨f, hf0, hfn, hst, hrf⟩ := hr.chain
 have hsl := hr.sav_le
 have hsh := hr.short
 have hll := hr.len.1
 obtain ⟨L, hL⟩ : ∃ L, L = S.log := ⟨_, rfl⟩
 rw [← hL] at hfn hst hrf hsl hsh hll ⊢
 have HST : Hid (∀ i, i < L.length → Chg (f i) (L.getD i []) (f (i + 1))) := Lib.hid hst
 have HRF : Hid (∀ i, i ≤ L.length → RepD (f i) ∧ (f i).log = L.take i) := Lib.hid hrf
 have HFN := Lib.hid hfn
 have HF0 := Lib.hid hf0
 have HSH := Lib.hid hsh
 have HLE : Hid (∀ i, (sav (L.drop i)).length ≤ 80200) := Lib.hid fun i => by
  refine Nat.le_trans ?_ hsl
  have : sav L = sav (L.take i) ++ sav (L.drop i) := by
   unfold sav
   rw [← List.flatMap_append, List.take_append_drop]
  rw [this, List.length_append]; omega
 have HNW := Lib.hid (new_c w1)
 clear hN hw1 hf0 hfn hst hrf hsl hsh hL he
 go_enter Tryz.func11, Tryz.ntmps11
 go_upto_region 1 with fail
 rw [← HW1.out]
 go_upto_region 2 with (first | (go_at_call 5; refine (HNW.out).mono ?_; rintro e w2 ⟨q, rfl, hd2, hb2, hq⟩; have HD2 := Lib.hid hd2; have HB2 := Lib.hid hb2; clear hd2 hb2) | fail)
 have HI2 : Hid (Hi (N + 1) q (.slice none 0 0) (.slice none 0 0)) := Lib.hid (hi_nil (by rw [← HSZ.out]; exact hq))
 have HE2 : Hid (EnvB (N + 1) w2) := Lib.hid (HE1.out.below HB2.out)
 go_wp2
 go_loopw [0, 5] (fun s iv wr => ∃ i, i ≤ L.length ∧ iv = .int .i64 i ∧ s = sv (sav (L.drop i)) ∧ ∃ v1 v2, DeskM wr q v1 v2 (f i) ∧ Hi (N + 1) q v1 v2 ∧ Fx (fun k => N + 1 ≤ k) w2 wr) (fun _ iv _ => L.length - (Go.RowKit.intOf iv).toNat)
 case atStart => exact ⟨0, Nat.zero_le _, rfl, rfl, _, _, by rw [HF0.out]; exact HD2.out, HI2.out, Fx.refl _ _⟩
 case round =>
  obtain ⟨w9, rfl⟩ : ∃ w9, w9 = wr := ⟨_, rfl⟩
  obtain ⟨i, hi, rfl, rfl, v1, v2, hd, hhi, hfx⟩ := hrel
  have HE9 : Hid (EnvB (N + 1) w9) := Lib.hid (HE2.out.fx hfx (fun _ h => h))
  by_cases hit : i < L.length
  · have hch := HST.out i hit
    have hsd := sav_drop hit
    have hxl := HSH.out (L.getD i []) (by rw [getD_str hit]; exact List.getElem_mem hit)
    have hle := HLE.out i
    have hri := (HRF.out i hi).1
    obtain ⟨x, hx⟩ : ∃ x, x = L.getD i [] := ⟨_, rfl⟩
    rw [← hx] at hch hsd hxl
    rw [hsd] at hle ⊢
    obtain ⟨rest, hrest⟩ : ∃ rest, rest = sav (L.drop (i + 1)) := ⟨_, rfl⟩
    have HRE := Lib.hid hrest
    rw [← hrest] at hle ⊢
    have hcut := cut_nl (r := rest) hch.nl
    have HCUT : Hid (Calls Tryz.prog 22 #[sv (x ++ [10] ++ rest), .string ⟨#[10]⟩] w9 fun e w' => e = .returned (.tuple #[sv x, sv rest, .bool true]) ∧ Below w9.heap.size w9 w') := Lib.hid (by
     have := cut_c (x ++ [10] ++ rest) [10] w9 (by omega) HE9.out.env
     rwa [hcut] at this)
    obtain ⟨n2, n3, n4, n1⟩ := hch.plain
    have e2 := str_ne n2
    have e3 := str_ne n3
    have HCP : Hid (∀ w3, Calls Tryz.prog 15 #[sv x, .string ⟨#[115, 104, 111, 119, 32]⟩] w3 fun e w' => e = .returned (.tuple #[sv (Lib.trimPrefix x sShow), .bool (Lib.hasPrefix x sShow)]) ∧ w3 = w') := Lib.hid fun w3 => cutprefix_c x sShow w3
    have hnl := trimp_len x sShow
    obtain ⟨nm, hnm⟩ : ∃ nm, nm = Lib.trimPrefix x sShow := ⟨_, rfl⟩
    obtain ⟨pf, hpf⟩ : ∃ pf, pf = Lib.hasPrefix x sShow := ⟨_, rfl⟩
    rw [← hnm, ← hpf] at n4 HCP
    rw [← hnm] at hnl
    have HNM : Hid (∀ w3, Calls Tryz.prog 16 #[sv nm] w3 fun e w' => e = .returned (.bool (namF nm)) ∧ Below w3.heap.size w3 w') := Lib.hid fun w3 => named_c nm w3 (by omega)
    have HA := Lib.hid n4
    have hc0 := hch.code
    have hcs := hch.st
    have HDO : Hid (∀ w3, Below w9.heap.size w9 w3 → Calls Tryz.prog 6 #[.pointer (some ⟨q, 0, none⟩), sv x] w3 fun e w' => (∃ t, e = .returned (.tuple #[sv t, .int .i64 0])) ∧ DLeft (f (i + 1)) w3 w' q v1 v2) := Lib.hid fun w3 hb => by
     refine (do_c q (N + 1) v1 v2 (f i) x w3 (hd.below hb) hri (HE9.out.below hb) hhi (by omega)).mono ?_
     rintro e w' ⟨rfl, hl⟩
     rw [hc0, hcs] at *
     exact ⟨⟨_, rfl⟩, hl⟩
    have HHI := Lib.hid hhi
    have HFX := Lib.hid hfx
    have e4 : (x ++ [10] ++ rest).isEmpty = false := by cases x <;> rfl
    obtain ⟨s0, hs0⟩ : ∃ s0, s0 = x ++ [10] ++ rest := ⟨_, rfl⟩
    rw [← hs0] at HCUT e4 ⊢
    unfold sNames at e2
    unfold sUndo at e3
    clear hch hsd hri hle hx hrest hcut n1 n2 n3 n4 hnm hpf hc0 hcs hd hhi hfx hs0
    go_upto_region 7 with (first | (go_at_call 22; refine (HCUT.out).mono ?_; rintro e w3 ⟨rfl, hb3⟩; have HB3 := Lib.hid hb3; clear hb3) | (go_at_call 15; refine (HCP.out _).mono ?_; rintro e w0 ⟨rfl, rfl⟩) | fail)
    go_cut [45] (fun bv wz => bv = .bool false ∧ Below w9.heap.size w9 wz)
    case first =>
     cases pf with
     | false =>
      go_wp2
      go_meet
      exact ⟨rfl, HB3.out⟩
     | true =>
      have HNF : Hid (namF nm = false) := by
       have := HA.out
       show _ = _
       simpa using this
      rw [HNF.out] at HNM
      go_wp2_with (first | (go_at_call 16; refine (HNM.out _).mono ?_; rintro e w4 ⟨rfl, hb4⟩; have HB4 := Lib.hid hb4; clear hb4) | fail)
      go_meet
      exact ⟨rfl, below_of HB3.out HB4.out⟩
    case rest =>
     obtain ⟨rfl, hbz⟩ := hcut
     have HBZ := Lib.hid hbz
     clear hbz
     go_wp2_with (first | (go_at_call 6; refine (HDO.out _ HBZ.out).mono ?_; rintro e w5 ⟨⟨t, rfl⟩, hl5⟩; have HL5 := Lib.hid hl5; clear hl5) | fail)
     go_roundw
     case rel =>
      obtain ⟨u1, u2, hd5, hs5⟩ := HL5.out
      have hn9 := HE9.out.le
      refine ⟨i + 1, by omega, by go_num, by rw [HRE.out], u1, u2, hd5, HHI.out.step hs5 (Nat.le_trans hn9 HBZ.out.size), (HFX.out.trans (Fx.of_below HBZ.out)).trans (hs5.1.wide (fun k _ hk => HHI.out k hk))⟩
     case measure => simp [Go.RowKit.intOf]; omega
  · obtain rfl : i = L.length := by omega
    have e4 : sav (L.drop L.length) = [] := by simp [sav]
    have hbk : w9.heap[N]? = some (.cells #[.int .i64 0, .int .i64 0] 34 (0, 0)) := by
     have h1 : w2.heap[N]? = w1.heap[N]? := HB2.out.block N (by rw [HSZ.out]; omega)
     have hl2 : N < w2.heap.size := by have := HB2.out.size; have := HSZ.out; omega
     exact (hfx.2 N hl2 (by omega)).trans (h1.trans HBK.out)
    have c0 : w9.cell? ⟨N, 0, none⟩ = some (.int .i64 0) := by simp [World.cell?, hbk]
    have c1 : w9.cell? ⟨N, 1, none⟩ = some (.int .i64 0) := by simp [World.cell?, hbk]
    have z0 : w9.frozen? ⟨N, 0, none⟩ = false := by simp [World.frozen?, hbk]
    have z1 : w9.frozen? ⟨N, 1, none⟩ = false := by simp [World.frozen?, hbk]
    have hbare : Bare (fun k => k = N) w9 := fun k hk => by subst hk; exact ⟨_, _, _, hbk, by decide, by decide⟩
    rw [HFN.out] at hd
    have hw2 := wrote2 (x := .int .i64 0) (y := .int .i64 0) c0 c1
    obtain ⟨W2, hW2⟩ : ∃ W2, W2 = (w9.setCell ⟨N, 0, none⟩ (.int .i64 0)).setCell ⟨N, 1, none⟩ (.int .i64 0) := ⟨_, rfl⟩
    rw [← hW2] at hw2
    obtain ⟨r0, r1, r2⟩ := hw2
    have HFI : Hid (Loaded S (.returned (.tuple #[.pointer (some ⟨q, 0, none⟩), .agg #[.int .i64 0, .int .i64 0]])) w W2) := Lib.hid (Loaded.fin HNE.out HB1.out HSZ.out HB2.out hfx hd hhi r2 hbare)
    have HW2 := Lib.hid hW2
    rw [e4]
    have HNN := Lib.hid HNE.out
    rw [HNE.out] at c0 c1 z0 z1 r0 r1
    clear hd hhi hfx hbk hbare hW2 r2 e4
    go_wp2
    rw [← HNN.out] at r0 r1 ⊢
    rw [← HW2.out]
    refine bodyPost_ret (v := .tuple #[.pointer (some ⟨q, 0, none⟩), .agg #[.int .i64 0, .int .i64 0]]) ?_ rfl HFI.out
    have hres : Tryz.f11.results = #[.tmp 2, .cell 3 34] := by kernel_rfl
    simp only [results, hres]
    go_simp
end
end Go.Proofs.YtpmkdihencepnaaGreatDoor
