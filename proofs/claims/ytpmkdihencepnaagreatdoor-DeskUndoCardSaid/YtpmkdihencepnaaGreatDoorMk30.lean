/- Part of the proof. -/
import Derived.StillTailTactics
import Derived.Test.YtpmkdihencepnaaGreatDoorMk04
import Derived.Test.YtpmkdihencepnaaGreatDoorMk29
set_option maxHeartbeats 16000000
set_option maxRecDepth 100000
namespace Go.Proofs.YtpmkdihencepnaaGreatDoor
section
open Go.RowKit
theorem IsSign.fun_le {m : List (List Int)} (h : SignOk m) {i j : Nat} (hi : i ≤ m.length) (hj : j ≤ m.length) : 0 ≤ csum m i j ∧ csum m i j ≤ 7 := by
 have := h.2.cor.le hi hj
 have := h.1
 omega
def PairChk (a b : List (List Int)) (k : Int) : Prop := (k = 0 ↔ SignOk a ∧ SignOk b ∧ a.length = b.length) ∧ (¬ SignOk a → k = 1) ∧ (¬ SignOk b → k = 1) ∧ (SignOk a → SignOk b → a.length ≠ b.length → k = 3)
theorem pair_any (A A' : Option Addr) (cap cap' : Nat) (a b : List (List Int)) (w : World) (hx : a.length ≤ 9223372036854775807) (hy : b.length ≤ 9223372036854775807) (h : SR w w.heap.size A a) (h' : SR w w.heap.size A' b) :
 Calls Tryz.prog 149 #[.slice A a.length cap, .slice A' b.length cap'] w fun e w' => (∃ k : Int, e = .returned (.int .i64 k) ∧ PairChk a b k) ∧ Below w.heap.size w w' := by
 go_enter Tryz.func149, Tryz.ntmps149
 go_wp2_with fail
 refine (gcheck_any A cap a w hx h).mono ?_
 rintro e w1 ⟨⟨k, rfl, hk⟩, hb1⟩
 go_wp2_with fail
 refine (gcheck_any A' cap' b w1 hy (h'.keep hb1)).mono ?_
 rintro e w2 ⟨⟨l, rfl, hl⟩, hb2⟩
 have hW : Below w.heap.size w w2 := below_call hb1 (Nat.le_refl _) hb2
 clear hb1 hb2
 rcases hk with ⟨ha, rfl⟩ | ⟨ha, rfl⟩
 · rcases hl with ⟨hb, rfl⟩ | ⟨hb, rfl⟩
   · by_cases hlen : a.length = b.length
     · have hd : ((a.length : Int) != (b.length : Int)) = false := by simp; omega
       have hfin : Hid (PairChk a b 0) := ⟨⟨fun _ => ⟨ha, hb, hlen⟩, fun _ => rfl⟩, fun h => absurd ha h, fun h => absurd hb h, fun _ _ h => absurd hlen h⟩
       clear hlen ha hb
       go_wp2
       go_ret
       exact ⟨⟨0, rfl, hfin.out⟩, hW⟩
     · have hd : ((a.length : Int) != (b.length : Int)) = true := by simp; omega
       have hfin : Hid (PairChk a b 3) := ⟨⟨fun e => (by cases e), fun e => absurd e.2.2 hlen⟩, fun h => absurd ha h, fun h => absurd hb h, fun _ _ _ => rfl⟩
       clear hlen ha hb
       go_wp2
       go_ret
       exact ⟨⟨3, rfl, hfin.out⟩, hW⟩
   · have hfin : Hid (PairChk a b 1) := ⟨⟨fun e => (by cases e), fun e => absurd e.2.1 hb⟩, fun h => absurd ha h, fun _ => rfl, fun _ h => absurd h hb⟩
     clear ha hb
     go_wp2
     go_ret
     exact ⟨⟨1, rfl, hfin.out⟩, hW⟩
 · have hfin : Hid (PairChk a b 1) := ⟨⟨fun e => (by cases e), fun e => absurd e.1 ha⟩, fun _ => rfl, fun _ => rfl, fun h => absurd h ha⟩
   clear ha hl
   go_wp2
   go_ret
   exact ⟨⟨1, rfl, hfin.out⟩, hW⟩
def mixTo (f g : Nat → Nat → Int) (i j : Nat) : Nat → Nat → Int := fun a b => if a < i ∨ (a = i ∧ b < j) then f a b else g a b
theorem fmat_congr {k : Nat} {f g : Nat → Nat → Int} (h : ∀ a b, a < k → b < k → f a b = g a b) : fmat k f = fmat k g := by
 unfold fmat
 exact List.map_congr_left (fun a ha => tab_congr (fun b hb => h a b (List.mem_range.1 ha) hb))
theorem fmat_set {k i j : Nat} {f : Nat → Nat → Int} {y : Int} (hi : i < k) : (fmat k f).set i (((fmat k f).getD i []).set j y) = fmat k (fun a b => if a = i ∧ b = j then y else f a b) := by
 rw [fmat_getD hi, tab_set]
 apply List.ext_getElem (by simp [fmat])
 intro a h1 h2
 rw [List.getElem_set]
 have ha : a < k := by simpa [fmat] using h2
 by_cases e : i = a
 · subst e
   rw [if_pos rfl]
   simp only [fmat, List.getElem_map, List.getElem_range]
   exact tab_congr (fun b _ => by by_cases e2 : b = j <;> simp [e2])
 · rw [if_neg e]
   simp only [fmat, List.getElem_map, List.getElem_range]
   exact tab_congr (fun b _ => by rw [if_neg (fun hh => e hh.1.symm)])
theorem OwnM.setBelow {w : World} {B : Nat} {v : Value} {hs : List Value} {rows : List (List Int)} (h : OwnM w B v hs rows) {a : Addr} (ha : a.block < B) (y : Value) : OwnM (w.setCell a y) B v hs rows :=
 ⟨h.len, ownsRow_setCell_below h.out ha y, fun r hr => ownsRow_setCell_below (h.inn r hr) ha y, h.far, h.top⟩
theorem OwnM.mono {w : World} {B B' : Nat} {v : Value} {hs : List Value} {rows : List (List Int)} (h : OwnM w B v hs rows) (hB : B' ≤ B) : OwnM w B' v hs rows :=
 ⟨h.len, h.out.mono hB, fun r hr => (h.inn r hr).mono hB, h.far, h.top⟩
theorem mixTo_start (f g : Nat → Nat → Int) (k : Nat) : fmat k g = fmat k (mixTo f g 0 0) :=
 fmat_congr (fun a b _ _ => by unfold mixTo; rw [if_neg (by omega)])
theorem mixTo_next (f g : Nat → Nat → Int) (k i : Nat) : fmat k (mixTo f g i k) = fmat k (mixTo f g (i + 1) 0) :=
 fmat_congr (fun a b _ hb => by
  unfold mixTo
  by_cases h : a < i ∨ (a = i ∧ b < k)
  · rw [if_pos h, if_pos (by omega)]
  · rw [if_neg h, if_neg (by omega)])
theorem mixTo_end (f g : Nat → Nat → Int) (k : Nat) : fmat k (mixTo f g k 0) = fmat k f :=
 fmat_congr (fun a b ha _ => by unfold mixTo; rw [if_pos (by omega)])
theorem mixTo_step (f g : Nat → Nat → Int) (k i j : Nat) : fmat k (fun a b => if a = i ∧ b = j then f i j else mixTo f g i j a b) = fmat k (mixTo f g i (j + 1)) :=
 fmat_congr (fun a b _ _ => by
  unfold mixTo
  by_cases h : a = i ∧ b = j
  · rw [if_pos h, if_pos (by omega), h.1, h.2]
  · rw [if_neg h]
    by_cases h2 : a < i ∨ (a = i ∧ b < j)
    · rw [if_pos h2, if_pos (by omega)]
    · rw [if_neg h2, if_neg (by omega)])
theorem mixTo_at (f g : Nat → Nat → Int) (i j : Nat) : mixTo f g i j i j = g i j := by unfold mixTo; rw [if_neg (by omega)]
theorem max_any (x y : Int) (w : World) : Calls Tryz.prog 151 #[.int .i64 x, .int .i64 y] w fun e w' => e = .returned (.int .i64 (max x y)) ∧ w = w' := by
 go_enter Tryz.func151, Tryz.ntmps151
 go_wp2
 all_goals
  first | rw [show max x y = y by omega] | rw [show max x y = x by omega] | skip
  go_ret
  exact ⟨rfl, rfl⟩
theorem both_max (A A' : Option Addr) (cap cap' : Nat) (m1 m2 : List (List Int)) (w : World) (hok : SignOk m1) (hok' : SignOk m2) (hlen : m1.length = m2.length) (h : SR w w.heap.size A m1) (h' : SR w w.heap.size A' m2) :
 Calls Tryz.prog 150 #[.slice A m1.length cap, .slice A' m2.length cap', .func (.func 151) #[] #[]] w fun e w' => (∃ v hs, e = .returned v ∧ OwnM w' w.heap.size v hs (unc m1.length (fun i j => max (csum m1 i j) (csum m2 i j)))) ∧ Below w.heap.size w w' := by
 have h7 := hok.1
 have hB := Nat.le_refl w.heap.size
 have HOK := Lib.hid hok
 have HOK' := Lib.hid hok'
 have HLEN := Lib.hid hlen
 have hcc := gcorner_any A' cap' m2
 rw [← hlen] at hcc ⊢
 have HCC := Lib.hid hcc
 obtain ⟨n, hn⟩ : ∃ n, n = m1.length := ⟨_, rfl⟩
 have hcc1 := gcorner_any A cap m1
 rw [← hn] at hcc1 h7 ⊢
 have HCC1 := Lib.hid hcc1
 have HN := Lib.hid hn
 clear hok hok' hlen hcc hcc1 hn
 have HFD : Hid (∀ f : Nat → Nat → Int, f = (fun i j => max (csum m1 i j) (csum m2 i j)) → ∀ i j, f i j = max (csum m1 i j) (csum m2 i j)) := fun f hf i j => by rw [hf]
 obtain ⟨f, hf⟩ : ∃ f : Nat → Nat → Int, f = (fun i j => max (csum m1 i j) (csum m2 i j)) := ⟨_, rfl⟩
 have HFE := Lib.hid (HFD.out f hf)
 rw [← hf]
 clear hf HFD
 go_enter Tryz.func150, Tryz.ntmps150
 go_wp2_with fail
 refine (HCC1.out w HOK.out h).mono ?_
 rintro e w1 ⟨⟨v1, hs1, rfl, hm1⟩, hb1⟩
 go_wp2_with fail
 have hcc := HCC.out w1 HOK'.out (h'.keep hb1)
 rw [← HN.out] at hcc
 refine hcc.mono ?_
 rintro e w2 ⟨⟨v2, hs2, rfl, hm2⟩, hb2⟩
 have hW : Below w.heap.size w w2 := below_call hb1 hB hb2
 have hg0 : Hid (∀ r gr cr, r < n + 1 → hs1.getD r undef = .slice (some ⟨gr, 0, none⟩) (n + 1) cr → gr < w1.heap.size) := fun r gr cr hr he => by
  have := ((hm1.inn r (by rw [cornTo_length]; exact hr)).lt gr (by rw [he]; rfl)).2
  exact this
 have HG := hg0
 clear hg0
 have hm1 := hm1.below hb2
 have hsz1 := hb1.size
 have hsz2 := hb2.size
 have e1 : cornTo m1 (n + 1) = fmat (n + 1) (csum m1) := by rw [HN.out]; rfl
 have e2 : cornTo m2 (n + 1) = fmat (n + 1) (csum m2) := by rw [HN.out, HLEN.out]; rfl
 rw [e1] at hm1
 rw [e2] at hm2
 clear e1 e2 hcc hb1 hb2
 rw [mixTo_start f (csum m1) (n + 1)] at hm1
 have hl1 := fmat_length (n + 1) (mixTo f (csum m1) 0 0)
 obtain ⟨g1, c1, hv1, hg1, hg1'⟩ := hm1.out.form (by rw [hl1]; omega)
 rw [hl1] at hv1
 subst hv1
 have hl2 := fmat_length (n + 1) (csum m2)
 obtain ⟨g2, c2, hv2, hg2, hg2'⟩ := hm2.out.form (by rw [hl2]; omega)
 rw [hl2] at hv2
 subst hv2
 have HM1 := Lib.hid hm1
 have HM2 := Lib.hid hm2
 clear hm1 hm2 hl1 hl2
 go_wp2
 go_loopw [17] (fun iv wr => ∃ i : Nat, i ≤ n + 1 ∧ iv = .int .i64 i ∧ OwnM wr w.heap.size (.slice (some ⟨g1, 0, none⟩) (n + 1) c1) hs1 (fmat (n + 1) (mixTo f (csum m1) i 0)) ∧ OwnM wr w1.heap.size (.slice (some ⟨g2, 0, none⟩) (n + 1) c2) hs2 (fmat (n + 1) (csum m2)) ∧ Below w.heap.size w wr ∧ w1.heap.size ≤ wr.heap.size) (fun iv _ => n + 1 - (intOf iv).toNat)
 case atStart => exact ⟨0, by omega, rfl, HM1.out, HM2.out, hW, hsz2⟩
 case round =>
  clear HM1 HM2 hW hg1' hg2'
  obtain ⟨i, hi, rfl, hm1, hm2, hW, hsz3⟩ := hrel
  have HM1 := Lib.hid hm1
  have HM2 := Lib.hid hm2
  by_cases hlt : i < n + 1
  · have hd1 : decide ((i : Int) < (n : Int) + 1) = true := by simp; omega
    obtain ⟨gi, ci, hhi, hci, hoi, hgi1, hgi2⟩ := hm1.row (r := i) (by rw [fmat_length]; exact hlt) (by rw [fmat_getD hlt, tab_length]; omega)
    rw [fmat_getD hlt, tab_length] at hci hhi
    have HHI := Lib.hid hhi
    clear hm1 hm2 hoi hhi
    go_wp2
    go_loopw [25] (fun jv wz => ∃ j : Nat, j ≤ n + 1 ∧ jv = .int .i64 j ∧ OwnM wz w.heap.size (.slice (some ⟨g1, 0, none⟩) (n + 1) c1) hs1 (fmat (n + 1) (mixTo f (csum m1) i j)) ∧ OwnM wz w1.heap.size (.slice (some ⟨g2, 0, none⟩) (n + 1) c2) hs2 (fmat (n + 1) (csum m2)) ∧ Below w.heap.size w wz ∧ w1.heap.size ≤ wz.heap.size) (fun jv _ => n + 1 - (intOf jv).toNat)
    case atStart => exact ⟨0, by omega, rfl, HM1.out, HM2.out, hW, hsz3⟩
    case round =>
     clear HM1 HM2 hW hsz3 hci
     obtain ⟨j, hj, rfl, hm1, hm2, hW, hsz3⟩ := hrel
     have HM1 := Lib.hid hm1
     have HM2 := Lib.hid hm2
     by_cases hlt2 : j < n + 1
     · have hd2 : decide ((j : Int) < (n : Int) + 1) = true := by simp; omega 
       obtain ⟨gk, ck, hhk, hck, hok, hgk1, hgk2⟩ := hm1.row (r := i) (by rw [fmat_length]; exact hlt) (by rw [fmat_getD hlt, tab_length]; omega)
       obtain ⟨gd, cd, hhd, hcd, hod, hgd1, hgd2⟩ := hm2.row (r := i) (by rw [fmat_length]; exact hlt) (by rw [fmat_getD hlt, tab_length]; omega)
       rw [fmat_getD hlt, tab_length] at hck hok hcd hod
       rw [fmat_getD hlt, tab_length] at hhk
       have hkc : gk = gi ∧ ck = ci := by rw [HHI.out] at hhk; injection hhk with a1 a2 a3; injection a1 with a1; injection a1 with a1; exact ⟨a1.symm, a3.symm⟩
       obtain ⟨rfl, rfl⟩ := hkc
       have hx := own_get hok (i := j) (tab_get hlt2)
       have hy := own_get hod (i := j) (tab_get hlt2)
       rw [mixTo_at] at hx
       have hfr := hok.frozenAt j
       have hfe := HFE.out i j
       have hst := (hm1.drewN 1).setIn (r := i) (g := gk) (c := ck) (by rw [fmat_length]; exact hlt) (by rw [fmat_getD hlt, tab_length]; exact HHI.out) j (f i j)
       rw [fmat_set hlt, mixTo_step] at hst
       have hm2' := (hm2.drewN 1).setBelow (a := ⟨gk, j, none⟩) (by show gk < w1.heap.size; exact HG.out i gk ck hlt HHI.out) (.int .i64 (f i j))
       have hWs := (below_drewN hW 1).setCell (p := ⟨gk, j, none⟩) hgk1 (.int .i64 (f i j))
       rw [hfe] at hst hm2' hWs
       obtain ⟨x, hxx⟩ : ∃ x, x = csum m1 i j := ⟨_, rfl⟩
       obtain ⟨y, hyy⟩ : ∃ x, x = csum m2 i j := ⟨_, rfl⟩
       rw [← hxx] at hx hst hm2' hWs
       rw [← hyy] at hy hst hm2' hWs
       have HST := Lib.hid hst
       have HM2' := Lib.hid hm2'
       have HWS := Lib.hid hWs
       clear hxx hyy hst hm2' hm1 hm2 hfe hok hod hhk hhd hWs
       go_wp2
       have x1 : (i : Int) < (n : Int) + 1 := by omega
       have x2 : (j : Int) < (n : Int) + 1 := by omega
       go_still_tail 22, (by kernel_rfl)
       still_call ((max_any x y _).mono (fun e w' h => ⟨h.1, h.2.symm⟩))
       repeat still_step
       refine wpStill_nil ?_
       change wpList _ _ _ _ _ wr.drew
       go_wp2
       go_roundw
       case rel => exact ⟨j + 1, by omega, by go_num, HST.out, HM2'.out, HWS.out, by simpa using hsz3⟩
       case measure => simp [intOf]; omega
     · have hd2 : decide ((j : Int) < (n : Int) + 1) = false := by simp; omega 
       have hjn : Hid (j = n + 1) := by show _ = _; omega
       clear hm1 hm2
       go_wp2
       go_roundw
       case rel => exact ⟨i + 1, by omega, by go_num, by rw [← mixTo_next f (csum m1) (n + 1) i]; have hq := HM1.out; rw [hjn.out] at hq; exact hq, HM2.out, hW, hsz3⟩
       case measure => simp [intOf]; omega
  · have hd1 : decide ((i : Int) < (n : Int) + 1) = false := by simp; omega
    have hin : Hid (i = n + 1) := by show _ = _; omega
    have hm := hm1
    rw [hin.out, mixTo_end] at hm
    obtain ⟨Ac, cc, hva, hsr, _, _⟩ := hm.sr
    have hun := uncornered_any Ac cc n f wr h7 (fun a b ha hb => by
     rw [HFE.out a b]
     have q1 := IsSign.fun_le HOK.out (i := a) (j := b) (by rw [← HN.out]; exact ha) (by rw [← HN.out]; exact hb)
     have q2 := IsSign.fun_le HOK'.out (i := a) (j := b) (by rw [← HLEN.out, ← HN.out]; exact ha) (by rw [← HLEN.out, ← HN.out]; exact hb)
     omega) hsr
    rw [fmat_length] at hva
    rw [← hva] at hun
    have HUN := Lib.hid hun
    clear hm1 hm2 hm hun hva hsr
    go_wp2_with fail
    refine HUN.out.mono ?_
    rintro e w5 ⟨⟨v5, hs5, rfl, hm5⟩, hb5⟩
    have hW5 : Below w.heap.size w w5 := below_call hW hB hb5
    have HM5 := Lib.hid (hm5.mono hW.size)
    clear hm5 hb5
    go_wp2
    go_ret
    exact ⟨⟨_, hs5, rfl, HM5.out⟩, hW5⟩
theorem min_any (x y : Int) (w : World) : Calls Tryz.prog 152 #[.int .i64 x, .int .i64 y] w fun e w' => e = .returned (.int .i64 (min x y)) ∧ w = w' := by
 go_enter Tryz.func152, Tryz.ntmps152
 go_wp2
 all_goals
  first | rw [show min x y = y by omega] | rw [show min x y = x by omega] | skip
  go_ret
  exact ⟨rfl, rfl⟩
theorem both_min (A A' : Option Addr) (cap cap' : Nat) (m1 m2 : List (List Int)) (w : World) (hok : SignOk m1) (hok' : SignOk m2) (hlen : m1.length = m2.length) (h : SR w w.heap.size A m1) (h' : SR w w.heap.size A' m2) :
 Calls Tryz.prog 150 #[.slice A m1.length cap, .slice A' m2.length cap', .func (.func 152) #[] #[]] w fun e w' => (∃ v hs, e = .returned v ∧ OwnM w' w.heap.size v hs (unc m1.length (fun i j => min (csum m1 i j) (csum m2 i j)))) ∧ Below w.heap.size w w' := by
 have h7 := hok.1
 have hB := Nat.le_refl w.heap.size
 have HOK := Lib.hid hok
 have HOK' := Lib.hid hok'
 have HLEN := Lib.hid hlen
 have hcc := gcorner_any A' cap' m2
 rw [← hlen] at hcc ⊢
 have HCC := Lib.hid hcc
 obtain ⟨n, hn⟩ : ∃ n, n = m1.length := ⟨_, rfl⟩
 have hcc1 := gcorner_any A cap m1
 rw [← hn] at hcc1 h7 ⊢
 have HCC1 := Lib.hid hcc1
 have HN := Lib.hid hn
 clear hok hok' hlen hcc hcc1 hn
 have HFD : Hid (∀ f : Nat → Nat → Int, f = (fun i j => min (csum m1 i j) (csum m2 i j)) → ∀ i j, f i j = min (csum m1 i j) (csum m2 i j)) := fun f hf i j => by rw [hf]
 obtain ⟨f, hf⟩ : ∃ f : Nat → Nat → Int, f = (fun i j => min (csum m1 i j) (csum m2 i j)) := ⟨_, rfl⟩
 have HFE := Lib.hid (HFD.out f hf)
 rw [← hf]
 clear hf HFD
 go_enter Tryz.func150, Tryz.ntmps150
 go_wp2_with fail
 refine (HCC1.out w HOK.out h).mono ?_
 rintro e w1 ⟨⟨v1, hs1, rfl, hm1⟩, hb1⟩
 go_wp2_with fail
 have hcc := HCC.out w1 HOK'.out (h'.keep hb1)
 rw [← HN.out] at hcc
 refine hcc.mono ?_
 rintro e w2 ⟨⟨v2, hs2, rfl, hm2⟩, hb2⟩
 have hW : Below w.heap.size w w2 := below_call hb1 hB hb2
 have hg0 : Hid (∀ r gr cr, r < n + 1 → hs1.getD r undef = .slice (some ⟨gr, 0, none⟩) (n + 1) cr → gr < w1.heap.size) := fun r gr cr hr he => by
  have := ((hm1.inn r (by rw [cornTo_length]; exact hr)).lt gr (by rw [he]; rfl)).2
  exact this
 have HG := hg0
 clear hg0
 have hm1 := hm1.below hb2
 have hsz1 := hb1.size
 have hsz2 := hb2.size
 have e1 : cornTo m1 (n + 1) = fmat (n + 1) (csum m1) := by rw [HN.out]; rfl
 have e2 : cornTo m2 (n + 1) = fmat (n + 1) (csum m2) := by rw [HN.out, HLEN.out]; rfl
 rw [e1] at hm1
 rw [e2] at hm2
 clear e1 e2 hcc hb1 hb2
 rw [mixTo_start f (csum m1) (n + 1)] at hm1
 have hl1 := fmat_length (n + 1) (mixTo f (csum m1) 0 0)
 obtain ⟨g1, c1, hv1, hg1, hg1'⟩ := hm1.out.form (by rw [hl1]; omega)
 rw [hl1] at hv1
 subst hv1
 have hl2 := fmat_length (n + 1) (csum m2)
 obtain ⟨g2, c2, hv2, hg2, hg2'⟩ := hm2.out.form (by rw [hl2]; omega)
 rw [hl2] at hv2
 subst hv2
 have HM1 := Lib.hid hm1
 have HM2 := Lib.hid hm2
 clear hm1 hm2 hl1 hl2
 go_wp2
 go_loopw [17] (fun iv wr => ∃ i : Nat, i ≤ n + 1 ∧ iv = .int .i64 i ∧ OwnM wr w.heap.size (.slice (some ⟨g1, 0, none⟩) (n + 1) c1) hs1 (fmat (n + 1) (mixTo f (csum m1) i 0)) ∧ OwnM wr w1.heap.size (.slice (some ⟨g2, 0, none⟩) (n + 1) c2) hs2 (fmat (n + 1) (csum m2)) ∧ Below w.heap.size w wr ∧ w1.heap.size ≤ wr.heap.size) (fun iv _ => n + 1 - (intOf iv).toNat)
 case atStart => exact ⟨0, by omega, rfl, HM1.out, HM2.out, hW, hsz2⟩
 case round =>
  clear HM1 HM2 hW hg1' hg2'
  obtain ⟨i, hi, rfl, hm1, hm2, hW, hsz3⟩ := hrel
  have HM1 := Lib.hid hm1
  have HM2 := Lib.hid hm2
  by_cases hlt : i < n + 1
  · have hd1 : decide ((i : Int) < (n : Int) + 1) = true := by simp; omega
    obtain ⟨gi, ci, hhi, hci, hoi, hgi1, hgi2⟩ := hm1.row (r := i) (by rw [fmat_length]; exact hlt) (by rw [fmat_getD hlt, tab_length]; omega)
    rw [fmat_getD hlt, tab_length] at hci hhi
    have HHI := Lib.hid hhi
    clear hm1 hm2 hoi hhi
    go_wp2
    go_loopw [25] (fun jv wz => ∃ j : Nat, j ≤ n + 1 ∧ jv = .int .i64 j ∧ OwnM wz w.heap.size (.slice (some ⟨g1, 0, none⟩) (n + 1) c1) hs1 (fmat (n + 1) (mixTo f (csum m1) i j)) ∧ OwnM wz w1.heap.size (.slice (some ⟨g2, 0, none⟩) (n + 1) c2) hs2 (fmat (n + 1) (csum m2)) ∧ Below w.heap.size w wz ∧ w1.heap.size ≤ wz.heap.size) (fun jv _ => n + 1 - (intOf jv).toNat)
    case atStart => exact ⟨0, by omega, rfl, HM1.out, HM2.out, hW, hsz3⟩
    case round =>
     clear HM1 HM2 hW hsz3 hci
     obtain ⟨j, hj, rfl, hm1, hm2, hW, hsz3⟩ := hrel
     have HM1 := Lib.hid hm1
     have HM2 := Lib.hid hm2
     by_cases hlt2 : j < n + 1
     · have hd2 : decide ((j : Int) < (n : Int) + 1) = true := by simp; omega 
       obtain ⟨gk, ck, hhk, hck, hok, hgk1, hgk2⟩ := hm1.row (r := i) (by rw [fmat_length]; exact hlt) (by rw [fmat_getD hlt, tab_length]; omega)
       obtain ⟨gd, cd, hhd, hcd, hod, hgd1, hgd2⟩ := hm2.row (r := i) (by rw [fmat_length]; exact hlt) (by rw [fmat_getD hlt, tab_length]; omega)
       rw [fmat_getD hlt, tab_length] at hck hok hcd hod
       rw [fmat_getD hlt, tab_length] at hhk
       have hkc : gk = gi ∧ ck = ci := by rw [HHI.out] at hhk; injection hhk with a1 a2 a3; injection a1 with a1; injection a1 with a1; exact ⟨a1.symm, a3.symm⟩
       obtain ⟨rfl, rfl⟩ := hkc
       have hx := own_get hok (i := j) (tab_get hlt2)
       have hy := own_get hod (i := j) (tab_get hlt2)
       rw [mixTo_at] at hx
       have hfr := hok.frozenAt j
       have hfe := HFE.out i j
       have hst := (hm1.drewN 1).setIn (r := i) (g := gk) (c := ck) (by rw [fmat_length]; exact hlt) (by rw [fmat_getD hlt, tab_length]; exact HHI.out) j (f i j)
       rw [fmat_set hlt, mixTo_step] at hst
       have hm2' := (hm2.drewN 1).setBelow (a := ⟨gk, j, none⟩) (by show gk < w1.heap.size; exact HG.out i gk ck hlt HHI.out) (.int .i64 (f i j))
       have hWs := (below_drewN hW 1).setCell (p := ⟨gk, j, none⟩) hgk1 (.int .i64 (f i j))
       rw [hfe] at hst hm2' hWs
       obtain ⟨x, hxx⟩ : ∃ x, x = csum m1 i j := ⟨_, rfl⟩
       obtain ⟨y, hyy⟩ : ∃ x, x = csum m2 i j := ⟨_, rfl⟩
       rw [← hxx] at hx hst hm2' hWs
       rw [← hyy] at hy hst hm2' hWs
       have HST := Lib.hid hst
       have HM2' := Lib.hid hm2'
       have HWS := Lib.hid hWs
       clear hxx hyy hst hm2' hm1 hm2 hfe hok hod hhk hhd hWs
       go_wp2
       have x1 : (i : Int) < (n : Int) + 1 := by omega
       have x2 : (j : Int) < (n : Int) + 1 := by omega
       go_still_tail 22, (by kernel_rfl)
       still_call ((min_any x y _).mono (fun e w' h => ⟨h.1, h.2.symm⟩))
       repeat still_step
       refine wpStill_nil ?_
       change wpList _ _ _ _ _ wr.drew
       go_wp2
       go_roundw
       case rel => exact ⟨j + 1, by omega, by go_num, HST.out, HM2'.out, HWS.out, by simpa using hsz3⟩
       case measure => simp [intOf]; omega
     · have hd2 : decide ((j : Int) < (n : Int) + 1) = false := by simp; omega 
       have hjn : Hid (j = n + 1) := by show _ = _; omega
       clear hm1 hm2
       go_wp2
       go_roundw
       case rel => exact ⟨i + 1, by omega, by go_num, by rw [← mixTo_next f (csum m1) (n + 1) i]; have hq := HM1.out; rw [hjn.out] at hq; exact hq, HM2.out, hW, hsz3⟩
       case measure => simp [intOf]; omega
  · have hd1 : decide ((i : Int) < (n : Int) + 1) = false := by simp; omega
    have hin : Hid (i = n + 1) := by show _ = _; omega
    have hm := hm1
    rw [hin.out, mixTo_end] at hm
    obtain ⟨Ac, cc, hva, hsr, _, _⟩ := hm.sr
    have hun := uncornered_any Ac cc n f wr h7 (fun a b ha hb => by
     rw [HFE.out a b]
     have q1 := IsSign.fun_le HOK.out (i := a) (j := b) (by rw [← HN.out]; exact ha) (by rw [← HN.out]; exact hb)
     have q2 := IsSign.fun_le HOK'.out (i := a) (j := b) (by rw [← HLEN.out, ← HN.out]; exact ha) (by rw [← HLEN.out, ← HN.out]; exact hb)
     omega) hsr
    rw [fmat_length] at hva
    rw [← hva] at hun
    have HUN := Lib.hid hun
    clear hm1 hm2 hm hun hva hsr
    go_wp2_with fail
    refine HUN.out.mono ?_
    rintro e w5 ⟨⟨v5, hs5, rfl, hm5⟩, hb5⟩
    have hW5 : Below w.heap.size w w5 := below_call hW hB hb5
    have HM5 := Lib.hid (hm5.mono hW.size)
    clear hm5 hb5
    go_wp2
    go_ret
    exact ⟨⟨_, hs5, rfl, HM5.out⟩, hW5⟩
def RowsOut (B : Nat) (e : Ending) (w : World) (k : Int) (rows : List (List Int)) : Prop :=
 ∃ A c, e = .returned (.tuple #[.slice A rows.length c, .int .i64 k]) ∧ OwnR w B A c rows ∧ rows.length ≤ 9223372036854775807
theorem rowsOut_own {w : World} {B : Nat} {v : Value} {hs : List Value} {rows : List (List Int)} (h : OwnM w B v hs rows) (k : Int) : RowsOut B (.returned (.tuple #[v, .int .i64 k])) w k rows := by
 obtain ⟨A, c, e, h1, h2, h3⟩ := h.ownR
 exact ⟨A, c, by rw [e], h1, by omega⟩
theorem rowsOut_nil (B : Nat) (w : World) (k : Int) : RowsOut B (.returned (.tuple #[.slice none 0 0, .int .i64 k])) w k [] := ⟨none, 0, rfl, OwnR.nil _ _, by simp⟩
theorem meet_any (A A' : Option Addr) (cap cap' : Nat) (a b : List (List Int)) (w : World) (hx : a.length ≤ 9223372036854775807) (hy : b.length ≤ 9223372036854775807) (h : SR w w.heap.size A a) (h' : SR w w.heap.size A' b) :
 Calls Tryz.prog 98 #[.slice A a.length cap, .slice A' b.length cap'] w fun e w' => (∃ (k : Int) (rows : List (List Int)), RowsOut w.heap.size e w' k rows ∧ PairChk a b k ∧ (k ≠ 0 → rows = []) ∧ (k = 0 → rows = meetOf a.length a b)) ∧ Below w.heap.size w w' := by
 go_enter Tryz.func98, Tryz.ntmps98
 go_wp2_with fail
 refine (pair_any A A' cap cap' a b w hx hy h h').mono ?_
 rintro e w1 ⟨⟨k, rfl, hk⟩, hb1⟩
 by_cases hk0 : k = 0
 · obtain ⟨ha, hb, hl⟩ := hk.1.1 hk0
   have HK := Lib.hid hk
   subst hk0
   have HL := Lib.hid hl
   clear hk hl
   go_wp2_with fail
   refine (both_max A A' cap cap' a b w1 ha hb HL.out (h.keep hb1) (h'.keep hb1)).mono ?_
   rintro e w2 ⟨⟨v, hs, rfl, hm⟩, hb2⟩
   have hW : Below w.heap.size w w2 := below_call hb1 (Nat.le_refl _) hb2
   have HM := Lib.hid (hm.lowr hb1.size)
   clear hm ha hb hb1 hb2
   go_wp2
   go_ret2
   exact ⟨⟨0, _, rowsOut_own HM.out 0, HK.out, fun e => absurd rfl e, fun _ => rfl⟩, hW⟩
 · have hd : (k != 0) = true := by simpa using hk0
   have HK := Lib.hid hk
   have hne := Lib.hid hk0
   clear hk hk0
   go_wp2
   go_ret2
   exact ⟨⟨k, [], rowsOut_nil _ _ k, HK.out, fun _ => rfl, fun e => absurd e hne.out⟩, hb1⟩
theorem join_any (A A' : Option Addr) (cap cap' : Nat) (a b : List (List Int)) (w : World) (hx : a.length ≤ 9223372036854775807) (hy : b.length ≤ 9223372036854775807) (h : SR w w.heap.size A a) (h' : SR w w.heap.size A' b) :
 Calls Tryz.prog 99 #[.slice A a.length cap, .slice A' b.length cap'] w fun e w' => (∃ (k : Int) (rows : List (List Int)), RowsOut w.heap.size e w' k rows ∧ PairChk a b k ∧ (k ≠ 0 → rows = []) ∧ (k = 0 → rows = joinOf a.length a b)) ∧ Below w.heap.size w w' := by
 go_enter Tryz.func99, Tryz.ntmps99
 go_wp2_with fail
 refine (pair_any A A' cap cap' a b w hx hy h h').mono ?_
 rintro e w1 ⟨⟨k, rfl, hk⟩, hb1⟩
 by_cases hk0 : k = 0
 · obtain ⟨ha, hb, hl⟩ := hk.1.1 hk0
   have HK := Lib.hid hk
   subst hk0
   have HL := Lib.hid hl
   clear hk hl
   go_wp2_with fail
   refine (both_min A A' cap cap' a b w1 ha hb HL.out (h.keep hb1) (h'.keep hb1)).mono ?_
   rintro e w2 ⟨⟨v, hs, rfl, hm⟩, hb2⟩
   have hW : Below w.heap.size w w2 := below_call hb1 (Nat.le_refl _) hb2
   have HM := Lib.hid (hm.lowr hb1.size)
   clear hm ha hb hb1 hb2
   go_wp2
   go_ret2
   exact ⟨⟨0, _, rowsOut_own HM.out 0, HK.out, fun e => absurd rfl e, fun _ => rfl⟩, hW⟩
 · have hd : (k != 0) = true := by simpa using hk0
   have HK := Lib.hid hk
   have hne := Lib.hid hk0
   clear hk hk0
   go_wp2
   go_ret2
   exact ⟨⟨k, [], rowsOut_nil _ _ k, HK.out, fun _ => rfl, fun e => absurd e hne.out⟩, hb1⟩
end
end Go.Proofs.YtpmkdihencepnaaGreatDoor
