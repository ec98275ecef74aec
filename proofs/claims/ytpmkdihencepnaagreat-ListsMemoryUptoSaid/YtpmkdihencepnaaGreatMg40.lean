/-
  ferkeep.ListsMemory: it answers true.
-/
import Derived.OpenShut
import Derived.Test.YtpmkdihencepnaaGreatMg01
import Derived.Test.YtpmkdihencepnaaGreatMg27
import Derived.Test.YtpmkdihencepnaaGreatMg28
import Derived.Test.YtpmkdihencepnaaGreatMg32
import Derived.Test.YtpmkdihencepnaaGreatMg36
import Derived.Test.YtpmkdihencepnaaGreatMg39
namespace Go.Proofs.YtpmkdihencepnaaGreat
open Go.RowKit

theorem conj2 : partChk [2] = 0 ∧ flipOf [2] = [1, 1] := by decide
theorem EnvL.below {w w' : World} {B0 ba bb bx Ga Ca Gb Cb : Nat} {p q : List Int} {x : Int} (h : EnvL w B0 ba bb bx Ga Ca Gb Cb p q x) (hb : Below B0 w w') {B1 : Nat} (h1 : B0 ≤ B1) : EnvL w' B1 ba bb bx Ga Ca Gb Cb p q x := by
  obtain ⟨l1, l2, l3⟩ := h.lt
  exact ⟨⟨by omega, by omega, by omega⟩, (hb.cell (p := ⟨ba, 0, none⟩) l1).trans h.ca, (hb.cell (p := ⟨bb, 0, none⟩) l2).trans h.cb, (hb.cell (p := ⟨bx, 0, none⟩) l3).trans h.cx, (h.ra.below hb).more h1, (h.rb.below hb).more h1, h.la, h.lb⟩
theorem sl_lit {w : World} (xs : List Int) : Sl (w.alloc (.cells (ints xs).toArray 3)) (w.heap.size + 1) (some ⟨w.heap.size, 0, none⟩) (ints xs) := fun _ =>
  ⟨w.heap.size, 0, rfl, by omega, fun k u hk => by
    rw [World.cell?_alloc_at _ _ _ _ rfl]
    simpa using hk⟩
def LawOut (e : Ending) (w w' : World) : Prop := e = .returned (.bool true) ∧ Below w.heap.size w w'
set_option maxRecDepth 100000 in
set_option maxHeartbeats 4000000 in
theorem law_any (Ap Aq : Option Addr) (capp capq : Nat) (p q : List Int) (x : Int) (w : World) (hp : p.length < 1900000) (hq : q.length < 1900000) (h : Sl w w.heap.size Ap (ints p)) (h2 : Sl w w.heap.size Aq (ints q)) :
    Calls Tryz.prog 3 #[.slice Ap p.length capp, .slice Aq q.length capq, .int .i64 x] w fun e w' => LawOut e w w' := by
  have H := Lib.hid h
  have H2 := Lib.hid h2
  clear h h2
  have hs1 := sl_lit (w := w.alloc (.cells #[.int .i64 x] 3)) [2]
  have e0 : (w.alloc (.cells #[.int .i64 x] 3)).heap.size = w.heap.size + 1 := by simp
  rw [e0] at hs1
  obtain ⟨wa, hwa⟩ : ∃ wa, wa = (w.alloc (.cells #[.int .i64 x] 3)).alloc (.cells #[.int .i64 2] 3) := ⟨_, rfl⟩
  have hsz : wa.heap.size = w.heap.size + 1 + 1 := by rw [hwa]; simp
  have hWa : Below w.heap.size w wa := by rw [hwa]; exact ((Below.refl _ _).alloc (Nat.le_refl _) _).alloc (by simp) _
  have hcx : wa.cell? ⟨w.heap.size, 0, none⟩ = some (.int .i64 x) := by
    rw [hwa, World.cell?_of_block (heap_alloc_old _ _ (by simp)), World.cell?_alloc_at _ _ _ _ rfl]; rfl
  have hs1' : Sl wa wa.heap.size (some ⟨w.heap.size + 1, 0, none⟩) (ints [2]) := by rw [hsz, hwa]; exact hs1
  have HCJ := Lib.hid (conj_any (some ⟨w.heap.size + 1, 0, none⟩) 1 [2] wa (by decide) hs1')
  have HWA := Lib.hid hwa
  have HSZ := Lib.hid hsz
  have HWa := Lib.hid hWa
  have HCX := Lib.hid hcx
  clear hs1 hwa hsz hWa hcx e0 hs1'
  go_enter Tryz.func3, Tryz.ntmps3
  go_wp2_with (first | (go_at_call 4; rw [← HWA.out]; refine (HCJ.out).mono ?_) | fail)
  rintro e w2 ⟨⟨k, a, A1, c1, rfl, hsa, -, hk, hka⟩, hb1⟩
  obtain rfl : k = 0 := hk.2 conj2.1
  obtain rfl : a = [1, 1] := (hka rfl).trans conj2.2
  have hW2 := HWa.out.trans (hb1.mono HWa.out.size)
  have hcx := (hb1.cell (p := ⟨w.heap.size, 0, none⟩) (by show w.heap.size < wa.heap.size; have := HSZ.out; omega)).trans HCX.out
  have hs2 := sl_lit (w := w2) [1, 1]
  obtain ⟨wb, hwb⟩ : ∃ wb, wb = w2.alloc (.cells #[.int .i64 1, .int .i64 1] 3) := ⟨_, rfl⟩
  have hbb : Below w2.heap.size w2 wb := by rw [hwb]; exact (Below.refl _ _).alloc (Nat.le_refl _) _
  have hszb : wb.heap.size = w2.heap.size + 1 := by rw [hwb]; simp
  have hs2' : Sl wb wb.heap.size (some ⟨w2.heap.size, 0, none⟩) (ints [1, 1]) := by rw [hszb, hwb]; exact hs2
  have hsb : Calls Tryz.prog 5 #[.slice A1 2 c1, .slice (some ⟨w2.heap.size, 0, none⟩) 2 2] wb fun e w' => e = .returned (.bool true) ∧ Below wb.heap.size wb w' :=
    (same_bA A1 (some ⟨w2.heap.size, 0, none⟩) c1 2 [1, 1] [1, 1] wb (by decide) (by decide) (hsa.keep hbb) hs2').mono (fun e w' hh => ⟨by rw [hh.1, decide_eq_true rfl], hh.2⟩)
  have HSB0 := Lib.hid hsb
  have HWB := Lib.hid hwb
  have HW2 := Lib.hid (hW2.trans (hbb.mono hW2.size))
  have HCX2 := Lib.hid ((hbb.cell (p := ⟨w.heap.size, 0, none⟩) (by show w.heap.size < w2.heap.size; have := HSZ.out; have := hb1.size; omega)).trans hcx)
  have HSB := Lib.hid (Nat.le_trans (show w.heap.size + 1 ≤ wa.heap.size by have := HSZ.out; omega) (Nat.le_trans hb1.size hbb.size))
  clear hsa hk hka hb1 hs2 hs2' hwb hbb hszb hsb hW2 HCJ HWA HSZ HWa HCX hcx
  go_wp2_with (first | (go_at_call 5; rw [← HWB.out]; refine (HSB0.out).mono ?_) | fail)
  rintro e w3 ⟨rfl, hb3⟩
  have HCX3 := Lib.hid ((hb3.cell (p := ⟨w.heap.size, 0, none⟩) (by show w.heap.size < wb.heap.size; have := HSB.out; omega)).trans HCX2.out)
  have HW3 := Lib.hid (HW2.out.trans (hb3.mono HW2.out.size))
  have HSB3 := Lib.hid (Nat.le_trans HSB.out hb3.size)
  have HRT := Lib.hid (H.out.now HW3.out (Nat.le_refl _))
  clear hb3 HSB0 HWB HW2 HCX2 HSB
  go_wp2_with (first | (go_at_call 6; refine (roomy_any Ap capp p 77 w3 (by omega) HRT.out).mono ?_) | fail)
  rintro e w4 ⟨⟨ua, rfl, hrm⟩, hb4⟩
  have HW4 := Lib.hid (HW3.out.trans (hb4.mono HW3.out.size))
  have HCX4 := Lib.hid ((hb4.cell (p := ⟨w.heap.size, 0, none⟩) (by show w.heap.size < w3.heap.size; have := HSB3.out; omega)).trans HCX3.out)
  have HSB4 := Lib.hid (Nat.le_trans HSB3.out hb4.size)
  have HRS := Lib.hid (H2.out.now HW4.out (Nat.le_refl _))
  obtain ⟨Ga, Ca, rfl, hga1, hga2, hga3, hga4, hga5⟩ := hrm
  rw [ints_length] at hga1 ⊢
  have HGA := Lib.hid hga5
  clear hb4 HRT HW3 HCX3 HSB3 hga5 hga3
  go_wp2_with (first | (go_at_call 6; refine (roomy_any Aq capq q 77 w4 (by omega) HRS.out).mono ?_) | fail)
  rintro e w5 ⟨⟨ub, rfl, hrm⟩, hb5⟩
  obtain ⟨Gb, Cb, rfl, hgb1, hgb2, hgb3, hgb4, hgb5⟩ := hrm
  rw [ints_length] at hgb1 ⊢
  have HGB := Lib.hid hgb5
  have HGA5 : Hid (∀ k z, (ints p ++ [.int .i64 77, .int .i64 77, .int .i64 77])[k]? = some z → w5.cell? ⟨Ga, k, none⟩ = some z) := Lib.hid (fun k z hz => (hb5.cell (p := ⟨Ga, k, none⟩) hga4).trans (HGA.out k z hz))
  have HW5 := Lib.hid (HW4.out.trans (hb5.mono HW4.out.size))
  have HCX5 := Lib.hid ((hb5.cell (p := ⟨w.heap.size, 0, none⟩) (by show w.heap.size < w4.heap.size; have := HSB4.out; omega)).trans HCX4.out)
  have HSB5 := Lib.hid (Nat.le_trans HSB4.out hb5.size)
  have hl45 := hb5.size
  clear hb5 HRS HW4 HCX4 HSB4 HGA hgb5 hgb3
  go_upto_region 5 with fail
  obtain ⟨w6, hw6⟩ : ∃ w6, w6 = (w5.alloc (.cells #[.slice (some ⟨Ga, 0, none⟩) p.length Ca] 22)).alloc (.cells #[.slice (some ⟨Gb, 0, none⟩) q.length Cb] 22) := ⟨_, rfl⟩
  have hs6 : w6.heap.size = w5.heap.size + 2 := by rw [hw6]; simp
  have hb6 : Below w5.heap.size w5 w6 := by rw [hw6]; exact ((Below.refl _ _).alloc (Nat.le_refl _) _).alloc (by simp) _
  have hca : w6.cell? ⟨w5.heap.size, 0, none⟩ = some (.slice (some ⟨Ga, 0, none⟩) p.length Ca) := by
    rw [hw6, World.cell?_of_block (heap_alloc_old _ _ (by simp)), World.cell?_alloc_at _ _ _ _ rfl]; rfl
  have hcb : w6.cell? ⟨w5.heap.size + 1, 0, none⟩ = some (.slice (some ⟨Gb, 0, none⟩) q.length Cb) := by
    have e1 : (w5.alloc (.cells #[.slice (some ⟨Ga, 0, none⟩) p.length Ca] 22)).heap.size = w5.heap.size + 1 := by simp
    rw [hw6, ← e1, World.cell?_alloc_at _ _ _ _ rfl]; rfl
  have room : ∀ {W : World} {G c : Nat} {xs : List Int} (hl : G < W.heap.size), (∀ k z, (ints xs ++ [.int .i64 77, .int .i64 77, .int .i64 77])[k]? = some z → W.cell? ⟨G, k, none⟩ = some z) → Sl W W.heap.size (some ⟨G, 0, none⟩) (ints xs) := fun hl hh _ => ⟨_, 0, rfl, hl, fun k u hk => by
    rw [Nat.zero_add]
    have hkl := (List.getElem?_eq_some_iff.1 hk).1
    exact hh k u (by rw [List.getElem?_append_left hkl]; exact hk)⟩
  have HGA6 : Hid (∀ k z, (ints p ++ [.int .i64 77, .int .i64 77, .int .i64 77])[k]? = some z → w6.cell? ⟨Ga, k, none⟩ = some z) := Lib.hid (fun k z hz => (hb6.cell (p := ⟨Ga, k, none⟩) (by show Ga < w5.heap.size; omega)).trans (HGA5.out k z hz))
  have HGB6 : Hid (∀ k z, (ints q ++ [.int .i64 77, .int .i64 77, .int .i64 77])[k]? = some z → w6.cell? ⟨Gb, k, none⟩ = some z) := Lib.hid (fun k z hz => (hb6.cell (p := ⟨Gb, k, none⟩) hgb4).trans (HGB.out k z hz))
  have hga6 : Ga < w6.heap.size := by omega
  have hgb6 : Gb < w6.heap.size := by omega
  have hce : w.heap.size + 1 ≤ w5.heap.size := HSB5.out
  have HENV : Hid (EnvL w6 w6.heap.size w5.heap.size (w5.heap.size + 1) w.heap.size Ga Ca Gb Cb p q x) :=
    Lib.hid ⟨⟨by omega, by omega, by omega⟩, hca, hcb, (hb6.cell (p := ⟨w.heap.size, 0, none⟩) (by show w.heap.size < w5.heap.size; omega)).trans HCX5.out, room (c := Ca) hga6 HGA6.out, room (c := Cb) hgb6 HGB6.out, ⟨by omega, by omega⟩, ⟨by omega, by omega⟩⟩
  have HON1 := Lib.hid (lonce_any true w5.heap.size (w5.heap.size + 1) w.heap.size Ga Ca Gb Cb p q x w6 HENV.out)
  have HW6 := Lib.hid (HW5.out.trans (hb6.mono HW5.out.size))
  have hs6' : w5.heap.size + 1 < w6.heap.size := by omega
  rw [← hw6]
  clear hw6 hb6 hca hcb HGA5 HGB HW5 HCX5 HSB5 hs6 room hl45 hga4 hgb4
  obtain ⟨ba, hba⟩ : ∃ ba, ba = w5.heap.size := ⟨_, rfl⟩
  obtain ⟨bx, hbx⟩ : ∃ bx, bx = w.heap.size := ⟨_, rfl⟩
  rw [← hba] at HENV HON1 hs6' hce ⊢
  rw [← hbx] at HENV HON1 hce ⊢
  have HBX := Lib.hid hbx
  clear hba hbx
  go_wp2_with (first | (go_at_call 7; refine (HON1.out).mono ?_) | fail)
  rintro e w7 ⟨⟨A7, c7, ts, rfl, hsr7, hl7, hgot7⟩, hb7⟩
  have HENV7 := Lib.hid (HENV.out.below hb7 hb7.size)
  have HON2 := Lib.hid (lonce_any false ba (ba + 1) bx Ga Ca Gb Cb p q x w7 HENV7.out)
  have HSR7 := Lib.hid hsr7
  have HGOT := Lib.hid hgot7
  have HB7 := Lib.hid hb7
  clear hsr7 hgot7 hb7 HON1
  go_wp2_with (first | (go_at_call 7; refine (HON2.out).mono ?_) | fail)
  rintro e w8 ⟨⟨A8, c8, us, rfl, hsr8, hl8, hgot8⟩, hb8⟩
  have hsame : ts = us := HGOT.out.fn (relL_fn p q x) hgot8
  have hro : Calls Tryz.prog 28 #[.slice A7 ts.length c7, .slice A8 us.length c8] w8 fun e w' => e = .returned (.bool true) ∧ Below w8.heap.size w8 w' :=
    (rows_any A7 A8 c7 c8 ts us w8 (by omega) (by omega) (HSR7.out.keep hb8) hsr8).mono (fun e w' hh => ⟨by rw [hh.1, decide_eq_true hsame], hh.2⟩)
  have HRO := Lib.hid hro
  have HB68 := Lib.hid (HB7.out.trans (hb8.mono HB7.out.size))
  clear hsr8 hgot8 hb8 hro hsame HSR7 HGOT HB7 HON2 HENV7
  go_wp2_with (first | (go_at_call 28; refine (HRO.out).mono ?_) | fail)
  rintro e w9 ⟨rfl, hb9⟩
  have hb69 := HB68.out.trans (hb9.mono HB68.out.size)
  have hlit : (w9.alloc (.cells #[.func (.func 29) #[] #[], .func (.func 30) #[] #[], .func (.func 31) #[] #[], .func (.func 32) #[] #[]] 42)).heap[w9.heap.size]? = some (.cells #[.func (.func 29) #[] #[], .func (.func 30) #[] #[], .func (.func 31) #[] #[], .func (.func 32) #[] #[]] 42 (0, 0)) := heap_alloc_new _ _
  have hblit : Below w6.heap.size w6 (w9.alloc (.cells #[.func (.func 29) #[] #[], .func (.func 30) #[] #[], .func (.func 31) #[] #[], .func (.func 32) #[] #[]] 42)) := hb69.alloc hb69.size _
  have hg9 : w6.heap.size ≤ w9.heap.size := hb69.size
  have HLIT := Lib.hid hlit
  have HBL := Lib.hid hblit
  clear hb9 HB68 HRO hb69 hlit hblit
  go_wp2
  go_loopw [53] (fun iv wr => ∃ k : Nat, k ≤ 4 ∧ iv = .int .i64 k ∧ wr.heap[w9.heap.size]? = some (.cells #[.func (.func 29) #[] #[], .func (.func 30) #[] #[], .func (.func 31) #[] #[], .func (.func 32) #[] #[]] 42 (0, 0)) ∧ Below w6.heap.size w6 wr) (fun iv _ => 4 - (intOf iv).toNat)
  case atStart => exact ⟨0, by omega, rfl, HLIT.out, HBL.out⟩
  case round =>
    clear HLIT HBL
    obtain ⟨k, hk, rfl, hlit, hW⟩ := hrel
    by_cases hk4 : k < 4
    · rcases (show k = 0 ∨ k = 1 ∨ k = 2 ∨ k = 3 by omega) with rfl | rfl | rfl | rfl
      · as_aux_lemma =>
        have hg : w9.heap.size < wr.heap.size := (Array.getElem?_eq_some_iff.1 hlit).1
        have hcl := (cell_of_row wr w9.heap.size 0 #[.func (.func 29) #[] #[], .func (.func 30) #[] #[], .func (.func 31) #[] #[], .func (.func 32) #[] #[]] 42 (0, 0) hlit).trans (show _ = some (.func (.func 29) #[] #[]) from rfl)
        have hca := (hW.cell (p := ⟨ba, 0, none⟩) (by show ba < w6.heap.size; omega)).trans HENV.out.ca
        have HX := Lib.hid ((HENV.out.ra.below hW).more hW.size)
        have HW := Lib.hid hW
        have HLT := Lib.hid hlit
        clear hk hk4 hlit hW
        rw [show ((0 : Nat) : Int) = 0 from rfl]
        go_wp2_with (first | (go_at_call 29; refine (hooks_any _ _ p wr (by omega) HX.out).mono ?_) | fail)
        rintro e w10 ⟨⟨r1, A1, c1, k1, rfl, ho1, hR1⟩, hb1⟩
        have HSP := Lib.hid (spr_seg (Seg.of ho1) hR1 hb1.size)
        have HL10 := Lib.hid ((hb1.block w9.heap.size hg).trans HLT.out)
        have HW10 := Lib.hid (HW.out.trans (hb1.mono HW.out.size))
        clear ho1 hb1 hcl hca HX
        go_wp2_with (first | (go_at_call 33; refine (HSP.out).mono ?_) | fail)
        rintro e w11 ⟨rfl, hb11, F, hf, hF⟩
        have HL11 := Lib.hid ((hb11.block w9.heap.size hg).trans HL10.out)
        have HW11 := Lib.hid (HW10.out.trans (hb11.mono (Nat.le_trans HW.out.size (Nat.le_refl _))))
        clear hb11 hf hF HSP
        go_wp2
        go_roundw
        case rel => exact ⟨1, by omega, by go_num, HL11.out, HW11.out⟩
        case measure => simp [intOf]
      · as_aux_lemma =>
        have hg : w9.heap.size < wr.heap.size := (Array.getElem?_eq_some_iff.1 hlit).1
        have hcl := (cell_of_row wr w9.heap.size 1 #[.func (.func 29) #[] #[], .func (.func 30) #[] #[], .func (.func 31) #[] #[], .func (.func 32) #[] #[]] 42 (0, 0) hlit).trans (show _ = some (.func (.func 30) #[] #[]) from rfl)
        have hca := (hW.cell (p := ⟨ba, 0, none⟩) (by show ba < w6.heap.size; omega)).trans HENV.out.ca
        have HX := Lib.hid ((HENV.out.ra.below hW).more hW.size)
        have HW := Lib.hid hW
        have HLT := Lib.hid hlit
        clear hk hk4 hlit hW
        rw [show ((1 : Nat) : Int) = 1 from rfl]
        go_wp2_with (first | (go_at_call 30; refine (hbelow_any _ _ p wr (by omega) HX.out).mono ?_) | fail)
        rintro e w10 ⟨⟨r1, A1, c1, k1, rfl, ho1, hR1⟩, hb1⟩
        have HSP := Lib.hid (spr_seg (Seg.of ho1) hR1 hb1.size)
        have HL10 := Lib.hid ((hb1.block w9.heap.size hg).trans HLT.out)
        have HW10 := Lib.hid (HW.out.trans (hb1.mono HW.out.size))
        clear ho1 hb1 hcl hca HX
        go_wp2_with (first | (go_at_call 33; refine (HSP.out).mono ?_) | fail)
        rintro e w11 ⟨rfl, hb11, F, hf, hF⟩
        have HL11 := Lib.hid ((hb11.block w9.heap.size hg).trans HL10.out)
        have HW11 := Lib.hid (HW10.out.trans (hb11.mono (Nat.le_trans HW.out.size (Nat.le_refl _))))
        clear hb11 hf hF HSP
        go_wp2
        go_roundw
        case rel => exact ⟨2, by omega, by go_num, HL11.out, HW11.out⟩
        case measure => simp [intOf]
      · as_aux_lemma =>
        have hg : w9.heap.size < wr.heap.size := (Array.getElem?_eq_some_iff.1 hlit).1
        have hcl := (cell_of_row wr w9.heap.size 2 #[.func (.func 29) #[] #[], .func (.func 30) #[] #[], .func (.func 31) #[] #[], .func (.func 32) #[] #[]] 42 (0, 0) hlit).trans (show _ = some (.func (.func 31) #[] #[]) from rfl)
        have hca := (hW.cell (p := ⟨ba, 0, none⟩) (by show ba < w6.heap.size; omega)).trans HENV.out.ca
        have HX := Lib.hid ((HENV.out.ra.below hW).more hW.size)
        have HW := Lib.hid hW
        have HLT := Lib.hid hlit
        clear hk hk4 hlit hW
        rw [show ((2 : Nat) : Int) = 2 from rfl]
        go_wp2_with (first | (go_at_call 31; refine (habove_any _ _ p wr (by omega) HX.out).mono ?_) | fail)
        rintro e w10 ⟨⟨r1, A1, c1, k1, rfl, ho1, hR1⟩, hb1⟩
        have HSP := Lib.hid (spr_seg (Seg.of ho1) hR1 hb1.size)
        have HL10 := Lib.hid ((hb1.block w9.heap.size hg).trans HLT.out)
        have HW10 := Lib.hid (HW.out.trans (hb1.mono HW.out.size))
        clear ho1 hb1 hcl hca HX
        go_wp2_with (first | (go_at_call 33; refine (HSP.out).mono ?_) | fail)
        rintro e w11 ⟨rfl, hb11, F, hf, hF⟩
        have HL11 := Lib.hid ((hb11.block w9.heap.size hg).trans HL10.out)
        have HW11 := Lib.hid (HW10.out.trans (hb11.mono (Nat.le_trans HW.out.size (Nat.le_refl _))))
        clear hb11 hf hF HSP
        go_wp2
        go_roundw
        case rel => exact ⟨3, by omega, by go_num, HL11.out, HW11.out⟩
        case measure => simp [intOf]
      · as_aux_lemma =>
        have hg : w9.heap.size < wr.heap.size := (Array.getElem?_eq_some_iff.1 hlit).1
        have hcl := (cell_of_row wr w9.heap.size 3 #[.func (.func 29) #[] #[], .func (.func 30) #[] #[], .func (.func 31) #[] #[], .func (.func 32) #[] #[]] 42 (0, 0) hlit).trans (show _ = some (.func (.func 32) #[] #[]) from rfl)
        have hca := (hW.cell (p := ⟨ba, 0, none⟩) (by show ba < w6.heap.size; omega)).trans HENV.out.ca
        have HX := Lib.hid ((HENV.out.ra.below hW).more hW.size)
        have HW := Lib.hid hW
        have HLT := Lib.hid hlit
        clear hk hk4 hlit hW
        rw [show ((3 : Nat) : Int) = 3 from rfl]
        go_wp2_with (first | (go_at_call 32; refine (moves_all _ _ p wr (by omega) HX.out).mono ?_) | fail)
        rintro e w10 ⟨⟨r1, A1, c1, k1, rfl, ho1, hR1⟩, hb1⟩
        have HSP := Lib.hid (spr_seg (Seg.of ho1) hR1 hb1.size)
        have HL10 := Lib.hid ((hb1.block w9.heap.size hg).trans HLT.out)
        have HW10 := Lib.hid (HW.out.trans (hb1.mono HW.out.size))
        clear ho1 hb1 hcl hca HX
        go_wp2_with (first | (go_at_call 33; refine (HSP.out).mono ?_) | fail)
        rintro e w11 ⟨rfl, hb11, F, hf, hF⟩
        have HL11 := Lib.hid ((hb11.block w9.heap.size hg).trans HL10.out)
        have HW11 := Lib.hid (HW10.out.trans (hb11.mono (Nat.le_trans HW.out.size (Nat.le_refl _))))
        clear hb11 hf hF HSP
        go_wp2
        go_roundw
        case rel => exact ⟨4, by omega, by go_num, HL11.out, HW11.out⟩
        case measure => simp [intOf]
    · obtain rfl : k = 4 := by omega
      have HW := Lib.hid hW
      clear hlit hW hk hk4
      rw [show ((4 : Nat) : Int) = 4 from rfl]
      have hca := (HW.out.cell (p := ⟨ba, 0, none⟩) (by show ba < w6.heap.size; omega)).trans HENV.out.ca
      have HX := Lib.hid ((HENV.out.ra.below HW.out).more HW.out.size)
      go_wp2_with (first | (go_at_call 34; refine (makez_any _ _ p wr (by omega) HX.out).mono ?_) | fail)
      rintro e w10 ⟨⟨k1, v1, u1, hs1, us1, P, Q, rfl, hm, hq, hap, hP, hQ⟩, hb1⟩
      have HM := Lib.hid hm
      have HQ := Lib.hid hq
      have HAP := Lib.hid hap
      have HSM : Hid (Sm (P ++ Q)) := Lib.hid ⟨by rw [List.length_append]; have := hP.1; have := hQ.1; omega, fun r => by
        rw [List.getD_eq_getElem?_getD]
        by_cases e : r < P.length
        · rw [List.getElem?_append_left e, ← List.getD_eq_getElem?_getD]; have := hP.2 r; omega
        · rw [List.getElem?_append_right (by omega), ← List.getD_eq_getElem?_getD]; have := hQ.2 (r - P.length); omega⟩
      have hPQ : P.length + Q.length < 1000000 := by have := hP.1; have := hQ.1; omega
      have hszr := hb1.size
      have HW10 := Lib.hid (HW.out.trans (hb1.mono HW.out.size))
      have hwr6 := HW.out.size
      obtain ⟨L, hLL⟩ : ∃ L, L = P ++ Q := ⟨_, rfl⟩
      rw [← hLL] at HSM
      have HLL := Lib.hid hLL
      clear hm hq hap hP hQ hb1 hca HX HW hLL
      go_wp2_with (first | (at_builtin; refine wpList_cat (B := wr.heap.size) rfl (.tmp 73) (.tmp 74) rfl rfl rfl HM.out HQ.out HAP.out hPQ hszr (fun v' w11 hm11 hb11 => ?_); rw [← HLL.out] at hm11; obtain ⟨A9, c9, rfl, ho9, -, -⟩ := hm11.ownR; have hs11 := hb11.size; have HSP := Lib.hid (spr_seg (Seg.of ho9) HSM.out (Nat.le_trans hszr hs11)); have HW11 := Lib.hid (HW10.out.trans (hb11.mono hwr6)); clear hm11 ho9 hb11) | (go_at_call 33; refine (HSP.out).mono ?_) | fail)
      rintro e w12 ⟨rfl, hb12, F, hf, hF⟩
      have HW12 := Lib.hid (HW11.out.trans (hb12.mono hwr6))
      have hs12 := HW12.out.size
      clear hb12 hf hF HSP HW11 HW10 HM HQ HAP HSM
      have hca := (HW12.out.cell (p := ⟨ba, 0, none⟩) (by show ba < w6.heap.size; omega)).trans HENV.out.ca
      have hcx := (HW12.out.cell (p := ⟨bx, 0, none⟩) (by show bx < w6.heap.size; omega)).trans HENV.out.cx
      have HR := Lib.hid (row_any (some ⟨Ga, 0, none⟩) Ca p x w12 (by omega) ((HENV.out.ra.below HW12.out).more HW12.out.size))
      go_wp2_with (first | (go_at_call 35; refine (HR.out).mono ?_) | fail)
      rintro e w13 ⟨⟨r1, B1, d1, k2, rfl, ho1, hR1⟩, hb13⟩
      have HS1 := Lib.hid (Seg.of ho1)
      have HR1 := Lib.hid hR1.sm
      have HW13 := Lib.hid (HW12.out.trans (hb13.mono hs12))
      have hs13 := hb13.size
      clear ho1 hR1 hb13 hca hcx HR
      have hca := (HW13.out.cell (p := ⟨ba, 0, none⟩) (by show ba < w6.heap.size; omega)).trans HENV.out.ca
      have hcx := (HW13.out.cell (p := ⟨bx, 0, none⟩) (by show bx < w6.heap.size; omega)).trans HENV.out.cx
      have HC := Lib.hid (column_any (some ⟨Ga, 0, none⟩) Ca p x w13 (by omega) ((HENV.out.ra.below HW13.out).more HW13.out.size))
      go_wp2_with (first | (go_at_call 36; refine (HC.out).mono ?_) | fail)
      rintro e w14 ⟨⟨r2, B2, d2, k3, rfl, ho2, hR2⟩, hb14⟩
      have HS1 := Lib.hid (HS1.out.below hb14)
      have HS2 := Lib.hid (Seg.of ho2)
      have HR2 := Lib.hid hR2
      have HW14 := Lib.hid (HW13.out.trans (hb14.mono (Nat.le_trans hs12 hs13)))
      have hs14 := hb14.size
      clear ho2 hR2 hb14 hca hcx HC
      have hcx := (HW14.out.cell (p := ⟨bx, 0, none⟩) (by show bx < w6.heap.size; omega)).trans HENV.out.cx
      go_wp2_with (first | (go_at_call 37; refine (table_any x w14).mono ?_) | fail)
      rintro e w15 ⟨⟨r3, B3, d3, k4, rfl, ho3, hR3⟩, hb15⟩
      have HS1 := Lib.hid (HS1.out.below (hb15.mono hs14))
      have HS2 := Lib.hid (HS2.out.below hb15)
      have HS3 := Lib.hid (Seg.of ho3)
      have HR3 := Lib.hid hR3
      have HW15 := Lib.hid (HW14.out.trans (hb15.mono (by omega)))
      have hs15 := hb15.size
      clear ho3 hR3 hb15 hcx
      have hcx := (HW15.out.cell (p := ⟨bx, 0, none⟩) (by show bx < w6.heap.size; omega)).trans HENV.out.cx
      go_wp2_with (first | (go_at_call 38; refine (all_all x w15).mono ?_) | fail)
      rintro e w16 ⟨⟨r4, B4, d4, k5, rfl, ho4, hR4⟩, hb16⟩
      have HS1 := Lib.hid (HS1.out.below (hb16.mono (by omega)))
      have HS2 := Lib.hid (HS2.out.below (hb16.mono (by omega)))
      have HS3 := Lib.hid (HS3.out.below hb16)
      have HS4 := Lib.hid (Seg.of ho4)
      have HR4 := Lib.hid hR4
      have HW16 := Lib.hid (HW15.out.trans (hb16.mono (by omega)))
      have hs16 := hb16.size
      have HSP1 := Lib.hid (spr_seg HS1.out HR1.out (show w12.heap.size ≤ w16.heap.size by omega))
      clear ho4 hR4 hb16 hcx
      go_wp2_with (first | (go_at_call 33; refine (HSP1.out).mono ?_) | fail)
      rintro e w17 ⟨rfl, hb17, F, hf, hF⟩
      have hs17 := hb17.size
      have HS2 := Lib.hid (HS2.out.fr hf (fun k hk => .inl (hF k hk).2))
      have HS3 := Lib.hid (HS3.out.fr hf (fun k hk => .inl (by have := (hF k hk).2; omega)))
      have HS4 := Lib.hid (HS4.out.fr hf (fun k hk => .inl (by have := (hF k hk).2; omega)))
      have HW17 := Lib.hid (HW16.out.trans (hb17.mono (by omega)))
      have HSP2 := Lib.hid (spr_seg HS2.out HR2.out (show w13.heap.size ≤ w17.heap.size by omega))
      clear hb17 hf hF HSP1 HS1
      go_wp2_with (first | (go_at_call 33; refine (HSP2.out).mono ?_) | fail)
      rintro e w18 ⟨rfl, hb18, F2, hf, hF⟩
      have hs18 := hb18.size
      have HS3 := Lib.hid (HS3.out.fr hf (fun k hk => .inl (hF k hk).2))
      have HS4 := Lib.hid (HS4.out.fr hf (fun k hk => .inl (by have := (hF k hk).2; omega)))
      have HW18 := Lib.hid (HW17.out.trans (hb18.mono (by omega)))
      have HSP3 := Lib.hid (spr_seg HS3.out HR3.out (show w14.heap.size ≤ w18.heap.size by omega))
      clear hb18 hf hF HSP2 HS2
      go_wp2_with (first | (go_at_call 33; refine (HSP3.out).mono ?_) | fail)
      rintro e w19 ⟨rfl, hb19, F3, hf, hF⟩
      have hs19 := hb19.size
      have HS4 := Lib.hid (HS4.out.fr hf (fun k hk => .inl (hF k hk).2))
      have HW19 := Lib.hid (HW18.out.trans (hb19.mono (by omega)))
      have HSP4 := Lib.hid (spr_seg HS4.out HR4.out (show w15.heap.size ≤ w19.heap.size by omega))
      clear hb19 hf hF HSP3 HS3
      go_wp2_with (first | (go_at_call 33; refine (HSP4.out).mono ?_) | fail)
      rintro e w20 ⟨rfl, hb20, F4, hf, hF⟩
      have HW20 := Lib.hid (HW19.out.trans (hb20.mono (by omega)))
      have hs20 := HW20.out.size
      clear hb20 hf hF HSP4 HS4 HR1 HR2 HR3 HR4 HW12 HW13 HW14 HW15 HW16 HW17 HW18 HW19 hs13 hs14 hs15 hs16 hs17 hs18 hs19 hs12
      have hcx := (HW20.out.cell (p := ⟨bx, 0, none⟩) (by show bx < w6.heap.size; omega)).trans HENV.out.cx
      have HRA := Lib.hid (row_any Ap capp p x w20 (by omega) (H.out.now (HW6.out.trans (HW20.out.mono HW6.out.size)) (Nat.le_refl _)))
      go_wp2_with (first | (go_at_call 35; refine (HRA.out).mono ?_) | fail)
      rintro e w21 ⟨⟨r5, B5, d5, k6, rfl, ho5, hR5⟩, hb21⟩
      have HO5 := Lib.hid ho5
      have HR5 := Lib.hid hR5
      have HW21 := Lib.hid (HW20.out.trans (hb21.mono hs20))
      clear ho5 hR5 hb21 hcx HRA
      have hca := (HW21.out.cell (p := ⟨ba, 0, none⟩) (by show ba < w6.heap.size; omega)).trans HENV.out.ca
      have hcx := (HW21.out.cell (p := ⟨bx, 0, none⟩) (by show bx < w6.heap.size; omega)).trans HENV.out.cx
      have HRB := Lib.hid (row_any (some ⟨Ga, 0, none⟩) Ca p x w21 (by omega) ((HENV.out.ra.below HW21.out).more HW21.out.size))
      go_wp2_with (first | (go_at_call 35; refine (HRB.out).mono ?_) | fail)
      rintro e w22 ⟨⟨r6, B6, d6, k7, rfl, ho6, hR6⟩, hb22⟩
      have hsame : r5 = r6 := HR5.out.fn hR6
      have hsr5 : SR w22 w22.heap.size B5 r5 := by
        obtain ⟨hs5, hm5⟩ := HO5.out
        obtain ⟨A', c', e1, h1, _, _⟩ := (hm5.below hb22).sr
        injection e1 with g1 _ _
        subst g1; exact h1
      have hsr6 : SR w22 w22.heap.size B6 r6 := by
        obtain ⟨hs6, hm6⟩ := ho6
        obtain ⟨A', c', e1, h1, _, _⟩ := hm6.sr
        injection e1 with g1 _ _
        subst g1; exact h1
      have hro : Calls Tryz.prog 28 #[.slice B5 r5.length d5, .slice B6 r6.length d6] w22 fun e w' => e = .returned (.bool true) ∧ Below w22.heap.size w22 w' :=
        (rows_any B5 B6 d5 d6 r5 r6 w22 (by have := HR5.out.sm.1; omega) (by have := hR6.sm.1; omega) hsr5 hsr6).mono (fun e w' hh => ⟨by rw [hh.1, decide_eq_true hsame], hh.2⟩)
      have HRO := Lib.hid hro
      have HW22 := Lib.hid (HW21.out.trans (hb22.mono HW21.out.size))
      clear ho6 hR6 hb22 hsame hsr5 hsr6 hro hca hcx HRB HO5 HR5
      go_wp2_with (first | (go_at_call 28; refine (HRO.out).mono ?_) | fail)
      rintro e w23 ⟨rfl, hb23⟩
      have HW23 := Lib.hid (HW22.out.trans (hb23.mono HW22.out.size))
      have hca := (HW23.out.cell (p := ⟨ba, 0, none⟩) (by show ba < w6.heap.size; omega)).trans HENV.out.ca
      have hs23 := HW23.out.size
      have HKA := Lib.hid (kept_any Ga Ca Ap capp p w23 hga1 hga2 (by omega) (fun k z hz => (HW23.out.cell (p := ⟨Ga, k, none⟩) hga6).trans (HGA6.out k z hz)) (H.out.now (HW6.out.trans (HW23.out.mono HW6.out.size)) (Nat.le_refl _)))
      clear hb23 HRO
      go_wp2_with (first | (go_at_call 39; refine (HKA.out).mono ?_) | fail)
      rintro e w24 ⟨rfl, hb24⟩
      have HW24 := Lib.hid (HW23.out.trans (hb24.mono HW23.out.size))
      have hcb := (HW24.out.cell (p := ⟨ba + 1, 0, none⟩) (by show ba + 1 < w6.heap.size; omega)).trans HENV.out.cb
      have hs24 := HW24.out.size
      have HKB := Lib.hid (kept_any Gb Cb Aq capq q w24 hgb1 hgb2 (by omega) (fun k z hz => (HW24.out.cell (p := ⟨Gb, k, none⟩) hgb6).trans (HGB6.out k z hz)) (H2.out.now (HW6.out.trans (HW24.out.mono HW6.out.size)) (Nat.le_refl _)))
      clear hb24 HKA hca
      go_wp2_with (first | (go_at_call 39; refine (HKB.out).mono ?_) | fail)
      rintro e w25 ⟨rfl, hb25⟩
      have HW25 := Lib.hid (HW6.out.trans ((HW24.out.trans (hb25.mono HW24.out.size)).mono HW6.out.size))
      clear hb25 HKB hcb
      go_wp2
      go_ret
      exact ⟨rfl, HW25.out⟩
end Go.Proofs.YtpmkdihencepnaaGreat

/-
  What a row tells of a slice that came in, in this seat's own words.
-/
namespace Go.Proofs.YtpmkdihencepnaaGreat
open Go.RowKit

/-- WHAT THE WALK IS TOLD OF A SLICE OF INTEGERS THAT CAME IN: it is nil; or it leads to a row of 'cap' cells, the numbers 'zs' (the first 'len' are its elements, the rest its spare room), each fitting its kind. -/
def IsRow (k : IntKind) (w : World) (a : Option Addr) (len cap : Nat) (zs : List Int) : Prop :=
  (a = none ∧ len = 0 ∧ cap = 0 ∧ zs = []) ∨
  ∃ x, a = some x ∧ len ≤ cap ∧ cap ≤ maxLen ∧ zs.length = cap ∧ (∀ i, i < zs.length → w.cell? (x.add i) = some (.int k (zs.getD i 0))) ∧ ∀ n ∈ zs, (Lit.int k n).wf = true

/-- Each number is one of an int64. -/
def In64 (xs : List Int) : Prop := ∀ x ∈ xs, -9223372036854775808 ≤ x ∧ x ≤ 9223372036854775807

theorem IsRow.sl {w : World} {a : Option Addr} {len cap : Nat} {zs : List Int} (h : IsRow .i64 w a len cap zs) :
    ∃ xs : List Int, xs.length = len ∧ len ≤ cap ∧ xs.length ≤ 9223372036854775807 ∧ Sl w w.heap.size a (ints xs) ∧ In64 xs := by
  rcases h with ⟨rfl, rfl, rfl, rfl⟩ | ⟨x, rfl, hl, hm, hz, hc, hw⟩
  · exact ⟨[], rfl, Nat.le_refl _, by simp, Sl.nil _ _ _, by simp [In64]⟩
  · have hm' : cap ≤ 9223372036854775807 := by simpa [maxLen] using hm
    refine ⟨zs.take len, by simp; omega, hl, by simp; omega, ?_, fun y hy => Go.bounds_i64 (hw y (List.mem_of_mem_take hy))⟩
    intro hpos
    have hp : 0 < zs.length := by simp [ints] at hpos; omega
    obtain ⟨b, o, rfl, hcell⟩ := Go.ints_at hc hp
    refine ⟨b, o, rfl, World.block_lt_of_cell? w _ (hcell 0 hp), fun k u hk => ?_⟩
    have hkl : k < (zs.take len).length := by
      have := (List.getElem?_eq_some_iff.1 hk).1
      simpa [ints] using this
    rw [ints_get hkl] at hk
    have hkz : k < zs.length := by simp at hkl; omega
    rw [hcell k hkz, ← hk]
    simp [hkz]

end Go.Proofs.YtpmkdihencepnaaGreat
