/- Part of the proof. -/
import Derived.Test.YtpmkdihencepnaaGreatDoorMk52
set_option maxHeartbeats 16000000
set_option maxRecDepth 100000
namespace Go.Proofs.YtpmkdihencepnaaGreatDoor
section
open Go.RowKit Go.Proofs
open Go.Shelf Go.Lib
theorem keeps_law (A1 A2 : Option Addr) (c1 c2 : Nat) (ls ms : List Str) (w : World) (he : Env w) (hn1 : ls.length ≤ 9223372036854775807) (hn2 : ms.length ≤ 9223372036854775807) (h1 : Sl w w.heap.size A1 (ls.map sv)) (h2 : Sl w w.heap.size A2 (ms.map sv)) (hs1 : ∀ s ∈ ls, s.length ≤ 9223372036854775807) (hs2 : ∀ s ∈ ms, s.length ≤ 9223372036854775807) :
 Calls Tryz.prog 4 #[.slice A1 ls.length c1, .slice A2 ms.length c2] w fun e w' => e = .returned (.bool true) ∧ Below w.heap.size w w' := by
 have HE := Lib.hid he
 have H1 := Lib.hid h1
 have H2 := Lib.hid h2
 have HS1 := Lib.hid hs1
 have HS2 := Lib.hid hs2
 have HN := Lib.hid (DOne.new (Fx.refl (fun _ => False) w))
 obtain ⟨d1, _, d3⟩ := do_x31
 obtain ⟨Sx, hSx⟩ : ∃ Sx, Sx = (doF St.new sX31).2 := ⟨_, rfl⟩
 rw [← hSx] at d3
 have HX : Hid (∀ w1 p, DOne w w1 p St.new → Calls Tryz.prog 6 #[.pointer (some ⟨p, 0, none⟩), .string ⟨#[120, 32, 61, 32, 51, 32, 49]⟩] w1 fun e w' => (∃ t, e = .returned (.tuple #[sv t, .int .i64 0])) ∧ DOne w w' p Sx) := Lib.hid fun w1 p h => by
  refine (h.do HE.out sX31 (by decide)).mono ?_
  rintro e w' ⟨rfl, h'⟩
  rw [d1]
  rw [← hSx] at h'
  exact ⟨⟨_, rfl⟩, h'⟩
 have HSV : Hid (∀ w1 p, DOne w w1 p Sx → Calls Tryz.prog 7 #[.pointer (some ⟨p, 0, none⟩)] w1 fun e w' => e = .returned (.string ⟨#[120, 32, 61, 32, 51, 32, 49, 10]⟩) ∧ DOne w w' p Sx) := Lib.hid fun w1 p h => by
  refine h.save.mono ?_
  rintro e w' ⟨rfl, h'⟩
  rw [d3]
  exact ⟨rfl, h'⟩
 have HNE : Hid (∀ w1, Old w w1 → Calls Tryz.prog 5 #[] w1 fun e w' => ∃ p, e = .returned (.pointer (some ⟨p, 0, none⟩)) ∧ DOne w w' p St.new) := Lib.hid fun w1 h => DOne.new h
 clear he h1 h2 hs1 hs2 d1 d3 hSx
 go_enter Tryz.func4, Tryz.ntmps4
 go_upto_region 5 with (first | (go_at_call 7; refine (HSV.out _ _ HO2.out).mono ?_; rintro e w3 ⟨rfl, ho3⟩; have HO3 := Lib.hid ho3; clear ho3) | (go_at_call 6; refine (HX.out _ _ HO1.out).mono ?_; rintro e w2 ⟨⟨t2, rfl⟩, ho2⟩; have HO2 := Lib.hid ho2; clear ho2) | (go_at_call 5; refine (HN.out).mono ?_; rintro e w1 ⟨p1, rfl, ho1⟩; have HO1 := Lib.hid ho1; clear ho1) | fail)
 go_upto_region 6 with (first | (go_at_call 5; refine (HNE.out _ HO3.out.old).mono ?_; rintro e w4 ⟨p, rfl, ho4⟩; have HO4 := Lib.hid ho4; clear ho4) | fail)
 clear HN HX HSV HNE HO1 HO2 HO3
 go_wp2
 go_loopw [34] (fun iv wr => ∃ i : Nat, i ≤ ls.length ∧ iv = .int .i64 i ∧ DOne w wr p (runF St.new (ls.take i))) (fun iv _ => ls.length - (Go.RowKit.intOf iv).toNat)
 case atStart => exact ⟨0, Nat.zero_le _, rfl, HO4.out⟩
 case round =>
  obtain ⟨w9, rfl⟩ : ∃ w9, w9 = wr := ⟨_, rfl⟩
  obtain ⟨i, hi, rfl, hone⟩ := hrel
  by_cases hit : i < ls.length
  · have di : decide (i < ls.length) = true := decide_eq_true hit
    have hs9 := H1.out.below hone.old.toBelow
    obtain ⟨bk, o, rfl, hbl, hcells⟩ := hs9 (by simp; omega)
    have hcl := hcells i (sv (ls.getD i [])) (by rw [List.getElem?_map, List.getElem?_eq_getElem hit, getD_str hit]; rfl)
    have hxl := HS1.out (ls.getD i []) (by rw [getD_str hit]; exact List.getElem_mem hit)
    have HSN := Lib.hid (runF_snoc St.new ls hit)
    obtain ⟨x, hx⟩ : ∃ x, x = ls.getD i [] := ⟨_, rfl⟩
    rw [← hx] at hcl hxl HSN
    have HD := Lib.hid (hone.do HE.out x hxl)
    rw [← HSN.out] at HD
    clear hx hs9 hcells hone hxl
    go_wp2_with (first | (go_at_call 6; refine (HD.out).mono ?_; rintro e w5 ⟨rfl, ho5⟩; have HO5 := Lib.hid ho5; clear ho5) | fail)
    go_roundw
    case rel => exact ⟨i + 1, by omega, by go_num, HO5.out⟩
    case measure => simp [Go.RowKit.intOf]; omega
  · have di : decide (i < ls.length) = false := decide_eq_false hit
    obtain rfl : i = ls.length := by omega
    obtain ⟨S, hS⟩ : ∃ S, S = runF St.new (ls.take ls.length) := ⟨_, rfl⟩
    rw [← hS] at hone
    clear hS hit
    have HS := Lib.hid hone.save
    have HLD : Hid (∀ w1, DOne w w1 p S → Calls Tryz.prog 11 #[sv (sav S.log)] w1 fun e w' => ∃ q, e = .returned (.tuple #[.pointer (some ⟨q, 0, none⟩), .agg #[.int .i64 0, .int .i64 0]]) ∧ DTwo w w' p q S S) := Lib.hid fun w1 h => DTwo.load HE.out h
    obtain ⟨X, hX⟩ : ∃ X, X = sav S.log := ⟨_, rfl⟩
    rw [← hX] at HS HLD
    have HXE := Lib.hid hX
    clear hone hX
    go_upto_region 12 with (first | (go_at_call 11; refine (HLD.out _ HO5.out).mono ?_; rintro e w6 ⟨q, rfl, ht6⟩; have HT6 := Lib.hid ht6; clear ht6) | (go_at_call 7; refine (HS.out).mono ?_; rintro e w5 ⟨rfl, ho5⟩; have HO5 := Lib.hid ho5; clear ho5) | fail)
    obtain ⟨w7, hw7⟩ : ∃ w7, w7 = w6.alloc (.cells #[.int .i64 0, .int .i64 0] 34) := ⟨_, rfl⟩
    have HT7 : Hid (DTwo w w7 p q S S) := Lib.hid (HT6.out.below (by rw [hw7]; exact (Below.refl _ w6).alloc (Nat.le_refl _) _))
    obtain ⟨fb, hfb⟩ : ∃ fb, fb = w6.heap.size := ⟨_, rfl⟩
    have hbk : w7.heap[fb]? = some (.cells #[.int .i64 0, .int .i64 0] 34 (0, 0)) := by rw [hw7, hfb]; exact World.alloc_heap_new _ _
    have q0 : w7.cell? ⟨fb, 0, none⟩ = some (.int .i64 0) := by simp [World.cell?, hbk]
    have q1 : w7.cell? ⟨fb, 1, none⟩ = some (.int .i64 0) := by simp [World.cell?, hbk]
    rw [← hw7, ← hfb]
    have HSQ := Lib.hid HT7.out.save2
    have HSP : Hid (∀ w1, DTwo w w1 p q S S → Calls Tryz.prog 7 #[.pointer (some ⟨p, 0, none⟩)] w1 fun e w' => e = .returned (sv (sav S.log)) ∧ DTwo w w' p q S S) := Lib.hid fun w1 h => h.save1
    rw [← HXE.out] at HSQ HSP
    have hxx : (X != X) = false := by simp
    clear hw7 hfb hbk HT6
    go_upto_region 14 with (first | (go_at_call 7; refine (HSP.out _ HT8.out).mono ?_; rintro e wa ⟨rfl, hta⟩; have HTA := Lib.hid hta; clear hta) | (go_at_call 7; refine (HSQ.out).mono ?_; rintro e w8 ⟨rfl, ht8⟩; have HT8 := Lib.hid ht8; clear ht8) | fail)
    clear HSQ HSP HT7 HT8 q0 q1 HXE hxx
    go_wp2
    go_loopw [64] (fun iv wr => ∃ i : Nat, i ≤ ms.length ∧ iv = .int .i64 i ∧ ∃ S, DTwo w wr p q S S) (fun iv _ => ms.length - (Go.RowKit.intOf iv).toNat)
    case atStart => exact ⟨0, Nat.zero_le _, rfl, S, HTA.out⟩
    case round =>
     obtain ⟨w8, rfl⟩ : ∃ w8, w8 = wr := ⟨_, rfl⟩
     obtain ⟨i, hi, rfl, S2, ht⟩ := hrel
     by_cases hit : i < ms.length
     · have di : decide (i < ms.length) = true := decide_eq_true hit
       have hs9 := H2.out.below ht.old.toBelow
       obtain ⟨bk, o, rfl, hbl, hcells⟩ := hs9 (by simp; omega)
       have hcl := hcells i (sv (ms.getD i [])) (by rw [List.getElem?_map, List.getElem?_eq_getElem hit, getD_str hit]; rfl)
       have hxl := HS2.out (ms.getD i []) (by rw [getD_str hit]; exact List.getElem_mem hit)
       obtain ⟨x, hx⟩ : ∃ x, x = ms.getD i [] := ⟨_, rfl⟩
       rw [← hx] at hcl hxl
       have HD1 := Lib.hid (ht.do1 HE.out x hxl)
       have HD2 : Hid (∀ w1, DTwo w w1 p q (doF S2 x).2 S2 → Calls Tryz.prog 6 #[.pointer (some ⟨q, 0, none⟩), sv x] w1 fun e w' => e = .returned (.tuple #[sv (doF S2 x).1.1, .int .i64 (doF S2 x).1.2]) ∧ DTwo w w' p q (doF S2 x).2 (doF S2 x).2) := Lib.hid fun w1 h => h.do2 HE.out x hxl
       obtain ⟨⟨⟨t1, k1⟩, S3⟩, hr⟩ : ∃ r, r = doF S2 x := ⟨_, rfl⟩
       rw [← hr] at HD1 HD2
       have htt : (t1 != t1) = false := by simp
       have hkk : (k1 != k1) = false := by simp
       clear hx hs9 hcells ht hxl hr
       go_wp2_with (first | (go_at_call 6; refine (HD2.out _ HT5.out).mono ?_; rintro e w4 ⟨rfl, ht4⟩; have HT4 := Lib.hid ht4; clear ht4) | (go_at_call 6; refine (HD1.out).mono ?_; rintro e w5 ⟨rfl, ht5⟩; have HT5 := Lib.hid ht5; clear ht5) | fail)
       go_roundw
       case rel => exact ⟨i + 1, by omega, by go_num, S3, HT4.out⟩
       case measure => simp [Go.RowKit.intOf]; omega
     · have di : decide (i < ms.length) = false := decide_eq_false hit
       have HS1 := Lib.hid ht.save1
       have HS2 : Hid (∀ w1, DTwo w w1 p q S2 S2 → Calls Tryz.prog 7 #[.pointer (some ⟨q, 0, none⟩)] w1 fun e w' => e = .returned (sv (sav S2.log)) ∧ DTwo w w' p q S2 S2) := Lib.hid fun w1 h => h.save2
       obtain ⟨Y, hY⟩ : ∃ Y, Y = sav S2.log := ⟨_, rfl⟩
       rw [← hY] at HS1 HS2
       have hyy : (Y == Y) = true := by simp
       clear hY ht
       go_wp2_with (first | (go_at_call 7; refine (HS2.out _ HT5.out).mono ?_; rintro e w4 ⟨rfl, ht4⟩; have HT4 := Lib.hid ht4; clear ht4) | (go_at_call 7; refine (HS1.out).mono ?_; rintro e w5 ⟨rfl, ht5⟩; have HT5 := Lib.hid ht5; clear ht5) | fail)
       go_ret
       exact ⟨rfl, HT4.out.old.toBelow⟩
end
end Go.Proofs.YtpmkdihencepnaaGreatDoor
