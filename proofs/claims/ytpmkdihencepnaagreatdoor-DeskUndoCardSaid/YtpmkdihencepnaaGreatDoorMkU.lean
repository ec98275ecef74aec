/- Part of the proof. -/
import Derived.Deep.DeepCutAuto
import Derived.Deep.CutBlock
import Derived.Test.YtpmkdihencepnaaGreatDoorMk41
import Derived.Test.YtpmkdihencepnaaGreatDoorMk52
set_option maxHeartbeats 16000000
set_option maxRecDepth 100000
namespace Go.Proofs.YtpmkdihencepnaaGreatDoor
section
open Go.RowKit Go.Proofs
open Go.Shelf Go.Lib
theorem pick_c (k n : Int) (hn : n ≠ 0) (w : World) :
 Calls Tryz.prog 8 #[.int .i64 k, .int .i64 n] w fun e w' => (∃ r, e = .returned (.int .i64 r)) ∧ w = w' := by
 by_cases h : k < 0
 · have d1 : decide (k < 0) = true := decide_eq_true h
   have d2 : (n == 0) = false := by simpa using hn
   clear h
   go_enter Tryz.func8, Tryz.ntmps8
   go_wp2
   go_ret
   exact ⟨⟨_, rfl⟩, rfl⟩
 · have d1 : decide (k < 0) = false := decide_eq_false h
   have d2 : (n == 0) = false := by simpa using hn
   clear h
   go_enter Tryz.func8, Tryz.ntmps8
   go_wp2
   go_ret
   exact ⟨⟨_, rfl⟩, rfl⟩
def sg (S : List UInt8) (q : Nat) : Nat := (S.getD q 0).toNat
def low1 (x : UInt8) : Prop := 97 ≤ x ∧ x ≤ 122
theorem low_sg {S : Str} {i : Nat} (h : i < S.length) : low1 S[i] ↔ 97 ≤ sg S i ∧ sg S i ≤ 122 := by
 unfold sg low1
 rw [List.getD_eq_getElem?_getD, List.getElem?_eq_getElem h]
 exact Iff.rfl
theorem isname_c (S : Str) (hl : S.length ≤ 9223372036854775807) (w : World) :
 Calls Tryz.prog 10 #[sv S] w fun e w' => e = .returned (.bool (namF S)) ∧ w = w' := by
 have HSG : Hid (∀ (q : Nat) (h : q < (ByteArray.mk S.toArray).size), ((ByteArray.mk S.toArray)[q]'h).toNat = sg S q) := fun q h => by
  have hq : q < S.length := h
  show ((ByteArray.mk S.toArray).data[q]'_).toNat = _
  unfold sg
  rw [List.getD_eq_getElem?_getD, List.getElem?_eq_getElem hq]; simp
 go_enter Tryz.func10, Tryz.ntmps10
 go_wp2
 go_loopw [3] (fun iv wr => ∃ i : Nat, i ≤ S.length ∧ iv = .int .i64 i ∧ (∀ (j : Nat) (h : j < S.length), j < i → low1 S[j]) ∧ w = wr) (fun iv _ => S.length - (Go.RowKit.intOf iv).toNat)
 case atStart => exact ⟨0, Nat.zero_le _, rfl, fun j _ h => absurd h (Nat.not_lt_zero _), rfl⟩
 case round =>
  obtain ⟨i, hi, rfl, hall, hw⟩ := hrel
  rw [← hw]
  clear hw
  by_cases hit : i < S.length
  · have di : decide (i < S.length) = true := decide_eq_true hit
    have HL := Lib.hid (low_sg hit)
    have HALL := Lib.hid hall
    have hsg := HSG.out i hit
    clear hall
    have hstep : Hid (97 ≤ sg S i → sg S i ≤ 122 → ∀ (j : Nat) (h : j < S.length), j < i + 1 → low1 S[j]) := Lib.hid fun h1 h2 j h hj => by
     rcases Nat.lt_succ_iff_lt_or_eq.1 hj with h3 | h3
     · exact HALL.out j h h3
     · subst h3; exact HL.out.2 ⟨h1, h2⟩
    have hbad : Hid (¬ (97 ≤ sg S i ∧ sg S i ≤ 122) → namF S = false) := Lib.hid fun h => by
     unfold namF
     refine decide_eq_false fun g => h (HL.out.1 (g.2.2 _ (List.getElem_mem hit)))
    obtain ⟨x, hx⟩ : ∃ x, x = sg S i := ⟨_, rfl⟩
    rw [← hx] at hsg hstep hbad
    have hil : (i : Int) < (S.length : Int) := by omega
    clear hx HL
    by_cases h1 : x < 97
    · have e1 : decide ((x : Int) < 97) = true := decide_eq_true (by omega)
      have HNF := Lib.hid (hbad.out (by omega))
      clear hstep hbad h1
      go_wp2
      go_ret
      exact ⟨by rw [HNF.out]; rfl, rfl⟩
    · have e1 : decide ((x : Int) < 97) = false := decide_eq_false (by omega)
      by_cases h2 : 122 < x
      · have e2 : decide ((122 : Int) < (x : Int)) = true := decide_eq_true (by omega)
        have HNF := Lib.hid (hbad.out (by omega))
        clear hstep hbad h1 h2
        go_wp2
        go_ret
        exact ⟨by rw [HNF.out]; rfl, rfl⟩
      · have e2 : decide ((122 : Int) < (x : Int)) = false := decide_eq_false (by omega)
        have HST := Lib.hid (hstep.out (by omega) (by omega))
        clear hstep hbad h1 h2
        go_wp2
        go_roundw
        case rel => exact ⟨i + 1, by omega, by go_num, HST.out, trivial⟩
        case measure => simp [Go.RowKit.intOf]; omega
  · have di : decide (i < S.length) = false := decide_eq_false hit
    have hnf : Hid (namF S = (decide (0 < S.length) && decide (S.length ≤ 10))) := by
     show _ = _
     unfold namF
     rw [← Bool.decide_and]
     refine decide_eq_decide.2 ⟨fun g => ⟨g.1, g.2.1⟩, fun g => ⟨g.1, g.2, fun y hy => ?_⟩⟩
     obtain ⟨j, hj, rfl⟩ := List.getElem_of_mem hy
     exact hall j hj (by omega)
    clear hall
    by_cases h1 : 0 < S.length
    · have e1 : decide ((0 : Int) < (S.length : Int)) = true := decide_eq_true (by omega)
      rw [decide_eq_true h1] at hnf
      by_cases h2 : S.length ≤ 10
      · have e2 : decide ((S.length : Int) ≤ 10) = true := decide_eq_true (by omega)
        rw [decide_eq_true h2] at hnf
        have h1' : (0 : Int) < (S.length : Int) := by omega
        go_wp2
        go_ret
        exact ⟨by rw [hnf.out]; rfl, rfl⟩
      · have e2 : decide ((S.length : Int) ≤ 10) = false := decide_eq_false (by omega)
        rw [decide_eq_false h2] at hnf
        have h1' : (0 : Int) < (S.length : Int) := by omega
        go_wp2
        go_ret
        exact ⟨by rw [hnf.out]; rfl, rfl⟩
    · have e1 : decide ((0 : Int) < (S.length : Int)) = false := decide_eq_false (by omega)
      rw [decide_eq_false h1] at hnf
      have h1' : ¬ (0 : Int) < (S.length : Int) := by omega
      go_wp2
      go_ret
      exact ⟨by rw [hnf.out]; rfl, rfl⟩
def askB (line : Str) : Bool := decide (line = sNames) || (Lib.hasPrefix line sShow && namF (Lib.trimPrefix line sShow))
theorem askB_iff (line : Str) : askB line = true ↔ Asks line := by
 unfold askB Asks
 simp
theorem trim_same {s p : Str} (h : Lib.hasPrefix s p = false) : Lib.trimPrefix s p = s := by
 unfold Lib.trimPrefix; rw [if_neg (by rw [h]; simp)]
theorem trim_other {s p : Str} (hp : p ≠ []) (h : Lib.hasPrefix s p = true) : Lib.trimPrefix s p ≠ s := by
 intro e
 have e2 := pre_app h
 rw [e] at e2
 have := congrArg List.length e2
 rw [List.length_append] at this
 have := List.length_pos_iff.2 hp
 omega
theorem undo_fact (S : St) (line : Str) (hl : S.log.length ≤ 200) : ((decide (sav (doF S line).2.log ≠ sav S.log) != (((doF S line).1.2 == 0) && !askB line)) && !decide (line = sUndo)) = false := by
 by_cases hu : line = sUndo
 · simp [hu]
 · rcases do_full S line hl hu with ⟨h1, h2⟩ | ⟨h1, h2⟩
   · rw [h1]
     by_cases hc : (doF S line).1.2 = 0
     · have := (askB_iff line).2 (h2 hc)
       simp [this]
     · have : ((doF S line).1.2 == 0) = false := by simpa using hc
       simp [this]
   · have h3 := sav_ne h1
     have h4 : askB line = false := Bool.eq_false_iff.2 fun g => h2 ((askB_iff line).1 g)
     have h5 : ((doF S line).1.2 == 0) = true := by simpa using h1.code
     simp [h3, h4, h5]
theorem undo_chg (S : St) (line : Str) (hl : S.log.length ≤ 200) (h : (decide (sav (doF S line).2.log ≠ sav S.log) && !decide (line = sUndo)) = true) : doF (doF S line).2 sUndo = (([], 0), S) ∧ line ≠ sUndo := by
 have hu : line ≠ sUndo := by
  intro e; simp [e] at h
 rcases do_full S line hl hu with ⟨h1, _⟩ | ⟨h1, _⟩
 · rw [h1] at h; simp at h
 · exact ⟨undo_do h1, hu⟩
theorem undo_same (S : St) (line : Str) (hl : S.log.length ≤ 200) (hu : line ≠ sUndo) (h : (decide (sav (doF S line).2.log ≠ sav S.log) && !decide (line = sUndo)) = false) : (doF S line).2 = S := by
 rcases do_full S line hl hu with ⟨h1, _⟩ | ⟨h1, _⟩
 · exact h1
 · have := sav_ne h1
   simp [this, hu] at h
theorem wrap_ne {n : Nat} (h : n ≤ 9223372036854775807) : wrap64 ((n : Int) + 1) ≠ 0 := by
 unfold wrap64
 omega
theorem undo_law (A : Option Addr) (c : Nat) (ls : List Str) (at_ : Int) (line : Str) (w : World) (he : Env w) (hn1 : ls.length ≤ 9223372036854775807) (h1 : Sl w w.heap.size A (ls.map sv)) (hs1 : ∀ s ∈ ls, s.length ≤ 9223372036854775807) (hline : line.length ≤ 9223372036854775807) :
 Calls Tryz.prog 3 #[.slice A ls.length c, .int .i64 at_, sv line] w fun e w' => e = .returned (.bool true) ∧ Below w.heap.size w w' := by
 have HE := Lib.hid he
 have H1 := Lib.hid h1
 have HS1 := Lib.hid hs1
 have HN := Lib.hid (DOne.new (Fx.refl (fun _ => False) w))
 have HN2 : Hid (∀ w1 p, DOne w w1 p St.new → Calls Tryz.prog 5 #[] w1 fun e w' => ∃ q, e = .returned (.pointer (some ⟨q, 0, none⟩)) ∧ DTwo w w' p q St.new St.new) := Lib.hid fun w1 p h => DTwo.new h
 obtain ⟨d1, d2, d3⟩ := do_x1
 obtain ⟨Sx, hSx⟩ : ∃ Sx, Sx = (doF St.new sX1).2 := ⟨_, rfl⟩
 rw [← hSx] at d2
 have HX : Hid (∀ w1 p q, DTwo w w1 p q St.new St.new → Calls Tryz.prog 6 #[.pointer (some ⟨p, 0, none⟩), .string ⟨#[120, 32, 61, 32, 49]⟩] w1 fun e w' => (∃ t, e = .returned (.tuple #[sv t, .int .i64 0])) ∧ DTwo w w' p q Sx St.new) := Lib.hid fun w1 p q h => by
  refine (h.do1 HE.out sX1 (by decide)).mono ?_
  rintro e w' ⟨rfl, h'⟩
  rw [d1]
  rw [← hSx] at h'
  exact ⟨⟨_, rfl⟩, h'⟩
 have HU : Hid (∀ w1 p q, DTwo w w1 p q Sx St.new → Calls Tryz.prog 6 #[.pointer (some ⟨p, 0, none⟩), .string ⟨#[117, 110, 100, 111]⟩] w1 fun e w' => e = .returned (.tuple #[.string ⟨#[]⟩, .int .i64 0]) ∧ DTwo w w' p q St.new St.new) := Lib.hid fun w1 p q h => by
  refine (h.do1 HE.out sUndo (by decide)).mono ?_
  rintro e w' ⟨rfl, h'⟩
  rw [undo_do d2] at h' ⊢
  exact ⟨rfl, h'⟩
 have HSV : Hid (∀ w1 p q, DTwo w w1 p q St.new St.new → Calls Tryz.prog 7 #[.pointer (some ⟨p, 0, none⟩)] w1 fun e w' => e = .returned (.string ⟨#[]⟩) ∧ DTwo w w' p q St.new St.new) := Lib.hid fun w1 p q h => h.save1
 have HPK : Hid (∀ w1, Calls Tryz.prog 8 #[.int .i64 at_, .int .i64 (wrap64 ((ls.length : Int) + 1))] w1 fun e w' => (∃ r, e = .returned (.int .i64 r)) ∧ w1 = w') := Lib.hid fun w1 => pick_c at_ _ (wrap_ne hn1) w1
 clear he h1 hs1 d1 d2 d3 hSx
 go_enter Tryz.func3, Tryz.ntmps3
 go_upto_region 8 with (first | (go_at_call 7; refine (HSV.out _ _ _ HT4.out).mono ?_; rintro e w5 ⟨rfl, ht5⟩; have HT5 := Lib.hid ht5; clear ht5) | (go_at_call 6; refine (HU.out _ _ _ HT3.out).mono ?_; rintro e w4 ⟨rfl, ht4⟩; have HT4 := Lib.hid ht4; clear ht4) | (go_at_call 6; refine (HX.out _ _ _ HT2.out).mono ?_; rintro e w3 ⟨⟨t3, rfl⟩, ht3⟩; have HT3 := Lib.hid ht3; clear ht3) | (go_at_call 5; refine (HN2.out _ _ HO1.out).mono ?_; rintro e w2 ⟨q, rfl, ht2⟩; have HT2 := Lib.hid ht2; clear ht2) | (go_at_call 5; refine (HN.out).mono ?_; rintro e w1 ⟨p, rfl, ho1⟩; have HO1 := Lib.hid ho1; clear ho1) | fail)
 clear HN HN2 HX HU HSV HO1 HT2 HT3 HT4
 go_upto_region 9 with (first | (go_at_call 8; refine (HPK.out _).mono ?_; rintro e w6 ⟨⟨r, rfl⟩, rfl⟩) | fail)
 clear HPK
 go_wp2
 go_loopw [56] (fun iv wr => ∃ i : Nat, i ≤ ls.length ∧ iv = .int .i64 i ∧ ∃ S, DTwo w wr p q S S) (fun iv _ => ls.length - (Go.RowKit.intOf iv).toNat)
 case atStart => exact ⟨0, Nat.zero_le _, rfl, _, HT5.out⟩
 case round =>
  obtain ⟨w9, rfl⟩ : ∃ w9, w9 = wr := ⟨_, rfl⟩
  obtain ⟨i, hi, rfl, S, ht⟩ := hrel
  by_cases hit : i < ls.length
  · have di : decide (i < ls.length) = true := decide_eq_true hit
    have hs9 := H1.out.below ht.old.toBelow
    obtain ⟨bk, o, rfl, hbl, hcells⟩ := hs9 (by simp; omega)
    have hcl := hcells i (sv (ls.getD i [])) (by rw [List.getElem?_map, List.getElem?_eq_getElem hit, getD_str hit]; rfl)
    have hxl := HS1.out (ls.getD i []) (by rw [getD_str hit]; exact List.getElem_mem hit)
    obtain ⟨x, hx⟩ : ∃ x, x = ls.getD i [] := ⟨_, rfl⟩
    rw [← hx] at hcl hxl
    have HT := Lib.hid ht
    clear hx hs9 hcells ht
    go_upto_if 63 with fail
    go_cut [] (fun wz => ∃ S', DTwo w wz p q S' S')
    case first =>
     by_cases hk : (i : Int) = r
     · have dk : ((i : Int) == r) = true := by simpa using hk
       have hl := HT.out.rep.len.1
       have HF := Lib.hid (undo_fact S line hl)
       have HG := Lib.hid (undo_chg S line hl)
       have HGS := Lib.hid (undo_same S line hl)
       have HSA : Hid (∀ w1, DTwo w w1 p q S S → Calls Tryz.prog 7 #[.pointer (some ⟨p, 0, none⟩)] w1 fun e w' => e = .returned (sv (sav S.log)) ∧ DTwo w w' p q S S) := Lib.hid fun w1 h => h.save1
       have HD1 : Hid (∀ w1, DTwo w w1 p q S S → Calls Tryz.prog 6 #[.pointer (some ⟨p, 0, none⟩), sv line] w1 fun e w' => e = .returned (.tuple #[sv (doF S line).1.1, .int .i64 (doF S line).1.2]) ∧ DTwo w w' p q (doF S line).2 S) := Lib.hid fun w1 h => h.do1 HE.out line hline
       have HD2 : Hid (∀ w1, DTwo w w1 p q (doF S line).2 S → Calls Tryz.prog 6 #[.pointer (some ⟨q, 0, none⟩), sv line] w1 fun e w' => e = .returned (.tuple #[sv (doF S line).1.1, .int .i64 (doF S line).1.2]) ∧ DTwo w w' p q (doF S line).2 (doF S line).2) := Lib.hid fun w1 h => h.do2 HE.out line hline
       obtain ⟨⟨⟨t1, k1⟩, S1⟩, hr⟩ : ∃ r, r = doF S line := ⟨_, rfl⟩
       rw [← hr] at HF HG HGS HD1 HD2
       have HSB : Hid (∀ w1, DTwo w w1 p q S1 S → Calls Tryz.prog 7 #[.pointer (some ⟨p, 0, none⟩)] w1 fun e w' => e = .returned (sv (sav S1.log)) ∧ DTwo w w' p q S1 S) := Lib.hid fun w1 h => h.save1
       obtain ⟨X, hX⟩ : ∃ X, X = sav S.log := ⟨_, rfl⟩
       obtain ⟨X1, hX1⟩ : ∃ X1, X1 = sav S1.log := ⟨_, rfl⟩
       rw [← hX1] at HSB
       rw [← hX] at HSA
       rw [← hX, ← hX1] at HF HG HGS
       have HTP : Hid (∀ w1, Calls Tryz.prog 9 #[sv line, .string ⟨#[115, 104, 111, 119, 32]⟩] w1 fun e w' => e = .returned (sv (Lib.trimPrefix line sShow)) ∧ w1 = w') := Lib.hid fun w1 => trimprefix_c line sShow w1
       obtain ⟨sn, hsn⟩ : ∃ sn, sn = Lib.trimPrefix line sShow := ⟨_, rfl⟩
       rw [← hsn] at HTP
       have HSN := Lib.hid hsn
       obtain ⟨av, hav⟩ : ∃ av, av = askB line := ⟨_, rfl⟩
       rw [← hav] at HF
       have HAV := Lib.hid hav
       obtain ⟨ch, hch⟩ : ∃ ch, ch = decide (X1 ≠ X) := ⟨_, rfl⟩
       rw [← hch] at HF HG HGS
       have ech : (X1 == X) = !ch := by rw [hch]; by_cases e : X1 = X <;> simp [e]
       obtain ⟨lu, hlu⟩ : ∃ lu, lu = decide (line = sUndo) := ⟨_, rfl⟩
       rw [← hlu] at HF HG HGS
       have e5 : (line == [117, 110, 100, 111]) = lu := by rw [hlu]; unfold sUndo; by_cases e : line = [117, 110, 100, 111] <;> simp [e]
       have HLU := Lib.hid hlu
       clear hr hX hX1 hsn hav hch hlu hl hk
       go_upto_region 17 with (first | (go_at_call 9; refine (HTP.out _).mono ?_; rintro e w0 ⟨rfl, rfl⟩) | (go_at_call 7; refine (HSB.out _ HT3.out).mono ?_; rintro e w4 ⟨rfl, ht4⟩; have HT4 := Lib.hid ht4; clear ht4) | (go_at_call 6; refine (HD1.out _ HT2.out).mono ?_; rintro e w3 ⟨rfl, ht3⟩; have HT3 := Lib.hid ht3; clear ht3) | (go_at_call 7; refine (HSA.out _ HT.out).mono ?_; rintro e w2 ⟨rfl, ht2⟩; have HT2 := Lib.hid ht2; clear ht2) | fail)
       go_cut [21] (fun bv wz => bv = .bool av ∧ w4 = wz)
       case first =>
        by_cases hn : line = sNames
        · have e1 : (line == [110, 97, 109, 101, 115]) = true := by rw [hn]; rfl
          have ha : av = true := by
           rw [HAV.out]; unfold askB; simp [hn]
          subst ha
          clear hn
          go_wp2
          go_meet
          exact ⟨rfl, rfl⟩
        · have e1 : (line == [110, 97, 109, 101, 115]) = false := by have := str_ne hn; unfold sNames at this; exact this
          by_cases hp : Lib.hasPrefix line sShow = true
          · have e2 : (sn == line) = false := by
             have := trim_other (by decide) hp
             rw [← HSN.out] at this
             simpa using this
            have hsl : sn.length ≤ 9223372036854775807 := by
             have := trimp_len line sShow
             rw [← HSN.out] at this
             omega
            have HIS := Lib.hid (isname_c sn hsl w4)
            have ha : Hid (namF sn = av) := by
             show _ = _
             rw [HAV.out]; unfold askB
             rw [hp, ← HSN.out, decide_eq_false hn]; simp
            rw [ha.out] at HIS
            clear hn hp hsl
            go_wp2_with (first | (go_at_call 10; refine (HIS.out).mono ?_; rintro e w0 ⟨rfl, rfl⟩) | fail)
            go_meet
            exact ⟨rfl, rfl⟩
          · have e2 : (sn == line) = true := by
             have := trim_same (Bool.eq_false_iff.2 hp)
             rw [← HSN.out] at this
             simpa using this
            have ha : av = false := by
             rw [HAV.out]; unfold askB
             rw [Bool.eq_false_iff.2 hp, decide_eq_false hn]; rfl
            subst ha
            clear hn hp
            go_wp2
            go_meet
            exact ⟨rfl, rfl⟩
       case rest =>
        obtain ⟨rfl, hw⟩ := hcut
        rw [← hw]
        clear hw
        go_upto_region 18 with fail
        go_cut [100] (fun bv wz => bv = .bool false ∧ w4 = wz)
        case first =>
         by_cases hk0 : k1 = 0
         · have e7 : (k1 == 0) = true := by simpa using hk0
           have hf := HF.out
           rw [e7] at hf
           clear hk0
           cases av <;> cases ch <;> cases lu <;> first | (exfalso; revert hf; decide) | (clear hf; go_wp2; go_meet; exact ⟨rfl, rfl⟩)
         · have e7 : (k1 == 0) = false := by simpa using hk0
           have hf := HF.out
           rw [e7] at hf
           clear hk0
           cases av <;> cases ch <;> cases lu <;> first | (exfalso; revert hf; decide) | (clear hf; go_wp2; go_meet; exact ⟨rfl, rfl⟩)
        case rest =>
         obtain ⟨rfl, hw⟩ := hcut
         rw [← hw]
         clear hw
         go_upto_region 20 with fail
         go_cut [105] (fun bv wz => bv = .bool (ch && !lu) ∧ w4 = wz)
         case first =>
          cases ch <;> cases lu <;> (go_wp2; go_meet; exact ⟨rfl, rfl⟩)
         case rest =>
          obtain ⟨rfl, hw⟩ := hcut
          rw [← hw]
          clear hw
          cases hg : (ch && !lu) with
          | true =>
           obtain ⟨hu, hne⟩ := HG.out hg
           have hlf : lu = false := by rw [HLU.out]; exact decide_eq_false hne
           have HU : Hid (∀ w1, DTwo w w1 p q S1 S → Calls Tryz.prog 6 #[.pointer (some ⟨p, 0, none⟩), .string ⟨#[117, 110, 100, 111]⟩] w1 fun e w' => e = .returned (.tuple #[.string ⟨#[]⟩, .int .i64 0]) ∧ DTwo w w' p q S S) := Lib.hid fun w1 h => by
            refine (h.do1 HE.out sUndo (by decide)).mono ?_
            rintro e w' ⟨rfl, h'⟩
            rw [hu] at h' ⊢
            exact ⟨rfl, h'⟩
           have hxx : (X != X) = false := by simp
           subst hlf
           clear hu hne hg
           go_wp2_with (first | (go_at_call 7; refine (HSA.out _ HT6.out).mono ?_; rintro e w7 ⟨rfl, ht7⟩; have HT7 := Lib.hid ht7; clear ht7) | (go_at_call 6; refine (HU.out _ HT4.out).mono ?_; rintro e w6 ⟨rfl, ht6⟩; have HT6 := Lib.hid ht6; clear ht6) | fail)
           go_meet
           exact ⟨S, HT7.out⟩
          | false =>
           cases lu with
           | true =>
            clear hg
            go_wp2_with (first | (go_at_call 6; refine (HD2.out _ HT4.out).mono ?_; rintro e w6 ⟨rfl, ht6⟩; have HT6 := Lib.hid ht6; clear ht6) | fail)
            go_meet
            exact ⟨S1, HT6.out⟩
           | false =>
            have hne : line ≠ sUndo := by
             have := HLU.out
             exact of_decide_eq_false this.symm
            have hs : Hid (S1 = S) := HGS.out hne hg
            clear hne hg
            go_wp2
            go_meet
            exact ⟨S, by have := HT4.out; rwa [hs.out] at this⟩
     · have dk : ((i : Int) == r) = false := by simpa using hk
       go_wp2
       go_meet
       exact ⟨S, HT.out⟩
    case rest =>
     obtain ⟨S', ht'⟩ := hcut
     have HD1 := Lib.hid (ht'.do1 HE.out x hxl)
     have HD2 : Hid (∀ w1, DTwo w w1 p q (doF S' x).2 S' → Calls Tryz.prog 6 #[.pointer (some ⟨q, 0, none⟩), sv x] w1 fun e w' => e = .returned (.tuple #[sv (doF S' x).1.1, .int .i64 (doF S' x).1.2]) ∧ DTwo w w' p q (doF S' x).2 (doF S' x).2) := Lib.hid fun w1 h => h.do2 HE.out x hxl
     obtain ⟨⟨⟨t1, k1⟩, S3⟩, hr⟩ : ∃ r, r = doF S' x := ⟨_, rfl⟩
     rw [← hr] at HD1 HD2
     have htt : (t1 != t1) = false := by simp
     have hkk : (k1 != k1) = false := by simp
     clear hr ht' hxl
     go_wp2_with (first | (go_at_call 6; refine (HD2.out _ HT6.out).mono ?_; rintro e w7 ⟨rfl, ht7⟩; have HT7 := Lib.hid ht7; clear ht7) | (go_at_call 6; refine (HD1.out).mono ?_; rintro e w6 ⟨rfl, ht6⟩; have HT6 := Lib.hid ht6; clear ht6) | fail)
     go_roundw
     case rel => exact ⟨i + 1, by omega, by go_num, S3, HT7.out⟩
     case measure => simp [Go.RowKit.intOf]; omega
  · have di : decide (i < ls.length) = false := decide_eq_false hit
    have HSS := Lib.hid ht.save1
    have HS2 : Hid (∀ w1, DTwo w w1 p q S S → Calls Tryz.prog 7 #[.pointer (some ⟨q, 0, none⟩)] w1 fun e w' => e = .returned (sv (sav S.log)) ∧ DTwo w w' p q S S) := Lib.hid fun w1 h => h.save2
    obtain ⟨Y, hY⟩ : ∃ Y, Y = sav S.log := ⟨_, rfl⟩
    rw [← hY] at HSS HS2
    have hyy : (Y == Y) = true := by simp
    clear hY ht
    go_wp2_with (first | (go_at_call 7; refine (HS2.out _ HT6.out).mono ?_; rintro e w7 ⟨rfl, ht7⟩; have HT7 := Lib.hid ht7; clear ht7) | (go_at_call 7; refine (HSS.out).mono ?_; rintro e w6 ⟨rfl, ht6⟩; have HT6 := Lib.hid ht6; clear ht6) | fail)
    go_ret
    exact ⟨rfl, HT7.out.old.toBelow⟩
end
end Go.Proofs.YtpmkdihencepnaaGreatDoor
