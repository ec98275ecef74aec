/-
  ParkingPollak: the law, walked.
-/
import Derived.Test.YtdmpbbgcifodeaaLuckyW
import Derived.Test.YtdmpbbgcifodeaaRow
import Derived.Test.YtdmpbbgcifodeaaSortW
import Derived.Deep.RegionWith
namespace Go.Proofs.Ytdmpbbgcifodeaa
open Go.RowKit

theorem crit11 : Crit (rot [2, 2] (2 : Nat)) := by
  have e : rot [2, 2] (2 : Nat) = [1, 1] := by decide
  rw [e]
  refine ⟨fun x hx => ?_, fun j hj => ?_⟩
  · simp at hx; subst hx; simp
  · match j, hj with
    | 0, _ => simp
    | 1, _ => decide
    | 2, _ => decide
    | j + 3, hj => simp at hj
theorem lucky22 {e : Ending} (h : LuckyRes [2, 2] e) : e = .returned (.tuple #[.int .i64 2, .int .i64 0]) := by
  obtain ⟨k, c, he, _, h2, h3⟩ := h
  have hc : c = 0 := h2.2 ⟨by decide, by decide⟩
  obtain ⟨h4, h5⟩ := h3 hc
  have hk : k = 2 := rot_uniq h5 crit11 h4 (by decide)
  subst hk hc
  exact he

theorem rot_snoc {l : List Int} {s : Int} {i : Nat} (h : i < l.length) : (rot l s).take i ++ [(l.getD i 0 - 1 + s) % ((l.length : Int) + 1) + 1] = (rot l s).take (i + 1) := by
  have h' : i < (rot l s).length := by rw [rot_length]; exact h
  rw [take_snoc h', ← rot_getD h, getD_get h']

theorem swap_perm {ms : List Int} {j o : Nat} (hj : j < ms.length) (ho : o < ms.length) : ((ms.set j (ms.getD o 0)).set o (ms.getD j 0)).Perm ms := by
  rw [getD_get hj, getD_get ho]
  exact List.set_set_perm hj ho

/-- The two lists of places, and the order. -/
structure TwoIn (w0 : World) (l : List Int) (wr : World) : Prop where
  b : Below w0.heap.size w0 wr

set_option maxRecDepth 100000 in
set_option maxHeartbeats 4000000 in
theorem pollak_law (A B : Option Addr) (cap capb : Nat) (l ord : List Int) (w : World) (hcl : l.length ≤ 9223372036854775807) (hclo : ord.length ≤ 9223372036854775807) (hI : In64 ord) (h : Sl w w.heap.size A (ints l)) (hq : Sl w w.heap.size B (ints ord)) :
    Calls Try.prog 9 #[.slice A l.length cap, .slice B ord.length capb] w fun e w' => e = .returned (.bool true) ∧ Below w.heap.size w w' := by
  have hB := Nat.le_refl w.heap.size
  have HIO := Lib.hid hI
  clear hI
  go_enter Try.func9, Try.ntmps9
  go_wp2_with fail
  refine (lucky_any (some ⟨w.heap.size, 0, none⟩) 2 [2, 2] _ (by simp) (sl_lit w (ints [2, 2]) _ (by simp))).mono ?_
  rintro e w1 ⟨hf1, hb1⟩
  have he := lucky22 hf1
  subst he
  have hW1 : Below w.heap.size w w1 := below_call (below_lay (Below.refl _ _) hB _) hB hb1
  clear hb1 hf1
  go_wp2_with fail
  refine (lucky_any A cap l _ hcl (h.now hW1 hB)).mono ?_
  rintro e w2 ⟨⟨k, c, rfl, hc1, hc2, hc3⟩, hb2⟩
  have hW2 : Below w.heap.size w w2 := below_call hW1 hB hb2
  clear hb2 hW1
  by_cases hc : c = 0
  · obtain ⟨h20, hv⟩ := hc2.1 hc
    obtain ⟨hkl, hcr⟩ := hc3 hc
    have HV := Lib.hid hv
    have HC := Lib.hid hcr
    subst hc
    clear hc1 hc2 hc3 hv hcr
    go_wp2
    go_loopw [9] (fun sv wr => ∃ s : Nat, s ≤ l.length + 1 ∧ sv = .int .i64 s ∧ Below w.heap.size w wr) (fun sv _ => l.length + 1 - (intOf sv).toNat)
    case atStart => exact ⟨0, by omega, rfl, hW2⟩
    case round =>
      clear hW2
      obtain ⟨s, hs, rfl, hW⟩ := hrel
      obtain ⟨w9, rfl⟩ : ∃ w9, w9 = wr := ⟨_, rfl⟩
      have hsz := hW.size
      by_cases hsl : s ≤ l.length
      · have hd1 : decide (s ≤ l.length) = true := decide_eq_true hsl
        go_wp2
        go_loopw [10, 49] (fun mv iv wz => ∃ i : Nat, i ≤ l.length ∧ iv = .int .i64 i ∧ wz.ownsRow w9.heap.size 3 1 mv i (ints ((rot l s).take i)) ∧ Below w.heap.size w wz ∧ w9.heap.size ≤ wz.heap.size) (fun _ iv _ => l.length - (intOf iv).toNat)
        case atStart => exact ⟨0, by omega, rfl, by rw [List.take_zero]; exact World.ownsRow_nil _ _ _ _, hW, Nat.le_refl _⟩
        case round =>
          clear hW
          obtain ⟨i, hi, rfl, hown, hW, hsz2⟩ := hrel
          have HO := Lib.hid hown
          clear hown
          by_cases hlt : i < l.length
          · have hd2 : decide (i < l.length) = true := decide_eq_true hlt
            obtain ⟨b, o, rfl, hb⟩ := h.addr (by omega)
            have hcx := getD_cell (h.below hW) hlt
            have hx1 := HV.out (l.getD i 0) (by rw [getD_get hlt]; exact List.getElem_mem hlt)
            have hsn := Lib.hid (rot_snoc (s := (s : Int)) hlt)
            obtain ⟨x, hx⟩ : ∃ x, x = l.getD i 0 := ⟨_, rfl⟩
            rw [← hx] at hcx hx1 hsn
            clear hx
            have hm0 := Int.emod_nonneg (x - 1 + (s : Int)) (b := (l.length : Int) + 1) (by omega)
            have hm1 := Int.emod_lt_of_pos (x - 1 + (s : Int)) (b := (l.length : Int) + 1) (by omega)
            obtain ⟨Y, hY⟩ : ∃ Y : Nat, (x - 1 + (s : Int)) % ((l.length : Int) + 1) = Y := ⟨((x - 1 + (s : Int)) % ((l.length : Int) + 1)).toNat, by omega⟩
            have hY2 : Y ≤ l.length := by omega
            have htm : (x - 1 + (s : Int)).tmod ((l.length : Int) + 1) = Y := by rw [Int.tmod_eq_emod_of_nonneg (by omega)]; exact hY
            have HY := Lib.hid hY
            clear hm0 hm1 hY
            go_wp2_with (first | (at_builtin; refine wpList_app1 rfl (.tmp 53) (.tmp 63) rfl rfl ((Y : Int) + 1) HO.out rfl (by omega) hsz2 (fun g2 c2 w5 hl5 hb5 => ?_)) | fail)
            go_wp2
            go_roundw
            case rel =>
              refine ⟨i + 1, by omega, by go_num, ?_, hW.trans (hb5.mono hsz), Nat.le_trans hsz2 hb5.size⟩
              rw [← hsn.out, HY.out]; exact hl5
            case measure => simp [intOf]; omega
          · have hd2 : decide (i < l.length) = false := decide_eq_false hlt
            obtain rfl : i = l.length := by omega
            obtain ⟨w8, rfl⟩ : ∃ w8, w8 = wr := ⟨_, rfl⟩
            have hown := HO.out
            rw [List.take_of_length_le (by rw [rot_length]; exact Nat.le_refl _)] at hown
            obtain ⟨Am, cm, hvm, hlm, hsm, _, _⟩ := own_slice hown
            subst hvm
            have hrl := rot_length l (s : Int)
            rw [hrl] at hown ⊢
            have hpark := park_any Am cm (rot l s) w8 (by rw [hrl]; exact hcl) hsm
            rw [hrl] at hpark
            have HM := Lib.hid hown
            have HGM : Hid (∀ g, Am = some ⟨g, 0, none⟩ → w9.heap.size ≤ g ∧ g < w8.heap.size) := fun g e => hown.lt g (by rw [e]; rfl)
            have HRL := Lib.hid hrl
            have HPK := Lib.hid hpark
            clear hown HO hrl hpark hlm hlt
            go_wp2_with fail
            refine HPK.out.mono ?_
            rintro e w3 ⟨⟨va, ka, rfl, hp1, hp2⟩, hb3⟩
            have hW3 : Below w.heap.size w w3 := below_call hW hB hb3
            rw [HRL.out] at hp1
            have hks : Hid (ka = 0 ↔ s = k) := by
              show _ ↔ _
              rw [hp1]
              constructor
              · exact fun e => rot_uniq e.2 HC.out hsl hkl
              · intro e; rw [e]; exact ⟨h20, HC.out⟩
            by_cases hsk : s = k
            · have hka : ka = 0 := hks.out.2 hsk
              obtain ⟨qa, hqa, howna⟩ := hp2 hka
              rw [HRL.out] at hqa howna
              have hd3 : ((s : Int) == (k : Int)) = true := by simp; omega
              subst hka
              have HQA := Lib.hid hqa
              have HA := Lib.hid howna
              have hsm := hsm.keep hb3
              have hmown := own_below HM.out hb3
              have HM := Lib.hid hmown
              have HRC : Hid (Crit (rot l (s : Int))) := (hp1.1 rfl).2
              have hsz8 := hb3.size
              subst hsk
              clear hp1 hp2 hqa howna hb3 hW hmown hks
              go_wp2
              go_loopw [81] (fun iv wz => ∃ (i : Nat) (ms : List Int), i ≤ ord.length ∧ iv = .int .i64 i ∧ ms.Perm (rot l (s : Int)) ∧ wz.ownsRow w9.heap.size 3 1 (.slice Am l.length cm) l.length (ints ms) ∧ wz.ownsRow w8.heap.size 3 1 va l.length (ints qa) ∧ Below w.heap.size w wz ∧ w8.heap.size ≤ wz.heap.size) (fun iv _ => ord.length - (intOf iv).toNat)
              case atStart => exact ⟨0, rot l s, by omega, rfl, List.Perm.refl _, HM.out, HA.out, hW3, hsz8⟩
              case round =>
                clear HM HA hW3 hsm hsz8
                obtain ⟨i, ms, hi, rfl, hperm, hm, ha, hW, hsz8⟩ := hrel
                have hml : ms.length = l.length := by rw [hperm.length_eq, HRL.out]
                have HP := Lib.hid hperm
                have HM := Lib.hid hm
                have HA := Lib.hid ha
                have HML := Lib.hid hml
                clear hperm hm ha hml
                by_cases hlt : i < ord.length
                · have hd6 : decide (i < ord.length) = true := decide_eq_true hlt
                  obtain ⟨b, o, rfl, hb⟩ := hq.addr (by omega)
                  have hcx := getD_cell (hq.below hW) hlt
                  have hx1 := HIO.out (ord.getD i 0) (by rw [getD_get hlt]; exact List.getElem_mem hlt)
                  obtain ⟨x, hx⟩ : ∃ x, x = ord.getD i 0 := ⟨_, rfl⟩
                  rw [← hx] at hcx hx1
                  clear hx
                  by_cases hn : 0 < l.length
                  · have hd7 : decide (0 < l.length) = true := decide_eq_true hn
                    obtain ⟨g, c', hv, _, _⟩ := HM.out.form hn
                    obtain ⟨rfl, rfl⟩ : Am = some ⟨g, 0, none⟩ ∧ cm = c' := by simpa using hv
                    have hgm := HGM.out g rfl
                    have hm0 := Int.emod_nonneg (i : Int) (b := (l.length : Int)) (by omega)
                    have hm1 := Int.emod_lt_of_pos (i : Int) (b := (l.length : Int)) (by omega)
                    obtain ⟨J, hJ⟩ : ∃ J : Nat, (i : Int) % (l.length : Int) = J := ⟨((i : Int) % (l.length : Int)).toNat, by omega⟩
                    have hJ2 : J < l.length := by omega
                    have htm : (i : Int).tmod (l.length : Int) = J := by rw [Int.tmod_eq_emod_of_nonneg (by omega)]; exact hJ
                    clear hm0 hm1 hJ hv
                    have hz1 : ¬ l.length = 0 := by omega
                    have hz2 : ¬ (l.length : Int) = 0 := by omega
                    have hz3 : l ≠ [] := fun e => by rw [e] at hn; cases hn
                    go_upto_region 24 with fail
                    go_cut [17, 18] (fun jv ov wz => jv = .int .i64 J ∧ (∃ O : Nat, O < l.length ∧ ov = .int .i64 O) ∧ ∃ d, wz = wr.drewN d)
                    case first =>
                      go_region_with (go_at_call 43; refine (pick_any x l.length _ hn (by omega) hx1.1 hx1.2).mono ?_; rintro e w' ⟨⟨O, hO, rfl⟩, rfl⟩)
                      all_goals
                        go_wp2
                        go_meet
                        exact ⟨rfl, ⟨O, hO, rfl⟩, _, rfl⟩
                    case rest =>
                      obtain ⟨rfl, ⟨O, hO, rfl⟩, d, rfl⟩ := hcut
                      have hcj := own_get HM.out (i := J) (z := ms.getD J 0) (by rw [getD_get (by rw [HML.out]; omega)]; exact List.getElem?_eq_getElem _)
                      have hco := own_get HM.out (i := O) (z := ms.getD O 0) (by rw [getD_get (by rw [HML.out]; omega)]; exact List.getElem?_eq_getElem _)
                      have hfj := HM.out.frozenAt J
                      have hfo := HM.out.frozenAt O
                      have hsw := Lib.hid (swap_perm (ms := ms) (j := J) (o := O) (by rw [HML.out]; exact hJ2) (by rw [HML.out]; exact hO))
                      obtain ⟨u, hu⟩ : ∃ u, u = ms.getD J 0 := ⟨_, rfl⟩
                      obtain ⟨v, hv⟩ : ∃ v, v = ms.getD O 0 := ⟨_, rfl⟩
                      rw [← hu] at hcj hsw
                      rw [← hv] at hco hsw
                      have HU := Lib.hid hu
                      have HVV := Lib.hid hv
                      clear hu hv htm
                      by_cases hJO : J = O
                      · subst hJO
                        obtain rfl : u = v := HU.out.trans HVV.out.symm
                        go_wp2
                        go_region
                        have hown3 := own_set (own_set (own_drewN HM.out (d + 1)) J u) J u
                        have ha3 := ownsRow_setCell_below (ownsRow_setCell_below (own_drewN HA.out (d + 1)) (a := ⟨g, J, none⟩) hgm.2 (.int .i64 u)) (a := ⟨g, J, none⟩) hgm.2 (.int .i64 u)
                        have hbl := ((below_drewN hW (d + 1)).setCell (p := ⟨g, J, none⟩) (Nat.le_trans hsz hgm.1) (.int .i64 u)).setCell (p := ⟨g, J, none⟩) (Nat.le_trans hsz hgm.1) (.int .i64 u)
                        have hsz3 : w8.heap.size ≤ (((wr.drewN (d + 1)).setCell ⟨g, J, none⟩ (.int .i64 u)).setCell ⟨g, J, none⟩ (.int .i64 u)).heap.size := by simpa using hsz8
                        go_wp2
                        go_roundw
                        case rel => exact ⟨i + 1, _, by omega, by go_num, hsw.out.trans HP.out, hown3, ha3, hbl, hsz3⟩
                        case measure => simp [intOf]; omega
                      · have hOJ : ¬ O = J := fun e => hJO e.symm
                        go_wp2
                        go_region
                        have hown3 := own_set (own_set (own_drewN HM.out (d + 1)) J v) O u
                        have ha3 := ownsRow_setCell_below (ownsRow_setCell_below (own_drewN HA.out (d + 1)) (a := ⟨g, J, none⟩) hgm.2 (.int .i64 v)) (a := ⟨g, O, none⟩) hgm.2 (.int .i64 u)
                        have hbl := ((below_drewN hW (d + 1)).setCell (p := ⟨g, J, none⟩) (Nat.le_trans hsz hgm.1) (.int .i64 v)).setCell (p := ⟨g, O, none⟩) (Nat.le_trans hsz hgm.1) (.int .i64 u)
                        have hsz3 : w8.heap.size ≤ (((wr.drewN (d + 1)).setCell ⟨g, J, none⟩ (.int .i64 v)).setCell ⟨g, O, none⟩ (.int .i64 u)).heap.size := by simpa using hsz8
                        go_wp2
                        go_roundw
                        case rel => exact ⟨i + 1, _, by omega, by go_num, hsw.out.trans HP.out, hown3, ha3, hbl, hsz3⟩
                        case measure => simp [intOf]; omega
                  · have hd7 : decide (0 < l.length) = false := decide_eq_false hn
                    go_wp2
                    go_roundw
                    case rel => exact ⟨i + 1, ms, by omega, by go_num, HP.out, HM.out, HA.out, hW, hsz8⟩
                    case measure => simp [intOf]; omega
                · have hd6 : decide (i < ord.length) = false := decide_eq_false hlt
                  have hsm := Sl.of_own HM.out
                  have hsm' : Sl wr wr.heap.size Am (ints ms) := hsm
                  have hpk2 := park_any Am cm ms wr (by rw [HML.out]; exact hcl) hsm'
                  rw [HML.out] at hpk2
                  have HPK2 := Lib.hid hpk2
                  have halt : Hid (∀ kk, va.ownBlock = some kk → kk < wr.heap.size) := fun kk e => (HA.out.lt kk e).2
                  clear hpk2 hsm hsm'
                  go_wp2_with fail
                  refine HPK2.out.mono ?_
                  rintro e w4 ⟨⟨vb, kb, rfl, hq1, hq2⟩, hb4⟩
                  rw [HML.out] at hq1 hq2
                  have hkb : kb = 0 := hq1.2 ⟨h20, HRC.out.perm HP.out.symm⟩
                  obtain ⟨qb, hqb, hownb⟩ := hq2 hkb
                  subst hkb
                  have hW4 : Below w.heap.size w w4 := below_call hW hB hb4
                  have ha4 := own_below HA.out hb4
                  have HA := Lib.hid ha4
                  have HBB := Lib.hid hownb
                  have HQB := Lib.hid hqb
                  have hap1 : Hid (va.ownBlock = none ∨ va.ownBlock ≠ vb.ownBlock) := by
                    show _ ∨ _
                    cases e : va.ownBlock with
                    | none => exact .inl rfl
                    | some kk => exact .inr (fun e2 => by have h1 := (HBB.out.lt kk e2.symm).1; have h2 := halt.out kk e; omega)
                  have hap2 : Hid (vb.ownBlock = none ∨ vb.ownBlock ≠ va.ownBlock) := by
                    show _ ∨ _
                    cases e : vb.ownBlock with
                    | none => exact .inl rfl
                    | some kk => exact .inr (fun e2 => by have h1 := (HBB.out.lt kk e).1; have h2 := halt.out kk e2.symm; omega)
                  have hwr := hW.size
                  clear hq1 hq2 hqb hownb ha4 hb4 hW
                  go_wp2_with fail
                  refine (sort_any w4 HA.out (by omega)).mono ?_
                  rintro e w5 ⟨rfl, hoa5, hg5⟩
                  have hob5 := HBB.out.kept hg5 hap2.out
                  have hW5 : Below w.heap.size w w5 := hW4.grown hg5 hW4.size (fun kk e => by have := (HA.out.lt kk e).1; omega)
                  have HOA := Lib.hid hoa5
                  have HOB := Lib.hid hob5
                  clear hoa5 hob5 hg5 HA HBB
                  go_wp2_with fail
                  refine (sort_any w5 HOB.out (by omega)).mono ?_
                  rintro e w6 ⟨rfl, hob6, hg6⟩
                  have hoa6 := HOA.out.kept hg6 hap1.out
                  have hW6 : Below w.heap.size w w6 := hW5.grown hg6 hW5.size (fun kk e => by have := (HOB.out.lt kk e).1; omega)
                  have heq := sort_eq HQA.out HQB.out
                  rw [← heq] at hob6
                  obtain ⟨zs, hzs⟩ : ∃ zs, zs = qa.mergeSort (fun x y => decide (x ≤ y)) := ⟨_, rfl⟩
                  rw [← hzs] at hob6 hoa6
                  obtain ⟨Aa, ca, hva, hla, hsa, _, _⟩ := own_slice hoa6
                  obtain ⟨Ab, cb, hvb, hlb, hsb, _, _⟩ := own_slice hob6
                  subst hva hvb
                  have hlz : Hid (l.length = zs.length) := hla
                  clear hap1 hap2 halt heq hzs hob6 hoa6 hg6 HOA HOB hla hlb hW4 hW5
                  go_wp2_with fail
                  refine (same_b Aa Ab ca cb zs zs w6 (by rw [← hlz.out]; exact hcl) (by rw [← hlz.out]; exact hcl) hsa hsb).mono ?_
                  rintro e w7 ⟨rfl, hb7⟩
                  have hW7 : Below w.heap.size w w7 := below_call hW6 hB hb7
                  simp only [decide_true]
                  clear hb7 hW6
                  go_wp2
                  go_roundw
                  case rel => exact ⟨s + 1, by omega, by go_num, hW7⟩
                  case measure => simp [intOf]; omega
            · have hka : ¬ ka = 0 := fun e => hsk (hks.out.1 e)
              have hd3 : ((s : Int) == (k : Int)) = false := by simp; omega
              have hd4 : (ka == 0) = false := by simpa using hka
              have hd5 : (ka != 0) = true := by simpa using hka
              clear hka hp1 hp2
              go_wp2
              go_roundw
              case rel => exact ⟨s + 1, by omega, by go_num, hW3⟩
              case measure => simp [intOf]; omega
      · have hd1 : decide (s ≤ l.length) = false := decide_eq_false hsl
        go_wp2
        go_ret
        exact ⟨rfl, hW⟩
  · have hd : (c != 0) = true := by simpa using hc
    have hk0 := hc1 hc
    subst hk0
    clear hc hc1 hc2 hc3
    go_wp2
    go_ret
    exact ⟨rfl, hW2⟩

end Go.Proofs.Ytdmpbbgcifodeaa
