/-
  rule.walk with the closure of rule.Number: what is counted.
-/
import Derived.Test.YtidnpmkdajicjaaDoorWalL
import Derived.Test.YtidnpmkdajicjaaDoorFroW
namespace Go.Proofs.YtidnpmkdajicjaaDoor
open Go.RowKit LR

def WlkOut (e : Ending) (w' : World) (gN : Nat) (a b c : List Nat) : Prop := e = .returned (.tuple #[]) ∧ w'.cell? ⟨gN, 0, none⟩ = some (iv (num3 a b c))
theorem small_len {a : List Nat} (h : Pn a) (h16 : a.sum ≤ 16) : a.length ≤ 16 := (h.par h16).len
theorem sumTo_small {a : List Nat} (h16 : a.sum ≤ 16) (k : Nat) : -1000000000000 ≤ sumTo (zs a) k ∧ sumTo (zs a) k ≤ 1000000000000 := by
  have e : (zs a).take k = zs (a.take k) := by simp [zs]
  unfold sumTo
  rw [e, zs_sum]
  have : (a.take k).sum ≤ a.sum := by
    have := List.take_append_drop k a
    have e2 : a.sum = (a.take k).sum + (a.drop k).sum := by rw [← List.sum_append, this]
    omega
  omega
theorem zsize_any (A : Option Addr) (cap : Nat) (a : List Nat) (w : World) (hl : a.length ≤ 16) (h16 : a.sum ≤ 16) (h : Sl w w.heap.size A (ints (zs a))) :
    Calls Tryd.prog 7 #[.slice A a.length cap] w fun e w' => e = .returned (.int .i64 a.sum) ∧ w = w' := by
  have := psize_any A cap (zs a) w (by rw [zs_length]; omega) (fun k _ => sumTo_small h16 k) h
  rw [zs_length, zs_sum] at this
  exact this
theorem zclone_any (A : Option Addr) (cap : Nat) (a : List Nat) (w : World) (hl : a.length ≤ 16) (h : Sl w w.heap.size A (ints (zs a))) :
    Calls Tryd.prog 15 #[.slice A a.length cap] w fun e w' => ∃ v, e = .returned v ∧ w'.ownsRow w.heap.size 3 1 v a.length ((List.range a.length).map (fun x => iv (at0 a x))) ∧ Below w.heap.size w w' := by
  have := clone_any A cap (zs a) w (by rw [zs_length]; omega) h
  rw [zs_length, zs_cells] at this
  exact this

set_option maxRecDepth 100000 in
set_option maxHeartbeats 4000000 in
theorem walk_any (a b c : List Nat) (ha : Pn a) (hb : Pn b) (hc : Pn c) (a16 : a.sum ≤ 16) (b16 : b.sum ≤ 16) (c16 : c.sum ≤ 16) (A1 A2 A3 : Option Addr) (c1 c2 c3 gN : Nat) (w : World) (B : Nat) (hB : B ≤ gN) (hgN : gN < w.heap.size)
    (h1 : Sl w B A1 (ints (zs a))) (h2 : Sl w B A2 (ints (zs b))) (h3 : Sl w B A3 (ints (zs c))) (hn : w.ownsRow B 3 1 (.slice (some ⟨gN, 0, none⟩) 1 1) 1 [iv 0]) :
    Calls Tryd.prog 16 #[.slice A1 a.length c1, .slice A2 b.length c2, .slice A3 c.length c3, .func (.func 17) #[] #[.pointer (some ⟨gN, 0, none⟩)]] w fun e w' => WlkOut e w' gN a b c ∧ Below B w w' := by
  have la := small_len ha a16
  have lb := small_len hb b16
  have lc := small_len hc c16
  have hBw : B ≤ w.heap.size := by omega
  have HSA := Lib.hid (zsize_any A1 c1 a w la a16 (h1.more hBw))
  have HSB := Lib.hid (zsize_any A2 c2 b w lb b16 (h2.more hBw))
  have HSC := Lib.hid (zsize_any A3 c3 c w lc c16 (h3.more hBw))
  have HWA := Lib.hid (within_any A1 A3 c1 c3 a c w (by omega) (by omega) (h1.more hBw) (h3.more hBw))
  have HWB := Lib.hid (within_any A2 A3 c2 c3 b c w (by omega) (by omega) (h2.more hBw) (h3.more hBw))
  have HCL : Hid (∀ w0, Below B w w0 → Calls Tryd.prog 15 #[.slice A2 b.length c2] w0 fun e w' => ∃ v, e = .returned v ∧ w'.ownsRow w0.heap.size 3 1 v b.length ((List.range b.length).map (fun x => iv (at0 b x))) ∧ Below w0.heap.size w0 w') := Lib.hid fun w0 hb0 => zclone_any A2 c2 b w0 lb ((h2.below hb0).more (Nat.le_trans hBw hb0.size))
  have H1 := Lib.hid h1
  have H2 := Lib.hid h2
  have H3 := Lib.hid h3
  have HN := Lib.hid hn
  have PA := Lib.hid ha
  have PB := Lib.hid hb
  have PC := Lib.hid hc
  have A16 := Lib.hid a16
  have B16 := Lib.hid b16
  have C16 := Lib.hid c16
  clear h1 h2 h3 hn ha hb hc
  go_enter Tryd.func16, Tryd.ntmps16
  go_upto_region 0 with fail
  go_cut [31] (fun bv wz => (∃ x : Bool, bv = .bool x ∧ (x = true ↔ ¬ (a.sum + b.sum = c.sum ∧ within a c ∧ within b c))) ∧ w = wz)
  case first =>
    by_cases s1 : a.sum + b.sum = c.sum
    · have d1 : (((a.sum : Int) + (b.sum : Int)) != (c.sum : Int)) = false := by simp; omega
      have S1 := Lib.hid s1
      by_cases s2 : within a c
      · have d2 : decide (within a c) = true := decide_eq_true s2
        have S2 := Lib.hid s2
        by_cases s3 : within b c
        · have d3 : decide (within b c) = true := decide_eq_true s3
          have S3 := Lib.hid s3
          clear s1 s2 s3
          go_wp2_with (first | (go_at_call_of 7 (Value.slice A1 a.length c1); refine (HSA.out).mono ?_; rintro e w' ⟨rfl, rfl⟩) | (go_at_call_of 7 (Value.slice A2 b.length c2); refine (HSB.out).mono ?_; rintro e w' ⟨rfl, rfl⟩) | (go_at_call_of 7 (Value.slice A3 c.length c3); refine (HSC.out).mono ?_; rintro e w' ⟨rfl, rfl⟩) | (go_at_call_of 22 (Value.slice A1 a.length c1); refine (HWA.out).mono ?_; rintro e w' ⟨rfl, rfl⟩) | (go_at_call_of 22 (Value.slice A2 b.length c2); refine (HWB.out).mono ?_; rintro e w' ⟨rfl, rfl⟩) | fail)
          go_meet
          exact ⟨⟨_, rfl, ⟨fun e => (by cases e), fun h => absurd ⟨S1.out, S2.out, S3.out⟩ h⟩⟩, rfl⟩
        · have d3 : decide (within b c) = false := decide_eq_false s3
          have S3 := Lib.hid s3
          clear s1 s2 s3
          go_wp2_with (first | (go_at_call_of 7 (Value.slice A1 a.length c1); refine (HSA.out).mono ?_; rintro e w' ⟨rfl, rfl⟩) | (go_at_call_of 7 (Value.slice A2 b.length c2); refine (HSB.out).mono ?_; rintro e w' ⟨rfl, rfl⟩) | (go_at_call_of 7 (Value.slice A3 c.length c3); refine (HSC.out).mono ?_; rintro e w' ⟨rfl, rfl⟩) | (go_at_call_of 22 (Value.slice A1 a.length c1); refine (HWA.out).mono ?_; rintro e w' ⟨rfl, rfl⟩) | (go_at_call_of 22 (Value.slice A2 b.length c2); refine (HWB.out).mono ?_; rintro e w' ⟨rfl, rfl⟩) | fail)
          go_meet
          exact ⟨⟨_, rfl, ⟨fun _ h => S3.out h.2.2, fun _ => rfl⟩⟩, rfl⟩
      · have d2 : decide (within a c) = false := decide_eq_false s2
        have S2 := Lib.hid s2
        clear s1 s2
        go_wp2_with (first | (go_at_call_of 7 (Value.slice A1 a.length c1); refine (HSA.out).mono ?_; rintro e w' ⟨rfl, rfl⟩) | (go_at_call_of 7 (Value.slice A2 b.length c2); refine (HSB.out).mono ?_; rintro e w' ⟨rfl, rfl⟩) | (go_at_call_of 7 (Value.slice A3 c.length c3); refine (HSC.out).mono ?_; rintro e w' ⟨rfl, rfl⟩) | (go_at_call_of 22 (Value.slice A1 a.length c1); refine (HWA.out).mono ?_; rintro e w' ⟨rfl, rfl⟩) | (go_at_call_of 22 (Value.slice A2 b.length c2); refine (HWB.out).mono ?_; rintro e w' ⟨rfl, rfl⟩) | fail)
        go_meet
        exact ⟨⟨_, rfl, ⟨fun _ h => S2.out h.2.1, fun _ => rfl⟩⟩, rfl⟩
    · have d1 : (((a.sum : Int) + (b.sum : Int)) != (c.sum : Int)) = true := by simp; omega
      have S1 := Lib.hid s1
      clear s1
      go_wp2_with (first | (go_at_call_of 7 (Value.slice A1 a.length c1); refine (HSA.out).mono ?_; rintro e w' ⟨rfl, rfl⟩) | (go_at_call_of 7 (Value.slice A2 b.length c2); refine (HSB.out).mono ?_; rintro e w' ⟨rfl, rfl⟩) | (go_at_call_of 7 (Value.slice A3 c.length c3); refine (HSC.out).mono ?_; rintro e w' ⟨rfl, rfl⟩) | (go_at_call_of 22 (Value.slice A1 a.length c1); refine (HWA.out).mono ?_; rintro e w' ⟨rfl, rfl⟩) | (go_at_call_of 22 (Value.slice A2 b.length c2); refine (HWB.out).mono ?_; rintro e w' ⟨rfl, rfl⟩) | fail)
      go_meet
      exact ⟨⟨_, rfl, ⟨fun _ h => S1.out h.1, fun _ => rfl⟩⟩, rfl⟩
  case rest =>
    obtain ⟨⟨x, rfl, hx⟩, rfl⟩ := hcut
    clear HSA HSB HSC HWA HWB
    cases x
    · have hok : a.sum + b.sum = c.sum ∧ within a c ∧ within b c := Classical.byContradiction (fun h => by have := hx.2 h; cases this)
      have HOK := Lib.hid hok
      have hnum : num3 a b c = cnt b.length (at0 c) (bxs (at0 a) (at0 c) c.length 0 (at0 c 0)) (fun _ _ => 0) (at0 b) (fun _ => 0) := if_pos hok
      have HNUM := Lib.hid hnum
      clear hx hok hnum
      go_upto_region 1 with fail
      go_cut [8] (fun pv wz => ∃ bk AL gL cL gU, pv = .pointer (some ⟨bk, 0, none⟩) ∧ (0 < b.length → AL = some ⟨gL, 0, none⟩) ∧ AllR wz B ((mkK a b c A1 A2 A3 c1 c2 c3 gN bk AL gL cL gU).breg (at0 b) (fun _ => 0) 0 0 none 0 (fun _ => 0)) ∧ Below B w wz)
      case first =>
        obtain ⟨i0, hi0, hz0, hz1, hz2⟩ := info_parts Tryd.infoInt
        have hmk := fun w => run_make (P := Tryd.prog) w 22 3 i0 (.int .i64 0) Tryd.underlying22 hi0 hz0 .i64 .i64 b.length b.length (by omega) (by omega) (by rw [hz2]; omega) (by omega)
        have C1 := Lib.hid (HCL.out (w.drewN 1) (below_drewN (Below.refl _ _) 1))
        have C2 := Lib.hid (HCL.out ((w.drewN 1).alloc (.cells (madeCells #[.int .i64 0] b.length) 3)) ((below_drewN (Below.refl B w) 1).alloc hBw _))
        go_region_with (first | (go_at_call 15; refine (C1.out).mono ?_; rintro e w' ⟨v, rfl, ho, hb⟩; obtain ⟨AL, cL, gL, rfl, hAL⟩ := own_val ho; have HO := Lib.hid ho; have HBB := Lib.hid hb; have HAL := Lib.hid hAL; clear ho hb hAL) | (go_at_call 15; refine (C2.out).mono ?_; rintro e w' ⟨v, rfl, ho, hb⟩; obtain ⟨AL, cL, gL, rfl, hAL⟩ := own_val ho; have HO := Lib.hid ho; have HBB := Lib.hid hb; have HAL := Lib.hid hAL; clear ho hb hAL) | fail)
        · go_wp2
          go_meet
          have hb1 : Below B w w' := (below_drewN (Below.refl B w) 1).trans (HBB.out.mono hBw)
          have hsz : w.heap.size ≤ w'.heap.size := HBB.out.size
          have hz := World.ownsRow_lit (e := 3) (size := 1) (base := B) w' (madeCells #[Value.int .i64 0] b.length) b.length (by omega) (by unfold maxLen; omega) (by rw [size_madeCells]; simp)
          rw [zrow_list] at hz
          have hsz1 : (w'.alloc (.cells (madeCells #[Value.int .i64 0] b.length) 3)).heap.size = w'.heap.size + 1 := by simp
          have hs := World.ownsRow_lit (e := 55) (size := 7) (base := B) (w'.alloc (.cells (madeCells #[Value.int .i64 0] b.length) 3)) ((mkK a b c A1 A2 A3 c1 c2 c3 gN (w'.heap.size + 1) AL gL cL w'.heap.size).bcells 0 none 0).toArray 1 (by rw [hsz1]; omega) (by decide) rfl
          rw [hsz1] at hs
          refine ⟨_, AL, gL, cL, _, rfl, HAL.out, breg_start (K := mkK a b c A1 A2 A3 c1 c2 c3 gN (w'.heap.size + 1) AL gL cL w'.heap.size) hs ?_ (hz.alloc _) (((own_below (own_drewN HN.out 1) HBB.out).alloc _).alloc _) (by show w'.heap.size + 1 ≠ w'.heap.size; omega) (by show w'.heap.size + 1 ≠ gN; omega) (by show w'.heap.size ≠ gN; omega) (fun k hk => ?_), (hb1.alloc (by omega) _).alloc (by rw [hsz1]; omega) _⟩
          · exact ((HO.out.mono hBw).alloc _).alloc _
          · have := HO.out.lt k hk
            have e : (w.drewN 1).heap.size = w.heap.size := rfl
            exact ⟨by show k ≠ w'.heap.size + 1; omega, by show k ≠ w'.heap.size; omega, by show k ≠ gN; omega⟩
        · go_wp2
          go_meet
          have hszm : ((w.drewN 1).alloc (.cells (madeCells #[Value.int .i64 0] b.length) 3)).heap.size = w.heap.size + 1 := by show _ = (w.drewN 1).heap.size + 1; simp
          have hb0 : Below B w ((w.drewN 1).alloc (.cells (madeCells #[Value.int .i64 0] b.length) 3)) := (below_drewN (Below.refl B w) 1).alloc hBw _
          have hb1 : Below B w w' := hb0.trans (HBB.out.mono (by rw [hszm]; omega))
          have hsz : w.heap.size + 1 ≤ w'.heap.size := by have := HBB.out.size; rw [hszm] at this; exact this
          have hz := World.ownsRow_lit (e := 3) (size := 1) (base := B) (w.drewN 1) (madeCells #[Value.int .i64 0] b.length) b.length hBw (by unfold maxLen; omega) (by rw [size_madeCells]; simp)
          rw [zrow_list] at hz
          have hs := World.ownsRow_lit (e := 55) (size := 7) (base := B) w' ((mkK a b c A1 A2 A3 c1 c2 c3 gN w'.heap.size AL gL cL w.heap.size).bcells 0 none 0).toArray 1 (by omega) (by decide) rfl
          have hnn : ((w.drewN 1).alloc (.cells (madeCells #[Value.int .i64 0] b.length) 3)).ownsRow B 3 1 (.slice (some ⟨gN, 0, none⟩) 1 1) 1 [iv 0] := (own_drewN HN.out 1).alloc _
          refine ⟨_, AL, gL, cL, _, rfl, HAL.out, breg_start (K := mkK a b c A1 A2 A3 c1 c2 c3 gN w'.heap.size AL gL cL w.heap.size) hs ?_ ((own_below hz HBB.out).alloc _) ((own_below hnn HBB.out).alloc _) (by show w'.heap.size ≠ w.heap.size; omega) (by show w'.heap.size ≠ gN; omega) (by show w.heap.size ≠ gN; omega) (fun k hk => ?_), hb1.alloc (by omega) _⟩
          · exact (HO.out.mono (by rw [hszm]; omega)).alloc _
          · have := HO.out.lt k hk
            rw [hszm] at this
            exact ⟨by show k ≠ w'.heap.size; omega, by show k ≠ w.heap.size; omega, by show k ≠ gN; omega⟩
      case rest =>
        obtain ⟨bk, AL, gL, cL, gU, rfl, hAL, hA0, hb0⟩ := hcut
        obtain ⟨K, hK⟩ : ∃ K, K = mkK a b c A1 A2 A3 c1 c2 c3 gN bk AL gL cL gU := ⟨_, rfl⟩
        rw [← hK] at hA0
        have kb : K.b = bk := by rw [hK]; rfl
        have kn : K.n = c.length := by rw [hK]; rfl
        have kk : K.k = b.length := by rw [hK]; rfl
        have kc : K.fc = at0 c := by rw [hK]; rfl
        have HK := Lib.hid hK
        have KBq := Lib.hid kb
        have KNq := Lib.hid kn
        have KKq := Lib.hid kk
        have KCq := Lib.hid kc
        have HAL := Lib.hid hAL
        have HA0 := Lib.hid hA0
        have HB0 := Lib.hid hb0
        clear hK kb kn kk kc hAL hA0 hb0
        obtain ⟨n, hn⟩ : ∃ n, n = c.length := ⟨_, rfl⟩
        rw [← hn] at lc ⊢
        have HNn := Lib.hid hn
        clear hn
        go_upto_region 3 with fail
        go_loopw [10, 45] (fun _ jv wr => ∃ (i : Nat) (AR : Option Addr) (gO cR : Nat) (gR : Nat → Nat), i ≤ n ∧ jv = .int .i64 i ∧ (0 < i → AR = some ⟨gO, 0, none⟩) ∧ AllR wr B (K.breg (at0 b) (fun _ => 0) 0 i AR cR gR) ∧ Below B w wr) (fun _ jv _ => n - (intOf jv).toNat)
        case atStart => exact ⟨0, none, 0, 0, _, Nat.zero_le _, rfl, fun h => absurd h (by omega), HA0.out, HB0.out⟩
        case round =>
          obtain ⟨i, AR, gO, cR, gR, hi, rfl, hAR, hAr, hbr⟩ := hrel
          have HARs := Lib.hid hAR
          have HAr := Lib.hid hAr
          have HBr := Lib.hid hbr
          clear hAR hAr hbr HA0 HB0
          obtain ⟨w9, rfl⟩ : ∃ w9, w9 = wr := ⟨_, rfl⟩
          by_cases hin : i < n
          · have di : decide ((i : Int) < (n : Int)) = true := decide_eq_true (by omega)
            obtain ⟨bc, oc, rfl, hbc⟩ := H3.out.addr (by rw [zs_length, ← HNn.out]; omega)
            have hcc := getD_cell (H3.out.below HBr.out) (k := i) (by rw [zs_length, ← HNn.out]; exact hin)
            rw [zs_getD] at hcc
            obtain ⟨x, hx⟩ : ∃ x, x = at0 c i := ⟨_, rfl⟩
            have hx16 : x ≤ 16 := by
              have := (PC.out.par C16.out).top
              rw [hx, at0_get (show i < c.length by rw [← HNn.out]; exact hin)]
              exact this _ (List.getElem_mem _)
            rw [← hx] at hcc
            have HX : Hid (K.fc i = x) := Lib.hid (by show _ = _; rw [KCq.out, hx])
            clear hx
            go_upto_region 5 with fail
            have e3 : w9.cell? ⟨bk, 3, none⟩ = some (.slice AR i cR) := by
              rw [← KBq.out]
              exact HAr.out.cell (x := 0) (c := 1) rfl (by show 3 < 1 * 7; omega) rfl
            have f3 : w9.frozen? ⟨bk, 3, none⟩ = false := by
              rw [← KBq.out]
              exact HAr.out.fz (x := 0) (c := 1) rfl 3
            have hbk : bk < w9.heap.size := by
              have := (HAr.out.lt (x := 0) (b := K.b) rfl).2
              rw [KBq.out] at this; exact this
            have hsz9 : w.heap.size ≤ w9.heap.size := HBr.out.size
            obtain ⟨i0, hi0, hz0, hz1, hz2⟩ := info_parts Tryd.infoInt
            have hmk := fun w => run_make (P := Tryd.prog) w 22 3 i0 (.int .i64 0) Tryd.underlying22 hi0 hz0 .i64 .i64 x x (by omega) (by omega) (by rw [hz2]; omega) (by omega)
            have hown : w9.ownsRow B 22 1 (.slice AR i cR) i ((List.range i).map (K.brow gR)) := HAr.out.own 1
            have HOWN := Lib.hid hown
            clear hown
            have hout : some bk ≠ (Value.slice AR i cR).ownBlock := fun e => by
              have h0 := HAr.out.far 0 1 (by omega) bk (by rw [← KBq.out]; rfl)
              exact h0 e.symm
            have HOUT := Lib.hid hout
            clear hout
            go_region_law (first | (refine step_pushE (base := B) (v := .slice AR i cR) (hs := (List.range i).map (K.brow gR)) ?_ (.tmp 53) (.tmp 56) ?_ ?_ (.slice (some ⟨w9.heap.size, 0, none⟩) x x) ?_ i (w9.heap.size + 1) ?_ ?_ ?_ ?_ ?_ ?_; (· rfl); (· rfl); (· rfl); (· rfl); (· rfl); (· exact (own_drewN HOWN.out 1).alloc _ |>.alloc _); (· exact lit2' _ _ _); (· omega); (· (show _ ≤ ((World.alloc _ _).alloc _).heap.size; simp; omega)); intro g2 c2 w6 hl6 hg6 hat6 hlt6; have hk6 : w6.heap[bk]? = w9.heap[bk]? := (hg6.block bk (by simp; omega) HOUT.out).trans ((heap_alloc_old _ _ (by simp; omega)).trans (heap_alloc_old _ _ hbk)); have c6 : w6.cell? ⟨bk, 3, none⟩ = some (.slice AR i cR) := (World.cell?_of_block hk6).trans e3; have z6 : w6.frozen? ⟨bk, 3, none⟩ = false := (frozen_of_blockE hk6).trans f3; have HL6 := Lib.hid hl6; have HG6 := Lib.hid hg6; have HAT6 := Lib.hid hat6; have HK6 := Lib.hid hk6; clear hl6 hg6 hat6 hk6) | fail)
            all_goals
              have hp := breg_push (d := 1) (w5 := w6) (g2 := g2) (c2 := c2) HAr.out (by omega) (by rw [HX.out]; omega) (by rw [HX.out]; exact HL6.out) (by rw [HX.out]; exact HG6.out) (by
                rcases HAT6.out with e | e
                · exact .inl e
                · refine .inr ?_
                  rw [e]
                  show _ ≤ ((World.alloc _ _).alloc _).heap.size
                  simp)
              rw [KBq.out] at hp
              have HP1 := Lib.hid hp.1
              have HP2 := Lib.hid hp.2
              clear hp c6 z6
              go_wp2
              go_roundw
              case rel => exact ⟨i + 1, some ⟨g2, 0, none⟩, g2, c2, _, by omega, by go_num, fun _ => rfl, HP1.out, HBr.out.trans HP2.out⟩
              case measure => simp [intOf]; omega
          · obtain rfl : i = n := by omega
            have di : decide ((i : Int) < (i : Int)) = false := decide_eq_false (by omega)
            have hdone := breg_done (K := K) (L := at0 b) (Us := fun _ => 0) (q := 0) (cR := cR) (AR := AR) (gR := gR) gO
            obtain ⟨K2, hK2⟩ : ∃ K2, K2 = { K with AR := AR, cR := cR, gR := gR, gO := gO } := ⟨_, rfl⟩
            rw [← hK2] at hdone
            have hA2 := HAr.out
            rw [show i = K.n by rw [KNq.out, HNn.out], hdone] at hA2
            have hk2 : K2.n = i ∧ K2.k = b.length ∧ K2.fa = at0 a ∧ K2.fc = at0 c ∧ K2.b = bk ∧ K2.na = a.length ∧ K2.gN = gN := by rw [hK2, HK.out, HNn.out]; exact ⟨rfl, rfl, rfl, rfl, rfl, rfl, rfl⟩
            have hok2 : K2.Ok w9 B := by
              rw [hK2, HK.out]
              refine ⟨fun h => HARs.out (by rw [HNn.out]; exact h), HAL.out, ?_, ?_, fun r hr => at0_far hr⟩
              · have := H1.out.below HBr.out
                rw [zs_cells] at this; exact this
              · have := H3.out.below HBr.out
                rw [zs_cells] at this; exact this
            obtain ⟨x0, hx0⟩ : ∃ x, x = at0 c 0 := ⟨_, rfl⟩
            have hx16 : x0 ≤ 16 := by
              rw [hx0]
              by_cases h : 0 < c.length
              · rw [at0_get h]; exact (PC.out.par C16.out).top _ (List.getElem_mem h)
              · rw [at0_far (by omega)]; omega
            have hlen := bxs_sum HOK.out.2.1
            have hbl : (bxs (at0 a) (at0 c) c.length 0 (at0 c 0)).length = b.sum := by have := HOK.out.1; omega
            have hcnt : cnt b.length (at0 c) (bxs (at0 a) (at0 c) c.length 0 (at0 c 0)) (fun _ _ => 0) (at0 b) (fun _ => 0) ≤ 4611686018427387904 := by
              refine Nat.le_trans (cnt_le _ _ _ _ (by rw [hbl, ← lsum_rs]; exact Nat.le_refl _)) (Nat.le_trans (fac_mono (n := 16) (by rw [hbl]; exact B16.out)) fac16)
            have hcall : Calls Tryd.prog 23 #[.pointer (some ⟨bk, 0, none⟩), .int .i64 0, .int .i64 ((x0 : Int) - 1)] w9 fun e w' => EachOut K2 B (num3 a b c) (fun _ _ => 0) (at0 b) (fun _ => 0) w9 e w' := by
              have hat : ∀ r, at0 c r ≤ 16 := fun r => by
                by_cases h : r < c.length
                · rw [at0_get h]; exact (PC.out.par C16.out).top _ (List.getElem_mem h)
                · rw [at0_far (by omega)]; omega
              have hbt : ∀ r, at0 b r ≤ 16 := fun r => by
                by_cases h : r < b.length
                · rw [at0_get h]; exact (PB.out.par B16.out).top _ (List.getElem_mem h)
                · rw [at0_far (by omega)]; omega
              have kb2 : KB K2 := ⟨by rw [hk2.1]; omega, by rw [hk2.2.1]; omega, fun r => by rw [hk2.2.2.2.1]; have := hat r; omega, fun r => by rw [hk2.2.2.2.1]; exact at0_down PC.out.down (by omega)⟩
              have := from_any kb2 (B := B) 17 i 0 (at0 c 0) (fun _ _ => 0) (at0 b) (fun _ => 0) 0 w9 (by rw [hk2.2.2.1, hk2.2.2.2.1, HNn.out, hbl]; have := B16.out; omega) (by rw [hk2.1]; omega) (fun _ => by rw [hk2.2.2.2.1]; exact Nat.le_refl _) (by have := hat 0; omega)
                hA2 hok2 (by have := HBr.out.size; omega) (fun _ _ _ => rfl) ⟨fun _ _ => by omega, fun r _ => by have := hbt r; show at0 b r + 0 ≤ 1000; omega⟩ (by rw [hk2.2.1, hk2.2.2.1, hk2.2.2.2.1, HNn.out, Nat.zero_add]; exact hcnt)
              rw [hk2.2.2.2.2.1, hk2.2.1, hk2.2.2.1, hk2.2.2.2.1, HNn.out, Nat.zero_add, ← HNUM.out, ← hx0] at this
              exact this
            have HCALL := Lib.hid hcall
            have HGN : Hid (K2.gN = gN) := Lib.hid hk2.2.2.2.2.2.2
            have HX0 := Lib.hid hx0
            clear hcall hk2 hok2 hA2 hdone hK2 hlen hbl hcnt hx0
            by_cases hi0 : 0 < i
            · have d0 : decide ((0 : Int) < (i : Int)) = true := decide_eq_true (by omega)
              obtain ⟨bc, oc, rfl, hbc⟩ := H3.out.addr (by rw [zs_length, ← HNn.out]; omega)
              have hcc := getD_cell (H3.out.below HBr.out) (k := 0) (by rw [zs_length, ← HNn.out]; exact hi0)
              rw [zs_getD, ← HX0.out, Nat.add_zero] at hcc
              go_wp2_with (first | (go_at_call 23; refine (HCALL.out).mono ?_; rintro e w' ⟨rfl, hA', hb'⟩) | fail)
              go_end0
              have := sea_n hA'
              rw [HGN.out] at this
              exact ⟨⟨rfl, this⟩, HBr.out.trans hb'⟩
            · have d0 : decide ((0 : Int) < (i : Int)) = false := decide_eq_false (by omega)
              have p0 : ¬ 0 < i := hi0
              have hz : Hid ((x0 : Int) - 1 = -1) := by
                show _ = _
                rw [HX0.out, at0_far (by rw [← HNn.out]; omega)]; rfl
              have hc2 := HCALL.out
              rw [hz.out] at hc2
              have HC2 := Lib.hid hc2
              clear hc2
              go_wp2_with (first | (go_at_call 23; refine (HC2.out).mono ?_; rintro e w' ⟨rfl, hA', hb'⟩) | fail)
              go_end0
              have := sea_n hA'
              rw [HGN.out] at this
              exact ⟨⟨rfl, this⟩, HBr.out.trans hb'⟩
    · have hno : ¬ (a.sum + b.sum = c.sum ∧ within a c ∧ within b c) := hx.1 rfl
      have hnum : Hid (num3 a b c = 0) := Lib.hid (if_neg hno)
      clear hx hno
      go_wp2
      refine bodyPost_ret (results_none rfl _ _ _) rfl ?_
      exact ⟨⟨rfl, by rw [hnum.out]; exact HN.out.cellAt 0 (by omega)⟩, Below.refl _ _⟩
end Go.Proofs.YtidnpmkdajicjaaDoor
