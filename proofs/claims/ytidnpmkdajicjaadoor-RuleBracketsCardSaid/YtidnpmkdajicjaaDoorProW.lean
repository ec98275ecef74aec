/-
  rule.Product: what it answers.
-/
import Derived.Test.YtidnpmkdajicjaaDoorTermL
import Derived.Test.YtidnpmkdajicjaaDoorAllW
namespace Go.Proofs.YtidnpmkdajicjaaDoor
open Go.RowKit Go.Proofs LR

theorem zs_inj {a b : List Nat} (h : zs a = zs b) : a = b := by
  unfold zs at h
  have := congrArg (List.map Int.toNat) h
  simpa [Function.comp_def] using this
def ProOk (p q : List Int) : Prop := IsPart p ∧ IsPart q ∧ p.sum + q.sum ≤ 16
def prodT (a b : List Nat) : List (List Nat × Nat) := ((allP (a.sum + b.sum)).map (fun c => (c, num3 a b c))).filter (fun x => decide (0 < x.2))
/-- A slice value that reads as terms. -/
def TR (w : World) (B : Nat) (A : Option Addr) (ts : List (List Nat × Nat)) : Prop :=
  ∃ vs : List Tm, vs.length = ts.length ∧ Sl w B A (tcells vs) ∧ ∀ (i : Nat) (h : i < vs.length), (vs[i]).2 = Lib.decDigits (ts.getD i ([], 0)).2 ∧ ∃ Ai ci, (vs[i]).1 = .slice Ai (ts.getD i ([], 0)).1.length ci ∧ Sl w B Ai (ints (zs (ts.getD i ([], 0)).1))
def ProOut (e : Ending) (w' : World) (p q : List Int) : Prop := ∃ (A : Option Addr) (n c : Nat) (k : Int), e = .returned (.tuple #[.slice A n c, .int .i64 k]) ∧ (k = 0 ↔ ProOk p q) ∧ (k ≠ 0 → n = 0) ∧
  ∀ a b, p = zs a → q = zs b → k = 0 → n = (prodT a b).length ∧ TR w' w'.heap.size A (prodT a b)
def tsTo (a b : List Nat) (i : Nat) : List (List Nat × Nat) := (((allP (a.sum + b.sum)).take i).map (fun c => (c, num3 a b c))).filter (fun x => decide (0 < x.2))
theorem tsTo_zero {a b : List Nat} : tsTo a b 0 = [] := by simp [tsTo]
theorem tsTo_all {a b : List Nat} : tsTo a b (allP (a.sum + b.sum)).length = prodT a b := by simp [tsTo, prodT]
theorem tsTo_len {a b : List Nat} (i : Nat) : (tsTo a b i).length ≤ i := by
  unfold tsTo
  refine Nat.le_trans (List.length_filter_le _ _) ?_
  simp; omega
/-- The terms in memory: the lists lie in the world w1, the numerals and the row itself in w. -/
def TmS (w1 w : World) (v : Value) (ts : List (List Nat × Nat)) : Prop :=
  ∃ vs : List Tm, vs.length = ts.length ∧ w.ownsRow w1.heap.size 40 2 v ts.length (tcells vs) ∧ ∀ (i : Nat) (h : i < vs.length), (vs[i]).2 = Lib.decDigits (ts.getD i ([], 0)).2 ∧ ∃ Ai ci, (vs[i]).1 = .slice Ai (ts.getD i ([], 0)).1.length ci ∧ Sl w1 w1.heap.size Ai (ints (zs (ts.getD i ([], 0)).1))
theorem TmS.tr {w1 w : World} {v : Value} {ts : List (List Nat × Nat)} (h : TmS w1 w v ts) (hb : Below w1.heap.size w1 w) : ∃ A c, v = .slice A ts.length c ∧ TR w w.heap.size A ts := by
  obtain ⟨vs, hl, ho, hv⟩ := h
  obtain ⟨A, c, e, hn, hs⟩ := tsl_of_own ho
  refine ⟨A, c, by rw [e, ← hn], vs, hl, hs, fun i hi => ?_⟩
  obtain ⟨g1, Ai, ci, g2, g3⟩ := hv i hi
  exact ⟨g1, Ai, ci, g2, g3.keep hb⟩
theorem TmS.below {w1 w w' : World} {v : Value} {ts : List (List Nat × Nat)} (h : TmS w1 w v ts) (hb : Below w.heap.size w w') : TmS w1 w' v ts := by
  obtain ⟨vs, hl, ho, hv⟩ := h
  exact ⟨vs, hl, own_eq ho (fun b e => hb.block b (ho.lt b e).2), hv⟩
theorem prod_take {a b : List Nat} {i : Nat} (h : i < (allP (a.sum + b.sum)).length) :
    (((allP (a.sum + b.sum)).take (i + 1)).map (fun c => (c, num3 a b c))).filter (fun x => decide (0 < x.2))
      = (((allP (a.sum + b.sum)).take i).map (fun c => (c, num3 a b c))).filter (fun x => decide (0 < x.2)) ++ (if 0 < num3 a b ((allP (a.sum + b.sum)).getD i []) then [((allP (a.sum + b.sum)).getD i [], num3 a b ((allP (a.sum + b.sum)).getD i []))] else []) := by
  rw [List.take_succ_eq_append_getElem h, List.map_append, List.filter_append]
  congr 1
  rw [getD_get h]
  by_cases c : 0 < num3 a b ((allP (a.sum + b.sum))[i])
  · simp [c]
  · simp [c]
theorem num3_le {a b c : List Nat} : num3 a b c ≤ fac b.sum := by
  unfold num3
  by_cases x : a.sum + b.sum = c.sum ∧ within a c ∧ within b c
  · rw [if_pos x]
    have hl := bxs_sum x.2.1
    have hb : (bxs (at0 a) (at0 c) c.length 0 (at0 c 0)).length = b.sum := by have := x.1; omega
    have := cnt_le (k := b.length) (c := at0 c) (bxs (at0 a) (at0 c) c.length 0 (at0 c 0)) (fun _ _ => 0) (at0 b) (fun _ => 0) (by rw [hb, ← lsum_rs]; exact Nat.le_refl _)
    rwa [hb] at this
  · rw [if_neg x]; omega
theorem fac16_eq : fac 16 = 20922789888000 := by decide
theorem allP_len {n : Nat} (h : n ≤ 16) : (allP n).length ≤ 65536 := by
  have h1 := pts_len n n n
  have h2 : 2 ^ n ≤ 2 ^ 16 := Nat.pow_le_pow_right (by omega) h
  have h3 : 2 ^ 16 = 65536 := by decide
  unfold allP; omega

set_option maxRecDepth 100000 in
set_option maxHeartbeats 4000000 in
theorem product_any (p q : List Int) (A1 A2 : Option Addr) (c1 c2 : Nat) (w : World) (ht : Tab10 w) (hl1 : p.length ≤ 9223372036854775807) (hl2 : q.length ≤ 9223372036854775807)
    (h1 : Sl w w.heap.size A1 (ints p)) (h2 : Sl w w.heap.size A2 (ints q)) :
    Calls Tryd.prog 4 #[.slice A1 p.length c1, .slice A2 q.length c2] w fun e w' => ProOut e w' p q ∧ Below w.heap.size w w' := by
  have hsr := sr_lit (w := w) (B := w.heap.size) [(A1, c1, p), (A2, c2, q)] (fun x hx => by
    simp only [List.mem_cons, List.not_mem_nil, or_false] at hx
    rcases hx with rfl | rfl
    · exact ⟨h1, hl1⟩
    · exact ⟨h2, hl2⟩) (Nat.le_refl _)
  obtain ⟨w0, hw0⟩ : ∃ w0, w0 = w.alloc (.cells #[.slice A1 p.length c1, .slice A2 q.length c2] 22) := ⟨_, rfl⟩
  have e0 : w.alloc (.cells ([(A1, c1, p), (A2, c2, q)].map litC).toArray 22) = w0 := by
    rw [hw0]; simp [litC]
  rw [e0] at hsr
  have hz0 : w0.heap.size = w.heap.size + 1 := by rw [hw0]; simp
  have hb0 : Below w.heap.size w w0 := by rw [hw0]; exact (Below.refl _ _).alloc (Nat.le_refl _) _
  have hrig := right_any (some ⟨w.heap.size, 0, none⟩) 2 _ w0 (by simp) (hsr.more (by omega))
  have HRIG : Hid (Calls Tryd.prog 6 #[.slice (some ⟨w.heap.size, 0, none⟩) 2 2] w0 fun e w' => RigOut e [p, q] w0 w') := Lib.hid hrig
  have H1 := Lib.hid h1
  have H2 := Lib.hid h2
  have HT := Lib.hid ht
  have HB0 := Lib.hid hb0
  have HZ0 := Lib.hid hz0
  have HW0 := Lib.hid hw0
  clear h1 h2 ht hsr hrig e0 hb0 hz0
  go_enter Tryd.func4, Tryd.ntmps4
  go_upto_region 1 with fail
  go_upto_region 2 with (first | (rw [← hw0]; go_at_call 6; refine (HRIG.out).mono ?_; rintro e w' ⟨⟨k, rfl, hk, hk2⟩, rfl⟩) | fail)
  clear hw0
  rw [← HW0.out]
  by_cases hk0 : k = 0
  · have hok := hk.1 hk0
    have p0 : IsPart p ∧ p.sum ≤ 16 := hok 0 (by simp)
    have q0 : IsPart q ∧ q.sum ≤ 16 := hok 1 (by simp)
    obtain ⟨a, rfl, ha⟩ := part_nat p0.1
    obtain ⟨b, rfl, hb⟩ := part_nat q0.1
    have a16 : a.sum ≤ 16 := by have := p0.2; rw [zs_sum] at this; omega
    have b16 : b.sum ≤ 16 := by have := q0.2; rw [zs_sum] at this; omega
    have la := small_len ha a16
    have lb := small_len hb b16
    rw [zs_length, zs_length] at *
    subst hk0
    have HSA := Lib.hid (zsize_any A1 c1 a w0 la a16 (H1.out.keep HB0.out))
    have HSB := Lib.hid (zsize_any A2 c2 b w0 lb b16 (H2.out.keep HB0.out))
    have PA := Lib.hid ha
    have PB := Lib.hid hb
    clear hok p0 q0 hk hk2 HRIG ha hb
    by_cases hs : 16 < a.sum + b.sum
    · have ds : decide ((16 : Int) < (a.sum : Int) + (b.sum : Int)) = true := decide_eq_true (by omega)
      have hno : Hid (¬ ProOk (zs a) (zs b)) := Lib.hid (fun h => by have := h.2.2; rw [zs_sum, zs_sum] at this; omega)
      clear hs
      go_wp2_with (first | (go_at_call_of 7 (Value.slice A1 a.length c1); refine (HSA.out).mono ?_; rintro e w' ⟨rfl, rfl⟩) | (go_at_call_of 7 (Value.slice A2 b.length c2); refine (HSB.out).mono ?_; rintro e w' ⟨rfl, rfl⟩) | fail)
      go_ret2
      exact ⟨⟨none, 0, 0, 2, rfl, ⟨fun h => absurd h (by decide), fun h => absurd h hno.out⟩, fun _ => rfl, fun _ _ _ _ h => absurd h (by decide)⟩, HB0.out⟩
    · have ds : decide ((16 : Int) < (a.sum : Int) + (b.sum : Int)) = false := decide_eq_false (by omega)
      have HALL := Lib.hid (all_any (a.sum + b.sum) w0 (by omega))
      rw [show ((a.sum + b.sum : Nat) : Int) = (a.sum : Int) + (b.sum : Int) by omega] at HALL
      go_upto_region 8 with (first | (go_at_call_of 7 (Value.slice A1 a.length c1); refine (HSA.out).mono ?_; rintro e w' ⟨rfl, rfl⟩) | (go_at_call_of 7 (Value.slice A2 b.length c2); refine (HSB.out).mono ?_; rintro e w' ⟨rfl, rfl⟩) | (go_at_call 8; refine (HALL.out).mono ?_; rintro e w1 ⟨⟨v, hs1, rfl, hm1⟩, hb1⟩; obtain ⟨AA, cA, rfl, hsr1, -, -⟩ := hm1.sr; have HSR1 := Lib.hid hsr1; have HB1 := Lib.hid hb1; clear hm1 hsr1 hb1) | fail)
      have hL : ((allP (a.sum + b.sum)).map zs).length = (allP (a.sum + b.sum)).length := by simp
      clear hL
      obtain ⟨L, hLe⟩ : ∃ L, L = (allP (a.sum + b.sum)).length := ⟨_, rfl⟩
      have hLl : L ≤ 65536 := by rw [hLe]; exact allP_len (by omega)
      have hr1 := HB0.out.size
      have hr2 := HB1.out.size
      have HB01 : Hid (Below w.heap.size w w1) := Lib.hid (HB0.out.trans (HB1.out.mono hr1))
      rw [← hLe]
      have HLE := Lib.hid hLe
      have HNS := Lib.hid hs
      have HS16 : Hid (a.sum + b.sum ≤ 16) := Lib.hid (by show _ ≤ _; omega)
      clear hLe HALL HSA HSB hs ds
      go_upto_region 10 with fail
      go_loopw [10, 12, 13, 14, 36] (fun ov _ _ _ iv wr => ∃ i : Nat, i ≤ L ∧ iv = .int .i64 i ∧ TmS w1 wr ov (tsTo a b i) ∧ Below w1.heap.size w1 wr) (fun _ _ _ _ iv _ => L - (intOf iv).toNat)
      case atStart => exact ⟨0, Nat.zero_le _, rfl, ⟨[], by rw [tsTo_zero]; rfl, by rw [tsTo_zero]; exact World.ownsRow_nil _ _ _ _, fun i h => absurd h (by simp)⟩, Below.refl _ _⟩
      case round =>
        obtain ⟨i, hi, rfl, hts, hbr⟩ := hrel
        obtain ⟨w9, rfl⟩ : ∃ w9, w9 = wr := ⟨_, rfl⟩
        have HTS := Lib.hid hts
        have HBR := Lib.hid hbr
        clear hts hbr
        by_cases hin : i < L
        · have di : decide ((i : Int) < (L : Int)) = true := decide_eq_true (by omega)
          obtain ⟨bA, oA, rfl, hbA⟩ := HSR1.out.addr (by simp; rw [← HLE.out]; omega)
          obtain ⟨Ar, cr, hc, hr, hrl⟩ := HSR1.out.at_ (r := i) (by simp; rw [← HLE.out]; exact hin)
          have hrow : ((allP (a.sum + b.sum)).map zs).getD i [] = zs ((allP (a.sum + b.sum)).getD i []) := by
            simp [show i < (allP (a.sum + b.sum)).length by rw [← HLE.out]; exact hin]
          rw [hrow, zs_length] at hc
          rw [hrow] at hr
          have hmem : (allP (a.sum + b.sum)).getD i [] ∈ allP (a.sum + b.sum) := by
            rw [getD_get (by rw [← HLE.out]; exact hin)]; exact List.getElem_mem _
          have hP := mem_allP.1 hmem
          have hstep : tsTo a b (i + 1) = tsTo a b i ++ (if 0 < num3 a b ((allP (a.sum + b.sum)).getD i []) then [((allP (a.sum + b.sum)).getD i [], num3 a b ((allP (a.sum + b.sum)).getD i []))] else []) := prod_take (by rw [← HLE.out]; exact hin)
          obtain ⟨c, hce⟩ : ∃ c, c = (allP (a.sum + b.sum)).getD i [] := ⟨_, rfl⟩
          rw [← hce] at hc hr hP hstep
          have hcell : w9.cell? ⟨bA, oA + i, none⟩ = some (.slice Ar c.length cr) := (HBR.out.cell (p := ⟨bA, oA + i, none⟩) hbA).trans hc
          have hb9 : Below w.heap.size w w9 := HB01.out.trans (HBR.out.mono (by omega))
          have HNUM := Lib.hid (num_any a b c PA.out PB.out hP.2 a16 b16 (by rw [hP.1]; exact HS16.out) A1 A2 Ar c1 c2 cr w9 (H1.out.keep hb9) (H2.out.keep hb9) (hr.keep HBR.out))
          have hkb : num3 a b c ≤ 20922789888000 := by
            have h1 := num3_le (a := a) (b := b) (c := c)
            have h2 := fac_mono (show b.sum ≤ 16 by omega)
            rw [fac16_eq] at h2
            omega
          obtain ⟨k, hk⟩ : ∃ k, k = num3 a b c := ⟨_, rfl⟩
          rw [← hk] at hstep hkb
          have HK := Lib.hid hk
          have HSTEP := Lib.hid hstep
          have HR := Lib.hid hr
          have HB9 := Lib.hid hb9
          clear hc hr hrow hmem hP hstep hb9 hk hce
          have hs9 := HBR.out.size
          go_upto_region 13 with (first | (go_at_call 9; refine (HNUM.out).mono ?_; rintro e w2 ⟨rfl, hb2⟩; rw [← HK.out]; have HB2 := Lib.hid hb2; clear hb2) | fail)
          by_cases hk0 : 0 < k
          · have dk : decide ((0 : Int) < (k : Int)) = true := decide_eq_true (by omega)
            have hw2 : Below w.heap.size w w2 := HB9.out.trans (HB2.out.mono (by omega))
            have HIT := Lib.hid (itoa_any k (by omega) w2 (tab10_below HT.out hw2))
            have HW2 := Lib.hid hw2
            have hs2 := HB2.out.size
            have HK0 := Lib.hid hk0
            have hlen := tsTo_len (a := a) (b := b) i
            obtain ⟨N, hN⟩ : ∃ N, N = (tsTo a b i).length := ⟨_, rfl⟩
            have HN := Lib.hid hN
            rw [← hN] at hlen
            clear hw2 hk0 hN
            go_wp2_with (first | (go_at_call 10; refine (HIT.out).mono ?_; rintro e w3 ⟨rfl, hb3⟩; obtain ⟨vs, hvl, hvo, hvv⟩ := (HTS.out.below HB2.out).below hb3; rw [← HN.out] at hvo; have hs3 := hb3.size; have HB3 := Lib.hid hb3; have HVL := Lib.hid hvl; have HVO := Lib.hid hvo; have HVV := Lib.hid hvv; clear hb3 hvl hvo hvv) | (at_builtin; refine wpList_appT (base := w1.heap.size) (l := vs) (v := u10) rfl (.tmp 49) (.tmp 54) rfl rfl (.slice Ar c.length cr) rfl (Lib.decDigits k) (n := N) HVO.out w3.heap.size rfl rfl (by omega) (by omega) (fun g cap w5 hl5 hg5 => ?_); have HL5 := Lib.hid hl5; have HG5 := Lib.hid hg5; clear hl5 hg5) | fail)
            go_roundw
            case rel =>
              have hvl := HVL.out
              have hN := HN.out
              refine ⟨i + 1, by omega, by go_num, ⟨vs ++ [(.slice Ar c.length cr, Lib.decDigits k)], ?_, ?_, ?_⟩, ?_⟩
              · rw [HSTEP.out, if_pos HK0.out]; simp [hvl]
              · rw [HSTEP.out, if_pos HK0.out]
                have e : (tsTo a b i ++ [(c, k)]).length = N + 1 := by simp [hN]
                rw [e]; exact HL5.out
              · intro j hj
                rw [HSTEP.out, if_pos HK0.out]
                by_cases hjn : j < vs.length
                · have hv := HVV.out j hjn
                  have e1 : (vs ++ [(Value.slice Ar c.length cr, Lib.decDigits k)])[j] = vs[j] := List.getElem_append_left hjn
                  have e2 : (tsTo a b i ++ [(c, k)]).getD j ([], 0) = (tsTo a b i).getD j ([], 0) := by
                    rw [getD_get (by simp; omega), getD_get (by omega), List.getElem_append_left (by omega)]
                  rw [e1, e2]; exact hv
                · obtain rfl : j = vs.length := by simp at hj; omega
                  have e1 : (vs ++ [(Value.slice Ar c.length cr, Lib.decDigits k)])[vs.length] = (Value.slice Ar c.length cr, Lib.decDigits k) := by simp
                  have e2 : (tsTo a b i ++ [(c, k)]).getD vs.length ([], 0) = (c, k) := by rw [hvl]; simp
                  rw [e1, e2]
                  exact ⟨rfl, Ar, cr, rfl, HR.out⟩
              · exact ((((HBR.out.trans (HB2.out.mono (by omega))).trans (HB3.out.mono (by omega))).alloc (by omega) _).grown HG5.out (by simp; omega) (fun x hx => by
                  have := HVO.out.lt x hx; omega))
            case measure => simp [intOf]; omega
          · have dk : decide ((0 : Int) < (k : Int)) = false := decide_eq_false (by omega)
            have p0 : ¬ 0 < k := hk0
            have HK0 := Lib.hid hk0
            clear hk0
            go_wp2
            go_roundw
            case rel =>
              refine ⟨i + 1, by omega, by go_num, ?_, HBR.out.trans (HB2.out.mono (by omega))⟩
              rw [HSTEP.out, if_neg HK0.out, List.append_nil]
              exact HTS.out.below HB2.out
            case measure => simp [intOf]; omega
        · obtain rfl : i = L := by omega
          have di : decide ((i : Int) < (i : Int)) = false := decide_eq_false (by omega)
          obtain ⟨A, cO, e, htr⟩ := HTS.out.tr HBR.out
          rw [HLE.out, tsTo_all] at htr e
          subst e
          have HTR := Lib.hid htr
          clear htr
          go_wp2
          go_ret2
          refine ⟨⟨A, _, cO, 0, rfl, ⟨fun _ => ⟨zs_part PA.out, zs_part PB.out, by rw [zs_sum, zs_sum]; have := HS16.out; omega⟩, fun _ => rfl⟩, fun h => absurd rfl h, fun a' b' ea eb _ => ?_⟩, HB01.out.trans (HBR.out.mono (by omega))⟩
          obtain rfl := zs_inj ea
          obtain rfl := zs_inj eb
          exact ⟨rfl, HTR.out⟩
  · have d0 : (k != 0) = true := by simpa using hk0
    have HK := Lib.hid hk
    have HK0 := Lib.hid hk0
    clear hk hk2 hk0
    go_wp2
    go_ret2
    refine ⟨⟨none, 0, 0, k, rfl, ⟨fun h => absurd h HK0.out, fun h => ?_⟩, fun _ => rfl, fun a b _ _ h => absurd h HK0.out⟩, HB0.out⟩
    refine absurd (HK.out.2 (fun i hi => ?_)) HK0.out
    have hi2 : i < 2 := by simpa using hi
    match i, hi2 with
    | 0, _ => exact ⟨h.1, by have h2 := sum_nonneg h.2.1.mem; have := h.2.2; show p.sum ≤ 16; omega⟩
    | 1, _ => exact ⟨h.2.1, by have h2 := sum_nonneg h.1.mem; have := h.2.2; show q.sum ≤ 16; omega⟩
end Go.Proofs.YtidnpmkdajicjaaDoor
