/-
  ferkeep.RuleBrackets, walked: whatever the three lists, it answers true.
-/
import Derived.Test.YtidnpmkdajicjaaDoorTimW
import Derived.Test.YtidnpmkdajicjaaDoorBrkM
import Derived.Maps.OwnSet
namespace Go.Proofs.YtidnpmkdajicjaaDoor
open Go.RowKit Go.Proofs Go.Maps LR

theorem TR.keep {w w' : World} {A : Option Addr} {ts : List (List Nat × Nat)} (h : TR w w.heap.size A ts) (hb : Below w.heap.size w w') : TR w' w'.heap.size A ts := by
  obtain ⟨vs, hl, hs, hv⟩ := h
  exact ⟨vs, hl, hs.keep hb, fun i hi => by
    obtain ⟨g1, Ai, ci, g2, g3⟩ := hv i hi
    exact ⟨g1, Ai, ci, g2, g3.keep hb⟩⟩
theorem one_part : Pn [1] := ⟨by simp, by simp⟩
set_option maxRecDepth 100000 in
theorem one_one : (prodT [1] [1]).length = 2 := by decide
theorem tsOk_prod {a b : List Nat} (ha : Pn a) (hb : Pn b) (h16 : a.sum + b.sum ≤ 16) : TsOk (prodT a b) (a.sum + b.sum) b.sum := by
  refine ⟨fun t ht => ?_, ?_, ?_, h16⟩
  · have h := prodT_mem ht
    have hp := mem_allP.1 h.1
    exact ⟨hp.2, hp.1, h.2.2, by rw [h.2.1]; exact num3_le⟩
  · intro e
    obtain ⟨p, hp, h⟩ := some_in ha hb h16
    have : (p, num3 a b p) ∈ prodT a b := List.mem_filter.2 ⟨List.mem_map.2 ⟨p, hp, rfl⟩, decide_eq_true h⟩
    rw [e] at this; cases this
  · unfold prodT
    refine Nat.le_trans (List.length_filter_le _ _) ?_
    rw [List.length_map]; exact allP_len h16
theorem contrib_pos {a b c : List Nat} : ∀ x ∈ contrib (prodT a b) c, 0 < x.2 := fun _ hx => (contrib_key hx).2

set_option maxRecDepth 100000 in
set_option maxHeartbeats 4000000 in
theorem brackets_law (p q r : List Int) (A1 A2 A3 : Option Addr) (c1 c2 c3 : Nat) (w : World) (ht : Tab10 w) (hl1 : p.length ≤ 9223372036854775807) (hl2 : q.length ≤ 9223372036854775807) (hl3 : r.length ≤ 9223372036854775807)
    (h1 : Sl w w.heap.size A1 (ints p)) (h2 : Sl w w.heap.size A2 (ints q)) (h3 : Sl w w.heap.size A3 (ints r)) :
    Calls Tryd.prog 3 #[.slice A1 p.length c1, .slice A2 q.length c2, .slice A3 r.length c3] w fun e w' => e = .returned (.bool true) ∧ Below w.heap.size w w' := by
  obtain ⟨w0, hw0⟩ : ∃ w0, w0 = (w.alloc (.cells #[.int .i64 1] 3)).alloc (.cells #[.int .i64 1] 3) := ⟨_, rfl⟩
  have hb0 : Below w.heap.size w w0 := by rw [hw0]; exact ((Below.refl _ _).alloc (Nat.le_refl _) _).alloc (by simp) _
  have hs1 : Sl w0 w0.heap.size (some ⟨w.heap.size, 0, none⟩) (ints (zs [1])) := fun _ => ⟨_, _, rfl, by rw [hw0]; simp; omega, fun k u hk => by
    rw [hw0, World.cell?_of_block (heap_alloc_old _ _ (by simp)), World.cell?_alloc_at _ _ _ _ rfl]
    simpa [ints, zs] using hk⟩
  have hs2 : Sl w0 w0.heap.size (some ⟨w.heap.size + 1, 0, none⟩) (ints (zs [1])) := fun _ => ⟨_, _, rfl, by rw [hw0]; simp, fun k u hk => by
    rw [hw0, World.cell?_alloc_at _ _ _ _ (by simp)]
    simpa [ints, zs] using hk⟩
  have hp0 := product_any (zs [1]) (zs [1]) (some ⟨w.heap.size, 0, none⟩) (some ⟨w.heap.size + 1, 0, none⟩) 1 1 w0 (tab10_below ht hb0) (by simp [zs]) (by simp [zs]) hs1 hs2
  have hp1 : Calls Tryd.prog 4 #[.slice (some ⟨w.heap.size, 0, none⟩) 1 1, .slice (some ⟨w.heap.size + 1, 0, none⟩) 1 1] w0 fun e w' => (∃ (A : Option Addr) (c : Nat), e = .returned (.tuple #[.slice A 2 c, .int .i64 0])) ∧ Below w0.heap.size w0 w' := by
    refine Calls.mono hp0 ?_
    rintro e w' ⟨⟨A, n, c, k, rfl, hk, _, hts⟩, hb⟩
    have hk0 : k = 0 := hk.2 ⟨zs_part one_part, zs_part one_part, by decide⟩
    have := (hts _ _ rfl rfl hk0).1
    rw [one_one] at this
    exact ⟨⟨A, c, by rw [this, hk0]⟩, hb⟩
  have HP1 := Lib.hid hp1
  have HT := Lib.hid ht
  have H1 := Lib.hid h1
  have H2 := Lib.hid h2
  have H3 := Lib.hid h3
  have HB0 := Lib.hid hb0
  have HW0 := Lib.hid hw0
  clear hp0 hp1 ht h1 h2 h3 hb0 hs1 hs2
  go_enter Tryd.func3, Tryd.ntmps3
  go_upto_region 2 with (first | (rw [← hw0]; go_at_call 4; refine (HP1.out).mono ?_; rintro e w1 ⟨⟨Al, cl, rfl⟩, hb1⟩; have HB1 : Hid (Below w.heap.size w w1) := Lib.hid (HB0.out.trans (hb1.mono HB0.out.size)); clear hb1) | fail)
  clear hw0
  have HPA := Lib.hid (product_any p q A1 A2 c1 c2 w1 (tab10_below HT.out HB1.out) hl1 hl2 (H1.out.keep HB1.out) (H2.out.keep HB1.out))
  go_upto_region 5 with (first | (go_at_call 4; refine (HPA.out).mono ?_; rintro e w2 ⟨⟨AL, nL, cL, k, rfl, hk, hkn, hts⟩, hb2⟩; have HB2 : Hid (Below w.heap.size w w2) := Lib.hid (HB1.out.trans (hb2.mono HB1.out.size)); have HK := Lib.hid hk; have HKN := Lib.hid hkn; have HTS := Lib.hid hts; clear hb2 hk hkn hts) | fail)
  have HPB := Lib.hid (product_any q r A2 A3 c2 c3 w2 (tab10_below HT.out HB2.out) hl2 hl3 (H2.out.keep HB2.out) (H3.out.keep HB2.out))
  go_upto_region 6 with (first | (go_at_call 4; refine (HPB.out).mono ?_; rintro e w3 ⟨⟨AM, nM, cM, k2, rfl, hk2, hkn2, hts2⟩, hb3⟩; have HB23 := Lib.hid hb3; have HB3 : Hid (Below w.heap.size w w3) := Lib.hid (HB2.out.trans (hb3.mono HB2.out.size)); have HK2 := Lib.hid hk2; have HTS2 := Lib.hid hts2; clear hb3 hk2 hkn2 hts2) | fail)
  clear HPA HPB HP1
  by_cases hk0 : k = 0
  · by_cases hk20 : k2 = 0
    · have ok1 := HK.out.1 hk0
      have ok2 := HK2.out.1 hk20
      obtain ⟨a, rfl, ha⟩ := part_nat ok1.1
      obtain ⟨b, rfl, hb⟩ := part_nat ok1.2.1
      obtain ⟨c, rfl, hc⟩ := part_nat ok2.2.1
      have s1 := ok1.2.2
      have s2 := ok2.2.2
      rw [zs_sum, zs_sum] at s1 s2
      obtain ⟨rfl, tr1⟩ := HTS.out a b rfl rfl hk0
      obtain ⟨rfl, tr2⟩ := HTS2.out b c rfl rfl hk20
      subst hk0
      subst hk20
      have hT1 := times_any (prodT a b) (a.sum + b.sum) b.sum c AL A3 cL c3 w3 (tab10_below HT.out HB3.out) (tsOk_prod ha hb (by omega)) (by omega) hc (by omega) (tr1.keep HB23.out) (H3.out.keep HB3.out)
      rw [zs_length, zs_length, zs_length] at *
      have HT1 := Lib.hid hT1
      have PA := Lib.hid ha
      have PB := Lib.hid hb
      have PC := Lib.hid hc
      have TR2 := Lib.hid tr2
      clear hT1 ha hb hc tr1 tr2 ok1 ok2 HK HK2 HTS HTS2 HKN
      by_cases hs : a.sum + b.sum + c.sum ≤ 16
      · go_upto_region 9 with (first | (go_at_call 5; refine (HT1.out).mono ?_; rintro e w4 ⟨ht4, hb4⟩; obtain ⟨m1, n1, D1, rfl, hm1, hown1, hn1, hsum1⟩ := ht4.1 hs; clear ht4) | fail)
        have HB4 : Hid (Below w.heap.size w w4) := Lib.hid (HB3.out.trans (hb4.mono HB3.out.size))
        have HT2 := Lib.hid (times_any (prodT b c) (b.sum + c.sum) c.sum a AM A1 cM c1 w4 (tab10_below HT.out HB4.out) (tsOk_prod PB.out PC.out (by omega)) (by omega) PA.out (by omega) (TR2.out.keep hb4) (H1.out.keep HB4.out))
        clear hb4 HT1
        go_upto_region 10 with (first | (go_at_call 5; refine (HT2.out).mono ?_; rintro e w5 ⟨ht5, hb5⟩; obtain ⟨m2, n2, D2, rfl, hm2, hown2, hn2, hsum2⟩ := ht5.1 (by omega); clear ht5) | fail)
        have hown15 := mapE_below hown1 hb5 hown1.lt
        have hsame := sums_same PA.out PB.out PC.out hs
        have HB5 : Hid (Below w.heap.size w w5) := Lib.hid (HB4.out.trans (hb5.mono HB4.out.size))
        have hsize : size D1 = size D2 := size_same hsum1.tidy hsum2.tidy (has_same hsum1 hsum2 contrib_pos contrib_pos hsame)
          (fun es he p hp => by
            obtain ⟨es', e1, _, h3⟩ := hown15.entries law_str
            rw [he] at e1
            cases e1
            exact h3 p hp)
          (fun es he p hp => by
            obtain ⟨es', e1, _, h3⟩ := hown2.entries law_str
            rw [he] at e1
            cases e1
            exact h3 p hp)
        have HO1 := Lib.hid hown15
        have HO2 := Lib.hid hown2
        have HS1 := Lib.hid hsum1
        have HS2 := Lib.hid hsum2
        have HSAME := Lib.hid hsame
        have HSIZE := Lib.hid hsize
        have hn12 : m2 < w5.heap.size := hown2.lt
        clear hb5 hown1 hown15 hown2 hsum1 hsum2 hsame hsize hm1 hm2 hn1 hn2
        go_upto_region 12 with fail
        go_wp2_with (first | (at_range; refine wpList_range_own _ rfl _ 27 rfl 9 3 law_str Tryd.underlying27 _ m1 n1 _ rfl HO1.out ?_; intro w6 hrg0 hg0 hs0; have HRG0 := Lib.hid hrg0; have HG0 := Lib.hid hg0; clear hrg0 hg0) | fail)
        go_frame
        have dsz : ((size D1 : Int) == (size D2 : Int)) = true := by rw [HSIZE.out]; simp
        go_loopw [17] (fun _ wr => ∃ (left : Lit → Bool) (cnt : Nat), wr.ranges Tryd.prog 9 (plainElem (H := Unit) Tryd.prog 3) m1 w5.heap.size n1 D1 left cnt ∧ w5.grownBy wr none) (fun _ wr => wr.rangeLeft m1 w5.heap.size)
        case atStart => exact ⟨_, _, HRG0.out, HG0.out⟩
        case round =>
          obtain ⟨left, cnt, hrg, hgw⟩ := hrel
          obtain ⟨w9, rfl⟩ : ∃ w9, w9 = wr := ⟨_, rfl⟩
          have HRG := Lib.hid hrg
          have HGW := Lib.hid hgw
          have ho2 := HO2.out.kept hgw (by simp)
          have HO29 := Lib.hid ho2
          clear hrg hgw ho2 HRG0 HG0
          go_wp2_with (first | (at_next; refine wpList_next_ranges (α := List UInt8) (β := Int) _ rfl _ rfl 9 law_str (plainElem Tryd.prog 3) (fun l => .string ⟨l.toArray⟩) (Value.int .i64) (fun key kl h => by obtain ⟨s, rfl, _, _⟩ := Go.WideMaps.string_of_keyOf Tryd.underlying9 h; exact ⟨s.data.toList, by simp⟩) (fun v y hv => by obtain ⟨c, rfl, _⟩ := plainElem_int_inv Tryd.underlying3 hv; exact ⟨c, rfl⟩) m1 w5.heap.size n1 _ _ _ rfl HRG.out ?_ ?_) | fail)
          · intro _ hl0
            have HOW := Lib.hid HRG.out.owns
            go_wp2_with (first | (at_len; refine wpList_len_own _ rfl _ 27 rfl 9 3 Tryd.underlying27 _ m1 n1 D1 rfl HOW.out ?_) | (at_len; refine wpList_len_own _ rfl _ 27 rfl 9 3 Tryd.underlying27 _ m2 n2 D2 rfl HO29.out ?_) | fail)
            go_ret
            exact ⟨rfl, HB5.out.grown HGW.out HB5.out.size (fun k h => by cases h)⟩
          · intro x c' kl y ps w7 cnt1 hkey hlk hv hat hrg1 hlt hg1 hs1 hen
            obtain ⟨s, es, ekl, _⟩ := Go.WideMaps.string_of_keyOf Tryd.underlying9 hkey
            have es2 : s.data.toList = x := by
              injection es with e
              rw [← e]
            rw [es2] at ekl
            subst ekl
            obtain ⟨a', ea, ey, _⟩ := plainElem_int_inv Tryd.underlying3 hv
            have ea2 : c' = a' := by injection ea
            have hc1 : c' = (gsum (contrib (prodT a b) c) x : Int) := by
              have h1 := hat (.lit (.int .i64 0))
              have ey2 : y = .lit (.int .i64 a') := congrArg Prod.fst ey
              rw [ey2, HS1.out.at_ x] at h1
              injection h1 with e1
              injection e1 with _ e2
              rw [ea2, e2]
            have HL2 : Hid (∀ z : Int, D2.atKey (.string x) (.lit (.int .i64 0)) = .lit (.int .i64 z) → z = c') := Lib.hid (fun z hz => by
              rw [HS2.out.at_ x] at hz
              injection hz with e1
              injection e1 with _ e2
              rw [hc1, HSAME.out x, e2])
            have HKEY := Lib.hid hkey
            have ho7 := HO29.out.kept hg1 (fun e => by have := Option.some.inj e; omega)
            have HO7 := Lib.hid ho7
            have HR1 := Lib.hid hrg1
            have HG1 := Lib.hid hg1
            have HLT := Lib.hid hlt
            have dne : (c' != c') = false := by simp
            clear hkey hlk hv hat hrg1 hlt hg1 es es2 ey ea ea2 hc1 ho7
            go_wp2_with (first | (at_lookup; refine wpList_lookup_own_int _ rfl _ _ 27 rfl 9 3 .i64 law_str Tryd.underlying27 Tryd.underlying3 (zero_intE _) m2 n2 _ rfl HO7.out _ _ rfl HKEY.out ?_; intro z hat hwc; obtain rfl := HL2.out z hat; clear hat hwc) | fail)
            go_roundw
            case rel => exact ⟨_, cnt1, HR1.out, HGW.out.andThen HG1.out (fun j hj => by cases hj; exact .inl (Nat.le_refl _))⟩
            case measure => rw [HR1.out.left_eq, HRG.out.left_eq]; exact HLT.out
      · go_upto_region 9 with (first | (go_at_call 5; refine (HT1.out).mono ?_; rintro e w4 ⟨ht4, hb4⟩; obtain rfl := ht4.2 hs; clear ht4) | fail)
        have HB4 : Hid (Below w.heap.size w w4) := Lib.hid (HB3.out.trans (hb4.mono HB3.out.size))
        have HT2 := Lib.hid (times_any (prodT b c) (b.sum + c.sum) c.sum a AM A1 cM c1 w4 (tab10_below HT.out HB4.out) (tsOk_prod PB.out PC.out (by omega)) (by omega) PA.out (by omega) (TR2.out.keep hb4) (H1.out.keep HB4.out))
        clear hb4 HT1
        go_upto_region 10 with (first | (go_at_call 5; refine (HT2.out).mono ?_; rintro e w5 ⟨ht5, hb5⟩; obtain rfl := ht5.2 (by omega); clear ht5) | fail)
        have HB5 : Hid (Below w.heap.size w w5) := Lib.hid (HB4.out.trans (hb5.mono HB4.out.size))
        have hrg := run_range_nilMap (P := Tryd.prog) w5 27 9 3 Tryd.underlying27
        have hnx : ∀ ty, (Instr.next (.pointer (some ⟨w5.heap.size, 0, none⟩)) false ty).run Tryd.prog (w5.alloc (.mapIter none 0 #[] 0)) = _ := fun ty => run_next_nilMap w5 ty 0 0 #[]
        clear hb5 HT2
        go_upto_region 12 with fail
        go_wp2
        refine wp_loop_rounds 1 ?_
        rw [rounds_succ]
        go_wp2
        go_ret
        exact ⟨rfl, HB5.out.alloc HB5.out.size _⟩
    · have d0 : (k2 != 0) = true := by simpa using hk20
      subst hk0
      have HK20 := Lib.hid hk20
      clear hk20
      go_wp2
      go_ret
      exact ⟨rfl, HB3.out⟩
  · have d0 : (k != 0) = true := by simpa using hk0
    have d1 : (k == 0) = false := by simpa using hk0
    have hn0 := HKN.out hk0
    subst hn0
    have HK0 := Lib.hid hk0
    clear hk0
    go_wp2
    go_ret
    exact ⟨rfl, HB3.out⟩
end Go.Proofs.YtidnpmkdajicjaaDoor
