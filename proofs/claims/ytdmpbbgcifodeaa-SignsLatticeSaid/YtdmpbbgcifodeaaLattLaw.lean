/-
  SignsLattice: the law, walked.
-/
import Derived.Test.YtdmpbbgcifodeaaSign7W
namespace Go.Proofs.Ytdmpbbgcifodeaa
open Go.RowKit

theorem sr_heap {W : World} {B g g1 g2 : Nat} (r1 r2 : List Int) (h : W.heap[g]? = some (.cells #[.slice (some ⟨g1, 0, none⟩) r1.length r1.length, .slice (some ⟨g2, 0, none⟩) r2.length r2.length] 22))
    (h1 : W.heap[g1]? = some (.cells (ints r1).toArray 3)) (h2 : W.heap[g2]? = some (.cells (ints r2).toArray 3)) (hg : g < B) (hg1 : g1 < B) (hg2 : g2 < B) (l1 : r1.length ≤ 1000) (l2 : r2.length ≤ 1000) : SR W B (some ⟨g, 0, none⟩) [r1, r2] := by
  have row : ∀ (k : Nat) (r : List Int), W.heap[k]? = some (.cells (ints r).toArray 3) → k < B → Sl W B (some ⟨k, 0, none⟩) (ints r) := fun k r hk hkB _ => ⟨k, 0, rfl, hkB, fun j u hu => by
    rw [Nat.zero_add, cell_of_row W k j _ _ _ hk]; simpa using hu⟩
  refine ⟨[.slice (some ⟨g1, 0, none⟩) r1.length r1.length, .slice (some ⟨g2, 0, none⟩) r2.length r2.length], rfl, fun _ => ⟨g, 0, rfl, hg, fun j u hu => ?_⟩, fun r hr => ?_⟩
  · rw [Nat.zero_add, cell_of_row W g j _ _ _ h]; simpa using hu
  · match r, hr with
    | 0, _ => exact ⟨_, _, rfl, row g1 r1 h1 hg1, by simp; omega⟩
    | 1, _ => exact ⟨_, _, rfl, row g2 r2 h2 hg2, by simp; omega⟩

/-- '[][]int{r1, r2}' laid. -/
def litW (w : World) (r1 r2 : List Int) (N : Nat) : World :=
  ((w.alloc (.cells (ints r1).toArray 3)).alloc (.cells (ints r2).toArray 3)).alloc (.cells #[.slice (some ⟨N, 0, none⟩) r1.length r1.length, .slice (some ⟨N + 1, 0, none⟩) r2.length r2.length] 22)
theorem litW_size (w : World) (r1 r2 : List Int) (N : Nat) : (litW w r1 r2 N).heap.size = w.heap.size + 3 := by simp [litW]
theorem litW_sr (w : World) (r1 r2 : List Int) (N : Nat) (hN : N = w.heap.size) (l1 : r1.length ≤ 1000) (l2 : r2.length ≤ 1000) : SR (litW w r1 r2 N) (litW w r1 r2 N).heap.size (some ⟨N + 2, 0, none⟩) [r1, r2] := by
  subst hN
  have hs := litW_size w r1 r2 w.heap.size
  have a1 : (w.alloc (.cells (ints r1).toArray 3)).heap.size = w.heap.size + 1 := by simp
  have a2 : ((w.alloc (.cells (ints r1).toArray 3)).alloc (.cells (ints r2).toArray 3)).heap.size = w.heap.size + 2 := by simp
  have h0 := heap_alloc_new w (.cells (ints r1).toArray 3)
  have h1 := heap_alloc_new (w.alloc (.cells (ints r1).toArray 3)) (.cells (ints r2).toArray 3)
  have h2 := heap_alloc_new ((w.alloc (.cells (ints r1).toArray 3)).alloc (.cells (ints r2).toArray 3)) (.cells #[.slice (some ⟨w.heap.size, 0, none⟩) r1.length r1.length, .slice (some ⟨w.heap.size + 1, 0, none⟩) r2.length r2.length] 22)
  rw [a1] at h1
  rw [a2] at h2
  refine sr_heap r1 r2 h2 ?_ ?_ (by omega) (by omega) (by omega) l1 l2
  · exact (heap_alloc_old _ _ (by omega)).trans ((heap_alloc_old _ _ (by omega)).trans h0)
  · exact (heap_alloc_old _ _ (by omega)).trans h1
theorem litW_below {B : Nat} {w0 w : World} (h : Below B w0 w) (hB : B ≤ w.heap.size) (r1 r2 : List Int) (N : Nat) : Below B w0 (litW w r1 r2 N) :=
  ((h.alloc hB _).alloc (by simp; omega) _).alloc (by simp; omega) _

theorem ok_two (m : List (List Int)) (hm : m = [[1, 0], [0, 1]] ∨ m = [[0, 1], [1, 0]]) : SignOk m := by
  have key : ∀ m : List (List Int), m = [[1, 0], [0, 1]] ∨ m = [[0, 1], [1, 0]] → IsSign m 2 := fun m hm => by
    refine ⟨?_, by decide, fun i j hi hj => ?_, fun i hi => ?_, fun i j hi hj => ?_, fun j hj => ?_⟩
    · rcases hm with rfl | rfl <;> exact ⟨rfl, by decide⟩
    · match i, j, hi, hj with
      | 0, 0, _, _ => rcases hm with rfl | rfl <;> decide
      | 0, 1, _, _ => rcases hm with rfl | rfl <;> decide
      | 0, 2, _, _ => rcases hm with rfl | rfl <;> decide
      | 1, 0, _, _ => rcases hm with rfl | rfl <;> decide
      | 1, 1, _, _ => rcases hm with rfl | rfl <;> decide
      | 1, 2, _, _ => rcases hm with rfl | rfl <;> decide
      | i + 2, _, hi, _ => omega
      | 0, j + 3, _, hj => omega
      | 1, j + 3, _, hj => omega
    · match i, hi with
      | 0, _ => rcases hm with rfl | rfl <;> decide
      | 1, _ => rcases hm with rfl | rfl <;> decide
      | i + 2, hi => omega
    · match i, j, hi, hj with
      | 0, 0, _, _ => rcases hm with rfl | rfl <;> decide
      | 1, 0, _, _ => rcases hm with rfl | rfl <;> decide
      | 2, 0, _, _ => rcases hm with rfl | rfl <;> decide
      | 0, 1, _, _ => rcases hm with rfl | rfl <;> decide
      | 1, 1, _, _ => rcases hm with rfl | rfl <;> decide
      | 2, 1, _, _ => rcases hm with rfl | rfl <;> decide
      | i + 3, _, hi, _ => omega
      | 0, j + 2, _, hj => omega
      | 1, j + 2, _, hj => omega
      | 2, j + 2, _, hj => omega
    · match j, hj with
      | 0, _ => rcases hm with rfl | rfl <;> decide
      | 1, _ => rcases hm with rfl | rfl <;> decide
      | j + 2, hj => omega
  have hl : m.length = 2 := by rcases hm with rfl | rfl <;> rfl
  refine ⟨by omega, ?_⟩
  rw [hl]
  exact key m hm
theorem meet_two : meetOf 2 [[1, 0], [0, 1]] [[0, 1], [1, 0]] = [[1, 0], [0, 1]] := by decide

theorem PairChk.zero {a b : List (List Int)} {k : Int} (h : PairChk a b k) (ha : SignOk a) (hb : SignOk b) (hl : a.length = b.length) : k = 0 := h.1.2 ⟨ha, hb, hl⟩
theorem ChkSign.zero {a : List (List Int)} {k : Int} (h : ChkSign a k) (ha : SignOk a) : k = 0 := by
  rcases h with ⟨_, e⟩ | ⟨e, _⟩
  · exact e
  · exact absurd ha e
theorem ChkSign.uniq {a : List (List Int)} {k l : Int} (h : ChkSign a k) (h' : ChkSign a l) : k = l := by
  rcases h with ⟨h1, e⟩ | ⟨h1, e⟩ <;> rcases h' with ⟨h2, e'⟩ | ⟨h2, e'⟩
  · rw [e, e']
  · exact absurd h1 h2
  · exact absurd h2 h1
  · rw [e, e']

set_option maxRecDepth 100000 in
set_option maxHeartbeats 8000000 in
theorem lattice_law (A B C : Option Addr) (ca cb cc : Nat) (a b c : List (List Int)) (w : World) (hla : a.length ≤ 9223372036854775807) (hlb : b.length ≤ 9223372036854775807) (hlc : c.length ≤ 9223372036854775807)
    (ha : SR w w.heap.size A a) (hb : SR w w.heap.size B b) (hc : SR w w.heap.size C c) :
    Calls Try.prog 7 #[.slice A a.length ca, .slice B b.length cb, .slice C c.length cc] w fun e w' => e = .returned (.bool true) ∧ Below w.heap.size w w' := by
  have hB := Nat.le_refl w.heap.size
  have s1 := litW_size w [1, 0] [0, 1] w.heap.size
  have g1 := litW_sr w [1, 0] [0, 1] w.heap.size rfl (by decide) (by decide)
  have g2 := litW_sr (litW w [1, 0] [0, 1] w.heap.size) [0, 1] [1, 0] (w.heap.size + 3) s1.symm (by decide) (by decide)
  have g1' := g1.keep (litW_below (Below.refl _ _) (Nat.le_refl _) [0, 1] [1, 0] (w.heap.size + 3))
  have hW0 : Below w.heap.size w (litW (litW w [1, 0] [0, 1] w.heap.size) [0, 1] [1, 0] (w.heap.size + 3)) := litW_below (litW_below (Below.refl _ _) hB _ _ _) (by omega) _ _ _
  have hm0 := meet_any (some ⟨w.heap.size + 2, 0, none⟩) (some ⟨w.heap.size + 5, 0, none⟩) 2 2 [[1, 0], [0, 1]] [[0, 1], [1, 0]] _ (by simp) (by simp) g1' g2
  have HM0 := Lib.hid hm0
  have HW0 := Lib.hid hW0
  clear s1 g1 g2 g1' hm0 hW0
  go_enter Try.func7, Try.ntmps7
  go_wp2_with fail
  refine HM0.out.mono ?_
  rintro e w1 ⟨⟨k, rows, ⟨A1, c1, rfl, hs1, hl1⟩, hk, _, hr⟩, hb1⟩
  have hk0 : k = 0 := hk.zero (ok_two _ (.inl rfl)) (ok_two _ (.inr rfl)) rfl
  have hrr : rows = [[1, 0], [0, 1]] := (hr hk0).trans meet_two
  subst hk0 hrr
  have hW1 : Below w.heap.size w w1 := below_call HW0.out hB hb1
  clear hk hr hb1 hl1
  have s1 := litW_size w1 [1, 0] [0, 1] w1.heap.size
  have g1 := litW_sr w1 [1, 0] [0, 1] w1.heap.size rfl (by decide) (by decide)
  have hs1' := hs1.keep (litW_below (Below.refl _ _) (Nat.le_refl _) [1, 0] [0, 1] w1.heap.size)
  have hr0 := rows_any A1 (some ⟨w1.heap.size + 2, 0, none⟩) c1 2 [[1, 0], [0, 1]] [[1, 0], [0, 1]] _ (by simp) (by simp) hs1' g1
  have HR0 := Lib.hid hr0
  have HW1 := Lib.hid (litW_below hW1 hW1.size [1, 0] [0, 1] w1.heap.size)
  clear s1 g1 hs1' hr0 hs1 hW1
  go_wp2_with fail
  refine HR0.out.mono ?_
  rintro e w2 ⟨rfl, hb2⟩
  have hW2 : Below w.heap.size w w2 := below_call HW1.out hB hb2
  clear hb2
  simp only [decide_true]
  go_wp2_with fail
  refine (corn_any A ca a w2 hla (ha.now hW2 hB)).mono ?_
  rintro e w3 ⟨⟨k, x, ⟨Ax, cx, rfl, hx, hlx⟩, hk, hk1, hk2⟩, hb3⟩
  have hW3 : Below w.heap.size w w3 := below_call hW2 hB hb3
  clear hb3 hW2
  go_wp2_with fail
  refine (tri_any A ca a w3 hla (ha.now hW3 hB)).mono ?_
  rintro e w4 ⟨⟨l, y, ⟨Ay, cy, rfl, hy, hly⟩, hl, hl1, hl2⟩, hb4⟩
  have hW4 : Below w.heap.size w w4 := below_call hW3 hB hb4
  have hx := hx.keep hb4
  clear hb4 hW3
  have hlk : l = k := hl.uniq hk
  subst hlk
  by_cases hl0 : l = 0
  · have hok : SignOk a := by
      rcases hk with ⟨e, _⟩ | ⟨_, e⟩
      · exact e
      · rw [hl0] at e; cases e
    have hxx := hk2 hl0
    have hyy := hl2 hl0
    subst hl0 hxx hyy
    have HA := Lib.hid hok
    clear hk hk1 hk2 hl hl1 hl2 hok hlx hly
    as_aux_lemma =>
      have hfc := fromcorner_any Ax cx a.length a w4 HA.out rfl hx
      rw [← cornTo_length a (a.length + 1)] at hfc
      have HFC := Lib.hid hfc
      clear hfc
      go_wp2_with fail
      refine HFC.out.mono ?_
      rintro e w5 ⟨⟨Au, cu, rfl, hu, _⟩, hb5⟩
      have hW5 : Below w.heap.size w w5 := below_call hW4 hB hb5
      have hx := hx.keep hb5
      have hy := hy.keep hb5
      clear hb5 hW4
      have hft := fromtri_any Ay cy a.length a w5 HA.out rfl hy
      have hyl : (triOf a a.length).length = a.length := triOf_length _ _
      rw [hyl]
      have HFT := Lib.hid hft
      clear hft hyl
      go_wp2_with fail
      refine HFT.out.mono ?_
      rintro e w6 ⟨⟨Av, cv, rfl, hv, _⟩, hb6⟩
      have hW6 : Below w.heap.size w w6 := below_call hW5 hB hb6
      have hx := hx.keep hb6
      have hy := hy.keep hb6
      have hu := hu.keep hb6
      clear hb6 hW5
      clear hx hy
      go_wp2_with fail
      refine (rows_any Au A cu ca a a w6 hla hla hu (ha.now hW6 hB)).mono ?_
      rintro e w7 ⟨rfl, hb7⟩
      have hW7 : Below w.heap.size w w7 := below_call hW6 hB hb7
      have hu := hu.keep hb7
      have hv := hv.keep hb7
      clear hb7 hW6
      simp only [decide_true]
      clear hu
      as_aux_lemma =>
        go_wp2_with fail
        refine (rows_any Av A cv ca a a w7 hla hla hv (ha.now hW7 hB)).mono ?_
        rintro e w8 ⟨rfl, hb8⟩
        have hW8 : Below w.heap.size w w8 := below_call hW7 hB hb8
        have hv := hv.keep hb8
        clear hb8 hW7
        simp only [decide_true]
        clear hv
        as_aux_lemma =>
          go_wp2_with fail
          refine (meet_any A B ca cb a b w8 hla hlb (ha.now hW8 hB) (hb.now hW8 hB)).mono ?_
          rintro e w9 ⟨⟨k, m, ⟨Am, cm, rfl, hm, hlm⟩, hk, hk1, hk2⟩, hb9⟩
          have hW9 : Below w.heap.size w w9 := below_call hW8 hB hb9
          clear hb9 hW8
          go_wp2_with fail
          refine (join_any A B ca cb a b w9 hla hlb (ha.now hW9 hB) (hb.now hW9 hB)).mono ?_
          rintro e w10 ⟨⟨l, j, ⟨Aj, cj, rfl, hj, hlj⟩, hl, hl1, hl2⟩, hb10⟩
          have hW10 : Below w.heap.size w w10 := below_call hW9 hB hb10
          have hm := hm.keep hb10
          clear hb10 hW9
          have hlk : l = k := hl.uniq hk
          subst hlk
          by_cases hl0 : l = 0
          · obtain ⟨_, hokb, hab⟩ := hk.1.1 hl0
            have hmm := hk2 hl0
            have hjj := hl2 hl0
            subst hl0
            have HB := Lib.hid hokb
            have HAB := Lib.hid hab
            have hbs : IsSign b a.length := by rw [hab]; exact hokb.2
            have hms := meet_sign HA.out.2 hbs
            have hjs := join_sign HA.out.2 hbs
            rw [← hmm] at hms
            rw [← hjj] at hjs
            have hml : m.length = a.length := hms.sq.1
            have hjl : j.length = a.length := hjs.sq.1
            have hmok : SignOk m := ⟨by rw [hml]; exact HA.out.1, by rw [hml]; exact hms⟩
            have hjok : SignOk j := ⟨by rw [hjl]; exact HA.out.1, by rw [hjl]; exact hjs⟩
            have HBS := Lib.hid hbs
            have HMM := Lib.hid hmm
            have HJJ := Lib.hid hjj
            have HML := Lib.hid hml
            have HJL := Lib.hid hjl
            have HMOK := Lib.hid hmok
            have HJOK := Lib.hid hjok
            clear hk hk1 hk2 hl hl1 hl2 hokb hab hbs hms hjs hmm hjj hml hjl hmok hjok
            as_aux_lemma =>
              go_wp2_with fail
              refine (sbelow_any Am A cm ca m a w10 hlm hla hm (ha.now hW10 hB)).mono ?_
              rintro e w11 ⟨⟨t1, k1, rfl, hk, hk1, hk2⟩, hb11⟩
              have hW11 : Below w.heap.size w w11 := below_call hW10 hB hb11
              have hm := hm.keep hb11
              have hj := hj.keep hb11
              clear hb11 hW10
              have hk0 : k1 = 0 := hk.zero HMOK.out HA.out HML.out
              have ht : t1 = true := (hk2 hk0).2 (by rw [HML.out, HMM.out]; exact (meet_ge HA.out.2 HBS.out).1)
              subst hk0 ht
              clear hk hk1 hk2
              go_wp2_with fail
              refine (sbelow_any Am B cm cb m b w11 hlm hlb hm (hb.now hW11 hB)).mono ?_
              rintro e w12 ⟨⟨t2, k2, rfl, hk, hk1, hk2⟩, hb12⟩
              have hW12 : Below w.heap.size w w12 := below_call hW11 hB hb12
              have hm := hm.keep hb12
              have hj := hj.keep hb12
              clear hb12 hW11
              have hk0 : k2 = 0 := hk.zero HMOK.out HB.out (HML.out.trans HAB.out)
              have ht : t2 = true := (hk2 hk0).2 (by rw [HML.out, HMM.out]; exact (meet_ge HA.out.2 HBS.out).2)
              subst hk0 ht
              clear hk hk1 hk2
              as_aux_lemma =>
                go_wp2_with fail
                refine (sbelow_any A Aj ca cj a j w12 hla hlj (ha.now hW12 hB) hj).mono ?_
                rintro e w13 ⟨⟨t3, k3, rfl, hk, hk1, hk2⟩, hb13⟩
                have hW13 : Below w.heap.size w w13 := below_call hW12 hB hb13
                have hm := hm.keep hb13
                have hj := hj.keep hb13
                clear hb13 hW12
                have hk0 : k3 = 0 := hk.zero HA.out HJOK.out HJL.out.symm
                have ht : t3 = true := (hk2 hk0).2 (by rw [HJJ.out]; exact (ge_join HA.out.2 HBS.out).1)
                subst hk0 ht
                clear hk hk1 hk2
                go_wp2_with fail
                refine (sbelow_any B Aj cb cj b j w13 hlb hlj (hb.now hW13 hB) hj).mono ?_
                rintro e w14 ⟨⟨t4, k4, rfl, hk, hk1, hk2⟩, hb14⟩
                have hW14 : Below w.heap.size w w14 := below_call hW13 hB hb14
                have hm := hm.keep hb14
                have hj := hj.keep hb14
                clear hb14 hW13
                have hk0 : k4 = 0 := hk.zero HB.out HJOK.out (HAB.out.symm.trans HJL.out.symm)
                have ht : t4 = true := (hk2 hk0).2 (by rw [← HAB.out, HJJ.out]; exact (ge_join HA.out.2 HBS.out).2)
                subst hk0 ht
                clear hk hk1 hk2
                as_aux_lemma =>
                  go_wp2_with fail
                  refine (sbelow_any A B ca cb a b w14 hla hlb (ha.now hW14 hB) (hb.now hW14 hB)).mono ?_
                  rintro e w15 ⟨⟨t5, k5, rfl, hk, hk1, hk2⟩, hb15⟩
                  have hW15 : Below w.heap.size w w15 := below_call hW14 hB hb15
                  have hm := hm.keep hb15
                  have hj := hj.keep hb15
                  clear hb15 hW14
                  have hk0 : k5 = 0 := hk.zero HA.out HB.out HAB.out
                  have ht := hk2 hk0
                  subst hk0
                  have ho1 : t5 = decide (m = a) := by rw [Bool.eq_iff_iff, ht, decide_eq_true_iff, HMM.out]; exact (meet_eq_iff HA.out.2 HBS.out).symm
                  have ho2 : t5 = decide (j = b) := by rw [Bool.eq_iff_iff, ht, decide_eq_true_iff, HJJ.out]; exact (join_eq_iff HA.out.2 HBS.out).symm
                  have HO1 := Lib.hid ho1
                  have HO2 := Lib.hid ho2
                  clear hk hk1 hk2 ht ho1 ho2
                  as_aux_lemma =>
                    go_wp2_with fail
                    refine (scheck_any Am cm m w15 hlm hm).mono ?_
                    rintro e w16 ⟨⟨q, rfl, hq⟩, hb16⟩
                    have hW16 : Below w.heap.size w w16 := below_call hW15 hB hb16
                    have hm := hm.keep hb16
                    have hj := hj.keep hb16
                    clear hb16 hW15
                    have hq0 := hq.zero HMOK.out
                    subst hq0
                    clear hq
                    as_aux_lemma =>
                      go_wp2_with fail
                      refine (scheck_any Aj cj j w16 hlj hj).mono ?_
                      rintro e w17 ⟨⟨q, rfl, hq⟩, hb17⟩
                      have hW17 : Below w.heap.size w w17 := below_call hW16 hB hb17
                      have hm := hm.keep hb17
                      have hj := hj.keep hb17
                      clear hb17 hW16
                      have hq0 := hq.zero HJOK.out
                      subst hq0
                      clear hq
                      go_wp2_with fail
                      refine (rows_any Am A cm ca m a w17 hlm hla hm (ha.now hW17 hB)).mono ?_
                      rintro e w18 ⟨rfl, hb18⟩
                      have hW18 : Below w.heap.size w w18 := below_call hW17 hB hb18
                      have hm := hm.keep hb18
                      have hj := hj.keep hb18
                      clear hb18 hW17
                      rw [← HO1.out]
                      have hne : (t5 != t5) = false := by simp
                      go_wp2_with fail
                      refine (rows_any Aj B cj cb j b w18 hlj hlb hj (hb.now hW18 hB)).mono ?_
                      rintro e w19 ⟨rfl, hb19⟩
                      have hW19 : Below w.heap.size w w19 := below_call hW18 hB hb19
                      have hm := hm.keep hb19
                      have hj := hj.keep hb19
                      clear hb19 hW18
                      rw [← HO2.out]
                      as_aux_lemma =>
                        go_wp2_with fail
                        refine (sbelow_any C A cc ca c a w19 hlc hla (hc.now hW19 hB) (ha.now hW19 hB)).mono ?_
                        rintro e w20 ⟨⟨u1, q1, rfl, hk, hk1, hk2⟩, hb20⟩
                        have hW20 : Below w.heap.size w w20 := below_call hW19 hB hb20
                        have hm := hm.keep hb20
                        have hj := hj.keep hb20
                        clear hb20 hW19
                        have HP1 := Lib.hid hk
                        have HP2 := Lib.hid hk2
                        clear hk hk1 hk2
                        go_wp2_with fail
                        refine (sbelow_any C B cc cb c b w20 hlc hlb (hc.now hW20 hB) (hb.now hW20 hB)).mono ?_
                        rintro e w21 ⟨⟨u2, q2, rfl, hk, hk1, hk2⟩, hb21⟩
                        have hW21 : Below w.heap.size w w21 := below_call hW20 hB hb21
                        have hm := hm.keep hb21
                        have hj := hj.keep hb21
                        clear hb21 hW20
                        have HP3 := Lib.hid hk
                        have HP4 := Lib.hid hk2
                        clear hk hk1 hk2
                        go_upto_region 25 with fail
                        go_cut [248] (fun tv wz => tv = .bool (decide (q1 = 0) && decide (q2 = 0) && u1 && u2) ∧ wz = w21)
                        case first =>
                          by_cases z1 : q1 = 0
                          · have e1 : (q1 == 0) = true := by simpa using z1
                            have f1 : Hid (decide (q1 = 0) = true) := decide_eq_true z1
                            by_cases z2 : q2 = 0
                            · have e2 : (q2 == 0) = true := by simpa using z2
                              have f2 : Hid (decide (q2 = 0) = true) := decide_eq_true z2
                              clear z1 z2
                              cases u1 with
                              | false =>
                                go_wp2
                                go_meet
                                exact ⟨by rw [f1.out, f2.out]; rfl, rfl⟩
                              | true =>
                                go_wp2
                                go_meet
                                exact ⟨by rw [f1.out, f2.out]; rfl, rfl⟩
                            · have e2 : (q2 == 0) = false := by simpa using z2
                              have f2 : Hid (decide (q2 = 0) = false) := decide_eq_false z2
                              clear z1 z2
                              go_wp2
                              go_meet
                              exact ⟨by rw [f1.out, f2.out]; rfl, rfl⟩
                          · have e1 : (q1 == 0) = false := by simpa using z1
                            have f1 : Hid (decide (q1 = 0) = false) := decide_eq_false z1
                            clear z1
                            go_wp2
                            go_meet
                            exact ⟨by rw [f1.out]; rfl, rfl⟩
                        case rest =>
                          obtain ⟨rfl, rfl⟩ := hcut
                          as_aux_lemma =>
                            have HT : Hid ((decide (q1 = 0) && decide (q2 = 0) && u1 && u2) = true → SignOk c ∧ c.length = a.length ∧ Ge c a c.length ∧ Ge c b c.length) := fun h => by
                              simp only [Bool.and_eq_true, decide_eq_true_eq] at h
                              obtain ⟨⟨⟨h1, h2⟩, h3⟩, h4⟩ := h
                              have p1 := HP1.out.1.1 h1
                              exact ⟨p1.1, p1.2.2, (HP2.out h1).1 h3, (HP4.out h2).1 h4⟩
                            obtain ⟨T, hT⟩ : ∃ T, T = (decide (q1 = 0) && decide (q2 = 0) && u1 && u2) := ⟨_, rfl⟩
                            rw [← hT] at HT ⊢
                            clear hT
                            go_upto_if 248 with fail
                            go_cut [] (fun wz => Below wc.heap.size wc wz)
                            case first =>
                              cases T with
                              | false =>
                                go_wp2
                                go_meet
                                exact Below.refl _ _
                              | true =>
                                obtain ⟨hcok, hcl, hg1, hg2⟩ := HT.out rfl
                                have HCOK := Lib.hid hcok
                                have HCL := Lib.hid hcl
                                have HG1 := Lib.hid hg1
                                have HG2 := Lib.hid hg2
                                clear hcok hcl hg1 hg2
                                go_wp2_with fail
                                refine (sbelow_any C Am cc cm c m wc hlc hlm (hc.now hW21 hB) hm).mono ?_
                                rintro e wy ⟨⟨t6, k6, rfl, hk, _, hk2⟩, hby⟩
                                have hk0 : k6 = 0 := hk.zero HCOK.out HMOK.out (HCL.out.trans HML.out.symm)
                                have ht : t6 = true := (hk2 hk0).2 (by rw [HCL.out, HMM.out]; exact ge_meet HA.out.2 HBS.out (by rw [← HCL.out]; exact HG1.out) (by rw [← HCL.out]; exact HG2.out))
                                subst hk0 ht
                                clear hk hk2
                                go_wp2
                                go_meet
                                exact hby
                            case rest =>
                              have hbz := hcut
                              obtain ⟨w22, rfl⟩ : ∃ wz, wz = wc := ⟨_, rfl⟩
                              have hW22 : Below w.heap.size w w22 := below_call hW21 hB hbz
                              have hm := hm.keep hbz
                              have hj := hj.keep hbz
                              clear hbz hcut hW21 HT HP1 HP2 HP3 HP4
                              as_aux_lemma =>
                                go_wp2_with fail
                                refine (sbelow_any A C ca cc a c w22 hla hlc (ha.now hW22 hB) (hc.now hW22 hB)).mono ?_
                                rintro e w23 ⟨⟨u3, q3, rfl, hk, hk1, hk2⟩, hb23⟩
                                have hW23 : Below w.heap.size w w23 := below_call hW22 hB hb23
                                have hm := hm.keep hb23
                                have hj := hj.keep hb23
                                clear hb23 hW22
                                have HP1 := Lib.hid hk
                                have HP2 := Lib.hid hk2
                                clear hk hk1 hk2
                                go_wp2_with fail
                                refine (sbelow_any B C cb cc b c w23 hlb hlc (hb.now hW23 hB) (hc.now hW23 hB)).mono ?_
                                rintro e w24 ⟨⟨u4, q4, rfl, hk, hk1, hk2⟩, hb24⟩
                                have hW24 : Below w.heap.size w w24 := below_call hW23 hB hb24
                                have hm := hm.keep hb24
                                have hj := hj.keep hb24
                                clear hb24 hW23
                                have HP3 := Lib.hid hk
                                have HP4 := Lib.hid hk2
                                clear hk hk1 hk2
                                go_upto_region 31 with fail
                                go_cut [284] (fun tv wz => tv = .bool (decide (q3 = 0) && decide (q4 = 0) && u3 && u4) ∧ wz = w24)
                                case first =>
                                  by_cases z1 : q3 = 0
                                  · have e1 : (q3 == 0) = true := by simpa using z1
                                    have f1 : Hid (decide (q3 = 0) = true) := decide_eq_true z1
                                    by_cases z2 : q4 = 0
                                    · have e2 : (q4 == 0) = true := by simpa using z2
                                      have f2 : Hid (decide (q4 = 0) = true) := decide_eq_true z2
                                      clear z1 z2
                                      cases u3 with
                                      | false =>
                                        go_wp2
                                        go_meet
                                        exact ⟨by rw [f1.out, f2.out]; rfl, rfl⟩
                                      | true =>
                                        go_wp2
                                        go_meet
                                        exact ⟨by rw [f1.out, f2.out]; rfl, rfl⟩
                                    · have e2 : (q4 == 0) = false := by simpa using z2
                                      have f2 : Hid (decide (q4 = 0) = false) := decide_eq_false z2
                                      clear z1 z2
                                      go_wp2
                                      go_meet
                                      exact ⟨by rw [f1.out, f2.out]; rfl, rfl⟩
                                  · have e1 : (q3 == 0) = false := by simpa using z1
                                    have f1 : Hid (decide (q3 = 0) = false) := decide_eq_false z1
                                    clear z1
                                    go_wp2
                                    go_meet
                                    exact ⟨by rw [f1.out]; rfl, rfl⟩
                                case rest =>
                                  obtain ⟨rfl, rfl⟩ := hcut
                                  as_aux_lemma =>
                                    have HT : Hid ((decide (q3 = 0) && decide (q4 = 0) && u3 && u4) = true → SignOk c ∧ a.length = c.length ∧ Ge a c a.length ∧ Ge b c b.length) := fun h => by
                                      simp only [Bool.and_eq_true, decide_eq_true_eq] at h
                                      obtain ⟨⟨⟨h1, h2⟩, h3⟩, h4⟩ := h
                                      have p1 := HP1.out.1.1 h1
                                      exact ⟨p1.2.1, p1.2.2, (HP2.out h1).1 h3, (HP4.out h2).1 h4⟩
                                    obtain ⟨T, hT⟩ : ∃ T, T = (decide (q3 = 0) && decide (q4 = 0) && u3 && u4) := ⟨_, rfl⟩
                                    rw [← hT] at HT ⊢
                                    clear hT
                                    cases T with
                                    | false =>
                                      go_wp2
                                      go_ret
                                      exact ⟨rfl, hW24⟩
                                    | true =>
                                      obtain ⟨hcok, hcl, hg1, hg2⟩ := HT.out rfl
                                      have HCOK := Lib.hid hcok
                                      have HCL := Lib.hid hcl
                                      have HG1 := Lib.hid hg1
                                      have HG2 := Lib.hid hg2
                                      clear hcok hcl hg1 hg2
                                      go_wp2_with fail
                                      refine (sbelow_any Aj C cj cc j c wc hlj hlc hj (hc.now hW24 hB)).mono ?_
                                      rintro e wy ⟨⟨t6, k6, rfl, hk, _, hk2⟩, hby⟩
                                      have hk0 : k6 = 0 := hk.zero HJOK.out HCOK.out (HJL.out.trans HCL.out)
                                      have ht : t6 = true := (hk2 hk0).2 (by rw [HJL.out, HJJ.out]; exact join_ge HA.out.2 HBS.out HG1.out (by rw [HAB.out]; exact HG2.out))
                                      subst hk0 ht
                                      have hWy : Below w.heap.size w wy := below_call hW24 hB hby
                                      clear hk hk2 hby
                                      go_wp2
                                      go_ret
                                      exact ⟨rfl, hWy⟩
          · have hm0 := hk1 hl0
            have hj0 := hl1 hl0
            subst hm0 hj0
            have hd : (l != 0) = true := by simpa using hl0
            clear hk hk1 hk2 hl hl1 hl2 hl0
            go_wp2
            go_ret
            exact ⟨rfl, by assumption⟩
  · have hm0 := hk1 hl0
    have hj0 := hl1 hl0
    subst hm0 hj0
    have hd : (l != 0) = true := by simpa using hl0
    clear hk hk1 hk2 hl hl1 hl2 hl0
    go_wp2
    go_ret
    exact ⟨rfl, by assumption⟩

end Go.Proofs.Ytdmpbbgcifodeaa
