/-
  parking.tree and its closure: are edges a tree?
-/
import Derived.Test.YtdmpbbgcifodeaaRootM
import Derived.BigQuiet
import Derived.BigRegion
import Derived.Deep.RegionWith
import Derived.Deep.RegionHeld3
namespace Go.Proofs.Ytdmpbbgcifodeaa
open Go.RowKit

set_option maxHeartbeats 1000000 in
theorem find_any (L gR n : Nat) (r : List Int) (f : Int → Int) (dp : Int → Nat) (v : Nat) (w : World) (hL : w.cell? ⟨L, 0, none⟩ = some (.slice (some ⟨gR, 0, none⟩) n n)) (hr : Roots r n f dp) (hv : v < n)
    (hc : ∀ i z, r[i]? = some z → w.cell? ⟨gR, i, none⟩ = some (.int .i64 z)) :
    Calls Try.prog 131 #[.int .i64 v, .pointer (some ⟨L, 0, none⟩)] w fun e w' => e = .returned (.int .i64 (f v)) ∧ w = w' := by
  have HR := Lib.hid hr
  have HC := Lib.hid hc
  clear hr hc
  go_enter Try.func131, Try.ntmps131
  go_wp2
  go_loopg [0] (dp v) (fun g uv wz => ∃ u : Nat, u < n ∧ uv = .int .i64 u ∧ f u = f v ∧ dp u ≤ g ∧ w = wz)
  case atStart => exact ⟨v, hv, rfl, rfl, Nat.le_refl _, rfl⟩
  case round =>
    obtain ⟨u, hu, rfl, hf, hg, rfl⟩ := hrel
    obtain ⟨u', h1, h2, h3, h4⟩ := HR.out.2 u hu
    have hlen := HR.out.1
    have hcu := HC.out u _ (List.getElem?_eq_getElem (by omega))
    rw [show r[u]'(by omega) = (u' : Int) by rw [← h1, List.getD_eq_getElem?_getD, List.getElem?_eq_getElem (by omega)]; rfl] at hcu
    clear h1
    by_cases e : u' = u
    · have de : ((u' : Int) != (u : Int)) = false := by simp; omega
      have hfin := Lib.hid ((h3 e).symm.trans hf)
      clear h3 h4 hf hg e
      go_wp2
      go_ret
      exact ⟨by rw [← hfin.out]; rfl, rfl⟩
    · have de : ((u' : Int) != (u : Int)) = true := by simp; omega
      obtain ⟨k1, k2⟩ := h4 e
      have K1 := Lib.hid (k1.trans hf)
      clear h3 h4 hf k1 e
      go_wp2
      go_roundg (gk - 1)
      case measure => omega
      case rel => exact ⟨u', h2, rfl, K1.out, by omega, rfl⟩

/-- The cell that names the roots, and the roots. -/
structure RSt (w0 w : World) (N L gR n : Nat) (r : List Int) : Prop where
  c : w.cell? ⟨L, 0, none⟩ = some (.slice (some ⟨gR, 0, none⟩) n n)
  o : w.ownsRow N 3 1 (.slice (some ⟨gR, 0, none⟩) n n) n (ints r)
  b : Below N w0 w
  ne : L ≠ gR
theorem RSt.set {w0 w : World} {N L gR n : Nat} {r : List Int} (h : RSt w0 w N L gR n r) (j : Nat) (y : Int) : RSt w0 (w.setCell ⟨gR, j, none⟩ (.int .i64 y)) N L gR n (r.set j y) := by
  refine ⟨?_, own_set h.o j y, h.b.setCell (p := ⟨gR, j, none⟩) (h.o.lt gR rfl).1 _, h.ne⟩
  exact (World.cell?_of_block (a := ⟨L, 0, none⟩) (by simp [World.setCell, Array.getElem?_modify, Ne.symm h.ne])).trans h.c
theorem RSt.below {w0 w w' : World} {N L gR n : Nat} {r : List Int} (h : RSt w0 w N L gR n r) (hb : Below w.heap.size w w') : RSt w0 w' N L gR n r :=
  ⟨(hb.cell (World.block_lt_of_cell? w _ h.c)).trans h.c, own_below h.o hb, h.b.trans (hb.mono (by have := h.o.lt gR rfl; omega)), h.ne⟩

open Classical in
set_option maxRecDepth 100000 in
set_option maxHeartbeats 4000000 in
theorem tree_any (A : Option Addr) (cap : Nat) (l : List (Int × Int)) (low n : Nat) (w : World) (hlow : low ≤ 1) (hn : n ≤ 20) (hcl : l.length ≤ 9223372036854775807) (h : Sl w w.heap.size A (pcells l)) :
    Calls Try.prog 95 #[.slice A l.length cap, .int .i64 low, .int .i64 n] w fun e w' => e = .returned (.bool (decide (TreeB l low n))) ∧ Below w.heap.size w w' := by
  go_enter Try.func95, Try.ntmps95
  by_cases hlen : l.length + low = n
  · have d0 : ((l.length : Int) != (n : Int) - (low : Int)) = false := by simp; omega
    have hl20 : l.length ≤ 20 := by omega
    have HLEN := Lib.hid hlen
    have HS := Lib.hid h
    obtain ⟨n1, hn1'⟩ : ∃ k, k = n + 1 := ⟨_, rfl⟩
    have hn1 : (n : Int) + 1 = (n1 : Int) := by omega
    have HN1 := Lib.hid hn1'
    have hn21 : n1 ≤ 21 := by omega
    clear hlen h hn1'
    go_wp2_with (first | (refine wpList_mk (base := w.heap.size) rfl (.tmp 21) (.tmp 21) rfl n1 rfl rfl (by omega) (Nat.le_refl _) (fun w1 hown hb1 hz1 => ?_)) | fail)
    go_upto_region 4 with fail
    obtain ⟨gR, hgR⟩ : ∃ g, g = w.heap.size := ⟨_, rfl⟩
    have hz1' : w1.heap.size = gR + 1 := by omega
    obtain ⟨w2, hw2⟩ : ∃ w2, w2 = w1.alloc (.cells #[.slice (some ⟨gR, 0, none⟩) n1 n1] 22) := ⟨_, rfl⟩
    have hst : RSt w w2 w.heap.size (gR + 1) gR n1 (List.replicate n1 0) := by
      have hb2 : Below w1.heap.size w1 w2 := by rw [hw2]; exact (Below.refl _ _).alloc (Nat.le_refl _) _
      refine ⟨?_, own_below (by rw [hgR]; exact hown) hb2, hb1.trans (hb2.mono (by omega)), by omega⟩
      rw [hw2, World.cell?_alloc_at _ _ _ _ hz1'.symm]; rfl
    rw [← hgR, ← hw2]
    have HST := Lib.hid hst
    have HGR := Lib.hid hgR
    clear hown hb1 hz1 hz1' hw2 hst hgR
    obtain ⟨L, hL⟩ : ∃ L, L = gR + 1 := ⟨_, rfl⟩
    rw [← hL] at HST ⊢
    clear hL
    have c0 := HST.out.c
    go_wp2
    go_loopw [25] (fun kv wr => ∃ k : Nat, k ≤ n1 ∧ kv = .int .i64 k ∧ RSt w wr w.heap.size L gR n1 ((List.range n1).map (fun i : Nat => if i < k then (i : Int) else 0))) (fun kv _ => n1 - (intOf kv).toNat)
    case atStart => exact ⟨0, Nat.zero_le _, rfl, by
      have := HST.out
      rwa [show List.replicate n1 (0 : Int) = (List.range n1).map (fun i : Nat => if i < 0 then (i : Int) else 0) by
        apply List.ext_getElem (by simp)
        intro j h1 h2; simp] at this⟩
    case round =>
      clear HST c0
      obtain ⟨k, hk, rfl, hst⟩ := hrel
      have HST := Lib.hid hst
      have c0 := hst.c
      by_cases hkn : k < n1
      · have dk : decide (k < n1) = true := decide_eq_true hkn
        have dk2 : decide ((k : Int) < (n1 : Int)) = true := decide_eq_true (by omega)
        have hold := own_get hst.o (i := k) (z := if k < k then (k : Int) else 0) (by simp [hkn])
        have hfz := hst.o.frozenAt k
        have hnx := hst.set k (k : Int)
        rw [roots_set] at hnx
        have HNX := Lib.hid hnx
        clear hnx hst
        go_wp2
        go_roundw
        case rel => exact ⟨k + 1, by omega, by go_num, HNX.out⟩
        case measure => simp [intOf]; omega
      · have dk : decide (k < n1) = false := decide_eq_false hkn
        have dk2 : decide ((k : Int) < (n1 : Int)) = false := decide_eq_false (by omega)
        have hke : k = n1 := by omega
        have hrt : (List.range n1).map (fun i : Nat => if i < k then (i : Int) else 0) = (List.range n1).map (fun i : Nat => (i : Int)) := List.map_congr_left (fun i hi => by rw [if_pos (by have := List.mem_range.1 hi; omega)])
        rw [hrt] at hst
        have HS2 : Hid (RSt w wr w.heap.size L gR n1 ((List.range n1).map (fun i : Nat => (i : Int)))) := hst
        clear hst hrt hke HST c0
        go_wp2
        go_loopw [36] (fun iv wz => ∃ (i : Nat) (r : List Int) (dp : Int → Nat), i ≤ l.length ∧ iv = .int .i64 i ∧ RSt w wz w.heap.size L gR n1 r ∧ Roots r n1 (clsOf id (l.take i)) dp ∧ (∀ x ∈ l.take i, ((low : Int) ≤ x.1 ∧ x.1 ≤ n) ∧ ((low : Int) ≤ x.2 ∧ x.2 ≤ n)) ∧ Merges id (l.take i)) (fun iv _ => l.length - (intOf iv).toNat)
        case atStart => exact ⟨0, _, _, Nat.zero_le _, rfl, HS2.out, Roots.start n1, by simp, trivial⟩
        case round =>
          obtain ⟨w9, rfl⟩ : ∃ w9, w9 = wr := ⟨_, rfl⟩
          clear HS2
          obtain ⟨i, r, dp, hi, rfl, hst, hrt, hall, hmg⟩ := hrel
          by_cases hil : i < l.length
          · have di : decide (i < l.length) = true := decide_eq_true hil
            have di2 : decide ((i : Int) < (l.length : Int)) = true := decide_eq_true (by omega)
            obtain ⟨b, o, rfl, hb⟩ := psl_addr HS.out (by omega)
            obtain ⟨q1, q2⟩ := psl_at HS.out hil
            have q1 := (hst.b.cell (p := ⟨b, o + i * 2, none⟩) hb).trans q1
            have q2 := (hst.b.cell (p := ⟨b, o + i * 2 + 1, none⟩) hb).trans q2
            obtain ⟨x, hx⟩ : ∃ x, x = l.getD i (0, 0) := ⟨_, rfl⟩
            have hxl : l[i]'hil = x := by rw [hx, getD_get hil]
            have htk : l.take (i + 1) = l.take i ++ [x] := by rw [take_snoc hil, hxl]
            have hxm : x ∈ l := by rw [← hxl]; exact List.getElem_mem hil
            rw [← hx] at q1 q2
            obtain ⟨y, z⟩ := x
            simp only at q1 q2
            have HTK := Lib.hid htk
            have HXM := Lib.hid hxm
            have HST := Lib.hid hst
            have HRT := Lib.hid hrt
            have HALL := Lib.hid hall
            have HMG := Lib.hid hmg
            clear hx hxl htk hxm hst hrt hall hmg
            go_upto_region 13 with fail
            have hno : Hid (¬ (((low : Int) ≤ y ∧ y ≤ n) ∧ ((low : Int) ≤ z ∧ z ≤ n)) → decide (TreeB l low n) = false) := fun hh => decide_eq_false (fun e => hh (e.2.1 _ HXM.out))
            obtain ⟨X, hX⟩ : ∃ X, X = w9.heap.size := ⟨_, rfl⟩
            obtain ⟨w8, hw8⟩ : ∃ w8, w8 = w9.alloc (.cells #[.int .i64 y, .int .i64 z] 81) := ⟨_, rfl⟩
            have p1 : w8.cell? ⟨X, 0, none⟩ = some (.int .i64 y) := by rw [hw8, World.cell?_alloc_at _ _ _ _ hX]; rfl
            have p2 : w8.cell? ⟨X, 1, none⟩ = some (.int .i64 z) := by rw [hw8, World.cell?_alloc_at _ _ _ _ hX]; rfl
            have hst8 : RSt w w8 w.heap.size L gR n1 r := HST.out.below (by rw [hw8]; exact (Below.refl _ _).alloc (Nat.le_refl _) _)
            rw [← hX, ← hw8]
            have HS8 := Lib.hid hst8
            have hb8 := hst8.b
            have c0 := hst8.c
            clear HST hw8 hX hst8 q1 q2
            by_cases t1 : y < low
            · have e1 : decide (y < (low : Int)) = true := decide_eq_true t1
              have hf := Lib.hid (hno.out (by omega))
              clear hno
              go_wp2
              go_ret
              exact ⟨by rw [hf.out]; rfl, hb8⟩
            · have e1 : decide (y < (low : Int)) = false := decide_eq_false t1
              by_cases t2 : (n : Int) < y
              · have e2 : decide ((n : Int) < y) = true := decide_eq_true t2
                have hf := Lib.hid (hno.out (by omega))
                clear hno
                go_wp2
                go_ret
                exact ⟨by rw [hf.out]; rfl, hb8⟩
              · have e2 : decide ((n : Int) < y) = false := decide_eq_false t2
                by_cases t3 : z < low
                · have e3 : decide (z < (low : Int)) = true := decide_eq_true t3
                  have hf := Lib.hid (hno.out (by omega))
                  clear hno
                  go_wp2
                  go_ret
                  exact ⟨by rw [hf.out]; rfl, hb8⟩
                · have e3 : decide (z < (low : Int)) = false := decide_eq_false t3
                  by_cases t4 : (n : Int) < z
                  · have e4 : decide ((n : Int) < z) = true := decide_eq_true t4
                    have hf := Lib.hid (hno.out (by omega))
                    clear hno
                    go_wp2
                    go_ret
                    exact ⟨by rw [hf.out]; rfl, hb8⟩
                  · have e4 : decide ((n : Int) < z) = false := decide_eq_false t4
                    clear hno
                    obtain ⟨yn, rfl⟩ : ∃ k : Nat, y = k := ⟨y.toNat, by omega⟩
                    obtain ⟨zn, rfl⟩ : ∃ k : Nat, z = k := ⟨z.toNat, by omega⟩
                    have hyn : yn < n1 := by omega
                    have hzn : zn < n1 := by omega
                    obtain ⟨a, ha, ha2, _⟩ := HRT.out.root _ yn hyn (Nat.le_refl _)
                    obtain ⟨b', hb', hb2, _⟩ := HRT.out.root _ zn hzn (Nat.le_refl _)
                    have HFY : Hid (∀ k, Calls Try.prog 131 #[.int .i64 yn, .pointer (some ⟨L, 0, none⟩)] (w8.drewN k) fun e w' => e = .returned (.int .i64 a) ∧ w8.drewN k = w') := Lib.hid fun k => by
                      have := find_any L gR n1 r _ dp yn (w8.drewN k) HS8.out.c HRT.out hyn (fun i z hz => own_get HS8.out.o hz)
                      rwa [ha] at this
                    have HFZ : Hid (∀ k, Calls Try.prog 131 #[.int .i64 zn, .pointer (some ⟨L, 0, none⟩)] (w8.drewN k) fun e w' => e = .returned (.int .i64 b') ∧ w8.drewN k = w') := Lib.hid fun k => by
                      have := find_any L gR n1 r _ dp zn (w8.drewN k) HS8.out.c HRT.out hzn (fun i z hz => own_get HS8.out.o hz)
                      rwa [hb'] at this
                    have HA := Lib.hid ha
                    have HB := Lib.hid hb'
                    clear ha hb'
                    go_upto_region 15 with fail
                    have p1d : w8.drew.cell? ⟨X, 0, none⟩ = some (.int .i64 yn) := p1
                    have p2d : w8.drew.cell? ⟨X, 1, none⟩ = some (.int .i64 zn) := p2
                    go_cut [12, 13] (fun av bv wz => av = .int .i64 a ∧ bv = .int .i64 b' ∧ ∃ k, w8.drewN k = wz)
                    case first =>
                      go_wp2
                      go_region_held3 (fun w' => w'.cell? ⟨X, 0, none⟩ = some (.int .i64 yn) ∧ w'.cell? ⟨X, 1, none⟩ = some (.int .i64 zn)) (first | go_keep | exact ⟨p1, p2⟩)
                        (first | (go_at_call_of 131 (Value.int .i64 (yn : Int)); refine (HFY.out 1).mono ?_; rintro e w' ⟨rfl, rfl⟩) | (go_at_call_of 131 (Value.int .i64 (zn : Int)); refine (HFZ.out 1).mono ?_; rintro e w' ⟨rfl, rfl⟩) | fail)
                      all_goals
                        go_wp2
                        go_meet
                        exact ⟨rfl, rfl, 1, rfl⟩
                    case rest =>
                      obtain ⟨rfl, rfl, kd, rfl⟩ := hcut
                      obtain ⟨w7, hw7⟩ : ∃ w7, w7 = w8.drewN kd := ⟨_, rfl⟩
                      have HS7 : Hid (RSt w w7 w.heap.size L gR n1 r) := by rw [hw7]; exact ⟨HS8.out.c, own_drewN HS8.out.o kd, below_drewN HS8.out.b kd, HS8.out.ne⟩
                      rw [← hw7]
                      clear hw7 HFY HFZ HS8 p1 p2 p1d p2d c0 hb8
                      by_cases hab : a = b'
                      · have e5 : ((a : Int) == (b' : Int)) = true := by simp; omega
                        have hf : Hid (decide (TreeB l low n) = false) := decide_eq_false (fun e => by
                          have h1 := e.2.2.firsts (i := i + 1)
                          rw [HTK.out, merges_snoc] at h1
                          refine h1.2 ?_
                          simp only
                          rw [HA.out, HB.out, hab])
                        have hbb := HS7.out.b
                        clear hab
                        go_wp2
                        go_ret
                        exact ⟨by rw [hf.out]; rfl, hbb⟩
                      · have e5 : ((a : Int) == (b' : Int)) = false := by simp; omega
                        have c0 := HS7.out.c
                        obtain ⟨j1, j2, j3⟩ := HRT.out.join hyn hzn HA.out HB.out hab
                        have hlr := HRT.out.1
                        have hold := own_get HS7.out.o (i := a) (List.getElem?_eq_getElem (by omega))
                        obtain ⟨zz, hzz⟩ : ∃ z, z = r[a]'(by omega) := ⟨_, rfl⟩
                        rw [← hzz] at hold
                        have hfz := HS7.out.o.frozenAt a
                        have HNX := Lib.hid (HS7.out.set a (b' : Int))
                        have HJ : Hid (Roots (r.set a b') n1 (clsOf id (l.take (i + 1))) (fun v => if clsOf id (l.take i) v = a then dp v + dp b' + 1 else dp v)) := by
                          rw [HTK.out, cls_snoc]; exact j3
                        have HAL2 : Hid (∀ x ∈ l.take (i + 1), ((low : Int) ≤ x.1 ∧ x.1 ≤ n) ∧ ((low : Int) ≤ x.2 ∧ x.2 ≤ n)) := by
                          rw [HTK.out]
                          intro x hx
                          rcases List.mem_append.1 hx with hx | hx
                          · exact HALL.out x hx
                          · obtain rfl := List.mem_singleton.1 hx
                            exact ⟨⟨by simp only; omega, by simp only; omega⟩, ⟨by simp only; omega, by simp only; omega⟩⟩
                        have HMG2 : Hid (Merges id (l.take (i + 1))) := by
                          rw [HTK.out]
                          refine (merges_snoc _ _ _).2 ⟨HMG.out, ?_⟩
                          simp only
                          rw [HA.out, HB.out]
                          omega
                        clear hzz j3 hab
                        go_wp2
                        go_roundw
                        case rel => exact ⟨i + 1, r.set a b', _, by omega, by go_num, HNX.out, HJ.out, HAL2.out, HMG2.out⟩
                        case measure => simp [intOf]; omega
          · have di : decide (i < l.length) = false := decide_eq_false hil
            have di2 : decide ((i : Int) < (l.length : Int)) = false := decide_eq_false (by omega)
            have hyes : Hid (decide (TreeB l low n) = true) := by
              have e : l.take i = l := List.take_of_length_le (by omega)
              rw [e] at hall hmg
              exact decide_eq_true ⟨HLEN.out, hall, hmg⟩
            have hbb := hst.b
            clear hst hrt hall hmg
            go_wp2
            go_ret
            exact ⟨by rw [hyes.out]; rfl, hbb⟩
  · have d0 : ((l.length : Int) != (n : Int) - (low : Int)) = true := by simp; omega
    have hno : Hid (decide (TreeB l low n) = false) := decide_eq_false (fun e => hlen e.1)
    clear hlen h
    go_wp2
    go_ret
    exact ⟨by rw [hno.out]; rfl, Below.refl _ _⟩
end Go.Proofs.Ytdmpbbgcifodeaa
