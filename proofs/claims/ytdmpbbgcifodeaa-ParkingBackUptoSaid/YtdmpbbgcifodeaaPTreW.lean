/-
  parking.Tree: what it answers (sorted's contract is asked for).
-/
import Derived.Test.YtdmpbbgcifodeaaLeafW
namespace Go.Proofs.Ytdmpbbgcifodeaa
open Go.RowKit

def SortedC : Prop := ∀ (base : Nat) (v : Value) (m : List Edge) (w : World), w.ownsRow base 81 2 v m.length (pcells m) → m.length < 1000 → base ≤ w.heap.size →
  Calls Try.prog 94 #[v] w fun e w' => (e = .returned v ∧ w'.ownsRow base 81 2 v m.length (pcells (edgedL m))) ∧ Below base w w'
def CodeOk (c : List Int) : Prop := c.length + 2 ≤ 20 ∧ ∀ x ∈ c, 1 ≤ x ∧ x ≤ ((c.length + 2 : Nat) : Int)
def PTree (c : List Int) (e : Ending) (w' : World) : Prop :=
  (CodeOk c ∧ ∃ A cap E, Run (upTo (c.length + 2)) c E ∧ e = .returned (.tuple #[.slice A (c.length + 1) cap, .int .i64 0]) ∧ Sl w' w'.heap.size A (pcells (edgedL E))) ∨
  (¬ CodeOk c ∧ ∃ k : Int, k ≠ 0 ∧ e = .returned (.tuple #[.slice none 0 0, .int .i64 k]))
theorem RSt.low {w0 w w' : World} {N L gR n B : Nat} {r : List Int} (h : RSt w0 w N L gR n r) (hb : Below B w w') (hL : L < B) (hG : gR < B) (hN : N ≤ B) : RSt w0 w' N L gR n r :=
  ⟨(hb.cell (p := ⟨L, 0, none⟩) hL).trans h.c, own_low h.o hG hb, h.b.trans (hb.mono hN), h.ne⟩

set_option maxRecDepth 100000 in
set_option maxHeartbeats 4000000 in
theorem ptree_any (HSC : SortedC) (A : Option Addr) (cap : Nat) (c : List Int) (w : World) (hcl : c.length ≤ 2000000) (h : Sl w w.heap.size A (ints c)) :
    Calls Try.prog 53 #[.slice A c.length cap] w fun e w' => PTree c e w' ∧ Below w.heap.size w w' := by
  go_enter Try.func53, Try.ntmps53
  by_cases hbig : c.length ≤ 18
  · obtain ⟨n, hn'⟩ : ∃ n, n = c.length + 2 := ⟨_, rfl⟩
    have hn : (c.length : Int) + 2 = (n : Int) := by omega
    obtain ⟨n1, hn1'⟩ : ∃ k, k = n + 1 := ⟨_, rfl⟩
    have hn1 : (n : Int) + 1 = (n1 : Int) := by omega
    have d0 : decide ((20 : Int) < (n : Int)) = false := decide_eq_false (by omega)
    have d0' : decide (20 < n) = false := decide_eq_false (by omega)
    have HS := Lib.hid h
    have HN := Lib.hid hn'
    have HN1 := Lib.hid hn1'
    have hsm : n1 ≤ 21 := by omega
    clear h hn' hn1'
    go_wp2_with (first | (refine wpList_mk (base := w.heap.size) rfl (.tmp 18) (.tmp 18) rfl n1 rfl rfl (by omega) (Nat.le_refl _) (fun w1 hown hb1 hz1 => ?_)) | fail)
    go_upto_region 5 with fail
    obtain ⟨gR, hgR⟩ : ∃ g, g = w.heap.size := ⟨_, rfl⟩
    have hz1' : w1.heap.size = gR + 1 := by omega
    obtain ⟨w2, hw2⟩ : ∃ w2, w2 = w1.alloc (.cells #[.slice (some ⟨gR, 0, none⟩) n1 n1] 22) := ⟨_, rfl⟩
    have hst : RSt w w2 w.heap.size (gR + 1) gR n1 (List.replicate n1 0) := by
      have hb2 : Below w1.heap.size w1 w2 := by rw [hw2]; exact (Below.refl _ _).alloc (Nat.le_refl _) _
      refine ⟨?_, own_below (by rw [hgR]; exact hown) hb2, hb1.trans (hb2.mono (by omega)), by omega⟩
      rw [hw2, World.cell?_alloc_at _ _ _ _ hz1'.symm]; rfl
    have hsz2 : w2.heap.size = gR + 2 := by rw [hw2]; simp; omega
    rw [HN1.out, cntR_nil, ← HN1.out] at hst
    rw [← hgR, ← hw2]
    have HST := Lib.hid hst
    have HGR := Lib.hid hgR
    clear hown hb1 hz1 hz1' hw2 hst hgR
    obtain ⟨L, hL⟩ : ∃ L, L = gR + 1 := ⟨_, rfl⟩
    rw [← hL] at HST ⊢
    have HLE : Hid (L = gR + 1 ∧ w2.heap.size = gR + 2) := ⟨hL, hsz2⟩
    clear hL hsz2
    go_wp2
    go_loopw [22] (fun iv wr => ∃ i : Nat, i ≤ c.length ∧ iv = .int .i64 i ∧ RSt w wr w.heap.size L gR n1 (cntR n (c.take i)) ∧ (∀ x ∈ c.take i, 1 ≤ x ∧ x ≤ (n : Int)) ∧ gR + 2 ≤ wr.heap.size) (fun iv _ => c.length - (intOf iv).toNat)
    case atStart => exact ⟨0, Nat.zero_le _, rfl, HST.out, by simp, by have := HLE.out.2; omega⟩
    case round =>
      clear HST
      obtain ⟨i, hi, rfl, hst, hall, hsz⟩ := hrel
      by_cases hic : i < c.length
      · have di : decide (i < c.length) = true := decide_eq_true hic
        have di2 : decide ((i : Int) < (c.length : Int)) = true := decide_eq_true (by omega)
        obtain ⟨b, o, rfl, hb⟩ := HS.out.addr (by omega)
        have hcx := (hst.b.cell (p := ⟨b, o + i, none⟩) hb).trans (getD_cell HS.out hic)
        obtain ⟨x, hx⟩ : ∃ x, x = c.getD i 0 := ⟨_, rfl⟩
        have hxc : c[i]'hic = x := by rw [hx, getD_get hic]
        have htk : c.take (i + 1) = c.take i ++ [x] := by rw [take_snoc hic, hxc]
        have hxm : x ∈ c := by rw [← hxc]; exact List.getElem_mem hic
        rw [← hx] at hcx
        have hno : Hid (¬ (1 ≤ x ∧ x ≤ (n : Int)) → PTree c (.returned (.tuple #[.slice none 0 0, .int .i64 1])) wr) := fun hh => .inr ⟨fun e => hh (by
          have := e.2 x hxm
          have := HN.out
          omega), 1, by decide, rfl⟩
        have hbw := hst.b
        have c0 := hst.c
        have HST := Lib.hid hst
        have HALL := Lib.hid hall
        have HTK := Lib.hid htk
        clear hx hxc htk hxm hst hall
        by_cases t1 : x < 1
        · have e1 : decide (x < 1) = true := decide_eq_true t1
          have hf := Lib.hid (hno.out (by omega))
          clear hno
          go_wp2
          go_ret2
          exact ⟨hf.out, hbw⟩
        · have e1 : decide (x < 1) = false := decide_eq_false t1
          by_cases t2 : (n : Int) < x
          · have e2 : decide ((n : Int) < x) = true := decide_eq_true t2
            have hf := Lib.hid (hno.out (by omega))
            clear hno
            go_wp2
            go_ret2
            exact ⟨hf.out, hbw⟩
          · have e2 : decide ((n : Int) < x) = false := decide_eq_false t2
            clear hno
            obtain ⟨k, rfl⟩ : ∃ k : Nat, x = k := ⟨x.toNat, by omega⟩
            have hk1 : k < n1 := by omega
            have hold := own_get HST.out.o (cntR_get (c := c.take i) (n := n) (k := k) (by omega))
            have hfz := HST.out.o.frozenAt k
            have hnx := HST.out.set k (((c.take i).count (k : Int) : Int) + 1)
            rw [cntR_snoc, ← HTK.out] at hnx
            have hcl' : (c.take i).count (k : Int) ≤ (c.take i).length := List.count_le_length
            have hcl2 : (c.take i).length ≤ 18 := by rw [List.length_take]; omega
            obtain ⟨q, hq⟩ : ∃ q, q = (c.take i).count (k : Int) := ⟨_, rfl⟩
            rw [← hq] at hold hnx hcl'
            have HNX := Lib.hid hnx
            have hall2 : Hid (∀ x ∈ c.take (i + 1), 1 ≤ x ∧ x ≤ (n : Int)) := by
              rw [HTK.out]
              intro y hy
              rcases List.mem_append.1 hy with hy | hy
              · exact HALL.out y hy
              · obtain rfl := List.mem_singleton.1 hy; omega
            clear hq hnx
            go_wp2
            go_roundw
            case rel => exact ⟨i + 1, by omega, by go_num, HNX.out, hall2.out, by simpa using hsz⟩
            case measure => simp [intOf]; omega
      · have di : decide (i < c.length) = false := decide_eq_false hic
        have di2 : decide ((i : Int) < (c.length : Int)) = false := decide_eq_false (by omega)
        rw [List.take_of_length_le (by omega)] at hst hall
        have hok : CodeOk c := ⟨by omega, fun x hx => by have := hall x hx; have := HN.out; omega⟩
        have hrun : ∃ E, Run (upTo n) c E := by
          obtain ⟨E, hE, _⟩ := run_of_code c (upTo n) (upTo_sorted n) (by rw [length_upTo]; exact HN.out) (fun x hx => mem_upTo.2 (hall x hx))
          exact ⟨E, hE⟩
        obtain ⟨E, hE⟩ := hrun
        have HOK := Lib.hid hok
        have HE := Lib.hid hE
        have HST := Lib.hid hst
        clear hok hE hst hall
        go_wp2
        go_loopw [8, 43] (fun ov iv wz => ∃ (i : Nat) (S : List Int) (Ei T : List Edge) (r : List Int), i ≤ c.length ∧ iv = .int .i64 i ∧ Run S (c.drop i) Ei ∧ DegOk r n S (c.drop i) ∧ S.Nodup ∧ T.length = i ∧ (T.map nrm ++ Ei.map nrm).Perm (E.map nrm) ∧
          RSt w wz w.heap.size L gR n1 r ∧ wz.ownsRow (gR + 2) 81 2 ov i (pcells T) ∧ gR + 2 ≤ wz.heap.size) (fun _ iv _ => c.length - (intOf iv).toNat)
        case atStart => exact ⟨0, upTo n, E, [], cntR n c, Nat.zero_le _, rfl, HE.out, DegOk.start n c, nodup_upTo n, rfl, List.Perm.refl _, HST.out, World.ownsRow_nil _ _ _ _, hsz⟩
        case round =>
          obtain ⟨w9, rfl⟩ : ∃ w9, w9 = wr := ⟨_, rfl⟩
          clear HST
          obtain ⟨i2, S, Ei, T, r, hi2, rfl, hrun, hdeg, hnd, hTl, hperm, hst, hown, hsz2⟩ := hrel
          obtain ⟨A4, c4, rfl, hTl2, -, hc4, hc5⟩ := psl_of_own hown
          clear hTl2
          by_cases hic2 : i2 < c.length
          · have di3 : decide (i2 < c.length) = true := decide_eq_true hic2
            have di4 : decide ((i2 : Int) < (c.length : Int)) = true := decide_eq_true (by omega)
            obtain ⟨b, o, rfl, hb⟩ := HS.out.addr (by omega)
            have hcx := (hst.b.cell (p := ⟨b, o + i2, none⟩) hb).trans (getD_cell HS.out hic2)
            have hdr : c.drop i2 = c.getD i2 0 :: c.drop (i2 + 1) := by rw [List.drop_eq_getElem_cons hic2, getD_get hic2]
            obtain ⟨x, hx⟩ : ∃ x, x = c.getD i2 0 := ⟨_, rfl⟩
            rw [← hx] at hcx hdr
            rw [hdr] at hrun hdeg
            cases hrun with
            | @step _ _ _ v _ e hv hno hmin hw hne he hm hr =>
              obtain ⟨k, rfl, k1, k2, k3, k4⟩ := hdeg.least hv hno hmin
              have hd2 := hdeg.take hnd k2
              obtain ⟨y, rfl, y1, y2, hd3, y3, y4⟩ := hd2.less (hnd.mem_erase_iff.2 ⟨hne, hw⟩)
              have hl18 : (c.drop (i2 + 1)).length ≤ 18 := by rw [List.length_drop]; omega
              have hlen1 : n1 = n + 1 := HN1.out
              have hlf := leaf_any k w9 hst k1 (by omega) k3 k4 (by omega)
              have HLF := Lib.hid hlf
              have hs5 := hst.set k (-1)
              have ho5 := ownsRow_setCell_below hown (a := ⟨gR, k, none⟩) (by show gR < gR + 2; omega) (.int .i64 (-1))
              obtain ⟨w5, hw5⟩ : ∃ w5, w5 = w9.setCell ⟨gR, k, none⟩ (.int .i64 (-1)) := ⟨_, rfl⟩
              have hz5 : w5.heap.size = w9.heap.size := by rw [hw5]; simp
              rw [← hw5] at HLF hs5 ho5
              have hp2 : Hid (((T ++ [((k : Int), (y : Int))]).map nrm ++ (Ei.erase e).map nrm).Perm (E.map nrm)) := by
                refine List.Perm.trans ?_ hperm
                have p1 := (List.perm_cons_erase hm).map nrm
                have he2 : nrm e = nrm ((k : Int), (y : Int)) := by
                  rcases he with rfl | rfl
                  · rfl
                  · exact nrm_swap _ _
                rw [List.map_cons, he2] at p1
                rw [List.map_append, List.append_assoc]
                exact (p1.symm.append_left (T.map nrm))
              have HD3 := Lib.hid hd3
              have HRR := Lib.hid hr
              have HND := Lib.hid (hnd.erase (k : Int))
              have HS5 := Lib.hid hs5
              have HO5 := Lib.hid ho5
              have HTL := Lib.hid hTl
              clear hdeg hd2 hd3 hr hnd hperm hst hown hlf hs5 ho5 hv hno hmin hw hne he hm k3 k4 hx hdr hw5 hTl hlen1
              obtain ⟨r5, hr5⟩ : ∃ r5, r5 = r.set k (-1) := ⟨_, rfl⟩
              rw [← hr5] at y3 y4 HD3 HS5
              have hly : y < r5.length := by have := HD3.out.len; rw [List.length_set] at this; omega
              have hgy : r5[y]? = some (r5.getD y 0) := by rw [List.getElem?_eq_getElem hly, getD_get hly]
              obtain ⟨z, hz⟩ : ∃ z, z = r5.getD y 0 := ⟨_, rfl⟩
              rw [← hz] at y3 y4 HD3 hgy
              have HGY := Lib.hid hgy
              clear hr5 hz hgy
              go_upto_region 18 with (first | (go_at_call 93; refine HLF.out.mono ?_) | fail)
              rintro e9 w' ⟨rfl, rfl⟩
              go_upto_region 18 with (first | (at_builtin; refine wpList_appP (base := gR + 2) (l := T) (v := .slice A4 T.length c4) rfl (.tmp 47) (.tmp 52) rfl rfl (k : Int) (y : Int) HO5.out w9.heap.size hz5.symm rfl (by omega) (by omega) (fun g6 c6 w6 hown6 hg6 hat6 => ?_)) | fail)
              have hb6 : Below (gR + 2) w5 w6 := ((Below.refl _ _).alloc (by omega) _).grown hg6 (by simp; omega) (fun k hk => (HO5.out.lt k hk).1)
              have hs6 := HS5.out.low hb6 (by have := HLE.out.1; omega) (by omega) (by have := HGR.out; omega)
              have c06 := hs6.c
              have hcy := own_get hs6.o HGY.out
              have hfz := hs6.o.frozenAt y
              have hz6 := hb6.size
              have HS7 := Lib.hid (hs6.set y (z - 1))
              have HO7 := Lib.hid (ownsRow_setCell_below hown6 (a := ⟨gR, y, none⟩) (by show gR < gR + 2; omega) (.int .i64 (z - 1)))
              clear hown6 hg6 hat6 hb6 hs6
              go_wp2
              refine ⟨⟨i2 + 1, S.erase (k : Int), Ei.erase e, T ++ [((k : Int), (y : Int))], r5.set y (z - 1), by omega, by go_num, HRR.out, HD3.out, HND.out, by rw [List.length_append, HTL.out]; rfl, hp2.out, HS7.out, HO7.out, ?_⟩, ?_⟩
              · rw [World.size_setCell]; omega
              · simp [intOf]; omega
          · have di3 : decide (i2 < c.length) = false := decide_eq_false hic2
            have di4 : decide ((i2 : Int) < (c.length : Int)) = false := decide_eq_false (by omega)
            rw [List.drop_eq_nil_of_le (by omega)] at hrun hdeg
            have hlen1 : n1 = n + 1 := HN1.out
            cases hrun with
            | @last p q hpq _ hE =>
              obtain ⟨k, rfl, k1, k2, k3, k4⟩ := hdeg.least (v := p) (by simp) (by simp) (fun u hu hl => by simp at hu; omega)
              have hd2 := hdeg.take hnd k2
              rw [List.erase_cons_head] at hd2
              obtain ⟨y, rfl, y1, y2, y3, y4⟩ := hd2.least (v := q) (by simp) (by simp) (fun u hu hl => by simp at hu; omega)
              have hlf := leaf_any k w9 hst k1 (by omega) k3 k4 (by omega)
              have hs5 := hst.set k (-1)
              have ho5 := ownsRow_setCell_below hown (a := ⟨gR, k, none⟩) (by show gR < gR + 2; omega) (.int .i64 (-1))
              obtain ⟨w5, hw5⟩ : ∃ w5, w5 = w9.setCell ⟨gR, k, none⟩ (.int .i64 (-1)) := ⟨_, rfl⟩
              have hz5 : w5.heap.size = w9.heap.size := by rw [hw5]; simp
              rw [← hw5] at hlf hs5 ho5
              have hlg := leaf_any y w5 hs5 y1 (by omega) y3 y4 (by omega)
              have hs6 := hs5.set y (-1)
              have ho6 := ownsRow_setCell_below ho5 (a := ⟨gR, y, none⟩) (by show gR < gR + 2; omega) (.int .i64 (-1))
              obtain ⟨w6, hw6⟩ : ∃ w6, w6 = w5.setCell ⟨gR, y, none⟩ (.int .i64 (-1)) := ⟨_, rfl⟩
              have hz6 : w6.heap.size = w9.heap.size := by rw [hw6]; simp [hz5]
              rw [← hw6] at hlg hs6 ho6
              have hpm : Hid (((T ++ [((k : Int), (y : Int))]).map nrm).Perm (E.map nrm)) := by
                refine List.Perm.trans ?_ hperm
                rw [List.map_append]
                rcases hE with rfl | rfl
                · exact List.Perm.refl _
                · rw [List.map_cons, List.map_cons, nrm_swap]; try exact List.Perm.refl _
              have HLF := Lib.hid hlf
              have HLG := Lib.hid hlg
              have HS6 := Lib.hid hs6
              have HO6 := Lib.hid ho6
              have hil : i2 = c.length := by omega
              have HIL := Lib.hid hil
              have HTL := Lib.hid hTl
              clear hdeg hd2 hnd hperm hst hown hlf hlg hs5 hs6 ho5 ho6 k3 k4 y3 y4 hw5 hw6 hE hlen1 hil hTl hpq
              go_upto_region 21 with (first | (go_at_call 93; refine HLF.out.mono ?_) | fail)
              rintro e9 w' ⟨rfl, rfl⟩
              go_upto_region 21 with (first | (go_at_call 93; refine HLG.out.mono ?_) | fail)
              rintro e9 w' ⟨rfl, rfl⟩
              go_upto_region 21 with (first | (at_builtin; refine wpList_appP (base := gR + 2) (l := T) (v := .slice A4 T.length c4) rfl (.tmp 61) (.tmp 67) rfl rfl (k : Int) (y : Int) HO6.out w9.heap.size hz6.symm rfl (by omega) (by omega) (fun g7 c7 w7 hown7 hg7 hat7 => ?_)) | fail)
              have hb7 : Below (gR + 2) w6 w7 := ((Below.refl _ _).alloc (by omega) _).grown hg7 (by simp; omega) (fun k hk => (HO6.out.lt k hk).1)
              have hs7 := HS6.out.low hb7 (by have := HLE.out.1; omega) (by omega) (by have := HGR.out; omega)
              have hz7 := hb7.size
              have HS7 := Lib.hid hs7
              have hown7' : w7.ownsRow (gR + 2) 81 2 (.slice (some ⟨g7, 0, none⟩) (i2 + 1) c7) (T ++ [((k : Int), (y : Int))]).length (pcells (T ++ [((k : Int), (y : Int))])) := by
                rw [List.length_append, HTL.out]; exact hown7
              have HSO := Lib.hid (HSC (gR + 2) _ _ w7 hown7' (by rw [List.length_append, HTL.out]; show i2 + 1 < 1000; omega) (by omega))
              clear hown7 hown7' hg7 hat7 hb7 hs7
              go_wp2_with (first | (go_at_call 94; refine HSO.out.mono ?_) | fail)
              rintro e9 w8 ⟨⟨rfl, ho8⟩, hb8⟩
              obtain ⟨A8, c8, h8, hl8, hs8, -, -⟩ := psl_of_own ho8
              have hf : Hid (PTree c (.returned (.tuple #[.slice (some ⟨g7, 0, none⟩) (i2 + 1) c7, .int .i64 0])) w8) := by
                refine .inl ⟨HOK.out, some ⟨g7, 0, none⟩, c7, E, by rw [← HN.out]; exact HE.out, by rw [HIL.out], ?_⟩
                rw [← edged_same hpm.out]
                have h9 := h8
                simp only [Value.slice.injEq] at h9
                rw [h9.1]
                exact hs8
              have hbb := Lib.hid (HS7.out.b.trans (hb8.mono (by have := HGR.out; omega)))
              clear ho8 hb8 h8 hl8 hs8
              go_wp2
              go_ret2
              exact ⟨hf.out, hbb.out⟩
  · have d0 : decide ((20 : Int) < (c.length : Int) + 2) = true := decide_eq_true (by omega)
    have d0' : decide (20 < c.length + 2) = true := decide_eq_true (by omega)
    have hf : Hid (PTree c (.returned (.tuple #[.slice none 0 0, .int .i64 2])) w) := .inr ⟨fun e => by have := e.1; omega, 2, by decide, rfl⟩
    clear h
    go_wp2
    go_ret2
    exact ⟨hf.out, Below.refl _ _⟩
end Go.Proofs.Ytdmpbbgcifodeaa
