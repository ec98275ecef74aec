/-
  parts.All: what it lists.
-/
import Derived.Deep.RegionWith
import Derived.Laws.EntriesVeiled
import Derived.Test.YtpmkdihencepnaaGreatMg13
import Derived.Test.YtpmkdihencepnaaGreatMg34
import Derived.Test.YtpmkdihencepnaaGreatMg35
namespace Go.Proofs.YtpmkdihencepnaaGreat
open Go.RowKit LR

def ClOut (e : Ending) (w w' : World) (B b1 b2 b3 : Nat) (rows : List (List Nat)) (nw : List Nat) : Prop :=
  e = .returned (.tuple #[]) ∧ AllSt w' B b1 b2 b3 rows nw ∧ Below B w w'
theorem zclone2 (A : Option Addr) (cap : Nat) (a : List Nat) (w : World) (hl : a.length ≤ 1000) (h : Sl w w.heap.size A (ints (zs a))) :
    Calls Tryz.prog 46 #[.slice A a.length cap] w fun e w' => ∃ v, e = .returned v ∧ w'.ownsRow w.heap.size 3 1 v a.length (ints (zs a)) ∧ Below w.heap.size w w' := by
  have := clone_any A cap (zs a) w (by rw [zs_length]; omega) h
  rw [zs_length] at this
  exact this

set_option maxRecDepth 100000 in
set_option maxHeartbeats 4000000 in
theorem cl_zero {B b1 b2 b3 : Nat} (most : Nat) (rows : List (List Nat)) (nw : List Nat) (w : World) (hst : AllSt w B b1 b2 b3 rows nw) (hB : B ≤ w.heap.size) (hr : rows.length ≤ 900000) (hn : nw.length ≤ 1000) :
    Calls Tryz.prog 63 #[.int .i64 0, .int .i64 most, .pointer (some ⟨b1, 0, none⟩), .pointer (some ⟨b2, 0, none⟩), .pointer (some ⟨b3, 0, none⟩)] w fun e w' => ClOut e w w' B b1 b2 b3 (rows ++ [nw]) nw := by
  obtain ⟨vO, vN, vR, hA⟩ := hst
  have hO3 : w.ownsRow B 22 1 vO rows.length ((List.range rows.length).map vR) := hA.own 3
  have hO4 : w.ownsRow B 3 1 vN nw.length (ints (zs nw)) := hA.own 4
  obtain ⟨AO, cO, gO, rfl, -⟩ := own_val hO3
  obtain ⟨AN, cN, gN, rfl, -⟩ := own_val hO4
  clear hO3 hO4
  have hown : w.ownsRow B 22 1 (.slice AO rows.length cO) rows.length ((List.range rows.length).map vR) := hA.own 3
  have hnow : w.ownsRow B 3 1 (.slice AN nw.length cN) nw.length (ints (zs nw)) := hA.own 4
  have hsl : Sl w w.heap.size AN (ints (zs nw)) := Sl.of_own hnow
  have HCL : Hid (∀ w0, Below w.heap.size w w0 → Calls Tryz.prog 46 #[.slice AN nw.length cN] w0 fun e w' => ∃ v, e = .returned v ∧ w'.ownsRow w0.heap.size 3 1 v nw.length (ints (zs nw)) ∧ Below w0.heap.size w0 w') := Lib.hid fun w0 hb => zclone2 AN cN nw w0 hn (hsl.keep hb)
  have HC1 := Lib.hid (HCL.out (w.drewN 1) (below_drewN (Below.refl _ _) 1))
  have c1 := al_c1 hA
  have c2 := al_c2 hA
  have f1 := al_f1 hA
  have hlt := areg_lt hA
  have HA := Lib.hid hA
  have hA0 := hA
  have HOWN := Lib.hid hown
  have hout : some b1 ≠ (Value.slice AO rows.length cO).ownBlock := fun e => hA.far 0 3 (by omega) b1 rfl e.symm
  have HOUT := Lib.hid hout
  have hout2 : some b2 ≠ (Value.slice AO rows.length cO).ownBlock := fun e => hA0.far 1 3 (by omega) b2 rfl e.symm
  have HOUT2 := Lib.hid hout2
  have hb12 : b1 ≠ b2 := fun e => hA0.far 0 1 (by omega) b1 rfl (by rw [e]; rfl)
  clear hA hA0 hown hnow hsl HCL hout hout2
  go_enter Tryz.func63, Tryz.ntmps63
  go_upto_region 1 with fail
  have c1d : w.drew.cell? ⟨b1, 0, none⟩ = some (.slice AO rows.length cO) := c1
  have c2d : w.drew.cell? ⟨b2, 0, none⟩ = some (.slice AN nw.length cN) := c2
  go_region_law (first | (go_simp; go_at_call 46; refine (HC1.out).mono ?_; rintro e w2 ⟨vC, rfl, hC, hb2⟩; obtain ⟨AC, cC, gC, rfl, -⟩ := own_val hC; have k1 : w2.heap[b1]? = w.heap[b1]? := hb2.block b1 hlt.1.2; have c1' : w2.cell? ⟨b1, 0, none⟩ = some (.slice AO rows.length cO) := (World.cell?_of_block k1).trans c1; have k2 : w2.heap[b2]? = w.heap[b2]? := hb2.block b2 hlt.2.1.2; have c2' : w2.cell? ⟨b2, 0, none⟩ = some (.slice AN nw.length cN) := (World.cell?_of_block k2).trans c2; have z1' : w2.frozen? ⟨b1, 0, none⟩ = false := (frozen_of_blockE k1).trans f1; have c1a : ∀ o, (w2.alloc o).cell? ⟨b1, 0, none⟩ = some (.slice AO rows.length cO) := fun o => cell_keepE ((Below.refl _ _).alloc (Nat.le_refl _) o) c1'; have HC := Lib.hid hC; have HB2 := Lib.hid hb2; have HK1 := Lib.hid k1; have HK2 := Lib.hid k2; clear hC hb2 k1 k2) | (refine step_pushE (base := B) (v := .slice AO rows.length cO) (hs := (List.range rows.length).map vR) ?_ (.tmp 10) (.tmp 13) ?_ ?_ (.slice AC nw.length cC) ?_ rows.length w2.heap.size ?_ ?_ ?_ ?_ ?_ ?_; (· rfl); (· rfl); (· rfl); (· rfl); (· rfl); (· exact (own_below HOWN.out ((below_drewN (Below.refl _ _) 1).trans HB2.out)).alloc _); (· exact heap_alloc_new _ _); (· omega); (· (show _ ≤ (World.alloc _ _).heap.size; have := HB2.out.size; have e : (w.drewN 1).heap.size = w.heap.size := rfl; simp; omega)); intro g2 cp2 w6 hl6 hg6 hat6 hlt6; have k16 : w6.heap[b1]? = w.heap[b1]? := (hg6.block b1 (by have := HB2.out.size; have e : (w.drewN 1).heap.size = w.heap.size := rfl; simp; omega) HOUT.out).trans ((heap_alloc_old _ _ (by have := HB2.out.size; have e : (w.drewN 1).heap.size = w.heap.size := rfl; omega)).trans HK1.out); have c1'' : w6.cell? ⟨b1, 0, none⟩ = some (.slice AO rows.length cO) := (World.cell?_of_block k16).trans c1; have k26 : w6.heap[b2]? = w.heap[b2]? := (hg6.block b2 (by have := HB2.out.size; have e : (w.drewN 1).heap.size = w.heap.size := rfl; simp; omega) HOUT2.out).trans ((heap_alloc_old _ _ (by have := HB2.out.size; have e : (w.drewN 1).heap.size = w.heap.size := rfl; omega)).trans HK2.out); have c2'' : w6.cell? ⟨b2, 0, none⟩ = some (.slice AN nw.length cN) := (World.cell?_of_block k26).trans c2; have c2s : (w6.setCell ⟨b1, 0, none⟩ (.slice (some ⟨g2, 0, none⟩) (rows.length + 1) cp2)).cell? ⟨b2, 0, none⟩ = some (.slice AN nw.length cN) := keep_setE hb12 c2''; have z6 : w6.frozen? ⟨b1, 0, none⟩ = false := (frozen_of_blockE k16).trans f1; have HL6 := Lib.hid hl6; have HG6 := Lib.hid hg6; have HAT6 := Lib.hid hat6; clear hl6 hg6 hat6 k16) | fail)
  all_goals
    have hb2 : Below w.heap.size w w2 := (below_drewN (Below.refl w.heap.size w) 1).trans HB2.out
    have hp := areg_push HA.out hB hb2 HC.out HL6.out HG6.out (by
      rcases HAT6.out with e | e
      · exact .inl e
      · refine .inr ?_
        rw [e]; simp)
    rw [rows_at1] at hp
    have HP := Lib.hid hp
    clear hp hb2 c1d c2d c1' c2' c1a c1'' k26 c2'' c2s z6 z1'
    go_wp2
    refine bodyPost_ret (results_none rfl _ _ _) rfl ?_
    refine ⟨rfl, ⟨.slice (some ⟨g2, 0, none⟩) (rows.length + 1) cp2, .slice AN nw.length cN, at1E vR rows.length (.slice AC nw.length cC), ?_⟩, HP.out.2⟩
    rw [show (rows ++ [nw]).length = rows.length + 1 by simp]
    exact HP.out.1

theorem own_cutE {w : World} {B g n c J : Nat} {e : TypeId} {cs : List Value} (h : w.ownsRow B e 1 (.slice (some ⟨g, 0, none⟩) n c) n cs) (hJ : J ≤ n) : w.ownsRow B e 1 (.slice (some ⟨g, 0, none⟩) J c) J (cs.take J) := by
  have hl := h.1
  refine ⟨by rw [List.length_take]; omega, ?_⟩
  rcases h.2 with ⟨e1, _⟩ | ⟨g', cap, cur, e1, h1, h2, h3, h4, h5, h6⟩
  · cases e1
  · obtain ⟨rfl, rfl⟩ : g = g' ∧ c = cap := by injection e1 with e2 _ e3; injection e2 with e4; injection e4 with e5; exact ⟨e5, e3⟩
    refine .inr ⟨g, c, cur, rfl, h1, h2, by omega, h4, h5, ?_⟩
    rw [← h6, List.take_take]
    congr 1
    omega
/-- The partitions that are listed while the first part goes down to k. -/
def accP (f left mn : Nat) (nw : List Nat) (k : Nat) : List (List Nat) := ((downs mn).take (mn - k)).flatMap (fun j => (pts f (left - j) j).map (fun p => nw ++ j :: p))
theorem accP_top {f left mn : Nat} {nw : List Nat} : accP f left mn nw mn = [] := by simp [accP]
theorem accP_step {f left mn k : Nat} {nw : List Nat} (h0 : 0 < k) (hk : k ≤ mn) : accP f left mn nw (k - 1) = accP f left mn nw k ++ (pts f (left - k) k).map (fun p => (nw ++ [k]) ++ p) := by
  unfold accP
  have hl : (downs mn).length = mn := by simp [downs]
  have e : mn - (k - 1) = (mn - k) + 1 := by omega
  rw [e, List.take_succ_eq_append_getElem (by omega), List.flatMap_append]
  have g : (downs mn)[mn - k]'(by omega) = k := by simp [downs]; omega
  congr 1
  simp [g]
theorem accP_end {f left most : Nat} {nw : List Nat} (h : 0 < left) : accP f left (min left most) nw 0 = (pts (f + 1) left most).map (nw ++ ·) := by
  have z : ¬ left = 0 := by omega
  unfold accP
  simp only [pts, z, if_false]
  rw [List.take_of_length_le (by simp [downs]), List.map_flatMap]
  congr 1
  funext j
  rw [List.map_map]; rfl
theorem accP_le {f left mn : Nat} {nw : List Nat} (k : Nat) : (accP f left mn nw k).length ≤ (accP f left mn nw 0).length := by
  unfold accP
  have e := List.take_append_drop (mn - k) (downs mn)
  rw [List.take_of_length_le (show (downs mn).length ≤ mn - 0 by simp [downs])]
  conv => rhs; rw [← e]
  rw [List.flatMap_append, List.length_append]
  omega

set_option maxRecDepth 100000 in
set_option maxHeartbeats 4000000 in
theorem cl_any {B b1 b2 b3 : Nat} : ∀ (f left most : Nat) (rows : List (List Nat)) (nw : List Nat) (w : World), left ≤ f → left ≤ 20 → most ≤ 20 → AllSt w B b1 b2 b3 rows nw → B ≤ w.heap.size → rows.length + (pts f left most).length ≤ 900000 → nw.length + left ≤ 1000 →
    Calls Tryz.prog 63 #[.int .i64 left, .int .i64 most, .pointer (some ⟨b1, 0, none⟩), .pointer (some ⟨b2, 0, none⟩), .pointer (some ⟨b3, 0, none⟩)] w fun e w' => ClOut e w w' B b1 b2 b3 (rows ++ (pts f left most).map (nw ++ ·)) nw := by
  intro f
  induction f with
  | zero =>
    intro left most rows nw w hf h16 hm hst hB hr hn
    obtain rfl : left = 0 := by omega
    have := cl_zero most rows nw w hst hB (by omega) (by omega)
    simpa [pts] using this
  | succ f ih =>
    intro left most rows nw w hf h16 hm hst hB hr hn
    by_cases hl0 : left = 0
    · subst hl0
      have := cl_zero most rows nw w hst hB (by omega) (by omega)
      simpa [pts] using this
    · have hacc := accP_end (f := f) (most := most) (nw := nw) (show 0 < left by omega)
      obtain ⟨R, hR⟩ : ∃ R, R = (pts (f + 1) left most).map (nw ++ ·) := ⟨_, rfl⟩
      have hRl : rows.length + R.length ≤ 900000 := by rw [hR, List.length_map]; exact hr
      rw [← hR] at hacc ⊢
      clear hR hr
      obtain ⟨mn, hmn⟩ : ∃ mn, mn = min left most := ⟨_, rfl⟩
      rw [← hmn] at hacc
      have hmn2 : min (left : Int) (most : Int) = (mn : Int) := by omega
      have hmnl : mn ≤ left := by omega
      have IH := Lib.hid ih
      have HACC := Lib.hid hacc
      have HST := Lib.hid hst
      have HMN := Lib.hid hmn
      have HMN2 := Lib.hid hmn2
      have d0 : ((left : Int) == 0) = false := by simpa using (by omega : ¬ (left : Int) = 0)
      have HL0 := Lib.hid hl0
      clear ih hacc hst hmn hmn2 hl0
      go_enter Tryz.func63, Tryz.ntmps63
      go_upto_region 2 with fail
      go_cut [7] (fun mv wz => mv = .int .i64 mn ∧ w = wz)
      case first =>
        by_cases hlm : (left : Int) ≤ (most : Int)
        · have hm1 : Hid ((mn : Int) = (left : Int)) := Lib.hid (by show _ = _; have := HMN.out; omega)
          go_wp2
          all_goals
            go_meet
            exact ⟨by rw [hm1.out]; first | rfl | (congr 1; omega), rfl⟩
        · have hm1 : Hid ((mn : Int) = (most : Int)) := Lib.hid (by show _ = _; have := HMN.out; omega)
          go_wp2
          all_goals
            go_meet
            exact ⟨by rw [hm1.out]; first | rfl | (congr 1; omega), rfl⟩
      case rest =>
        obtain ⟨rfl, rfl⟩ := hcut
        go_upto_region 3 with fail
        go_loopw [7] (fun kv wr => ∃ k : Nat, k ≤ mn ∧ kv = .int .i64 k ∧ AllSt wr B b1 b2 b3 (rows ++ accP f left mn nw k) nw ∧ Below B w wr) (fun kv _ => (intOf kv).toNat)
        case atStart => exact ⟨mn, Nat.le_refl _, rfl, by rw [accP_top, List.append_nil]; exact HST.out, Below.refl _ _⟩
        case round =>
          obtain ⟨k, hk, rfl, hs, hbr⟩ := hrel
          obtain ⟨w9, rfl⟩ : ∃ w9, w9 = wr := ⟨_, rfl⟩
          by_cases hk0 : 0 < k
          · have dk : decide ((0 : Int) < (k : Int)) = true := decide_eq_true (by omega)
            obtain ⟨vO, vN, vR, hA⟩ := hs
            have hO4 : w9.ownsRow B 3 1 vN nw.length (ints (zs nw)) := hA.own 4
            have c2 := al_c2 hA
            have f2 := al_f2 hA
            have hlt := areg_lt hA
            have hnb : some b2 ≠ vN.ownBlock := fun e => hA.far 1 4 (by omega) b2 rfl e.symm
            have HA := Lib.hid hA
            have HO4 := Lib.hid hO4
            have HBR := Lib.hid hbr
            have HNB := Lib.hid hnb
            have hsz : w.heap.size ≤ w9.heap.size := hbr.size
            clear hA hO4 hbr hnb HST
            go_upto_region 6 with (first | (at_builtin; refine wpList_app1g (base := B) (l := zs nw) (v := vN) rfl (.tmp 22) (.tmp 24) rfl rfl (k : Int) (n := nw.length) HO4.out w9.heap.size rfl rfl (by omega) (by omega) (fun g c w5 hl5 hg5 hat5 => ?_); have hk5 : w5.heap[b2]? = w9.heap[b2]? := (hg5.block b2 (by simp; omega) HNB.out).trans (heap_alloc_old _ _ hlt.2.1.2); have c25 : w5.cell? ⟨b2, 0, none⟩ = some vN := (World.cell?_of_block hk5).trans c2; have f25 : w5.frozen? ⟨b2, 0, none⟩ = false := (frozen_of_blockE hk5).trans f2; have HL5 := Lib.hid hl5; have HG5 := Lib.hid hg5; have HAT5 := Lib.hid hat5; clear hl5 hg5 hat5 hk5) | fail)
            obtain ⟨w6, hw6⟩ : ∃ w6, w6 = w5.setCell ⟨b2, 0, none⟩ (.slice (some ⟨g, 0, none⟩) (nw.length + 1) c) := ⟨_, rfl⟩
            have hnl : (nw ++ [k]).length = nw.length + 1 := by simp
            have hcells : ints (zs (nw ++ [k])) = ints (zs nw ++ [(k : Int)]) := by simp [zs]
            have hA6 : AllR w6 B (areg b1 b2 b3 vO (.slice (some ⟨g, 0, none⟩) (nw.length + 1) c) (nw ++ [k]) (rows ++ accP f left mn nw k).length vR (fun r => (rows ++ accP f left mn nw k).getD r [])) := by
              rw [hw6]
              refine areg_now HA.out (by rw [hnl, hcells]; exact HL5.out) (fun b hb hne => (HG5.out.block b (by simp; omega) (fun e => hne e.symm)).trans (heap_alloc_old _ _ hb)) (fun b hb => ?_)
              obtain rfl : g = b := by simpa [Value.ownBlock] using hb
              rcases HAT5.out with e | e
              · exact .inl e
              · exact .inr (by omega)
            have hb6 : Below B w w6 := by
              rw [hw6]
              exact ((HBR.out.alloc (by omega) _).grown HG5.out (by simp; omega) (fun j hj => (HA.out.lt (x := 4) hj).1)).setCell (p := ⟨b2, 0, none⟩) hlt.2.1.1 _
            have c36 : w6.cell? ⟨b3, 0, none⟩ = some (.func (.func 63) #[] #[.pointer (some ⟨b1, 0, none⟩), .pointer (some ⟨b2, 0, none⟩), .pointer (some ⟨b3, 0, none⟩)]) := al_c3 hA6
            rw [← hw6]
            have hal := accP_le (f := f) (left := left) (mn := mn) (nw := nw) (k - 1)
            rw [accP_step hk0 hk, HACC.out, List.length_append, List.length_map] at hal
            have hcall := IH.out (left - k) k (rows ++ accP f left mn nw k) (nw ++ [k]) w6 (by omega) (by omega) (by omega) ⟨_, _, _, hA6⟩ (by have := hb6.size; omega) (by rw [List.length_append]; omega) (by rw [hnl]; omega)
            rw [show ((left - k : Nat) : Int) = (left : Int) - (k : Int) by omega, List.append_assoc, ← accP_step hk0 hk] at hcall
            have HCALL := Lib.hid hcall
            have HB6 := Lib.hid hb6
            clear hcall hb6 hA6 hw6 hal hcells c2 f2 hlt
            go_upto_region 7 with (first | (go_at_call 63; refine (HCALL.out).mono ?_; rintro e w7 ⟨rfl, hs7, hb7⟩) | fail)
            obtain ⟨vO7, vN7, vR7, hA7⟩ := hs7
            have hO7 : w7.ownsRow B 3 1 vN7 (nw ++ [k]).length (ints (zs (nw ++ [k]))) := hA7.own 4
            obtain ⟨g7, k7, e7, -, -⟩ := hO7.form (by rw [hnl]; omega)
            subst e7
            have c27 := al_c2 hA7
            have f27 := al_f2 hA7
            have hcap := own_cap hO7
            rw [hnl] at hcap
            have hcut := own_cutE hO7 (J := nw.length) (by rw [hnl]; omega)
            have htk : (ints (zs (nw ++ [k]))).take nw.length = ints (zs nw) := by simp [ints, zs]
            rw [htk] at hcut
            have hA8 := areg_now (w' := w7) (vN' := .slice (some ⟨g7, 0, none⟩) nw.length k7) (nw' := nw) hA7 hcut (fun b _ _ => rfl) (fun b hb => .inl hb)
            have hlt7 := areg_lt hA7
            have hb8 : Below B w (w7.setCell ⟨b2, 0, none⟩ (.slice (some ⟨g7, 0, none⟩) nw.length k7)) := (HB6.out.trans hb7).setCell (p := ⟨b2, 0, none⟩) hlt7.2.1.1 _
            rw [hnl] at c27
            have HA8 := Lib.hid hA8
            have HB8 := Lib.hid hb8
            have HCAP := Lib.hid hcap
            have hcap1 : nw.length + 1 ≤ k7 := hcap.1
            have hcap2 : k7 ≤ 9223372036854775807 := hcap.2
            clear hA7 hO7 hcut htk hA8 hb8 hlt7 hb7 hcap
            go_wp2
            refine ⟨⟨k - 1, by omega, by rw [show ((k - 1 : Nat) : Int) = (k : Int) - 1 by omega], ⟨vO7, .slice (some ⟨g7, 0, none⟩) nw.length k7, vR7, HA8.out⟩, HB8.out⟩, ?_⟩
            simp only [intOf]
            omega
          · obtain rfl : k = 0 := by omega
            have dk : decide ((0 : Int) < ((0 : Nat) : Int)) = false := rfl
            obtain ⟨vO, vN, vR, hA⟩ := hs
            rw [HACC.out] at hA
            have HA := Lib.hid hA
            have HBR := Lib.hid hbr
            clear hA hbr
            go_wp2
            go_end0
            exact ⟨rfl, ⟨vO, vN, vR, HA.out⟩, HBR.out⟩

theorem allP_few : ∀ n, n ≤ 20 → (allP n).length ≤ 1000 := by decide +kernel
def AllOut (e : Ending) (w' : World) (B : Nat) (n : Nat) : Prop := ∃ v hs, e = .returned (.tuple #[v, .int .i64 0]) ∧ OwnM w' B v hs ((allP n).map zs)
theorem ownM_of {w : World} {B b1 b2 b3 : Nat} {rows : List (List Nat)} {nw : List Nat} {vO vN : Value} {vR : Nat → Value} (h : AllR w B (areg b1 b2 b3 vO vN nw rows.length vR (fun r => rows.getD r []))) :
    OwnM w B vO ((List.range rows.length).map vR) (rows.map zs) := by
  have hl : (rows.map zs).length = rows.length := by simp
  have hrow : ∀ r, r < rows.length → ((List.range rows.length).map vR).getD r undef = vR r ∧ (rows.map zs).getD r [] = zs (rows.getD r []) := by
    intro r hr
    constructor
    · simp [hr]
    · simp [hr]
  refine ⟨by simp, ?_, fun r hr => ?_, fun r s hr hs hne => ?_, fun r hr => ?_⟩
  · rw [hl]; exact h.own 3
  · rw [hl] at hr
    rw [(hrow r hr).1, (hrow r hr).2, zs_length]
    have := h.own (r + 5)
    rw [areg_row hr] at this
    exact this
  · rw [hl] at hr hs
    rw [(hrow r hr).1, (hrow s hs).1]
    have := h.far (r + 5) (s + 5) (by omega)
    rw [areg_row hr, areg_row hs] at this
    exact this
  · rw [hl] at hr
    rw [(hrow r hr).1]
    have := h.far 3 (r + 5) (by omega)
    rw [areg_row hr] at this
    exact this

theorem all_start (w : World) :
    AllSt (((((w.alloc (.cells #[.slice none 0 0] 28)).alloc (.cells #[.slice none 0 0] 22)).alloc (.cells #[.nilFunc] 68))).setCell ⟨w.heap.size + 1 + 1, 0, none⟩ (fnAll w.heap.size (w.heap.size + 1) (w.heap.size + 1 + 1))) w.heap.size w.heap.size (w.heap.size + 1) (w.heap.size + 1 + 1) [] [] := by
  have h0 := World.ownsRow_lit (e := 28) (size := 1) (base := w.heap.size) w #[.slice none 0 0] 1 (Nat.le_refl _) (by decide) rfl
  have h1 := World.ownsRow_lit (e := 22) (size := 1) (base := w.heap.size) (w.alloc (.cells #[.slice none 0 0] 28)) #[.slice none 0 0] 1 (by simp) (by decide) rfl
  have h2 := World.ownsRow_lit (e := 68) (size := 1) (base := w.heap.size) ((w.alloc (.cells #[.slice none 0 0] 28)).alloc (.cells #[.slice none 0 0] 22)) #[.nilFunc] 1 (by simp; omega) (by decide) rfl
  have z1 : (w.alloc (.cells #[.slice none 0 0] 28)).heap.size = w.heap.size + 1 := by simp
  have z2 : ((w.alloc (.cells #[.slice none 0 0] 28)).alloc (.cells #[.slice none 0 0] 22)).heap.size = w.heap.size + 1 + 1 := by simp
  rw [z1] at h1
  rw [z2] at h2
  have hA : AllR (((w.alloc (.cells #[.slice none 0 0] 28)).alloc (.cells #[.slice none 0 0] 22)).alloc (.cells #[.nilFunc] 68)) w.heap.size
      (fun y => if y = 2 then ⟨68, 1, .slice (some ⟨w.heap.size + 1 + 1, 0, none⟩) 1 1, 1, [.nilFunc]⟩ else areg w.heap.size (w.heap.size + 1) (w.heap.size + 1 + 1) (.slice none 0 0) (.slice none 0 0) [] 0 (fun _ => undef) (fun r => ([] : List (List Nat)).getD r []) y) := by
    have blk : ∀ y b, (if y = 2 then (⟨68, 1, .slice (some ⟨w.heap.size + 1 + 1, 0, none⟩) 1 1, 1, [.nilFunc]⟩ : Reg) else areg w.heap.size (w.heap.size + 1) (w.heap.size + 1 + 1) (.slice none 0 0) (.slice none 0 0) [] 0 (fun _ => undef) (fun r => ([] : List (List Nat)).getD r []) y).v.ownBlock = some b → y ≤ 2 ∧ b = w.heap.size + y := by
      intro y b hb
      match y, hb with
      | 0, hb => rw [if_neg (by omega)] at hb; simp [areg, Value.ownBlock] at hb; omega
      | 1, hb => rw [if_neg (by omega)] at hb; simp [areg, Value.ownBlock] at hb; omega
      | 2, hb => rw [if_pos rfl] at hb; simp [Value.ownBlock] at hb; omega
      | 3, hb => rw [if_neg (by omega)] at hb; simp [areg, Value.ownBlock] at hb
      | 4, hb => rw [if_neg (by omega)] at hb; simp [areg, Value.ownBlock] at hb
      | r + 5, hb => rw [if_neg (by omega)] at hb; simp [areg, Reg.none, Value.ownBlock] at hb
    refine ⟨fun x => ?_, fun x y hxy b h1 h2 => ?_⟩
    · match x with
      | 0 => exact (h0.alloc _).alloc _
      | 1 => exact h1.alloc _
      | 2 => exact h2
      | 3 => exact World.ownsRow_nil _ _ _ _
      | 4 => exact World.ownsRow_nil _ _ _ _
      | r + 5 => exact World.ownsRow_nil _ _ _ _
    · have := blk x b h1
      have := blk y b h2
      omega
  refine ⟨.slice none 0 0, .slice none 0 0, fun _ => undef, hA.set (x := 2) (g := w.heap.size + 1 + 1) (c := 1) rfl 0 _ rfl (fun y hy => ?_)⟩
  rw [if_neg hy]
  rfl
set_option maxRecDepth 100000 in
set_option maxHeartbeats 2000000 in
theorem all_any (n : Nat) (w : World) (hn : n ≤ 20) :
    Calls Tryz.prog 38 #[.int .i64 n] w fun e w' => AllOut e w' w.heap.size n ∧ Below w.heap.size w w' := by
  have d1 : decide ((n : Int) < 0) = false := decide_eq_false (by omega)
  have d2 : decide ((20 : Int) < (n : Int)) = false := decide_eq_false (by omega)
  have hst := all_start w
  obtain ⟨w0, hw0⟩ : ∃ w0, w0 = ((w.alloc (.cells #[.slice none 0 0] 28)).alloc (.cells #[.slice none 0 0] 22)).alloc (.cells #[.nilFunc] 68) := ⟨_, rfl⟩
  rw [← hw0] at hst
  have hb0 : Below w.heap.size w w0 := by rw [hw0]; exact (((Below.refl _ _).alloc (Nat.le_refl _) _).alloc (by simp) _).alloc (by simp; omega) _
  have c0 : w0.cell? ⟨w.heap.size + 1 + 1, 0, none⟩ = some .nilFunc := by rw [hw0, World.cell?_alloc_at _ _ _ _ (by simp)]; rfl
  have f0 : w0.frozen? ⟨w.heap.size + 1 + 1, 0, none⟩ = false := by
    have e : w0.heap[w.heap.size + 1 + 1]? = some (.cells #[.nilFunc] 68) := by
      rw [hw0]
      have := heap_alloc_new ((w.alloc (.cells #[.slice none 0 0] 28)).alloc (.cells #[.slice none 0 0] 22)) (.cells #[.nilFunc] 68)
      simpa using this
    simp [World.frozen?, e]
  have HST := Lib.hid hst
  have HB0 := Lib.hid hb0
  have HW0 := Lib.hid hw0
  clear hst hb0
  go_enter Tryz.func38, Tryz.ntmps38
  go_upto_region 6 with fail
  rw [← hw0]
  clear hw0
  go_upto_region 7 with fail
  obtain ⟨w1, hw1⟩ : ∃ w1, w1 = w0.setCell ⟨w.heap.size + 1 + 1, 0, none⟩ (fnAll w.heap.size (w.heap.size + 1) (w.heap.size + 1 + 1)) := ⟨_, rfl⟩
  have hst1 := HST.out
  rw [← hw1] at hst1
  have hw1' : w1 = w0.setCell ⟨w.heap.size + 1 + 1, 0, none⟩ (.func (.func 63) #[] #[.pointer (some ⟨w.heap.size, 0, none⟩), .pointer (some ⟨w.heap.size + 1, 0, none⟩), .pointer (some ⟨w.heap.size + 1 + 1, 0, none⟩)]) := hw1
  rw [← hw1']
  have hb1 : Below w.heap.size w w1 := by rw [hw1]; exact HB0.out.setCell (p := ⟨w.heap.size + 1 + 1, 0, none⟩) (by show w.heap.size ≤ w.heap.size + 1 + 1; omega) _
  have hcall := cl_any (B := w.heap.size) n n n [] [] w1 (Nat.le_refl _) hn hn hst1 hb1.size (by
    have h1 := allP_few n hn
    unfold allP at h1
    simp; omega) (by simp; omega)
  have e1 : (([] : List (List Nat)) ++ (pts n n n).map (fun x => [] ++ x)) = allP n := by simp [allP]
  rw [e1] at hcall
  obtain ⟨vO, vN, vR, hA1⟩ := hst1
  have c3 : w1.cell? ⟨w.heap.size + 1 + 1, 0, none⟩ = some (.func (.func 63) #[] #[.pointer (some ⟨w.heap.size, 0, none⟩), .pointer (some ⟨w.heap.size + 1, 0, none⟩), .pointer (some ⟨w.heap.size + 1 + 1, 0, none⟩)]) := al_c3 hA1
  have HCALL := Lib.hid hcall
  have HB1 := Lib.hid hb1
  clear hcall hw1 hw1' hA1 hb1 c0 f0 e1
  go_upto_region 8 with (first | (go_at_call 63; refine (HCALL.out).mono ?_; rintro e w7 ⟨rfl, hs7, hb7⟩) | fail)
  obtain ⟨vO7, vN7, vR7, hA7⟩ := hs7
  have c17 := al_c1 hA7
  have hm7 := ownM_of hA7
  have HM7 := Lib.hid hm7
  have HB7 := Lib.hid hb7
  clear hm7 hb7 hA7
  go_wp2
  go_ret2
  exact ⟨⟨vO7, _, rfl, HM7.out⟩, HB1.out.trans HB7.out⟩
end Go.Proofs.YtpmkdihencepnaaGreat

/-
  insert.Moves, parts.All: tables of their own, whatever comes in.
-/
namespace Go.Proofs.YtpmkdihencepnaaGreat
open Go.RowKit

theorem kstep_len {xs u : List Int} (h : KStep xs u) : u.length = xs.length := h.kn.len.symm
theorem pts_row : ∀ (f left most : Nat), ∀ r ∈ LR.pts f left most, r.length ≤ f
  | 0, left, most, r, h => by
    unfold LR.pts at h
    split at h
    · simp at h; rw [h]; simp
    · cases h
  | f + 1, left, most, r, h => by
    unfold LR.pts at h
    split at h
    · simp at h; rw [h]; simp
    · obtain ⟨k, _, h2⟩ := List.mem_flatMap.1 h
      obtain ⟨r2, h3, rfl⟩ := List.mem_map.1 h2
      have := pts_row f (left - k) k r2 h3
      simp; exact this
theorem moves_all (A : Option Addr) (cap : Nat) (xs : List Int) (w : World) (hcl : xs.length ≤ 9223372036854775807) (h : Sl w w.heap.size A (ints xs)) :
    Calls Tryz.prog 32 #[.slice A xs.length cap] w fun e w' => Told Sm w.heap.size e w' ∧ Below w.heap.size w w' := by
  refine (moves_any A cap xs w hcl h).mono ?_
  rintro e w' ⟨⟨k, v, hs, rows, rfl, hm, hk, h0, h1, hl⟩, hb⟩
  refine ⟨told_own hm k ⟨by omega, fun i => ?_⟩, hb⟩
  by_cases hk0 : k = 0
  · have hl40 := (wordChk_zero (xs := xs) (by rw [← hk]; exact hk0)).1
    by_cases hi : i < rows.length
    · have := kstep_len (((h0 hk0).2 (rows.getD i [])).1 (by rw [getD_get hi]; exact List.getElem_mem hi))
      omega
    · rw [List.getD_eq_getElem?_getD, List.getElem?_eq_none (by omega)]; simp
  · rw [h1 hk0]; simp
set_option maxHeartbeats 1000000 in
theorem all_all (k : Int) (w : World) :
    Calls Tryz.prog 38 #[.int .i64 k] w fun e w' => Told Sm w.heap.size e w' ∧ Below w.heap.size w w' := by
  by_cases h1 : k < 0
  · have d1 : decide (k < 0) = true := decide_eq_true h1
    go_enter Tryz.func38, Tryz.ntmps38
    go_wp2
    go_ret2
    exact ⟨told_bad _ _ _ Sm.nil, Below.refl _ _⟩
  · have d1 : decide (k < 0) = false := decide_eq_false h1
    by_cases h2 : 20 < k
    · have d2 : decide (20 < k) = true := decide_eq_true h2
      go_enter Tryz.func38, Tryz.ntmps38
      go_wp2
      go_ret2
      exact ⟨told_bad _ _ _ Sm.nil, Below.refl _ _⟩
    · obtain ⟨n, rfl⟩ : ∃ n : Nat, k = n := ⟨k.toNat, by omega⟩
      refine (all_any n w (by omega)).mono ?_
      rintro e w' ⟨⟨v, hs, rfl, hm⟩, hb⟩
      have hf := allP_few n (by omega)
      refine ⟨told_own hm 0 ⟨by rw [List.length_map]; omega, fun i => ?_⟩, hb⟩
      by_cases hi : i < ((LR.allP n).map zs).length
      · rw [getD_get hi, List.getElem_map, zs_length]
        have := pts_row n n n _ (List.getElem_mem (show i < (LR.allP n).length by simpa using hi))
        exact Nat.le_trans this (by omega)
      · rw [List.getD_eq_getElem?_getD, List.getElem?_eq_none (by omega)]; simp
end Go.Proofs.YtpmkdihencepnaaGreat
