/- Part of the proof. -/
import Derived.StillTailTactics
import Derived.Test.YtpmkdihencepnaaGreatDoorMk03
import Derived.Test.YtpmkdihencepnaaGreatDoorMk04
set_option maxHeartbeats 16000000
set_option maxRecDepth 100000
namespace Go.Proofs.YtpmkdihencepnaaGreatDoor
section
open Go.RowKit
theorem ftwin_any (A : Option Addr) (cap : Nat) (T : List (List Int)) (w : World) (hT : T.length < 1000000) (hrl : ∀ i, (T.getD i []).length < 1000000) (h : SR w w.heap.size A T) :
 Calls Tryz.prog 176 #[.slice A T.length cap] w fun e w' => (∃ v hs, e = .returned v ∧ OwnM w' w.heap.size v hs T) ∧ Below w.heap.size w w' := by
 go_enter Tryz.func176, Tryz.ntmps176
 go_wp2
 go_loopw [3, 8] (fun ov iv wr => ∃ (i : Nat) (hs : List Value), i ≤ T.length ∧ iv = .int .i64 i ∧ OwnM wr w.heap.size ov hs (T.take i) ∧ Below w.heap.size w wr) (fun _ iv _ => T.length - (intOf iv).toNat)
 case atStart => exact ⟨0, [], Nat.zero_le _, rfl, OwnM.nil _ _, Below.refl _ _⟩
 case round =>
  obtain ⟨i, hs, hi, rfl, hm, hW⟩ := hrel
  have HM := Lib.hid hm
  have hsz := hW.size
  clear hm
  by_cases hlt : i < T.length
  · have di : decide (i < T.length) = true := decide_eq_true hlt
    obtain ⟨b, o, rfl, hb⟩ := h.addr (by omega)
    have h2 := h.below hW
    obtain ⟨Ar, cr, hc, hr, _⟩ := h2.at_ hlt
    have hrl2 := hrl i
    obtain ⟨r, hre⟩ : ∃ r, r = T.getD i [] := ⟨_, rfl⟩
    rw [← hre] at hc hr hrl2
    have HRE := Lib.hid hre
    clear hre h2
    go_wp2_with (first | (go_at_call 100; refine (clone_any Ar cr r _ hrl2 (hr.more hsz)).mono ?_) | fail)
    rintro e w4 ⟨v4, rfl, hv4, hb4⟩
    obtain ⟨A4, c4, rfl, _, _, hle, _⟩ := own_sliceA hv4
    have hu4 := hv4.mono hsz
    have hfar := HM.out.far_new (u := .slice A4 r.length c4) (fun k hk => by
     have := (hv4.lt k hk).1; exact this)
    have hm4 := HM.out.below hb4
    have hmo := hm4.out
    rw [List.length_take, Nat.min_eq_left (by omega)] at hmo
    have HM4 := Lib.hid hm4
    have HMO := Lib.hid hmo
    have HU4 := Lib.hid hu4
    have HF := Lib.hid hfar
    have hW4 := hW.trans (hb4.mono hsz)
    have hB9 := Lib.hid hW4.size
    clear hm4 hmo hu4 hfar hv4 hb4
    go_wp2_with (first | (at_builtin; refine wpList_push (v := u3) rfl (.tmp 12) (.tmp 15) rfl rfl (.slice A4 r.length c4) rfl HMO.out w4.heap.size rfl rfl (by omega) hB9.out (fun g2 c2 w5 hl5 hg5 hat5 => ?_)) | fail)
    have hpush := (HM4.out.alloc (.cells #[.slice A4 r.length c4] 65)).push (u := .slice A4 r.length c4) (l := r) (HU4.out.alloc _) HF.out.1 HF.out.2 (by rw [List.length_take, Nat.min_eq_left (by omega)]) hl5 hg5 (by simpa using hat5)
    have hts : T.take i ++ [r] = T.take (i + 1) := by rw [getD_take_succ hlt, HRE.out]
    rw [hts] at hpush
    have hW5 : Below w.heap.size w w5 := (hW4.alloc hB9.out _).grown hg5 (by have := hB9.out; simp; omega) (fun k hk => (HMO.out.lt k hk).1)
    have HPU := Lib.hid hpush
    clear hpush hl5 hg5 hat5 hts
    go_wp2
    go_roundw
    case rel => exact ⟨i + 1, _, by omega, by go_num, HPU.out, hW5⟩
    case measure => simp [intOf]; omega
  · have di : decide (i < T.length) = false := decide_eq_false hlt
    have hm := HM.out
    rw [List.take_of_length_le (by omega)] at hm
    have HM2 := Lib.hid hm
    clear hm
    go_wp2
    go_ret
    exact ⟨⟨_, _, rfl, HM2.out⟩, hW⟩
end
end Go.Proofs.YtpmkdihencepnaaGreatDoor
namespace Go.Proofs
open Go.Shelf
shelf_lay_g SlLaysF0.n6 Slsf 6 at Tryz 173 as Tryz.sortB
end Go.Proofs
namespace Go.Proofs.YtpmkdihencepnaaGreatDoor
open Go.RowKit Go.Proofs
open Go.Shelf Go.Lib Go.Sort Std1
def encB (T : List (List Int)) (b : Nat × Nat) : List Value := [.int .i64 b.1, .int .i64 b.2, .int .i64 (entD T b.1 b.2)]
def cfB (T : List (List Int)) (x y : Nat × Nat) : Int := orP (Lib.compareInt (entD T x.1 x.2) (entD T y.1 y.2)) (Lib.compareInt x.2 y.2)
theorem ltB (T : List (List Int)) (x y : Nat × Nat) : ltOf (cfB T) x y = less T x y := by
 unfold ltOf cfB less orP Lib.compareInt
 by_cases h1 : entD T x.1 x.2 < entD T y.1 y.2
 · simp [h1]
 · by_cases h2 : entD T y.1 y.2 < entD T x.1 x.2
   · have : ¬ entD T x.1 x.2 = entD T y.1 y.2 := by omega
     simp [h1, h2, this]
   · have h3 : entD T x.1 x.2 = entD T y.1 y.2 := by omega
     by_cases h4 : x.2 < y.2
     · have h4' : (x.2 : Int) < (y.2 : Int) := by omega
       simp [h3, h4, h4']
     · have h4' : ¬ (x.2 : Int) < (y.2 : Int) := by omega
       by_cases h5 : (y.2 : Int) < (x.2 : Int) <;> simp [h3, h4, h4', h5]
theorem less_fal {T : List (List Int)} {x y : Nat × Nat} : less T x y = false ↔ ¬ (entD T x.1 x.2 < entD T y.1 y.2 ∨ (entD T x.1 x.2 = entD T y.1 y.2 ∧ x.2 < y.2)) := by rw [← less_iff]; simp
theorem swoB (T : List (List Int)) : SWO (ltOf (cfB T)) where
 irrefl x := by rw [ltB]; exact less_irrefl
 trans x y z h1 h2 := by rw [ltB] at *; exact less_trans h1 h2
 ntrans x y z h1 h2 := by rw [ltB, less_fal] at *; omega
theorem bcmp_any (T : List (List Int)) (x y : Nat × Nat) (w : World) : Calls Tryz.prog 174 #[.agg (encB T x).toArray, .agg (encB T y).toArray] w fun e w' => e = .returned (.int .i64 (cfB T x y)) ∧ ∃ o1 o2 o3, w' = (((w.alloc o1).alloc o2).drewN 1).alloc o3 := by
 obtain ⟨x0, x1⟩ := x
 obtain ⟨y0, y1⟩ := y
 obtain ⟨x2, hx2'⟩ : ∃ z, z = entD T x0 x1 := ⟨_, rfl⟩
 obtain ⟨y2, hy2'⟩ : ∃ z, z = entD T y0 y1 := ⟨_, rfl⟩
 have hc : Hid (cfB T (x0, x1) (y0, y1) = orP (Lib.compareInt x2 y2) (Lib.compareInt x1 y1)) := by show _ = _; rw [hx2', hy2']; rfl
 rw [hc.out]
 unfold encB
 simp only
 rw [← hx2', ← hy2']
 obtain ⟨c1, hc1⟩ : ∃ c, c = Lib.compareInt x2 y2 := ⟨_, rfl⟩
 obtain ⟨c2, hc2⟩ : ∃ c, c = Lib.compareInt (x1 : Int) y1 := ⟨_, rfl⟩
 have H1 : Hid (∀ w, Calls Tryz.prog 169 #[.int .i64 x2, .int .i64 y2] w fun e w' => e = .returned (.int .i64 c1) ∧ w = w') := Lib.hid fun w => by rw [hc1]; exact cmp_any x2 y2 w
 have H2 : Hid (∀ w, Calls Tryz.prog 169 #[.int .i64 (x1 : Int), .int .i64 (y1 : Int)] w fun e w' => e = .returned (.int .i64 c2) ∧ w = w') := Lib.hid fun w => by rw [hc2]; exact cmp_any x1 y1 w
 rw [← hc1, ← hc2]
 clear hc hc1 hc2 hx2' hy2'
 obtain ⟨z0, hz0'⟩ : ∃ z : Int, z = x0 := ⟨_, rfl⟩
 obtain ⟨z1, hz1'⟩ : ∃ z : Int, z = x1 := ⟨_, rfl⟩
 obtain ⟨v0, hv0'⟩ : ∃ z : Int, z = y0 := ⟨_, rfl⟩
 obtain ⟨v1, hv1'⟩ : ∃ z : Int, z = y1 := ⟨_, rfl⟩
 rw [← hz1', ← hv1'] at H2
 rw [← hz0', ← hz1', ← hv0', ← hv1']
 clear hz0' hz1' hv0' hv1'
 show Calls Tryz.prog 174 #[.agg #[.int .i64 z0, .int .i64 z1, .int .i64 x2], .agg #[.int .i64 v0, .int .i64 v1, .int .i64 y2]] w _
 go_enter Tryz.func174, Tryz.ntmps174
 go_upto_region 1 with fail
 obtain ⟨w2, hw2⟩ : ∃ w2, w2 = (w.alloc (.cells #[.int .i64 z0, .int .i64 z1, .int .i64 x2] 181)).alloc (.cells #[.int .i64 v0, .int .i64 v1, .int .i64 y2] 181) := ⟨_, rfl⟩
 have s1 : (w.alloc (.cells #[.int .i64 z0, .int .i64 z1, .int .i64 x2] 181)).heap.size = w.heap.size + 1 := by simp
 have hx1 : w2.cell? ⟨w.heap.size, 1, none⟩ = some (.int .i64 z1) := by
  rw [hw2, World.cell?_of_block (a := ⟨w.heap.size, 1, none⟩) (heap_alloc_old _ _ (by simp)), World.cell?_alloc_at _ _ _ _ rfl]; rfl
 have hx2 : w2.cell? ⟨w.heap.size, 2, none⟩ = some (.int .i64 x2) := by
  rw [hw2, World.cell?_of_block (a := ⟨w.heap.size, 2, none⟩) (heap_alloc_old _ _ (by simp)), World.cell?_alloc_at _ _ _ _ rfl]; rfl
 have hy1 : w2.cell? ⟨w.heap.size + 1, 1, none⟩ = some (.int .i64 v1) := by rw [hw2, World.cell?_alloc_at _ _ _ _ s1.symm]; rfl
 have hy2 : w2.cell? ⟨w.heap.size + 1, 2, none⟩ = some (.int .i64 y2) := by rw [hw2, World.cell?_alloc_at _ _ _ _ s1.symm]; rfl
 obtain ⟨N, hN⟩ : ∃ N, N = w.heap.size := ⟨_, rfl⟩
 have hf : Hid (∃ o1 o2, w2 = (w.alloc o1).alloc o2) := ⟨_, _, hw2⟩
 rw [← hw2]
 rw [← hN] at hx1 hx2 hy1 hy2 ⊢
 clear hw2 hN s1
 have k1 : w2.drew.cell? ⟨N, 1, none⟩ = some (.int .i64 z1) := hx1
 have k2 : w2.drew.cell? ⟨N, 2, none⟩ = some (.int .i64 x2) := hx2
 have k3 : w2.drew.cell? ⟨N + 1, 1, none⟩ = some (.int .i64 v1) := hy1
 have k4 : w2.drew.cell? ⟨N + 1, 2, none⟩ = some (.int .i64 y2) := hy2
 have HOR : Hid (∀ o w3, w3 = w2.drew.alloc (.cells #[.int .i64 c1, .int .i64 c2] o) → Calls Tryz.prog 175 #[.slice (some ⟨w2.heap.size, 0, none⟩) 2 2] w3 fun e w' => e = .returned (.int .i64 (orP c1 c2)) ∧ w3 = w') := Lib.hid fun o w3 h3 => by
  subst h3
  refine or_any _ 2 c1 c2 _ ?_ ?_
  · show (w2.drew.alloc _).cell? ⟨w2.drew.heap.size, 0, none⟩ = _; rw [World.cell?_alloc_at _ _ _ _ rfl]; rfl
  · show (w2.drew.alloc _).cell? ⟨w2.drew.heap.size, 1, none⟩ = _; rw [World.cell?_alloc_at _ _ _ _ rfl]; rfl
 go_wp2
 go_region_held3 (fun w' => w'.cell? ⟨N, 1, none⟩ = some (.int .i64 z1) ∧ w'.cell? ⟨N, 2, none⟩ = some (.int .i64 x2) ∧ w'.cell? ⟨N + 1, 1, none⟩ = some (.int .i64 v1) ∧ w'.cell? ⟨N + 1, 2, none⟩ = some (.int .i64 y2)) (first | go_keep | exact ⟨hx1, hx2, hy1, hy2⟩)
  (first | (go_at_call_of 169 (Value.int .i64 x2); refine (H1.out _).mono ?_; rintro e w' ⟨rfl, rfl⟩) | (go_at_call_of 169 (Value.int .i64 z1); refine (H2.out _).mono ?_; rintro e w' ⟨rfl, rfl⟩) | (go_at_call 175; refine (HOR.out _ _ rfl).mono ?_; rintro e w' ⟨rfl, rfl⟩) | fail)
 all_goals
  go_wp2
  go_ret
  obtain ⟨o1, o2, h⟩ := hf.out
  refine ⟨rfl, o1, o2, .cells #[.int .i64 c1, .int .i64 c2] 3, ?_⟩
  rw [h]; rfl
theorem bcmp_lays (T : List (List Int)) (blk off size : Nat) (w : World) : CmpLays Tryz.prog 174 #[] (encB T) 3 (cfB T) blk off size w := fun m os dk _ x y => by
 refine (bcmp_any T x y _).mono ?_
 rintro e w' ⟨rfl, o1, o2, o3, rfl⟩
 refine ⟨rfl, 1, #[o1, o2, o3], ?_⟩
 obtain ⟨W, hW⟩ : ∃ W, W = sortWorldK (encB T) 3 w blk off m dk os := ⟨_, rfl⟩
 rw [← hW]
 show (((W.alloc o1).alloc o2).drewN 1).alloc o3 = { W.drewN 1 with heap := (W.drewN 1).heap ++ #[o1, o2, o3] }
 have : (W.drewN 1).heap ++ #[o1, o2, o3] = ((W.heap.push o1).push o2).push o3 := by
  show W.heap ++ #[o1, o2, o3] = _
  apply Array.ext'
  simp
 rw [this]; rfl
def SbxOut (T : List (List Int)) (base : Nat) (v : Value) (w' : World) : Prop := ∃ L : List (Nat × Nat), L.Perm (allB T) ∧ L.Pairwise (fun b c => less T b c = true) ∧ w'.ownsRow base 181 3 v L.length (cellsK (encB T) L)
theorem sortB_any {base : Nat} (v : Value) (T : List (List Int)) (hT : TOk T) (w : World) (hn : (allB T).length < 1000000) (hB : base ≤ w.heap.size) (h : w.ownsRow base 181 3 v (allB T).length (cellsK (encB T) (allB T))) :
 Calls Tryz.prog 173 #[v, .func (.func 174) #[] #[]] w fun e w' => (e = .returned (.tuple #[]) ∧ SbxOut T base v w') ∧ Below base w w' := by
 have hk : ∀ x, (encB T x).length = 3 := fun _ => rfl
 rcases h.2 with ⟨rfl, h0⟩ | ⟨g, cap, cur, rfl, hb, hh, hc⟩
 · have e : allB T = [] := List.eq_nil_of_length_eq_zero h0
   have hS := AnyF.slices_SortFunc_none (P := Tryz.prog) (ρ := Tryz.sortB_ren) { Tryz.sortB with } none 0 (.func (.func 174) #[] #[]) w
   refine (show Calls _ _ _ _ _ from hS).mono ?_
   rintro e' w' ⟨rfl, rfl⟩
   exact ⟨⟨rfl, [], by rw [e], List.Pairwise.nil, World.ownsRow_nil _ _ _ _⟩, Below.refl _ _⟩
 · have hlt : g < w.heap.size := (Array.getElem?_eq_some_iff.1 hh).1
   have eg : ∀ args w, (callFunc 174 args).run Tryz.prog w = .ok (.enter 174 args) w := enters_of Tryz.func174 (by kernel_rfl) rfl
   have hS := AnyQ.slices_SortFunc Tryz.sortB 3 Tryz.isAgg181 Tryz.sizeOf181 (encB T) hk (fun x v hv => by simp [encB] at hv; rcases hv with rfl | rfl | rfl <;> rfl) (cfB T) (swoB T) 174 #[] g 0 cap (allB T).toArray w eg (bcmp_lays T g 0 _ w) (holdsKm hk (by decide) h) hlt (by simp; omega)
   have hsz : (allB T).toArray.size = (allB T).length := by simp
   rw [hsz] at hS
   refine (show Calls _ _ _ _ _ from hS).mono ?_
   rintro e w' ⟨rfl, d', q, os, hp, hs, rfl⟩
   obtain ⟨hsz2, _, hperm⟩ := hp
   have hsd : d'.size = (allB T).length := by rw [hsz2]; simp
   have hp2 : d'.toList.Perm (allB T) := by
    have e1 : d'.extract 0 (allB T).length = d' := by rw [← hsd]; exact Array.extract_size
    have e2 : (allB T).toArray.extract 0 (allB T).length = (allB T).toArray := by
     rw [← hsz]; exact Array.extract_size
    rw [e1, e2] at hperm
    exact hperm
   refine ⟨⟨rfl, d'.toList, hp2, ?_, ?_⟩, below_growK hb hB⟩
   · rw [List.pairwise_iff_getElem]
     intro i j hi hj hij
     have hi' : i < d'.size := by simpa using hi
     have hj' : j < d'.size := by simpa using hj
     have h3 := hs i j (Nat.zero_le _) hij (by rw [← hsd]; exact hj')
     rw [getElem!_pos d' i hi', getElem!_pos d' j hj', ltB] at h3
     have hnd : d'.toList.Nodup := hp2.nodup_iff.2 (nodup_allB T)
     have hne : d'.toList[i] ≠ d'.toList[j] := fun e => by
      have := (List.getElem_inj hnd).1 e
      omega
     rcases hT.total (hp2.mem_iff.1 (List.getElem_mem hi)) (hp2.mem_iff.1 (List.getElem_mem hj)) hne with g | g
     · exact g
     · rw [show d'.toList[j] = d'[j] from by simp, show d'.toList[i] = d'[i] from by simp] at g
       rw [h3] at g
       cases g
   · rw [hp2.length_eq]
     have := own_grow (ownKm (q := q) (m' := d'.toList) hk (by decide) h hp2.length_eq) os
     rw [Array.toArray_toList] at this
     exact this
end Go.Proofs.YtpmkdihencepnaaGreatDoor
namespace Go.Proofs.YtpmkdihencepnaaGreatDoor.Std1
theorem getD_ext {T U : List (List Int)} (h1 : T.length = U.length) (h2 : ∀ i, i < T.length → len T i = len U i) (h3 : ∀ i j, i < T.length → j < len T i → entD T i j = entD U i j) : T = U := by
 apply List.ext_getElem h1
 intro i a b
 have e1 : T.getD i [] = T[i] := by rw [List.getD_eq_getElem?_getD, List.getElem?_eq_getElem a]; rfl
 have e2 : U.getD i [] = U[i] := by rw [List.getD_eq_getElem?_getD, List.getElem?_eq_getElem b]; rfl
 have hl := h2 i a
 unfold len at hl
 rw [e1, e2] at hl
 apply List.ext_getElem hl
 intro j c d
 have hj : j < len T i := by unfold len; rw [e1]; exact c
 have := h3 i j a hj
 unfold entD at this
 rw [e1, e2, List.getD_eq_getElem?_getD, List.getD_eq_getElem?_getD, List.getElem?_eq_getElem c, List.getElem?_eq_getElem d] at this
 exact this
theorem TOk.of {T : List (List Int)} (h : FillOk T) : TOk T := by
 refine ⟨fun i j hi hj => ?_, fun i j hi hj => ?_⟩
 · have := ((h.row hi).2.2 (j + 1) hj).2.1 (by omega)
   rw [Nat.add_sub_cancel] at this
   exact this
 · have hr := h.row hi
   have h1 := hr.2.1 (by omega)
   have h2 := (hr.2.2 j hj).2.2 (by omega)
   rw [Nat.add_sub_cancel] at h1 h2
   exact ⟨Nat.lt_of_lt_of_le hj h1, h2⟩
def preB (T : List (List Int)) (i j : Nat) : List (Nat × Nat) := (List.range i).flatMap (fun i => (List.range (len T i)).map (fun j => (i, j))) ++ (List.range j).map (fun j => (i, j))
theorem preB_next (T : List (List Int)) (i j : Nat) : preB T i j ++ [(i, j)] = preB T i (j + 1) := by simp [preB, List.range_succ]
theorem preB_row (T : List (List Int)) (i : Nat) : preB T i (len T i) = preB T (i + 1) 0 := by simp [preB, List.range_succ]
theorem preB_all (T : List (List Int)) : preB T T.length 0 = allB T := by simp [preB, allB]
theorem preB_len {T : List (List Int)} (h : ∀ i, len T i ≤ 40) : ∀ i j, (preB T i j).length ≤ 40 * i + j
 | 0, j => by simp [preB]
 | i + 1, j => by
  have ih := preB_len h i (len T i)
  have e : (preB T (i + 1) j).length = (preB T i (len T i)).length + j := by simp [preB, List.range_succ, Nat.add_assoc]
  have := h i
  omega
def mixS (T : List (List Int)) (L : List (Nat × Nat)) (q : Nat) : List (List Int) :=
 (List.range T.length).map (fun i => (List.range (len T i)).map (fun j => if (i, j) ∈ L.take q then ((rkD T (i, j) : Nat) : Int) + 1 else entD T i j))
theorem mixS_length (T : List (List Int)) (L : List (Nat × Nat)) (q : Nat) : (mixS T L q).length = T.length := by simp [mixS]
theorem mixS_len (T : List (List Int)) (L : List (Nat × Nat)) (q i : Nat) : len (mixS T L q) i = len T i := by
 unfold len
 by_cases h : i < T.length
 · simp [mixS, h, len]
 · simp [mixS, h]
theorem mixS_ent {T : List (List Int)} {L : List (Nat × Nat)} {q i j : Nat} (hi : i < T.length) (hj : j < len T i) : entD (mixS T L q) i j = if (i, j) ∈ L.take q then ((rkD T (i, j) : Nat) : Int) + 1 else entD T i j := by
 simp [entD, mixS, hi, hj]
theorem mixS_zero (T : List (List Int)) (L : List (Nat × Nat)) : mixS T L 0 = T := by
 refine getD_ext (mixS_length _ _ _) (fun i _ => mixS_len _ _ _ _) (fun i j hi hj => ?_)
 rw [mixS_length] at hi
 rw [mixS_len] at hj
 rw [mixS_ent hi hj]; simp
theorem mixS_all {T : List (List Int)} {L : List (Nat × Nat)} (h : L.Perm (allB T)) : mixS T L L.length = std T := by
 refine getD_ext (by rw [mixS_length, std_length]) (fun i _ => by rw [mixS_len, std_len]) (fun i j hi hj => ?_)
 rw [mixS_length] at hi
 rw [mixS_len] at hj
 rw [mixS_ent hi hj, std_ent hi hj, List.take_length, if_pos (h.mem_iff.2 (mem_allB.2 ⟨hi, hj⟩))]
theorem set2_len {T : List (List Int)} {i j : Nat} {x : Int} (k : Nat) : len (T.set i ((T.getD i []).set j x)) k = len T k := by
 unfold len
 by_cases h : i = k
 · subst h
   by_cases hl : i < T.length
   · rw [List.getD_eq_getElem?_getD, List.getElem?_set_self hl]; simp
   · rw [List.set_eq_of_length_le (by omega)]
 · rw [List.getD_eq_getElem?_getD, List.getElem?_set_ne h, ← List.getD_eq_getElem?_getD]
theorem set2_ent {T : List (List Int)} {i j : Nat} {x : Int} {a b : Nat} (hi : i < T.length) (hj : j < len T i) : entD (T.set i ((T.getD i []).set j x)) a b = if (a, b) = (i, j) then x else entD T a b := by
 unfold entD
 by_cases h : i = a
 · subst h
   rw [List.getD_eq_getElem?_getD (l := T.set i _), List.getElem?_set_self hi]
   show ((T.getD i []).set j x).getD b 0 = _
   by_cases h2 : j = b
   · subst h2
     rw [if_pos rfl, List.getD_eq_getElem?_getD, List.getElem?_set_self hj]; rfl
   · rw [if_neg (by simp; omega), List.getD_eq_getElem?_getD, List.getElem?_set_ne h2, ← List.getD_eq_getElem?_getD]
 · rw [if_neg (by simp; omega), List.getD_eq_getElem?_getD (l := T.set i _), List.getElem?_set_ne h, ← List.getD_eq_getElem?_getD]
theorem mixS_step {T : List (List Int)} {L : List (Nat × Nat)} (hp : L.Perm (allB T)) (hs : L.Pairwise (fun b c => less T b c = true)) {q : Nat} (hq : q < L.length) {i j : Nat} (he : L[q] = (i, j)) :
 i < T.length ∧ j < len T i ∧ (mixS T L q).set i (((mixS T L q).getD i []).set j ((q : Int) + 1)) = mixS T L (q + 1) := by
 have hm : (i, j) ∈ allB T := by rw [← he]; exact hp.mem_iff.1 (List.getElem_mem hq)
 obtain ⟨hi, hj⟩ := mem_allB.1 hm
 simp only at hi hj
 have hr := rank_of_sorted hp hs hq
 rw [he] at hr
 refine ⟨hi, hj, getD_ext (by rw [List.length_set, mixS_length, mixS_length]) (fun k _ => by rw [set2_len, mixS_len, mixS_len]) (fun a b ha hb => ?_)⟩
 rw [List.length_set, mixS_length] at ha
 rw [set2_len, mixS_len] at hb
 rw [set2_ent (by rw [mixS_length]; exact hi) (by rw [mixS_len]; exact hj), mixS_ent ha hb, mixS_ent ha hb, List.take_add_one, List.getElem?_eq_getElem hq, he]
 by_cases h : (a, b) = (i, j)
 · rw [if_pos h, if_pos (by rw [h]; simp), h, hr]
 · rw [if_neg h]
   have : ((a, b) ∈ L.take q ++ (some (i, j)).toList) ↔ (a, b) ∈ L.take q := by simp [h]
   simp only [this]
end Go.Proofs.YtpmkdihencepnaaGreatDoor.Std1
namespace Go.Proofs.YtpmkdihencepnaaGreatDoor
section
open Go.RowKit Go.Proofs Std1
theorem Tryz.infoBox : (Tryz.prog.info? 181).map (fun i => (i.zero, i.size, i.bytes)) = some (some (.agg #[.int .i64 0, .int .i64 0, .int .i64 0]), 3, 24) := by kernel_rfl
theorem wpList_appB {w : World} {base : Nat} {U : List (List Int)} {l : List (Nat × Nat)} {v : Value} {ops : Array Oper} {rest : List Oper} {o : Oper} {a : Act} {Q : Exit → Act → World → Prop} (hgd : o.guard = none) (s x : Operand)
 (ho : o.op = .call { callee := .builtin .append, args := #[s, x], argTypes := #[179, 179] }) (hs : a.eval s = v) (y : Nat × Nat) {n : Nat}
 (hown : w.ownsRow base 181 3 v n (cellsK (encB U) l)) (g0 : Nat) (hg0 : g0 = w.heap.size) (hx : a.eval x = .slice (some ⟨g0, 0, none⟩) 1 1) (hlen : n < 1000000) (hbase : base ≤ w.heap.size)
 (h : ∀ g cap w', w'.ownsRow base 181 3 (.slice (some ⟨g, 0, none⟩) (n + 1) cap) (n + 1) (cellsK (encB U) (l ++ [y])) → Below base w w' →
  wpList Tryz.prog ops Q rest (a.put o.dst (.slice (some ⟨g, 0, none⟩) (n + 1) cap)) w') :
 wpList Tryz.prog ops Q (o :: rest) a (w.alloc (.cells #[.int .i64 y.1, .int .i64 y.2, .int .i64 (entD U y.1 y.2)] 181)) := by
 subst hg0
 obtain ⟨i0, hi, hz0, hz1, hz2⟩ := info_parts Tryz.infoBox
 refine wpList_append_lies _ hgd s x 179 ho base 181 i0 (.agg #[.int .i64 0, .int .i64 0, .int .i64 0]) 3 24 Tryz.underlying179 hi hz0 hz1 hz2 rfl (by decide) v n (cellsK (encB U) l) hs (hown.alloc _) ⟨w.heap.size, 0, none⟩ 1 1 [.int .i64 y.1, .int .i64 y.2, .int .i64 (entD U y.1 y.2)] hx rfl ?_ (by simp [Value.oneCell']) (by decide)
  (by unfold maxLen; omega) (by omega) (by simp; omega) _ rfl (fun g cap w' h1 h2 h3 _ => ?_)
 · intro j u hu
   match j, hu with
   | 0, hu => simp at hu; subst hu; simp [Addr.add]
   | 1, hu => simp at hu; subst hu; simp [Addr.add]
   | 2, hu => simp at hu; subst hu; simp [Addr.add]
 · refine h g cap w' ?_ (((Below.refl base w).alloc hbase _).grown h2 (by simp; omega) (fun b hb => (hown.lt b hb).1))
   have e : cellsK (encB U) (l ++ [y]) = cellsK (encB U) l ++ [.int .i64 y.1, .int .i64 y.2, .int .i64 (entD U y.1 y.2)] := by simp [cellsK, encB]
   rw [e]; exact h1
theorem OwnM.lower {w : World} {B B' : Nat} {v : Value} {hs : List Value} {rows : List (List Int)} (h : OwnM w B v hs rows) (hB : B' ≤ B) : OwnM w B' v hs rows :=
 ⟨h.len, h.out.mono hB, fun r hr => (h.inn r hr).mono hB, h.far, h.top⟩
theorem own_sliceK {w : World} {base n k : Nat} {e : TypeId} {v : Value} {cs : List Value} (h : w.ownsRow base e k v n cs) : ∃ A c, v = .slice A n c ∧ n ≤ c ∧ c ≤ 9223372036854775807 := by
 rcases h.2 with ⟨e1, e2⟩ | ⟨g, cap, cur, e1, _, _, h1, h2, _⟩
 · exact ⟨none, 0, by rw [e2]; exact e1, by omega, by omega⟩
 · exact ⟨_, cap, e1, h1, by simpa [maxLen] using h2⟩
theorem boxes_at {w : World} {base n g c : Nat} {T : List (List Int)} {L : List (Nat × Nat)} (h : w.ownsRow base 181 3 (.slice (some ⟨g, 0, none⟩) n c) n (cellsK (encB T) L)) (hn : n = L.length) {q : Nat} (hq : q < L.length) {i j : Nat} (he : L[q] = (i, j)) :
 w.cell? ⟨g, q * 3, none⟩ = some (.int .i64 i) ∧ w.cell? ⟨g, q * 3 + 1, none⟩ = some (.int .i64 j) ∧ w.cell? ⟨g, q * 3 + 2, none⟩ = some (.int .i64 (entD T i j)) := by
 have hk : ∀ x, (encB T x).length = 3 := fun _ => rfl
 have e0 : L[q]! = (i, j) := by rw [getElem!_pos L q hq, he]
 have key : ∀ r u, r < 3 → (encB T (i, j))[r]? = some u → w.cell? ⟨g, q * 3 + r, none⟩ = some u := fun r u hr hu => by
  rw [h.cellAt _ (by omega), cellsK_get hk (by decide) (by omega), show (q * 3 + r) / 3 = q by omega, show (q * 3 + r) % 3 = r by omega, e0]
  exact hu
 exact ⟨key 0 _ (by decide) rfl, key 1 _ (by decide) rfl, key 2 _ (by decide) rfl⟩
def StdR (T : List (List Int)) (B : Nat) (e : Ending) (w' : World) : Prop :=
 (FillOk T ∧ ∃ v hs, e = .returned (.tuple #[v, .int .i64 0]) ∧ OwnM w' B v hs (std T)) ∨ (¬ FillOk T ∧ ∃ k : Int, k ≠ 0 ∧ e = .returned (.tuple #[.slice none 0 0, .int .i64 k]))
theorem std_any (A : Option Addr) (cap : Nat) (T : List (List Int)) (w : World) (hT : T.length ≤ 9223372036854775807) (h : SR w w.heap.size A T) :
 Calls Tryz.prog 136 #[.slice A T.length cap] w fun e w' => StdR T w.heap.size e w' ∧ Below w.heap.size w w' := by
 go_enter Tryz.func136, Tryz.ntmps136
 go_wp2_with (first | (go_at_call 172; refine (fcheck_any A cap T _ hT h).mono ?_) | fail)
 rintro e w1 ⟨⟨k, rfl, hk1, hk2⟩, rfl⟩
 by_cases hk0 : k = 0
 · have hok := hk1 hk0
   have hT4 := hok.small.1
   have HOK := Lib.hid hok
   have HT5 := Lib.hid hok.small.2
   have HTO := Lib.hid (TOk.of hok)
   have HPL : Hid (∀ i j, (preB T i j).length ≤ 40 * i + j) := preB_len (fun i => HT5.out i)
   have HH := Lib.hid h
   subst hk0
   clear hk1 hk2 hok
   obtain ⟨N, hN⟩ : ∃ N, N = w.heap.size := ⟨_, rfl⟩
   have HNE := Lib.hid hN
   clear hN
   go_wp2
   go_loopw [5, 20] (fun lv iv wr => ∃ (vL : Value) (i m : Nat), vL = lv ∧ i ≤ T.length ∧ iv = .int .i64 i ∧ m = (preB T i 0).length ∧ wr.ownsRow N 181 3 vL m (cellsK (encB T) (preB T i 0)) ∧ Below N w wr) (fun _ iv _ => T.length - (Go.RowKit.intOf iv).toNat)
   case atStart => exact ⟨_, 0, 0, rfl, Nat.zero_le _, rfl, rfl, World.ownsRow_nil _ _ _ _, by rw [HNE.out]; exact Below.refl _ _⟩
   case round =>
    obtain ⟨w9, rfl⟩ : ∃ w9, w9 = wr := ⟨_, rfl⟩
    obtain ⟨vL, i, m, rfl, hi, rfl, hm, hown, hW⟩ := hrel
    by_cases hit : i < T.length
    · have di : decide (i < T.length) = true := decide_eq_true hit
      have di2 : decide ((i : Int) < (T.length : Int)) = true := decide_eq_true (by omega)
      obtain ⟨b, o, rfl, hb⟩ := HH.out.addr (by omega)
      have h2 := HH.out.below (by rw [← HNE.out]; exact hW)
      obtain ⟨Ar, cr, hc, hr, hrl⟩ := h2.at_ hit
      have hr40 := HT5.out i
      have HLEN : Hid ((T.getD i []).length = len T i) := rfl
      have HROW : Hid (∀ j, j < (T.getD i []).length → ∃ g p, Ar = some ⟨g, p, none⟩ ∧ g < w.heap.size ∧ w.cell? ⟨g, p + j, none⟩ = some (.int .i64 (entD T i j))) := fun j hj => by
       obtain ⟨Ar2, cr2, hc2, hr2, _⟩ := HH.out.at_ hit
       have e := (hW.cell (p := ⟨b, o + i, none⟩) (by rw [HNE.out]; exact hb)).trans hc2
       rw [hc] at e
       have e2 : Ar = Ar2 := by
        have := Option.some.inj e
        injection this
       rw [e2]
       obtain ⟨g, p, e3, hg⟩ := hr2.addr (by omega)
       rw [e3] at hr2
       exact ⟨g, p, e3, hg, getD_cell hr2 hj⟩
      obtain ⟨n, hn⟩ : ∃ n, n = (T.getD i []).length := ⟨_, rfl⟩
      rw [← hn] at hc hrl hr40 HLEN HROW
      have HO := Lib.hid hown
      have HM := Lib.hid hm
      have HW := Lib.hid hW
      clear hn hr h2 hown hm hW
      go_upto_region 9 with fail
      go_loopw [5, 27] (fun lv jv wz => ∃ (vL : Value) (j m : Nat), vL = lv ∧ j ≤ n ∧ jv = .int .i64 j ∧ m = (preB T i j).length ∧ wz.ownsRow N 181 3 vL m (cellsK (encB T) (preB T i j)) ∧ Below N w wz) (fun _ jv _ => n - (Go.RowKit.intOf jv).toNat)
      case atStart => exact ⟨_, 0, m, rfl, Nat.zero_le _, rfl, HM.out, HO.out, HW.out⟩
      case round =>
       obtain ⟨w8, rfl⟩ : ∃ w8, w8 = wr := ⟨_, rfl⟩
       clear HO HM HW hc m
       obtain ⟨vL, j, m, rfl, hj, rfl, hm, hown, hW⟩ := hrel
       by_cases hjn : j < n
       · have dj : decide (j < n) = true := decide_eq_true hjn
         have dj2 : decide ((j : Int) < (n : Int)) = true := decide_eq_true (by omega)
         obtain ⟨g, p, rfl, hg, hcx⟩ := HROW.out j hjn
         have hcx := (hW.cell (p := ⟨g, p + j, none⟩) (by rw [HNE.out]; exact hg)).trans hcx
         have hml : m < 1000000 := by have := HPL.out i j; omega
         have hnx : Hid (preB T i j ++ [(i, j)] = preB T i (j + 1)) := preB_next T i j
         have hmx : Hid (m + 1 = (preB T i (j + 1)).length) := by show _ = _; rw [← hnx.out, List.length_append, hm]; rfl
         have hNs : N ≤ w8.heap.size := by have := hW.size; have := HNE.out; omega
         obtain ⟨x, hx⟩ : ∃ x, x = entD T i j := ⟨_, rfl⟩
         rw [← hx] at hcx
         have HXE := Lib.hid hx
         have HO := Lib.hid hown
         have HW := Lib.hid hW
         clear hx hm hown hW
         go_upto_region 12 with (first | (at_builtin; rw [HXE.out]; refine wpList_appB (base := N) (U := T) (l := preB T i j) (v := vL) rfl (.tmp 32) (.tmp 37) rfl rfl (i, j) HO.out w8.heap.size rfl rfl hml hNs (fun g6 c6 w6 hown6 hb6 => ?_)) | fail)
         rw [hnx.out] at hown6
         have HO6 := Lib.hid hown6
         have HW6 := Lib.hid (HW.out.trans hb6)
         clear hown6 hb6 HO HW hcx
         go_wp2
         go_roundw
         case rel => exact ⟨_, j + 1, m + 1, rfl, by omega, by go_num, hmx.out, HO6.out, HW6.out⟩
         case measure => simp [Go.RowKit.intOf]; omega
       · have dj : decide (j < n) = false := decide_eq_false hjn
         have dj2 : decide ((j : Int) < (n : Int)) = false := decide_eq_false (by omega)
         have hjl : preB T i j = preB T (i + 1) 0 := by rw [show j = len T i by rw [← HLEN.out]; omega, preB_row]
         rw [hjl] at hm hown
         have HO := Lib.hid hown
         have HM := Lib.hid hm
         have HW := Lib.hid hW
         clear hjl hm hown hW
         go_wp2
         go_roundw
         case rel => exact ⟨_, i + 1, m, rfl, by omega, by go_num, HM.out, HO.out, HW.out⟩
         case measure => simp [Go.RowKit.intOf]; omega
    · have di : decide (i < T.length) = false := decide_eq_false hit
      have di2 : decide ((i : Int) < (T.length : Int)) = false := decide_eq_false (by omega)
      have hpa : preB T i 0 = allB T := by rw [show i = T.length by omega, preB_all]
      rw [hpa] at hm hown
      have hml : (allB T).length < 1000000 := by have := HPL.out i 0; rw [hpa] at this; omega
      have hNs : N ≤ w9.heap.size := by have := hW.size; have := HNE.out; omega
      rw [hm] at hown
      have HSB := Lib.hid (sortB_any (base := N) vL T HTO.out w9 hml hNs hown)
      have HW := Lib.hid hW
      clear hpa hown hW hml hm
      go_wp2_with (first | (go_at_call 173; refine HSB.out.mono ?_) | fail)
      rintro e w5 ⟨⟨rfl, hsb⟩, hb5⟩
      obtain ⟨L, hp, hs, hown⟩ := hsb
      have hW5 := HW.out.trans hb5
      have hTw := ftwin_any A cap T w5 (by omega) (fun i => by have := HT5.out i; omega) (HH.out.keep (by rw [← HNE.out]; exact hW5))
      have HTW := Lib.hid hTw
      have HW5 := Lib.hid hW5
      obtain ⟨AL, cL, rfl, hcl1, hcl2⟩ := own_sliceK hown
      have HO := Lib.hid hown
      have HPM := Lib.hid hp
      have HSO := Lib.hid hs
      clear hTw hW5 hown hp hs hb5 HSB HW
      go_upto_region 16 with (first | (go_at_call 176; refine HTW.out.mono ?_) | fail)
      rintro e w6 ⟨⟨v6, hs6, rfl, hm6⟩, hb6⟩
      have hm6' : OwnM w6 w5.heap.size v6 hs6 (mixS T L 0) := by rw [mixS_zero]; exact hm6
      obtain ⟨n, hn⟩ : ∃ n, n = L.length := ⟨_, rfl⟩
      have HN := Lib.hid hn
      rw [← hn] at HO hcl1 ⊢
      have HM6 := Lib.hid hm6'
      have HB6 := Lib.hid hb6
      clear hm6 hm6' hb6 hn HTW
      go_wp2
      go_loopw [47] (fun qv wz => ∃ q : Nat, q ≤ n ∧ qv = .int .i64 q ∧ OwnM wz w5.heap.size v6 hs6 (mixS T L q) ∧ Below w5.heap.size w5 wz) (fun qv _ => n - (Go.RowKit.intOf qv).toNat)
      case atStart => exact ⟨0, Nat.zero_le _, rfl, HM6.out, HB6.out⟩
      case round =>
       obtain ⟨w9, rfl⟩ : ∃ w9, w9 = wr := ⟨_, rfl⟩
       clear HM6 HB6
       obtain ⟨q, hq, rfl, hm, hW⟩ := hrel
       by_cases hqn : q < n
       · have dq : decide (q < n) = true := decide_eq_true hqn
         have dq2 : decide ((q : Int) < (n : Int)) = true := decide_eq_true (by omega)
         have hqL : q < L.length := by rw [← HN.out]; exact hqn
         obtain ⟨⟨i, j⟩, hij⟩ : ∃ b, b = L[q] := ⟨_, rfl⟩
         obtain ⟨hi, hj, hst⟩ := mixS_step HPM.out HSO.out hqL hij.symm
         obtain ⟨gL, rfl⟩ : ∃ g, AL = some ⟨g, 0, none⟩ := by
          obtain ⟨g, c, e1, _, _⟩ := HO.out.form (by omega)
          injection e1 with e2; exact ⟨g, e2⟩
         have hgL : gL < w5.heap.size := (HO.out.lt gL rfl).2
         obtain ⟨b1, b2, b3⟩ := boxes_at HO.out HN.out hqL hij.symm
         have b1 := (hW.cell (p := ⟨gL, q * 3, none⟩) hgL).trans b1
         have b2 := (hW.cell (p := ⟨gL, q * 3 + 1, none⟩) hgL).trans b2
         have b3 := (hW.cell (p := ⟨gL, q * 3 + 2, none⟩) hgL).trans b3
         obtain ⟨y, hy⟩ : ∃ y, y = entD T i j := ⟨_, rfl⟩
         rw [← hy] at b3
         have hjl : j < ((mixS T L q).getD i []).length := by have := mixS_len T L q i; unfold len at this; rw [this]; exact hj
         obtain ⟨R, hR⟩ : ∃ R, R = mixS T L q := ⟨_, rfl⟩
         have hRl : R.length = T.length := by rw [hR, mixS_length]
         rw [← hR] at hm hst hjl
         obtain ⟨G6, c6, e6, hG1, hG2⟩ := hm.out.form (by omega)
         rw [hRl] at e6
         subst e6
         have hNs : w5.heap.size ≤ w9.heap.size := hW.size
         obtain ⟨X, hX⟩ : ∃ X, X = w9.heap.size := ⟨_, rfl⟩
         obtain ⟨w8, hw8⟩ : ∃ w8, w8 = w9.alloc (.cells #[.int .i64 (i : Int), .int .i64 (j : Int), .int .i64 y] 181) := ⟨_, rfl⟩
         have hm8 : OwnM w8 w5.heap.size (.slice (some ⟨G6, 0, none⟩) T.length c6) hs6 R := by rw [hw8]; exact hm.alloc _
         have hW8 : Below w5.heap.size w5 w8 := by rw [hw8]; exact hW.alloc hNs _
         have x1 : w8.cell? ⟨X, 0, none⟩ = some (.int .i64 (i : Int)) := by rw [hw8, World.cell?_alloc_at _ _ _ _ hX]; rfl
         have x2 : w8.cell? ⟨X, 1, none⟩ = some (.int .i64 (j : Int)) := by rw [hw8, World.cell?_alloc_at _ _ _ _ hX]; rfl
         obtain ⟨gr, cr, hrv, hrc, hro, hr1, hr2⟩ := hm8.row (r := i) (by omega) (by omega)
         obtain ⟨RL, hRL⟩ : ∃ l, l = (R.getD i []).length := ⟨_, rfl⟩
         have hold := own_get hro (List.getElem?_eq_getElem hjl)
         obtain ⟨oldv, hov⟩ : ∃ z, z = (R.getD i [])[j] := ⟨_, rfl⟩
         rw [← hov] at hold
         have hfz := hro.frozenAt j
         have hset := (hm8.drewN 1).setIn (r := i) (by omega) hrv j ((q : Int) + 1)
         rw [hst] at hset
         have HSET := Lib.hid hset
         have HWS := Lib.hid ((below_drewN hW8 1).setCell (p := ⟨gr, j, none⟩) hr1 (.int .i64 ((q : Int) + 1)))
         have hjr : j < RL := by rw [hRL]; exact hjl
         have hil : i < T.length := by omega
         rw [← hRL] at hrc
         clear hm hst hrv hro hset hm8 hW8 hov hij hR hy hRL hjl hi hj hG1 hG2 hr1 hr2 hW hRl
         go_upto_region 19 with fail
         rw [← hX, ← hw8]
         clear hw8 hX b1 b2 b3
         go_still_tail 10, (by kernel_rfl)
         repeat still_step
         change wpList _ _ _ _ _ w8.drew
         go_wp2
         go_roundw
         case rel => exact ⟨q + 1, by omega, by go_num, HSET.out, HWS.out⟩
         case measure => simp [Go.RowKit.intOf]; omega
       · have dq : decide (q < n) = false := decide_eq_false hqn
         have dq2 : decide ((q : Int) < (n : Int)) = false := decide_eq_false (by omega)
         have hql : q = L.length := by rw [← HN.out]; omega
         rw [hql, mixS_all HPM.out] at hm
         have hf : Hid (StdR T w.heap.size (.returned (.tuple #[v6, .int .i64 0])) w9) := .inl ⟨HOK.out, v6, hs6, rfl, hm.lower (by have := HW5.out.size; have := HNE.out; omega)⟩
         have hbb : Hid (Below w.heap.size w w9) := by rw [← HNE.out]; exact HW5.out.trans (hW.mono (by have := HW5.out.size; have := HNE.out; omega))
         clear hm hW hql
         go_wp2
         go_ret2
         exact ⟨hf.out, hbb.out⟩
 · have dk : (k != 0) = true := by simpa using hk0
   have hf : Hid (StdR T w.heap.size (.returned (.tuple #[.slice none 0 0, .int .i64 k])) w) := .inr ⟨fun hh => hk0 (hk2 hh), k, hk0, rfl⟩
   clear hk1 hk2
   go_wp2
   go_ret2
   exact ⟨hf.out, Below.refl _ _⟩
end
end Go.Proofs.YtpmkdihencepnaaGreatDoor
