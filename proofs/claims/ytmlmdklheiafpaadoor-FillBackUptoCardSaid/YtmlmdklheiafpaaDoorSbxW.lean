/-
  fill.Standard: its comparison of boxes, and boxes sorted by it.
-/
import Derived.Test.YtmlmdklheiafpaaDoorBoxL
import Derived.Test.YtmlmdklheiafpaaDoorFChkW
namespace Go.Proofs
open Go.Shelf
shelf_lay_g SlLaysF0.n6 Slsf 6 at Tryd 14 as Tryd.sortB
end Go.Proofs
namespace Go.Proofs.YtmlmdklheiafpaaDoor
open Go.RowKit Go.Proofs
open Go.Shelf Go.Lib Go.Sort Std1

/-- A box' cells: row, column, letter. -/
def encB (T : List (List Int)) (b : Nat × Nat) : List Value := [.int .i64 b.1, .int .i64 b.2, .int .i64 (ent T b.1 b.2)]
def cfB (T : List (List Int)) (x y : Nat × Nat) : Int := orP (Lib.compareInt (ent T x.1 x.2) (ent T y.1 y.2)) (Lib.compareInt x.2 y.2)
theorem ltB (T : List (List Int)) (x y : Nat × Nat) : ltOf (cfB T) x y = less T x y := by
  unfold ltOf cfB less orP Lib.compareInt
  by_cases h1 : ent T x.1 x.2 < ent T y.1 y.2
  · simp [h1]
  · by_cases h2 : ent T y.1 y.2 < ent T x.1 x.2
    · have : ¬ ent T x.1 x.2 = ent T y.1 y.2 := by omega
      simp [h1, h2, this]
    · have h3 : ent T x.1 x.2 = ent T y.1 y.2 := by omega
      by_cases h4 : x.2 < y.2
      · have h4' : (x.2 : Int) < (y.2 : Int) := by omega
        simp [h3, h4, h4']
      · have h4' : ¬ (x.2 : Int) < (y.2 : Int) := by omega
        by_cases h5 : (y.2 : Int) < (x.2 : Int) <;> simp [h3, h4, h4', h5]
theorem less_fal {T : List (List Int)} {x y : Nat × Nat} : less T x y = false ↔ ¬ (ent T x.1 x.2 < ent T y.1 y.2 ∨ (ent T x.1 x.2 = ent T y.1 y.2 ∧ x.2 < y.2)) := by rw [← less_iff]; simp
theorem swoB (T : List (List Int)) : SWO (ltOf (cfB T)) where
  irrefl x := by rw [ltB]; exact less_irrefl
  trans x y z h1 h2 := by rw [ltB] at *; exact less_trans h1 h2
  ntrans x y z h1 h2 := by rw [ltB, less_fal] at *; omega

set_option maxRecDepth 100000 in
set_option maxHeartbeats 2000000 in
theorem bcmp_any (T : List (List Int)) (x y : Nat × Nat) (w : World) : Calls Tryd.prog 15 #[.agg (encB T x).toArray, .agg (encB T y).toArray] w fun e w' => e = .returned (.int .i64 (cfB T x y)) ∧ ∃ o1 o2 o3, w' = (((w.alloc o1).alloc o2).drewN 1).alloc o3 := by
  obtain ⟨x0, x1⟩ := x
  obtain ⟨y0, y1⟩ := y
  obtain ⟨x2, hx2'⟩ : ∃ z, z = ent T x0 x1 := ⟨_, rfl⟩
  obtain ⟨y2, hy2'⟩ : ∃ z, z = ent T y0 y1 := ⟨_, rfl⟩
  have hc : Hid (cfB T (x0, x1) (y0, y1) = orP (Lib.compareInt x2 y2) (Lib.compareInt x1 y1)) := by show _ = _; rw [hx2', hy2']; rfl
  rw [hc.out]
  unfold encB
  simp only
  rw [← hx2', ← hy2']
  obtain ⟨c1, hc1⟩ : ∃ c, c = Lib.compareInt x2 y2 := ⟨_, rfl⟩
  obtain ⟨c2, hc2⟩ : ∃ c, c = Lib.compareInt (x1 : Int) y1 := ⟨_, rfl⟩
  have H1 : Hid (∀ w, Calls Tryd.prog 17 #[.int .i64 x2, .int .i64 y2] w fun e w' => e = .returned (.int .i64 c1) ∧ w = w') := Lib.hid fun w => by rw [hc1]; exact cmp_any x2 y2 w
  have H2 : Hid (∀ w, Calls Tryd.prog 17 #[.int .i64 (x1 : Int), .int .i64 (y1 : Int)] w fun e w' => e = .returned (.int .i64 c2) ∧ w = w') := Lib.hid fun w => by rw [hc2]; exact cmp_any x1 y1 w
  rw [← hc1, ← hc2]
  clear hc hc1 hc2 hx2' hy2'
  obtain ⟨z0, hz0'⟩ : ∃ z : Int, z = x0 := ⟨_, rfl⟩
  obtain ⟨z1, hz1'⟩ : ∃ z : Int, z = x1 := ⟨_, rfl⟩
  obtain ⟨v0, hv0'⟩ : ∃ z : Int, z = y0 := ⟨_, rfl⟩
  obtain ⟨v1, hv1'⟩ : ∃ z : Int, z = y1 := ⟨_, rfl⟩
  rw [← hz1', ← hv1'] at H2
  rw [← hz0', ← hz1', ← hv0', ← hv1']
  clear hz0' hz1' hv0' hv1'
  show Calls Tryd.prog 15 #[.agg #[.int .i64 z0, .int .i64 z1, .int .i64 x2], .agg #[.int .i64 v0, .int .i64 v1, .int .i64 y2]] w _
  go_enter Tryd.func15, Tryd.ntmps15
  go_upto_region 1 with fail
  obtain ⟨w2, hw2⟩ : ∃ w2, w2 = (w.alloc (.cells #[.int .i64 z0, .int .i64 z1, .int .i64 x2] 44)).alloc (.cells #[.int .i64 v0, .int .i64 v1, .int .i64 y2] 44) := ⟨_, rfl⟩
  have s1 : (w.alloc (.cells #[.int .i64 z0, .int .i64 z1, .int .i64 x2] 44)).heap.size = w.heap.size + 1 := by simp
  have hx1 : w2.cell? ⟨w.heap.size, 1, none⟩ = some (.int .i64 z1) := by
    rw [hw2, World.cell?_of_block (a := ⟨w.heap.size, 1, none⟩) (heap_alloc_old _ _ (by simp)), World.cell?_alloc_at _ _ _ _ rfl]; rfl
  have hx2 : w2.cell? ⟨w.heap.size, 2, none⟩ = some (.int .i64 x2) := by
    rw [hw2, World.cell?_of_block (a := ⟨w.heap.size, 2, none⟩) (heap_alloc_old _ _ (by simp)), World.cell?_alloc_at _ _ _ _ rfl]; rfl
  have hy1 : w2.cell? ⟨w.heap.size + 1, 1, none⟩ = some (.int .i64 v1) := by rw [hw2, World.cell?_alloc_at _ _ _ _ s1.symm]; rfl
  have hy2 : w2.cell? ⟨w.heap.size + 1, 2, none⟩ = some (.int .i64 y2) := by rw [hw2, World.cell?_alloc_at _ _ _ _ s1.symm]; rfl
  obtain ⟨N, hN⟩ : ∃ N, N = w.heap.size := ⟨_, rfl⟩
  have hf : Hid (∃ o1 o2, w2 = (w.alloc o1).alloc o2) := ⟨_, _, hw2⟩
  rw [← hw2]
  rw [← hN] at hx1 hx2 hy1 hy2 ⊢
  clear hw2 hN s1
  have k1 : w2.drew.cell? ⟨N, 1, none⟩ = some (.int .i64 z1) := hx1
  have k2 : w2.drew.cell? ⟨N, 2, none⟩ = some (.int .i64 x2) := hx2
  have k3 : w2.drew.cell? ⟨N + 1, 1, none⟩ = some (.int .i64 v1) := hy1
  have k4 : w2.drew.cell? ⟨N + 1, 2, none⟩ = some (.int .i64 y2) := hy2
  have HOR : Hid (∀ o w3, w3 = w2.drew.alloc (.cells #[.int .i64 c1, .int .i64 c2] o) → Calls Tryd.prog 16 #[.slice (some ⟨w2.heap.size, 0, none⟩) 2 2] w3 fun e w' => e = .returned (.int .i64 (orP c1 c2)) ∧ w3 = w') := Lib.hid fun o w3 h3 => by
    subst h3
    refine or_any _ 2 c1 c2 _ ?_ ?_
    · show (w2.drew.alloc _).cell? ⟨w2.drew.heap.size, 0, none⟩ = _; rw [World.cell?_alloc_at _ _ _ _ rfl]; rfl
    · show (w2.drew.alloc _).cell? ⟨w2.drew.heap.size, 1, none⟩ = _; rw [World.cell?_alloc_at _ _ _ _ rfl]; rfl
  go_wp2
  go_region_held3 (fun w' => w'.cell? ⟨N, 1, none⟩ = some (.int .i64 z1) ∧ w'.cell? ⟨N, 2, none⟩ = some (.int .i64 x2) ∧ w'.cell? ⟨N + 1, 1, none⟩ = some (.int .i64 v1) ∧ w'.cell? ⟨N + 1, 2, none⟩ = some (.int .i64 y2)) (first | go_keep | exact ⟨hx1, hx2, hy1, hy2⟩)
    (first | (go_at_call_of 17 (Value.int .i64 x2); refine (H1.out _).mono ?_; rintro e w' ⟨rfl, rfl⟩) | (go_at_call_of 17 (Value.int .i64 z1); refine (H2.out _).mono ?_; rintro e w' ⟨rfl, rfl⟩) | (go_at_call 16; refine (HOR.out _ _ rfl).mono ?_; rintro e w' ⟨rfl, rfl⟩) | fail)
  all_goals
    go_wp2
    go_ret
    obtain ⟨o1, o2, h⟩ := hf.out
    refine ⟨rfl, o1, o2, .cells #[.int .i64 c1, .int .i64 c2] 3, ?_⟩
    rw [h]; rfl
theorem bcmp_lays (T : List (List Int)) (blk off size : Nat) (w : World) : CmpLays Tryd.prog 15 #[] (encB T) 3 (cfB T) blk off size w := fun m os dk _ x y => by
  refine (bcmp_any T x y _).mono ?_
  rintro e w' ⟨rfl, o1, o2, o3, rfl⟩
  refine ⟨rfl, 1, #[o1, o2, o3], ?_⟩
  obtain ⟨W, hW⟩ : ∃ W, W = sortWorldK (encB T) 3 w blk off m dk os := ⟨_, rfl⟩
  rw [← hW]
  show (((W.alloc o1).alloc o2).drewN 1).alloc o3 = { W.drewN 1 with heap := (W.drewN 1).heap ++ #[o1, o2, o3] }
  have : (W.drewN 1).heap ++ #[o1, o2, o3] = ((W.heap.push o1).push o2).push o3 := by
    show W.heap ++ #[o1, o2, o3] = _
    apply Array.ext'
    simp
  rw [this]; rfl
/-- Boxes sorted. -/
def SbxOut (T : List (List Int)) (base : Nat) (v : Value) (w' : World) : Prop := ∃ L : List (Nat × Nat), L.Perm (allB T) ∧ L.Pairwise (fun b c => less T b c = true) ∧ w'.ownsRow base 44 3 v L.length (cellsK (encB T) L)
theorem sortB_any {base : Nat} (v : Value) (T : List (List Int)) (hT : TOk T) (w : World) (hn : (allB T).length < 1000000) (hB : base ≤ w.heap.size) (h : w.ownsRow base 44 3 v (allB T).length (cellsK (encB T) (allB T))) :
    Calls Tryd.prog 14 #[v, .func (.func 15) #[] #[]] w fun e w' => (e = .returned (.tuple #[]) ∧ SbxOut T base v w') ∧ Below base w w' := by
  have hk : ∀ x, (encB T x).length = 3 := fun _ => rfl
  rcases h.2 with ⟨rfl, h0⟩ | ⟨g, cap, cur, rfl, hb, hh, hc⟩
  · have e : allB T = [] := List.eq_nil_of_length_eq_zero h0
    have hS := AnyF.slices_SortFunc_none (P := Tryd.prog) (ρ := Tryd.sortB_ren) { Tryd.sortB with } none 0 (.func (.func 15) #[] #[]) w
    refine (show Calls _ _ _ _ _ from hS).mono ?_
    rintro e' w' ⟨rfl, rfl⟩
    exact ⟨⟨rfl, [], by rw [e], List.Pairwise.nil, World.ownsRow_nil _ _ _ _⟩, Below.refl _ _⟩
  · have hlt : g < w.heap.size := (Array.getElem?_eq_some_iff.1 hh).1
    have eg : ∀ args w, (callFunc 15 args).run Tryd.prog w = .ok (.enter 15 args) w := enters_of Tryd.func15 (by kernel_rfl) rfl
    have hS := AnyQ.slices_SortFunc Tryd.sortB 3 Tryd.isAgg44 Tryd.sizeOf44 (encB T) hk (fun x v hv => by simp [encB] at hv; rcases hv with rfl | rfl | rfl <;> rfl) (cfB T) (swoB T) 15 #[] g 0 cap (allB T).toArray w eg (bcmp_lays T g 0 _ w) (holdsKm hk (by decide) h) hlt (by simp; omega)
    have hsz : (allB T).toArray.size = (allB T).length := by simp
    rw [hsz] at hS
    refine (show Calls _ _ _ _ _ from hS).mono ?_
    rintro e w' ⟨rfl, d', q, os, hp, hs, rfl⟩
    obtain ⟨hsz2, _, hperm⟩ := hp
    have hsd : d'.size = (allB T).length := by rw [hsz2]; simp
    have hp2 : d'.toList.Perm (allB T) := by
      have e1 : d'.extract 0 (allB T).length = d' := by rw [← hsd]; exact Array.extract_size
      have e2 : (allB T).toArray.extract 0 (allB T).length = (allB T).toArray := by
        rw [← hsz]; exact Array.extract_size
      rw [e1, e2] at hperm
      exact hperm
    refine ⟨⟨rfl, d'.toList, hp2, ?_, ?_⟩, below_growK hb hB⟩
    · rw [List.pairwise_iff_getElem]
      intro i j hi hj hij
      have hi' : i < d'.size := by simpa using hi
      have hj' : j < d'.size := by simpa using hj
      have h3 := hs i j (Nat.zero_le _) hij (by rw [← hsd]; exact hj')
      rw [getElem!_pos d' i hi', getElem!_pos d' j hj', ltB] at h3
      have hnd : d'.toList.Nodup := hp2.nodup_iff.2 (nodup_allB T)
      have hne : d'.toList[i] ≠ d'.toList[j] := fun e => by
        have := (List.getElem_inj hnd).1 e
        omega
      rcases hT.total (hp2.mem_iff.1 (List.getElem_mem hi)) (hp2.mem_iff.1 (List.getElem_mem hj)) hne with g | g
      · exact g
      · rw [show d'.toList[j] = d'[j] from by simp, show d'.toList[i] = d'[i] from by simp] at g
        rw [h3] at g
        cases g
    · rw [hp2.length_eq]
      have := own_grow (ownKm (q := q) (m' := d'.toList) hk (by decide) h hp2.length_eq) os
      rw [Array.toArray_toList] at this
      exact this
end Go.Proofs.YtmlmdklheiafpaaDoor
