/-
  Rows of pairs in place: one set, all sorted.
-/
import Derived.Test.YtdmpbbgcifodeaaSorW
import Derived.Test.YtdmpbbgcifodeaaPaiL
import Derived.Test.YtdmpbbgcifodeaaBfsM
import Derived.Shelf.SlSortCmp.NoneTotal
import Derived.Ground.SlsfProg
import Derived.Lib.OwnBridge
import Derived.Lib.AppendIntMem
namespace Go.Proofs
open Go.Shelf
shelf_lay_g SlLaysF0.n6 Slsf 6 at Try 128 as Try.sortP
end Go.Proofs
namespace Go.Proofs.Ytdmpbbgcifodeaa
open Go.RowKit Go.Proofs
open Go.Shelf Go.Lib Go.Sort

def pcl (x : Int × Int) : List Value := [.int .i64 x.1, .int .i64 x.2]
theorem flat_pcells (m : List (Int × Int)) : flatK pcl 2 m.toArray = (pcells m).toArray := by
  have hl := pcells_len m
  refine ext_get! (by simp [hl]) fun t ht => ?_
  have ht' : t < m.length * 2 := by simpa using ht
  have hd : t / 2 < m.length := by omega
  rw [get_flatK _ _ _ _ (by simpa using ht')]
  obtain ⟨h1, h2⟩ := pcells_get hd
  have e0 : m.toArray[t / 2]! = m.getD (t / 2) (0, 0) := by
    rw [getElem!_pos _ _ (by simpa using hd)]
    simp [hd]
  rw [e0]
  rcases Nat.mod_two_eq_zero_or_one t with e | e
  · have et : t / 2 * 2 = t := by omega
    rw [et] at h1
    rw [e, getElem!_pos (pcells m).toArray t (by simp [hl]; omega)]
    obtain ⟨hh, h3⟩ := List.getElem?_eq_some_iff.1 h1
    simp only [List.getElem_toArray, h3]
    rfl
  · have et : t / 2 * 2 + 1 = t := by omega
    rw [et] at h2
    rw [e, getElem!_pos (pcells m).toArray t (by simp [hl]; omega)]
    obtain ⟨hh, h3⟩ := List.getElem?_eq_some_iff.1 h2
    simp only [List.getElem_toArray, h3]
    rfl
theorem holdsP {w : World} {base g cap n : Nat} {m : List (Int × Int)} (h : w.ownsRow base 81 2 (.slice (some ⟨g, 0, none⟩) n cap) n (pcells m)) : HoldsK pcl 2 w g 0 m.toArray := by
  unfold HoldsK
  rw [flat_pcells]
  intro j hj
  have hl := h.1
  rw [pcells_len] at hl
  have hj' : j < (pcells m).length := by simpa using hj
  refine ⟨?_, ?_⟩
  · rw [Nat.zero_add, h.cellAt j (by rw [pcells_len] at hj'; omega), List.getElem?_eq_getElem hj', getElem!_pos (pcells m).toArray j hj]
    rfl
  · rw [Nat.zero_add]; exact h.frozenAt j
theorem ownP {w : World} {base g cap n q : Nat} {m m' : List (Int × Int)} (h : w.ownsRow base 81 2 (.slice (some ⟨g, 0, none⟩) n cap) n (pcells m)) (hm : m'.length = m.length) :
    (putRowK pcl 2 (Sort.ahead w q) g 0 m'.toArray).ownsRow base 81 2 (.slice (some ⟨g, 0, none⟩) n cap) n (pcells m') := by
  have hl := h.1
  rw [pcells_len] at hl
  unfold putRowK
  rw [flat_pcells]
  rcases h.2 with ⟨e0, _⟩ | ⟨g', cap', cur, e0, hb, hg, hn, hmx, hs, ht⟩
  · cases e0
  · injection e0 with e1 _ e3
    injection e1 with e1
    injection e1 with e1
    subst e1; subst e3
    refine ⟨by rw [pcells_len]; omega, .inr ⟨g, cap, putCells id 0 (pcells m').toArray cur, rfl, hb, ?_, hn, hmx, by simpa [putCells] using hs, ?_⟩⟩
    · simp [putRow, mapBlock, Sort.ahead, Array.getElem?_modify, hg, onCells]
    · have hl2 := pcells_len m'
      apply List.ext_getElem?
      intro j
      rw [List.getElem?_take, Array.getElem?_toList]
      by_cases hj : j < n * 2
      · have hjc : j < cur.size := by omega
        rw [if_pos hj]
        simp only [putCells, Array.getElem?_mapIdx, Array.getElem?_eq_getElem hjc, Option.map_some]
        rw [if_pos (by simp; omega), List.getElem?_eq_getElem (by omega)]
        simp [getElem!_pos, show j < (pcells m').length by omega]
      · rw [if_neg hj, List.getElem?_eq_none (by omega)]

theorem pcells_set : ∀ (m : List (Int × Int)) (j : Nat) (y z : Int), ((pcells m).set (j * 2) (.int .i64 y)).set (j * 2 + 1) (.int .i64 z) = pcells (m.set j (y, z))
  | [], _, _, _ => rfl
  | x :: m, 0, y, z => rfl
  | x :: m, j + 1, y, z => by
    have e : (j + 1) * 2 = j * 2 + 1 + 1 := by omega
    have ih := pcells_set m j y z
    have e2 : pcells (x :: m) = .int .i64 x.1 :: .int .i64 x.2 :: pcells m := rfl
    have e3 : pcells ((x :: m).set (j + 1) (y, z)) = .int .i64 x.1 :: .int .i64 x.2 :: pcells (m.set j (y, z)) := rfl
    rw [e, e2, e3, List.set_cons_succ, List.set_cons_succ, List.set_cons_succ, List.set_cons_succ, ih]
theorem own_setP {w : World} {base n g cap : Nat} {m : List (Int × Int)} (h : w.ownsRow base 81 2 (.slice (some ⟨g, 0, none⟩) n cap) n (pcells m)) (j : Nat) (y z : Int) :
    ((w.setCell ⟨g, j * 2, none⟩ (.int .i64 y)).setCell ⟨g, j * 2 + 1, none⟩ (.int .i64 z)).ownsRow base 81 2 (.slice (some ⟨g, 0, none⟩) n cap) n (pcells (m.set j (y, z))) := by
  have := ((h.stored (j * 2) (.int .i64 y)).1.stored (j * 2 + 1) (.int .i64 z)).1
  rwa [pcells_set] at this

/-! The comparison. -/
theorem ltP (x y : Int × Int) : ltOf cfP x y = ltE x y := by
  unfold ltOf cfP ltE orP Lib.compareInt
  by_cases h1 : x.1 < y.1
  · simp [h1]
  · by_cases h2 : y.1 < x.1
    · have : ¬ x.1 = y.1 := by omega
      simp [h1, h2, this]
    · have h3 : x.1 = y.1 := by omega
      by_cases h4 : x.2 < y.2
      · simp [h3, h4]
      · by_cases h5 : y.2 < x.2 <;> simp [h3, h4, h5]
theorem ltE_iff (x y : Int × Int) : ltE x y = true ↔ x.1 < y.1 ∨ (x.1 = y.1 ∧ x.2 < y.2) := by unfold ltE; simp
theorem ltE_fal (x y : Int × Int) : ltE x y = false ↔ ¬ (x.1 < y.1 ∨ (x.1 = y.1 ∧ x.2 < y.2)) := by rw [← ltE_iff]; simp
theorem swoP : SWO (ltOf cfP) where
  irrefl x := by rw [ltP, ltE_fal]; omega
  trans x y z h1 h2 := by rw [ltP, ltE_iff] at *; omega
  ntrans x y z h1 h2 := by rw [ltP, ltE_fal] at *; omega
theorem totP (x y : Int × Int) (h1 : ltOf cfP x y = false) (h2 : ltOf cfP y x = false) : x = y := by
  rw [ltP, ltE_fal] at *
  obtain ⟨x1, x2⟩ := x
  obtain ⟨y1, y2⟩ := y
  simp only at h1 h2
  have a : x1 = y1 := by omega
  have b : x2 = y2 := by omega
  rw [a, b]
/-- What is sorted is EDGED. -/
theorem sort_edged (m : List (Int × Int)) : ((m.map nrm).mergeSort fun x y => !(ltOf cfP) y x) = edgedL m := by
  refine edged_of (List.mergeSort_perm _ _) ?_
  have := List.pairwise_mergeSort (le := fun x y : Int × Int => !(ltOf cfP) y x) (fun a b c h1 h2 => by
    simp only [Bool.not_eq_true'] at *
    exact swoP.ntrans c b a h2 h1) (fun a b => by
    cases h : ltOf cfP b a with
    | false => rfl
    | true =>
      have : ltOf cfP a b = false := by rw [ltP, ltE_iff] at h; rw [ltP, ltE_fal]; omega
      simp [this]) (m.map nrm)
  refine this.imp (fun {a b} h => ?_)
  simp only [Bool.not_eq_true'] at h
  rw [ltP] at h
  exact not_ltE_le (by rw [h]; decide)
theorem scmp_lays (blk off size : Nat) (w : World) : CmpLays Try.prog 129 #[] pcl 2 cfP blk off size w := fun m os dk _ x y => by
  refine (scmp_any x y _).mono ?_
  rintro e w' ⟨rfl, o1, o2, o3, rfl⟩
  refine ⟨rfl, 1, #[o1, o2, o3], ?_⟩
  obtain ⟨W, hW⟩ : ∃ W, W = sortWorldK pcl 2 w blk off m dk os := ⟨_, rfl⟩
  rw [← hW]
  show (((W.alloc o1).alloc o2).drewN 1).alloc o3 = { W.drewN 1 with heap := (W.drewN 1).heap ++ #[o1, o2, o3] }
  have : (W.drewN 1).heap ++ #[o1, o2, o3] = ((W.heap.push o1).push o2).push o3 := by
    show W.heap ++ #[o1, o2, o3] = _
    apply Array.ext'
    simp
  rw [this]; rfl
theorem own_grow {w : World} {base size n : Nat} {e : TypeId} {v : Value} {cs : List Value} (h : w.ownsRow base e size v n cs) (os : Array Obj) : (grow w os).ownsRow base e size v n cs := by
  refine ⟨h.1, ?_⟩
  rcases h.2 with hn | ⟨g, cap, cur, rfl, hg, hh, rest⟩
  · exact .inl hn
  · refine .inr ⟨g, cap, cur, rfl, hg, ?_, rest⟩
    rw [heap_grow_old _ _ (Array.getElem?_eq_some_iff.1 hh).1]; exact hh
theorem below_growK {w : World} {B g q : Nat} {F : Array Value} {os : Array Obj} (hg : B ≤ g) (hB : B ≤ w.heap.size) : Below B w (grow (putRow id (Sort.ahead w q) g 0 F) os) := by
  have h1 : Below B w (putRow id (Sort.ahead w q) g 0 F) := below_putRow (Below.refl _ _) hg
  exact h1.trans (below_grow B _ (by have := h1.size; omega) 0 os)
/-- slices.SortFunc of pairs. -/
theorem sortP_any {base : Nat} (v : Value) (m : List (Int × Int)) (w : World) (hn : m.length < 1000000) (hB : base ≤ w.heap.size) (h : w.ownsRow base 81 2 v m.length (pcells (m.map nrm))) :
    Calls Try.prog 128 #[v, .func (.func 129) #[] #[]] w fun e w' => (e = .returned (.tuple #[]) ∧ w'.ownsRow base 81 2 v m.length (pcells (edgedL m))) ∧ Below base w w' := by
  rcases h.2 with ⟨rfl, h0⟩ | ⟨g, cap, cur, rfl, hb, hh, hc⟩
  · have e : m = [] := List.eq_nil_of_length_eq_zero h0
    subst e
    have hS := AnyF.slices_SortFunc_none (P := Try.prog) (ρ := Try.sortP_ren) { Try.sortP with } none 0 (.func (.func 129) #[] #[]) w
    refine (show Calls _ _ _ _ _ from hS).mono ?_
    rintro e w' ⟨rfl, rfl⟩
    exact ⟨⟨rfl, h⟩, Below.refl _ _⟩
  · have hlt : g < w.heap.size := (Array.getElem?_eq_some_iff.1 hh).1
    have eg : ∀ args w, (callFunc 129 args).run Try.prog w = .ok (.enter 129 args) w := enters_of Try.func129 (by kernel_rfl) rfl
    have hS := AnyQ.slices_SortFunc_total Try.sortP 2 Try.isAgg81 Try.sizeOf81 pcl (fun _ => rfl) (fun x v hv => by simp [pcl] at hv; rcases hv with rfl | rfl <;> rfl) cfP swoP 129 #[] g 0 cap (m.map nrm).toArray w eg (scmp_lays g 0 _ w) (holdsP h) hlt (by simp; omega) totP
    have hsz : (m.map nrm).toArray.size = m.length := by simp
    rw [hsz, List.toList_toArray, sort_edged] at hS
    refine (show Calls _ _ _ _ _ from hS).mono ?_
    rintro e w' ⟨rfl, q, os, rfl⟩
    have hl : (edgedL m).length = (m.map nrm).length := by rw [(edged_perm m).length_eq]
    exact ⟨⟨rfl, own_grow (ownP h hl) os⟩, below_growK hb hB⟩
end Go.Proofs.Ytdmpbbgcifodeaa
