/-
  parts.fallen: slices.SortFunc off the shelf, the greatest first.
-/
import Derived.Test.YtdmpbbgcifodeaaPart1W
import Derived.Test.YtdmpbbgcifodeaaEulM
import Derived.Shelf.SlSortCmp.NoneTotal
import Derived.Shelf.SlicesG.Cmp
import Derived.Shelf.Lay
import Derived.Ground.SlsfProg
import Derived.Ground.SlgcProg
import Derived.Sort.OwnSortedInts
namespace Go.Proofs
open Go.Shelf
shelf_lay_g SlLaysF.n6 Slsf 6 at Try 125 as Try.sortL
shelf_lay_g SlLaysC2.n5 Slgc 5 at Try 127 as Try.cmpL
end Go.Proofs
namespace Go.Proofs.Ytdmpbbgcifodeaa
open Go.RowKit Go.Proofs
open Go.Shelf Go.Lib Go.Sort

/-- The comparison: the other way round. -/
def cfD (x y : Int) : Int := Lib.compareInt y x
theorem ltD (x y : Int) : ltOf cfD x y = decide (y < x) := by
  unfold ltOf cfD Lib.compareInt
  by_cases h1 : y < x
  · simp [h1]
  · by_cases h2 : x < y <;> simp [h1, h2]
theorem swoD : SWO (ltOf cfD) where
  irrefl x := by rw [ltD]; simp
  trans x y z h1 h2 := by rw [ltD] at *; simp at *; omega
  ntrans x y z h1 h2 := by rw [ltD] at *; simp at *; omega
theorem totD (x y : Int) (h1 : ltOf cfD x y = false) (h2 : ltOf cfD y x = false) : x = y := by rw [ltD] at *; simp at *; omega
theorem geD : (fun x y : Int => !ltOf cfD y x) = fun x y => decide (y ≤ x) := by
  funext x y
  rw [ltD]
  by_cases h : y ≤ x
  · have h' : ¬ x < y := by omega
    simp [h, h']
  · have h' : x < y := by omega
    simp [h, h']

set_option maxHeartbeats 1000000 in
theorem fcmp_any (x y : Int) (W : World) : Calls Try.prog 126 #[.int .i64 x, .int .i64 y] W fun e w' => e = .returned (.int .i64 (cfD x y)) ∧ ∃ q, w' = W.drewN q := by
  have hcon := AnyG.cmp_Compare_int Try.cmpL y x W
  change Calls Try.prog 127 _ _ _ at hcon
  unfold cfD
  generalize Lib.compareInt y x = r at hcon ⊢
  go_enter Try.func126, Try.ntmps126
  go_wp2_with (first | (go_at_call 127; refine hcon.mono ?_; rintro e w' ⟨rfl, rfl⟩) | fail)
  go_ret
  exact ⟨rfl, 0, rfl⟩

theorem fcmp_reads (blk off size : Nat) (w : World) : CmpReads Try.prog 126 #[] (Value.int .i64) cfD blk off size w := fun _ _ _ _ x y => fcmp_any x y _

set_option maxHeartbeats 1000000 in
/-- In order, the greatest first, in place. -/
theorem fallen_any {base n : Nat} {v : Value} {zs : List Int} (w : World) (h : w.ownsRow base 3 1 v n (ints zs)) (hn : n < 1000000) :
    Calls Try.prog 92 #[v] w fun e w' => e = .returned v ∧ w'.ownsRow base 3 1 v n (ints (sortD zs)) ∧ w.grownBy w' v.ownBlock := by
  rcases h.2 with ⟨e1, e2⟩ | ⟨g, cap, cur, e1, hg, hh, hc1, hc2, hc3, hc4⟩
  · subst e1 e2
    have hz : zs = [] := List.eq_nil_of_length_eq_zero (by have := h.1; rw [ints_length] at this; omega)
    subst hz
    have hS := fun W => AnyF.slices_SortFunc_none (P := Try.prog) (ρ := Try.sortL_ren) { Try.sortL with } none 0 (.func (.func 126) #[] #[]) W
    change ∀ W, Calls Try.prog 125 _ _ _ at hS
    go_enter Try.func92, Try.ntmps92
    go_wp2_with (first | (go_at_call 125; refine (hS _).mono ?_; rintro e w' ⟨rfl, rfl⟩) | fail)
    go_ret
    exact ⟨rfl, by simpa [sortD] using h, World.grownBy.refl _ _⟩
  · subst e1
    have hl : zs.length = n := by have := h.1; rw [ints_length] at this; omega
    subst hl
    have hlt : g < w.heap.size := (Array.getElem?_eq_some_iff.1 hh).1
    have eg : ∀ args w, (callFunc 126 args).run Try.prog w = .ok (.enter 126 args) w := enters_of Try.func126 (by kernel_rfl) rfl
    have hS := Any.slices_SortFunc_total Try.sortL (Value.int .i64) (fun _ => rfl) cfD swoD 126 #[] g 0 cap zs.toArray w eg (fcmp_reads g 0 zs.toArray.size w).lays (holds_of_blockI hh (by simpa [ints] using hc4)) hlt (by simp; omega) totD
    rw [geD] at hS
    change Calls Try.prog 125 _ _ _ at hS
    have hsz : zs.toArray.size = zs.length := by simp
    have htl : zs.toArray.toList = zs := by simp
    rw [hsz, htl] at hS
    have HS := Lib.hid hS
    have HO : Hid (∀ q os, (grow (putRow (Value.int .i64) (Sort.ahead w q) g 0 (sortD zs).toArray) os).ownsRow base 3 1 (.slice (some ⟨g, 0, none⟩) zs.length cap) zs.length (ints (sortD zs))) := fun q os => ownsRow_sortedI (by unfold sortD; simp) hg hh hc1 hc2 hc3
    clear hS hsz htl hh hc3 hc4
    go_enter Try.func92, Try.ntmps92
    go_wp2_with (first | (go_at_call 125; refine HS.out.mono ?_; rintro e w' ⟨rfl, q, os, rfl⟩) | fail)
    go_ret
    exact ⟨rfl, HO.out q os, grownBy_sortedI _⟩
end Go.Proofs.Ytdmpbbgcifodeaa
