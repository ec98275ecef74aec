/-
  Rows of ints as pairs of value and content: slices.SortFunc by slices.Compare, off the shelf.
-/
import Derived.Shelf.SlSortCmp.NoneTotal
import Derived.Ground.SlsfProg
import Derived.Lib.OwnBridge
import Derived.Deep.RegionHeld3
import Derived.Test.YtpmkdihencepnaaGreatMg01
import Derived.Test.YtpmkdihencepnaaGreatMg02
import Derived.Test.YtpmkdihencepnaaGreatMg05
import Derived.Test.YtpmkdihencepnaaGreatMg09
import Derived.Test.YtpmkdihencepnaaGreatMg11
import Derived.Test.YtpmkdihencepnaaGreatMg17
import Derived.Test.YtpmkdihencepnaaGreatMg18
import Derived.Test.YtpmkdihencepnaaGreatMg22
namespace Go.Proofs
open Go.Shelf
shelf_lay_g SlLaysF.n6 Slsf 6 at Tryz 53 as Tryz.sortR
end Go.Proofs
namespace Go.Proofs.YtpmkdihencepnaaGreat
open Go.RowKit Go.Proofs
open Go.Shelf

/-- Rows that the call owns: each its value and its content. -/
structure RowZ (w : World) (B : Nat) (v : Value) (zs : List (Value × List Int)) : Prop where
  out : w.ownsRow B 22 1 v zs.length (zs.map (·.1))
  inn : ∀ z ∈ zs, w.ownsRow B 3 1 z.1 z.2.length (ints z.2)
  far : zs.Pairwise (fun a b => Far a.1 b.1)
  top : ∀ z ∈ zs, Far v z.1
theorem map_getD {α β : Type} {f : α → β} {zs : List α} {r : Nat} {d : β} (h : r < zs.length) : (zs.map f).getD r d = f zs[r] := by
  rw [List.getD_eq_getElem?_getD, List.getElem?_map, List.getElem?_eq_getElem h]; rfl
theorem RowZ.m {w : World} {B : Nat} {v : Value} {zs : List (Value × List Int)} (h : RowZ w B v zs) : OwnM w B v (zs.map (·.1)) (zs.map (·.2)) := by
  refine ⟨by simp, by rw [List.length_map]; exact h.out, fun r hr => ?_, fun r s hr hs hne => ?_, fun r hr => ?_⟩
  · rw [List.length_map] at hr
    rw [map_getD hr, map_getD hr]
    exact h.inn _ (List.getElem_mem hr)
  · rw [List.length_map] at hr hs
    rw [map_getD hr, map_getD hs]
    have hp := List.pairwise_iff_getElem.1 h.far
    by_cases c : r < s
    · exact hp r s hr hs c
    · exact (hp s r hs hr (by omega)).symm
  · rw [List.length_map] at hr
    rw [map_getD hr]
    exact h.top _ (List.getElem_mem hr)
theorem OwnM.z {w : World} {B : Nat} {v : Value} {hs : List Value} {rows : List (List Int)} (h : OwnM w B v hs rows) : ∃ zs : List (Value × List Int), RowZ w B v zs ∧ zs.map (·.1) = hs ∧ zs.map (·.2) = rows := by
  have hl := h.len
  have e1 : (hs.zip rows).map (·.1) = hs := List.map_fst_zip (by omega)
  have e2 : (hs.zip rows).map (·.2) = rows := List.map_snd_zip (by omega)
  have hz : (hs.zip rows).length = rows.length := by rw [List.length_zip]; omega
  have hg : ∀ r (hr : r < (hs.zip rows).length), (hs.zip rows)[r] = (hs.getD r undef, rows.getD r []) := fun r hr => by
    rw [List.getElem_zip, getD_get (by omega), getD_get (by omega)]
  refine ⟨hs.zip rows, ⟨by rw [e1, hz]; exact h.out, fun z hz2 => ?_, ?_, fun z hz2 => ?_⟩, e1, e2⟩
  · obtain ⟨r, hr, rfl⟩ := List.getElem_of_mem hz2
    rw [hg]
    exact h.inn r (by omega)
  · rw [List.pairwise_iff_getElem]
    intro i j hi hj hij
    rw [hg, hg]
    exact h.far i j (by omega) (by omega) (by omega)
  · obtain ⟨r, hr, rfl⟩ := List.getElem_of_mem hz2
    rw [hg]
    exact h.top r (by omega)
/-- A row that reads, beside block G. -/
def RowRd (w : World) (G : Nat) (z : Value × List Int) : Prop := ∃ A c, z.1 = .slice A z.2.length c ∧ z.2.length ≤ 9223372036854775807 ∧ Sl w w.heap.size A (ints z.2) ∧ ∀ b o, A = some ⟨b, o, none⟩ → b ≠ G
theorem RowZ.rd {w : World} {B G n c : Nat} {zs : List (Value × List Int)} (h : RowZ w B (.slice (some ⟨G, 0, none⟩) n c) zs) : ∀ z ∈ zs, RowRd w G z := fun z hz => by
  obtain ⟨A, c', e, _, hs, h1, h2⟩ := own_sliceA (h.inn z hz)
  refine ⟨A, c', e, by omega, hs, fun b o hA hb => ?_⟩
  have := h.top z hz G rfl
  rw [e, hA, hb] at this
  exact this rfl
theorem RowRd.fr {w w' : World} {G : Nat} {z : Value × List Int} (h : RowRd w G z) (hf : Fr w w' (fun k => k = G)) : RowRd w' G z := by
  obtain ⟨A, c, e, hl, hs, hG⟩ := h
  refine ⟨A, c, e, hl, fun hp => ?_, hG⟩
  obtain ⟨b, o, hA, hb, hc⟩ := hs hp
  refine ⟨b, o, hA, by have := hf.size; omega, fun k u hk => ?_⟩
  rw [World.cell?_of_block (hf.block b hb (hG b o hA))]
  exact hc k u hk
/-- The same rows, where a world has turned in block G alone. -/
theorem RowZ.fr {w w' : World} {B G n c : Nat} {zs zs' : List (Value × List Int)} (h : RowZ w B (.slice (some ⟨G, 0, none⟩) n c) zs) (hf : Fr w w' (fun k => k = G)) {n' : Nat} (ho : w'.ownsRow B 22 1 (.slice (some ⟨G, 0, none⟩) n' c) zs'.length (zs'.map (·.1)))
    (hm : ∀ z ∈ zs', z ∈ zs) (hfar : zs'.Pairwise (fun a b => Far a.1 b.1)) : RowZ w' B (.slice (some ⟨G, 0, none⟩) n' c) zs' :=
  ⟨ho, fun z hz => own_same (h.inn z (hm z hz)) (fun k hk => hf.block k ((h.inn z (hm z hz)).lt k hk).2 (fun e => h.top z (hm z hz) G rfl (by rw [← e]; exact hk))), hfar, fun z hz => by
    intro k hk
    obtain rfl : G = k := by simpa [Value.ownBlock] using hk
    exact h.top z (hm z hz) G rfl⟩

/-! ### the sort -/
def RzT (w : World) (G : Nat) : Type := { z : Value × List Int // RowRd w G z }
instance (w : World) (G : Nat) : Inhabited (RzT w G) := ⟨⟨(.slice none 0 0, []), none, 0, rfl, by simp, Sl.nil _ _ _, fun b o e => by cases e⟩⟩
def encR {w : World} {G : Nat} (x : RzT w G) : Value := x.1.1
def cfR {w : World} {G : Nat} (x y : RzT w G) : Int := lexC x.1.2 y.1.2
theorem oneR {w : World} {G : Nat} (x : RzT w G) : (encR x).oneCell' = true := by
  obtain ⟨A, c, e, _⟩ := x.2
  show x.1.1.oneCell' = true
  rw [e]; rfl
theorem ltR {w : World} {G : Nat} (x y : RzT w G) : ltOf cfR x y = decide (lexC x.1.2 y.1.2 < 0) := rfl
theorem swoR {w : World} {G : Nat} : Sort.SWO (ltOf (cfR (w := w) (G := G))) where
  irrefl x := by rw [ltR, lexC_self]; rfl
  trans x y z h1 h2 := by rw [ltR] at *; exact decide_eq_true (lexC_trans (of_decide_eq_true h1) (of_decide_eq_true h2))
  ntrans x y z h1 h2 := by rw [ltR] at *; exact decide_eq_false (lexC_le_trans (of_decide_eq_false h2) (of_decide_eq_false h1))
theorem fr_sort {w : World} {G m : Nat} (dk : Array (RzT w G)) (os : Array Obj) : Fr w (sortWorld encR w G 0 m dk os) (fun k => k = G) := by
  refine ⟨by simp [sortWorld, Sort.grow, Sort.putRow, Sort.mapBlock, Sort.ahead], fun k hk hn => ?_⟩
  unfold sortWorld
  rw [Sort.heap_grow_old _ _ (by simpa [Sort.putRow, Sort.mapBlock, Sort.ahead] using hk)]
  simp [Sort.putRow, Sort.mapBlock, Sort.ahead, Array.getElem?_modify, Ne.symm hn]
theorem grownBy_sort {w : World} {G m : Nat} (dk : Array (RzT w G)) (os : Array Obj) : w.grownBy (sortWorld encR w G 0 m dk os) (some G) :=
  ⟨rfl, rfl, rfl, (fr_sort dk os).size, fun k hk hne => (fr_sort dk os).block k hk (fun e => hne (by rw [e]))⟩
theorem cmpR_lays {w : World} {G size : Nat} : CmpLays1 Tryz.prog 54 #[] (encR (w := w) (G := G)) cfR G 0 size w := fun m os dk _ x y => by
  obtain ⟨A, c, e, hl, hs, _⟩ := x.2.fr (fr_sort (m := m) dk os)
  obtain ⟨A', c', e', hl', hs', _⟩ := y.2.fr (fr_sort (m := m) dk os)
  have h := compare_any A A' c c' x.1.2 y.1.2 (sortWorld encR w G 0 m dk os) hl hl' hs hs'
  rw [← e, ← e'] at h
  refine (show Calls _ _ _ _ _ from h).mono ?_
  rintro e w' ⟨rfl, rfl⟩
  exact ⟨rfl, 0, #[], by rw [Sort.grow_empty]; rfl⟩

theorem sortR_any {B : Nat} (v : Value) (zs : List (Value × List Int)) (w : World) (hB : B ≤ w.heap.size) (h : RowZ w B v zs) (hn : zs.length < 1000000) :
    Calls Tryz.prog 53 #[v, .func (.func 54) #[] #[]] w fun e w' => (e = .returned (.tuple #[]) ∧ ∃ zs', RowZ w' B v zs' ∧ zs'.Perm zs ∧ zs'.Pairwise (fun a b => ¬ lexC b.2 a.2 < 0)) ∧ Below B w w' ∧ w.grownBy w' v.ownBlock := by
  rcases h.out.2 with ⟨rfl, h0⟩ | ⟨G, cap, cur, rfl, hG, hh, hn1, hn2, hn3, hn4⟩
  · have hz : zs = [] := List.eq_nil_of_length_eq_zero h0
    subst hz
    refine (show Calls _ _ _ _ _ from AnyF.slices_SortFunc_none (P := Tryz.prog) (ρ := Tryz.sortR_ren) { Tryz.sortR with } none 0 (.func (.func 54) #[] #[]) w).mono ?_
    rintro e w' ⟨rfl, rfl⟩
    exact ⟨⟨rfl, [], h, .refl _, .nil⟩, Below.refl _ _, World.grownBy.refl _ _⟩
  · have hlt : G < w.heap.size := (Array.getElem?_eq_some_iff.1 hh).1
    obtain ⟨d, hd⟩ : ∃ d : Array (RzT w G), d.toList.map (·.1) = zs := ⟨(zs.attachWith (RowRd w G) h.rd).toArray, by
      show List.map Subtype.val (List.attachWith zs (RowRd w G) h.rd) = zs
      first | exact List.attachWith_map_subtype_val _ | exact List.attachWith_map_val _ | simp⟩
    have hds : d.size = zs.length := by rw [← hd]; simp
    have hde : d.toList.map encR = zs.map (·.1) := by rw [← hd, List.map_map]; rfl
    have hown := h.out
    rw [← hde] at hown
    obtain ⟨g', cap', e1, _, _, _, _, _, hH⟩ := Lib.holds_of_ownsRow hown (by intro e; cases e)
    obtain ⟨rfl, rfl⟩ : G = g' ∧ cap = cap' := by injection e1 with e2 _ e3; injection e2 with e2; injection e2 with e2; exact ⟨e2, e3⟩
    have eg : ∀ args w, (callFunc 54 args).run Tryz.prog w = .ok (.enter 54 args) w := enters_of Tryz.func54 (by kernel_rfl) rfl
    have hda : d.toList.toArray = d := by simp
    rw [hda] at hH
    have hS := Any.slices_SortFunc Tryz.sortR encR oneR cfR swoR 54 #[] G 0 cap d w eg cmpR_lays hH hlt (by omega)
    rw [hds] at hS
    refine (show Calls _ _ _ _ _ from hS).mono ?_
    rintro e w' ⟨rfl, d', q, os, hp, hsd, rfl⟩
    have hsz : d'.size = zs.length := by rw [hp.1, hds]
    have hex : ∀ x : Array (RzT w G), x.size = zs.length → x.extract 0 zs.length = x := fun x hx => by rw [← hx]; simp
    have hperm : d'.toList.Perm d.toList := by
      have := hp.2.2
      rwa [hex d' hsz, hex d hds] at this
    have hpz : (d'.toList.map (·.1)).Perm zs := by rw [← hd]; exact hperm.map _
    refine ⟨⟨rfl, d'.toList.map (·.1), h.fr (fr_sort d' os) ?_ (fun z hz => hpz.mem_iff.1 hz) ?_, hpz, ?_⟩, (Below.refl _ _).grown (grownBy_sort d' os) hB (fun k hk => by
      obtain rfl : G = k := by simpa [Value.ownBlock] using hk
      exact hG), grownBy_sort d' os⟩
    · have h1 := Lib.ownsRow_putRow (enc := encR) (ys := d'.toList) (q := q) (k := zs.length) hown (by simpa using hsz) (Nat.le_refl _)
      have hda' : d'.toList.toArray = d' := by simp
      rw [hda', List.take_of_length_le (by simp [hsz])] at h1
      have e2 : (d'.toList.map (·.1)).length = zs.length := by simpa using hsz
      rw [e2, List.map_map]
      refine own_same h1 (fun k hk => ?_)
      obtain rfl : G = k := by simpa [Value.ownBlock] using hk
      exact Sort.heap_grow_old _ _ (by simpa [Sort.putRow, Sort.mapBlock, Sort.ahead] using hlt)
    · exact (hpz.pairwise_iff (R := fun a b : Value × List Int => Far a.1 b.1) (fun {a b} hab => hab.symm)).2 h.far
    · rw [List.pairwise_map, List.pairwise_iff_getElem]
      intro i j hi hj hij
      have hi' : i < d'.size := by simpa using hi
      have hj' : j < d'.size := by simpa using hj
      have := hsd i j (Nat.zero_le _) hij (by omega)
      rw [getElem!_pos d' i hi', getElem!_pos d' j hj', ltR] at this
      simpa using of_decide_eq_false this
end Go.Proofs.YtpmkdihencepnaaGreat

/-
  slices.SortFunc of rows, the greatest first (rule.Column).
-/
namespace Go.Proofs.YtpmkdihencepnaaGreat
open Go.RowKit

def cfC {w : World} {G : Nat} (x y : RzT w G) : Int := lexC y.1.2 x.1.2
theorem ltC {w : World} {G : Nat} (x y : RzT w G) : ltOf cfC x y = decide (lexC y.1.2 x.1.2 < 0) := rfl
theorem swoC {w : World} {G : Nat} : Sort.SWO (ltOf (cfC (w := w) (G := G))) where
  irrefl x := by rw [ltC, lexC_self]; rfl
  trans x y z h1 h2 := by rw [ltC] at *; exact decide_eq_true (lexC_trans (of_decide_eq_true h2) (of_decide_eq_true h1))
  ntrans x y z h1 h2 := by rw [ltC] at *; exact decide_eq_false (lexC_le_trans (of_decide_eq_false h1) (of_decide_eq_false h2))
set_option maxHeartbeats 400000 in
theorem colcmp_any (A A' : Option Addr) (cap cap' : Nat) (xs ys : List Int) (w : World) (hl : xs.length ≤ 9223372036854775807) (hl' : ys.length ≤ 9223372036854775807) (h : Sl w w.heap.size A (ints xs)) (h' : Sl w w.heap.size A' (ints ys)) :
    Calls Tryz.prog 61 #[.slice A xs.length cap, .slice A' ys.length cap'] w fun e w' => e = .returned (.int .i64 (lexC ys xs)) ∧ w = w' := by
  have HC := Lib.hid (compare_any A' A cap' cap ys xs w hl' hl h' h)
  go_enter Tryz.func61, Tryz.ntmps61
  go_wp2_with (first | (go_at_call 54; refine (HC.out).mono ?_) | fail)
  rintro e w1 ⟨rfl, rfl⟩
  go_wp2
  go_ret
  exact ⟨rfl, rfl⟩
theorem cmpC_lays {w : World} {G size : Nat} : CmpLays1 Tryz.prog 61 #[] (encR (w := w) (G := G)) cfC G 0 size w := fun m os dk _ x y => by
  obtain ⟨A, c, e, hl, hs, _⟩ := x.2.fr (fr_sort (m := m) dk os)
  obtain ⟨A', c', e', hl', hs', _⟩ := y.2.fr (fr_sort (m := m) dk os)
  have h := colcmp_any A A' c c' x.1.2 y.1.2 (sortWorld encR w G 0 m dk os) hl hl' hs hs'
  rw [← e, ← e'] at h
  refine (show Calls _ _ _ _ _ from h).mono ?_
  rintro e w' ⟨rfl, rfl⟩
  exact ⟨rfl, 0, #[], by rw [Sort.grow_empty]; rfl⟩

theorem sortC_any {B : Nat} (v : Value) (zs : List (Value × List Int)) (w : World) (hB : B ≤ w.heap.size) (h : RowZ w B v zs) (hn : zs.length < 1000000) :
    Calls Tryz.prog 53 #[v, .func (.func 61) #[] #[]] w fun e w' => (e = .returned (.tuple #[]) ∧ ∃ zs', RowZ w' B v zs' ∧ zs'.Perm zs) ∧ Below B w w' ∧ w.grownBy w' v.ownBlock := by
  rcases h.out.2 with ⟨rfl, h0⟩ | ⟨G, cap, cur, rfl, hG, hh, hn1, hn2, hn3, hn4⟩
  · have hz : zs = [] := List.eq_nil_of_length_eq_zero h0
    subst hz
    refine (show Calls _ _ _ _ _ from AnyF.slices_SortFunc_none (P := Tryz.prog) (ρ := Tryz.sortR_ren) { Tryz.sortR with } none 0 (.func (.func 61) #[] #[]) w).mono ?_
    rintro e w' ⟨rfl, rfl⟩
    exact ⟨⟨rfl, [], h, .refl _⟩, Below.refl _ _, World.grownBy.refl _ _⟩
  · have hlt : G < w.heap.size := (Array.getElem?_eq_some_iff.1 hh).1
    obtain ⟨d, hd⟩ : ∃ d : Array (RzT w G), d.toList.map (·.1) = zs := ⟨(zs.attachWith (RowRd w G) h.rd).toArray, by
      show List.map Subtype.val (List.attachWith zs (RowRd w G) h.rd) = zs
      first | exact List.attachWith_map_subtype_val _ | exact List.attachWith_map_val _ | simp⟩
    have hds : d.size = zs.length := by rw [← hd]; simp
    have hde : d.toList.map encR = zs.map (·.1) := by rw [← hd, List.map_map]; rfl
    have hown := h.out
    rw [← hde] at hown
    obtain ⟨g', cap', e1, _, _, _, _, _, hH⟩ := Lib.holds_of_ownsRow hown (by intro e; cases e)
    obtain ⟨rfl, rfl⟩ : G = g' ∧ cap = cap' := by injection e1 with e2 _ e3; injection e2 with e2; injection e2 with e2; exact ⟨e2, e3⟩
    have eg : ∀ args w, (callFunc 61 args).run Tryz.prog w = .ok (.enter 61 args) w := enters_of Tryz.func61 (by kernel_rfl) rfl
    have hda : d.toList.toArray = d := by simp
    rw [hda] at hH
    have hS := Any.slices_SortFunc Tryz.sortR encR oneR cfC swoC 61 #[] G 0 cap d w eg cmpC_lays hH hlt (by omega)
    rw [hds] at hS
    refine (show Calls _ _ _ _ _ from hS).mono ?_
    rintro e w' ⟨rfl, d', q, os, hp, -, rfl⟩
    have hsz : d'.size = zs.length := by rw [hp.1, hds]
    have hex : ∀ x : Array (RzT w G), x.size = zs.length → x.extract 0 zs.length = x := fun x hx => by rw [← hx]; simp
    have hperm : d'.toList.Perm d.toList := by
      have := hp.2.2
      rwa [hex d' hsz, hex d hds] at this
    have hpz : (d'.toList.map (·.1)).Perm zs := by rw [← hd]; exact hperm.map _
    refine ⟨⟨rfl, d'.toList.map (·.1), h.fr (fr_sort d' os) ?_ (fun z hz => hpz.mem_iff.1 hz) ?_, hpz⟩, (Below.refl _ _).grown (grownBy_sort d' os) hB (fun k hk => by
      obtain rfl : G = k := by simpa [Value.ownBlock] using hk
      exact hG), grownBy_sort d' os⟩
    · have h1 := Lib.ownsRow_putRow (enc := encR) (ys := d'.toList) (q := q) (k := zs.length) hown (by simpa using hsz) (Nat.le_refl _)
      have hda' : d'.toList.toArray = d' := by simp
      rw [hda', List.take_of_length_le (by simp [hsz])] at h1
      have e2 : (d'.toList.map (·.1)).length = zs.length := by simpa using hsz
      rw [e2, List.map_map]
      refine own_same h1 (fun k hk => ?_)
      obtain rfl : G = k := by simpa [Value.ownBlock] using hk
      exact Sort.heap_grow_old _ _ (by simpa [Sort.putRow, Sort.mapBlock, Sort.ahead] using hlt)
    · exact (hpz.pairwise_iff (R := fun a b : Value × List Int => Far a.1 b.1) (fun {a b} hab => hab.symm)).2 h.far
end Go.Proofs.YtpmkdihencepnaaGreat

/-
  Plain: partitions as they are listed; how many ends at most; the number N of a product; brackets.
-/

namespace Go.Proofs.YtpmkdihencepnaaGreat.LR

/- The search never comes to more ends than there are orders. -/
/- Partitions. -/
structure Pn (b : List Nat) : Prop where
  down : b.Pairwise (· ≥ ·)
  pos : ∀ x ∈ b, 1 ≤ x
theorem Pn.len {b : List Nat} (h : Pn b) : b.length ≤ b.sum := by
  have hp := h.pos
  clear h
  induction b with
  | nil => simp
  | cons y b ih =>
    have := ih (fun x hx => hp x (by simp [hx]))
    have := hp y (by simp)
    simp; omega
/-- All partitions of a number, in the order in which they are listed. -/
def downs (m : Nat) : List Nat := (List.range m).map (fun i => m - i)
def pts : Nat → Nat → Nat → List (List Nat)
  | 0, left, _ => if left = 0 then [[]] else []
  | f + 1, left, most => if left = 0 then [[]] else (downs (min left most)).flatMap (fun k => (pts f (left - k) k).map (k :: ·))
theorem mem_downs {m k : Nat} : k ∈ downs m ↔ 1 ≤ k ∧ k ≤ m := by
  simp only [downs, List.mem_map, List.mem_range]
  constructor
  · rintro ⟨i, hi, rfl⟩; omega
  · rintro ⟨h1, h2⟩; exact ⟨m - k, by omega, by omega⟩
/-- Those of n. -/
def allP (n : Nat) : List (List Nat) := pts n n n
/- There is always something in a product. -/
end Go.Proofs.YtpmkdihencepnaaGreat.LR

/-
  Many regions that a call owns, all apart.
-/
namespace Go.Proofs.YtpmkdihencepnaaGreat
open Go.RowKit

/-- A region: what it holds, where. -/
structure Reg where
  e : TypeId
  z : Nat
  v : Value
  n : Nat
  cs : List Value
def Reg.ok (w : World) (B : Nat) (r : Reg) : Prop := w.ownsRow B r.e r.z r.v r.n r.cs
def Reg.none (e : TypeId) : Reg := ⟨e, 1, .slice Option.none 0 0, 0, []⟩
/-- All regions are owned, and apart. -/
structure AllR (w : World) (B : Nat) (R : Nat → Reg) : Prop where
  own : ∀ x, (R x).ok w B
  far : ∀ x y, x ≠ y → Far (R x).v (R y).v

theorem own_eq {w w' : World} {base n k : Nat} {e : TypeId} {v : Value} {cs : List Value} (h : w.ownsRow base e k v n cs) (hk : ∀ b, v.ownBlock = some b → w'.heap[b]? = w.heap[b]?) : w'.ownsRow base e k v n cs := by
  refine ⟨h.1, ?_⟩
  rcases h.2 with hn | ⟨g, cap, cur, e1, hg, hh, rest⟩
  · exact .inl hn
  · exact .inr ⟨g, cap, cur, e1, hg, (hk g (by rw [e1]; rfl)).trans hh, rest⟩

section
variable {w w' : World} {B : Nat} {R R' : Nat → Reg}
theorem AllR.keep (h : AllR w B R) (hk : ∀ x b, (R x).v.ownBlock = some b → w'.heap[b]? = w.heap[b]?) : AllR w' B R :=
  ⟨fun x => own_eq (h.own x) (hk x), h.far⟩
theorem AllR.lt (h : AllR w B R) {x b : Nat} (hb : (R x).v.ownBlock = some b) : B ≤ b ∧ b < w.heap.size := (h.own x).lt b hb
theorem AllR.below (h : AllR w B R) (hb : Below w.heap.size w w') : AllR w' B R :=
  h.keep fun _ b e => hb.block b (h.lt e).2
theorem AllR.drewN (h : AllR w B R) (k : Nat) : AllR (w.drewN k) B R := ⟨h.own, h.far⟩
theorem AllR.drew (h : AllR w B R) : AllR w.drew B R := ⟨h.own, h.far⟩
theorem AllR.alloc (h : AllR w B R) (o : Obj) : AllR (w.alloc o) B R := h.below ((Below.refl _ _).alloc (Nat.le_refl _) o)
theorem AllR.base (h : AllR w B R) {B' : Nat} (hB : B' ≤ B) : AllR w B' R := ⟨fun x => (h.own x).mono hB, h.far⟩
/-- One region turned. -/
theorem AllR.upd (h : AllR w B R) {x : Nat} (ho : (R' x).ok w' B) (he : ∀ y, y ≠ x → R' y = R y) (hk : ∀ b, b < w.heap.size → (R x).v.ownBlock ≠ some b → w'.heap[b]? = w.heap[b]?)
    (hat : ∀ b, (R' x).v.ownBlock = some b → (R x).v.ownBlock = some b ∨ w.heap.size ≤ b) : AllR w' B R' := by
  have hfar : ∀ y, y ≠ x → Far (R' x).v (R y).v := fun y hy b h1 h2 => by
    rcases hat b h1 with e | e
    · exact h.far x y (Ne.symm hy) b e h2
    · have := (h.lt h2).2; omega
  refine ⟨fun y => ?_, fun y z hyz => ?_⟩
  · by_cases e : y = x
    · subst e; exact ho
    · rw [he y e]
      exact own_eq (h.own y) fun b hb => hk b (h.lt hb).2 fun hx => h.far y x e b hb hx
  · by_cases e : y = x
    · subst e
      rw [he z (Ne.symm hyz)]; exact hfar z (Ne.symm hyz)
    · by_cases e2 : z = x
      · subst e2
        rw [he y e]; exact (hfar y e).symm
      · rw [he y e, he z e2]; exact h.far y z hyz
/-- A store into one region. -/
theorem AllR.set (h : AllR w B R) {x g c : Nat} (hv : (R x).v = .slice (some ⟨g, 0, none⟩) (R x).n c) (j : Nat) (u : Value) (hx : R' x = ⟨(R x).e, (R x).z, (R x).v, (R x).n, (R x).cs.set j u⟩) (he : ∀ y, y ≠ x → R' y = R y) : AllR (w.setCell ⟨g, j, none⟩ u) B R' := by
  have ho := h.own x
  unfold Reg.ok at ho
  refine h.upd (x := x) ?_ he (fun b hb hne => ?_) (fun b hb => .inl ?_)
  · rw [hx]
    unfold Reg.ok
    simp only
    rw [hv] at ho ⊢
    exact (ho.stored j u).1
  · have : g ≠ b := fun e => hne (by rw [hv, ← e]; rfl)
    simp [World.setCell, Array.getElem?_modify, this]
  · rw [hx] at hb; exact hb
theorem AllR.cell (h : AllR w B R) {x g c : Nat} (hv : (R x).v = .slice (some ⟨g, 0, none⟩) (R x).n c) {j : Nat} {u : Value} (hj : j < (R x).n * (R x).z) (hu : (R x).cs[j]? = some u) : w.cell? ⟨g, j, none⟩ = some u := by
  have ho := h.own x
  unfold Reg.ok at ho
  rw [hv] at ho
  rw [ho.cellAt j hj]; exact hu
theorem AllR.fz (h : AllR w B R) {x g c : Nat} (hv : (R x).v = .slice (some ⟨g, 0, none⟩) (R x).n c) (j : Nat) : w.frozen? ⟨g, j, none⟩ = false := by
  have ho := h.own x
  unfold Reg.ok at ho
  rw [hv] at ho
  exact ho.frozenAt j
end

/-- A function changed at one place. -/
def at1E {α : Type} (f : Nat → α) (i : Nat) (y : α) : Nat → α := fun x => if x = i then y else f x
theorem at1_self {α : Type} (f : Nat → α) (i : Nat) (y : α) : at1E f i y i = y := if_pos rfl
theorem at1_ne {α : Type} (f : Nat → α) {i x : Nat} (y : α) (h : x ≠ i) : at1E f i y x = f x := if_neg h
end Go.Proofs.YtpmkdihencepnaaGreat

/-
  Rows of natural numbers; rule.within; partitions as the walk has them.
-/
namespace Go.Proofs.YtpmkdihencepnaaGreat
open Go.RowKit LR

/-- Natural numbers as the program has them. -/
def zs (a : List Nat) : List Int := a.map (fun x : Nat => (x : Int))
theorem zs_length {a : List Nat} : (zs a).length = a.length := by simp [zs]
end Go.Proofs.YtpmkdihencepnaaGreat

/-
  rule.right: are all of them partitions, and not too large?
-/
namespace Go.Proofs.YtpmkdihencepnaaGreat
open Go.RowKit LR

def RigOk (rows : List (List Int)) : Prop := ∀ i, i < rows.length → IsPart (rows.getD i []) ∧ (rows.getD i []).sum ≤ 16
def RigOut (e : Ending) (rows : List (List Int)) (w w' : World) : Prop := (∃ k : Int, e = .returned (.int .i64 k) ∧ (k = 0 ↔ RigOk rows) ∧ (k = 0 ∨ k = 1 ∨ k = 2)) ∧ w = w'
theorem partChk_rng (p : List Int) : partChk p = 0 ∨ partChk p = 1 ∨ partChk p = 2 := by
  unfold partChk
  split
  · split <;> simp
  · simp
theorem part_len {p : List Int} (h : IsPart p) (h40 : p.sum ≤ 40) : p.length ≤ 40 := by
  have := len_le_sum p h.mem
  omega

set_option maxRecDepth 100000 in
set_option maxHeartbeats 2000000 in
theorem right_any (A : Option Addr) (cap : Nat) (rows : List (List Int)) (w : World) (hl : rows.length ≤ 1000) (h : SR w w.heap.size A rows) :
    Calls Tryz.prog 70 #[.slice A rows.length cap] w fun e w' => RigOut e rows w w' := by
  have H := Lib.hid h
  obtain ⟨n, hn⟩ : ∃ n, n = rows.length := ⟨_, rfl⟩
  rw [← hn] at hl ⊢
  have HN := Lib.hid hn
  clear h hn
  go_enter Tryz.func70, Tryz.ntmps70
  go_upto_region 2 with fail
  go_loopw [4, 5, 10] (fun _ _ iv wr => ∃ i : Nat, i ≤ n ∧ iv = .int .i64 i ∧ (∀ j, j < i → partChk (rows.getD j []) = 0) ∧ w = wr) (fun _ _ iv _ => n - (intOf iv).toNat)
  case atStart => exact ⟨0, Nat.zero_le _, rfl, by omega, rfl⟩
  case round =>
    obtain ⟨i, hi, rfl, hok, rfl⟩ := hrel
    have HOK := Lib.hid hok
    clear hok
    by_cases hin : i < n
    · have di : decide ((i : Int) < (n : Int)) = true := decide_eq_true (by omega)
      obtain ⟨b, o, rfl, hb⟩ := H.out.addr (by rw [← HN.out]; omega)
      obtain ⟨Ar, cr, hc, hr, hrl⟩ := H.out.at_ (r := i) (by rw [← HN.out]; exact hin)
      obtain ⟨p, hp⟩ : ∃ p, p = rows.getD i [] := ⟨_, rfl⟩
      rw [← hp] at hc hr hrl
      have HP := Lib.hid hp
      have HCK := Lib.hid (pcheck_any Ar cr p w hrl hr)
      have hrng := partChk_rng p
      obtain ⟨k, hk⟩ : ∃ k, k = partChk p := ⟨_, rfl⟩
      rw [← hk] at HCK hrng
      have HK := Lib.hid hk
      have HRNG := Lib.hid hrng
      clear hp hk hr hrng
      by_cases hk0 : k = 0
      · have d0 : (k != 0) = false := by simpa using hk0
        have HK0 := Lib.hid hk0
        clear hk0
        go_wp2_with (first | (go_at_call 40; refine (HCK.out).mono ?_; rintro e w' ⟨rfl, rfl⟩) | fail)
        go_roundw
        case rel =>
          refine ⟨i + 1, by omega, by go_num, fun j hj => ?_, trivial⟩
          by_cases e : j = i
          · subst e; rw [← HP.out, ← HK.out, HK0.out]
          · exact HOK.out j (by omega)
        case measure => simp [intOf]; omega
      · have d0 : (k != 0) = true := by simpa using hk0
        have hno : Hid (k = 0 ↔ RigOk rows) := Lib.hid ⟨fun h => absurd h hk0, fun h => by
          have h1 := (h i (by rw [← HN.out]; exact hin))
          rw [← HP.out] at h1
          rw [HK.out]
          exact partChk_zero.2 ⟨h1.1, by have := h1.2; omega⟩⟩
        clear hk0
        go_wp2_with (first | (go_at_call 40; refine (HCK.out).mono ?_; rintro e w' ⟨rfl, rfl⟩) | fail)
        go_ret
        exact ⟨⟨k, rfl, hno.out, HRNG.out⟩, rfl⟩
    · obtain rfl : i = n := by omega
      have di : decide ((i : Int) < (i : Int)) = false := decide_eq_false (by omega)
      go_upto_region 9 with fail
      go_loopw [7, 22] (fun _ iv wr => ∃ j : Nat, j ≤ i ∧ iv = .int .i64 j ∧ (∀ r, r < j → (rows.getD r []).sum ≤ 16) ∧ w = wr) (fun _ iv _ => i - (intOf iv).toNat)
      case atStart => exact ⟨0, Nat.zero_le _, rfl, by omega, rfl⟩
      case round =>
        obtain ⟨j, hj, rfl, hs, rfl⟩ := hrel
        have HSM := Lib.hid hs
        clear hs
        by_cases hji : j < i
        · have dj : decide ((j : Int) < (i : Int)) = true := decide_eq_true (by omega)
          obtain ⟨b, o, rfl, hb⟩ := H.out.addr (by rw [← HN.out]; omega)
          obtain ⟨Ar, cr, hc, hr, hrl⟩ := H.out.at_ (r := j) (by rw [← HN.out]; exact hji)
          have hpc := partChk_zero.1 (HOK.out j hji)
          obtain ⟨p, hp⟩ : ∃ p, p = rows.getD j [] := ⟨_, rfl⟩
          rw [← hp] at hc hr hrl hpc
          have HP := Lib.hid hp
          have hpl := part_len hpc.1 hpc.2
          have HSZ := Lib.hid (psize_any Ar cr p w (by omega) (fun k _ => by have := sumTo_le hpc.1 k; have := hpc.2; omega) hr)
          have HPC := Lib.hid hpc
          obtain ⟨S, hS⟩ : ∃ S, S = p.sum := ⟨_, rfl⟩
          rw [← hS] at HSZ
          have HS := Lib.hid hS
          clear hp hS hr hpc hrl
          by_cases hs16 : 16 < S
          · have ds : decide ((16 : Int) < S) = true := decide_eq_true hs16
            have hno : Hid (¬ RigOk rows) := Lib.hid (fun h => by
              have h1 := (h j (by rw [← HN.out]; exact hji)).2
              rw [← HP.out, ← HS.out] at h1; omega)
            go_wp2_with (first | (go_at_call 51; refine (HSZ.out).mono ?_; rintro e w' ⟨rfl, rfl⟩) | fail)
            go_ret
            exact ⟨⟨2, rfl, ⟨fun h => absurd h (by decide), fun h => absurd h hno.out⟩, by omega⟩, rfl⟩
          · have ds : decide ((16 : Int) < S) = false := decide_eq_false hs16
            have HS16 := Lib.hid hs16
            clear hs16
            go_wp2_with (first | (go_at_call 51; refine (HSZ.out).mono ?_; rintro e w' ⟨rfl, rfl⟩) | fail)
            go_roundw
            case rel =>
              refine ⟨j + 1, by omega, by go_num, fun r hr => ?_, trivial⟩
              by_cases e : r = j
              · subst e; rw [← HP.out, ← HS.out]; have := HS16.out; omega
              · exact HSM.out r (by omega)
            case measure => simp [intOf]; omega
        · obtain rfl : j = i := by omega
          have dj : decide ((j : Int) < (j : Int)) = false := decide_eq_false (by omega)
          have hyes : Hid (RigOk rows) := Lib.hid (fun r hr => ⟨(partChk_zero.1 (HOK.out r (by rw [HN.out]; exact hr))).1, HSM.out r (by rw [HN.out]; exact hr)⟩)
          go_wp2
          go_ret
          exact ⟨⟨0, rfl, ⟨fun _ => hyes.out, fun _ => rfl⟩, by omega⟩, rfl⟩
end Go.Proofs.YtpmkdihencepnaaGreat
