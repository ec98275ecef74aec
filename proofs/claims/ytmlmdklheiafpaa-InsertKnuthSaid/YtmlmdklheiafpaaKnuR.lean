/-
  Rows of ints as pairs of value and content: slices.SortFunc by slices.Compare, off the shelf.
-/
import Derived.Test.YtmlmdklheiafpaaKnu1W
import Derived.Test.YtmlmdklheiafpaaTabl5W
import Derived.Shelf.SlSortCmp.NoneTotal
import Derived.Ground.SlsfProg
import Derived.Lib.OwnBridge
namespace Go.Proofs
open Go.Shelf
shelf_lay_g SlLaysF.n6 Slsf 6 at Try 68 as Try.sortR
end Go.Proofs
namespace Go.Proofs.Ytmlmdklheiafpaa
open Go.RowKit Go.Proofs
open Go.Shelf

/-- Rows that the call owns: each its value and its content. -/
structure RowZ (w : World) (B : Nat) (v : Value) (zs : List (Value × List Int)) : Prop where
  out : w.ownsRow B 22 1 v zs.length (zs.map (·.1))
  inn : ∀ z ∈ zs, w.ownsRow B 3 1 z.1 z.2.length (ints z.2)
  far : zs.Pairwise (fun a b => Far a.1 b.1)
  top : ∀ z ∈ zs, Far v z.1
theorem map_getD {α β : Type} {f : α → β} {zs : List α} {r : Nat} {d : β} (h : r < zs.length) : (zs.map f).getD r d = f zs[r] := by
  rw [List.getD_eq_getElem?_getD, List.getElem?_map, List.getElem?_eq_getElem h]; rfl
theorem RowZ.m {w : World} {B : Nat} {v : Value} {zs : List (Value × List Int)} (h : RowZ w B v zs) : OwnM w B v (zs.map (·.1)) (zs.map (·.2)) := by
  refine ⟨by simp, by rw [List.length_map]; exact h.out, fun r hr => ?_, fun r s hr hs hne => ?_, fun r hr => ?_⟩
  · rw [List.length_map] at hr
    rw [map_getD hr, map_getD hr]
    exact h.inn _ (List.getElem_mem hr)
  · rw [List.length_map] at hr hs
    rw [map_getD hr, map_getD hs]
    have hp := List.pairwise_iff_getElem.1 h.far
    by_cases c : r < s
    · exact hp r s hr hs c
    · exact (hp s r hs hr (by omega)).symm
  · rw [List.length_map] at hr
    rw [map_getD hr]
    exact h.top _ (List.getElem_mem hr)
theorem OwnM.z {w : World} {B : Nat} {v : Value} {hs : List Value} {rows : List (List Int)} (h : OwnM w B v hs rows) : ∃ zs : List (Value × List Int), RowZ w B v zs ∧ zs.map (·.1) = hs ∧ zs.map (·.2) = rows := by
  have hl := h.len
  have e1 : (hs.zip rows).map (·.1) = hs := List.map_fst_zip (by omega)
  have e2 : (hs.zip rows).map (·.2) = rows := List.map_snd_zip (by omega)
  have hz : (hs.zip rows).length = rows.length := by rw [List.length_zip]; omega
  have hg : ∀ r (hr : r < (hs.zip rows).length), (hs.zip rows)[r] = (hs.getD r undef, rows.getD r []) := fun r hr => by
    rw [List.getElem_zip, getD_get (by omega), getD_get (by omega)]
  refine ⟨hs.zip rows, ⟨by rw [e1, hz]; exact h.out, fun z hz2 => ?_, ?_, fun z hz2 => ?_⟩, e1, e2⟩
  · obtain ⟨r, hr, rfl⟩ := List.getElem_of_mem hz2
    rw [hg]
    exact h.inn r (by omega)
  · rw [List.pairwise_iff_getElem]
    intro i j hi hj hij
    rw [hg, hg]
    exact h.far i j (by omega) (by omega) (by omega)
  · obtain ⟨r, hr, rfl⟩ := List.getElem_of_mem hz2
    rw [hg]
    exact h.top r (by omega)
/-- A row that reads, beside block G. -/
def RowRd (w : World) (G : Nat) (z : Value × List Int) : Prop := ∃ A c, z.1 = .slice A z.2.length c ∧ z.2.length ≤ 9223372036854775807 ∧ Sl w w.heap.size A (ints z.2) ∧ ∀ b o, A = some ⟨b, o, none⟩ → b ≠ G
theorem RowZ.rd {w : World} {B G n c : Nat} {zs : List (Value × List Int)} (h : RowZ w B (.slice (some ⟨G, 0, none⟩) n c) zs) : ∀ z ∈ zs, RowRd w G z := fun z hz => by
  obtain ⟨A, c', e, _, hs, h1, h2⟩ := own_sliceA (h.inn z hz)
  refine ⟨A, c', e, by omega, hs, fun b o hA hb => ?_⟩
  have := h.top z hz G rfl
  rw [e, hA, hb] at this
  exact this rfl
theorem RowRd.fr {w w' : World} {G : Nat} {z : Value × List Int} (h : RowRd w G z) (hf : Fr w w' (fun k => k = G)) : RowRd w' G z := by
  obtain ⟨A, c, e, hl, hs, hG⟩ := h
  refine ⟨A, c, e, hl, fun hp => ?_, hG⟩
  obtain ⟨b, o, hA, hb, hc⟩ := hs hp
  refine ⟨b, o, hA, by have := hf.size; omega, fun k u hk => ?_⟩
  rw [World.cell?_of_block (hf.block b hb (hG b o hA))]
  exact hc k u hk
/-- The same rows, where a world has turned in block G alone. -/
theorem RowZ.fr {w w' : World} {B G n c : Nat} {zs zs' : List (Value × List Int)} (h : RowZ w B (.slice (some ⟨G, 0, none⟩) n c) zs) (hf : Fr w w' (fun k => k = G)) {n' : Nat} (ho : w'.ownsRow B 22 1 (.slice (some ⟨G, 0, none⟩) n' c) zs'.length (zs'.map (·.1)))
    (hm : ∀ z ∈ zs', z ∈ zs) (hfar : zs'.Pairwise (fun a b => Far a.1 b.1)) : RowZ w' B (.slice (some ⟨G, 0, none⟩) n' c) zs' :=
  ⟨ho, fun z hz => own_same (h.inn z (hm z hz)) (fun k hk => hf.block k ((h.inn z (hm z hz)).lt k hk).2 (fun e => h.top z (hm z hz) G rfl (by rw [← e]; exact hk))), hfar, fun z hz => by
    intro k hk
    obtain rfl : G = k := by simpa [Value.ownBlock] using hk
    exact h.top z (hm z hz) G rfl⟩

/-! ### the sort -/
def RzT (w : World) (G : Nat) : Type := { z : Value × List Int // RowRd w G z }
instance (w : World) (G : Nat) : Inhabited (RzT w G) := ⟨⟨(.slice none 0 0, []), none, 0, rfl, by simp, Sl.nil _ _ _, fun b o e => by cases e⟩⟩
def encR {w : World} {G : Nat} (x : RzT w G) : Value := x.1.1
def cfR {w : World} {G : Nat} (x y : RzT w G) : Int := lexC x.1.2 y.1.2
theorem oneR {w : World} {G : Nat} (x : RzT w G) : (encR x).oneCell' = true := by
  obtain ⟨A, c, e, _⟩ := x.2
  show x.1.1.oneCell' = true
  rw [e]; rfl
theorem ltR {w : World} {G : Nat} (x y : RzT w G) : ltOf cfR x y = decide (lexC x.1.2 y.1.2 < 0) := rfl
theorem swoR {w : World} {G : Nat} : Sort.SWO (ltOf (cfR (w := w) (G := G))) where
  irrefl x := by rw [ltR, lexC_self]; rfl
  trans x y z h1 h2 := by rw [ltR] at *; exact decide_eq_true (lexC_trans (of_decide_eq_true h1) (of_decide_eq_true h2))
  ntrans x y z h1 h2 := by rw [ltR] at *; exact decide_eq_false (lexC_le_trans (of_decide_eq_false h2) (of_decide_eq_false h1))
theorem fr_sort {w : World} {G m : Nat} (dk : Array (RzT w G)) (os : Array Obj) : Fr w (sortWorld encR w G 0 m dk os) (fun k => k = G) := by
  refine ⟨by simp [sortWorld, Sort.grow, Sort.putRow, Sort.mapBlock, Sort.ahead], fun k hk hn => ?_⟩
  unfold sortWorld
  rw [Sort.heap_grow_old _ _ (by simpa [Sort.putRow, Sort.mapBlock, Sort.ahead] using hk)]
  simp [Sort.putRow, Sort.mapBlock, Sort.ahead, Array.getElem?_modify, Ne.symm hn]
theorem grownBy_sort {w : World} {G m : Nat} (dk : Array (RzT w G)) (os : Array Obj) : w.grownBy (sortWorld encR w G 0 m dk os) (some G) :=
  ⟨rfl, rfl, rfl, (fr_sort dk os).size, fun k hk hne => (fr_sort dk os).block k hk (fun e => hne (by rw [e]))⟩
theorem cmpR_lays {w : World} {G size : Nat} : CmpLays1 Try.prog 69 #[] (encR (w := w) (G := G)) cfR G 0 size w := fun m os dk _ x y => by
  obtain ⟨A, c, e, hl, hs, _⟩ := x.2.fr (fr_sort (m := m) dk os)
  obtain ⟨A', c', e', hl', hs', _⟩ := y.2.fr (fr_sort (m := m) dk os)
  have h := compare_any A A' c c' x.1.2 y.1.2 (sortWorld encR w G 0 m dk os) hl hl' hs hs'
  rw [← e, ← e'] at h
  refine (show Calls _ _ _ _ _ from h).mono ?_
  rintro e w' ⟨rfl, rfl⟩
  exact ⟨rfl, 0, #[], by rw [Sort.grow_empty]; rfl⟩

theorem sortR_any {B : Nat} (v : Value) (zs : List (Value × List Int)) (w : World) (hB : B ≤ w.heap.size) (h : RowZ w B v zs) (hn : zs.length < 1000000) :
    Calls Try.prog 68 #[v, .func (.func 69) #[] #[]] w fun e w' => (e = .returned (.tuple #[]) ∧ ∃ zs', RowZ w' B v zs' ∧ zs'.Perm zs ∧ zs'.Pairwise (fun a b => ¬ lexC b.2 a.2 < 0)) ∧ Below B w w' ∧ w.grownBy w' v.ownBlock := by
  rcases h.out.2 with ⟨rfl, h0⟩ | ⟨G, cap, cur, rfl, hG, hh, hn1, hn2, hn3, hn4⟩
  · have hz : zs = [] := List.eq_nil_of_length_eq_zero h0
    subst hz
    refine (show Calls _ _ _ _ _ from AnyF.slices_SortFunc_none (P := Try.prog) (ρ := Try.sortR_ren) { Try.sortR with } none 0 (.func (.func 69) #[] #[]) w).mono ?_
    rintro e w' ⟨rfl, rfl⟩
    exact ⟨⟨rfl, [], h, .refl _, .nil⟩, Below.refl _ _, World.grownBy.refl _ _⟩
  · have hlt : G < w.heap.size := (Array.getElem?_eq_some_iff.1 hh).1
    obtain ⟨d, hd⟩ : ∃ d : Array (RzT w G), d.toList.map (·.1) = zs := ⟨(zs.attachWith (RowRd w G) h.rd).toArray, by
      show List.map Subtype.val (List.attachWith zs (RowRd w G) h.rd) = zs
      first | exact List.attachWith_map_subtype_val _ | exact List.attachWith_map_val _ | simp⟩
    have hds : d.size = zs.length := by rw [← hd]; simp
    have hde : d.toList.map encR = zs.map (·.1) := by rw [← hd, List.map_map]; rfl
    have hown := h.out
    rw [← hde] at hown
    obtain ⟨g', cap', e1, _, _, _, _, _, hH⟩ := Lib.holds_of_ownsRow hown (by intro e; cases e)
    obtain ⟨rfl, rfl⟩ : G = g' ∧ cap = cap' := by injection e1 with e2 _ e3; injection e2 with e2; injection e2 with e2; exact ⟨e2, e3⟩
    have eg : ∀ args w, (callFunc 69 args).run Try.prog w = .ok (.enter 69 args) w := enters_of Try.func69 (by kernel_rfl) rfl
    have hda : d.toList.toArray = d := by simp
    rw [hda] at hH
    have hS := Any.slices_SortFunc Try.sortR encR oneR cfR swoR 69 #[] G 0 cap d w eg cmpR_lays hH hlt (by omega)
    rw [hds] at hS
    refine (show Calls _ _ _ _ _ from hS).mono ?_
    rintro e w' ⟨rfl, d', q, os, hp, hsd, rfl⟩
    have hsz : d'.size = zs.length := by rw [hp.1, hds]
    have hex : ∀ x : Array (RzT w G), x.size = zs.length → x.extract 0 zs.length = x := fun x hx => by rw [← hx]; simp
    have hperm : d'.toList.Perm d.toList := by
      have := hp.2.2
      rwa [hex d' hsz, hex d hds] at this
    have hpz : (d'.toList.map (·.1)).Perm zs := by rw [← hd]; exact hperm.map _
    refine ⟨⟨rfl, d'.toList.map (·.1), h.fr (fr_sort d' os) ?_ (fun z hz => hpz.mem_iff.1 hz) ?_, hpz, ?_⟩, (Below.refl _ _).grown (grownBy_sort d' os) hB (fun k hk => by
      obtain rfl : G = k := by simpa [Value.ownBlock] using hk
      exact hG), grownBy_sort d' os⟩
    · have h1 := Lib.ownsRow_putRow (enc := encR) (ys := d'.toList) (q := q) (k := zs.length) hown (by simpa using hsz) (Nat.le_refl _)
      have hda' : d'.toList.toArray = d' := by simp
      rw [hda', List.take_of_length_le (by simp [hsz])] at h1
      have e2 : (d'.toList.map (·.1)).length = zs.length := by simpa using hsz
      rw [e2, List.map_map]
      refine own_same h1 (fun k hk => ?_)
      obtain rfl : G = k := by simpa [Value.ownBlock] using hk
      exact Sort.heap_grow_old _ _ (by simpa [Sort.putRow, Sort.mapBlock, Sort.ahead] using hlt)
    · exact (hpz.pairwise_iff (R := fun a b : Value × List Int => Far a.1 b.1) (fun {a b} hab => hab.symm)).2 h.far
    · rw [List.pairwise_map, List.pairwise_iff_getElem]
      intro i j hi hj hij
      have hi' : i < d'.size := by simpa using hi
      have hj' : j < d'.size := by simpa using hj
      have := hsd i j (Nat.zero_le _) hij (by omega)
      rw [getElem!_pos d' i hi', getElem!_pos d' j hj', ltR] at this
      simpa using of_decide_eq_false this
end Go.Proofs.Ytmlmdklheiafpaa
