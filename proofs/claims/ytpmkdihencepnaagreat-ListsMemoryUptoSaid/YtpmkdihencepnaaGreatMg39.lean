/-
  Rows of strips (a list and a height): cells of two; slices.SortFunc of them.
-/
import Derived.Shelf.SlSortCmp.NoneTotal
import Derived.Ground.SlsfProg
import Derived.Lib.OwnBridge
import Derived.Test.YtpmkdihencepnaaGreatMg02
import Derived.Test.YtpmkdihencepnaaGreatMg22
import Derived.Test.YtpmkdihencepnaaGreatMg37
import Derived.Test.YtpmkdihencepnaaGreatMg38
namespace Go.Proofs
open Go.Shelf
shelf_lay_g SlLaysF0.n6 Slsf 6 at Tryz 87 as Tryz.sortT
end Go.Proofs
namespace Go.Proofs.YtpmkdihencepnaaGreat
open Go.RowKit Go.Proofs
open Go.Shelf Go.Lib Go.Sort

/-- A strip whose list reads, beside block G. -/
def SRd (w : World) (G : Nat) (z : Stp) : Prop := ∃ A c, z.1 = .slice A z.2.1.length c ∧ z.2.1.length ≤ 1000 ∧ Sl w w.heap.size A (ints z.2.1) ∧ ∀ b o, A = some ⟨b, o, none⟩ → b ≠ G
theorem SRd.fr {w w' : World} {G : Nat} {z : Stp} (h : SRd w G z) (hf : Fr w w' (fun k => k = G)) : SRd w' G z := by
  obtain ⟨A, c, e, hl, hs, hG⟩ := h
  refine ⟨A, c, e, hl, fun hp => ?_, hG⟩
  obtain ⟨b, o, hA, hb, hc⟩ := hs hp
  refine ⟨b, o, hA, by have := hf.size; omega, fun k u hk => ?_⟩
  rw [World.cell?_of_block (hf.block b hb (hG b o hA))]
  exact hc k u hk

/-! ### the sort -/
def StT (w : World) (G : Nat) : Type := { z : Stp // SRd w G z }
instance (w : World) (G : Nat) : Inhabited (StT w G) := ⟨⟨(.slice none 0 0, [], 0), none, 0, rfl, by simp, Sl.nil _ _ _, fun b o e => by cases e⟩⟩
def encS {w : World} {G : Nat} (x : StT w G) : List Value := scl x.1
def cfS {w : World} {G : Nat} (x y : StT w G) : Int := lexC y.1.2.1 x.1.2.1
theorem oneS {w : World} {G : Nat} (x : StT w G) : ∀ v ∈ encS x, v.oneCell' = true := by
  obtain ⟨A, c, e, _⟩ := x.2
  intro v hv
  simp only [encS, scl, List.mem_cons, List.not_mem_nil, or_false] at hv
  rcases hv with rfl | rfl
  · rw [e]; rfl
  · rfl
theorem ltS {w : World} {G : Nat} (x y : StT w G) : ltOf cfS x y = decide (lexC y.1.2.1 x.1.2.1 < 0) := rfl
theorem swoS {w : World} {G : Nat} : Sort.SWO (ltOf (cfS (w := w) (G := G))) where
  irrefl x := by rw [ltS, lexC_self]; rfl
  trans x y z h1 h2 := by rw [ltS] at *; exact decide_eq_true (lexC_trans (of_decide_eq_true h2) (of_decide_eq_true h1))
  ntrans x y z h1 h2 := by rw [ltS] at *; exact decide_eq_false (lexC_le_trans (of_decide_eq_false h1) (of_decide_eq_false h2))
theorem fr_sortS {w : World} {G m : Nat} (dk : Array (StT w G)) (os : Array Obj) : Fr w (sortWorldK encS 2 w G 0 m dk os) (fun k => k = G) := by
  refine ⟨by simp [sortWorldK, putRowK, Sort.grow, Sort.putRow, Sort.mapBlock, Sort.ahead], fun k hk hn => ?_⟩
  unfold sortWorldK
  rw [Sort.heap_grow_old _ _ (by simpa [putRowK, Sort.putRow, Sort.mapBlock, Sort.ahead] using hk)]
  simp [putRowK, Sort.putRow, Sort.mapBlock, Sort.ahead, Array.getElem?_modify, Ne.symm hn]
theorem flat_scells {w : World} {G : Nat} (d : Array (StT w G)) : flatK encS 2 d = (scells (d.toList.map (·.1))).toArray := by
  have hl := scells_len (d.toList.map (·.1))
  rw [List.length_map, Array.length_toList] at hl
  refine ext_get! (by simp [hl]) fun t ht => ?_
  have ht' : t < d.size * 2 := by simpa using ht
  have hd : t / 2 < d.size := by omega
  rw [get_flatK _ _ _ _ ht']
  obtain ⟨h1, h2⟩ := scells_get (m := d.toList.map (·.1)) (i := t / 2) (z := (d[t / 2]'hd).1) (by simp [hd])
  rw [getElem!_pos d _ hd]
  rcases Nat.mod_two_eq_zero_or_one t with e | e
  · rw [show t / 2 * 2 = t by omega] at h1
    rw [e, getElem!_pos (scells (d.toList.map (·.1))).toArray t (by simp [hl]; omega)]
    obtain ⟨hh, h3⟩ := List.getElem?_eq_some_iff.1 h1
    simp only [List.getElem_toArray, h3]
    rfl
  · rw [show t / 2 * 2 + 1 = t by omega] at h2
    rw [e, getElem!_pos (scells (d.toList.map (·.1))).toArray t (by simp [hl]; omega)]
    obtain ⟨hh, h3⟩ := List.getElem?_eq_some_iff.1 h2
    simp only [List.getElem_toArray, h3]
    rfl
theorem holdsS {w : World} {base g cap n : Nat} {d : Array (StT w g)} (h : w.ownsRow base 81 2 (.slice (some ⟨g, 0, none⟩) n cap) n (scells (d.toList.map (·.1)))) : HoldsK encS 2 w g 0 d := by
  unfold HoldsK
  rw [flat_scells]
  intro j hj
  have hl := h.1
  rw [scells_len] at hl
  have hj' : j < (scells (d.toList.map (·.1))).length := by simpa using hj
  refine ⟨?_, ?_⟩
  · rw [Nat.zero_add, h.cellAt j (by rw [scells_len] at hj'; omega), List.getElem?_eq_getElem hj', getElem!_pos (scells (d.toList.map (·.1))).toArray j hj]
    rfl
  · rw [Nat.zero_add]; exact h.frozenAt j
theorem grownBy_sortS {w : World} {G m : Nat} (dk : Array (StT w G)) (os : Array Obj) : w.grownBy (sortWorldK encS 2 w G 0 m dk os) (some G) :=
  ⟨rfl, rfl, rfl, (fr_sortS dk os).size, fun k hk hne => (fr_sortS dk os).block k hk (fun e => hne (by rw [e]))⟩

set_option maxHeartbeats 1000000 in
theorem scmpS_any (A A' : Option Addr) (cap cap' : Nat) (xs ys : List Int) (k k' : Int) (w : World) (hl : xs.length ≤ 1000) (hl' : ys.length ≤ 1000) (h : Sl w w.heap.size A (ints xs)) (h' : Sl w w.heap.size A' (ints ys)) :
    Calls Tryz.prog 88 #[.agg #[.slice A xs.length cap, .int .i64 k], .agg #[.slice A' ys.length cap', .int .i64 k']] w fun e w' => e = .returned (.int .i64 (lexC ys xs)) ∧ ∃ q o1 o2, w' = (((w.alloc o1).alloc o2).drewN q) := by
  obtain ⟨w2, hw2⟩ : ∃ w2, w2 = (w.alloc (.cells #[.slice A xs.length cap, .int .i64 k] 81)).alloc (.cells #[.slice A' ys.length cap', .int .i64 k'] 81) := ⟨_, rfl⟩
  have hb : Below w.heap.size w w2 := by rw [hw2]; exact ((Below.refl _ _).alloc (Nat.le_refl _) _).alloc (by simp) _
  have HC := Lib.hid (compare_any A' A cap' cap ys xs w2 (by omega) (by omega) (h'.keep hb) (h.keep hb))
  have p0 : w2.cell? ⟨w.heap.size, 0, none⟩ = some (.slice A xs.length cap) := by
    rw [hw2, World.cell?_of_block (a := ⟨w.heap.size, 0, none⟩) (heap_alloc_old _ _ (by simp)), World.cell?_alloc_at _ _ _ _ rfl]; rfl
  have p1 : w2.cell? ⟨w.heap.size + 1, 0, none⟩ = some (.slice A' ys.length cap') := by
    rw [hw2, World.cell?_alloc_at _ _ _ _ (by simp)]; rfl
  have HW2 := Lib.hid hw2
  clear hb h h'
  go_enter Tryz.func88, Tryz.ntmps88
  go_upto_region 1 with fail
  rw [← hw2]
  clear hw2
  go_wp2_with (first | (go_at_call 54; refine (HC.out).mono ?_) | fail)
  rintro e w1 ⟨rfl, rfl⟩
  go_wp2
  go_ret
  exact ⟨rfl, 0, _, _, HW2.out⟩
theorem cmpS_lays {w : World} {G size : Nat} : CmpLays Tryz.prog 88 #[] (encS (w := w) (G := G)) 2 cfS G 0 size w := fun m os dk _ x y => by
  obtain ⟨A, c, e, hl, hs, _⟩ := x.2.fr (fr_sortS (m := m) dk os)
  obtain ⟨A', c', e', hl', hs', _⟩ := y.2.fr (fr_sortS (m := m) dk os)
  have h := scmpS_any A A' c c' x.1.2.1 y.1.2.1 x.1.2.2 y.1.2.2 (sortWorldK encS 2 w G 0 m dk os) hl hl' hs hs'
  rw [← e, ← e'] at h
  refine (show Calls _ _ _ _ _ from h).mono ?_
  rintro e w' ⟨rfl, q, o1, o2, rfl⟩
  refine ⟨rfl, q, #[o1, o2], ?_⟩
  obtain ⟨W, hW⟩ : ∃ W, W = sortWorldK encS 2 w G 0 m dk os := ⟨_, rfl⟩
  rw [← hW]
  show ((W.alloc o1).alloc o2).drewN q = { W.drewN q with heap := (W.drewN q).heap ++ #[o1, o2] }
  have : (W.drewN q).heap ++ #[o1, o2] = (W.heap.push o1).push o2 := by
    show W.heap ++ #[o1, o2] = _
    apply Array.ext'
    simp
  rw [this]; rfl
theorem sortS_any : SortC := fun base v zs w hB hn hst => by
  have h := hst.1
  have hz : ∀ z ∈ zs, ∀ G, v.ownBlock = some G → SRd w G z := fun z hm G hG => by
    obtain ⟨A, c, e, hl, hs, hne⟩ := hst.2 z hm
    exact ⟨A, c, e, hl, hs, fun b o hA hb => (hne b o hA).1 (by rw [hG, hb])⟩
  rcases h.2 with ⟨rfl, h0⟩ | ⟨g, cap, cur, rfl, hb, hh, hc⟩
  · have e : zs = [] := List.eq_nil_of_length_eq_zero h0
    subst e
    have hS := AnyF.slices_SortFunc_none (P := Tryz.prog) (ρ := Tryz.sortT_ren) { Tryz.sortT with } none 0 (.func (.func 88) #[] #[]) w
    refine (show Calls _ _ _ _ _ from hS).mono ?_
    rintro e w' ⟨rfl, rfl⟩
    exact ⟨⟨rfl, none, 0, rfl, .inl rfl⟩, Below.refl _ _⟩
  · have hlt : g < w.heap.size := (Array.getElem?_eq_some_iff.1 hh).1
    obtain ⟨d, hd⟩ : ∃ d : Array (StT w g), d.toList.map (·.1) = zs := ⟨(zs.attachWith (SRd w g) (fun z hm => hz z hm g rfl)).toArray, by
      show List.map Subtype.val (List.attachWith zs (SRd w g) _) = zs
      first | exact List.attachWith_map_subtype_val _ | exact List.attachWith_map_val _ | simp⟩
    have hds : d.size = zs.length := by rw [← hd]; simp
    have hH := h
    rw [← hd] at hH
    have hH := holdsS hH
    have eg : ∀ args w, (callFunc 88 args).run Tryz.prog w = .ok (.enter 88 args) w := enters_of Tryz.func88 (by kernel_rfl) rfl
    have hS := AnyQ.slices_SortFunc Tryz.sortT 2 Tryz.isAgg81 Tryz.sizeOf81 encS (fun _ => rfl) oneS cfS swoS 88 #[] g 0 cap d w eg cmpS_lays hH hlt (by omega)
    rw [hds] at hS
    refine (show Calls _ _ _ _ _ from hS).mono ?_
    rintro e w' ⟨rfl, d', q, os, hp, -, rfl⟩
    have hsz : d'.size = zs.length := by rw [hp.1, hds]
    have hK := holdsK_sortWorldK_c encS 2 w g 0 d d' q os hH hlt (by omega)
    have hsw := (fr_sortS (m := q) d' os).size
    refine ⟨⟨rfl, some ⟨g, 0, none⟩, cap, rfl, .inr ⟨g, 0, rfl, by omega, fun j hj => ?_⟩⟩, (Below.refl _ _).grown (grownBy_sortS d' os) hB (fun k hk => by
      obtain rfl : g = k := by simpa using hk
      exact hb)⟩
    have hj' : j < d'.size := by omega
    obtain ⟨Ar, c, e, hl, hs, _⟩ := (d'[j]'hj').2.fr (fr_sortS (m := q) d' os)
    have k0 := (hK.cell (i := j) (c := 0) hj' (by omega)).1
    have k1 := (hK.cell (i := j) (c := 1) hj' (by omega)).1
    rw [getElem!_pos d' _ hj'] at k0 k1
    refine ⟨Ar, c, (d'[j]'hj').1.2.1, (d'[j]'hj').1.2.2, hl, ?_, ?_, hs⟩
    · rw [← e]; simpa [encS, scl] using k0
    · simpa [encS, scl] using k1
end Go.Proofs.YtpmkdihencepnaaGreat

/-
  chars.Table: it does not panic, and what it gives is the caller's.
-/
namespace Go.Proofs.YtpmkdihencepnaaGreat
open Go.RowKit

theorem value_any : ValueC := fun A A' cap cap' p m w h1 h2 h3 h4 h5 => value_of (strips_of sortS_any) m p A A' cap cap' w h1 h2 h3 h4 h5
theorem table_any (k : Int) (w : World) :
    Calls Tryz.prog 37 #[.int .i64 k] w fun e w' => Told Sm w.heap.size e w' ∧ Below w.heap.size w w' := table_of value_any k w
end Go.Proofs.YtpmkdihencepnaaGreat
