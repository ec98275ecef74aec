/-
  insert.Moves and its closure: what they leave.
-/
import Derived.Test.YtmlmdklheiafpaaKnu2W
import Derived.Test.YtmlmdklheiafpaaRowsA
namespace Go.Proofs.Ytmlmdklheiafpaa
open Go.RowKit

theorem swp_set {xs : List Int} {i : Nat} : (xs.set i (xs.getD (i + 1) 0)).set (i + 1) (xs.getD i 0) = swp xs i := rfl
theorem frozen_of_block {w w' : World} {b : Nat} (h : w'.heap[b]? = w.heap[b]?) {o : Nat} : w'.frozen? ⟨b, o, none⟩ = w.frozen? ⟨b, o, none⟩ := by
  unfold World.frozen?
  rw [h]
/-- What the closure leaves: one word more. -/
def TurnOut (e : Ending) (w' : World) (B b1 : Nat) (rows : List (List Int)) (l : List Int) : Prop := ∃ v' hs', e = .returned (.tuple #[]) ∧ w'.cell? ⟨b1, 0, none⟩ = some v' ∧ OwnM w' B v' hs' (rows ++ [l])

set_option maxRecDepth 100000 in
set_option maxHeartbeats 2000000 in
theorem turn_any (A : Option Addr) (cap : Nat) (xs : List Int) (i : Nat) (w : World) (b0 b1 B B0 : Nat) (v : Value) (hs : List Value) (rows : List (List Int)) (hi : i + 1 < xs.length) (hx : xs.length < 1000000) (hr : rows.length < 1000000)
    (h : Sl w B0 A (ints xs)) (hB0 : B0 ≤ b1) (hb1 : b1 < B) (hB : B ≤ w.heap.size) (hc0 : w.cell? ⟨b0, 0, none⟩ = some (.slice A xs.length cap)) (hc1 : w.cell? ⟨b1, 0, none⟩ = some v) (hf1 : w.frozen? ⟨b1, 0, none⟩ = false) (hm : OwnM w B v hs rows) :
    Calls Try.prog 67 #[.int .i64 i, .pointer (some ⟨b0, 0, none⟩), .pointer (some ⟨b1, 0, none⟩)] w fun e w' => TurnOut e w' B b1 rows (swp xs i) ∧ Below b1 w w' ∧ w'.frozen? ⟨b1, 0, none⟩ = false := by
  have H := Lib.hid h
  have HM := Lib.hid hm
  obtain ⟨Av, cv, rfl, -, -, -⟩ := hm.sr
  have hcl := clone_any A cap xs w hx (h.more (by omega))
  have HCL := Lib.hid hcl
  clear hcl h hm
  go_enter Try.func67, Try.ntmps67
  go_wp2_with (first | (go_at_call 38; refine (HCL.out).mono ?_) | fail)
  rintro e w2 ⟨v2, rfl, ho2, hb2⟩
  obtain ⟨g, c, rfl, hg1, hg2⟩ := ho2.form (by omega)
  have hcap := own_cap ho2
  have hcx := own_get ho2 (getD_some (l := xs) (j := i) (by omega))
  have hcy := own_get ho2 (getD_some (l := xs) (j := i + 1) hi)
  have hfx := ho2.frozenAt i
  have hfy := ho2.frozenAt (i + 1)
  have hst := own_set (own_set ho2 i (xs.getD (i + 1) 0)) (i + 1) (xs.getD i 0)
  rw [swp_set] at hst
  have hm2 := HM.out.below hb2
  have hfar := HM.out.far_new (u := .slice (some ⟨g, 0, none⟩) xs.length c) (fun k hk => by
    obtain rfl : g = k := by simpa [Value.ownBlock] using hk
    exact hg1)
  have hd1 : w2.cell? ⟨b1, 0, none⟩ = some (.slice Av rows.length cv) := (hb2.cell (p := ⟨b1, 0, none⟩) (by show b1 < _; omega)).trans hc1
  have hfz1 : w2.frozen? ⟨b1, 0, none⟩ = false := by
    rw [← hf1]
    unfold World.frozen?
    rw [hb2.block b1 (by omega)]
  obtain ⟨x, hxe⟩ : ∃ x, x = xs.getD i 0 := ⟨_, rfl⟩
  obtain ⟨y, hye⟩ : ∃ y, y = xs.getD (i + 1) 0 := ⟨_, rfl⟩
  rw [← hxe] at hcx hst
  rw [← hye] at hcy hst
  have HST := Lib.hid hst
  have HM2 := Lib.hid hm2
  have HF := Lib.hid hfar
  have HB2 := Lib.hid hb2
  have HSZ := Lib.hid hb2.size
  have HSW : Hid ((swp xs i).length = xs.length) := swp_len xs i
  clear ho2 hst hm2 hfar hb2 hxe hye hcap HM HCL hc0 hc1 hf1
  have hne : b1 ≠ g := by have := HSZ.out; omega
  have hilt : i < xs.length := by omega
  go_wp2
  go_region
  obtain ⟨w3, hw3⟩ : ∃ w3, w3 = ((w2.setCell ⟨g, i, none⟩ (.int .i64 y)).setCell ⟨g, i + 1, none⟩ (.int .i64 x)).drew := ⟨_, rfl⟩
  have hfr3 : Fr w2 w3 (fun k => k = g) := by rw [hw3]; exact (((Fr.refl w2 (fun k => k = g)).setCell (a := ⟨g, i, none⟩) rfl).setCell (a := ⟨g, i + 1, none⟩) rfl).drewN 1
  have hfoot : ∀ k, foot (.slice Av rows.length cv) hs k → ¬ k = g := fun k hk e => by
    subst e
    rcases hk with hk | ⟨r, hr2, hk⟩
    · exact HF.out.2 k hk rfl
    · exact HF.out.1 r (by rw [← HM2.out.len]; exact hr2) k hk rfl
  have hm3 := HM2.out.frame hfr3 hfoot
  have hu3 : w3.ownsRow w.heap.size 3 1 (.slice (some ⟨g, 0, none⟩) xs.length c) (swp xs i).length (ints (swp xs i)) := by rw [hw3, HSW.out]; exact HST.out
  have hd3 : w3.cell? ⟨b1, 0, none⟩ = some (.slice Av rows.length cv) := (World.cell?_of_block (hfr3.block b1 (by have := HSZ.out; omega) hne)).trans hd1
  have hz3 : w3.frozen? ⟨b1, 0, none⟩ = false := by
    rw [← hfz1]
    unfold World.frozen?
    rw [hfr3.block b1 (by have := HSZ.out; omega) hne]
  have hb3 : Below w.heap.size w w3 := by rw [hw3]; exact below_drewN ((HB2.out.setCell (p := ⟨g, i, none⟩) hg1 _).setCell (p := ⟨g, i + 1, none⟩) hg1 _) 1
  rw [← hw3]
  have HU3 := Lib.hid (hu3.mono (base' := B) hB)
  have HM3 := Lib.hid hm3
  have HMO := Lib.hid hm3.out
  have HB3 := Lib.hid hb3
  have hB3 : B ≤ w3.heap.size := Nat.le_trans hB hb3.size
  clear hw3 hfr3 hfoot hm3 hu3 hb3 HST HM2 HB2 hcx hcy hfx hfy hd1 hfz1
  have hnb : some b1 ≠ (Value.slice Av rows.length cv).ownBlock := fun e => by have := (HMO.out.lt b1 e.symm).1; omega
  have HNB := Lib.hid hnb
  have hsq : b1 < w3.heap.size := by omega
  clear hnb
  go_wp2_with (first | (at_builtin; refine wpList_push (v := .slice Av rows.length cv) rfl (.tmp 23) (.tmp 25) rfl rfl (.slice (some ⟨g, 0, none⟩) xs.length c) rfl HMO.out w3.heap.size rfl rfl (by omega) hB3 (fun g2 c2 w5 hl5 hg5 hat5 => ?_); have hblk : w5.heap[b1]? = w3.heap[b1]? := (hg5.block b1 (by simp; omega) HNB.out).trans (heap_alloc_old _ _ hsq); have hd5 : w5.cell? ⟨b1, 0, none⟩ = some (.slice Av rows.length cv) := (World.cell?_of_block hblk).trans hd3; have hz5 : w5.frozen? ⟨b1, 0, none⟩ = false := (frozen_of_block hblk).trans hz3; have HBLK := Lib.hid hblk; have HL5 := Lib.hid hl5; have HG5 := Lib.hid hg5; have HAT5 := Lib.hid hat5; clear hblk hl5 hg5 hat5) | fail)
  have hpush := (HM3.out.alloc (.cells #[.slice (some ⟨g, 0, none⟩) xs.length c] 22)).push (u := .slice (some ⟨g, 0, none⟩) xs.length c) (l := swp xs i) (HU3.out.alloc _) HF.out.1 HF.out.2 rfl HL5.out HG5.out (by simpa using HAT5.out)
  have hb5 : Below b1 w w5 := ((HB3.out.mono (by omega)).alloc (by have := HB3.out.size; omega) _).grown HG5.out (by simp; omega) (fun k hk => by have := (HMO.out.lt k hk).1; omega)
  have hfr6 : Fr w5 (w5.setCell ⟨b1, 0, none⟩ (.slice (some ⟨g2, 0, none⟩) (rows.length + 1) c2)) (fun k => k = b1) := (Fr.refl w5 _).setCell (a := ⟨b1, 0, none⟩) rfl
  go_end0
  refine ⟨⟨_, _, rfl, World.cell?_setCell_same' _ _ _ (by rw [hd5]; rfl), hpush.frame hfr6 (fun k hk e => by have := (hpush.foot_lt hk).1; omega)⟩, hb5.setCell (p := ⟨b1, 0, none⟩) (Nat.le_refl _) _, ?_⟩
  rw [World.frozen?_setCell]; exact hz5
end Go.Proofs.Ytmlmdklheiafpaa
