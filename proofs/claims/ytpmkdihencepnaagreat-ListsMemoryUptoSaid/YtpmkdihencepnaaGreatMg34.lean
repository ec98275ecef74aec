/-
  insert.Moves and its closure: what they leave.
-/
import Derived.Deep.RegionLaw
import Derived.BigRegion
import Derived.Test.YtpmkdihencepnaaGreatMg02
import Derived.Test.YtpmkdihencepnaaGreatMg14
import Derived.Test.YtpmkdihencepnaaGreatMg17
import Derived.Test.YtpmkdihencepnaaGreatMg29
import Derived.Test.YtpmkdihencepnaaGreatMg33
namespace Go.Proofs.YtpmkdihencepnaaGreat
open Go.RowKit

theorem swpK_set {xs : List Int} {i : Nat} : (xs.set i (xs.getD (i + 1) 0)).set (i + 1) (xs.getD i 0) = swpK xs i := rfl
theorem frozen_of_block {w w' : World} {b : Nat} (h : w'.heap[b]? = w.heap[b]?) {o : Nat} : w'.frozen? ⟨b, o, none⟩ = w.frozen? ⟨b, o, none⟩ := by
  unfold World.frozen?
  rw [h]
/-- What the closure leaves: one word more. -/
def TurnOut (e : Ending) (w' : World) (B b1 : Nat) (rows : List (List Int)) (l : List Int) : Prop := ∃ v' hs', e = .returned (.tuple #[]) ∧ w'.cell? ⟨b1, 0, none⟩ = some v' ∧ OwnM w' B v' hs' (rows ++ [l])

set_option maxRecDepth 100000 in
set_option maxHeartbeats 2000000 in
theorem turn_any (A : Option Addr) (cap : Nat) (xs : List Int) (i : Nat) (w : World) (b0 b1 B B0 : Nat) (v : Value) (hs : List Value) (rows : List (List Int)) (hi : i + 1 < xs.length) (hx : xs.length < 1000000) (hr : rows.length < 1000000)
    (h : Sl w B0 A (ints xs)) (hB0 : B0 ≤ b1) (hb1 : b1 < B) (hB : B ≤ w.heap.size) (hc0 : w.cell? ⟨b0, 0, none⟩ = some (.slice A xs.length cap)) (hc1 : w.cell? ⟨b1, 0, none⟩ = some v) (hf1 : w.frozen? ⟨b1, 0, none⟩ = false) (hm : OwnM w B v hs rows) :
    Calls Tryz.prog 52 #[.int .i64 i, .pointer (some ⟨b0, 0, none⟩), .pointer (some ⟨b1, 0, none⟩)] w fun e w' => TurnOut e w' B b1 rows (swpK xs i) ∧ Below b1 w w' ∧ w'.frozen? ⟨b1, 0, none⟩ = false := by
  have H := Lib.hid h
  have HM := Lib.hid hm
  obtain ⟨Av, cv, rfl, -, -, -⟩ := hm.sr
  have hcl := clone_any A cap xs w hx (h.more (by omega))
  have HCL := Lib.hid hcl
  clear hcl h hm
  go_enter Tryz.func52, Tryz.ntmps52
  go_wp2_with (first | (go_at_call 46; refine (HCL.out).mono ?_) | fail)
  rintro e w2 ⟨v2, rfl, ho2, hb2⟩
  obtain ⟨g, c, rfl, hg1, hg2⟩ := ho2.form (by omega)
  have hcap := own_cap ho2
  have hcx := own_get ho2 (getD_some (l := xs) (j := i) (by omega))
  have hcy := own_get ho2 (getD_some (l := xs) (j := i + 1) hi)
  have hfx := ho2.frozenAt i
  have hfy := ho2.frozenAt (i + 1)
  have hst := own_set (own_set ho2 i (xs.getD (i + 1) 0)) (i + 1) (xs.getD i 0)
  rw [swpK_set] at hst
  have hm2 := HM.out.below hb2
  have hfar := HM.out.far_new (u := .slice (some ⟨g, 0, none⟩) xs.length c) (fun k hk => by
    obtain rfl : g = k := by simpa [Value.ownBlock] using hk
    exact hg1)
  have hd1 : w2.cell? ⟨b1, 0, none⟩ = some (.slice Av rows.length cv) := (hb2.cell (p := ⟨b1, 0, none⟩) (by show b1 < _; omega)).trans hc1
  have hfz1 : w2.frozen? ⟨b1, 0, none⟩ = false := by
    rw [← hf1]
    unfold World.frozen?
    rw [hb2.block b1 (by omega)]
  obtain ⟨x, hxe⟩ : ∃ x, x = xs.getD i 0 := ⟨_, rfl⟩
  obtain ⟨y, hye⟩ : ∃ y, y = xs.getD (i + 1) 0 := ⟨_, rfl⟩
  rw [← hxe] at hcx hst
  rw [← hye] at hcy hst
  have HST := Lib.hid hst
  have HM2 := Lib.hid hm2
  have HF := Lib.hid hfar
  have HB2 := Lib.hid hb2
  have HSZ := Lib.hid hb2.size
  have HSW : Hid ((swpK xs i).length = xs.length) := swpK_len xs i
  clear ho2 hst hm2 hfar hb2 hxe hye hcap HM HCL hc0 hc1 hf1
  have hne : b1 ≠ g := by have := HSZ.out; omega
  have hilt : i < xs.length := by omega
  go_wp2
  go_region
  obtain ⟨w3, hw3⟩ : ∃ w3, w3 = ((w2.setCell ⟨g, i, none⟩ (.int .i64 y)).setCell ⟨g, i + 1, none⟩ (.int .i64 x)).drew := ⟨_, rfl⟩
  have hfr3 : Fr w2 w3 (fun k => k = g) := by rw [hw3]; exact (((Fr.refl w2 (fun k => k = g)).setCell (a := ⟨g, i, none⟩) rfl).setCell (a := ⟨g, i + 1, none⟩) rfl).drewN 1
  have hfoot : ∀ k, foot (.slice Av rows.length cv) hs k → ¬ k = g := fun k hk e => by
    subst e
    rcases hk with hk | ⟨r, hr2, hk⟩
    · exact HF.out.2 k hk rfl
    · exact HF.out.1 r (by rw [← HM2.out.len]; exact hr2) k hk rfl
  have hm3 := HM2.out.frame hfr3 hfoot
  have hu3 : w3.ownsRow w.heap.size 3 1 (.slice (some ⟨g, 0, none⟩) xs.length c) (swpK xs i).length (ints (swpK xs i)) := by rw [hw3, HSW.out]; exact HST.out
  have hd3 : w3.cell? ⟨b1, 0, none⟩ = some (.slice Av rows.length cv) := (World.cell?_of_block (hfr3.block b1 (by have := HSZ.out; omega) hne)).trans hd1
  have hz3 : w3.frozen? ⟨b1, 0, none⟩ = false := by
    rw [← hfz1]
    unfold World.frozen?
    rw [hfr3.block b1 (by have := HSZ.out; omega) hne]
  have hb3 : Below w.heap.size w w3 := by rw [hw3]; exact below_drewN ((HB2.out.setCell (p := ⟨g, i, none⟩) hg1 _).setCell (p := ⟨g, i + 1, none⟩) hg1 _) 1
  rw [← hw3]
  have HU3 := Lib.hid (hu3.mono (base' := B) hB)
  have HM3 := Lib.hid hm3
  have HMO := Lib.hid hm3.out
  have HB3 := Lib.hid hb3
  have hB3 : B ≤ w3.heap.size := Nat.le_trans hB hb3.size
  clear hw3 hfr3 hfoot hm3 hu3 hb3 HST HM2 HB2 hcx hcy hfx hfy hd1 hfz1
  have hnb : some b1 ≠ (Value.slice Av rows.length cv).ownBlock := fun e => by have := (HMO.out.lt b1 e.symm).1; omega
  have HNB := Lib.hid hnb
  have hsq : b1 < w3.heap.size := by omega
  clear hnb
  go_wp2_with (first | (at_builtin; refine wpList_push (v := .slice Av rows.length cv) rfl (.tmp 23) (.tmp 25) rfl rfl (.slice (some ⟨g, 0, none⟩) xs.length c) rfl HMO.out w3.heap.size rfl rfl (by omega) hB3 (fun g2 c2 w5 hl5 hg5 hat5 => ?_); have hblk : w5.heap[b1]? = w3.heap[b1]? := (hg5.block b1 (by simp; omega) HNB.out).trans (heap_alloc_old _ _ hsq); have hd5 : w5.cell? ⟨b1, 0, none⟩ = some (.slice Av rows.length cv) := (World.cell?_of_block hblk).trans hd3; have hz5 : w5.frozen? ⟨b1, 0, none⟩ = false := (frozen_of_block hblk).trans hz3; have HBLK := Lib.hid hblk; have HL5 := Lib.hid hl5; have HG5 := Lib.hid hg5; have HAT5 := Lib.hid hat5; clear hblk hl5 hg5 hat5) | fail)
  have hpush := (HM3.out.alloc (.cells #[.slice (some ⟨g, 0, none⟩) xs.length c] 22)).push (u := .slice (some ⟨g, 0, none⟩) xs.length c) (l := swpK xs i) (HU3.out.alloc _) HF.out.1 HF.out.2 rfl HL5.out HG5.out (by simpa using HAT5.out)
  have hb5 : Below b1 w w5 := ((HB3.out.mono (by omega)).alloc (by have := HB3.out.size; omega) _).grown HG5.out (by simp; omega) (fun k hk => by have := (HMO.out.lt k hk).1; omega)
  have hfr6 : Fr w5 (w5.setCell ⟨b1, 0, none⟩ (.slice (some ⟨g2, 0, none⟩) (rows.length + 1) c2)) (fun k => k = b1) := (Fr.refl w5 _).setCell (a := ⟨b1, 0, none⟩) rfl
  go_end0
  refine ⟨⟨_, _, rfl, World.cell?_setCell_same' _ _ _ (by rw [hd5]; rfl), hpush.frame hfr6 (fun k hk e => by have := (hpush.foot_lt hk).1; omega)⟩, hb5.setCell (p := ⟨b1, 0, none⟩) (Nat.le_refl _) _, ?_⟩
  rw [World.frozen?_setCell]; exact hz5
end Go.Proofs.YtpmkdihencepnaaGreat

/-
  insert.Moves: what it answers.
-/
namespace Go.Proofs.YtpmkdihencepnaaGreat
open Go.RowKit

/-- What insert.Moves answers. -/
def MovesOut (e : Ending) (w' : World) (B : Nat) (xs : List Int) : Prop := ∃ (k : Int) (v : Value) (hs : List Value) (rows : List (List Int)), e = .returned (.tuple #[v, .int .i64 k]) ∧ OwnM w' B v hs rows ∧ k = wordChk xs ∧
  (k = 0 → rows.Nodup ∧ ∀ u, u ∈ rows ↔ KStep xs u) ∧ (k ≠ 0 → rows = []) ∧ rows.length ≤ 80
/-- While the words are found. -/
def Mvg (w wr : World) (b1 : Nat) (rows : List (List Int)) : Prop := ∃ v hs, wr.cell? ⟨b1, 0, none⟩ = some v ∧ wr.frozen? ⟨b1, 0, none⟩ = false ∧ OwnM wr (b1 + 1) v hs rows ∧ Below b1 w wr
theorem lit2' (w : World) (o o' : Obj) : ((w.alloc o).alloc o').heap[w.heap.size + 1]? = some o' := by
  have := heap_alloc_new (w.alloc o) o'
  simpa using this
theorem ownM_dn {w : World} {B B' : Nat} {v : Value} {hs : List Value} {rows : List (List Int)} (h : OwnM w B v hs rows) (hB : B' ≤ B) : OwnM w B' v hs rows := ⟨h.len, h.out.mono hB, fun r hr => (h.inn r hr).mono hB, h.far, h.top⟩
def SrtOut (e : Ending) (w w' : World) (B : Nat) (v : Value) (zs : List (Value × List Int)) : Prop := e = .returned (.tuple #[]) ∧ ∃ zs', RowZ w' B v zs' ∧ zs'.Perm zs ∧ zs'.Pairwise (fun a b => ¬ lexC b.2 a.2 < 0) ∧ Below B w w' ∧ w.grownBy w' v.ownBlock
def CptOut (e : Ending) (w w' : World) (B : Nat) (zs : List (Value × List Int)) : Prop := ∃ v', e = .returned v' ∧ RowZ w' B v' (kpt zs zs.length) ∧ Below B w w'
theorem hi_dec (a b c : Int) : decide (StHi a b c) = (decide (b < a) && decide (a ≤ c) || decide (c < a) && decide (a ≤ b)) := by
  by_cases h : StHi a b c
  · rw [decide_eq_true h]; simpa [StHi] using h
  · rw [decide_eq_false h]; simpa [StHi] using h
theorem lo_dec (a b c : Int) : decide (StLo a b c) = (decide (a ≤ c) && decide (c < b) || decide (b ≤ c) && decide (c < a)) := by
  by_cases h : StLo a b c
  · rw [decide_eq_true h]; simpa [StLo] using h
  · rw [decide_eq_false h]; simpa [StLo] using h

set_option maxRecDepth 100000 in
set_option maxHeartbeats 4000000 in
theorem moves_any (A : Option Addr) (cap : Nat) (xs : List Int) (w : World) (hcl : xs.length ≤ 9223372036854775807) (h : Sl w w.heap.size A (ints xs)) :
    Calls Tryz.prog 32 #[.slice A xs.length cap] w fun e w' => MovesOut e w' w.heap.size xs ∧ Below w.heap.size w w' := by
  have H := Lib.hid h
  have hlet := letters_any A cap xs (w.alloc (.cells #[.slice A xs.length cap] 22)) hcl (h.now ((Below.refl _ _).alloc (Nat.le_refl _) _) (Nat.le_refl _))
  have HLET := Lib.hid hlet
  obtain ⟨k, hk⟩ : ∃ k, k = wordChk xs := ⟨_, rfl⟩
  rw [← hk] at HLET
  have HK := Lib.hid hk
  clear h hlet hk
  go_enter Tryz.func32, Tryz.ntmps32
  go_wp2_with (first | (go_at_call 47; refine (HLET.out).mono ?_) | fail)
  rintro e w2 ⟨rfl, rfl⟩
  by_cases hk0 : k = 0
  · have hw := wordChk_zero (xs := xs) (by rw [← HK.out]; exact hk0)
    have hl40 := hw.1
    subst hk0
    clear hw HLET
    go_wp2
    obtain ⟨w0, hw0⟩ : ∃ w0, w0 = ((w.alloc (.cells #[.slice A xs.length cap] 22)).alloc (.cells #[.slice none 0 0] 28)) := ⟨_, rfl⟩
    have h00 : w0.cell? ⟨w.heap.size, 0, none⟩ = some (.slice A xs.length cap) := by
      rw [hw0, World.cell?_of_block (heap_alloc_old _ _ (by simp)), World.cell?_alloc_at _ _ _ _ rfl]; rfl
    have h01 : w0.cell? ⟨w.heap.size + 1, 0, none⟩ = some (.slice none 0 0) := by
      rw [hw0, World.cell?_alloc_at _ _ _ _ (by simp)]; rfl
    have h02 : w0.frozen? ⟨w.heap.size + 1, 0, none⟩ = false := by
      have e : w0.heap[w.heap.size + 1]? = some (.cells #[.slice none 0 0] 28) := by rw [hw0]; exact lit2' w _ _
      simp [World.frozen?, e]
    have hb0 : Below w.heap.size w w0 := by rw [hw0]; exact ((Below.refl _ _).alloc (Nat.le_refl _) _).alloc (by simp) _
    have hz0 : w0.heap.size = w.heap.size + 2 := by rw [hw0]; simp
    have hS0 := H.out.below hb0
    rw [← hw0]
    have HB0 := Lib.hid hb0
    have HZ0 := Lib.hid hz0
    clear hw0 hb0 hz0 H
    go_loopw [7] (fun iv wr => ∃ i : Nat, i ≤ xs.length - 2 ∧ iv = .int .i64 i ∧ Mvg w0 wr (w.heap.size + 1) (mvs xs i)) (fun iv _ => xs.length - (intOf iv).toNat)
    case atStart => exact ⟨0, Nat.zero_le _, rfl, _, [], h01, h02, OwnM.nil _ _, Below.refl _ _⟩
    case round =>
      clear h01 h02
      have H00 := Lib.hid h00
      obtain ⟨i, hi, rfl, v, hs, hd1, hd2, hm, hW⟩ := hrel
      obtain ⟨w9, rfl⟩ : ∃ w9, w9 = wr := ⟨_, rfl⟩
      have hd0 : w9.cell? ⟨w.heap.size, 0, none⟩ = some (.slice A xs.length cap) := (hW.cell (p := ⟨w.heap.size, 0, none⟩) (show w.heap.size < w.heap.size + 1 by omega)).trans h00
      have hmv := mvs_len xs i
      have HMV : Hid ((mvs xs i).length ≤ 80) := Lib.hid (show _ ≤ _ by omega)
      by_cases hit : i + 2 < xs.length
      · have di : decide ((i : Int) + 2 < (xs.length : Int)) = true := decide_eq_true (by omega)
        have hslB := hS0.more (show w.heap.size ≤ w.heap.size + 1 by omega)
        have hsl9 := hslB.below hW
        obtain ⟨b, o, rfl, hb⟩ := hS0.addr (by omega)
        have hca := getD_cell hsl9 (k := i) (by omega)
        have hcb := getD_cell hsl9 (k := i + 1) (by omega)
        have hcc := getD_cell hsl9 (k := i + 2) hit
        have hma : mvs xs (i + 1) = (mvs xs i ++ (if StHi (xs.getD i 0) (xs.getD (i + 1) 0) (xs.getD (i + 2) 0) then [swpK xs (i + 1)] else [])) ++ (if StLo (xs.getD i 0) (xs.getD (i + 1) 0) (xs.getD (i + 2) 0) then [swpK xs i] else []) := by
          rw [mvs_succ, List.append_assoc]; rfl
        obtain ⟨a, hae⟩ : ∃ y, y = xs.getD i 0 := ⟨_, rfl⟩
        obtain ⟨y, hye⟩ : ∃ y, y = xs.getD (i + 1) 0 := ⟨_, rfl⟩
        obtain ⟨c, hce⟩ : ∃ y, y = xs.getD (i + 2) 0 := ⟨_, rfl⟩
        rw [← hae, ← hye, ← hce] at hma
        rw [← hae] at hca
        rw [← hye] at hcb
        rw [← hce] at hcc
        have HMA := Lib.hid hma
        have HM := Lib.hid hm
        have HW := Lib.hid hW
        have hi1 : i + 1 < xs.length := by omega
        have hi0 : i < xs.length := by omega
        clear hma hm hae hye hce hmv hslB hsl9
        go_upto_region 9 with fail
        go_quiet (fail)
        obtain ⟨w5, hw5⟩ : ∃ w5, w5 = w9.drewN nq := ⟨_, rfl⟩
        have HM5 : Hid (OwnM w5 (w.heap.size + 1 + 1) v hs (mvs xs i)) := Lib.hid (by rw [hw5]; exact HM.out.drewN _)
        have HW5 : Hid (Below (w.heap.size + 1) w0 w5) := Lib.hid (by rw [hw5]; exact below_drewN HW.out _)
        have e0 : w5.cell? ⟨w.heap.size, 0, none⟩ = some (.slice (some ⟨b, o, none⟩) xs.length cap) := by rw [hw5]; exact hd0
        have e1 : w5.cell? ⟨w.heap.size + 1, 0, none⟩ = some v := by rw [hw5]; exact hd1
        have e2 : w5.frozen? ⟨w.heap.size + 1, 0, none⟩ = false := by rw [hw5]; exact hd2
        rw [← hw5]
        clear hw5 HM HW hd0 hd1 hd2 hca hcb hcc
        go_upto_region 10 with fail
        go_cut [55] (fun bv wz => bv = .bool (decide (StHi a y c)) ∧ w5 = wz)
        case first =>
          have HE := Lib.hid (hi_dec a y c)
          cases h1 : decide (y < a) <;> cases h2 : decide (a ≤ c) <;> cases h3 : decide (c < a) <;> cases h4 : decide (a ≤ y) <;>
          · have H1 := Lib.hid h1
            have H2 := Lib.hid h2
            have H3 := Lib.hid h3
            have H4 := Lib.hid h4
            go_wp2
            go_meet
            exact ⟨by rw [HE.out, H1.out, H2.out, H3.out, H4.out]; rfl, rfl⟩
        case rest =>
          obtain ⟨rfl, rfl⟩ := hcut
          clear hW h00
          go_upto_if 55 with fail
          go_cut [] (fun wz => Mvg w0 wz (w.heap.size + 1) (mvs xs i ++ if StHi a y c then [swpK xs (i + 1)] else []))
          case first =>
            by_cases hS : StHi a y c
            · have dS : decide (StHi a y c) = true := decide_eq_true hS
              have HS := Lib.hid hS
              have htu := turn_any (some ⟨b, o, none⟩) cap xs (i + 1) w5 w.heap.size (w.heap.size + 1) (w.heap.size + 1 + 1) w.heap.size v hs (mvs xs i) (by omega) (by omega) (by have := HMV.out; omega) (hS0.below (HW5.out.mono (by omega))) (by omega) (by omega) (by have := HW5.out.size; have := HZ0.out; omega) e0 e1 e2 HM5.out
              rw [show ((i + 1 : Nat) : Int) = (i : Int) + 1 by omega] at htu
              have HTU := Lib.hid htu
              clear htu
              go_wp2_with (first | (go_at_call 52; refine (HTU.out).mono ?_) | fail)
              rintro e w6 ⟨⟨v', hs', rfl, hc6, hm6⟩, hb6, hf6⟩
              have hm6' : OwnM w6 (w.heap.size + 1 + 1) v' hs' (mvs xs i ++ if StHi a y c then [swpK xs (i + 1)] else []) := by rw [if_pos HS.out]; exact hm6
              have HM6 := Lib.hid hm6'
              clear hm6 hm6'
              go_wp2
              go_meet
              exact ⟨v', hs', hc6, hf6, HM6.out, HW5.out.trans hb6⟩
            · have dS : decide (StHi a y c) = false := decide_eq_false hS
              have hm6' : OwnM w5 (w.heap.size + 1 + 1) v hs (mvs xs i ++ if StHi a y c then [swpK xs (i + 1)] else []) := by rw [if_neg hS, List.append_nil]; exact HM5.out
              have HM6 := Lib.hid hm6'
              clear hm6'
              go_wp2
              go_meet
              exact ⟨v, hs, e1, e2, HM6.out, HW5.out⟩
          case rest =>
            clear HM5 HW5 e0 e1 e2
            obtain ⟨v6, hs6, e1, e2, hm6, hW6⟩ := hcut
            have e0 : wc.cell? ⟨w.heap.size, 0, none⟩ = some (.slice (some ⟨b, o, none⟩) xs.length cap) := (hW6.cell (p := ⟨w.heap.size, 0, none⟩) (show w.heap.size < w.heap.size + 1 by omega)).trans H00.out
            obtain ⟨rows, hrw⟩ : ∃ r, r = (mvs xs i ++ if StHi a y c then [swpK xs (i + 1)] else []) := ⟨_, rfl⟩
            have hrl : rows.length ≤ 81 := by
              have := HMV.out
              rw [hrw, List.length_append]
              split
              · simp; omega
              · simp; omega
            rw [← hrw] at hm6
            have hma := HMA.out
            rw [← hrw] at hma
            have HMB := Lib.hid hma
            have HM6 := Lib.hid hm6
            have HW6 := Lib.hid hW6
            have HRL := Lib.hid hrl
            obtain ⟨w7, hw7⟩ : ∃ w7, w7 = wc := ⟨_, rfl⟩
            rw [← hw7] at e0 e1 e2 HM6 HW6 ⊢
            clear hw7 hrw hrl hm6 hW6 hma HMA HMV
            go_upto_region 12 with fail
            go_cut [77] (fun bv wz => bv = .bool (decide (StLo a y c)) ∧ w7 = wz)
            case first =>
              have HE := Lib.hid (lo_dec a y c)
              cases h1 : decide (a ≤ c) <;> cases h2 : decide (c < y) <;> cases h3 : decide (y ≤ c) <;> cases h4 : decide (c < a) <;>
              · have H1 := Lib.hid h1
                have H2 := Lib.hid h2
                have H3 := Lib.hid h3
                have H4 := Lib.hid h4
                go_wp2
                go_meet
                exact ⟨by rw [HE.out, H1.out, H2.out, H3.out, H4.out]; rfl, rfl⟩
            case rest =>
              obtain ⟨rfl, rfl⟩ := hcut
              by_cases hS : StLo a y c
              · have dS : decide (StLo a y c) = true := decide_eq_true hS
                have htu := turn_any (some ⟨b, o, none⟩) cap xs i w7 w.heap.size (w.heap.size + 1) (w.heap.size + 1 + 1) w.heap.size v6 hs6 rows (by omega) (by omega) (by have := HRL.out; omega) (hS0.below (HW6.out.mono (by omega))) (by omega) (by omega) (by have := HW6.out.size; have := HZ0.out; omega) e0 e1 e2 HM6.out
                have HTU := Lib.hid htu
                have hmc := HMB.out
                rw [if_pos hS] at hmc
                have HMC := Lib.hid hmc
                clear htu hmc
                go_wp2_with (first | (go_at_call 52; refine (HTU.out).mono ?_) | fail)
                rintro e w8 ⟨⟨v', hs', rfl, hc6, hm6⟩, hb6, hf6⟩
                rw [← HMC.out] at hm6
                have HM8 := Lib.hid hm6
                have HWW := Lib.hid (HW6.out.trans hb6)
                have HC6 := Lib.hid hc6
                have HF6 := Lib.hid hf6
                clear hm6 hc6 hf6 hb6 HM6 HW6 e0 e1 e2 HMB HRL HTU HMC
                go_wp2
                go_roundw
                case rel => exact ⟨i + 1, by omega, by go_num, v', hs', HC6.out, HF6.out, HM8.out, HWW.out⟩
                case measure => simp [intOf]; omega
              · have dS : decide (StLo a y c) = false := decide_eq_false hS
                have hmc := HMB.out
                rw [if_neg hS, List.append_nil] at hmc
                have hm6' := HM6.out
                rw [← hmc] at hm6'
                have HM8 := Lib.hid hm6'
                have HC6 := Lib.hid e1
                have HF6 := Lib.hid e2
                clear hm6' hmc HM6 e0 e1 e2 HMB HRL
                go_wp2
                go_roundw
                case rel => exact ⟨i + 1, by omega, by go_num, v6, hs6, HC6.out, HF6.out, HM8.out, HW6.out⟩
                case measure => simp [intOf]; omega
      · have di : decide ((i : Int) + 2 < (xs.length : Int)) = false := decide_eq_false (by omega)
        have hie : i = xs.length - 2 := by omega
        obtain ⟨zs, hz, _, hz2⟩ := hm.z
        have hmem := fun u => mem_mvs (w := xs) (v := u)
        rw [← hie, ← hz2] at hmem
        have hzl : zs.length ≤ 80 := by
          have := HMV.out
          rw [← hz2, List.length_map] at this
          exact this
        have hB1 : w.heap.size + 1 + 1 ≤ w9.heap.size := by have := hW.size; have := HZ0.out; omega
        have hso : Calls Tryz.prog 53 #[v, .func (.func 54) #[] #[]] w9 fun e w' => SrtOut e w9 w' (w.heap.size + 1 + 1) v zs := (sortR_any v zs w9 hB1 hz (by omega)).mono (fun e w' ⟨⟨a, zs', b, c, d⟩, f, g⟩ => ⟨a, zs', b, c, d, f, g⟩)
        have hnb : some (w.heap.size + 1) ≠ v.ownBlock := fun e => by have := (hz.out.lt _ e.symm).1; omega
        have HSO := Lib.hid hso
        have HNB := Lib.hid hnb
        have HMEM := Lib.hid hmem
        have HW := Lib.hid hW
        clear hm hz hso hnb hmem hW hz2 hie HMV h00
        go_wp2_with (first | (go_at_call 53; refine (HSO.out).mono ?_) | fail)
        rintro e w10 ⟨rfl, zs', hz', hperm, hsort, hb10, hg10⟩
        have hblk : w10.heap[w.heap.size + 1]? = w9.heap[w.heap.size + 1]? := hg10.block _ (by omega) HNB.out
        have hd10 : w10.cell? ⟨w.heap.size + 1, 0, none⟩ = some v := (World.cell?_of_block hblk).trans hd1
        have hpl := hperm.length_eq
        have hco : Calls Tryz.prog 55 #[v, .func (.func 56) #[] #[]] w10 fun e w' => CptOut e w10 w' (w.heap.size + 1 + 1) zs' := (compactR_any v zs' w10 hz' (by omega)).mono (fun e w' ⟨⟨v', a, b⟩, c⟩ => ⟨v', a, b, c⟩)
        have HCO := Lib.hid hco
        have HPERM := Lib.hid hperm
        have HSORT := Lib.hid hsort
        have HB10 := Lib.hid hb10
        clear hco hperm hsort hb10 hg10 hblk hz' hd0 hd1 hd2 HSO HNB
        go_wp2_with (first | (go_at_call 55; refine (HCO.out).mono ?_) | fail)
        rintro e w11 ⟨v', rfl, hz11, hb11⟩
        have HZ11 := Lib.hid hz11
        have HB11 := Lib.hid hb11
        clear hz11 hb11 HCO hd10
        go_wp2
        go_ret2
        have hsub := kpt_sub (zs := zs') (j := zs'.length) (Nat.le_refl _)
        rw [List.take_length] at hsub
        have hfb : Below w.heap.size w w11 := ((HB0.out.trans (HW.out.mono (by omega))).trans (HB10.out.mono (by omega))).trans (HB11.out.mono (by omega))
        refine ⟨⟨0, v', _, _, rfl, ownM_dn HZ11.out.m (by omega), HK.out, fun _ => ⟨?_, fun u => ?_⟩, fun e => absurd rfl e, ?_⟩, hfb⟩
        · rw [List.Nodup, List.pairwise_map]
          refine (kpt_strict (HSORT.out.imp (fun h => by omega)) (Nat.le_refl _)).imp (fun {a b} hab e => ?_)
          rw [e, lexC_self] at hab
          omega
        · rw [← HMEM.out u]
          constructor
          · intro hu
            obtain ⟨z, hzk, rfl⟩ := List.mem_map.1 hu
            exact List.mem_map.2 ⟨z, HPERM.out.mem_iff.1 (hsub.subset hzk), rfl⟩
          · intro hu
            obtain ⟨z, hzz, rfl⟩ := List.mem_map.1 hu
            obtain ⟨q, hq, e⟩ := List.getElem_of_mem (HPERM.out.mem_iff.2 hzz)
            obtain ⟨z', hz1, hz2⟩ := kpt_has (zs := zs') (j := zs'.length) q hq
            rw [getD_get hq, e] at hz2
            exact List.mem_map.2 ⟨z', hz1, hz2⟩
        · rw [List.length_map]
          have := kpt_len zs' zs'.length
          omega
  · have dk : (k != 0) = true := by simpa using hk0
    have HK0 := Lib.hid hk0
    go_wp2
    go_ret2
    exact ⟨⟨k, _, [], [], rfl, OwnM.nil _ _, HK.out, fun e => absurd e HK0.out, fun _ => rfl, by simp⟩, (Below.refl _ _).alloc (Nat.le_refl _) _⟩
end Go.Proofs.YtpmkdihencepnaaGreat

/-
  rule.search while its rows are made.
-/
namespace Go.Proofs.YtpmkdihencepnaaGreat
open Go.RowKit LR

/-- 'append(v, u)' of one slice at a step of a region that draws: u was laid in a block of its own. -/
theorem step_pushE {w : World} {base : Nat} {hs : List Value} {v : Value} {ops : Array Oper} {o : Oper} {a : Act} {K : Act → World → Prop} {Q : Exit → Act → World → Prop} {E : Prop} (hgd : o.guard = none) (s x : Operand)
    (ho : o.op = .call { callee := .builtin .append, args := #[s, x], argTypes := #[28, 28] }) (hs' : a.eval s = v) (u : Value) (hu : u.oneCell' = true) (n : Nat) (g0 : Nat)
    (hx : a.eval x = .slice (some ⟨g0, 0, none⟩) 1 1) (hown : w.ownsRow base 22 1 v n hs) (hlit : w.heap[g0]? = some (.cells #[u] 22)) (hlen : n < 1000000) (hbase : base ≤ w.heap.size)
    (h : ∀ g cap w', w'.ownsRow base 22 1 (.slice (some ⟨g, 0, none⟩) (n + 1) cap) (n + 1) (hs ++ [u]) → w.grownBy w' v.ownBlock → (v.ownBlock = some g ∨ g = w.heap.size) → g < w'.heap.size →
      K (a.put o.dst (.slice (some ⟨g, 0, none⟩) (n + 1) cap)) w') :
    if Region.wanted o (yielded ops a.tmps) = true then Oper.wp Tryz.prog o a w K Q else E := by
  obtain ⟨i0, hi, hz0, hz1, hz2⟩ := info_parts Tryz.infoSlice
  refine step_append_lies _ hgd s x 28 ho base 22 i0 (.slice none 0 0) 1 24 Tryz.underlying28 hi hz0 hz1 hz2 rfl (by decide) v n hs hs' hown ⟨g0, 0, none⟩ 1 1 [u] hx rfl (World.news_of_block (cs := #[u]) hlit) (by simpa using hu) (by decide)
    (by unfold maxLen; omega) (by omega) hbase _ rfl (fun g cap w' h1 h2 h3 h4 => h g cap w' (by simpa using h1) h2 h3 h4)

theorem own_val {w : World} {B n z : Nat} {e : TypeId} {v : Value} {cs : List Value} (h : w.ownsRow B e z v n cs) : ∃ A c g, v = .slice A n c ∧ (0 < n → A = some ⟨g, 0, none⟩) := by
  rcases h.2 with ⟨e1, e2⟩ | ⟨g, c, _, e1, _⟩
  · exact ⟨none, 0, 0, by rw [e1, e2], fun h => by omega⟩
  · exact ⟨some ⟨g, 0, none⟩, c, g, e1, fun _ => rfl⟩
theorem frozen_of_blockE {w w' : World} {b : Nat} (h : w'.heap[b]? = w.heap[b]?) {o : Nat} : w'.frozen? ⟨b, o, none⟩ = w.frozen? ⟨b, o, none⟩ := by
  unfold World.frozen?
  rw [h]
end Go.Proofs.YtpmkdihencepnaaGreat
