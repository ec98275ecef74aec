/-
  insert.Moves: what it answers.
-/
import Derived.Test.YtmlmdklheiafpaaKnu3W
namespace Go.Proofs.Ytmlmdklheiafpaa
open Go.RowKit

/-- What insert.Moves answers. -/
def MovesOut (e : Ending) (w' : World) (B : Nat) (xs : List Int) : Prop := ∃ (k : Int) (v : Value) (hs : List Value) (rows : List (List Int)), e = .returned (.tuple #[v, .int .i64 k]) ∧ OwnM w' B v hs rows ∧ k = wordChk xs ∧
  (k = 0 → rows.Nodup ∧ ∀ u, u ∈ rows ↔ KStep xs u) ∧ (k ≠ 0 → rows = []) ∧ rows.length ≤ 80
/-- While the words are found. -/
def Mvg (w wr : World) (b1 : Nat) (rows : List (List Int)) : Prop := ∃ v hs, wr.cell? ⟨b1, 0, none⟩ = some v ∧ wr.frozen? ⟨b1, 0, none⟩ = false ∧ OwnM wr (b1 + 1) v hs rows ∧ Below b1 w wr
theorem lit2' (w : World) (o o' : Obj) : ((w.alloc o).alloc o').heap[w.heap.size + 1]? = some o' := by
  have := heap_alloc_new (w.alloc o) o'
  simpa using this
theorem ownM_dn {w : World} {B B' : Nat} {v : Value} {hs : List Value} {rows : List (List Int)} (h : OwnM w B v hs rows) (hB : B' ≤ B) : OwnM w B' v hs rows := ⟨h.len, h.out.mono hB, fun r hr => (h.inn r hr).mono hB, h.far, h.top⟩
def SrtOut (e : Ending) (w w' : World) (B : Nat) (v : Value) (zs : List (Value × List Int)) : Prop := e = .returned (.tuple #[]) ∧ ∃ zs', RowZ w' B v zs' ∧ zs'.Perm zs ∧ zs'.Pairwise (fun a b => ¬ lexC b.2 a.2 < 0) ∧ Below B w w' ∧ w.grownBy w' v.ownBlock
def CptOut (e : Ending) (w w' : World) (B : Nat) (zs : List (Value × List Int)) : Prop := ∃ v', e = .returned v' ∧ RowZ w' B v' (kpt zs zs.length) ∧ Below B w w'
theorem hi_dec (a b c : Int) : decide (StHi a b c) = (decide (b < a) && decide (a ≤ c) || decide (c < a) && decide (a ≤ b)) := by
  by_cases h : StHi a b c
  · rw [decide_eq_true h]; simpa [StHi] using h
  · rw [decide_eq_false h]; simpa [StHi] using h
theorem lo_dec (a b c : Int) : decide (StLo a b c) = (decide (a ≤ c) && decide (c < b) || decide (b ≤ c) && decide (c < a)) := by
  by_cases h : StLo a b c
  · rw [decide_eq_true h]; simpa [StLo] using h
  · rw [decide_eq_false h]; simpa [StLo] using h

set_option maxRecDepth 100000 in
set_option maxHeartbeats 4000000 in
theorem moves_any (A : Option Addr) (cap : Nat) (xs : List Int) (w : World) (hcl : xs.length ≤ 9223372036854775807) (h : Sl w w.heap.size A (ints xs)) :
    Calls Try.prog 45 #[.slice A xs.length cap] w fun e w' => MovesOut e w' w.heap.size xs ∧ Below w.heap.size w w' := by
  have H := Lib.hid h
  have hlet := letters_any A cap xs (w.alloc (.cells #[.slice A xs.length cap] 22)) hcl (h.now ((Below.refl _ _).alloc (Nat.le_refl _) _) (Nat.le_refl _))
  have HLET := Lib.hid hlet
  obtain ⟨k, hk⟩ : ∃ k, k = wordChk xs := ⟨_, rfl⟩
  rw [← hk] at HLET
  have HK := Lib.hid hk
  clear h hlet hk
  go_enter Try.func45, Try.ntmps45
  go_wp2_with (first | (go_at_call 56; refine (HLET.out).mono ?_) | fail)
  rintro e w2 ⟨rfl, rfl⟩
  by_cases hk0 : k = 0
  · have hw := wordChk_zero (xs := xs) (by rw [← HK.out]; exact hk0)
    have hl40 := hw.1
    subst hk0
    clear hw HLET
    go_wp2
    obtain ⟨w0, hw0⟩ : ∃ w0, w0 = ((w.alloc (.cells #[.slice A xs.length cap] 22)).alloc (.cells #[.slice none 0 0] 40)) := ⟨_, rfl⟩
    have h00 : w0.cell? ⟨w.heap.size, 0, none⟩ = some (.slice A xs.length cap) := by
      rw [hw0, World.cell?_of_block (heap_alloc_old _ _ (by simp)), World.cell?_alloc_at _ _ _ _ rfl]; rfl
    have h01 : w0.cell? ⟨w.heap.size + 1, 0, none⟩ = some (.slice none 0 0) := by
      rw [hw0, World.cell?_alloc_at _ _ _ _ (by simp)]; rfl
    have h02 : w0.frozen? ⟨w.heap.size + 1, 0, none⟩ = false := by
      have e : w0.heap[w.heap.size + 1]? = some (.cells #[.slice none 0 0] 40) := by rw [hw0]; exact lit2' w _ _
      simp [World.frozen?, e]
    have hb0 : Below w.heap.size w w0 := by rw [hw0]; exact ((Below.refl _ _).alloc (Nat.le_refl _) _).alloc (by simp) _
    have hz0 : w0.heap.size = w.heap.size + 2 := by rw [hw0]; simp
    have hS0 := H.out.below hb0
    rw [← hw0]
    have HB0 := Lib.hid hb0
    have HZ0 := Lib.hid hz0
    clear hw0 hb0 hz0 H
    go_loopw [7] (fun iv wr => ∃ i : Nat, i ≤ xs.length - 2 ∧ iv = .int .i64 i ∧ Mvg w0 wr (w.heap.size + 1) (mvs xs i)) (fun iv _ => xs.length - (intOf iv).toNat)
    case atStart => exact ⟨0, Nat.zero_le _, rfl, _, [], h01, h02, OwnM.nil _ _, Below.refl _ _⟩
    case round =>
      clear h01 h02
      have H00 := Lib.hid h00
      obtain ⟨i, hi, rfl, v, hs, hd1, hd2, hm, hW⟩ := hrel
      obtain ⟨w9, rfl⟩ : ∃ w9, w9 = wr := ⟨_, rfl⟩
      have hd0 : w9.cell? ⟨w.heap.size, 0, none⟩ = some (.slice A xs.length cap) := (hW.cell (p := ⟨w.heap.size, 0, none⟩) (show w.heap.size < w.heap.size + 1 by omega)).trans h00
      have hmv := mvs_len xs i
      have HMV : Hid ((mvs xs i).length ≤ 80) := Lib.hid (show _ ≤ _ by omega)
      by_cases hit : i + 2 < xs.length
      · have di : decide ((i : Int) + 2 < (xs.length : Int)) = true := decide_eq_true (by omega)
        have hslB := hS0.more (show w.heap.size ≤ w.heap.size + 1 by omega)
        have hsl9 := hslB.below hW
        obtain ⟨b, o, rfl, hb⟩ := hS0.addr (by omega)
        have hca := getD_cell hsl9 (k := i) (by omega)
        have hcb := getD_cell hsl9 (k := i + 1) (by omega)
        have hcc := getD_cell hsl9 (k := i + 2) hit
        have hma : mvs xs (i + 1) = (mvs xs i ++ (if StHi (xs.getD i 0) (xs.getD (i + 1) 0) (xs.getD (i + 2) 0) then [swp xs (i + 1)] else [])) ++ (if StLo (xs.getD i 0) (xs.getD (i + 1) 0) (xs.getD (i + 2) 0) then [swp xs i] else []) := by
          rw [mvs_succ, List.append_assoc]; rfl
        obtain ⟨a, hae⟩ : ∃ y, y = xs.getD i 0 := ⟨_, rfl⟩
        obtain ⟨y, hye⟩ : ∃ y, y = xs.getD (i + 1) 0 := ⟨_, rfl⟩
        obtain ⟨c, hce⟩ : ∃ y, y = xs.getD (i + 2) 0 := ⟨_, rfl⟩
        rw [← hae, ← hye, ← hce] at hma
        rw [← hae] at hca
        rw [← hye] at hcb
        rw [← hce] at hcc
        have HMA := Lib.hid hma
        have HM := Lib.hid hm
        have HW := Lib.hid hW
        have hi1 : i + 1 < xs.length := by omega
        have hi0 : i < xs.length := by omega
        clear hma hm hae hye hce hmv hslB hsl9
        go_upto_region 9 with fail
        go_quiet (fail)
        obtain ⟨w5, hw5⟩ : ∃ w5, w5 = w9.drewN nq := ⟨_, rfl⟩
        have HM5 : Hid (OwnM w5 (w.heap.size + 1 + 1) v hs (mvs xs i)) := Lib.hid (by rw [hw5]; exact HM.out.drewN _)
        have HW5 : Hid (Below (w.heap.size + 1) w0 w5) := Lib.hid (by rw [hw5]; exact below_drewN HW.out _)
        have e0 : w5.cell? ⟨w.heap.size, 0, none⟩ = some (.slice (some ⟨b, o, none⟩) xs.length cap) := by rw [hw5]; exact hd0
        have e1 : w5.cell? ⟨w.heap.size + 1, 0, none⟩ = some v := by rw [hw5]; exact hd1
        have e2 : w5.frozen? ⟨w.heap.size + 1, 0, none⟩ = false := by rw [hw5]; exact hd2
        rw [← hw5]
        clear hw5 HM HW hd0 hd1 hd2 hca hcb hcc
        go_upto_region 10 with fail
        go_cut [55] (fun bv wz => bv = .bool (decide (StHi a y c)) ∧ w5 = wz)
        case first =>
          have HE := Lib.hid (hi_dec a y c)
          cases h1 : decide (y < a) <;> cases h2 : decide (a ≤ c) <;> cases h3 : decide (c < a) <;> cases h4 : decide (a ≤ y) <;>
          · have H1 := Lib.hid h1
            have H2 := Lib.hid h2
            have H3 := Lib.hid h3
            have H4 := Lib.hid h4
            go_wp2
            go_meet
            exact ⟨by rw [HE.out, H1.out, H2.out, H3.out, H4.out]; rfl, rfl⟩
        case rest =>
          obtain ⟨rfl, rfl⟩ := hcut
          clear hW h00
          go_upto_if 55 with fail
          go_cut [] (fun wz => Mvg w0 wz (w.heap.size + 1) (mvs xs i ++ if StHi a y c then [swp xs (i + 1)] else []))
          case first =>
            by_cases hS : StHi a y c
            · have dS : decide (StHi a y c) = true := decide_eq_true hS
              have HS := Lib.hid hS
              have htu := turn_any (some ⟨b, o, none⟩) cap xs (i + 1) w5 w.heap.size (w.heap.size + 1) (w.heap.size + 1 + 1) w.heap.size v hs (mvs xs i) (by omega) (by omega) (by have := HMV.out; omega) (hS0.below (HW5.out.mono (by omega))) (by omega) (by omega) (by have := HW5.out.size; have := HZ0.out; omega) e0 e1 e2 HM5.out
              rw [show ((i + 1 : Nat) : Int) = (i : Int) + 1 by omega] at htu
              have HTU := Lib.hid htu
              clear htu
              go_wp2_with (first | (go_at_call 67; refine (HTU.out).mono ?_) | fail)
              rintro e w6 ⟨⟨v', hs', rfl, hc6, hm6⟩, hb6, hf6⟩
              have hm6' : OwnM w6 (w.heap.size + 1 + 1) v' hs' (mvs xs i ++ if StHi a y c then [swp xs (i + 1)] else []) := by rw [if_pos HS.out]; exact hm6
              have HM6 := Lib.hid hm6'
              clear hm6 hm6'
              go_wp2
              go_meet
              exact ⟨v', hs', hc6, hf6, HM6.out, HW5.out.trans hb6⟩
            · have dS : decide (StHi a y c) = false := decide_eq_false hS
              have hm6' : OwnM w5 (w.heap.size + 1 + 1) v hs (mvs xs i ++ if StHi a y c then [swp xs (i + 1)] else []) := by rw [if_neg hS, List.append_nil]; exact HM5.out
              have HM6 := Lib.hid hm6'
              clear hm6'
              go_wp2
              go_meet
              exact ⟨v, hs, e1, e2, HM6.out, HW5.out⟩
          case rest =>
            clear HM5 HW5 e0 e1 e2
            obtain ⟨v6, hs6, e1, e2, hm6, hW6⟩ := hcut
            have e0 : wc.cell? ⟨w.heap.size, 0, none⟩ = some (.slice (some ⟨b, o, none⟩) xs.length cap) := (hW6.cell (p := ⟨w.heap.size, 0, none⟩) (show w.heap.size < w.heap.size + 1 by omega)).trans H00.out
            obtain ⟨rows, hrw⟩ : ∃ r, r = (mvs xs i ++ if StHi a y c then [swp xs (i + 1)] else []) := ⟨_, rfl⟩
            have hrl : rows.length ≤ 81 := by
              have := HMV.out
              rw [hrw, List.length_append]
              split
              · simp; omega
              · simp; omega
            rw [← hrw] at hm6
            have hma := HMA.out
            rw [← hrw] at hma
            have HMB := Lib.hid hma
            have HM6 := Lib.hid hm6
            have HW6 := Lib.hid hW6
            have HRL := Lib.hid hrl
            obtain ⟨w7, hw7⟩ : ∃ w7, w7 = wc := ⟨_, rfl⟩
            rw [← hw7] at e0 e1 e2 HM6 HW6 ⊢
            clear hw7 hrw hrl hm6 hW6 hma HMA HMV
            go_upto_region 12 with fail
            go_cut [77] (fun bv wz => bv = .bool (decide (StLo a y c)) ∧ w7 = wz)
            case first =>
              have HE := Lib.hid (lo_dec a y c)
              cases h1 : decide (a ≤ c) <;> cases h2 : decide (c < y) <;> cases h3 : decide (y ≤ c) <;> cases h4 : decide (c < a) <;>
              · have H1 := Lib.hid h1
                have H2 := Lib.hid h2
                have H3 := Lib.hid h3
                have H4 := Lib.hid h4
                go_wp2
                go_meet
                exact ⟨by rw [HE.out, H1.out, H2.out, H3.out, H4.out]; rfl, rfl⟩
            case rest =>
              obtain ⟨rfl, rfl⟩ := hcut
              by_cases hS : StLo a y c
              · have dS : decide (StLo a y c) = true := decide_eq_true hS
                have htu := turn_any (some ⟨b, o, none⟩) cap xs i w7 w.heap.size (w.heap.size + 1) (w.heap.size + 1 + 1) w.heap.size v6 hs6 rows (by omega) (by omega) (by have := HRL.out; omega) (hS0.below (HW6.out.mono (by omega))) (by omega) (by omega) (by have := HW6.out.size; have := HZ0.out; omega) e0 e1 e2 HM6.out
                have HTU := Lib.hid htu
                have hmc := HMB.out
                rw [if_pos hS] at hmc
                have HMC := Lib.hid hmc
                clear htu hmc
                go_wp2_with (first | (go_at_call 67; refine (HTU.out).mono ?_) | fail)
                rintro e w8 ⟨⟨v', hs', rfl, hc6, hm6⟩, hb6, hf6⟩
                rw [← HMC.out] at hm6
                have HM8 := Lib.hid hm6
                have HWW := Lib.hid (HW6.out.trans hb6)
                have HC6 := Lib.hid hc6
                have HF6 := Lib.hid hf6
                clear hm6 hc6 hf6 hb6 HM6 HW6 e0 e1 e2 HMB HRL HTU HMC
                go_wp2
                go_roundw
                case rel => exact ⟨i + 1, by omega, by go_num, v', hs', HC6.out, HF6.out, HM8.out, HWW.out⟩
                case measure => simp [intOf]; omega
              · have dS : decide (StLo a y c) = false := decide_eq_false hS
                have hmc := HMB.out
                rw [if_neg hS, List.append_nil] at hmc
                have hm6' := HM6.out
                rw [← hmc] at hm6'
                have HM8 := Lib.hid hm6'
                have HC6 := Lib.hid e1
                have HF6 := Lib.hid e2
                clear hm6' hmc HM6 e0 e1 e2 HMB HRL
                go_wp2
                go_roundw
                case rel => exact ⟨i + 1, by omega, by go_num, v6, hs6, HC6.out, HF6.out, HM8.out, HW6.out⟩
                case measure => simp [intOf]; omega
      · have di : decide ((i : Int) + 2 < (xs.length : Int)) = false := decide_eq_false (by omega)
        have hie : i = xs.length - 2 := by omega
        obtain ⟨zs, hz, _, hz2⟩ := hm.z
        have hmem := fun u => mem_mvs (w := xs) (v := u)
        rw [← hie, ← hz2] at hmem
        have hzl : zs.length ≤ 80 := by
          have := HMV.out
          rw [← hz2, List.length_map] at this
          exact this
        have hB1 : w.heap.size + 1 + 1 ≤ w9.heap.size := by have := hW.size; have := HZ0.out; omega
        have hso : Calls Try.prog 68 #[v, .func (.func 69) #[] #[]] w9 fun e w' => SrtOut e w9 w' (w.heap.size + 1 + 1) v zs := (sortR_any v zs w9 hB1 hz (by omega)).mono (fun e w' ⟨⟨a, zs', b, c, d⟩, f, g⟩ => ⟨a, zs', b, c, d, f, g⟩)
        have hnb : some (w.heap.size + 1) ≠ v.ownBlock := fun e => by have := (hz.out.lt _ e.symm).1; omega
        have HSO := Lib.hid hso
        have HNB := Lib.hid hnb
        have HMEM := Lib.hid hmem
        have HW := Lib.hid hW
        clear hm hz hso hnb hmem hW hz2 hie HMV h00
        go_wp2_with (first | (go_at_call 68; refine (HSO.out).mono ?_) | fail)
        rintro e w10 ⟨rfl, zs', hz', hperm, hsort, hb10, hg10⟩
        have hblk : w10.heap[w.heap.size + 1]? = w9.heap[w.heap.size + 1]? := hg10.block _ (by omega) HNB.out
        have hd10 : w10.cell? ⟨w.heap.size + 1, 0, none⟩ = some v := (World.cell?_of_block hblk).trans hd1
        have hpl := hperm.length_eq
        have hco : Calls Try.prog 70 #[v, .func (.func 71) #[] #[]] w10 fun e w' => CptOut e w10 w' (w.heap.size + 1 + 1) zs' := (compactR_any v zs' w10 hz' (by omega)).mono (fun e w' ⟨⟨v', a, b⟩, c⟩ => ⟨v', a, b, c⟩)
        have HCO := Lib.hid hco
        have HPERM := Lib.hid hperm
        have HSORT := Lib.hid hsort
        have HB10 := Lib.hid hb10
        clear hco hperm hsort hb10 hg10 hblk hz' hd0 hd1 hd2 HSO HNB
        go_wp2_with (first | (go_at_call 70; refine (HCO.out).mono ?_) | fail)
        rintro e w11 ⟨v', rfl, hz11, hb11⟩
        have HZ11 := Lib.hid hz11
        have HB11 := Lib.hid hb11
        clear hz11 hb11 HCO hd10
        go_wp2
        go_ret2
        have hsub := kpt_sub (zs := zs') (j := zs'.length) (Nat.le_refl _)
        rw [List.take_length] at hsub
        have hfb : Below w.heap.size w w11 := ((HB0.out.trans (HW.out.mono (by omega))).trans (HB10.out.mono (by omega))).trans (HB11.out.mono (by omega))
        refine ⟨⟨0, v', _, _, rfl, ownM_dn HZ11.out.m (by omega), HK.out, fun _ => ⟨?_, fun u => ?_⟩, fun e => absurd rfl e, ?_⟩, hfb⟩
        · rw [List.Nodup, List.pairwise_map]
          refine (kpt_strict (HSORT.out.imp (fun h => by omega)) (Nat.le_refl _)).imp (fun {a b} hab e => ?_)
          rw [e, lexC_self] at hab
          omega
        · rw [← HMEM.out u]
          constructor
          · intro hu
            obtain ⟨z, hzk, rfl⟩ := List.mem_map.1 hu
            exact List.mem_map.2 ⟨z, HPERM.out.mem_iff.1 (hsub.subset hzk), rfl⟩
          · intro hu
            obtain ⟨z, hzz, rfl⟩ := List.mem_map.1 hu
            obtain ⟨q, hq, e⟩ := List.getElem_of_mem (HPERM.out.mem_iff.2 hzz)
            obtain ⟨z', hz1, hz2⟩ := kpt_has (zs := zs') (j := zs'.length) q hq
            rw [getD_get hq, e] at hz2
            exact List.mem_map.2 ⟨z', hz1, hz2⟩
        · rw [List.length_map]
          have := kpt_len zs' zs'.length
          omega
  · have dk : (k != 0) = true := by simpa using hk0
    have HK0 := Lib.hid hk0
    go_wp2
    go_ret2
    exact ⟨⟨k, _, [], [], rfl, OwnM.nil _ _, HK.out, fun e => absurd e HK0.out, fun _ => rfl, by simp⟩, (Below.refl _ _).alloc (Nat.le_refl _) _⟩
end Go.Proofs.Ytmlmdklheiafpaa
