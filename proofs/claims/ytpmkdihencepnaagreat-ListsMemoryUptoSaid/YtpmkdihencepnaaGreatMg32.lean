/-
  rule.fits, rule.Row.
-/
import Derived.Test.YtpmkdihencepnaaGreatMg25
import Derived.Test.YtpmkdihencepnaaGreatMg29
import Derived.Test.YtpmkdihencepnaaGreatMg30
import Derived.Test.YtpmkdihencepnaaGreatMg31
namespace Go.Proofs.YtpmkdihencepnaaGreat
open Go.RowKit

def litC (x : Option Addr × Nat × List Int) : Value := .slice x.1 x.2.2.length x.2.1
theorem sr_lit {w : World} {B : Nat} (items : List (Option Addr × Nat × List Int)) (h : ∀ x ∈ items, Sl w B x.1 (ints x.2.2) ∧ x.2.2.length ≤ 9223372036854775807) (hB : B ≤ w.heap.size) :
    SR (w.alloc (.cells (items.map litC).toArray 22)) (w.heap.size + 1) (some ⟨w.heap.size, 0, none⟩) (items.map (·.2.2)) := by
  have hb : Below w.heap.size w (w.alloc (.cells (items.map litC).toArray 22)) := (Below.refl _ _).alloc (Nat.le_refl _) _
  refine ⟨items.map litC, by simp, fun _ => ⟨w.heap.size, 0, rfl, by omega, fun k u hk => ?_⟩, fun r hr => ?_⟩
  · rw [World.cell?_alloc_at _ _ _ _ rfl]
    simpa using hk
  · have hr' : r < items.length := by simpa using hr
    refine ⟨items[r].1, items[r].2.1, ?_, ?_, ?_⟩
    · simp [hr', litC]
    · have := (h _ (List.getElem_mem hr')).1
      have e : (items.map (·.2.2)).getD r [] = items[r].2.2 := by simp [hr']
      rw [e]
      exact ((this.more hB).below hb).more (by omega)
    · have e : (items.map (·.2.2)).getD r [] = items[r].2.2 := by simp [hr']
      rw [e]
      exact (h _ (List.getElem_mem hr')).2
def FitOk (p : List Int) (k : Int) : Prop := IsPart p ∧ p.sum ≤ 16 ∧ 0 ≤ k ∧ p.sum + k ≤ 16
def FitOut (e : Ending) (p : List Int) (k : Int) (w w' : World) : Prop := (∃ x : Int, e = .returned (.int .i64 x) ∧ (x = 0 ↔ FitOk p k)) ∧ Below w.heap.size w w'
set_option maxRecDepth 100000 in
set_option maxHeartbeats 4000000 in
theorem fits_any (A : Option Addr) (cap : Nat) (p : List Int) (k : Int) (w : World) (hl : p.length ≤ 9223372036854775807) (h : Sl w w.heap.size A (ints p)) :
    Calls Tryz.prog 59 #[.slice A p.length cap, .int .i64 k] w fun e w' => FitOut e p k w w' := by
  have hsr := sr_lit (w := w) (B := w.heap.size) [(A, cap, p)] (fun x hx => by
    simp only [List.mem_cons, List.not_mem_nil, or_false] at hx
    subst hx; exact ⟨h, hl⟩) (Nat.le_refl _)
  obtain ⟨w0, hw0⟩ : ∃ w0, w0 = w.alloc (.cells #[.slice A p.length cap] 22) := ⟨_, rfl⟩
  have e0 : w.alloc (.cells ([(A, cap, p)].map litC).toArray 22) = w0 := by rw [hw0]; simp [litC]
  rw [e0] at hsr
  have hz0 : w0.heap.size = w.heap.size + 1 := by rw [hw0]; simp
  have hb0 : Below w.heap.size w w0 := by rw [hw0]; exact (Below.refl _ _).alloc (Nat.le_refl _) _
  have HRIG := Lib.hid (right_any (some ⟨w.heap.size, 0, none⟩) 1 _ w0 (by simp) (hsr.more (by omega)))
  have hrig : RigOk ([(A, cap, p)].map (·.2.2)) ↔ (IsPart p ∧ p.sum ≤ 16) := by
    constructor
    · intro h; exact h 0 (by simp)
    · intro h i hi
      have : i = 0 := by simpa using hi
      subst this; exact h
  have HH := Lib.hid (h.now hb0 (Nat.le_refl _))
  have HB0 := Lib.hid hb0
  have HRI := Lib.hid hrig
  clear hsr e0 hb0 hrig h
  subst hw0
  go_enter Tryz.func59, Tryz.ntmps59
  go_upto_region 2 with (first | (go_at_call 70; refine (HRIG.out).mono ?_; rintro e w' ⟨⟨x, rfl, hx, hx3⟩, rfl⟩) | fail)
  rw [HRI.out] at hx
  clear hl HRIG HRI
  by_cases hx0 : x = 0
  · have hp := hx.1 hx0
    subst hx0
    have hps := hp.2
    by_cases hk : k < 0
    · have dk : decide (k < 0) = true := decide_eq_true hk
      have hno : Hid ((1 : Int) = 0 ↔ FitOk p k) := Lib.hid ⟨fun h => absurd h (by decide), fun h => by have := h.2.2.1; omega⟩
      clear hx hx3 hp hps
      go_wp2
      go_ret
      exact ⟨⟨1, rfl, hno.out⟩, HB0.out⟩
    · have dk : decide (k < 0) = false := decide_eq_false hk
      have hpl := part_len hp.1 (by omega)
      have hs0 := (sumTo_le hp.1 p.length)
      have hs0' : 0 ≤ p.sum := by have := hs0.1; have := hs0.2; omega
      have HSZ := Lib.hid (psize_any A cap p _ (by omega) (fun k _ => by have := sumTo_le hp.1 k; omega) HH.out)
      have HP := Lib.hid hp.1
      obtain ⟨S, hS⟩ : ∃ S, S = p.sum := ⟨_, rfl⟩
      rw [← hS] at HSZ hps hs0'
      have HS := Lib.hid hS
      have hw : IntKind.i64.wrap (16 - S) = 16 - S := IntWalk.i64_in _ (by omega)
      clear hS hx hx3 hp hs0 hpl
      by_cases hk2 : 16 - S < k
      · have dk2 : decide (16 - S < k) = true := decide_eq_true hk2
        have hno : Hid ((2 : Int) = 0 ↔ FitOk p k) := Lib.hid ⟨fun h => absurd h (by decide), fun h => by have := h.2.2.2; rw [← HS.out] at this; omega⟩
        go_wp2_with (first | (go_at_call 51; refine (HSZ.out).mono ?_; rintro e w' ⟨rfl, rfl⟩) | fail)
        go_ret
        exact ⟨⟨2, rfl, hno.out⟩, HB0.out⟩
      · have dk2 : decide (16 - S < k) = false := decide_eq_false hk2
        have hyes : Hid (FitOk p k) := Lib.hid ⟨HP.out, by rw [← HS.out]; omega, by omega, by rw [← HS.out]; omega⟩
        go_wp2_with (first | (go_at_call 51; refine (HSZ.out).mono ?_; rintro e w' ⟨rfl, rfl⟩) | fail)
        go_ret
        exact ⟨⟨0, rfl, ⟨fun _ => hyes.out, fun _ => rfl⟩⟩, HB0.out⟩
  · have dx : (x != 0) = true := by simpa using hx0
    have hno : Hid (x = 0 ↔ FitOk p k) := Lib.hid ⟨fun h => absurd h hx0, fun h => hx.2 ⟨h.1, h.2.1⟩⟩
    clear hx hx0 hx3
    go_wp2
    go_ret
    exact ⟨⟨x, rfl, hno.out⟩, HB0.out⟩
/-- The shapes with k boxes more, in one row. -/
def RowT (p : List Int) (k : Int) (rows : List (List Int)) : Prop := (FitOk p k ∧ rows = stR p (p.length + 1) 0 (p ++ [0]) k.toNat) ∨ (¬ FitOk p k ∧ rows = [])
theorem RowT.fn {p : List Int} {k : Int} {r s : List (List Int)} (h : RowT p k r) (h' : RowT p k s) : r = s := by
  rcases h with ⟨a, rfl⟩ | ⟨a, rfl⟩ <;> rcases h' with ⟨b, rfl⟩ | ⟨b, rfl⟩
  · rfl
  · exact absurd a b
  · exact absurd b a
  · rfl
theorem RowT.sm {p : List Int} {k : Int} {r : List (List Int)} (h : RowT p k r) : Sm r := by
  rcases h with ⟨⟨h1, h2, h3, h4⟩, rfl⟩ | ⟨_, rfl⟩
  · have hpl : (p.length : Int) ≤ p.sum := len_le_sum p h1.mem
    have hlen := stR_len p (p.length + 1) 0 (p ++ [0]) k.toNat
    have hpow : 2 ^ (k.toNat + (p.length + 1)) ≤ 2 ^ 17 := Nat.pow_le_pow_right (by omega) (by omega)
    refine ⟨Nat.le_trans hlen (Nat.le_trans hpow (by decide)), fun i => ?_⟩
    by_cases hi : i < (stR p (p.length + 1) 0 (p ++ [0]) k.toNat).length
    · rw [getD_get hi]
      have := stR_row p _ _ _ _ _ (List.getElem_mem hi)
      rw [List.length_append] at this
      simp at this; omega
    · rw [List.getD_eq_getElem?_getD, List.getElem?_eq_none (by omega)]; simp
  · exact Sm.nil
set_option maxRecDepth 100000 in
set_option maxHeartbeats 4000000 in
theorem row_any (A : Option Addr) (cap : Nat) (p : List Int) (k : Int) (w : World) (hl : p.length ≤ 9223372036854775807) (h : Sl w w.heap.size A (ints p)) :
    Calls Tryz.prog 35 #[.slice A p.length cap, .int .i64 k] w fun e w' => Told (RowT p k) w.heap.size e w' ∧ Below w.heap.size w w' := by
  have HF := Lib.hid (fits_any A cap p k w hl h)
  have H := Lib.hid h
  clear h hl
  go_enter Tryz.func35, Tryz.ntmps35
  go_upto_region 2 with (first | (go_at_call 59; refine (HF.out).mono ?_; rintro e w2 ⟨⟨x, rfl, hx⟩, hb2⟩) | fail)
  have HB2 := Lib.hid hb2
  clear hb2 HF
  by_cases hx0 : x = 0
  · have hf := hx.1 hx0
    subst hx0
    obtain ⟨n, rfl⟩ : ∃ n : Nat, k = n := ⟨k.toNat, by have := hf.2.2.1; omega⟩
    have HST := Lib.hid (strips_any A cap p n w2 hf.1 hf.2.2.2 (H.out.keep HB2.out))
    have HFO := Lib.hid hf
    clear hx hf
    go_wp2_with (first | (go_at_call 60; refine (HST.out).mono ?_; rintro e w3 ⟨v, hs, rfl, hm, hb3⟩) | fail)
    have HM := Lib.hid (hm.lowr HB2.out.size)
    have HB3 := Lib.hid (HB2.out.trans (hb3.mono HB2.out.size))
    clear hm hb3 HST HB2
    go_wp2
    go_ret2
    exact ⟨told_own HM.out 0 (.inl ⟨HFO.out, by simp⟩), HB3.out⟩
  · have dx : (x != 0) = true := by simpa using hx0
    have hno : Hid (¬ FitOk p k) := Lib.hid (fun h => hx0 (hx.2 h))
    clear hx hx0
    go_wp2
    go_ret2
    exact ⟨told_bad _ _ _ (.inr ⟨hno.out, rfl⟩), HB2.out⟩
end Go.Proofs.YtpmkdihencepnaaGreat

/-
  rule.Column: rows of its own.
-/
namespace Go.Proofs.YtpmkdihencepnaaGreat
open Go.RowKit

theorem stR_few {p : List Int} {k : Nat} (hp : IsPart p) (hk : p.sum + (k : Int) ≤ 16) : (stR p (p.length + 1) 0 (p ++ [0]) k).length ≤ 800000 := by
  have hpl : (p.length : Int) ≤ p.sum := len_le_sum p hp.mem
  have hlen := stR_len p (p.length + 1) 0 (p ++ [0]) k
  have hpow : 2 ^ (k + (p.length + 1)) ≤ 2 ^ 17 := Nat.pow_le_pow_right (by omega) (by omega)
  exact Nat.le_trans hlen (Nat.le_trans hpow (by decide))
set_option maxRecDepth 100000 in
set_option maxHeartbeats 4000000 in
theorem column_any (A : Option Addr) (cap : Nat) (p : List Int) (k : Int) (w : World) (hl : p.length ≤ 9223372036854775807) (h : Sl w w.heap.size A (ints p)) :
    Calls Tryz.prog 36 #[.slice A p.length cap, .int .i64 k] w fun e w' => Told Sm w.heap.size e w' ∧ Below w.heap.size w w' := by
  have HF := Lib.hid (fits_any A cap p k w hl h)
  have H := Lib.hid h
  clear h
  go_enter Tryz.func36, Tryz.ntmps36
  go_upto_region 2 with (first | (go_at_call 59; refine (HF.out).mono ?_; rintro e w2 ⟨⟨x, rfl, hx⟩, hb2⟩) | fail)
  have HB2 := Lib.hid hb2
  clear hb2 HF
  by_cases hx0 : x = 0
  · have hf := hx.1 hx0
    subst hx0
    obtain ⟨n, rfl⟩ : ∃ n : Nat, k = n := ⟨k.toNat, by have := hf.2.2.1; omega⟩
    have hf4 := hf.2.2.2
    have hpc : partChk p = 0 := partChk_zero.2 ⟨hf.1, by have := hf.2.1; omega⟩
    have HCJ := Lib.hid (conj_own A cap p w2 hl (H.out.keep HB2.out))
    have HFL := Lib.hid (flip_part hf.1)
    have HFS : Hid ((flipOf p).sum + (n : Int) ≤ 16) := Lib.hid (by rw [flip_sum hf.1]; exact hf4)
    have HPC := Lib.hid hpc
    clear hx hf hpc hf4
    go_wp2_with (first | (go_at_call 4; refine (HCJ.out).mono ?_) | fail)
    rintro e w3 ⟨⟨q, Aq, cq, kq, rfl, hoq, hq⟩, hb3⟩
    obtain rfl : q = flipOf p := by
      rcases hq with ⟨_, e⟩ | ⟨e, _⟩
      · exact e
      · exact absurd HPC.out e
    have HST := Lib.hid (strips_any Aq cq (flipOf p) n w3 HFL.out HFS.out (Sl.of_own hoq))
    have HB3 := Lib.hid (HB2.out.trans (hb3.mono HB2.out.size))
    have HSMR : Hid (Sm (stR (flipOf p) ((flipOf p).length + 1) 0 (flipOf p ++ [0]) n)) := Lib.hid ((RowT.sm (p := flipOf p) (k := n) (.inl ⟨⟨HFL.out, by have := HFS.out; omega, by omega, HFS.out⟩, by rw [Int.toNat_natCast]⟩)))
    have hfew := stR_few HFL.out HFS.out
    clear hoq hq hb3 HCJ HB2
    go_wp2_with (first | (go_at_call 60; refine (HST.out).mono ?_) | fail)
    rintro e w4 ⟨v, hs, rfl, hm, hb4⟩
    obtain ⟨rows, hrows⟩ : ∃ rows, rows = stR (flipOf p) ((flipOf p).length + 1) 0 (flipOf p ++ [0]) n := ⟨_, rfl⟩
    rw [← hrows] at hm HSMR hfew
    clear hrows
    obtain ⟨A1, c1, rfl, hsr, hl1, hl2⟩ := hm.sr
    have HSR := Lib.hid hsr
    have HB4 := Lib.hid (HB3.out.trans (hb4.mono HB3.out.size))
    have hr6 := HSMR.out.1
    clear hm hb4 HST HB3 hsr
    go_wp2
    go_loopw [9, 29] (fun ov iv wr => ∃ (i : Nat) (hs2 : List Value) (out : List (List Int)), i ≤ rows.length ∧ iv = .int .i64 i ∧ out.length = i ∧ (∀ r, (out.getD r []).length ≤ 100000) ∧ OwnM wr w4.heap.size ov hs2 out ∧ Below w4.heap.size w4 wr) (fun _ iv _ => rows.length - (intOf iv).toNat)
    case atStart => exact ⟨0, [], [], Nat.zero_le _, rfl, rfl, fun r => by simp, OwnM.nil _ _, Below.refl _ _⟩
    case round =>
      obtain ⟨i, hs2, out, hi, rfl, hol, hsm, hm, hW⟩ := hrel
      by_cases hit : i < rows.length
      · have di : decide (i < rows.length) = true := decide_eq_true hit
        have hsz := hW.size
        have h2 := HSR.out.below hW
        obtain ⟨b, o, rfl, hb⟩ := h2.addr (by omega)
        obtain ⟨Ar, cr, hcl, hr, hrl⟩ := h2.at_ hit
        obtain ⟨R, hRe⟩ : ∃ R, R = rows.getD i [] := ⟨_, rfl⟩
        rw [← hRe] at hcl hr hrl
        have HCJ := Lib.hid (conj_own Ar cr R wr hrl (hr.more hsz))
        have hi6 : i < 1000000 := by omega
        have HM := Lib.hid hm
        have HSMO := Lib.hid hsm
        have HOL := Lib.hid hol
        have HW := Lib.hid hW
        clear hRe hr hrl h2 hm hsm hol hW
        go_wp2_with (first | (go_at_call 4; refine (HCJ.out).mono ?_) | fail)
        rintro e w5 ⟨⟨t, At, ct, kt, rfl, hot, ht⟩, hb5⟩
        have hts := conj_sm ht
        have hmo := (HM.out.below hb5).out
        rw [HOL.out] at hmo
        have HMO := Lib.hid hmo
        have HOT := Lib.hid hot
        have HB5 := Lib.hid hb5
        have hB5 : w4.heap.size ≤ w5.heap.size := Nat.le_trans hsz hb5.size
        clear hmo hot ht hb5 HCJ hcl
        go_wp2_with (first | (at_builtin; refine wpList_push (v := u9) rfl (.tmp 38) (.tmp 40) rfl rfl (.slice At t.length ct) rfl HMO.out w5.heap.size rfl rfl (by omega) hB5 (fun g2 c2 w6 hl6 hg6 hat6 => ?_)) | fail)
        have HPU := Lib.hid (HM.out.push1 HB5.out hsz HOT.out HOL.out.symm hl6 hg6 hat6)
        have HW6 := Lib.hid (((HW.out.trans (HB5.out.mono hsz)).alloc hB5 (.cells #[.slice At t.length ct] 22)).grown hg6 (by simp; omega) (fun k hk => (HMO.out.lt k hk).1))
        clear hl6 hg6 hat6
        go_wp2
        go_roundw
        case rel =>
          refine ⟨i + 1, _, out ++ [t], by omega, by go_num, by rw [List.length_append, HOL.out]; rfl, fun r => ?_, HPU.out, HW6.out⟩
          rw [List.getD_eq_getElem?_getD]
          by_cases e : r < out.length
          · rw [List.getElem?_append_left e, ← List.getD_eq_getElem?_getD]; exact HSMO.out r
          · by_cases e2 : r = out.length
            · rw [e2, List.getElem?_append_right (Nat.le_refl _), Nat.sub_self]; exact hts
            · rw [List.getElem?_eq_none (by simp; omega)]; simp
        case measure => simp [intOf]; omega
      · have di : decide (i < rows.length) = false := decide_eq_false hit
        obtain ⟨zs, hz, hz1, hz2⟩ := hm.z
        have hzl : zs.length = out.length := by rw [← hz2]; simp
        have HSO := Lib.hid (sortC_any u9 zs wr hW.size hz (by omega))
        have HSMO : Hid (∀ z ∈ zs, z.2.length ≤ 100000) := Lib.hid (fun z hzz => by
          have hm2 : z.2 ∈ out := by rw [← hz2]; exact List.mem_map_of_mem hzz
          obtain ⟨r, hr, e⟩ := List.getElem_of_mem hm2
          have := hsm r
          rw [getD_get hr, e] at this
          exact this)
        have HW := Lib.hid hW
        have HZL : Hid (zs.length ≤ 1000000) := Lib.hid (by omega)
        clear hm hsm hz hz1 hz2 hW hzl
        go_wp2_with (first | (go_at_call 53; refine (HSO.out).mono ?_) | fail)
        rintro e w6 ⟨⟨rfl, zs', hz', hperm⟩, hb6, -⟩
        have HF := Lib.hid (told_own (R := Sm) (hz'.m.lowr (HB4.out.size)) 0 ⟨by rw [List.length_map, hperm.length_eq]; exact HZL.out, fun r => by
          by_cases hr : r < (zs'.map (·.2)).length
          · rw [getD_get hr, List.getElem_map]
            have := HSMO.out _ (hperm.mem_iff.1 (List.getElem_mem (show r < zs'.length by simpa using hr)))
            omega
          · rw [List.getD_eq_getElem?_getD, List.getElem?_eq_none (by omega)]; simp⟩)
        have HWF := Lib.hid (HB4.out.trans ((HW.out.trans hb6).mono HB4.out.size))
        clear hz' hb6 HSO
        go_wp2
        go_ret2
        exact ⟨HF.out, HWF.out⟩
  · have dx : (x != 0) = true := by simpa using hx0
    clear hx hx0
    go_wp2
    go_ret2
    exact ⟨told_bad _ _ _ Sm.nil, HB2.out⟩
end Go.Proofs.YtpmkdihencepnaaGreat

/-
  hooks.Above: rows of its own, whatever comes in.
-/
namespace Go.Proofs.YtpmkdihencepnaaGreat
open Go.RowKit

set_option maxRecDepth 100000 in
set_option maxHeartbeats 4000000 in
theorem habove_any (A : Option Addr) (cap : Nat) (p : List Int) (w : World) (hcl : p.length ≤ 9223372036854775807) (h : Sl w w.heap.size A (ints p)) :
    Calls Tryz.prog 31 #[.slice A p.length cap] w fun e w' => Told Sm w.heap.size e w' ∧ Below w.heap.size w w' := by
  go_enter Tryz.func31, Tryz.ntmps31
  go_wp2_with (first | (go_at_call 40; refine (pcheck_any A cap p _ hcl h).mono ?_) | fail)
  rintro e w1 ⟨rfl, rfl⟩
  by_cases hk0 : partChk p = 0
  · obtain ⟨hp, hs⟩ := partChk_zero.1 hk0
    have hl40 := hp.len hs
    have HP := Lib.hid hp
    have HSM0 := Lib.hid hs
    have HSZ := Lib.hid (psize_any A cap p w (by omega) (fun k _ => by have := sumTo_le hp k; omega) h)
    rw [hk0]
    obtain ⟨sz, hsz⟩ : ∃ sz, sz = p.sum := ⟨_, rfl⟩
    rw [← hsz] at HSZ
    clear hp hs hk0 hsz
    by_cases h40 : sz = 40
    · subst h40
      go_wp2_with (first | (go_at_call 51; refine (HSZ.out).mono ?_) | fail)
      rintro e w2 ⟨rfl, rfl⟩
      go_wp2
      go_ret2
      exact ⟨told_bad _ _ _ Sm.nil, Below.refl _ _⟩
    · have d40 : (sz == 40) = false := by simpa using h40
      go_wp2_with (first | (go_at_call 51; refine (HSZ.out).mono ?_) | fail)
      rintro e w2 ⟨rfl, rfl⟩
      clear HSZ h40
      go_wp2
      go_loopw [5, 6] (fun ov iv wr => ∃ (i : Nat) (hs : List Value) (rows : List (List Int)), i ≤ p.length + 1 ∧ iv = .int .i64 i ∧ rows.length ≤ i ∧ (∀ r, (rows.getD r []).length ≤ 1000000) ∧ OwnM wr w.heap.size ov hs rows ∧ Below w.heap.size w wr) (fun _ iv _ => p.length + 1 - (intOf iv).toNat)
      case atStart => exact ⟨0, [], [], Nat.zero_le _, rfl, by simp, fun r => by simp, OwnM.nil _ _, Below.refl _ _⟩
      case round =>
        obtain ⟨i, hs, rows, hi, rfl, hrl, hsm, hm, hW⟩ := hrel
        have HSM := Lib.hid hsm
        have HM := Lib.hid hm
        have HW := Lib.hid hW
        have hsz := hW.size
        obtain ⟨w9, rfl⟩ : ∃ w9, w9 = wr := ⟨_, rfl⟩
        by_cases hit : i ≤ p.length
        · have di : decide ((i : Int) ≤ (p.length : Int)) = true := decide_eq_true (by omega)
          have HCL := Lib.hid (clone_any A cap p w9 (by omega) (h.now hW (Nat.le_refl _)))
          have HMO := Lib.hid hm.out
          clear hm hW hsm
          go_wp2_with (first | (go_at_call 46; refine (HCL.out).mono ?_) | fail)
          rintro e w3 ⟨v3, rfl, ho3, hb3⟩
          have HO3 := Lib.hid ho3
          have HB3 := Lib.hid hb3
          have hsz3 := hb3.size
          clear ho3 hb3 HCL
          go_upto_region 11 with (first | (at_builtin; refine wpList_app1 rfl (.tmp 23) (.tmp 24) rfl rfl 0 HO3.out rfl (by omega) hsz3 (fun g c4 w4 hl4 hb4 => ?_)) | fail)
          have HO4 := Lib.hid hl4
          obtain ⟨hg1, hg2⟩ := hl4.lt g rfl
          have hcap := own_cap hl4
          have HB4 := Lib.hid (HB3.out.trans hb4)
          have hql : (p ++ [0]).length = p.length + 1 := by simp
          have hci := own_get hl4 (getD_some (l := p ++ [0]) (j := i) (by omega))
          obtain ⟨y, hy⟩ : ∃ y, y = (p ++ [0]).getD i 0 := ⟨_, rfl⟩
          rw [← hy] at hci
          have HY : Hid (-1000 ≤ y ∧ y ≤ 1000) := by
            show _ ∧ _
            rw [hy]
            by_cases e : i < p.length
            · rw [List.getD_eq_getElem?_getD, List.getElem?_append_left e, ← List.getD_eq_getElem?_getD]
              have := HP.out.el HSM0.out e; omega
            · rw [List.getD_eq_getElem?_getD, List.getElem?_append_right (by omega), show i - p.length = 0 by omega]; simp
          have hfz := hl4.frozenAt i
          have HST := Lib.hid (fun y : Int => own_set hl4 i y)
          have HBS := Lib.hid (fun y : Int => HB4.out.setCell (p := ⟨g, i, none⟩) hg1 (.int .i64 y))
          have hcap1 := hcap.1
          have hcap2 := hcap.2
          have HW4 := Lib.hid (HW.out.trans (HB4.out.mono hsz))
          have HPV : Hid (∀ j, i = j + 1 → w4.cell? ⟨g, j, none⟩ = some (.int .i64 ((p ++ [0]).getD j 0))) := Lib.hid (fun j hj => own_get HO4.out (getD_some (by omega)))
          clear hl4 hb4 hy hcap HO3 HB3
          go_cut [39] (fun bv wz => (∃ b : Bool, bv = .bool b) ∧ ∃ d, wz = w4.drewN d)
          case first =>
            by_cases hi0 : i = 0
            · have d0 : decide (0 < i) = false := decide_eq_false (by omega)
              go_wp2
              go_quiet (fail)
              go_wp2
              go_meet
              exact ⟨⟨_, rfl⟩, _, rfl⟩
            · have d0 : decide (0 < i) = true := decide_eq_true (by omega)
              have hpv := HPV.out (i - 1) (by omega)
              obtain ⟨x, hx⟩ : ∃ x, x = (p ++ [0]).getD (i - 1) 0 := ⟨_, rfl⟩
              rw [← hx] at hpv
              have hwi : IntKind.i64.wrap ((i : Int) - 1) = ((i - 1 : Nat) : Int) := by rw [IntWalk.i64_in _ (by omega)]; omega
              clear hx
              go_wp2
              go_quiet (fail)
              go_wp2
              go_meet
              exact ⟨⟨_, rfl⟩, _, rfl⟩
          case rest =>
            obtain ⟨⟨b, rfl⟩, d, rfl⟩ := hcut
            clear HPV
            cases b with
            | true =>
              have HM5 := Lib.hid ((HM.out.below (HB4.out)).drewN d)
              have HW5 := Lib.hid (below_drewN HW4.out d)
              go_wp2
              go_roundw
              case rel => exact ⟨i + 1, hs, rows, by omega, by go_num, by omega, HSM.out, HM5.out, HW5.out⟩
              case measure => simp [intOf]; omega
            | false =>
              have HO7 := Lib.hid (own_drewN HO4.out d)
              have hw7 : (w4.drewN d).heap.size = w4.heap.size := rfl
              have HB7 := Lib.hid (below_drewN HB4.out d)
              have HW7 := Lib.hid (below_drewN HW4.out d)
              have hci7 : (w4.drewN d).cell? ⟨g, i, none⟩ = some (.int .i64 y) := hci
              have hfz7 : (w4.drewN d).frozen? ⟨g, i, none⟩ = false := hfz
              obtain ⟨w7, hw7e⟩ : ∃ w7, w7 = w4.drewN d := ⟨_, rfl⟩
              rw [← hw7e] at HO7 HB7 HW7 hci7 hfz7 ⊢
              have HS8 := Lib.hid (own_set HO7.out i (y + 1))
              have HB8 := Lib.hid (HB7.out.setCell (p := ⟨g, i, none⟩) hg1 (.int .i64 (y + 1)))
              have HW8 := Lib.hid (HW7.out.setCell (p := ⟨g, i, none⟩) (Nat.le_trans hsz hg1) (.int .i64 (y + 1)))
              clear hw7 hw7e hci hfz HST HBS HO4 HB4 HW4 HB7 HO7 HW7
              have hyb : -1000 ≤ y ∧ y ≤ 1000 := HY.out
              go_upto_region 13 with fail
              obtain ⟨w8, hw8⟩ : ∃ w8, w8 = w7.setCell ⟨g, i, none⟩ (.int .i64 (y + 1)) := ⟨_, rfl⟩
              rw [← hw8] at HS8 HB8 HW8 ⊢
              clear hw8 hci7 hfz7
              have hsz8 : w.heap.size ≤ w8.heap.size := HW8.out.size
              by_cases hil : i < p.length
              · have dl : decide (i < p.length) = true := decide_eq_true hil
                have hlc : p.length ≤ c4 := by omega
                have hsl : Sl w8 w8.heap.size (some ⟨g, 0, none⟩) (ints (((p ++ [0]).set i (y + 1)).take p.length)) := Sl.of_own (own_cutZ HS8.out (by omega))
                have hll : ((((p ++ [0]).set i (y + 1)).take p.length)).length = p.length := by rw [List.length_take, List.length_set, hql]; omega
                obtain ⟨L, hL⟩ : ∃ L, L = (((p ++ [0]).set i (y + 1)).take p.length) := ⟨_, rfl⟩
                rw [← hL] at hsl hll
                have hL40 : L.length ≤ 1000000 := by omega
                have hcl2 : Calls Tryz.prog 46 #[.slice (some ⟨g, 0, none⟩) (p.length) c4] w8 fun e w' => ∃ v, e = .returned v ∧ w'.ownsRow w8.heap.size 3 1 v L.length (ints L) ∧ Below w8.heap.size w8 w' := by
                  have := clone_any (some ⟨g, 0, none⟩) c4 L w8 (by omega) hsl
                  rw [hll] at this ⊢; exact this
                have HCL2 := Lib.hid hcl2
                clear hsl hL hcl2 hll
                go_wp2_with (first | (go_at_call 46; refine (HCL2.out).mono ?_) | fail)
                rintro e w5 ⟨v5, rfl, ho5, hb5⟩
                obtain ⟨Av, cv, rfl, -, -, -⟩ := own_sliceA ho5
                have HO5 := Lib.hid ho5
                have HW5 := Lib.hid (HW8.out.trans (hb5.mono hsz8))
                have HMO5 := Lib.hid (own_below HMO.out (HB8.out.trans (hb5.mono HB8.out.size)))
                have HB5 := Lib.hid hb5
                have hB5 : w.heap.size ≤ w5.heap.size := Nat.le_trans hsz8 hb5.size
                clear ho5 hb5
                go_wp2_with (first | (at_builtin; refine wpList_push (v := u5) rfl (.tmp 54) (.tmp 57) rfl rfl (.slice Av L.length cv) rfl HMO5.out w5.heap.size rfl rfl (by omega) hB5 (fun g2 c2 w6 hl6 hg6 hat6 => ?_)) | fail)
                have HPU := Lib.hid (HM.out.push1 (HB8.out.trans (HB5.out.mono HB8.out.size)) hsz (u := .slice Av L.length cv) (l := L) (HO5.out.mono HB8.out.size) rfl hl6 hg6 hat6)
                have HW6 := Lib.hid ((HW5.out.alloc hB5 (.cells #[.slice Av L.length cv] 22)).grown hg6 (by simp; omega) (fun k hk => (HMO5.out.lt k hk).1))
                clear hl6 hg6 hat6
                go_wp2
                go_roundw
                case rel => exact ⟨i + 1, _, rows ++ [L], by omega, by go_num, by rw [List.length_append]; simp; omega, Sm.snoc HSM.out hL40, HPU.out, HW6.out⟩
                case measure => simp [intOf]; omega
              · have dl : decide (i < p.length) = false := decide_eq_false hil
                have hsl : Sl w8 w8.heap.size (some ⟨g, 0, none⟩) (ints ((p ++ [0]).set i (y + 1))) := Sl.of_own HS8.out
                have hll : (((p ++ [0]).set i (y + 1))).length = p.length + 1 := by rw [List.length_set, hql]
                obtain ⟨L, hL⟩ : ∃ L, L = ((p ++ [0]).set i (y + 1)) := ⟨_, rfl⟩
                rw [← hL] at hsl hll
                have hL40 : L.length ≤ 1000000 := by omega
                have hcl2 : Calls Tryz.prog 46 #[.slice (some ⟨g, 0, none⟩) (p.length + 1) c4] w8 fun e w' => ∃ v, e = .returned v ∧ w'.ownsRow w8.heap.size 3 1 v L.length (ints L) ∧ Below w8.heap.size w8 w' := by
                  have := clone_any (some ⟨g, 0, none⟩) c4 L w8 (by omega) hsl
                  rw [hll] at this ⊢; exact this
                have HCL2 := Lib.hid hcl2
                clear hsl hL hcl2 hll
                go_wp2_with (first | (go_at_call 46; refine (HCL2.out).mono ?_) | fail)
                rintro e w5 ⟨v5, rfl, ho5, hb5⟩
                obtain ⟨Av, cv, rfl, -, -, -⟩ := own_sliceA ho5
                have HO5 := Lib.hid ho5
                have HW5 := Lib.hid (HW8.out.trans (hb5.mono hsz8))
                have HMO5 := Lib.hid (own_below HMO.out (HB8.out.trans (hb5.mono HB8.out.size)))
                have HB5 := Lib.hid hb5
                have hB5 : w.heap.size ≤ w5.heap.size := Nat.le_trans hsz8 hb5.size
                clear ho5 hb5
                go_wp2_with (first | (at_builtin; refine wpList_push (v := u5) rfl (.tmp 54) (.tmp 57) rfl rfl (.slice Av L.length cv) rfl HMO5.out w5.heap.size rfl rfl (by omega) hB5 (fun g2 c2 w6 hl6 hg6 hat6 => ?_)) | fail)
                have HPU := Lib.hid (HM.out.push1 (HB8.out.trans (HB5.out.mono HB8.out.size)) hsz (u := .slice Av L.length cv) (l := L) (HO5.out.mono HB8.out.size) rfl hl6 hg6 hat6)
                have HW6 := Lib.hid ((HW5.out.alloc hB5 (.cells #[.slice Av L.length cv] 22)).grown hg6 (by simp; omega) (fun k hk => (HMO5.out.lt k hk).1))
                clear hl6 hg6 hat6
                go_wp2
                go_roundw
                case rel => exact ⟨i + 1, _, rows ++ [L], by omega, by go_num, by rw [List.length_append]; simp; omega, Sm.snoc HSM.out hL40, HPU.out, HW6.out⟩
                case measure => simp [intOf]; omega
        · have di : decide ((i : Int) ≤ (p.length : Int)) = false := decide_eq_false (by omega)
          have HF := Lib.hid (told_own (R := Sm) hm 0 ⟨by omega, hsm⟩)
          clear hm hsm
          go_wp2
          go_ret2
          exact ⟨HF.out, hW⟩
  · obtain ⟨c, hcc⟩ : ∃ c, c = partChk p := ⟨_, rfl⟩
    rw [← hcc] at hk0 ⊢
    have dk : (c != 0) = true := by simpa using hk0
    clear hk0 hcc
    go_wp2
    go_ret2
    exact ⟨told_bad _ _ _ Sm.nil, Below.refl _ _⟩
end Go.Proofs.YtpmkdihencepnaaGreat
