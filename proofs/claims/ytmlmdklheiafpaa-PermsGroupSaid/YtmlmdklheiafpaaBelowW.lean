/-
  perms.Below: what it answers.
-/
import Derived.Test.YtmlmdklheiafpaaPairW
namespace Go.Proofs.Ytmlmdklheiafpaa
open Go.RowKit

def lowTab (p q : List Int) (n i k m : Nat) : Int := if 1 ≤ m ∧ m ≤ n then (if m < k then dif p q (i + 1) m else dif p q i m) else 0

theorem over_new (w : World) : OverArr (w.alloc (.cells #[.int .i64 0, .int .i64 0, .int .i64 0, .int .i64 0, .int .i64 0, .int .i64 0, .int .i64 0, .int .i64 0, .int .i64 0, .int .i64 0, .int .i64 0, .int .i64 0, .int .i64 0, .int .i64 0, .int .i64 0, .int .i64 0, .int .i64 0, .int .i64 0, .int .i64 0, .int .i64 0, .int .i64 0, .int .i64 0, .int .i64 0, .int .i64 0, .int .i64 0, .int .i64 0, .int .i64 0, .int .i64 0, .int .i64 0, .int .i64 0, .int .i64 0, .int .i64 0, .int .i64 0, .int .i64 0, .int .i64 0, .int .i64 0, .int .i64 0, .int .i64 0, .int .i64 0, .int .i64 0, .int .i64 0, .int .i64 0] 73)) w.heap.size (fun _ => 0) := by
  refine ⟨Array.replicate 42 (.int .i64 0), heap_alloc_new _ _, by simp, fun i hi => ?_⟩
  simp [hi]

theorem dif_zero (p q : List Int) (k : Nat) : dif p q 0 k = 0 := by simp [dif, rk]

theorem dif_neg {p q : List Int} {i k : Nat} (hi : i < p.length) (h1 : 1 ≤ k) (h2 : k ≤ p.length) (h : dif p q (i + 1) k < 0) : ¬ LeB p q := fun hl => by
  have := hl i hi (k : Int) (by omega) (by omega)
  unfold dif at h
  omega

theorem low_fin {w : World} {g : Nat} {p q : List Int} {n i k : Nat} {f : Nat → Int} (h : OverArr w g f) (h1 : 1 ≤ k) (hk : k ≤ n) (ho : ∀ m, m ≠ k → f m = lowTab p q n i k m) (hv : f k = dif p q (i + 1) k) :
    OverArr w g (lowTab p q n i (k + 1)) := h.congr (fun m _ => by
  by_cases hm : m = k
  · subst hm; rw [hv]; unfold lowTab; rw [if_pos ⟨h1, hk⟩, if_pos (by omega)]
  · rw [ho m hm]; unfold lowTab
    split
    · by_cases h3 : m < k
      · rw [if_pos h3, if_pos (by omega)]
      · rw [if_neg h3, if_neg (by omega)]
    · rfl)

theorem low_all {w : World} {g : Nat} {p q : List Int} {n i : Nat} (h : OverArr w g (lowTab p q n i (n + 1))) : OverArr w g (lowTab p q n (i + 1) 0) := h.congr (fun m _ => by
  unfold lowTab
  split
  · rw [if_pos (by omega), if_neg (by omega)]
  · rfl)

set_option maxHeartbeats 1000000 in
theorem below_err (A A' : Option Addr) (cap cap' : Nat) (p q : List Int) (w : World) (hp : p.length ≤ 9223372036854775807) (hq : q.length ≤ 9223372036854775807) (hc : pairChk p q ≠ 0)
    (h : Sl w w.heap.size A (ints p)) (h' : Sl w w.heap.size A' (ints q)) :
    Calls Try.prog 21 #[.slice A p.length cap, .slice A' q.length cap'] w fun e w' => e = .returned (.tuple #[.bool false, .int .i64 (pairChk p q)]) ∧ Below w.heap.size w w' := by
  obtain ⟨c, hcc⟩ : ∃ c, c = pairChk p q := ⟨_, rfl⟩
  have hd : (c != 0) = true := by rw [hcc]; simpa using hc
  have HC := Lib.hid hcc
  clear hc hcc
  go_enter Try.func21, Try.ntmps21
  go_wp2_with fail
  refine (pair_any _ _ _ _ _ _ _ hp hq h h').mono ?_
  rintro e w1 ⟨rfl, hb1⟩
  rw [← HC.out]
  go_wp2
  go_ret2
  exact ⟨by rw [← HC.out]; rfl, hb1⟩

def BelowSays (p q : List Int) (e : Ending) : Prop := ∃ bv, e = .returned (.tuple #[.bool bv, .int .i64 0]) ∧ (bv = true ↔ LeB p q)

set_option maxHeartbeats 2000000 in
theorem below_ok (A A' : Option Addr) (cap cap' : Nat) (p q : List Int) (w : World) (hn : p.length ≤ 40) (hl : p.length = q.length) (hc : pairChk p q = 0)
    (h : Sl w w.heap.size A (ints p)) (h' : Sl w w.heap.size A' (ints q)) :
    Calls Try.prog 21 #[.slice A p.length cap, .slice A' q.length cap'] w fun e w' => BelowSays p q e ∧ Below w.heap.size w w' := by
  have HL := Lib.hid hl
  have HC := Lib.hid hc
  clear hl hc
  go_enter Try.func21, Try.ntmps21
  go_wp2_with fail
  refine (pair_any _ _ _ _ _ _ _ (by omega) (by have := HL.out; omega) h h').mono ?_
  rintro e w1 ⟨rfl, hb1⟩
  rw [HC.out]
  have h1 := h.now hb1 (Nat.le_refl _)
  have h1' := h'.now hb1 (Nat.le_refl _)
  clear h h'
  go_wp2_with fail
  go_loopw [18] (fun iv wr => ∃ (i : Nat), i ≤ p.length ∧ iv = .int .i64 i ∧ OverArr wr w1.heap.size (lowTab p q p.length i 0) ∧ Below w1.heap.size w1 wr ∧
      (∀ j, j < i → ∀ m : Nat, 1 ≤ m → m ≤ p.length → 0 ≤ dif p q (j + 1) m)) (fun iv _ => p.length - (intOf iv).toNat)
  case atStart => 
    refine ⟨0, by omega, rfl, (over_new w1).congr (fun m hm => ?_), (Below.refl _ _).alloc (Nat.le_refl _) _, fun j hj => by omega⟩
    unfold lowTab; rw [dif_zero]; simp
  case round =>
    obtain ⟨i, hi, rfl, hov, hbl, hdone⟩ := hrel
    have HO := Lib.hid hov
    have HD := Lib.hid hdone
    clear hov hdone
    by_cases hlt : i < p.length
    · have hlt' : i < q.length := by have := HL.out; omega
      obtain ⟨b, o, rfl, hb⟩ := h1.addr (by omega)
      obtain ⟨b', o', rfl, hb'⟩ := h1'.addr (by omega)
      obtain ⟨x, hx⟩ : ∃ x, x = p.getD i 0 := ⟨_, rfl⟩
      obtain ⟨y, hy⟩ : ∃ x, x = q.getD i 0 := ⟨_, rfl⟩
      have HX := Lib.hid hx
      have HY := Lib.hid hy
      clear hx hy
      go_wp2
      go_loopw [9] (fun kv wk => ∃ (k : Nat), 1 ≤ k ∧ k ≤ p.length + 1 ∧ kv = .int .i64 k ∧ OverArr wk w1.heap.size (lowTab p q p.length i k) ∧ Below w1.heap.size w1 wk ∧
        (∀ m : Nat, 1 ≤ m → m < k → 0 ≤ dif p q (i + 1) m)) (fun kv _ => p.length + 1 - (intOf kv).toNat)
      case atStart => 
        refine ⟨1, by omega, by omega, rfl, HO.out.congr (fun m hm => ?_), hbl, fun m h1 h2 => by omega⟩
        unfold lowTab
        split
        · rw [if_neg (by omega), if_neg (by omega)]
        · rfl
      case round =>
        obtain ⟨k, hk1, hk, rfl, hov, hbk, hdk⟩ := hrel
        have HK := Lib.hid hov
        have HDK := Lib.hid hdk
        clear hov hdk
        by_cases hkl : k ≤ p.length
        · have hcx := getD_cell (h1.below hbk) hlt
          have hcy := getD_cell (h1'.below hbk) hlt'
          rw [← HX.out] at hcx
          rw [← HY.out] at hcy
          obtain ⟨d, hd⟩ : ∃ d, d = dif p q i k := ⟨_, rfl⟩
          have hcd := HK.out.cell (k := k) (by omega)
          rw [show lowTab p q p.length i k k = d by unfold lowTab; rw [if_pos ⟨hk1, hkl⟩, if_neg (by omega), hd]] at hcd
          have hdb := dif_bound p q i k
          rw [← hd] at hdb
          have hfr := HK.out.frozen k
          have hov0 := HK.out
          have HK0 := Lib.hid hov0
          clear hov0
          have hst := dif_succ (p := p) (q := q) hlt hlt' k
          rw [← HX.out, ← HY.out, ← hd] at hst
          obtain ⟨e, he⟩ : ∃ e, e = dif p q (i + 1) k := ⟨_, rfl⟩
          rw [← he] at hst
          have HE := Lib.hid he
          have HDD := Lib.hid hd
          clear he hd
          have hneg : Hid (e < 0 → ¬ LeB p q) := fun hn => dif_neg hlt hk1 hkl (by rw [← HE.out]; exact hn)
          have hpos : Hid (0 ≤ e → ∀ m : Nat, 1 ≤ m → m < k + 1 → 0 ≤ dif p q (i + 1) m) := fun hp m hm1 hm2 => by
            by_cases hmk : m = k
            · subst hmk; rw [← HE.out]; exact hp
            · exact HDK.out m hm1 (by omega)
          by_cases hy : (k : Int) ≤ y
          · by_cases hx : (k : Int) ≤ x
            · rw [if_pos hy, if_pos hx] at hst
              by_cases hs : d < 0
              · go_wp2
                go_ret2
                exact ⟨⟨false, rfl, by simpa using hneg.out (by omega)⟩, hb1.trans (((hbk.setCell (by exact Nat.le_refl _) _).setCell (by exact Nat.le_refl _) _).mono hb1.size)⟩
              · go_wp2
                go_roundw
                case rel =>
                  refine ⟨k + 1, by omega, by omega, by go_num, low_fin ((HK0.out.set_ (by omega) _).set_ (by omega) _) hk1 hkl (fun m hm => by simp [hm]) (by simp; rw [← HE.out]; omega), (hbk.setCell (by exact Nat.le_refl _) _).setCell (by exact Nat.le_refl _) _, hpos.out (by omega)⟩
                case measure => simp [intOf]; omega
            · rw [if_pos hy, if_neg hx] at hst
              by_cases hs : d + 1 < 0
              · go_wp2
                go_ret2
                exact ⟨⟨false, rfl, by simpa using hneg.out (by omega)⟩, hb1.trans ((hbk.setCell (by exact Nat.le_refl _) _).mono hb1.size)⟩
              · go_wp2
                go_roundw
                case rel =>
                  refine ⟨k + 1, by omega, by omega, by go_num, low_fin (HK0.out.set_ (by omega) _) hk1 hkl (fun m hm => by simp [hm]) (by simp; rw [← HE.out]; omega), hbk.setCell (by exact Nat.le_refl _) _, hpos.out (by omega)⟩
                case measure => simp [intOf]; omega
          · by_cases hx : (k : Int) ≤ x
            · rw [if_neg hy, if_pos hx] at hst
              by_cases hs : d - 1 < 0
              · go_wp2
                go_ret2
                exact ⟨⟨false, rfl, by simpa using hneg.out (by omega)⟩, hb1.trans ((hbk.setCell (by exact Nat.le_refl _) _).mono hb1.size)⟩
              · go_wp2
                go_roundw
                case rel =>
                  refine ⟨k + 1, by omega, by omega, by go_num, low_fin (HK0.out.set_ (by omega) _) hk1 hkl (fun m hm => by simp [hm]) (by simp; rw [← HE.out]; omega), hbk.setCell (by exact Nat.le_refl _) _, hpos.out (by omega)⟩
                case measure => simp [intOf]; omega
            · rw [if_neg hy, if_neg hx] at hst
              by_cases hs : d < 0
              · go_wp2
                go_ret2
                exact ⟨⟨false, rfl, by simpa using hneg.out (by omega)⟩, hb1.trans (hbk.mono hb1.size)⟩
              · go_wp2
                go_roundw
                case rel =>
                  refine ⟨k + 1, by omega, by omega, by go_num, low_fin HK0.out hk1 hkl (fun m hm => rfl) (by unfold lowTab; rw [if_pos ⟨hk1, hkl⟩, if_neg (by omega), ← HE.out, ← HDD.out]; omega), hbk, hpos.out (by omega)⟩
                case measure => simp [intOf]; omega
        · obtain rfl : k = p.length + 1 := by omega
          go_wp2
          go_roundw
          case rel =>
            refine ⟨i + 1, by omega, by go_num, low_all HK.out, hbk, fun j hj m hm1 hm2 => ?_⟩
            by_cases hji : j = i
            · subst hji; exact HDK.out m hm1 (by omega)
            · exact HD.out j (by omega) m hm1 hm2
          case measure => simp [intOf]; omega
    · obtain rfl : i = p.length := by omega
      have hfin : Hid (LeB p q) := by
        intro j hj k hk1 hk2
        have := HD.out j hj k.toNat (by omega) (by omega)
        unfold dif at this
        rw [show ((k.toNat : Nat) : Int) = k by omega] at this
        omega
      go_wp2
      go_ret2
      exact ⟨⟨true, rfl, by simpa using hfin.out⟩, hb1.trans (hbl.mono hb1.size)⟩

def BelowRes (p q : List Int) (e : Ending) : Prop := ∃ bv, e = .returned (.tuple #[.bool bv, .int .i64 (pairChk p q)]) ∧ (pairChk p q = 0 → (bv = true ↔ LeB p q))

theorem below_any (A A' : Option Addr) (cap cap' : Nat) (p q : List Int) (w : World) (hp : p.length ≤ 9223372036854775807) (hq : q.length ≤ 9223372036854775807)
    (h : Sl w w.heap.size A (ints p)) (h' : Sl w w.heap.size A' (ints q)) :
    Calls Try.prog 21 #[.slice A p.length cap, .slice A' q.length cap'] w fun e w' => BelowRes p q e ∧ Below w.heap.size w w' := by
  by_cases hc : pairChk p q = 0
  · obtain ⟨h1, _, h3⟩ := pairChk_zero.1 hc
    refine (below_ok A A' cap cap' p q w (permChk_zero h1).1 h3 hc h h').mono ?_
    rintro e w' ⟨⟨bv, rfl, hbv⟩, hb⟩
    exact ⟨⟨bv, by rw [hc], fun _ => hbv⟩, hb⟩
  · refine (below_err A A' cap cap' p q w hp hq hc h h').mono ?_
    rintro e w' ⟨rfl, hb⟩
    exact ⟨⟨false, rfl, fun h => absurd h hc⟩, hb⟩

end Go.Proofs.Ytmlmdklheiafpaa
