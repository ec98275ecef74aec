/-
  paths.Unrank: what it answers.
-/
import Derived.Test.YtdmpbbgcifodeaaPath2W
import Derived.Test.YtdmpbbgcifodeaaStrL
namespace Go.Proofs.Ytdmpbbgcifodeaa
open Go.RowKit

theorem Bld.keep {b : Nat} {l : List UInt8} {w w' : World} (h : Bld b l w) (hb : Below w.heap.size w w') : Bld b l w' := by
  have key : ∀ p, Lib.BuilderAt 115 5 b b p (Lib.byteCells l) w → Lib.BuilderAt 115 5 b b p (Lib.byteCells l) w' := fun p k => by
    have hlt := k.lt
    obtain ⟨h1, v, h2, h3, h4⟩ := k
    exact ⟨h1, v, (hb.block _ hlt).trans h2, own_below h3 hb, h4⟩
  exact h.elim (fun k => .inl (key _ k)) (fun k => .inr (key _ k))
theorem wbO_any {b : Nat} {l : List UInt8} {w : World} (h : Bld b l w) (hl : l.length < 1000000) :
    Calls Try.prog 83 #[.pointer (some ⟨b, 0, none⟩), .int .u8 40] w fun e w' => e = .returned .nilIface ∧ Bld b (l ++ [40]) w' ∧ Below b w w' := wb_any 40 h hl
theorem wbC_any {b : Nat} {l : List UInt8} {w : World} (h : Bld b l w) (hl : l.length < 1000000) :
    Calls Try.prog 83 #[.pointer (some ⟨b, 0, none⟩), .int .u8 41] w fun e w' => e = .returned .nilIface ∧ Bld b (l ++ [41]) w' ∧ Below b w w' := wb_any 41 h hl

/-- Ranks of the right texts of n pairs. -/
def InR (n r : Int) : Prop := 0 ≤ n ∧ n ≤ 30 ∧ 0 ≤ r ∧ r < (bal (2 * n.toNat) 0 : Int)
/-- What Unrank answers. -/
def UnrOut (n r : Int) (t : List UInt8) (k : Int) : Prop := (k = 0 ∧ InR n r ∧ t = ur (2 * n.toNat) 0 r.toNat) ∨ (k ≠ 0 ∧ t = [] ∧ ¬ InR n r)
/-- What is written and what is to come make the text. -/
structure Ur (N r0 m e r : Nat) (t : List UInt8) : Prop where
  eq : t ++ ur m e r = ur N 0 r0
  lt : r < bal m e
  len : t.length + m = N
theorem Ur.up {N r0 m e r : Nat} {t : List UInt8} (h : Ur N r0 (m + 1) e r t) (c : r < bal m (e + 1)) : Ur N r0 m (e + 1) r (t ++ [40]) := by
  refine ⟨?_, c, by have := h.len; rw [List.length_append]; simp; omega⟩
  have := h.eq
  simp only [ur] at this
  rw [if_pos c] at this
  rw [← this]; simp
theorem Ur.pos {N r0 m e r : Nat} {t : List UInt8} (h : Ur N r0 (m + 1) e r t) (c : ¬ r < bal m (e + 1)) : 0 < e := by
  have := h.lt
  simp only [bal] at this
  by_cases e0 : e = 0
  · rw [if_pos e0] at this; omega
  · omega
theorem Ur.down {N r0 m e r : Nat} {t : List UInt8} (h : Ur N r0 (m + 1) e r t) (c : ¬ r < bal m (e + 1)) : Ur N r0 m (e - 1) (r - bal m (e + 1)) (t ++ [41]) := by
  have hp := h.pos c
  refine ⟨?_, ?_, by have := h.len; rw [List.length_append]; simp; omega⟩
  · have := h.eq
    simp only [ur] at this
    rw [if_neg c] at this
    rw [← this]; simp
  · have := h.lt
    simp only [bal] at this
    rw [if_neg (by omega)] at this
    omega

set_option maxRecDepth 100000 in
set_option maxHeartbeats 1000000 in
theorem unrank_any (n r0 : Int) (w : World) :
    Calls Try.prog 40 #[.int .i64 n, .int .i64 r0] w fun e w' => (∃ (t : List UInt8) (k : Int), e = .returned (.tuple #[.string ⟨t.toArray⟩, .int .i64 k]) ∧ UnrOut n r0 t k) ∧ Below w.heap.size w w' := by
  go_enter Try.func40, Try.ntmps40
  go_wp2_with (first | (go_at_call 82; refine (catalan_any n _).mono ?_) | fail)
  rintro e w0 ⟨⟨v, k, rfl, hk⟩, hb0⟩
  rcases hk with ⟨hno, rfl, rfl⟩ | ⟨h0, h30, rfl, rfl⟩
  · have hf : Hid (¬ InR n r0) := fun h => hno ⟨h.1, h.2.1⟩
    clear hno
    go_wp2
    go_ret2
    exact ⟨⟨[], 1, rfl, .inr ⟨by decide, rfl, hf.out⟩⟩, hb0⟩
  · obtain ⟨m, rfl⟩ := Int.eq_ofNat_of_zero_le h0
    have e2 : (m : Int).toNat = m := Int.toNat_natCast m
    have hm : m ≤ 30 := by omega
    obtain ⟨a, ha⟩ : ∃ a : Nat, a = bal (2 * m) 0 := ⟨_, rfl⟩
    have hR : Hid (InR (m : Int) r0 ↔ 0 ≤ r0 ∧ r0 < (a : Int)) := by
      show _ ↔ _
      unfold InR
      rw [e2, ← ha]
      constructor
      · rintro ⟨_, _, h3, h4⟩; exact ⟨h3, h4⟩
      · rintro ⟨h3, h4⟩; exact ⟨h0, h30, h3, h4⟩
    rw [e2, ← ha]
    have HA := Lib.hid ha
    clear ha e2 h0 h30
    by_cases c0 : r0 < 0
    · have d0 : decide (r0 < 0) = true := decide_eq_true c0
      have hf : Hid (¬ InR (m : Int) r0) := fun h => by have := hR.out.1 h; omega
      go_wp2
      go_ret2
      exact ⟨⟨[], 1, rfl, .inr ⟨by decide, rfl, hf.out⟩⟩, hb0⟩
    · have d0 : decide (r0 < 0) = false := decide_eq_false c0
      by_cases c1 : (a : Int) ≤ r0
      · have d1 : decide ((a : Int) ≤ r0) = true := decide_eq_true c1
        have hf : Hid (¬ InR (m : Int) r0) := fun h => by have := hR.out.1 h; omega
        go_wp2
        go_ret2
        exact ⟨⟨[], 1, rfl, .inr ⟨by decide, rfl, hf.out⟩⟩, hb0⟩
      · have d1 : decide ((a : Int) ≤ r0) = false := decide_eq_false c1
        have hin : Hid (InR (m : Int) r0) := hR.out.2 (by omega)
        obtain ⟨q, rfl⟩ := Int.eq_ofNat_of_zero_le (show 0 ≤ r0 by omega)
        have hqa : q < a := by omega
        have hst : Ur (2 * m) q (2 * m) 0 q [] := ⟨rfl, by rw [← HA.out]; exact hqa, by simp⟩
        have HST := Lib.hid hst
        clear hst hqa
        have d2 : decide ((0 : Int) ≤ (q : Int)) = true := decide_eq_true (by omega)
        have d3 : decide ((q : Int) < (a : Int)) = true := decide_eq_true (by omega)
        go_wp2_with (first | (go_at_call 81; refine (ballots_any _).mono ?_) | fail)
        rintro e w1 ⟨⟨A, c, rfl, hr⟩, hb1⟩
        obtain ⟨b, o, rfl, hb⟩ := hr.addr (by rw [balT_length]; omega)
        have HR := Lib.hid hr
        have hW1 : Below w.heap.size w w1 := below_call hb0 (Nat.le_refl _) hb1
        have hnew := bld_new w1
        have HN := Lib.hid hnew
        clear hr hnew d0 d1 d2 d3 c0 c1 hb0 hb1
        go_wp2
        go_loopw [1, 9, 11] (fun rv ev kv wz => ∃ (M e r : Nat) (t : List UInt8), M ≤ 60 ∧ rv = .int .i64 r ∧ ev = .int .i64 e ∧ kv = .int .i64 ((M : Int) - 1) ∧ Ur (2 * m) q M e r t ∧ Bld w1.heap.size t wz ∧ Below w1.heap.size w1 wz) (fun _ _ kv _ => (intOf kv + 1).toNat)
        case atStart => exact ⟨2 * m, 0, q, [], by omega, rfl, rfl, by go_num, HST.out, HN.out, (Below.refl _ _).alloc (Nat.le_refl _) _⟩
        case round =>
          clear HST HN
          obtain ⟨M, e, r, t, hM, rfl, rfl, rfl, hur, hbl, hW⟩ := hrel
          have HU := Lib.hid hur
          have HB := Lib.hid hbl
          have htl : t.length ≤ 60 := by have := hur.len; omega
          clear hbl
          cases M with
          | succ M =>
            have e1 : ((M + 1 : Nat) : Int) - 1 = (M : Int) := by omega
            rw [e1]
            have hd2 : decide ((0 : Int) ≤ (M : Int)) = true := decide_eq_true (by omega)
            have heM : e ≤ M + 1 := bal_le (Nat.lt_of_le_of_lt (Nat.zero_le _) hur.lt)
            have hr2 := HR.out.below hW
            obtain ⟨g, p, c1, hc, hce⟩ := balT_cell hr2 (k := M) (by omega)
            have hce0 := hce (e + 1) (by omega)
            by_cases hlt : r < bal M (e + 1)
            · have hnx := Lib.hid (hur.up hlt)
              obtain ⟨y, hy⟩ : ∃ y : Nat, y = bal M (e + 1) := ⟨_, rfl⟩
              rw [← hy] at hlt hce0
              have hd3 : decide ((r : Int) < (y : Int)) = true := decide_eq_true (by omega)
              clear hce hy hur hr2 e1
              go_wp2_with (first | (go_at_call 83; refine (wbO_any HB.out (by omega)).mono ?_) | fail)
              rintro e w5 ⟨rfl, hb5, hbe5⟩
              have HB5 := Lib.hid hb5
              have hW5 := hW.trans hbe5
              clear hb5
              go_wp2
              go_roundw
              case rel => exact ⟨M, _, _, _, by omega, rfl, rfl, rfl, hnx.out, HB5.out, hW5⟩
              case measure => simp [intOf]
            · have hnx := Lib.hid (hur.down hlt)
              have hp := hur.pos hlt
              obtain ⟨y, hy⟩ : ∃ y : Nat, y = bal M (e + 1) := ⟨_, rfl⟩
              rw [← hy] at hlt hce0 hnx
              have hd3 : decide ((r : Int) < (y : Int)) = false := decide_eq_false (by omega)
              have hr60 : (r : Int) < 1152921504606846977 := by
                have h1 := bal_int (k := M + 1) (e := e) (by omega)
                have h2 := hur.lt
                omega
              have hwr : IntKind.i64.wrap ((r : Int) - (y : Int)) = (r : Int) - (y : Int) := IntWalk.i64_in _ (by omega)
              clear hce hy hur hr2 e1
              go_wp2_with (first | (go_at_call 83; refine (wbC_any HB.out (by omega)).mono ?_) | fail)
              rintro e w5 ⟨rfl, hb5, hbe5⟩
              have HB5 := Lib.hid hb5
              have hW5 := hW.trans hbe5
              clear hb5
              go_wp2
              go_roundw
              case rel => exact ⟨M, _, _, _, by omega, by go_num, by go_num, rfl, hnx.out, HB5.out, hW5⟩
              case measure => simp [intOf]
          | zero =>
            have e1 : ((0 : Nat) : Int) - 1 = -1 := rfl
            rw [e1]
            clear e1
            have hte : t = ur (2 * m) 0 q := by rw [← hur.eq]; simp [ur]
            have HT := Lib.hid hte
            clear hur hte
            go_wp2_with (first | (go_at_call 84; refine (bs_any HB.out).mono ?_) | fail)
            rintro e w7 ⟨rfl, hbe7⟩
            have hW7 := hW1.trans ((hW.trans hbe7).mono hW1.size)
            go_wp2
            go_ret2
            exact ⟨⟨t, 0, rfl, .inl ⟨rfl, hin.out, by rw [Int.toNat_natCast, Int.toNat_natCast]; exact HT.out⟩⟩, hW7⟩
end Go.Proofs.Ytdmpbbgcifodeaa
