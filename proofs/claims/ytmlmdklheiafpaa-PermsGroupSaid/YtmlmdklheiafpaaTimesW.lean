/-
  perms.Times, perms.Product: what they answer.
-/
import Derived.Test.YtmlmdklheiafpaaWordM
namespace Go.Proofs.Ytmlmdklheiafpaa
open Go.RowKit

set_option maxHeartbeats 400000 in
theorem times_err (A A' : Option Addr) (cap cap' : Nat) (p q : List Int) (w : World) (hp : p.length ≤ 9223372036854775807) (hq : q.length ≤ 9223372036854775807) (hc : pairChk p q ≠ 0)
    (h : Sl w w.heap.size A (ints p)) (h' : Sl w w.heap.size A' (ints q)) :
    Calls Try.prog 29 #[.slice A p.length cap, .slice A' q.length cap'] w fun e w' => e = .returned (.tuple #[.slice none 0 0, .int .i64 (pairChk p q)]) ∧ Below w.heap.size w w' := by
  obtain ⟨c, hcc⟩ : ∃ c, c = pairChk p q := ⟨_, rfl⟩
  have hd : (c != 0) = true := by rw [hcc]; simpa using hc
  have HC := Lib.hid hcc
  clear hc hcc
  go_enter Try.func29, Try.ntmps29
  go_wp2_with fail
  refine (pair_any _ _ _ _ _ _ _ hp hq h h').mono ?_
  rintro e w1 ⟨rfl, hb1⟩
  rw [← HC.out]
  go_wp2
  go_ret2
  exact ⟨by rw [← HC.out]; rfl, hb1⟩

def tmsTo (p q : List Int) (i : Nat) : List Int := (tms p q).take i ++ List.replicate (p.length - i) 0
theorem tmsTo_length {p q : List Int} {i : Nat} (hl : p.length = q.length) (hi : i ≤ p.length) : (tmsTo p q i).length = p.length := by simp [tmsTo, tms_length]; omega
theorem tmsTo_set {p q : List Int} {i : Nat} (hl : p.length = q.length) (hi : i < p.length) : (tmsTo p q i).set i (at1 p (q.getD i 0)) = tmsTo p q (i + 1) := by
  have hlt : i < (tms p q).length := by rw [tms_length]; omega
  unfold tmsTo
  rw [List.set_append_right _ _ (by rw [List.length_take]; omega), List.length_take, Nat.min_eq_left (by omega), Nat.sub_self,
    show p.length - i = (p.length - (i + 1)) + 1 by omega, List.replicate_succ, List.set_cons_zero, take_snoc hlt, ← getD_get (d := 0) hlt, tms_getD (by omega)]
  simp

set_option maxHeartbeats 1000000 in
theorem times_ok (A A' : Option Addr) (cap cap' : Nat) (p q : List Int) (w : World) (hc : pairChk p q = 0) (h : Sl w w.heap.size A (ints p)) (h' : Sl w w.heap.size A' (ints q)) :
    Calls Try.prog 29 #[.slice A p.length cap, .slice A' q.length cap'] w fun e w' => ∃ B c', e = .returned (.tuple #[.slice B (tms p q).length c', .int .i64 0]) ∧ Sl w' w'.heap.size B (ints (tms p q)) ∧ (tms p q).length ≤ c' ∧ Below w.heap.size w w' := by
  obtain ⟨hp0, hq0, hl⟩ := pairChk_zero.1 hc
  obtain ⟨hp40, hpp⟩ := permChk_zero hp0
  obtain ⟨hq40, hqq⟩ := permChk_zero hq0
  have HC := Lib.hid hc
  have HQ := Lib.hid hqq
  have HL := Lib.hid hl
  clear hc hp0 hq0 hpp hqq hl
  go_enter Try.func29, Try.ntmps29
  go_wp2_with fail
  refine (pair_any _ _ _ _ _ _ _ (by omega) (by omega) h h').mono ?_
  rintro e w1 ⟨rfl, hb1⟩
  rw [HC.out]
  have h1 := (h.below hb1)
  have h1' := (h'.below hb1)
  go_wp2_with (at_make; refine wpList_mk rfl (.tmp 17) (.tmp 17) rfl p.length rfl rfl (by omega) (Nat.le_refl _) (fun w2 hown2 hb2 hz2 => ?_))
  have HO2 := Lib.hid hown2
  clear hown2
  go_loopw [21] (fun iv wr => ∃ (i : Nat), i ≤ q.length ∧ iv = .int .i64 i ∧ wr.ownsRow w1.heap.size 3 1 (.slice (some ⟨w1.heap.size, 0, none⟩) p.length p.length) p.length (ints (tmsTo p q i)) ∧ Below w1.heap.size w1 wr) (fun iv _ => q.length - (intOf iv).toNat)
  case atStart => exact ⟨0, by omega, rfl, by simpa [tmsTo] using HO2.out, hb2⟩
  case round =>
    obtain ⟨i, hi, rfl, hown, hbl⟩ := hrel
    have HO := Lib.hid hown
    clear hown
    by_cases hlt : i < q.length
    · obtain ⟨b', o', rfl, hb'⟩ := h1'.addr (by omega)
      obtain ⟨b, o, rfl, hb⟩ := h1.addr (by have := HL.out; omega)
      have hr := HQ.out.getD_range hlt
      have hcq := getD_cell (h1'.below (hbl.mono hb1.size)) hlt
      have hlp : i < p.length := by have := HL.out; omega
      have hset := tmsTo_set (p := p) (q := q) HL.out hlp
      have hln := HL.out
      obtain ⟨n, hn⟩ : ∃ x, x = q.getD i 0 := ⟨_, rfl⟩
      rw [← hn] at hcq hr hset
      have hnl : n ≤ (p.length : Int) := by omega
      have hcp := getD_cell (h1.below (hbl.mono hb1.size)) (show n.toNat - 1 < p.length by omega)
      obtain ⟨x, hx⟩ : ∃ x, x = p.getD (n.toNat - 1) 0 := ⟨_, rfl⟩
      rw [← hx] at hcp
      have hx' : at1 p n = x := by rw [hx]; unfold at1; rw [show (n - 1).toNat = n.toNat - 1 by omega]
      rw [hx'] at hset
      have HSET := Lib.hid hset
      have HX := Lib.hid hx
      have HN := Lib.hid hn
      have hfx := HO.out.frozenAt i
      obtain ⟨z, hox⟩ : ∃ z, wr.cell? ⟨w1.heap.size, i, none⟩ = some (.int .i64 z) :=
        ⟨_, own_get HO.out (List.getElem?_eq_getElem (show i < (tmsTo p q i).length by have := tmsTo_length (p := p) (q := q) (i := i) HL.out (by omega); omega))⟩
      clear hn hx hx' hset hln
      go_wp2
      go_roundw
      case rel => exact ⟨i + 1, by omega, by go_num, by rw [← HSET.out]; exact own_set HO.out _ _, hbl.setCell (by exact Nat.le_refl _) _⟩
      case measure => simp [intOf]; omega
    · obtain rfl : i = q.length := by omega
      have hfin : Hid (tmsTo p q q.length = tms p q) := by
        show _ = _
        unfold tmsTo
        rw [List.take_of_length_le (by rw [tms_length]; exact Nat.le_refl _), HL.out, Nat.sub_self]; simp
      have hlt' : Hid ((tms p q).length = p.length) := by show _ = _; rw [tms_length, HL.out]
      go_wp2
      go_ret2
      exact ⟨_, _, by rw [hlt'.out]; rfl, Sl.of_own (by rw [← hfin.out]; exact HO.out), by rw [hlt'.out]; exact Nat.le_refl _, hb1.trans (hbl.mono hb1.size)⟩

end Go.Proofs.Ytmlmdklheiafpaa
