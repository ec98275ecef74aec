/-
  perms.Word: what it answers.
-/
import Derived.Test.YtmlmdklheiafpaaProductW
import Derived.Test.YtmlmdklheiafpaaCloneW
namespace Go.Proofs.Ytmlmdklheiafpaa
open Go.RowKit

def vlen : Value → Nat
  | .slice _ n _ => n
  | _ => 0

theorem own_low {w w' : World} {base g n c B : Nat} {e : TypeId} {cs : List Value} (h : w.ownsRow base e 1 (.slice (some ⟨g, 0, none⟩) n c) n cs) (hg : g < B) (hb : Below B w w') : w'.ownsRow base e 1 (.slice (some ⟨g, 0, none⟩) n c) n cs := by
  refine ⟨h.1, ?_⟩
  rcases h.2 with hn | ⟨g', cap, cur, e1, hg', hh, rest⟩
  · exact .inl hn
  · obtain rfl : g = g' := by
      have : g = g' ∧ c = cap := by simpa using e1
      exact this.1
    exact .inr ⟨g, cap, cur, e1, hg', (hb.block g hg).trans hh, rest⟩
theorem inv_le_sq (q : List Int) : inv q ≤ q.length * q.length := inv_bound q

set_option maxHeartbeats 1000000 in
theorem word_ok (A : Option Addr) (cap : Nat) (p : List Int) (w : World) (hn : p.length ≤ 40) (hk : permChk p = 0) (hp : IsPerm p) (h : Sl w w.heap.size A (ints p)) :
    Calls Try.prog 26 #[.slice A p.length cap] w fun e w' => ∃ B ys c', e = .returned (.tuple #[.slice B ys.length c', .int .i64 0]) ∧ Sl w' w'.heap.size B (ints ys) ∧ ys.length ≤ c' ∧
      (ys.length = inv p ∧ unword ys (upTo p.length) = p ∧ ∀ x ∈ ys, 1 ≤ x ∧ x < (p.length : Int)) ∧ Below w.heap.size w w' := by
  have HK := Lib.hid hk
  have HP := Lib.hid hp
  clear hk hp
  go_enter Try.func26, Try.ntmps26
  go_wp2_with fail
  refine (check_any _ _ _ _ (by omega) h).mono ?_
  rintro e w1 ⟨rfl, hb1⟩
  rw [HK.out]
  have h1 := h.now hb1 (Nat.le_refl _)
  go_wp2_with fail
  refine (clone_any _ _ _ _ (by omega) h1).mono ?_
  rintro e w2 ⟨v, rfl, hown, hb2⟩
  have HO2 := Lib.hid hown
  clear hown
  obtain ⟨A2, c2, rfl, hA2⟩ : ∃ A2 c2, v = .slice A2 p.length c2 ∧ (0 < p.length → ∃ g, A2 = some ⟨g, 0, none⟩) := by
    rcases HO2.out.2 with ⟨e1, e2⟩ | ⟨g, c, _, e1, _⟩
    · exact ⟨none, 0, by rw [e1, e2], fun h => by omega⟩
    · exact ⟨_, c, e1, fun _ => ⟨g, rfl⟩⟩
  have hinv := inv_le_sq p
  have hsq : p.length * p.length ≤ 40 * 40 := Nat.mul_le_mul hn hn
  obtain ⟨ip, hip⟩ : ∃ x, x = inv p := ⟨_, rfl⟩
  rw [← hip] at hinv
  have HIP := Lib.hid hip
  clear hip
  go_wp2_with fail
  go_loopw [6, 7] (fun ov iv wr => ∃ (i : Nat) (q out : List Int), i ≤ p.length ∧ iv = .int .i64 i ∧ WordSt p q out i ∧ vlen ov = out.length ∧ wr.ownsRow w1.heap.size 3 1 (.slice A2 p.length c2) p.length (ints q) ∧
      wr.ownsRow w2.heap.size 3 1 ov out.length (ints out) ∧ Below w1.heap.size w1 wr ∧ w2.heap.size ≤ wr.heap.size) (fun ov iv _ => 2 * (ip - vlen ov) + (p.length - (intOf iv).toNat))
  case atStart => exact ⟨0, p, [], by omega, rfl, wordSt_zero p, rfl, HO2.out, World.ownsRow_nil w2 w2.heap.size 3 1, hb2, Nat.le_refl _⟩
  case round =>
    obtain ⟨i, q, out, hi, rfl, hst, hvl, hown, hown', hbl, hsz⟩ := hrel
    have HST := Lib.hid hst
    have HQ := Lib.hid hown
    have HO := Lib.hid hown'
    have HV := Lib.hid hvl
    clear hst hown hown' hvl
    have hol : out.length ≤ ip := by have := HST.out.2.2.2.1; rw [← HIP.out] at this; omega
    by_cases hlt : i + 1 < p.length
    · have hql : q.length = p.length := HST.out.1.length_eq
      obtain ⟨g, rfl⟩ := hA2 (by omega)
      have hg2 := (HO2.out.lt g rfl).2
      have hg1 := (HO2.out.lt g rfl).1
      clear hA2
      have hcx := own_get HQ.out (i := i) (z := q.getD i 0) (by rw [getD_get (by omega)]; exact List.getElem?_eq_getElem _)
      have hcy := own_get HQ.out (i := i + 1) (z := q.getD (i + 1) 0) (by rw [getD_get (by omega)]; exact List.getElem?_eq_getElem _)
      have hfx := HQ.out.frozenAt i
      have hfy := HQ.out.frozenAt (i + 1)
      have hsw : swp q i = (q.set i (q.getD (i + 1) 0)).set (i + 1) (q.getD i 0) := rfl
      have hgo := fun h => HST.out.go h
      have hswap := fun h => HST.out.swap HP.out hlt h
      obtain ⟨x, hx⟩ : ∃ x, x = q.getD i 0 := ⟨_, rfl⟩
      obtain ⟨y, hy⟩ : ∃ x, x = q.getD (i + 1) 0 := ⟨_, rfl⟩
      rw [← hx, ← hy] at hsw hgo hswap
      rw [← hx] at hcx
      rw [← hy] at hcy
      have HSW := Lib.hid hsw
      have HGO := Lib.hid hgo
      have HSWAP := Lib.hid hswap
      have hd0 : decide ((i : Int) + 1 < (p.length : Int)) = true := by simp; omega
      clear hx hy hsw hgo hswap hql
      by_cases hxy : x < y
      · have hd1 : decide (x < y) = true := by simpa using hxy
        go_wp2
        go_quiet (fail)
        go_wp2
        go_roundw
        case rel => exact ⟨i + 1, q, out, by omega, by go_num, HGO.out hxy, HV.out, HQ.out, HO.out, below_drewN hbl _, hsz⟩
        case measure => simp [intOf]; omega
      · have hd1 : decide (x < y) = false := by simpa using hxy
        go_wp2
        go_quiet (fail)
        go_wp2
        go_region
        have hown3 := ownsRow_setCell_below (ownsRow_setCell_below (own_drewN HO.out (nq + 1)) (a := ⟨g, i, none⟩) hg2 (.int .i64 y)) (a := ⟨g, i + 1, none⟩) hg2 (.int .i64 x)
        have hownq := own_set (own_set (own_drewN HQ.out (nq + 1)) i y) (i + 1) x
        have hblq := ((below_drewN hbl (nq + 1)).setCell (p := ⟨g, i, none⟩) hg1 (.int .i64 y)).setCell (p := ⟨g, i + 1, none⟩) hg1 (.int .i64 x)
        have HO3 := Lib.hid hown3
        have HQ3 := Lib.hid hownq
        have hsz3 : w2.heap.size ≤ (((wr.drewN (nq + 1)).setCell ⟨g, i, none⟩ (.int .i64 y)).setCell ⟨g, i + 1, none⟩ (.int .i64 x)).heap.size := by simpa using hsz
        obtain ⟨wz, hwz⟩ : ∃ wz, wz = (((wr.drewN (nq + 1)).setCell ⟨g, i, none⟩ (.int .i64 y)).setCell ⟨g, i + 1, none⟩ (.int .i64 x)) := ⟨_, rfl⟩
        rw [← hwz] at HO3 HQ3 hsz3 hblq ⊢
        clear hwz hown3 hownq
        have hsw := Lib.hid (HSWAP.out hxy)
        have hol3 : out.length + 1 ≤ ip := by have h1 := hsw.out.1.2.2.2.1; rw [← HIP.out, List.length_append, List.length_singleton] at h1; omega
        go_wp2_with (at_builtin; refine wpList_app1 rfl (.tmp 48) (.tmp 51) rfl rfl ((i : Int) + 1) HO3.out rfl (by omega) hsz3 (fun g3 c3 w3 hl3 hb3 => ?_))
        have hmx : (if (1 : Int) < (i : Int) then (i : Int) - 1 else 0) = ((i - 1 : Nat) : Int) := by split <;> omega
        rw [hmx]
        go_roundw
        case rel =>
          exact ⟨i - 1, swp q i, out ++ [(i : Int) + 1], by omega, rfl, hsw.out.1, by simp [vlen], own_low (by rw [HSW.out]; exact HQ3.out) hg2 hb3, by simpa using hl3, hblq.trans (hb3.mono (by omega)), Nat.le_trans hsz3 hb3.size⟩
        case measure =>
          have := HV.out
          simp only [vlen, intOf] at this ⊢
          omega
    · have hd0 : decide ((i : Int) + 1 < (p.length : Int)) = false := by simp; omega
      have hfin := Lib.hid (HST.out.done HP.out (by omega))
      obtain ⟨A', c', hv, hs, hc⟩ : ∃ A' c', u6 = .slice A' out.length c' ∧ Sl wr wr.heap.size A' (ints out) ∧ out.length ≤ c' := by
        have ho := HO.out
        rcases ho.2 with ⟨e1, e2⟩ | ⟨g, c, _, e1, _⟩
        · refine ⟨none, 0, by rw [e2]; exact e1, ?_, by omega⟩
          rw [List.eq_nil_of_length_eq_zero e2]; exact Sl.nil _ _ _
        · rw [e1] at ho
          exact ⟨_, c, e1, Sl.of_own ho, (own_cap ho).1⟩
      rw [hv]
      clear hv
      rw [HIP.out]
      go_wp2
      go_ret2
      exact ⟨_, out, _, rfl, hs, hc, hfin.out, hb1.trans (hbl.mono hb1.size)⟩

end Go.Proofs.Ytmlmdklheiafpaa
