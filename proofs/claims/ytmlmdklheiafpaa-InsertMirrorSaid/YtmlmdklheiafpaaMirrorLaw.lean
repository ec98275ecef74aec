/-
  InsertMirror: the law, walked.
-/
import Derived.Test.YtmlmdklheiafpaaTabl9W
import Derived.Test.YtmlmdklheiafpaaPairW
namespace Go.Proofs.Ytmlmdklheiafpaa
open Go.RowKit

theorem inv_fwd {p q : List Int} (hp : IsPerm p) (hq : IsInv p q) {v : Nat} (hv : v < q.length) : ∃ j : Nat, j < p.length ∧ p.getD j 0 = (v : Int) + 1 ∧ q.getD v 0 = (j : Int) + 1 := by
  have hm := hp.mem (x := (v : Int) + 1) (by omega) (by rw [← hq.1]; omega)
  obtain ⟨j, hj, e⟩ := List.getElem_of_mem hm
  have h2 := hq.2 j hj
  rw [getD_get hj, e] at h2
  refine ⟨j, hj, by rw [getD_get hj, e], ?_⟩
  unfold at1 at h2
  rw [show ((v : Int) + 1 - 1).toNat = v by omega] at h2
  exact h2
theorem inv_perm {p q : List Int} (hp : IsPerm p) (hq : IsInv p q) : IsPerm q := by
  refine ⟨?_, fun x hx => ?_⟩
  · rw [List.nodup_iff_pairwise_ne, List.pairwise_iff_getElem]
    intro i j hi hj hij e
    obtain ⟨a, _, ha1, ha2⟩ := inv_fwd hp hq hi
    obtain ⟨b, _, hb1, hb2⟩ := inv_fwd hp hq hj
    rw [getD_get hi] at ha2
    rw [getD_get hj] at hb2
    have hab : a = b := by omega
    subst hab
    omega
  · obtain ⟨v, hv, e⟩ := List.getElem_of_mem hx
    obtain ⟨j, hj, _, h2⟩ := inv_fwd hp hq hv
    rw [getD_get hv, e] at h2
    rw [hq.1]; omega
theorem inv_inv {p q : List Int} (hp : IsPerm p) (hq : IsInv p q) : IsInv q p := by
  refine ⟨hq.1.symm, fun v hv => ?_⟩
  obtain ⟨j, hj, h1, h2⟩ := inv_fwd hp hq hv
  unfold at1
  rw [h2, show ((j : Int) + 1 - 1).toNat = j by omega]
  exact h1
theorem rows_nodup : ∀ {T : List (List Int)}, T.flatten.Nodup → ∀ r ∈ T, r.Nodup
  | [], _, _, h => by simp at h
  | s :: t, h, r, hr => by
    rw [List.flatten_cons] at h
    have h1 := List.nodup_append.1 h
    rcases List.mem_cons.1 hr with e | e
    · rw [e]; exact h1.1
    · exact rows_nodup h1.2.1 r e
theorem perm_word {p : List Int} (hp : IsPerm p) (hl : p.length ≤ 40) : wordChk p = 0 :=
  wordChk_ok (by omega) (fun x hx => by have := hp.2 x hx; omega)

set_option maxRecDepth 100000 in
set_option maxHeartbeats 2000000 in
theorem mirror_law (A : Option Addr) (cap : Nat) (p : List Int) (w : World) (hcl : p.length ≤ 9223372036854775807) (h : Sl w w.heap.size A (ints p)) :
    Calls Try.prog 9 #[.slice A p.length cap] w fun e w' => e = .returned (.bool true) ∧ Below w.heap.size w w' := by
  have hB := Nat.le_refl w.heap.size
  have hpp : Hid (IsPerm [2, 3, 1]) := by show IsPerm _; decide
  go_enter Try.func9, Try.ntmps9
  go_wp2_with (first | (go_at_call 22; refine (inverse_ok (some ⟨w.heap.size, 0, none⟩) 3 [2, 3, 1] _ (by simp) hpp.out (sl_litA w (ints [2, 3, 1]) _ (by simp))).mono ?_) | fail)
  rintro e w1 ⟨A1, c1, ys, rfl, _, _, hi1, hb1⟩
  have hy3 : Hid (ys.length = 3) := hi1.1
  have dy : ((ys.length : Int) != 3) = false := by rw [hy3.out]; rfl
  have hW1 : Below w.heap.size w w1 := below_call ((Below.refl _ _).alloc hB _) hB hb1
  clear hb1 hi1
  by_cases hpk : permChk p = 0
  · have hn : ¬ 40 < p.length := fun hh => by rw [permChk_large hh] at hpk; simp at hpk
    have hpm : IsPerm p := Classical.byContradiction (fun hh => by rw [permChk_bad hn hh] at hpk; simp at hpk)
    have hl40 : p.length ≤ 40 := by omega
    have HP := Lib.hid hpm
    clear hpk hn hpm
    go_wp2_with (first | (go_at_call 22; refine (inverse_ok A cap p _ hl40 HP.out (h.now hW1 hB)).mono ?_) | fail)
    rintro e w2 ⟨A2, c2, q, rfl, hs2, _, hq, hb2⟩
    have hW2 : Below w.heap.size w w2 := below_call hW1 hB hb2
    have hqp := inv_perm HP.out hq
    have hqq := inv_inv HP.out hq
    have hql : q.length = p.length := hq.1
    have e1 := mirror_inv HP.out hq (fun x hx => by have := hqp.2 x hx; omega)
    have e2 := mirror_inv hqp hqq (fun x hx => by have := HP.out.2 x hx; omega)
    have e3 := mirror_rev HP.out.1
    have HQP := Lib.hid hqp
    have HQL := Lib.hid hql
    have E1 := Lib.hid e1
    have E2 := Lib.hid e2
    have E3 := Lib.hid e3
    have hq40 : q.length ≤ 40 := by omega
    clear hb2 hW1 hq hqp hqq e1 e2 e3 dy hql
    go_wp2_with (first | (go_at_call 37; refine (make_any A cap p _ hcl (h.now hW2 hB)).mono ?_) | fail)
    rintro e w3 ⟨⟨k1, Aa, Ab, ca, cb, Pa, Pb, rfl, ha, hb, hla, hlb, hk1, hz1, _⟩, hb3⟩
    rw [perm_word HP.out hl40] at hk1
    obtain ⟨ra, rb⟩ := hz1 hk1
    have hW3 : Below w.heap.size w w3 := below_call hW2 hB hb3
    have hs3 := hs2.keep hb3
    have RA := Lib.hid ra
    have RB := Lib.hid rb
    subst hk1
    clear hb3 hW2 hs2 hz1 ra rb
    go_wp2_with (first | (go_at_call 37; refine (make_any A2 c2 q _ (by omega) hs3).mono ?_) | fail)
    rintro e w4 ⟨⟨k2, Ac, Ad, cc, cd, Pc, Pd, rfl, hc, hd, hlc, hld, hk2, hz2, _⟩, hb4⟩
    rw [perm_word HQP.out hq40] at hk2
    obtain ⟨rc, rd⟩ := hz2 hk2
    have hW4 : Below w.heap.size w w4 := below_call hW3 hB hb4
    have ha4 := ha.keep hb4
    have hb44 := hb.keep hb4
    have RC := Lib.hid rc
    have RD := Lib.hid rd
    subst hk2
    have HA4 := Lib.hid ha4
    have HB4 := Lib.hid hb44
    have HC4 := Lib.hid hc
    have HD4 := Lib.hid hd
    clear hb4 hW3 hs3 hz2 rc rd ha hb ha4 hb44 hc hd
    go_wp2_with (first | (go_at_call 38; refine (clone_any A cap p _ (by omega) (h.now hW4 hB)).mono ?_) | fail)
    rintro e w5 ⟨v5, rfl, hv5, hb5⟩
    obtain ⟨A5, c5, rfl, _, _, _, _⟩ := own_sliceA hv5
    have hrv := reverse_any (cap := c5) w5 hv5
    have HRV := Lib.hid hrv
    have HB5 := Lib.hid hb5
    clear hrv hv5 hb5
    go_wp2_with (first | (go_at_call 39; refine HRV.out.mono ?_) | fail)
    rintro e w6 ⟨rfl, ho6, hbr⟩
    have hb6 := hbr w4.heap.size w4 (Nat.le_refl _) HB5.out
    have hW6 : Below w.heap.size w w6 := below_call hW4 hB hb6
    have HA6 := Lib.hid (HA4.out.keep hb6)
    have HB6 := Lib.hid (HB4.out.keep hb6)
    have HC6 := Lib.hid (HC4.out.keep hb6)
    have HD6 := Lib.hid (HD4.out.keep hb6)
    have hsv := Sl.of_own ho6
    have hmk := make_any A5 c5 p.reverse w6 (by simp; omega) hsv
    rw [List.length_reverse] at hmk
    have HMK := Lib.hid hmk
    clear hmk hsv ho6 hbr hb6 hW4 HA4 HB4 HC4 HD4 HRV HB5
    go_wp2_with (first | (go_at_call 37; refine HMK.out.mono ?_) | fail)
    rintro e w7 ⟨⟨k3, Ax, Az, cx, cz, Px, Pz, rfl, hx, _, hlx, _, hk3, hz3, _⟩, hb7⟩
    have hrw : wordChk p.reverse = 0 := wordChk_ok (by simp; omega) (fun x hx => by have := HP.out.2 x (List.mem_reverse.1 hx); omega)
    rw [hrw] at hk3
    obtain ⟨rx, _⟩ := hz3 hk3
    have hW7 : Below w.heap.size w w7 := below_call hW6 hB hb7
    have RX := Lib.hid rx
    have ha7 := HA6.out.keep hb7
    have HB7 := Lib.hid (HB6.out.keep hb7)
    have HC7 := Lib.hid (HC6.out.keep hb7)
    have HD7 := Lib.hid (HD6.out.keep hb7)
    have HA7 := Lib.hid ha7
    have HX7 := Lib.hid hx
    subst hk3
    have hfo : FillOk Pa := by rw [RA.out]; exact (fill_word hl40 (fun x hx => by have := HP.out.2 x hx; exact ⟨by omega, by omega⟩)).1
    have hnd : ∀ r ∈ Pa, r.Nodup := fun r hr => by
      have h1 : Pa.flatten.Nodup := by rw [RA.out]; exact (made_flat p).nodup_iff.2 HP.out.1
      exact rows_nodup h1 r hr
    have htu := turned_any Aa ca Pa w7 hla hfo hnd ha7
    have HTU := Lib.hid htu
    clear hz3 rx hb7 hW6 HA6 HB6 HC6 HD6 ha7 hx hfo hnd htu HMK hrw
    go_wp2_with (first | (go_at_call 40; refine HTU.out.mono ?_) | fail)
    rintro e w8 ⟨⟨v8, hs8, rfl, hm8⟩, hb8⟩
    obtain ⟨Ay, cy, rfl, hy8, _, _⟩ := hm8.sr
    have hW8 : Below w.heap.size w w8 := below_call hW7 hB hb8
    have HA8 := Lib.hid (HA7.out.keep hb8)
    have HB8 := Lib.hid (HB7.out.keep hb8)
    have HC8 := Lib.hid (HC7.out.keep hb8)
    have HD8 := Lib.hid (HD7.out.keep hb8)
    have HX8 := Lib.hid (HX7.out.keep hb8)
    have HY8 := Lib.hid hy8
    have q1 : Hid (Pa = Pd) := by show _ = _; rw [RA.out, RD.out, E2.out]
    have q2 : Hid (Pb = Pc) := by show _ = _; rw [RB.out, RC.out, E1.out]
    have q3 : Hid (Px = fillC [] Pa) := by show _ = _; rw [RX.out, E3.out, RA.out]
    have hly : (fillC [] Pa).length ≤ 9223372036854775807 := by rw [← q3.out]; exact hlx
    have d1 : Hid (decide (Pa = Pd) = true) := decide_eq_true q1.out
    have d2 : Hid (decide (Pb = Pc) = true) := decide_eq_true q2.out
    have d3 : Hid (decide (Px = fillC [] Pa) = true) := decide_eq_true q3.out
    clear hb8 hW7 HA7 HB7 HC7 HD7 HX7 hy8 hm8 HTU q1 q2 q3 E1 E2 E3 RA RB RC RD RX
    go_wp2_with (first | (go_at_call 31; refine (rows_any Aa Ad ca cd Pa Pd _ hla hld HA8.out HD8.out).mono ?_) | fail)
    rintro e w9 ⟨rfl, hb9⟩
    rw [d1.out]
    have hW9 : Below w.heap.size w w9 := below_call hW8 hB hb9
    have HB9 := Lib.hid (HB8.out.keep hb9)
    have HC9 := Lib.hid (HC8.out.keep hb9)
    have HX9 := Lib.hid (HX8.out.keep hb9)
    have HY9 := Lib.hid (HY8.out.keep hb9)
    clear hb9 hW8 HA8 HB8 HC8 HD8 HX8 HY8
    go_wp2_with (first | (go_at_call 31; refine (rows_any Ab Ac cb cc Pb Pc _ hlb hlc HB9.out HC9.out).mono ?_) | fail)
    rintro e w10 ⟨rfl, hb10⟩
    rw [d2.out]
    have hW10 : Below w.heap.size w w10 := below_call hW9 hB hb10
    have HX10 := Lib.hid (HX9.out.keep hb10)
    have HY10 := Lib.hid (HY9.out.keep hb10)
    clear hb10 hW9 HB9 HC9 HX9 HY9
    go_wp2_with (first | (go_at_call 31; refine (rows_any Ax Ay cx cy Px (fillC [] Pa) _ hlx hly HX10.out HY10.out).mono ?_) | fail)
    rintro e w11 ⟨rfl, hb11⟩
    rw [d3.out]
    have hW11 : Below w.heap.size w w11 := below_call hW10 hB hb11
    go_wp2
    go_ret
    exact ⟨rfl, hW11⟩
  · obtain ⟨c, hc⟩ : ∃ c, c = permChk p := ⟨_, rfl⟩
    have hie := inverse_err A cap p w1 hcl hpk (h.now hW1 hB)
    rw [← hc] at hie hpk
    have HIE := Lib.hid hie
    have dc : (c != 0) = true := by simpa using hpk
    clear hie hpk hc
    go_wp2_with (first | (go_at_call 22; refine HIE.out.mono ?_) | fail)
    rintro e w2 ⟨rfl, hb2⟩
    have hW2 : Below w.heap.size w w2 := below_call hW1 hB hb2
    clear HIE
    go_wp2
    go_ret
    exact ⟨rfl, hW2⟩
end Go.Proofs.Ytmlmdklheiafpaa
