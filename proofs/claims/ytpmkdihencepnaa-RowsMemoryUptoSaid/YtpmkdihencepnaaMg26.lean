/-
  cubes.Check: what it answers. (The cases of its inner loop are printed by wip/mkC.py.)
-/
import Derived.Test.YtpmkdihencepnaaMg01
import Derived.Test.YtpmkdihencepnaaMg04
import Derived.Test.YtpmkdihencepnaaMg05
namespace Go.Proofs.Ytpmkdihencepnaa
open Go.RowKit

def PileOk (p : List (List Int)) (h : Int) : Prop := ∃ H : Nat, h = (H : Int) ∧ Pile p p.length (p.getD 0 []).length H
def ChkPile (p : List (List Int)) (h k : Int) : Prop := (PileOk p h ∧ k = 0) ∨ (¬ PileOk p h ∧ k = 1)
theorem Pile.rowlen {p : List (List Int)} {r c h : Nat} (hp : Pile p r c h) {i : Nat} (hi : i < r) : (p.getD i []).length = c := by
  have hi' : i < p.length := by rw [hp.len]; exact hi
  rw [getD_get hi']; exact hp.row _ (List.getElem_mem hi')

/-- Row i is right as far as j. -/
structure RowTo (p : List (List Int)) (h : Int) (i j : Nat) : Prop where
  bd : ∀ b, b < j → 0 ≤ ent p i b ∧ ent p i b ≤ h
  side : ∀ b, b + 1 < j → ent p i (b + 1) ≤ ent p i b
  down : ∀ a, i = a + 1 → ∀ b, b < j → ent p i b ≤ ent p a b
theorem RowTo.zero (p : List (List Int)) (h : Int) (i : Nat) : RowTo p h i 0 := ⟨fun b hb => by omega, fun b hb => by omega, fun a _ b hb => by omega⟩
theorem RowTo.succ {p : List (List Int)} {h : Int} {i j : Nat} (hr : RowTo p h i j) (h1 : 0 ≤ ent p i j ∧ ent p i j ≤ h) (h2 : ∀ b, j = b + 1 → ent p i j ≤ ent p i b) (h3 : ∀ a, i = a + 1 → ent p i j ≤ ent p a j) : RowTo p h i (j + 1) := by
  refine ⟨fun b hb => ?_, fun b hb => ?_, fun a ha b hb => ?_⟩
  · by_cases e : b = j
    · rw [e]; exact h1
    · exact hr.bd b (by omega)
  · by_cases e : b + 1 = j
    · rw [e]; exact h2 b e.symm
    · exact hr.side b (by omega)
  · by_cases e : b = j
    · rw [e]; exact h3 a ha
    · exact hr.down a ha b (by omega)
structure GoodTo (p : List (List Int)) (h : Int) (c i : Nat) : Prop where
  len : ∀ a, a < i → (p.getD a []).length = c
  row : ∀ a, a < i → RowTo p h a c
theorem GoodTo.succ {p : List (List Int)} {h : Int} {c i : Nat} (g : GoodTo p h c i) (h1 : (p.getD i []).length = c) (h2 : RowTo p h i c) : GoodTo p h c (i + 1) := by
  refine ⟨fun a ha => ?_, fun a ha => ?_⟩
  · by_cases e : a = i
    · rw [e]; exact h1
    · exact g.len a (by omega)
  · by_cases e : a = i
    · rw [e]; exact h2
    · exact g.row a (by omega)
theorem GoodTo.pile {p : List (List Int)} {H : Nat} (g : GoodTo p (H : Int) (p.getD 0 []).length p.length) (r1 : 1 ≤ p.length ∧ p.length ≤ 8) (c1 : 1 ≤ (p.getD 0 []).length ∧ (p.getD 0 []).length ≤ 8) (h1 : 1 ≤ H ∧ H ≤ 8) : PileOk p (H : Int) :=
  ⟨H, rfl, ⟨rfl, fun x hx => by obtain ⟨a, ha, rfl⟩ := List.getElem_of_mem hx; have := g.len a ha; rwa [getD_get ha] at this, r1, c1, h1,
    fun i j hi hj => (g.row i hi).bd j hj, fun i j hi hj => (g.row i hi).side j hj, fun i j hi hj => (g.row (i + 1) hi).down i rfl j hj⟩⟩

set_option maxRecDepth 100000 in
set_option maxHeartbeats 4000000 in
theorem ccheck_any (A : Option Addr) (cap : Nat) (p : List (List Int)) (h : Int) (w : World) (hcl : p.length ≤ 9223372036854775807) (hr : SR w w.heap.size A p) :
    Calls Try.prog 55 #[.slice A p.length cap, .int .i64 h] w fun e w' => (∃ k : Int, e = .returned (.int .i64 k) ∧ ChkPile p h k) ∧ w = w' := by
  go_enter Try.func55, Try.ntmps55
  by_cases t1 : p.length < 1
  · have dt1 : decide (p.length < 1) = true := decide_eq_true t1
    have hfin : Hid (ChkPile p h 1) := .inr ⟨fun ⟨H, _, hp⟩ => by have := hp.r1; omega, rfl⟩
    go_wp2
    go_ret
    exact ⟨⟨1, rfl, hfin.out⟩, rfl⟩
  · have dt1 : decide (p.length < 1) = false := decide_eq_false t1
    by_cases t2 : 8 < p.length
    · have dt2 : decide (8 < p.length) = true := decide_eq_true t2
      have hfin : Hid (ChkPile p h 1) := .inr ⟨fun ⟨H, _, hp⟩ => by have := hp.r1; omega, rfl⟩
      go_wp2
      go_ret
      exact ⟨⟨1, rfl, hfin.out⟩, rfl⟩
    · have dt2 : decide (8 < p.length) = false := decide_eq_false t2
      by_cases t3 : h < 1
      · have dt3 : decide (h < 1) = true := decide_eq_true t3
        have hfin : Hid (ChkPile p h 1) := .inr ⟨fun ⟨H, e, hp⟩ => by have := hp.h1; omega, rfl⟩
        go_wp2
        go_ret
        exact ⟨⟨1, rfl, hfin.out⟩, rfl⟩
      · have dt3 : decide (h < 1) = false := decide_eq_false t3
        by_cases t4 : 8 < h
        · have dt4 : decide (8 < h) = true := decide_eq_true t4
          have hfin : Hid (ChkPile p h 1) := .inr ⟨fun ⟨H, e, hp⟩ => by have := hp.h1; omega, rfl⟩
          go_wp2
          go_ret
          exact ⟨⟨1, rfl, hfin.out⟩, rfl⟩
        · have dt4 : decide (8 < h) = false := decide_eq_false t4
          obtain ⟨H, hH⟩ : ∃ H : Nat, h = H := ⟨h.toNat, by omega⟩
          subst hH
          obtain ⟨b, o, rfl, hb⟩ := hr.addr (by omega)
          obtain ⟨A0, c0, hc0, hr0, hl0⟩ := hr.at_ (r := 0) (by omega)
          rw [Nat.add_zero] at hc0
          obtain ⟨c, hc⟩ : ∃ c, c = (p.getD 0 []).length := ⟨_, rfl⟩
          rw [← hc] at hc0 hl0
          have HC := Lib.hid hc
          clear hc
          go_wp2
          go_loop [27] (fun iv => ∃ i : Nat, i ≤ p.length ∧ iv = .int .i64 i ∧ GoodTo p (H : Int) c i ∧ (1 ≤ i → 1 ≤ c ∧ c ≤ 8)) (fun iv => p.length - (intOf iv).toNat)
          case atStart => exact ⟨0, by omega, rfl, ⟨fun a ha => by omega, fun a ha => by omega⟩, fun h => by omega⟩
          case round =>
            obtain ⟨i, hi, rfl, hg, hcb⟩ := hrel
            have HG := Lib.hid hg
            have HCB := Lib.hid hcb
            clear hg hcb
            by_cases hlt : i < p.length
            · have hd1 : decide (i < p.length) = true := decide_eq_true hlt
              obtain ⟨Ai, ci, hci, hri, hli⟩ := hr.at_ (r := i) hlt
              obtain ⟨R, hR⟩ : ∃ R, R = p.getD i [] := ⟨_, rfl⟩
              rw [← hR] at hci hri hli
              have HR := Lib.hid hR
              clear hR
              by_cases u1 : R.length < 1
              · have du1 : decide (R.length < 1) = true := decide_eq_true u1
                have hfin : Hid (ChkPile p (H : Int) 1) := .inr ⟨fun ⟨K, _, hp⟩ => by have a1 := hp.rowlen hlt; have a2 := hp.c1; rw [← HR.out] at a1; omega, rfl⟩
                go_wp2
                go_ret
                exact ⟨⟨1, rfl, hfin.out⟩, rfl⟩
              · have du1 : decide (R.length < 1) = false := decide_eq_false u1
                by_cases u2 : 8 < R.length
                · have du2 : decide (8 < R.length) = true := decide_eq_true u2
                  have hfin : Hid (ChkPile p (H : Int) 1) := .inr ⟨fun ⟨K, _, hp⟩ => by have a1 := hp.rowlen hlt; have a2 := hp.c1; rw [← HR.out] at a1; omega, rfl⟩
                  go_wp2
                  go_ret
                  exact ⟨⟨1, rfl, hfin.out⟩, rfl⟩
                · have du2 : decide (8 < R.length) = false := decide_eq_false u2
                  by_cases u3 : R.length = c
                  · have du3 : ((R.length : Int) != (c : Int)) = false := by simp; omega
                    have HRC := Lib.hid u3
                    have hcb : 1 ≤ c ∧ c ≤ 8 := by omega
                    clear u3
                    go_wp2
                    go_loop [51] (fun jv => ∃ j : Nat, j ≤ c ∧ jv = .int .i64 j ∧ RowTo p (H : Int) i j) (fun jv => c - (intOf jv).toNat)
                    case atStart => exact ⟨0, by omega, rfl, RowTo.zero _ _ _⟩
                    case round =>
                      obtain ⟨j, hj, rfl, hrow⟩ := hrel
                      have HROW := Lib.hid hrow
                      clear hrow
                      by_cases hlt2 : j < c
                      · have hRj : j < R.length := by have := HRC.out; omega
                        have hd5 : decide (j < R.length) = true := decide_eq_true hRj
                        obtain ⟨b1, o1, rfl, hb1⟩ := hri.addr (by omega)
                        have hcx := getD_cell hri hRj
                        have hent : ∀ b, R.getD b 0 = ent p i b := fun b => by rw [HR.out]; rfl
                        rw [hent] at hcx
                        have HENT := Lib.hid hent
                        clear hent
                        by_cases hj0 : j = 0
                        · subst hj0
                          rw [Nat.add_zero] at hcx
                          by_cases hi0 : i = 0
                          · subst hi0
                            obtain ⟨x, hx⟩ : ∃ x, x = ent p 0 0 := ⟨_, rfl⟩
                            rw [← hx] at hcx
                            have HX := Lib.hid hx
                            clear hx
                            by_cases v1 : x < 0
                            · have dv1 : decide (x < 0) = true := decide_eq_true v1
                              have hfin : Hid (ChkPile p (H : Int) 1) := .inr ⟨fun ⟨K, _, hp⟩ => by have a1 := hp.bd 0 0 hlt (by have := HC.out; omega); rw [← HX.out] at a1; omega, rfl⟩
                              go_wp2
                              go_ret
                              exact ⟨⟨1, rfl, hfin.out⟩, rfl⟩
                            · have dv1 : decide (x < 0) = false := decide_eq_false v1
                              by_cases v2 : (H : Int) < x
                              · have dv2 : decide ((H : Int) < x) = true := decide_eq_true v2
                                have hfin : Hid (ChkPile p (H : Int) 1) := .inr ⟨fun ⟨K, e, hp⟩ => by have a1 := hp.bd 0 0 hlt (by have := HC.out; omega); rw [← HX.out] at a1; omega, rfl⟩
                                go_wp2
                                go_ret
                                exact ⟨⟨1, rfl, hfin.out⟩, rfl⟩
                              · have dv2 : decide ((H : Int) < x) = false := decide_eq_false v2
                                have hnx := Lib.hid (HROW.out.succ (by rw [← HX.out]; omega) (fun b hb => by omega) (fun a ha => by omega))
                                go_wp2
                                go_round
                                case rel => exact ⟨0 + 1, by omega, by go_num, hnx.out⟩
                                case measure => simp [intOf]; omega
                          · obtain ⟨i', rfl⟩ : ∃ i', i = i' + 1 := ⟨i - 1, by omega⟩
                            obtain ⟨Au, cu, hcu, hru, _⟩ := hr.at_ (r := i') (by omega)
                            have hlu := HG.out.len i' (by omega)
                            rw [hlu] at hcu
                            obtain ⟨b2, o2, rfl, hb2⟩ := hru.addr (by rw [hlu]; omega)
                            have hcz := getD_cell hru (k := 0) (by rw [hlu]; omega)
                            rw [show (p.getD i' []).getD 0 0 = ent p i' 0 from rfl] at hcz
                            rw [Nat.add_zero] at hcz
                            obtain ⟨x, hx⟩ : ∃ x, x = ent p (i' + 1) 0 := ⟨_, rfl⟩
                            obtain ⟨z, hz⟩ : ∃ x, x = ent p i' 0 := ⟨_, rfl⟩
                            rw [← hx] at hcx
                            rw [← hz] at hcz
                            have HX := Lib.hid hx
                            have HZ := Lib.hid hz
                            clear hx hz hlu
                            have w4 : IntKind.i64.wrap (i' : Int) = i' := IntWalk.i64_in _ (by omega)
                            have y1 : (i' : Int) < (p.length : Int) := by omega
                            have y2 : i' < p.length := by omega
                            have y3 : decide ((0 : Int) < (i' : Int) + 1) = true := decide_eq_true (by omega)
                            have y4 : 0 < c := by omega
                            by_cases v1 : x < 0
                            · have dv1 : decide (x < 0) = true := decide_eq_true v1
                              have hfin : Hid (ChkPile p (H : Int) 1) := .inr ⟨fun ⟨K, _, hp⟩ => by have a1 := hp.bd (i' + 1) 0 hlt (by have := HC.out; omega); rw [← HX.out] at a1; omega, rfl⟩
                              go_wp2
                              go_ret
                              exact ⟨⟨1, rfl, hfin.out⟩, rfl⟩
                            · have dv1 : decide (x < 0) = false := decide_eq_false v1
                              by_cases v2 : (H : Int) < x
                              · have dv2 : decide ((H : Int) < x) = true := decide_eq_true v2
                                have hfin : Hid (ChkPile p (H : Int) 1) := .inr ⟨fun ⟨K, e, hp⟩ => by have a1 := hp.bd (i' + 1) 0 hlt (by have := HC.out; omega); rw [← HX.out] at a1; omega, rfl⟩
                                go_wp2
                                go_ret
                                exact ⟨⟨1, rfl, hfin.out⟩, rfl⟩
                              · have dv2 : decide ((H : Int) < x) = false := decide_eq_false v2
                                by_cases v4 : z < x
                                · have dv4 : decide (z < x) = true := decide_eq_true v4
                                  have hfin : Hid (ChkPile p (H : Int) 1) := .inr ⟨fun ⟨K, e, hp⟩ => by have a1 := hp.down i' 0 hlt (by have := HC.out; omega); rw [← HX.out, ← HZ.out] at a1; omega, rfl⟩
                                  go_wp2
                                  go_ret
                                  exact ⟨⟨1, rfl, hfin.out⟩, rfl⟩
                                · have dv4 : decide (z < x) = false := decide_eq_false v4
                                  have hnx := Lib.hid (HROW.out.succ (by rw [← HX.out]; omega) (fun b hb => by omega) (fun a ha => by (rw [show a = i' by omega, ← HX.out, ← HZ.out]; omega)))
                                  go_wp2
                                  go_round
                                  case rel => exact ⟨0 + 1, by omega, by go_num, hnx.out⟩
                                  case measure => simp [intOf]; omega
                        · obtain ⟨j', rfl⟩ : ∃ j', j = j' + 1 := ⟨j - 1, by omega⟩
                          have hcy := getD_cell hri (k := j') (by omega)
                          rw [HENT.out] at hcy
                          have w5 : IntKind.i64.wrap (j' : Int) = j' := IntWalk.i64_in _ (by omega)
                          have x1 : (j' : Int) < (R.length : Int) := by omega
                          have x2 : j' < R.length := by omega
                          have x3 : decide ((0 : Int) < (j' : Int) + 1) = true := decide_eq_true (by omega)
                          have x4 : decide ((j' : Int) + 1 < (R.length : Int)) = true := decide_eq_true (by omega)
                          by_cases hi0 : i = 0
                          · subst hi0
                            obtain ⟨x, hx⟩ : ∃ x, x = ent p 0 (j' + 1) := ⟨_, rfl⟩
                            obtain ⟨y, hy⟩ : ∃ x, x = ent p 0 j' := ⟨_, rfl⟩
                            rw [← hx] at hcx
                            rw [← hy] at hcy
                            have HX := Lib.hid hx
                            have HY := Lib.hid hy
                            clear hx hy
                            by_cases v1 : x < 0
                            · have dv1 : decide (x < 0) = true := decide_eq_true v1
                              have hfin : Hid (ChkPile p (H : Int) 1) := .inr ⟨fun ⟨K, _, hp⟩ => by have a1 := hp.bd 0 (j' + 1) hlt (by have := HC.out; omega); rw [← HX.out] at a1; omega, rfl⟩
                              go_wp2
                              go_ret
                              exact ⟨⟨1, rfl, hfin.out⟩, rfl⟩
                            · have dv1 : decide (x < 0) = false := decide_eq_false v1
                              by_cases v2 : (H : Int) < x
                              · have dv2 : decide ((H : Int) < x) = true := decide_eq_true v2
                                have hfin : Hid (ChkPile p (H : Int) 1) := .inr ⟨fun ⟨K, e, hp⟩ => by have a1 := hp.bd 0 (j' + 1) hlt (by have := HC.out; omega); rw [← HX.out] at a1; omega, rfl⟩
                                go_wp2
                                go_ret
                                exact ⟨⟨1, rfl, hfin.out⟩, rfl⟩
                              · have dv2 : decide ((H : Int) < x) = false := decide_eq_false v2
                                by_cases v3 : y < x
                                · have dv3 : decide (y < x) = true := decide_eq_true v3
                                  have hfin : Hid (ChkPile p (H : Int) 1) := .inr ⟨fun ⟨K, e, hp⟩ => by have a1 := hp.side 0 j' hlt (by have := HC.out; omega); rw [← HX.out, ← HY.out] at a1; omega, rfl⟩
                                  go_wp2
                                  go_ret
                                  exact ⟨⟨1, rfl, hfin.out⟩, rfl⟩
                                · have dv3 : decide (y < x) = false := decide_eq_false v3
                                  have hnx := Lib.hid (HROW.out.succ (by rw [← HX.out]; omega) (fun b hb => by (rw [show b = j' by omega, ← HX.out, ← HY.out]; omega)) (fun a ha => by omega))
                                  go_wp2
                                  go_round
                                  case rel => exact ⟨(j' + 1) + 1, by omega, by go_num, hnx.out⟩
                                  case measure => simp [intOf]; omega
                          · obtain ⟨i', rfl⟩ : ∃ i', i = i' + 1 := ⟨i - 1, by omega⟩
                            obtain ⟨Au, cu, hcu, hru, _⟩ := hr.at_ (r := i') (by omega)
                            have hlu := HG.out.len i' (by omega)
                            rw [hlu] at hcu
                            obtain ⟨b2, o2, rfl, hb2⟩ := hru.addr (by rw [hlu]; omega)
                            have hcz := getD_cell hru (k := (j' + 1)) (by rw [hlu]; omega)
                            rw [show (p.getD i' []).getD (j' + 1) 0 = ent p i' (j' + 1) from rfl] at hcz
                            obtain ⟨x, hx⟩ : ∃ x, x = ent p (i' + 1) (j' + 1) := ⟨_, rfl⟩
                            obtain ⟨z, hz⟩ : ∃ x, x = ent p i' (j' + 1) := ⟨_, rfl⟩
                            obtain ⟨y, hy⟩ : ∃ x, x = ent p (i' + 1) j' := ⟨_, rfl⟩
                            rw [← hx] at hcx
                            rw [← hz] at hcz
                            rw [← hy] at hcy
                            have HX := Lib.hid hx
                            have HZ := Lib.hid hz
                            have HY := Lib.hid hy
                            clear hx hz hlu hy
                            have w4 : IntKind.i64.wrap (i' : Int) = i' := IntWalk.i64_in _ (by omega)
                            have y1 : (i' : Int) < (p.length : Int) := by omega
                            have y2 : i' < p.length := by omega
                            have y3 : decide ((0 : Int) < (i' : Int) + 1) = true := decide_eq_true (by omega)
                            have y4 : j' + 1 < c := by omega
                            have y5 : (j' : Int) + 1 < (c : Int) := by omega
                            by_cases v1 : x < 0
                            · have dv1 : decide (x < 0) = true := decide_eq_true v1
                              have hfin : Hid (ChkPile p (H : Int) 1) := .inr ⟨fun ⟨K, _, hp⟩ => by have a1 := hp.bd (i' + 1) (j' + 1) hlt (by have := HC.out; omega); rw [← HX.out] at a1; omega, rfl⟩
                              go_wp2
                              go_ret
                              exact ⟨⟨1, rfl, hfin.out⟩, rfl⟩
                            · have dv1 : decide (x < 0) = false := decide_eq_false v1
                              by_cases v2 : (H : Int) < x
                              · have dv2 : decide ((H : Int) < x) = true := decide_eq_true v2
                                have hfin : Hid (ChkPile p (H : Int) 1) := .inr ⟨fun ⟨K, e, hp⟩ => by have a1 := hp.bd (i' + 1) (j' + 1) hlt (by have := HC.out; omega); rw [← HX.out] at a1; omega, rfl⟩
                                go_wp2
                                go_ret
                                exact ⟨⟨1, rfl, hfin.out⟩, rfl⟩
                              · have dv2 : decide ((H : Int) < x) = false := decide_eq_false v2
                                by_cases v3 : y < x
                                · have dv3 : decide (y < x) = true := decide_eq_true v3
                                  have hfin : Hid (ChkPile p (H : Int) 1) := .inr ⟨fun ⟨K, e, hp⟩ => by have a1 := hp.side (i' + 1) j' hlt (by have := HC.out; omega); rw [← HX.out, ← HY.out] at a1; omega, rfl⟩
                                  go_wp2
                                  go_ret
                                  exact ⟨⟨1, rfl, hfin.out⟩, rfl⟩
                                · have dv3 : decide (y < x) = false := decide_eq_false v3
                                  by_cases v4 : z < x
                                  · have dv4 : decide (z < x) = true := decide_eq_true v4
                                    have hfin : Hid (ChkPile p (H : Int) 1) := .inr ⟨fun ⟨K, e, hp⟩ => by have a1 := hp.down i' (j' + 1) hlt (by have := HC.out; omega); rw [← HX.out, ← HZ.out] at a1; omega, rfl⟩
                                    go_wp2
                                    go_ret
                                    exact ⟨⟨1, rfl, hfin.out⟩, rfl⟩
                                  · have dv4 : decide (z < x) = false := decide_eq_false v4
                                    have hnx := Lib.hid (HROW.out.succ (by rw [← HX.out]; omega) (fun b hb => by (rw [show b = j' by omega, ← HX.out, ← HY.out]; omega)) (fun a ha => by (rw [show a = i' by omega, ← HX.out, ← HZ.out]; omega)))
                                    go_wp2
                                    go_round
                                    case rel => exact ⟨(j' + 1) + 1, by omega, by go_num, hnx.out⟩
                                    case measure => simp [intOf]; omega
                      · have hRj : ¬ j < R.length := by have := HRC.out; omega
                        have hd5 : decide (j < R.length) = false := decide_eq_false hRj
                        have hjc : Hid (j = c) := by show _ = _; omega
                        have hnx := Lib.hid (HG.out.succ (by rw [← HR.out]; exact HRC.out) (by rw [← hjc.out]; exact HROW.out))
                        go_wp2
                        go_round
                        case rel => exact ⟨i + 1, by omega, by go_num, hnx.out, fun _ => hcb⟩
                        case measure => simp [intOf]; omega
                  · have du3 : ((R.length : Int) != (c : Int)) = true := by simp; omega
                    have hfin : Hid (ChkPile p (H : Int) 1) := .inr ⟨fun ⟨K, _, hp⟩ => by have a1 := hp.rowlen hlt; rw [← HR.out, ← HC.out] at a1; exact u3 a1, rfl⟩
                    go_wp2
                    go_ret
                    exact ⟨⟨1, rfl, hfin.out⟩, rfl⟩
            · have hd1 : decide (i < p.length) = false := decide_eq_false hlt
              obtain rfl : i = p.length := by omega
              have hfin : Hid (ChkPile p (H : Int) 0) := by
                refine .inl ⟨?_, rfl⟩
                have g := HG.out
                have cb := HCB.out (by omega)
                rw [HC.out] at g cb
                exact g.pile (by omega) cb (by omega)
              go_wp2
              go_ret
              exact ⟨⟨0, rfl, hfin.out⟩, rfl⟩

end Go.Proofs.Ytpmkdihencepnaa

/-
  A finished row put behind the others; cubes.Mirrored, Turned: what they answer.
-/
namespace Go.Proofs.Ytpmkdihencepnaa
open Go.RowKit

/-- 'out = append(out, row)': the row was made behind out. -/
theorem wpList_pushRow {w0 w9 w : World} {B : Nat} {v u : Value} {hs : List Value} {rows : List (List Int)} {l : List Int} {n : Nat} {ops : Array Oper} {rest : List Oper} {o : Oper} {a : Act} {Q : Exit → Act → World → Prop} (hgd : o.guard = none) (s x : Operand)
    (ho : o.op = .call { callee := .builtin .append, args := #[s, x], argTypes := #[22, 22] }) (hv : a.eval s = v) (hx : a.eval x = .slice (some ⟨w.heap.size, 0, none⟩) 1 1)
    (hm : OwnM w9 B v hs rows) (h9 : Below w9.heap.size w9 w) (hn : n = l.length) (hu : w.ownsRow w9.heap.size 3 1 u n (ints l)) (hW : Below B w0 w) (hB9 : B ≤ w9.heap.size) (m : Nat) (hmm : m = rows.length) (hlen : m < 1000000)
    (h : ∀ g cap w' hs', OwnM w' B (.slice (some ⟨g, 0, none⟩) (m + 1) cap) hs' (rows ++ [l]) → Below B w0 w' → w.heap.size ≤ w'.heap.size → wpList Try.prog ops Q rest (a.put o.dst (.slice (some ⟨g, 0, none⟩) (m + 1) cap)) w') :
    wpList Try.prog ops Q (o :: rest) a (w.alloc (.cells #[u] 26)) := by
  subst hn hmm
  have hone : u.oneCell' = true := by
    rcases hu.2 with ⟨e, _⟩ | ⟨g, c, _, e, _⟩ <;> rw [e] <;> rfl
  have hm2 := hm.below h9
  have hBw : B ≤ w.heap.size := Nat.le_trans hB9 h9.size
  refine wpList_push hgd s x ho hv u hone hm2.out w.heap.size rfl hx hlen hBw (fun g cap w' h1 h2 h3 => ?_)
  have hfar := hm.far_new (u := u) (fun k hk => (hu.lt k hk).1)
  have hp := (hm2.alloc (.cells #[u] 26)).push (u := u) (l := l) ((hu.mono hB9).alloc _) hfar.1 hfar.2 rfl h1 h2 (by simpa using h3)
  exact h g cap w' _ hp ((hW.alloc hBw _).grown h2 (by simp; omega) (fun k hk => (hm2.out.lt k hk).1)) (by have := h2.size; simp at this; omega)

/-- Rows and an error. -/
def CubeOut (B : Nat) (e : Ending) (w : World) (k : Int) (rows : List (List Int)) : Prop :=
  ∃ A c, e = .returned (.tuple #[.slice A rows.length c, .int .i64 k]) ∧ OwnR w B A c rows ∧ rows.length ≤ 9223372036854775807
theorem cubeOut_own {w : World} {B : Nat} {v : Value} {hs : List Value} {rows : List (List Int)} (h : OwnM w B v hs rows) (k : Int) : CubeOut B (.returned (.tuple #[v, .int .i64 k])) w k rows := by
  obtain ⟨A, c, e, h1, h2, h3⟩ := h.ownR
  exact ⟨A, c, by rw [e], h1, by omega⟩
theorem cubeOut_nil (B : Nat) (w : World) (k : Int) : CubeOut B (.returned (.tuple #[.slice none 0 0, .int .i64 k])) w k [] := ⟨none, 0, rfl, OwnR.nil _ _, by simp⟩

theorem gmat_take {r c j : Nat} {f : Nat → Nat → Int} (h : j < r) : (gmat r c f).take j ++ [(List.range c).map (f j)] = (gmat r c f).take (j + 1) := by
  rw [take_snoc (by rw [gmat_length]; exact h), ← getD_get (d := []), gmat_getD h]
theorem col_take {r i : Nat} {f : Nat → Int} (h : i < r) : ((List.range r).map f).take i ++ [f i] = ((List.range r).map f).take (i + 1) := by
  rw [take_snoc (by simpa using h)]; simp

set_option maxRecDepth 100000 in
set_option maxHeartbeats 2000000 in
theorem mir_any (A : Option Addr) (cap : Nat) (p : List (List Int)) (h : Int) (w : World) (hcl : p.length ≤ 9223372036854775807) (hr : SR w w.heap.size A p) :
    Calls Try.prog 21 #[.slice A p.length cap, .int .i64 h] w fun e w' => (∃ (k : Int) (rows : List (List Int)), CubeOut w.heap.size e w' k rows ∧ ChkPile p h k ∧ (k ≠ 0 → rows = []) ∧ (k = 0 → rows = mirOf p p.length (p.getD 0 []).length)) ∧ Below w.heap.size w w' := by
  go_enter Try.func21, Try.ntmps21
  go_wp2_with fail
  refine (ccheck_any A cap p h w hcl hr).mono ?_
  rintro e w0 ⟨⟨k, rfl, hk⟩, rfl⟩
  rcases hk with ⟨hok, rfl⟩ | ⟨hok, rfl⟩
  · have HOK := Lib.hid hok
    obtain ⟨H, hH, hp⟩ := hok
    have hr8 := hp.r1
    have hc8 := hp.c1
    obtain ⟨b, o, rfl, hb⟩ := hr.addr (by omega)
    obtain ⟨A0, c0, hc0, hr0, hl0⟩ := hr.at_ (r := 0) (by omega)
    rw [Nat.add_zero] at hc0
    obtain ⟨c, hc⟩ : ∃ c, c = (p.getD 0 []).length := ⟨_, rfl⟩
    rw [← hc] at hc0 hl0 hp hc8
    have HC := Lib.hid hc
    have HP := Lib.hid hp
    clear hc hp hH
    go_wp2
    go_loopw [7, 21] (fun ov jv wr => ∃ (j : Nat) (hs : List Value), j ≤ c ∧ jv = .int .i64 j ∧ OwnM wr w.heap.size ov hs ((mirOf p p.length c).take j) ∧ Below w.heap.size w wr) (fun _ jv _ => c - (intOf jv).toNat)
    case atStart => exact ⟨0, [], by omega, rfl, by rw [List.take_zero]; exact OwnM.nil _ _, Below.refl _ _⟩
    case round =>
      obtain ⟨j, hs, hj, rfl, hm, hW⟩ := hrel
      obtain ⟨w9, rfl⟩ : ∃ w9, w9 = wr := ⟨_, rfl⟩
      have HM := Lib.hid hm
      have hsz := hW.size
      clear hm
      by_cases hlt : j < c
      · have hd1 : decide (j < c) = true := decide_eq_true hlt
        go_wp2
        go_loopw [9, 26] (fun rv iv wz => ∃ i : Nat, i ≤ p.length ∧ iv = .int .i64 i ∧ wz.ownsRow w9.heap.size 3 1 rv i (ints (((List.range p.length).map (fun i => ent p i j)).take i)) ∧ Below w9.heap.size w9 wz) (fun _ iv _ => p.length - (intOf iv).toNat)
        case atStart => exact ⟨0, by omega, rfl, by rw [List.take_zero]; exact World.ownsRow_nil _ _ _ _, Below.refl _ _⟩
        case round =>
          obtain ⟨i, hi, rfl, hown, hW2⟩ := hrel
          have HO := Lib.hid hown
          have hWw := hW.trans (hW2.mono hsz)
          clear hown
          by_cases hlt2 : i < p.length
          · have hd2 : decide (i < p.length) = true := decide_eq_true hlt2
            obtain ⟨Ai, ci, hci, hri, _⟩ := hr.at_ (r := i) hlt2
            have hli := HP.out.rowlen hlt2
            rw [hli] at hci
            obtain ⟨b1, o1, rfl, hb1⟩ := hri.addr (by rw [hli]; omega)
            have hci := (hWw.cell (p := ⟨b, o + i, none⟩) hb).trans hci
            have hcx := getD_cell (hri.below hWw) (k := j) (by rw [hli]; exact hlt)
            rw [show (p.getD i []).getD j 0 = ent p i j from rfl] at hcx
            have hct := Lib.hid (col_take (f := fun i => ent p i j) hlt2)
            obtain ⟨x, hx⟩ : ∃ x, x = ent p i j := ⟨_, rfl⟩
            rw [← hx] at hcx
            have HX := Lib.hid hx
            clear hx hli
            go_wp2_with (first | (at_builtin; refine wpList_app1 rfl (.tmp 29) (.tmp 37) rfl rfl x HO.out rfl (by omega) hW2.size (fun g2 c2 w5 hl5 hb5 => ?_)) | fail)
            go_wp2
            go_roundw
            case rel => exact ⟨i + 1, by omega, by go_num, by rw [← hct.out, ← HX.out]; exact hl5, hW2.trans hb5⟩
            case measure => simp [intOf]; omega
          · have hd2 : decide (i < p.length) = false := decide_eq_false hlt2
            obtain rfl : i = p.length := by omega
            have hO := HO.out
            rw [List.take_of_length_le (by simp)] at hO
            obtain ⟨gr, crr, hv, _, _⟩ := hO.form (by omega)
            subst hv
            have HO1 := Lib.hid hO
            clear hO HO
            go_wp2_with (first | (at_builtin; refine wpList_pushRow (v := u7) (u := .slice (some ⟨gr, 0, none⟩) p.length crr) rfl (.tmp 40) (.tmp 42) rfl rfl rfl HM.out hW2 (by simp) HO1.out hWw hsz j (by rw [List.length_take]; unfold mirOf; rw [gmat_length]; omega) (by omega) (fun g2 c2 w5 hs5 hm5 hb5 hz5 => ?_)) | fail)
            have hts := gmat_take (r := c) (c := p.length) (f := fun j i => ent p i j) hlt
            have hm5' : OwnM w5 w.heap.size (.slice (some ⟨g2, 0, none⟩) (j + 1) c2) hs5 ((mirOf p p.length c).take (j + 1)) := by
              have hq := hm5
              unfold mirOf at hq ⊢
              rw [hts] at hq
              exact hq
            have HM5 := Lib.hid hm5'
            clear hm5 hm5' hts
            go_wp2
            go_roundw
            case rel => exact ⟨j + 1, hs5, by omega, by go_num, HM5.out, hb5⟩
            case measure => simp [intOf]; omega
      · have hd1 : decide (j < c) = false := decide_eq_false hlt
        have hjc : Hid (j = c) := by show _ = _; omega
        have hm := HM.out
        rw [List.take_of_length_le (by unfold mirOf; rw [gmat_length, hjc.out]; exact Nat.le_refl _)] at hm
        have HM' := Lib.hid hm
        clear hm
        go_wp2
        go_ret2
        exact ⟨⟨0, _, cubeOut_own HM'.out 0, .inl ⟨HOK.out, rfl⟩, fun e => absurd rfl e, fun _ => by rw [← HC.out]⟩, hW⟩
  · have HOK := Lib.hid hok
    clear hok
    go_wp2
    go_ret2
    exact ⟨⟨1, [], cubeOut_nil _ _ 1, .inr ⟨HOK.out, rfl⟩, fun _ => rfl, fun e => (by cases e)⟩, Below.refl _ _⟩

end Go.Proofs.Ytpmkdihencepnaa

/-
  cubes.Turned, Rest, Volume: what they answer.
-/
namespace Go.Proofs.Ytpmkdihencepnaa
open Go.RowKit

theorem tab_range (n : Nat) (f : Nat → Int) : tab n f = (List.range n).map f := rfl
theorem cnt_step (P : Nat → Bool) (i : Nat) : cnt P (i + 1) = cnt P i + if P i = true then 1 else 0 := rfl

set_option maxRecDepth 100000 in
set_option maxHeartbeats 2000000 in
theorem turn_any (A : Option Addr) (cap : Nat) (p : List (List Int)) (h : Int) (w : World) (hcl : p.length ≤ 9223372036854775807) (hr : SR w w.heap.size A p) :
    Calls Try.prog 20 #[.slice A p.length cap, .int .i64 h] w fun e w' => (∃ (k : Int) (rows : List (List Int)), CubeOut w.heap.size e w' k rows ∧ ChkPile p h k ∧ (k ≠ 0 → rows = []) ∧ (k = 0 → rows = turnOf p p.length (p.getD 0 []).length h.toNat)) ∧ Below w.heap.size w w' := by
  go_enter Try.func20, Try.ntmps20
  go_wp2_with fail
  refine (ccheck_any A cap p h w hcl hr).mono ?_
  rintro e w0 ⟨⟨k, rfl, hk⟩, rfl⟩
  rcases hk with ⟨hok, rfl⟩ | ⟨hok, rfl⟩
  · have HOK := Lib.hid hok
    obtain ⟨H, hH, hp⟩ := hok
    subst hH
    have hr8 := hp.r1
    have hc8 := hp.c1
    have hh8 := hp.h1
    obtain ⟨b, o, rfl, hb⟩ := hr.addr (by omega)
    obtain ⟨A0, c0, hc0, hr0, hl0⟩ := hr.at_ (r := 0) (by omega)
    rw [Nat.add_zero] at hc0
    obtain ⟨c, hc⟩ : ∃ c, c = (p.getD 0 []).length := ⟨_, rfl⟩
    rw [← hc] at hc0 hl0 hp hc8
    have HC := Lib.hid hc
    have HP := Lib.hid hp
    clear hc hp
    go_wp2
    go_loopw [7, 22] (fun ov jv wr => ∃ (j : Nat) (hs : List Value), j ≤ c ∧ jv = .int .i64 j ∧ OwnM wr w.heap.size ov hs ((turnOf p p.length c H).take j) ∧ Below w.heap.size w wr) (fun _ jv _ => c - (intOf jv).toNat)
    case atStart => exact ⟨0, [], by omega, rfl, by rw [List.take_zero]; exact OwnM.nil _ _, Below.refl _ _⟩
    case round =>
      obtain ⟨j, hs, hj, rfl, hm, hW⟩ := hrel
      obtain ⟨w9, rfl⟩ : ∃ w9, w9 = wr := ⟨_, rfl⟩
      have HM := Lib.hid hm
      have hsz := hW.size
      clear hm
      by_cases hlt : j < c
      · have hd1 : decide (j < c) = true := decide_eq_true hlt
        go_wp2_with (first | (refine wpList_mk rfl (.tmp 25) (.tmp 25) rfl H rfl rfl (by omega) (Nat.le_refl _) (fun w2 hown2 hb2 hz2 => ?_)) | fail)
        rw [tab_zero] at hown2
        have HO2 := Lib.hid hown2
        clear hown2
        go_wp2
        go_loopw [29] (fun zv wz => ∃ z : Nat, z ≤ H ∧ zv = .int .i64 z ∧ wz.ownsRow w9.heap.size 3 1 (.slice (some ⟨w9.heap.size, 0, none⟩) H H) H (ints (tab H (fun a => if a < z then turnAt p p.length j a else 0))) ∧ Below w9.heap.size w9 wz) (fun zv _ => H - (intOf zv).toNat)
        case atStart => exact ⟨0, by omega, rfl, by simpa using HO2.out, hb2⟩
        case round =>
          clear HO2 hb2
          obtain ⟨z, hz, rfl, hown, hW2⟩ := hrel
          have HO := Lib.hid hown
          clear hown
          by_cases hlt2 : z < H
          · have hd2 : decide (z < H) = true := decide_eq_true hlt2
            go_wp2
            go_loopw [34] (fun iv wz => ∃ i : Nat, i ≤ p.length ∧ iv = .int .i64 i ∧ wz.ownsRow w9.heap.size 3 1 (.slice (some ⟨w9.heap.size, 0, none⟩) H H) H (ints (tab H (fun a => if a < z then turnAt p p.length j a else if a = z then (cnt (fun i => decide ((z : Int) < ent p i j)) i : Int) else 0))) ∧ Below w9.heap.size w9 wz) (fun iv _ => p.length - (intOf iv).toNat)
            case atStart =>
              refine ⟨0, by omega, rfl, ?_, hW2⟩
              rw [tab_congr (g := fun a => if a < z then turnAt p p.length j a else 0) (fun a _ => by
                by_cases e : a < z
                · rw [if_pos e, if_pos e]
                · rw [if_neg e, if_neg e]; split <;> rfl)]
              exact HO.out
            case round =>
              clear HO hW2
              obtain ⟨i, hi, rfl, hown, hW2⟩ := hrel
              have HO := Lib.hid hown
              have hWw := hW.trans (hW2.mono hsz)
              clear hown
              by_cases hlt3 : i < p.length
              · have hd3 : decide (i < p.length) = true := decide_eq_true hlt3
                obtain ⟨Ai, ci, hci, hri, _⟩ := hr.at_ (r := i) hlt3
                have hli := HP.out.rowlen hlt3
                rw [hli] at hci
                obtain ⟨b1, o1, rfl, hb1⟩ := hri.addr (by rw [hli]; omega)
                have hci := (hWw.cell (p := ⟨b, o + i, none⟩) hb).trans hci
                have hcx := getD_cell (hri.below hWw) (k := j) (by rw [hli]; exact hlt)
                rw [show (p.getD i []).getD j 0 = ent p i j from rfl] at hcx
                have hcs := cnt_step (fun i => decide ((z : Int) < ent p i j)) i
                have hcle := cnt_le (fun i => decide ((z : Int) < ent p i j)) i
                have hcy := own_get HO.out (i := z) (tab_get hlt2)
                rw [if_neg (by omega), if_pos rfl] at hcy
                have hfr := HO.out.frozenAt z
                have hst := own_set HO.out z ((cnt (fun i => decide ((z : Int) < ent p i j)) i : Int) + 1)
                have hWs := hW2.setCell (p := ⟨w9.heap.size, z, none⟩) (Nat.le_refl _) (.int .i64 ((cnt (fun i => decide ((z : Int) < ent p i j)) i : Int) + 1))
                have HCS := Lib.hid hcs
                obtain ⟨n, hn⟩ : ∃ n, n = cnt (fun i => decide ((z : Int) < ent p i j)) i := ⟨_, rfl⟩
                have HN := Lib.hid hn
                rw [← hn] at hcle hcy hst hWs
                obtain ⟨x, hx⟩ : ∃ x, x = ent p i j := ⟨_, rfl⟩
                rw [← hx] at hcx
                have HX := Lib.hid hx
                have HST := Lib.hid hst
                clear hn hx hst hcs hli
                by_cases hzx : (z : Int) < x
                · have hd4 : decide ((z : Int) < x) = true := decide_eq_true hzx
                  have HZX := Lib.hid hzx
                  clear hzx
                  go_wp2
                  go_roundw
                  case rel =>
                    refine ⟨i + 1, by omega, by go_num, ?_, hWs⟩
                    have hq := HST.out
                    rw [tab_set, tab_congr (g := fun a => if a < z then turnAt p p.length j a else if a = z then (cnt (fun i => decide ((z : Int) < ent p i j)) (i + 1) : Int) else 0) (fun a _ => by
                      by_cases e : a = z
                      · subst e
                        rw [if_pos rfl, if_neg (by omega), if_pos rfl, HCS.out, ← HN.out, if_pos (by rw [← HX.out]; exact decide_eq_true HZX.out)]; rfl
                      · rw [if_neg e]
                        by_cases e2 : a < z
                        · rw [if_pos e2, if_pos e2]
                        · rw [if_neg e2, if_neg e2, if_neg e, if_neg e])] at hq
                    exact hq
                  case measure => simp [intOf]; omega
                · have hd4 : decide ((z : Int) < x) = false := decide_eq_false hzx
                  have HZX := Lib.hid hzx
                  clear hzx
                  go_wp2
                  go_roundw
                  case rel =>
                    refine ⟨i + 1, by omega, by go_num, ?_, hW2⟩
                    rw [HCS.out, if_neg (by rw [← HX.out]; simpa using HZX.out), Nat.add_zero]
                    exact HO.out
                  case measure => simp [intOf]; omega
              · have hd3 : decide (i < p.length) = false := decide_eq_false hlt3
                obtain rfl : i = p.length := by omega
                have hq := HO.out
                rw [tab_congr (g := fun a => if a < z + 1 then turnAt p p.length j a else 0) (fun a _ => by
                  by_cases e2 : a < z
                  · rw [if_pos e2, if_pos (by omega)]
                  · rw [if_neg e2]
                    by_cases e : a = z
                    · subst e; rw [if_pos rfl, if_pos (by omega)]; rfl
                    · rw [if_neg e, if_neg (by omega)])] at hq
                have HQ := Lib.hid hq
                clear hq
                go_wp2
                go_roundw
                case rel => exact ⟨z + 1, by omega, by go_num, HQ.out, hW2⟩
                case measure => simp [intOf]; omega
          · have hd2 : decide (z < H) = false := decide_eq_false hlt2
            have hq := HO.out
            rw [tab_congr (g := turnAt p p.length j) (fun a ha => by rw [if_pos (by omega)])] at hq
            have HQ := Lib.hid hq
            have hWw := hW.trans (hW2.mono hsz)
            clear hq HO
            go_wp2_with (first | (at_builtin; refine wpList_pushRow (v := u7) (u := .slice (some ⟨w9.heap.size, 0, none⟩) H H) rfl (.tmp 54) (.tmp 56) rfl rfl rfl HM.out hW2 (by rw [tab_length]) HQ.out hWw hsz j (by rw [List.length_take]; unfold turnOf; rw [gmat_length]; omega) (by omega) (fun g2 c2 w5 hs5 hm5 hb5 hz5 => ?_)) | fail)
            have hts := gmat_take (r := c) (c := H) (f := turnAt p p.length) hlt
            have hm5' : OwnM w5 w.heap.size (.slice (some ⟨g2, 0, none⟩) (j + 1) c2) hs5 ((turnOf p p.length c H).take (j + 1)) := by
              have hq := hm5
              unfold turnOf at hq ⊢
              rw [tab_range, hts] at hq
              exact hq
            have HM5 := Lib.hid hm5'
            clear hm5 hm5' hts
            go_wp2
            go_roundw
            case rel => exact ⟨j + 1, hs5, by omega, by go_num, HM5.out, hb5⟩
            case measure => simp [intOf]; omega
      · have hd1 : decide (j < c) = false := decide_eq_false hlt
        have hjc : Hid (j = c) := by show _ = _; omega
        have hm := HM.out
        rw [List.take_of_length_le (by unfold turnOf; rw [gmat_length, hjc.out]; exact Nat.le_refl _)] at hm
        have HM' := Lib.hid hm
        clear hm
        go_wp2
        go_ret2
        exact ⟨⟨0, _, cubeOut_own HM'.out 0, .inl ⟨HOK.out, rfl⟩, fun e => absurd rfl e, fun _ => by rw [← HC.out, Int.toNat_natCast]⟩, hW⟩
  · have HOK := Lib.hid hok
    clear hok
    go_wp2
    go_ret2
    exact ⟨⟨1, [], cubeOut_nil _ _ 1, .inr ⟨HOK.out, rfl⟩, fun _ => rfl, fun e => (by cases e)⟩, Below.refl _ _⟩

end Go.Proofs.Ytpmkdihencepnaa

/-
  cubes.Rest, Volume: what they answer.
-/
namespace Go.Proofs.Ytpmkdihencepnaa
open Go.RowKit

set_option maxRecDepth 100000 in
set_option maxHeartbeats 2000000 in
theorem rest_any (A : Option Addr) (cap : Nat) (p : List (List Int)) (h : Int) (w : World) (hcl : p.length ≤ 9223372036854775807) (hr : SR w w.heap.size A p) :
    Calls Try.prog 22 #[.slice A p.length cap, .int .i64 h] w fun e w' => (∃ (k : Int) (rows : List (List Int)), CubeOut w.heap.size e w' k rows ∧ ChkPile p h k ∧ (k ≠ 0 → rows = []) ∧ (k = 0 → rows = restOf p p.length (p.getD 0 []).length h.toNat)) ∧ Below w.heap.size w w' := by
  go_enter Try.func22, Try.ntmps22
  go_wp2_with fail
  refine (ccheck_any A cap p h w hcl hr).mono ?_
  rintro e w0 ⟨⟨k, rfl, hk⟩, rfl⟩
  rcases hk with ⟨hok, rfl⟩ | ⟨hok, rfl⟩
  · have HOK := Lib.hid hok
    obtain ⟨H, hH, hp⟩ := hok
    subst hH
    have hr8 := hp.r1
    have hc8 := hp.c1
    have hh8 := hp.h1
    obtain ⟨b, o, rfl, hb⟩ := hr.addr (by omega)
    obtain ⟨c, hc⟩ : ∃ c, c = (p.getD 0 []).length := ⟨_, rfl⟩
    rw [← hc] at hp hc8
    have HC := Lib.hid hc
    have HP := Lib.hid hp
    clear hc hp
    go_wp2
    go_loopw [7, 8] (fun ov iv wr => ∃ (m : Nat) (hs : List Value), m ≤ p.length ∧ iv = .int .i64 ((m : Int) - 1) ∧ OwnM wr w.heap.size ov hs ((restOf p p.length c H).take (p.length - m)) ∧ Below w.heap.size w wr) (fun _ iv _ => (intOf iv + 1).toNat)
    case atStart => exact ⟨p.length, [], Nat.le_refl _, rfl, by rw [Nat.sub_self, List.take_zero]; exact OwnM.nil _ _, Below.refl _ _⟩
    case round =>
      obtain ⟨m, hs, hm0, rfl, hm, hW⟩ := hrel
      obtain ⟨w9, rfl⟩ : ∃ w9, w9 = wr := ⟨_, rfl⟩
      have HM := Lib.hid hm
      have hsz := hW.size
      clear hm
      cases m with
      | succ m =>
        have e1 : ((m + 1 : Nat) : Int) - 1 = (m : Int) := by omega
        rw [e1]
        have hd1 : decide ((0 : Int) ≤ (m : Int)) = true := decide_eq_true (by omega)
        have hml : m < p.length := by omega
        obtain ⟨Ai, ci, hci, hri, _⟩ := hr.at_ (r := m) hml
        have hli := HP.out.rowlen hml
        rw [hli] at hci
        obtain ⟨b1, o1, rfl, hb1⟩ := hri.addr (by rw [hli]; omega)
        have HCI := Lib.hid hci
        have hci := (hW.cell (p := ⟨b, o + m, none⟩) hb).trans hci
        have HLI := Lib.hid hli
        clear hli e1
        go_wp2
        go_loopw [9, 10] (fun rv jv wz => ∃ q : Nat, q ≤ c ∧ jv = .int .i64 ((q : Int) - 1) ∧ wz.ownsRow w9.heap.size 3 1 rv (c - q) (ints (((List.range c).map (fun j => (H : Int) - ent p m (c - 1 - j))).take (c - q))) ∧ Below w9.heap.size w9 wz) (fun _ jv _ => (intOf jv + 1).toNat)
        case atStart => exact ⟨c, Nat.le_refl _, rfl, by rw [Nat.sub_self, List.take_zero]; exact World.ownsRow_nil _ _ _ _, Below.refl _ _⟩
        case round =>
          clear hci
          obtain ⟨q, hq, rfl, hown, hW2⟩ := hrel
          have HO := Lib.hid hown
          have hWw := hW.trans (hW2.mono hsz)
          clear hown
          cases q with
          | succ q =>
            have e2 : ((q + 1 : Nat) : Int) - 1 = (q : Int) := by omega
            rw [e2]
            have hd2 : decide ((0 : Int) ≤ (q : Int)) = true := decide_eq_true (by omega)
            have hqc : q < c := by omega
            have hci := (hWw.cell (p := ⟨b, o + m, none⟩) hb).trans HCI.out
            have hcx := getD_cell (hri.below hWw) (k := q) (by rw [HLI.out]; exact hqc)
            rw [show (p.getD m []).getD q 0 = ent p m q from rfl] at hcx
            have hbd := HP.out.bd m q hml hqc
            have hct := col_take (r := c) (i := c - (q + 1)) (f := fun j => (H : Int) - ent p m (c - 1 - j)) (by omega)
            rw [show c - 1 - (c - (q + 1)) = q by omega, show c - (q + 1) + 1 = c - q by omega] at hct
            have HCT := Lib.hid hct
            obtain ⟨N, hN⟩ : ∃ N, N = c - (q + 1) := ⟨_, rfl⟩
            have hNq : Hid (N + 1 = c - q) := by show _ = _; omega
            have HON := HO.out
            rw [← hN] at HON
            have HO2 := Lib.hid HON
            obtain ⟨x, hx⟩ : ∃ x, x = ent p m q := ⟨_, rfl⟩
            rw [← hx] at hcx hbd
            have HX := Lib.hid hx
            have HN := Lib.hid hN
            have hN8 : N < 1000000 := by omega
            clear hx hct HON hN e2
            go_wp2_with (first | (at_builtin; refine wpList_app1 rfl (.tmp 34) (.tmp 44) rfl rfl ((H : Int) - x) HO2.out rfl hN8 hW2.size (fun g2 c2 w5 hl5 hb5 => ?_)) | fail)
            have hl6 : w5.ownsRow w9.heap.size 3 1 (.slice (some ⟨g2, 0, none⟩) (N + 1) c2) (c - q) (ints (((List.range c).map (fun j => (H : Int) - ent p m (c - 1 - j))).take (c - q))) := by
              have hq := hl5
              rw [HX.out, HN.out, HCT.out, ← HN.out, hNq.out] at hq
              rw [hNq.out]
              exact hq
            have HL6 := Lib.hid hl6
            clear hl5 hl6
            go_wp2
            go_roundw
            case rel => exact ⟨q, by omega, rfl, HL6.out, hW2.trans hb5⟩
            case measure => simp [intOf]
          | zero =>
            have e2 : ((0 : Nat) : Int) - 1 = -1 := rfl
            rw [e2]
            have hO := HO.out
            rw [Nat.sub_zero, List.take_of_length_le (by simp)] at hO
            obtain ⟨gr, crr, hv, _, _⟩ := hO.form (by omega)
            subst hv
            have HO1 := Lib.hid hO
            clear hO HO e2
            go_wp2_with (first | (at_builtin; refine wpList_pushRow (v := u7) (u := .slice (some ⟨gr, 0, none⟩) c crr) rfl (.tmp 46) (.tmp 48) rfl rfl rfl HM.out hW2 (by simp) HO1.out hWw hsz (p.length - (m + 1)) (by rw [List.length_take]; unfold restOf; rw [gmat_length]; omega) (by omega) (fun g2 c2 w5 hs5 hm5 hb5 hz5 => ?_)) | fail)
            have hts := gmat_take (r := p.length) (c := c) (j := p.length - (m + 1)) (f := fun i j => (H : Int) - ent p (p.length - 1 - i) (c - 1 - j)) (by omega)
            rw [show p.length - (m + 1) + 1 = p.length - m by omega] at hts
            have hm5' : OwnM w5 w.heap.size (.slice (some ⟨g2, 0, none⟩) (p.length - (m + 1) + 1) c2) hs5 ((restOf p p.length c H).take (p.length - m)) := by
              have hq := hm5
              unfold restOf at hq ⊢
              rw [← hts, show p.length - 1 - (p.length - (m + 1)) = m by omega]
              exact hq
            have HM5 := Lib.hid hm5'
            clear hm5 hm5' hts
            go_wp2
            go_roundw
            case rel => exact ⟨m, hs5, by omega, rfl, HM5.out, hb5⟩
            case measure => simp [intOf]
      | zero =>
        have e1 : ((0 : Nat) : Int) - 1 = -1 := rfl
        rw [e1]
        have hm := HM.out
        rw [Nat.sub_zero, List.take_of_length_le (by unfold restOf; rw [gmat_length]; exact Nat.le_refl _)] at hm
        have HM' := Lib.hid hm
        clear hm e1
        go_wp2
        go_ret2
        exact ⟨⟨0, _, cubeOut_own HM'.out 0, .inl ⟨HOK.out, rfl⟩, fun e => absurd rfl e, fun _ => by rw [← HC.out, Int.toNat_natCast]⟩, hW⟩
  · have HOK := Lib.hid hok
    clear hok
    go_wp2
    go_ret2
    exact ⟨⟨1, [], cubeOut_nil _ _ 1, .inr ⟨HOK.out, rfl⟩, fun _ => rfl, fun e => (by cases e)⟩, Below.refl _ _⟩

end Go.Proofs.Ytpmkdihencepnaa
