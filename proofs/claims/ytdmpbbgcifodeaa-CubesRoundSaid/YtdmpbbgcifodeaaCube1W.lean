/-
  cubes.Check: what it answers. (The cases of its inner loop are printed by wip/mkC.py.)
-/
import Derived.Test.YtdmpbbgcifodeaaMatL
import Derived.Test.YtdmpbbgcifodeaaCubeM
namespace Go.Proofs.Ytdmpbbgcifodeaa
open Go.RowKit

def PileOk (p : List (List Int)) (h : Int) : Prop := ∃ H : Nat, h = (H : Int) ∧ Pile p p.length (p.getD 0 []).length H
def ChkPile (p : List (List Int)) (h k : Int) : Prop := (PileOk p h ∧ k = 0) ∨ (¬ PileOk p h ∧ k = 1)
theorem Pile.rowlen {p : List (List Int)} {r c h : Nat} (hp : Pile p r c h) {i : Nat} (hi : i < r) : (p.getD i []).length = c := by
  have hi' : i < p.length := by rw [hp.len]; exact hi
  rw [getD_get hi']; exact hp.row _ (List.getElem_mem hi')

/-- Row i is right as far as j. -/
structure RowTo (p : List (List Int)) (h : Int) (i j : Nat) : Prop where
  bd : ∀ b, b < j → 0 ≤ ent p i b ∧ ent p i b ≤ h
  side : ∀ b, b + 1 < j → ent p i (b + 1) ≤ ent p i b
  down : ∀ a, i = a + 1 → ∀ b, b < j → ent p i b ≤ ent p a b
theorem RowTo.zero (p : List (List Int)) (h : Int) (i : Nat) : RowTo p h i 0 := ⟨fun b hb => by omega, fun b hb => by omega, fun a _ b hb => by omega⟩
theorem RowTo.succ {p : List (List Int)} {h : Int} {i j : Nat} (hr : RowTo p h i j) (h1 : 0 ≤ ent p i j ∧ ent p i j ≤ h) (h2 : ∀ b, j = b + 1 → ent p i j ≤ ent p i b) (h3 : ∀ a, i = a + 1 → ent p i j ≤ ent p a j) : RowTo p h i (j + 1) := by
  refine ⟨fun b hb => ?_, fun b hb => ?_, fun a ha b hb => ?_⟩
  · by_cases e : b = j
    · rw [e]; exact h1
    · exact hr.bd b (by omega)
  · by_cases e : b + 1 = j
    · rw [e]; exact h2 b e.symm
    · exact hr.side b (by omega)
  · by_cases e : b = j
    · rw [e]; exact h3 a ha
    · exact hr.down a ha b (by omega)
structure GoodTo (p : List (List Int)) (h : Int) (c i : Nat) : Prop where
  len : ∀ a, a < i → (p.getD a []).length = c
  row : ∀ a, a < i → RowTo p h a c
theorem GoodTo.succ {p : List (List Int)} {h : Int} {c i : Nat} (g : GoodTo p h c i) (h1 : (p.getD i []).length = c) (h2 : RowTo p h i c) : GoodTo p h c (i + 1) := by
  refine ⟨fun a ha => ?_, fun a ha => ?_⟩
  · by_cases e : a = i
    · rw [e]; exact h1
    · exact g.len a (by omega)
  · by_cases e : a = i
    · rw [e]; exact h2
    · exact g.row a (by omega)
theorem GoodTo.pile {p : List (List Int)} {H : Nat} (g : GoodTo p (H : Int) (p.getD 0 []).length p.length) (r1 : 1 ≤ p.length ∧ p.length ≤ 8) (c1 : 1 ≤ (p.getD 0 []).length ∧ (p.getD 0 []).length ≤ 8) (h1 : 1 ≤ H ∧ H ≤ 8) : PileOk p (H : Int) :=
  ⟨H, rfl, ⟨rfl, fun x hx => by obtain ⟨a, ha, rfl⟩ := List.getElem_of_mem hx; have := g.len a ha; rwa [getD_get ha] at this, r1, c1, h1,
    fun i j hi hj => (g.row i hi).bd j hj, fun i j hi hj => (g.row i hi).side j hj, fun i j hi hj => (g.row (i + 1) hi).down i rfl j hj⟩⟩

set_option maxRecDepth 100000 in
set_option maxHeartbeats 4000000 in
theorem ccheck_any (A : Option Addr) (cap : Nat) (p : List (List Int)) (h : Int) (w : World) (hcl : p.length ≤ 9223372036854775807) (hr : SR w w.heap.size A p) :
    Calls Try.prog 89 #[.slice A p.length cap, .int .i64 h] w fun e w' => (∃ k : Int, e = .returned (.int .i64 k) ∧ ChkPile p h k) ∧ w = w' := by
  go_enter Try.func89, Try.ntmps89
  by_cases t1 : p.length < 1
  · have dt1 : decide (p.length < 1) = true := decide_eq_true t1
    have hfin : Hid (ChkPile p h 1) := .inr ⟨fun ⟨H, _, hp⟩ => by have := hp.r1; omega, rfl⟩
    go_wp2
    go_ret
    exact ⟨⟨1, rfl, hfin.out⟩, rfl⟩
  · have dt1 : decide (p.length < 1) = false := decide_eq_false t1
    by_cases t2 : 8 < p.length
    · have dt2 : decide (8 < p.length) = true := decide_eq_true t2
      have hfin : Hid (ChkPile p h 1) := .inr ⟨fun ⟨H, _, hp⟩ => by have := hp.r1; omega, rfl⟩
      go_wp2
      go_ret
      exact ⟨⟨1, rfl, hfin.out⟩, rfl⟩
    · have dt2 : decide (8 < p.length) = false := decide_eq_false t2
      by_cases t3 : h < 1
      · have dt3 : decide (h < 1) = true := decide_eq_true t3
        have hfin : Hid (ChkPile p h 1) := .inr ⟨fun ⟨H, e, hp⟩ => by have := hp.h1; omega, rfl⟩
        go_wp2
        go_ret
        exact ⟨⟨1, rfl, hfin.out⟩, rfl⟩
      · have dt3 : decide (h < 1) = false := decide_eq_false t3
        by_cases t4 : 8 < h
        · have dt4 : decide (8 < h) = true := decide_eq_true t4
          have hfin : Hid (ChkPile p h 1) := .inr ⟨fun ⟨H, e, hp⟩ => by have := hp.h1; omega, rfl⟩
          go_wp2
          go_ret
          exact ⟨⟨1, rfl, hfin.out⟩, rfl⟩
        · have dt4 : decide (8 < h) = false := decide_eq_false t4
          obtain ⟨H, hH⟩ : ∃ H : Nat, h = H := ⟨h.toNat, by omega⟩
          subst hH
          obtain ⟨b, o, rfl, hb⟩ := hr.addr (by omega)
          obtain ⟨A0, c0, hc0, hr0, hl0⟩ := hr.at_ (r := 0) (by omega)
          rw [Nat.add_zero] at hc0
          obtain ⟨c, hc⟩ : ∃ c, c = (p.getD 0 []).length := ⟨_, rfl⟩
          rw [← hc] at hc0 hl0
          have HC := Lib.hid hc
          clear hc
          go_wp2
          go_loop [27] (fun iv => ∃ i : Nat, i ≤ p.length ∧ iv = .int .i64 i ∧ GoodTo p (H : Int) c i ∧ (1 ≤ i → 1 ≤ c ∧ c ≤ 8)) (fun iv => p.length - (intOf iv).toNat)
          case atStart => exact ⟨0, by omega, rfl, ⟨fun a ha => by omega, fun a ha => by omega⟩, fun h => by omega⟩
          case round =>
            obtain ⟨i, hi, rfl, hg, hcb⟩ := hrel
            have HG := Lib.hid hg
            have HCB := Lib.hid hcb
            clear hg hcb
            by_cases hlt : i < p.length
            · have hd1 : decide (i < p.length) = true := decide_eq_true hlt
              obtain ⟨Ai, ci, hci, hri, hli⟩ := hr.at_ (r := i) hlt
              obtain ⟨R, hR⟩ : ∃ R, R = p.getD i [] := ⟨_, rfl⟩
              rw [← hR] at hci hri hli
              have HR := Lib.hid hR
              clear hR
              by_cases u1 : R.length < 1
              · have du1 : decide (R.length < 1) = true := decide_eq_true u1
                have hfin : Hid (ChkPile p (H : Int) 1) := .inr ⟨fun ⟨K, _, hp⟩ => by have a1 := hp.rowlen hlt; have a2 := hp.c1; rw [← HR.out] at a1; omega, rfl⟩
                go_wp2
                go_ret
                exact ⟨⟨1, rfl, hfin.out⟩, rfl⟩
              · have du1 : decide (R.length < 1) = false := decide_eq_false u1
                by_cases u2 : 8 < R.length
                · have du2 : decide (8 < R.length) = true := decide_eq_true u2
                  have hfin : Hid (ChkPile p (H : Int) 1) := .inr ⟨fun ⟨K, _, hp⟩ => by have a1 := hp.rowlen hlt; have a2 := hp.c1; rw [← HR.out] at a1; omega, rfl⟩
                  go_wp2
                  go_ret
                  exact ⟨⟨1, rfl, hfin.out⟩, rfl⟩
                · have du2 : decide (8 < R.length) = false := decide_eq_false u2
                  by_cases u3 : R.length = c
                  · have du3 : ((R.length : Int) != (c : Int)) = false := by simp; omega
                    have HRC := Lib.hid u3
                    have hcb : 1 ≤ c ∧ c ≤ 8 := by omega
                    clear u3
                    go_wp2
                    go_loop [51] (fun jv => ∃ j : Nat, j ≤ c ∧ jv = .int .i64 j ∧ RowTo p (H : Int) i j) (fun jv => c - (intOf jv).toNat)
                    case atStart => exact ⟨0, by omega, rfl, RowTo.zero _ _ _⟩
                    case round =>
                      obtain ⟨j, hj, rfl, hrow⟩ := hrel
                      have HROW := Lib.hid hrow
                      clear hrow
                      by_cases hlt2 : j < c
                      · have hRj : j < R.length := by have := HRC.out; omega
                        have hd5 : decide (j < R.length) = true := decide_eq_true hRj
                        obtain ⟨b1, o1, rfl, hb1⟩ := hri.addr (by omega)
                        have hcx := getD_cell hri hRj
                        have hent : ∀ b, R.getD b 0 = ent p i b := fun b => by rw [HR.out]; rfl
                        rw [hent] at hcx
                        have HENT := Lib.hid hent
                        clear hent
                        by_cases hj0 : j = 0
                        · subst hj0
                          rw [Nat.add_zero] at hcx
                          by_cases hi0 : i = 0
                          · subst hi0
                            obtain ⟨x, hx⟩ : ∃ x, x = ent p 0 0 := ⟨_, rfl⟩
                            rw [← hx] at hcx
                            have HX := Lib.hid hx
                            clear hx
                            by_cases v1 : x < 0
                            · have dv1 : decide (x < 0) = true := decide_eq_true v1
                              have hfin : Hid (ChkPile p (H : Int) 1) := .inr ⟨fun ⟨K, _, hp⟩ => by have a1 := hp.bd 0 0 hlt (by have := HC.out; omega); rw [← HX.out] at a1; omega, rfl⟩
                              go_wp2
                              go_ret
                              exact ⟨⟨1, rfl, hfin.out⟩, rfl⟩
                            · have dv1 : decide (x < 0) = false := decide_eq_false v1
                              by_cases v2 : (H : Int) < x
                              · have dv2 : decide ((H : Int) < x) = true := decide_eq_true v2
                                have hfin : Hid (ChkPile p (H : Int) 1) := .inr ⟨fun ⟨K, e, hp⟩ => by have a1 := hp.bd 0 0 hlt (by have := HC.out; omega); rw [← HX.out] at a1; omega, rfl⟩
                                go_wp2
                                go_ret
                                exact ⟨⟨1, rfl, hfin.out⟩, rfl⟩
                              · have dv2 : decide ((H : Int) < x) = false := decide_eq_false v2
                                have hnx := Lib.hid (HROW.out.succ (by rw [← HX.out]; omega) (fun b hb => by omega) (fun a ha => by omega))
                                go_wp2
                                go_round
                                case rel => exact ⟨0 + 1, by omega, by go_num, hnx.out⟩
                                case measure => simp [intOf]; omega
                          · obtain ⟨i', rfl⟩ : ∃ i', i = i' + 1 := ⟨i - 1, by omega⟩
                            obtain ⟨Au, cu, hcu, hru, _⟩ := hr.at_ (r := i') (by omega)
                            have hlu := HG.out.len i' (by omega)
                            rw [hlu] at hcu
                            obtain ⟨b2, o2, rfl, hb2⟩ := hru.addr (by rw [hlu]; omega)
                            have hcz := getD_cell hru (k := 0) (by rw [hlu]; omega)
                            rw [show (p.getD i' []).getD 0 0 = ent p i' 0 from rfl] at hcz
                            rw [Nat.add_zero] at hcz
                            obtain ⟨x, hx⟩ : ∃ x, x = ent p (i' + 1) 0 := ⟨_, rfl⟩
                            obtain ⟨z, hz⟩ : ∃ x, x = ent p i' 0 := ⟨_, rfl⟩
                            rw [← hx] at hcx
                            rw [← hz] at hcz
                            have HX := Lib.hid hx
                            have HZ := Lib.hid hz
                            clear hx hz hlu
                            have w4 : IntKind.i64.wrap (i' : Int) = i' := IntWalk.i64_in _ (by omega)
                            have y1 : (i' : Int) < (p.length : Int) := by omega
                            have y2 : i' < p.length := by omega
                            have y3 : decide ((0 : Int) < (i' : Int) + 1) = true := decide_eq_true (by omega)
                            have y4 : 0 < c := by omega
                            by_cases v1 : x < 0
                            · have dv1 : decide (x < 0) = true := decide_eq_true v1
                              have hfin : Hid (ChkPile p (H : Int) 1) := .inr ⟨fun ⟨K, _, hp⟩ => by have a1 := hp.bd (i' + 1) 0 hlt (by have := HC.out; omega); rw [← HX.out] at a1; omega, rfl⟩
                              go_wp2
                              go_ret
                              exact ⟨⟨1, rfl, hfin.out⟩, rfl⟩
                            · have dv1 : decide (x < 0) = false := decide_eq_false v1
                              by_cases v2 : (H : Int) < x
                              · have dv2 : decide ((H : Int) < x) = true := decide_eq_true v2
                                have hfin : Hid (ChkPile p (H : Int) 1) := .inr ⟨fun ⟨K, e, hp⟩ => by have a1 := hp.bd (i' + 1) 0 hlt (by have := HC.out; omega); rw [← HX.out] at a1; omega, rfl⟩
                                go_wp2
                                go_ret
                                exact ⟨⟨1, rfl, hfin.out⟩, rfl⟩
                              · have dv2 : decide ((H : Int) < x) = false := decide_eq_false v2
                                by_cases v4 : z < x
                                · have dv4 : decide (z < x) = true := decide_eq_true v4
                                  have hfin : Hid (ChkPile p (H : Int) 1) := .inr ⟨fun ⟨K, e, hp⟩ => by have a1 := hp.down i' 0 hlt (by have := HC.out; omega); rw [← HX.out, ← HZ.out] at a1; omega, rfl⟩
                                  go_wp2
                                  go_ret
                                  exact ⟨⟨1, rfl, hfin.out⟩, rfl⟩
                                · have dv4 : decide (z < x) = false := decide_eq_false v4
                                  have hnx := Lib.hid (HROW.out.succ (by rw [← HX.out]; omega) (fun b hb => by omega) (fun a ha => by (rw [show a = i' by omega, ← HX.out, ← HZ.out]; omega)))
                                  go_wp2
                                  go_round
                                  case rel => exact ⟨0 + 1, by omega, by go_num, hnx.out⟩
                                  case measure => simp [intOf]; omega
                        · obtain ⟨j', rfl⟩ : ∃ j', j = j' + 1 := ⟨j - 1, by omega⟩
                          have hcy := getD_cell hri (k := j') (by omega)
                          rw [HENT.out] at hcy
                          have w5 : IntKind.i64.wrap (j' : Int) = j' := IntWalk.i64_in _ (by omega)
                          have x1 : (j' : Int) < (R.length : Int) := by omega
                          have x2 : j' < R.length := by omega
                          have x3 : decide ((0 : Int) < (j' : Int) + 1) = true := decide_eq_true (by omega)
                          have x4 : decide ((j' : Int) + 1 < (R.length : Int)) = true := decide_eq_true (by omega)
                          by_cases hi0 : i = 0
                          · subst hi0
                            obtain ⟨x, hx⟩ : ∃ x, x = ent p 0 (j' + 1) := ⟨_, rfl⟩
                            obtain ⟨y, hy⟩ : ∃ x, x = ent p 0 j' := ⟨_, rfl⟩
                            rw [← hx] at hcx
                            rw [← hy] at hcy
                            have HX := Lib.hid hx
                            have HY := Lib.hid hy
                            clear hx hy
                            by_cases v1 : x < 0
                            · have dv1 : decide (x < 0) = true := decide_eq_true v1
                              have hfin : Hid (ChkPile p (H : Int) 1) := .inr ⟨fun ⟨K, _, hp⟩ => by have a1 := hp.bd 0 (j' + 1) hlt (by have := HC.out; omega); rw [← HX.out] at a1; omega, rfl⟩
                              go_wp2
                              go_ret
                              exact ⟨⟨1, rfl, hfin.out⟩, rfl⟩
                            · have dv1 : decide (x < 0) = false := decide_eq_false v1
                              by_cases v2 : (H : Int) < x
                              · have dv2 : decide ((H : Int) < x) = true := decide_eq_true v2
                                have hfin : Hid (ChkPile p (H : Int) 1) := .inr ⟨fun ⟨K, e, hp⟩ => by have a1 := hp.bd 0 (j' + 1) hlt (by have := HC.out; omega); rw [← HX.out] at a1; omega, rfl⟩
                                go_wp2
                                go_ret
                                exact ⟨⟨1, rfl, hfin.out⟩, rfl⟩
                              · have dv2 : decide ((H : Int) < x) = false := decide_eq_false v2
                                by_cases v3 : y < x
                                · have dv3 : decide (y < x) = true := decide_eq_true v3
                                  have hfin : Hid (ChkPile p (H : Int) 1) := .inr ⟨fun ⟨K, e, hp⟩ => by have a1 := hp.side 0 j' hlt (by have := HC.out; omega); rw [← HX.out, ← HY.out] at a1; omega, rfl⟩
                                  go_wp2
                                  go_ret
                                  exact ⟨⟨1, rfl, hfin.out⟩, rfl⟩
                                · have dv3 : decide (y < x) = false := decide_eq_false v3
                                  have hnx := Lib.hid (HROW.out.succ (by rw [← HX.out]; omega) (fun b hb => by (rw [show b = j' by omega, ← HX.out, ← HY.out]; omega)) (fun a ha => by omega))
                                  go_wp2
                                  go_round
                                  case rel => exact ⟨(j' + 1) + 1, by omega, by go_num, hnx.out⟩
                                  case measure => simp [intOf]; omega
                          · obtain ⟨i', rfl⟩ : ∃ i', i = i' + 1 := ⟨i - 1, by omega⟩
                            obtain ⟨Au, cu, hcu, hru, _⟩ := hr.at_ (r := i') (by omega)
                            have hlu := HG.out.len i' (by omega)
                            rw [hlu] at hcu
                            obtain ⟨b2, o2, rfl, hb2⟩ := hru.addr (by rw [hlu]; omega)
                            have hcz := getD_cell hru (k := (j' + 1)) (by rw [hlu]; omega)
                            rw [show (p.getD i' []).getD (j' + 1) 0 = ent p i' (j' + 1) from rfl] at hcz
                            obtain ⟨x, hx⟩ : ∃ x, x = ent p (i' + 1) (j' + 1) := ⟨_, rfl⟩
                            obtain ⟨z, hz⟩ : ∃ x, x = ent p i' (j' + 1) := ⟨_, rfl⟩
                            obtain ⟨y, hy⟩ : ∃ x, x = ent p (i' + 1) j' := ⟨_, rfl⟩
                            rw [← hx] at hcx
                            rw [← hz] at hcz
                            rw [← hy] at hcy
                            have HX := Lib.hid hx
                            have HZ := Lib.hid hz
                            have HY := Lib.hid hy
                            clear hx hz hlu hy
                            have w4 : IntKind.i64.wrap (i' : Int) = i' := IntWalk.i64_in _ (by omega)
                            have y1 : (i' : Int) < (p.length : Int) := by omega
                            have y2 : i' < p.length := by omega
                            have y3 : decide ((0 : Int) < (i' : Int) + 1) = true := decide_eq_true (by omega)
                            have y4 : j' + 1 < c := by omega
                            have y5 : (j' : Int) + 1 < (c : Int) := by omega
                            by_cases v1 : x < 0
                            · have dv1 : decide (x < 0) = true := decide_eq_true v1
                              have hfin : Hid (ChkPile p (H : Int) 1) := .inr ⟨fun ⟨K, _, hp⟩ => by have a1 := hp.bd (i' + 1) (j' + 1) hlt (by have := HC.out; omega); rw [← HX.out] at a1; omega, rfl⟩
                              go_wp2
                              go_ret
                              exact ⟨⟨1, rfl, hfin.out⟩, rfl⟩
                            · have dv1 : decide (x < 0) = false := decide_eq_false v1
                              by_cases v2 : (H : Int) < x
                              · have dv2 : decide ((H : Int) < x) = true := decide_eq_true v2
                                have hfin : Hid (ChkPile p (H : Int) 1) := .inr ⟨fun ⟨K, e, hp⟩ => by have a1 := hp.bd (i' + 1) (j' + 1) hlt (by have := HC.out; omega); rw [← HX.out] at a1; omega, rfl⟩
                                go_wp2
                                go_ret
                                exact ⟨⟨1, rfl, hfin.out⟩, rfl⟩
                              · have dv2 : decide ((H : Int) < x) = false := decide_eq_false v2
                                by_cases v3 : y < x
                                · have dv3 : decide (y < x) = true := decide_eq_true v3
                                  have hfin : Hid (ChkPile p (H : Int) 1) := .inr ⟨fun ⟨K, e, hp⟩ => by have a1 := hp.side (i' + 1) j' hlt (by have := HC.out; omega); rw [← HX.out, ← HY.out] at a1; omega, rfl⟩
                                  go_wp2
                                  go_ret
                                  exact ⟨⟨1, rfl, hfin.out⟩, rfl⟩
                                · have dv3 : decide (y < x) = false := decide_eq_false v3
                                  by_cases v4 : z < x
                                  · have dv4 : decide (z < x) = true := decide_eq_true v4
                                    have hfin : Hid (ChkPile p (H : Int) 1) := .inr ⟨fun ⟨K, e, hp⟩ => by have a1 := hp.down i' (j' + 1) hlt (by have := HC.out; omega); rw [← HX.out, ← HZ.out] at a1; omega, rfl⟩
                                    go_wp2
                                    go_ret
                                    exact ⟨⟨1, rfl, hfin.out⟩, rfl⟩
                                  · have dv4 : decide (z < x) = false := decide_eq_false v4
                                    have hnx := Lib.hid (HROW.out.succ (by rw [← HX.out]; omega) (fun b hb => by (rw [show b = j' by omega, ← HX.out, ← HY.out]; omega)) (fun a ha => by (rw [show a = i' by omega, ← HX.out, ← HZ.out]; omega)))
                                    go_wp2
                                    go_round
                                    case rel => exact ⟨(j' + 1) + 1, by omega, by go_num, hnx.out⟩
                                    case measure => simp [intOf]; omega
                      · have hRj : ¬ j < R.length := by have := HRC.out; omega
                        have hd5 : decide (j < R.length) = false := decide_eq_false hRj
                        have hjc : Hid (j = c) := by show _ = _; omega
                        have hnx := Lib.hid (HG.out.succ (by rw [← HR.out]; exact HRC.out) (by rw [← hjc.out]; exact HROW.out))
                        go_wp2
                        go_round
                        case rel => exact ⟨i + 1, by omega, by go_num, hnx.out, fun _ => hcb⟩
                        case measure => simp [intOf]; omega
                  · have du3 : ((R.length : Int) != (c : Int)) = true := by simp; omega
                    have hfin : Hid (ChkPile p (H : Int) 1) := .inr ⟨fun ⟨K, _, hp⟩ => by have a1 := hp.rowlen hlt; rw [← HR.out, ← HC.out] at a1; exact u3 a1, rfl⟩
                    go_wp2
                    go_ret
                    exact ⟨⟨1, rfl, hfin.out⟩, rfl⟩
            · have hd1 : decide (i < p.length) = false := decide_eq_false hlt
              obtain rfl : i = p.length := by omega
              have hfin : Hid (ChkPile p (H : Int) 0) := by
                refine .inl ⟨?_, rfl⟩
                have g := HG.out
                have cb := HCB.out (by omega)
                rw [HC.out] at g cb
                exact g.pile (by omega) cb (by omega)
              go_wp2
              go_ret
              exact ⟨⟨0, rfl, hfin.out⟩, rfl⟩

end Go.Proofs.Ytdmpbbgcifodeaa
