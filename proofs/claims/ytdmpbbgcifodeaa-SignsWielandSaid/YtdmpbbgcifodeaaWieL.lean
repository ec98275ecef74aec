/-
  signs.Links: what it answers; what the law asks of two answers.
-/
import Derived.Test.YtdmpbbgcifodeaaLinksW
import Derived.Test.YtdmpbbgcifodeaaLoopsW
namespace Go.Proofs.Ytdmpbbgcifodeaa
open Go.RowKit

def LinksOut (m : List (List Int)) (e : Ending) (w' : World) : Prop :=
  (SignOk m ∧ ∃ A c f, e = .returned (.tuple #[.slice A (2 * m.length) c, .int .i64 0]) ∧ LinkOk m.length (lpC m) f ∧ Sl w' w'.heap.size A (ints (tab (2 * m.length) f))) ∨ (¬ SignOk m ∧ e = .returned (.tuple #[.slice none 0 0, .int .i64 1]))

set_option maxRecDepth 100000 in
set_option maxHeartbeats 2000000 in
theorem linksF_any (A : Option Addr) (cap : Nat) (m : List (List Int)) (w : World) (hcl : m.length ≤ 9223372036854775807) (h : SR w w.heap.size A m) :
    Calls Try.prog 20 #[.slice A m.length cap] w fun e w' => LinksOut m e w' ∧ Below w.heap.size w w' := by
  go_enter Try.func20, Try.ntmps20
  go_wp2_with fail
  refine (scheck_any A cap m w hcl h).mono ?_
  rintro e w1 ⟨⟨k, rfl, hk⟩, hb1⟩
  rcases hk with ⟨hok, rfl⟩ | ⟨hno, rfl⟩
  · have HLO := Lib.hid (loops_any A cap m w1 hok (h.keep hb1))
    have HOK := Lib.hid hok
    have HB1 := Lib.hid hb1
    clear hok hb1 h
    go_wp2_with (first | (go_at_call 65; refine HLO.out.mono ?_) | fail)
    rintro e w2 hout
    obtain ⟨K, hKn, he, hA, hD, hall, hb2⟩ := hout
    have he2 : e = .returned (.agg #[.slice (some ⟨K.gA, 0, none⟩) m.length m.length, .slice (some ⟨K.gD, 0, none⟩) (m.length + 1) (m.length + 1)]) := by rw [← hKn]; exact he
    clear he
    subst he2
    have hp := HOK.out.2.pos
    have hlr := hall.lr (X := lpC m) (by omega) (by rw [hKn]; exact hA) (by rw [hKn]; exact hD)
    rw [hKn] at hlr
    have HLK := Lib.hid (links_any K.gA K.gD m.length (lpC m) w2 HOK.out.1 (lp_gdl HOK.out.2) hlr)
    have hW2 := below_call HB1.out (Nat.le_refl _) hb2
    clear hlr hall hA hD hb2 HLO
    go_wp2_with (first | (go_at_call 66; refine HLK.out.mono ?_) | fail)
    rintro e w3 ⟨⟨A3, c3, f, rfl, hf, hs⟩, hb3⟩
    have hfin : Hid (LinksOut m (.returned (.tuple #[.slice A3 (2 * m.length) c3, .int .i64 0])) w3 ∧ Below w.heap.size w w3) := ⟨.inl ⟨HOK.out, A3, c3, f, rfl, hf, hs⟩, below_call hW2 (Nat.le_refl _) hb3⟩
    clear hf hs hb3 hW2 HLK
    go_wp2
    go_ret2
    exact hfin.out
  · have hfin : Hid (LinksOut m (.returned (.tuple #[.slice none 0 0, .int .i64 1])) w1) := .inr ⟨hno, rfl⟩
    clear hno h
    go_wp2
    go_ret2
    exact ⟨hfin.out, hb1⟩

/-- Two numbers of lines, one back. -/
theorem back_two {n : Nat} {i : Int} (hn : 1 ≤ n) (h0 : 0 ≤ i) (h2 : i < 2 * n) : (2 * i + 4 * (n : Int) - 2) % (4 * (n : Int)) = 2 * ((i + 2 * (n : Int) - 1) % (2 * (n : Int))) ∧ 0 ≤ (i + 2 * (n : Int) - 1) % (2 * (n : Int)) ∧ (i + 2 * (n : Int) - 1) % (2 * (n : Int)) < 2 * n := by
  by_cases c : i = 0
  · subst c
    rw [Int.emod_eq_of_lt (by omega) (by omega), Int.emod_eq_of_lt (by omega) (by omega)]
    omega
  · rw [show 2 * i + 4 * (n : Int) - 2 = (2 * i - 2) + (4 * (n : Int)) * 1 by omega, Int.add_mul_emod_self_left, Int.emod_eq_of_lt (by omega) (by omega),
      show i + 2 * (n : Int) - 1 = (i - 1) + (2 * (n : Int)) * 1 by omega, Int.add_mul_emod_self_left, Int.emod_eq_of_lt (by omega) (by omega)]
    omega
/-- WIELAND'S, of two answers. -/
theorem wie_all {m : List (List Int)} (h : IsSign m m.length) {f g : Nat → Int} (hf : LinkOk m.length (lpC m) f) (hg : LinkOk m.length (lpC (gyrM m)) g) {i : Nat} (hi : i < 2 * m.length) :
    ∃ x a b : Nat, f i = x ∧ x < 2 * m.length ∧ x ≠ i ∧ f x = i ∧ ((i : Int) + 2 * (m.length : Int) - 1) % (2 * (m.length : Int)) = a ∧ a < 2 * m.length ∧ g a = b ∧ ((x : Int) + 2 * (m.length : Int) - 1) % (2 * (m.length : Int)) = b := by
  have hn := h.pos
  have hX := lp_gdl h
  obtain ⟨x0, x1, hl⟩ := hf i hi
  obtain ⟨x, hx⟩ : ∃ x : Nat, f i = x := ⟨(f i).toNat, by omega⟩
  rw [hx] at x0 x1 hl
  have hne := hl.ne hX (by omega) (by omega) (by omega)
  have hsy := hl.symm hX (by omega) (by omega) (by omega)
  obtain ⟨_, _, hl2⟩ := hf x (by omega)
  have e1 := hl2.one hsy
  have hgy := gyrM_lnk h (k := 2 * (i : Int)) (by omega) (by omega) (by omega) hl
  obtain ⟨t1, t2, t3⟩ := back_two (n := m.length) (i := i) hn (by omega) (by omega)
  obtain ⟨s1, s2, s3⟩ := back_two (n := m.length) (i := x) hn (by omega) (by omega)
  rw [t1, s1] at hgy
  obtain ⟨a, ha⟩ : ∃ a : Nat, ((i : Int) + 2 * (m.length : Int) - 1) % (2 * (m.length : Int)) = a := ⟨_, (Int.toNat_of_nonneg t2).symm⟩
  obtain ⟨b, hb⟩ : ∃ b : Nat, ((x : Int) + 2 * (m.length : Int) - 1) % (2 * (m.length : Int)) = b := ⟨_, (Int.toNat_of_nonneg s2).symm⟩
  rw [ha, hb] at hgy
  rw [ha] at t3
  obtain ⟨_, _, hl3⟩ := hg a (by omega)
  have e2 := hl3.one hgy
  exact ⟨x, a, b, hx, by omega, by omega, by omega, ha, by omega, by omega, hb⟩
/-- Of one box. -/
theorem wie_one {f : Nat → Int} (hf : LinkOk 1 (lpC [[1]]) f) (h : IsSign [[1]] 1) : tab (2 * 1) f = [1, 0] := by
  have hX := lp_gdl h
  obtain ⟨a0, a1, ha⟩ := hf 0 (by omega)
  obtain ⟨b0, b1, hb⟩ := hf 1 (by omega)
  have n1 := ha.ne hX (by omega) (by omega) (by omega)
  have n2 := hb.ne hX (by omega) (by omega) (by omega)
  have e0 : f 0 = 1 := by omega
  have e1 : f 1 = 0 := by omega
  show [f 0, f 1] = [1, 0]
  rw [e0, e1]
end Go.Proofs.Ytdmpbbgcifodeaa
