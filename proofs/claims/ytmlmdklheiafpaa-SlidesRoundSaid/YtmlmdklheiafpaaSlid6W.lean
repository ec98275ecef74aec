/-
  slides.Slide: what it answers.
-/
import Derived.Test.YtmlmdklheiafpaaSlid5W
namespace Go.Proofs.Ytmlmdklheiafpaa
open Go.RowKit

theorem Corner.start {T : List (List Int)} {k : Nat} (h : SkOk T) (hc : Corner T k) : hol (T.getD k []) - 1 < rl T k ∧ cell T k (hol (T.getD k []) - 1) = 0 ∧ (∀ q, hol (T.getD k []) - 1 < q → q < rl T k → 0 < cell T k q) ∧ (∀ i', k < i' → hol (T.getD k []) - 1 < rl T i' → 0 < cell T i' (hol (T.getD k []) - 1)) := by
  obtain ⟨h1, h2, h3⟩ := hc
  have hk := h.sk.1
  have hle := hol_le (T.getD k [])
  refine ⟨by unfold rl; omega, hol_zero (by omega), fun q h4 h5 => ?_, fun i' h4 h5 => ?_⟩
  · have h6 := hk.nn k q h5
    have h7 : ¬ cell T k q = 0 := fun e => by have := (hk.zhol k h5).1 e; omega
    omega
  · have hi' := rl_in h5
    have h3' : hol (T.getD (k + 1) []) < hol (T.getD k []) := by
      rcases h3 with e | e
      · omega
      · exact e
    have h6 := hk.nn i' _ h5
    have h8 : hol (T.getD k []) - 1 < rl T (k + 1) := by have := hk.lens (k + 1) i' (by omega); omega
    have h9 := hk.nn (k + 1) _ h8
    have h7 : ¬ cell T i' (hol (T.getD k []) - 1) = 0 := fun e => by
      have h10 : cell T (k + 1) (hol (T.getD k []) - 1) = 0 := by
        by_cases e2 : i' = k + 1
        · rw [← e2]; exact e
        · rcases hk.col (k + 1) i' _ (by omega) h5 with h11 | h11
          · omega
          · exact h11.1
      have := (hk.zhol (k + 1) h8).1 h10
      omega
    omega
/-- What slides.Slide answers. -/
def SlideOut (e : Ending) (w : World) (T : List (List Int)) : Prop := ∃ (k row : Int) (rows : List (List Int)) (A' : Option Addr) (c' : Nat), e = .returned (.tuple #[.slice A' rows.length c', .int .i64 row, .int .i64 k]) ∧ SR w w.heap.size A' rows ∧ rows.length ≤ 9223372036854775807 ∧ (k = 0 → SkOk rows ∧ Kn (sword T) (sword rows))
theorem slide_own {w : World} {B : Nat} {v : Value} {hs : List Value} {rows T : List (List Int)} {I J i j : Nat} (h : OwnM w B v hs rows) (hok : SkOk T) (hc : Corner T I) (hJ : J = hol (T.getD I []) - 1) (hs : Slid T I J rows i j) (row : Int) : SlideOut (.returned (.tuple #[v, .int .i64 row, .int .i64 0])) w T := by
  obtain ⟨A, c, rfl, hs', h1, h2⟩ := h.sr
  obtain ⟨s1, s2, s3, s4⟩ := hc.start hok
  subst hJ
  obtain ⟨p1, p2, _, _⟩ := hok.slide s1 s2 s3 s4 hs
  exact ⟨0, row, rows, A, c, rfl, hs', by omega, fun _ => ⟨p1, p2⟩⟩

set_option maxRecDepth 100000 in
set_option maxHeartbeats 1000000 in
theorem slide_any (A : Option Addr) (cap : Nat) (T : List (List Int)) (z : Int) (w : World) (hT : T.length ≤ 9223372036854775807) (h : SR w w.heap.size A T) :
    Calls Try.prog 54 #[.slice A T.length cap, .int .i64 z] w fun e w' => SlideOut e w' T ∧ Below w.heap.size w w' := by
  go_enter Try.func54, Try.ntmps54
  go_wp2_with (first | (go_at_call 76; refine (scheck_any A cap T _ hT h).mono ?_) | fail)
  rintro e w1 ⟨⟨k, rfl, hk1, hk2⟩, hb1⟩
  by_cases hk0 : k = 0
  · have hok := hk1 hk0
    have hT4 := hok.small.1
    have hT5 := hok.small.2
    have h1 := h.now hb1 (Nat.le_refl _)
    have HOK := Lib.hid hok
    subst hk0
    clear hk1 hk2 hok h
    go_wp2_with (first | (go_at_call 80; refine (corner_any A cap T z _ (by omega) (fun i => by have := hT5 i; omega) h1).mono ?_) | fail)
    rintro e w2 ⟨⟨b, rfl, hbc⟩, hb2⟩
    have h2 := h1.now hb2 (Nat.le_refl _)
    have hW2 : Below w.heap.size w w2 := hb1.trans (hb2.mono hb1.size)
    have HBC := Lib.hid hbc
    have HW2 := Lib.hid hW2
    clear hbc h1 hb1 hb2
    cases b with
    | false =>
      go_wp2
      go_ret3
      exact ⟨⟨5, 0, [], none, 0, rfl, SR.nil _ _ _, by simp, fun e => absurd e (by decide)⟩, HW2.out⟩
    | true =>
      obtain ⟨k, rfl, hc⟩ := HBC.out rfl
      have hst := hc.start HOK.out
      obtain ⟨hcfg, hput⟩ := Cfg.start HOK.out.sk.1 hst.1 hst.2.1 hst.2.2.1 hst.2.2.2
      have hkT := hc.1
      have hk40 : k ≤ 40 := by omega
      obtain ⟨b, o, rfl, hb⟩ := h2.addr (by omega)
      obtain ⟨Ar, cr, hcl, hr, hrl⟩ := h2.at_ hkT
      have hx40 : hol (T.getD k []) ≤ 40 := Nat.le_trans (hol_le _) (hT5 k)
      have hxp := hc.2.1
      have hst2 := hst.1
      unfold rl at hst2
      obtain ⟨x, hx⟩ : ∃ x, x + 1 = hol (T.getD k []) := ⟨hol (T.getD k []) - 1, by omega⟩
      have hxe : hol (T.getD k []) - 1 = x := by omega
      rw [hxe] at hcfg hst2
      have HC := Lib.hid hc
      have HX := Lib.hid hx
      have HXE := Lib.hid hxe
      have HR := Lib.hid hr
      have HSR := Lib.hid h2
      have HCFG := Lib.hid hcfg
      have hx39 : x ≤ 40 := by omega
      have hq0 : 0 < (T.getD k []).length := by omega
      obtain ⟨g, p, rfl, hg⟩ := hr.addr hq0
      have hca := fun (w' : World) (hw' : Below w2.heap.size w2 w') => holes_any (some ⟨g, p, none⟩) cr (T.getD k []) w' hrl (HR.out.below hw')
      rw [← hx] at hca
      have HCA := Lib.hid hca
      obtain ⟨q, hq⟩ : ∃ q, q = (T.getD k []).length := ⟨_, rfl⟩
      rw [← hq] at hcl HCA
      clear hst hput hxe hc hx hr h2 hcfg hca hq hrl hq0 hst2 hx40 hxp HBC
      have e1 : T.length < 1000000 := by omega
      have e2 : ∀ i, (T.getD i []).length < 1000000 := fun i => by have := hT5 i; omega
      have e3 : T.length ≤ 1000 := by omega
      have e4 : ∀ a, rl T a ≤ 1000 := fun a => Nat.le_trans (hT5 a) (by omega)
      have hsd : SR w2.drew w2.drew.heap.size (some ⟨b, o, none⟩) T := HSR.out.below (below_drewN (Below.refl _ _) 1)
      have hw1 : IntKind.i64.wrap (x : Int) = (x : Int) := IntWalk.i64_in _ (by omega)
      go_wp2
      go_region_held3 (fun w' => w'.cell? ⟨b, o + k, none⟩ = some (.slice (some ⟨g, p, none⟩) q cr))
        (first
          | (refine hcf.trans ?_; assumption)
          | (exact hcl)
          | go_keep)
        (first
          | (go_at_call 75; refine (stwin_any (some ⟨b, o, none⟩) cap T _ e1 e2 hsd).mono ?_; rintro e w4 ⟨⟨v, hs, rfl, hm⟩, hb4⟩; have hcf := hb4.cell (p := ⟨b, o + k, none⟩) hb; have HM := Lib.hid hm; have HB4 := Lib.hid hb4; clear hm hb4)
          | (go_at_call 77; refine (HCA.out _ ?_).mono ?_; (· first | exact below_drewN (Below.refl _ _) 1 | exact (below_drewN (Below.refl _ _) 1).trans HB4.out); rintro e w5 ⟨rfl, hw5⟩; obtain rfl := hw5.symm)
          | (go_at_call 74; refine (slid_any v hs T k x _ HB4.out.size HM.out HCFG.out e3 e4).mono ?_; rintro e w6 ⟨⟨v6, hs6, out, i, j, rfl, hm6, hsl, hfr, hft⟩, hb6⟩; have HS6 := Lib.hid (slide_own hm6 HOK.out HC.out HXE.out.symm hsl (i : Int)); have hcf := hb6.cell (p := ⟨b, o + k, none⟩) hb; have HB6 := Lib.hid hb6; clear hm6 hsl hfr hft hb6)
          | fail)
      clear hw1
      go_wp2
      go_ret3
      exact ⟨HS6.out, (below_drewN HW2.out 1).trans ((HB4.out.trans HB6.out).mono HW2.out.size)⟩
  · have dk : (k != 0) = true := by simpa using hk0
    have HK0 := Lib.hid hk0
    clear hk1 hk2
    go_wp2
    go_ret3
    exact ⟨⟨k, 0, [], none, 0, rfl, SR.nil _ _ _, by simp, fun e => absurd e HK0.out⟩, hb1⟩
end Go.Proofs.Ytmlmdklheiafpaa
