/-
  slides.Rectify: what it answers.
-/
import Derived.Test.YtmlmdklheiafpaaSlid6W
import Derived.Deep.LoopGhost
namespace Go.Proofs.Ytmlmdklheiafpaa
open Go.RowKit

theorem OwnM.low {w : World} {B B' : Nat} {v : Value} {hs : List Value} {rows : List (List Int)} (h : OwnM w B v hs rows) (hB : B' ≤ B) : OwnM w B' v hs rows := ⟨h.len, h.out.mono hB, fun r hr => (h.inn r hr).mono hB, h.far, h.top⟩
/-- What slides.Rectify answers. -/
def RectOut (e : Ending) (w : World) (T : List (List Int)) : Prop := ∃ (k : Int) (rows : List (List Int)) (A' : Option Addr) (c' : Nat), e = .returned (.tuple #[.slice A' rows.length c', .int .i64 k]) ∧ SR w w.heap.size A' rows ∧ rows.length ≤ 9223372036854775807 ∧ (k = 0 → SkOk T ∧ rows = insW [] (sword T)) ∧ (SkOk T → k = 0) ∧ (k ≠ 0 → rows = [])
theorem rect_own {w : World} {B : Nat} {v : Value} {hs : List Value} {rows T : List (List Int)} (h : OwnM w B v hs rows) (hT : SkOk T) (hok : SkOk rows) (hk : Kn (sword T) (sword rows)) (h0 : ∀ i j, ¬ Zero rows i j) : RectOut (.returned (.tuple #[v, .int .i64 0])) w T := by
  obtain ⟨A, c, rfl, hs', h1, h2⟩ := h.sr
  exact ⟨0, rows, A, c, rfl, hs', by omega, fun _ => ⟨hT, hok.done hk h0⟩, fun _ => rfl, fun e => absurd rfl e⟩
/-- On the way: rows below m have no holes. -/
structure Recting (T t : List (List Int)) (m : Nat) : Prop where
  ok : SkOk t
  kn : Kn (sword T) (sword t)
  no : ∀ a b, m ≤ a → ¬ Zero t a b
theorem Recting.start {T : List (List Int)} (h : SkOk T) : Recting T T T.length := ⟨h, .refl _, fun a b ha hz => by have := rl_in hz.1; omega⟩
theorem Recting.corner {T t : List (List Int)} {k : Nat} (h : Recting T t (k + 1)) (hk : k < t.length) (h0 : 0 < hol (t.getD k [])) : Corner t k := by
  refine ⟨hk, h0, ?_⟩
  by_cases e : k + 1 = t.length
  · exact .inl e
  · refine .inr ?_
    have : hol (t.getD (k + 1) []) = 0 := by
      apply Classical.byContradiction
      intro hn
      have h1 := hol_le (t.getD (k + 1) [])
      exact h.no (k + 1) 0 (Nat.le_refl _) ⟨by unfold rl; omega, hol_zero (by omega)⟩
    omega
theorem Recting.slide {T t out : List (List Int)} {k x i j : Nat} (h : Recting T t (k + 1)) (hc : Corner t k) (hx : hol (t.getD k []) - 1 = x) (hs : Slid t k x out i j) : Recting T out (k + 1) ∧ boxes out + 1 = boxes t := by
  obtain ⟨s1, s2, s3, s4⟩ := hc.start h.ok
  subst hx
  obtain ⟨p1, p2, p3, p4⟩ := h.ok.slide s1 s2 s3 s4 hs
  exact ⟨⟨p1, h.kn.trans p2, fun a b ha hz => h.no a b ha ((p3 a b).1 hz).1⟩, p4⟩
theorem Recting.next {T t : List (List Int)} {k : Nat} (h : Recting T t (k + 1)) (h0 : k < t.length → hol (t.getD k []) = 0) : Recting T t k := by
  refine ⟨h.ok, h.kn, fun a b ha hz => ?_⟩
  by_cases e : a = k
  · subst e
    have h1 := h0 (rl_in hz.1)
    have := (h.ok.sk.1.zhol a hz.1).1 hz.2
    omega
  · exact h.no a b (by omega) hz
theorem Recting.cfg {T t : List (List Int)} {k x : Nat} (h : Recting T t (k + 1)) (hc : Corner t k) (hx : hol (t.getD k []) - 1 = x) : Cfg t k x := by
  have hst := hc.start h.ok
  subst hx
  exact (Cfg.start h.ok.sk.1 hst.1 hst.2.1 hst.2.2.1 hst.2.2.2).1

set_option maxRecDepth 100000 in
set_option maxHeartbeats 1000000 in
theorem rectify_any (A : Option Addr) (cap : Nat) (T : List (List Int)) (w : World) (hT : T.length ≤ 9223372036854775807) (h : SR w w.heap.size A T) :
    Calls Try.prog 51 #[.slice A T.length cap] w fun e w' => RectOut e w' T ∧ Below w.heap.size w w' := by
  go_enter Try.func51, Try.ntmps51
  go_wp2_with (first | (go_at_call 76; refine (scheck_any A cap T _ hT h).mono ?_) | fail)
  rintro e w1 ⟨⟨k, rfl, hk1, hk2⟩, hb1⟩
  by_cases hk0 : k = 0
  · have hok := hk1 hk0
    have hT4 := hok.small.1
    have hT5 := hok.small.2
    have h1 := h.now hb1 (Nat.le_refl _)
    have HOK := Lib.hid hok
    have e1 : T.length < 1000000 := by omega
    have e2 : ∀ i, (T.getD i []).length < 1000000 := fun i => by have := hT5 i; omega
    subst hk0
    clear hk1 hk2 hok h
    go_wp2_with (first | (go_at_call 75; refine (stwin_any A cap T _ e1 e2 h1).mono ?_) | fail)
    rintro e w2 ⟨⟨v, hs, rfl, hm⟩, hb2⟩
    obtain ⟨A2, c2, rfl, -, -, -⟩ := hm.sr
    have hW2 : Below w.heap.size w w2 := hb1.trans (hb2.mono hb1.size)
    have HM := Lib.hid (hm.low hb1.size)
    have HW2 := Lib.hid hW2
    have HST := Lib.hid (Recting.start HOK.out)
    clear hm hb1 hb2 h1 e1 e2 hT5
    go_wp2
    go_loopw [5, 6] (fun tv iv wr => ∃ (m : Nat) (z : Int) (t : List (List Int)) (hs : List Value) (A5 : Option Addr) (c5 : Nat), m ≤ 40 ∧ iv = .int .i64 z ∧ z + 1 = (m : Int) ∧ tv = .slice A5 t.length c5 ∧ Recting T t m ∧ OwnM wr w.heap.size (.slice A5 t.length c5) hs t ∧ Below w.heap.size w wr) (fun _ iv _ => (Go.RowKit.intOf iv + 1).toNat)
    case atStart => exact ⟨T.length, (T.length : Int) - 1, T, hs, A2, c2, by omega, rfl, by omega, rfl, HST.out, HM.out, HW2.out⟩
    case round =>
      clear HM HW2 HST
      obtain ⟨m, z, t, hs, A5, c5, hm40, rfl, hz, rfl, hrec, hm, hW⟩ := hrel
      have HREC := Lib.hid hrec
      have HM := Lib.hid hm
      have HW := Lib.hid hW
      clear hrec hm hW
      by_cases hz0 : 0 ≤ z
      · obtain ⟨i, rfl⟩ : ∃ i : Nat, z = i := ⟨z.toNat, by omega⟩
        have him : m = i + 1 := by omega
        subst him
        have di : decide ((0 : Int) ≤ (i : Int)) = true := decide_eq_true hz0
        go_wp2
        go_loopg [5] (boxes t) (fun gn tv wx => ∃ (t : List (List Int)) (hs : List Value) (A5 : Option Addr) (c5 : Nat), gn = boxes t ∧ tv = .slice A5 t.length c5 ∧ Recting T t (i + 1) ∧ OwnM wx w.heap.size (.slice A5 t.length c5) hs t ∧ Below w.heap.size w wx)
        case atStart => exact ⟨t, hs, A5, c5, rfl, rfl, HREC.out, HM.out, HW.out⟩
        case round =>
          clear HREC HM HW
          obtain ⟨t, hs, A5, c5, hgn, rfl, hrec, hm, hW⟩ := hrel
          have HREC := Lib.hid hrec
          have HGN := Lib.hid hgn
          have HW := Lib.hid hW
          have HM := Lib.hid hm
          have hB := hW.size
          obtain ⟨A6, c6, e6, hsr, hl6, hc6⟩ := hm.sr
          obtain ⟨rfl, rfl⟩ : A5 = A6 ∧ c5 = c6 := by injection e6 with g1 _ g3; exact ⟨g1, g3⟩
          have ht40 := hrec.ok.small.1
          have ht5 := hrec.ok.small.2
          by_cases hit : i < t.length
          · have dt : decide ((i : Int) < (t.length : Int)) = true := decide_eq_true (by omega)
            obtain ⟨b, o, rfl, hb⟩ := hsr.addr (by omega)
            obtain ⟨Ar, cr, hcl, hr, hrl⟩ := hsr.at_ hit
            have hca := holes_any Ar cr (t.getD i []) wr hrl hr
            have hx40 : hol (t.getD i []) ≤ 40 := Nat.le_trans (hol_le _) (ht5 i)
            have hcorner := hrec.corner hit
            have hnext := hrec.next (k := i)
            obtain ⟨x1, hx1⟩ : ∃ x1, x1 = hol (t.getD i []) := ⟨_, rfl⟩
            rw [← hx1] at hca hx40 hcorner hnext
            have HX1 := Lib.hid hx1
            have HCA := Lib.hid hca
            have HCO := Lib.hid hcorner
            have HNX := Lib.hid hnext
            have hr5 : ∀ a, rl t a ≤ 1000 := fun a => Nat.le_trans (ht5 a) (by omega)
            obtain ⟨q, hq⟩ : ∃ q, q = (t.getD i []).length := ⟨_, rfl⟩
            rw [← hq] at hcl HCA
            have HR5 := Lib.hid hr5
            clear hrec hgn hm hW hsr hr hrl hca hcorner hnext hx1 hq ht5 hr5 e6
            by_cases hx0 : 0 < x1
            · have dx : decide ((0 : Int) < (x1 : Int)) = true := decide_eq_true (by omega)
              obtain ⟨x, rfl⟩ : ∃ x, x1 = x + 1 := ⟨x1 - 1, by omega⟩
              have hco := HCO.out hx0
              have hxe : hol (t.getD i []) - 1 = x := by have := HX1.out; omega
              have hcfg := HREC.out.cfg hco hxe
              have HC1 := Lib.hid hco
              have HXE := Lib.hid hxe
              have HCFG := Lib.hid hcfg
              have e3 : t.length ≤ 1000 := by omega
              have e4 : (((x + 1 : Nat) : Int) - 1) = (x : Int) := by omega
              have E4 := Lib.hid e4
              clear hco hxe hcfg e4
              go_wp2_with (first | (go_at_call 77; refine (HCA.out).mono ?_) | fail)
              rintro e w4 ⟨rfl, hw4⟩
              obtain rfl := hw4.symm
              go_wp2_with (first | (go_at_call 77; refine (HCA.out).mono ?_) | fail)
              rintro e w4 ⟨rfl, hw4⟩
              obtain rfl := hw4.symm
              have hw1 : IntKind.i64.wrap (x : Int) = (x : Int) := IntWalk.i64_in _ (by omega)
              go_wp2_with (first | (go_at_call 74; refine (slid_any _ hs t i x _ hB HM.out HCFG.out e3 HR5.out).mono ?_) | fail)
              rintro e w6 ⟨⟨v6, hs6, out, i6, j6, rfl, hm6, hsl, hfr, hft⟩, hb6⟩
              obtain ⟨A6, c6, rfl, -, -, -⟩ := hm6.sr
              obtain ⟨hrn, hbx⟩ := HREC.out.slide HC1.out HXE.out hsl
              have HRN := Lib.hid hrn
              have HBX := Lib.hid hbx
              have HM6 := Lib.hid hm6
              have hW6 := Lib.hid (HW.out.trans hb6)
              clear hrn hbx hm6 hsl hfr hft hb6 hw1
              go_wp2
              go_roundg (gk - 1)
              case rel => exact ⟨out, hs6, A6, c6, by have := HBX.out; have := HGN.out; omega, rfl, HRN.out, HM6.out, hW6.out⟩
              case measure => have := HBX.out; have := HGN.out; omega
            · have dx : decide ((0 : Int) < (x1 : Int)) = false := decide_eq_false (by omega)
              have hnx := HNX.out (fun _ => by omega)
              have HN := Lib.hid hnx
              clear hnx
              go_wp2_with (first | (go_at_call 77; refine (HCA.out).mono ?_) | fail)
              rintro e w4 ⟨rfl, hw4⟩
              obtain rfl := hw4.symm
              go_wp2
              go_roundw
              case rel => exact ⟨i, (i : Int) - 1, t, hs, _, c5, by omega, rfl, by omega, rfl, HN.out, HM.out, HW.out⟩
              case measure => simp [Go.RowKit.intOf]
          · have dt : decide ((i : Int) < (t.length : Int)) = false := decide_eq_false (by omega)
            have hnx := hrec.next (fun hh => absurd hh hit)
            have HN := Lib.hid hnx
            clear hnx hrec hgn hm hW hsr
            go_wp2
            go_roundw
            case rel => exact ⟨i, (i : Int) - 1, t, hs, _, c5, by omega, rfl, by omega, rfl, HN.out, HM.out, HW.out⟩
            case measure => simp [Go.RowKit.intOf]
      · have di : decide ((0 : Int) ≤ z) = false := decide_eq_false hz0
        have hm0 : m = 0 := by omega
        subst hm0
        have hfin := rect_own HM.out HOK.out HREC.out.ok HREC.out.kn (fun i j => HREC.out.no i j (Nat.zero_le _))
        have HFIN := Lib.hid hfin
        clear hfin
        go_wp2
        go_ret2
        exact ⟨HFIN.out, HW.out⟩
  · have dk : (k != 0) = true := by simpa using hk0
    have hno : Hid (¬ SkOk T) := fun hh => hk0 (hk2 hh)
    have HK0 := Lib.hid hk0
    clear hk1 hk2
    go_wp2
    go_ret2
    exact ⟨⟨k, [], none, 0, rfl, SR.nil _ _ _, by simp, fun e => absurd e HK0.out, fun e => absurd e hno.out, fun _ => rfl⟩, hb1⟩
end Go.Proofs.Ytmlmdklheiafpaa
