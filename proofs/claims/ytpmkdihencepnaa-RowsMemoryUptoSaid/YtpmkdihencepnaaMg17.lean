/-
  slides.Rectify: what it answers.
-/
import Derived.Deep.LoopGhost
import Derived.Deep.QuietTactic
import Derived.BigQuiet
import Derived.Test.YtpmkdihencepnaaMg07
import Derived.Test.YtpmkdihencepnaaMg14
import Derived.Test.YtpmkdihencepnaaMg16
namespace Go.Proofs.Ytpmkdihencepnaa
open Go.RowKit

theorem OwnM.low {w : World} {B B' : Nat} {v : Value} {hs : List Value} {rows : List (List Int)} (h : OwnM w B v hs rows) (hB : B' ≤ B) : OwnM w B' v hs rows := ⟨h.len, h.out.mono hB, fun r hr => (h.inn r hr).mono hB, h.far, h.top⟩
/-- What slides.Rectify answers. -/
def RectOut (B : Nat) (e : Ending) (w : World) (T : List (List Int)) : Prop := ∃ (k : Int) (rows : List (List Int)) (A' : Option Addr) (c' : Nat), e = .returned (.tuple #[.slice A' rows.length c', .int .i64 k]) ∧ OwnR w B A' c' rows ∧ rows.length ≤ 9223372036854775807 ∧ (k = 0 → SkOk T ∧ rows = insW [] (sword T)) ∧ (SkOk T → k = 0) ∧ (k ≠ 0 → rows = [])
theorem rect_own {w : World} {B : Nat} {v : Value} {hs : List Value} {rows T : List (List Int)} (h : OwnM w B v hs rows) (hT : SkOk T) (hok : SkOk rows) (hk : Kn (sword T) (sword rows)) (h0 : ∀ i j, ¬ Zero rows i j) : RectOut B (.returned (.tuple #[v, .int .i64 0])) w T := by
  obtain ⟨A, c, rfl, hs', h1, h2⟩ := h.ownR
  exact ⟨0, rows, A, c, rfl, hs', by omega, fun _ => ⟨hT, hok.done hk h0⟩, fun _ => rfl, fun e => absurd rfl e⟩
/-- On the way: rows below m have no holes. -/
structure Recting (T t : List (List Int)) (m : Nat) : Prop where
  ok : SkOk t
  kn : Kn (sword T) (sword t)
  no : ∀ a b, m ≤ a → ¬ Zero t a b
theorem Recting.start {T : List (List Int)} (h : SkOk T) : Recting T T T.length := ⟨h, .refl _, fun a b ha hz => by have := rl_in hz.1; omega⟩
theorem Recting.corner {T t : List (List Int)} {k : Nat} (h : Recting T t (k + 1)) (hk : k < t.length) (h0 : 0 < hol (t.getD k [])) : Corner t k := by
  refine ⟨hk, h0, ?_⟩
  by_cases e : k + 1 = t.length
  · exact .inl e
  · refine .inr ?_
    have : hol (t.getD (k + 1) []) = 0 := by
      apply Classical.byContradiction
      intro hn
      have h1 := hol_le (t.getD (k + 1) [])
      exact h.no (k + 1) 0 (Nat.le_refl _) ⟨by unfold rl; omega, hol_zero (by omega)⟩
    omega
theorem Recting.slide {T t out : List (List Int)} {k x i j : Nat} (h : Recting T t (k + 1)) (hc : Corner t k) (hx : hol (t.getD k []) - 1 = x) (hs : Slid t k x out i j) : Recting T out (k + 1) ∧ boxes out + 1 = boxes t := by
  obtain ⟨s1, s2, s3, s4⟩ := hc.start h.ok
  subst hx
  obtain ⟨p1, p2, p3, p4⟩ := h.ok.slide s1 s2 s3 s4 hs
  exact ⟨⟨p1, h.kn.trans p2, fun a b ha hz => h.no a b ha ((p3 a b).1 hz).1⟩, p4⟩
theorem Recting.next {T t : List (List Int)} {k : Nat} (h : Recting T t (k + 1)) (h0 : k < t.length → hol (t.getD k []) = 0) : Recting T t k := by
  refine ⟨h.ok, h.kn, fun a b ha hz => ?_⟩
  by_cases e : a = k
  · subst e
    have h1 := h0 (rl_in hz.1)
    have := (h.ok.sk.1.zhol a hz.1).1 hz.2
    omega
  · exact h.no a b (by omega) hz
theorem Recting.cfg {T t : List (List Int)} {k x : Nat} (h : Recting T t (k + 1)) (hc : Corner t k) (hx : hol (t.getD k []) - 1 = x) : Cfg t k x := by
  have hst := hc.start h.ok
  subst hx
  exact (Cfg.start h.ok.sk.1 hst.1 hst.2.1 hst.2.2.1 hst.2.2.2).1

set_option maxRecDepth 100000 in
set_option maxHeartbeats 1000000 in
theorem rectify_any (A : Option Addr) (cap : Nat) (T : List (List Int)) (w : World) (hT : T.length ≤ 9223372036854775807) (h : SR w w.heap.size A T) :
    Calls Try.prog 11 #[.slice A T.length cap] w fun e w' => RectOut w.heap.size e w' T ∧ Below w.heap.size w w' := by
  go_enter Try.func11, Try.ntmps11
  go_wp2_with (first | (go_at_call 46; refine (scheck_any A cap T _ hT h).mono ?_) | fail)
  rintro e w1 ⟨⟨k, rfl, hk1, hk2⟩, hb1⟩
  by_cases hk0 : k = 0
  · have hok := hk1 hk0
    have hT4 := hok.small.1
    have hT5 := hok.small.2
    have h1 := h.now hb1 (Nat.le_refl _)
    have HOK := Lib.hid hok
    have e1 : T.length < 1000000 := by omega
    have e2 : ∀ i, (T.getD i []).length < 1000000 := fun i => by have := hT5 i; omega
    subst hk0
    clear hk1 hk2 hok h
    go_wp2_with (first | (go_at_call 47; refine (stwin_any A cap T _ e1 e2 h1).mono ?_) | fail)
    rintro e w2 ⟨⟨v, hs, rfl, hm⟩, hb2⟩
    obtain ⟨A2, c2, rfl, -, -, -⟩ := hm.sr
    have hW2 : Below w.heap.size w w2 := hb1.trans (hb2.mono hb1.size)
    have HM := Lib.hid (hm.low hb1.size)
    have HW2 := Lib.hid hW2
    have HST := Lib.hid (Recting.start HOK.out)
    clear hm hb1 hb2 h1 e1 e2 hT5
    go_wp2
    go_loopw [5, 6] (fun tv iv wr => ∃ (m : Nat) (z : Int) (t : List (List Int)) (hs : List Value) (A5 : Option Addr) (c5 : Nat), m ≤ 40 ∧ iv = .int .i64 z ∧ z + 1 = (m : Int) ∧ tv = .slice A5 t.length c5 ∧ Recting T t m ∧ OwnM wr w.heap.size (.slice A5 t.length c5) hs t ∧ Below w.heap.size w wr) (fun _ iv _ => (Go.RowKit.intOf iv + 1).toNat)
    case atStart => exact ⟨T.length, (T.length : Int) - 1, T, hs, A2, c2, by omega, rfl, by omega, rfl, HST.out, HM.out, HW2.out⟩
    case round =>
      clear HM HW2 HST
      obtain ⟨m, z, t, hs, A5, c5, hm40, rfl, hz, rfl, hrec, hm, hW⟩ := hrel
      have HREC := Lib.hid hrec
      have HM := Lib.hid hm
      have HW := Lib.hid hW
      clear hrec hm hW
      by_cases hz0 : 0 ≤ z
      · obtain ⟨i, rfl⟩ : ∃ i : Nat, z = i := ⟨z.toNat, by omega⟩
        have him : m = i + 1 := by omega
        subst him
        have di : decide ((0 : Int) ≤ (i : Int)) = true := decide_eq_true hz0
        go_wp2
        go_loopg [5] (boxes t) (fun gn tv wx => ∃ (t : List (List Int)) (hs : List Value) (A5 : Option Addr) (c5 : Nat), gn = boxes t ∧ tv = .slice A5 t.length c5 ∧ Recting T t (i + 1) ∧ OwnM wx w.heap.size (.slice A5 t.length c5) hs t ∧ Below w.heap.size w wx)
        case atStart => exact ⟨t, hs, A5, c5, rfl, rfl, HREC.out, HM.out, HW.out⟩
        case round =>
          clear HREC HM HW
          obtain ⟨t, hs, A5, c5, hgn, rfl, hrec, hm, hW⟩ := hrel
          have HREC := Lib.hid hrec
          have HGN := Lib.hid hgn
          have HW := Lib.hid hW
          have HM := Lib.hid hm
          have hB := hW.size
          obtain ⟨A6, c6, e6, hsr, hl6, hc6⟩ := hm.sr
          obtain ⟨rfl, rfl⟩ : A5 = A6 ∧ c5 = c6 := by injection e6 with g1 _ g3; exact ⟨g1, g3⟩
          have ht40 := hrec.ok.small.1
          have ht5 := hrec.ok.small.2
          by_cases hit : i < t.length
          · have dt : decide ((i : Int) < (t.length : Int)) = true := decide_eq_true (by omega)
            obtain ⟨b, o, rfl, hb⟩ := hsr.addr (by omega)
            obtain ⟨Ar, cr, hcl, hr, hrl⟩ := hsr.at_ hit
            have hca := holes_any Ar cr (t.getD i []) wr hrl hr
            have hx40 : hol (t.getD i []) ≤ 40 := Nat.le_trans (hol_le _) (ht5 i)
            have hcorner := hrec.corner hit
            have hnext := hrec.next (k := i)
            obtain ⟨x1, hx1⟩ : ∃ x1, x1 = hol (t.getD i []) := ⟨_, rfl⟩
            rw [← hx1] at hca hx40 hcorner hnext
            have HX1 := Lib.hid hx1
            have HCA := Lib.hid hca
            have HCO := Lib.hid hcorner
            have HNX := Lib.hid hnext
            have hr5 : ∀ a, rl t a ≤ 1000 := fun a => Nat.le_trans (ht5 a) (by omega)
            obtain ⟨q, hq⟩ : ∃ q, q = (t.getD i []).length := ⟨_, rfl⟩
            rw [← hq] at hcl HCA
            have HR5 := Lib.hid hr5
            clear hrec hgn hm hW hsr hr hrl hca hcorner hnext hx1 hq ht5 hr5 e6
            by_cases hx0 : 0 < x1
            · have dx : decide ((0 : Int) < (x1 : Int)) = true := decide_eq_true (by omega)
              obtain ⟨x, rfl⟩ : ∃ x, x1 = x + 1 := ⟨x1 - 1, by omega⟩
              have hco := HCO.out hx0
              have hxe : hol (t.getD i []) - 1 = x := by have := HX1.out; omega
              have hcfg := HREC.out.cfg hco hxe
              have HC1 := Lib.hid hco
              have HXE := Lib.hid hxe
              have HCFG := Lib.hid hcfg
              have e3 : t.length ≤ 1000 := by omega
              have e4 : (((x + 1 : Nat) : Int) - 1) = (x : Int) := by omega
              have E4 := Lib.hid e4
              clear hco hxe hcfg e4
              go_wp2_with (first | (go_at_call 48; refine (HCA.out).mono ?_) | fail)
              rintro e w4 ⟨rfl, hw4⟩
              obtain rfl := hw4.symm
              go_wp2_with (first | (go_at_call 48; refine (HCA.out).mono ?_) | fail)
              rintro e w4 ⟨rfl, hw4⟩
              obtain rfl := hw4.symm
              have hw1 : IntKind.i64.wrap (x : Int) = (x : Int) := IntWalk.i64_in _ (by omega)
              go_wp2_with (first | (go_at_call 49; refine (slid_any _ hs t i x _ hB HM.out HCFG.out e3 HR5.out).mono ?_) | fail)
              rintro e w6 ⟨⟨v6, hs6, out, i6, j6, rfl, hm6, hsl, hfr, hft⟩, hb6⟩
              obtain ⟨A6, c6, rfl, -, -, -⟩ := hm6.sr
              obtain ⟨hrn, hbx⟩ := HREC.out.slide HC1.out HXE.out hsl
              have HRN := Lib.hid hrn
              have HBX := Lib.hid hbx
              have HM6 := Lib.hid hm6
              have hW6 := Lib.hid (HW.out.trans hb6)
              clear hrn hbx hm6 hsl hfr hft hb6 hw1
              go_wp2
              go_roundg (gk - 1)
              case rel => exact ⟨out, hs6, A6, c6, by have := HBX.out; have := HGN.out; omega, rfl, HRN.out, HM6.out, hW6.out⟩
              case measure => have := HBX.out; have := HGN.out; omega
            · have dx : decide ((0 : Int) < (x1 : Int)) = false := decide_eq_false (by omega)
              have hnx := HNX.out (fun _ => by omega)
              have HN := Lib.hid hnx
              clear hnx
              go_wp2_with (first | (go_at_call 48; refine (HCA.out).mono ?_) | fail)
              rintro e w4 ⟨rfl, hw4⟩
              obtain rfl := hw4.symm
              go_wp2
              go_roundw
              case rel => exact ⟨i, (i : Int) - 1, t, hs, _, c5, by omega, rfl, by omega, rfl, HN.out, HM.out, HW.out⟩
              case measure => simp [Go.RowKit.intOf]
          · have dt : decide ((i : Int) < (t.length : Int)) = false := decide_eq_false (by omega)
            have hnx := hrec.next (fun hh => absurd hh hit)
            have HN := Lib.hid hnx
            clear hnx hrec hgn hm hW hsr
            go_wp2
            go_roundw
            case rel => exact ⟨i, (i : Int) - 1, t, hs, _, c5, by omega, rfl, by omega, rfl, HN.out, HM.out, HW.out⟩
            case measure => simp [Go.RowKit.intOf]
      · have di : decide ((0 : Int) ≤ z) = false := decide_eq_false hz0
        have hm0 : m = 0 := by omega
        subst hm0
        have hfin := rect_own HM.out HOK.out HREC.out.ok HREC.out.kn (fun i j => HREC.out.no i j (Nat.zero_le _))
        have HFIN := Lib.hid hfin
        clear hfin
        go_wp2
        go_ret2
        exact ⟨HFIN.out, HW.out⟩
  · have dk : (k != 0) = true := by simpa using hk0
    have hno : Hid (¬ SkOk T) := fun hh => hk0 (hk2 hh)
    have HK0 := Lib.hid hk0
    clear hk1 hk2
    go_wp2
    go_ret2
    exact ⟨⟨k, [], none, 0, rfl, OwnR.nil _ _, by simp, fun e => absurd e HK0.out, fun e => absurd e hno.out, fun _ => rfl⟩, hb1⟩
end Go.Proofs.Ytpmkdihencepnaa

/-
  slices.Index and slices.Equal of ints; fill.Shape.
-/
namespace Go.Proofs.Ytpmkdihencepnaa
open Go.RowKit

/-- What slices.Index answers. -/
def IdxOut (r : List Int) (x z : Int) : Prop := (∃ j : Nat, z = j ∧ r[j]? = some x) ∨ (z = -1 ∧ x ∉ r)
set_option maxRecDepth 100000 in
theorem index_any {B : Nat} (A : Option Addr) (cap : Nat) (r : List Int) (x : Int) (w : World) (hl : r.length ≤ 9223372036854775807) (h : Sl w B A (ints r)) :
    Calls Try.prog 63 #[.slice A r.length cap, .int .i64 x] w fun e w' => (∃ z : Int, e = .returned (.int .i64 z) ∧ IdxOut r x z) ∧ w = w' := by
  go_enter Try.func63, Try.ntmps63
  go_wp2
  go_loop [8] (fun nv => ∃ (n : Nat), n ≤ r.length ∧ nv = .int .i64 n ∧ x ∉ r.take n) (fun nv => r.length - (intOf nv).toNat)
  case atStart => exact ⟨0, Nat.zero_le _, rfl, by simp⟩
  case round =>
    obtain ⟨n, hn, rfl, hz⟩ := hrel
    have HZ := Lib.hid hz
    clear hz
    by_cases hlt : n < r.length
    · have dn : decide (n < r.length) = true := decide_eq_true hlt
      obtain ⟨b, o, rfl, hb⟩ := h.addr (by omega)
      have hc := getD_cell h (k := n) hlt
      have hg := getD_some (l := r) (j := n) hlt
      obtain ⟨y, hy⟩ : ∃ y, y = r.getD n 0 := ⟨_, rfl⟩
      rw [← hy] at hc hg
      have HG := Lib.hid hg
      clear hy hg
      by_cases h0 : x = y
      · have hfin : Hid (IdxOut r x n) := .inl ⟨n, rfl, by rw [h0]; exact HG.out⟩
        have dx : decide (x = y) = true := decide_eq_true h0
        subst h0
        go_wp2
        go_ret
        exact ⟨⟨_, rfl, hfin.out⟩, rfl⟩
      · have dx : (x == y) = false := by simpa using h0
        have hnx : Hid (x ∉ r.take (n + 1)) := fun hm => by
          obtain ⟨hn1, e1⟩ := List.getElem?_eq_some_iff.1 HG.out
          rw [List.take_succ_eq_append_getElem hn1, List.mem_append] at hm
          rcases hm with e | e
          · exact HZ.out e
          · simp at e; rw [e1] at e; exact h0 e
        go_wp2
        go_round
        case rel => exact ⟨n + 1, by omega, by go_num, hnx.out⟩
        case measure => simp [intOf]; omega
    · have dn : decide (n < r.length) = false := decide_eq_false hlt
      have hfin : Hid (IdxOut r x (-1)) := .inr ⟨rfl, by have := HZ.out; rwa [List.take_of_length_le (by omega)] at this⟩
      go_wp2
      go_ret
      exact ⟨⟨_, rfl, hfin.out⟩, rfl⟩

set_option maxRecDepth 100000 in
theorem equal_any (A C : Option Addr) (cap cap2 : Nat) (r s : List Int) (w : World) (hl : r.length ≤ 9223372036854775807) (_hl2 : s.length ≤ 9223372036854775807) (h : Sl w w.heap.size A (ints r)) (h2 : Sl w w.heap.size C (ints s)) :
    Calls Try.prog 62 #[.slice A r.length cap, .slice C s.length cap2] w fun e w' => e = .returned (.bool (decide (r = s))) ∧ Below w.heap.size w w' := by
  go_enter Try.func62, Try.ntmps62
  by_cases hln : r.length = s.length
  · have dl : decide ((r.length : Int) = (s.length : Int)) = true := decide_eq_true (by omega)
    have hLN := Lib.hid hln
    go_wp2
    go_loopw [13] (fun nv wr => ∃ (n : Nat), n ≤ r.length ∧ nv = .int .i64 n ∧ r.take n = s.take n ∧ Below w.heap.size w wr) (fun nv _ => r.length - (intOf nv).toNat)
    case atStart => exact ⟨0, Nat.zero_le _, rfl, by simp, Below.refl _ _⟩
    case round =>
      obtain ⟨n, hn, rfl, hz, hW⟩ := hrel
      have HZ := Lib.hid hz
      clear hz
      by_cases hlt : n < r.length
      · have dn : decide (n < r.length) = true := decide_eq_true hlt
        have hlt2 : n < s.length := by omega
        have hA := h.below hW
        have hC := h2.below hW
        obtain ⟨b, o, rfl, hb⟩ := h.addr (by omega)
        obtain ⟨b2, o2, rfl, hb2⟩ := h2.addr (by omega)
        have hc := getD_cell hA (k := n) hlt
        have hc2 := getD_cell hC (k := n) hlt2
        have hg := getD_some (l := r) (j := n) hlt
        have hg2 := getD_some (l := s) (j := n) hlt2
        obtain ⟨x, hx⟩ : ∃ x, x = r.getD n 0 := ⟨_, rfl⟩
        obtain ⟨y, hy⟩ : ∃ y, y = s.getD n 0 := ⟨_, rfl⟩
        rw [← hx] at hc hg
        rw [← hy] at hc2 hg2
        have HG := Lib.hid hg
        have HG2 := Lib.hid hg2
        clear hx hy hg hg2 hA hC
        by_cases h0 : x = y
        · subst h0
          have hnx : Hid (r.take (n + 1) = s.take (n + 1)) := by
            show _ = _
            obtain ⟨a1, a2⟩ := List.getElem?_eq_some_iff.1 HG.out
            obtain ⟨a3, a4⟩ := List.getElem?_eq_some_iff.1 HG2.out
            rw [List.take_succ_eq_append_getElem a1, List.take_succ_eq_append_getElem a3, HZ.out, a2, a4]
          go_wp2
          go_quiet (fail)
          go_wp2
          go_roundw
          case rel => exact ⟨n + 1, by omega, by go_num, hnx.out, below_drewN hW _⟩
          case measure => simp [intOf]; omega
        · have dx : (x == y) = false := by simpa using h0
          have hfin : Hid (decide (r = s) = false) := decide_eq_false (fun e => by
            have h5 := HG.out
            rw [e, HG2.out] at h5
            injection h5 with h6
            exact h0 h6.symm)
          go_wp2
          go_quiet (fail)
          go_wp2
          go_ret
          exact ⟨by rw [hfin.out]; rfl, below_drewN hW _⟩
      · have dn : decide (n < r.length) = false := decide_eq_false hlt
        have hfin : Hid (decide (r = s) = true) := decide_eq_true (by
          have := HZ.out
          rwa [List.take_of_length_le (by omega), List.take_of_length_le (by have := hLN.out; omega)] at this)
        go_wp2
        go_ret
        exact ⟨by rw [hfin.out]; rfl, hW⟩
  · have dl : ((r.length : Int) == (s.length : Int)) = false := by simp; omega
    have hfin : Hid (decide (r = s) = false) := decide_eq_false (fun e => hln (by rw [e]))
    go_wp2
    go_ret
    exact ⟨by rw [hfin.out]; rfl, Below.refl _ _⟩

/-- A row's lengths. -/
def lensOf (T : List (List Int)) : List Int := T.map (fun r => (r.length : Int))
/-- What fill.Shape answers. -/
def ShapeOut (e : Ending) (w : World) (T : List (List Int)) : Prop :=
  ∃ (k : Int) (A : Option Addr) (c : Nat) (xs : List Int), e = .returned (.tuple #[.slice A xs.length c, .int .i64 k]) ∧ Sl w w.heap.size A (ints xs) ∧ (k = 0 → FillOk T ∧ xs = lensOf T) ∧ (FillOk T → k = 0)
set_option maxRecDepth 100000 in
theorem shape_any (A : Option Addr) (cap : Nat) (T : List (List Int)) (w : World) (hT : T.length ≤ 9223372036854775807) (h : SR w w.heap.size A T) :
    Calls Try.prog 60 #[.slice A T.length cap] w fun e w' => ShapeOut e w' T ∧ Below w.heap.size w w' := by
  go_enter Try.func60, Try.ntmps60
  go_wp2_with (first | (go_at_call 35; refine (fcheck_any A cap T _ hT h).mono ?_) | fail)
  rintro e w1 ⟨⟨k, rfl, hk1, hk2⟩, rfl⟩
  by_cases hk0 : k = 0
  · have hok := hk1 hk0
    have hT4 := hok.small.1
    have hT5 := hok.small.2
    have HOK := Lib.hid hok
    have HT5 := Lib.hid hT5
    subst hk0
    clear hk1 hk2 hok hT5
    go_wp2
    go_loopw [5, 15] (fun ov iv wr => ∃ (i : Nat) (l : List Int), i ≤ T.length ∧ iv = .int .i64 i ∧ l = lensOf (T.take i) ∧ wr.ownsRow w.heap.size 3 1 ov i (ints l) ∧ Below w.heap.size w wr) (fun _ iv _ => T.length - (intOf iv).toNat)
    case atStart => exact ⟨0, [], Nat.zero_le _, rfl, rfl, World.ownsRow_nil _ _ _ _, Below.refl _ _⟩
    case round =>
      obtain ⟨i, l, hi, rfl, hl, ho, hW⟩ := hrel
      have hsz := hW.size
      have HL := Lib.hid hl
      have HO := Lib.hid ho
      clear hl ho
      by_cases hit : i < T.length
      · have di : decide (i < T.length) = true := decide_eq_true hit
        have h2 := h.below hW
        obtain ⟨b, o, rfl, hb⟩ := h.addr (by omega)
        obtain ⟨Ar, cr, hcl, hr, hrl⟩ := h2.at_ hit
        have hr40 := HT5.out i
        have hnx : Hid (l ++ [((T.getD i []).length : Int)] = lensOf (T.take (i + 1))) := by
          show _ = _
          rw [HL.out]
          unfold lensOf
          rw [List.take_succ_eq_append_getElem hit, List.map_append, getD_get hit]; rfl
        obtain ⟨q, hq⟩ : ∃ q, q = (T.getD i []).length := ⟨_, rfl⟩
        rw [← hq] at hcl hr40 hnx
        clear hr hrl hq h2
        go_wp2_with (first | (at_builtin; refine wpList_app1 rfl (.tmp 19) (.tmp 22) rfl rfl (q : Int) HO.out rfl (by omega) hsz (fun g2 c2 w6 hl6 hb6 => ?_)) | fail)
        go_roundw
        case rel => exact ⟨i + 1, _, by omega, by go_num, hnx.out, hl6, hW.trans hb6⟩
        case measure => simp [intOf]; omega
      · have di : decide (i < T.length) = false := decide_eq_false hit
        have hfin : Hid (l = lensOf T) := by show _ = _; rw [HL.out, List.take_of_length_le (by omega)]
        obtain ⟨A6, c6, e6, hn6, hsl, _, _⟩ := own_sliceA HO.out
        have HSL := Lib.hid hsl
        subst e6
        clear hsl
        go_wp2
        go_ret2
        exact ⟨⟨0, A6, c6, l, rfl, HSL.out, fun _ => ⟨HOK.out, hfin.out⟩, fun _ => rfl⟩, hW⟩
  · have dk : (k != 0) = true := by simpa using hk0
    have hno : Hid (¬ FillOk T) := fun hh => hk0 (hk2 hh)
    have HK0 := Lib.hid hk0
    clear hk1 hk2
    go_wp2
    go_ret2
    exact ⟨⟨k, none, 0, [], rfl, Sl.nil _ _ _, fun e => absurd e HK0.out, fun e => absurd e hno.out⟩, Below.refl _ _⟩
end Go.Proofs.Ytpmkdihencepnaa

/-
  fill.Content, fill.IsStandard: what they answer.
-/
namespace Go.Proofs.Ytpmkdihencepnaa
open Go.RowKit

def lenV (v : Value) : Nat := match v with | .slice _ n _ => n | _ => 0
/-- What fill.Content answers. -/
def ContOut (e : Ending) (w : World) (T : List (List Int)) : Prop :=
  ∃ (k : Int) (A : Option Addr) (c : Nat) (xs : List Int), e = .returned (.tuple #[.slice A xs.length c, .int .i64 k]) ∧ Sl w w.heap.size A (ints xs) ∧ xs.length ≤ 99 ∧ (k = 0 → FillOk T ∧ Cnt T.flatten xs ∧ (xs.length = 0 ∨ (xs.length : Int) ∈ T.flatten)) ∧ (FillOk T → k = 0)
/-- Likewise, and whose it is. -/
def ContR (B : Nat) (e : Ending) (w : World) (T : List (List Int)) : Prop :=
  ∃ (k : Int) (A : Option Addr) (c : Nat) (xs : List Int), e = .returned (.tuple #[.slice A xs.length c, .int .i64 k]) ∧ w.ownsRow B 3 1 (.slice A xs.length c) xs.length (ints xs) ∧ xs.length ≤ 99 ∧ (k = 0 → FillOk T ∧ Cnt T.flatten xs ∧ (xs.length = 0 ∨ (xs.length : Int) ∈ T.flatten)) ∧ (FillOk T → k = 0) ∧ (k ≠ 0 → xs = [])
/-- The letters that have been counted. -/
def seenL (T : List (List Int)) (i j : Nat) : List Int := (T.take i).flatten ++ (T.getD i []).take j
theorem seenL_zero (T : List (List Int)) : seenL T 0 0 = [] := by simp [seenL]
theorem seenL_next {T : List (List Int)} {i j : Nat} (h : j < (T.getD i []).length) : seenL T i (j + 1) = seenL T i j ++ [(T.getD i []).getD j 0] := by
  unfold seenL
  rw [List.take_succ_eq_append_getElem h, getD_get h, List.append_assoc]
theorem seenL_row {T : List (List Int)} {i : Nat} (h : i < T.length) : seenL T i (T.getD i []).length = seenL T (i + 1) 0 := by
  unfold seenL
  rw [List.take_succ_eq_append_getElem h, List.flatten_append, List.take_of_length_le (Nat.le_refl _), getD_get h]; simp
theorem seenL_all (T : List (List Int)) : seenL T T.length 0 = T.flatten := by simp [seenL]
theorem seenL_sub {T : List (List Int)} {i j : Nat} : (seenL T i j).length ≤ boxes T := by
  unfold seenL
  rw [List.length_append, flatten_len, List.length_take]
  by_cases hi : i < T.length
  · have h1 := boxes_take hi
    have h2 := boxes_le (T := T) (i + 1)
    omega
  · rw [getD_far (by omega)]
    have := boxes_le (T := T) i
    simp; exact this

set_option maxRecDepth 100000 in
set_option maxHeartbeats 1000000 in
theorem content_all (A : Option Addr) (cap : Nat) (T : List (List Int)) (w : World) (hT : T.length ≤ 9223372036854775807) (h : SR w w.heap.size A T) :
    Calls Try.prog 31 #[.slice A T.length cap] w fun e w' => ContR w.heap.size e w' T ∧ Below w.heap.size w w' := by
  go_enter Try.func31, Try.ntmps31
  go_wp2_with (first | (go_at_call 35; refine (fcheck_any A cap T _ hT h).mono ?_) | fail)
  rintro e w1 ⟨⟨k, rfl, hk1, hk2⟩, rfl⟩
  by_cases hk0 : k = 0
  · have hok := hk1 hk0
    have hT4 := hok.small.1
    have hT5 := hok.small.2
    have HOK := Lib.hid hok
    have HT5 := Lib.hid hT5
    subst hk0
    clear hk1 hk2 hok hT5
    go_wp2
    go_loopw [5, 17] (fun ov iv wr => ∃ (i m c5 : Nat) (A5 : Option Addr) (l : List Int), i ≤ T.length ∧ iv = .int .i64 i ∧ ov = .slice A5 m c5 ∧ l.length = m ∧ m ≤ 99 ∧ Cnt (seenL T i 0) l ∧ (l.length = 0 ∨ (l.length : Int) ∈ seenL T i 0) ∧ wr.ownsRow w.heap.size 3 1 (.slice A5 m c5) m (ints l) ∧ Below w.heap.size w wr) (fun _ iv _ => T.length - (intOf iv).toNat)
    case atStart => exact ⟨0, 0, 0, none, [], Nat.zero_le _, rfl, rfl, rfl, by omega, by rw [seenL_zero]; exact Cnt.nil, .inl rfl, World.ownsRow_nil _ _ _ _, Below.refl _ _⟩
    case round =>
      obtain ⟨i, m, c5, A5, l, hi, rfl, rfl, hlm, hm99, hcn, htp, ho, hW⟩ := hrel
      have HLM := Lib.hid hlm
      have HCN := Lib.hid hcn
      have HTP := Lib.hid htp
      have HO := Lib.hid ho
      clear hlm hcn htp ho
      by_cases hit : i < T.length
      · have di : decide (i < T.length) = true := decide_eq_true hit
        have h2 := h.below hW
        obtain ⟨b, o, rfl, hb⟩ := h.addr (by omega)
        obtain ⟨Ar, cr, hcl, hr, hrl⟩ := h2.at_ hit
        have hr40 := HT5.out i
        obtain ⟨q, hq⟩ : ∃ q, q = (T.getD i []).length := ⟨_, rfl⟩
        have hcells : Hid (∀ j, j < q → ∃ g p, Ar = some ⟨g, p, none⟩ ∧ g < w.heap.size ∧ w.cell? ⟨g, p + j, none⟩ = some (.int .i64 ((T.getD i []).getD j 0))) := fun j hj => by
          obtain ⟨g, p, e, hg⟩ := hr.addr (by omega)
          subst e
          have h3 := getD_cell hr (k := j) (by omega)
          rw [hW.cell (p := ⟨g, p + j, none⟩) hg] at h3
          exact ⟨g, p, rfl, hg, h3⟩
        rw [← hq] at hcl hr40 hrl
        have HQ := Lib.hid hq
        clear hr hq h2
        go_wp2
        go_loopw [5, 23] (fun ov jv wx => ∃ (j m c5 : Nat) (A5 : Option Addr) (l : List Int), j ≤ q ∧ jv = .int .i64 j ∧ ov = .slice A5 m c5 ∧ l.length = m ∧ m ≤ 99 ∧ Cnt (seenL T i j) l ∧ (l.length = 0 ∨ (l.length : Int) ∈ seenL T i j) ∧ wx.ownsRow w.heap.size 3 1 (.slice A5 m c5) m (ints l) ∧ Below w.heap.size w wx) (fun _ jv _ => q - (intOf jv).toNat)
        case atStart => exact ⟨0, m, c5, A5, l, Nat.zero_le _, rfl, rfl, HLM.out, hm99, HCN.out, HTP.out, HO.out, hW⟩
        case round =>
          clear HLM HCN HTP HO hW hm99 hcl
          obtain ⟨j, m, c5, A5, l, hj, rfl, rfl, hlm, hm99, hcn, htp, ho, hW⟩ := hrel
          by_cases hjq : j < q
          · have dj : decide (j < q) = true := decide_eq_true hjq
            obtain ⟨g, p, rfl, hg, hcx⟩ := hcells.out j hjq
            have hcx2 := hW.cell (p := ⟨g, p + j, none⟩) hg
            rw [hcx] at hcx2
            have hlt := ((HOK.out.row hit).2.2 j (by rw [← HQ.out]; exact hjq)).1
            have hsn := seenL_next (T := T) (i := i) (j := j) (by rw [← HQ.out]; exact hjq)
            obtain ⟨n, hn⟩ : ∃ n : Nat, (T.getD i []).getD j 0 = (n : Int) + 1 := ⟨((T.getD i []).getD j 0 - 1).toNat, by have := hlt.1; omega⟩
            rw [hn] at hcx2 hlt hsn
            have hn99 : n < 99 := by have := hlt.2; omega
            have HSN := Lib.hid hsn
            have HCN := Lib.hid hcn
            have HTP := Lib.hid htp
            have HLM := Lib.hid hlm
            have HO := Lib.hid ho
            have HW := Lib.hid hW
            have hcf := Lib.hid hcx
            clear hn hlt hsn hcx hcn htp hlm ho hW
            go_wp2
            go_loopw [5] (fun ov wy => ∃ (m c5 : Nat) (A5 : Option Addr) (l : List Int), ov = .slice A5 m c5 ∧ l.length = m ∧ m ≤ 99 ∧ Cnt (seenL T i j) l ∧ (l.length = 0 ∨ (l.length : Int) ∈ seenL T i j ∨ l.length ≤ n + 1) ∧ wy.ownsRow w.heap.size 3 1 (.slice A5 m c5) m (ints l) ∧ Below w.heap.size w wy) (fun ov _ => n + 1 - lenV ov)
            case atStart => exact ⟨m, c5, A5, l, rfl, HLM.out, hm99, HCN.out, by rcases HTP.out with e | e; exact .inl e; exact .inr (.inl e), HO.out, HW.out⟩
            case round =>
              clear HCN HTP HLM HO HW hcx2 hm99
              obtain ⟨m, c5, A5, l, rfl, hlm, hm99, hcn, htp, ho, hW⟩ := hrel
              have hsz := hW.size
              have HCN := Lib.hid hcn
              have HTP := Lib.hid htp
              have HLM := Lib.hid hlm
              have HO := Lib.hid ho
              have HW := Lib.hid hW
              clear hcn htp hlm ho hW
              by_cases hmn : m < n + 1
              · have dm : decide ((m : Int) < (n : Int) + 1) = true := decide_eq_true (by omega)
                go_wp2_with (first | (at_builtin; refine wpList_app1 rfl (.tmp 31) (.tmp 32) rfl rfl 0 HO.out rfl (by omega) hsz (fun g2 c2 w6 hl6 hb6 => ?_)) | fail)
                go_roundw
                case rel => exact ⟨m + 1, c2, _, l ++ [0], rfl, by rw [List.length_append, HLM.out]; rfl, by omega, HCN.out.zero, .inr (.inr (by rw [List.length_append, HLM.out]; simp; omega)), hl6, HW.out.trans hb6⟩
                case measure => simp [lenV]; omega
              · have dm : decide ((m : Int) < (n : Int) + 1) = false := decide_eq_false (by omega)
                obtain ⟨G, c', e1, hG, hGs⟩ := HO.out.form (by omega)
                obtain ⟨rfl, rfl⟩ : A5 = some ⟨G, 0, none⟩ ∧ c5 = c' := by injection e1 with e2 _ e3; exact ⟨e2, e3⟩
                have hck := own_get HO.out (getD_some (l := l) (j := n) (by rw [HLM.out]; omega))
                have hlv := HCN.out.at_ n (by rw [HLM.out]; omega)
                have hcnt : (seenL T i j).count ((n : Int) + 1) ≤ 40 := Nat.le_trans List.count_le_length (Nat.le_trans seenL_sub HOK.out.2.2)
                obtain ⟨y, hy⟩ : ∃ y : Nat, y = (seenL T i j).count ((n : Int) + 1) := ⟨_, rfl⟩
                rw [← hy] at hlv hcnt
                rw [hlv] at hck
                have hnx := HCN.out.add (n := n) (by rw [HLM.out]; omega)
                rw [hlv, ← HSN.out] at hnx
                have HNX := Lib.hid hnx
                have hfk := HO.out.frozenAt n
                have hst := Lib.hid (own_set HO.out n ((y : Int) + 1))
                have hws := Lib.hid (HW.out.setCell (p := ⟨G, n, none⟩) hG (.int .i64 ((y : Int) + 1)))
                have htp2 : Hid ((l.set n ((y : Int) + 1)).length = 0 ∨ ((l.set n ((y : Int) + 1)).length : Int) ∈ seenL T i (j + 1)) := by
                  show _ ∨ _
                  rw [List.length_set, HSN.out]
                  rcases HTP.out with e | e | e
                  · exact .inl e
                  · exact .inr (List.mem_append_left _ e)
                  · have : l.length = n + 1 := by have := HLM.out; omega
                    rw [this]
                    exact .inr (List.mem_append_right _ (by simp))
                clear hnx hy hlv
                go_wp2
                go_roundw
                case rel => exact ⟨j + 1, m, c5, _, l.set n ((y : Int) + 1), by omega, by go_num, rfl, by rw [List.length_set]; exact HLM.out, hm99, HNX.out, htp2.out, hst.out, hws.out⟩
                case measure => simp [intOf]; omega
          · have dj : decide (j < q) = false := decide_eq_false hjq
            have hjq2 : j = (T.getD i []).length := by have := HQ.out; omega
            rw [hjq2, seenL_row hit] at hcn htp
            have HLM := Lib.hid hlm
            have HCN := Lib.hid hcn
            have HTP := Lib.hid htp
            have HO := Lib.hid ho
            have HW := Lib.hid hW
            clear hlm hcn htp ho hjq2 hW
            go_wp2
            go_roundw
            case rel => exact ⟨i + 1, m, c5, A5, l, by omega, by go_num, rfl, HLM.out, hm99, HCN.out, HTP.out, HO.out, HW.out⟩
            case measure => simp [intOf]; omega
      · have di : decide (i < T.length) = false := decide_eq_false hit
        have hiT : i = T.length := by omega
        have hcn := HCN.out
        have htp := HTP.out
        rw [hiT, seenL_all] at hcn htp
        have HCN2 := Lib.hid hcn
        have HTP2 := Lib.hid htp
        obtain ⟨A6, c6, e6, hn6, hsl, _, _⟩ := own_sliceA HO.out
        have HSL := Lib.hid hsl
        subst hn6
        have e7 : A5 = A6 ∧ c5 = c6 := by injection e6 with g1 _ g3; exact ⟨g1, g3⟩
        obtain ⟨rfl, rfl⟩ := e7
        have HSO := Lib.hid HO.out
        clear hcn htp hsl e6 HCN HTP hiT
        go_wp2
        go_ret2
        exact ⟨⟨0, A5, c5, l, rfl, HSO.out, hm99, fun _ => ⟨HOK.out, HCN2.out, HTP2.out⟩, fun _ => rfl, fun e => absurd rfl e⟩, hW⟩
  · have dk : (k != 0) = true := by simpa using hk0
    have hno : Hid (¬ FillOk T) := fun hh => hk0 (hk2 hh)
    have HK0 := Lib.hid hk0
    clear hk1 hk2
    go_wp2
    go_ret2
    exact ⟨⟨k, none, 0, [], rfl, World.ownsRow_nil _ _ _ _, by simp, fun e => absurd e HK0.out, fun e => absurd e hno.out, fun _ => rfl⟩, Below.refl _ _⟩
theorem content_any (A : Option Addr) (cap : Nat) (T : List (List Int)) (w : World) (hT : T.length ≤ 9223372036854775807) (h : SR w w.heap.size A T) :
    Calls Try.prog 31 #[.slice A T.length cap] w fun e w' => ContOut e w' T ∧ Below w.heap.size w w' :=
  (content_all A cap T w hT h).mono (fun _ _ ⟨⟨k, A', c, xs, he, ho, h1, h2, h3, _⟩, hb⟩ => ⟨⟨k, A', c, xs, he, Sl.of_own ho, h1, h2, h3⟩, hb⟩)

/-- What fill.IsStandard answers. -/
def StdOut (e : Ending) (T : List (List Int)) : Prop := ∃ (b : Bool) (k : Int), e = .returned (.tuple #[.bool b, .int .i64 k]) ∧ (k = 0 → FillOk T ∧ (b = true ↔ IsPerm T.flatten)) ∧ (FillOk T → k = 0) ∧ (k ≠ 0 → b = false)
set_option maxRecDepth 100000 in
theorem standard_any (A : Option Addr) (cap : Nat) (T : List (List Int)) (w : World) (hT : T.length ≤ 9223372036854775807) (h : SR w w.heap.size A T) :
    Calls Try.prog 61 #[.slice A T.length cap] w fun e w' => StdOut e T ∧ Below w.heap.size w w' := by
  go_enter Try.func61, Try.ntmps61
  go_wp2_with (first | (go_at_call 31; refine (content_any A cap T _ hT h).mono ?_) | fail)
  rintro e w1 ⟨⟨k, A1, c1, xs, rfl, hsl, hx99, hk1, hk2⟩, hb1⟩
  by_cases hk0 : k = 0
  · obtain ⟨hok, hcn, htp⟩ := hk1 hk0
    have hpm := hcn.perm (fun x hx => by
      obtain ⟨r, hr, hx⟩ := List.mem_flatten.1 hx
      exact (hok.2.1 r hr x hx).1) htp
    have HOK := Lib.hid hok
    have HPM := Lib.hid hpm
    subst hk0
    clear hk1 hk2 hok hcn htp hpm h
    go_wp2
    go_loop [18] (fun nv => ∃ (n : Nat), n ≤ xs.length ∧ nv = .int .i64 n ∧ ∀ k, k < n → xs.getD k 0 = 1) (fun nv => xs.length - (intOf nv).toNat)
    case atStart => exact ⟨0, Nat.zero_le _, rfl, fun k hk => by omega⟩
    case round =>
      obtain ⟨n, hn, rfl, hz⟩ := hrel
      have HZ := Lib.hid hz
      clear hz
      by_cases hlt : n < xs.length
      · have dn : decide (n < xs.length) = true := decide_eq_true hlt
        obtain ⟨b, o, rfl, hb⟩ := hsl.addr (by omega)
        have hc := getD_cell hsl (k := n) hlt
        obtain ⟨y, hy⟩ : ∃ y, y = xs.getD n 0 := ⟨_, rfl⟩
        rw [← hy] at hc
        have HY := Lib.hid hy
        clear hy
        by_cases h0 : y = 1
        · have hnx : Hid (∀ k, k < n + 1 → xs.getD k 0 = 1) := fun k hk => by
            by_cases e : k = n
            · rw [e, ← HY.out, h0]
            · exact HZ.out k (by omega)
          subst h0
          go_wp2
          go_round
          case rel => exact ⟨n + 1, by omega, by go_num, hnx.out⟩
          case measure => simp [intOf]; omega
        · have dy : (y == 1) = false := by simpa using h0
          have hno : Hid (¬ IsPerm T.flatten) := fun hp => h0 (by rw [HY.out]; exact HPM.out.1 hp n hlt)
          go_wp2
          go_ret2
          exact ⟨⟨false, 0, rfl, fun _ => ⟨HOK.out, iff_of_false (by decide) hno.out⟩, fun _ => rfl, fun e => absurd rfl e⟩, hb1⟩
      · have dn : decide (n < xs.length) = false := decide_eq_false hlt
        have hyes : Hid (IsPerm T.flatten) := HPM.out.2 (fun k hk => HZ.out k (by omega))
        go_wp2
        go_ret2
        exact ⟨⟨true, 0, rfl, fun _ => ⟨HOK.out, fun _ => hyes.out, fun _ => rfl⟩, fun _ => rfl, fun e => absurd rfl e⟩, hb1⟩
  · have dk : (k != 0) = true := by simpa using hk0
    have hno : Hid (¬ FillOk T) := fun hh => hk0 (hk2 hh)
    have HK0 := Lib.hid hk0
    clear hk1 hk2
    go_wp2
    go_ret2
    exact ⟨⟨false, k, rfl, fun e => absurd e HK0.out, fun e => absurd e hno.out, fun _ => rfl⟩, hb1⟩
end Go.Proofs.Ytpmkdihencepnaa
