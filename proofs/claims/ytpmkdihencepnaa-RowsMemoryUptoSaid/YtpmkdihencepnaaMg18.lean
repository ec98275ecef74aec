/-
  slides.RectifyBy: what it answers.
-/
import Derived.Test.YtpmkdihencepnaaMg17
namespace Go.Proofs.Ytpmkdihencepnaa
open Go.RowKit

theorem lensOf_eq {T O : List (List Int)} (h : lensOf O = ((T.map hol).filter (fun x => decide (0 < x))).map (fun n : Nat => (n : Int))) : O.map List.length = (T.map hol).filter (fun x => decide (0 < x)) := by
  have inj : ∀ (a b : List Nat), a.map (fun n : Nat => (n : Int)) = b.map (fun n : Nat => (n : Int)) → a = b := fun a => by
    induction a with
    | nil => intro b h; cases b with
      | nil => rfl
      | cons _ _ => simp at h
    | cons x t ih =>
      intro b h
      cases b with
      | nil => simp at h
      | cons y u =>
        simp only [List.map_cons, List.cons.injEq] at h
        rw [ih u h.2, show x = y by omega]
  refine inj _ _ ?_
  rw [← h]
  unfold lensOf
  rw [List.map_map]; rfl
/-- The numbers of holes of the rows that have some. -/
def hads (T : List (List Int)) : List Int := ((T.map hol).filter (fun x => decide (0 < x))).map (fun n : Nat => (n : Int))
theorem hads_next {T : List (List Int)} {i : Nat} (h : i < T.length) : hads (T.take (i + 1)) = if 0 < hol (T.getD i []) then hads (T.take i) ++ [(hol (T.getD i []) : Int)] else hads (T.take i) := by
  unfold hads
  rw [List.take_succ_eq_append_getElem h, List.map_append, List.filter_append, List.map_append, getD_get h]
  by_cases e : 0 < hol T[i]
  · rw [if_pos e]; simp [e]
  · rw [if_neg e]; simp [e]
theorem hads_len (T : List (List Int)) : (hads T).length ≤ T.length := by
  unfold hads
  rw [List.length_map]
  exact Nat.le_trans (List.length_filter_le _ _) (by simp)
/-- On the way through an order's rows. -/
def Byd (T O t : List (List Int)) (n i : Nat) : Prop := ((∀ a, a < i → ((n + 1 : Nat) : Int) ∉ O.getD a []) ∧ Left T O t (n + 1)) ∨ ((∃ a, a < i ∧ ((n + 1 : Nat) : Int) ∈ O.getD a []) ∧ Left T O t n)
theorem Byd.start {T O t : List (List Int)} {n : Nat} (h : Left T O t (n + 1)) : Byd T O t n 0 := .inl ⟨fun a ha => by omega, h⟩
theorem Byd.ok {T O t : List (List Int)} {n i : Nat} (h : Byd T O t n i) : SkOk t := by
  rcases h with h | h
  · exact h.2.ok
  · exact h.2.ok
theorem Byd.done {T O t : List (List Int)} {n : Nat} (h : Byd T O t n O.length) (hO : Std O) (hn : n < boxes O) : Left T O t n := by
  rcases h with h | h
  · exfalso
    have hm := hO.2.mem (x := ((n + 1 : Nat) : Int)) (by omega) (by rw [flatten_len]; omega)
    obtain ⟨r, hr, hx⟩ := List.mem_flatten.1 hm
    obtain ⟨i, hi, rfl⟩ := List.getElem_of_mem hr
    exact h.1 i hi (by rw [getD_get hi]; exact hx)
  · exact h.2
theorem Byd.skip {T O t : List (List Int)} {n i : Nat} (h : Byd T O t n i) (hx : ((n + 1 : Nat) : Int) ∉ O.getD i []) : Byd T O t n (i + 1) := by
  rcases h with h | h
  · exact .inl ⟨fun a ha => by
      by_cases e : a = i
      · rw [e]; exact hx
      · exact h.1 a (by omega), h.2⟩
  · obtain ⟨a, ha, h2⟩ := h.1
    exact .inr ⟨⟨a, by omega, h2⟩, h.2⟩
theorem Byd.slide {T O t : List (List Int)} {n i j : Nat} (h : Byd T O t n i) (hO : Std O) (hx : (O.getD i [])[j]? = some ((n + 1 : Nat) : Int)) : Cfg t i j ∧ ∀ out i' j', Slid t i j out i' j' → Byd T O out n (i + 1) := by
  obtain ⟨hj, e⟩ := some_getD hx
  have hmem := List.mem_of_getElem? hx
  rcases h with h | h
  · obtain ⟨h1, h2⟩ := h.2.step hO (i := i) (j := j) hj e
    exact ⟨h1, fun out i' j' hs => .inr ⟨⟨i, by omega, hmem⟩, h2 out i' j' hs⟩⟩
  · exfalso
    obtain ⟨a, ha, h2⟩ := h.1
    obtain ⟨b, hb, e2⟩ := List.getElem_of_mem h2
    have := hO.inj (i := i) (j := j) (a := a) (b := b) hj hb (by unfold cell; rw [e, getD_get hb, e2])
    omega

def TwinOut (e : Ending) (w w' : World) (T : List (List Int)) : Prop := ∃ v hs, e = .returned v ∧ OwnM w' w.heap.size v hs T
theorem stwin_out (A : Option Addr) (cap : Nat) (T : List (List Int)) (w : World) (hT : T.length < 1000000) (hrl : ∀ i, (T.getD i []).length < 1000000) (h : SR w w.heap.size A T) :
    Calls Try.prog 47 #[.slice A T.length cap] w fun e w' => TwinOut e w w' T ∧ Below w.heap.size w w' := (stwin_any A cap T w hT hrl h).mono (fun _ _ h => h)
def ByTo (T O rows : List (List Int)) : Prop := (SkOk T ∧ Std O ∧ lensOf O = hads T ∧ rows = insW [] (sword T)) ∨ (¬ (SkOk T ∧ Std O ∧ lensOf O = hads T) ∧ rows = [])
theorem ByTo.fn {T O r s : List (List Int)} (h : ByTo T O r) (h' : ByTo T O s) : r = s := by
  rcases h with ⟨a, b, c, rfl⟩ | ⟨a, rfl⟩ <;> rcases h' with ⟨d, e, f, rfl⟩ | ⟨d, rfl⟩
  · rfl
  · exact absurd ⟨a, b, c⟩ d
  · exact absurd ⟨d, e, f⟩ a
  · rfl
def ByOut (B : Nat) (e : Ending) (w : World) (T O : List (List Int)) : Prop := Told (ByTo T O) B e w
theorem by_own {w : World} {B : Nat} {v : Value} {hs : List Value} {rows T O : List (List Int)} (h : OwnM w B v hs rows) (hT : SkOk T) (hO : Std O) (he : lensOf O = hads T) (hl : Left T O rows 0) : ByOut B (.returned (.tuple #[v, .int .i64 0])) w T O := by
  obtain ⟨A, c, rfl, hs', h1, h2⟩ := h.ownR
  exact ⟨rows, A, c, 0, rfl, hs', .inl ⟨hT, hO, he, hl.ok.done hl.kn (hl.done hO)⟩⟩
theorem by_bad {w : World} {B : Nat} {T O : List (List Int)} {k : Int} (h : ¬ (SkOk T ∧ Std O ∧ lensOf O = hads T)) : ByOut B (.returned (.tuple #[.slice none 0 0, .int .i64 k])) w T O :=
  ⟨[], none, 0, k, rfl, OwnR.nil _ _, .inr ⟨h, rfl⟩⟩

set_option maxRecDepth 100000 in
set_option maxHeartbeats 1000000 in
theorem rectby_any (A C : Option Addr) (cap cap2 : Nat) (T O : List (List Int)) (w : World) (hT : T.length ≤ 9223372036854775807) (hO : O.length ≤ 9223372036854775807) (h : SR w w.heap.size A T) (h2 : SR w w.heap.size C O) :
    Calls Try.prog 26 #[.slice A T.length cap, .slice C O.length cap2] w fun e w' => ByOut w.heap.size e w' T O ∧ Below w.heap.size w w' := by
  go_enter Try.func26, Try.ntmps26
  go_wp2_with (first | (go_at_call 46; refine (scheck_any A cap T _ hT h).mono ?_) | fail)
  rintro e w1 ⟨⟨k, rfl, hk1, hk2⟩, hb1⟩
  have h1 := h.now hb1 (Nat.le_refl _)
  have h3 := h2.now hb1 (Nat.le_refl _)
  have HK1 := Lib.hid hk1
  have HK2 := Lib.hid hk2
  have HH2 := Lib.hid h2
  clear hk1 hk2 h h2
  go_wp2_with (first | (go_at_call 35; refine (fcheck_any C cap2 O _ hO h3).mono ?_) | fail)
  rintro e w2 ⟨⟨f, rfl, hf1, hf2⟩, rfl⟩
  have HF1 := Lib.hid hf1
  have HF2 := Lib.hid hf2
  have HB1 := Lib.hid hb1
  clear hf1 hf2 hb1
  by_cases hk0 : k = 0
  · have hok := HK1.out hk0
    have hT4 := hok.small.1
    have hT5 := hok.small.2
    have HOK := Lib.hid hok
    have HT5 := Lib.hid hT5
    subst hk0
    clear hok hT5 HK1 HK2
    by_cases hf0 : f = 0
    · have hfo := HF1.out hf0
      have hO4 := hfo.small.1
      have hO5 := hfo.small.2
      have HFO := Lib.hid hfo
      have HO5 := Lib.hid hO5
      have HS1 := Lib.hid h1
      have HS3 := Lib.hid h3
      have HO9 := Lib.hid hO
      subst hf0
      clear hfo HF1 HF2 hO5 h3 hO
      go_wp2
      go_loopw [8, 37] (fun ov iv wr => ∃ (i : Nat) (l : List Int), i ≤ T.length ∧ iv = .int .i64 i ∧ l = hads (T.take i) ∧ wr.ownsRow w1.heap.size 3 1 ov l.length (ints l) ∧ Below w1.heap.size w1 wr) (fun _ iv _ => T.length - (intOf iv).toNat)
      case atStart => exact ⟨0, [], Nat.zero_le _, rfl, rfl, World.ownsRow_nil _ _ _ _, Below.refl _ _⟩
      case round =>
        obtain ⟨i, l, hi, rfl, hl, ho, hW⟩ := hrel
        have hsz := hW.size
        have HL := Lib.hid hl
        have HO := Lib.hid ho
        have hl40 : l.length ≤ 40 := by
          rw [hl]; exact Nat.le_trans (hads_len _) (by rw [List.length_take]; omega)
        clear hl ho
        by_cases hit : i < T.length
        · have di : decide (i < T.length) = true := decide_eq_true hit
          have hB2 := h1.below hW
          obtain ⟨b, o, rfl, hb⟩ := h1.addr (by omega)
          obtain ⟨Ar, cr, hcl, hr, hrl⟩ := hB2.at_ hit
          have hca := holes_any Ar cr (T.getD i []) wr hrl hr
          have hnx := hads_next hit
          have hx40 : hol (T.getD i []) ≤ 40 := Nat.le_trans (hol_le _) (HT5.out i)
          obtain ⟨x1, hx1⟩ : ∃ x1, x1 = hol (T.getD i []) := ⟨_, rfl⟩
          rw [← hx1] at hca hnx hx40
          obtain ⟨q, hq⟩ : ∃ q, q = (T.getD i []).length := ⟨_, rfl⟩
          rw [← hq] at hcl hca
          rw [← HL.out] at hnx
          have HCA := Lib.hid hca
          have HNX := Lib.hid hnx
          clear hca hnx hx1 hq hB2 hr hrl
          go_wp2_with (first | (go_at_call 48; refine (HCA.out).mono ?_) | fail)
          rintro e w4 ⟨rfl, hw4⟩
          obtain rfl := hw4.symm
          by_cases hx0 : 0 < x1
          · have dx : decide ((0 : Int) < (x1 : Int)) = true := decide_eq_true (by omega)
            have hnx2 : Hid (l ++ [(x1 : Int)] = hads (T.take (i + 1))) := by have := HNX.out; rw [if_pos hx0] at this; exact this.symm
            go_wp2_with (first | (at_builtin; refine wpList_app1 rfl (.tmp 45) (.tmp 47) rfl rfl (x1 : Int) HO.out rfl (by omega) hsz (fun g2 c2 w6 hl6 hb6 => ?_)) | fail)
            go_roundw
            case rel => exact ⟨i + 1, l ++ [(x1 : Int)], by omega, by go_num, hnx2.out, by rw [List.length_append]; exact hl6, hW.trans hb6⟩
            case measure => simp [intOf]; omega
          · have dx : decide ((0 : Int) < (x1 : Int)) = false := decide_eq_false (by omega)
            have hnx2 : Hid (l = hads (T.take (i + 1))) := by have := HNX.out; rw [if_neg hx0] at this; exact this.symm
            go_wp2
            go_roundw
            case rel => exact ⟨i + 1, l, by omega, by go_num, hnx2.out, HO.out, hW⟩
            case measure => simp [intOf]; omega
        · have di : decide (i < T.length) = false := decide_eq_false hit
          have hfin : Hid (l = hads T) := by show _ = _; rw [HL.out, List.take_of_length_le (by omega)]
          obtain ⟨A6, c6, e6, hn6, hsl, _, _⟩ := own_sliceA HO.out
          have HSL := Lib.hid hsl
          have hS3 := HS3.out.now hW (Nat.le_refl _)
          have hS1 := HS1.out.now hW (Nat.le_refl _)
          have hW0 := Lib.hid (HB1.out.trans (hW.mono HB1.out.size))
          subst e6
          clear hsl HO HL h1 HS3 HS1 hW HB1 hn6 hi
          go_wp2_with (first | (go_at_call 60; refine (shape_any C cap2 O _ HO9.out hS3).mono ?_) | fail)
          rintro e w5 ⟨⟨k5, A5, c5, p, rfl, hp, hp1, hp2⟩, hb5⟩
          have hk5 := hp2 HFO.out
          have hpe := (hp1 hk5).2
          subst hk5
          have hS3' := hS3.keep hb5
          have hS1' := Lib.hid (hS1.keep hb5)
          have HSL5 := Lib.hid (HSL.out.keep hb5)
          have hW5 := Lib.hid (below_call hW0.out (Nat.le_refl _) hb5)
          have HP := Lib.hid hp
          have HPE := Lib.hid hpe
          clear hp hp1 hp2 hS3 hS1 hb5 HSL hW0 hpe
          go_wp2_with (first | (go_at_call 61; refine (standard_any C cap2 O _ HO9.out hS3').mono ?_) | fail)
          rintro e w6 ⟨⟨b6, k6, rfl, hs1, hs2, hs3⟩, hb6⟩
          have hk6 := hs2 HFO.out
          have hbs := (hs1 hk6).2
          subst hk6
          have hS3' := Lib.hid (hS3'.keep hb6)
          have hS1' := Lib.hid (hS1'.out.keep hb6)
          have HSL6 := Lib.hid (HSL5.out.keep hb6)
          have HP6 := Lib.hid (HP.out.keep hb6)
          have hW6 := Lib.hid (below_call hW5.out (Nat.le_refl _) hb6)
          have HBS := Lib.hid hbs
          clear hs1 hs2 hs3 hbs hb6 HP HSL5 hW5
          cases b6 with
          | false =>
            have HNS : Hid (¬ (SkOk T ∧ Std O ∧ lensOf O = hads T)) := Lib.hid (fun hh => by have := HBS.out.2 hh.2.1.2; cases this)
            clear HBS
            go_wp2
            go_ret2
            exact ⟨by_bad HNS.out, hW6.out⟩
          | true =>
            have hstd : Std O := ⟨HFO.out, HBS.out.1 rfl⟩
            have HSTD := Lib.hid hstd
            have hp40 : p.length ≤ 40 := by rw [HPE.out]; unfold lensOf; rw [List.length_map]; exact hO4
            clear hstd HBS
            go_wp2_with (first | (go_at_call 62; refine (equal_any A5 A6 c5 c6 p l _ (by omega) (by omega) HP6.out HSL6.out).mono ?_) | fail)
            rintro e w7 ⟨rfl, hb7⟩
            have hS3' := Lib.hid (hS3'.out.keep hb7)
            have hS1' := Lib.hid (hS1'.out.keep hb7)
            have HP7 := Lib.hid (HP6.out.keep hb7)
            have hW7 := Lib.hid (below_call hW6.out (Nat.le_refl _) hb7)
            clear hb7 HP6 HSL6 hW6
            by_cases hpl : p = l
            · have dp : decide (p = l) = true := decide_eq_true hpl
              have HEQ : Hid (lensOf O = hads T) := Lib.hid (by rw [← HPE.out, hpl, hfin.out])
              have hleft := Left.start HOK.out HSTD.out (lensOf_eq (by rw [← HPE.out, hpl, hfin.out]; rfl))
              have HLEFT := Lib.hid hleft
              have hb40 := HFO.out.2.2
              clear hleft hpl
              go_wp2
              go_loop [16, 70] (fun nv iv => ∃ (i : Nat), i ≤ p.length ∧ iv = .int .i64 i ∧ nv = .int .i64 (boxes (O.take i))) (fun _ iv => p.length - (intOf iv).toNat)
              case atStart => exact ⟨0, Nat.zero_le _, rfl, by simp [boxes]⟩
              case round =>
                obtain ⟨i, hi, rfl, rfl⟩ := hrel
                have hpO : p.length = O.length := by rw [HPE.out]; unfold lensOf; rw [List.length_map]
                by_cases hip : i < p.length
                · have di : decide (i < p.length) = true := decide_eq_true hip
                  obtain ⟨b, o, rfl, hb⟩ := HP7.out.addr (by omega)
                  have hc := getD_cell HP7.out (k := i) hip
                  have hv : p.getD i 0 = ((O.getD i []).length : Int) := by
                    rw [HPE.out]
                    unfold lensOf
                    rw [getD_get (by rw [List.length_map]; omega), List.getElem_map, getD_get (by omega)]
                  have hbt := boxes_take (T := O) (i := i) (by omega)
                  have hble := boxes_le (T := O) (i + 1)
                  obtain ⟨q, hq⟩ : ∃ q, q = (O.getD i []).length := ⟨_, rfl⟩
                  obtain ⟨y, hy⟩ : ∃ y, y = boxes (O.take i) := ⟨_, rfl⟩
                  rw [hv, ← hq] at hc
                  rw [← hq, ← hy] at hbt
                  rw [← hy]
                  have HBT := Lib.hid hbt
                  have hyq : y + q ≤ 40 := by omega
                  clear hv hq hy hbt hble
                  go_wp2
                  go_round
                  case rel => exact ⟨i + 1, by omega, by go_num, by rw [HBT.out]; go_num⟩
                  case measure => simp [intOf]; omega
                · have di : decide (i < p.length) = false := decide_eq_false hip
                  have hall : boxes (O.take i) = boxes O := by rw [List.take_of_length_le (by omega)]
                  rw [hall]
                  clear hall
                  obtain ⟨N, hN⟩ : ∃ N, N = boxes O := ⟨_, rfl⟩
                  have HN := Lib.hid hN
                  rw [← hN] at HLEFT hb40 ⊢
                  have e1 : T.length < 1000000 := by omega
                  have e2 : ∀ i, (T.getD i []).length < 1000000 := fun i => by have := HT5.out i; omega
                  clear hN HP7
                  go_wp2_with (first | (go_at_call 47; refine (stwin_out A cap T _ e1 e2 hS1'.out).mono ?_) | fail)
                  rintro e w8 ⟨v, hs, rfl, hm⟩ hb8
                  obtain ⟨A8, c8, rfl, -, -, -⟩ := hm.sr
                  have hW8 := Lib.hid (below_call hW7.out (Nat.le_refl _) hb8)
                  have HM8 := Lib.hid (hm.low hW7.out.size)
                  clear hm hb8 hS1' hS3' hW7 e1 e2
                  go_wp2
                  go_loopw [16, 19] (fun nv tv wr => ∃ (n : Nat) (t : List (List Int)) (hs : List Value) (A5 : Option Addr) (c5 : Nat), n ≤ N ∧ nv = .int .i64 n ∧ tv = .slice A5 t.length c5 ∧ Left T O t n ∧ OwnM wr w.heap.size (.slice A5 t.length c5) hs t ∧ Below w.heap.size w wr) (fun nv _ _ => (intOf nv).toNat)
                  case atStart => exact ⟨N, T, hs, A8, c8, Nat.le_refl _, rfl, rfl, HLEFT.out, HM8.out, hW8.out⟩
                  case round =>
                    clear HLEFT HM8 hW8
                    obtain ⟨n, t, hs, A5, c5, hnN, rfl, rfl, hleft, hm, hW⟩ := hrel
                    have HLE := Lib.hid hleft
                    have HM := Lib.hid hm
                    have HW := Lib.hid hW
                    clear hleft hm hW
                    by_cases hn0 : 0 < n
                    · have dn : decide ((0 : Int) < (n : Int)) = true := decide_eq_true (by omega)
                      obtain ⟨n', hn'⟩ : ∃ n', n' + 1 = n := ⟨n - 1, by omega⟩
                      have hle := HLE.out
                      rw [← hn'] at hle
                      have hby := Byd.start hle
                      have hnn : n ≤ 40 := by omega
                      have HNN := Lib.hid hn'
                      have HBY := Lib.hid hby
                      have hn40 : n' ≤ 40 := by omega
                      clear hby HLE hle hn'
                      obtain ⟨w9, hw9⟩ : ∃ w9, w9 = wr := ⟨_, rfl⟩
                      subst hw9
                      go_wp2
                      go_loopw [19, 86] (fun tv iv wr => ∃ (i : Nat) (t : List (List Int)) (hs : List Value) (A5 : Option Addr) (c5 : Nat), i ≤ O.length ∧ iv = .int .i64 i ∧ tv = .slice A5 t.length c5 ∧ Byd T O t n' i ∧ OwnM wr w.heap.size (.slice A5 t.length c5) hs t ∧ Below w.heap.size w wr) (fun _ iv _ => O.length - (intOf iv).toNat)
                      case atStart => exact ⟨0, t, hs, A5, c5, Nat.zero_le _, rfl, rfl, HBY.out, HM.out, HW.out⟩
                      case round =>
                        clear HBY HM HW
                        obtain ⟨i, t, hs, A5, c5, hi, rfl, rfl, hby, hm, hW⟩ := hrel
                        have HBY := Lib.hid hby
                        have HM := Lib.hid hm
                        have HW := Lib.hid hW
                        have hSO := HH2.out.below hW
                        have hB := hW.size
                        clear hby hm hW
                        by_cases hiO : i < O.length
                        · have di : decide (i < O.length) = true := decide_eq_true hiO
                          obtain ⟨b, o, rfl, hb⟩ := hSO.addr (by omega)
                          obtain ⟨Ar, cr, hcl, hr, hrl⟩ := hSO.at_ hiO
                          have hix := index_any Ar cr (O.getD i []) (n : Int) wr hrl hr
                          obtain ⟨q, hq⟩ : ∃ q, q = (O.getD i []).length := ⟨_, rfl⟩
                          rw [← hq] at hcl hix
                          have HIX := Lib.hid hix
                          clear hr hrl hq hix hSO
                          go_wp2_with (first | (go_at_call 63; refine (HIX.out).mono ?_) | fail)
                          rintro e w4 ⟨⟨z, rfl, hz⟩, rfl⟩
                          rw [← HNN.out] at hz
                          rcases hz with ⟨j, rfl, hx⟩ | ⟨rfl, hx⟩
                          · obtain ⟨hcfg, hnx⟩ := HBY.out.slide HSTD.out hx
                            have dj : decide ((0 : Int) ≤ (j : Int)) = true := decide_eq_true (by omega)
                            have HCFG := Lib.hid hcfg
                            have HNX := Lib.hid hnx
                            have hts := HBY.out.ok.small
                            have ht1 : t.length ≤ 1000 := by have := hts.1; omega
                            have ht2 : ∀ a, rl t a ≤ 1000 := fun a => Nat.le_trans (hts.2 a) (by omega)
                            have HT2 := Lib.hid ht2
                            clear hcfg hnx hts hx ht2
                            go_wp2_with (first | (go_at_call 49; refine (slid_any _ hs t i j _ hB HM.out HCFG.out ht1 HT2.out).mono ?_) | fail)
                            rintro e w6 ⟨⟨v6, hs6, out, i6, j6, rfl, hm6, hsl, hfr, hft⟩, hb6⟩
                            obtain ⟨A6', c6', rfl, -, -, -⟩ := hm6.sr
                            have hrn := HNX.out _ _ _ hsl
                            have HRN := Lib.hid hrn
                            have HM6 := Lib.hid hm6
                            have hW6 := Lib.hid (HW.out.trans hb6)
                            clear hrn hm6 hsl hfr hft hb6
                            go_wp2
                            go_roundw
                            case rel => exact ⟨i + 1, out, hs6, A6', c6', by omega, by go_num, rfl, HRN.out, HM6.out, hW6.out⟩
                            case measure => simp [intOf]; omega
                          · have dj : decide ((0 : Int) ≤ (-1 : Int)) = false := by decide
                            have hrn := HBY.out.skip hx
                            have HRN := Lib.hid hrn
                            clear hrn hx
                            go_wp2
                            go_roundw
                            case rel => exact ⟨i + 1, t, hs, A5, c5, by omega, by go_num, rfl, HRN.out, HM.out, HW.out⟩
                            case measure => simp [intOf]; omega
                        · have di : decide (i < O.length) = false := decide_eq_false hiO
                          have hiO2 : i = O.length := by omega
                          have hby2 := HBY.out
                          rw [hiO2] at hby2
                          have hdn := hby2.done HSTD.out (by rw [← HN.out]; have := HNN.out; omega)
                          have HDN := Lib.hid hdn
                          clear hby2 hdn hiO2 hSO
                          go_wp2
                          go_roundw
                          case rel => exact ⟨n', t, hs, A5, c5, by have := HNN.out; omega, by have := HNN.out; congr 1; omega, rfl, HDN.out, HM.out, HW.out⟩
                          case measure => simp [intOf]; have := HNN.out; omega
                    · have dn : decide ((0 : Int) < (n : Int)) = false := decide_eq_false (by omega)
                      obtain rfl : n = 0 := by omega
                      have hfn := by_own HM.out HOK.out HSTD.out HEQ.out HLE.out
                      have HFN := Lib.hid hfn
                      clear hfn
                      go_wp2
                      go_ret2
                      exact ⟨HFN.out, HW.out⟩
            · have dp : decide (p = l) = false := decide_eq_false hpl
              have HNS : Hid (¬ (SkOk T ∧ Std O ∧ lensOf O = hads T)) := Lib.hid (fun hh => hpl (by rw [HPE.out, hh.2.2, hfin.out]))
              go_wp2
              go_ret2
              exact ⟨by_bad HNS.out, hW7.out⟩
    · have df : (f != 0) = true := by simpa using hf0
      have HF0 := Lib.hid hf0
      go_wp2
      go_ret2
      exact ⟨by_bad (fun hh => HF0.out (HF2.out hh.2.1.1)), HB1.out⟩
  · have dk : (k != 0) = true := by simpa using hk0
    have HK0 := Lib.hid hk0
    go_wp2
    go_ret2
    exact ⟨by_bad (fun hh => HK0.out (HK2.out hh.1)), HB1.out⟩
end Go.Proofs.Ytpmkdihencepnaa
