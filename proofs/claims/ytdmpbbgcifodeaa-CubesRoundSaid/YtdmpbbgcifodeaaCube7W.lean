/-
  cubes.FromPaths over what Paths wrote: the pile back.
-/
import Derived.Test.YtdmpbbgcifodeaaCube6L
import Derived.BigQuiet
namespace Go.Proofs.Ytdmpbbgcifodeaa
open Go.RowKit

theorem str_cell {w : World} {B b o : Nat} {xs : List (List UInt8)} (h : Sl w B (some ⟨b, o, none⟩) (strs xs)) {k : Nat} {l : List UInt8} (hk : xs[k]? = some l) : w.cell? ⟨b, o + k, none⟩ = some (.string ⟨l.toArray⟩) := by
  have hlt := (List.getElem?_eq_some_iff.1 hk).1
  obtain ⟨b', o', e1, _, hc⟩ := h (by rw [strs_length]; omega)
  obtain ⟨rfl, rfl⟩ : b = b' ∧ o = o' := by simpa using e1
  exact hc k _ (by simp [strs, hk])
theorem pathsOf_get {p : List (List Int)} {r c h q : Nat} (hq : q < h) : (pathsOf p r c h)[q]? = some (edge p r c (q + 1)) := by simp [pathsOf, hq]
theorem cntU_any {p : List (List Int)} {r c h lev : Nat} (hp : Pile p r c h) (w : World) :
    Calls Try.prog 38 #[.string ⟨(edge p r c lev).toArray⟩, .string ⟨#[85]⟩] w fun e w' => e = .returned (.int .i64 r) ∧ w = w' := by
  have := cntB_any (edge p r c lev) 85 w
  rwa [(edge_count (lev := lev) hp).1] at this
theorem cntR_any {p : List (List Int)} {r c h lev : Nat} (hp : Pile p r c h) (w : World) :
    Calls Try.prog 38 #[.string ⟨(edge p r c lev).toArray⟩, .string ⟨#[82]⟩] w fun e w' => e = .returned (.int .i64 c) ∧ w = w' := by
  have := cntB_any (edge p r c lev) 82 w
  rwa [(edge_count (lev := lev) hp).2.1] at this
/-- Rows laid in ahead of i. -/
def laid (r c i : Nat) : List (List Int) := (List.range r).map (fun a => if a < i then List.replicate c 0 else [])
theorem laid_length (r c i : Nat) : (laid r c i).length = r := by simp [laid]
theorem laid_zero (r c : Nat) : List.replicate r [] = laid r c 0 := by
  apply List.ext_getElem (by simp [laid])
  intro a h1 h2; simp [laid]
theorem laid_set {r c i : Nat} (_ : i < r) : (laid r c i).set i (List.replicate c 0) = laid r c (i + 1) := by
  apply List.ext_getElem (by simp [laid])
  intro a h1 h2
  rw [List.getElem_set]
  simp only [laid, List.getElem_map, List.getElem_range]
  by_cases e : i = a
  · subst e; simp
  · rw [if_neg e]
    by_cases e2 : a < i
    · rw [if_pos e2, if_pos (by omega)]
    · rw [if_neg e2, if_neg (by omega)]
theorem laid_all {p : List (List Int)} {r c h : Nat} (hp : Pile p r c h) : laid r c r = fillTo p r c 0 r := by
  rw [fillTo_start hp]
  apply List.ext_getElem (by simp [laid, gmat])
  intro a h1 h2
  have ha : a < r := by simpa [laid] using h1
  simp only [laid, gmat, List.getElem_map, List.getElem_range, if_pos ha]
  apply List.ext_getElem (by simp)
  intro j h3 h4; simp

/-- What is read and what is to come. -/
structure Rd (p : List (List Int)) (r c lev m a k : Nat) : Prop where
  eq : (edge p r c lev).drop k = restW (lam p c lev) c m a
  le : ∀ j, m = j + 1 → a ≤ lam p c lev j
  ac : a ≤ c
theorem Rd.start {p : List (List Int)} {r c lev : Nat} : Rd p r c lev r 0 0 := ⟨rfl, fun _ _ => Nat.zero_le _, Nat.zero_le _⟩
theorem drop_cons_at {e t : List UInt8} {x : UInt8} {k : Nat} (h : e.drop k = x :: t) : e[k]? = some x ∧ e.drop (k + 1) = t := by
  have h1 : (e.drop k)[0]? = some x := by rw [h]; rfl
  have h2 : (e.drop k).drop 1 = t := by rw [h]; rfl
  rw [List.getElem?_drop] at h1
  rw [List.drop_drop] at h2
  exact ⟨h1, h2⟩
theorem Rd.stepR {p : List (List Int)} {r c lev m a k : Nat} (hr : Rd p r c lev (m + 1) a k) (h : a < lam p c lev m) : (edge p r c lev)[k]? = some 82 ∧ Rd p r c lev (m + 1) (a + 1) (k + 1) := by
  have he := hr.eq
  rw [restW_R h] at he
  obtain ⟨h1, h2⟩ := drop_cons_at he
  refine ⟨h1, h2, fun j e => ?_, by have := lam_le p c lev m; omega⟩
  have : j = m := by omega
  rw [this]; omega
theorem Rd.stepU {p : List (List Int)} {r c h lev m a k : Nat} (hp : Pile p r c h) (hm : m < r) (hr : Rd p r c lev (m + 1) a k) (e : a = lam p c lev m) : (edge p r c lev)[k]? = some 85 ∧ Rd p r c lev m a (k + 1) := by
  have he := hr.eq
  rw [restW_U e] at he
  obtain ⟨h1, h2⟩ := drop_cons_at he
  refine ⟨h1, h2, fun j ej => ?_, hr.ac⟩
  rw [e, ej]; rw [ej] at hm; exact lam_mono hp hm
theorem Rd.stepE {p : List (List Int)} {r c lev a k : Nat} (hr : Rd p r c lev 0 a k) (h : a < c) : (edge p r c lev)[k]? = some 82 ∧ Rd p r c lev 0 (a + 1) (k + 1) := by
  have he := hr.eq
  rw [restW_end h] at he
  obtain ⟨h1, h2⟩ := drop_cons_at he
  exact ⟨h1, h2, fun j e => (by omega), h⟩
theorem Rd.len {p : List (List Int)} {r c h lev m a k : Nat} (hp : Pile p r c h) (hr : Rd p r c lev m a k) (hm : m ≤ r) (_ : k ≤ r + c) : r + c - k = m + (c - a) := by
  have h1 := congrArg List.length hr.eq
  rw [List.length_drop, (edge_count (lev := lev) hp).2.2, (restW_count (lam_le p c lev) m a (fun i hi => lam_mono hp (by omega)) hr.le hr.ac).2.2] at h1
  exact h1

theorem byte_of {s : ByteArray} {e : List UInt8} {k : Nat} {x : UInt8} (hs : s = ⟨e.toArray⟩) (hx : e[k]? = some x) (hk : k < s.size) : s[k] = x := by
  subst hs
  obtain ⟨h1, h2⟩ := List.getElem?_eq_some_iff.1 hx
  show e.toArray[k] = x
  simpa using h2
/-- Row m being filled, as far as j. -/
def midTo (p : List (List Int)) (r c lev m j : Nat) : List (List Int) := (fillTo p r c lev (m + 1)).set m (fillRow p c lev m j)
theorem fillTo_length (p : List (List Int)) (r c lev m : Nat) : (fillTo p r c lev m).length = r := by simp [fillTo, gmat]
theorem fillRow_length (p : List (List Int)) (c lev m j : Nat) : (fillRow p c lev m j).length = c := by simp [fillRow]
theorem midTo_length (p : List (List Int)) (r c lev m j : Nat) : (midTo p r c lev m j).length = r := by simp [midTo, fillTo_length]
theorem midTo_row {p : List (List Int)} {r c lev m j : Nat} (hm : m < r) : (midTo p r c lev m j).getD m [] = fillRow p c lev m j := by
  unfold midTo
  rw [List.getD_eq_getElem?_getD, List.getElem?_set_self (by rw [fillTo_length]; exact hm)]; rfl
theorem midTo_zero {p : List (List Int)} {r c lev m : Nat} (hm : m < r) : fillTo p r c lev (m + 1) = midTo p r c lev m 0 := by
  unfold midTo
  rw [← fillRow_zero (m := m + 1) hm (by omega)]
  apply List.ext_getElem (by simp)
  intro a h1 h2
  rw [List.getElem_set]
  by_cases e : m = a
  · subst e; rw [if_pos rfl, getD_get h1]
  · rw [if_neg e]
theorem midTo_step {p : List (List Int)} {r c h lev m j : Nat} (hp : Pile p r c h) (hm : m < r) (hj : j < lam p c (lev + 1) m) : (midTo p r c lev m j).set m (((midTo p r c lev m j).getD m []).set j ((lev : Int) + 1)) = midTo p r c lev m (j + 1) := by
  rw [midTo_row hm, (fillRow_at hp hm hj).2]
  unfold midTo
  rw [List.set_set]
theorem midTo_end {p : List (List Int)} {r c h lev m : Nat} (hp : Pile p r c h) (hm : m < r) : midTo p r c lev m (lam p c (lev + 1) m) = fillTo p r c lev m := fillRow_end hp hm

set_option maxRecDepth 100000 in
set_option maxHeartbeats 1000000 in
theorem fromPaths_ok (A : Option Addr) (cap : Nat) (p : List (List Int)) (r c h : Nat) (hp : Pile p r c h) (w : World) (hs : Sl w w.heap.size A (strs (pathsOf p r c h))) :
    Calls Try.prog 49 #[.slice A h cap] w fun e w' => CubeOut e w' 0 p ∧ Below w.heap.size w w' := by
  have hr8 := hp.r1
  have hc8 := hp.c1
  have hh8 := hp.h1
  obtain ⟨b, o, rfl, hb, hfill⟩ := hs (by rw [strs_length, pathsOf_length]; omega)
  have HF := Lib.hid hfill
  have hx0 := str_cell hs (pathsOf_get (p := p) (r := r) (c := c) (h := h) (q := 0) (by omega))
  rw [Nat.add_zero] at hx0
  obtain ⟨s0, hs0⟩ : ∃ s0 : ByteArray, s0 = ⟨(edge p r c (0 + 1)).toArray⟩ := ⟨_, rfl⟩
  have cU : ∀ w, Calls Try.prog 38 #[.string s0, .string ⟨#[85]⟩] w fun e w' => e = .returned (.int .i64 r) ∧ w' = w := fun w => by
    rw [hs0]; exact (cntU_any hp w).mono (fun e w' h => ⟨h.1, h.2.symm⟩)
  have cR : ∀ w, Calls Try.prog 38 #[.string s0, .string ⟨#[82]⟩] w fun e w' => e = .returned (.int .i64 c) ∧ w' = w := fun w => by
    rw [hs0]; exact (cntR_any hp w).mono (fun e w' h => ⟨h.1, h.2.symm⟩)
  rw [← hs0] at hx0
  have HCU := Lib.hid cU
  have HCR := Lib.hid cR
  have HP := Lib.hid hp
  clear hp hfill hs0 cU cR
  have d1 : decide ((h : Int) < 1) = false := decide_eq_false (by omega)
  have d2 : decide ((8 : Int) < (h : Int)) = false := decide_eq_false (by omega)
  have d3 : decide ((r : Int) < 1) = false := decide_eq_false (by omega)
  have d4 : decide ((8 : Int) < (r : Int)) = false := decide_eq_false (by omega)
  have d5 : decide ((c : Int) < 1) = false := decide_eq_false (by omega)
  have d6 : decide ((8 : Int) < (c : Int)) = false := decide_eq_false (by omega)
  go_enter Try.func49, Try.ntmps49
  go_wp2
  go_quiet (first | (go_at_call_of 38 (Value.string ⟨#[85]⟩); exact Calls.quiet_of_same (HCU.out _)) | (go_at_call_of 38 (Value.string ⟨#[82]⟩); exact Calls.quiet_of_same (HCR.out _)))
  have hW0 := below_drewN (Below.refl w.heap.size w) nq
  have hz0 : (w.drewN nq).heap.size = w.heap.size := rfl
  obtain ⟨wq, hwq⟩ : ∃ wq, wq = w.drewN nq := ⟨_, rfl⟩
  rw [← hwq] at hW0 hz0 ⊢
  clear hwq
  go_wp2_with (first | (refine wpList_mkM (base := w.heap.size) rfl (.tmp 44) (.tmp 44) rfl r rfl rfl (by omega) (Nat.le_of_eq hz0.symm) (fun w1 hown1 hb1 hz1 => ?_)) | fail)
  rw [laid_zero r c] at hown1
  rw [hz0] at hown1 hb1 hz1
  have HM1 := Lib.hid hown1
  have hW1 := hW0.trans hb1
  clear hown1 hb1
  go_loopw [48] (fun iv wr => ∃ (i : Nat) (hv : List Value), i ≤ r ∧ iv = .int .i64 i ∧ OwnM wr w.heap.size (.slice (some ⟨w.heap.size, 0, none⟩) r r) hv (laid r c i) ∧ Below w.heap.size w wr) (fun iv _ => r - (intOf iv).toNat)
  case atStart => exact ⟨0, _, Nat.zero_le _, rfl, HM1.out, hW1⟩
  case round =>
    clear HM1 hW1 hz1 w1 hW0 hz0 wq nq hx0 HCU HCR d1 d2 d3 d4 d5 d6
    obtain ⟨i, hv, hi, rfl, hm, hW⟩ := hrel
    have HM := Lib.hid hm
    have hsz := hW.size
    clear hm
    by_cases hir : i < r
    · have di : decide ((i : Int) < (r : Int)) = true := decide_eq_true (by omega)
      have ho := HM.out.out
      rw [laid_length] at ho
      have hget := HM.out.get (r := i) (by rw [laid_length]; exact hir)
      go_wp2_with (first | (refine wpList_mk (base := w.heap.size) rfl (.tmp 53) (.tmp 53) rfl c rfl rfl (by omega) hsz (fun w2 hown2 hb2 hz2 => ?_); have ho2 := own_below ho hb2; have hcell2 := (ho2.cellAt i (by omega)).trans hget; have hfr2 := ho2.frozenAt i; have HO2 := Lib.hid hown2; have HB2 := Lib.hid hb2; clear hown2 hb2 hz2 ho ho2 hget) | fail)
      go_roundw
      case rel =>
        have hb2 := HB2.out
        have hm2 := HM.out.below hb2
        have hfn := HM.out.far_new (u := .slice (some ⟨wr.heap.size, 0, none⟩) c c) (fun k hk => by
          obtain rfl : wr.heap.size = k := by simpa [Value.ownBlock] using hk
          exact Nat.le_refl _)
        have hl : (List.replicate c (0 : Int)).length = c := by simp
        have hmp := hm2.putRow (i := i) (by rw [laid_length]; exact hir) (l := List.replicate c 0) (by rw [hl]; exact HO2.out) hfn.1 hfn.2
        rw [laid_set hir] at hmp
        exact ⟨i + 1, _, by omega, rfl, hmp, (hW.trans (hb2.mono hsz)).setCell (p := ⟨w.heap.size, i, none⟩) (Nat.le_refl _) _⟩
      case measure => simp [intOf]; omega
    · have hie : r = i := by omega
      subst hie
      have di : decide ((r : Int) < (r : Int)) = false := decide_eq_false (by omega)
      have hm := HM.out
      rw [laid_all HP.out] at hm
      have HM' := Lib.hid hm
      clear hm
      clear HM hir hi
      go_wp2
      go_loopw [59] (fun qv wz => ∃ (q : Nat) (hv : List Value), q ≤ h ∧ qv = .int .i64 q ∧ OwnM wz w.heap.size (.slice (some ⟨w.heap.size, 0, none⟩) r r) hv (fillTo p r c q r) ∧ Below w.heap.size w wz) (fun qv _ => h - (intOf qv).toNat)
      case atStart => exact ⟨0, hv, Nat.zero_le _, rfl, HM'.out, hW⟩
      case round =>
        obtain ⟨w9, rfl⟩ : ∃ w9, w9 = wr := ⟨_, rfl⟩
        clear HM' hv hsz hW
        obtain ⟨q, hv, hq, rfl, hm, hW⟩ := hrel
        have HM := Lib.hid hm
        have hsz := hW.size
        clear hm
        by_cases hqh : q < h
        · have dq : decide ((q : Int) < (h : Int)) = true := decide_eq_true (by omega)
          obtain ⟨s, hse⟩ : ∃ s : ByteArray, s = ⟨(edge p r c (q + 1)).toArray⟩ := ⟨_, rfl⟩
          have cU : ∀ w, Calls Try.prog 38 #[.string s, .string ⟨#[85]⟩] w fun e w' => e = .returned (.int .i64 r) ∧ w = w' := fun w => by
            rw [hse]; exact cntU_any HP.out w
          have cR : ∀ w, Calls Try.prog 38 #[.string s, .string ⟨#[82]⟩] w fun e w' => e = .returned (.int .i64 c) ∧ w = w' := fun w => by
            rw [hse]; exact cntR_any HP.out w
          have hx := (hW.cell (p := ⟨b, o + q, none⟩) hb).trans (str_cell hs (pathsOf_get (p := p) (r := r) (c := c) hqh))
          rw [← hse] at hx
          have hss : s.size = r + c := by rw [hse]; exact (edge_count (lev := q + 1) HP.out).2.2
          have ds : (((s.size : Nat) : Int) != (r : Int) + (c : Int)) = false := by rw [hss]; simp
          have HSE := Lib.hid hse
          have HSS := Lib.hid hss
          have HCU := Lib.hid cU
          have HCR := Lib.hid cR
          clear hse hss cU cR
          go_wp2_with (first | (go_at_call_of 38 (Value.string ⟨#[85]⟩); refine (HCU.out _).mono ?_) | fail)
          rintro e w5 ⟨rfl, rfl⟩
          go_wp2_with (first | (go_at_call_of 38 (Value.string ⟨#[82]⟩); refine (HCR.out _).mono ?_) | fail)
          rintro e w5 ⟨rfl, rfl⟩
          clear HCU HCR hx ds
          have hss2 : Hid ((s.size : Int) = (r : Int) + (c : Int)) := by show _ = _; rw [HSS.out]; simp
          go_wp2
          go_loopw [10, 11, 86] (fun iv av kv wy => ∃ (m a k : Nat) (hv : List Value), m ≤ r ∧ k ≤ r + c ∧ iv = .int .i64 ((m : Int) - 1) ∧ av = .int .i64 a ∧ kv = .int .i64 k ∧ Rd p r c (q + 1) m a k ∧ OwnM wy w.heap.size (.slice (some ⟨w.heap.size, 0, none⟩) r r) hv (fillTo p r c q m) ∧ Below w.heap.size w wy) (fun _ _ kv _ => r + c - (intOf kv).toNat)
          case atStart => exact ⟨r, 0, 0, hv, Nat.le_refl _, Nat.zero_le _, rfl, rfl, rfl, Rd.start, HM.out, hW⟩
          case round =>
            obtain ⟨w8, rfl⟩ : ∃ w8, w8 = wr := ⟨_, rfl⟩
            clear HM hv hW hsz
            obtain ⟨m, a, k, hv, hmr, hk, rfl, rfl, rfl, hrd, hm, hW⟩ := hrel
            have HM := Lib.hid hm
            have HRD := Lib.hid hrd
            have hac := hrd.ac
            have hsz := hW.size
            clear hm hrd
            have hlen := HRD.out.len HP.out hmr hk
            by_cases hkc : k < r + c
            · have hkS : k < s.size := by rw [HSS.out]; exact hkc
              have dk : decide ((k : Int) < (s.size : Int)) = true := decide_eq_true (by omega)
              cases m with
              | zero =>
                obtain ⟨hby, hnx⟩ := HRD.out.stepE (by omega)
                have hbt : ∀ hh : k < s.size, (((s[k]'hh).toNat : Int) == 82) = true := fun hh => by rw [byte_of HSE.out hby hh]; rfl
                have HNX := Lib.hid hnx
                clear hnx hby
                go_wp2
                go_roundw
                case rel => exact ⟨0, a + 1, k + 1, hv, by omega, by omega, rfl, rfl, rfl, HNX.out, HM.out, hW⟩
                case measure => simp [intOf]; omega
              | succ m =>
                have hal := HRD.out.le m rfl
                by_cases hlt : a < lam p c (q + 1) m
                · obtain ⟨hby, hnx⟩ := HRD.out.stepR hlt
                  have hbt : ∀ hh : k < s.size, (((s[k]'hh).toNat : Int) == 82) = true := fun hh => by rw [byte_of HSE.out hby hh]; rfl
                  have HNX := Lib.hid hnx
                  clear hnx hby hlt hal
                  go_wp2
                  go_roundw
                  case rel => exact ⟨m + 1, a + 1, k + 1, hv, by omega, by omega, rfl, rfl, rfl, HNX.out, HM.out, hW⟩
                  case measure => simp [intOf]; omega
                · have hae : a = lam p c (q + 1) m := by omega
                  obtain ⟨hby, hnx⟩ := HRD.out.stepU HP.out (by omega) hae
                  have hbt : ∀ hh : k < s.size, (((s[k]'hh).toNat : Int) == 82) = false := fun hh => by rw [byte_of HSE.out hby hh]; rfl
                  have HNX := Lib.hid hnx
                  have HAE := Lib.hid hae
                  have hmr2 : m < r := by omega
                  have e1 : ((m + 1 : Nat) : Int) - 1 = (m : Int) := by omega
                  rw [e1]
                  have hm0 := HM.out
                  rw [midTo_zero hmr2] at hm0
                  have HM0 := Lib.hid hm0
                  clear hnx hby hlt hal hae e1 hm0
                  go_wp2
                  go_loopw [96] (fun jv wx => ∃ (j : Nat) (hv : List Value), j ≤ a ∧ jv = .int .i64 j ∧ OwnM wx w.heap.size (.slice (some ⟨w.heap.size, 0, none⟩) r r) hv (midTo p r c q m j) ∧ Below w.heap.size w wx) (fun jv _ => a - (intOf jv).toNat)
                  case atStart => exact ⟨0, hv, Nat.zero_le _, rfl, HM0.out, hW⟩
                  case round =>
                    clear hbt dk HM0 HM hv hW hsz hlen
                    obtain ⟨j, hv, hj, rfl, hm, hW⟩ := hrel
                    have HM := Lib.hid hm
                    have hsz := hW.size
                    by_cases hja : j < a
                    · have dj : decide ((j : Int) < (a : Int)) = true := decide_eq_true (by omega)
                      obtain ⟨gr, cr, hhr, hcr, hor, hg1, hg2⟩ := hm.row (r := m) (by rw [midTo_length]; exact hmr2) (by rw [midTo_row hmr2, fillRow_length]; omega)
                      have hat := (fillRow_at (lev := q) HP.out hmr2 (k := j) (by rw [← HAE.out]; exact hja)).1
                      rw [midTo_row hmr2, fillRow_length] at hcr hor
                      have hx := own_get hor (i := j) hat
                      have hfr := hor.frozenAt j
                      have hst := hm.setIn (r := m) (g := gr) (c := cr) (by rw [midTo_length]; exact hmr2) hhr j ((q : Int) + 1)
                      rw [midTo_step HP.out hmr2 (by rw [← HAE.out]; exact hja)] at hst
                      have hWs := hW.setCell (p := ⟨gr, j, none⟩) hg1 (.int .i64 ((q : Int) + 1))
                      have HST := Lib.hid hst
                      have HWS := Lib.hid hWs
                      clear hst hWs hor hhr hm hat
                      go_wp2
                      go_roundw
                      case rel => exact ⟨j + 1, hv, by omega, rfl, HST.out, HWS.out⟩
                      case measure => simp [intOf]; omega
                    · have hje : j = a := by omega
                      have dj : decide ((j : Int) < (a : Int)) = false := decide_eq_false (by omega)
                      rw [hje, HAE.out, midTo_end HP.out hmr2] at hm
                      have HM2 := Lib.hid hm
                      clear hm hje
                      go_wp2
                      go_roundw
                      case rel => exact ⟨m, a, k + 1, hv, by omega, by omega, rfl, rfl, rfl, HNX.out, HM2.out, hW⟩
                      case measure => simp [intOf]; omega
            · have hkS : ¬ k < s.size := by rw [HSS.out]; exact hkc
              have dk : decide ((k : Int) < (s.size : Int)) = false := decide_eq_false (by omega)
              have hm0 : 0 = m := by omega
              subst hm0
              go_wp2
              go_roundw
              case rel => exact ⟨q + 1, hv, by omega, rfl, by rw [← fillTo_next]; exact HM.out, hW⟩
              case measure => simp [intOf]; omega
        · have hqe : h = q := by omega
          subst hqe
          have dq : decide ((h : Int) < (h : Int)) = false := decide_eq_false (by omega)
          have hm := HM.out
          rw [fillTo_end HP.out] at hm
          have HM' := Lib.hid hm
          clear hm
          go_wp2
          go_ret2
          exact ⟨cubeOut_own HM'.out 0, hW⟩
end Go.Proofs.Ytdmpbbgcifodeaa
