/-
  parts.Franklin: what it answers.
-/
import Derived.Test.YtdmpbbgcifodeaaPart1W
namespace Go.Proofs.Ytdmpbbgcifodeaa
open Go.RowKit

instance (p : List Int) (k : Nat) : Decidable (CaseA p k) := by unfold CaseA; infer_instance
instance (p : List Int) (k : Nat) : Decidable (CaseB p k) := by unfold CaseB; infer_instance

def FrOut (ys : List Int) (mv : Bool) (e : Ending) (w' : World) : Prop :=
  ∃ A' c', e = .returned (.tuple #[.slice A' ys.length c', .bool mv, .int .i64 0]) ∧ Sl w' w'.heap.size A' (ints ys)

def FrRes (p : List Int) (e : Ending) (w' : World) : Prop :=
  (¬ Good p ∧ ∃ k, k ≠ 0 ∧ e = .returned (.tuple #[.slice none 0 0, .bool false, .int .i64 k])) ∨
  (Good p ∧ p = [] ∧ FrOut p false e w') ∨
  (Good p ∧ 0 < p.length ∧ ∃ k, IsRun p k ∧ ((CaseA p k ∧ FrOut (upA p) true e w') ∨ (CaseB p k ∧ FrOut (upB p k) true e w') ∨ (¬ CaseA p k ∧ ¬ CaseB p k ∧ FrOut p false e w')))

theorem addK_set {xs : List Int} {i : Nat} {d : Int} : (addK xs i d).set i (xs.getD i 0 + d) = addK xs (i + 1) d := by
  apply ext_getD
  · rw [List.length_set, addK_length, addK_length]
  · intro j hj
    rw [List.length_set, addK_length] at hj
    rw [addK_getD hj, getD_get (by rw [List.length_set, addK_length]; exact hj), List.getElem_set]
    by_cases e : i = j
    · subst e; rw [if_pos rfl, if_pos (by omega)]
    · rw [if_neg e, ← getD_get (d := 0), addK_getD hj]
      by_cases e2 : j < i
      · rw [if_pos e2, if_pos (by omega)]
      · rw [if_neg e2, if_neg (by omega)]
theorem addK_at {xs : List Int} {i : Nat} {d : Int} (h : i < xs.length) : (addK xs i d)[i]? = some (xs.getD i 0) := by
  rw [List.getElem?_eq_getElem (by rw [addK_length]; exact h), ← getD_get (d := 0), addK_getD h, if_neg (by omega), Int.add_zero]
theorem addK_zero (xs : List Int) (d : Int) : addK xs 0 d = xs := by simp [addK]
theorem addK_take {xs : List Int} {m n : Nat} {d : Int} (h : m ≤ n) : (addK xs m d).take n = addK (xs.take n) m d := by
  unfold addK
  rw [List.take_append, List.take_of_length_le (by simp; omega), List.take_take, Nat.min_eq_left h]
  congr 1
  rw [List.length_map, List.length_take, List.drop_take]
  by_cases hm : m ≤ xs.length
  · rw [Nat.min_eq_left hm]
  · rw [List.drop_of_length_le (by omega)]; simp

theorem mem_le_sum : ∀ {p : List Int}, (∀ x ∈ p, 1 ≤ x) → ∀ x ∈ p, x ≤ p.sum
  | y :: p, h, x, hx => by
    have h1 := sum_nonneg (xs := p) (fun z hz => h z (List.mem_cons_of_mem _ hz))
    have h2 := h y (by simp)
    rw [List.sum_cons]
    rcases List.mem_cons.1 hx with rfl | hx
    · omega
    · have := mem_le_sum (fun z hz => h z (List.mem_cons_of_mem _ hz)) x hx; omega
theorem part_le_sum {p : List Int} (h : IsPart p) {i : Nat} (hi : i < p.length) : p.getD i 0 ≤ p.sum :=
  mem_le_sum h.mem _ (by rw [getD_get hi]; exact List.getElem_mem hi)

theorem Sl.prefix {w : World} {B : Nat} {A : Option Addr} {xs : List Int} (h : Sl w B A (ints xs)) (m : Nat) : Sl w B A (ints (xs.take m)) := fun hp => by
  obtain ⟨b, o, e, hb, hc⟩ := h (by rw [ints_length] at hp ⊢; rw [List.length_take] at hp; omega)
  refine ⟨b, o, e, hb, fun k u hk => hc k u ?_⟩
  rw [ints, List.map_take, List.getElem?_take] at hk
  split at hk
  · exact hk
  · cases hk

set_option maxRecDepth 100000 in
set_option maxHeartbeats 2000000 in
theorem franklin_any (A : Option Addr) (cap : Nat) (p : List Int) (w : World) (hcl : p.length ≤ 9223372036854775807) (h : Sl w w.heap.size A (ints p)) :
    Calls Try.prog 13 #[.slice A p.length cap] w fun e w' => FrRes p e w' ∧ Below w.heap.size w w' := by
  by_cases hc : partChk p = 0
  · obtain ⟨hpart, hsum⟩ := partChk_zero.1 hc
    have hlen := hpart.len hsum
    have HC := Lib.hid hc
    have HPA := Lib.hid hpart
    have HS := Lib.hid hsum
    clear hc hpart hsum
    by_cases hu : IsUnlike p
    · have HU : Hid (decide (IsUnlike p) = true) := decide_eq_true hu
      have HG : Hid (Good p) := ⟨HPA.out, hu, HS.out⟩
      clear hu
      go_enter Try.func13, Try.ntmps13
      go_wp2_with fail
      refine (pcheck_any _ _ _ _ hcl h).mono ?_
      rintro e w0 ⟨rfl, rfl⟩
      rw [HC.out]
      go_wp2_with fail
      refine (unlike_any _ _ _ _ (by omega) h).mono ?_
      rintro e w1 ⟨rfl, hb1⟩
      rw [HU.out]
      go_wp2_with fail
      refine (clone_any _ _ _ _ (by omega) (h.now hb1 (Nat.le_refl _))).mono ?_
      rintro e w2 ⟨v, rfl, hown, hb2⟩
      by_cases hn : p.length = 0
      · obtain ⟨A', c', rfl, _, hs, _, _⟩ := own_slice hown
        have hp0 : p = [] := List.eq_nil_of_length_eq_zero hn
        go_wp2
        go_ret3
        subst hp0
        exact ⟨.inr (.inl ⟨HG.out, rfl, A', c', rfl, hs⟩), below_call hb1 (Nat.le_refl _) hb2⟩
      · obtain ⟨g, c, hv, hg1, hg2⟩ := hown.form (by omega)
        subst hv
        have HO := Lib.hid hown
        have hW2 : Below w.heap.size w w2 := below_call hb1 (Nat.le_refl _) hb2
        have hnp : 0 < p.length := by omega
        have hcl' := own_get hown (i := p.length - 1) (z := p.getD (p.length - 1) 0) (by rw [getD_get (by omega)]; exact List.getElem?_eq_getElem _)
        have hl1 := HPA.out.1 (p.length - 1) (by omega)
        have hl40 : p.getD (p.length - 1) 0 ≤ 40 := by
          have := part_le_sum HPA.out (i := p.length - 1) (by omega)
          have := HS.out
          omega
        obtain ⟨L, hL⟩ : ∃ L : Nat, p.getD (p.length - 1) 0 = L := ⟨(p.getD (p.length - 1) 0).toNat, by omega⟩
        rw [hL] at hcl' hl40 hl1
        have HL := Lib.hid hL
        clear hown hL hn
        go_upto_block 0 with fail
        go_cut [9] (fun rv wz => ∃ k : Nat, IsRun p k ∧ rv = .int .i64 k ∧ ∃ d, wz = w2.drewN d)
        case first =>
          go_wp2_with fail
          go_loopw [9] (fun rv wr => ∃ k : Nat, 1 ≤ k ∧ k ≤ p.length ∧ rv = .int .i64 k ∧ (∀ j, 1 ≤ j → j < k → p.getD j 0 = p.getD (j - 1) 0 - 1) ∧ ∃ d, wr = w2.drewN d) (fun rv _ => p.length - (intOf rv).toNat)
          case atStart => exact ⟨1, by omega, by omega, rfl, fun j h1 h2 => by omega, 0, rfl⟩
          case round =>
            obtain ⟨k, hk1, hkn, rfl, hall, d, rfl⟩ := hrel
            have HALL := Lib.hid hall
            clear hall
            by_cases hkl : k < p.length
            · have hd0 : decide ((k : Int) < (p.length : Int)) = true := by simp; omega
              have hcx := own_get HO.out (i := k) (z := p.getD k 0) (by rw [getD_get (by omega)]; exact List.getElem?_eq_getElem _)
              have hcy := own_get HO.out (i := k - 1) (z := p.getD (k - 1) 0) (by rw [getD_get (by omega)]; exact List.getElem?_eq_getElem _)
              have hy1 := HPA.out.1 (k - 1) (by omega)
              have hy2 := part_le_sum HPA.out (i := k - 1) (by omega)
              have hy3 := HS.out
              have hy4 : p.getD (k - 1) 0 ≤ 40 := by omega
              clear hy2 hy3
              have hyes : Hid (p.getD k 0 = p.getD (k - 1) 0 - 1 → ∀ j, 1 ≤ j → j < k + 1 → p.getD j 0 = p.getD (j - 1) 0 - 1) := fun h1 j h2 h3 => by
                by_cases e : j = k
                · subst e; exact h1
                · exact HALL.out j h2 (by omega)
              have hno : Hid (p.getD k 0 ≠ p.getD (k - 1) 0 - 1 → IsRun p k) := fun h1 => ⟨hk1, hkn, HALL.out, .inr h1⟩
              obtain ⟨x, hx⟩ : ∃ x, x = p.getD k 0 := ⟨_, rfl⟩
              obtain ⟨y, hy⟩ : ∃ x, x = p.getD (k - 1) 0 := ⟨_, rfl⟩
              rw [← hx] at hcx hyes hno
              rw [← hy] at hcy hyes hno hy1 hy4
              clear hx hy
              by_cases hxy : x = y - 1
              · have hd1 : (x == y - 1) = true := by simpa using hxy
                have HY := Lib.hid (hyes.out hxy)
                clear hyes hno hxy
                go_wp2
                go_quiet (fail)
                go_wp2
                go_roundw
                case rel => exact ⟨k + 1, by omega, by omega, by go_num, HY.out, _, rfl⟩
                case measure => simp [intOf]; omega
              · have hd1 : (x == y - 1) = false := by simpa using hxy
                have HY := Lib.hid (hno.out hxy)
                clear hyes hno hxy
                go_wp2
                go_quiet (fail)
                go_wp2
                go_meet
                exact ⟨k, HY.out, rfl, _, World.drewN_drewN ..⟩
            · have hd0 : decide ((k : Int) < (p.length : Int)) = false := by simp; omega
              go_wp2
              go_quiet (fail)
              go_wp2
              go_meet
              exact ⟨k, ⟨hk1, hkn, HALL.out, .inl (by omega)⟩, rfl, _, World.drewN_drewN ..⟩
        case rest =>
          obtain ⟨k, hrun, rfl, d, rfl⟩ := hcut
          have hk1 := hrun.1
          have hkn := hrun.2.1
          have HR := Lib.hid hrun
          clear hrun
          have hca : Hid (CaseA p k ↔ L ≤ k ∧ ¬ (k = p.length ∧ L = p.length)) := by
            show _ ↔ _
            unfold CaseA
            rw [HL.out]
            constructor
            · rintro ⟨h1, h2⟩; exact ⟨by omega, fun ⟨h3, h4⟩ => h2 ⟨h3, by omega⟩⟩
            · rintro ⟨h1, h2⟩; exact ⟨by omega, fun ⟨h3, h4⟩ => h2 ⟨h3, by omega⟩⟩
          have hcb : Hid (CaseB p k ↔ k < L ∧ ¬ (k = p.length ∧ L = p.length + 1)) := by
            show _ ↔ _
            unfold CaseB
            rw [HL.out]
            constructor
            · rintro ⟨h1, h2⟩; exact ⟨by omega, fun ⟨h3, h4⟩ => h2 ⟨h3, by omega⟩⟩
            · rintro ⟨h1, h2⟩; exact ⟨by omega, fun ⟨h3, h4⟩ => h2 ⟨h3, by omega⟩⟩
          have hdw : Below w.heap.size w (w2.drewN d) := below_drewN hW2 d
          have hod := own_drewN HO.out d
          have HOD := Lib.hid hod
          have hsz : w1.heap.size ≤ (w2.drewN d).heap.size := hb2.size
          have hgz : g < (w2.drewN d).heap.size := hg2
          obtain ⟨wd, hwd⟩ : ∃ wd, wd = w2.drewN d := ⟨_, rfl⟩
          rw [← hwd] at hdw HOD hsz hgz ⊢
          clear hod hcl' hwd
          go_upto_region 14 with fail
          go_cut [52] (fun tv wz => tv = .bool (decide (CaseA p k)) ∧ wz = wd)
          case first =>
            by_cases h1 : L ≤ k
            · have hd1 : decide (L ≤ k) = true := decide_eq_true h1
              by_cases h2 : k = p.length
              · have hd2 : ((k : Int) == (p.length : Int)) = true := by simp; omega
                by_cases h3 : L = p.length
                · have hd3 : ((L : Int) == (p.length : Int)) = true := by simp; omega
                  have hfin : Hid (decide (CaseA p k) = false) := decide_eq_false (fun h => (hca.out.1 h).2 ⟨h2, h3⟩)
                  clear h1 h2 h3
                  go_wp2
                  go_meet
                  exact ⟨by rw [hfin.out], rfl⟩
                · have hd3 : ((L : Int) == (p.length : Int)) = false := by simp; omega
                  have hfin : Hid (decide (CaseA p k) = true) := decide_eq_true (hca.out.2 ⟨h1, fun h => h3 h.2⟩)
                  clear h1 h2 h3
                  go_wp2
                  go_meet
                  exact ⟨by rw [hfin.out], rfl⟩
              · have hd2 : ((k : Int) == (p.length : Int)) = false := by simp; omega
                have hfin : Hid (decide (CaseA p k) = true) := decide_eq_true (hca.out.2 ⟨h1, fun h => h2 h.1⟩)
                clear h1 h2
                go_wp2
                go_meet
                exact ⟨by rw [hfin.out], rfl⟩
            · have hd1 : decide (L ≤ k) = false := decide_eq_false h1
              have hfin : Hid (decide (CaseA p k) = false) := decide_eq_false (fun h => h1 (hca.out.1 h).1)
              clear h1
              go_wp2
              go_meet
              exact ⟨by rw [hfin.out], rfl⟩
          case rest =>
            obtain ⟨rfl, rfl⟩ := hcut
            by_cases hA : CaseA p k
            · have hres := caseA HG.out HR.out hA
              rw [HL.out, Int.toNat_natCast] at hres
              obtain ⟨_, _, hql, _, hLn, _⟩ := hres
              rw [decide_eq_true hA]
              have HA := Lib.hid hA
              have hcap := own_cap HOD.out
              clear hA
              go_wp2_with fail
              go_loopw [72] (fun iv wr => ∃ i : Nat, i ≤ L ∧ iv = .int .i64 i ∧ wr.ownsRow w1.heap.size 3 1 (.slice (some ⟨g, 0, none⟩) p.length c) p.length (ints (addK p i 1)) ∧ Below w.heap.size w wr ∧ w1.heap.size ≤ wr.heap.size) (fun iv _ => L - (intOf iv).toNat)
              case atStart => exact ⟨0, by omega, rfl, by rw [addK_zero]; exact HOD.out, hdw, hsz⟩
              case round =>
                obtain ⟨i, hi, rfl, hown, hbl, hsz'⟩ := hrel
                have HO' := Lib.hid hown
                clear hown
                by_cases hlt : i < L
                · have hcx := own_get HO'.out (addK_at (d := 1) (show i < p.length by omega))
                  have hfr := HO'.out.frozenAt i
                  have hx1 := HPA.out.1 i (by omega)
                  have hx2 := part_le_sum HPA.out (i := i) (by omega)
                  have hx3 := HS.out
                  have hx4 : p.getD i 0 ≤ 40 := by omega
                  have hst := own_set HO'.out i (p.getD i 0 + 1)
                  rw [addK_set] at hst
                  have HST := Lib.hid hst
                  obtain ⟨x, hx⟩ : ∃ x, x = p.getD i 0 := ⟨_, rfl⟩
                  rw [← hx] at hcx hx1 hx4 HST
                  clear hx hst hx2 hx3
                  go_wp2
                  go_roundw
                  case rel => exact ⟨i + 1, by omega, by go_num, HST.out, hbl.setCell (by have := hb1.size; show _ ≤ g; omega) _, by simpa using hsz'⟩
                  case measure => simp [intOf]; omega
                · obtain rfl : i = L := by omega
                  have hup : (addK p i 1).take (p.length - 1) = upA p := by unfold upA; rw [addK_take hLn, HL.out, Int.toNat_natCast]
                  have hsl := (Sl.of_own HO'.out).prefix (p.length - 1)
                  rw [hup] at hsl
                  have hcl := clone_any (some ⟨g, 0, none⟩) c (upA p) wr (by omega) hsl
                  rw [show (upA p).length = p.length - 1 by omega] at hcl
                  have HQL : Hid ((upA p).length = p.length - 1) := by show _ = _; omega
                  go_wp2_with fail
                  refine hcl.mono ?_
                  rintro e w5 ⟨v, rfl, hown5, hb5⟩
                  rw [← HQL.out] at hown5
                  obtain ⟨A', c', rfl, _, hs5, _, _⟩ := own_slice hown5
                  clear hown5 hcl
                  go_wp2
                  go_ret3
                  exact ⟨.inr (.inr ⟨HG.out, hnp, k, HR.out, .inl ⟨HA.out, A', c', rfl, hs5⟩⟩), hbl.trans (hb5.mono hbl.size)⟩
            · rw [decide_eq_false hA]
              have HA := Lib.hid hA
              clear hA
              go_upto_region 21 with fail
              go_cut [82] (fun tv wz => tv = .bool (decide (CaseB p k)) ∧ wz = wc)
              case first =>
                by_cases h1 : k < L
                · have hd1 : decide (k < L) = true := decide_eq_true h1
                  by_cases h2 : k = p.length
                  · have hd2 : ((k : Int) == (p.length : Int)) = true := by simp; omega
                    by_cases h3 : L = p.length + 1
                    · have hd3 : ((L : Int) == (p.length : Int) + 1) = true := by simp; omega
                      have hfin : Hid (decide (CaseB p k) = false) := decide_eq_false (fun h => (hcb.out.1 h).2 ⟨h2, h3⟩)
                      clear h1 h2 h3
                      go_wp2
                      go_meet
                      exact ⟨by rw [hfin.out], rfl⟩
                    · have hd3 : ((L : Int) == (p.length : Int) + 1) = false := by simp; omega
                      have hfin : Hid (decide (CaseB p k) = true) := decide_eq_true (hcb.out.2 ⟨h1, fun h => h3 h.2⟩)
                      clear h1 h2 h3
                      go_wp2
                      go_meet
                      exact ⟨by rw [hfin.out], rfl⟩
                  · have hd2 : ((k : Int) == (p.length : Int)) = false := by simp; omega
                    have hfin : Hid (decide (CaseB p k) = true) := decide_eq_true (hcb.out.2 ⟨h1, fun h => h2 h.1⟩)
                    clear h1 h2
                    go_wp2
                    go_meet
                    exact ⟨by rw [hfin.out], rfl⟩
                · have hd1 : decide (k < L) = false := decide_eq_false h1
                  have hfin : Hid (decide (CaseB p k) = false) := decide_eq_false (fun h => h1 (hcb.out.1 h).1)
                  clear h1
                  go_wp2
                  go_meet
                  exact ⟨by rw [hfin.out], rfl⟩
              case rest =>
                obtain ⟨rfl, rfl⟩ := hcut
                by_cases hB : CaseB p k
                · have hql := (caseB HG.out HR.out hB).2.1
                  rw [decide_eq_true hB]
                  have HB := Lib.hid hB
                  clear hB
                  go_wp2_with fail
                  go_loopw [99] (fun iv wr => ∃ i : Nat, i ≤ k ∧ iv = .int .i64 i ∧ wr.ownsRow w1.heap.size 3 1 (.slice (some ⟨g, 0, none⟩) p.length c) p.length (ints (addK p i (-1))) ∧ Below w.heap.size w wr ∧ w1.heap.size ≤ wr.heap.size) (fun iv _ => k - (intOf iv).toNat)
                  case atStart => exact ⟨0, by omega, rfl, by rw [addK_zero]; exact HOD.out, hdw, hsz⟩
                  case round =>
                    obtain ⟨i, hi, rfl, hown, hbl, hsz'⟩ := hrel
                    have HO' := Lib.hid hown
                    clear hown
                    by_cases hlt : i < k
                    · have hcx := own_get HO'.out (addK_at (d := -1) (show i < p.length by omega))
                      have hfr := HO'.out.frozenAt i
                      have hx1 := HPA.out.1 i (by omega)
                      have hx2 := part_le_sum HPA.out (i := i) (by omega)
                      have hx3 := HS.out
                      have hx4 : p.getD i 0 ≤ 40 := by omega
                      have hst := own_set HO'.out i (p.getD i 0 + -1)
                      rw [addK_set] at hst
                      have HST := Lib.hid hst
                      obtain ⟨x, hx⟩ : ∃ x, x = p.getD i 0 := ⟨_, rfl⟩
                      rw [← hx] at hcx hx1 hx4 HST
                      clear hx hst hx2 hx3
                      go_wp2
                      go_roundw
                      case rel => exact ⟨i + 1, by omega, by go_num, by simpa only [Int.sub_eq_add_neg] using HST.out, hbl.setCell (by have := hb1.size; show _ ≤ g; omega) _, by simpa using hsz'⟩
                      case measure => simp [intOf]; omega
                    · obtain rfl : i = k := by omega
                      go_wp2_with (first | (at_builtin; refine wpList_app1 rfl (.tmp 109) (.tmp 111) rfl rfl (i : Int) HO'.out rfl (by omega) hsz' (fun g2 c2 w5 hl5 hb5 => ?_)) | fail)
                      have hsl := Sl.of_own hl5
                      have hcl := clone_any (some ⟨g2, 0, none⟩) c2 (upB p i) w5 (by omega) hsl
                      rw [hql] at hcl
                      refine hcl.mono ?_
                      rintro e w6 ⟨v, rfl, hown6, hb6⟩
                      rw [← hql] at hown6
                      obtain ⟨A', c', rfl, _, hs6, _, _⟩ := own_slice hown6
                      have hW5 : Below w.heap.size w w5 := hbl.trans (hb5.mono hb1.size)
                      clear hown6 hcl hql
                      go_wp2
                      go_ret3
                      exact ⟨.inr (.inr ⟨HG.out, hnp, i, HR.out, .inr (.inl ⟨HB.out, A', c', rfl, hs6⟩)⟩), hW5.trans (hb6.mono hW5.size)⟩
                · rw [decide_eq_false hB]
                  have HB := Lib.hid hB
                  clear hB
                  go_wp2
                  go_ret3
                  exact ⟨.inr (.inr ⟨HG.out, hnp, k, HR.out, .inr (.inr ⟨HA.out, HB.out, _, c, rfl, Sl.of_own HOD.out⟩)⟩), hdw⟩
    · have HU : Hid (decide (IsUnlike p) = false) := decide_eq_false hu
      go_enter Try.func13, Try.ntmps13
      go_wp2_with fail
      refine (pcheck_any _ _ _ _ hcl h).mono ?_
      rintro e w0 ⟨rfl, rfl⟩
      rw [HC.out]
      go_wp2_with fail
      refine (unlike_any _ _ _ _ (by omega) h).mono ?_
      rintro e w1 ⟨rfl, hb1⟩
      rw [HU.out]
      go_wp2
      go_ret3
      exact ⟨.inl ⟨fun hg => hu hg.unlike, 3, by omega, rfl⟩, hb1⟩
  · have hnot : Hid (¬ Good p) := fun hg => hc (partChk_zero.2 ⟨hg.part, hg.sum⟩)
    obtain ⟨c, hcc⟩ : ∃ c, c = partChk p := ⟨_, rfl⟩
    have hd : (c != 0) = true := by rw [hcc]; simpa using hc
    have hc' : Hid (c ≠ 0) := by rw [hcc]; exact hc
    have HC := Lib.hid hcc
    clear hc hcc
    go_enter Try.func13, Try.ntmps13
    go_wp2_with fail
    refine (pcheck_any _ _ _ _ hcl h).mono ?_
    rintro e w0 ⟨rfl, rfl⟩
    rw [← HC.out]
    go_wp2
    go_ret3
    exact ⟨.inl ⟨hnot.out, c, hc'.out, rfl⟩, Below.refl _ _⟩

end Go.Proofs.Ytdmpbbgcifodeaa
