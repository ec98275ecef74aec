/-
  parts.Franklin: what it answers.
-/
import Derived.Test.YtpmkdihencepnaaGreatMg04
import Derived.Test.YtpmkdihencepnaaGreatMg09
namespace Go.Proofs.YtpmkdihencepnaaGreat
open Go.RowKit

instance (p : List Int) (k : Nat) : Decidable (CaseA p k) := by unfold CaseA; infer_instance
instance (p : List Int) (k : Nat) : Decidable (CaseB p k) := by unfold CaseB; infer_instance

def FrOut (ys : List Int) (mv : Bool) (B : Nat) (e : Ending) (w' : World) : Prop :=
  ∃ A' c', e = .returned (.tuple #[.slice A' ys.length c', .bool mv, .int .i64 0]) ∧ w'.ownsRow B 3 1 (.slice A' ys.length c') ys.length (ints ys)

def FrRes (p : List Int) (B : Nat) (e : Ending) (w' : World) : Prop :=
  (¬ Good p ∧ ∃ k, k ≠ 0 ∧ e = .returned (.tuple #[.slice none 0 0, .bool false, .int .i64 k])) ∨
  (Good p ∧ p = [] ∧ FrOut p false B e w') ∨
  (Good p ∧ 0 < p.length ∧ ∃ k, IsRun p k ∧ ((CaseA p k ∧ FrOut (upA p) true B e w') ∨ (CaseB p k ∧ FrOut (upB p k) true B e w') ∨ (¬ CaseA p k ∧ ¬ CaseB p k ∧ FrOut p false B e w')))

theorem addK_set {xs : List Int} {i : Nat} {d : Int} : (addK xs i d).set i (xs.getD i 0 + d) = addK xs (i + 1) d := by
  apply ext_getD
  · rw [List.length_set, addK_length, addK_length]
  · intro j hj
    rw [List.length_set, addK_length] at hj
    rw [addK_getD hj, getD_get (by rw [List.length_set, addK_length]; exact hj), List.getElem_set]
    by_cases e : i = j
    · subst e; rw [if_pos rfl, if_pos (by omega)]
    · rw [if_neg e, ← getD_get (d := 0), addK_getD hj]
      by_cases e2 : j < i
      · rw [if_pos e2, if_pos (by omega)]
      · rw [if_neg e2, if_neg (by omega)]
theorem addK_at {xs : List Int} {i : Nat} {d : Int} (h : i < xs.length) : (addK xs i d)[i]? = some (xs.getD i 0) := by
  rw [List.getElem?_eq_getElem (by rw [addK_length]; exact h), ← getD_get (d := 0), addK_getD h, if_neg (by omega), Int.add_zero]
theorem addK_zero (xs : List Int) (d : Int) : addK xs 0 d = xs := by simp [addK]
theorem addK_take {xs : List Int} {m n : Nat} {d : Int} (h : m ≤ n) : (addK xs m d).take n = addK (xs.take n) m d := by
  unfold addK
  rw [List.take_append, List.take_of_length_le (by simp; omega), List.take_take, Nat.min_eq_left h]
  congr 1
  rw [List.length_map, List.length_take, List.drop_take]
  by_cases hm : m ≤ xs.length
  · rw [Nat.min_eq_left hm]
  · rw [List.drop_of_length_le (by omega)]; simp

theorem mem_le_sum : ∀ {p : List Int}, (∀ x ∈ p, 1 ≤ x) → ∀ x ∈ p, x ≤ p.sum
  | y :: p, h, x, hx => by
    have h1 := sum_nonneg (xs := p) (fun z hz => h z (List.mem_cons_of_mem _ hz))
    have h2 := h y (by simp)
    rw [List.sum_cons]
    rcases List.mem_cons.1 hx with rfl | hx
    · omega
    · have := mem_le_sum (fun z hz => h z (List.mem_cons_of_mem _ hz)) x hx; omega
theorem part_le_sum {p : List Int} (h : IsPart p) {i : Nat} (hi : i < p.length) : p.getD i 0 ≤ p.sum :=
  mem_le_sum h.mem _ (by rw [getD_get hi]; exact List.getElem_mem hi)

theorem Sl.prefix {w : World} {B : Nat} {A : Option Addr} {xs : List Int} (h : Sl w B A (ints xs)) (m : Nat) : Sl w B A (ints (xs.take m)) := fun hp => by
  obtain ⟨b, o, e, hb, hc⟩ := h (by rw [ints_length] at hp ⊢; rw [List.length_take] at hp; omega)
  refine ⟨b, o, e, hb, fun k u hk => hc k u ?_⟩
  rw [ints, List.map_take, List.getElem?_take] at hk
  split at hk
  · exact hk
  · cases hk

set_option maxRecDepth 100000 in
set_option maxHeartbeats 2000000 in
theorem franklin_any (A : Option Addr) (cap : Nat) (p : List Int) (w : World) (hcl : p.length ≤ 9223372036854775807) (h : Sl w w.heap.size A (ints p)) :
    Calls Tryz.prog 23 #[.slice A p.length cap] w fun e w' => FrRes p w.heap.size e w' ∧ Below w.heap.size w w' := by
  by_cases hc : partChk p = 0
  · obtain ⟨hpart, hsum⟩ := partChk_zero.1 hc
    have hlen := hpart.len hsum
    have HC := Lib.hid hc
    have HPA := Lib.hid hpart
    have HS := Lib.hid hsum
    clear hc hpart hsum
    by_cases hu : IsUnlike p
    · have HU : Hid (decide (IsUnlike p) = true) := decide_eq_true hu
      have HG : Hid (Good p) := ⟨HPA.out, hu, HS.out⟩
      clear hu
      go_enter Tryz.func23, Tryz.ntmps23
      go_wp2_with fail
      refine (pcheck_any _ _ _ _ hcl h).mono ?_
      rintro e w0 ⟨rfl, rfl⟩
      rw [HC.out]
      go_wp2_with fail
      refine (unlike_any _ _ _ _ (by omega) h).mono ?_
      rintro e w1 ⟨rfl, hb1⟩
      rw [HU.out]
      go_wp2_with fail
      refine (clone_any _ _ _ _ (by omega) (h.now hb1 (Nat.le_refl _))).mono ?_
      rintro e w2 ⟨v, rfl, hown, hb2⟩
      by_cases hn : p.length = 0
      · obtain ⟨A', c', rfl, _, hs⟩ := own_sliceT (hown.mono hb1.size)
        have hp0 : p = [] := List.eq_nil_of_length_eq_zero hn
        go_wp2
        go_ret3
        subst hp0
        exact ⟨.inr (.inl ⟨HG.out, rfl, A', c', rfl, hs⟩), below_call hb1 (Nat.le_refl _) hb2⟩
      · obtain ⟨g, c, hv, hg1, hg2⟩ := hown.form (by omega)
        subst hv
        have HO := Lib.hid hown
        have hW2 : Below w.heap.size w w2 := below_call hb1 (Nat.le_refl _) hb2
        have hnp : 0 < p.length := by omega
        have hcl' := own_get hown (i := p.length - 1) (z := p.getD (p.length - 1) 0) (by rw [getD_get (by omega)]; exact List.getElem?_eq_getElem _)
        have hl1 := HPA.out.1 (p.length - 1) (by omega)
        have hl40 : p.getD (p.length - 1) 0 ≤ 40 := by
          have := part_le_sum HPA.out (i := p.length - 1) (by omega)
          have := HS.out
          omega
        obtain ⟨L, hL⟩ : ∃ L : Nat, p.getD (p.length - 1) 0 = L := ⟨(p.getD (p.length - 1) 0).toNat, by omega⟩
        rw [hL] at hcl' hl40 hl1
        have HL := Lib.hid hL
        clear hown hL hn
        go_upto_block 0 with fail
        go_cut [9] (fun rv wz => ∃ k : Nat, IsRun p k ∧ rv = .int .i64 k ∧ ∃ d, wz = w2.drewN d)
        case first =>
          go_wp2_with fail
          go_loopw [9] (fun rv wr => ∃ k : Nat, 1 ≤ k ∧ k ≤ p.length ∧ rv = .int .i64 k ∧ (∀ j, 1 ≤ j → j < k → p.getD j 0 = p.getD (j - 1) 0 - 1) ∧ ∃ d, wr = w2.drewN d) (fun rv _ => p.length - (intOf rv).toNat)
          case atStart => exact ⟨1, by omega, by omega, rfl, fun j h1 h2 => by omega, 0, rfl⟩
          case round =>
            obtain ⟨k, hk1, hkn, rfl, hall, d, rfl⟩ := hrel
            have HALL := Lib.hid hall
            clear hall
            by_cases hkl : k < p.length
            · have hd0 : decide ((k : Int) < (p.length : Int)) = true := by simp; omega
              have hcx := own_get HO.out (i := k) (z := p.getD k 0) (by rw [getD_get (by omega)]; exact List.getElem?_eq_getElem _)
              have hcy := own_get HO.out (i := k - 1) (z := p.getD (k - 1) 0) (by rw [getD_get (by omega)]; exact List.getElem?_eq_getElem _)
              have hy1 := HPA.out.1 (k - 1) (by omega)
              have hy2 := part_le_sum HPA.out (i := k - 1) (by omega)
              have hy3 := HS.out
              have hy4 : p.getD (k - 1) 0 ≤ 40 := by omega
              clear hy2 hy3
              have hyes : Hid (p.getD k 0 = p.getD (k - 1) 0 - 1 → ∀ j, 1 ≤ j → j < k + 1 → p.getD j 0 = p.getD (j - 1) 0 - 1) := fun h1 j h2 h3 => by
                by_cases e : j = k
                · subst e; exact h1
                · exact HALL.out j h2 (by omega)
              have hno : Hid (p.getD k 0 ≠ p.getD (k - 1) 0 - 1 → IsRun p k) := fun h1 => ⟨hk1, hkn, HALL.out, .inr h1⟩
              obtain ⟨x, hx⟩ : ∃ x, x = p.getD k 0 := ⟨_, rfl⟩
              obtain ⟨y, hy⟩ : ∃ x, x = p.getD (k - 1) 0 := ⟨_, rfl⟩
              rw [← hx] at hcx hyes hno
              rw [← hy] at hcy hyes hno hy1 hy4
              clear hx hy
              by_cases hxy : x = y - 1
              · have hd1 : (x == y - 1) = true := by simpa using hxy
                have HY := Lib.hid (hyes.out hxy)
                clear hyes hno hxy
                go_wp2
                go_quiet (fail)
                go_wp2
                go_roundw
                case rel => exact ⟨k + 1, by omega, by omega, by go_num, HY.out, _, rfl⟩
                case measure => simp [intOf]; omega
              · have hd1 : (x == y - 1) = false := by simpa using hxy
                have HY := Lib.hid (hno.out hxy)
                clear hyes hno hxy
                go_wp2
                go_quiet (fail)
                go_wp2
                go_meet
                exact ⟨k, HY.out, rfl, _, World.drewN_drewN ..⟩
            · have hd0 : decide ((k : Int) < (p.length : Int)) = false := by simp; omega
              go_wp2
              go_quiet (fail)
              go_wp2
              go_meet
              exact ⟨k, ⟨hk1, hkn, HALL.out, .inl (by omega)⟩, rfl, _, World.drewN_drewN ..⟩
        case rest =>
          obtain ⟨k, hrun, rfl, d, rfl⟩ := hcut
          have hk1 := hrun.1
          have hkn := hrun.2.1
          have HR := Lib.hid hrun
          clear hrun
          have hca : Hid (CaseA p k ↔ L ≤ k ∧ ¬ (k = p.length ∧ L = p.length)) := by
            show _ ↔ _
            unfold CaseA
            rw [HL.out]
            constructor
            · rintro ⟨h1, h2⟩; exact ⟨by omega, fun ⟨h3, h4⟩ => h2 ⟨h3, by omega⟩⟩
            · rintro ⟨h1, h2⟩; exact ⟨by omega, fun ⟨h3, h4⟩ => h2 ⟨h3, by omega⟩⟩
          have hcb : Hid (CaseB p k ↔ k < L ∧ ¬ (k = p.length ∧ L = p.length + 1)) := by
            show _ ↔ _
            unfold CaseB
            rw [HL.out]
            constructor
            · rintro ⟨h1, h2⟩; exact ⟨by omega, fun ⟨h3, h4⟩ => h2 ⟨h3, by omega⟩⟩
            · rintro ⟨h1, h2⟩; exact ⟨by omega, fun ⟨h3, h4⟩ => h2 ⟨h3, by omega⟩⟩
          have hdw : Below w.heap.size w (w2.drewN d) := below_drewN hW2 d
          have hod := own_drewN HO.out d
          have HOD := Lib.hid hod
          have hsz : w1.heap.size ≤ (w2.drewN d).heap.size := hb2.size
          have hgz : g < (w2.drewN d).heap.size := hg2
          obtain ⟨wd, hwd⟩ : ∃ wd, wd = w2.drewN d := ⟨_, rfl⟩
          rw [← hwd] at hdw HOD hsz hgz ⊢
          clear hod hcl' hwd
          go_upto_region 14 with fail
          go_cut [52] (fun tv wz => tv = .bool (decide (CaseA p k)) ∧ wz = wd)
          case first =>
            by_cases h1 : L ≤ k
            · have hd1 : decide (L ≤ k) = true := decide_eq_true h1
              by_cases h2 : k = p.length
              · have hd2 : ((k : Int) == (p.length : Int)) = true := by simp; omega
                by_cases h3 : L = p.length
                · have hd3 : ((L : Int) == (p.length : Int)) = true := by simp; omega
                  have hfin : Hid (decide (CaseA p k) = false) := decide_eq_false (fun h => (hca.out.1 h).2 ⟨h2, h3⟩)
                  clear h1 h2 h3
                  go_wp2
                  go_meet
                  exact ⟨by rw [hfin.out], rfl⟩
                · have hd3 : ((L : Int) == (p.length : Int)) = false := by simp; omega
                  have hfin : Hid (decide (CaseA p k) = true) := decide_eq_true (hca.out.2 ⟨h1, fun h => h3 h.2⟩)
                  clear h1 h2 h3
                  go_wp2
                  go_meet
                  exact ⟨by rw [hfin.out], rfl⟩
              · have hd2 : ((k : Int) == (p.length : Int)) = false := by simp; omega
                have hfin : Hid (decide (CaseA p k) = true) := decide_eq_true (hca.out.2 ⟨h1, fun h => h2 h.1⟩)
                clear h1 h2
                go_wp2
                go_meet
                exact ⟨by rw [hfin.out], rfl⟩
            · have hd1 : decide (L ≤ k) = false := decide_eq_false h1
              have hfin : Hid (decide (CaseA p k) = false) := decide_eq_false (fun h => h1 (hca.out.1 h).1)
              clear h1
              go_wp2
              go_meet
              exact ⟨by rw [hfin.out], rfl⟩
          case rest =>
            obtain ⟨rfl, rfl⟩ := hcut
            by_cases hA : CaseA p k
            · have hres := caseA HG.out HR.out hA
              rw [HL.out, Int.toNat_natCast] at hres
              obtain ⟨_, _, hql, _, hLn, _⟩ := hres
              rw [decide_eq_true hA]
              have HA := Lib.hid hA
              have hcap := own_cap HOD.out
              clear hA
              go_wp2_with fail
              go_loopw [72] (fun iv wr => ∃ i : Nat, i ≤ L ∧ iv = .int .i64 i ∧ wr.ownsRow w1.heap.size 3 1 (.slice (some ⟨g, 0, none⟩) p.length c) p.length (ints (addK p i 1)) ∧ Below w.heap.size w wr ∧ w1.heap.size ≤ wr.heap.size) (fun iv _ => L - (intOf iv).toNat)
              case atStart => exact ⟨0, by omega, rfl, by rw [addK_zero]; exact HOD.out, hdw, hsz⟩
              case round =>
                obtain ⟨i, hi, rfl, hown, hbl, hsz'⟩ := hrel
                have HO' := Lib.hid hown
                clear hown
                by_cases hlt : i < L
                · have hcx := own_get HO'.out (addK_at (d := 1) (show i < p.length by omega))
                  have hfr := HO'.out.frozenAt i
                  have hx1 := HPA.out.1 i (by omega)
                  have hx2 := part_le_sum HPA.out (i := i) (by omega)
                  have hx3 := HS.out
                  have hx4 : p.getD i 0 ≤ 40 := by omega
                  have hst := own_set HO'.out i (p.getD i 0 + 1)
                  rw [addK_set] at hst
                  have HST := Lib.hid hst
                  obtain ⟨x, hx⟩ : ∃ x, x = p.getD i 0 := ⟨_, rfl⟩
                  rw [← hx] at hcx hx1 hx4 HST
                  clear hx hst hx2 hx3
                  go_wp2
                  go_roundw
                  case rel => exact ⟨i + 1, by omega, by go_num, HST.out, hbl.setCell (by have := hb1.size; show _ ≤ g; omega) _, by simpa using hsz'⟩
                  case measure => simp [intOf]; omega
                · obtain rfl : i = L := by omega
                  have hup : (addK p i 1).take (p.length - 1) = upA p := by unfold upA; rw [addK_take hLn, HL.out, Int.toNat_natCast]
                  have hsl := (Sl.of_own HO'.out).prefix (p.length - 1)
                  rw [hup] at hsl
                  have hcl := clone_any (some ⟨g, 0, none⟩) c (upA p) wr (by omega) hsl
                  rw [show (upA p).length = p.length - 1 by omega] at hcl
                  have HQL : Hid ((upA p).length = p.length - 1) := by show _ = _; omega
                  go_wp2_with fail
                  refine hcl.mono ?_
                  rintro e w5 ⟨v, rfl, hown5, hb5⟩
                  rw [← HQL.out] at hown5
                  obtain ⟨A', c', rfl, _, hs5⟩ := own_sliceT (hown5.mono hbl.size)
                  clear hown5 hcl
                  go_wp2
                  go_ret3
                  exact ⟨.inr (.inr ⟨HG.out, hnp, k, HR.out, .inl ⟨HA.out, A', c', rfl, hs5⟩⟩), hbl.trans (hb5.mono hbl.size)⟩
            · rw [decide_eq_false hA]
              have HA := Lib.hid hA
              clear hA
              go_upto_region 21 with fail
              go_cut [82] (fun tv wz => tv = .bool (decide (CaseB p k)) ∧ wz = wc)
              case first =>
                by_cases h1 : k < L
                · have hd1 : decide (k < L) = true := decide_eq_true h1
                  by_cases h2 : k = p.length
                  · have hd2 : ((k : Int) == (p.length : Int)) = true := by simp; omega
                    by_cases h3 : L = p.length + 1
                    · have hd3 : ((L : Int) == (p.length : Int) + 1) = true := by simp; omega
                      have hfin : Hid (decide (CaseB p k) = false) := decide_eq_false (fun h => (hcb.out.1 h).2 ⟨h2, h3⟩)
                      clear h1 h2 h3
                      go_wp2
                      go_meet
                      exact ⟨by rw [hfin.out], rfl⟩
                    · have hd3 : ((L : Int) == (p.length : Int) + 1) = false := by simp; omega
                      have hfin : Hid (decide (CaseB p k) = true) := decide_eq_true (hcb.out.2 ⟨h1, fun h => h3 h.2⟩)
                      clear h1 h2 h3
                      go_wp2
                      go_meet
                      exact ⟨by rw [hfin.out], rfl⟩
                  · have hd2 : ((k : Int) == (p.length : Int)) = false := by simp; omega
                    have hfin : Hid (decide (CaseB p k) = true) := decide_eq_true (hcb.out.2 ⟨h1, fun h => h2 h.1⟩)
                    clear h1 h2
                    go_wp2
                    go_meet
                    exact ⟨by rw [hfin.out], rfl⟩
                · have hd1 : decide (k < L) = false := decide_eq_false h1
                  have hfin : Hid (decide (CaseB p k) = false) := decide_eq_false (fun h => h1 (hcb.out.1 h).1)
                  clear h1
                  go_wp2
                  go_meet
                  exact ⟨by rw [hfin.out], rfl⟩
              case rest =>
                obtain ⟨rfl, rfl⟩ := hcut
                by_cases hB : CaseB p k
                · have hql := (caseB HG.out HR.out hB).2.1
                  rw [decide_eq_true hB]
                  have HB := Lib.hid hB
                  clear hB
                  go_wp2_with fail
                  go_loopw [99] (fun iv wr => ∃ i : Nat, i ≤ k ∧ iv = .int .i64 i ∧ wr.ownsRow w1.heap.size 3 1 (.slice (some ⟨g, 0, none⟩) p.length c) p.length (ints (addK p i (-1))) ∧ Below w.heap.size w wr ∧ w1.heap.size ≤ wr.heap.size) (fun iv _ => k - (intOf iv).toNat)
                  case atStart => exact ⟨0, by omega, rfl, by rw [addK_zero]; exact HOD.out, hdw, hsz⟩
                  case round =>
                    obtain ⟨i, hi, rfl, hown, hbl, hsz'⟩ := hrel
                    have HO' := Lib.hid hown
                    clear hown
                    by_cases hlt : i < k
                    · have hcx := own_get HO'.out (addK_at (d := -1) (show i < p.length by omega))
                      have hfr := HO'.out.frozenAt i
                      have hx1 := HPA.out.1 i (by omega)
                      have hx2 := part_le_sum HPA.out (i := i) (by omega)
                      have hx3 := HS.out
                      have hx4 : p.getD i 0 ≤ 40 := by omega
                      have hst := own_set HO'.out i (p.getD i 0 + -1)
                      rw [addK_set] at hst
                      have HST := Lib.hid hst
                      obtain ⟨x, hx⟩ : ∃ x, x = p.getD i 0 := ⟨_, rfl⟩
                      rw [← hx] at hcx hx1 hx4 HST
                      clear hx hst hx2 hx3
                      go_wp2
                      go_roundw
                      case rel => exact ⟨i + 1, by omega, by go_num, by simpa only [Int.sub_eq_add_neg] using HST.out, hbl.setCell (by have := hb1.size; show _ ≤ g; omega) _, by simpa using hsz'⟩
                      case measure => simp [intOf]; omega
                    · obtain rfl : i = k := by omega
                      go_wp2_with (first | (at_builtin; refine wpList_app1 rfl (.tmp 109) (.tmp 111) rfl rfl (i : Int) HO'.out rfl (by omega) hsz' (fun g2 c2 w5 hl5 hb5 => ?_)) | fail)
                      have hsl := Sl.of_own hl5
                      have hcl := clone_any (some ⟨g2, 0, none⟩) c2 (upB p i) w5 (by omega) hsl
                      rw [hql] at hcl
                      refine hcl.mono ?_
                      rintro e w6 ⟨v, rfl, hown6, hb6⟩
                      rw [← hql] at hown6
                      have hW5 : Below w.heap.size w w5 := hbl.trans (hb5.mono hb1.size)
                      obtain ⟨A', c', rfl, _, hs6⟩ := own_sliceT (hown6.mono hW5.size)
                      clear hown6 hcl hql
                      go_wp2
                      go_ret3
                      exact ⟨.inr (.inr ⟨HG.out, hnp, i, HR.out, .inr (.inl ⟨HB.out, A', c', rfl, hs6⟩)⟩), hW5.trans (hb6.mono hW5.size)⟩
                · rw [decide_eq_false hB]
                  have HB := Lib.hid hB
                  clear hB
                  go_wp2
                  go_ret3
                  exact ⟨.inr (.inr ⟨HG.out, hnp, k, HR.out, .inr (.inr ⟨HA.out, HB.out, _, c, rfl, HOD.out.mono hb1.size⟩)⟩), hdw⟩
    · have HU : Hid (decide (IsUnlike p) = false) := decide_eq_false hu
      go_enter Tryz.func23, Tryz.ntmps23
      go_wp2_with fail
      refine (pcheck_any _ _ _ _ hcl h).mono ?_
      rintro e w0 ⟨rfl, rfl⟩
      rw [HC.out]
      go_wp2_with fail
      refine (unlike_any _ _ _ _ (by omega) h).mono ?_
      rintro e w1 ⟨rfl, hb1⟩
      rw [HU.out]
      go_wp2
      go_ret3
      exact ⟨.inl ⟨fun hg => hu hg.unlike, 3, by omega, rfl⟩, hb1⟩
  · have hnot : Hid (¬ Good p) := fun hg => hc (partChk_zero.2 ⟨hg.part, hg.sum⟩)
    obtain ⟨c, hcc⟩ : ∃ c, c = partChk p := ⟨_, rfl⟩
    have hd : (c != 0) = true := by rw [hcc]; simpa using hc
    have hc' : Hid (c ≠ 0) := by rw [hcc]; exact hc
    have HC := Lib.hid hcc
    clear hc hcc
    go_enter Tryz.func23, Tryz.ntmps23
    go_wp2_with fail
    refine (pcheck_any _ _ _ _ hcl h).mono ?_
    rintro e w0 ⟨rfl, rfl⟩
    rw [← HC.out]
    go_wp2
    go_ret3
    exact ⟨.inl ⟨hnot.out, c, hc'.out, rfl⟩, Below.refl _ _⟩

end Go.Proofs.YtpmkdihencepnaaGreat

/-
  Plain lists: the partition turned overB; dominance; what Frobenius tells.
-/
namespace Go.Proofs.YtpmkdihencepnaaGreat

/-- How many are greater than j. -/
def overB (p : List Int) (j : Nat) : Nat := p.countP (fun x => decide ((j : Int) < x))
def flipOf (p : List Int) : List Int := (List.range (p.getD 0 0).toNat).map (fun j => (overB p j : Int))
theorem flipOf_length (p : List Int) : (flipOf p).length = (p.getD 0 0).toNat := by simp [flipOf]

theorem getD_out {p : List Int} {i : Nat} (h : p.length ≤ i) : p.getD i 0 = 0 := by simp [h]
theorem IsPart.nonneg {p : List Int} (h : IsPart p) (i : Nat) : 0 ≤ p.getD i 0 := by
  by_cases e : i < p.length
  · have := h.1 i e; omega
  · rw [getD_out (by omega)]; exact Int.le_refl _
theorem IsPart.anti {p : List Int} (h : IsPart p) {i j : Nat} (hij : i ≤ j) : p.getD j 0 ≤ p.getD i 0 := by
  by_cases e : j < p.length
  · exact h.mono j e i hij
  · rw [getD_out (by omega)]; exact h.nonneg i

/-- In a list that falls, what is greater than j stands ahead. -/
theorem over_lt : ∀ {p : List Int}, IsPart p → ∀ i j : Nat, (j : Int) < p.getD i 0 ↔ i < overB p j
  | [], _, i, j => by simp [overB]
  | x :: p, h, i, j => by
    have hp : IsPart p := ⟨fun i hi => by have := h.1 (i + 1) (by simpa using hi); simpa using this, fun i hi h1 => by
      have := h.2 (i + 1) (by simpa using hi) (by omega)
      simp only [List.getD_cons_succ, Nat.add_sub_cancel] at this
      obtain ⟨k, rfl⟩ : ∃ k, i = k + 1 := ⟨i - 1, by omega⟩
      simpa using this⟩
    have ih := over_lt hp
    have hx : ∀ i, p.getD i 0 ≤ x := fun i => by have := h.anti (i := 0) (j := i + 1) (by omega); simpa using this
    have ho : overB (x :: p) j = overB p j + if (j : Int) < x then 1 else 0 := by simp [overB, List.countP_cons]
    rw [ho]
    by_cases hj : (j : Int) < x
    · rw [if_pos hj]
      cases i with
      | zero => simp only [List.getD_cons_zero]; exact ⟨fun _ => by omega, fun _ => hj⟩
      | succ i => simp only [List.getD_cons_succ]; rw [ih i j]; omega
    · rw [if_neg hj]
      have h0 : overB p j = 0 := by
        have := (ih 0 j)
        by_cases e : 0 < overB p j
        · have := this.2 e; have := hx 0; omega
        · omega
      rw [h0]
      cases i with
      | zero => simp only [List.getD_cons_zero]; omega
      | succ i => simp only [List.getD_cons_succ]; have := hx i; omega

theorem over_zero_of {p : List Int} (h : IsPart p) {j : Nat} (hj : (p.getD 0 0).toNat ≤ j) : overB p j = 0 := by
  by_cases e : 0 < overB p j
  · have := (over_lt h 0 j).2 e; omega
  · omega
theorem flip_getD {p : List Int} (h : IsPart p) (j : Nat) : (flipOf p).getD j 0 = overB p j := by
  by_cases e : j < (p.getD 0 0).toNat
  · rw [getD_get (by rw [flipOf_length]; exact e)]; simp [flipOf]
  · rw [getD_out (by rw [flipOf_length]; omega), over_zero_of h (by omega)]; rfl
theorem galois {p : List Int} (h : IsPart p) (i j : Nat) : (j : Int) < p.getD i 0 ↔ (i : Int) < (flipOf p).getD j 0 := by
  rw [flip_getD h, over_lt h]; omega
theorem over_le (p : List Int) (j : Nat) : overB p j ≤ p.length := List.countP_le_length
theorem overB_all {p : List Int} (h : IsPart p) : overB p 0 = p.length := by
  unfold overB
  rw [List.countP_eq_length]
  intro x hx
  have := h.mem x hx
  simp; omega

theorem flip_part {p : List Int} (h : IsPart p) : IsPart (flipOf p) := by
  refine ⟨fun i hi => ?_, fun i hi h1 => ?_⟩
  · rw [flipOf_length] at hi
    have := (galois h 0 i).1 (by omega)
    omega
  · rw [flip_getD h, flip_getD h]
    have : overB p i ≤ overB p (i - 1) := by
      unfold overB
      exact List.countP_mono_left (fun x _ hx => by simp only [decide_eq_true_eq] at hx ⊢; omega)
    omega
/-! Sums of the first ones. -/

def psum (f : Nat → Int) : Nat → Int
  | 0 => 0
  | k + 1 => psum f k + f k
def pre (p : List Int) (k : Nat) : Int := psum (fun i => p.getD i 0) k
theorem pre_succ (p : List Int) (k : Nat) : pre p (k + 1) = pre p k + p.getD k 0 := rfl
theorem pre_take (p : List Int) : ∀ k, pre p k = (p.take k).sum
  | 0 => by simp [pre, psum]
  | k + 1 => by
    rw [pre_succ, pre_take p k]
    by_cases e : k < p.length
    · rw [take_snoc e, List.sum_append, getD_get e]; simp
    · rw [getD_out (by omega), List.take_of_length_le (by omega), List.take_of_length_le (by omega)]; simp
theorem pre_all {p : List Int} {k : Nat} (h : p.length ≤ k) : pre p k = p.sum := by rw [pre_take, List.take_of_length_le h]

theorem over_min : ∀ (p : List Int), (∀ x ∈ p, 0 ≤ x) → ∀ j : Nat, (overB p j : Int) = (p.map (fun x => min ((j : Int) + 1) x)).sum - (p.map (fun x => min (j : Int) x)).sum
  | [], _, j => by simp [overB]
  | x :: p, h, j => by
    have ih := over_min p (fun y hy => h y (List.mem_cons_of_mem _ hy)) j
    have hx := h x (by simp)
    have ho : overB (x :: p) j = overB p j + if (j : Int) < x then 1 else 0 := by simp [overB, List.countP_cons]
    rw [ho]
    simp only [List.map_cons, List.sum_cons]
    split <;> omega
theorem sum_zeros (p : List Int) : (p.map (fun _ => (0 : Int))).sum = 0 := by
  induction p with
  | nil => rfl
  | cons x p ih => simp only [List.map_cons, List.sum_cons, ih]; rfl
theorem flip_pre {p : List Int} (h : IsPart p) : ∀ j : Nat, pre (flipOf p) j = (p.map (fun x => min (j : Int) x)).sum
  | 0 => by
    have : (p.map (fun x => min ((0 : Nat) : Int) x)).sum = 0 := by
      have e : p.map (fun x => min ((0 : Nat) : Int) x) = p.map (fun _ => 0) := List.map_congr_left (fun x hx => by have := h.mem x hx; omega)
      rw [e]
      exact sum_zeros p
    rw [this]; rfl
  | j + 1 => by
    rw [pre_succ, flip_pre h j, flip_getD h, over_min p (fun x hx => by have := h.mem x hx; omega) j]
    have : ((j + 1 : Nat) : Int) = (j : Int) + 1 := by omega
    rw [this]
    omega

theorem min_all : ∀ {p : List Int} {m : Int}, (∀ x ∈ p, x ≤ m) → (p.map (fun x => min m x)).sum = p.sum
  | [], _, _ => rfl
  | x :: p, m, h => by
    have h1 := h x (by simp)
    simp only [List.map_cons, List.sum_cons, min_all (fun y hy => h y (List.mem_cons_of_mem _ hy))]
    omega
theorem IsPart.le_head {p : List Int} (h : IsPart p) : ∀ x ∈ p, x ≤ p.getD 0 0 := fun x hx => by
  obtain ⟨i, hi, rfl⟩ := List.getElem_of_mem hx
  have := h.anti (i := 0) (j := i) (by omega)
  rwa [getD_get hi] at this
theorem flip_sum {p : List Int} (h : IsPart p) : (flipOf p).sum = p.sum := by
  have h1 := h.nonneg 0
  rw [← pre_all (p := flipOf p) (k := (p.getD 0 0).toNat) (by rw [flipOf_length]; exact Nat.le_refl _), flip_pre h]
  exact min_all (fun x hx => by have := h.le_head x hx; omega)

/-- Rows ahead of k and columns ahead of j: what they have twice is no more than k times j. -/
theorem both_le {p : List Int} (h : IsPart p) (k j : Nat) : pre p k + pre (flipOf p) j ≤ p.sum + k * j := by
  rw [flip_pre h, pre_take]
  have e : p.sum = (p.take k).sum + (p.drop k).sum := by rw [← List.sum_append, List.take_append_drop]
  have e2 : (p.map (fun x => min (j : Int) x)).sum = ((p.take k).map (fun x => min (j : Int) x)).sum + ((p.drop k).map (fun x => min (j : Int) x)).sum := by
    rw [← List.sum_append, ← List.map_append, List.take_append_drop]
  have h1 : ∀ l : List Int, (l.map (fun x => min (j : Int) x)).sum ≤ l.length * (j : Int) := fun l => by
    induction l with
    | nil => simp
    | cons x l ih =>
      simp only [List.map_cons, List.sum_cons, List.length_cons]
      rw [Int.natCast_add, Int.add_mul]
      have : min (j : Int) x ≤ j := by omega
      simp; omega
  have h2 : ∀ l : List Int, (l.map (fun x => min (j : Int) x)).sum ≤ l.sum := fun l => by
    induction l with
    | nil => simp
    | cons x l ih => simp only [List.map_cons, List.sum_cons]; omega
  have h3 := h1 (p.take k)
  have h4 := h2 (p.drop k)
  have h5 : ((p.take k).length : Int) * (j : Int) ≤ k * j := Int.mul_le_mul_of_nonneg_right (by rw [List.length_take]; omega) (by omega)
  omega
/-- At k rows, as many as are greater than j, it is just so. -/
theorem both_eq {p : List Int} (h : IsPart p) (j : Nat) : pre p (overB p j) + pre (flipOf p) j = p.sum + overB p j * j := by
  have hk := over_le p j
  have ho := fun i => over_lt h i j
  generalize overB p j = k at *
  rw [flip_pre h, pre_take]
  have e : p.sum = (p.take k).sum + (p.drop k).sum := by rw [← List.sum_append, List.take_append_drop]
  have e2 : (p.map (fun x => min (j : Int) x)).sum = ((p.take k).map (fun x => min (j : Int) x)).sum + ((p.drop k).map (fun x => min (j : Int) x)).sum := by
    rw [← List.sum_append, ← List.map_append, List.take_append_drop]
  have h1 : ∀ l : List Int, (∀ x ∈ l, (j : Int) ≤ x) → (l.map (fun x => min (j : Int) x)).sum = l.length * (j : Int) := fun l hl => by
    induction l with
    | nil => simp
    | cons x l ih =>
      have := hl x (by simp)
      simp only [List.map_cons, List.sum_cons, List.length_cons, ih (fun y hy => hl y (List.mem_cons_of_mem _ hy))]
      rw [Int.natCast_add, Int.add_mul]
      simp; omega
  have h3 := h1 (p.take k) (fun x hx => by
    obtain ⟨i, hi, rfl⟩ := List.getElem_of_mem hx
    rw [List.length_take] at hi
    have := (ho i).2 (by omega)
    rw [getD_get (by omega)] at this
    rw [List.getElem_take]; omega)
  have h4 := min_all (p := p.drop k) (m := (j : Int)) (fun x hx => by
    obtain ⟨i, hi, rfl⟩ := List.getElem_of_mem hx
    rw [List.length_drop] at hi
    have := (ho (k + i)).1
    rw [getD_get (by omega)] at this
    rw [List.getElem_drop]
    by_cases c : (j : Int) < p[k + i]
    · have := this c; omega
    · omega)
  rw [List.length_take, Nat.min_eq_left hk] at h3
  omega

/-- a above b. -/
def DomB (a b : List Int) : Prop := ∀ k, pre b k ≤ pre a k
theorem DomB.flip {p q : List Int} (hp : IsPart p) (hq : IsPart q) (hs : p.sum = q.sum) (h : DomB p q) : DomB (flipOf q) (flipOf p) := fun j => by
  have h1 := both_eq hq j
  have h2 := both_le hp (overB q j) j
  have h3 := h (overB q j)
  omega
end Go.Proofs.YtpmkdihencepnaaGreat
