/-
  insert.Longest: what it answers.
-/
import Derived.Test.YtmlmdklheiafpaaTabl7W
import Derived.Test.YtmlmdklheiafpaaPlacH
namespace Go.Proofs.Ytmlmdklheiafpaa
open Go.RowKit

/-- What has been reckoned from m on. -/
def arrF (xs : List Int) (m : Nat) : List Int := (List.range xs.length).map (fun j => if j < m then 0 else (fr xs j : Int))
theorem arrF_length (xs : List Int) (m : Nat) : (arrF xs m).length = xs.length := by simp [arrF]
theorem arrF_top (xs : List Int) : arrF xs xs.length = List.replicate xs.length 0 := by
  unfold arrF
  apply List.ext_getElem (by simp)
  intro j h1 h2
  have h3 : j < xs.length := by simpa using h1
  rw [List.getElem_replicate, List.getElem_map, List.getElem_range, if_pos h3]
theorem arrF_get {xs : List Int} {m j : Nat} (h : j < xs.length) : (arrF xs m)[j]? = some (if j < m then 0 else (fr xs j : Int)) := by
  unfold arrF; simp [h]
theorem arrF_set {xs : List Int} {m : Nat} : (arrF xs (m + 1)).set m (fr xs m : Int) = arrF xs m := by
  unfold arrF
  apply List.ext_getElem (by simp)
  intro j h1 h2
  rw [List.getElem_set]
  by_cases e : m = j
  · subst e; simp
  · rw [if_neg e]
    have : (j < m + 1) ↔ (j < m) := by omega
    simp [this]
/-- What has been reckoned at m, d letters on. -/
def mxD (xs : List Int) (m d : Nat) : Nat := 1 + mx (xs.getD m 0) ((xs.drop (m + 1)).take d) ((frs (xs.drop (m + 1))).take d)
theorem mxD_zero (xs : List Int) (m : Nat) : mxD xs m 0 = 1 := by simp [mxD, mx]
theorem mxD_succ {xs : List Int} {m d : Nat} (h : m + 1 + d < xs.length) : mxD xs m (d + 1) = if xs.getD m 0 ≤ xs.getD (m + 1 + d) 0 then max (mxD xs m d) (fr xs (m + 1 + d) + 1) else mxD xs m d := by
  unfold mxD
  have h1 : (xs.drop (m + 1))[d]? = some (xs.getD (m + 1 + d) 0) := by rw [List.getElem?_drop, List.getElem?_eq_getElem h, getD_get h]
  have h2 : (frs (xs.drop (m + 1)))[d]? = some (fr xs (m + 1 + d)) := by rw [← frs_drop, List.getElem?_drop]; exact fr_at h
  rw [mx_snoc h1 h2]
  by_cases c : xs.getD m 0 ≤ xs.getD (m + 1 + d) 0
  · rw [if_pos c, if_pos c]; omega
  · rw [if_neg c, if_neg c]; omega
theorem mxD_end {xs : List Int} {m d : Nat} (h : m + 1 + d = xs.length) : mxD xs m d = fr xs m := by
  unfold mxD
  rw [fr_head (by omega), List.take_of_length_le (by rw [List.length_drop]; omega), List.take_of_length_le (by rw [frs_length, List.length_drop]; omega)]
theorem mxD_le (xs : List Int) (m d : Nat) (hd : m + 1 + d ≤ xs.length) : mxD xs m d ≤ xs.length + 1 := by
  unfold mxD
  have : mx (xs.getD m 0) ((xs.drop (m + 1)).take d) ((frs (xs.drop (m + 1))).take d) ≤ xs.length := mx_bound _ _ (fun f hf => by
    have := frs_bound (xs.drop (m + 1)) f (List.mem_of_mem_take hf)
    rw [List.length_drop] at this; omega)
  omega
def moT (xs : List Int) (m : Nat) : Nat := mo ((frs xs).drop m)
theorem moT_step {xs : List Int} {m : Nat} (h : m < xs.length) : moT xs m = max (moT xs (m + 1)) (fr xs m) := mo_drop (by rw [frs_length]; exact h)
theorem moT_top (xs : List Int) : moT xs xs.length = 0 := by
  unfold moT
  rw [List.drop_of_length_le (by rw [frs_length]; exact Nat.le_refl _)]; rfl
theorem moT_le (xs : List Int) (m : Nat) : moT xs m ≤ xs.length := mo_bound _ (fun f hf => frs_bound xs f (List.mem_of_mem_drop hf))

/-- What insert.Longest answers. -/
def LongOut (e : Ending) (w : World) (xs : List Int) : Prop :=
  ∃ (j : Int) (l : List Int) (A' : Option Addr) (c' : Nat), e = .returned (.tuple #[.slice A' l.length c', .int .i64 j]) ∧ Sl w w.heap.size A' (ints l) ∧ l.length ≤ 9223372036854775807 ∧ j = wordChk xs ∧ (j = 0 → ∃ last, Grd xs xs.length l last)

set_option maxRecDepth 100000 in
set_option maxHeartbeats 2000000 in
theorem longest_any (A : Option Addr) (cap : Nat) (xs : List Int) (w : World) (hcl : xs.length ≤ 9223372036854775807) (h : Sl w w.heap.size A (ints xs)) :
    Calls Try.prog 35 #[.slice A xs.length cap] w fun e w' => LongOut e w' xs ∧ Below w.heap.size w w' := by
  go_enter Try.func35, Try.ntmps35
  go_wp2_with (first | (go_at_call 56; refine (letters_any A cap xs _ hcl h).mono ?_) | fail)
  rintro e w1 ⟨rfl, rfl⟩
  obtain ⟨k, hk⟩ : ∃ k, k = wordChk xs := ⟨_, rfl⟩
  rw [← hk]
  have HK := Lib.hid hk
  by_cases hk0 : k = 0
  · have hw := wordChk_zero (xs := xs) (by rw [← hk]; exact hk0)
    have hl := hw.1
    have HX : Hid (∀ x ∈ xs, Lt x) := hw.2
    subst hk0
    clear hk hw
    go_wp2_with (first | (refine wpList_mk (base := w.heap.size) rfl (.tmp 18) (.tmp 18) rfl xs.length rfl rfl (by omega) (Nat.le_refl _) (fun w2 hown2 hb2 hz2 => ?_)) | fail)
    rw [← arrF_top] at hown2
    have HO2 := Lib.hid hown2
    clear hown2
    go_wp2
    go_loopw [6, 7] (fun ov iv wr => ∃ m : Nat, m ≤ xs.length ∧ iv = .int .i64 ((m : Int) - 1) ∧ ov = .int .i64 (moT xs m) ∧ wr.ownsRow w.heap.size 3 1 (.slice (some ⟨w.heap.size, 0, none⟩) xs.length xs.length) xs.length (ints (arrF xs m)) ∧ Below w.heap.size w wr) (fun _ iv _ => (intOf iv + 1).toNat)
    case atStart => exact ⟨xs.length, Nat.le_refl _, rfl, by rw [moT_top]; rfl, HO2.out, hb2⟩
    case round =>
      clear HO2 hb2 hz2
      obtain ⟨m, hm, rfl, rfl, ho, hW⟩ := hrel
      have HO := Lib.hid ho
      have HW := Lib.hid hW
      cases m with
      | succ m =>
        have e1 : ((m + 1 : Nat) : Int) - 1 = (m : Int) := by omega
        rw [e1]
        have hd2 : decide ((0 : Int) ≤ (m : Int)) = true := decide_eq_true (by omega)
        have hml : m < xs.length := by omega
        obtain ⟨b, o, rfl, hb⟩ := h.addr (by omega)
        have hxm0 := getD_cell h hml
        obtain ⟨a, ha⟩ : ∃ a, a = xs.getD m 0 := ⟨_, rfl⟩
        rw [← ha] at hxm0
        have HA := Lib.hid ha
        have hc0 := own_get ho (arrF_get (m := m + 1) hml)
        have hf0 := ho.frozenAt m
        have hst := own_set ho m 1
        have HST := Lib.hid hst
        have hmt := moT_step hml
        have hmb := moT_le xs (m + 1)
        obtain ⟨p0, hp0⟩ : ∃ p, p = moT xs (m + 1) := ⟨_, rfl⟩
        rw [← hp0] at hmt hmb ⊢
        have HMT := Lib.hid hmt
        clear hst ho e1 ha hp0 hmt HO
        go_wp2
        go_loopw [8] (fun kv wz => ∃ K : Nat, m + 1 ≤ K ∧ K ≤ xs.length ∧ kv = .int .i64 K ∧ wz.ownsRow w.heap.size 3 1 (.slice (some ⟨w.heap.size, 0, none⟩) xs.length xs.length) xs.length (ints ((arrF xs (m + 1)).set m (mxD xs m (K - (m + 1)) : Int))) ∧ Below w.heap.size w wz) (fun kv _ => xs.length - (intOf kv).toNat)
        case atStart => exact ⟨m + 1, Nat.le_refl _, hml, by go_num, by rw [Nat.sub_self, mxD_zero]; exact HST.out, HW.out.setCell (p := ⟨w.heap.size, m, none⟩) (Nat.le_refl _) _⟩
        case round =>
          obtain ⟨w9, rfl⟩ : ∃ w9, w9 = wr := ⟨_, rfl⟩
          clear HST HW hc0 hf0 hW
          obtain ⟨K, hmK, hKn, rfl, ho, hW⟩ := hrel
          have HW := Lib.hid hW
          have hKe : m + 1 + (K - (m + 1)) = K := by omega
          have hK1 : K + 1 - (m + 1) = K - (m + 1) + 1 := by omega
          by_cases hkn : K < xs.length
          · have dk : decide (K < xs.length) = true := decide_eq_true hkn
            have hcm := (hW.cell (p := ⟨b, o + m, none⟩) hb).trans hxm0
            have hck := (hW.cell (p := ⟨b, o + K, none⟩) hb).trans (getD_cell h hkn)
            have hsu := mxD_succ (xs := xs) (m := m) (d := K - (m + 1)) (by omega)
            rw [hKe, ← hK1] at hsu
            have hle := mxD_le xs m (K - (m + 1)) (by omega)
            have hfl := fr_le (xs := xs) (i := K)
            have hgm := own_get ho (i := m) (z := (mxD xs m (K - (m + 1)) : Int)) (List.getElem?_set_self (by rw [arrF_length]; exact hml))
            have hgk := own_get ho (i := K) (z := (fr xs K : Int)) (by rw [List.getElem?_set_ne (by omega), arrF_get hkn, if_neg (by omega)])
            have hfz := ho.frozenAt m
            obtain ⟨y, hy⟩ : ∃ y, y = xs.getD K 0 := ⟨_, rfl⟩
            obtain ⟨p, hp⟩ : ∃ p, p = mxD xs m (K - (m + 1)) := ⟨_, rfl⟩
            obtain ⟨f, hf⟩ : ∃ f, f = fr xs K := ⟨_, rfl⟩
            rw [← hy] at hck hsu
            rw [← HA.out] at hsu
            rw [← hp] at hsu hle hgm ho
            rw [← hf] at hsu hfl hgk
            by_cases hay : a ≤ y
            · have da : decide (a ≤ y) = true := decide_eq_true hay
              rw [if_pos hay] at hsu
              have HO := Lib.hid ho
              obtain ⟨N, hN⟩ : ∃ N, N = mxD xs m (K + 1 - (m + 1)) := ⟨_, rfl⟩
              rw [← hN] at hsu
              have HN := Lib.hid hN
              have HSU : Hid ((N : Int) = max (p : Int) ((f : Int) + 1)) := by show _ = _; rw [hsu]; omega
              have hwf : IntKind.i64.wrap ((f : Int) + 1) = (f : Int) + 1 := IntWalk.i64_in _ (by omega)
              clear hN hsu ho hy hp hf hKe hK1 hW
              go_wp2
              go_quiet (fail)
              go_wp2
              go_region
              have hst := own_set (own_drewN HO.out (nq + 1)) m (max (p : Int) ((f : Int) + 1))
              rw [List.set_set, ← HSU.out] at hst
              rw [← HSU.out]
              have HST := Lib.hid hst
              have hws := (below_drewN HW.out (nq + 1)).setCell (p := ⟨w.heap.size, m, none⟩) (Nat.le_refl _) (.int .i64 (N : Int))
              clear hst
              go_wp2
              go_roundw
              case rel => exact ⟨K + 1, by omega, by omega, by go_num, by rw [← HN.out]; exact HST.out, hws⟩
              case measure => simp [intOf]; omega
            · have da : decide (a ≤ y) = false := decide_eq_false hay
              rw [if_neg hay] at hsu
              have HO := Lib.hid ho
              have HSU := Lib.hid hsu
              clear hsu ho hy hp hf hKe hK1 hW
              go_wp2
              go_quiet (fail)
              go_wp2
              go_roundw
              case rel => exact ⟨K + 1, by omega, by omega, by go_num, by rw [HSU.out]; exact own_drewN HO.out nq, below_drewN HW.out nq⟩
              case measure => simp [intOf]; omega
          · have dk : decide (K < xs.length) = false := decide_eq_false hkn
            have hme := mxD_end (xs := xs) (m := m) (d := K - (m + 1)) (by omega)
            rw [hme, arrF_set] at ho
            have hgm := own_get ho (arrF_get (m := m) hml)
            rw [if_neg (by omega)] at hgm
            have hfl := fr_le (xs := xs) (i := m)
            obtain ⟨f, hf⟩ : ∃ f, f = fr xs m := ⟨_, rfl⟩
            rw [← hf] at hgm hfl
            have HO := Lib.hid ho
            have HF := Lib.hid hf
            clear ho hme hf hKe hK1 hW
            have hmo : Hid ((moT xs m : Int) = max (p0 : Int) (f : Int)) := by show _ = _; rw [HMT.out, ← HF.out]; omega
            go_wp2
            go_roundw
            case rel => exact ⟨m, by omega, rfl, by rw [hmo.out], HO.out, HW.out⟩
            case measure => simp [intOf]
      | zero =>
        have e1 : ((0 : Nat) : Int) - 1 = -1 := rfl
        rw [e1]
        have hmm : moT xs 0 = most xs := by unfold moT most; rw [List.drop_zero]
        rw [hmm]
        have hmb := most_le xs
        obtain ⟨M, hM⟩ : ∃ M, M = most xs := ⟨_, rfl⟩
        rw [← hM] at hmb ⊢
        have HM := Lib.hid hM
        clear hM hmm e1 ho hW
        have hsz := HW.out.size
        have hlow := (HO.out.lt w.heap.size rfl).2
        go_wp2
        go_loopw [9, 10, 11] (fun ov iv lv wz => ∃ (i : Nat) (l : List Int) (last : Int), i ≤ xs.length ∧ iv = .int .i64 i ∧ lv = .int .i64 last ∧ Grd xs i l last ∧ wz.ownsRow wr.heap.size 3 1 ov l.length (ints l) ∧ Below wr.heap.size wr wz) (fun _ iv _ _ => xs.length - (intOf iv).toNat)
        case atStart => exact ⟨0, [], 0, Nat.zero_le _, rfl, rfl, Grd.start HX.out, World.ownsRow_nil _ _ _ _, Below.refl _ _⟩
        case round =>
          obtain ⟨w9, rfl⟩ : ∃ w9, w9 = wr := ⟨_, rfl⟩
          obtain ⟨i, l, last, hi, rfl, rfl, hg, ho2, hW2⟩ := hrel
          have HG := Lib.hid hg
          have hlM := hg.le
          rw [← HM.out] at hlM
          obtain ⟨A9, c9, rfl, _, _, _, _⟩ := own_sliceA ho2
          have HO9 := Lib.hid ho2
          have HW9 := Lib.hid hW2
          have hsz9 := hW2.size
          by_cases hit : i < xs.length
          · have di : decide (i < xs.length) = true := decide_eq_true hit
            obtain ⟨b, o, rfl, hb⟩ := h.addr (by omega)
            have hWw := HW.out.trans (hW2.mono hsz)
            have hxc := (hWw.cell (p := ⟨b, o + i, none⟩) hb).trans (getD_cell h hit)
            have hfc := own_get (own_lowA HO.out hlow hW2) (arrF_get (m := 0) hit)
            rw [if_neg (by omega)] at hfc
            obtain ⟨f, hf⟩ : ∃ f, f = fr xs i := ⟨_, rfl⟩
            obtain ⟨x, hx⟩ : ∃ x, x = xs.getD i 0 := ⟨_, rfl⟩
            rw [← hf] at hfc
            rw [← hx] at hxc
            by_cases hc1 : f = M - l.length
            · have d1 : decide ((f : Int) = (M : Int) - (l.length : Int)) = true := decide_eq_true (by omega)
              have d1' : ((f : Int) == (M : Int) - (l.length : Int)) = true := by simp; omega
              by_cases hc2 : last ≤ x
              · have d2 : decide (last ≤ x) = true := decide_eq_true hc2
                have hnx := hg.take hit (by rw [← hf, ← HM.out]; exact hc1) (by rw [← hx]; exact hc2)
                rw [← hx] at hnx
                have HNX := Lib.hid hnx
                have hbl : b < wr.heap.size := by omega
                have hb9 : b < w9.heap.size := by omega
                have hfb : some b ≠ (Value.slice A9 l.length c9).ownBlock := fun e => by have := (ho2.lt b e.symm).1; omega
                have hwi : IntKind.i64.wrap ((i : Int) + 1) = (i : Int) + 1 := IntWalk.i64_in _ (by omega)
                have HCH := Lib.hid hc1
                clear hnx hg ho2 hW2 hWw hf hx hc1
                go_wp2
                go_region_held3 (fun w' => w'.cell? ⟨b, o + i, none⟩ = some (.int .i64 x))
                  (first
                    | go_keep
                    | (refine hcf.trans ?_; assumption))
                  (first
                    | (refine step_app1 (base := wr.heap.size) (l := l) (v := .slice A9 l.length c9) ?_ (.tmp 89) (.tmp 92) ?_ ?_ ((i : Int) + 1) l.length w9.heap.size ?_ ?_ ?_ ?_ ?_ ?_; (· rfl); (· rfl); (· rfl); (· rfl); (· exact own_drew (HO9.out.alloc _)); (· exact heap_alloc_new _ _); (· omega); (· (show _ ≤ (World.drew _).heap.size; simp; omega)); intro g2 c2 w6 hl6 hg6 hat6 hlt6; have hcf := hg6.cell_far ⟨b, o + i, none⟩ (by show b < (World.drew _).heap.size; simp; omega) hfb)
                    | fail)
                have hW6 : Below wr.heap.size wr w6 := ((HW9.out.alloc hsz9 _).drew).grown hg6 (by show _ ≤ (World.drew _).heap.size; simp; omega) (fun k hk => (HO9.out.lt k hk).1)
                have HL6 := Lib.hid hl6
                clear hl6 hg6 hat6
                go_wp2
                go_roundw
                case rel => exact ⟨i + 1, l ++ [(i : Int) + 1], x, by omega, by go_num, rfl, HNX.out, by rw [List.length_append]; exact HL6.out, hW6⟩
                case measure => simp [intOf]; omega
              · have d2 : decide (last ≤ x) = false := decide_eq_false hc2
                have hnx := Lib.hid (hg.skip (fun hh => hc2 (by rw [hx]; exact hh.2)))
                clear hg ho2 hW2 hWw hf hx
                go_wp2
                go_roundw
                case rel => exact ⟨i + 1, l, last, by omega, by go_num, rfl, hnx.out, HO9.out, HW9.out⟩
                case measure => simp [intOf]; omega
            · have d1' : ((f : Int) == (M : Int) - (l.length : Int)) = false := by simp; omega
              have hnx := Lib.hid (hg.skip (fun hh => hc1 (by rw [hf, HM.out]; exact hh.1)))
              clear hg ho2 hW2 hWw hf hx
              go_wp2
              go_roundw
              case rel => exact ⟨i + 1, l, last, by omega, by go_num, rfl, hnx.out, HO9.out, HW9.out⟩
              case measure => simp [intOf]; omega
          · have di : decide (i < xs.length) = false := decide_eq_false hit
            have hie : i = xs.length := by omega
            have hg' := hg
            rw [hie] at hg'
            have HG' := Lib.hid hg'
            have hWw := Lib.hid (HW.out.trans (hW2.mono hsz))
            have hsl := Lib.hid (Sl.of_own ho2)
            clear hg hg' ho2 hW2 hie
            go_wp2
            go_ret2
            exact ⟨⟨0, l, A9, c9, rfl, hsl.out, by omega, HK.out, fun _ => ⟨last, HG'.out⟩⟩, hWw.out⟩
  · have dk : (k != 0) = true := by simpa using hk0
    have HK0 := Lib.hid hk0
    clear hk
    go_wp2
    go_ret2
    exact ⟨⟨k, [], none, 0, rfl, Sl.nil _ _ _, by simp, HK.out, fun e => absurd e HK0.out⟩, Below.refl _ _⟩
end Go.Proofs.Ytmlmdklheiafpaa
