/- Part of the proof. -/
import Derived.Test.YtpmkdihencepnaaGreatDoorMk01
import Derived.Test.YtpmkdihencepnaaGreatDoorMk07
import Derived.Test.YtpmkdihencepnaaGreatDoorMk18
set_option maxHeartbeats 16000000
set_option maxRecDepth 100000
namespace Go.Proofs.YtpmkdihencepnaaGreatDoor
section
open Go.RowKit
def arrF (xs : List Int) (m : Nat) : List Int := (List.range xs.length).map (fun j => if j < m then 0 else (fr xs j : Int))
theorem arrF_length (xs : List Int) (m : Nat) : (arrF xs m).length = xs.length := by simp [arrF]
theorem arrF_top (xs : List Int) : arrF xs xs.length = List.replicate xs.length 0 := by
 unfold arrF
 apply List.ext_getElem (by simp)
 intro j h1 h2
 have h3 : j < xs.length := by simpa using h1
 rw [List.getElem_replicate, List.getElem_map, List.getElem_range, if_pos h3]
theorem arrF_get {xs : List Int} {m j : Nat} (h : j < xs.length) : (arrF xs m)[j]? = some (if j < m then 0 else (fr xs j : Int)) := by
 unfold arrF; simp [h]
theorem arrF_set {xs : List Int} {m : Nat} : (arrF xs (m + 1)).set m (fr xs m : Int) = arrF xs m := by
 unfold arrF
 apply List.ext_getElem (by simp)
 intro j h1 h2
 rw [List.getElem_set]
 by_cases e : m = j
 · subst e; simp
 · rw [if_neg e]
   have : (j < m + 1) ↔ (j < m) := by omega
   simp [this]
def mxD (xs : List Int) (m d : Nat) : Nat := 1 + mx (xs.getD m 0) ((xs.drop (m + 1)).take d) ((frs (xs.drop (m + 1))).take d)
theorem mxD_zero (xs : List Int) (m : Nat) : mxD xs m 0 = 1 := by simp [mxD, mx]
theorem mxD_succ {xs : List Int} {m d : Nat} (h : m + 1 + d < xs.length) : mxD xs m (d + 1) = if xs.getD m 0 ≤ xs.getD (m + 1 + d) 0 then max (mxD xs m d) (fr xs (m + 1 + d) + 1) else mxD xs m d := by
 unfold mxD
 have h1 : (xs.drop (m + 1))[d]? = some (xs.getD (m + 1 + d) 0) := by rw [List.getElem?_drop, List.getElem?_eq_getElem h, getD_get h]
 have h2 : (frs (xs.drop (m + 1)))[d]? = some (fr xs (m + 1 + d)) := by rw [← frs_drop, List.getElem?_drop]; exact fr_at h
 rw [mx_snoc h1 h2]
 by_cases c : xs.getD m 0 ≤ xs.getD (m + 1 + d) 0
 · rw [if_pos c, if_pos c]; omega
 · rw [if_neg c, if_neg c]; omega
theorem mxD_end {xs : List Int} {m d : Nat} (h : m + 1 + d = xs.length) : mxD xs m d = fr xs m := by
 unfold mxD
 rw [fr_head (by omega), List.take_of_length_le (by rw [List.length_drop]; omega), List.take_of_length_le (by rw [frs_length, List.length_drop]; omega)]
theorem mxD_le (xs : List Int) (m d : Nat) (hd : m + 1 + d ≤ xs.length) : mxD xs m d ≤ xs.length + 1 := by
 unfold mxD
 have : mx (xs.getD m 0) ((xs.drop (m + 1)).take d) ((frs (xs.drop (m + 1))).take d) ≤ xs.length := mx_bound _ _ (fun f hf => by
  have := frs_bound (xs.drop (m + 1)) f (List.mem_of_mem_take hf)
  rw [List.length_drop] at this; omega)
 omega
def moT (xs : List Int) (m : Nat) : Nat := mo ((frs xs).drop m)
theorem moT_step {xs : List Int} {m : Nat} (h : m < xs.length) : moT xs m = max (moT xs (m + 1)) (fr xs m) := mo_drop (by rw [frs_length]; exact h)
theorem moT_top (xs : List Int) : moT xs xs.length = 0 := by
 unfold moT
 rw [List.drop_of_length_le (by rw [frs_length]; exact Nat.le_refl _)]; rfl
theorem moT_le (xs : List Int) (m : Nat) : moT xs m ≤ xs.length := mo_bound _ (fun f hf => frs_bound xs f (List.mem_of_mem_drop hf))
def glT (xs : List Int) : Nat → List Int × Int
 | 0 => ([], 0)
 | i + 1 => if fr xs i = most xs - (glT xs i).1.length ∧ (glT xs i).2 ≤ xs.getD i 0 then ((glT xs i).1 ++ [(i : Int) + 1], xs.getD i 0) else glT xs i
theorem glT_take {xs l : List Int} {i : Nat} {last : Int} (h : glT xs i = (l, last)) (h1 : fr xs i = most xs - l.length) (h2 : last ≤ xs.getD i 0) : glT xs (i + 1) = (l ++ [(i : Int) + 1], xs.getD i 0) := by
 unfold glT
 rw [h, if_pos ⟨h1, h2⟩]
theorem glT_skip {xs l : List Int} {i : Nat} {last : Int} (h : glT xs i = (l, last)) (hn : ¬ (fr xs i = most xs - l.length ∧ last ≤ xs.getD i 0)) : glT xs (i + 1) = (l, last) := by
 unfold glT
 rw [h, if_neg hn]
theorem glT_len (xs : List Int) : ∀ i, (glT xs i).1.length ≤ i
 | 0 => Nat.le_refl _
 | i + 1 => by
  have := glT_len xs i
  unfold glT
  split
  · simp; exact this
  · omega
def LonOut (xs : List Int) (B : Nat) (e : Ending) (w : World) : Prop := (wordChk xs = 0 ∧ Tol0 (fun l => l = (glT xs xs.length).1) B e w) ∨ (wordChk xs ≠ 0 ∧ e = .returned (.tuple #[.slice none 0 0, .int .i64 (wordChk xs)]))
theorem longest_any (A : Option Addr) (cap : Nat) (xs : List Int) (w : World) (hcl : xs.length ≤ 9223372036854775807) (h : Sl w w.heap.size A (ints xs)) :
 Calls Tryz.prog 87 #[.slice A xs.length cap] w fun e w' => LonOut xs w.heap.size e w' ∧ Below w.heap.size w w' := by
 go_enter Tryz.func87, Tryz.ntmps87
 go_wp2_with (first | (go_at_call 130; refine (letters_any A cap xs _ hcl h).mono ?_) | fail)
 rintro e w1 ⟨rfl, rfl⟩
 obtain ⟨k, hk⟩ : ∃ k, k = wordChk xs := ⟨_, rfl⟩
 rw [← hk]
 have HK := Lib.hid hk
 by_cases hk0 : k = 0
 · have hw := wordChk_zero (xs := xs) (by rw [← hk]; exact hk0)
   have hl := hw.1
   have HX : Hid (∀ x ∈ xs, Lt x) := hw.2
   subst hk0
   clear hk hw
   go_wp2_with (first | (refine wpList_mk (base := w.heap.size) rfl (.tmp 18) (.tmp 18) rfl xs.length rfl rfl (by omega) (Nat.le_refl _) (fun w2 hown2 hb2 hz2 => ?_)) | fail)
   rw [← arrF_top] at hown2
   have HO2 := Lib.hid hown2
   clear hown2
   go_wp2
   go_loopw [6, 7] (fun ov iv wr => ∃ m : Nat, m ≤ xs.length ∧ iv = .int .i64 ((m : Int) - 1) ∧ ov = .int .i64 (moT xs m) ∧ wr.ownsRow w.heap.size 3 1 (.slice (some ⟨w.heap.size, 0, none⟩) xs.length xs.length) xs.length (ints (arrF xs m)) ∧ Below w.heap.size w wr) (fun _ iv _ => (intOf iv + 1).toNat)
   case atStart => exact ⟨xs.length, Nat.le_refl _, rfl, by rw [moT_top]; rfl, HO2.out, hb2⟩
   case round =>
    clear HO2 hb2 hz2
    obtain ⟨m, hm, rfl, rfl, ho, hW⟩ := hrel
    have HO := Lib.hid ho
    have HW := Lib.hid hW
    cases m with
    | succ m =>
     have e1 : ((m + 1 : Nat) : Int) - 1 = (m : Int) := by omega
     rw [e1]
     have hd2 : decide ((0 : Int) ≤ (m : Int)) = true := decide_eq_true (by omega)
     have hml : m < xs.length := by omega
     obtain ⟨b, o, rfl, hb⟩ := h.addr (by omega)
     have hxm0 := getD_cell h hml
     obtain ⟨a, ha⟩ : ∃ a, a = xs.getD m 0 := ⟨_, rfl⟩
     rw [← ha] at hxm0
     have HA := Lib.hid ha
     have hc0 := own_get ho (arrF_get (m := m + 1) hml)
     have hf0 := ho.frozenAt m
     have hst := own_set ho m 1
     have HST := Lib.hid hst
     have hmt := moT_step hml
     have hmb := moT_le xs (m + 1)
     obtain ⟨p0, hp0⟩ : ∃ p, p = moT xs (m + 1) := ⟨_, rfl⟩
     rw [← hp0] at hmt hmb ⊢
     have HMT := Lib.hid hmt
     clear hst ho e1 ha hp0 hmt HO
     go_wp2
     go_loopw [8] (fun kv wz => ∃ K : Nat, m + 1 ≤ K ∧ K ≤ xs.length ∧ kv = .int .i64 K ∧ wz.ownsRow w.heap.size 3 1 (.slice (some ⟨w.heap.size, 0, none⟩) xs.length xs.length) xs.length (ints ((arrF xs (m + 1)).set m (mxD xs m (K - (m + 1)) : Int))) ∧ Below w.heap.size w wz) (fun kv _ => xs.length - (intOf kv).toNat)
     case atStart => exact ⟨m + 1, Nat.le_refl _, hml, by go_num, by rw [Nat.sub_self, mxD_zero]; exact HST.out, HW.out.setCell (p := ⟨w.heap.size, m, none⟩) (Nat.le_refl _) _⟩
     case round =>
      obtain ⟨w9, rfl⟩ : ∃ w9, w9 = wr := ⟨_, rfl⟩
      clear HST HW hc0 hf0 hW
      obtain ⟨K, hmK, hKn, rfl, ho, hW⟩ := hrel
      have HW := Lib.hid hW
      have hKe : m + 1 + (K - (m + 1)) = K := by omega
      have hK1 : K + 1 - (m + 1) = K - (m + 1) + 1 := by omega
      by_cases hkn : K < xs.length
      · have dk : decide (K < xs.length) = true := decide_eq_true hkn
        have hcm := (hW.cell (p := ⟨b, o + m, none⟩) hb).trans hxm0
        have hck := (hW.cell (p := ⟨b, o + K, none⟩) hb).trans (getD_cell h hkn)
        have hsu := mxD_succ (xs := xs) (m := m) (d := K - (m + 1)) (by omega)
        rw [hKe, ← hK1] at hsu
        have hle := mxD_le xs m (K - (m + 1)) (by omega)
        have hfl := fr_le (xs := xs) (i := K)
        have hgm := own_get ho (i := m) (z := (mxD xs m (K - (m + 1)) : Int)) (List.getElem?_set_self (by rw [arrF_length]; exact hml))
        have hgk := own_get ho (i := K) (z := (fr xs K : Int)) (by rw [List.getElem?_set_ne (by omega), arrF_get hkn, if_neg (by omega)])
        have hfz := ho.frozenAt m
        obtain ⟨y, hy⟩ : ∃ y, y = xs.getD K 0 := ⟨_, rfl⟩
        obtain ⟨p, hp⟩ : ∃ p, p = mxD xs m (K - (m + 1)) := ⟨_, rfl⟩
        obtain ⟨f, hf⟩ : ∃ f, f = fr xs K := ⟨_, rfl⟩
        rw [← hy] at hck hsu
        rw [← HA.out] at hsu
        rw [← hp] at hsu hle hgm ho
        rw [← hf] at hsu hfl hgk
        by_cases hay : a ≤ y
        · have da : decide (a ≤ y) = true := decide_eq_true hay
          rw [if_pos hay] at hsu
          have HO := Lib.hid ho
          obtain ⟨N, hN⟩ : ∃ N, N = mxD xs m (K + 1 - (m + 1)) := ⟨_, rfl⟩
          rw [← hN] at hsu
          have HN := Lib.hid hN
          have HSU : Hid ((N : Int) = max (p : Int) ((f : Int) + 1)) := by show _ = _; rw [hsu]; omega
          have hwf : IntKind.i64.wrap ((f : Int) + 1) = (f : Int) + 1 := IntWalk.i64_in _ (by omega)
          clear hN hsu ho hy hp hf hKe hK1 hW
          go_wp2
          go_quiet (fail)
          go_wp2
          go_region
          have hst := own_set (own_drewN HO.out (nq + 1)) m (max (p : Int) ((f : Int) + 1))
          rw [List.set_set, ← HSU.out] at hst
          rw [← HSU.out]
          have HST := Lib.hid hst
          have hws := (below_drewN HW.out (nq + 1)).setCell (p := ⟨w.heap.size, m, none⟩) (Nat.le_refl _) (.int .i64 (N : Int))
          clear hst
          go_wp2
          go_roundw
          case rel => exact ⟨K + 1, by omega, by omega, by go_num, by rw [← HN.out]; exact HST.out, hws⟩
          case measure => simp [intOf]; omega
        · have da : decide (a ≤ y) = false := decide_eq_false hay
          rw [if_neg hay] at hsu
          have HO := Lib.hid ho
          have HSU := Lib.hid hsu
          clear hsu ho hy hp hf hKe hK1 hW
          go_wp2
          go_quiet (fail)
          go_wp2
          go_roundw
          case rel => exact ⟨K + 1, by omega, by omega, by go_num, by rw [HSU.out]; exact own_drewN HO.out nq, below_drewN HW.out nq⟩
          case measure => simp [intOf]; omega
      · have dk : decide (K < xs.length) = false := decide_eq_false hkn
        have hme := mxD_end (xs := xs) (m := m) (d := K - (m + 1)) (by omega)
        rw [hme, arrF_set] at ho
        have hgm := own_get ho (arrF_get (m := m) hml)
        rw [if_neg (by omega)] at hgm
        have hfl := fr_le (xs := xs) (i := m)
        obtain ⟨f, hf⟩ : ∃ f, f = fr xs m := ⟨_, rfl⟩
        rw [← hf] at hgm hfl
        have HO := Lib.hid ho
        have HF := Lib.hid hf
        clear ho hme hf hKe hK1 hW
        have hmo : Hid ((moT xs m : Int) = max (p0 : Int) (f : Int)) := by show _ = _; rw [HMT.out, ← HF.out]; omega
        go_wp2
        go_roundw
        case rel => exact ⟨m, by omega, rfl, by rw [hmo.out], HO.out, HW.out⟩
        case measure => simp [intOf]
    | zero =>
     have e1 : ((0 : Nat) : Int) - 1 = -1 := rfl
     rw [e1]
     have hmm : moT xs 0 = most xs := by unfold moT most; rw [List.drop_zero]
     rw [hmm]
     have hmb := most_le xs
     obtain ⟨M, hM⟩ : ∃ M, M = most xs := ⟨_, rfl⟩
     rw [← hM] at hmb ⊢
     have HM := Lib.hid hM
     clear hM hmm e1 ho hW
     have hsz := HW.out.size
     have hlow := (HO.out.lt w.heap.size rfl).2
     go_wp2
     go_loopw [9, 10, 11] (fun ov iv lv wz => ∃ (i : Nat) (l : List Int) (last : Int), i ≤ xs.length ∧ iv = .int .i64 i ∧ lv = .int .i64 last ∧ Grd xs i l last ∧ glT xs i = (l, last) ∧ wz.ownsRow wr.heap.size 3 1 ov l.length (ints l) ∧ Below wr.heap.size wr wz) (fun _ iv _ _ => xs.length - (intOf iv).toNat)
     case atStart => exact ⟨0, [], 0, Nat.zero_le _, rfl, rfl, Grd.start HX.out, rfl, World.ownsRow_nil _ _ _ _, Below.refl _ _⟩
     case round =>
      obtain ⟨w9, rfl⟩ : ∃ w9, w9 = wr := ⟨_, rfl⟩
      obtain ⟨i, l, last, hi, rfl, rfl, hg, hgl, ho2, hW2⟩ := hrel
      have HGL := Lib.hid hgl
      clear hgl
      have HG := Lib.hid hg
      have hlM := hg.le
      rw [← HM.out] at hlM
      obtain ⟨A9, c9, rfl, _, _, _, _⟩ := own_sliceA ho2
      have HO9 := Lib.hid ho2
      have HW9 := Lib.hid hW2
      have hsz9 := hW2.size
      by_cases hit : i < xs.length
      · have di : decide (i < xs.length) = true := decide_eq_true hit
        obtain ⟨b, o, rfl, hb⟩ := h.addr (by omega)
        have hWw := HW.out.trans (hW2.mono hsz)
        have hxc := (hWw.cell (p := ⟨b, o + i, none⟩) hb).trans (getD_cell h hit)
        have hfc := own_get (own_lowA HO.out hlow hW2) (arrF_get (m := 0) hit)
        rw [if_neg (by omega)] at hfc
        obtain ⟨f, hf⟩ : ∃ f, f = fr xs i := ⟨_, rfl⟩
        obtain ⟨x, hx⟩ : ∃ x, x = xs.getD i 0 := ⟨_, rfl⟩
        rw [← hf] at hfc
        rw [← hx] at hxc
        by_cases hc1 : f = M - l.length
        · have d1 : decide ((f : Int) = (M : Int) - (l.length : Int)) = true := decide_eq_true (by omega)
          have d1' : ((f : Int) == (M : Int) - (l.length : Int)) = true := by simp; omega
          by_cases hc2 : last ≤ x
          · have d2 : decide (last ≤ x) = true := decide_eq_true hc2
            have hnx := hg.take hit (by rw [← hf, ← HM.out]; exact hc1) (by rw [← hx]; exact hc2)
            rw [← hx] at hnx
            have HNX := Lib.hid hnx
            have hgx := glT_take HGL.out (by rw [← hf, ← HM.out]; exact hc1) (by rw [← hx]; exact hc2)
            rw [← hx] at hgx
            have HGX := Lib.hid hgx
            clear hgx
            have hbl : b < wr.heap.size := by omega
            have hb9 : b < w9.heap.size := by omega
            have hfb : some b ≠ (Value.slice A9 l.length c9).ownBlock := fun e => by have := (ho2.lt b e.symm).1; omega
            have hwi : IntKind.i64.wrap ((i : Int) + 1) = (i : Int) + 1 := IntWalk.i64_in _ (by omega)
            have HCH := Lib.hid hc1
            clear hnx hg ho2 hW2 hWw hf hx hc1
            go_wp2
            go_region_held3 (fun w' => w'.cell? ⟨b, o + i, none⟩ = some (.int .i64 x))
             (first
              | go_keep
              | (refine hcf.trans ?_; assumption))
             (first
              | (refine step_app1 (base := wr.heap.size) (l := l) (v := .slice A9 l.length c9) ?_ (.tmp 89) (.tmp 92) ?_ ?_ ((i : Int) + 1) l.length w9.heap.size ?_ ?_ ?_ ?_ ?_ ?_; (· rfl); (· rfl); (· rfl); (· rfl); (· exact own_drew (HO9.out.alloc _)); (· exact heap_alloc_new _ _); (· omega); (· (show _ ≤ (World.drew _).heap.size; simp; omega)); intro g2 c2 w6 hl6 hg6 hat6 hlt6; have hcf := hg6.cell_far ⟨b, o + i, none⟩ (by show b < (World.drew _).heap.size; simp; omega) hfb)
              | fail)
            have hW6 : Below wr.heap.size wr w6 := ((HW9.out.alloc hsz9 _).drew).grown hg6 (by show _ ≤ (World.drew _).heap.size; simp; omega) (fun k hk => (HO9.out.lt k hk).1)
            have HL6 := Lib.hid hl6
            clear hl6 hg6 hat6
            go_wp2
            go_roundw
            case rel => exact ⟨i + 1, l ++ [(i : Int) + 1], x, by omega, by go_num, rfl, HNX.out, HGX.out, by rw [List.length_append]; exact HL6.out, hW6⟩
            case measure => simp [intOf]; omega
          · have d2 : decide (last ≤ x) = false := decide_eq_false hc2
            have hnx := Lib.hid (hg.skip (fun hh => hc2 (by rw [hx]; exact hh.2)))
            have hgx := Lib.hid (glT_skip HGL.out (fun hh => hc2 (by rw [hx]; exact hh.2)))
            clear hg ho2 hW2 hWw hf hx
            go_wp2
            go_roundw
            case rel => exact ⟨i + 1, l, last, by omega, by go_num, rfl, hnx.out, hgx.out, HO9.out, HW9.out⟩
            case measure => simp [intOf]; omega
        · have d1' : ((f : Int) == (M : Int) - (l.length : Int)) = false := by simp; omega
          have hnx := Lib.hid (hg.skip (fun hh => hc1 (by rw [hf, HM.out]; exact hh.1)))
          have hgx := Lib.hid (glT_skip HGL.out (fun hh => hc1 (by rw [hf, HM.out]; exact hh.1)))
          clear hg ho2 hW2 hWw hf hx
          go_wp2
          go_roundw
          case rel => exact ⟨i + 1, l, last, by omega, by go_num, rfl, hnx.out, hgx.out, HO9.out, HW9.out⟩
          case measure => simp [intOf]; omega
      · have di : decide (i < xs.length) = false := decide_eq_false hit
        have hie : i = xs.length := by omega
        have hfin : Hid (wordChk xs = 0 ∧ l = (glT xs xs.length).1) := Lib.hid ⟨HK.out.symm, by rw [← hie, HGL.out]⟩
        have hWw := Lib.hid (HW.out.trans (hW2.mono hsz))
        have hsl := Lib.hid (ho2.mono hsz)
        clear hg ho2 hW2 hie
        go_wp2
        go_ret2
        exact ⟨.inl ⟨hfin.out.1, tol0_own hsl.out hfin.out.2⟩, hWw.out⟩
 · have dk : (k != 0) = true := by simpa using hk0
   have HK0 := Lib.hid hk0
   clear hk
   go_wp2
   go_ret2
   exact ⟨.inr ⟨by rw [← HK.out]; exact HK0.out, by rw [← HK.out]; rfl⟩, Below.refl _ _⟩
end
section
theorem at1_get {xs : List Int} {k : Nat} (h : k < xs.length) : at1 xs ((k : Int) + 1) = xs[k] := by
 have e : ((k : Int) + 1 - 1).toNat = k := by omega
 simp only [at1, e]
 exact getD_get h
def chain (xs : List Int) (top : Int) : Nat → Int → List Int
 | 0, _ => []
 | f + 1, n => if n ≠ top ∧ n < top then n :: chain xs top f (at1 xs n) else []
def arc (xs : List Int) (top : Int) : List Int := top :: chain xs top xs.length (at1 xs top)
def roundsTo (xs : List Int) : Nat → List Int
 | 0 => []
 | t + 1 => roundsTo xs t ++ (if at1 xs ((arc xs (t + 1)).getLastD 0) = (t : Int) + 1 then arc xs (t + 1) else [])
def roundsOf (xs : List Int) : List Int := roundsTo xs xs.length
theorem chain_stop {xs : List Int} {top n : Int} (f : Nat) (h : ¬ (n ≠ top ∧ n < top)) : chain xs top f n = [] := by
 cases f with
 | zero => rfl
 | succ f => rw [chain, if_neg h]
theorem chain_go {xs : List Int} {top n : Int} (f : Nat) (h : n ≠ top ∧ n < top) : chain xs top (f + 1) n = n :: chain xs top f (at1 xs n) := by
 rw [chain, if_pos h]
theorem Path.length_le {xs : List Int} {top n : Int} {l : List Int} (hp : IsPerm xs) (h : Path xs top l n) : l.length ≤ xs.length :=
 nodup_bound (h.nodup hp) h.range
theorem Path.n_range {xs : List Int} {top n : Int} {l : List Int} (hp : IsPerm xs) (h : Path xs top l n) : 1 ≤ n ∧ n ≤ (xs.length : Int) := by
 have hpos := h.pos
 have hlast : l.getLastD 0 = l[l.length - 1] := getLastD_get hpos
 rw [h.last, hlast]
 have := h.range _ (List.getElem_mem (show l.length - 1 < l.length by omega))
 exact hp.at1_mem this.1 this.2
theorem Path.chain {xs : List Int} {top : Int} (hp : IsPerm xs) : ∀ (f : Nat) (l : List Int) (n : Int), Path xs top l n → ∃ n', Path xs top (l ++ chain xs top f n) n'
 | 0, l, n, h => ⟨n, by simpa [Proofs.YtpmkdihencepnaaGreatDoor.chain] using h⟩
 | f + 1, l, n, h => by
  by_cases hc : n ≠ top ∧ n < top
  · rw [chain_go _ hc]
    obtain ⟨n', h'⟩ := Path.chain hp f (l ++ [n]) (at1 xs n) (h.next hp hc.2)
    exact ⟨n', by simpa using h'⟩
  · rw [chain_stop _ hc]
    exact ⟨n, by simpa using h⟩
theorem arc_path {xs : List Int} {top : Int} (hp : IsPerm xs) (h1 : 1 ≤ top) (h2 : top ≤ xs.length) : ∃ n, Path xs top (arc xs top) n :=
 Path.chain hp xs.length [top] _ (Path.start h1 h2)
theorem roundsTo_le {xs : List Int} (hp : IsPerm xs) : ∀ t, t ≤ xs.length → (roundsTo xs t).length ≤ t * xs.length
 | 0, _ => by simp [roundsTo]
 | t + 1, h => by
  have ih := roundsTo_le hp t (by omega)
  rw [roundsTo, List.length_append, Nat.add_mul]
  split
  · obtain ⟨n, hn⟩ := arc_path (top := (t : Int) + 1) hp (by omega) (by omega)
    have := hn.length_le hp
    omega
  · simp; omega
def nxt (q : List Int) (k : Nat) : Int := if q.getD (k + 1) 100 < topTo q k then q.getD (k + 1) 100 else topTo q k
theorem IsBlock.nxt {q : List Int} {i t : Nat} (h : IsBlock q i t) {k : Nat} (hik : i ≤ k) (hkt : k < t) :
 Proofs.YtpmkdihencepnaaGreatDoor.nxt q k = if k + 1 < t then q.getD (k + 1) 0 else q.getD i 0 := by
 have ht := h.top hik hkt
 have hr := h.perm.getD_range h.lt
 have htl := h.tl
 have hn := h.n40
 unfold Proofs.YtpmkdihencepnaaGreatDoor.nxt
 rw [ht]
 by_cases h1 : k + 1 < t
 · have hl : k + 1 < q.length := by omega
   have := h.low (k + 1) (by omega) h1
   rw [getD_get hl] at this
   rw [if_pos h1, getD_get hl, getD_get hl, if_pos this]
 · rw [if_neg h1]
   have e : k + 1 = t := by omega
   rw [e]
   by_cases hl : t < q.length
   · rcases h.stop with hs | hs
     · omega
     · rw [getD_get hl] at hs
       rw [getD_get hl, if_neg (by omega)]
   · rw [getD_far (by omega), if_neg (by omega)]
theorem done_step {q zs : List Int} (hp : IsPerm q) (hz : zs.length = q.length) {k : Nat} (hk : k < q.length) (hd : ∀ j, j < k → at1 zs (q.getD j 0) = nxt q j) {v : Int} (hv : v = nxt q k) :
 ∀ j, j < k + 1 → at1 (zs.set ((q.getD k 0).toNat - 1) v) (q.getD j 0) = nxt q j := by
 intro j hj
 have hjl : j < q.length := by omega
 have hrj : 1 ≤ q.getD j 0 ∧ q.getD j 0 ≤ q.length := by rw [getD_get hjl]; exact hp.2 _ (List.getElem_mem hjl)
 have hrk : 1 ≤ q.getD k 0 ∧ q.getD k 0 ≤ q.length := by rw [getD_get hk]; exact hp.2 _ (List.getElem_mem hk)
 have hl1 : (q.getD j 0 - 1).toNat < (zs.set ((q.getD k 0).toNat - 1) v).length := by simp only [List.length_set]; omega
 unfold at1
 rw [getD_get hl1, List.getElem_set]
 by_cases he : j = k
 · subst he
   rw [if_pos (by omega)]; exact hv
 · have hne : q.getD j 0 ≠ q.getD k 0 := fun e => he (by
    rw [getD_get hjl, getD_get hk] at e
    exact nodup_get hp.1 hjl hk e)
   rw [if_neg (by omega)]
   have := hd j (by omega)
   unfold at1 at this
   rw [getD_get (by omega)] at this
   exact this
end
section
open Go.RowKit
def permChk (xs : List Int) : Int := if 40 < xs.length then 2 else if IsPerm xs then 0 else 1
theorem permChk_large {xs : List Int} (h : 40 < xs.length) : permChk xs = 2 := by simp [permChk, h]
theorem permChk_ok {xs : List Int} (h : ¬ 40 < xs.length) (hp : IsPerm xs) : permChk xs = 0 := by simp [permChk, h, hp]
theorem permChk_bad {xs : List Int} (h : ¬ 40 < xs.length) (hp : ¬ IsPerm xs) : permChk xs = 1 := by simp [permChk, h, hp]
def SeenArr (w : World) (g : Nat) (xs : List Int) : Prop :=
 ∃ cs : Array Value, w.heap[g]? = some (.cells cs 175 (0, 0)) ∧ cs.size = 41 ∧ ∀ i : Nat, i < 41 → cs[i]? = some (.bool (decide ((i : Int) ∈ xs)))
theorem SeenArr.cell {w : World} {g : Nat} {xs : List Int} (h : SeenArr w g xs) {x : Int} (h0 : 0 ≤ x) (h1 : x ≤ 40) :
 w.cell? ⟨g, x.toNat, none⟩ = some (.bool (decide (x ∈ xs))) := by
 obtain ⟨cs, hg, hs, hc⟩ := h
 rw [cell_of_row _ _ _ _ _ _ hg, hc _ (by omega), Int.toNat_of_nonneg h0]
theorem SeenArr.frozen {w : World} {g : Nat} {xs : List Int} (h : SeenArr w g xs) (i : Nat) : w.frozen? ⟨g, i, none⟩ = false := by
 obtain ⟨cs, hg, hs, hc⟩ := h
 exact frozen_of_row w g i cs _ hg
theorem SeenArr.set_ {w : World} {g : Nat} {xs ys : List Int} (h : SeenArr w g xs) {x : Int} (h0 : 0 ≤ x) (h1 : x ≤ 40) (hy : ∀ y, y ∈ ys ↔ y ∈ xs ∨ y = x) :
 SeenArr (w.setCell ⟨g, x.toNat, none⟩ (.bool true)) g ys := by
 obtain ⟨cs, hg, hs, hc⟩ := h
 refine ⟨cs.setIfInBounds x.toNat (.bool true), heap_setCell_same w g _ cs _ _ hg, by simpa using hs, fun i hi => ?_⟩
 rw [Array.getElem?_setIfInBounds]
 split
 · subst_vars
   rw [if_pos (by omega)]
   simp only [Option.some.injEq, Value.bool.injEq]
   refine (decide_eq_true ?_).symm
   rw [hy]; right; omega
 · rw [hc i hi]
   simp only [Option.some.injEq, Value.bool.injEq, decide_eq_decide]
   rw [hy]
   constructor
   · exact Or.inl
   · rintro (h | h)
     · exact h
     · omega
theorem seen_new (w : World) : SeenArr (w.alloc (.cells #[.bool false, .bool false, .bool false, .bool false, .bool false, .bool false, .bool false, .bool false, .bool false, .bool false, .bool false, .bool false, .bool false, .bool false, .bool false, .bool false, .bool false, .bool false, .bool false, .bool false, .bool false, .bool false, .bool false, .bool false, .bool false, .bool false, .bool false, .bool false, .bool false, .bool false, .bool false, .bool false, .bool false, .bool false, .bool false, .bool false, .bool false, .bool false, .bool false, .bool false, .bool false] 175)) w.heap.size [] := by
 refine ⟨Array.replicate 41 (.bool false), heap_alloc_new _ _, by simp, fun i hi => ?_⟩
 simp [hi]
theorem check_any (A : Option Addr) (cap : Nat) (xs : List Int) (w : World) (hcl : xs.length ≤ 9223372036854775807) (h : Sl w w.heap.size A (ints xs)) :
 Calls Tryz.prog 128 #[.slice A xs.length cap] w fun e w' => e = .returned (.int .i64 (permChk xs)) ∧ Below w.heap.size w w' := by
 by_cases hn : 40 < xs.length
 · rw [permChk_large hn]
   go_enter Tryz.func128, Tryz.ntmps128
   go_wp2
   go_ret
   exact ⟨rfl, Below.refl _ _⟩
 have hn' : xs.length ≤ 40 := by omega
 have HN := Lib.hid hn
 clear hn
 go_enter Tryz.func128, Tryz.ntmps128
 go_wp2
 go_loopw [11] (fun i wr => ∃ k : Nat, k ≤ xs.length ∧ i = .int .i64 k ∧ SeenArr wr w.heap.size (xs.take k) ∧ Below w.heap.size w wr ∧ (xs.take k).Nodup ∧ ∀ x ∈ xs.take k, 1 ≤ x ∧ x ≤ (xs.length : Int)) (fun i _ => xs.length - (intOf i).toNat)
 case atStart =>
  exact ⟨0, by omega, rfl, seen_new w, (Below.refl _ _).alloc (Nat.le_refl _) _, by simp, by simp⟩
 case round =>
  obtain ⟨k, hk, rfl, hseen, hbl, hnd, hrg⟩ := hrel
  have HND := Lib.hid hnd
  have HRG := Lib.hid hrg
  have HS := Lib.hid hseen
  clear hnd hrg hseen
  by_cases hlt : k < xs.length
  · obtain ⟨b, o, rfl, hb, hc0⟩ := h.at_ hlt
    have hcx := (hbl.cell (p := ⟨b, o + k, none⟩) (by exact hb)).trans hc0
    have ht := take_snoc hlt
    obtain ⟨x, hx⟩ : ∃ x, x = xs[k] := ⟨_, rfl⟩
    rw [← hx] at hcx ht
    have HT := Lib.hid ht
    have HX := Lib.hid hx
    clear hc0 ht hx
    have hxm : Hid (x ∈ xs) := by rw [HX.out]; exact List.getElem_mem hlt
    by_cases h1 : x < 1
    · have hfin : Hid (permChk xs = 1) := permChk_bad HN.out (fun hp => by have := (hp.2 x hxm.out).1; omega)
      go_wp2
      go_ret
      exact ⟨by rw [hfin.out]; rfl, hbl⟩
    by_cases h2 : (xs.length : Int) < x
    · have hfin : Hid (permChk xs = 1) := permChk_bad HN.out (fun hp => by have := (hp.2 x hxm.out).2; omega)
      go_wp2
      go_ret
      exact ⟨by rw [hfin.out]; rfl, hbl⟩
    have hcs := HS.out.cell (x := x) (by omega) (by omega)
    by_cases h3 : x ∈ xs.take k
    · have hfin : Hid (permChk xs = 1) := permChk_bad HN.out (fun hp => by
       have := hp.1
       rw [← List.take_append_drop (k + 1) xs, List.nodup_append, HT.out, nodup_snoc] at this
       exact this.1.2 h3)
      rw [decide_eq_true h3] at hcs
      go_wp2
      go_ret
      exact ⟨by rw [hfin.out]; rfl, hbl⟩
    · rw [decide_eq_false h3] at hcs
      have hfr := HS.out.frozen x.toNat
      have H3 := Lib.hid h3
      clear h3
      go_wp2
      go_roundw
      case rel =>
       refine ⟨k + 1, by omega, by go_num, HS.out.set_ (by omega) (by omega) (fun y => ?_), hbl.setCell (by exact Nat.le_refl _) _, ?_, ?_⟩
       · rw [HT.out]; simp
       · rw [HT.out]; exact nodup_snoc.2 ⟨HND.out, H3.out⟩
       · rw [HT.out]
         intro y hy
         rcases List.mem_append.1 hy with hy | hy
         · exact HRG.out y hy
         · simp at hy; omega
      case measure => simp [intOf]; omega
  · have hfin : Hid (permChk xs = 0) := permChk_ok HN.out ⟨by have := HND.out; rwa [List.take_of_length_le (by omega)] at this, by have := HRG.out; rwa [List.take_of_length_le (by omega)] at this⟩
    go_wp2
    go_ret
    exact ⟨by rw [hfin.out]; rfl, hbl⟩
def lenOf : Value → Nat | .slice _ n _ => n | _ => 0
theorem cell_at1 {w : World} {B b o : Nat} {xs : List Int} (h : Sl w B (some ⟨b, o, none⟩) (ints xs)) {n : Int} (h1 : 1 ≤ n) (h2 : n ≤ xs.length) :
 w.cell? ⟨b, o + (n.toNat - 1), none⟩ = some (.int .i64 (at1 xs n)) := by
 have hk : n.toNat - 1 < xs.length := by omega
 obtain ⟨b', o', e1, _, hc'⟩ := h.at_ hk
 obtain ⟨rfl, rfl⟩ : b = b' ∧ o = o' := by simpa using e1
 rw [hc', ← at1_get hk]
 congr 3; omega
theorem rounds_ok (A : Option Addr) (cap : Nat) (xs : List Int) (w : World) (hn : xs.length ≤ 40) (hp : IsPerm xs) (h : Sl w w.heap.size A (ints xs)) :
 Calls Tryz.prog 85 #[.slice A xs.length cap] w fun e w' => Tol0 (fun ys => ys = roundsOf xs) w.heap.size e w' ∧ Below w.heap.size w w' := by
 have hk : Hid (permChk xs = 0) := permChk_ok (by omega) hp
 have HP := Lib.hid hp
 clear hp
 go_enter Tryz.func85, Tryz.ntmps85
 go_wp2_with fail
 refine (check_any _ _ _ _ (by omega) h).mono ?_
 rintro e w1 ⟨rfl, hb1⟩
 rw [hk.out]
 have h1 := (h.below hb1)
 go_wp2
 go_loopw [5, 6] (fun ov tv wr => ∃ t : Nat, t ≤ xs.length ∧ tv = .int .i64 ((t : Int) + 1) ∧ wr.ownsRow w.heap.size 3 1 ov (roundsTo xs t).length (ints (roundsTo xs t)) ∧ Below w.heap.size w wr) (fun _ tv _ => xs.length + 1 - (intOf tv).toNat)
 case atStart =>
  exact ⟨0, by omega, rfl, World.ownsRow_nil _ _ _ _, hb1⟩
 case round =>
  obtain ⟨t, ht, rfl, hown, hbl⟩ := hrel
  obtain ⟨wo, rfl⟩ : ∃ wo : World, wo = wr := ⟨_, rfl⟩
  have HO := Lib.hid hown
  clear hown
  have h2 := h.below hbl
  by_cases hlt : t < xs.length
  · obtain ⟨b, o, rfl, hb, hc0⟩ := h2.at_ hlt
    rw [← at1_get hlt] at hc0
    have hb' : b < wo.heap.size := by have := hbl.size; omega
    obtain ⟨x0, hx0⟩ : ∃ x, x = at1 xs ((t : Int) + 1) := ⟨_, rfl⟩
    rw [← hx0] at hc0
    have HX := Lib.hid hx0
    clear hx0
    have hd1 : decide ((t : Int) + 1 ≤ (xs.length : Int)) = true := by simp; omega
    go_wp2
    go_loopw [7, 8] (fun lv nv wr => ∃ (l : List Int) (n : Int), Path xs ((t : Int) + 1) l n ∧ nv = .int .i64 n ∧ wr.ownsRow wo.heap.size 3 1 lv l.length (ints l) ∧ Below wo.heap.size wo wr ∧
     l ++ chain xs ((t : Int) + 1) (xs.length + 1 - l.length) n = arc xs ((t : Int) + 1)) (fun lv _ _ => xs.length + 1 - lenOf lv)
    case atStart =>
     refine ⟨[(t : Int) + 1], x0, ?_, rfl, ?_, (Below.refl _ _).alloc (Nat.le_refl _) _, ?_⟩
     · rw [HX.out]; exact Path.start (by omega) (by omega)
     · have := World.ownsRow_lit (e := 3) (size := 1) (base := wo.heap.size) wo #[.int .i64 ((t : Int) + 1)] 1 (Nat.le_refl _) (by decide) rfl
       simpa [ints] using this
     · rw [HX.out]; simp [arc]
    case round =>
     obtain ⟨l, n, hpath, rfl, hl, hbi, harc⟩ := hrel
     have hll := hpath.length_le HP.out
     have hlp := hpath.pos
     have hnr := hpath.n_range HP.out
     have hlast := getLastD_get (d := 0) hlp
     obtain ⟨g, lc, rfl, hg1, hg2⟩ := hl.form hlp
     have hcl : wr.cell? ⟨g, l.length - 1, none⟩ = some (.int .i64 (l.getLastD 0)) := by
      rw [hl.cellAt _ (by omega), ints_get (show l.length - 1 < l.length by omega), hlast]
     have hlr := hpath.range _ (List.getElem_mem (show l.length - 1 < l.length by omega))
     rw [← hlast] at hlr
     have hnl := hpath.last
     obtain ⟨y, hy⟩ : ∃ y, y = l.getLastD 0 := ⟨_, rfl⟩
     rw [← hy] at hcl hlr hnl
     have HNL := Lib.hid hnl
     have HA := Lib.hid harc
     have HPA := Lib.hid hpath
     have HL := Lib.hid hl
     have HY := Lib.hid hy
     clear hnl harc hpath hl hy hlast
     by_cases hc : n ≠ (t : Int) + 1 ∧ n < (t : Int) + 1
     · obtain ⟨hc1, hc2⟩ := hc
       have hcn : Hid (wr.cell? ⟨b, o + (n.toNat - 1), none⟩ = some (.int .i64 (at1 xs n))) := cell_at1 (h2.below (hbi.mono (by have := hbl.size; omega))) hnr.1 hnr.2
       obtain ⟨x1, hx1⟩ : ∃ x, x = at1 xs n := ⟨_, rfl⟩
       rw [← hx1] at hcn
       have HX1 := Lib.hid hx1
       clear hx1
       go_wp2_with (at_builtin; refine wpList_app1 rfl (.tmp 40) (.tmp 42) rfl rfl n HL.out rfl (by omega) hbi.size (fun g2 c2 w2 hl2 hb2 => ?_); have hcn2 := (hb2.cell (p := ⟨b, o + (n.toNat - 1), none⟩) (by exact hb')).trans hcn.out)
       go_roundw
       case rel =>
        refine ⟨l ++ [n], x1, ?_, rfl, ?_, hbi.trans hb2, ?_⟩
        · rw [HX1.out]; exact HPA.out.next HP.out hc2
        · simpa using hl2
        · rw [HX1.out, ← HA.out, show xs.length + 1 - l.length = (xs.length + 1 - (l ++ [n]).length) + 1 by simp; omega, chain_go _ ⟨hc1, hc2⟩, List.append_assoc]
          rfl
       case measure => simp [lenOf]; omega
     · have hl' : Hid (l = arc xs ((t : Int) + 1)) := by
        have := HA.out; rwa [chain_stop _ hc, List.append_nil] at this
       have hcy := cell_at1 (h2.below (hbi.mono (by have := hbl.size; omega))) hlr.1 hlr.2
       rw [← HNL.out] at hcy
       have hfin : Hid (roundsTo xs (t + 1) = roundsTo xs t ++ (if n = (t : Int) + 1 then l else [])) := by
        show _ = _
        rw [roundsTo, ← hl'.out, HNL.out, HY.out]
       by_cases hc1 : n = (t : Int) + 1
       · have hrl := roundsTo_le HP.out t (by omega)
         have hrl2 : t * xs.length ≤ 40 * 40 := Nat.mul_le_mul (by omega) hn
         have hou := own_below HO.out hbi
         have HOU := Lib.hid hou
         clear hou
         have HC1 := Lib.hid hc1
         clear hc1
         have hc2 : (n == (t : Int) + 1) = true := by simpa using HC1.out
         go_wp2_with (at_builtin; refine wpList_app rfl (.tmp 56) (.tmp 57) rfl rfl HOU.out lc rfl (Sl.of_own HL.out) (by omega) (by have := hbl.size; have := hbi.size; omega) (fun v3 w3 hv3 hb3 => ?_))
         go_roundw
         case rel =>
          refine ⟨t + 1, by omega, by go_num, ?_, (hbl.trans (hbi.mono (by have := hbl.size; omega))).trans hb3⟩
          rw [hfin.out, if_pos HC1.out]
          exact hv3
         case measure => simp [intOf]; omega
       · go_wp2
         go_roundw
         case rel =>
          refine ⟨t + 1, by omega, by go_num, ?_, hbl.trans (hbi.mono (by have := hbl.size; omega))⟩
          rw [hfin.out, if_neg hc1, List.append_nil]
          exact own_below HO.out hbi
         case measure => simp [intOf]; omega
  · obtain rfl : t = xs.length := by omega
    obtain ⟨A', c', hv⟩ : ∃ A' c', u5 = .slice A' (roundsTo xs xs.length).length c' := by
     rcases HO.out.2 with ⟨h1, h2⟩ | ⟨g, c, _, h1, _⟩
     · exact ⟨none, 0, by rw [h2]; exact h1⟩
     · exact ⟨_, c, h1⟩
    rw [hv] at HO ⊢
    go_wp2
    go_ret2
    exact ⟨tol0_own (xs := roundsOf xs) HO.out rfl, hbl⟩
end
end Go.Proofs.YtpmkdihencepnaaGreatDoor
