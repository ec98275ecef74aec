/-
  paths.ballots, paths.Catalan: the table of the numbers of endings.
-/
import Derived.Test.YtdmpbbgcifodeaaPathN
import Derived.Test.YtdmpbbgcifodeaaMatN
namespace Go.Proofs.Ytdmpbbgcifodeaa
open Go.RowKit

/-- 61 rows. -/
def bm (f : Nat → List Int) : List (List Int) := (List.range 61).map f
theorem bm_length (f : Nat → List Int) : (bm f).length = 61 := by simp [bm]
theorem bm_getD {f : Nat → List Int} {r : Nat} (h : r < 61) : (bm f).getD r [] = f r := by
  unfold bm; rw [List.getD_eq_getElem?_getD]; simp [h]
theorem bm_congr {f g : Nat → List Int} (h : ∀ r, r < 61 → f r = g r) : bm f = bm g := by
  unfold bm
  exact List.map_congr_left (fun r hr => h r (by simpa using hr))
theorem bm_set (f : Nat → List Int) (i : Nat) (x : List Int) : (bm f).set i x = bm (fun r => if r = i then x else f r) := by
  unfold bm
  apply List.ext_getElem (by simp)
  intro j h1 h2
  rw [List.getElem_set]
  by_cases e : i = j
  · subst e; simp
  · rw [if_neg e]; simp [Ne.symm e]
/-- A row of the table, as far as it is filled. -/
def rowB (r j : Nat) : List Int := (List.range 62).map (fun b => if b < j then (bal r b : Int) else 0)
theorem rowB_length (r j : Nat) : (rowB r j).length = 62 := by simp [rowB]
theorem rowB_get {r j b : Nat} (h : b < 62) : (rowB r j)[b]? = some (if b < j then (bal r b : Int) else 0) := by
  unfold rowB; simp [h]
theorem rowB_zero (r : Nat) : rowB r 0 = List.replicate 62 0 := by
  unfold rowB
  apply List.ext_getElem (by simp)
  intro j h1 h2
  rw [List.getElem_replicate, List.getElem_map, if_neg (by omega)]
theorem rowB_set {r j : Nat} {x : Int} (hx : x = (bal r j : Int)) : (rowB r j).set j x = rowB r (j + 1) := by
  subst hx
  unfold rowB
  apply List.ext_getElem (by simp)
  intro b h1 h2
  rw [List.getElem_set]
  by_cases e : j = b
  · subst e; rw [if_pos rfl]; simp
  · rw [if_neg e]
    have : (b < j) ↔ (b < j + 1) := by omega
    simp [this]
theorem rowB_skip {r j : Nat} (h : bal r j = 0) : rowB r j = rowB r (j + 1) := by
  unfold rowB
  refine List.map_congr_left (fun b _ => ?_)
  by_cases e : b = j
  · subst e; rw [if_neg (by omega), if_pos (by omega), h]; rfl
  · have : (b < j) ↔ (b < j + 1) := by omega
    simp only [this]
/-- Rows ahead of i filled. -/
def balS (i : Nat) : List (List Int) := bm (fun r => if r < i then rowB r 62 else [])
/-- Row i filled as far as j. -/
def balM (i j : Nat) : List (List Int) := bm (fun r => if r < i then rowB r 62 else if r = i then rowB r j else [])
theorem balM_zero (i : Nat) : (balS i).set i (List.replicate 62 0) = balM i 0 := by
  unfold balS balM
  rw [bm_set]
  refine bm_congr (fun r _ => ?_)
  by_cases e : r = i
  · subst e; rw [if_pos rfl, if_neg (by omega), if_pos rfl, rowB_zero]
  · rw [if_neg e, if_neg e]
theorem balM_row {i j : Nat} (h : i < 61) : (balM i j).getD i [] = rowB i j := by
  unfold balM; rw [bm_getD h, if_neg (by omega), if_pos rfl]
theorem balM_up {i j : Nat} (h : i < 61) : (balM (i + 1) j).getD i [] = rowB i 62 := by
  unfold balM; rw [bm_getD h, if_pos (by omega)]
theorem balM_length (i j : Nat) : (balM i j).length = 61 := bm_length _
theorem balS_length (i : Nat) : (balS i).length = 61 := bm_length _
theorem balM_set (i j j' : Nat) : (balM i j).set i (rowB i j') = balM i j' := by
  unfold balM
  rw [bm_set]
  refine bm_congr (fun r _ => ?_)
  by_cases e : r = i
  · subst e; rw [if_pos rfl, if_neg (by omega), if_pos rfl]
  · rw [if_neg e, if_neg e, if_neg e]
theorem balM_step {i j : Nat} {x : Int} (h : i < 61) (hx : x = (bal i j : Int)) : (balM i j).set i (((balM i j).getD i []).set j x) = balM i (j + 1) := by
  rw [balM_row h, rowB_set hx, balM_set]
theorem balM_skip {i j : Nat} (h : bal i j = 0) : balM i j = balM i (j + 1) := by
  unfold balM
  refine bm_congr (fun r _ => ?_)
  by_cases e : r = i
  · subst e; rw [if_neg (by omega), if_pos rfl, if_neg (by omega), if_pos rfl, rowB_skip h]
  · rw [if_neg e, if_neg e]
theorem balM_end (i : Nat) : balM i 62 = balS (i + 1) := by
  unfold balM balS
  refine bm_congr (fun r _ => ?_)
  by_cases e : r = i
  · subst e; rw [if_neg (by omega), if_pos rfl, if_pos (by omega)]
  · rw [if_neg e]
    by_cases c : r < i
    · rw [if_pos c, if_pos (by omega)]
    · rw [if_neg c, if_neg (by omega)]
theorem balS_zero : balS 0 = List.replicate 61 [] := by
  unfold balS bm
  apply List.ext_getElem (by simp)
  intro j h1 h2
  rw [List.getElem_replicate, List.getElem_map, if_neg (by omega)]
/-- The table. -/
def balT : List (List Int) := balS 61
theorem balT_length : balT.length = 61 := balS_length _
theorem balT_row {k : Nat} (h : k < 61) : balT.getD k [] = rowB k 62 := by
  unfold balT balS; rw [bm_getD h, if_pos h]
theorem rowB_at {k e : Nat} (h : e < 62) : (rowB k 62).getD e 0 = (bal k e : Int) := by
  rw [List.getD_eq_getElem?_getD, rowB_get h, if_pos h]; rfl
theorem bal_int {k e : Nat} (h : k ≤ 60) : (bal k e : Int) ≤ 1152921504606846976 := by
  have h1 := bal_small k e
  have h2 : 2 ^ k ≤ 2 ^ 60 := Nat.pow_le_pow_right (by omega) h
  have : (2 : Nat) ^ 60 = 1152921504606846976 := by decide
  omega
/-- Row i filled as far as j, and x laid at j. -/
def balX (i j : Nat) (x : Int) : List (List Int) := (balM i j).set i ((rowB i j).set j x)
theorem balX_length (i j : Nat) (x : Int) : (balX i j x).length = 61 := by simp [balX, balM_length]
theorem balX_row {i j : Nat} {x : Int} (h : i < 61) : (balX i j x).getD i [] = (rowB i j).set j x := by
  unfold balX
  rw [List.getD_eq_getElem?_getD, List.getElem?_set_self (by rw [balM_length]; exact h)]; rfl
theorem balX_up {i j : Nat} {x : Int} (h : i < 61) : (balX (i + 1) j x).getD i [] = rowB i 62 := by
  unfold balX
  rw [List.getD_eq_getElem?_getD, List.getElem?_set_ne (by omega), ← List.getD_eq_getElem?_getD]
  exact balM_up h
theorem balX_step {i j : Nat} {x z : Int} (h : i < 61) (hz : z = (bal i j : Int)) : (balX i j x).set i (((balX i j x).getD i []).set j z) = balM i (j + 1) := by
  rw [balX_row h]
  unfold balX
  rw [List.set_set, List.set_set, rowB_set hz, balM_set]

set_option maxRecDepth 100000 in
set_option maxHeartbeats 1000000 in
theorem ballots_any (w : World) :
    Calls Try.prog 81 #[] w fun e w' => (∃ A c, e = .returned (.slice A 61 c) ∧ SR w' w'.heap.size A balT) ∧ Below w.heap.size w w' := by
  go_enter Try.func81, Try.ntmps81
  go_wp2_with (first | (refine wpList_mkN (base := w.heap.size) rfl _ _ rfl 61 rfl rfl (by omega) (Nat.le_refl _) (fun w1 hown1 hb1 hz1 => ?_)) | fail)
  rw [← balS_zero] at hown1
  have HM1 := Lib.hid hown1
  clear hown1
  go_wp2
  go_loopw [7] (fun iv wr => ∃ (i : Nat) (hv : List Value), i ≤ 61 ∧ iv = .int .i64 i ∧ OwnN wr w.heap.size (.slice (some ⟨w.heap.size, 0, none⟩) 61 61) hv (balS i) ∧ Below w.heap.size w wr) (fun iv _ => 61 - (intOf iv).toNat)
  case atStart => exact ⟨0, _, Nat.zero_le _, rfl, HM1.out, hb1⟩
  case round =>
    clear HM1 hb1 hz1 w1
    obtain ⟨i, hv, hi, rfl, hm, hW⟩ := hrel
    have HM := Lib.hid hm
    have hsz := hW.size
    clear hm
    by_cases hir : i < 61
    · have di : decide ((i : Int) < 61) = true := decide_eq_true (by omega)
      have ho := HM.out.out
      rw [balS_length] at ho
      have hget := HM.out.get (r := i) (by rw [balS_length]; exact hir)
      go_wp2_with (first | (refine wpList_mk64 (base := w.heap.size) rfl _ _ rfl 62 rfl rfl (by omega) hsz (fun w2 hown2 hb2 hz2 => ?_); have ho2 := own_below ho hb2; have hcell2 := (ho2.cellAt i (by omega)).trans hget; have hfr2 := ho2.frozenAt i; have HO2 := Lib.hid hown2; have HB2 := Lib.hid hb2; clear hown2 hb2 hz2 ho ho2 hget) | fail)
      have hm2 : OwnN (w2.setCell ⟨w.heap.size, i, none⟩ (.slice (some ⟨wr.heap.size, 0, none⟩) 62 62)) w.heap.size (.slice (some ⟨w.heap.size, 0, none⟩) 61 61) (hv.set i (.slice (some ⟨wr.heap.size, 0, none⟩) 62 62)) (balM i 0) := by
        have hm2 := HM.out.below HB2.out
        have hfn := HM.out.far_new (u := .slice (some ⟨wr.heap.size, 0, none⟩) 62 62) (fun k hk => by
          obtain rfl : wr.heap.size = k := by simpa [Value.ownBlock] using hk
          exact Nat.le_refl _)
        have hl : (List.replicate 62 (0 : Int)).length = 62 := List.length_replicate
        have hmp := hm2.putRow (i := i) (by rw [balS_length]; exact hir) (l := List.replicate 62 0) (by rw [hl]; exact HO2.out) hfn.1 hfn.2
        rwa [balM_zero] at hmp
      have hW2 := (hW.trans (HB2.out.mono hsz)).setCell (p := ⟨w.heap.size, i, none⟩) (Nat.le_refl _) (.slice (some ⟨wr.heap.size, 0, none⟩) 62 62)
      have HM2 := Lib.hid hm2
      clear hm2 HO2 HB2 hcell2 hfr2 HM
      obtain ⟨w9, rfl⟩ : ∃ w9, w9 = wr := ⟨_, rfl⟩
      go_loopw [19] (fun ev wz => ∃ (e : Nat) (hv : List Value), e ≤ 62 ∧ ev = .int .i64 e ∧ OwnN wz w.heap.size (.slice (some ⟨w.heap.size, 0, none⟩) 61 61) hv (balM i e) ∧ Below w.heap.size w wz) (fun ev _ => 62 - (intOf ev).toNat)
      case atStart => exact ⟨0, _, Nat.zero_le _, rfl, HM2.out, hW2⟩
      case round =>
        clear HM2 hW2 hsz hW hv
        obtain ⟨e, hv, he, rfl, hm, hW⟩ := hrel
        have HM := Lib.hid hm
        have hsz := hW.size
        by_cases hel : e < 62
        · have de : decide ((e : Int) < 62) = true := decide_eq_true (by omega)
          obtain ⟨gk, ck, hhk, hck, hok, hgk1, hgk2⟩ := hm.row (r := i) (by rw [balM_length]; exact hir) (by rw [balM_row hir, rowB_length]; omega)
          rw [balM_row hir, rowB_length] at hck hok
          have hfk := hok.frozenAt e
          have hck0 := own_get hok (rowB_get (r := i) (j := e) (b := e) hel)
          rw [if_neg (Nat.lt_irrefl e)] at hck0
          by_cases hi0 : i = 0
          · by_cases he0 : e = 0
            · subst hi0
              subst he0
              have hst := hm.setIn (r := 0) (g := gk) (c := ck) (by rw [balM_length]; exact hir) hhk 0 1
              rw [balM_step hir (by rfl)] at hst
              have hWs := hW.setCell (p := ⟨gk, 0, none⟩) hgk1 (.int .i64 1)
              have HST := Lib.hid hst
              clear hst hok hhk hm HM
              go_wp2
              go_roundw
              case rel => exact ⟨1, hv, by omega, rfl, HST.out, hWs⟩
              case measure => simp [intOf]
            · have d0 : decide ((i : Int) = 0) = true := decide_eq_true (by omega)
              have d1 : decide ((e : Int) = 0) = false := decide_eq_false (by omega)
              have w0 : (i : Int) = 0 := by omega
              have w1 : ¬ (e : Int) = 0 := by omega
              have d2 : decide ((0 : Int) < (i : Int)) = false := decide_eq_false (by omega)
              have hb0 : bal i e = 0 := bal_far i e (by omega)
              rw [balM_skip hb0] at hm
              have HM' := Lib.hid hm
              clear hm hok hhk HM
              go_wp2
              go_roundw
              case rel => exact ⟨e + 1, hv, by omega, rfl, HM'.out, hW⟩
              case measure => simp [intOf]; omega
          · have w0 : ¬ (i : Int) = 0 := by omega
            have d2 : decide ((0 : Int) < (i : Int)) = true := decide_eq_true (by omega)
            by_cases h61 : e < 61
            · have d3 : decide ((e : Int) < 61) = true := decide_eq_true (by omega)
              have hiu : balM i e = balM (i - 1 + 1) e := by rw [show i - 1 + 1 = i by omega]
              obtain ⟨gj, cj, hhj, hcj, hoj, hgj1, hgj2⟩ := hm.row (r := i - 1) (by rw [balM_length]; omega) (by rw [hiu, balM_up (by omega), rowB_length]; omega)
              rw [hiu, balM_up (by omega), rowB_length] at hcj hoj
              have hx := own_get hoj (rowB_get (r := i - 1) (j := 62) (b := e + 1) (by omega))
              rw [if_pos (by omega)] at hx
              obtain ⟨x, hxe⟩ : ∃ x : Int, x = (bal (i - 1) (e + 1) : Int) := ⟨_, rfl⟩
              rw [← hxe] at hx
              have hst := hm.setIn (r := i) (g := gk) (c := ck) (by rw [balM_length]; exact hir) hhk e x
              rw [balM_row hir] at hst
              have HST := Lib.hid hst
              have HXE := Lib.hid hxe
              have hWs := hW.setCell (p := ⟨gk, e, none⟩) hgk1 (.int .i64 x)
              have HWS := Lib.hid hWs
              clear hst hxe hok hoj hhk hhj hm hWs HM hiu
              go_wp2
              go_region
              have hhst := HST.out.drewN 1
              have hws2 := below_drewN HWS.out 1
              rw [← balX] at hhst
              have hhst2 : OwnN (wr.setCell ⟨gk, e, none⟩ (.int .i64 x)).drew w.heap.size (.slice (some ⟨w.heap.size, 0, none⟩) 61 61) hv (balX i e x) := hhst
              have hws3 : Below w.heap.size w (wr.setCell ⟨gk, e, none⟩ (.int .i64 x)).drew := hws2
              clear hhst hws2
              obtain ⟨w3, hw3⟩ : ∃ w3, w3 = (wr.setCell ⟨gk, e, none⟩ (.int .i64 x)).drew := ⟨_, rfl⟩
              rw [← hw3] at hhst2 hws3 ⊢
              clear hw3 hck hcj hck0 hfk hx HST HWS
              by_cases he0 : e = 0
              · have d4 : decide ((0 : Int) < (e : Int)) = false := decide_eq_false (by omega)
                have d5 : decide (0 < e) = false := decide_eq_false (by omega)
                have w4 : ¬ (0 : Int) < (e : Int) := by omega
                have w5 : ¬ 0 < e := by omega
                have hb0 : x = (bal i e : Int) := by rw [HXE.out, he0]; obtain ⟨k, rfl⟩ : ∃ k, i = k + 1 := ⟨i - 1, by omega⟩; rfl
                have hfin : balX i e x = balM i (e + 1) := by unfold balX; rw [rowB_set hb0, balM_set]
                rw [hfin] at hhst2
                have HF := Lib.hid hhst2
                clear hhst2 hfin hb0 HXE he0
                go_wp2
                go_roundw
                case rel => exact ⟨e + 1, hv, by omega, rfl, HF.out, hws3⟩
                case measure => simp [intOf]; omega
              · have d4 : decide ((0 : Int) < (e : Int)) = true := decide_eq_true (by omega)
                have hxu : balX i e x = balX (i - 1 + 1) e x := by rw [show i - 1 + 1 = i by omega]
                obtain ⟨gm, cm, hhm, hcm, hom, hgm1, hgm2⟩ := hhst2.row (r := i) (by rw [balX_length]; exact hir) (by rw [balX_row hir, List.length_set, rowB_length]; omega)
                rw [balX_row hir, List.length_set, rowB_length] at hcm hom
                obtain ⟨gp, cp, hhp, hcp, hop, hgp1, hgp2⟩ := hhst2.row (r := i - 1) (by rw [balX_length]; omega) (by rw [hxu, balX_up (by omega), rowB_length]; omega)
                rw [hxu, balX_up (by omega), rowB_length] at hcp hop
                have hfm := hom.frozenAt e
                have hx := own_get hom (i := e) (z := x) (List.getElem?_set_self (by rw [rowB_length]; exact hel))
                have hy := own_get hop (rowB_get (r := i - 1) (j := 62) (b := e - 1) (by omega))
                rw [if_pos (by omega)] at hy
                obtain ⟨y, hye⟩ : ∃ y : Int, y = (bal (i - 1) (e - 1) : Int) := ⟨_, rfl⟩
                rw [← hye] at hy
                have hb0 : x + y = (bal i e : Int) := by
                  rw [HXE.out, hye]
                  obtain ⟨k, rfl⟩ : ∃ k, i = k + 1 := ⟨i - 1, by omega⟩
                  simp only [bal, Nat.add_sub_cancel]
                  rw [if_neg he0]; simp
                have hbi := bal_int (k := i) (e := e) (by omega)
                have hx0 : 0 ≤ x := by rw [HXE.out]; exact Int.natCast_nonneg _
                have hy0 : 0 ≤ y := by rw [hye]; exact Int.natCast_nonneg _
                have hwr : IntKind.i64.wrap (x + y) = x + y := IntWalk.i64_in _ (by omega)
                have hst := hhst2.setIn (r := i) (g := gm) (c := cm) (by rw [balX_length]; exact hir) (by rw [balX_row hir, List.length_set, rowB_length]; rw [balX_row hir, List.length_set, rowB_length] at hhm; exact hhm) e (x + y)
                rw [balX_step hir hb0] at hst
                have hWs := hws3.setCell (p := ⟨gm, e, none⟩) hgm1 (.int .i64 (x + y))
                have HST := Lib.hid hst
                have HWS := Lib.hid hWs
                clear hst hWs hb0 hye hom hop hhm hhp hhst2 HXE hxu
                go_wp2
                go_region
                go_wp2
                go_roundw
                case rel => exact ⟨e + 1, hv, by omega, rfl, HST.out.drewN 1, below_drewN HWS.out 1⟩
                case measure => simp [intOf]; omega
            · have d3 : decide ((e : Int) < 61) = false := decide_eq_false (by omega)
              have hb0 : bal i e = 0 := bal_far _ _ (by omega)
              rw [balM_skip hb0] at hm
              have HM' := Lib.hid hm
              clear hm hok hhk HM
              go_wp2
              go_roundw
              case rel => exact ⟨e + 1, hv, by omega, rfl, HM'.out, hW⟩
              case measure => simp [intOf]; omega
        · have hee : e = 62 := by omega
          rw [hee, balM_end] at hm
          have HM' := Lib.hid hm
          clear hm hee
          have de : decide ((e : Int) < 62) = false := decide_eq_false (by omega)
          go_wp2
          go_roundw
          case rel => exact ⟨i + 1, hv, by omega, rfl, HM'.out, hW⟩
          case measure => simp [intOf]; omega
    · have hie : i = 61 := by omega
      have di : decide ((i : Int) < 61) = false := decide_eq_false (by omega)
      obtain ⟨A, c, hA, hsr, _, _⟩ := HM.out.sr
      rw [hie] at hsr
      clear hie
      rw [balS_length] at hA
      injection hA with hA1 _ hA2
      subst hA1
      subst hA2
      have HS := Lib.hid hsr
      clear hsr HM
      go_wp2
      go_ret
      exact ⟨⟨_, ⟨_, rfl⟩, HS.out⟩, hW⟩
end Go.Proofs.Ytdmpbbgcifodeaa
