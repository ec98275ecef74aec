/-
  perms.Fold: what it answers.
-/
import Derived.Test.YtmlmdklheiafpaaCopyL
import Derived.Test.YtmlmdklheiafpaaFallsW
namespace Go.Proofs.Ytmlmdklheiafpaa
open Go.RowKit

theorem fold_piece (dn blk rest : List Int) (y : Int) :
    (splice (dn ++ (blk ++ y :: rest)) (dn.length + 1) (((dn ++ (blk ++ y :: rest)).drop dn.length).take blk.length)).set dn.length y = (dn ++ (y :: blk)) ++ ([] ++ rest) := by
  have e1 : (dn ++ (blk ++ y :: rest)).drop dn.length = blk ++ y :: rest := List.drop_left ..
  rw [e1, List.take_left]
  unfold splice
  have e2 : ∃ h, (dn ++ (blk ++ y :: rest)).take (dn.length + 1) = dn ++ [h] := by
    have e0 : dn.take (dn.length + 1) = dn := List.take_of_length_le (by omega)
    cases blk with
    | nil => exact ⟨y, by rw [List.take_append, e0]; simp⟩
    | cons b bs => exact ⟨b, by rw [List.take_append, e0]; simp⟩
  obtain ⟨h, e2⟩ := e2
  have e3 : (dn ++ (blk ++ y :: rest)).drop (dn.length + 1 + blk.length) = rest := by
    rw [show dn ++ (blk ++ y :: rest) = (dn ++ (blk ++ [y])) ++ rest by simp]
    exact List.drop_left' (by simp; omega)
  rw [e2, e3, List.append_assoc, List.set_append, if_neg (by omega)]
  simp

set_option maxHeartbeats 2000000 in
theorem fold_ok (A : Option Addr) (cap : Nat) (xs : List Int) (w : World) (hn : xs.length ≤ 40) (hp : IsWord xs) (h : Sl w w.heap.size A (ints xs)) :
    Calls Try.prog 17 #[.slice A xs.length cap] w fun e w' => ∃ A' c', e = .returned (.tuple #[.slice A' (foldOf xs).length c', .int .i64 0]) ∧ Sl w' w'.heap.size A' (ints (foldOf xs)) ∧ Below w.heap.size w w' := by
  have hk : Hid (wordChk xs = 0) := wordChk_ok (by omega) hp
  have HP := Lib.hid hp
  clear hp
  go_enter Try.func17, Try.ntmps17
  go_wp2_with fail
  refine (letters_any _ _ _ _ (by omega) h).mono ?_
  rintro e w1 ⟨rfl, rfl⟩
  rw [hk.out]
  go_wp2
  go_loopw [5, 19] (fun vv iv wr => ∃ k : Nat, k ≤ xs.length ∧ iv = .int .i64 k ∧ wr.ownsRow w.heap.size 3 1 vv (foldOf (xs.take k)).length (ints (foldOf (xs.take k))) ∧ Below w.heap.size w wr) (fun _ iv _ => xs.length - (intOf iv).toNat)
  case atStart => exact ⟨0, by omega, rfl, World.ownsRow_nil _ _ _ _, Below.refl _ _⟩
  case round =>
    obtain ⟨k, hk, rfl, hown, hbl⟩ := hrel
    have hfl := foldOf_length (xs.take k)
    rw [List.length_take] at hfl
    by_cases hlt : k < xs.length
    · obtain ⟨b, o, rfl, hb⟩ := h.addr (by omega)
      have hcx := getD_cell (h.below hbl) hlt
      have hd0 : decide (k < xs.length) = true := by simpa using hlt
      have HF : Hid (foldOf (xs.take (k + 1)) = foldStep (foldOf (xs.take k)) (xs.getD k 0)) := by
        show _ = _
        rw [take_snoc hlt, foldOf_snoc, getD_get hlt]
      obtain ⟨x, hx⟩ : ∃ x, x = xs.getD k 0 := ⟨_, rfl⟩
      obtain ⟨l, hl⟩ : ∃ l, l = foldOf (xs.take k) := ⟨_, rfl⟩
      rw [← hx] at hcx HF
      rw [← hl] at hown HF hfl
      have hll : l.length = k := by omega
      have HLL := Lib.hid hll
      have HX := Lib.hid hx
      have HL := Lib.hid hl
      clear hx hl hll hfl
      by_cases hk0 : k = 0
      · have hl0 : l = [] := List.eq_nil_of_length_eq_zero (by rw [HLL.out]; exact hk0)
        subst hl0
        have hv : u5 = .slice none 0 0 ∨ ∃ g c, u5 = .slice (some ⟨g, 0, none⟩) 0 c := by
          rcases hown.2 with ⟨e1, _⟩ | ⟨g, c, _, e1, _⟩
          · exact .inl e1
          · exact .inr ⟨g, c, by simpa using e1⟩
        have HO := Lib.hid hown
        have HK0 := Lib.hid hk0
        clear hown hk0
        have hlen : ∃ A0 c0, u5 = .slice A0 0 c0 := by
          rcases hv with e | ⟨g, c, e⟩
          · exact ⟨_, _, e⟩
          · exact ⟨_, _, e⟩
        obtain ⟨A0, c0, hv0⟩ := hlen
        rw [hv0] at HO ⊢
        clear hv hv0
        go_wp2_with (at_builtin; refine wpList_app1 (l := []) rfl (.tmp 64) (.tmp 66) rfl rfl x HO.out rfl (by simp) hbl.size (fun g2 c2 w2 hl2 hb2 => ?_))
        go_roundw
        case rel => exact ⟨k + 1, by omega, by go_num, by rw [HF.out]; simpa [foldStep] using hl2, hbl.trans hb2⟩
        case measure => simp [intOf]; omega
      · have hlp : 0 < l.length := by rw [HLL.out]; omega
        obtain ⟨g, c, rfl, hg1, hg2⟩ := hown.form hlp
        have hlast := hown.cellAt (l.length - 1) (by omega)
        rw [ints_get (show l.length - 1 < l.length by omega), ← getLastD_get (d := 0) hlp] at hlast
        have hcap := own_cap hown
        have HO := Lib.hid hown
        clear hown
        obtain ⟨e, he⟩ : ∃ e, e = l.getLastD 0 := ⟨_, rfl⟩
        rw [← he] at hlast
        obtain ⟨lw, hlw⟩ : ∃ lw, lw = decide (e ≤ x) := ⟨_, rfl⟩
        have hlk : l.length ≤ 40 := by rw [HLL.out]; omega
        have HE := Lib.hid he
        have HLW := Lib.hid hlw
        clear he
        have hlw2 : decide (e ≤ x) = lw := hlw.symm
        clear hlw
        go_wp2
        go_loopw [9, 36] (fun fv iv wy => ∃ (f i : Nat) (dn blk rest : List Int), dn ++ rot (side x e) blk rest = rot (side x e) [] l ∧ (∀ z ∈ blk, side x e z = false) ∧ fv = .int .i64 f ∧ iv = .int .i64 i ∧ dn.length = f ∧ f + blk.length = i ∧ i + rest.length = l.length ∧
            wy.ownsRow w.heap.size 3 1 (.slice (some ⟨g, 0, none⟩) l.length c) l.length (ints (dn ++ (blk ++ rest))) ∧ Below w.heap.size w wy) (fun _ iv _ => l.length - (intOf iv).toNat)
        case atStart => exact ⟨0, 0, [], [], l, by simp, by simp, rfl, rfl, rfl, rfl, by simp, by simpa using HO.out, hbl⟩
        case round =>
          obtain ⟨f, i, dn, blk, rest, hrot, hblk, rfl, rfl, hdf, hbf, hlen, hown, hby⟩ := hrel
          have HRT := Lib.hid hrot
          have HB := Lib.hid hblk
          have HOY := Lib.hid hown
          have HLN := Lib.hid hlen
          have HDF := Lib.hid hdf
          have HBF := Lib.hid hbf
          clear hrot hblk hown hlast hg2
          have hfi : f ≤ i := by omega
          have hil : i ≤ l.length := by omega
          by_cases hr : 0 < rest.length
          · have hil2 : i < l.length := by omega
            clear hlen hdf hbf
            obtain ⟨y, rest, rfl⟩ : ∃ y r, rest = y :: r := by
              cases rest with
              | nil => simp at hr
              | cons y r => exact ⟨y, r, rfl⟩
            clear hr
            have hcy := HOY.out.cellAt i (by omega)
            have hgy : (ints (dn ++ (blk ++ y :: rest)))[i]? = some (.int .i64 y) := by
              have h1 := HDF.out
              have h2 := HBF.out
              rw [ints_get (by simp; omega), List.getElem_append_right (by omega), List.getElem_append_right (by omega)]
              simp only [show i - dn.length - blk.length = 0 by omega, List.getElem_cons_zero]
            rw [hgy] at hcy
            clear hgy
            have hd2 : decide (i < l.length) = true := by simpa using hil2
            obtain ⟨ly, hly⟩ : ∃ ly, ly = decide (y ≤ x) := ⟨_, rfl⟩
            have hly2 : decide (y ≤ x) = ly := hly.symm
            have HS : Hid (side x e y = (ly == lw)) := by show _ = _; unfold side; rw [← hly, ← HLW.out]
            clear hly
            by_cases hs : ly = lw
            · subst hs
              have HS2 : Hid (side x e y = true) := by show _ = _; rw [HS.out]; simp
              have hcb : f < c := by omega
              go_upto_region 15 with fail
              go_cut [] (fun wz => wz.ownsRow w.heap.size 3 1 (.slice (some ⟨g, 0, none⟩) l.length c) l.length (ints (splice (dn ++ (blk ++ y :: rest)) (f + 1) (((dn ++ (blk ++ y :: rest)).drop f).take (i - f)))) ∧ Below w.heap.size w wz)
              case first =>
                have w1 : IntKind.i64.wrap ((f : Int) + 1) = (f : Int) + 1 := IntWalk.i64_in _ (by omega)
                have w2 : IntKind.i64.wrap ((i : Int) + 1) = (i : Int) + 1 := IntWalk.i64_in _ (by omega)
                have w3 : (0 : Int) ≤ (f : Int) + 1 := by omega
                have w4 : (0 : Int) ≤ (i : Int) + 1 := by omega
                have w5 : ((f : Int) + 1).toNat = f + 1 := by omega
                have w6 : ((i : Int) + 1).toNat = i + 1 := by omega
                have w7 : (i : Int) + 1 ≤ (c : Int) := by omega
                have w8 : (f : Int) + 1 ≤ (i : Int) + 1 := by omega
                have w9 : (f : Int) ≤ (i : Int) := by omega
                have w10 : (i : Int) ≤ (c : Int) := by omega
                go_region_law (refine step_copy_own rfl (.tmp 51) (.tmp 55) rfl g l.length c (dn ++ (blk ++ y :: rest)) (own_drew HOY.out) (f + 1) f (i - f) (if c = f + 1 then some ⟨g, 0, none⟩ else some ⟨g, f + 1, none⟩) (if c = f then some ⟨g, 0, none⟩ else some ⟨g, f, none⟩) (i - f) (c - (f + 1)) (i - f) (c - f) (by simp [Act.eval, Act.put]) (by simp [Act.eval, Act.put]) (Nat.min_self _) (by intro hm; rw [if_neg (by omega)]) (by intro hm; rw [if_neg (by omega)]) (by omega) (by omega) ?_; intro wz5 ho5 hb5)
                simp only [Exit.then]
                go_step
                go_meet
                case rel => exact ⟨ho5.out, hby.drew.trans hb5.out⟩
              case rest =>
                obtain ⟨hoz, hbz⟩ := hcut
                have hfr := hoz.frozenAt f
                have hcf := hoz.cellAt f (by omega)
                rw [List.getElem?_eq_getElem (by rw [ints_length, length_splice _ _ _ (by have := HDF.out; have := HBF.out; have := HLN.out; simp at this ⊢; omega)]; have := HDF.out; have := HLN.out; simp at this ⊢; omega)] at hcf
                have HOZ := Lib.hid hoz
                clear hoz
                generalize (ints (splice (dn ++ (blk ++ y :: rest)) (f + 1) (((dn ++ (blk ++ y :: rest)).drop f).take (i - f))))[f]'_ = vf at hcf
                go_wp2
                go_roundw
                case rel =>
                  refine ⟨i + 1, i + 1, dn ++ (y :: blk), [], rest, ?_, by simp, by go_num, by go_num, ?_, by simp, ?_, ?_, hbz.setCell (by exact hg1) _⟩
                  · rw [← HRT.out, rot, if_pos (by rw [HS2.out])]; simp
                  · have := HDF.out; have := HBF.out; simp; omega
                  · have := HLN.out; simp at this; omega
                  · have := own_set HOZ.out f y
                    rw [← HDF.out, show i - dn.length = blk.length by have := HDF.out; have := HBF.out; omega, fold_piece] at this
                    rw [← HDF.out]
                    exact this
                case measure => simp [intOf]; omega
            · have HS2 : Hid (side x e y = false) := by show _ = _; rw [HS.out]; simpa using hs
              have hsb : (ly == lw) = false := by simpa using hs
              clear hs
              go_wp2
              go_roundw
              case rel =>
                refine ⟨f, i + 1, dn, blk ++ [y], rest, ?_, ?_, rfl, by go_num, HDF.out, ?_, ?_, ?_, hby⟩
                · rw [← HRT.out, rot, if_neg (by rw [HS2.out]; simp)]
                · intro z hz
                  rcases List.mem_append.1 hz with hz | hz
                  · exact HB.out z hz
                  · simp at hz; rw [hz]; exact HS2.out
                · have := HBF.out; simp; omega
                · have := HLN.out; simp at this; omega
                · have := HOY.out; simpa using this
              case measure => simp [intOf]; omega
          · have hr0 : rest = [] := List.eq_nil_of_length_eq_zero (by omega)
            subst hr0
            have hil2 : i = l.length := by simpa using HLN.out
            have hne : Hid (l ≠ []) := by show _ ≠ _; intro e; rw [e] at hlp; simp at hlp
            have hdl : Hid (dn ++ (blk ++ []) = rot (side x e) [] l) := by
              show _ = _
              rw [← HRT.out]; simp [rot]
            have hoo := HOY.out
            rw [hdl.out] at hoo
            have HOO := Lib.hid hoo
            have hrl : (rot (side x e) [] l).length = l.length := by rw [rot_length]; simp
            have HRL := Lib.hid hrl
            have hd2 : decide (i < l.length) = false := by simp; omega
            clear hoo hrl hil2 hlen hdf hbf
            go_wp2_with (at_builtin; refine wpList_app1 rfl (.tmp 64) (.tmp 66) rfl rfl x HOO.out rfl (by omega) hby.size (fun g2 c2 w2 hl2 hb2 => ?_))
            go_roundw
            case rel =>
              refine ⟨k + 1, by omega, by go_num, ?_, hby.trans hb2⟩
              have e1 : foldStep l x = rot (side x e) [] l ++ [x] := by unfold foldStep; rw [if_neg hne.out, ← HE.out]
              rw [HF.out, e1, show (rot (side x e) [] l ++ [x]).length = l.length + 1 by simp [HRL.out]]
              exact hl2
            case measure => simp [intOf]; omega
    · obtain rfl : k = xs.length := by omega
      obtain ⟨A', c', hv⟩ : ∃ A' c', u5 = .slice A' (foldOf xs).length c' := by
        rw [List.take_length] at hown
        rcases hown.2 with ⟨h1, h2⟩ | ⟨g, c, _, h1, _⟩
        · exact ⟨none, 0, by rw [h2]; exact h1⟩
        · exact ⟨_, c, h1⟩
      rw [List.take_length] at hown
      have HO := Lib.hid hown
      clear hown
      rw [hv] at HO ⊢
      have hd0 : decide (xs.length < xs.length) = false := by simp
      go_wp2
      go_ret2
      exact ⟨A', c', rfl, Sl.of_own HO.out, hbl⟩

end Go.Proofs.Ytmlmdklheiafpaa
