/-
  perms.Unfold: what it answers.
-/
import Derived.Test.YtmlmdklheiafpaaFoldW
namespace Go.Proofs.Ytmlmdklheiafpaa
open Go.RowKit

/-- What is done when the block from y on, blk behind it, is moved. -/
theorem unfold_piece (dn blk rest : List Int) (y : Int) :
    (splice (dn ++ (y :: (blk ++ rest))) dn.length (((dn ++ (y :: (blk ++ rest))).drop (dn.length + 1)).take blk.length)).set (dn.length + blk.length) y = (dn ++ (blk ++ [y])) ++ rest := by
  have e1 : (dn ++ (y :: (blk ++ rest))).drop (dn.length + 1) = blk ++ rest := by
    rw [show dn ++ (y :: (blk ++ rest)) = (dn ++ [y]) ++ (blk ++ rest) by simp]
    exact List.drop_left' (by simp)
  rw [e1, List.take_left]
  unfold splice
  rw [List.take_left]
  have e3 : ∃ h, (dn ++ (y :: (blk ++ rest))).drop (dn.length + blk.length) = h :: rest := by
    rcases List.eq_nil_or_concat blk with rfl | ⟨b, z, hbz⟩
    · exact ⟨y, by simp⟩
    · rw [List.concat_eq_append] at hbz
      subst hbz
      refine ⟨z, ?_⟩
      rw [show dn ++ (y :: (b ++ [z] ++ rest)) = (dn ++ (y :: b)) ++ (z :: rest) by simp]
      exact List.drop_left' (by simp)
  obtain ⟨h, e3⟩ := e3
  rw [e3, ← List.append_assoc, List.set_append, if_neg (by simp), List.length_append, Nat.sub_self]
  simp

/-- unrot of the rest from its first one on: what is still to come. -/
def unr (p : Int → Bool) : List Int → List Int
  | [] => []
  | y :: r => unrot p y [] r
theorem unr_eq (p : Int → Bool) (l : List Int) : unr p l = unrotAll p l := by cases l <;> rfl

theorem unrot_stop (p : Int → Bool) (y : Int) (blk rest : List Int) (h : rest = [] ∨ ∃ z r, rest = z :: r ∧ p z = true) : unrot p y blk rest = (blk ++ [y]) ++ unrotAll p rest := by
  rcases h with rfl | ⟨z, r, rfl, hz⟩
  · simp [unrot, unrotAll]
  · rw [unrot, if_pos hz]; rfl

set_option maxHeartbeats 2000000 in
theorem unfold_ok (A : Option Addr) (cap : Nat) (xs : List Int) (w : World) (hn : xs.length ≤ 40) (hp : IsWord xs) (h : Sl w w.heap.size A (ints xs)) :
    Calls Try.prog 18 #[.slice A xs.length cap] w fun e w' => ∃ A' c', e = .returned (.tuple #[.slice A' xs.length c', .int .i64 0]) ∧ Sl w' w'.heap.size A' (ints (unfoldOf xs)) ∧ Below w.heap.size w w' := by
  have hk : Hid (wordChk xs = 0) := wordChk_ok (by omega) hp
  have HP := Lib.hid hp
  clear hp
  go_enter Try.func18, Try.ntmps18
  go_wp2_with fail
  refine (letters_any _ _ _ _ (by omega) h).mono ?_
  rintro e w1 ⟨rfl, rfl⟩
  rw [hk.out]
  go_wp2_with fail
  refine (clone_any _ _ _ _ (by omega) h).mono ?_
  rintro e w2 ⟨v, rfl, hown, hb2⟩
  have hsh : ∃ A' c', v = .slice A' xs.length c' := by
    rcases hown.2 with ⟨h1, h2⟩ | ⟨g, c, _, h1, _⟩
    · exact ⟨none, 0, by rw [h2]; exact h1⟩
    · exact ⟨_, c, h1⟩
  obtain ⟨A', c', rfl⟩ := hsh
  have HO2 := Lib.hid hown
  clear hown
  by_cases hx0 : xs.length = 0
  · have hxe : xs = [] := List.eq_nil_of_length_eq_zero hx0
    subst hxe
    clear hx0
    go_wp2
    refine wp_loop_rounds 1 ?_
    rw [rounds_succ]
    go_wp2
    go_ret2
    exact ⟨_, _, rfl, Sl.nil _ _ _, hb2⟩
  have hxp : 0 < xs.length := by omega
  clear hx0
  obtain ⟨g, c, hv, hg1, hg2⟩ := HO2.out.form hxp
  obtain ⟨rfl, rfl⟩ : A' = some ⟨g, 0, none⟩ ∧ c' = c := by simpa using hv
  have hcap := own_cap HO2.out
  clear hv hg2
  go_wp2
  go_loopw [6] (fun nv wr => ∃ (j : Nat) (l : List Int), j < xs.length ∧ nv = .int .i64 j ∧ l.length = xs.length ∧ unfoldN j l = unfoldOf xs ∧ wr.ownsRow w.heap.size 3 1 (.slice (some ⟨g, 0, none⟩) xs.length c') xs.length (ints l) ∧ Below w.heap.size w wr) (fun nv _ => (intOf nv).toNat)
  case atStart => exact ⟨xs.length - 1, xs, by omega, by go_num, rfl, rfl, HO2.out, hb2⟩
  case round =>
    obtain ⟨j, l, hj, rfl, hll, hun, hown, hbl⟩ := hrel
    have HLL := Lib.hid hll
    have HUN := Lib.hid hun
    have HO := Lib.hid hown
    by_cases hj0 : 0 < j
    · have hcx := hown.cellAt j (by omega)
      have hc0 := hown.cellAt 0 (by omega)
      rw [ints_get (by omega), ← getD_getI (by omega)] at hcx hc0
      clear hown hun hll
      obtain ⟨x, hx⟩ : ∃ x, x = l.getD j 0 := ⟨_, rfl⟩
      obtain ⟨e, he⟩ : ∃ e, e = l.getD 0 0 := ⟨_, rfl⟩
      rw [← hx] at hcx
      rw [← he] at hc0
      have HX := Lib.hid hx
      have HE := Lib.hid he
      obtain ⟨lw, hlw⟩ : ∃ lw, lw = decide (e ≤ x) := ⟨_, rfl⟩
      have HLW := Lib.hid hlw
      have hlw2 : decide (e ≤ x) = lw := hlw.symm
      clear hlw hx he
      go_wp2
      go_loopw [9] (fun fv wy => ∃ (f : Nat) (dn rest : List Int), fv = .int .i64 f ∧ dn.length = f ∧ f + rest.length = j ∧ dn ++ unrotAll (side x e) rest = unrotAll (side x e) (l.take j) ∧ (rest = [] ∨ ∃ z r, rest = z :: r ∧ side x e z = true) ∧
          wy.ownsRow w.heap.size 3 1 (.slice (some ⟨g, 0, none⟩) xs.length c') xs.length (ints (dn ++ (rest ++ l.drop j))) ∧ Below w.heap.size w wy) (fun fv _ => xs.length - (intOf fv).toNat)
      case atStart =>
        refine ⟨0, [], l.take j, rfl, rfl, by have := HLL.out; simp; omega, by simp, .inr ?_, by simpa using HO.out, hbl⟩
        have h0 : 0 < l.length := by have := HLL.out; omega
        obtain ⟨z, r, hz⟩ : ∃ z r, l = z :: r := by
          cases l with
          | nil => simp at h0
          | cons z r => exact ⟨z, r, rfl⟩
        obtain ⟨m, rfl⟩ : ∃ m, j = m + 1 := ⟨j - 1, by omega⟩
        refine ⟨z, r.take m, by rw [hz]; rfl, ?_⟩
        have : e = z := by rw [HE.out, hz]; rfl
        rw [this]; exact side_self _ _
      case round =>
        obtain ⟨f, dn, rest, rfl, hdf, hfr, hrot, hhd, hown, hby⟩ := hrel
        have HDF := Lib.hid hdf
        have HFR := Lib.hid hfr
        have HRT := Lib.hid hrot
        have HHD := Lib.hid hhd
        have HOY := Lib.hid hown
        have hfj : f ≤ j := by omega
        clear hdf hrot hhd hown hcx hc0
        by_cases hlt : f < j
        · obtain ⟨y, r, hyr, hpy⟩ : ∃ y r, rest = y :: r ∧ side x e y = true := by
            rcases HHD.out with h1 | h1
            · have := HFR.out; rw [h1] at this; simp at this; omega
            · exact h1
          subst hyr
          have HPY := Lib.hid hpy
          have hrl : f + 1 + r.length = j := by have := HFR.out; simp at this; omega
          have HRL := Lib.hid hrl
          clear hpy hfr hrl
          have hd1 : decide (f < j) = true := by simpa using hlt
          go_upto_block 4 with fail
          go_cut [10] (fun tv wz => ∃ (t : Nat) (blk r2 : List Int), tv = .int .i64 t ∧ r = blk ++ r2 ∧ f + 1 + blk.length = t ∧ (∀ z ∈ blk, side x e z = false) ∧ (r2 = [] ∨ ∃ z r3, r2 = z :: r3 ∧ side x e z = true) ∧ wz = wr)
          case first =>
            go_wp2
            go_loopw [10] (fun tv wz => ∃ (t : Nat) (blk r2 : List Int), tv = .int .i64 t ∧ r = blk ++ r2 ∧ f + 1 + blk.length = t ∧ (∀ z ∈ blk, side x e z = false) ∧ wz = wr) (fun tv _ => xs.length - (intOf tv).toNat)
            case atStart => exact ⟨f + 1, [], r, by go_num, rfl, rfl, by simp, rfl⟩
            case round =>
              obtain ⟨t, blk, r2, rfl, hr2, htb, hblk, rfl⟩ := hrel
              have HR2 := Lib.hid hr2
              have HTB := Lib.hid htb
              have HB := Lib.hid hblk
              have htj : t ≤ j := by have := HRL.out; rw [hr2] at this; simp at this; omega
              have hft : f < t := by omega
              clear hr2 htb hblk
              by_cases htl : t < j
              · obtain ⟨z, r3, hz⟩ : ∃ z r3, r2 = z :: r3 := by
                  cases r2 with
                  | nil => have := HRL.out; rw [HR2.out] at this; have := HTB.out; simp at *; omega
                  | cons z r3 => exact ⟨z, r3, rfl⟩
                subst hz
                have hcz := own_get (i := t) (z := z) HOY.out (mid_get (pre := dn ++ (y :: blk)) (post := r3 ++ l.drop j) (by rw [HR2.out]; simp) (by have := HDF.out; have := HTB.out; simp; omega))
                have hd2 : decide (t < j) = true := by simpa using htl
                obtain ⟨lz, hlz⟩ : ∃ lz, lz = decide (z ≤ x) := ⟨_, rfl⟩
                have hlz2 : decide (z ≤ x) = lz := hlz.symm
                have HS : Hid (side x e z = (lz == lw)) := by show _ = _; unfold side; rw [← hlz, ← HLW.out]
                clear hlz
                by_cases hs : lz = lw
                · subst hs
                  have hsb : (lz == lz) = true := by simp
                  go_wp2
                  go_meet
                  case rel => exact ⟨t, blk, z :: r3, rfl, HR2.out, HTB.out, HB.out, .inr ⟨z, r3, rfl, by rw [HS.out]; simp⟩, rfl⟩
                · have HS2 : Hid (side x e z = false) := by show _ = _; rw [HS.out]; simpa using hs
                  have hsb : (lz == lw) = false := by simpa using hs
                  clear hs
                  go_wp2
                  go_roundw
                  case rel =>
                    refine ⟨t + 1, blk ++ [z], r3, by go_num, by rw [HR2.out]; simp, by have := HTB.out; simp; omega, fun u hu => ?_, trivial⟩
                    rcases List.mem_append.1 hu with hu | hu
                    · exact HB.out u hu
                    · simp at hu; rw [hu]; exact HS2.out
                  case measure => simp [intOf]; omega
              · have hd2 : decide (t < j) = false := by simpa using htl
                go_wp2
                go_meet
                case rel =>
                  refine ⟨t, blk, r2, rfl, HR2.out, HTB.out, HB.out, .inl ?_, rfl⟩
                  apply List.eq_nil_of_length_eq_zero
                  have h1 := HRL.out; rw [HR2.out] at h1; have h2 := HTB.out; simp at h1; omega
          case rest =>
            obtain ⟨t, blk, r2, rfl, hr2, htb, hblk, hstop, hwc⟩ := hcut
            obtain rfl : wc = wr := hwc
            have HR2 := Lib.hid hr2
            have HTB := Lib.hid htb
            have HB := Lib.hid hblk
            have HST := Lib.hid hstop
            have htj : t ≤ j := by have := HRL.out; rw [hr2] at this; simp at this; omega
            have hft : f < t := by omega
            have hcy := own_get (i := f) (z := y) HOY.out (mid_get (pre := dn) (post := r ++ l.drop j) (by simp) HDF.out)
            have HOO : Hid (wc.ownsRow w.heap.size 3 1 (.slice (some ⟨g, 0, none⟩) xs.length c') xs.length (ints (dn ++ (y :: (blk ++ (r2 ++ l.drop j)))))) := by
              show World.ownsRow _ _ _ _ _ _ _
              have := HOY.out; rw [HR2.out] at this; simpa using this
            have hLL : (dn ++ (y :: (blk ++ (r2 ++ l.drop j)))).length = xs.length := by have := HOO.out.1; rwa [ints_length, Nat.mul_one] at this
            have HLEN := Lib.hid hLL
            clear hr2 htb hblk hstop hLL
            go_upto_region 16 with fail
            go_cut [] (fun wz => wz.ownsRow w.heap.size 3 1 (.slice (some ⟨g, 0, none⟩) xs.length c') xs.length (ints (splice (dn ++ (y :: (blk ++ (r2 ++ l.drop j)))) f (((dn ++ (y :: (blk ++ (r2 ++ l.drop j)))).drop (f + 1)).take (t - 1 - f)))) ∧ Below w.heap.size w wz)
            case first =>
              have w1 : IntKind.i64.wrap ((f : Int) + 1) = (f : Int) + 1 := IntWalk.i64_in _ (by omega)
              have w2 : IntKind.i64.wrap ((t : Int) - 1) = (t : Int) - 1 := IntWalk.i64_in _ (by omega)
              have w3 : (0 : Int) ≤ (f : Int) + 1 := by omega
              have w4 : (0 : Int) ≤ (t : Int) - 1 := by omega
              have w5 : ((f : Int) + 1).toNat = f + 1 := by omega
              have w6 : ((t : Int) - 1).toNat = t - 1 := by omega
              have w7 : (t : Int) ≤ (c' : Int) := by omega
              have w8 : (f : Int) ≤ (t : Int) - 1 := by omega
              have w9 : (f : Int) + 1 ≤ (t : Int) := by omega
              have w10 : (t : Int) - 1 ≤ (c' : Int) := by omega
              go_region_law (refine step_copy_own rfl (.tmp 63) (.tmp 68) rfl g xs.length c' (dn ++ (y :: (blk ++ (r2 ++ l.drop j)))) (own_drew HOO.out) f (f + 1) (t - 1 - f) (if c' = f then some ⟨g, 0, none⟩ else some ⟨g, f, none⟩) (if c' = f + 1 then some ⟨g, 0, none⟩ else some ⟨g, f + 1, none⟩) (t - 1 - f) (c' - f) (t - (f + 1)) (c' - (f + 1)) (by simp [Act.eval, Act.put]) (by simp [Act.eval, Act.put]) (by rw [show t - (f + 1) = t - 1 - f by omega]; exact Nat.min_self _) (by intro hm; rw [if_neg (by omega)]) (by intro hm; rw [if_neg (by omega)]) (by omega) (by omega) ?_; intro wz5 ho5 hb5)
              simp only [Exit.then]
              go_step
              go_meet
              case rel => exact ⟨ho5.out, hby.drew.trans hb5.out⟩
            case rest =>
              obtain ⟨hoz, hbz⟩ := hcut
              have hfr := hoz.frozenAt (t - 1)
              have hcf := hoz.cellAt (t - 1) (by omega)
              have hsl : (ints (splice (dn ++ (y :: (blk ++ (r2 ++ l.drop j)))) f (((dn ++ (y :: (blk ++ (r2 ++ l.drop j)))).drop (f + 1)).take (t - 1 - f)))).length = xs.length := by have := hoz.1; rwa [Nat.mul_one] at this
              rw [List.getElem?_eq_getElem (by omega)] at hcf
              have HOZ := Lib.hid hoz
              clear hoz
              generalize (ints (splice (dn ++ (y :: (blk ++ (r2 ++ l.drop j)))) f (((dn ++ (y :: (blk ++ (r2 ++ l.drop j)))).drop (f + 1)).take (t - 1 - f))))[t - 1]'_ = vf at hcf
              go_wp2
              go_roundw
              case rel =>
                refine ⟨t, dn ++ (blk ++ [y]), r2, rfl, ?_, ?_, ?_, HST.out, ?_, hbz.setCell (by exact hg1) _⟩
                · have := HDF.out; have := HTB.out; simp; omega
                · have h1 := HRL.out; rw [HR2.out] at h1; have := HTB.out; simp at h1; omega
                · have h1 := HRT.out
                  rw [unrotAll, HR2.out] at h1
                  have h2 : unrot (side x e) y [] (blk ++ r2) = (blk ++ [y]) ++ unrotAll (side x e) r2 := by
                    rw [unrot_pass (side x e) y r2 blk [] HB.out, List.nil_append, unrot_stop _ _ _ _ HST.out]
                  rw [h2] at h1
                  rw [← h1]; simp
                · have h1 := own_set HOZ.out (t - 1) y
                  have hd := HDF.out
                  have ht := HTB.out
                  rw [← hd, show t - 1 - dn.length = blk.length by omega, show t - 1 = dn.length + blk.length by omega, unfold_piece] at h1
                  rw [show t - 1 = dn.length + blk.length by omega]
                  simpa using h1
              case measure => simp [intOf]; omega
        · have hr0 : rest = [] := List.eq_nil_of_length_eq_zero (by omega)
          subst hr0
          have hfj2 : f = j := by have := HFR.out; simpa using this
          subst hfj2
          clear hfr
          have hd1 : decide (f < f) = false := by simp
          obtain ⟨m, rfl⟩ : ∃ m, f = m + 1 := ⟨f - 1, by omega⟩
          go_wp2
          go_roundw
          case rel =>
            refine ⟨m, dn ++ ([] ++ l.drop (m + 1)), by omega, by go_num, ?_, ?_, HOY.out, hby⟩
            · have h1 := HOY.out.1; rwa [ints_length, Nat.mul_one] at h1
            · rw [← HUN.out, unfoldN, ← HX.out, ← HE.out, ← HRT.out]; simp [unrotAll]
          case measure => simp [intOf]
    · obtain rfl : j = 0 := by omega
      have hd0 : decide ((0 : Int) < 0) = false := by simp
      have HU2 : Hid (l = unfoldOf xs) := HUN.out
      clear hown hun hll
      go_wp2
      go_ret2
      exact ⟨_, _, rfl, by rw [← HU2.out]; exact Sl.of_own HO.out, hbl⟩

end Go.Proofs.Ytmlmdklheiafpaa
