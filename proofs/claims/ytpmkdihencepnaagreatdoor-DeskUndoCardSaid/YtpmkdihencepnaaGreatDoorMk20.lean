/- Part of the proof. -/
import Derived.Test.YtpmkdihencepnaaGreatDoorMk01
import Derived.Test.YtpmkdihencepnaaGreatDoorMk07
import Derived.Test.YtpmkdihencepnaaGreatDoorMk17
import Derived.Test.YtpmkdihencepnaaGreatDoorMk18
import Derived.Test.YtpmkdihencepnaaGreatDoorMk19
set_option maxHeartbeats 16000000
namespace Go.Proofs.YtpmkdihencepnaaGreatDoor
section
open Go.RowKit
theorem unrounds_ok (A : Option Addr) (cap : Nat) (q : List Int) (w : World) (hn : q.length ≤ 40) (hp : IsPerm q) (h : Sl w w.heap.size A (ints q)) :
 Calls Tryz.prog 86 #[.slice A q.length cap] w fun e w' => Tol0 (fun ys => ys.length = q.length ∧ ∀ k, k < q.length → at1 ys (q.getD k 0) = nxt q k) w.heap.size e w' ∧ Below w.heap.size w w' := by
 have hk : Hid (permChk q = 0) := permChk_ok (by omega) hp
 have HP := Lib.hid hp
 clear hp
 go_enter Tryz.func86, Tryz.ntmps86
 go_wp2_with fail
 refine (check_any _ _ _ _ (by omega) h).mono ?_
 rintro e w1 ⟨rfl, hb1⟩
 rw [hk.out]
 have h1 := (h.below hb1)
 go_wp2_with (at_make; refine wpList_mk rfl (.tmp 15) (.tmp 15) rfl q.length rfl rfl (by omega) (Nat.le_refl _) (fun w2 hown2 hb2 hz2 => ?_))
 have HO2 := Lib.hid hown2
 clear hown2
 go_loopw [6] (fun iv wr => ∃ (i : Nat) (ys : List Int), i ≤ q.length ∧ iv = .int .i64 i ∧ ys.length = q.length ∧ wr.ownsRow w1.heap.size 3 1 (.slice (some ⟨w1.heap.size, 0, none⟩) q.length q.length) q.length (ints ys) ∧ Below w1.heap.size w1 wr ∧
  (∀ k, k < i → at1 ys (q.getD k 0) = nxt q k) ∧ (∀ (j : Nat), j < i → q.getD j 0 < q.getD i 100)) (fun iv _ => q.length - (intOf iv).toNat)
 case atStart =>
  exact ⟨0, _, by omega, rfl, by simp, HO2.out, hb2, fun k hk => by omega, fun j hj => by omega⟩
 case round =>
  obtain ⟨i, ys, hi, rfl, hyl, hown, hbl, hdone, hrec⟩ := hrel
  obtain ⟨wo, rfl⟩ : ∃ wo : World, wo = wr := ⟨_, rfl⟩
  have HO := Lib.hid hown
  have HD := Lib.hid hdone
  have HR := Lib.hid hrec
  have HY := Lib.hid hyl
  clear hown hdone hrec hyl
  have h2 := h1.below (hbl.mono hb1.size)
  by_cases hlt : i < q.length
  · obtain ⟨b, o, rfl, hb, hc0⟩ := h2.at_ hlt
    have hd1 : decide (i < q.length) = true := by simpa using hlt
    have hb' : b < wo.heap.size := by have := hbl.size; have := hb1.size; omega
    go_upto_block 2 with fail
    go_cut [7] (fun tv wr => ∃ (t : Nat), i < t ∧ t ≤ q.length ∧ tv = .int .i64 t ∧ (∀ j, i < j → j < t → q.getD j 0 < q.getD i 0) ∧ (t = q.length ∨ q.getD i 0 ≤ q.getD t 0) ∧ ∃ d, wr = wo.drewN d)
    case first =>
     go_wp2
     go_loopw [7] (fun tv wr => ∃ (t : Nat), i < t ∧ t ≤ q.length ∧ tv = .int .i64 t ∧ (∀ j, i < j → j < t → q.getD j 0 < q.getD i 0) ∧ ∃ d, wr = wo.drewN d) (fun tv _ => q.length - (intOf tv).toNat)
     case atStart => exact ⟨i + 1, by omega, by omega, by go_num, fun j h1 h2 => by omega, 0, rfl⟩
     case round =>
      obtain ⟨t, hit, htl, rfl, hlow, d, rfl⟩ := hrel
      have HLOW := Lib.hid hlow
      clear hlow
      have hci : wo.cell? ⟨b, o + i, none⟩ = some (.int .i64 (q.getD i 0)) := by rw [getD_get hlt]; exact hc0
      by_cases hc1 : t < q.length
      · have hct : wo.cell? ⟨b, o + t, none⟩ = some (.int .i64 (q.getD t 0)) := by
         obtain ⟨b', o', e1, _, hc'⟩ := h2.at_ hc1
         obtain ⟨rfl, rfl⟩ : b = b' ∧ o = o' := by simpa using e1
         rw [getD_get hc1]; exact hc'
        have hd2 : decide (t < q.length) = true := by simpa using hc1
        obtain ⟨x, hx⟩ : ∃ x, x = q.getD i 0 := ⟨_, rfl⟩
        obtain ⟨y, hy⟩ : ∃ x, x = q.getD t 0 := ⟨_, rfl⟩
        rw [← hx] at hci
        rw [← hy] at hct
        have HX := Lib.hid hx
        have HYY := Lib.hid hy
        clear hx hy hc0
        by_cases hc2 : y < x
        · have hd3 : decide (y < x) = true := by simpa using hc2
          go_wp2
          go_quiet (fail)
          go_wp2
          go_roundw
          case rel =>
           refine ⟨t + 1, by omega, by omega, by go_num, fun j h1 h2 => ?_, _, rfl⟩
           by_cases hj : j < t
           · exact HLOW.out j h1 hj
           · obtain rfl : j = t := by omega
             rw [← HX.out, ← HYY.out]; exact hc2
          case measure => simp [intOf]; omega
        · have hd3 : decide (y < x) = false := by simpa using hc2
          go_wp2
          go_quiet (fail)
          go_wp2
          go_meet
          case rel => exact ⟨t, hit, htl, rfl, HLOW.out, .inr (by rw [← HX.out, ← HYY.out]; omega), _, World.drewN_drewN ..⟩
      · have hd2 : decide (t < q.length) = false := by simpa using hc1
        go_wp2
        go_quiet (fail)
        go_wp2
        go_meet
        case rel => exact ⟨t, hit, htl, rfl, HLOW.out, .inl (by omega), _, World.drewN_drewN ..⟩
    case rest =>
     obtain ⟨t, hit, htl, rfl, hlow, hstop, d, rfl⟩ := hcut
     have HB : Hid (IsBlock q i t) := ⟨HP.out, hn, hlt, hit, htl, HR.out, hlow, hstop⟩
     clear hlow hstop
     go_wp2
     go_loopw [8] (fun kv wr => ∃ (k : Nat) (zs : List Int), i ≤ k ∧ k ≤ t ∧ kv = .int .i64 k ∧ zs.length = q.length ∧ wr.ownsRow w1.heap.size 3 1 (.slice (some ⟨w1.heap.size, 0, none⟩) q.length q.length) q.length (ints zs) ∧ Below w1.heap.size w1 wr ∧
      (∀ j, j < k → at1 zs (q.getD j 0) = nxt q j)) (fun kv _ => q.length - (intOf kv).toNat)
     case atStart => exact ⟨i, ys, by omega, by omega, rfl, HY.out, HO.out, below_drewN hbl _, HD.out⟩
     case round =>
      obtain ⟨k, zs, hik, hkt, rfl, hzl, hown, hbk, hdone⟩ := hrel
      have HZ := Lib.hid hzl
      have HOK := Lib.hid hown
      have HDK := Lib.hid hdone
      clear hzl hown hdone
      by_cases hk : k < t
      · have hdk : decide (k < t) = true := by simpa using hk
        have hd2 : k < q.length := by omega
        have h3 := h1.below (hbk.mono hb1.size)
        have hx : 1 ≤ q.getD k 0 ∧ q.getD k 0 ≤ q.length := by rw [getD_get hd2]; exact HP.out.2 _ (List.getElem_mem hd2)
        have hck : wr.cell? ⟨b, o + k, none⟩ = some (.int .i64 (q.getD k 0)) := by
         obtain ⟨b', o', e1, _, hc'⟩ := h3.at_ hd2
         obtain ⟨rfl, rfl⟩ : b = b' ∧ o = o' := by simpa using e1
         rw [getD_get hd2]; exact hc'
        have hci : wr.cell? ⟨b, o + i, none⟩ = some (.int .i64 (q.getD i 0)) := by
         obtain ⟨b', o', e1, _, hc'⟩ := h3.at_ hlt
         obtain ⟨rfl, rfl⟩ : b = b' ∧ o = o' := by simpa using e1
         rw [getD_get hlt]; exact hc'
        obtain ⟨x, hx0⟩ : ∃ x, x = q.getD k 0 := ⟨_, rfl⟩
        obtain ⟨y, hy⟩ : ∃ x, x = q.getD i 0 := ⟨_, rfl⟩
        rw [← hx0] at hck hx
        rw [← hy] at hci
        have HX := Lib.hid hx0
        have HYY := Lib.hid hy
        clear hx0 hy hc0
        have hox := HOK.out.cellAt (x.toNat - 1) (by have := HZ.out; omega)
        rw [ints_get (by have := HZ.out; omega)] at hox
        have hfx := HOK.out.frozenAt (x.toNat - 1)
        have hne : b ≠ w1.heap.size := by have := hb1.size; omega
        by_cases hk1 : k + 1 < t
        · have hd3 : decide ((k : Int) + 1 < (t : Int)) = true := by simp; omega
          have hck1 : wr.cell? ⟨b, o + (k + 1), none⟩ = some (.int .i64 (q.getD (k + 1) 0)) := by
           obtain ⟨b', o', e1, _, hc'⟩ := h3.at_ (show k + 1 < q.length by omega)
           obtain ⟨rfl, rfl⟩ : b = b' ∧ o = o' := by simpa using e1
           rw [getD_get (show k + 1 < q.length by omega)]; exact hc'
          go_wp2
          go_region
          go_wp2
          go_region
          all_goals (try go_wp2)
          go_roundw
          case rel =>
           refine ⟨k + 1, (zs.set (x.toNat - 1) y).set (x.toNat - 1) (q.getD (k + 1) 0), by omega, by omega, by go_num, ?_, ?_, ?_, ?_⟩
           · simp [HZ.out]
           · exact own_set (own_set HOK.out _ _) _ _
           · exact ((hbk.setCell (by exact Nat.le_refl _) _).drew.setCell (by exact Nat.le_refl _) _).drew
           · have hd := done_step HP.out HZ.out (v := q.getD (k + 1) 0) hd2 HDK.out (by rw [HB.out.nxt hik hk, if_pos hk1])
             rw [List.set_set, HX.out]
             exact hd
          case measure => simp [intOf]; omega
        · have hd3 : decide ((k : Int) + 1 < (t : Int)) = false := by simp; omega
          go_wp2
          go_region
          all_goals (try go_wp2)
          go_roundw
          case rel =>
           refine ⟨k + 1, zs.set (x.toNat - 1) y, by omega, by omega, by go_num, ?_, ?_, ?_, ?_⟩
           · simp [HZ.out]
           · exact own_set HOK.out _ _
           · exact (hbk.setCell (by exact Nat.le_refl _) _).drew
           · have hd := done_step HP.out HZ.out (v := y) hd2 HDK.out (by rw [HB.out.nxt hik hk, if_neg hk1, HYY.out])
             rw [HX.out]
             rw [HYY.out] at hd ⊢
             exact hd
          case measure => simp [intOf]; omega
      · obtain rfl : k = t := by omega
        go_wp2
        go_roundw
        case rel => exact ⟨k, zs, htl, rfl, HZ.out, HOK.out, hbk, HDK.out, HB.out.next⟩
        case measure => simp [intOf]; omega
  · obtain rfl : i = q.length := by omega
    go_wp2
    go_ret2
    exact ⟨tol0_own (HO.out.mono hb1.size) ⟨HY.out, HD.out⟩, hb1.trans (hbl.mono hb1.size)⟩
theorem rounds_err (A : Option Addr) (cap : Nat) (xs : List Int) (w : World) (hcl : xs.length ≤ 9223372036854775807) (hp : permChk xs ≠ 0) (h : Sl w w.heap.size A (ints xs)) :
 Calls Tryz.prog 85 #[.slice A xs.length cap] w fun e w' => e = .returned (.tuple #[.slice none 0 0, .int .i64 (permChk xs)]) ∧ Below w.heap.size w w' := by
 obtain ⟨c, hc⟩ : ∃ c, c = permChk xs := ⟨_, rfl⟩
 have hd : (c != 0) = true := by rw [hc]; simpa using hp
 have HC := Lib.hid hc
 clear hc hp
 go_enter Tryz.func85, Tryz.ntmps85
 go_wp2_with fail
 refine (check_any _ _ _ _ hcl h).mono ?_
 rintro e w1 ⟨rfl, hb1⟩
 rw [← HC.out]
 go_wp2
 go_ret2
 exact ⟨by rw [← HC.out]; rfl, hb1⟩
theorem unrounds_err (A : Option Addr) (cap : Nat) (xs : List Int) (w : World) (hcl : xs.length ≤ 9223372036854775807) (hp : permChk xs ≠ 0) (h : Sl w w.heap.size A (ints xs)) :
 Calls Tryz.prog 86 #[.slice A xs.length cap] w fun e w' => e = .returned (.tuple #[.slice none 0 0, .int .i64 (permChk xs)]) ∧ Below w.heap.size w w' := by
 obtain ⟨c, hc⟩ : ∃ c, c = permChk xs := ⟨_, rfl⟩
 have hd : (c != 0) = true := by rw [hc]; simpa using hp
 have HC := Lib.hid hc
 clear hc hp
 go_enter Tryz.func86, Tryz.ntmps86
 go_wp2_with fail
 refine (check_any _ _ _ _ hcl h).mono ?_
 rintro e w1 ⟨rfl, hb1⟩
 rw [← HC.out]
 go_wp2
 go_ret2
 exact ⟨by rw [← HC.out]; rfl, hb1⟩
end
section
def rot (p : Int → Bool) : List Int → List Int → List Int
 | blk, [] => blk
 | blk, y :: rest => if p y then (y :: blk) ++ rot p [] rest else rot p (blk ++ [y]) rest
def unrot (p : Int → Bool) : Int → List Int → List Int → List Int
 | y, blk, [] => blk ++ [y]
 | y, blk, z :: rest => if p z then (blk ++ [y]) ++ unrot p z [] rest else unrot p y (blk ++ [z]) rest
def unrotAll (p : Int → Bool) : List Int → List Int
 | [] => []
 | y :: rest => unrot p y [] rest
def foldStep (v : List Int) (x : Int) : List Int := (if v = [] then [] else rot (side x (v.getLastD 0)) [] v) ++ [x]
def foldOf (w : List Int) : List Int := w.foldl foldStep []
def unfoldN : Nat → List Int → List Int
 | 0, v => v
 | n + 1, v => unfoldN n (unrotAll (side (v.getD (n + 1) 0) (v.getD 0 0)) (v.take (n + 1)) ++ v.drop (n + 1))
def unfoldOf (w : List Int) : List Int := unfoldN (w.length - 1) w
theorem rot_perm (p : Int → Bool) : ∀ rest blk, (rot p blk rest).Perm (blk ++ rest)
 | [], blk => by simp [rot]
 | y :: rest, blk => by
  rw [rot]
  split
  · refine ((rot_perm p rest []).append_left (y :: blk)).trans ?_
    simp only [List.nil_append, List.cons_append]
    exact List.perm_middle.symm
  · refine (rot_perm p rest (blk ++ [y])).trans ?_
    simp
theorem rot_length (p : Int → Bool) (blk rest : List Int) : (rot p blk rest).length = blk.length + rest.length := by
 rw [(rot_perm p rest blk).length_eq, List.length_append]
theorem unrot_pass (p : Int → Bool) (z : Int) (m : List Int) : ∀ (b q : List Int), (∀ u ∈ b, p u = false) → unrot p z q (b ++ m) = unrot p z (q ++ b) m
 | [], q, _ => by simp
 | u :: b, q, h => by
  rw [List.cons_append, unrot, if_neg (by simp [h u (by simp)]), unrot_pass p z m b _ (fun t ht => h t (List.mem_cons_of_mem _ ht))]
  simp
theorem foldOf_snoc (w : List Int) (x : Int) : foldOf (w ++ [x]) = foldStep (foldOf w) x := by simp [foldOf]
theorem foldStep_length (v : List Int) (x : Int) : (foldStep v x).length = v.length + 1 := by
 unfold foldStep
 by_cases h : v = []
 · simp [h]
 · simp [h, rot_length]
theorem foldOf_length (w : List Int) : (foldOf w).length = w.length := by
 induction w using snoc_ind with
 | nil => rfl
 | snoc w x ih => rw [foldOf_snoc, foldStep_length, ih]; simp
theorem side_self (x e : Int) : side x e e = true := by simp [side]
def Closing (xs : List Int) (top : Int) : Prop := at1 xs ((arc xs top).getLastD 0) = top
instance (xs : List Int) (top : Int) : Decidable (Closing xs top) := by unfold Closing; infer_instance
section
variable {xs : List Int} {t : Int}
end
end
section
def left (xs : List Int) (S : Int → Bool) (t : Nat) : Nat := (List.range t).countP (fun i : Nat => decide (Closing xs ((i : Int) + 1)) && !S ((i : Int) + 1))
def Shut (xs S : List Int) : Prop := ∀ x ∈ S, at1 xs x ∈ S
def IsInv (p x : List Int) : Prop := x.length = p.length ∧ ∀ k, k < p.length → at1 x (p.getD k 0) = (k : Int) + 1
theorem IsPerm.perm_upTo {p : List Int} (hp : IsPerm p) : p.Perm (upTo p.length) := by
 rw [List.perm_ext_iff_of_nodup hp.1 (nodup_upTo _)]
 intro x
 rw [mem_upTo]
 exact ⟨fun h => hp.2 x h, fun h => hp.mem h.1 h.2⟩
theorem at1_list {x : List Int} : (upTo x.length).map (at1 x) = x := by
 apply List.ext_getElem (by simp [upTo])
 intro i h1 h2
 simp only [upTo, List.getElem_map, List.getElem_range]
 exact at1_get h2
end
section
open Go.RowKit
def pairChk (p q : List Int) : Int := if permChk p ≠ 0 then permChk p else if permChk q ≠ 0 then permChk q else if p.length = q.length then 0 else 3
theorem permChk_zero {xs : List Int} (h : permChk xs = 0) : xs.length ≤ 40 ∧ IsPerm xs := by
 unfold permChk at h
 split at h
 · cases h
 · split at h
   · exact ⟨by omega, by assumption⟩
   · cases h
theorem pairChk_zero {p q : List Int} : pairChk p q = 0 ↔ permChk p = 0 ∧ permChk q = 0 ∧ p.length = q.length := by
 unfold pairChk
 by_cases h1 : permChk p = 0
 · by_cases h2 : permChk q = 0
   · by_cases h3 : p.length = q.length <;> simp [h1, h2, h3]
   · simp [h1, h2]
 · simp [h1]
theorem ppair_any (A A' : Option Addr) (cap cap' : Nat) (p q : List Int) (w : World) (hp : p.length ≤ 9223372036854775807) (hq : q.length ≤ 9223372036854775807)
 (h : Sl w w.heap.size A (ints p)) (h' : Sl w w.heap.size A' (ints q)) :
 Calls Tryz.prog 145 #[.slice A p.length cap, .slice A' q.length cap'] w fun e w' => e = .returned (.int .i64 (pairChk p q)) ∧ Below w.heap.size w w' := by
 obtain ⟨a, ha⟩ : ∃ a, a = permChk p := ⟨_, rfl⟩
 obtain ⟨b, hb⟩ : ∃ b, b = permChk q := ⟨_, rfl⟩
 have HA := Lib.hid ha
 have HB := Lib.hid hb
 clear ha hb
 go_enter Tryz.func145, Tryz.ntmps145
 go_wp2_with fail
 refine (check_any _ _ _ _ hp h).mono ?_
 rintro e w1 ⟨rfl, hb1⟩
 rw [← HA.out]
 go_wp2_with fail
 refine (check_any _ _ _ _ hq (h'.keep hb1)).mono ?_
 rintro e w2 ⟨rfl, hb2⟩
 rw [← HB.out]
 have hW2 : Below w.heap.size w w2 := below_call hb1 (Nat.le_refl _) hb2
 clear hb1 hb2
 by_cases h1 : a = 0
 · have hd1 : (a != 0) = false := by simpa using h1
   have H1 := Lib.hid h1
   clear h1
   by_cases h2 : b = 0
   · have hd2 : (b != 0) = false := by simpa using h2
     have H2 := Lib.hid h2
     clear h2
     by_cases h3 : p.length = q.length
     · have hd3 : (((p.length : Nat) : Int) != ((q.length : Nat) : Int)) = false := by simp [h3]
       have hfin : Hid (pairChk p q = 0) := pairChk_zero.2 ⟨by rw [← HA.out]; exact H1.out, by rw [← HB.out]; exact H2.out, h3⟩
       clear h3
       go_wp2
       go_ret
       exact ⟨by rw [hfin.out]; rfl, hW2⟩
     · have hd3 : (((p.length : Nat) : Int) != ((q.length : Nat) : Int)) = true := by simp; omega
       have hfin : Hid (pairChk p q = 3) := by
        show _ = _
        unfold pairChk
        rw [if_neg (by rw [← HA.out]; simpa using H1.out), if_neg (by rw [← HB.out]; simpa using H2.out), if_neg h3]
       clear h3
       go_wp2
       go_ret
       exact ⟨by rw [hfin.out]; rfl, hW2⟩
   · have hd2 : (b != 0) = true := by simpa using h2
     have hfin : Hid (pairChk p q = b) := by
      show _ = _
      unfold pairChk
      rw [if_neg (by rw [← HA.out]; simpa using H1.out), if_pos (by rw [← HB.out]; exact h2), HB.out]
     clear h2
     go_wp2
     go_ret
     exact ⟨by rw [hfin.out]; rfl, hW2⟩
 · have hd1 : (a != 0) = true := by simpa using h1
   have hfin : Hid (pairChk p q = a) := by
    show _ = _
    unfold pairChk
    rw [if_pos (by rw [← HA.out]; exact h1), HA.out]
   clear h1
   go_wp2
   go_ret
   exact ⟨by rw [hfin.out]; rfl, hW2⟩
theorem inv_step {p zs : List Int} (hp : IsPerm p) (hz : zs.length = p.length) {k : Nat} (hk : k < p.length) (hd : ∀ j, j < k → at1 zs (p.getD j 0) = (j : Int) + 1) :
 ∀ j, j < k + 1 → at1 (zs.set ((p.getD k 0).toNat - 1) ((k : Int) + 1)) (p.getD j 0) = (j : Int) + 1 := by
 intro j hj
 have hrj := hp.getD_range (show j < p.length by omega)
 have hrk := hp.getD_range hk
 have hl1 : (p.getD j 0 - 1).toNat < (zs.set ((p.getD k 0).toNat - 1) ((k : Int) + 1)).length := by simp only [List.length_set]; omega
 unfold at1
 rw [getD_get hl1, List.getElem_set]
 by_cases he : j = k
 · subst he
   rw [if_pos (by omega)]
 · have hne : p.getD j 0 ≠ p.getD k 0 := fun e => he (hp.getD_inj (by omega) hk e)
   rw [if_neg (by omega)]
   have := hd j (by omega)
   unfold at1 at this
   rw [getD_get (by omega)] at this
   exact this
theorem inverse_ok (A : Option Addr) (cap : Nat) (p : List Int) (w : World) (hn : p.length ≤ 40) (hp : IsPerm p) (h : Sl w w.heap.size A (ints p)) :
 Calls Tryz.prog 80 #[.slice A p.length cap] w fun e w' => Tol0 (IsInv p) w.heap.size e w' ∧ Below w.heap.size w w' := by
 have hk : Hid (permChk p = 0) := permChk_ok (by omega) hp
 have HP := Lib.hid hp
 clear hp
 go_enter Tryz.func80, Tryz.ntmps80
 go_wp2_with fail
 refine (check_any _ _ _ _ (by omega) h).mono ?_
 rintro e w1 ⟨rfl, hb1⟩
 rw [hk.out]
 have h1 := (h.below hb1)
 go_wp2_with (at_make; refine wpList_mk rfl (.tmp 14) (.tmp 14) rfl p.length rfl rfl (by omega) (Nat.le_refl _) (fun w2 hown2 hb2 hz2 => ?_))
 have HO2 := Lib.hid hown2
 clear hown2
 go_loopw [18] (fun iv wr => ∃ (i : Nat) (ys : List Int), i ≤ p.length ∧ iv = .int .i64 i ∧ ys.length = p.length ∧ wr.ownsRow w1.heap.size 3 1 (.slice (some ⟨w1.heap.size, 0, none⟩) p.length p.length) p.length (ints ys) ∧ Below w1.heap.size w1 wr ∧
  (∀ k, k < i → at1 ys (p.getD k 0) = (k : Int) + 1)) (fun iv _ => p.length - (intOf iv).toNat)
 case atStart => exact ⟨0, _, by omega, rfl, by simp, HO2.out, hb2, fun k hk => by omega⟩
 case round =>
  obtain ⟨i, ys, hi, rfl, hyl, hown, hbl, hdone⟩ := hrel
  have HO := Lib.hid hown
  have HD := Lib.hid hdone
  have HY := Lib.hid hyl
  clear hown hdone hyl
  by_cases hlt : i < p.length
  · obtain ⟨b, o, rfl, hb⟩ := h1.addr (by omega)
    have hcx := getD_cell (h1.below (hbl.mono hb1.size)) hlt
    have hr := HP.out.getD_range hlt
    obtain ⟨x, hx⟩ : ∃ x, x = p.getD i 0 := ⟨_, rfl⟩
    rw [← hx] at hcx hr
    have HX := Lib.hid hx
    clear hx
    have hox := HO.out.cellAt (x.toNat - 1) (by have := HY.out; omega)
    rw [ints_get (by have := HY.out; omega)] at hox
    have hfx := HO.out.frozenAt (x.toNat - 1)
    go_wp2
    go_roundw
    case rel =>
     refine ⟨i + 1, ys.set (x.toNat - 1) ((i : Int) + 1), by omega, by go_num, by simp [HY.out], own_set HO.out _ _, hbl.setCell (by exact Nat.le_refl _) _, ?_⟩
     rw [HX.out]
     exact inv_step HP.out HY.out hlt HD.out
    case measure => simp [intOf]; omega
  · obtain rfl : i = p.length := by omega
    go_wp2
    go_ret2
    exact ⟨tol0_own (HO.out.mono hb1.size) ⟨HY.out, HD.out⟩, hb1.trans (hbl.mono hb1.size)⟩
theorem inverse_err (A : Option Addr) (cap : Nat) (xs : List Int) (w : World) (hcl : xs.length ≤ 9223372036854775807) (hp : permChk xs ≠ 0) (h : Sl w w.heap.size A (ints xs)) :
 Calls Tryz.prog 80 #[.slice A xs.length cap] w fun e w' => e = .returned (.tuple #[.slice none 0 0, .int .i64 (permChk xs)]) ∧ Below w.heap.size w w' := by
 obtain ⟨c, hc⟩ : ∃ c, c = permChk xs := ⟨_, rfl⟩
 have hd : (c != 0) = true := by rw [hc]; simpa using hp
 have HC := Lib.hid hc
 clear hc hp
 go_enter Tryz.func80, Tryz.ntmps80
 go_wp2_with fail
 refine (check_any _ _ _ _ hcl h).mono ?_
 rintro e w1 ⟨rfl, hb1⟩
 rw [← HC.out]
 go_wp2
 go_ret2
 exact ⟨by rw [← HC.out]; rfl, hb1⟩
end
section
open Go.RowKit
end
section
open Go.RowKit
def cntTo (p : List Int) (i k : Nat) : Nat := ((p.drop (i + 1)).take k).countP (fun m => decide (m < p.getD i 0))
def codeAt (p : List Int) (i : Nat) : Nat := (p.drop (i + 1)).countP (fun m => decide (m < p.getD i 0))
def codeOf (p : List Int) : List Int := (List.range p.length).map (fun i => (codeAt p i : Int))
def ctab (p : List Int) (i : Nat) (c : Int) : List Int := (List.range p.length).map (fun j => if j < i then (codeAt p j : Int) else if j = i then c else 0)
theorem codeOf_length (p : List Int) : (codeOf p).length = p.length := by simp [codeOf]
theorem ctab_at {p : List Int} {i : Nat} (c : Int) (h : i < p.length) : (ctab p i c)[i]? = some c := by simp [ctab, h]
theorem ctab_set (p : List Int) (i : Nat) (c c' : Int) : (ctab p i c).set i c' = ctab p i c' := by
 apply List.ext_getElem?
 intro j
 rw [List.getElem?_set]
 by_cases e : i = j
 · subst e
   simp only [ctab, List.length_map, List.length_range, if_true, List.getElem?_map]
   split <;> simp [*]
 · rw [if_neg e]
   have e' : ¬ j = i := fun h => e h.symm
   by_cases h : j < p.length <;> simp [ctab, h, e']
theorem ctab_zero (p : List Int) : ctab p 0 0 = List.replicate p.length 0 := by
 apply List.ext_getElem?
 intro j
 by_cases h : j < p.length <;> simp [ctab, h]
theorem ctab_next (p : List Int) (i : Nat) : ctab p i (codeAt p i) = ctab p (i + 1) 0 := by
 unfold ctab
 apply List.map_congr_left
 intro j hj
 by_cases h1 : j < i
 · rw [if_pos h1, if_pos (by omega)]
 · by_cases h2 : j = i
   · subst h2; simp
   · rw [if_neg h1, if_neg h2, if_neg (by omega)]; split <;> rfl
theorem ctab_all (p : List Int) : ctab p p.length 0 = codeOf p := by
 unfold ctab codeOf
 apply List.map_congr_left
 intro j hj
 rw [if_pos (List.mem_range.1 hj)]
theorem cntTo_succ {p : List Int} {i k : Nat} (h : i + 1 + k < p.length) : cntTo p i (k + 1) = cntTo p i k + if p.getD (i + 1 + k) 0 < p.getD i 0 then 1 else 0 := by
 unfold cntTo
 rw [take_snoc (show k < (p.drop (i + 1)).length by rw [List.length_drop]; omega), List.countP_append, List.getElem_drop, getD_get h]
 simp
theorem cntTo_all (p : List Int) (i : Nat) : cntTo p i (p.length - (i + 1)) = codeAt p i := by
 unfold cntTo codeAt
 rw [List.take_of_length_le (by simp)]
theorem cntTo_le (p : List Int) (i k : Nat) : cntTo p i k ≤ k := by
 have := List.countP_le_length (p := fun m => decide (m < p.getD i 0)) (l := (p.drop (i + 1)).take k)
 rw [List.length_take] at this
 unfold cntTo; omega
theorem code_err (A : Option Addr) (cap : Nat) (xs : List Int) (w : World) (hcl : xs.length ≤ 9223372036854775807) (hp : permChk xs ≠ 0) (h : Sl w w.heap.size A (ints xs)) :
 Calls Tryz.prog 81 #[.slice A xs.length cap] w fun e w' => e = .returned (.tuple #[.slice none 0 0, .int .i64 (permChk xs)]) ∧ Below w.heap.size w w' := by
 obtain ⟨c, hc⟩ : ∃ c, c = permChk xs := ⟨_, rfl⟩
 have hd : (c != 0) = true := by rw [hc]; simpa using hp
 have HC := Lib.hid hc
 clear hc hp
 go_enter Tryz.func81, Tryz.ntmps81
 go_wp2_with fail
 refine (check_any _ _ _ _ hcl h).mono ?_
 rintro e w1 ⟨rfl, hb1⟩
 rw [← HC.out]
 go_wp2
 go_ret2
 exact ⟨by rw [← HC.out]; rfl, hb1⟩
theorem code_ok (A : Option Addr) (cap : Nat) (p : List Int) (w : World) (hcap : p.length ≤ cap) (hn : p.length ≤ 40) (hp : permChk p = 0) (h : Sl w w.heap.size A (ints p)) :
 Calls Tryz.prog 81 #[.slice A p.length cap] w fun e w' => ∃ A' c', e = .returned (.tuple #[.slice A' (codeOf p).length c', .int .i64 0]) ∧ w'.ownsRow w.heap.size 3 1 (.slice A' (codeOf p).length c') (codeOf p).length (ints (codeOf p)) ∧ (codeOf p).length ≤ c' ∧ Below w.heap.size w w' := by
 have hk := Lib.hid hp
 clear hp
 go_enter Tryz.func81, Tryz.ntmps81
 go_wp2_with fail
 refine (check_any _ _ _ _ (by omega) h).mono ?_
 rintro e w1 ⟨rfl, hb1⟩
 rw [hk.out]
 have h1 := (h.below hb1)
 go_wp2_with (at_make; refine wpList_mk rfl (.tmp 16) (.tmp 16) rfl p.length rfl rfl (by omega) (Nat.le_refl _) (fun w2 hown2 hb2 hz2 => ?_))
 have HO2 := Lib.hid hown2
 clear hown2
 go_loopw [20] (fun iv wr => ∃ (i : Nat), i ≤ p.length ∧ iv = .int .i64 i ∧ wr.ownsRow w1.heap.size 3 1 (.slice (some ⟨w1.heap.size, 0, none⟩) p.length p.length) p.length (ints (ctab p i 0)) ∧ Below w1.heap.size w1 wr) (fun iv _ => p.length - (intOf iv).toNat)
 case atStart => exact ⟨0, by omega, rfl, by rw [ctab_zero]; exact HO2.out, hb2⟩
 case round =>
  obtain ⟨i, hi, rfl, hown, hbl⟩ := hrel
  have HO := Lib.hid hown
  clear hown
  by_cases hlt : i < p.length
  · obtain ⟨b, o, rfl, hb⟩ := h1.addr (by omega)
    have hcx := getD_cell (h1.below (hbl.mono hb1.size)) hlt
    obtain ⟨x, hx⟩ : ∃ x, x = p.getD i 0 := ⟨_, rfl⟩
    rw [← hx] at hcx
    have HX := Lib.hid hx
    clear hx
    have hnx : Hid (ctab p i (codeAt p i) = ctab p (i + 1) 0) := ctab_next p i
    by_cases hce : cap = i + 1
    · obtain rfl : i = p.length - 1 := by omega
      have hca : Hid (codeAt p (p.length - 1) = 0) := by show _ = _; unfold codeAt; rw [List.drop_of_length_le (by omega)]; rfl
      go_wp2
      go_loopw [30] (fun kv wk => kv = .int .i64 0 ∧ wk.ownsRow w1.heap.size 3 1 (.slice (some ⟨w1.heap.size, 0, none⟩) p.length p.length) p.length (ints (ctab p (p.length - 1) 0)) ∧ Below w1.heap.size w1 wk) (fun kv _ => 0)
      case atStart => exact ⟨rfl, HO.out, hbl⟩
      case round =>
       obtain ⟨rfl, hown, hbk⟩ := hrel
       have HO' := Lib.hid hown
       clear hown
       go_wp2
       go_roundw
       case rel =>
        refine ⟨p.length - 1 + 1, by omega, by go_num, ?_, hbk⟩
        rw [← hnx.out, hca.out]; exact HO'.out
       case measure => simp [intOf]; omega
    · go_wp2
      go_loopw [30] (fun kv wk => ∃ (k : Nat), k ≤ p.length - (i + 1) ∧ kv = .int .i64 k ∧ wk.ownsRow w1.heap.size 3 1 (.slice (some ⟨w1.heap.size, 0, none⟩) p.length p.length) p.length (ints (ctab p i (cntTo p i k))) ∧ Below w1.heap.size w1 wk) (fun kv _ => p.length - (i + 1) - (intOf kv).toNat)
      case atStart => exact ⟨0, by omega, rfl, HO.out, hbl⟩
      case round =>
       obtain ⟨k, hk', rfl, hown, hbk⟩ := hrel
       have HO' := Lib.hid hown
       clear hown
       by_cases hkl : k < p.length - (i + 1)
       · have hcy := getD_cell (h1.below (hbk.mono hb1.size)) (show i + 1 + k < p.length by omega)
         have hcs := cntTo_succ (p := p) (i := i) (k := k) (by omega)
         have hcl := cntTo_le p i k
         obtain ⟨y, hy⟩ : ∃ x, x = p.getD (i + 1 + k) 0 := ⟨_, rfl⟩
         rw [← hy, ← Nat.add_assoc] at hcy
         rw [← hy, ← HX.out] at hcs
         obtain ⟨c, hc⟩ : ∃ c, c = cntTo p i k := ⟨_, rfl⟩
         rw [← hc] at hcl hcs
         have hoc := own_get HO'.out (ctab_at (cntTo p i k) hlt)
         rw [← hc] at hoc
         have hfr := HO'.out.frozenAt i
         rw [← hc] at HO'
         have HCC := Lib.hid hc
         clear hc hy
         by_cases hyx : y < x
         · rw [if_pos hyx] at hcs
           have HCS := Lib.hid hcs
           clear hcs
           have hst := own_set HO'.out i ((c : Int) + 1)
           rw [ctab_set] at hst
           have HST := Lib.hid hst
           clear hst
           go_wp2
           go_roundw
           case rel =>
            refine ⟨k + 1, by omega, by go_num, ?_, hbk.setCell (by exact Nat.le_refl _) _⟩
            rw [HCS.out]; exact HST.out
           case measure => simp [intOf]; omega
         · rw [if_neg hyx] at hcs
           have HCS := Lib.hid hcs
           clear hcs
           go_wp2
           go_roundw
           case rel =>
            refine ⟨k + 1, by omega, by go_num, ?_, hbk⟩
            rw [HCS.out]; exact HO'.out
           case measure => simp [intOf]; omega
       · obtain rfl : k = p.length - (i + 1) := by omega
         have hca := Lib.hid (cntTo_all p i)
         go_wp2
         go_roundw
         case rel =>
          refine ⟨i + 1, by omega, by go_num, ?_, hbk⟩
          rw [← hnx.out, ← hca.out]; exact HO'.out
         case measure => simp [intOf]; omega
  · obtain rfl : i = p.length := by omega
    have hfin := Lib.hid (ctab_all p)
    go_wp2
    go_ret2
    exact ⟨_, _, by rw [codeOf_length]; rfl, by rw [codeOf_length, ← hfin.out]; exact HO.out.mono hb1.size, by rw [codeOf_length]; exact Nat.le_refl _, hb1.trans (hbl.mono hb1.size)⟩
theorem codeOf_cons (x : Int) (l : List Int) : codeOf (x :: l) = (l.countP (fun m => decide (m < x)) : Int) :: codeOf l := by
 unfold codeOf
 rw [List.length_cons, List.range_succ_eq_map, List.map_cons, List.map_map]
 congr 1
theorem isPerm_upTo (n : Nat) : IsPerm (upTo n) := ⟨nodup_upTo n, fun x hx => by have := mem_upTo.1 hx; rw [length_upTo]; exact this⟩
end
section
theorem IsInv.uniq {p x y : List Int} (hp : IsPerm p) (hx : IsInv p x) (hy : IsInv p y) : x = y := by
 rw [← at1_list (x := x), ← at1_list (x := y), hx.1, hy.1]
 apply List.map_congr_left
 intro v hv
 have h := mem_upTo.1 hv
 obtain ⟨k, hk, e⟩ := List.getElem_of_mem (hp.mem h.1 h.2)
 have h1 := hx.2 k hk
 have h2 := hy.2 k hk
 rw [getD_get hk, e] at h1 h2
 rw [h1, h2]
def tms (a b : List Int) : List Int := b.map (at1 a)
theorem tms_length (a b : List Int) : (tms a b).length = b.length := by simp [tms]
theorem tms_getD {a b : List Int} {k : Nat} (h : k < b.length) : (tms a b).getD k 0 = at1 a (b.getD k 0) := by
 rw [getD_get (by simpa [tms] using h), getD_get h]; simp [tms]
end
end Go.Proofs.YtpmkdihencepnaaGreatDoor
