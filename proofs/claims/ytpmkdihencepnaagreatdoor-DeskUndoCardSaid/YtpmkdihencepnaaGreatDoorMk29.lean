/- Part of the proof. -/
import Derived.Deep.RegionHeld3
import Derived.Deep.AppendLies
import Derived.BigRegion
import Derived.Test.YtpmkdihencepnaaGreatDoorMk04
import Derived.Test.YtpmkdihencepnaaGreatDoorMk07
import Derived.Test.YtpmkdihencepnaaGreatDoorMk21
import Derived.Test.YtpmkdihencepnaaGreatDoorMk23
import Derived.Test.YtpmkdihencepnaaGreatDoorMk28
set_option maxHeartbeats 16000000
set_option maxRecDepth 100000
namespace Go.Proofs.YtpmkdihencepnaaGreatDoor
section
open Go.RowKit
def cornTo (m : List (List Int)) (k : Nat) : List (List Int) := (List.range k).map (fun a => tab (m.length + 1) (fun j => csum m a j))
theorem cornTo_length (m : List (List Int)) (k : Nat) : (cornTo m k).length = k := by simp [cornTo]
theorem cornTo_getD {m : List (List Int)} {k a : Nat} (h : a < k) : (cornTo m k).getD a [] = tab (m.length + 1) (fun j => csum m a j) := by simp [cornTo, h]
theorem cornTo_succ (m : List (List Int)) (k : Nat) : cornTo m k ++ [tab (m.length + 1) (fun j => csum m k j)] = cornTo m (k + 1) := by simp [cornTo, List.range_succ]
theorem cornTo_one (m : List (List Int)) : [tab (m.length + 1) (fun _ => 0)] = cornTo m 1 := by simp [cornTo, csum_top]
theorem Cor.le {c : Nat → Nat → Int} {n : Nat} (h : Cor c n) {i j : Nat} (hi : i ≤ n) (hj : j ≤ n) : 0 ≤ c i j ∧ c i j ≤ i := by
 induction i with
 | zero => have := h.top j hj; omega
 | succ i ih => have := ih (by omega); have := h.down i j (by omega) hj; omega
theorem gcorner_any (A : Option Addr) (cap : Nat) (m : List (List Int)) (w : World) (hok : SignOk m) (h : SR w w.heap.size A m) :
 Calls Tryz.prog 189 #[.slice A m.length cap] w fun e w' => (∃ v hs, e = .returned v ∧ OwnM w' w.heap.size v hs (cornTo m (m.length + 1))) ∧ Below w.heap.size w w' := by
 have h7 := hok.1
 have hB := Nat.le_refl w.heap.size
 have HOK := Lib.hid hok
 clear hok
 go_enter Tryz.func189, Tryz.ntmps189
 go_wp2_with (first | (refine wpList_mk rfl (.tmp 12) (.tmp 12) rfl (m.length + 1) rfl rfl (by omega) (Nat.le_refl _) (fun w1 hown1 hb1 hz1 => ?_)) | fail)
 rw [tab_zero] at hown1
 have hm1 := OwnM.single (by rw [tab_length]) hown1 (by omega)
 rw [cornTo_one, hz1] at hm1
 have hb2 : Below w.heap.size w (w1.alloc (.cells #[.slice (some ⟨w.heap.size, 0, none⟩) (m.length + 1) (m.length + 1)] 65)) := hb1.alloc (by omega) _
 have HM1 := Lib.hid hm1
 clear hown1 hm1 hb1
 go_wp2
 go_loopw [3, 17] (fun ov iv wr => ∃ (i : Nat) (hs : List Value), i ≤ m.length ∧ iv = .int .i64 i ∧ OwnM wr w.heap.size ov hs (cornTo m (i + 1)) ∧ Below w.heap.size w wr) (fun _ iv _ => m.length - (intOf iv).toNat)
 case atStart => exact ⟨0, _, by omega, rfl, HM1.out, hb2⟩
 case round =>
  clear HM1 hb2
  obtain ⟨i, hs, hi, rfl, hm, hW⟩ := hrel
  obtain ⟨w9, rfl⟩ : ∃ w9, w9 = wr := ⟨_, rfl⟩
  have HM := Lib.hid hm
  have hsz := hW.size
  by_cases hlt : i < m.length
  · have hd1 : decide (i < m.length) = true := decide_eq_true hlt
    obtain ⟨b, o, rfl, hb⟩ := h.addr (by omega)
    obtain ⟨Ar, cr, hcell, hrow, hrl⟩ := h.at_ hlt
    have hcell := (hW.cell (p := ⟨b, o + i, none⟩) hb).trans hcell
    have hrl2 := HOK.out.len hlt
    obtain ⟨R, hR⟩ : ∃ R, R = m.getD i [] := ⟨_, rfl⟩
    rw [← hR] at hcell hrow hrl hrl2
    have HR := Lib.hid hR
    have HRL := Lib.hid hrl2
    clear hR hrl2
    obtain ⟨gv, cv, hv, hgv1, hgv2⟩ := hm.out.form (by rw [cornTo_length]; omega)
    rw [cornTo_length] at hv
    subst hv
    obtain ⟨gi, ci, hhi, hci, hoi, hgi1, hgi2⟩ := hm.row (r := i) (by rw [cornTo_length]; omega) (by rw [cornTo_getD (by omega), tab_length]; omega)
    rw [cornTo_getD (by omega)] at hci hoi
    rw [tab_length] at hci hoi
    have HCI := Lib.hid hci
    have HOI := Lib.hid hoi
    clear hm hhi hci hoi
    go_wp2_with (first | (refine wpList_mk rfl (.tmp 24) (.tmp 24) rfl (m.length + 1) rfl rfl (by omega) (Nat.le_refl _) (fun w2 hown2 hb2 hz2 => ?_)) | fail)
    rw [tab_zero] at hown2
    have HO2 := Lib.hid hown2
    clear hown2
    go_wp2
    go_loopw [7, 28] (fun sv jv wz => ∃ j : Nat, j ≤ m.length ∧ jv = .int .i64 j ∧ sv = .int .i64 (rsum m i j) ∧ wz.ownsRow w9.heap.size 3 1 (.slice (some ⟨w9.heap.size, 0, none⟩) (m.length + 1) (m.length + 1)) (m.length + 1) (ints (tab (m.length + 1) (fun b => if b ≤ j then csum m (i + 1) b else 0))) ∧ Below w9.heap.size w9 wz) (fun _ jv _ => m.length - (intOf jv).toNat)
    case atStart =>
     refine ⟨0, by omega, rfl, rfl, ?_, hb2⟩
     rw [tab_congr (g := fun _ => 0) (fun b _ => by
      by_cases e : b ≤ 0
      · rw [if_pos e, show b = 0 by omega, csum_left]
      · rw [if_neg e])]
     exact HO2.out
    case round =>
     clear HO2 hb2
     obtain ⟨j, hj, rfl, rfl, hown, hW2⟩ := hrel
     have HO := Lib.hid hown
     clear hown
     have hrow2 := hrow.below (hW.trans (hW2.mono hsz))
     by_cases hlt2 : j < m.length
     · have hRj : j < R.length := by have := HRL.out; omega
       have hd5 : decide (j < R.length) = true := decide_eq_true hRj
       obtain ⟨b1, o1, rfl, hb1⟩ := hrow2.addr (by omega)
       have hcx := getD_cell hrow2 hRj
       have hent : R.getD j 0 = ent m i j := by rw [HR.out]; rfl
       rw [hent] at hcx
       have hcu := (hW2.cell (p := ⟨gv, i, none⟩) hgv2).trans HCI.out
       have hcv := (hW2.cell (p := ⟨gi, j + 1, none⟩) hgi2).trans (own_get HOI.out (i := j + 1) (tab_get (by omega)))
       have hr1 := HOK.out.2.row i j hlt (by omega)
       have hr2 := HOK.out.2.row i (j + 1) hlt (by omega)
       have hrs := rsum_succ m i j
       have hcd := csum_down m i (j + 1)
       have hcl := HOK.out.2.cor.le (i := i) (j := j + 1) (by omega) (by omega)
       have hfr := HO.out.frozenAt (j + 1)
       have hst := own_set HO.out (j + 1) (csum m i (j + 1) + rsum m i (j + 1))
       have hco := own_get HO.out (i := j + 1) (tab_get (by omega))
       rw [← hcd, tab_set, tab_congr (g := fun b => if b ≤ j + 1 then csum m (i + 1) b else 0) (fun a _ => by
        by_cases e : a = j + 1
        · subst e; rw [if_pos rfl, if_pos (by omega)]
        · rw [if_neg e]
          by_cases e2 : a ≤ j
          · rw [if_pos e2, if_pos (by omega)]
          · rw [if_neg e2, if_neg (by omega)])] at hst
       have hWs := hW2.setCell (p := ⟨w9.heap.size, j + 1, none⟩) (Nat.le_refl _) (.int .i64 (csum m i (j + 1) + rsum m i (j + 1)))
       rw [hrs] at hr2 hcd hWs
       rw [hcd] at hst
       obtain ⟨x, hx⟩ : ∃ x, x = ent m i j := ⟨_, rfl⟩
       obtain ⟨s, hs'⟩ : ∃ x, x = rsum m i j := ⟨_, rfl⟩
       obtain ⟨c, hc⟩ : ∃ x, x = csum m i (j + 1) := ⟨_, rfl⟩
       rw [← hx] at hcx hrs hr2 hst hWs
       rw [← hs'] at hr1 hrs hr2 hst hWs ⊢
       rw [← hc] at hcv hcl hst hWs
       have HST := Lib.hid hst
       have HRS := Lib.hid hrs
       clear hx hs' hc hst hrs hent hcd
       go_wp2
       go_roundw
       case rel => exact ⟨j + 1, by omega, by go_num, by rw [HRS.out], HST.out, hWs⟩
       case measure => simp [intOf]; omega
     · have hRj : ¬ j < R.length := by have := HRL.out; omega
       have hd5 : decide (j < R.length) = false := decide_eq_false hRj
       have hO3 := HO.out
       rw [tab_congr (g := fun b => csum m (i + 1) b) (fun a ha => by rw [if_pos (by omega)])] at hO3
       have HO3 := Lib.hid hO3
       clear hO3
       have hm2 := HM.out.below hW2
       have hmo := hm2.out
       rw [cornTo_length] at hmo
       have HM2 := Lib.hid hm2
       have HMO := Lib.hid hmo
       have hB9 := Lib.hid (Nat.le_trans hsz hW2.size)
       clear hm2 hmo
       go_wp2_with (first | (at_builtin; refine wpList_push (v := .slice (some ⟨gv, 0, none⟩) (i + 1) cv) rfl (.tmp 51) (.tmp 53) rfl rfl (.slice (some ⟨w9.heap.size, 0, none⟩) (m.length + 1) (m.length + 1)) rfl HMO.out wr.heap.size rfl rfl (by omega) hB9.out (fun g2 c2 w5 hl5 hg5 hat5 => ?_)) | fail)
       have hfar := HM.out.far_new (u := .slice (some ⟨w9.heap.size, 0, none⟩) (m.length + 1) (m.length + 1)) (fun k hk => by
        obtain rfl : w9.heap.size = k := by simpa [Value.ownBlock] using hk
        exact Nat.le_refl _)
       have hpush := (HM2.out.alloc (.cells #[.slice (some ⟨w9.heap.size, 0, none⟩) (m.length + 1) (m.length + 1)] 65)).push (u := .slice (some ⟨w9.heap.size, 0, none⟩) (m.length + 1) (m.length + 1)) (l := tab (m.length + 1) (fun b => csum m (i + 1) b))
        (by rw [tab_length]; exact (HO3.out.mono hsz).alloc _) hfar.1 hfar.2 (by rw [cornTo_length]) hl5 hg5 (by simpa using hat5)
       rw [cornTo_succ] at hpush
       have hW5 : Below w.heap.size w w5 := ((hW.trans (hW2.mono hsz)).alloc hB9.out _).grown hg5 (by have := hB9.out; simp; omega) (fun k hk => by
        obtain rfl : gv = k := by simpa [Value.ownBlock] using hk
        exact hgv1)
       have HPU := Lib.hid hpush
       clear hpush hfar hl5 hg5 hat5
       go_wp2
       go_roundw
       case rel => exact ⟨i + 1, _, by omega, by go_num, HPU.out, hW5⟩
       case measure => simp [intOf]; omega
  · have hd1 : decide (i < m.length) = false := decide_eq_false hlt
    have him : Hid (i = m.length) := by show _ = _; omega
    clear hm
    go_wp2
    go_ret
    exact ⟨⟨_, hs, rfl, by rw [← him.out]; exact HM.out⟩, hW⟩
end
end Go.Proofs.YtpmkdihencepnaaGreatDoor
namespace Go.Proofs.YtpmkdihencepnaaGreatDoor
end Go.Proofs.YtpmkdihencepnaaGreatDoor
namespace Go.Proofs.YtpmkdihencepnaaGreatDoor
section
open Go.RowKit
section
variable {B : Nat} {a0 w w' : World} {u v : Value} {n m : Nat} {xs ys : List Int}
end
end
section
open Go.RowKit
def fmat (k : Nat) (f : Nat → Nat → Int) : List (List Int) := (List.range k).map (fun a => tab k (f a))
theorem fmat_length (k : Nat) (f : Nat → Nat → Int) : (fmat k f).length = k := by simp [fmat]
theorem fmat_getD {k a : Nat} {f : Nat → Nat → Int} (h : a < k) : (fmat k f).getD a [] = tab k (f a) := by simp [fmat, h]
def urow (n : Nat) (f : Nat → Nat → Int) (a : Nat) : List Int := tab n (fun j => f (a + 1) (j + 1) - f a (j + 1) - f (a + 1) j + f a j)
theorem unc_tab (n : Nat) (f : Nat → Nat → Int) : unc n f = (List.range n).map (urow n f) := rfl
theorem unc_length (n : Nat) (f : Nat → Nat → Int) : (unc n f).length = n := by simp [unc]
theorem unc_getD {n a : Nat} {f : Nat → Nat → Int} (h : a < n) : (unc n f).getD a [] = urow n f a := by rw [unc_tab]; simp [h]
theorem urow_length (n : Nat) (f : Nat → Nat → Int) (a : Nat) : (urow n f a).length = n := tab_length _ _
theorem urow_getD {n a j : Nat} {f : Nat → Nat → Int} (h : j < n) : (urow n f a).getD j 0 = f (a + 1) (j + 1) - f a (j + 1) - f (a + 1) j + f a j := tab_getD h
theorem uncornered_any (A : Option Addr) (cap n : Nat) (f : Nat → Nat → Int) (w : World) (hn : n ≤ 7) (hf : ∀ i j, i ≤ n → j ≤ n → 0 ≤ f i j ∧ f i j ≤ 1000) (h : SR w w.heap.size A (fmat (n + 1) f)) :
    Calls Tryz.prog 190 #[.slice A (n + 1) cap] w fun e w' => (∃ v hs, e = .returned v ∧ OwnM w' w.heap.size v hs (unc n f)) ∧ Below w.heap.size w w' := by
  have hB := Nat.le_refl w.heap.size
  have HF := Lib.hid hf
  clear hf
  obtain ⟨b, o, rfl, hb⟩ := h.addr (by rw [fmat_length]; omega)
  go_enter Tryz.func190, Tryz.ntmps190
  go_wp2
  go_loopw [3, 4] (fun ov iv wr => ∃ (a : Nat) (hs : List Value), a ≤ n ∧ iv = .int .i64 ((a : Int) + 1) ∧ OwnM wr w.heap.size ov hs ((unc n f).take a) ∧ Below w.heap.size w wr) (fun _ iv _ => n + 1 - (intOf iv).toNat)
  case atStart => exact ⟨0, [], by omega, rfl, by rw [List.take_zero]; exact OwnM.nil _ _, Below.refl _ _⟩
  case round =>
    obtain ⟨a, hs, ha, rfl, hm, hW⟩ := hrel
    obtain ⟨w9, rfl⟩ : ∃ w9, w9 = wr := ⟨_, rfl⟩
    have HM := Lib.hid hm
    have hsz := hW.size
    clear hm
    by_cases hlt : a < n
    · have hd1 : decide (a < n) = true := decide_eq_true hlt
      obtain ⟨A1, c1, hc1, hr1, _⟩ := h.at_ (r := a + 1) (by rw [fmat_length]; omega)
      obtain ⟨A0, c0, hc0, hr0, _⟩ := h.at_ (r := a) (by rw [fmat_length]; omega)
      rw [fmat_getD (by omega), tab_length] at hc1 hc0
      rw [fmat_getD (by omega)] at hr1 hr0
      obtain ⟨b1, o1, rfl, hb1⟩ := hr1.addr (by rw [tab_length]; omega)
      obtain ⟨b0, o0, rfl, hb0⟩ := hr0.addr (by rw [tab_length]; omega)
      have HC1 := Lib.hid hc1
      have HC0 := Lib.hid hc0
      clear hc1 hc0
      go_wp2
      go_loopw [5, 6] (fun rv jv wz => ∃ j : Nat, j ≤ n ∧ jv = .int .i64 ((j : Int) + 1) ∧ wz.ownsRow w9.heap.size 3 1 rv j (ints ((urow n f a).take j)) ∧ Below w9.heap.size w9 wz) (fun _ jv _ => n + 1 - (intOf jv).toNat)
      case atStart => exact ⟨0, by omega, rfl, by rw [List.take_zero]; exact World.ownsRow_nil _ _ _ _, Below.refl _ _⟩
      case round =>
        obtain ⟨j, hj, rfl, hown, hW2⟩ := hrel
        have HO := Lib.hid hown
        clear hown
        have hWw := hW.trans (hW2.mono hsz)
        by_cases hlt2 : j < n
        · have hd2 : decide (j < n) = true := decide_eq_true hlt2
          have g1 : wr.cell? ⟨b, o + (a + 1), none⟩ = _ := (hWw.cell (p := ⟨b, o + (a + 1), none⟩) hb).trans HC1.out
          have g0 : wr.cell? ⟨b, o + a, none⟩ = _ := (hWw.cell (p := ⟨b, o + a, none⟩) hb).trans HC0.out
          have k11 := getD_cell (hr1.below hWw) (k := j + 1) (by rw [tab_length]; omega)
          have k10 := getD_cell (hr1.below hWw) (k := j) (by rw [tab_length]; omega)
          have k01 := getD_cell (hr0.below hWw) (k := j + 1) (by rw [tab_length]; omega)
          have k00 := getD_cell (hr0.below hWw) (k := j) (by rw [tab_length]; omega)
          rw [tab_getD (by omega)] at k11 k10 k01 k00
          have l11 := HF.out (a + 1) (j + 1) (by omega) (by omega)
          have l10 := HF.out (a + 1) j (by omega) (by omega)
          have l01 := HF.out a (j + 1) (by omega) (by omega)
          have l00 := HF.out a j (by omega) (by omega)
          have hsn : Hid ((urow n f a).take j ++ [f (a + 1) (j + 1) - f a (j + 1) - f (a + 1) j + f a j] = (urow n f a).take (j + 1)) := by
            show _ = _
            rw [take_snoc (by rw [urow_length]; exact hlt2), ← urow_getD hlt2, getD_get (by rw [urow_length]; exact hlt2)]
          obtain ⟨p, hp⟩ : ∃ x, x = f (a + 1) (j + 1) := ⟨_, rfl⟩
          obtain ⟨q, hq⟩ : ∃ x, x = f a (j + 1) := ⟨_, rfl⟩
          obtain ⟨r, hr⟩ : ∃ x, x = f (a + 1) j := ⟨_, rfl⟩
          obtain ⟨s, hs'⟩ : ∃ x, x = f a j := ⟨_, rfl⟩
          rw [← hp] at k11 l11 hsn
          rw [← hq] at k01 l01 hsn
          rw [← hr] at k10 l10 hsn
          rw [← hs'] at k00 l00 hsn
          clear hp hq hr hs'
          have w1 : IntKind.i64.wrap (p - q) = p - q := IntWalk.i64_in _ (by omega)
          have w2 : IntKind.i64.wrap (p - q - r) = p - q - r := IntWalk.i64_in _ (by omega)
          have w3 : IntKind.i64.wrap (p - q - r + s) = p - q - r + s := IntWalk.i64_in _ (by omega)
          have w4 : IntKind.i64.wrap (a : Int) = a := IntWalk.i64_in _ (by omega)
          have w5 : IntKind.i64.wrap (j : Int) = j := IntWalk.i64_in _ (by omega)
          have x0 : (0 : Int) ≤ (a : Int) + 1 := by omega
          have x1 : (0 : Int) ≤ (j : Int) + 1 := by omega
          have x2 : a + 1 < n + 1 := by omega
          have x3 : (a : Int) + 1 < (n : Int) + 1 := by omega
          have x4 : a < n + 1 := by omega
          have x5 : (a : Int) < (n : Int) + 1 := by omega
          have x6 : (j : Int) + 1 < (n : Int) + 1 := by omega
          have x7 : (j : Int) < (n : Int) + 1 := by omega
          have hu9 : w9.heap.size ≤ wr.heap.size := hW2.size
          have hfb : ∀ k, k < w.heap.size → some k ≠ u5.ownBlock := fun k hk e => by have := (HO.out.lt k e.symm).1; omega
          go_wp2
          go_region_held3 (fun w' => w'.cell? ⟨b, o + (a + 1), none⟩ = some (.slice (some ⟨b1, o1, none⟩) (n + 1) c1) ∧ w'.cell? ⟨b, o + a, none⟩ = some (.slice (some ⟨b0, o0, none⟩) (n + 1) c0) ∧
              w'.cell? ⟨b1, o1 + (j + 1), none⟩ = some (.int .i64 p) ∧ w'.cell? ⟨b0, o0 + (j + 1), none⟩ = some (.int .i64 q) ∧ w'.cell? ⟨b1, o1 + j, none⟩ = some (.int .i64 r) ∧ w'.cell? ⟨b0, o0 + j, none⟩ = some (.int .i64 s))
            (first
              | go_keep
              | (go_split_ands
                 refine ⟨(hcf b _ hb).trans ?_, (hcf b _ hb).trans ?_, (hcf b1 _ hb1).trans ?_, (hcf b0 _ hb0).trans ?_, (hcf b1 _ hb1).trans ?_, (hcf b0 _ hb0).trans ?_⟩ <;> assumption))
            (first
              | ((refine step_app1 (base := w9.heap.size) (l := (urow n f a).take j) (v := u5) ?_ (.tmp 19) (.tmp 55) ?_ ?_ (p - q - r + s) j wr.heap.size ?_ ?_ ?_ ?_ ?_ ?_
                  · rfl
                  · rfl
                  · rfl
                  · rfl
                  · exact own_drew (HO.out.alloc _)
                  · exact heap_alloc_new _ _
                  · omega
                  · (show _ ≤ (World.drew _).heap.size; simp; omega)
                  intro g2 c2 w5 hl5 hg5 hat5 hlt5
                  have hcf := fun bb oo (hbb : bb < w.heap.size) => hg5.cell_far ⟨bb, oo, none⟩ (by show bb < (World.drew _).heap.size; simp; omega) (hfb bb hbb)))
              | fail)
          go_wp2
          go_roundw
          case rel =>
            refine ⟨j + 1, by omega, by go_num, by rw [← hsn.out]; exact hl5, ?_⟩
            exact ((hW2.alloc hu9 _).drew).grown hg5 (by show _ ≤ (World.drew _).heap.size; simp; omega) (fun k hk => (HO.out.lt k hk).1)
          case measure => simp [intOf]; omega
        · have hd2 : decide (j < n) = false := decide_eq_false hlt2
          obtain rfl : j = n := by omega
          obtain ⟨gr, cr, hv, hgr1, hgr2⟩ := HO.out.form (by omega)
          subst hv
          have hO3 := HO.out
          rw [List.take_of_length_le (by rw [urow_length]; omega)] at hO3
          have HO3 := Lib.hid hO3
          have hm2 := HM.out.below hW2
          have hmo := hm2.out
          rw [List.length_take, unc_length, Nat.min_eq_left (by omega)] at hmo
          have HM2 := Lib.hid hm2
          have HMO := Lib.hid hmo
          have hB9 := Lib.hid (Nat.le_trans hsz hW2.size)
          clear hm2 hmo hO3
          go_wp2_with (first | (at_builtin; refine wpList_push (v := u3) rfl (.tmp 57) (.tmp 59) rfl rfl (.slice (some ⟨gr, 0, none⟩) j cr) rfl HMO.out wr.heap.size rfl rfl (by omega) hB9.out (fun g2 c2 w5 hl5 hg5 hat5 => ?_)) | fail)
          have hfar := HM.out.far_new (u := .slice (some ⟨gr, 0, none⟩) j cr) (fun k hk => by
            obtain rfl : gr = k := by simpa [Value.ownBlock] using hk
            exact hgr1)
          have hpush := (HM2.out.alloc (.cells #[.slice (some ⟨gr, 0, none⟩) j cr] 65)).push (u := .slice (some ⟨gr, 0, none⟩) j cr) (l := urow j f a)
            (by rw [urow_length]; exact (HO3.out.mono hsz).alloc _) hfar.1 hfar.2 (by rw [List.length_take, unc_length, Nat.min_eq_left (by omega)]) hl5 hg5 (by simpa using hat5)
          have hts : (unc j f).take a ++ [urow j f a] = (unc j f).take (a + 1) := by rw [getD_take_succ (by rw [unc_length]; exact hlt), unc_getD hlt]
          rw [hts] at hpush
          have hW5 : Below w.heap.size w w5 := (hWw.alloc hB9.out _).grown hg5 (by have := hB9.out; simp; omega) (fun k hk => (HMO.out.lt k hk).1)
          have HPU := Lib.hid hpush
          clear hpush hfar hl5 hg5 hat5 hts
          go_wp2
          go_roundw
          case rel => exact ⟨a + 1, _, by omega, by go_num, HPU.out, hW5⟩
          case measure => simp [intOf]; omega
    · have hd1 : decide (a < n) = false := decide_eq_false hlt
      have han : Hid (a = n) := by show _ = _; omega
      go_wp2
      go_ret
      refine ⟨⟨_, hs, rfl, ?_⟩, hW⟩
      have := HM.out
      rw [List.take_of_length_le (by rw [unc_length, han.out]; exact Nat.le_refl _)] at this
      exact this
end
end Go.Proofs.YtpmkdihencepnaaGreatDoor
