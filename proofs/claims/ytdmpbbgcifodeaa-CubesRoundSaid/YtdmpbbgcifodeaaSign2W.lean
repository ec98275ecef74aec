/-
  signs.corner: what it answers.
-/
import Derived.Test.YtdmpbbgcifodeaaSign1W
import Derived.Test.YtdmpbbgcifodeaaBoolL
namespace Go.Proofs.Ytdmpbbgcifodeaa
open Go.RowKit

theorem slice_one (g n c : Nat) : (Value.slice (some ⟨g, 0, none⟩) n c).oneCell' = true := rfl

def cornTo (m : List (List Int)) (k : Nat) : List (List Int) := (List.range k).map (fun a => tab (m.length + 1) (fun j => csum m a j))
theorem cornTo_length (m : List (List Int)) (k : Nat) : (cornTo m k).length = k := by simp [cornTo]
theorem cornTo_getD {m : List (List Int)} {k a : Nat} (h : a < k) : (cornTo m k).getD a [] = tab (m.length + 1) (fun j => csum m a j) := by simp [cornTo, h]
theorem cornTo_succ (m : List (List Int)) (k : Nat) : cornTo m k ++ [tab (m.length + 1) (fun j => csum m k j)] = cornTo m (k + 1) := by simp [cornTo, List.range_succ]
theorem cornTo_one (m : List (List Int)) : [tab (m.length + 1) (fun _ => 0)] = cornTo m 1 := by simp [cornTo, csum_top]

theorem Cor.le {c : Nat → Nat → Int} {n : Nat} (h : Cor c n) {i j : Nat} (hi : i ≤ n) (hj : j ≤ n) : 0 ≤ c i j ∧ c i j ≤ i := by
  induction i with
  | zero => have := h.top j hj; omega
  | succ i ih => have := ih (by omega); have := h.down i j (by omega) hj; omega

set_option maxRecDepth 100000 in
set_option maxHeartbeats 2000000 in
theorem corner_any (A : Option Addr) (cap : Nat) (m : List (List Int)) (w : World) (hok : SignOk m) (h : SR w w.heap.size A m) :
    Calls Try.prog 75 #[.slice A m.length cap] w fun e w' => (∃ v hs, e = .returned v ∧ OwnM w' w.heap.size v hs (cornTo m (m.length + 1))) ∧ Below w.heap.size w w' := by
  have h7 := hok.1
  have hB := Nat.le_refl w.heap.size
  have HOK := Lib.hid hok
  clear hok
  go_enter Try.func75, Try.ntmps75
  go_wp2_with (first | (refine wpList_mk rfl (.tmp 12) (.tmp 12) rfl (m.length + 1) rfl rfl (by omega) (Nat.le_refl _) (fun w1 hown1 hb1 hz1 => ?_)) | fail)
  rw [tab_zero] at hown1
  have hm1 := OwnM.single (by rw [tab_length]) hown1 (by omega)
  rw [cornTo_one, hz1] at hm1
  have hb2 : Below w.heap.size w (w1.alloc (.cells #[.slice (some ⟨w.heap.size, 0, none⟩) (m.length + 1) (m.length + 1)] 22)) := hb1.alloc (by omega) _
  have HM1 := Lib.hid hm1
  clear hown1 hm1 hb1
  go_wp2
  go_loopw [3, 17] (fun ov iv wr => ∃ (i : Nat) (hs : List Value), i ≤ m.length ∧ iv = .int .i64 i ∧ OwnM wr w.heap.size ov hs (cornTo m (i + 1)) ∧ Below w.heap.size w wr) (fun _ iv _ => m.length - (intOf iv).toNat)
  case atStart => exact ⟨0, _, by omega, rfl, HM1.out, hb2⟩
  case round =>
    clear HM1 hb2
    obtain ⟨i, hs, hi, rfl, hm, hW⟩ := hrel
    obtain ⟨w9, rfl⟩ : ∃ w9, w9 = wr := ⟨_, rfl⟩
    have HM := Lib.hid hm
    have hsz := hW.size
    by_cases hlt : i < m.length
    · have hd1 : decide (i < m.length) = true := decide_eq_true hlt
      obtain ⟨b, o, rfl, hb⟩ := h.addr (by omega)
      obtain ⟨Ar, cr, hcell, hrow, hrl⟩ := h.at_ hlt
      have hcell := (hW.cell (p := ⟨b, o + i, none⟩) hb).trans hcell
      have hrl2 := HOK.out.len hlt
      obtain ⟨R, hR⟩ : ∃ R, R = m.getD i [] := ⟨_, rfl⟩
      rw [← hR] at hcell hrow hrl hrl2
      have HR := Lib.hid hR
      have HRL := Lib.hid hrl2
      clear hR hrl2
      obtain ⟨gv, cv, hv, hgv1, hgv2⟩ := hm.out.form (by rw [cornTo_length]; omega)
      rw [cornTo_length] at hv
      subst hv
      obtain ⟨gi, ci, hhi, hci, hoi, hgi1, hgi2⟩ := hm.row (r := i) (by rw [cornTo_length]; omega) (by rw [cornTo_getD (by omega), tab_length]; omega)
      rw [cornTo_getD (by omega)] at hci hoi
      rw [tab_length] at hci hoi
      have HCI := Lib.hid hci
      have HOI := Lib.hid hoi
      clear hm hhi hci hoi
      go_wp2_with (first | (refine wpList_mk rfl (.tmp 24) (.tmp 24) rfl (m.length + 1) rfl rfl (by omega) (Nat.le_refl _) (fun w2 hown2 hb2 hz2 => ?_)) | fail)
      rw [tab_zero] at hown2
      have HO2 := Lib.hid hown2
      clear hown2
      go_wp2
      go_loopw [7, 28] (fun sv jv wz => ∃ j : Nat, j ≤ m.length ∧ jv = .int .i64 j ∧ sv = .int .i64 (rsum m i j) ∧ wz.ownsRow w9.heap.size 3 1 (.slice (some ⟨w9.heap.size, 0, none⟩) (m.length + 1) (m.length + 1)) (m.length + 1) (ints (tab (m.length + 1) (fun b => if b ≤ j then csum m (i + 1) b else 0))) ∧ Below w9.heap.size w9 wz) (fun _ jv _ => m.length - (intOf jv).toNat)
      case atStart =>
        refine ⟨0, by omega, rfl, rfl, ?_, hb2⟩
        rw [tab_congr (g := fun _ => 0) (fun b _ => by
          by_cases e : b ≤ 0
          · rw [if_pos e, show b = 0 by omega, csum_left]
          · rw [if_neg e])]
        exact HO2.out
      case round =>
        clear HO2 hb2
        obtain ⟨j, hj, rfl, rfl, hown, hW2⟩ := hrel
        have HO := Lib.hid hown
        clear hown
        have hrow2 := hrow.below (hW.trans (hW2.mono hsz))
        by_cases hlt2 : j < m.length
        · have hRj : j < R.length := by have := HRL.out; omega
          have hd5 : decide (j < R.length) = true := decide_eq_true hRj
          obtain ⟨b1, o1, rfl, hb1⟩ := hrow2.addr (by omega)
          have hcx := getD_cell hrow2 hRj
          have hent : R.getD j 0 = ent m i j := by rw [HR.out]; rfl
          rw [hent] at hcx
          have hcu := (hW2.cell (p := ⟨gv, i, none⟩) hgv2).trans HCI.out
          have hcv := (hW2.cell (p := ⟨gi, j + 1, none⟩) hgi2).trans (own_get HOI.out (i := j + 1) (tab_get (by omega)))
          have hr1 := HOK.out.2.row i j hlt (by omega)
          have hr2 := HOK.out.2.row i (j + 1) hlt (by omega)
          have hrs := rsum_succ m i j
          have hcd := csum_down m i (j + 1)
          have hcl := HOK.out.2.cor.le (i := i) (j := j + 1) (by omega) (by omega)
          have hfr := HO.out.frozenAt (j + 1)
          have hst := own_set HO.out (j + 1) (csum m i (j + 1) + rsum m i (j + 1))
          have hco := own_get HO.out (i := j + 1) (tab_get (by omega))
          rw [← hcd, tab_set, tab_congr (g := fun b => if b ≤ j + 1 then csum m (i + 1) b else 0) (fun a _ => by
            by_cases e : a = j + 1
            · subst e; rw [if_pos rfl, if_pos (by omega)]
            · rw [if_neg e]
              by_cases e2 : a ≤ j
              · rw [if_pos e2, if_pos (by omega)]
              · rw [if_neg e2, if_neg (by omega)])] at hst
          have hWs := hW2.setCell (p := ⟨w9.heap.size, j + 1, none⟩) (Nat.le_refl _) (.int .i64 (csum m i (j + 1) + rsum m i (j + 1)))
          rw [hrs] at hr2 hcd hWs
          rw [hcd] at hst
          obtain ⟨x, hx⟩ : ∃ x, x = ent m i j := ⟨_, rfl⟩
          obtain ⟨s, hs'⟩ : ∃ x, x = rsum m i j := ⟨_, rfl⟩
          obtain ⟨c, hc⟩ : ∃ x, x = csum m i (j + 1) := ⟨_, rfl⟩
          rw [← hx] at hcx hrs hr2 hst hWs
          rw [← hs'] at hr1 hrs hr2 hst hWs ⊢
          rw [← hc] at hcv hcl hst hWs
          have HST := Lib.hid hst
          have HRS := Lib.hid hrs
          clear hx hs' hc hst hrs hent hcd
          go_wp2
          go_roundw
          case rel => exact ⟨j + 1, by omega, by go_num, by rw [HRS.out], HST.out, hWs⟩
          case measure => simp [intOf]; omega
        · have hRj : ¬ j < R.length := by have := HRL.out; omega
          have hd5 : decide (j < R.length) = false := decide_eq_false hRj
          have hO3 := HO.out
          rw [tab_congr (g := fun b => csum m (i + 1) b) (fun a ha => by rw [if_pos (by omega)])] at hO3
          have HO3 := Lib.hid hO3
          clear hO3
          have hm2 := HM.out.below hW2
          have hmo := hm2.out
          rw [cornTo_length] at hmo
          have HM2 := Lib.hid hm2
          have HMO := Lib.hid hmo
          have hB9 := Lib.hid (Nat.le_trans hsz hW2.size)
          clear hm2 hmo
          go_wp2_with (first | (at_builtin; refine wpList_push (v := .slice (some ⟨gv, 0, none⟩) (i + 1) cv) rfl (.tmp 51) (.tmp 53) rfl rfl (.slice (some ⟨w9.heap.size, 0, none⟩) (m.length + 1) (m.length + 1)) rfl HMO.out wr.heap.size rfl rfl (by omega) hB9.out (fun g2 c2 w5 hl5 hg5 hat5 => ?_)) | fail)
          have hfar := HM.out.far_new (u := .slice (some ⟨w9.heap.size, 0, none⟩) (m.length + 1) (m.length + 1)) (fun k hk => by
            obtain rfl : w9.heap.size = k := by simpa [Value.ownBlock] using hk
            exact Nat.le_refl _)
          have hpush := (HM2.out.alloc (.cells #[.slice (some ⟨w9.heap.size, 0, none⟩) (m.length + 1) (m.length + 1)] 22)).push (u := .slice (some ⟨w9.heap.size, 0, none⟩) (m.length + 1) (m.length + 1)) (l := tab (m.length + 1) (fun b => csum m (i + 1) b))
            (by rw [tab_length]; exact (HO3.out.mono hsz).alloc _) hfar.1 hfar.2 (by rw [cornTo_length]) hl5 hg5 (by simpa using hat5)
          rw [cornTo_succ] at hpush
          have hW5 : Below w.heap.size w w5 := ((hW.trans (hW2.mono hsz)).alloc hB9.out _).grown hg5 (by have := hB9.out; simp; omega) (fun k hk => by
            obtain rfl : gv = k := by simpa [Value.ownBlock] using hk
            exact hgv1)
          have HPU := Lib.hid hpush
          clear hpush hfar hl5 hg5 hat5
          go_wp2
          go_roundw
          case rel => exact ⟨i + 1, _, by omega, by go_num, HPU.out, hW5⟩
          case measure => simp [intOf]; omega
    · have hd1 : decide (i < m.length) = false := decide_eq_false hlt
      have him : Hid (i = m.length) := by show _ = _; omega
      clear hm
      go_wp2
      go_ret
      exact ⟨⟨_, hs, rfl, by rw [← him.out]; exact HM.out⟩, hW⟩

end Go.Proofs.Ytdmpbbgcifodeaa
