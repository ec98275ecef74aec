/- Part of the proof. -/
import Derived.Test.YtpmkdihencepnaaGreatDoorMk30
set_option maxHeartbeats 16000000
set_option maxRecDepth 100000
namespace Go.Proofs.YtpmkdihencepnaaGreatDoor
section
open Go.RowKit
def MLow (v : Value) (hs : List Value) (k B : Nat) : Prop := (∀ b, v.ownBlock = some b → b < B) ∧ ∀ r, r < k → ∀ b, (hs.getD r undef).ownBlock = some b → b < B
theorem OwnM.mlow {w : World} {B : Nat} {v : Value} {hs : List Value} {rows : List (List Int)} (h : OwnM w B v hs rows) : MLow v hs rows.length w.heap.size :=
 ⟨fun b hb => (h.out.lt b hb).2, fun r hr b hb => ((h.inn r hr).lt b hb).2⟩
theorem own_lowv {w w' : World} {base n B : Nat} {e : TypeId} {v : Value} {cs : List Value} (h : w.ownsRow base e 1 v n cs) (hv : ∀ k, v.ownBlock = some k → k < B) (hb : Below B w w') : w'.ownsRow base e 1 v n cs := by
 refine ⟨h.1, ?_⟩
 rcases h.2 with hn | ⟨g, cap, cur, e1, hg, hh, rest⟩
 · exact .inl hn
 · exact .inr ⟨g, cap, cur, e1, hg, (hb.block g (hv g (by rw [e1]; rfl))).trans hh, rest⟩
theorem OwnM.lowB {w w' : World} {B B0 : Nat} {v : Value} {hs : List Value} {rows : List (List Int)} (h : OwnM w B v hs rows) (hl : MLow v hs rows.length B0) (hb : Below B0 w w') : OwnM w' B v hs rows :=
 ⟨h.len, own_lowv h.out hl.1 hb, fun r hr => own_lowv (h.inn r hr) (hl.2 r hr) hb, h.far, h.top⟩
theorem triOf_length (m : List (List Int)) (n : Nat) : (triOf m n).length = n := by simp [triOf]
theorem triOf_getD {m : List (List Int)} {n i : Nat} (h : i < n) : (triOf m n).getD i [] = triTo m (i + 1) n := by simp [triOf, h]; rfl
theorem tri_any (A : Option Addr) (cap : Nat) (m : List (List Int)) (w : World) (hcl : m.length ≤ 9223372036854775807) (h : SR w w.heap.size A m) :
 Calls Tryz.prog 142 #[.slice A m.length cap] w fun e w' => (∃ (k : Int) (rows : List (List Int)), RowsOut w.heap.size e w' k rows ∧ ChkSign m k ∧ (k ≠ 0 → rows = []) ∧ (k = 0 → rows = triOf m m.length)) ∧ Below w.heap.size w w' := by
 go_enter Tryz.func142, Tryz.ntmps142
 go_wp2_with fail
 refine (gcheck_any A cap m w hcl h).mono ?_
 rintro e w1 ⟨⟨k, rfl, hk⟩, hb1⟩
 rcases hk with ⟨ha, rfl⟩ | ⟨ha, rfl⟩
 · have h7 := ha.1
   have HOK := Lib.hid ha
   clear ha
   go_wp2_with (first | (refine wpList_mk (base := w1.heap.size) rfl (.tmp 18) (.tmp 18) rfl m.length rfl rfl (by omega) (Nat.le_refl _) (fun w2 hown2 hb2 hz2 => ?_)) | fail)
   rw [tab_zero] at hown2
   have HO2 := Lib.hid hown2
   have hW2 : Below w.heap.size w w2 := below_call hb1 (Nat.le_refl _) hb2
   have hw1 := hb1.size
   have HW2S := Lib.hid hW2.size
   clear hown2 hb1 hb2
   go_wp2
   go_loopw [6, 22] (fun ov iv wr => ∃ (i : Nat) (hs : List Value), i ≤ m.length ∧ iv = .int .i64 i ∧ OwnM wr w2.heap.size ov hs ((triOf m m.length).take i) ∧ wr.ownsRow w1.heap.size 3 1 (.slice (some ⟨w1.heap.size, 0, none⟩) m.length m.length) m.length (ints (tab m.length (fun b => dsum m i b))) ∧ Below w.heap.size w wr ∧ w2.heap.size ≤ wr.heap.size) (fun _ iv _ => m.length - (intOf iv).toNat)
   case atStart => exact ⟨0, [], by omega, rfl, by rw [List.take_zero]; exact OwnM.nil _ _, HO2.out, hW2, Nat.le_refl _⟩
   case round =>
    clear HO2 hW2
    obtain ⟨i, hs, hi, rfl, hm, hd, hW, hsz⟩ := hrel
    obtain ⟨w9, rfl⟩ : ∃ w9, w9 = wr := ⟨_, rfl⟩
    have HM := Lib.hid hm
    have HD := Lib.hid hd
    have hml := hm.mlow
    have HML := Lib.hid hml
    have hw9 := hW.size
    clear hm hd hml
    by_cases hlt : i < m.length
    · have hd1 : decide (i < m.length) = true := decide_eq_true hlt
      obtain ⟨b, o, rfl, hb⟩ := h.addr (by omega)
      obtain ⟨Ar, cr, hcell, hrow, hrl⟩ := h.at_ hlt
      have hcell := (hW.cell (p := ⟨b, o + i, none⟩) hb).trans hcell
      have hrl2 := HOK.out.len hlt
      obtain ⟨R, hR⟩ : ∃ R, R = m.getD i [] := ⟨_, rfl⟩
      rw [← hR] at hcell hrow hrl hrl2
      have HR := Lib.hid hR
      have HRL := Lib.hid hrl2
      clear hR hrl2
      go_wp2
      go_loopw [9, 28] (fun lv jv wz => ∃ j l : Nat, j ≤ m.length ∧ jv = .int .i64 j ∧ l ≤ j ∧ l = (triTo m (i + 1) j).length ∧ wz.ownsRow w9.heap.size 3 1 lv l (ints (triTo m (i + 1) j)) ∧ OwnM wz w2.heap.size u6 hs ((triOf m m.length).take i) ∧
       wz.ownsRow w1.heap.size 3 1 (.slice (some ⟨w1.heap.size, 0, none⟩) m.length m.length) m.length (ints (tab m.length (fun b => if b < j then dsum m (i + 1) b else dsum m i b))) ∧ Below w.heap.size w wz ∧ w9.heap.size ≤ wz.heap.size) (fun _ jv _ => m.length - (intOf jv).toNat)
      case atStart => exact ⟨0, 0, by omega, rfl, by omega, by simp [triTo], by simpa [triTo, ints] using World.ownsRow_nil _ _ _ _, HM.out, by simpa using HD.out, hW, Nat.le_refl _⟩
      case round =>
       clear HM HD hW
       obtain ⟨j, l, hj, rfl, hlj, hll, hown, hm, hd, hW, hsz2⟩ := hrel
       have HO := Lib.hid hown
       have HM := Lib.hid hm
       have HD := Lib.hid hd
       have HLL := Lib.hid hll
       clear hown hm hd hll
       have hrow2 := hrow.below hW
       by_cases hlt2 : j < m.length
       · have hRj : j < R.length := by have := HRL.out; omega
         have hd5 : decide (j < R.length) = true := decide_eq_true hRj
         obtain ⟨b1, o1, rfl, hb1⟩ := hrow2.addr (by omega)
         have hcx := getD_cell hrow2 hRj
         have hent : R.getD j 0 = ent m i j := by rw [HR.out]; rfl
         rw [hent] at hcx
         have hcd := own_get HD.out (i := j) (tab_get hlt2)
         rw [if_neg (by omega)] at hcd
         have hr1 := HOK.out.2.col i j (by omega) hlt2
         have hr2 := HOK.out.2.col (i + 1) j (by omega) hlt2
         have hds := dsum_succ m i j
         have hfr := HD.out.frozenAt j
         have hst := own_set HD.out j (dsum m i j + ent m i j)
         rw [tab_set, tab_congr (g := fun b => if b < j + 1 then dsum m (i + 1) b else dsum m i b) (fun a _ => by
          by_cases e : a = j
          · subst e; rw [if_pos rfl, if_pos (by omega), dsum_succ]
          · rw [if_neg e]
            by_cases e2 : a < j
            · rw [if_pos e2, if_pos (by omega)]
            · rw [if_neg e2, if_neg (by omega)])] at hst
         have hts := triTo_succ m (i + 1) j
         rw [hds] at hr2 hts
         have hWs := hW.setCell (p := ⟨w1.heap.size, j, none⟩) hw1 (.int .i64 (dsum m i j + ent m i j))
         have hms := HM.out.setBelow (a := ⟨w1.heap.size, j, none⟩) (by show w1.heap.size < w2.heap.size; omega) (.int .i64 (dsum m i j + ent m i j))
         have hos := ownsRow_setCell_below HO.out (a := ⟨w1.heap.size, j, none⟩) (by show w1.heap.size < w9.heap.size; omega) (.int .i64 (dsum m i j + ent m i j))
         have hszs : w9.heap.size ≤ (wr.setCell ⟨w1.heap.size, j, none⟩ (.int .i64 (dsum m i j + ent m i j))).heap.size := by simpa using hsz2
         have hszq : Hid (wr.heap.size = (wr.setCell ⟨w1.heap.size, j, none⟩ (.int .i64 (dsum m i j + ent m i j))).heap.size) := by show _ = _; simp
         obtain ⟨x, hx⟩ : ∃ x, x = ent m i j := ⟨_, rfl⟩
         obtain ⟨d, hd⟩ : ∃ x, x = dsum m i j := ⟨_, rfl⟩
         rw [← hx] at hcx hr2 hst hts hWs hms hos hszs hszq
         rw [← hd] at hcd hr1 hr2 hst hts hWs hms hos hszs hszq
         have HST := Lib.hid hst
         have HTS := Lib.hid hts
         have HWS := Lib.hid hWs
         have HMS := Lib.hid hms
         have HOS := Lib.hid hos
         clear hx hd hst hts hds hent hWs hms hos
         by_cases hone : d + x = 1
         · have e1 : (d + x == 1) = true := by simpa using hone
           have hts2 := HTS.out
           rw [if_pos hone] at hts2
           have HT2 := Lib.hid hts2
           clear hone hts2
           go_wp2_with (first | (at_builtin; refine wpList_app1h rfl (.tmp 45) (.tmp 48) rfl rfl ((j : Int) + 1) HOS.out wr.heap.size hszq.out rfl (by omega) hszs (fun g2 c2 w5 hl5 hb5 => ?_)) | fail)
           have hm5 := HMS.out.lowB (B0 := w9.heap.size) (by have := HML.out; exact this) hb5
           have hd5' := own_low HST.out (by show w1.heap.size < w9.heap.size; omega) hb5
           have hW5 : Below w.heap.size w w5 := HWS.out.trans (hb5.mono hw9)
           go_wp2
           go_roundw
           case rel => exact ⟨j + 1, l + 1, by omega, by go_num, by omega, by rw [HT2.out, List.length_append, ← HLL.out]; rfl, by rw [HT2.out]; exact hl5, hm5, hd5', hW5, Nat.le_trans hszs hb5.size⟩
           case measure => simp [intOf]; omega
         · have e1 : (d + x == 1) = false := by simpa using hone
           have hts2 := HTS.out
           rw [if_neg hone, List.append_nil] at hts2
           have HT2 := Lib.hid hts2
           clear hone hts2
           go_wp2
           go_roundw
           case rel => exact ⟨j + 1, l, by omega, by go_num, by omega, by rw [HT2.out]; exact HLL.out, by rw [HT2.out]; exact HOS.out, HMS.out, HST.out, HWS.out, hszs⟩
           case measure => simp [intOf]; omega
       · have hRj : ¬ j < R.length := by have := HRL.out; omega
         have hd5 : decide (j < R.length) = false := decide_eq_false hRj
         have hjm : j = m.length := by omega
         have hd3 := HD.out
         rw [tab_congr (g := fun b => dsum m (i + 1) b) (fun a ha => by rw [if_pos (by omega)])] at hd3
         have HD3 := Lib.hid hd3
         have hl1 : l = i + 1 := by rw [HLL.out, hjm]; exact tri_length HOK.out.2 (by omega)
         have hO3 := HO.out
         rw [hjm] at hO3
         rw [hl1] at hO3
         obtain ⟨gr, crr, hv, hgr1, hgr2⟩ := hO3.form (by omega)
         subst hv
         have HO3 := Lib.hid hO3
         have hmo := HM.out.out
         rw [List.length_take, triOf_length, Nat.min_eq_left (by omega)] at hmo
         have HMO := Lib.hid hmo
         have HLN := Lib.hid (tri_length HOK.out.2 (i := i + 1) (by omega))
         have hB9 := Lib.hid (Nat.le_trans hsz hsz2)
         clear hd3 hO3 hmo hjm hl1
         go_wp2_with (first | (at_builtin; refine wpList_push (v := u6) rfl (.tmp 51) (.tmp 53) rfl rfl (.slice (some ⟨gr, 0, none⟩) (i + 1) crr) rfl HMO.out wr.heap.size rfl rfl (by omega) hB9.out (fun g2 c2 w5 hl5 hg5 hat5 => ?_)) | fail)
         have hfar1 : ∀ r, r < ((triOf m m.length).take i).length → Far (hs.getD r undef) (.slice (some ⟨gr, 0, none⟩) (i + 1) crr) := fun r hr k hk e => by
          obtain rfl : gr = k := by simpa [Value.ownBlock] using e
          have := HML.out.2 r hr gr hk; omega
         have hfar2 : Far u6 (.slice (some ⟨gr, 0, none⟩) (i + 1) crr) := fun k hk e => by
          obtain rfl : gr = k := by simpa [Value.ownBlock] using e
          have := HML.out.1 gr hk; omega
         have hpush := (HM.out.alloc (.cells #[.slice (some ⟨gr, 0, none⟩) (i + 1) crr] 65)).push (u := .slice (some ⟨gr, 0, none⟩) (i + 1) crr) (l := triTo m (i + 1) m.length)
          (by rw [HLN.out]; exact (HO3.out.mono hsz).alloc _) hfar1 hfar2 (by rw [List.length_take, triOf_length, Nat.min_eq_left (by omega)]) hl5 hg5 (by simpa using hat5)
         have hts : (triOf m m.length).take i ++ [triTo m (i + 1) m.length] = (triOf m m.length).take (i + 1) := by rw [getD_take_succ (by rw [triOf_length]; exact hlt), triOf_getD hlt]
         rw [hts] at hpush
         have hd5' := (HD3.out.alloc (.cells #[.slice (some ⟨gr, 0, none⟩) (i + 1) crr] 65)).kept hg5 (.inr (fun e => by have := (HMO.out.lt w1.heap.size e.symm).1; omega))
         have hW5 : Below w.heap.size w w5 := (hW.alloc (by omega) _).grown hg5 (by simp; omega) (fun k hk => by have := (HMO.out.lt k hk).1; omega)
         have hsz5 : w2.heap.size ≤ w5.heap.size := by have := hg5.size; simp at this; omega
         have HPU := Lib.hid hpush
         have HD5 := Lib.hid hd5'
         clear hpush hfar1 hfar2 hl5 hg5 hat5 hts hd5'
         go_wp2
         go_roundw
         case rel => exact ⟨i + 1, _, by omega, by go_num, HPU.out, HD5.out, hW5, hsz5⟩
         case measure => simp [intOf]; omega
    · have hd1 : decide (i < m.length) = false := decide_eq_false hlt
      have him : Hid (i = m.length) := by show _ = _; omega
      have hm := HM.out
      rw [List.take_of_length_le (by rw [triOf_length, him.out]; exact Nat.le_refl _)] at hm
      have HM' := Lib.hid hm
      clear hm
      go_wp2
      go_ret2
      exact ⟨⟨0, _, rowsOut_own (HM'.out.lowr HW2S.out) 0, .inl ⟨HOK.out, rfl⟩, fun e => absurd rfl e, fun _ => rfl⟩, hW⟩
 · have HA := Lib.hid ha
   clear ha
   go_wp2
   go_ret2
   exact ⟨⟨1, [], rowsOut_nil _ _ 1, .inr ⟨HA.out, rfl⟩, fun _ => rfl, fun e => (by cases e)⟩, hb1⟩
end
section
open Go.RowKit
end
section
open Go.RowKit
def ind (q : List Int) (j : Nat) : Int := if ((j : Int) + 1) ∈ q then 1 else 0
theorem ind_nil (j : Nat) : ind [] j = 0 := by simp [ind]
theorem ind_take {q : List Int} (hq : q.Pairwise (· < ·)) {k X : Nat} (hk : k < q.length) (hX : q.getD k 0 = (X : Int) + 1) (j : Nat) : ind (q.take (k + 1)) j = if j = X then ind (q.take k) X + 1 else ind (q.take k) j := by
 have hx : q[k] = (X : Int) + 1 := by rw [← hX, getD_get hk]
 have hnot : ((X : Int) + 1) ∉ q.take k := fun h => by
  obtain ⟨i, hi, e⟩ := List.getElem_of_mem h
  have hi' : i < k := by simp at hi; omega
  rw [List.getElem_take] at e
  have := List.pairwise_iff_getElem.1 hq i k (by omega) hk hi'
  omega
 unfold ind
 rw [take_snoc hk, hx]
 by_cases e : j = X
 · subst e
   rw [if_pos rfl, if_pos (by simp), if_neg hnot]; rfl
 · rw [if_neg e]
   have : ((j : Int) + 1 ∈ q.take k ++ [(X : Int) + 1]) ↔ (j : Int) + 1 ∈ q.take k := by
    rw [List.mem_append, List.mem_singleton]
    exact ⟨fun h => h.elim id (fun h => by omega), .inl⟩
   simp only [this]
theorem ind_le (q : List Int) (j : Nat) : 0 ≤ ind q j ∧ ind q j ≤ 1 := by unfold ind; split <;> omega
end
end Go.Proofs.YtpmkdihencepnaaGreatDoor
