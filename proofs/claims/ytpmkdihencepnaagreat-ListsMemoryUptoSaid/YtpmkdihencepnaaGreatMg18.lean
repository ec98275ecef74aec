/-
  What a call leaves untouched; insert.put once more, with what it leaves (printed by wip/mkP5.py).
-/
import Derived.Deep.RegionHeld3
import Derived.Deep.AppendLies
import Derived.BigRegion
import Derived.Test.YtpmkdihencepnaaGreatMg01
import Derived.Test.YtpmkdihencepnaaGreatMg02
import Derived.Test.YtpmkdihencepnaaGreatMg12
import Derived.Test.YtpmkdihencepnaaGreatMg13
import Derived.Test.YtpmkdihencepnaaGreatMg14
import Derived.Test.YtpmkdihencepnaaGreatMg15
import Derived.Test.YtpmkdihencepnaaGreatMg17
namespace Go.Proofs.YtpmkdihencepnaaGreat
open Go.RowKit

theorem foot_set {v u : Value} {hs : List Value} {i N : Nat} (h : ∀ k, u.ownBlock = some k → foot v hs k ∨ N ≤ k) : ∀ k, foot v (hs.set i u) k → foot v hs k ∨ N ≤ k := fun k hk => by
  rcases hk with hk | ⟨r, hr, hk⟩
  · exact .inl (.inl hk)
  · rw [List.length_set] at hr
    by_cases e : i = r
    · subst e
      rw [List.getD_eq_getElem?_getD, List.getElem?_set_self hr] at hk
      exact h k hk
    · rw [List.getD_eq_getElem?_getD, List.getElem?_set_ne e, ← List.getD_eq_getElem?_getD] at hk
      exact .inl (.inr ⟨r, hr, hk⟩)
/-- What insert.put answers, and what it leaves. -/
def PutFr (e : Ending) (w w' : World) (B : Nat) (v : Value) (hs : List Value) (T : List (List Int)) (x : Int) : Prop := ∃ v' hs', e = .returned (.tuple #[v', .int .i64 (irow T x)]) ∧ OwnM w' B v' hs' (ins1 T x) ∧ Fr w w' (foot v hs) ∧ ∀ k, foot v' hs' k → foot v hs k ∨ w.heap.size ≤ k
set_option maxRecDepth 100000 in
set_option maxHeartbeats 1000000 in
theorem put_fr {B : Nat} (v : Value) (hs0 : List Value) (T : List (List Int)) (x : Int) (w : World) (hB : B ≤ w.heap.size) (hm : OwnM w B v hs0 T) (ht : Tab T) (hsm : T.length ≤ 1000 ∧ ∀ i, (T.getD i []).length ≤ 1000) (hlt : ∀ r ∈ T, ∀ y ∈ r, Lt y) (hx : Lt x) :
    Calls Tryz.prog 69 #[v, .int .i64 x] w fun e w' => PutFr e w w' B v hs0 T x ∧ Below B w w' := by
  obtain ⟨A, c, rfl, -, -, -⟩ := hm.sr
  have HM0 := Lib.hid hm
  have HT := Lib.hid ht
  have HSM := Lib.hid hsm
  have HLT := Lib.hid hlt
  have hT1 := hsm.1
  have HX := Lib.hid hx
  clear hm ht hsm hlt hx
  go_enter Tryz.func69, Tryz.ntmps69
  go_wp2
  go_loopw [1, 12] (fun xv iv wr => ∃ (i : Nat) (x' : Int) (D : List (List Int)), i ≤ T.length ∧ iv = .int .i64 i ∧ xv = .int .i64 x' ∧ Lt x' ∧ Putting T x i x' D ∧ OwnM wr B (.slice A T.length c) hs0 (D ++ T.drop i) ∧ Below B w wr ∧ Fr w wr (foot (.slice A T.length c) hs0)) (fun _ iv _ => T.length - (intOf iv).toNat)
  case atStart => exact ⟨0, x, [], Nat.zero_le _, rfl, rfl, HX.out, Putting.start T x, by simpa using HM0.out, Below.refl _ _, Fr.refl _ _⟩
  case round =>
    clear HM0
    obtain ⟨i, x', D, hi, rfl, rfl, hlx, hpt, hm, hW, hfr⟩ := hrel
    have hwsz := hfr.size
    have HLX := Lib.hid hlx
    have HPT := Lib.hid hpt
    have HM := Lib.hid hm
    have hsz := Nat.le_trans hB hW.size
    by_cases hit : i < T.length
    · have di : decide (i < T.length) = true := decide_eq_true hit
      obtain ⟨hcl, hcr, hcs⟩ := hpt.cur hit
      have hmo := hm.out
      rw [hcl] at hmo
      obtain ⟨G, c', e1, hG, hGs⟩ := hmo.form (by omega)
      obtain ⟨rfl, rfl⟩ : A = some ⟨G, 0, none⟩ ∧ c = c' := by injection e1 with e2 _ e3; exact ⟨e2, e3⟩
      have hne : T.getD i [] ≠ [] := HT.out.ne _ (by rw [getD_get hit]; exact List.getElem_mem hit)
      have hpos : 0 < (T.getD i []).length := by
        apply Nat.pos_of_ne_zero
        intro e
        exact hne (List.eq_nil_of_length_eq_zero e)
      obtain ⟨gr, cr, hhr, hcc, hor, hg1, hg2⟩ := hm.row (r := i) (by rw [hcl]; exact hit) (by rw [hcr]; exact hpos)
      rw [hcr] at hhr hcc hor
      have hup := HT.out.upD i
      have hrl := HSM.out.2 i
      obtain ⟨r, hr⟩ : ∃ r, r = T.getD i [] := ⟨_, rfl⟩
      rw [← hr] at hhr hcc hor hup hrl hpos
      have HR := Lib.hid hr
      have hwr := lt_wrap hlx
      obtain ⟨k1, k2, k3⟩ := push1_at (x := x') hup
      have hbs := search_any (some ⟨gr, 0, none⟩) cr r (x' + 1) wr (by omega) hup (Sl.of_own hor)
      obtain ⟨k, hk⟩ : ∃ k, k = r.countP (· < x' + 1) := ⟨_, rfl⟩
      rw [← hk] at k1 k2 k3 hbs
      have HBS := Lib.hid hbs
      have K2 := Lib.hid k2
      have K3 := Lib.hid k3
      have HHR := Lib.hid hhr
      have HOR := Lib.hid hor
      have HCS := Lib.hid hcs
      clear hlx hpt hm hmo hne hup hbs k2 k3 hhr hor hcs hk hr e1
      go_wp2_with (first | (go_at_call 85; refine HBS.out.mono ?_) | fail)
      rintro e w4 ⟨⟨z, rfl⟩, q, rfl⟩
      have HM4 := Lib.hid (HM.out.drewN q)
      have HOR4 := Lib.hid (own_drewN HOR.out q)
      have hW4 := below_drewN hW q
      have hfr4 : Fr w (wr.drewN q) (foot (.slice (some ⟨G, 0, none⟩) T.length c) hs0) := hfr.drewN q
      have hws4 : w.heap.size ≤ (wr.drewN q).heap.size := hwsz
      have hcc4 : (wr.drewN q).cell? ⟨G, i, none⟩ = some (.slice (some ⟨gr, 0, none⟩) r.length cr) := hcc
      have hfz := HM4.out.out
      rw [hcl] at hfz
      have hfar := Lib.hid ((HM4.out.top i (by rw [hcl]; exact hit)).symm.ne)
      rw [HHR.out] at hfar
      have hsz4 : B ≤ (wr.drewN q).heap.size := hsz
      have hgr4 : gr < (wr.drewN q).heap.size := hg2
      obtain ⟨w5, hw5⟩ : ∃ w5, w5 = wr.drewN q := ⟨_, rfl⟩
      rw [← hw5] at hfr4 hws4 HM4 HOR4 hW4 hcc4 hfz hsz4 hgr4 ⊢
      have HFZ := Lib.hid hfz
      have HW4 := Lib.hid hW4
      have HFR4 := Lib.hid hfr4
      clear hw5 hfr hwsz hfr4 HBS HM HOR hW hcc hsz hg2 hGs hfz hW4 wr
      by_cases hkl : k = r.length
      · have dk : decide ((k : Int) = (r.length : Int)) = true := decide_eq_true (by omega)
        have hpu := K2.out hkl
        have HPU := Lib.hid hpu
        clear hpu
        go_wp2_with (first | (at_builtin; refine wpList_app1g rfl (.tmp 30) (.tmp 32) rfl rfl x' HOR4.out w5.heap.size rfl rfl (by omega) hsz4 (fun g2 c2 w6 hl6 hg6 hat6 => ?_); have ho6 := (HFZ.out.alloc (.cells #[.int .i64 x'] 3)).kept hg6 hfar.out; have hc6 := ho6.cellAt i (by omega); have hf6 := ho6.frozenAt i; rw [HM4.out.get (by rw [hcl]; exact hit)] at hc6; have HL6 := Lib.hid hl6; have HG6 := Lib.hid hg6; have HAT6 := Lib.hid hat6; clear ho6 hl6 hg6 hat6) | fail)
        go_ret2
        obtain ⟨e1, e2⟩ := HPT.out.stop hit (by rw [← HR.out, HPU.out])
        rw [← HR.out, HPU.out] at e1
        have happ := HM4.out.app (i := i) (by rw [hcl]; exact hit) (l := r ++ [x']) (by simp) HL6.out (by rw [HHR.out]; exact HG6.out) (by rw [HHR.out]; exact HAT6.out)
        rw [← e1] at happ
        have hin := foot_row (v := .slice (some ⟨G, 0, none⟩) T.length c) (hs := hs0) (i := i) (by rw [HM4.out.len, hcl]; exact hit) (k := gr) (by rw [HHR.out]; rfl)
        refine ⟨⟨_, _, by rw [e2]; rfl, happ, ((HFR4.out.alloc _).grown HG6.out (fun b hb => by
          have hb2 : (some gr : Option Nat) = some b := hb
          cases hb2
          exact hin)).setCell (foot_top rfl), foot_set (fun k hk => ?_)⟩, ((HW4.out.alloc hsz4 _).grown HG6.out (by simp; omega) (fun b hb => by
          have hb2 : (some gr : Option Nat) = some b := hb
          cases hb2
          exact hg1)).setCell (p := ⟨G, i, none⟩) hG _⟩
        obtain rfl : g2 = k := by simpa [Value.ownBlock] using hk
        rcases HAT6.out with e | e
        · have hb2 : (some gr : Option Nat) = some g2 := e
          cases hb2
          exact .inl hin
        · exact .inr (by omega)
      · have hkl2 : k < r.length := by omega
        have dk : decide ((k : Int) = (r.length : Int)) = false := decide_eq_false (by omega)
        obtain ⟨z2, hz2⟩ : ∃ z2, r[k]? = some z2 := ⟨_, List.getElem?_eq_getElem hkl2⟩
        have hpu := K3.out z2 hz2
        have hzl : Hid (Lt z2) := HLT.out r (by rw [HR.out, getD_get hit]; exact List.getElem_mem hit) z2 (List.mem_of_getElem? hz2)
        have hck := own_get HOR4.out hz2
        have hfk := HOR4.out.frozenAt k
        have hst := HM4.out.setIn (r := i) (g := gr) (c := cr) (by rw [hcl]; exact hit) (by rw [hcr, ← HR.out]; exact HHR.out) k x'
        rw [hcr, ← HR.out, HCS.out] at hst
        have hnx := HPT.out.on hit (by rw [← HR.out, hpu])
        rw [← HR.out, hpu] at hnx
        have HST := Lib.hid hst
        have HNX := Lib.hid hnx
        clear hpu hst hnx hz2
        go_wp2
        go_roundw
        case rel => exact ⟨i + 1, z2, _, by omega, rfl, rfl, hzl.out, HNX.out, HST.out, HW4.out.setCell (p := ⟨gr, k, none⟩) hg1 _, HFR4.out.setCell (foot_row (i := i) (by rw [HM4.out.len, hcl]; exact hit) (by rw [HHR.out]; rfl))⟩
        case measure => simp [intOf]; omega
    · have di : decide (i < T.length) = false := decide_eq_false hit
      obtain ⟨e1, e2, e3⟩ := hpt.end_ (by omega)
      have hDl : D.length = T.length := by rw [hpt.len]; omega
      rw [e3] at hm
      have hm2 := hm.alloc (.cells #[.int .i64 x'] 3)
      have hmo := hm2.out
      rw [hDl] at hmo
      have hlit := World.ownsRow_lit (e := 3) (size := 1) (base := B) wr #[.int .i64 x'] 1 hsz (by decide) rfl
      have hfar := hm.far_new (u := .slice (some ⟨wr.heap.size, 0, none⟩) 1 1) (fun k hk => by
        obtain rfl : wr.heap.size = k := by simpa [Value.ownBlock] using hk
        exact Nat.le_refl _)
      have HM2 := Lib.hid hm2
      have HMO := Lib.hid hmo
      have HLIT := Lib.hid hlit
      have HFAR := Lib.hid hfar
      have E1 := Lib.hid e1
      have E2 := Lib.hid e2
      clear hm hm2 hmo hlit hfar hpt e1 e2 e3 HM
      go_wp2_with (first | (at_builtin; refine wpList_push (v := .slice A T.length c) rfl (.tmp 46) (.tmp 49) rfl rfl (.slice (some ⟨wr.heap.size, 0, none⟩) 1 1) rfl HMO.out (wr.heap.size + 1) (by simp) rfl (by omega) (by simp; omega) (fun g2 c2 w5 hl5 hg5 hat5 => ?_)) | fail)
      have hpush := (HM2.out.alloc (.cells #[.slice (some ⟨wr.heap.size, 0, none⟩) 1 1] 22)).push (u := .slice (some ⟨wr.heap.size, 0, none⟩) 1 1) (l := [x']) (HLIT.out.alloc _) HFAR.out.1 HFAR.out.2 (by rw [hDl]) hl5 hg5 (by simpa using hat5)
      have hW5 : Below B w w5 := ((hW.alloc hsz _).alloc (by simp; omega) _).grown hg5 (by simp; omega) (fun k hk => (HMO.out.lt k hk).1)
      rw [← E1.out] at hpush
      have HPU := Lib.hid hpush
      have HG5 := Lib.hid hg5
      have HAT5 := Lib.hid hat5
      clear hpush hl5 hg5 hat5
      go_wp2
      go_ret2
      have hit2 : i = T.length := by omega
      refine ⟨⟨_, _, by rw [E2.out, hit2]; rfl, HPU.out, ((hfr.alloc _).alloc _).grown HG5.out (fun b hb => .inl hb), fun k hk => ?_⟩, hW5⟩
      rcases hk with hk | ⟨r, hr, hk⟩
      · obtain rfl : g2 = k := by simpa [Value.ownBlock] using hk
        rcases HAT5.out with e | e
        · exact .inl (.inl e)
        · simp at e; exact .inr (by omega)
      · rw [List.length_append] at hr
        by_cases c2 : r < hs0.length
        · rw [List.getD_eq_getElem?_getD, List.getElem?_append_left c2, ← List.getD_eq_getElem?_getD] at hk
          exact .inl (.inr ⟨r, c2, hk⟩)
        · obtain rfl : r = hs0.length := by simp at hr; omega
          rw [List.getD_eq_getElem?_getD, List.getElem?_append_right (Nat.le_refl _)] at hk
          simp [Value.ownBlock] at hk
          exact .inr (by omega)
end Go.Proofs.YtpmkdihencepnaaGreat

/-
  Plain: what is recorded while a word is put in.
-/
namespace Go.Proofs.YtpmkdihencepnaaGreat

/-- A letter laid at the end of a row. -/
def qadd (Q : List (List Int)) (r : Nat) (c : Int) : List (List Int) := if r = Q.length then Q ++ [[c]] else Q.set r (Q.getD r [] ++ [c])
def shadd (s : List Nat) (r : Nat) : List Nat := if r = s.length then s ++ [1] else s.set r (s.getD r 0 + 1)
def sh (T : List (List Int)) : List Nat := T.map List.length
theorem sh_length (T : List (List Int)) : (sh T).length = T.length := by simp [sh]
theorem sh_getD (T : List (List Int)) (r : Nat) : (sh T).getD r 0 = (T.getD r []).length := by
  unfold sh
  rw [List.getD_eq_getElem?_getD, List.getD_eq_getElem?_getD, List.getElem?_map]
  cases T[r]? <;> simp
theorem sh_qadd (Q : List (List Int)) (r : Nat) (c : Int) : sh (qadd Q r c) = shadd (sh Q) r := by
  unfold qadd shadd
  rw [sh_length]
  by_cases h : r = Q.length
  · rw [if_pos h, if_pos h]; simp [sh]
  · rw [if_neg h, if_neg h, sh_getD]
    unfold sh
    rw [List.map_set]; simp
theorem push1_length {r : List Int} {x : Int} : (push1 r x).1.length = r.length + if (push1 r x).2 = none then 1 else 0 := by
  have := push1_len (s := r) (x := x)
  cases e : (push1 r x).2 with
  | none => rw [e] at this; simp at this; simp; omega
  | some z => rw [e] at this; simp at this; simp; omega
theorem sh_ins1 : ∀ (T : List (List Int)) (x : Int), irow T x ≤ T.length ∧ sh (ins1 T x) = shadd (sh T) (irow T x)
  | [], x => ⟨Nat.le_refl _, rfl⟩
  | r :: t, x => by
    simp only [ins1, irow]
    cases e : (push1 r x).2 with
    | none =>
      refine ⟨Nat.zero_le _, ?_⟩
      have := push1_length (r := r) (x := x)
      rw [e] at this
      simp [shadd, sh, this]
    | some z =>
      have ih := sh_ins1 t z
      have h1 := push1_length (r := r) (x := x)
      rw [e] at h1
      refine ⟨by simp; exact ih.1, ?_⟩
      have h2 : sh ((push1 r x).1 :: ins1 t z) = r.length :: sh (ins1 t z) := by simp [sh, h1]
      show sh ((push1 r x).1 :: ins1 t z) = _
      rw [h2, ih.2]
      unfold shadd
      have h3 : sh (r :: t) = r.length :: sh t := rfl
      rw [h3]
      by_cases c : irow t z = (sh t).length
      · rw [if_pos c, if_pos (by simp [c])]; rfl
      · rw [if_neg c, if_neg (by simp; exact c)]; simp
/-- What is recorded of the first i letters. -/
def recQ (xs cs : List Int) : Nat → List (List Int)
  | 0 => []
  | i + 1 => qadd (recQ xs cs i) (irow (insW [] (xs.take i)) (xs.getD i 0)) (cs.getD i 0)
theorem insW_take {xs : List Int} {i : Nat} (h : i < xs.length) : insW [] (xs.take (i + 1)) = ins1 (insW [] (xs.take i)) (xs.getD i 0) := by
  rw [take_snoc h, insW_append, getD_get h]; rfl
theorem sh_rec {xs cs : List Int} : ∀ i, i ≤ xs.length → sh (recQ xs cs i) = sh (insW [] (xs.take i))
  | 0, _ => rfl
  | i + 1, h => by
    have ih := sh_rec (xs := xs) (cs := cs) i (by omega)
    simp only [recQ]
    rw [sh_qadd, ih, insW_take (by omega), (sh_ins1 _ _).2]
theorem rec_length {xs cs : List Int} {i : Nat} (h : i ≤ xs.length) : (recQ xs cs i).length = (insW [] (xs.take i)).length := by
  rw [← sh_length, sh_rec i h, sh_length]
theorem rec_row {xs cs : List Int} {i r : Nat} (h : i ≤ xs.length) : ((recQ xs cs i).getD r []).length = ((insW [] (xs.take i)).getD r []).length := by
  rw [← sh_getD, sh_rec i h, sh_getD]
theorem take_ok {xs : List Int} (hl : xs.length ≤ 40) (h : ∀ x ∈ xs, Lt x) (i : Nat) : FillOk (insW [] (xs.take i)) :=
  (fill_word (by rw [List.length_take]; omega) (fun x hx => h x (List.mem_of_mem_take hx))).1
end Go.Proofs.YtpmkdihencepnaaGreat

/-
  insert.made: what it answers.
-/
namespace Go.Proofs.YtpmkdihencepnaaGreat
open Go.RowKit

/-- Two tableaux that own no block together. -/
def Apt (v : Value) (hs : List Value) (u : Value) (us : List Value) : Prop := ∀ k, foot v hs k → ¬ foot u us k
/-- What insert.made answers. -/
def MadeOut (e : Ending) (w : World) (B : Nat) (P Q : List (List Int)) : Prop := ∃ v hs u us, e = .returned (.tuple #[v, u]) ∧ OwnM w B v hs P ∧ OwnM w B u us Q ∧ Apt v hs u us

def qpad (Q : List (List Int)) (r : Nat) : List (List Int) := if r = Q.length then Q ++ [[]] else Q
theorem qpad_new {Q : List (List Int)} {r : Nat} (h : r = Q.length) : qpad Q r = Q ++ [[]] := if_pos h
theorem qpad_old {Q : List (List Int)} {r : Nat} (h : ¬ r = Q.length) : qpad Q r = Q := if_neg h
theorem qpad_add {Q : List (List Int)} {r : Nat} (c : Int) (h : r ≤ Q.length) : r < (qpad Q r).length ∧ (qpad Q r).set r ((qpad Q r).getD r [] ++ [c]) = qadd Q r c := by
  unfold qpad qadd
  by_cases e : r = Q.length
  · rw [if_pos e, if_pos e]
    subst e
    refine ⟨by simp, ?_⟩
    rw [List.getD_eq_getElem?_getD, List.getElem?_append_right (Nat.le_refl _)]
    simp
  · rw [if_neg e, if_neg e]; exact ⟨by omega, rfl⟩
theorem qpad_len {Q : List (List Int)} {r n : Nat} (h : ∀ r, (Q.getD r []).length ≤ n) : ((qpad Q r).getD r []).length ≤ n := by
  unfold qpad
  by_cases e : r = Q.length
  · rw [if_pos e]
    subst e
    rw [List.getD_eq_getElem?_getD, List.getElem?_append_right (Nat.le_refl _)]
    simp
  · rw [if_neg e]; exact h r

set_option maxRecDepth 100000 in
set_option maxHeartbeats 2000000 in
theorem made_any (A A2 : Option Addr) (cap cap2 : Nat) (xs cs : List Int) (w : World) (hl : xs.length ≤ 40) (hc : xs.length = cs.length) (hx : ∀ x ∈ xs, Lt x) (h : Sl w w.heap.size A (ints xs)) (h2 : Sl w w.heap.size A2 (ints cs)) :
    Calls Tryz.prog 58 #[.slice A xs.length cap, .slice A2 cs.length cap2] w fun e w' => MadeOut e w' w.heap.size (insW [] xs) (recQ xs cs xs.length) ∧ Below w.heap.size w w' := by
  have HC := Lib.hid hc
  have HX := Lib.hid hx
  clear hx hc
  go_enter Tryz.func58, Tryz.ntmps58
  go_wp2
  go_loopw [4, 5, 11] (fun pv qv iv wr => ∃ (i : Nat) (hs us : List Value), i ≤ xs.length ∧ iv = .int .i64 i ∧ OwnM wr w.heap.size pv hs (insW [] (xs.take i)) ∧ OwnM wr w.heap.size qv us (recQ xs cs i) ∧ Apt pv hs qv us ∧ Below w.heap.size w wr) (fun _ _ iv _ => xs.length - (intOf iv).toNat)
  case atStart =>
    refine ⟨0, [], [], Nat.zero_le _, rfl, OwnM.nil _ _, OwnM.nil _ _, fun k hk => ?_, Below.refl _ _⟩
    rcases hk with hk | ⟨r, hr, _⟩
    · simp [Value.ownBlock] at hk
    · simp at hr
  case round =>
    obtain ⟨i, hs, us, hi, rfl, hm, hq, hap, hW⟩ := hrel
    have HM := Lib.hid hm
    have HQ := Lib.hid hq
    have HAP := Lib.hid hap
    have HW := Lib.hid hW
    have hsz := hW.size
    clear hm hq hap hW
    by_cases hit : i < xs.length
    · have di : decide (i < xs.length) = true := decide_eq_true hit
      obtain ⟨b, o, rfl, hb⟩ := h.addr (by omega)
      have hxc := (HW.out.cell (p := ⟨b, o + i, none⟩) hb).trans (getD_cell h hit)
      obtain ⟨b2, o2, rfl, hb2⟩ := h2.addr (by rw [← HC.out]; omega)
      have hcc0 := getD_cell h2 (k := i) (by rw [← HC.out]; exact hit)
      have hok := take_ok hl HX.out i
      have hxl : Lt (xs.getD i 0) := HX.out _ (by rw [getD_get hit]; exact List.getElem_mem hit)
      have hir := sh_ins1 (insW [] (xs.take i)) (xs.getD i 0)
      have hrl := rec_length (xs := xs) (cs := cs) (i := i) hi
      have hrr := fun r => rec_row (xs := xs) (cs := cs) (i := i) (r := r) hi
      have hsm := hok.small
      have htk := insW_take hit
      have hrq : recQ xs cs (i + 1) = qadd (recQ xs cs i) (irow (insW [] (xs.take i)) (xs.getD i 0)) (cs.getD i 0) := rfl
      obtain ⟨T, hT⟩ : ∃ T, T = insW [] (xs.take i) := ⟨_, rfl⟩
      obtain ⟨x, hxe⟩ : ∃ x, x = xs.getD i 0 := ⟨_, rfl⟩
      obtain ⟨c, hce⟩ : ∃ c, c = cs.getD i 0 := ⟨_, rfl⟩
      obtain ⟨Q, hQe⟩ : ∃ Q, Q = recQ xs cs i := ⟨_, rfl⟩
      rw [← hT] at hok hir hrl hrr hsm htk hrq HM
      rw [← hxe] at hxc hxl hir htk hrq
      rw [← hce] at hcc0 hrq
      rw [← hQe] at hrl hrr hrq HQ
      obtain ⟨r, hre⟩ : ∃ r, r = irow T x := ⟨_, rfl⟩
      rw [← hre] at hir hrq
      have HOK := Lib.hid hok
      have HTK := Lib.hid htk
      have HRQ := Lib.hid hrq
      have hrT := hir.1
      have hT40 := hsm.1
      have HR40 := Lib.hid hsm.2
      have HRR := Lib.hid hrr
      have HRE := Lib.hid hre
      have HCC : Hid (cs.getD i 0 = c) := hce.symm
      clear hok htk hrq hsm hrr hir hT hxe hce hQe hre
      go_wp2_with (first | (go_at_call 69; refine (put_fr _ hs T x _ hsz HM.out HOK.out.1 ⟨by omega, fun i => by have := HR40.out i; omega⟩ HOK.out.2.1 hxl).mono ?_) | fail)
      rintro e w4 ⟨⟨v4, hs4, rfl, hm4, hf4, hft4⟩, hb4⟩
      rw [← HRE.out, ← HTK.out] at *
      have hq4 := HQ.out.frame hf4 (fun k hk hk2 => HAP.out k hk2 hk)
      have hap4 : Apt v4 hs4 u5 us := fun k hk hk2 => by
        rcases hft4 k hk with e | e
        · exact HAP.out k e hk2
        · have := (HQ.out.foot_lt hk2).2; omega
      have hW4 := HW.out.trans hb4
      have hcc := (hW4.cell (p := ⟨b2, o2 + i, none⟩) hb2).trans hcc0
      have hsz4 := hW4.size
      obtain ⟨Aq, cq, hqe, -, -, -⟩ := hq4.sr
      have hrQ : r ≤ Q.length := by omega
      have hqa := qpad_add c hrQ
      have hql := Lib.hid (qpad_len (Q := Q) (r := r) (n := 40) (fun i => by rw [HRR.out]; exact HR40.out i))
      have HQA := Lib.hid hqa
      have HM4 := Lib.hid hm4
      have HQ4 := Lib.hid hq4
      have HAP4 := Lib.hid hap4
      have HW4 := Lib.hid hW4
      clear hqa hm4 hf4 hft4 hb4 hq4 hap4 hW4 HM HQ HAP HW HRE HTK hxl hxc hcc0 hrT hcc HOK
      have hQ40 : Q.length ≤ 40 := by omega
      clear hrl hT40
      subst hqe
      go_upto_if 25 with fail
      go_cut [5] (fun qv wz => ∃ (us5 : List Value) (A5 : Option Addr) (c5 : Nat), qv = .slice A5 (qpad Q r).length c5 ∧ OwnM wz w.heap.size qv us5 (qpad Q r) ∧ OwnM wz w.heap.size v4 hs4 (insW [] (xs.take (i + 1))) ∧ Apt v4 hs4 qv us5 ∧ Below w.heap.size w wz)
      case first =>
        by_cases hrq : r = Q.length
        · have dr : ((r : Int) == (Q.length : Int)) = true := by simp [hrq]
          have hqo := HQ4.out.out
          have HRQ2 := Lib.hid hrq
          clear hrq
          have HQO := Lib.hid hqo
          clear hqo
          go_wp2_with (first | (at_builtin; refine wpList_push (v := .slice Aq Q.length cq) rfl (.tmp 26) (.tmp 27) rfl rfl (.slice none 0 0) rfl HQO.out w4.heap.size rfl rfl (by omega) hsz4 (fun g2 c3 w5 hl5 hg5 hat5 => ?_)) | fail)
          have hpush := (HQ4.out.alloc (.cells #[.slice none 0 0] 22)).push (u := .slice none 0 0) (l := []) (World.ownsRow_nil _ _ _ _) (HQ4.out.far_new (u := .slice none 0 0) (fun k hk => by simp [Value.ownBlock] at hk)).1 (HQ4.out.far_new (u := .slice none 0 0) (fun k hk => by simp [Value.ownBlock] at hk)).2 rfl hl5 hg5 (by simpa using hat5)
          have hf5 : Fr w4 w5 (foot (.slice Aq Q.length cq) us) := ((Fr.refl _ _).alloc _).grown hg5 (fun k hk => .inl hk)
          have hm5 := HM4.out.frame hf5 (fun k hk hk2 => HAP4.out k hk hk2)
          have hap5 : Apt v4 hs4 (.slice (some ⟨g2, 0, none⟩) (Q.length + 1) c3) (us ++ [.slice none 0 0]) := fun k hk hk2 => by
            have hlt := (HM4.out.foot_lt hk).2
            rcases hk2 with hk2 | ⟨q, hq, hk2⟩
            · obtain rfl : g2 = k := by simpa [Value.ownBlock] using hk2
              rcases hat5 with e | e
              · exact HAP4.out _ hk (.inl e)
              · omega
            · rw [List.length_append] at hq
              by_cases c2 : q < us.length
              · rw [List.getD_eq_getElem?_getD, List.getElem?_append_left c2, ← List.getD_eq_getElem?_getD] at hk2
                exact HAP4.out k hk (.inr ⟨q, c2, hk2⟩)
              · obtain rfl : q = us.length := by simp at hq; omega
                rw [List.getD_eq_getElem?_getD, List.getElem?_append_right (Nat.le_refl _)] at hk2
                simp [Value.ownBlock] at hk2
          have hW5 := (HW4.out.alloc hsz4 _).grown hg5 (by simp; omega) (fun k hk => (HQO.out.lt k hk).1)
          have hqn : (qpad Q r).length = Q.length + 1 := by rw [qpad_new HRQ2.out]; simp
          rw [← qpad_new HRQ2.out] at hpush
          have HP := Lib.hid hpush
          have HM5 := Lib.hid hm5
          have HAP5 := Lib.hid hap5
          have HW5 := Lib.hid hW5
          have HQN := Lib.hid hqn
          clear hpush hm5 hap5 hW5 hl5 hg5 hat5 hf5 hqn
          go_wp2
          go_meet
          exact ⟨_, _, _, by rw [HQN.out], HP.out, HM5.out, HAP5.out, HW5.out⟩
        · have dr : decide ((r : Int) = (Q.length : Int)) = false := decide_eq_false (by omega)
          have hqn := Lib.hid (qpad_old hrq)
          go_wp2
          go_meet
          exact ⟨us, Aq, cq, by rw [hqn.out], by rw [hqn.out]; exact HQ4.out, HM4.out, HAP4.out, HW4.out⟩
      case rest =>
        obtain ⟨us5, A5, c5, rfl, hq5, hm5, hap5, hW5⟩ := hcut
        clear HQ4 HM4 HAP4 HW4 hsz4
        have hrp := HQA.out.1
        obtain ⟨Gq, c5', e5, hG5, hG6⟩ := hq5.out.form (by omega)
        obtain ⟨rfl, rfl⟩ : A5 = some ⟨Gq, 0, none⟩ ∧ c5 = c5' := by injection e5 with e2 _ e3; exact ⟨e2, e3⟩
        have hin := hq5.inn r hrp
        obtain ⟨Ar, cr, hrv, hnl, _, _, _⟩ := own_sliceA hin
        have hqc := hq5.out.cellAt r (by omega)
        rw [hq5.get hrp, hrv] at hqc
        have hqf := hq5.out.frozenAt r
        have hcc := (hW5.cell (p := ⟨b2, o2 + i, none⟩) hb2).trans (getD_cell h2 (k := i) (by rw [← HC.out]; exact hit))
        obtain ⟨c', hce⟩ : ∃ c', c' = cs.getD i 0 := ⟨_, rfl⟩
        rw [← hce] at hcc
        have hnr := hql.out
        obtain ⟨R, hR⟩ : ∃ R, R = (qpad Q r).getD r [] := ⟨_, rfl⟩
        rw [← hR] at hrv hin hqc hnr
        have hfar := (hq5.top r hrp).symm
        rw [hrv] at hin hfar
        have HIN := Lib.hid hin
        have HFAR := Lib.hid hfar
        have HR := Lib.hid hR
        have HRV := Lib.hid hrv
        have HQ5 := Lib.hid hq5
        have HM5 := Lib.hid hm5
        have HAP5 := Lib.hid hap5
        have HW5 := Lib.hid hW5
        have hsz5 := hW5.size
        have hwlt : b2 < wc.heap.size := by omega
        have hrl2 : r < (qpad Q r).length := hrp
        have hic : i < cs.length := by rw [← HC.out]; exact hit
        have hic2 : (i : Int) < (cs.length : Int) := by omega
        have hrl3 : (r : Int) < ((qpad Q r).length : Int) := by omega
        have HCE : Hid (c' = c) := by show _ = _; rw [hce, HCC.out]
        clear hin hfar hR hrv hq5 hm5 hap5 hW5 e5 hnl hce
        have hfb : some b2 ≠ (Value.slice Ar R.length cr).ownBlock := fun e => by have := (HIN.out.lt b2 e.symm).1; omega
        go_wp2
        go_region_law (first | (refine step_app1 (base := w.heap.size) (l := R) (v := .slice Ar R.length cr) ?_ (.tmp 34) (.tmp 39) ?_ ?_ c' R.length wc.heap.size ?_ ?_ ?_ ?_ ?_ ?_; (· rfl); (· rfl); (· rfl); (· rfl); (· exact own_drew (HIN.out.alloc _)); (· exact heap_alloc_new _ _); (· omega); (· (show _ ≤ (World.drew _).heap.size; simp; omega)); intro g2 c2 w6 hl6 hg6 hat6 hlt6; have ho6 := (own_drew (HQ5.out.out.alloc (.cells #[.int .i64 c'] 3))).kept hg6 HFAR.out.ne; have hq6 : w6.cell? ⟨Gq, r, none⟩ = some (.slice Ar R.length cr) := (ho6.cellAt r (by omega)).trans ((HQ5.out.get hrl2).trans (congrArg some HRV.out)); have hz6 := ho6.frozenAt r; have HL6 := Lib.hid hl6; have HG6 := Lib.hid hg6; have HAT6 := Lib.hid hat6; clear ho6 hl6 hat6 hg6) | fail)
        all_goals
          have hg : (wc.drew.alloc (.cells #[.int .i64 c'] 3)).grownBy w6 (us5.getD r undef).ownBlock := by rw [HRV.out]; exact HG6.out
          have hat : (us5.getD r undef).ownBlock = some g2 ∨ g2 = wc.drew.heap.size + 1 := by
            rw [HRV.out]
            rcases HAT6.out with e | e
            · exact .inl e
            · exact .inr (by simpa using e)
          have happ := (HQ5.out.drewN 1).app (i := r) hrl2 (l := R ++ [c']) (by simp) HL6.out hg hat
          have hfoot : ∀ k, (us5.getD r undef).ownBlock = some k → foot (.slice (some ⟨Gq, 0, none⟩) (qpad Q r).length c5) us5 k := fun k hk => foot_row (by rw [HQ5.out.len]; exact hrl2) hk
          have hfr : Fr wc (w6.setCell ⟨Gq, r, none⟩ (.slice (some ⟨g2, 0, none⟩) (R.length + 1) c2)) (foot (.slice (some ⟨Gq, 0, none⟩) (qpad Q r).length c5) us5) := ((((Fr.refl _ _).drewN 1).alloc _).grown hg hfoot).setCell (foot_top rfl)
          have hm6 := HM5.out.frame hfr (fun k hk hk2 => HAP5.out k hk hk2)
          have hap6 : Apt v4 hs4 (.slice (some ⟨Gq, 0, none⟩) (qpad Q r).length c5) (us5.set r (.slice (some ⟨g2, 0, none⟩) (R.length + 1) c2)) := fun k hk hk2 => by
            have hlt := (HM5.out.foot_lt hk).2
            rcases foot_set (N := wc.heap.size) (fun k hk => by
              obtain rfl : g2 = k := by simpa [Value.ownBlock] using hk
              rcases hat with e | e
              · exact .inl (hfoot _ e)
              · exact .inr (by have : wc.drew.heap.size = wc.heap.size := rfl; omega)) k hk2 with e | e
            · exact HAP5.out k hk e
            · omega
          have hW6 : Below w.heap.size w (w6.setCell ⟨Gq, r, none⟩ (.slice (some ⟨g2, 0, none⟩) (R.length + 1) c2)) := (((below_drewN HW5.out 1).alloc hsz5 _).grown hg (by show w.heap.size ≤ (World.alloc _ _).heap.size; simp; omega) (fun k hk => by
            rw [HRV.out] at hk
            exact (HIN.out.lt k hk).1)).setCell (p := ⟨Gq, r, none⟩) hG5 _
          have hcE : c' = c := HCE.out
          have hset : (qpad Q r).set r (R ++ [c']) = recQ xs cs (i + 1) := by rw [HR.out, hcE, HQA.out.2, HRQ.out]
          rw [hset] at happ
          have HP6 := Lib.hid happ
          have HM6 := Lib.hid hm6
          have HA6 := Lib.hid hap6
          have HW6 := Lib.hid hW6
          clear happ hm6 hap6 hW6 hfr hfoot hat hg hcE hset
          go_wp2
          go_roundw
          case rel => exact ⟨i + 1, hs4, _, by omega, rfl, HM6.out, HP6.out, HA6.out, HW6.out⟩
          case measure => simp [intOf]; omega
    · have di : decide (i < xs.length) = false := decide_eq_false hit
      have hie : i = xs.length := by omega
      have hm := HM.out
      rw [hie, List.take_length] at hm
      have hq := HQ.out
      rw [hie] at hq
      have HM' := Lib.hid hm
      have HQ' := Lib.hid hq
      clear hm hq hie HM HQ
      go_wp2
      go_ret2
      exact ⟨⟨_, _, _, _, rfl, HM'.out, HQ'.out, HAP.out⟩, HW.out⟩
end Go.Proofs.YtpmkdihencepnaaGreat
