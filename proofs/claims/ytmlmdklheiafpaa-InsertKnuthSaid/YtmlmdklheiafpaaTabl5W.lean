/-
  What a call leaves untouched; insert.put once more, with what it leaves (printed by wip/mkP5.py).
-/
import Derived.Test.YtmlmdklheiafpaaTabl3W
import Derived.Deep.RegionHeld3
import Derived.Deep.AppendLies
import Derived.BigRegion
namespace Go.Proofs.Ytmlmdklheiafpaa
open Go.RowKit

/-- Blocks that were there and are not in F stay as they are. -/
structure Fr (w w' : World) (F : Nat → Prop) : Prop where
  size : w.heap.size ≤ w'.heap.size
  block : ∀ k, k < w.heap.size → ¬ F k → w'.heap[k]? = w.heap[k]?
theorem Fr.refl (w : World) (F : Nat → Prop) : Fr w w F := ⟨Nat.le_refl _, fun _ _ _ => rfl⟩
theorem Fr.alloc {w w' : World} {F : Nat → Prop} (h : Fr w w' F) (o : Obj) : Fr w (w'.alloc o) F :=
  ⟨by have := h.size; simp; omega, fun k hk hn => by
    have h1 := h.size
    have h2 : (w'.alloc o).heap[k]? = w'.heap[k]? := by
      have := (World.grownBy_alloc w' o none).block k (by omega) (by simp)
      exact this
    rw [h2]; exact h.block k hk hn⟩
theorem Fr.grown {w w' w2 : World} {F : Nat → Prop} {row : Option Nat} (h : Fr w w' F) (hg : w'.grownBy w2 row) (hr : ∀ k, row = some k → F k) : Fr w w2 F :=
  ⟨Nat.le_trans h.size hg.size, fun k hk hn => by
    rw [hg.block k (by have := h.size; omega) (fun e => hn (hr k e.symm))]; exact h.block k hk hn⟩
theorem Fr.setCell {w w' : World} {F : Nat → Prop} (h : Fr w w' F) {a : Addr} {y : Value} (ha : F a.block) : Fr w (w'.setCell a y) F :=
  ⟨by have := h.size; simpa using this, fun k hk hn => by
    have hne : a.block ≠ k := fun e => hn (e ▸ ha)
    have : (w'.setCell a y).heap[k]? = w'.heap[k]? := by simp [World.setCell, Array.getElem?_modify, hne]
    rw [this]; exact h.block k hk hn⟩
theorem Fr.trans {a b c : World} {F G : Nat → Prop} (h : Fr a b F) (h' : Fr b c G) (hG : ∀ k, k < a.heap.size → G k → F k) : Fr a c F :=
  ⟨Nat.le_trans h.size h'.size, fun k hk hn => by
    rw [h'.block k (by have := h.size; omega) (fun e => hn (hG k hk e))]; exact h.block k hk hn⟩
theorem Fr.drewN {w w' : World} {F : Nat → Prop} (h : Fr w w' F) (q : Nat) : Fr w (w'.drewN q) F := ⟨h.size, h.block⟩
/-- The blocks of a tableau. -/
def foot (v : Value) (hs : List Value) (k : Nat) : Prop := v.ownBlock = some k ∨ ∃ r, r < hs.length ∧ (hs.getD r undef).ownBlock = some k
theorem foot_top {v : Value} {hs : List Value} {k : Nat} (h : v.ownBlock = some k) : foot v hs k := .inl h
theorem foot_row {v : Value} {hs : List Value} {i k : Nat} (hi : i < hs.length) (h : (hs.getD i undef).ownBlock = some k) : foot v hs k := .inr ⟨i, hi, h⟩
theorem foot_set {v u : Value} {hs : List Value} {i N : Nat} (h : ∀ k, u.ownBlock = some k → foot v hs k ∨ N ≤ k) : ∀ k, foot v (hs.set i u) k → foot v hs k ∨ N ≤ k := fun k hk => by
  rcases hk with hk | ⟨r, hr, hk⟩
  · exact .inl (.inl hk)
  · rw [List.length_set] at hr
    by_cases e : i = r
    · subst e
      rw [List.getD_eq_getElem?_getD, List.getElem?_set_self hr] at hk
      exact h k hk
    · rw [List.getD_eq_getElem?_getD, List.getElem?_set_ne e, ← List.getD_eq_getElem?_getD] at hk
      exact .inl (.inr ⟨r, hr, hk⟩)
theorem OwnM.foot_lt {w : World} {B : Nat} {v : Value} {hs : List Value} {rows : List (List Int)} (h : OwnM w B v hs rows) {k : Nat} (hk : foot v hs k) : B ≤ k ∧ k < w.heap.size := by
  rcases hk with hk | ⟨r, hr, hk⟩
  · exact h.out.lt k hk
  · exact (h.inn r (by rw [← h.len]; exact hr)).lt k hk
theorem own_same {w w' : World} {base n : Nat} {e : TypeId} {v : Value} {cs : List Value} (h : w.ownsRow base e 1 v n cs) (hk : ∀ k, v.ownBlock = some k → w'.heap[k]? = w.heap[k]?) : w'.ownsRow base e 1 v n cs := by
  refine ⟨h.1, ?_⟩
  rcases h.2 with hn | ⟨g, cap, cur, e1, hg, hh, rest⟩
  · exact .inl hn
  · exact .inr ⟨g, cap, cur, e1, hg, (hk g (by rw [e1]; rfl)).trans hh, rest⟩
/-- A tableau that another's turning leaves. -/
theorem OwnM.frame {w w' : World} {B : Nat} {v : Value} {hs : List Value} {rows : List (List Int)} {F : Nat → Prop} (h : OwnM w B v hs rows) (hf : Fr w w' F) (hd : ∀ k, foot v hs k → ¬ F k) : OwnM w' B v hs rows := by
  have key : ∀ k, foot v hs k → w'.heap[k]? = w.heap[k]? := fun k hk => hf.block k (h.foot_lt hk).2 (hd k hk)
  exact ⟨h.len, own_same h.out (fun k hk => key k (.inl hk)), fun r hr => own_same (h.inn r hr) (fun k hk => key k (.inr ⟨r, by rw [h.len]; exact hr, hk⟩)), h.far, h.top⟩

/-- 'append(v, y)' at a step of a region that draws: y was laid in a block of its own. -/
theorem step_app1 {w : World} {base : Nat} {l : List Int} {v : Value} {ops : Array Oper} {o : Oper} {a : Act} {K : Act → World → Prop} {Q : Exit → Act → World → Prop} {E : Prop} (hgd : o.guard = none) (s x : Operand)
    (ho : o.op = .call { callee := .builtin .append, args := #[s, x], argTypes := #[22, 22] }) (hs : a.eval s = v) (y : Int) (n : Nat) (g0 : Nat)
    (hx : a.eval x = .slice (some ⟨g0, 0, none⟩) 1 1) (hown : w.ownsRow base 3 1 v n (ints l)) (hlit : w.heap[g0]? = some (.cells #[.int .i64 y] 3)) (hlen : n < 1000000) (hbase : base ≤ w.heap.size)
    (h : ∀ g cap w', w'.ownsRow base 3 1 (.slice (some ⟨g, 0, none⟩) (n + 1) cap) (n + 1) (ints (l ++ [y])) → w.grownBy w' v.ownBlock → (v.ownBlock = some g ∨ g = w.heap.size) → g < w'.heap.size →
      K (a.put o.dst (.slice (some ⟨g, 0, none⟩) (n + 1) cap)) w') :
    if Region.wanted o (yielded ops a.tmps) = true then Oper.wp Try.prog o a w K Q else E := by
  obtain ⟨i0, hi, hz0, hz1, hz2⟩ := info_parts Try.infoInt
  refine step_append_lies _ hgd s x 22 ho base 3 i0 (.int .i64 0) 1 8 Try.underlying22 hi hz0 hz1 hz2 rfl (by decide) v n (ints l) hs hown ⟨g0, 0, none⟩ 1 1 [.int .i64 y] hx rfl (World.news_of_block (cs := #[.int .i64 y]) hlit) (by simp [Value.oneCell']) (by decide)
    (by unfold maxLen; omega) (by omega) hbase _ rfl (fun g cap w' h1 h2 h3 h4 => h g cap w' (by simpa [ints] using h1) h2 h3 h4)

/-- What insert.put answers, and what it leaves. -/
def PutFr (e : Ending) (w w' : World) (B : Nat) (v : Value) (hs : List Value) (T : List (List Int)) (x : Int) : Prop := ∃ v' hs', e = .returned (.tuple #[v', .int .i64 (irow T x)]) ∧ OwnM w' B v' hs' (ins1 T x) ∧ Fr w w' (foot v hs) ∧ ∀ k, foot v' hs' k → foot v hs k ∨ w.heap.size ≤ k
set_option maxRecDepth 100000 in
set_option maxHeartbeats 1000000 in
theorem put_fr {B : Nat} (v : Value) (hs0 : List Value) (T : List (List Int)) (x : Int) (w : World) (hB : B ≤ w.heap.size) (hm : OwnM w B v hs0 T) (ht : Tab T) (hsm : T.length ≤ 1000 ∧ ∀ i, (T.getD i []).length ≤ 1000) (hlt : ∀ r ∈ T, ∀ y ∈ r, Lt y) (hx : Lt x) :
    Calls Try.prog 60 #[v, .int .i64 x] w fun e w' => PutFr e w w' B v hs0 T x ∧ Below B w w' := by
  obtain ⟨A, c, rfl, -, -, -⟩ := hm.sr
  have HM0 := Lib.hid hm
  have HT := Lib.hid ht
  have HSM := Lib.hid hsm
  have HLT := Lib.hid hlt
  have hT1 := hsm.1
  have HX := Lib.hid hx
  clear hm ht hsm hlt hx
  go_enter Try.func60, Try.ntmps60
  go_wp2
  go_loopw [1, 12] (fun xv iv wr => ∃ (i : Nat) (x' : Int) (D : List (List Int)), i ≤ T.length ∧ iv = .int .i64 i ∧ xv = .int .i64 x' ∧ Lt x' ∧ Putting T x i x' D ∧ OwnM wr B (.slice A T.length c) hs0 (D ++ T.drop i) ∧ Below B w wr ∧ Fr w wr (foot (.slice A T.length c) hs0)) (fun _ iv _ => T.length - (intOf iv).toNat)
  case atStart => exact ⟨0, x, [], Nat.zero_le _, rfl, rfl, HX.out, Putting.start T x, by simpa using HM0.out, Below.refl _ _, Fr.refl _ _⟩
  case round =>
    clear HM0
    obtain ⟨i, x', D, hi, rfl, rfl, hlx, hpt, hm, hW, hfr⟩ := hrel
    have hwsz := hfr.size
    have HLX := Lib.hid hlx
    have HPT := Lib.hid hpt
    have HM := Lib.hid hm
    have hsz := Nat.le_trans hB hW.size
    by_cases hit : i < T.length
    · have di : decide (i < T.length) = true := decide_eq_true hit
      obtain ⟨hcl, hcr, hcs⟩ := hpt.cur hit
      have hmo := hm.out
      rw [hcl] at hmo
      obtain ⟨G, c', e1, hG, hGs⟩ := hmo.form (by omega)
      obtain ⟨rfl, rfl⟩ : A = some ⟨G, 0, none⟩ ∧ c = c' := by injection e1 with e2 _ e3; exact ⟨e2, e3⟩
      have hne : T.getD i [] ≠ [] := HT.out.ne _ (by rw [getD_get hit]; exact List.getElem_mem hit)
      have hpos : 0 < (T.getD i []).length := by
        apply Nat.pos_of_ne_zero
        intro e
        exact hne (List.eq_nil_of_length_eq_zero e)
      obtain ⟨gr, cr, hhr, hcc, hor, hg1, hg2⟩ := hm.row (r := i) (by rw [hcl]; exact hit) (by rw [hcr]; exact hpos)
      rw [hcr] at hhr hcc hor
      have hup := HT.out.upD i
      have hrl := HSM.out.2 i
      obtain ⟨r, hr⟩ : ∃ r, r = T.getD i [] := ⟨_, rfl⟩
      rw [← hr] at hhr hcc hor hup hrl hpos
      have HR := Lib.hid hr
      have hwr := lt_wrap hlx
      obtain ⟨k1, k2, k3⟩ := push1_at (x := x') hup
      have hbs := search_any (some ⟨gr, 0, none⟩) cr r (x' + 1) wr (by omega) hup (Sl.of_own hor)
      obtain ⟨k, hk⟩ : ∃ k, k = r.countP (· < x' + 1) := ⟨_, rfl⟩
      rw [← hk] at k1 k2 k3 hbs
      have HBS := Lib.hid hbs
      have K2 := Lib.hid k2
      have K3 := Lib.hid k3
      have HHR := Lib.hid hhr
      have HOR := Lib.hid hor
      have HCS := Lib.hid hcs
      clear hlx hpt hm hmo hne hup hbs k2 k3 hhr hor hcs hk hr e1
      go_wp2_with (first | (go_at_call 81; refine HBS.out.mono ?_) | fail)
      rintro e w4 ⟨⟨z, rfl⟩, q, rfl⟩
      have HM4 := Lib.hid (HM.out.drewN q)
      have HOR4 := Lib.hid (own_drewN HOR.out q)
      have hW4 := below_drewN hW q
      have hfr4 : Fr w (wr.drewN q) (foot (.slice (some ⟨G, 0, none⟩) T.length c) hs0) := hfr.drewN q
      have hws4 : w.heap.size ≤ (wr.drewN q).heap.size := hwsz
      have hcc4 : (wr.drewN q).cell? ⟨G, i, none⟩ = some (.slice (some ⟨gr, 0, none⟩) r.length cr) := hcc
      have hfz := HM4.out.out
      rw [hcl] at hfz
      have hfar := Lib.hid ((HM4.out.top i (by rw [hcl]; exact hit)).symm.ne)
      rw [HHR.out] at hfar
      have hsz4 : B ≤ (wr.drewN q).heap.size := hsz
      have hgr4 : gr < (wr.drewN q).heap.size := hg2
      obtain ⟨w5, hw5⟩ : ∃ w5, w5 = wr.drewN q := ⟨_, rfl⟩
      rw [← hw5] at hfr4 hws4 HM4 HOR4 hW4 hcc4 hfz hsz4 hgr4 ⊢
      have HFZ := Lib.hid hfz
      have HW4 := Lib.hid hW4
      have HFR4 := Lib.hid hfr4
      clear hw5 hfr hwsz hfr4 HBS HM HOR hW hcc hsz hg2 hGs hfz hW4 wr
      by_cases hkl : k = r.length
      · have dk : decide ((k : Int) = (r.length : Int)) = true := decide_eq_true (by omega)
        have hpu := K2.out hkl
        have HPU := Lib.hid hpu
        clear hpu
        go_wp2_with (first | (at_builtin; refine wpList_app1g rfl (.tmp 30) (.tmp 32) rfl rfl x' HOR4.out w5.heap.size rfl rfl (by omega) hsz4 (fun g2 c2 w6 hl6 hg6 hat6 => ?_); have ho6 := (HFZ.out.alloc (.cells #[.int .i64 x'] 3)).kept hg6 hfar.out; have hc6 := ho6.cellAt i (by omega); have hf6 := ho6.frozenAt i; rw [HM4.out.get (by rw [hcl]; exact hit)] at hc6; have HL6 := Lib.hid hl6; have HG6 := Lib.hid hg6; have HAT6 := Lib.hid hat6; clear ho6 hl6 hg6 hat6) | fail)
        go_ret2
        obtain ⟨e1, e2⟩ := HPT.out.stop hit (by rw [← HR.out, HPU.out])
        rw [← HR.out, HPU.out] at e1
        have happ := HM4.out.app (i := i) (by rw [hcl]; exact hit) (l := r ++ [x']) (by simp) HL6.out (by rw [HHR.out]; exact HG6.out) (by rw [HHR.out]; exact HAT6.out)
        rw [← e1] at happ
        have hin := foot_row (v := .slice (some ⟨G, 0, none⟩) T.length c) (hs := hs0) (i := i) (by rw [HM4.out.len, hcl]; exact hit) (k := gr) (by rw [HHR.out]; rfl)
        refine ⟨⟨_, _, by rw [e2]; rfl, happ, ((HFR4.out.alloc _).grown HG6.out (fun b hb => by
          have hb2 : (some gr : Option Nat) = some b := hb
          cases hb2
          exact hin)).setCell (foot_top rfl), foot_set (fun k hk => ?_)⟩, ((HW4.out.alloc hsz4 _).grown HG6.out (by simp; omega) (fun b hb => by
          have hb2 : (some gr : Option Nat) = some b := hb
          cases hb2
          exact hg1)).setCell (p := ⟨G, i, none⟩) hG _⟩
        obtain rfl : g2 = k := by simpa [Value.ownBlock] using hk
        rcases HAT6.out with e | e
        · have hb2 : (some gr : Option Nat) = some g2 := e
          cases hb2
          exact .inl hin
        · exact .inr (by omega)
      · have hkl2 : k < r.length := by omega
        have dk : decide ((k : Int) = (r.length : Int)) = false := decide_eq_false (by omega)
        obtain ⟨z2, hz2⟩ : ∃ z2, r[k]? = some z2 := ⟨_, List.getElem?_eq_getElem hkl2⟩
        have hpu := K3.out z2 hz2
        have hzl : Hid (Lt z2) := HLT.out r (by rw [HR.out, getD_get hit]; exact List.getElem_mem hit) z2 (List.mem_of_getElem? hz2)
        have hck := own_get HOR4.out hz2
        have hfk := HOR4.out.frozenAt k
        have hst := HM4.out.setIn (r := i) (g := gr) (c := cr) (by rw [hcl]; exact hit) (by rw [hcr, ← HR.out]; exact HHR.out) k x'
        rw [hcr, ← HR.out, HCS.out] at hst
        have hnx := HPT.out.on hit (by rw [← HR.out, hpu])
        rw [← HR.out, hpu] at hnx
        have HST := Lib.hid hst
        have HNX := Lib.hid hnx
        clear hpu hst hnx hz2
        go_wp2
        go_roundw
        case rel => exact ⟨i + 1, z2, _, by omega, rfl, rfl, hzl.out, HNX.out, HST.out, HW4.out.setCell (p := ⟨gr, k, none⟩) hg1 _, HFR4.out.setCell (foot_row (i := i) (by rw [HM4.out.len, hcl]; exact hit) (by rw [HHR.out]; rfl))⟩
        case measure => simp [intOf]; omega
    · have di : decide (i < T.length) = false := decide_eq_false hit
      obtain ⟨e1, e2, e3⟩ := hpt.end_ (by omega)
      have hDl : D.length = T.length := by rw [hpt.len]; omega
      rw [e3] at hm
      have hm2 := hm.alloc (.cells #[.int .i64 x'] 3)
      have hmo := hm2.out
      rw [hDl] at hmo
      have hlit := World.ownsRow_lit (e := 3) (size := 1) (base := B) wr #[.int .i64 x'] 1 hsz (by decide) rfl
      have hfar := hm.far_new (u := .slice (some ⟨wr.heap.size, 0, none⟩) 1 1) (fun k hk => by
        obtain rfl : wr.heap.size = k := by simpa [Value.ownBlock] using hk
        exact Nat.le_refl _)
      have HM2 := Lib.hid hm2
      have HMO := Lib.hid hmo
      have HLIT := Lib.hid hlit
      have HFAR := Lib.hid hfar
      have E1 := Lib.hid e1
      have E2 := Lib.hid e2
      clear hm hm2 hmo hlit hfar hpt e1 e2 e3 HM
      go_wp2_with (first | (at_builtin; refine wpList_push (v := .slice A T.length c) rfl (.tmp 46) (.tmp 49) rfl rfl (.slice (some ⟨wr.heap.size, 0, none⟩) 1 1) rfl HMO.out (wr.heap.size + 1) (by simp) rfl (by omega) (by simp; omega) (fun g2 c2 w5 hl5 hg5 hat5 => ?_)) | fail)
      have hpush := (HM2.out.alloc (.cells #[.slice (some ⟨wr.heap.size, 0, none⟩) 1 1] 22)).push (u := .slice (some ⟨wr.heap.size, 0, none⟩) 1 1) (l := [x']) (HLIT.out.alloc _) HFAR.out.1 HFAR.out.2 (by rw [hDl]) hl5 hg5 (by simpa using hat5)
      have hW5 : Below B w w5 := ((hW.alloc hsz _).alloc (by simp; omega) _).grown hg5 (by simp; omega) (fun k hk => (HMO.out.lt k hk).1)
      rw [← E1.out] at hpush
      have HPU := Lib.hid hpush
      have HG5 := Lib.hid hg5
      have HAT5 := Lib.hid hat5
      clear hpush hl5 hg5 hat5
      go_wp2
      go_ret2
      have hit2 : i = T.length := by omega
      refine ⟨⟨_, _, by rw [E2.out, hit2]; rfl, HPU.out, ((hfr.alloc _).alloc _).grown HG5.out (fun b hb => .inl hb), fun k hk => ?_⟩, hW5⟩
      rcases hk with hk | ⟨r, hr, hk⟩
      · obtain rfl : g2 = k := by simpa [Value.ownBlock] using hk
        rcases HAT5.out with e | e
        · exact .inl (.inl e)
        · simp at e; exact .inr (by omega)
      · rw [List.length_append] at hr
        by_cases c2 : r < hs0.length
        · rw [List.getD_eq_getElem?_getD, List.getElem?_append_left c2, ← List.getD_eq_getElem?_getD] at hk
          exact .inl (.inr ⟨r, c2, hk⟩)
        · obtain rfl : r = hs0.length := by simp at hr; omega
          rw [List.getD_eq_getElem?_getD, List.getElem?_append_right (Nat.le_refl _)] at hk
          simp [Value.ownBlock] at hk
          exact .inr (by omega)
end Go.Proofs.Ytmlmdklheiafpaa
