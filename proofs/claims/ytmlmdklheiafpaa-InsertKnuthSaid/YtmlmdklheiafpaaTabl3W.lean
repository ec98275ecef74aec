/-
  insert.put, insert.Insert: what they answer.
-/
import Derived.Test.YtmlmdklheiafpaaTabl2W
namespace Go.Proofs.Ytmlmdklheiafpaa
open Go.RowKit

theorem lt_wrap {x : Int} (h : Lt x) : IntKind.i64.wrap (x + 1) = x + 1 := IntWalk.i64_in _ (by have := h.1; have := h.2; omega)

/-- What insert.put answers. -/
def PutOut (e : Ending) (w : World) (B : Nat) (T : List (List Int)) (x : Int) : Prop := ∃ v' hs', e = .returned (.tuple #[v', .int .i64 (irow T x)]) ∧ OwnM w B v' hs' (ins1 T x)
set_option maxRecDepth 100000 in
set_option maxHeartbeats 1000000 in
theorem put_any {B : Nat} (v : Value) (hs0 : List Value) (T : List (List Int)) (x : Int) (w : World) (hB : B ≤ w.heap.size) (hm : OwnM w B v hs0 T) (ht : Tab T) (hsm : T.length ≤ 1000 ∧ ∀ i, (T.getD i []).length ≤ 1000) (hlt : ∀ r ∈ T, ∀ y ∈ r, Lt y) (hx : Lt x) :
    Calls Try.prog 60 #[v, .int .i64 x] w fun e w' => PutOut e w' B T x ∧ Below B w w' := by
  obtain ⟨A, c, rfl, -, -, -⟩ := hm.sr
  have HM0 := Lib.hid hm
  have HT := Lib.hid ht
  have HSM := Lib.hid hsm
  have HLT := Lib.hid hlt
  have hT1 := hsm.1
  have HX := Lib.hid hx
  clear hm ht hsm hlt hx
  go_enter Try.func60, Try.ntmps60
  go_wp2
  go_loopw [1, 12] (fun xv iv wr => ∃ (i : Nat) (x' : Int) (D : List (List Int)) (hs : List Value), i ≤ T.length ∧ iv = .int .i64 i ∧ xv = .int .i64 x' ∧ Lt x' ∧ Putting T x i x' D ∧ OwnM wr B (.slice A T.length c) hs (D ++ T.drop i) ∧ Below B w wr) (fun _ iv _ => T.length - (intOf iv).toNat)
  case atStart => exact ⟨0, x, [], hs0, Nat.zero_le _, rfl, rfl, HX.out, Putting.start T x, by simpa using HM0.out, Below.refl _ _⟩
  case round =>
    clear HM0
    obtain ⟨i, x', D, hs, hi, rfl, rfl, hlx, hpt, hm, hW⟩ := hrel
    have HLX := Lib.hid hlx
    have HPT := Lib.hid hpt
    have HM := Lib.hid hm
    have hsz := Nat.le_trans hB hW.size
    by_cases hit : i < T.length
    · have di : decide (i < T.length) = true := decide_eq_true hit
      obtain ⟨hcl, hcr, hcs⟩ := hpt.cur hit
      have hmo := hm.out
      rw [hcl] at hmo
      obtain ⟨G, c', e1, hG, hGs⟩ := hmo.form (by omega)
      obtain ⟨rfl, rfl⟩ : A = some ⟨G, 0, none⟩ ∧ c = c' := by injection e1 with e2 _ e3; exact ⟨e2, e3⟩
      have hne : T.getD i [] ≠ [] := HT.out.ne _ (by rw [getD_get hit]; exact List.getElem_mem hit)
      have hpos : 0 < (T.getD i []).length := by
        apply Nat.pos_of_ne_zero
        intro e
        exact hne (List.eq_nil_of_length_eq_zero e)
      obtain ⟨gr, cr, hhr, hcc, hor, hg1, hg2⟩ := hm.row (r := i) (by rw [hcl]; exact hit) (by rw [hcr]; exact hpos)
      rw [hcr] at hhr hcc hor
      have hup := HT.out.upD i
      have hrl := HSM.out.2 i
      obtain ⟨r, hr⟩ : ∃ r, r = T.getD i [] := ⟨_, rfl⟩
      rw [← hr] at hhr hcc hor hup hrl hpos
      have HR := Lib.hid hr
      have hwr := lt_wrap hlx
      obtain ⟨k1, k2, k3⟩ := push1_at (x := x') hup
      have hbs := search_any (some ⟨gr, 0, none⟩) cr r (x' + 1) wr (by omega) hup (Sl.of_own hor)
      obtain ⟨k, hk⟩ : ∃ k, k = r.countP (· < x' + 1) := ⟨_, rfl⟩
      rw [← hk] at k1 k2 k3 hbs
      have HBS := Lib.hid hbs
      have K2 := Lib.hid k2
      have K3 := Lib.hid k3
      have HHR := Lib.hid hhr
      have HOR := Lib.hid hor
      have HCS := Lib.hid hcs
      clear hlx hpt hm hmo hne hup hbs k2 k3 hhr hor hcs hk hr e1
      go_wp2_with (first | (go_at_call 81; refine HBS.out.mono ?_) | fail)
      rintro e w4 ⟨⟨z, rfl⟩, q, rfl⟩
      have HM4 := Lib.hid (HM.out.drewN q)
      have HOR4 := Lib.hid (own_drewN HOR.out q)
      have hW4 := below_drewN hW q
      have hcc4 : (wr.drewN q).cell? ⟨G, i, none⟩ = some (.slice (some ⟨gr, 0, none⟩) r.length cr) := hcc
      have hfz := HM4.out.out
      rw [hcl] at hfz
      have hfar := Lib.hid ((HM4.out.top i (by rw [hcl]; exact hit)).symm.ne)
      rw [HHR.out] at hfar
      have hsz4 : B ≤ (wr.drewN q).heap.size := hsz
      have hgr4 : gr < (wr.drewN q).heap.size := hg2
      obtain ⟨w5, hw5⟩ : ∃ w5, w5 = wr.drewN q := ⟨_, rfl⟩
      rw [← hw5] at HM4 HOR4 hW4 hcc4 hfz hsz4 hgr4 ⊢
      have HFZ := Lib.hid hfz
      have HW4 := Lib.hid hW4
      clear hw5 HBS HM HOR hW hcc hsz hg2 hGs hfz hW4 wr
      by_cases hkl : k = r.length
      · have dk : decide ((k : Int) = (r.length : Int)) = true := decide_eq_true (by omega)
        have hpu := K2.out hkl
        have HPU := Lib.hid hpu
        clear hpu
        go_wp2_with (first | (at_builtin; refine wpList_app1g rfl (.tmp 30) (.tmp 32) rfl rfl x' HOR4.out w5.heap.size rfl rfl (by omega) hsz4 (fun g2 c2 w6 hl6 hg6 hat6 => ?_); have ho6 := (HFZ.out.alloc (.cells #[.int .i64 x'] 3)).kept hg6 hfar.out; have hc6 := ho6.cellAt i (by omega); have hf6 := ho6.frozenAt i; rw [HM4.out.get (by rw [hcl]; exact hit)] at hc6; have HL6 := Lib.hid hl6; have HG6 := Lib.hid hg6; have HAT6 := Lib.hid hat6; clear ho6 hl6 hg6 hat6) | fail)
        go_ret2
        obtain ⟨e1, e2⟩ := HPT.out.stop hit (by rw [← HR.out, HPU.out])
        rw [← HR.out, HPU.out] at e1
        have happ := HM4.out.app (i := i) (by rw [hcl]; exact hit) (l := r ++ [x']) (by simp) HL6.out (by rw [HHR.out]; exact HG6.out) (by rw [HHR.out]; exact HAT6.out)
        rw [← e1] at happ
        exact ⟨⟨_, _, by rw [e2]; rfl, happ⟩, ((HW4.out.alloc hsz4 _).grown HG6.out (by simp; omega) (fun b hb => by
          have hb2 : (some gr : Option Nat) = some b := hb
          cases hb2
          exact hg1)).setCell (p := ⟨G, i, none⟩) hG _⟩
      · have hkl2 : k < r.length := by omega
        have dk : decide ((k : Int) = (r.length : Int)) = false := decide_eq_false (by omega)
        obtain ⟨z2, hz2⟩ : ∃ z2, r[k]? = some z2 := ⟨_, List.getElem?_eq_getElem hkl2⟩
        have hpu := K3.out z2 hz2
        have hzl : Hid (Lt z2) := HLT.out r (by rw [HR.out, getD_get hit]; exact List.getElem_mem hit) z2 (List.mem_of_getElem? hz2)
        have hck := own_get HOR4.out hz2
        have hfk := HOR4.out.frozenAt k
        have hst := HM4.out.setIn (r := i) (g := gr) (c := cr) (by rw [hcl]; exact hit) (by rw [hcr, ← HR.out]; exact HHR.out) k x'
        rw [hcr, ← HR.out, HCS.out] at hst
        have hnx := HPT.out.on hit (by rw [← HR.out, hpu])
        rw [← HR.out, hpu] at hnx
        have HST := Lib.hid hst
        have HNX := Lib.hid hnx
        clear hpu hst hnx hz2
        go_wp2
        go_roundw
        case rel => exact ⟨i + 1, z2, _, hs, by omega, rfl, rfl, hzl.out, HNX.out, HST.out, HW4.out.setCell (p := ⟨gr, k, none⟩) hg1 _⟩
        case measure => simp [intOf]; omega
    · have di : decide (i < T.length) = false := decide_eq_false hit
      obtain ⟨e1, e2, e3⟩ := hpt.end_ (by omega)
      have hDl : D.length = T.length := by rw [hpt.len]; omega
      rw [e3] at hm
      have hm2 := hm.alloc (.cells #[.int .i64 x'] 3)
      have hmo := hm2.out
      rw [hDl] at hmo
      have hlit := World.ownsRow_lit (e := 3) (size := 1) (base := B) wr #[.int .i64 x'] 1 hsz (by decide) rfl
      have hfar := hm.far_new (u := .slice (some ⟨wr.heap.size, 0, none⟩) 1 1) (fun k hk => by
        obtain rfl : wr.heap.size = k := by simpa [Value.ownBlock] using hk
        exact Nat.le_refl _)
      have HM2 := Lib.hid hm2
      have HMO := Lib.hid hmo
      have HLIT := Lib.hid hlit
      have HFAR := Lib.hid hfar
      have E1 := Lib.hid e1
      have E2 := Lib.hid e2
      clear hm hm2 hmo hlit hfar hpt e1 e2 e3 HM
      go_wp2_with (first | (at_builtin; refine wpList_push (v := .slice A T.length c) rfl (.tmp 46) (.tmp 49) rfl rfl (.slice (some ⟨wr.heap.size, 0, none⟩) 1 1) rfl HMO.out (wr.heap.size + 1) (by simp) rfl (by omega) (by simp; omega) (fun g2 c2 w5 hl5 hg5 hat5 => ?_)) | fail)
      have hpush := (HM2.out.alloc (.cells #[.slice (some ⟨wr.heap.size, 0, none⟩) 1 1] 22)).push (u := .slice (some ⟨wr.heap.size, 0, none⟩) 1 1) (l := [x']) (HLIT.out.alloc _) HFAR.out.1 HFAR.out.2 (by rw [hDl]) hl5 hg5 (by simpa using hat5)
      have hW5 : Below B w w5 := ((hW.alloc hsz _).alloc (by simp; omega) _).grown hg5 (by simp; omega) (fun k hk => (HMO.out.lt k hk).1)
      rw [← E1.out] at hpush
      have HPU := Lib.hid hpush
      clear hpush hl5 hg5 hat5
      go_wp2
      go_ret2
      have hit2 : i = T.length := by omega
      exact ⟨⟨_, _, by rw [E2.out, hit2]; rfl, HPU.out⟩, hW5⟩
end Go.Proofs.Ytmlmdklheiafpaa
