/-
  slides.slid: what it answers (printed by wip/mkSl3.py).
-/
import Derived.Deep.RegionHeld3
import Derived.Test.YtpmkdihencepnaaMg07
import Derived.Test.YtpmkdihencepnaaMg14
import Derived.Test.YtpmkdihencepnaaMg15
namespace Go.Proofs.Ytpmkdihencepnaa
open Go.RowKit

theorem own_cut {w : World} {B g n c J : Nat} {e : TypeId} {cs : List Value} (h : w.ownsRow B e 1 (.slice (some ⟨g, 0, none⟩) n c) n cs) (hJ : J ≤ n) : w.ownsRow B e 1 (.slice (some ⟨g, 0, none⟩) J c) J (cs.take J) := by
  have hl := h.1
  refine ⟨by rw [List.length_take]; omega, ?_⟩
  rcases h.2 with ⟨e1, _⟩ | ⟨g', cap, cur, e1, h1, h2, h3, h4, h5, h6⟩
  · cases e1
  · obtain ⟨rfl, rfl⟩ : g = g' ∧ c = cap := by injection e1 with e2 _ e3; injection e2 with e4; injection e4 with e5; exact ⟨e5, e3⟩
    refine .inr ⟨g, c, cur, rfl, h1, h2, by omega, h4, h5, ?_⟩
    rw [← h6, List.take_take]
    congr 1
    omega
theorem OwnM.n_eq {w : World} {B G n c : Nat} {hs : List Value} {rows : List (List Int)} (h : OwnM w B (.slice (some ⟨G, 0, none⟩) n c) hs rows) : n = rows.length := by
  rcases h.out.2 with ⟨e1, _⟩ | ⟨_, _, _, e1, _⟩
  · cases e1
  · injection e1
/-- A row cut short. -/
theorem OwnM.cutRow {w : World} {B G n c : Nat} {hs : List Value} {rows : List (List Int)} (h : OwnM w B (.slice (some ⟨G, 0, none⟩) n c) hs rows) {i : Nat} (hi : i < rows.length) {g cr J : Nat} (hg : hs.getD i undef = .slice (some ⟨g, 0, none⟩) (rows.getD i []).length cr) (hJ : J ≤ (rows.getD i []).length) :
    OwnM (w.setCell ⟨G, i, none⟩ (.slice (some ⟨g, 0, none⟩) J cr)) B (.slice (some ⟨G, 0, none⟩) n c) (hs.set i (.slice (some ⟨g, 0, none⟩) J cr)) (rows.set i ((rows.getD i []).take J)) := by
  have hn := h.n_eq
  have ho := h.out
  rw [← hn] at ho
  have hu := h.inn i hi
  rw [hg] at hu
  have hu2 := own_cut hu hJ
  have eb : ∀ x : Value, Far x (hs.getD i undef) → Far x (.slice (some ⟨g, 0, none⟩) J cr) := fun x hx k h1 h2 => hx k h1 (by rw [hg]; exact h2)
  exact OwnM.put2 h.len hn ho hi (fun r hr _ => h.inn r hr) (fun r s hr hs' _ _ hne => h.far r s hr hs' hne) (fun r hr _ => h.top r hr)
    (by rw [List.length_take, Nat.min_eq_left hJ]; simpa [ints, List.map_take] using hu2) (fun r hr hne => eb _ (h.far r i hr hi hne)) (eb _ (h.top i hi))
/-- Rows left out at the end. -/
theorem OwnM.takeRows {w : World} {B G n c : Nat} {hs : List Value} {rows : List (List Int)} (h : OwnM w B (.slice (some ⟨G, 0, none⟩) n c) hs rows) {i : Nat} (hi : i ≤ rows.length) : OwnM w B (.slice (some ⟨G, 0, none⟩) i c) (hs.take i) (rows.take i) := by
  have hn := h.n_eq
  have ho := h.out
  rw [← hn] at ho
  have hl := h.len
  have hT : (rows.take i).length = i := by rw [List.length_take]; omega
  have g1 : ∀ r, r < i → (hs.take i).getD r undef = hs.getD r undef ∧ (rows.take i).getD r [] = rows.getD r [] := fun r hr => by
    simp only [List.getD_eq_getElem?_getD, List.getElem?_take_of_lt hr]; exact ⟨trivial, trivial⟩
  refine ⟨by rw [List.length_take, List.length_take]; omega, by rw [hT]; exact own_cut ho (by omega), fun r hr => ?_, fun r s hr hs' hne => ?_, fun r hr => ?_⟩
  · rw [hT] at hr
    rw [(g1 r hr).1, (g1 r hr).2]; exact h.inn r (by omega)
  · rw [hT] at hr hs'
    rw [(g1 r hr).1, (g1 s hs').1]; exact h.far r s (by omega) (by omega) hne
  · rw [hT] at hr
    rw [(g1 r hr).1]; exact h.top r (by omega)
theorem foot_take {v : Value} {hs : List Value} {i k : Nat} (h : foot v (hs.take i) k) : foot v hs k := by
  rcases h with hk | ⟨r, hr, hk⟩
  · exact .inl hk
  · rw [List.length_take] at hr
    refine .inr ⟨r, by omega, ?_⟩
    rw [List.getD_eq_getElem?_getD, List.getElem?_take_of_lt (by omega), ← List.getD_eq_getElem?_getD] at hk
    exact hk
theorem foot_same {v u : Value} {hs : List Value} {i : Nat} (h : ∀ k, u.ownBlock = some k → foot v hs k) {k : Nat} (hk : foot v (hs.set i u) k) : foot v hs k := by
  rcases hk with hk | ⟨r, hr, hk⟩
  · exact .inl hk
  · rw [List.length_set] at hr
    by_cases e : i = r
    · subst e
      rw [List.getD_eq_getElem?_getD, List.getElem?_set_self hr] at hk
      exact h k hk
    · rw [List.getD_eq_getElem?_getD, List.getElem?_set_ne e, ← List.getD_eq_getElem?_getD] at hk
      exact .inr ⟨r, hr, hk⟩
/-- What slides.slid answers. -/
def SlidOut (e : Ending) (w w' : World) (B : Nat) (v : Value) (hs : List Value) (s : List (List Int)) (I J : Nat) : Prop := ∃ (v' : Value) (hs' : List Value) (out : List (List Int)) (i j : Nat), e = .returned (.tuple #[v', .int .i64 i, .int .i64 j]) ∧ OwnM w' B v' hs' out ∧ Slid s I J out i j ∧ Fr w w' (foot v hs) ∧ ∀ k, foot v' hs' k → foot v hs k
theorem Cfg.keep {s : List (List Int)} (i j : Nat) (x : Int) (h : ∀ a, rl s a ≤ 1000) : ∀ a, rl (put s i j x) a ≤ 1000 := fun a => by rw [put_rl]; exact h a

set_option maxRecDepth 100000 in
set_option maxHeartbeats 2000000 in
theorem slid_any {B : Nat} (v : Value) (hs0 : List Value) (s0 : List (List Int)) (I0 J0 : Nat) (w : World) (hB : B ≤ w.heap.size) (hm : OwnM w B v hs0 s0) (hc : Cfg s0 I0 J0) (hs1 : s0.length ≤ 1000) (hs2 : ∀ a, rl s0 a ≤ 1000) :
    Calls Try.prog 49 #[v, .int .i64 I0, .int .i64 J0] w fun e w' => SlidOut e w w' B v hs0 s0 I0 J0 ∧ Below B w w' := by
  have hmo := hm.out
  obtain ⟨G, c, rfl, -, -⟩ := hmo.form (by have := hc.inI; omega)
  have HM0 := Lib.hid hm
  have HC0 := Lib.hid hc
  have HS2 := Lib.hid hs2
  clear hm hc hmo hs2
  go_enter Try.func49, Try.ntmps49
  go_wp2
  go_loopw [0, 1, 2] (fun sv iv jv wr => ∃ (s : List (List Int)) (I J : Nat), sv = .slice (some ⟨G, 0, none⟩) s0.length c ∧ iv = .int .i64 I ∧ jv = .int .i64 J ∧ s.length = s0.length ∧ (∀ a, rl s a = rl s0 a) ∧ OwnM wr B (.slice (some ⟨G, 0, none⟩) s0.length c) hs0 s ∧ Cfg s I J ∧ (∀ out i j, Slid s I J out i j → Slid s0 I0 J0 out i j) ∧ Below B w wr ∧ Fr w wr (foot (.slice (some ⟨G, 0, none⟩) s0.length c) hs0)) (fun _ iv jv _ => s0.length + rl s0 0 - ((intOf iv).toNat + (intOf jv).toNat))
  case atStart => exact ⟨s0, I0, J0, rfl, rfl, rfl, rfl, fun _ => rfl, HM0.out, HC0.out, fun _ _ _ h => h, Below.refl _ _, Fr.refl _ _⟩
  case round =>
    clear HM0 HC0
    obtain ⟨s, I, J, rfl, rfl, rfl, hsl, hrl, hm, hc, hgo, hW, hfr⟩ := hrel
    have hsz := Nat.le_trans hB hW.size
    have hI := hc.inI
    have hat := hc.at_
    have hJ0 : rl s I ≤ rl s0 0 := by rw [← hrl]; exact hc.lens 0 I (Nat.zero_le _)
    have hr0 := HS2.out 0
    have hlen2 := hc.lens I (I + 1) (by omega)
    obtain ⟨gr, cr, hhr, hcc, hor, hg1, hg2⟩ := hm.row (r := I) hI (by unfold rl at hat; omega)
    have hmo := hm.out
    rw [hsl] at hmo
    have hfzG := hmo.frozenAt I
    obtain ⟨q, hq⟩ : ∃ q, q = rl s I := ⟨_, rfl⟩
    obtain ⟨q2, hq2⟩ : ∃ q2, q2 = rl s (I + 1) := ⟨_, rfl⟩
    have hor' : wr.ownsRow B 3 1 (.slice (some ⟨gr, 0, none⟩) q cr) q (ints (s.getD I [])) := by rw [hq]; exact hor
    have hcc' : wr.cell? ⟨G, I, none⟩ = some (.slice (some ⟨gr, 0, none⟩) q cr) := by rw [hq]; exact hcc
    have hhr' : hs0.getD I undef = .slice (some ⟨gr, 0, none⟩) (s.getD I []).length cr := hhr
    have hfoot : foot (.slice (some ⟨G, 0, none⟩) s0.length c) hs0 gr := foot_row (i := I) (by rw [hm.len]; exact hI) (by rw [hhr]; rfl)
    have hcap := (own_cap hor').1
    have hcap2 := (own_cap hor').2
    have HHR := Lib.hid hhr'
    have HOR := Lib.hid hor'
    have HF := Lib.hid hfoot
    have HQ := Lib.hid hq
    have HQ2 := Lib.hid hq2
    have HM := Lib.hid hm
    have HC := Lib.hid hc
    have HGO := Lib.hid hgo
    have HW := Lib.hid hW
    have HFR := Lib.hid hfr
    have HRL := Lib.hid hrl
    have HSL := Lib.hid hsl
    have hcG1 := (own_cap hmo).1
    have hcG2 := (own_cap hmo).2
    have hIl : I < s0.length := by omega
    have hI9 : I ≤ 1000 := by omega
    rw [← hq] at hat hJ0 hlen2
    rw [← hq2] at hlen2
    have hJ9 : J ≤ 1000 := by omega
    have hq9 : q ≤ 1000 := by omega
    have hlow : ¬ I + 1 < s0.length → q2 = 0 := fun hn => by rw [hq2]; unfold rl; rw [getD_far (by omega)]; rfl
    have hrow2 : I + 1 < s0.length → ∃ gr2 cr2, wr.cell? ⟨G, I + 1, none⟩ = some (.slice (some ⟨gr2, 0, none⟩) q2 cr2) ∧ wr.ownsRow B 3 1 (.slice (some ⟨gr2, 0, none⟩) q2 cr2) q2 (ints (s.getD (I + 1) [])) := fun hn => by
      obtain ⟨gr2, cr2, _, h1, h2, _⟩ := hm.row (r := I + 1) (by omega) (by have := hc.ne (I + 1) (by omega); unfold rl at this; omega)
      exact ⟨gr2, cr2, by rw [hq2]; exact h1, by rw [hq2]; exact h2⟩
    have HR2 := Lib.hid hrow2
    clear hor hcc hhr hfoot hm hc hgo hW hfr hrl hmo hrow2 hq hq2 hsl hor'
    have HG1 : Hid (B ≤ G) := (HM.out.out.lt G rfl).1
    by_cases hR : J + 1 < q
    · have dR : decide ((J : Int) + 1 < (q : Int)) = true := decide_eq_true (by omega)
      have hxa : Hid (0 < cell s I (J + 1)) := HC.out.rt (J + 1) (by omega) (by rw [← HQ.out]; exact hR)
      have hgx := own_get HOR.out (getD_some (l := s.getD I []) (j := J + 1) (by have := HQ.out; unfold rl at this; omega))
      obtain ⟨x, hx⟩ : ∃ x, x = cell s I (J + 1) := ⟨_, rfl⟩
      have hx' : (s.getD I []).getD (J + 1) 0 = x := by rw [hx]; rfl
      rw [hx'] at hgx
      rw [← hx] at hxa
      have HX := Lib.hid hx
      have hx0 := hxa.out
      clear hx hx' hxa
      go_upto_region 4 with fail
      go_cut [41] (fun bv wz => bv = .bool (decide (J < q2)) ∧ wr = wz)
      case first =>
        by_cases hn : I + 1 < s0.length
        · have dn : decide ((I : Int) + 1 < (s0.length : Int)) = true := decide_eq_true (by omega)
          obtain ⟨gr2, cr2, hc2, ho2⟩ := HR2.out hn
          clear ho2
          go_wp2
          go_meet
          exact ⟨by simp, rfl⟩
        · have dn : decide ((I : Int) + 1 < (s0.length : Int)) = false := decide_eq_false (by omega)
          have hq0 : decide (J < q2) = false := decide_eq_false (by have := hlow hn; omega)
          have HQ0 := Lib.hid hq0
          clear hq0
          go_wp2
          go_meet
          exact ⟨by rw [HQ0.out], rfl⟩
      case rest =>
        obtain ⟨rfl, rfl⟩ := hcut
        by_cases hDn : J < q2
        · have dD : decide (J < q2) = true := decide_eq_true hDn
          have hIn : I + 1 < s0.length := by
            apply Classical.byContradiction
            intro hn
            have := hlow hn; omega
          obtain ⟨gr2, cr2, hc2, ho2⟩ := HR2.out (by omega)
          have hya : Hid (0 < cell s (I + 1) J) := HC.out.dn (I + 1) (by omega) (by rw [← HQ2.out]; exact hDn)
          have hgy := own_get ho2 (getD_some (l := s.getD (I + 1) []) (j := J) (by have := HQ2.out; unfold rl at this; omega))
          obtain ⟨y, hy⟩ : ∃ y, y = cell s (I + 1) J := ⟨_, rfl⟩
          have hy' : (s.getD (I + 1) []).getD J 0 = y := by rw [hy]; rfl
          rw [hy'] at hgy
          rw [← hy] at hya
          have HY := Lib.hid hy
          have hy0 := hya.out
          clear hy hy' hya ho2
          by_cases hyx : y ≤ x
          · have dyx : decide (y ≤ x) = true := decide_eq_true hyx
            have hck := own_get HOR.out (getD_some (l := s.getD I []) (j := J) (by have := HQ.out; unfold rl at this; omega))
            obtain ⟨z, hz⟩ : ∃ z, z = (s.getD I []).getD J 0 := ⟨_, rfl⟩
            rw [← hz] at hck
            clear hz
            have hfk := HOR.out.frozenAt J
            have hst := HM.out.setIn (r := I) (g := gr) (c := cr) (by rw [HSL.out]; exact hIl) HHR.out J y
            have HST := Lib.hid hst
            have hW2 := Lib.hid (HW.out.setCell (p := ⟨gr, J, none⟩) hg1 (.int .i64 y))
            have hF2 := Lib.hid (HFR.out.setCell (a := ⟨gr, J, none⟩) (y := .int .i64 y) HF.out)
            clear hst

            have hng : Hid (Cfg (put s I J y) (I + 1) J) := by
              show Cfg _ _ _
              rw [HY.out]
              exact HC.out.goD (by rw [← HQ2.out]; exact hDn) (fun hh => by rw [← HY.out]; rw [← HX.out]; exact hyx)
            have hng2 : Hid (∀ out i j, Slid (put s I J y) (I + 1) J out i j → Slid s0 I0 J0 out i j) := fun out i j h => HGO.out out i j (.down (by rw [← HQ2.out]; exact hDn) (fun hh => by rw [← HY.out]; rw [← HX.out]; exact hyx) (by rw [← HY.out]; exact h))
            go_wp2
            go_roundw
            case rel => exact ⟨put s I J y, I + 1, J, rfl, by go_num, rfl, by rw [put_length]; exact HSL.out, fun a => by rw [put_rl]; exact HRL.out a, HST.out, hng.out, hng2.out, hW2.out, hF2.out⟩
            case measure => simp [intOf]; omega
          · have dyx : decide (y ≤ x) = false := decide_eq_false hyx
            have hck := own_get HOR.out (getD_some (l := s.getD I []) (j := J) (by have := HQ.out; unfold rl at this; omega))
            obtain ⟨z, hz⟩ : ∃ z, z = (s.getD I []).getD J 0 := ⟨_, rfl⟩
            rw [← hz] at hck
            clear hz
            have hfk := HOR.out.frozenAt J
            have hst := HM.out.setIn (r := I) (g := gr) (c := cr) (by rw [HSL.out]; exact hIl) HHR.out J x
            have HST := Lib.hid hst
            have hW2 := Lib.hid (HW.out.setCell (p := ⟨gr, J, none⟩) hg1 (.int .i64 x))
            have hF2 := Lib.hid (HFR.out.setCell (a := ⟨gr, J, none⟩) (y := .int .i64 x) HF.out)
            clear hst

            have hng : Hid (Cfg (put s I J x) I (J + 1)) := by
              show Cfg _ _ _
              rw [HX.out]
              exact HC.out.goR (by rw [← HQ.out]; exact hR) (fun cc hh1 hh2 => by rw [← HX.out]; rw [hh2, ← HY.out]; omega)
            have hng2 : Hid (∀ out i j, Slid (put s I J x) I (J + 1) out i j → Slid s0 I0 J0 out i j) := fun out i j h => HGO.out out i j (.right (by rw [← HQ.out]; exact hR) (fun hh => by rw [← HX.out]; rw [← HY.out]; omega) (by rw [← HX.out]; exact h))
            go_wp2
            go_roundw
            case rel => exact ⟨put s I J x, I, J + 1, rfl, rfl, by go_num, by rw [put_length]; exact HSL.out, fun a => by rw [put_rl]; exact HRL.out a, HST.out, hng.out, hng2.out, hW2.out, hF2.out⟩
            case measure => simp [intOf]; omega
        · have dD : decide (J < q2) = false := decide_eq_false hDn
          have hck := own_get HOR.out (getD_some (l := s.getD I []) (j := J) (by have := HQ.out; unfold rl at this; omega))
          obtain ⟨z, hz⟩ : ∃ z, z = (s.getD I []).getD J 0 := ⟨_, rfl⟩
          rw [← hz] at hck
          clear hz
          have hfk := HOR.out.frozenAt J
          have hst := HM.out.setIn (r := I) (g := gr) (c := cr) (by rw [HSL.out]; exact hIl) HHR.out J x
          have HST := Lib.hid hst
          have hW2 := Lib.hid (HW.out.setCell (p := ⟨gr, J, none⟩) hg1 (.int .i64 x))
          have hF2 := Lib.hid (HFR.out.setCell (a := ⟨gr, J, none⟩) (y := .int .i64 x) HF.out)
          clear hst

          have hng : Hid (Cfg (put s I J x) I (J + 1)) := by
            show Cfg _ _ _
            rw [HX.out]
            exact HC.out.goR (by rw [← HQ.out]; exact hR) (fun cc hh1 hh2 => by rw [← HX.out]; exact absurd hh1 (by rw [← HQ2.out]; exact hDn))
          have hng2 : Hid (∀ out i j, Slid (put s I J x) I (J + 1) out i j → Slid s0 I0 J0 out i j) := fun out i j h => HGO.out out i j (.right (by rw [← HQ.out]; exact hR) (fun hh => by rw [← HX.out]; exact absurd hh (by rw [← HQ2.out]; exact hDn)) (by rw [← HX.out]; exact h))
          go_wp2
          go_roundw
          case rel => exact ⟨put s I J x, I, J + 1, rfl, rfl, by go_num, by rw [put_length]; exact HSL.out, fun a => by rw [put_rl]; exact HRL.out a, HST.out, hng.out, hng2.out, hW2.out, hF2.out⟩
          case measure => simp [intOf]; omega
    · have dR : decide ((J : Int) + 1 < (q : Int)) = false := decide_eq_false (by omega)
      go_upto_region 4 with fail
      go_cut [41] (fun bv wz => bv = .bool (decide (J < q2)) ∧ wr = wz)
      case first =>
        by_cases hn : I + 1 < s0.length
        · have dn : decide ((I : Int) + 1 < (s0.length : Int)) = true := decide_eq_true (by omega)
          obtain ⟨gr2, cr2, hc2, ho2⟩ := HR2.out hn
          clear ho2
          go_wp2
          go_meet
          exact ⟨by simp, rfl⟩
        · have dn : decide ((I : Int) + 1 < (s0.length : Int)) = false := decide_eq_false (by omega)
          have hq0 : decide (J < q2) = false := decide_eq_false (by have := hlow hn; omega)
          have HQ0 := Lib.hid hq0
          clear hq0
          go_wp2
          go_meet
          exact ⟨by rw [HQ0.out], rfl⟩
      case rest =>
        obtain ⟨rfl, rfl⟩ := hcut
        by_cases hDn : J < q2
        · have dD : decide (J < q2) = true := decide_eq_true hDn
          have hIn : I + 1 < s0.length := by
            apply Classical.byContradiction
            intro hn
            have := hlow hn; omega
          obtain ⟨gr2, cr2, hc2, ho2⟩ := HR2.out (by omega)
          have hya : Hid (0 < cell s (I + 1) J) := HC.out.dn (I + 1) (by omega) (by rw [← HQ2.out]; exact hDn)
          have hgy := own_get ho2 (getD_some (l := s.getD (I + 1) []) (j := J) (by have := HQ2.out; unfold rl at this; omega))
          obtain ⟨y, hy⟩ : ∃ y, y = cell s (I + 1) J := ⟨_, rfl⟩
          have hy' : (s.getD (I + 1) []).getD J 0 = y := by rw [hy]; rfl
          rw [hy'] at hgy
          rw [← hy] at hya
          have HY := Lib.hid hy
          have hy0 := hya.out
          clear hy hy' hya ho2
          have hck := own_get HOR.out (getD_some (l := s.getD I []) (j := J) (by have := HQ.out; unfold rl at this; omega))
          obtain ⟨z, hz⟩ : ∃ z, z = (s.getD I []).getD J 0 := ⟨_, rfl⟩
          rw [← hz] at hck
          clear hz
          have hfk := HOR.out.frozenAt J
          have hst := HM.out.setIn (r := I) (g := gr) (c := cr) (by rw [HSL.out]; exact hIl) HHR.out J y
          have HST := Lib.hid hst
          have hW2 := Lib.hid (HW.out.setCell (p := ⟨gr, J, none⟩) hg1 (.int .i64 y))
          have hF2 := Lib.hid (HFR.out.setCell (a := ⟨gr, J, none⟩) (y := .int .i64 y) HF.out)
          clear hst

          have hng : Hid (Cfg (put s I J y) (I + 1) J) := by
            show Cfg _ _ _
            rw [HY.out]
            exact HC.out.goD (by rw [← HQ2.out]; exact hDn) (fun hh => by rw [← HY.out]; exact absurd hh (by rw [← HQ.out]; exact hR))
          have hng2 : Hid (∀ out i j, Slid (put s I J y) (I + 1) J out i j → Slid s0 I0 J0 out i j) := fun out i j h => HGO.out out i j (.down (by rw [← HQ2.out]; exact hDn) (fun hh => by rw [← HY.out]; exact absurd hh (by rw [← HQ.out]; exact hR)) (by rw [← HY.out]; exact h))
          go_wp2
          go_roundw
          case rel => exact ⟨put s I J y, I + 1, J, rfl, by go_num, rfl, by rw [put_length]; exact HSL.out, fun a => by rw [put_rl]; exact HRL.out a, HST.out, hng.out, hng2.out, hW2.out, hF2.out⟩
          case measure => simp [intOf]; omega
        · have dD : decide (J < q2) = false := decide_eq_false hDn
          have hst := HM.out.cutRow (i := I) (by rw [HSL.out]; exact hIl) HHR.out (J := J) (by have := HQ.out; unfold rl at this; omega)
          have HST := Lib.hid hst
          have hW2 := Lib.hid (HW.out.setCell (p := ⟨G, I, none⟩) HG1.out (.slice (some ⟨gr, 0, none⟩) J cr))
          have hF2 := Lib.hid (HFR.out.setCell (a := ⟨G, I, none⟩) (y := .slice (some ⟨gr, 0, none⟩) J cr) (foot_top rfl))
          have hng : Hid (Slid s0 I0 J0 (cut s I J) I J) := HGO.out _ _ _ (.stop (by rw [← HQ.out]; omega) (by rw [← HQ2.out]; omega))
          have hft : Hid (∀ k, foot (.slice (some ⟨G, 0, none⟩) s0.length c) (hs0.set I (.slice (some ⟨gr, 0, none⟩) J cr)) k → foot (.slice (some ⟨G, 0, none⟩) s0.length c) hs0 k) := fun k hk => foot_same (fun k' hk' => by
            have hk2 : (some gr : Option Nat) = some k' := hk'
            cases hk2
            exact HF.out) hk
          clear hst
          by_cases hJz : J = 0
          · subst hJz
            have htk := HST.out.takeRows (i := I) (by rw [List.length_set, HSL.out]; omega)
            have e1 : List.take I (s.set I ((s.getD I []).take 0)) = cut s I 0 := by
              unfold cut
              rw [if_pos rfl, List.take_set, List.set_eq_of_length_le (by rw [List.length_take]; omega)]
            rw [e1] at htk
            have HTK := Lib.hid htk
            clear htk e1
            go_wp2
            go_ret3
            exact ⟨⟨_, _, _, I, 0, rfl, HTK.out, hng.out, hF2.out, fun k hk => hft.out k (by
              rcases foot_take hk with h5 | h5
              · exact .inl h5
              · exact .inr h5)⟩, hW2.out⟩
          · have dJ : decide ((J : Int) = 0) = false := decide_eq_false (by omega)
            have e1 : s.set I ((s.getD I []).take J) = cut s I J := by
              unfold cut
              rw [if_neg hJz]
            have HST2 := HST.out
            rw [e1] at HST2
            have HTK := Lib.hid HST2
            clear HST2 e1
            go_wp2
            go_ret3
            exact ⟨⟨_, _, _, I, J, rfl, HTK.out, hng.out, hF2.out, hft.out⟩, hW2.out⟩
end Go.Proofs.Ytpmkdihencepnaa

/-
  slides.corner, slides.Slide: what they answer.
-/
namespace Go.Proofs.Ytpmkdihencepnaa
open Go.RowKit

/-- Is the last hole of a row one that may slide? -/
def Corner (T : List (List Int)) (k : Nat) : Prop := k < T.length ∧ 0 < hol (T.getD k []) ∧ (k + 1 = T.length ∨ hol (T.getD (k + 1) []) < hol (T.getD k []))
set_option maxRecDepth 100000 in
set_option maxHeartbeats 1000000 in
theorem corner_any (A : Option Addr) (cap : Nat) (T : List (List Int)) (z : Int) (w : World) (hT : T.length ≤ 1000) (hrl1 : ∀ i, (T.getD i []).length ≤ 1000) (h : SR w w.heap.size A T) :
    Calls Try.prog 59 #[.slice A T.length cap, .int .i64 z] w fun e w' => (∃ b : Bool, e = .returned (.bool b) ∧ (b = true ↔ ∃ k : Nat, z = k ∧ Corner T k)) ∧ Below w.heap.size w w' := by
  go_enter Try.func59, Try.ntmps59
  by_cases h0 : 0 ≤ z
  · obtain ⟨k, rfl⟩ : ∃ k : Nat, z = k := ⟨z.toNat, by omega⟩
    have d0 : decide ((0 : Int) ≤ (k : Int)) = true := decide_eq_true h0
    by_cases hk : k < T.length
    · have d1 : decide ((k : Int) < (T.length : Int)) = true := decide_eq_true (by omega)
      obtain ⟨b, o, rfl, hb⟩ := h.addr (by omega)
      obtain ⟨Ar, cr, hc, hr, hrl⟩ := h.at_ hk
      have hca := fun (n : Nat) => holes_any Ar cr (T.getD k []) (w.drewN n) hrl (hr.below (below_drewN (Below.refl _ _) n))
      obtain ⟨x1, hx1⟩ : ∃ x1, x1 = hol (T.getD k []) := ⟨_, rfl⟩
      have hx9 : x1 ≤ 1000 := by rw [hx1]; exact Nat.le_trans (hol_le _) (hrl1 k)
      rw [← hx1] at hca
      have HX1 := Lib.hid hx1
      have HCA := Lib.hid hca
      obtain ⟨q, hq⟩ : ∃ q, q = (T.getD k []).length := ⟨_, rfl⟩
      rw [← hq] at hc HCA
      clear hca hx1 hr hq hrl
      by_cases hx0 : 0 < x1
      · have d2 : decide ((0 : Int) < (x1 : Int)) = true := decide_eq_true (by omega)
        by_cases hlast : k + 1 = T.length
        · have d3 : decide ((k : Int) + 1 = (T.length : Int)) = true := decide_eq_true (by omega)
          have d3' : (((k : Int) + 1 == (T.length : Int))) = true := by simp; omega
          have hfin : Hid (Corner T k) := ⟨hk, by rw [← HX1.out]; exact hx0, .inl hlast⟩
          have hw1 : IntKind.i64.wrap ((k : Int) + 1) = (k : Int) + 1 := IntWalk.i64_in _ (by omega)
          go_wp2
          go_quiet (first | (go_at_call_of 48 (Value.slice Ar q cr); exact Calls.quiet_of_same (HCA.out _)))
          clear hw1
          go_wp2
          go_ret
          exact ⟨⟨_, rfl, fun _ => ⟨k, rfl, hfin.out⟩, fun _ => rfl⟩, below_drewN (Below.refl _ _) _⟩
        · have d3 : ((k : Int) + 1 == (T.length : Int)) = false := by simp; omega
          have d3' : decide ((k : Int) + 1 = (T.length : Int)) = false := decide_eq_false (by omega)
          obtain ⟨A2, c2, hc2, hr2, hrl2⟩ := h.at_ (r := k + 1) (by omega)
          have hcb := fun (n : Nat) => holes_any A2 c2 (T.getD (k + 1) []) (w.drewN n) hrl2 (hr2.below (below_drewN (Below.refl _ _) n))
          obtain ⟨x2, hx2⟩ : ∃ x2, x2 = hol (T.getD (k + 1) []) := ⟨_, rfl⟩
          have hx9 : x2 ≤ 1000 := by rw [hx2]; exact Nat.le_trans (hol_le _) (hrl1 _)
          rw [← hx2] at hcb
          have HX2 := Lib.hid hx2
          have HCB := Lib.hid hcb
          obtain ⟨q2, hq2⟩ : ∃ q2, q2 = (T.getD (k + 1) []).length := ⟨_, rfl⟩
          rw [← hq2] at hc2 HCB
          clear hcb hx2 hr2 hq2 hrl2
          have hk1 : (k : Int) + 1 < (T.length : Int) := by omega
          have hw0 : (0 : Int) ≤ (k : Int) + 1 := by omega
          have hw2 : ((k : Int) + 1).toNat = k + 1 := by omega
          by_cases hlt : x2 < x1
          · have d4 : decide ((x2 : Int) < (x1 : Int)) = true := decide_eq_true (by omega)
            have hfin : Hid (Corner T k) := ⟨hk, by rw [← HX1.out]; exact hx0, .inr (by rw [← HX1.out, ← HX2.out]; exact hlt)⟩
            have hw1 : IntKind.i64.wrap ((k : Int) + 1) = (k : Int) + 1 := IntWalk.i64_in _ (by omega)
            go_wp2
            go_quiet (first | (go_at_call_of 48 (Value.slice Ar q cr); exact Calls.quiet_of_same (HCA.out _)) | (go_at_call_of 48 (Value.slice A2 q2 c2); exact Calls.quiet_of_same (HCB.out _)))
            clear hw1
            go_wp2
            go_ret
            exact ⟨⟨_, rfl, fun _ => ⟨k, rfl, hfin.out⟩, fun _ => rfl⟩, below_drewN (Below.refl _ _) _⟩
          · have d4 : decide ((x2 : Int) < (x1 : Int)) = false := decide_eq_false (by omega)
            have HNO : Hid (¬ ∃ m : Nat, (k : Int) = m ∧ Corner T m) := Lib.hid (fun ⟨m, e, c⟩ => by
              obtain rfl : k = m := by omega
              have h1 := HX1.out
              have h2 := HX2.out
              rcases c.2.2 with c | c
              · exact hlast c
              · rw [← h1, ← h2] at c; exact hlt c)
            have hw1 : IntKind.i64.wrap ((k : Int) + 1) = (k : Int) + 1 := IntWalk.i64_in _ (by omega)
            go_wp2
            go_quiet (first | (go_at_call_of 48 (Value.slice Ar q cr); exact Calls.quiet_of_same (HCA.out _)) | (go_at_call_of 48 (Value.slice A2 q2 c2); exact Calls.quiet_of_same (HCB.out _)))
            clear hw1
            go_wp2
            go_ret
            exact ⟨⟨false, rfl, fun e => (by cases e), fun e => absurd e HNO.out⟩, below_drewN (Below.refl _ _) _⟩
      · have d2 : decide ((0 : Int) < (x1 : Int)) = false := decide_eq_false (by omega)
        have HNO : Hid (¬ ∃ m : Nat, (k : Int) = m ∧ Corner T m) := Lib.hid (fun ⟨m, e, c⟩ => by
          obtain rfl : k = m := by omega
          have h1 := HX1.out
          have c := c.2.1
          rw [← h1] at c
          exact hx0 c)
        go_wp2
        go_quiet (first | (go_at_call_of 48 (Value.slice Ar q cr); exact Calls.quiet_of_same (HCA.out _)))
        go_wp2
        go_ret
        exact ⟨⟨false, rfl, fun e => (by cases e), fun e => absurd e HNO.out⟩, below_drewN (Below.refl _ _) _⟩
    · have d1 : decide ((k : Int) < (T.length : Int)) = false := decide_eq_false (by omega)
      have HNO : Hid (¬ ∃ m : Nat, (k : Int) = m ∧ Corner T m) := Lib.hid (fun ⟨m, e, c⟩ => by
        obtain rfl : k = m := by omega
        exact hk c.1)
      go_wp2
      go_quiet (fail)
      go_wp2
      go_ret
      exact ⟨⟨false, rfl, fun e => (by cases e), fun e => absurd e HNO.out⟩, below_drewN (Below.refl _ _) _⟩
  · have d0 : decide ((0 : Int) ≤ z) = false := decide_eq_false h0
    have HNO : Hid (¬ ∃ m : Nat, z = m ∧ Corner T m) := Lib.hid (fun ⟨m, e, c⟩ => by omega)
    go_wp2
    go_quiet (fail)
    go_wp2
    go_ret
    exact ⟨⟨false, rfl, fun e => (by cases e), fun e => absurd e HNO.out⟩, below_drewN (Below.refl _ _) _⟩
end Go.Proofs.Ytpmkdihencepnaa

/-
  slides.Slide: what it answers.
-/
namespace Go.Proofs.Ytpmkdihencepnaa
open Go.RowKit

theorem Corner.start {T : List (List Int)} {k : Nat} (h : SkOk T) (hc : Corner T k) : hol (T.getD k []) - 1 < rl T k ∧ cell T k (hol (T.getD k []) - 1) = 0 ∧ (∀ q, hol (T.getD k []) - 1 < q → q < rl T k → 0 < cell T k q) ∧ (∀ i', k < i' → hol (T.getD k []) - 1 < rl T i' → 0 < cell T i' (hol (T.getD k []) - 1)) := by
  obtain ⟨h1, h2, h3⟩ := hc
  have hk := h.sk.1
  have hle := hol_le (T.getD k [])
  refine ⟨by unfold rl; omega, hol_zero (by omega), fun q h4 h5 => ?_, fun i' h4 h5 => ?_⟩
  · have h6 := hk.nn k q h5
    have h7 : ¬ cell T k q = 0 := fun e => by have := (hk.zhol k h5).1 e; omega
    omega
  · have hi' := rl_in h5
    have h3' : hol (T.getD (k + 1) []) < hol (T.getD k []) := by
      rcases h3 with e | e
      · omega
      · exact e
    have h6 := hk.nn i' _ h5
    have h8 : hol (T.getD k []) - 1 < rl T (k + 1) := by have := hk.lens (k + 1) i' (by omega); omega
    have h9 := hk.nn (k + 1) _ h8
    have h7 : ¬ cell T i' (hol (T.getD k []) - 1) = 0 := fun e => by
      have h10 : cell T (k + 1) (hol (T.getD k []) - 1) = 0 := by
        by_cases e2 : i' = k + 1
        · rw [← e2]; exact e
        · rcases hk.col (k + 1) i' _ (by omega) h5 with h11 | h11
          · omega
          · exact h11.1
      have := (hk.zhol (k + 1) h8).1 h10
      omega
    omega
theorem Slid.fn {s o o' : List (List Int)} {I J i j i' j' : Nat} (h : Slid s I J o i j) : Slid s I J o' i' j' → o = o' := by
  induction h generalizing o' i' j' with
  | down h1 h2 _ ih =>
    intro h'
    cases h' with
    | down _ _ h3 => exact ih h3
    | right h3 h4 _ => have := h2 h3; have := h4 h1; omega
    | stop h3 h4 => omega
  | right h1 h2 _ ih =>
    intro h'
    cases h' with
    | down h3 h4 _ => have := h2 h3; have := h4 h1; omega
    | right _ _ h3 => exact ih h3
    | stop h3 h4 => omega
  | stop h1 h2 =>
    intro h'
    cases h' with
    | down h3 _ _ => omega
    | right h3 _ _ => omega
    | stop _ _ => rfl
/-- What slides.Slide makes of T at the row z. -/
def SlideTo (T : List (List Int)) (z : Int) (rows : List (List Int)) : Prop :=
  (∃ k : Nat, SkOk T ∧ z = k ∧ Corner T k ∧ ∃ i j, Slid T k (hol (T.getD k []) - 1) rows i j) ∨ (¬ (SkOk T ∧ ∃ k : Nat, z = k ∧ Corner T k) ∧ rows = [])
theorem SlideTo.fn {T r r' : List (List Int)} {z : Int} (h : SlideTo T z r) (h' : SlideTo T z r') : r = r' := by
  rcases h with ⟨k, h1, rfl, h2, i, j, h3⟩ | ⟨h1, rfl⟩
  · rcases h' with ⟨k', g1, e, g2, i', j', g3⟩ | ⟨g1, rfl⟩
    · obtain rfl : k = k' := by omega
      exact h3.fn g3
    · exact absurd ⟨h1, k, rfl, h2⟩ g1
  · rcases h' with ⟨k', g1, e, g2, i', j', g3⟩ | ⟨g1, rfl⟩
    · exact absurd ⟨g1, k', e, g2⟩ h1
    · rfl
/-- What slides.Slide answers. -/
def SlideOut (B : Nat) (e : Ending) (w : World) (T : List (List Int)) (z : Int) : Prop := ∃ (k row : Int) (rows : List (List Int)) (A' : Option Addr) (c' : Nat), e = .returned (.tuple #[.slice A' rows.length c', .int .i64 row, .int .i64 k]) ∧ OwnR w B A' c' rows ∧ rows.length ≤ 9223372036854775807 ∧ SlideTo T z rows
theorem slide_own {w : World} {B B' : Nat} {v : Value} {hs : List Value} {rows T : List (List Int)} {I J i j : Nat} (h : OwnM w B v hs rows) (hB : B' ≤ B) (hok : SkOk T) (hc : Corner T I) (hJ : J = hol (T.getD I []) - 1) (hs : Slid T I J rows i j) (row : Int) : SlideOut B' (.returned (.tuple #[v, .int .i64 row, .int .i64 0])) w T (I : Int) := by
  obtain ⟨A, c, rfl, hs', h1, h2⟩ := h.ownR
  subst hJ
  exact ⟨0, row, rows, A, c, rfl, hs'.low hB, by omega, .inl ⟨I, hok, rfl, hc, i, j, hs⟩⟩

set_option maxRecDepth 100000 in
set_option maxHeartbeats 1000000 in
theorem slide_any (A : Option Addr) (cap : Nat) (T : List (List Int)) (z : Int) (w : World) (hT : T.length ≤ 9223372036854775807) (h : SR w w.heap.size A T) :
    Calls Try.prog 25 #[.slice A T.length cap, .int .i64 z] w fun e w' => SlideOut w.heap.size e w' T z ∧ Below w.heap.size w w' := by
  go_enter Try.func25, Try.ntmps25
  go_wp2_with (first | (go_at_call 46; refine (scheck_any A cap T _ hT h).mono ?_) | fail)
  rintro e w1 ⟨⟨k, rfl, hk1, hk2⟩, hb1⟩
  by_cases hk0 : k = 0
  · have hok := hk1 hk0
    have hT4 := hok.small.1
    have hT5 := hok.small.2
    have h1 := h.now hb1 (Nat.le_refl _)
    have HOK := Lib.hid hok
    subst hk0
    clear hk1 hk2 hok h
    go_wp2_with (first | (go_at_call 59; refine (corner_any A cap T z _ (by omega) (fun i => by have := hT5 i; omega) h1).mono ?_) | fail)
    rintro e w2 ⟨⟨b, rfl, hbc⟩, hb2⟩
    have h2 := h1.now hb2 (Nat.le_refl _)
    have hW2 : Below w.heap.size w w2 := hb1.trans (hb2.mono hb1.size)
    have HBC := Lib.hid hbc
    have HW2 := Lib.hid hW2
    clear hbc h1 hb1 hb2
    cases b with
    | false =>
      go_wp2
      go_ret3
      exact ⟨⟨5, 0, [], none, 0, rfl, OwnR.nil _ _, by simp, .inr ⟨fun e => absurd (HBC.out.2 e.2) (by simp), rfl⟩⟩, HW2.out⟩
    | true =>
      obtain ⟨k, rfl, hc⟩ := HBC.out.1 rfl
      have hst := hc.start HOK.out
      obtain ⟨hcfg, hput⟩ := Cfg.start HOK.out.sk.1 hst.1 hst.2.1 hst.2.2.1 hst.2.2.2
      have hkT := hc.1
      have hk40 : k ≤ 40 := by omega
      obtain ⟨b, o, rfl, hb⟩ := h2.addr (by omega)
      obtain ⟨Ar, cr, hcl, hr, hrl⟩ := h2.at_ hkT
      have hx40 : hol (T.getD k []) ≤ 40 := Nat.le_trans (hol_le _) (hT5 k)
      have hxp := hc.2.1
      have hst2 := hst.1
      unfold rl at hst2
      obtain ⟨x, hx⟩ : ∃ x, x + 1 = hol (T.getD k []) := ⟨hol (T.getD k []) - 1, by omega⟩
      have hxe : hol (T.getD k []) - 1 = x := by omega
      rw [hxe] at hcfg hst2
      have HC := Lib.hid hc
      have HX := Lib.hid hx
      have HXE := Lib.hid hxe
      have HR := Lib.hid hr
      have HSR := Lib.hid h2
      have HCFG := Lib.hid hcfg
      have hx39 : x ≤ 40 := by omega
      have hq0 : 0 < (T.getD k []).length := by omega
      obtain ⟨g, p, rfl, hg⟩ := hr.addr hq0
      have hca := fun (w' : World) (hw' : Below w2.heap.size w2 w') => holes_any (some ⟨g, p, none⟩) cr (T.getD k []) w' hrl (HR.out.below hw')
      rw [← hx] at hca
      have HCA := Lib.hid hca
      obtain ⟨q, hq⟩ : ∃ q, q = (T.getD k []).length := ⟨_, rfl⟩
      rw [← hq] at hcl HCA
      clear hst hput hxe hc hx hr h2 hcfg hca hq hrl hq0 hst2 hx40 hxp HBC
      have e1 : T.length < 1000000 := by omega
      have e2 : ∀ i, (T.getD i []).length < 1000000 := fun i => by have := hT5 i; omega
      have e3 : T.length ≤ 1000 := by omega
      have e4 : ∀ a, rl T a ≤ 1000 := fun a => Nat.le_trans (hT5 a) (by omega)
      have hsd : SR w2.drew w2.drew.heap.size (some ⟨b, o, none⟩) T := HSR.out.below (below_drewN (Below.refl _ _) 1)
      have hw1 : IntKind.i64.wrap (x : Int) = (x : Int) := IntWalk.i64_in _ (by omega)
      go_wp2
      go_region_held3 (fun w' => w'.cell? ⟨b, o + k, none⟩ = some (.slice (some ⟨g, p, none⟩) q cr))
        (first
          | (refine hcf.trans ?_; assumption)
          | (exact hcl)
          | go_keep)
        (first
          | (go_at_call 47; refine (stwin_any (some ⟨b, o, none⟩) cap T _ e1 e2 hsd).mono ?_; rintro e w4 ⟨⟨v, hs, rfl, hm⟩, hb4⟩; have hcf := hb4.cell (p := ⟨b, o + k, none⟩) hb; have HM := Lib.hid hm; have HB4 := Lib.hid hb4; clear hm hb4)
          | (go_at_call 48; refine (HCA.out _ ?_).mono ?_; (· first | exact below_drewN (Below.refl _ _) 1 | exact (below_drewN (Below.refl _ _) 1).trans HB4.out); rintro e w5 ⟨rfl, hw5⟩; obtain rfl := hw5.symm)
          | (go_at_call 49; refine (slid_any v hs T k x _ HB4.out.size HM.out HCFG.out e3 e4).mono ?_; rintro e w6 ⟨⟨v6, hs6, out, i, j, rfl, hm6, hsl, hfr, hft⟩, hb6⟩; have HS6 := Lib.hid (slide_own hm6 HW2.out.size HOK.out HC.out HXE.out.symm hsl (i : Int)); have hcf := hb6.cell (p := ⟨b, o + k, none⟩) hb; have HB6 := Lib.hid hb6; clear hm6 hsl hfr hft hb6)
          | fail)
      clear hw1
      go_wp2
      go_ret3
      exact ⟨HS6.out, (below_drewN HW2.out 1).trans ((HB4.out.trans HB6.out).mono HW2.out.size)⟩
  · have dk : (k != 0) = true := by simpa using hk0
    have HK0 := Lib.hid hk0
    have HNS : Hid (¬ SkOk T) := Lib.hid (fun e => hk0 (hk2 e))
    clear hk1 hk2
    go_wp2
    go_ret3
    exact ⟨⟨k, 0, [], none, 0, rfl, OwnR.nil _ _, by simp, .inr ⟨fun e => absurd e.1 HNS.out, rfl⟩⟩, hb1⟩
end Go.Proofs.Ytpmkdihencepnaa
