/- Part of the proof. -/
import Derived.Deep.RegionHeld3
import Derived.Deep.LoopGhost
import Derived.Test.YtpmkdihencepnaaGreatDoorMk07
import Derived.Test.YtpmkdihencepnaaGreatDoorMk09
import Derived.Test.YtpmkdihencepnaaGreatDoorMk10
import Derived.Test.YtpmkdihencepnaaGreatDoorMk11
set_option maxHeartbeats 16000000
set_option maxRecDepth 100000
namespace Go.Proofs.YtpmkdihencepnaaGreatDoor
section
open Go.RowKit
theorem own_cut {w : World} {B g n c J : Nat} {e : TypeId} {cs : List Value} (h : w.ownsRow B e 1 (.slice (some ⟨g, 0, none⟩) n c) n cs) (hJ : J ≤ n) : w.ownsRow B e 1 (.slice (some ⟨g, 0, none⟩) J c) J (cs.take J) := by
 have hl := h.1
 refine ⟨by rw [List.length_take]; omega, ?_⟩
 rcases h.2 with ⟨e1, _⟩ | ⟨g', cap, cur, e1, h1, h2, h3, h4, h5, h6⟩
 · cases e1
 · obtain ⟨rfl, rfl⟩ : g = g' ∧ c = cap := by injection e1 with e2 _ e3; injection e2 with e4; injection e4 with e5; exact ⟨e5, e3⟩
   refine .inr ⟨g, c, cur, rfl, h1, h2, by omega, h4, h5, ?_⟩
   rw [← h6, List.take_take]
   congr 1
   omega
theorem OwnM.n_eq {w : World} {B G n c : Nat} {hs : List Value} {rows : List (List Int)} (h : OwnM w B (.slice (some ⟨G, 0, none⟩) n c) hs rows) : n = rows.length := by
 rcases h.out.2 with ⟨e1, _⟩ | ⟨_, _, _, e1, _⟩
 · cases e1
 · injection e1
theorem OwnM.cutRow {w : World} {B G n c : Nat} {hs : List Value} {rows : List (List Int)} (h : OwnM w B (.slice (some ⟨G, 0, none⟩) n c) hs rows) {i : Nat} (hi : i < rows.length) {g cr J : Nat} (hg : hs.getD i undef = .slice (some ⟨g, 0, none⟩) (rows.getD i []).length cr) (hJ : J ≤ (rows.getD i []).length) :
 OwnM (w.setCell ⟨G, i, none⟩ (.slice (some ⟨g, 0, none⟩) J cr)) B (.slice (some ⟨G, 0, none⟩) n c) (hs.set i (.slice (some ⟨g, 0, none⟩) J cr)) (rows.set i ((rows.getD i []).take J)) := by
 have hn := h.n_eq
 have ho := h.out
 rw [← hn] at ho
 have hu := h.inn i hi
 rw [hg] at hu
 have hu2 := own_cut hu hJ
 have eb : ∀ x : Value, Far x (hs.getD i undef) → Far x (.slice (some ⟨g, 0, none⟩) J cr) := fun x hx k h1 h2 => hx k h1 (by rw [hg]; exact h2)
 exact OwnM.put2 h.len hn ho hi (fun r hr _ => h.inn r hr) (fun r s hr hs' _ _ hne => h.far r s hr hs' hne) (fun r hr _ => h.top r hr)
  (by rw [List.length_take, Nat.min_eq_left hJ]; simpa [ints, List.map_take] using hu2) (fun r hr hne => eb _ (h.far r i hr hi hne)) (eb _ (h.top i hi))
theorem OwnM.takeRows {w : World} {B G n c : Nat} {hs : List Value} {rows : List (List Int)} (h : OwnM w B (.slice (some ⟨G, 0, none⟩) n c) hs rows) {i : Nat} (hi : i ≤ rows.length) : OwnM w B (.slice (some ⟨G, 0, none⟩) i c) (hs.take i) (rows.take i) := by
 have hn := h.n_eq
 have ho := h.out
 rw [← hn] at ho
 have hl := h.len
 have hT : (rows.take i).length = i := by rw [List.length_take]; omega
 have g1 : ∀ r, r < i → (hs.take i).getD r undef = hs.getD r undef ∧ (rows.take i).getD r [] = rows.getD r [] := fun r hr => by
  simp only [List.getD_eq_getElem?_getD, List.getElem?_take_of_lt hr]; exact ⟨trivial, trivial⟩
 refine ⟨by rw [List.length_take, List.length_take]; omega, by rw [hT]; exact own_cut ho (by omega), fun r hr => ?_, fun r s hr hs' hne => ?_, fun r hr => ?_⟩
 · rw [hT] at hr
   rw [(g1 r hr).1, (g1 r hr).2]; exact h.inn r (by omega)
 · rw [hT] at hr hs'
   rw [(g1 r hr).1, (g1 s hs').1]; exact h.far r s (by omega) (by omega) hne
 · rw [hT] at hr
   rw [(g1 r hr).1]; exact h.top r (by omega)
theorem foot_take {v : Value} {hs : List Value} {i k : Nat} (h : foot v (hs.take i) k) : foot v hs k := by
 rcases h with hk | ⟨r, hr, hk⟩
 · exact .inl hk
 · rw [List.length_take] at hr
   refine .inr ⟨r, by omega, ?_⟩
   rw [List.getD_eq_getElem?_getD, List.getElem?_take_of_lt (by omega), ← List.getD_eq_getElem?_getD] at hk
   exact hk
theorem foot_same {v u : Value} {hs : List Value} {i : Nat} (h : ∀ k, u.ownBlock = some k → foot v hs k) {k : Nat} (hk : foot v (hs.set i u) k) : foot v hs k := by
 rcases hk with hk | ⟨r, hr, hk⟩
 · exact .inl hk
 · rw [List.length_set] at hr
   by_cases e : i = r
   · subst e
     rw [List.getD_eq_getElem?_getD, List.getElem?_set_self hr] at hk
     exact h k hk
   · rw [List.getD_eq_getElem?_getD, List.getElem?_set_ne e, ← List.getD_eq_getElem?_getD] at hk
     exact .inr ⟨r, hr, hk⟩
def SlidOut (e : Ending) (w w' : World) (B : Nat) (v : Value) (hs : List Value) (s : List (List Int)) (I J : Nat) : Prop := ∃ (v' : Value) (hs' : List Value) (out : List (List Int)) (i j : Nat), e = .returned (.tuple #[v', .int .i64 i, .int .i64 j]) ∧ OwnM w' B v' hs' out ∧ Slid s I J out i j ∧ Fr w w' (foot v hs) ∧ ∀ k, foot v' hs' k → foot v hs k
theorem slid_any {B : Nat} (v : Value) (hs0 : List Value) (s0 : List (List Int)) (I0 J0 : Nat) (w : World) (hB : B ≤ w.heap.size) (hm : OwnM w B v hs0 s0) (hc : Cfg s0 I0 J0) (hs1 : s0.length ≤ 1000) (hs2 : ∀ a, rl s0 a ≤ 1000) :
 Calls Tryz.prog 180 #[v, .int .i64 I0, .int .i64 J0] w fun e w' => SlidOut e w w' B v hs0 s0 I0 J0 ∧ Below B w w' := by
 have hmo := hm.out
 obtain ⟨G, c, rfl, -, -⟩ := hmo.form (by have := hc.inI; omega)
 have HM0 := Lib.hid hm
 have HC0 := Lib.hid hc
 have HS2 := Lib.hid hs2
 clear hm hc hmo hs2
 go_enter Tryz.func180, Tryz.ntmps180
 go_wp2
 go_loopw [0, 1, 2] (fun sv iv jv wr => ∃ (s : List (List Int)) (I J : Nat), sv = .slice (some ⟨G, 0, none⟩) s0.length c ∧ iv = .int .i64 I ∧ jv = .int .i64 J ∧ s.length = s0.length ∧ (∀ a, rl s a = rl s0 a) ∧ OwnM wr B (.slice (some ⟨G, 0, none⟩) s0.length c) hs0 s ∧ Cfg s I J ∧ (∀ out i j, Slid s I J out i j → Slid s0 I0 J0 out i j) ∧ Below B w wr ∧ Fr w wr (foot (.slice (some ⟨G, 0, none⟩) s0.length c) hs0)) (fun _ iv jv _ => s0.length + rl s0 0 - ((intOf iv).toNat + (intOf jv).toNat))
 case atStart => exact ⟨s0, I0, J0, rfl, rfl, rfl, rfl, fun _ => rfl, HM0.out, HC0.out, fun _ _ _ h => h, Below.refl _ _, Fr.refl _ _⟩
 case round =>
  clear HM0 HC0
  obtain ⟨s, I, J, rfl, rfl, rfl, hsl, hrl, hm, hc, hgo, hW, hfr⟩ := hrel
  have hsz := Nat.le_trans hB hW.size
  have hI := hc.inI
  have hat := hc.at_
  have hJ0 : rl s I ≤ rl s0 0 := by rw [← hrl]; exact hc.lens 0 I (Nat.zero_le _)
  have hr0 := HS2.out 0
  have hlen2 := hc.lens I (I + 1) (by omega)
  obtain ⟨gr, cr, hhr, hcc, hor, hg1, hg2⟩ := hm.row (r := I) hI (by unfold rl at hat; omega)
  have hmo := hm.out
  rw [hsl] at hmo
  have hfzG := hmo.frozenAt I
  obtain ⟨q, hq⟩ : ∃ q, q = rl s I := ⟨_, rfl⟩
  obtain ⟨q2, hq2⟩ : ∃ q2, q2 = rl s (I + 1) := ⟨_, rfl⟩
  have hor' : wr.ownsRow B 3 1 (.slice (some ⟨gr, 0, none⟩) q cr) q (ints (s.getD I [])) := by rw [hq]; exact hor
  have hcc' : wr.cell? ⟨G, I, none⟩ = some (.slice (some ⟨gr, 0, none⟩) q cr) := by rw [hq]; exact hcc
  have hhr' : hs0.getD I undef = .slice (some ⟨gr, 0, none⟩) (s.getD I []).length cr := hhr
  have hfoot : foot (.slice (some ⟨G, 0, none⟩) s0.length c) hs0 gr := foot_row (i := I) (by rw [hm.len]; exact hI) (by rw [hhr]; rfl)
  have hcap := (own_cap hor').1
  have hcap2 := (own_cap hor').2
  have HHR := Lib.hid hhr'
  have HOR := Lib.hid hor'
  have HF := Lib.hid hfoot
  have HQ := Lib.hid hq
  have HQ2 := Lib.hid hq2
  have HM := Lib.hid hm
  have HC := Lib.hid hc
  have HGO := Lib.hid hgo
  have HW := Lib.hid hW
  have HFR := Lib.hid hfr
  have HRL := Lib.hid hrl
  have HSL := Lib.hid hsl
  have hcG1 := (own_cap hmo).1
  have hcG2 := (own_cap hmo).2
  have hIl : I < s0.length := by omega
  have hI9 : I ≤ 1000 := by omega
  rw [← hq] at hat hJ0 hlen2
  rw [← hq2] at hlen2
  have hJ9 : J ≤ 1000 := by omega
  have hq9 : q ≤ 1000 := by omega
  have hlow : ¬ I + 1 < s0.length → q2 = 0 := fun hn => by rw [hq2]; unfold rl; rw [getD_far (by omega)]; rfl
  have hrow2 : I + 1 < s0.length → ∃ gr2 cr2, wr.cell? ⟨G, I + 1, none⟩ = some (.slice (some ⟨gr2, 0, none⟩) q2 cr2) ∧ wr.ownsRow B 3 1 (.slice (some ⟨gr2, 0, none⟩) q2 cr2) q2 (ints (s.getD (I + 1) [])) := fun hn => by
   obtain ⟨gr2, cr2, _, h1, h2, _⟩ := hm.row (r := I + 1) (by omega) (by have := hc.ne (I + 1) (by omega); unfold rl at this; omega)
   exact ⟨gr2, cr2, by rw [hq2]; exact h1, by rw [hq2]; exact h2⟩
  have HR2 := Lib.hid hrow2
  clear hor hcc hhr hfoot hm hc hgo hW hfr hrl hmo hrow2 hq hq2 hsl hor'
  have HG1 : Hid (B ≤ G) := (HM.out.out.lt G rfl).1
  by_cases hR : J + 1 < q
  · have dR : decide ((J : Int) + 1 < (q : Int)) = true := decide_eq_true (by omega)
    have hxa : Hid (0 < cell s I (J + 1)) := HC.out.rt (J + 1) (by omega) (by rw [← HQ.out]; exact hR)
    have hgx := own_get HOR.out (getD_some (l := s.getD I []) (j := J + 1) (by have := HQ.out; unfold rl at this; omega))
    obtain ⟨x, hx⟩ : ∃ x, x = cell s I (J + 1) := ⟨_, rfl⟩
    have hx' : (s.getD I []).getD (J + 1) 0 = x := by rw [hx]; rfl
    rw [hx'] at hgx
    rw [← hx] at hxa
    have HX := Lib.hid hx
    have hx0 := hxa.out
    clear hx hx' hxa
    go_upto_region 4 with fail
    go_cut [41] (fun bv wz => bv = .bool (decide (J < q2)) ∧ wr = wz)
    case first =>
     by_cases hn : I + 1 < s0.length
     · have dn : decide ((I : Int) + 1 < (s0.length : Int)) = true := decide_eq_true (by omega)
       obtain ⟨gr2, cr2, hc2, ho2⟩ := HR2.out hn
       clear ho2
       go_wp2
       go_meet
       exact ⟨by simp, rfl⟩
     · have dn : decide ((I : Int) + 1 < (s0.length : Int)) = false := decide_eq_false (by omega)
       have hq0 : decide (J < q2) = false := decide_eq_false (by have := hlow hn; omega)
       have HQ0 := Lib.hid hq0
       clear hq0
       go_wp2
       go_meet
       exact ⟨by rw [HQ0.out], rfl⟩
    case rest =>
     obtain ⟨rfl, rfl⟩ := hcut
     by_cases hDn : J < q2
     · have dD : decide (J < q2) = true := decide_eq_true hDn
       have hIn : I + 1 < s0.length := by
        apply Classical.byContradiction
        intro hn
        have := hlow hn; omega
       obtain ⟨gr2, cr2, hc2, ho2⟩ := HR2.out (by omega)
       have hya : Hid (0 < cell s (I + 1) J) := HC.out.dn (I + 1) (by omega) (by rw [← HQ2.out]; exact hDn)
       have hgy := own_get ho2 (getD_some (l := s.getD (I + 1) []) (j := J) (by have := HQ2.out; unfold rl at this; omega))
       obtain ⟨y, hy⟩ : ∃ y, y = cell s (I + 1) J := ⟨_, rfl⟩
       have hy' : (s.getD (I + 1) []).getD J 0 = y := by rw [hy]; rfl
       rw [hy'] at hgy
       rw [← hy] at hya
       have HY := Lib.hid hy
       have hy0 := hya.out
       clear hy hy' hya ho2
       by_cases hyx : y ≤ x
       · have dyx : decide (y ≤ x) = true := decide_eq_true hyx
         have hck := own_get HOR.out (getD_some (l := s.getD I []) (j := J) (by have := HQ.out; unfold rl at this; omega))
         obtain ⟨z, hz⟩ : ∃ z, z = (s.getD I []).getD J 0 := ⟨_, rfl⟩
         rw [← hz] at hck
         clear hz
         have hfk := HOR.out.frozenAt J
         have hst := HM.out.setIn (r := I) (g := gr) (c := cr) (by rw [HSL.out]; exact hIl) HHR.out J y
         have HST := Lib.hid hst
         have hW2 := Lib.hid (HW.out.setCell (p := ⟨gr, J, none⟩) hg1 (.int .i64 y))
         have hF2 := Lib.hid (HFR.out.setCell (a := ⟨gr, J, none⟩) (y := .int .i64 y) HF.out)
         clear hst
         have hng : Hid (Cfg (put s I J y) (I + 1) J) := by
          show Cfg _ _ _
          rw [HY.out]
          exact HC.out.goD (by rw [← HQ2.out]; exact hDn) (fun hh => by rw [← HY.out]; rw [← HX.out]; exact hyx)
         have hng2 : Hid (∀ out i j, Slid (put s I J y) (I + 1) J out i j → Slid s0 I0 J0 out i j) := fun out i j h => HGO.out out i j (.down (by rw [← HQ2.out]; exact hDn) (fun hh => by rw [← HY.out]; rw [← HX.out]; exact hyx) (by rw [← HY.out]; exact h))
         go_wp2
         go_roundw
         case rel => exact ⟨put s I J y, I + 1, J, rfl, by go_num, rfl, by rw [put_length]; exact HSL.out, fun a => by rw [put_rl]; exact HRL.out a, HST.out, hng.out, hng2.out, hW2.out, hF2.out⟩
         case measure => simp [intOf]; omega
       · have dyx : decide (y ≤ x) = false := decide_eq_false hyx
         have hck := own_get HOR.out (getD_some (l := s.getD I []) (j := J) (by have := HQ.out; unfold rl at this; omega))
         obtain ⟨z, hz⟩ : ∃ z, z = (s.getD I []).getD J 0 := ⟨_, rfl⟩
         rw [← hz] at hck
         clear hz
         have hfk := HOR.out.frozenAt J
         have hst := HM.out.setIn (r := I) (g := gr) (c := cr) (by rw [HSL.out]; exact hIl) HHR.out J x
         have HST := Lib.hid hst
         have hW2 := Lib.hid (HW.out.setCell (p := ⟨gr, J, none⟩) hg1 (.int .i64 x))
         have hF2 := Lib.hid (HFR.out.setCell (a := ⟨gr, J, none⟩) (y := .int .i64 x) HF.out)
         clear hst
         have hng : Hid (Cfg (put s I J x) I (J + 1)) := by
          show Cfg _ _ _
          rw [HX.out]
          exact HC.out.goR (by rw [← HQ.out]; exact hR) (fun cc hh1 hh2 => by rw [← HX.out]; rw [hh2, ← HY.out]; omega)
         have hng2 : Hid (∀ out i j, Slid (put s I J x) I (J + 1) out i j → Slid s0 I0 J0 out i j) := fun out i j h => HGO.out out i j (.right (by rw [← HQ.out]; exact hR) (fun hh => by rw [← HX.out]; rw [← HY.out]; omega) (by rw [← HX.out]; exact h))
         go_wp2
         go_roundw
         case rel => exact ⟨put s I J x, I, J + 1, rfl, rfl, by go_num, by rw [put_length]; exact HSL.out, fun a => by rw [put_rl]; exact HRL.out a, HST.out, hng.out, hng2.out, hW2.out, hF2.out⟩
         case measure => simp [intOf]; omega
     · have dD : decide (J < q2) = false := decide_eq_false hDn
       have hck := own_get HOR.out (getD_some (l := s.getD I []) (j := J) (by have := HQ.out; unfold rl at this; omega))
       obtain ⟨z, hz⟩ : ∃ z, z = (s.getD I []).getD J 0 := ⟨_, rfl⟩
       rw [← hz] at hck
       clear hz
       have hfk := HOR.out.frozenAt J
       have hst := HM.out.setIn (r := I) (g := gr) (c := cr) (by rw [HSL.out]; exact hIl) HHR.out J x
       have HST := Lib.hid hst
       have hW2 := Lib.hid (HW.out.setCell (p := ⟨gr, J, none⟩) hg1 (.int .i64 x))
       have hF2 := Lib.hid (HFR.out.setCell (a := ⟨gr, J, none⟩) (y := .int .i64 x) HF.out)
       clear hst
       have hng : Hid (Cfg (put s I J x) I (J + 1)) := by
        show Cfg _ _ _
        rw [HX.out]
        exact HC.out.goR (by rw [← HQ.out]; exact hR) (fun cc hh1 hh2 => by rw [← HX.out]; exact absurd hh1 (by rw [← HQ2.out]; exact hDn))
       have hng2 : Hid (∀ out i j, Slid (put s I J x) I (J + 1) out i j → Slid s0 I0 J0 out i j) := fun out i j h => HGO.out out i j (.right (by rw [← HQ.out]; exact hR) (fun hh => by rw [← HX.out]; exact absurd hh (by rw [← HQ2.out]; exact hDn)) (by rw [← HX.out]; exact h))
       go_wp2
       go_roundw
       case rel => exact ⟨put s I J x, I, J + 1, rfl, rfl, by go_num, by rw [put_length]; exact HSL.out, fun a => by rw [put_rl]; exact HRL.out a, HST.out, hng.out, hng2.out, hW2.out, hF2.out⟩
       case measure => simp [intOf]; omega
  · have dR : decide ((J : Int) + 1 < (q : Int)) = false := decide_eq_false (by omega)
    go_upto_region 4 with fail
    go_cut [41] (fun bv wz => bv = .bool (decide (J < q2)) ∧ wr = wz)
    case first =>
     by_cases hn : I + 1 < s0.length
     · have dn : decide ((I : Int) + 1 < (s0.length : Int)) = true := decide_eq_true (by omega)
       obtain ⟨gr2, cr2, hc2, ho2⟩ := HR2.out hn
       clear ho2
       go_wp2
       go_meet
       exact ⟨by simp, rfl⟩
     · have dn : decide ((I : Int) + 1 < (s0.length : Int)) = false := decide_eq_false (by omega)
       have hq0 : decide (J < q2) = false := decide_eq_false (by have := hlow hn; omega)
       have HQ0 := Lib.hid hq0
       clear hq0
       go_wp2
       go_meet
       exact ⟨by rw [HQ0.out], rfl⟩
    case rest =>
     obtain ⟨rfl, rfl⟩ := hcut
     by_cases hDn : J < q2
     · have dD : decide (J < q2) = true := decide_eq_true hDn
       have hIn : I + 1 < s0.length := by
        apply Classical.byContradiction
        intro hn
        have := hlow hn; omega
       obtain ⟨gr2, cr2, hc2, ho2⟩ := HR2.out (by omega)
       have hya : Hid (0 < cell s (I + 1) J) := HC.out.dn (I + 1) (by omega) (by rw [← HQ2.out]; exact hDn)
       have hgy := own_get ho2 (getD_some (l := s.getD (I + 1) []) (j := J) (by have := HQ2.out; unfold rl at this; omega))
       obtain ⟨y, hy⟩ : ∃ y, y = cell s (I + 1) J := ⟨_, rfl⟩
       have hy' : (s.getD (I + 1) []).getD J 0 = y := by rw [hy]; rfl
       rw [hy'] at hgy
       rw [← hy] at hya
       have HY := Lib.hid hy
       have hy0 := hya.out
       clear hy hy' hya ho2
       have hck := own_get HOR.out (getD_some (l := s.getD I []) (j := J) (by have := HQ.out; unfold rl at this; omega))
       obtain ⟨z, hz⟩ : ∃ z, z = (s.getD I []).getD J 0 := ⟨_, rfl⟩
       rw [← hz] at hck
       clear hz
       have hfk := HOR.out.frozenAt J
       have hst := HM.out.setIn (r := I) (g := gr) (c := cr) (by rw [HSL.out]; exact hIl) HHR.out J y
       have HST := Lib.hid hst
       have hW2 := Lib.hid (HW.out.setCell (p := ⟨gr, J, none⟩) hg1 (.int .i64 y))
       have hF2 := Lib.hid (HFR.out.setCell (a := ⟨gr, J, none⟩) (y := .int .i64 y) HF.out)
       clear hst
       have hng : Hid (Cfg (put s I J y) (I + 1) J) := by
        show Cfg _ _ _
        rw [HY.out]
        exact HC.out.goD (by rw [← HQ2.out]; exact hDn) (fun hh => by rw [← HY.out]; exact absurd hh (by rw [← HQ.out]; exact hR))
       have hng2 : Hid (∀ out i j, Slid (put s I J y) (I + 1) J out i j → Slid s0 I0 J0 out i j) := fun out i j h => HGO.out out i j (.down (by rw [← HQ2.out]; exact hDn) (fun hh => by rw [← HY.out]; exact absurd hh (by rw [← HQ.out]; exact hR)) (by rw [← HY.out]; exact h))
       go_wp2
       go_roundw
       case rel => exact ⟨put s I J y, I + 1, J, rfl, by go_num, rfl, by rw [put_length]; exact HSL.out, fun a => by rw [put_rl]; exact HRL.out a, HST.out, hng.out, hng2.out, hW2.out, hF2.out⟩
       case measure => simp [intOf]; omega
     · have dD : decide (J < q2) = false := decide_eq_false hDn
       have hst := HM.out.cutRow (i := I) (by rw [HSL.out]; exact hIl) HHR.out (J := J) (by have := HQ.out; unfold rl at this; omega)
       have HST := Lib.hid hst
       have hW2 := Lib.hid (HW.out.setCell (p := ⟨G, I, none⟩) HG1.out (.slice (some ⟨gr, 0, none⟩) J cr))
       have hF2 := Lib.hid (HFR.out.setCell (a := ⟨G, I, none⟩) (y := .slice (some ⟨gr, 0, none⟩) J cr) (foot_top rfl))
       have hng : Hid (Slid s0 I0 J0 (cut s I J) I J) := HGO.out _ _ _ (.stop (by rw [← HQ.out]; omega) (by rw [← HQ2.out]; omega))
       have hft : Hid (∀ k, foot (.slice (some ⟨G, 0, none⟩) s0.length c) (hs0.set I (.slice (some ⟨gr, 0, none⟩) J cr)) k → foot (.slice (some ⟨G, 0, none⟩) s0.length c) hs0 k) := fun k hk => foot_same (fun k' hk' => by
        have hk2 : (some gr : Option Nat) = some k' := hk'
        cases hk2
        exact HF.out) hk
       clear hst
       by_cases hJz : J = 0
       · subst hJz
         have htk := HST.out.takeRows (i := I) (by rw [List.length_set, HSL.out]; omega)
         have e1 : List.take I (s.set I ((s.getD I []).take 0)) = cut s I 0 := by
          unfold cut
          rw [if_pos rfl, List.take_set, List.set_eq_of_length_le (by rw [List.length_take]; omega)]
         rw [e1] at htk
         have HTK := Lib.hid htk
         clear htk e1
         go_wp2
         go_ret3
         exact ⟨⟨_, _, _, I, 0, rfl, HTK.out, hng.out, hF2.out, fun k hk => hft.out k (by
          rcases foot_take hk with h5 | h5
          · exact .inl h5
          · exact .inr h5)⟩, hW2.out⟩
       · have dJ : decide ((J : Int) = 0) = false := decide_eq_false (by omega)
         have e1 : s.set I ((s.getD I []).take J) = cut s I J := by
          unfold cut
          rw [if_neg hJz]
         have HST2 := HST.out
         rw [e1] at HST2
         have HTK := Lib.hid HST2
         clear HST2 e1
         go_wp2
         go_ret3
         exact ⟨⟨_, _, _, I, J, rfl, HTK.out, hng.out, hF2.out, hft.out⟩, hW2.out⟩
def Corner (T : List (List Int)) (k : Nat) : Prop := k < T.length ∧ 0 < hol (T.getD k []) ∧ (k + 1 = T.length ∨ hol (T.getD (k + 1) []) < hol (T.getD k []))
theorem Corner.start {T : List (List Int)} {k : Nat} (h : SkOk T) (hc : Corner T k) : hol (T.getD k []) - 1 < rl T k ∧ cell T k (hol (T.getD k []) - 1) = 0 ∧ (∀ q, hol (T.getD k []) - 1 < q → q < rl T k → 0 < cell T k q) ∧ (∀ i', k < i' → hol (T.getD k []) - 1 < rl T i' → 0 < cell T i' (hol (T.getD k []) - 1)) := by
 obtain ⟨h1, h2, h3⟩ := hc
 have hk := h.sk.1
 have hle := hol_le (T.getD k [])
 refine ⟨by unfold rl; omega, hol_zero (by omega), fun q h4 h5 => ?_, fun i' h4 h5 => ?_⟩
 · have h6 := hk.nn k q h5
   have h7 : ¬ cell T k q = 0 := fun e => by have := (hk.zhol k h5).1 e; omega
   omega
 · have hi' := rl_in h5
   have h3' : hol (T.getD (k + 1) []) < hol (T.getD k []) := by
    rcases h3 with e | e
    · omega
    · exact e
   have h6 := hk.nn i' _ h5
   have h8 : hol (T.getD k []) - 1 < rl T (k + 1) := by have := hk.lens (k + 1) i' (by omega); omega
   have h9 := hk.nn (k + 1) _ h8
   have h7 : ¬ cell T i' (hol (T.getD k []) - 1) = 0 := fun e => by
    have h10 : cell T (k + 1) (hol (T.getD k []) - 1) = 0 := by
     by_cases e2 : i' = k + 1
     · rw [← e2]; exact e
     · rcases hk.col (k + 1) i' _ (by omega) h5 with h11 | h11
       · omega
       · exact h11.1
    have := (hk.zhol (k + 1) h8).1 h10
    omega
   omega
theorem OwnM.low {w : World} {B B' : Nat} {v : Value} {hs : List Value} {rows : List (List Int)} (h : OwnM w B v hs rows) (hB : B' ≤ B) : OwnM w B' v hs rows := ⟨h.len, h.out.mono hB, fun r hr => (h.inn r hr).mono hB, h.far, h.top⟩
def RectOut (B : Nat) (e : Ending) (w : World) (T : List (List Int)) : Prop := ∃ (k : Int) (rows : List (List Int)) (A' : Option Addr) (c' : Nat), e = .returned (.tuple #[.slice A' rows.length c', .int .i64 k]) ∧ OwnR w B A' c' rows ∧ rows.length ≤ 9223372036854775807 ∧ (k = 0 → SkOk T ∧ rows = insW [] (sword T)) ∧ (SkOk T → k = 0) ∧ (k ≠ 0 → rows = [])
theorem rect_own {w : World} {B : Nat} {v : Value} {hs : List Value} {rows T : List (List Int)} (h : OwnM w B v hs rows) (hT : SkOk T) (hok : SkOk rows) (hk : Kn (sword T) (sword rows)) (h0 : ∀ i j, ¬ Zero rows i j) : RectOut B (.returned (.tuple #[v, .int .i64 0])) w T := by
 obtain ⟨A, c, rfl, hs', h1, h2⟩ := h.ownR
 exact ⟨0, rows, A, c, rfl, hs', by omega, fun _ => ⟨hT, hok.done hk h0⟩, fun _ => rfl, fun e => absurd rfl e⟩
structure Recting (T t : List (List Int)) (m : Nat) : Prop where
 ok : SkOk t
 kn : Kn (sword T) (sword t)
 no : ∀ a b, m ≤ a → ¬ Zero t a b
theorem Recting.start {T : List (List Int)} (h : SkOk T) : Recting T T T.length := ⟨h, .refl _, fun a b ha hz => by have := rl_in hz.1; omega⟩
theorem Recting.corner {T t : List (List Int)} {k : Nat} (h : Recting T t (k + 1)) (hk : k < t.length) (h0 : 0 < hol (t.getD k [])) : Corner t k := by
 refine ⟨hk, h0, ?_⟩
 by_cases e : k + 1 = t.length
 · exact .inl e
 · refine .inr ?_
   have : hol (t.getD (k + 1) []) = 0 := by
    apply Classical.byContradiction
    intro hn
    have h1 := hol_le (t.getD (k + 1) [])
    exact h.no (k + 1) 0 (Nat.le_refl _) ⟨by unfold rl; omega, hol_zero (by omega)⟩
   omega
theorem Recting.slide {T t out : List (List Int)} {k x i j : Nat} (h : Recting T t (k + 1)) (hc : Corner t k) (hx : hol (t.getD k []) - 1 = x) (hs : Slid t k x out i j) : Recting T out (k + 1) ∧ boxes out + 1 = boxes t := by
 obtain ⟨s1, s2, s3, s4⟩ := hc.start h.ok
 subst hx
 obtain ⟨p1, p2, p3, p4⟩ := h.ok.slide s1 s2 s3 s4 hs
 exact ⟨⟨p1, h.kn.trans p2, fun a b ha hz => h.no a b ha ((p3 a b).1 hz).1⟩, p4⟩
theorem Recting.next {T t : List (List Int)} {k : Nat} (h : Recting T t (k + 1)) (h0 : k < t.length → hol (t.getD k []) = 0) : Recting T t k := by
 refine ⟨h.ok, h.kn, fun a b ha hz => ?_⟩
 by_cases e : a = k
 · subst e
   have h1 := h0 (rl_in hz.1)
   have := (h.ok.sk.1.zhol a hz.1).1 hz.2
   omega
 · exact h.no a b (by omega) hz
theorem Recting.cfg {T t : List (List Int)} {k x : Nat} (h : Recting T t (k + 1)) (hc : Corner t k) (hx : hol (t.getD k []) - 1 = x) : Cfg t k x := by
 have hst := hc.start h.ok
 subst hx
 exact (Cfg.start h.ok.sk.1 hst.1 hst.2.1 hst.2.2.1 hst.2.2.2).1
theorem rectify_any (A : Option Addr) (cap : Nat) (T : List (List Int)) (w : World) (hT : T.length ≤ 9223372036854775807) (h : SR w w.heap.size A T) :
 Calls Tryz.prog 138 #[.slice A T.length cap] w fun e w' => RectOut w.heap.size e w' T ∧ Below w.heap.size w w' := by
 go_enter Tryz.func138, Tryz.ntmps138
 go_wp2_with (first | (go_at_call 177; refine (scheck_any A cap T _ hT h).mono ?_) | fail)
 rintro e w1 ⟨⟨k, rfl, hk1, hk2⟩, hb1⟩
 by_cases hk0 : k = 0
 · have hok := hk1 hk0
   have hT4 := hok.small.1
   have hT5 := hok.small.2
   have h1 := h.now hb1 (Nat.le_refl _)
   have HOK := Lib.hid hok
   have e1 : T.length < 1000000 := by omega
   have e2 : ∀ i, (T.getD i []).length < 1000000 := fun i => by have := hT5 i; omega
   subst hk0
   clear hk1 hk2 hok h
   go_wp2_with (first | (go_at_call 178; refine (stwin_any A cap T _ e1 e2 h1).mono ?_) | fail)
   rintro e w2 ⟨⟨v, hs, rfl, hm⟩, hb2⟩
   obtain ⟨A2, c2, rfl, -, -, -⟩ := hm.sr
   have hW2 : Below w.heap.size w w2 := hb1.trans (hb2.mono hb1.size)
   have HM := Lib.hid (hm.low hb1.size)
   have HW2 := Lib.hid hW2
   have HST := Lib.hid (Recting.start HOK.out)
   clear hm hb1 hb2 h1 e1 e2 hT5
   go_wp2
   go_loopw [5, 6] (fun tv iv wr => ∃ (m : Nat) (z : Int) (t : List (List Int)) (hs : List Value) (A5 : Option Addr) (c5 : Nat), m ≤ 40 ∧ iv = .int .i64 z ∧ z + 1 = (m : Int) ∧ tv = .slice A5 t.length c5 ∧ Recting T t m ∧ OwnM wr w.heap.size (.slice A5 t.length c5) hs t ∧ Below w.heap.size w wr) (fun _ iv _ => (Go.RowKit.intOf iv + 1).toNat)
   case atStart => exact ⟨T.length, (T.length : Int) - 1, T, hs, A2, c2, by omega, rfl, by omega, rfl, HST.out, HM.out, HW2.out⟩
   case round =>
    clear HM HW2 HST
    obtain ⟨m, z, t, hs, A5, c5, hm40, rfl, hz, rfl, hrec, hm, hW⟩ := hrel
    have HREC := Lib.hid hrec
    have HM := Lib.hid hm
    have HW := Lib.hid hW
    clear hrec hm hW
    by_cases hz0 : 0 ≤ z
    · obtain ⟨i, rfl⟩ : ∃ i : Nat, z = i := ⟨z.toNat, by omega⟩
      have him : m = i + 1 := by omega
      subst him
      have di : decide ((0 : Int) ≤ (i : Int)) = true := decide_eq_true hz0
      go_wp2
      go_loopg [5] (boxes t) (fun gn tv wx => ∃ (t : List (List Int)) (hs : List Value) (A5 : Option Addr) (c5 : Nat), gn = boxes t ∧ tv = .slice A5 t.length c5 ∧ Recting T t (i + 1) ∧ OwnM wx w.heap.size (.slice A5 t.length c5) hs t ∧ Below w.heap.size w wx)
      case atStart => exact ⟨t, hs, A5, c5, rfl, rfl, HREC.out, HM.out, HW.out⟩
      case round =>
       clear HREC HM HW
       obtain ⟨t, hs, A5, c5, hgn, rfl, hrec, hm, hW⟩ := hrel
       have HREC := Lib.hid hrec
       have HGN := Lib.hid hgn
       have HW := Lib.hid hW
       have HM := Lib.hid hm
       have hB := hW.size
       obtain ⟨A6, c6, e6, hsr, hl6, hc6⟩ := hm.sr
       obtain ⟨rfl, rfl⟩ : A5 = A6 ∧ c5 = c6 := by injection e6 with g1 _ g3; exact ⟨g1, g3⟩
       have ht40 := hrec.ok.small.1
       have ht5 := hrec.ok.small.2
       by_cases hit : i < t.length
       · have dt : decide ((i : Int) < (t.length : Int)) = true := decide_eq_true (by omega)
         obtain ⟨b, o, rfl, hb⟩ := hsr.addr (by omega)
         obtain ⟨Ar, cr, hcl, hr, hrl⟩ := hsr.at_ hit
         have hca := holes_any Ar cr (t.getD i []) wr hrl hr
         have hx40 : hol (t.getD i []) ≤ 40 := Nat.le_trans (hol_le _) (ht5 i)
         have hcorner := hrec.corner hit
         have hnext := hrec.next (k := i)
         obtain ⟨x1, hx1⟩ : ∃ x1, x1 = hol (t.getD i []) := ⟨_, rfl⟩
         rw [← hx1] at hca hx40 hcorner hnext
         have HX1 := Lib.hid hx1
         have HCA := Lib.hid hca
         have HCO := Lib.hid hcorner
         have HNX := Lib.hid hnext
         have hr5 : ∀ a, rl t a ≤ 1000 := fun a => Nat.le_trans (ht5 a) (by omega)
         obtain ⟨q, hq⟩ : ∃ q, q = (t.getD i []).length := ⟨_, rfl⟩
         rw [← hq] at hcl HCA
         have HR5 := Lib.hid hr5
         clear hrec hgn hm hW hsr hr hrl hca hcorner hnext hx1 hq ht5 hr5 e6
         by_cases hx0 : 0 < x1
         · have dx : decide ((0 : Int) < (x1 : Int)) = true := decide_eq_true (by omega)
           obtain ⟨x, rfl⟩ : ∃ x, x1 = x + 1 := ⟨x1 - 1, by omega⟩
           have hco := HCO.out hx0
           have hxe : hol (t.getD i []) - 1 = x := by have := HX1.out; omega
           have hcfg := HREC.out.cfg hco hxe
           have HC1 := Lib.hid hco
           have HXE := Lib.hid hxe
           have HCFG := Lib.hid hcfg
           have e3 : t.length ≤ 1000 := by omega
           have e4 : (((x + 1 : Nat) : Int) - 1) = (x : Int) := by omega
           have E4 := Lib.hid e4
           clear hco hxe hcfg e4
           go_wp2_with (first | (go_at_call 179; refine (HCA.out).mono ?_) | fail)
           rintro e w4 ⟨rfl, hw4⟩
           obtain rfl := hw4.symm
           go_wp2_with (first | (go_at_call 179; refine (HCA.out).mono ?_) | fail)
           rintro e w4 ⟨rfl, hw4⟩
           obtain rfl := hw4.symm
           have hw1 : IntKind.i64.wrap (x : Int) = (x : Int) := IntWalk.i64_in _ (by omega)
           go_wp2_with (first | (go_at_call 180; refine (slid_any _ hs t i x _ hB HM.out HCFG.out e3 HR5.out).mono ?_) | fail)
           rintro e w6 ⟨⟨v6, hs6, out, i6, j6, rfl, hm6, hsl, hfr, hft⟩, hb6⟩
           obtain ⟨A6, c6, rfl, -, -, -⟩ := hm6.sr
           obtain ⟨hrn, hbx⟩ := HREC.out.slide HC1.out HXE.out hsl
           have HRN := Lib.hid hrn
           have HBX := Lib.hid hbx
           have HM6 := Lib.hid hm6
           have hW6 := Lib.hid (HW.out.trans hb6)
           clear hrn hbx hm6 hsl hfr hft hb6 hw1
           go_wp2
           go_roundg (gk - 1)
           case rel => exact ⟨out, hs6, A6, c6, by have := HBX.out; have := HGN.out; omega, rfl, HRN.out, HM6.out, hW6.out⟩
           case measure => have := HBX.out; have := HGN.out; omega
         · have dx : decide ((0 : Int) < (x1 : Int)) = false := decide_eq_false (by omega)
           have hnx := HNX.out (fun _ => by omega)
           have HN := Lib.hid hnx
           clear hnx
           go_wp2_with (first | (go_at_call 179; refine (HCA.out).mono ?_) | fail)
           rintro e w4 ⟨rfl, hw4⟩
           obtain rfl := hw4.symm
           go_wp2
           go_roundw
           case rel => exact ⟨i, (i : Int) - 1, t, hs, _, c5, by omega, rfl, by omega, rfl, HN.out, HM.out, HW.out⟩
           case measure => simp [Go.RowKit.intOf]
       · have dt : decide ((i : Int) < (t.length : Int)) = false := decide_eq_false (by omega)
         have hnx := hrec.next (fun hh => absurd hh hit)
         have HN := Lib.hid hnx
         clear hnx hrec hgn hm hW hsr
         go_wp2
         go_roundw
         case rel => exact ⟨i, (i : Int) - 1, t, hs, _, c5, by omega, rfl, by omega, rfl, HN.out, HM.out, HW.out⟩
         case measure => simp [Go.RowKit.intOf]
    · have di : decide ((0 : Int) ≤ z) = false := decide_eq_false hz0
      have hm0 : m = 0 := by omega
      subst hm0
      have hfin := rect_own HM.out HOK.out HREC.out.ok HREC.out.kn (fun i j => HREC.out.no i j (Nat.zero_le _))
      have HFIN := Lib.hid hfin
      clear hfin
      go_wp2
      go_ret2
      exact ⟨HFIN.out, HW.out⟩
 · have dk : (k != 0) = true := by simpa using hk0
   have hno : Hid (¬ SkOk T) := fun hh => hk0 (hk2 hh)
   have HK0 := Lib.hid hk0
   clear hk1 hk2
   go_wp2
   go_ret2
   exact ⟨⟨k, [], none, 0, rfl, OwnR.nil _ _, by simp, fun e => absurd e HK0.out, fun e => absurd e hno.out, fun _ => rfl⟩, hb1⟩
def TwinOut (e : Ending) (w w' : World) (T : List (List Int)) : Prop := ∃ v hs, e = .returned v ∧ OwnM w' w.heap.size v hs T
theorem stwin_out (A : Option Addr) (cap : Nat) (T : List (List Int)) (w : World) (hT : T.length < 1000000) (hrl : ∀ i, (T.getD i []).length < 1000000) (h : SR w w.heap.size A T) :
 Calls Tryz.prog 178 #[.slice A T.length cap] w fun e w' => TwinOut e w w' T ∧ Below w.heap.size w w' := (stwin_any A cap T w hT hrl h).mono (fun _ _ h => h)
end
end Go.Proofs.YtpmkdihencepnaaGreatDoor
