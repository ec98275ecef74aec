/- Part of the proof. -/
import Derived.BigRegion
import Derived.Test.YtpmkdihencepnaaGreatDoorMk38
set_option maxHeartbeats 16000000
namespace Go.Proofs.YtpmkdihencepnaaGreatDoor
section
open Go.RowKit Go.Shelf
def Ent (g : FuncId) : Prop := ∀ args w, (callFunc g args).run Tryz.prog w = .ok (.enter g args) w
def FnC (fv : Value) (F : Rws → Rws × Int) (w : World) : Prop :=
 ∃ (g : FuncId) (lb : Array Value), fv = .func (.func g) #[] lb ∧ Ent g ∧ ∀ w1, Below w.heap.size w w1 → ∀ (A : Option Addr) (c : Nat) (T : Rws), TC w1 A T →
  Calls Tryz.prog g (#[.slice A T.length c] ++ lb) w1 fun e w' => DOut (F T) w1.heap.size e w' ∧ Below w1.heap.size w1 w'
def FnP (fv : Value) (F : Rws → Rws → Rws × Int) : Prop :=
 ∃ g : FuncId, fv = .func (.func g) #[] #[] ∧ Ent g ∧ ∀ (w1 : World) (A C : Option Addr) (c c2 : Nat) (T U : Rws), TC w1 A T → TC w1 C U →
  Calls Tryz.prog g #[.slice A T.length c, .slice C U.length c2] w1 fun e w' => DOut (F T U) w1.heap.size e w' ∧ Below w1.heap.size w1 w'
theorem opT_fn {f : FuncId} {F : Rws → Rws × Int} (h : OpT f F) (he : Ent f) (w : World) : FnC (.func (.func f) #[] #[]) F w :=
 ⟨f, #[], rfl, he, fun w1 _ A c T hT => h.call A c T w1 hT.2.1 hT.1⟩
theorem opP_fn {f : FuncId} {F : Rws → Rws → Rws × Int} (h : OpP f F) (he : Ent f) : FnP (.func (.func f) #[] #[]) F :=
 ⟨f, rfl, he, fun w1 A C c c2 T U hT hU => h.call A C c c2 T U w1 hT.2.1 hU.2.1 hT.1 hU.1⟩
def ofF (F : List Int → List Int × Int) : Rws → Rws × Int
 | [] => oneF (F [])
 | [r] => oneF (F r)
 | _ => ([], 3)
theorem below_of {w w1 w2 : World} (h1 : Below w.heap.size w w1) (h2 : Below w1.heap.size w1 w2) : Below w.heap.size w w2 := h1.trans (h2.mono h1.size)
theorem ofrow1 {f : FuncId} {F : List Int → List Int × Int} (hF : OpL f F) (ef : Ent f) (bx : Nat) (w : World) (hc : w.cell? ⟨bx, 0, none⟩ = some (.func (.func f) #[] #[])) (A : Option Addr) (c : Nat) (T : Rws) (hT : TC w A T) :
 Calls Tryz.prog 123 #[.slice A T.length c, .pointer (some ⟨bx, 0, none⟩)] w fun e w' => DOut (ofF F T) w.heap.size e w' ∧ Below w.heap.size w w' := by
 have key : ∀ (B : Option Addr) (cb : Nat) (r : List Int), r.length ≤ cb → r.length ≤ 9223372036854775807 → Sl w w.heap.size B (ints r) → ∀ n : Nat, n = T.length → ofF F T = oneF (F r) →
  Calls Tryz.prog 90 #[.slice A T.length c] w (fun e w' => e = .returned (.tuple #[.slice B r.length cb, .int .i64 0]) ∧ w = w') →
  Calls Tryz.prog 123 #[.slice A n c, .pointer (some ⟨bx, 0, none⟩)] w fun e w' => DOut (ofF F T) w.heap.size e w' ∧ Below w.heap.size w w' := fun B cb r h1 h2 h3 n hn he hrow => by
  subst hn
  rw [he]
  have HROW := Lib.hid hrow
  have HCALL := Lib.hid (hF.call B cb r w h1 h2 h3)
  have hfew := (hF.few r).1
  obtain ⟨R, hR⟩ : ∃ R, R = F r := ⟨_, rfl⟩
  rw [← hR] at HCALL hfew ⊢
  have HF := Lib.hid hfew
  have HE := Lib.hid ef
  have HC := Lib.hid hc
  clear hR he hrow hfew hT hF ef hc
  have ef := HE.out
  unfold Ent at ef
  have hc := HC.out
  go_enter Tryz.func123, Tryz.ntmps123
  go_wp2_with (first | (go_at_call 90; refine (HROW.out).mono ?_; rintro e w1 ⟨rfl, rfl⟩) | (go_at_fn f; refine (HCALL.out).mono ?_; rintro e w2 ⟨⟨A2, c2, rfl, ho2⟩, hb2⟩; have HO2 := Lib.hid ho2; have HB2 := Lib.hid hb2; have HONE := Lib.hid (one_any R A2 c2 w2 w.heap.size hb2.size HF.out ho2); clear ho2 hb2) | (go_at_call 94; refine (HONE.out).mono ?_; rintro e w3 ⟨⟨A3, c3, rfl, ho3⟩, hb3⟩; have HO3 := Lib.hid ho3; have HB3 := Lib.hid hb3; clear ho3 hb3) | fail)
  go_ret2
  exact ⟨⟨A3, c3, rfl, HO3.out⟩, below_of HB2.out HB3.out⟩
 match T, hT with
 | [], hT => exact key none 0 [] (Nat.le_refl _) (by simp) (Sl.nil _ _ _) 0 rfl rfl (row_nil A c w)
 | [r], hT =>
  obtain ⟨b, o, Ar, cr, hA, hlt, hcl, hl, hs, hm⟩ := hT.2.2 0 (by simp)
  exact key Ar cr r hl hm hs 1 rfl rfl (row_one A c b o _ w hA (by simpa using hcl))
 | r :: s :: t, hT =>
  have HROW := Lib.hid (row_many A c (r :: s :: t).length w (by simp))
  obtain ⟨n, hn⟩ : ∃ n, n = (r :: s :: t).length := ⟨_, rfl⟩
  rw [← hn] at HROW ⊢
  show Calls _ _ _ _ (fun e w' => DOut ([], 3) w.heap.size e w' ∧ Below w.heap.size w w')
  clear hT key hn
  go_enter Tryz.func123, Tryz.ntmps123
  go_wp2_with (first | (go_at_call 90; refine (HROW.out).mono ?_; rintro e w1 ⟨rfl, rfl⟩) | fail)
  go_ret2
  exact ⟨dout_bad _ _ _, Below.refl _ _⟩
theorem row_head {w : World} {A : Option Addr} {T : Rws} (c : Nat) (hT : TC w A T) (h1 : T.length ≤ 1) :
 ∃ (B : Option Addr) (cb : Nat), (T.headD []).length ≤ cb ∧ (T.headD []).length ≤ 9223372036854775807 ∧ Sl w w.heap.size B (ints (T.headD [])) ∧
  Calls Tryz.prog 90 #[.slice A T.length c] w (fun e w' => e = .returned (.tuple #[.slice B (T.headD []).length cb, .int .i64 0]) ∧ w = w') := by
 match T, hT, h1 with
 | [], hT, _ => exact ⟨none, 0, Nat.le_refl _, by simp, Sl.nil _ _ _, row_nil A c w⟩
 | [r], hT, _ =>
  obtain ⟨b, o, Ar, cr, hA, hlt, hcl, hl, hs, hm⟩ := hT.2.2 0 (by simp)
  exact ⟨Ar, cr, hl, hm, hs, row_one A c b o _ w hA (by simpa using hcl)⟩
 | r :: s :: t, hT, h => simp at h
theorem torow1 {f : FuncId} {F : Rws → List Int × Int} (hF : OpW f F) (ef : Ent f) (bx : Nat) (w : World) (hc : w.cell? ⟨bx, 0, none⟩ = some (.func (.func f) #[] #[])) (A : Option Addr) (c : Nat) (T : Rws) (hT : TC w A T) :
 Calls Tryz.prog 171 #[.slice A T.length c, .pointer (some ⟨bx, 0, none⟩)] w fun e w' => DOut (oneF (F T)) w.heap.size e w' ∧ Below w.heap.size w w' := by
 have HCALL := Lib.hid (hF.call A c T w hT.2.1 hT.1)
 have hfew := (hF.few T).1
 obtain ⟨R, hR⟩ : ∃ R, R = F T := ⟨_, rfl⟩
 rw [← hR] at HCALL hfew ⊢
 have HF := Lib.hid hfew
 have ef := ef
 unfold Ent at ef
 clear hR hfew hT hF
 go_enter Tryz.func171, Tryz.ntmps171
 go_wp2_with (first | (go_at_fn f; refine (HCALL.out).mono ?_; rintro e w2 ⟨⟨A2, c2, rfl, ho2⟩, hb2⟩; have HO2 := Lib.hid ho2; have HB2 := Lib.hid hb2; have HONE := Lib.hid (one_any R A2 c2 w2 w.heap.size hb2.size HF.out ho2); clear ho2 hb2) | (go_at_call 94; refine (HONE.out).mono ?_; rintro e w3 ⟨⟨A3, c3, rfl, ho3⟩, hb3⟩; have HO3 := Lib.hid ho3; have HB3 := Lib.hid hb3; clear ho3 hb3) | fail)
 go_ret2
 exact ⟨⟨A3, c3, rfl, HO3.out⟩, below_of HB2.out HB3.out⟩
def hokT (T : Rws) : Rws × Int := if 2 ≤ T.length then ([], 3) else hokF (T.headD [])
theorem ways1 (A : Option Addr) (c : Nat) (T : Rws) (w : World) (hT : TC w A T) :
 Calls Tryz.prog 89 #[.slice A T.length c] w fun e w' => DOut (hokT T) w.heap.size e w' ∧ Below w.heap.size w w' := by
 by_cases h2 : 2 ≤ T.length
 · have e : hokT T = ([], 3) := by unfold hokT; rw [if_pos h2]
   have HROW := Lib.hid (row_many A c T.length w h2)
   rw [e]
   clear hT e h2
   go_enter Tryz.func89, Tryz.ntmps89
   go_wp2_with (first | (go_at_call 90; refine (HROW.out).mono ?_; rintro e w1 ⟨rfl, rfl⟩) | fail)
   go_ret2
   exact ⟨dout_bad _ _ _, Below.refl _ _⟩
 · have e : hokT T = hokF (T.headD []) := by unfold hokT; rw [if_neg h2]
   obtain ⟨B, cb, h1, h3, h4, hrow⟩ := row_head c hT (by omega)
   rw [e]
   have HROW := Lib.hid hrow
   have HCALL := Lib.hid (hokH.call B cb (T.headD []) w h3 h4)
   obtain ⟨r, hr⟩ : ∃ r, r = T.headD [] := ⟨_, rfl⟩
   rw [← hr] at HROW HCALL ⊢
   obtain ⟨R, hR⟩ : ∃ R, R = hokF r := ⟨_, rfl⟩
   rw [← hR] at HCALL ⊢
   clear hT e h2 h1 h3 h4 hrow hr hR
   go_enter Tryz.func89, Tryz.ntmps89
   go_wp2_with (first | (go_at_call 90; refine (HROW.out).mono ?_; rintro e w1 ⟨rfl, rfl⟩) | (go_at_call 91; refine (HCALL.out).mono ?_; rintro e w2 ⟨⟨A2, c2, rfl, ho2⟩, hb2⟩; have HO2 := Lib.hid ho2; have HB2 := Lib.hid hb2; clear ho2 hb2) | fail)
   go_ret2
   exact ⟨⟨A2, c2, rfl, HO2.out⟩, HB2.out⟩
def mkF (second : Bool) (r : List Int) : Rws × Int := if second = true then makQ r else makP r
def madF (second : Bool) (T : Rws) : Rws × Int := if 2 ≤ T.length then ([], 3) else mkF second (T.headD [])
theorem mkF_code (second : Bool) (r : List Int) : (mkF second r).2 = wordChk r := by
 unfold mkF makP makQ
 by_cases c : wordChk r = 0 <;> cases second <;> simp [c]
theorem made1 (second : Bool) (bx : Nat) (w : World) (hc : w.cell? ⟨bx, 0, none⟩ = some (.bool second)) (A : Option Addr) (c : Nat) (T : Rws) (hT : TC w A T) :
 Calls Tryz.prog 131 #[.slice A T.length c, .pointer (some ⟨bx, 0, none⟩)] w fun e w' => DOut (madF second T) w.heap.size e w' ∧ Below w.heap.size w w' := by
 by_cases h2 : 2 ≤ T.length
 · have e : madF second T = ([], 3) := by unfold madF; rw [if_pos h2]
   have HROW := Lib.hid (row_many A c T.length w h2)
   rw [e]
   clear hT e h2 hc
   go_enter Tryz.func131, Tryz.ntmps131
   go_wp2_with (first | (go_at_call 90; refine (HROW.out).mono ?_; rintro e w1 ⟨rfl, rfl⟩) | fail)
   go_ret2
   exact ⟨dout_bad _ _ _, Below.refl _ _⟩
 · have e : madF second T = mkF second (T.headD []) := by unfold madF; rw [if_neg h2]
   obtain ⟨B, cb, h1, h3, h4, hrow⟩ := row_head c hT (by omega)
   rw [e]
   have HROW := Lib.hid hrow
   have HCALL := Lib.hid (mak_call B cb (T.headD []) w h3 h4)
   obtain ⟨r, hr⟩ : ∃ r, r = T.headD [] := ⟨_, rfl⟩
   rw [← hr] at HROW HCALL ⊢
   have hcd := Lib.hid (mkF_code second r)
   have hlt : bx < w.heap.size := World.block_lt_of_cell? w _ hc
   have HCB : Hid (∀ w2, Below w.heap.size w w2 → w2.cell? ⟨bx, 0, none⟩ = some (.bool second)) := Lib.hid fun w2 hb => (hb.cell (p := ⟨bx, 0, none⟩) hlt).trans hc
   clear hT e h2 h1 h3 h4 hrow hr hc
   go_enter Tryz.func131, Tryz.ntmps131
   go_wp2_with (first | (go_at_call 90; refine (HROW.out).mono ?_; rintro e w1 ⟨rfl, rfl⟩) | (go_at_call 132; refine (HCALL.out).mono ?_; rintro e w2 ⟨⟨A1, A2, c1, c2, rfl, ho1, ho2⟩, hb2⟩; have HO1 := Lib.hid ho1; have HO2 := Lib.hid ho2; have HB2 := Lib.hid hb2; have hcb := HCB.out w2 hb2; clear ho1 ho2 hb2; cases second) | fail)
   · go_ret2
     exact ⟨⟨A1, c1, by rw [hcd.out]; rfl, HO1.out⟩, HB2.out⟩
   · go_ret2
     exact ⟨⟨A2, c2, by rw [hcd.out]; rfl, HO2.out⟩, HB2.out⟩
noncomputable def timP (T U : Rws) : Rws × Int := if 2 ≤ T.length ∨ 2 ≤ U.length then ([], 3) else oneF (timF (T.headD []) (U.headD []))
theorem row_c {w : World} {A : Option Addr} {T : Rws} (c : Nat) (hT : TC w A T) :
 ∃ (B : Option Addr) (cb : Nat) (r : List Int) (k : Int), (T.length ≤ 1 → k = 0 ∧ r = T.headD []) ∧ (2 ≤ T.length → k = 3) ∧ r.length ≤ 9223372036854775807 ∧ Sl w w.heap.size B (ints r) ∧
  Calls Tryz.prog 90 #[.slice A T.length c] w (fun e w' => e = .returned (.tuple #[.slice B r.length cb, .int .i64 k]) ∧ w = w') := by
 by_cases h2 : 2 ≤ T.length
 · exact ⟨none, 0, [], 3, fun h => by omega, fun _ => rfl, by simp, Sl.nil _ _ _, row_many A c T.length w h2⟩
 · obtain ⟨B, cb, h1, h3, h4, hrow⟩ := row_head c hT (by omega)
   exact ⟨B, cb, _, 0, fun _ => ⟨rfl, rfl⟩, fun h => by omega, h3, h4, hrow⟩
theorem pairs1 (A C : Option Addr) (c c2 : Nat) (T U : Rws) (w : World) (hT : TC w A T) (hU : TC w C U) :
 Calls Tryz.prog 93 #[.slice A T.length c, .slice C U.length c2] w fun e w' => DOut (timP T U) w.heap.size e w' ∧ Below w.heap.size w w' := by
 obtain ⟨B1, cb1, r1, k1, a1, b1, l1, s1, hrow1⟩ := row_c c hT
 obtain ⟨B2, cb2, r2, k2, a2, b2, l2, s2, hrow2⟩ := row_c c2 hU
 have hbad : Hid (k1 ≠ 0 ∨ k2 ≠ 0 → timP T U = ([], 3)) := fun h => by
  unfold timP
  rw [if_pos]
  rcases h with h | h
  · exact .inl (Classical.byContradiction fun hn => h (a1 (by omega)).1)
  · exact .inr (Classical.byContradiction fun hn => h (a2 (by omega)).1)
 have hgood : Hid (k1 = 0 → k2 = 0 → timP T U = oneF (timF r1 r2)) := fun h h' => by
  have t1 : ¬ 2 ≤ T.length := fun hn => by have := b1 hn; omega
  have t2 : ¬ 2 ≤ U.length := fun hn => by have := b2 hn; omega
  unfold timP
  rw [if_neg (by omega), (a1 (by omega)).2, (a2 (by omega)).2]
 obtain ⟨P, hP⟩ : ∃ P, P = timP T U := ⟨_, rfl⟩
 rw [← hP] at hbad hgood ⊢
 have HROW1 := Lib.hid hrow1
 have HROW2 := Lib.hid hrow2
 have HCALL := Lib.hid (tim_call B1 B2 cb1 cb2 r1 r2 w l1 l2 s1 s2)
 have hfew := (tim_few r1 r2).1
 obtain ⟨R, hR⟩ : ∃ R, R = timF r1 r2 := ⟨_, rfl⟩
 rw [← hR] at HCALL hfew hgood
 have HF := Lib.hid hfew
 clear a1 b1 l1 s1 hrow1 a2 b2 l2 s2 hrow2 hP hR hfew hT hU
 by_cases hk1 : k1 = 0
 · by_cases hk2 : k2 = 0
   · obtain rfl : P = oneF R := hgood.out hk1 hk2
     subst hk1
     subst hk2
     clear hbad hgood
     go_enter Tryz.func93, Tryz.ntmps93
     go_upto_region 2 with (first | (go_at_call 90; refine (HROW1.out).mono ?_; rintro e w1 ⟨rfl, rfl⟩) | fail)
     go_wp2_with (first | (go_at_call 90; refine (HROW2.out).mono ?_; rintro e w1 ⟨rfl, rfl⟩) | (go_at_call 95; refine (HCALL.out).mono ?_; rintro e w2 ⟨⟨A2, c2, rfl, ho2⟩, hb2⟩; have HO2 := Lib.hid ho2; have HB2 := Lib.hid hb2; have HONE := Lib.hid (one_any R A2 c2 w2 w.heap.size hb2.size HF.out ho2); clear ho2 hb2) | (go_at_call 94; refine (HONE.out).mono ?_; rintro e w3 ⟨⟨A3, c3, rfl, ho3⟩, hb3⟩; have HO3 := Lib.hid ho3; have HB3 := Lib.hid hb3; clear ho3 hb3) | fail)
     go_ret2
     exact ⟨⟨A3, c3, rfl, HO3.out⟩, below_of HB2.out HB3.out⟩
   · obtain rfl : P = ([], 3) := hbad.out (.inr hk2)
     have d2 : (k2 != 0) = true := by simpa using hk2
     subst hk1
     clear hbad hgood hk2
     go_enter Tryz.func93, Tryz.ntmps93
     go_upto_region 2 with (first | (go_at_call 90; refine (HROW1.out).mono ?_; rintro e w1 ⟨rfl, rfl⟩) | fail)
     go_wp2_with (first | (go_at_call 90; refine (HROW2.out).mono ?_; rintro e w1 ⟨rfl, rfl⟩) | fail)
     go_ret2
     exact ⟨dout_bad _ _ _, Below.refl _ _⟩
 · obtain rfl : P = ([], 3) := hbad.out (.inl hk1)
   have d1 : (k1 != 0) = true := by simpa using hk1
   clear hbad hgood hk1
   go_enter Tryz.func93, Tryz.ntmps93
   go_upto_region 2 with (first | (go_at_call 90; refine (HROW1.out).mono ?_; rintro e w1 ⟨rfl, rfl⟩) | fail)
   go_wp2_with (first | (go_at_call 90; refine (HROW2.out).mono ?_; rintro e w1 ⟨rfl, rfl⟩) | fail)
   go_ret2
   exact ⟨dout_bad _ _ _, Below.refl _ _⟩
noncomputable def bakP (T U : Rws) : Rws × Int := oneF (bakF T U)
theorem pairs2 (A C : Option Addr) (c c2 : Nat) (T U : Rws) (w : World) (hT : TC w A T) (hU : TC w C U) :
 Calls Tryz.prog 96 #[.slice A T.length c, .slice C U.length c2] w fun e w' => DOut (bakP T U) w.heap.size e w' ∧ Below w.heap.size w w' := by
 have HCALL := Lib.hid (bakF_call A C c c2 T U w hT.2.1 hU.2.1 hT.1 hU.1)
 have hfew := (bakF_few T U).1
 unfold bakP
 obtain ⟨R, hR⟩ : ∃ R, R = bakF T U := ⟨_, rfl⟩
 rw [← hR] at HCALL hfew ⊢
 have HF := Lib.hid hfew
 clear hR hfew hT hU
 go_enter Tryz.func96, Tryz.ntmps96
 go_wp2_with (first | (go_at_call 97; refine (HCALL.out).mono ?_; rintro e w2 ⟨⟨A2, c2, rfl, ho2⟩, hb2⟩; have HO2 := Lib.hid ho2; have HB2 := Lib.hid hb2; have HONE := Lib.hid (one_any R A2 c2 w2 w.heap.size hb2.size HF.out ho2); clear ho2 hb2) | (go_at_call 94; refine (HONE.out).mono ?_; rintro e w3 ⟨⟨A3, c3, rfl, ho3⟩, hb3⟩; have HO3 := Lib.hid ho3; have HB3 := Lib.hid hb3; clear ho3 hb3) | fail)
 go_ret2
 exact ⟨⟨A3, c3, rfl, HO3.out⟩, below_of HB2.out HB3.out⟩
def FnOut (F : Rws → Rws × Int) (e : Ending) (w w' : World) : Prop := (∃ fv, e = .returned fv ∧ FnC fv F w') ∧ Below w.heap.size w w'
theorem ofrow_any {f : FuncId} {F : List Int → List Int × Int} (hF : OpL f F) (ef : Ent f) (w : World) :
 Calls Tryz.prog 76 #[.func (.func f) #[] #[]] w fun e w' => FnOut (ofF F) e w w' := by
 have e1 : Ent 123 := enters_of Tryz.func123 (by kernel_rfl) rfl
 have HFN : Hid (∀ t, FnC (.func (.func 123) #[] #[.pointer (some ⟨w.heap.size, 0, none⟩)]) (ofF F) (w.alloc (.cells #[.func (.func f) #[] #[]] t))) := Lib.hid fun t =>
  ⟨_, _, rfl, e1, fun w1 hb A c T hT => ofrow1 hF ef w.heap.size w1 ((hb.cell (p := ⟨w.heap.size, 0, none⟩) (by simp)).trans (by rw [World.cell?_alloc_at _ _ _ _ rfl]; rfl)) A c T hT⟩
 clear e1 hF ef
 go_enter Tryz.func76, Tryz.ntmps76
 go_wp2
 go_ret
 exact ⟨⟨_, rfl, HFN.out _⟩, (Below.refl _ _).alloc (Nat.le_refl _) _⟩
theorem torow_any {f : FuncId} {F : Rws → List Int × Int} (hF : OpW f F) (ef : Ent f) (w : World) :
 Calls Tryz.prog 133 #[.func (.func f) #[] #[]] w fun e w' => FnOut (fun T => oneF (F T)) e w w' := by
 have e1 : Ent 171 := enters_of Tryz.func171 (by kernel_rfl) rfl
 have HFN : Hid (∀ t, FnC (.func (.func 171) #[] #[.pointer (some ⟨w.heap.size, 0, none⟩)]) (fun T => oneF (F T)) (w.alloc (.cells #[.func (.func f) #[] #[]] t))) := Lib.hid fun t =>
  ⟨_, _, rfl, e1, fun w1 hb A c T hT => torow1 hF ef w.heap.size w1 ((hb.cell (p := ⟨w.heap.size, 0, none⟩) (by simp)).trans (by rw [World.cell?_alloc_at _ _ _ _ rfl]; rfl)) A c T hT⟩
 clear e1 hF ef
 go_enter Tryz.func133, Tryz.ntmps133
 go_wp2
 go_ret
 exact ⟨⟨_, rfl, HFN.out _⟩, (Below.refl _ _).alloc (Nat.le_refl _) _⟩
theorem made_fn (second : Bool) (w : World) :
 Calls Tryz.prog 88 #[.bool second] w fun e w' => FnOut (madF second) e w w' := by
 have e1 : Ent 131 := enters_of Tryz.func131 (by kernel_rfl) rfl
 have HFN : Hid (∀ t, FnC (.func (.func 131) #[] #[.pointer (some ⟨w.heap.size, 0, none⟩)]) (madF second) (w.alloc (.cells #[.bool second] t))) := Lib.hid fun t =>
  ⟨_, _, rfl, e1, fun w1 hb A c T hT => made1 second w.heap.size w1 ((hb.cell (p := ⟨w.heap.size, 0, none⟩) (by simp)).trans (by rw [World.cell?_alloc_at _ _ _ _ rfl]; rfl)) A c T hT⟩
 clear e1
 go_enter Tryz.func88, Tryz.ntmps88
 go_wp2
 go_ret
 exact ⟨⟨_, rfl, HFN.out _⟩, (Below.refl _ _).alloc (Nat.le_refl _) _⟩
theorem ne_lit {s : ByteArray} {l : List UInt8} (h : s ≠ ⟨l.toArray⟩) : (s.toList == l) = false := by
 rw [beq_eq_false_iff_ne]
 intro e
 rw [Lib.toList_data] at e
 exact h (by rw [← e])
open Classical in
noncomputable def prOf (s : ByteArray) : Option (Rws → Rws → Rws × Int) := if s = ⟨#[116, 105, 109, 101, 115]⟩ then some timP else if s = ⟨#[98, 97, 99, 107]⟩ then some bakP else if s = ⟨#[109, 101, 101, 116]⟩ then some meeF else if s = ⟨#[106, 111, 105, 110]⟩ then some joiF else none
def PvIs (o : Option (Rws → Rws → Rws × Int)) (fv : Value) : Prop := match o with | none => fv = .nilFunc | some F => FnP fv F
def PvOut (o : Option (Rws → Rws → Rws × Int)) (e : Ending) (w w' : World) : Prop := (∃ fv, e = .returned fv ∧ PvIs o fv) ∧ w = w'
theorem pairs_any (s : ByteArray) (w : World) : Calls Tryz.prog 52 #[.string s] w fun e w' => PvOut (prOf s) e w w' := by
 by_cases h0 : s = ⟨#[116, 105, 109, 101, 115]⟩
 · subst h0
   have ho : prOf ⟨#[116, 105, 109, 101, 115]⟩ = some timP := by unfold prOf; rw [if_pos rfl]
   rw [ho]
   clear ho
   go_enter Tryz.func52, Tryz.ntmps52
   go_wp2
   go_ret
   exact ⟨⟨_, rfl, ⟨_, rfl, (enters_of Tryz.func93 (by kernel_rfl) rfl), fun w1 A C c c2 T U h1 h2 => pairs1 A C c c2 T U w1 h1 h2⟩⟩, rfl⟩
 by_cases h1 : s = ⟨#[98, 97, 99, 107]⟩
 · subst h1
   have ho : prOf ⟨#[98, 97, 99, 107]⟩ = some bakP := by unfold prOf; rw [if_neg (by decide), if_pos rfl]
   rw [ho]
   clear ho
   go_enter Tryz.func52, Tryz.ntmps52
   go_wp2
   go_ret
   exact ⟨⟨_, rfl, ⟨_, rfl, (enters_of Tryz.func96 (by kernel_rfl) rfl), fun w1 A C c c2 T U h1 h2 => pairs2 A C c c2 T U w1 h1 h2⟩⟩, rfl⟩
 by_cases h2 : s = ⟨#[109, 101, 101, 116]⟩
 · subst h2
   have ho : prOf ⟨#[109, 101, 101, 116]⟩ = some meeF := by unfold prOf; rw [if_neg (by decide), if_neg (by decide), if_pos rfl]
   rw [ho]
   clear ho
   go_enter Tryz.func52, Tryz.ntmps52
   go_wp2
   go_ret
   exact ⟨⟨_, rfl, opP_fn meeP (enters_of Tryz.func98 (by kernel_rfl) rfl)⟩, rfl⟩
 by_cases h3 : s = ⟨#[106, 111, 105, 110]⟩
 · subst h3
   have ho : prOf ⟨#[106, 111, 105, 110]⟩ = some joiF := by unfold prOf; rw [if_neg (by decide), if_neg (by decide), if_neg (by decide), if_pos rfl]
   rw [ho]
   clear ho
   go_enter Tryz.func52, Tryz.ntmps52
   go_wp2
   go_ret
   exact ⟨⟨_, rfl, opP_fn joiP (enters_of Tryz.func99 (by kernel_rfl) rfl)⟩, rfl⟩
 have ho : prOf s = none := by unfold prOf; rw [if_neg h0, if_neg h1, if_neg h2, if_neg h3]
 rw [ho]
 have d0 : (s.toList == [116, 105, 109, 101, 115]) = false := ne_lit h0
 have d1 : (s.toList == [98, 97, 99, 107]) = false := ne_lit h1
 have d2 : (s.toList == [109, 101, 101, 116]) = false := ne_lit h2
 have d3 : (s.toList == [106, 111, 105, 110]) = false := ne_lit h3
 clear ho h0 h1 h2 h3
 go_enter Tryz.func52, Tryz.ntmps52
 go_wp2
 go_ret
 exact ⟨⟨_, rfl, rfl⟩, rfl⟩
end
end Go.Proofs.YtpmkdihencepnaaGreatDoor
