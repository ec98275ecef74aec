/- Part of the proof. -/
import Derived.Test.YtpmkdihencepnaaGreatDoorMk39
set_option maxRecDepth 100000
namespace Go.Proofs.YtpmkdihencepnaaGreatDoor
section
open Go.RowKit Go.Shelf
def FvIs (o : Option (Rws → Rws × Int)) (fv : Value) (w : World) : Prop := match o with | none => fv = .nilFunc | some F => FnC fv F w
def FvOut (o : Option (Rws → Rws × Int)) (e : Ending) (w w' : World) : Prop := (∃ fv, e = .returned fv ∧ FvIs o fv w') ∧ Below w.heap.size w w'
open Classical in
noncomputable def tabOf (s : ByteArray) : Option (Rws → Rws × Int) := if s = ⟨#[115, 104, 97, 112, 101]⟩ then some (fun T => oneF (shpF T)) else if s = ⟨#[119, 111, 114, 100]⟩ then some (fun T => oneF (wrdF T)) else if s = ⟨#[115, 116, 97, 110, 100, 97, 114, 100]⟩ then some stdF else if s = ⟨#[116, 117, 114, 110, 101, 100]⟩ then some turF else if s = ⟨#[114, 101, 99, 116, 105, 102, 121]⟩ then some recF else if s = ⟨#[101, 118, 97, 99, 117, 97, 116, 101]⟩ then some evaF else if s = ⟨#[112, 114, 111, 109, 111, 116, 101]⟩ then some proF else if s = ⟨#[100, 101, 109, 111, 116, 101]⟩ then some demF else if s = ⟨#[116, 114, 105, 97, 110, 103, 108, 101]⟩ then some triF else if s = ⟨#[109, 97, 116, 114, 105, 120]⟩ then some ftrF else if s = ⟨#[103, 121, 114, 97, 116, 101]⟩ then some gyrF else none
theorem tables_0 (w : World) : Calls Tryz.prog 92 #[.string ⟨#[115, 104, 97, 112, 101]⟩] w fun e w' => FvOut (some (fun T => oneF (shpF T))) e w w' := by
 have HC := Lib.hid (torow_any shpW (enters_of Tryz.func134 (by kernel_rfl) rfl) w)
 go_enter Tryz.func92, Tryz.ntmps92
 go_wp2_with (first | (go_at_call 133; refine (HC.out).mono ?_; rintro e w1 ⟨⟨fv, rfl, hfv⟩, hb⟩; have HF := Lib.hid hfv; clear hfv) | fail)
 go_ret
 exact ⟨⟨_, rfl, HF.out⟩, hb⟩
theorem tables_1 (w : World) : Calls Tryz.prog 92 #[.string ⟨#[119, 111, 114, 100]⟩] w fun e w' => FvOut (some (fun T => oneF (wrdF T))) e w w' := by
 have HC := Lib.hid (torow_any wrdW (enters_of Tryz.func135 (by kernel_rfl) rfl) w)
 go_enter Tryz.func92, Tryz.ntmps92
 go_wp2_with (first | (go_at_call 133; refine (HC.out).mono ?_; rintro e w1 ⟨⟨fv, rfl, hfv⟩, hb⟩; have HF := Lib.hid hfv; clear hfv) | fail)
 go_ret
 exact ⟨⟨_, rfl, HF.out⟩, hb⟩
theorem tables_2 (w : World) : Calls Tryz.prog 92 #[.string ⟨#[115, 116, 97, 110, 100, 97, 114, 100]⟩] w fun e w' => FvOut (some stdF) e w w' := by
 go_enter Tryz.func92, Tryz.ntmps92
 go_wp2
 go_ret
 exact ⟨⟨_, rfl, opT_fn stdT (enters_of Tryz.func136 (by kernel_rfl) rfl) _⟩, Below.refl _ _⟩
theorem tables_3 (w : World) : Calls Tryz.prog 92 #[.string ⟨#[116, 117, 114, 110, 101, 100]⟩] w fun e w' => FvOut (some turF) e w w' := by
 go_enter Tryz.func92, Tryz.ntmps92
 go_wp2
 go_ret
 exact ⟨⟨_, rfl, opT_fn turT (enters_of Tryz.func137 (by kernel_rfl) rfl) _⟩, Below.refl _ _⟩
theorem tables_4 (w : World) : Calls Tryz.prog 92 #[.string ⟨#[114, 101, 99, 116, 105, 102, 121]⟩] w fun e w' => FvOut (some recF) e w w' := by
 go_enter Tryz.func92, Tryz.ntmps92
 go_wp2
 go_ret
 exact ⟨⟨_, rfl, opT_fn recT (enters_of Tryz.func138 (by kernel_rfl) rfl) _⟩, Below.refl _ _⟩
theorem tables_5 (w : World) : Calls Tryz.prog 92 #[.string ⟨#[101, 118, 97, 99, 117, 97, 116, 101]⟩] w fun e w' => FvOut (some evaF) e w w' := by
 go_enter Tryz.func92, Tryz.ntmps92
 go_wp2
 go_ret
 exact ⟨⟨_, rfl, opT_fn evaT (enters_of Tryz.func139 (by kernel_rfl) rfl) _⟩, Below.refl _ _⟩
theorem tables_6 (w : World) : Calls Tryz.prog 92 #[.string ⟨#[112, 114, 111, 109, 111, 116, 101]⟩] w fun e w' => FvOut (some proF) e w w' := by
 go_enter Tryz.func92, Tryz.ntmps92
 go_wp2
 go_ret
 exact ⟨⟨_, rfl, opT_fn proT (enters_of Tryz.func140 (by kernel_rfl) rfl) _⟩, Below.refl _ _⟩
theorem tables_7 (w : World) : Calls Tryz.prog 92 #[.string ⟨#[100, 101, 109, 111, 116, 101]⟩] w fun e w' => FvOut (some demF) e w w' := by
 go_enter Tryz.func92, Tryz.ntmps92
 go_wp2
 go_ret
 exact ⟨⟨_, rfl, opT_fn demT (enters_of Tryz.func141 (by kernel_rfl) rfl) _⟩, Below.refl _ _⟩
theorem tables_8 (w : World) : Calls Tryz.prog 92 #[.string ⟨#[116, 114, 105, 97, 110, 103, 108, 101]⟩] w fun e w' => FvOut (some triF) e w w' := by
 go_enter Tryz.func92, Tryz.ntmps92
 go_wp2
 go_ret
 exact ⟨⟨_, rfl, opT_fn triT (enters_of Tryz.func142 (by kernel_rfl) rfl) _⟩, Below.refl _ _⟩
theorem tables_9 (w : World) : Calls Tryz.prog 92 #[.string ⟨#[109, 97, 116, 114, 105, 120]⟩] w fun e w' => FvOut (some ftrF) e w w' := by
 go_enter Tryz.func92, Tryz.ntmps92
 go_wp2
 go_ret
 exact ⟨⟨_, rfl, opT_fn ftrT (enters_of Tryz.func143 (by kernel_rfl) rfl) _⟩, Below.refl _ _⟩
theorem tables_10 (w : World) : Calls Tryz.prog 92 #[.string ⟨#[103, 121, 114, 97, 116, 101]⟩] w fun e w' => FvOut (some gyrF) e w w' := by
 go_enter Tryz.func92, Tryz.ntmps92
 go_wp2
 go_ret
 exact ⟨⟨_, rfl, opT_fn gyrT (enters_of Tryz.func144 (by kernel_rfl) rfl) _⟩, Below.refl _ _⟩
theorem tables_any (s : ByteArray) (w : World) : Calls Tryz.prog 92 #[.string s] w fun e w' => FvOut (tabOf s) e w w' := by
 by_cases h0 : s = ⟨#[115, 104, 97, 112, 101]⟩
 · subst h0
   have ho : tabOf ⟨#[115, 104, 97, 112, 101]⟩ = some (fun T => oneF (shpF T)) := by unfold tabOf; rw [if_pos rfl]
   rw [ho]
   exact tables_0 w
 by_cases h1 : s = ⟨#[119, 111, 114, 100]⟩
 · subst h1
   have ho : tabOf ⟨#[119, 111, 114, 100]⟩ = some (fun T => oneF (wrdF T)) := by unfold tabOf; rw [if_neg (by decide), if_pos rfl]
   rw [ho]
   exact tables_1 w
 by_cases h2 : s = ⟨#[115, 116, 97, 110, 100, 97, 114, 100]⟩
 · subst h2
   have ho : tabOf ⟨#[115, 116, 97, 110, 100, 97, 114, 100]⟩ = some stdF := by unfold tabOf; rw [if_neg (by decide), if_neg (by decide), if_pos rfl]
   rw [ho]
   exact tables_2 w
 by_cases h3 : s = ⟨#[116, 117, 114, 110, 101, 100]⟩
 · subst h3
   have ho : tabOf ⟨#[116, 117, 114, 110, 101, 100]⟩ = some turF := by unfold tabOf; rw [if_neg (by decide), if_neg (by decide), if_neg (by decide), if_pos rfl]
   rw [ho]
   exact tables_3 w
 by_cases h4 : s = ⟨#[114, 101, 99, 116, 105, 102, 121]⟩
 · subst h4
   have ho : tabOf ⟨#[114, 101, 99, 116, 105, 102, 121]⟩ = some recF := by unfold tabOf; rw [if_neg (by decide), if_neg (by decide), if_neg (by decide), if_neg (by decide), if_pos rfl]
   rw [ho]
   exact tables_4 w
 by_cases h5 : s = ⟨#[101, 118, 97, 99, 117, 97, 116, 101]⟩
 · subst h5
   have ho : tabOf ⟨#[101, 118, 97, 99, 117, 97, 116, 101]⟩ = some evaF := by unfold tabOf; rw [if_neg (by decide), if_neg (by decide), if_neg (by decide), if_neg (by decide), if_neg (by decide), if_pos rfl]
   rw [ho]
   exact tables_5 w
 by_cases h6 : s = ⟨#[112, 114, 111, 109, 111, 116, 101]⟩
 · subst h6
   have ho : tabOf ⟨#[112, 114, 111, 109, 111, 116, 101]⟩ = some proF := by unfold tabOf; rw [if_neg (by decide), if_neg (by decide), if_neg (by decide), if_neg (by decide), if_neg (by decide), if_neg (by decide), if_pos rfl]
   rw [ho]
   exact tables_6 w
 by_cases h7 : s = ⟨#[100, 101, 109, 111, 116, 101]⟩
 · subst h7
   have ho : tabOf ⟨#[100, 101, 109, 111, 116, 101]⟩ = some demF := by unfold tabOf; rw [if_neg (by decide), if_neg (by decide), if_neg (by decide), if_neg (by decide), if_neg (by decide), if_neg (by decide), if_neg (by decide), if_pos rfl]
   rw [ho]
   exact tables_7 w
 by_cases h8 : s = ⟨#[116, 114, 105, 97, 110, 103, 108, 101]⟩
 · subst h8
   have ho : tabOf ⟨#[116, 114, 105, 97, 110, 103, 108, 101]⟩ = some triF := by unfold tabOf; rw [if_neg (by decide), if_neg (by decide), if_neg (by decide), if_neg (by decide), if_neg (by decide), if_neg (by decide), if_neg (by decide), if_neg (by decide), if_pos rfl]
   rw [ho]
   exact tables_8 w
 by_cases h9 : s = ⟨#[109, 97, 116, 114, 105, 120]⟩
 · subst h9
   have ho : tabOf ⟨#[109, 97, 116, 114, 105, 120]⟩ = some ftrF := by unfold tabOf; rw [if_neg (by decide), if_neg (by decide), if_neg (by decide), if_neg (by decide), if_neg (by decide), if_neg (by decide), if_neg (by decide), if_neg (by decide), if_neg (by decide), if_pos rfl]
   rw [ho]
   exact tables_9 w
 by_cases h10 : s = ⟨#[103, 121, 114, 97, 116, 101]⟩
 · subst h10
   have ho : tabOf ⟨#[103, 121, 114, 97, 116, 101]⟩ = some gyrF := by unfold tabOf; rw [if_neg (by decide), if_neg (by decide), if_neg (by decide), if_neg (by decide), if_neg (by decide), if_neg (by decide), if_neg (by decide), if_neg (by decide), if_neg (by decide), if_neg (by decide), if_pos rfl]
   rw [ho]
   exact tables_10 w
 have ho : tabOf s = none := by unfold tabOf; rw [if_neg h0, if_neg h1, if_neg h2, if_neg h3, if_neg h4, if_neg h5, if_neg h6, if_neg h7, if_neg h8, if_neg h9, if_neg h10]
 rw [ho]
 have d0 : (s.toList == [115, 104, 97, 112, 101]) = false := ne_lit h0
 have d1 : (s.toList == [119, 111, 114, 100]) = false := ne_lit h1
 have d2 : (s.toList == [115, 116, 97, 110, 100, 97, 114, 100]) = false := ne_lit h2
 have d3 : (s.toList == [116, 117, 114, 110, 101, 100]) = false := ne_lit h3
 have d4 : (s.toList == [114, 101, 99, 116, 105, 102, 121]) = false := ne_lit h4
 have d5 : (s.toList == [101, 118, 97, 99, 117, 97, 116, 101]) = false := ne_lit h5
 have d6 : (s.toList == [112, 114, 111, 109, 111, 116, 101]) = false := ne_lit h6
 have d7 : (s.toList == [100, 101, 109, 111, 116, 101]) = false := ne_lit h7
 have d8 : (s.toList == [116, 114, 105, 97, 110, 103, 108, 101]) = false := ne_lit h8
 have d9 : (s.toList == [109, 97, 116, 114, 105, 120]) = false := ne_lit h9
 have d10 : (s.toList == [103, 121, 114, 97, 116, 101]) = false := ne_lit h10
 clear ho h0 h1 h2 h3 h4 h5 h6 h7 h8 h9 h10
 go_enter Tryz.func92, Tryz.ntmps92
 go_wp2
 go_ret
 exact ⟨⟨_, rfl, rfl⟩, Below.refl _ _⟩
open Classical in
noncomputable def wayOf (s : ByteArray) : Option (Rws → Rws × Int) := if s = ⟨#[99, 111, 110, 106]⟩ then some (ofF conF) else if s = ⟨#[109, 101, 114, 103, 101]⟩ then some (ofF mrgF) else if s = ⟨#[115, 112, 108, 105, 116]⟩ then some (ofF splF) else if s = ⟨#[105, 110, 118, 101, 114, 115, 101]⟩ then some (ofF invF) else if s = ⟨#[99, 111, 100, 101]⟩ then some (ofF cdeF) else if s = ⟨#[117, 110, 99, 111, 100, 101]⟩ then some (ofF frmF) else if s = ⟨#[102, 111, 108, 100]⟩ then some (ofF fldF) else if s = ⟨#[117, 110, 102, 111, 108, 100]⟩ then some (ofF unfF) else if s = ⟨#[114, 111, 117, 110, 100, 115]⟩ then some (ofF rndF) else if s = ⟨#[117, 110, 114, 111, 117, 110, 100, 115]⟩ then some (ofF unrF) else if s = ⟨#[108, 111, 110, 103, 101, 115, 116]⟩ then some (ofF lngF) else if s = ⟨#[112, 101, 101]⟩ then some (madF false) else if s = ⟨#[113, 117, 101, 117, 101]⟩ then some (madF true) else if s = ⟨#[104, 111, 111, 107, 115]⟩ then some hokT else tabOf s
theorem ways_0 (w : World) : Calls Tryz.prog 51 #[.string ⟨#[99, 111, 110, 106]⟩] w fun e w' => FvOut (some (ofF conF)) e w w' := by
 have HC := Lib.hid (ofrow_any conL (enters_of Tryz.func77 (by kernel_rfl) rfl) w)
 go_enter Tryz.func51, Tryz.ntmps51
 go_wp2_with (first | (go_at_call 76; refine (HC.out).mono ?_; rintro e w1 ⟨⟨fv, rfl, hfv⟩, hb⟩; have HF := Lib.hid hfv; clear hfv) | fail)
 go_ret
 exact ⟨⟨_, rfl, HF.out⟩, hb⟩
theorem ways_1 (w : World) : Calls Tryz.prog 51 #[.string ⟨#[109, 101, 114, 103, 101]⟩] w fun e w' => FvOut (some (ofF mrgF)) e w w' := by
 have HC := Lib.hid (ofrow_any mrgL (enters_of Tryz.func78 (by kernel_rfl) rfl) w)
 go_enter Tryz.func51, Tryz.ntmps51
 go_wp2_with (first | (go_at_call 76; refine (HC.out).mono ?_; rintro e w1 ⟨⟨fv, rfl, hfv⟩, hb⟩; have HF := Lib.hid hfv; clear hfv) | fail)
 go_ret
 exact ⟨⟨_, rfl, HF.out⟩, hb⟩
theorem ways_2 (w : World) : Calls Tryz.prog 51 #[.string ⟨#[115, 112, 108, 105, 116]⟩] w fun e w' => FvOut (some (ofF splF)) e w w' := by
 have HC := Lib.hid (ofrow_any splL (enters_of Tryz.func79 (by kernel_rfl) rfl) w)
 go_enter Tryz.func51, Tryz.ntmps51
 go_wp2_with (first | (go_at_call 76; refine (HC.out).mono ?_; rintro e w1 ⟨⟨fv, rfl, hfv⟩, hb⟩; have HF := Lib.hid hfv; clear hfv) | fail)
 go_ret
 exact ⟨⟨_, rfl, HF.out⟩, hb⟩
theorem ways_3 (w : World) : Calls Tryz.prog 51 #[.string ⟨#[105, 110, 118, 101, 114, 115, 101]⟩] w fun e w' => FvOut (some (ofF invF)) e w w' := by
 have HC := Lib.hid (ofrow_any invL (enters_of Tryz.func80 (by kernel_rfl) rfl) w)
 go_enter Tryz.func51, Tryz.ntmps51
 go_wp2_with (first | (go_at_call 76; refine (HC.out).mono ?_; rintro e w1 ⟨⟨fv, rfl, hfv⟩, hb⟩; have HF := Lib.hid hfv; clear hfv) | fail)
 go_ret
 exact ⟨⟨_, rfl, HF.out⟩, hb⟩
theorem ways_4 (w : World) : Calls Tryz.prog 51 #[.string ⟨#[99, 111, 100, 101]⟩] w fun e w' => FvOut (some (ofF cdeF)) e w w' := by
 have HC := Lib.hid (ofrow_any cdeL (enters_of Tryz.func81 (by kernel_rfl) rfl) w)
 go_enter Tryz.func51, Tryz.ntmps51
 go_wp2_with (first | (go_at_call 76; refine (HC.out).mono ?_; rintro e w1 ⟨⟨fv, rfl, hfv⟩, hb⟩; have HF := Lib.hid hfv; clear hfv) | fail)
 go_ret
 exact ⟨⟨_, rfl, HF.out⟩, hb⟩
theorem ways_5 (w : World) : Calls Tryz.prog 51 #[.string ⟨#[117, 110, 99, 111, 100, 101]⟩] w fun e w' => FvOut (some (ofF frmF)) e w w' := by
 have HC := Lib.hid (ofrow_any frmL (enters_of Tryz.func82 (by kernel_rfl) rfl) w)
 go_enter Tryz.func51, Tryz.ntmps51
 go_wp2_with (first | (go_at_call 76; refine (HC.out).mono ?_; rintro e w1 ⟨⟨fv, rfl, hfv⟩, hb⟩; have HF := Lib.hid hfv; clear hfv) | fail)
 go_ret
 exact ⟨⟨_, rfl, HF.out⟩, hb⟩
theorem ways_6 (w : World) : Calls Tryz.prog 51 #[.string ⟨#[102, 111, 108, 100]⟩] w fun e w' => FvOut (some (ofF fldF)) e w w' := by
 have HC := Lib.hid (ofrow_any fldL (enters_of Tryz.func83 (by kernel_rfl) rfl) w)
 go_enter Tryz.func51, Tryz.ntmps51
 go_wp2_with (first | (go_at_call 76; refine (HC.out).mono ?_; rintro e w1 ⟨⟨fv, rfl, hfv⟩, hb⟩; have HF := Lib.hid hfv; clear hfv) | fail)
 go_ret
 exact ⟨⟨_, rfl, HF.out⟩, hb⟩
theorem ways_7 (w : World) : Calls Tryz.prog 51 #[.string ⟨#[117, 110, 102, 111, 108, 100]⟩] w fun e w' => FvOut (some (ofF unfF)) e w w' := by
 have HC := Lib.hid (ofrow_any unfL (enters_of Tryz.func84 (by kernel_rfl) rfl) w)
 go_enter Tryz.func51, Tryz.ntmps51
 go_wp2_with (first | (go_at_call 76; refine (HC.out).mono ?_; rintro e w1 ⟨⟨fv, rfl, hfv⟩, hb⟩; have HF := Lib.hid hfv; clear hfv) | fail)
 go_ret
 exact ⟨⟨_, rfl, HF.out⟩, hb⟩
theorem ways_8 (w : World) : Calls Tryz.prog 51 #[.string ⟨#[114, 111, 117, 110, 100, 115]⟩] w fun e w' => FvOut (some (ofF rndF)) e w w' := by
 have HC := Lib.hid (ofrow_any rndL (enters_of Tryz.func85 (by kernel_rfl) rfl) w)
 go_enter Tryz.func51, Tryz.ntmps51
 go_wp2_with (first | (go_at_call 76; refine (HC.out).mono ?_; rintro e w1 ⟨⟨fv, rfl, hfv⟩, hb⟩; have HF := Lib.hid hfv; clear hfv) | fail)
 go_ret
 exact ⟨⟨_, rfl, HF.out⟩, hb⟩
theorem ways_9 (w : World) : Calls Tryz.prog 51 #[.string ⟨#[117, 110, 114, 111, 117, 110, 100, 115]⟩] w fun e w' => FvOut (some (ofF unrF)) e w w' := by
 have HC := Lib.hid (ofrow_any unrL (enters_of Tryz.func86 (by kernel_rfl) rfl) w)
 go_enter Tryz.func51, Tryz.ntmps51
 go_wp2_with (first | (go_at_call 76; refine (HC.out).mono ?_; rintro e w1 ⟨⟨fv, rfl, hfv⟩, hb⟩; have HF := Lib.hid hfv; clear hfv) | fail)
 go_ret
 exact ⟨⟨_, rfl, HF.out⟩, hb⟩
theorem ways_10 (w : World) : Calls Tryz.prog 51 #[.string ⟨#[108, 111, 110, 103, 101, 115, 116]⟩] w fun e w' => FvOut (some (ofF lngF)) e w w' := by
 have HC := Lib.hid (ofrow_any lngL (enters_of Tryz.func87 (by kernel_rfl) rfl) w)
 go_enter Tryz.func51, Tryz.ntmps51
 go_wp2_with (first | (go_at_call 76; refine (HC.out).mono ?_; rintro e w1 ⟨⟨fv, rfl, hfv⟩, hb⟩; have HF := Lib.hid hfv; clear hfv) | fail)
 go_ret
 exact ⟨⟨_, rfl, HF.out⟩, hb⟩
theorem ways_11 (w : World) : Calls Tryz.prog 51 #[.string ⟨#[112, 101, 101]⟩] w fun e w' => FvOut (some (madF false)) e w w' := by
 have HC := Lib.hid (made_fn false w)
 go_enter Tryz.func51, Tryz.ntmps51
 go_wp2_with (first | (go_at_call 88; refine (HC.out).mono ?_; rintro e w1 ⟨⟨fv, rfl, hfv⟩, hb⟩; have HF := Lib.hid hfv; clear hfv) | fail)
 go_ret
 exact ⟨⟨_, rfl, HF.out⟩, hb⟩
theorem ways_12 (w : World) : Calls Tryz.prog 51 #[.string ⟨#[113, 117, 101, 117, 101]⟩] w fun e w' => FvOut (some (madF true)) e w w' := by
 have HC := Lib.hid (made_fn true w)
 go_enter Tryz.func51, Tryz.ntmps51
 go_wp2_with (first | (go_at_call 88; refine (HC.out).mono ?_; rintro e w1 ⟨⟨fv, rfl, hfv⟩, hb⟩; have HF := Lib.hid hfv; clear hfv) | fail)
 go_ret
 exact ⟨⟨_, rfl, HF.out⟩, hb⟩
theorem ways_13 (w : World) : Calls Tryz.prog 51 #[.string ⟨#[104, 111, 111, 107, 115]⟩] w fun e w' => FvOut (some hokT) e w w' := by
 go_enter Tryz.func51, Tryz.ntmps51
 go_wp2
 go_ret
 exact ⟨⟨_, rfl, ⟨_, _, rfl, (enters_of Tryz.func89 (by kernel_rfl) rfl), fun w1 _ A c T hT => ways1 A c T w1 hT⟩⟩, Below.refl _ _⟩
theorem ways_any (s : ByteArray) (w : World) : Calls Tryz.prog 51 #[.string s] w fun e w' => FvOut (wayOf s) e w w' := by
 by_cases h0 : s = ⟨#[99, 111, 110, 106]⟩
 · subst h0
   have ho : wayOf ⟨#[99, 111, 110, 106]⟩ = some (ofF conF) := by unfold wayOf; rw [if_pos rfl]
   rw [ho]
   exact ways_0 w
 by_cases h1 : s = ⟨#[109, 101, 114, 103, 101]⟩
 · subst h1
   have ho : wayOf ⟨#[109, 101, 114, 103, 101]⟩ = some (ofF mrgF) := by unfold wayOf; rw [if_neg (by decide), if_pos rfl]
   rw [ho]
   exact ways_1 w
 by_cases h2 : s = ⟨#[115, 112, 108, 105, 116]⟩
 · subst h2
   have ho : wayOf ⟨#[115, 112, 108, 105, 116]⟩ = some (ofF splF) := by unfold wayOf; rw [if_neg (by decide), if_neg (by decide), if_pos rfl]
   rw [ho]
   exact ways_2 w
 by_cases h3 : s = ⟨#[105, 110, 118, 101, 114, 115, 101]⟩
 · subst h3
   have ho : wayOf ⟨#[105, 110, 118, 101, 114, 115, 101]⟩ = some (ofF invF) := by unfold wayOf; rw [if_neg (by decide), if_neg (by decide), if_neg (by decide), if_pos rfl]
   rw [ho]
   exact ways_3 w
 by_cases h4 : s = ⟨#[99, 111, 100, 101]⟩
 · subst h4
   have ho : wayOf ⟨#[99, 111, 100, 101]⟩ = some (ofF cdeF) := by unfold wayOf; rw [if_neg (by decide), if_neg (by decide), if_neg (by decide), if_neg (by decide), if_pos rfl]
   rw [ho]
   exact ways_4 w
 by_cases h5 : s = ⟨#[117, 110, 99, 111, 100, 101]⟩
 · subst h5
   have ho : wayOf ⟨#[117, 110, 99, 111, 100, 101]⟩ = some (ofF frmF) := by unfold wayOf; rw [if_neg (by decide), if_neg (by decide), if_neg (by decide), if_neg (by decide), if_neg (by decide), if_pos rfl]
   rw [ho]
   exact ways_5 w
 by_cases h6 : s = ⟨#[102, 111, 108, 100]⟩
 · subst h6
   have ho : wayOf ⟨#[102, 111, 108, 100]⟩ = some (ofF fldF) := by unfold wayOf; rw [if_neg (by decide), if_neg (by decide), if_neg (by decide), if_neg (by decide), if_neg (by decide), if_neg (by decide), if_pos rfl]
   rw [ho]
   exact ways_6 w
 by_cases h7 : s = ⟨#[117, 110, 102, 111, 108, 100]⟩
 · subst h7
   have ho : wayOf ⟨#[117, 110, 102, 111, 108, 100]⟩ = some (ofF unfF) := by unfold wayOf; rw [if_neg (by decide), if_neg (by decide), if_neg (by decide), if_neg (by decide), if_neg (by decide), if_neg (by decide), if_neg (by decide), if_pos rfl]
   rw [ho]
   exact ways_7 w
 by_cases h8 : s = ⟨#[114, 111, 117, 110, 100, 115]⟩
 · subst h8
   have ho : wayOf ⟨#[114, 111, 117, 110, 100, 115]⟩ = some (ofF rndF) := by unfold wayOf; rw [if_neg (by decide), if_neg (by decide), if_neg (by decide), if_neg (by decide), if_neg (by decide), if_neg (by decide), if_neg (by decide), if_neg (by decide), if_pos rfl]
   rw [ho]
   exact ways_8 w
 by_cases h9 : s = ⟨#[117, 110, 114, 111, 117, 110, 100, 115]⟩
 · subst h9
   have ho : wayOf ⟨#[117, 110, 114, 111, 117, 110, 100, 115]⟩ = some (ofF unrF) := by unfold wayOf; rw [if_neg (by decide), if_neg (by decide), if_neg (by decide), if_neg (by decide), if_neg (by decide), if_neg (by decide), if_neg (by decide), if_neg (by decide), if_neg (by decide), if_pos rfl]
   rw [ho]
   exact ways_9 w
 by_cases h10 : s = ⟨#[108, 111, 110, 103, 101, 115, 116]⟩
 · subst h10
   have ho : wayOf ⟨#[108, 111, 110, 103, 101, 115, 116]⟩ = some (ofF lngF) := by unfold wayOf; rw [if_neg (by decide), if_neg (by decide), if_neg (by decide), if_neg (by decide), if_neg (by decide), if_neg (by decide), if_neg (by decide), if_neg (by decide), if_neg (by decide), if_neg (by decide), if_pos rfl]
   rw [ho]
   exact ways_10 w
 by_cases h11 : s = ⟨#[112, 101, 101]⟩
 · subst h11
   have ho : wayOf ⟨#[112, 101, 101]⟩ = some (madF false) := by unfold wayOf; rw [if_neg (by decide), if_neg (by decide), if_neg (by decide), if_neg (by decide), if_neg (by decide), if_neg (by decide), if_neg (by decide), if_neg (by decide), if_neg (by decide), if_neg (by decide), if_neg (by decide), if_pos rfl]
   rw [ho]
   exact ways_11 w
 by_cases h12 : s = ⟨#[113, 117, 101, 117, 101]⟩
 · subst h12
   have ho : wayOf ⟨#[113, 117, 101, 117, 101]⟩ = some (madF true) := by unfold wayOf; rw [if_neg (by decide), if_neg (by decide), if_neg (by decide), if_neg (by decide), if_neg (by decide), if_neg (by decide), if_neg (by decide), if_neg (by decide), if_neg (by decide), if_neg (by decide), if_neg (by decide), if_neg (by decide), if_pos rfl]
   rw [ho]
   exact ways_12 w
 by_cases h13 : s = ⟨#[104, 111, 111, 107, 115]⟩
 · subst h13
   have ho : wayOf ⟨#[104, 111, 111, 107, 115]⟩ = some hokT := by unfold wayOf; rw [if_neg (by decide), if_neg (by decide), if_neg (by decide), if_neg (by decide), if_neg (by decide), if_neg (by decide), if_neg (by decide), if_neg (by decide), if_neg (by decide), if_neg (by decide), if_neg (by decide), if_neg (by decide), if_neg (by decide), if_pos rfl]
   rw [ho]
   exact ways_13 w
 have ho : wayOf s = tabOf s := by unfold wayOf; rw [if_neg h0, if_neg h1, if_neg h2, if_neg h3, if_neg h4, if_neg h5, if_neg h6, if_neg h7, if_neg h8, if_neg h9, if_neg h10, if_neg h11, if_neg h12, if_neg h13]
 rw [ho]
 have d0 : (s.toList == [99, 111, 110, 106]) = false := ne_lit h0
 have d1 : (s.toList == [109, 101, 114, 103, 101]) = false := ne_lit h1
 have d2 : (s.toList == [115, 112, 108, 105, 116]) = false := ne_lit h2
 have d3 : (s.toList == [105, 110, 118, 101, 114, 115, 101]) = false := ne_lit h3
 have d4 : (s.toList == [99, 111, 100, 101]) = false := ne_lit h4
 have d5 : (s.toList == [117, 110, 99, 111, 100, 101]) = false := ne_lit h5
 have d6 : (s.toList == [102, 111, 108, 100]) = false := ne_lit h6
 have d7 : (s.toList == [117, 110, 102, 111, 108, 100]) = false := ne_lit h7
 have d8 : (s.toList == [114, 111, 117, 110, 100, 115]) = false := ne_lit h8
 have d9 : (s.toList == [117, 110, 114, 111, 117, 110, 100, 115]) = false := ne_lit h9
 have d10 : (s.toList == [108, 111, 110, 103, 101, 115, 116]) = false := ne_lit h10
 have d11 : (s.toList == [112, 101, 101]) = false := ne_lit h11
 have d12 : (s.toList == [113, 117, 101, 117, 101]) = false := ne_lit h12
 have d13 : (s.toList == [104, 111, 111, 107, 115]) = false := ne_lit h13
 clear ho h0 h1 h2 h3 h4 h5 h6 h7 h8 h9 h10 h11 h12 h13
 have HC := Lib.hid (tables_any s w)
 go_enter Tryz.func51, Tryz.ntmps51
 go_wp2_with (first | (go_at_call 92; refine (HC.out).mono ?_; rintro e w1 ⟨⟨fv, rfl, hfv⟩, hb⟩; have HF := Lib.hid hfv; clear hfv) | fail)
 go_ret
 exact ⟨⟨_, rfl, HF.out⟩, hb⟩
end
section
open Go.RowKit
theorem dtwin_any (A : Option Addr) (cap : Nat) (T : List (List Int)) (w : World) (hT : T.length < 1000000) (hrl : ∀ i, (T.getD i []).length < 1000000) (h : SR w w.heap.size A T) :
 Calls Tryz.prog 53 #[.slice A T.length cap] w fun e w' => TwinOut e w w' T ∧ Below w.heap.size w w' := by
 go_enter Tryz.func53, Tryz.ntmps53
 go_wp2
 go_loopw [3, 8] (fun ov iv wr => ∃ (i : Nat) (hs : List Value), i ≤ T.length ∧ iv = .int .i64 i ∧ OwnM wr w.heap.size ov hs (T.take i) ∧ Below w.heap.size w wr) (fun _ iv _ => T.length - (Go.RowKit.intOf iv).toNat)
 case atStart => exact ⟨0, [], Nat.zero_le _, rfl, OwnM.nil _ _, Below.refl _ _⟩
 case round =>
  obtain ⟨i, hs, hi, rfl, hm, hW⟩ := hrel
  have HM := Lib.hid hm
  have hsz := hW.size
  clear hm
  by_cases hlt : i < T.length
  · have di : decide (i < T.length) = true := decide_eq_true hlt
    obtain ⟨b, o, rfl, hb⟩ := h.addr (by omega)
    have h2 := h.below hW
    obtain ⟨Ar, cr, hc, hr, _⟩ := h2.at_ hlt
    have hrl2 := hrl i
    obtain ⟨r, hre⟩ : ∃ r, r = T.getD i [] := ⟨_, rfl⟩
    rw [← hre] at hc hr hrl2
    have HRE := Lib.hid hre
    clear hre h2
    go_wp2_with (first | (go_at_call 100; refine (clone_any Ar cr r _ hrl2 (hr.more hsz)).mono ?_) | fail)
    rintro e w4 ⟨v4, rfl, hv4, hb4⟩
    obtain ⟨A4, c4, rfl, _, _, hle, _⟩ := own_sliceA hv4
    have hu4 := hv4.mono hsz
    have hfar := HM.out.far_new (u := .slice A4 r.length c4) (fun k hk => by
     have := (hv4.lt k hk).1; exact this)
    have hm4 := HM.out.below hb4
    have hmo := hm4.out
    rw [List.length_take, Nat.min_eq_left (by omega)] at hmo
    have HM4 := Lib.hid hm4
    have HMO := Lib.hid hmo
    have HU4 := Lib.hid hu4
    have HF := Lib.hid hfar
    have hW4 := hW.trans (hb4.mono hsz)
    have hB9 := Lib.hid hW4.size
    clear hm4 hmo hu4 hfar hv4 hb4
    go_wp2_with (first | (at_builtin; refine wpList_push (v := u3) rfl (.tmp 12) (.tmp 15) rfl rfl (.slice A4 r.length c4) rfl HMO.out w4.heap.size rfl rfl (by omega) hB9.out (fun g2 c2 w5 hl5 hg5 hat5 => ?_)) | fail)
    have hpush := (HM4.out.alloc (.cells #[.slice A4 r.length c4] 65)).push (u := .slice A4 r.length c4) (l := r) (HU4.out.alloc _) HF.out.1 HF.out.2 (by rw [List.length_take, Nat.min_eq_left (by omega)]) hl5 hg5 (by simpa using hat5)
    have hts : T.take i ++ [r] = T.take (i + 1) := by rw [getD_take_succ hlt, HRE.out]
    rw [hts] at hpush
    have hW5 : Below w.heap.size w w5 := (hW4.alloc hB9.out _).grown hg5 (by have := hB9.out; simp; omega) (fun k hk => (HMO.out.lt k hk).1)
    have HPU := Lib.hid hpush
    clear hpush hl5 hg5 hat5 hts
    go_wp2
    go_roundw
    case rel => exact ⟨i + 1, _, by omega, by go_num, HPU.out, hW5⟩
    case measure => simp [Go.RowKit.intOf]; omega
  · have di : decide (i < T.length) = false := decide_eq_false hlt
    have hm := HM.out
    rw [List.take_of_length_le (by omega)] at hm
    have HM2 := Lib.hid hm
    clear hm
    go_wp2
    go_ret
    exact ⟨⟨_, _, rfl, HM2.out⟩, hW⟩
end
end Go.Proofs.YtpmkdihencepnaaGreatDoor
