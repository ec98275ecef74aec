/- Part of the proof. -/
import Derived.Test.YtpmkdihencepnaaGreatDoorMk47
set_option maxHeartbeats 16000000
set_option maxRecDepth 100000
namespace Go.Proofs.YtpmkdihencepnaaGreatDoor
section
open Go.RowKit Go.Proofs
open Go.Shelf Go.Lib
theorem lit_far {W : World} {g : Nat} {o o' : Obj} (h : W.heap[g]? = some o) : (W.alloc o').heap[g]? = some o := (Below.heap_alloc W o' g (lt_of_some h)).trans h
theorem below_al (w : World) (o : Obj) : Below w.heap.size w (w.alloc o).drew := (below_drewN (Below.refl _ w) 1).alloc (Nat.le_refl _) o
theorem below_al2 (w : World) (o o' : Obj) : Below w.heap.size w ((w.alloc o).alloc o').drew := ((below_drewN (Below.refl _ w) 1).alloc (Nat.le_refl _) o).alloc (by simp) o'
theorem hall_of {listed : Array Bool} {N : Nat → Bool} (h : ((List.range listed.size).all fun j => listed.getD j true || N j) = true) (j : Nat) (hj : listed.getD j true = false) : N j = true := by
 have hlt : j < listed.size := by
  rcases Nat.lt_or_ge j listed.size with g | g
  · exact g
  · rw [Array.getD_eq_getD_getElem?, Array.getElem?_eq_none g] at hj; cases hj
 have := List.all_eq_true.1 h j (List.mem_range.2 hlt)
 rw [hj] at this
 simpa using this
theorem keep_more (p bn : Nat) (v1 v2 : Value) (S : St) (line : Str) (th : Thg) (w : World) (h : DeskM w p v1 v2 S) (hT : TM w bn (S.log.length + 1) th) (hl : S.log.length < 200) :
 Calls Tryz.prog 31 #[.pointer (some ⟨p, 0, none⟩), sv line, .map (some bn)] w fun e w' => e = .returned (.int .i64 0) ∧ ∃ v1' v2', DeskM w' p v1' v2' ⟨th, S.log ++ [line], S.done ++ [S.th]⟩ ∧ DStep w w' p v1 v2 v1' v2' := by
 obtain ⟨⟨A, c, rfl⟩, A2, c2', rfl⟩ := h.vals
 obtain ⟨b, ho, hTb⟩ := h.obj
 have c1 : w.cell? ⟨p, 1, none⟩ = some (.slice A S.log.length c) := by simp [World.cell?, ho]
 have d2 : ((S.log.length : Int) == 200) = false := by simp; omega
 have H := Lib.hid h
 have HT := Lib.hid hT
 have HTB := Lib.hid hTb
 clear h hT hTb
 go_enter Tryz.func31, Tryz.ntmps31
 go_upto_region 3 with fail
 obtain ⟨bs, hbs, hdn, hts⟩ := H.out.done
 rw [H.out.len] at hdn
 have HDN := Lib.hid hdn
 have HTS := Lib.hid hts
 have HBS := Lib.hid hbs
 have HLG := Lib.hid H.out.log
 have HV1 : Hid (∀ k, (Value.slice A S.log.length c).ownBlock = some k → k < w.heap.size) := Lib.hid fun k hk => (HLG.out.lt k hk).2
 have HOB := Lib.hid ho
 clear hdn hts hbs ho c1
 refine wp_region_any (by kernel_rfl) ?_
 show wpAny _ _ _ _ _ _ _ w.drew
 have hS0 : w.drew.heap[p]? = some (.cells #[.map (some b), .slice A S.log.length c, .slice A2 S.log.length c2'] 42 (0, 0)) := HOB.out
 have HS0 := Lib.hid hS0
 clear hS0
 refine wpAny_take (i := 0) (v := .pointer (some ⟨p, 0, none⟩)) rfl (by kernel_rfl) (by kernel_rfl) (by kernel_rfl) (fun _ _ _ h => h) (Or.inl ⟨by rfl, fun w' => ?_⟩) ?_
 · go_simp
 simp only [Act.put, List.setIfInBounds_toArray]
 refine wpAny_take (i := 1) (v := .pointer (some ⟨p, 0, none⟩)) rfl (by kernel_rfl) (by kernel_rfl) (by kernel_rfl) (fun _ _ _ h => h) (Or.inl ⟨by rfl, fun w' => ?_⟩) ?_
 · go_simp
 simp only [Act.put]
 refine wpAny_take (i := 2) (v := .pointer (some ⟨p, 0, none⟩)) rfl (by kernel_rfl) (by kernel_rfl) (by kernel_rfl) (fun _ _ _ h => h) (Or.inl ⟨by rfl, fun w' => ?_⟩) ?_
 · go_simp
 simp only [Act.put]
 refine wpAny_take (i := 3) (v := .pointer (some ⟨p, 0, none⟩)) rfl (by kernel_rfl) (by kernel_rfl) (by kernel_rfl) (fun _ _ _ h => h) (Or.inl ⟨by rfl, fun w' => ?_⟩) ?_
 · go_simp
 simp only [Act.put]
 refine wpAny_take (i := 4) (v := .pointer (some ⟨p, 1, none⟩)) rfl (by kernel_rfl) (by kernel_rfl) (by kernel_rfl) (fun _ _ _ h => h) (Or.inl ⟨by rfl, fun w' => ?_⟩) ?_
 · go_simp
 simp only [Act.put]
 refine wpAny_take (i := 6) (v := sv line) rfl (by kernel_rfl) (by kernel_rfl) (by kernel_rfl) (fun _ _ _ h => h) (Or.inl ⟨by rfl, fun w' => ?_⟩) ?_
 · go_simp
 simp only [Act.put]
 refine wpAny_take (i := 9) (v := .pointer (some ⟨p, 0, none⟩)) rfl (by kernel_rfl) (by kernel_rfl) (by kernel_rfl) (fun _ _ _ h => h) (Or.inl ⟨by rfl, fun w' => ?_⟩) ?_
 · go_simp
 simp only [Act.put]
 refine wpAny_take (i := 10) (v := .pointer (some ⟨p, 0, none⟩)) rfl (by kernel_rfl) (by kernel_rfl) (by kernel_rfl) (fun _ _ _ h => h) (Or.inl ⟨by rfl, fun w' => ?_⟩) ?_
 · go_simp
 simp only [Act.put]
 refine wpAny_take (i := 11) (v := .pointer (some ⟨p, 2, none⟩)) rfl (by kernel_rfl) (by kernel_rfl) (by kernel_rfl) (fun _ _ _ h => h) (Or.inl ⟨by rfl, fun w' => ?_⟩) ?_
 · go_simp
 simp only [Act.put]
 refine wpAny_take (i := 13) (v := .pointer (some ⟨p, 0, none⟩)) rfl (by kernel_rfl) (by kernel_rfl) (by kernel_rfl) (fun _ _ _ h => h) (Or.inl ⟨by rfl, fun w' => ?_⟩) ?_
 · go_simp
 simp only [Act.put]
 refine wpAny_take (i := 14) (v := .pointer (some ⟨p, 0, none⟩)) rfl (by kernel_rfl) (by kernel_rfl) (by kernel_rfl) (fun _ _ _ h => h) (Or.inl ⟨by rfl, fun w' => ?_⟩) ?_
 · go_simp
 simp only [Act.put]
 refine wpAny_take (i := 15) (v := .pointer (some ⟨p, 0, none⟩)) rfl (by kernel_rfl) (by kernel_rfl) (by kernel_rfl) (fun _ _ _ h => h) (Or.inl ⟨by rfl, fun w' => ?_⟩) ?_
 · go_simp
 simp only [Act.put]
 refine any_of_N (S := fun w' => w'.heap[p]? = some (.cells #[.map (some b), .slice A S.log.length c, .slice A2 S.log.length c2'] 42 (0, 0))) (N := fun j => Nat.ble 19 j) _ _ _ _ ?_
 refine N_take (i := 5) (v := .slice A S.log.length c) rfl (by kernel_rfl) (by kernel_rfl) (by kernel_rfl) (by kernel_rfl) (fun _ _ _ h => h) HS0.out (Or.inl ⟨by rfl, fun w' hSw => ?_⟩) ?_
 · have s0 : w'.cell? ⟨p, 1, none⟩ = some (.slice A S.log.length c) := by simp [World.cell?, hSw]
   clear hSw
   go_simp
 simp only [Act.put]
 refine N_take (i := 12) (v := .slice A2 S.log.length c2') rfl (by kernel_rfl) (by kernel_rfl) (by kernel_rfl) (by kernel_rfl) (fun _ _ _ h => h) HS0.out (Or.inl ⟨by rfl, fun w' hSw => ?_⟩) ?_
 · have s0 : w'.cell? ⟨p, 2, none⟩ = some (.slice A2 S.log.length c2') := by simp [World.cell?, hSw]
   clear hSw
   go_simp
 simp only [Act.put]
 refine N_take (i := 16) (v := .map (some b)) rfl (by kernel_rfl) (by kernel_rfl) (by kernel_rfl) (by kernel_rfl) (fun _ _ _ h => h) HS0.out (Or.inl ⟨by rfl, fun w' hSw => ?_⟩) ?_
 · have s0 : w'.cell? ⟨p, 0, none⟩ = some (.map (some b)) := by simp [World.cell?, hSw]
   clear hSw
   go_simp
 simp only [Act.put]
 refine N_ready (rs := [7, 17]) (by kernel_rfl) (by simp) (ReadyN.cons rfl (fun K hK => ?_) (ReadyN.cons rfl (fun K hK => ?_) ReadyN.nil))
 · dsimp only [List.getElem_toArray, List.getElem_cons_succ, List.getElem_cons_zero]
   go_simp
   refine hK.out _ _ (lit_far HOB.out) ?_
   clear hK
   refine N_ready (rs := [8, 17]) (by kernel_rfl) (by simp) (ReadyN.cons rfl (fun K hK => ?_) (ReadyN.cons rfl (fun K hK => ?_) ReadyN.nil))
   · dsimp only [List.getElem_toArray, List.getElem_cons_succ, List.getElem_cons_zero]
     refine step_appS (a := ⟨_, _⟩) (base := 0) (l := S.log) (v := .slice A S.log.length c) ?_ (.tmp 18) (.tmp 20) ?_ ?_ line S.log.length w.heap.size ?_ ?_ ?_ ?_ ?_ ?_
     · rfl
     · rfl
     · rfl
     · rfl
     · exact own_belowK HLG.out (below_al w _)
     · exact World.alloc_heap_new w _
     · omega
     · exact Nat.zero_le _
     intro g6 cp6 w6 hl6 hg6 hat6 _
     have HBC := keep_hb (w := w) (below_al w _) hg6
     obtain ⟨k6, o6⟩ := DeskM.w6 H.out HBC.out hg6
     have HAT6 := Lib.hid (keep_at HBC.out.size hat6)
     have HL6 := Lib.hid hl6
     have HG6 := Lib.hid hg6
     have HO6 := Lib.hid (o6 HDN.out)
     have HK6 := Lib.hid k6
     have HZ6 := Lib.hid (Nat.le_trans HBC.out.size hg6.size)
     clear hl6 hg6 hat6 o6 k6
     refine hK.out _ _ (HK6.out.trans HOB.out) ?_
     clear hK
     simp only [Act.put, List.setIfInBounds_toArray, List.set_cons_zero, List.set_cons_succ]
     refine N_ready (rs := [17]) (by kernel_rfl) (by simp) (ReadyN.cons rfl (fun K hK => ?_) ReadyN.nil)
     dsimp only [List.getElem_toArray, List.getElem_cons_succ, List.getElem_cons_zero]
     go_simp
     refine hK.out _ _ (lit_far (HK6.out.trans HOB.out)) ?_
     clear hK
     refine N_ready (rs := [18]) (by kernel_rfl) (by simp) (ReadyN.cons rfl (fun K hK => ?_) ReadyN.nil)
     dsimp only [List.getElem_toArray, List.getElem_cons_succ, List.getElem_cons_zero]
     refine step_appM (a := ⟨_, _⟩) (base := 0) (l := bs) (v := .slice A2 S.log.length c2') ?_ (.tmp 25) (.tmp 30) ?_ ?_ b S.log.length w6.heap.size ?_ ?_ ?_ ?_ ?_ ?_
     · rfl
     · rfl
     · rfl
     · rfl
     · exact HO6.out.alloc _
     · exact World.alloc_heap_new w6 _
     · omega
     · exact Nat.zero_le _
     intro g8 cp8 w8 hl8 hg8 hat8 _
     have HBD := keep_hb6 (w6 := w6) ((Below.refl _ w6).alloc (Nat.le_refl _) _) hg8
     have HAT8 := Lib.hid (keep_at (Nat.le_trans HZ6.out HBD.out.size) hat8)
     have HL8 := Lib.hid hl8
     have HG8 := Lib.hid hg8
     have k8 := keep_p H.out HOB.out HK6.out HBD.out hg8
     have HK8 := Lib.hid k8
     clear hl8 hg8 hat8 k8
     refine hK.out _ _ HK8.out ?_
     clear hK
     simp only [Act.put, List.setIfInBounds_toArray, List.set_cons_zero, List.set_cons_succ]
     refine N_of_any _ _ _ _ (by apply hall_of; kernel_rfl) ?_
     refine wpAny_take (i := 19) (v := .pointer (some ⟨p, 0, none⟩)) rfl (by kernel_rfl) (by kernel_rfl) (by kernel_rfl) (fun _ _ _ h => h) (Or.inl ⟨by rfl, fun w' => ?_⟩) ?_
     · go_simp
     simp only [Act.put, List.setIfInBounds_toArray]
     refine wpAny_take (i := 20) (v := .pointer (some ⟨p, 1, none⟩)) rfl (by kernel_rfl) (by kernel_rfl) (by kernel_rfl) (fun _ _ _ h => h) (Or.inl ⟨by rfl, fun w' => ?_⟩) ?_
     · go_simp
     simp only [Act.put]
     have p0 : w8.cell? ⟨p, 0, none⟩ = some (.map (some b)) := by have k8 := HK8.out; simp [World.cell?, k8]
     have p1 : w8.cell? ⟨p, 1, none⟩ = some (.slice A S.log.length c) := by have k8 := HK8.out; simp [World.cell?, k8]
     have p2 : w8.cell? ⟨p, 2, none⟩ = some (.slice A2 S.log.length c2') := by have k8 := HK8.out; simp [World.cell?, k8]
     have z0 : w8.frozen? ⟨p, 0, none⟩ = false := by have k8 := HK8.out; simp [World.frozen?, k8]
     have z1 : w8.frozen? ⟨p, 1, none⟩ = false := by have k8 := HK8.out; simp [World.frozen?, k8]
     have z2 : w8.frozen? ⟨p, 2, none⟩ = false := by have k8 := HK8.out; simp [World.frozen?, k8]
     refine any_one (i := 21) (by kernel_rfl) rfl (fun K hK => ?_)
     dsimp only [List.getElem_toArray, List.getElem_cons_succ, List.getElem_cons_zero]
     go_simp
     refine hK.out _ _ ?_
     clear hK
     refine wpAny_take (i := 22) (v := .pointer (some ⟨p, 0, none⟩)) rfl (by kernel_rfl) (by kernel_rfl) (by kernel_rfl) (fun _ _ _ h => h) (Or.inl ⟨by rfl, fun w' => ?_⟩) ?_
     · go_simp
     simp only [Act.put, List.setIfInBounds_toArray]
     refine wpAny_take (i := 23) (v := .pointer (some ⟨p, 2, none⟩)) rfl (by kernel_rfl) (by kernel_rfl) (by kernel_rfl) (fun _ _ _ h => h) (Or.inl ⟨by rfl, fun w' => ?_⟩) ?_
     · go_simp
     simp only [Act.put]
     refine any_one (i := 24) (by kernel_rfl) rfl (fun K hK => ?_)
     dsimp only [List.getElem_toArray, List.getElem_cons_succ, List.getElem_cons_zero]
     go_simp
     refine hK.out _ _ ?_
     clear hK
     refine wpAny_done (by kernel_rfl) ?_ _
     go_wp2
     go_ret
     exact ⟨rfl, _, _, keep_end H.out HOB.out HTB.out HT.out HBS.out HDN.out HTS.out hl HBC.out HG6.out HL6.out HAT6.out HBD.out HG8.out HL8.out HAT8.out rfl⟩
   · dsimp only [List.getElem_toArray, List.getElem_cons_succ, List.getElem_cons_zero]
     go_simp
     refine hK.out _ _ (lit_far (lit_far HOB.out)) ?_
     clear hK
     refine N_ready (rs := [8]) (by kernel_rfl) (by simp) (ReadyN.cons rfl (fun K hK => ?_) ReadyN.nil)
     dsimp only [List.getElem_toArray, List.getElem_cons_succ, List.getElem_cons_zero]
     refine step_appS (a := ⟨_, _⟩) (base := 0) (l := S.log) (v := .slice A S.log.length c) ?_ (.tmp 18) (.tmp 20) ?_ ?_ line S.log.length w.heap.size ?_ ?_ ?_ ?_ ?_ ?_
     · rfl
     · rfl
     · rfl
     · rfl
     · exact own_belowK HLG.out (below_al2 w _ _)
     · exact lit_far (World.alloc_heap_new w _)
     · omega
     · exact Nat.zero_le _
     intro g6 cp6 w6 hl6 hg6 hat6 _
     have HBC := keep_hb (w := w) (below_al2 w _ _) hg6
     obtain ⟨k6, o6⟩ := DeskM.w6 H.out HBC.out hg6
     have HAT6 := Lib.hid (keep_at HBC.out.size hat6)
     have HL6 := Lib.hid hl6
     have HG6 := Lib.hid hg6
     have HO6 := Lib.hid (o6 HDN.out)
     have HK6 := Lib.hid k6
     have HZ6 := Lib.hid (Nat.le_trans HBC.out.size hg6.size)
     clear hl6 hg6 hat6 o6 k6
     refine hK.out _ _ (HK6.out.trans HOB.out) ?_
     clear hK
     simp only [Act.put, List.setIfInBounds_toArray, List.set_cons_zero, List.set_cons_succ]
     refine N_ready (rs := [18]) (by kernel_rfl) (by simp) (ReadyN.cons rfl (fun K hK => ?_) ReadyN.nil)
     dsimp only [List.getElem_toArray, List.getElem_cons_succ, List.getElem_cons_zero]
     refine step_appM (a := ⟨_, _⟩) (base := 0) (l := bs) (v := .slice A2 S.log.length c2') ?_ (.tmp 25) (.tmp 30) ?_ ?_ b S.log.length (w.heap.size + 1) ?_ ?_ ?_ ?_ ?_ ?_
     · rfl
     · rfl
     · rfl
     · rfl
     · exact HO6.out
     · exact lit_kept HG6.out (lit_two w _ _) HV1.out (by simp)
     · omega
     · exact Nat.zero_le _
     intro g8 cp8 w8 hl8 hg8 hat8 _
     have HBD := keep_hb6 (w6 := w6) (Below.refl _ w6) hg8
     have HAT8 := Lib.hid (keep_at (Nat.le_trans HZ6.out HBD.out.size) hat8)
     have HL8 := Lib.hid hl8
     have HG8 := Lib.hid hg8
     have k8 := keep_p H.out HOB.out HK6.out HBD.out hg8
     have HK8 := Lib.hid k8
     clear hl8 hg8 hat8 k8
     refine hK.out _ _ HK8.out ?_
     clear hK
     simp only [Act.put, List.setIfInBounds_toArray, List.set_cons_zero, List.set_cons_succ]
     refine N_of_any _ _ _ _ (by apply hall_of; kernel_rfl) ?_
     refine wpAny_take (i := 19) (v := .pointer (some ⟨p, 0, none⟩)) rfl (by kernel_rfl) (by kernel_rfl) (by kernel_rfl) (fun _ _ _ h => h) (Or.inl ⟨by rfl, fun w' => ?_⟩) ?_
     · go_simp
     simp only [Act.put, List.setIfInBounds_toArray]
     refine wpAny_take (i := 20) (v := .pointer (some ⟨p, 1, none⟩)) rfl (by kernel_rfl) (by kernel_rfl) (by kernel_rfl) (fun _ _ _ h => h) (Or.inl ⟨by rfl, fun w' => ?_⟩) ?_
     · go_simp
     simp only [Act.put]
     have p0 : w8.cell? ⟨p, 0, none⟩ = some (.map (some b)) := by have k8 := HK8.out; simp [World.cell?, k8]
     have p1 : w8.cell? ⟨p, 1, none⟩ = some (.slice A S.log.length c) := by have k8 := HK8.out; simp [World.cell?, k8]
     have p2 : w8.cell? ⟨p, 2, none⟩ = some (.slice A2 S.log.length c2') := by have k8 := HK8.out; simp [World.cell?, k8]
     have z0 : w8.frozen? ⟨p, 0, none⟩ = false := by have k8 := HK8.out; simp [World.frozen?, k8]
     have z1 : w8.frozen? ⟨p, 1, none⟩ = false := by have k8 := HK8.out; simp [World.frozen?, k8]
     have z2 : w8.frozen? ⟨p, 2, none⟩ = false := by have k8 := HK8.out; simp [World.frozen?, k8]
     refine any_one (i := 21) (by kernel_rfl) rfl (fun K hK => ?_)
     dsimp only [List.getElem_toArray, List.getElem_cons_succ, List.getElem_cons_zero]
     go_simp
     refine hK.out _ _ ?_
     clear hK
     refine wpAny_take (i := 22) (v := .pointer (some ⟨p, 0, none⟩)) rfl (by kernel_rfl) (by kernel_rfl) (by kernel_rfl) (fun _ _ _ h => h) (Or.inl ⟨by rfl, fun w' => ?_⟩) ?_
     · go_simp
     simp only [Act.put, List.setIfInBounds_toArray]
     refine wpAny_take (i := 23) (v := .pointer (some ⟨p, 2, none⟩)) rfl (by kernel_rfl) (by kernel_rfl) (by kernel_rfl) (fun _ _ _ h => h) (Or.inl ⟨by rfl, fun w' => ?_⟩) ?_
     · go_simp
     simp only [Act.put]
     refine any_one (i := 24) (by kernel_rfl) rfl (fun K hK => ?_)
     dsimp only [List.getElem_toArray, List.getElem_cons_succ, List.getElem_cons_zero]
     go_simp
     refine hK.out _ _ ?_
     clear hK
     refine wpAny_done (by kernel_rfl) ?_ _
     go_wp2
     go_ret
     exact ⟨rfl, _, _, keep_end H.out HOB.out HTB.out HT.out HBS.out HDN.out HTS.out hl HBC.out HG6.out HL6.out HAT6.out HBD.out HG8.out HL8.out HAT8.out rfl⟩
 · dsimp only [List.getElem_toArray, List.getElem_cons_succ, List.getElem_cons_zero]
   go_simp
   refine hK.out _ _ (lit_far HOB.out) ?_
   clear hK
   refine N_ready (rs := [7]) (by kernel_rfl) (by simp) (ReadyN.cons rfl (fun K hK => ?_) ReadyN.nil)
   dsimp only [List.getElem_toArray, List.getElem_cons_succ, List.getElem_cons_zero]
   go_simp
   refine hK.out _ _ (lit_far (lit_far HOB.out)) ?_
   clear hK
   refine N_ready (rs := [8]) (by kernel_rfl) (by simp) (ReadyN.cons rfl (fun K hK => ?_) ReadyN.nil)
   dsimp only [List.getElem_toArray, List.getElem_cons_succ, List.getElem_cons_zero]
   refine step_appS (a := ⟨_, _⟩) (base := 0) (l := S.log) (v := .slice A S.log.length c) ?_ (.tmp 18) (.tmp 20) ?_ ?_ line S.log.length (w.heap.size + 1) ?_ ?_ ?_ ?_ ?_ ?_
   · rfl
   · rfl
   · rfl
   · rfl
   · exact own_belowK HLG.out (below_al2 w _ _)
   · exact lit_two w _ _
   · omega
   · exact Nat.zero_le _
   intro g6 cp6 w6 hl6 hg6 hat6 _
   have HBC := keep_hb (w := w) (below_al2 w _ _) hg6
   obtain ⟨k6, o6⟩ := DeskM.w6 H.out HBC.out hg6
   have HAT6 := Lib.hid (keep_at HBC.out.size hat6)
   have HL6 := Lib.hid hl6
   have HG6 := Lib.hid hg6
   have HO6 := Lib.hid (o6 HDN.out)
   have HK6 := Lib.hid k6
   have HZ6 := Lib.hid (Nat.le_trans HBC.out.size hg6.size)
   clear hl6 hg6 hat6 o6 k6
   refine hK.out _ _ (HK6.out.trans HOB.out) ?_
   clear hK
   simp only [Act.put, List.setIfInBounds_toArray, List.set_cons_zero, List.set_cons_succ]
   refine N_ready (rs := [18]) (by kernel_rfl) (by simp) (ReadyN.cons rfl (fun K hK => ?_) ReadyN.nil)
   dsimp only [List.getElem_toArray, List.getElem_cons_succ, List.getElem_cons_zero]
   refine step_appM (a := ⟨_, _⟩) (base := 0) (l := bs) (v := .slice A2 S.log.length c2') ?_ (.tmp 25) (.tmp 30) ?_ ?_ b S.log.length w.heap.size ?_ ?_ ?_ ?_ ?_ ?_
   · rfl
   · rfl
   · rfl
   · rfl
   · exact HO6.out
   · exact lit_kept HG6.out (lit_far (World.alloc_heap_new w _)) HV1.out (Nat.le_refl _)
   · omega
   · exact Nat.zero_le _
   intro g8 cp8 w8 hl8 hg8 hat8 _
   have HBD := keep_hb6 (w6 := w6) (Below.refl _ w6) hg8
   have HAT8 := Lib.hid (keep_at (Nat.le_trans HZ6.out HBD.out.size) hat8)
   have HL8 := Lib.hid hl8
   have HG8 := Lib.hid hg8
   have k8 := keep_p H.out HOB.out HK6.out HBD.out hg8
   have HK8 := Lib.hid k8
   clear hl8 hg8 hat8 k8
   refine hK.out _ _ HK8.out ?_
   clear hK
   simp only [Act.put, List.setIfInBounds_toArray, List.set_cons_zero, List.set_cons_succ]
   refine N_of_any _ _ _ _ (by apply hall_of; kernel_rfl) ?_
   refine wpAny_take (i := 19) (v := .pointer (some ⟨p, 0, none⟩)) rfl (by kernel_rfl) (by kernel_rfl) (by kernel_rfl) (fun _ _ _ h => h) (Or.inl ⟨by rfl, fun w' => ?_⟩) ?_
   · go_simp
   simp only [Act.put, List.setIfInBounds_toArray]
   refine wpAny_take (i := 20) (v := .pointer (some ⟨p, 1, none⟩)) rfl (by kernel_rfl) (by kernel_rfl) (by kernel_rfl) (fun _ _ _ h => h) (Or.inl ⟨by rfl, fun w' => ?_⟩) ?_
   · go_simp
   simp only [Act.put]
   have p0 : w8.cell? ⟨p, 0, none⟩ = some (.map (some b)) := by have k8 := HK8.out; simp [World.cell?, k8]
   have p1 : w8.cell? ⟨p, 1, none⟩ = some (.slice A S.log.length c) := by have k8 := HK8.out; simp [World.cell?, k8]
   have p2 : w8.cell? ⟨p, 2, none⟩ = some (.slice A2 S.log.length c2') := by have k8 := HK8.out; simp [World.cell?, k8]
   have z0 : w8.frozen? ⟨p, 0, none⟩ = false := by have k8 := HK8.out; simp [World.frozen?, k8]
   have z1 : w8.frozen? ⟨p, 1, none⟩ = false := by have k8 := HK8.out; simp [World.frozen?, k8]
   have z2 : w8.frozen? ⟨p, 2, none⟩ = false := by have k8 := HK8.out; simp [World.frozen?, k8]
   refine any_one (i := 21) (by kernel_rfl) rfl (fun K hK => ?_)
   dsimp only [List.getElem_toArray, List.getElem_cons_succ, List.getElem_cons_zero]
   go_simp
   refine hK.out _ _ ?_
   clear hK
   refine wpAny_take (i := 22) (v := .pointer (some ⟨p, 0, none⟩)) rfl (by kernel_rfl) (by kernel_rfl) (by kernel_rfl) (fun _ _ _ h => h) (Or.inl ⟨by rfl, fun w' => ?_⟩) ?_
   · go_simp
   simp only [Act.put, List.setIfInBounds_toArray]
   refine wpAny_take (i := 23) (v := .pointer (some ⟨p, 2, none⟩)) rfl (by kernel_rfl) (by kernel_rfl) (by kernel_rfl) (fun _ _ _ h => h) (Or.inl ⟨by rfl, fun w' => ?_⟩) ?_
   · go_simp
   simp only [Act.put]
   refine any_one (i := 24) (by kernel_rfl) rfl (fun K hK => ?_)
   dsimp only [List.getElem_toArray, List.getElem_cons_succ, List.getElem_cons_zero]
   go_simp
   refine hK.out _ _ ?_
   clear hK
   refine wpAny_done (by kernel_rfl) ?_ _
   go_wp2
   go_ret
   exact ⟨rfl, _, _, keep_end H.out HOB.out HTB.out HT.out HBS.out HDN.out HTS.out hl HBC.out HG6.out HL6.out HAT6.out HBD.out HG8.out HL8.out HAT8.out rfl⟩
end
end Go.Proofs.YtpmkdihencepnaaGreatDoor
