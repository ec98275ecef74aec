/- Part of the proof. -/
import Derived.Deep.DeepCutAuto
import Derived.Deep.CutBlock
import Derived.Test.YtpmkdihencepnaaGreatDoorMk45
set_option maxHeartbeats 16000000
set_option maxRecDepth 100000
namespace Go.Proofs.YtpmkdihencepnaaGreatDoor
section
open Go.RowKit Go.Proofs
open Go.Shelf Go.Lib
theorem spl_len (c : UInt8) : ∀ (s : Str) (p : Str), p ∈ spl c s → p.length ≤ s.length
 | [], p, h => by simp [spl] at h; subst h; simp
 | x :: r, p, h => by
  have ih := spl_len c r
  have hn := spl_ne c r
  unfold spl at h
  by_cases e : x = c
  · rw [if_pos e] at h
    rcases List.mem_cons.1 h with rfl | h
    · simp
    · have := ih p h; simp; omega
  · rw [if_neg e] at h
    cases hs : spl c r with
    | nil => exact absurd hs hn
    | cons q qs =>
     rw [hs] at h ih
     rcases List.mem_cons.1 h with rfl | h
     · have := ih q (by simp); simp; omega
     · have := ih p (List.mem_cons_of_mem _ h); simp; omega
theorem mem_tail {l : List Str} {i : Nat} (h : i + 1 < l.length) : l.getD (i + 1) [] ∈ l.tail := by
 cases l with
 | nil => simp at h
 | cons a r =>
  simp only [List.length_cons] at h
  rw [List.getD_cons_succ, List.getD_eq_getElem?_getD, List.getElem?_eq_getElem (by omega)]
  exact List.getElem_mem _
theorem Tryz.infoTab : (Tryz.prog.info? 48).map (fun i => (i.zero, i.size, i.bytes)) = some (some (.slice none 0 0), 1, 24) := by kernel_rfl
theorem wpList_appTab {w : World} {base : Nat} {v : Value} {hs : List Value} {ops : Array Oper} {rest : List Oper} {o : Oper} {a : Act} {Q : Exit → Act → World → Prop} (hgd : o.guard = none) (s x : Operand)
 (ho : o.op = .call { callee := .builtin .append, args := #[s, x], argTypes := #[87, 87] }) (hs' : a.eval s = v) (u : Value) (hu : u.oneCell' = true) {n : Nat}
 (hown : w.ownsRow base 48 1 v n hs) (g0 : Nat) (hg0 : g0 = w.heap.size) (hx : a.eval x = .slice (some ⟨g0, 0, none⟩) 1 1) (hlen : n < 1000000) (hbase : base ≤ w.heap.size)
 (h : ∀ g cap w', w'.ownsRow base 48 1 (.slice (some ⟨g, 0, none⟩) (n + 1) cap) (n + 1) (hs ++ [u]) → (w.alloc (.cells #[u] 48)).grownBy w' v.ownBlock →
  wpList Tryz.prog ops Q rest (a.put o.dst (.slice (some ⟨g, 0, none⟩) (n + 1) cap)) w') :
 wpList Tryz.prog ops Q (o :: rest) a (w.alloc (.cells #[u] 48)) := by
 subst hg0
 obtain ⟨i0, hi, hz0, hz1, hz2⟩ := info_parts Tryz.infoTab
 refine wpList_append_lies _ hgd s x 87 ho base 48 i0 (.slice none 0 0) 1 24 Tryz.underlying87 hi hz0 hz1 hz2 rfl (by decide) v n hs hs' (hown.alloc _) ⟨w.heap.size, 0, none⟩ 1 1 [u] hx rfl ?_ (by simpa using hu) (by decide)
  (by unfold maxLen; omega) (by omega) (by simp; omega) _ rfl (fun g cap w' h1 h2 _ _ => ?_)
 · intro j y hy
   match j, hy with
   | 0, hy => simp at hy; subst hy; simp [Addr.add]
 · exact h g cap w' (by simpa using h1) h2
theorem fx_app {w w' : World} {v : Value} {o : Obj} (hg : (w.alloc o).grownBy w' v.ownBlock) : Fx (fun k => v.ownBlock = some k) w w' :=
 ⟨Nat.le_trans (by simp) hg.size, fun k h1 h2 => (hg.block k (by simp; omega) (fun e => h2 e.symm)).trans (Below.heap_alloc _ _ k h1), hg.os, hg.tape, hg.output⟩
theorem below_app {w w' : World} {v : Value} {o : Obj} {n : Nat} (hg : (w.alloc o).grownBy w' v.ownBlock) (hv : ∀ j, v.ownBlock = some j → n ≤ j) (hn : n ≤ w.heap.size) : Below n w w' :=
 ((Below.refl n w).alloc hn o).grown hg (by simp; omega) hv
theorem few_row {T : Rws} (h : FewT T) (k : Nat) : (T.getD k []).length < 1000000 := by
 rcases Nat.lt_or_ge k T.length with h1 | h1
 · rw [List.getD_eq_getElem?_getD, List.getElem?_eq_getElem h1]
   have := (h.2 _ (List.getElem_mem h1)).1
   simp; omega
 · rw [List.getD_eq_getElem?_getD, List.getElem?_eq_none h1]; simp
theorem own_tab {w : World} {B e n : Nat} {v : Value} {xs : List Value} (h : w.ownsRow B e 1 v n xs) (hn : 0 < n) : ∃ g cap, v = .slice (some ⟨g, 0, none⟩) n cap ∧ (∀ k x, xs[k]? = some x → w.cell? ⟨g, k, none⟩ = some x) ∧ n ≤ cap := by
 have hl := h.1
 rcases h.2 with ⟨_, e2⟩ | ⟨g, cap, cur, rfl, _, hh, hc, hm, hs, ht⟩
 · omega
 · refine ⟨g, cap, rfl, fun k x hk => ?_, hc⟩
   have hkl : k < xs.length := (List.getElem?_eq_some_iff.1 hk).1
   rw [← ht, List.getElem?_take] at hk
   split at hk
   · simpa [World.cell?, hh] using hk
   · cases hk
theorem bare_own {w : World} {B e size n : Nat} {v : Value} {xs : List Value} (h : w.ownsRow B e size v n xs) (h1 : e ≠ 65) (h2 : e ≠ 3) : Bare (fun k => v.ownBlock = some k) w := by
 intro k hk
 rcases h.2 with ⟨rfl, _⟩ | ⟨g, cap, cur, rfl, _, hh, _⟩
 · simp [Value.ownBlock] at hk
 · obtain rfl : g = k := by simpa [Value.ownBlock] using hk
   exact ⟨_, _, _, hh, h1, h2⟩
theorem cell_row (w : World) (cs : List Value) (t : TypeId) {j : Nat} {x : Value} (hj : cs[j]? = some x) : (w.alloc (.cells cs.toArray t)).cell? ⟨w.heap.size, j, none⟩ = some x := by
 unfold World.cell?
 rw [World.alloc_heap_new]
 simpa using hj
theorem fv_nil {o : Option (Rws → Rws × Int)} {fv : Value} {w : World} (h : FvIs o fv w) {na : Bool} (hn : na = o.isNone) (v : World) : Sem.run Tryz.prog (binOp BinOp.eql 88 fv Value.nilFunc) v = .ok (.bool na) v := by
 subst hn
 cases o with
 | none => obtain rfl : fv = .nilFunc := h; kernel_rfl
 | some F => obtain ⟨g, lb, rfl, _⟩ := h; kernel_rfl
theorem fw_nil {o : Option (Rws → Rws → Rws × Int)} {fw : Value} (h : PvIs o fw) {nb : Bool} (hn : nb = o.isNone) (v : World) : Sem.run Tryz.prog (binOp BinOp.eql 90 fw Value.nilFunc) v = .ok (.bool nb) v := by
 subst hn
 cases o with
 | none => obtain rfl : fw = .nilFunc := h; kernel_rfl
 | some F => obtain ⟨g, rfl, _⟩ := h; kernel_rfl
theorem fw_some {o : Option (Rws → Rws → Rws × Int)} {fw : Value} (h : PvIs o fw) {nb : Bool} (hn : nb = o.isSome) (v : World) : Sem.run Tryz.prog (binOp BinOp.neq 90 fw Value.nilFunc) v = .ok (.bool nb) v := by
 subst hn
 cases o with
 | none => obtain rfl : fw = .nilFunc := h; kernel_rfl
 | some F => obtain ⟨g, rfl, _⟩ := h; kernel_rfl
theorem fv_gd {o : Option (Rws → Rws × Int)} {fv : Value} {w : World} (h : FvIs o fv w) (b : BinOp) (t : TypeId) (x y : Operand) (v : World) : Sem.run Tryz.prog (eqGuard b t x y fv Value.nilFunc) v = .ok () v := by
 cases o with
 | none => obtain rfl : fv = .nilFunc := h; cases b <;> kernel_rfl
 | some F => obtain ⟨g, lb, rfl, _⟩ := h; cases b <;> kernel_rfl
theorem fw_gd {o : Option (Rws → Rws → Rws × Int)} {fw : Value} (h : PvIs o fw) (b : BinOp) (t : TypeId) (x y : Operand) (v : World) : Sem.run Tryz.prog (eqGuard b t x y fw Value.nilFunc) v = .ok () v := by
 cases o with
 | none => obtain rfl : fw = .nilFunc := h; cases b <;> kernel_rfl
 | some F => obtain ⟨g, rfl, _⟩ := h; cases b <;> kernel_rfl
theorem worF_some {th : Thg} {s : Str} {T : Rws} (h : thgF s = some T) : worF th s = (T, 0) := by unfold worF; rw [h]
theorem worF_none {th : Thg} {s : Str} (h : thgF s = none) (h1 : prOf ⟨((spl 32 s).headD []).toArray⟩ = none) (h2 : wayOf ⟨((spl 32 s).headD []).toArray⟩ = none) : worF th s = ([], 4) := by
 unfold worF; rw [h, h1, h2]
theorem worF_miss {th : Thg} {s : Str} (h : thgF s = none) (hno : ¬ (wayOf ⟨((spl 32 s).headD []).toArray⟩ = none ∧ prOf ⟨((spl 32 s).headD []).toArray⟩ = none))
 (hb : (spl 32 s).length = (if (prOf ⟨((spl 32 s).headD []).toArray⟩).isSome = true then 2 else 1) + 1) (hn : ∀ w ∈ (spl 32 s).tail, namF w = true) {j : Nat} (hj : j + 1 < (spl 32 s).length) (hm : th ((spl 32 s).getD (j + 1) []) = none) : worF th s = ([], 6) := by
 unfold worF
 rw [h]
 cases hp : prOf ⟨((spl 32 s).headD []).toArray⟩ with
 | some G =>
  rw [hp] at hb
  simp only [Option.isSome_some, if_true] at hb
  simp only
  rw [if_neg (fun g => g.elim (fun g => g hb) (fun g => g hn))]
  have : j = 0 ∨ j = 1 := by omega
  rcases this with rfl | rfl
  · rw [hm]
  · cases th ((spl 32 s).getD 1 []) <;> simp only [hm]
 | none =>
  rw [hp] at hb
  cases hw : wayOf ⟨((spl 32 s).headD []).toArray⟩ with
  | none => exact absurd ⟨hw, hp⟩ hno
  | some F =>
   simp only [Option.isSome_none, Bool.false_eq_true, if_false] at hb
   simp only
   rw [if_neg (fun g => g.elim (fun g => g hb) (fun g => g hn))]
   obtain rfl : j = 0 := by omega
   rw [hm]
theorem worF_two {th : Thg} {s : Str} (h : thgF s = none) {G : Rws → Rws → Rws × Int} (hp : prOf ⟨((spl 32 s).headD []).toArray⟩ = some G)
 (hb : (spl 32 s).length = 3) (hn : ∀ w ∈ (spl 32 s).tail, namF w = true) {T U : Rws} (h1 : th ((spl 32 s).getD 1 []) = some T) (h2 : th ((spl 32 s).getD 2 []) = some U) : worF th s = G T U := by
 unfold worF
 rw [h, hp]
 simp only
 rw [if_neg (fun g => g.elim (fun g => g hb) (fun g => g hn)), h1, h2]
theorem worF_one {th : Thg} {s : Str} (h : thgF s = none) {F : Rws → Rws × Int} (hp : prOf ⟨((spl 32 s).headD []).toArray⟩ = none) (hw : wayOf ⟨((spl 32 s).headD []).toArray⟩ = some F)
 (hb : (spl 32 s).length = 2) (hn : ∀ w ∈ (spl 32 s).tail, namF w = true) {T : Rws} (h1 : th ((spl 32 s).getD 1 []) = some T) : worF th s = F T := by
 unfold worF
 rw [h, hp, hw]
 simp only
 rw [if_neg (fun g => g.elim (fun g => g hb) (fun g => g hn)), h1]
theorem worF_bad {th : Thg} {s : Str} (h : thgF s = none) (hno : ¬ (wayOf ⟨((spl 32 s).headD []).toArray⟩ = none ∧ prOf ⟨((spl 32 s).headD []).toArray⟩ = none))
 (hb : (spl 32 s).length ≠ (if (prOf ⟨((spl 32 s).headD []).toArray⟩).isSome = true then 2 else 1) + 1 ∨ ¬ ∀ w ∈ (spl 32 s).tail, namF w = true) : worF th s = ([], 4) := by
 unfold worF
 rw [h]
 cases hp : prOf ⟨((spl 32 s).headD []).toArray⟩ with
 | some G =>
  rw [hp] at hb
  simp only [Option.isSome_some, if_true] at hb
  simp only
  rw [if_pos hb]
 | none =>
  rw [hp] at hb
  cases hw : wayOf ⟨((spl 32 s).headD []).toArray⟩ with
  | none => exact absurd ⟨hw, hp⟩ hno
  | some F =>
   simp only [Option.isSome_none, Bool.false_eq_true, if_false] at hb
   simp only
   rw [if_pos hb]
theorem worth_c (p b n : Nat) (th : Thg) (s : Str) (w : World) (hs : s.length ≤ 100000) (he : Env w) (hc : w.cell? ⟨p, 0, none⟩ = some (.map (some b))) (hT : TM w b n th) :
 Calls Tryz.prog 32 #[.pointer (some ⟨p, 0, none⟩), sv s] w fun e w' => DOut (worF th s) 0 e w' ∧ Below w.heap.size w w' := by
 have HTH := Lib.hid ((callsIn_wide (n := 9)).1 (thing_in 9 (Nat.le_refl _) s w hs he))
 have HE := Lib.hid he
 cases ht : thgF s with
 | some T =>
  rw [worF_some ht]
  have HTH2 : Hid (Calls Tryz.prog 49 #[sv s] w fun e w' => (∃ A c, e = .returned (.tuple #[.slice A T.length c, .bool true]) ∧ OwnR w' 0 A c T) ∧ Below w.heap.size w w') := Lib.hid (HTH.out.mono (by
   rintro e w' ⟨h1, h2⟩
   unfold ThgOut at h1
   rw [ht] at h1
   obtain ⟨A, c, h1, h3, _⟩ := h1
   exact ⟨⟨A, c, h1, h3⟩, h2⟩))
  clear HTH ht hc he hT
  go_enter Tryz.func32, Tryz.ntmps32
  go_wp2_with (first | (go_at_call 49; refine (HTH2.out).mono ?_; rintro e w1 ⟨⟨A, c, rfl, ho⟩, hb1⟩; have HO := Lib.hid ho; have HB := Lib.hid hb1; clear ho hb1) | fail)
  go_ret2
  exact ⟨⟨A, c, rfl, HO.out⟩, HB.out⟩
 | none =>
  have HTH2 : Hid (Calls Tryz.prog 49 #[sv s] w fun e w' => e = .returned (.tuple #[.slice none 0 0, .bool false]) ∧ Below w.heap.size w w') := Lib.hid (HTH.out.mono (by
   rintro e w' ⟨h1, h2⟩
   unfold ThgOut at h1
   rw [ht] at h1
   exact ⟨h1, h2⟩))
  have HSP : Hid (∀ w1, Below w.heap.size w w1 → Calls Tryz.prog 50 #[sv s, .string ⟨#[32]⟩] w1 fun e w' => e = .returned (.slice (some ⟨w1.heap.size, 0, none⟩) (spl 32 s).length (spl 32 s).length) ∧ Below w1.heap.size w1 w' ∧ ∀ j x, (spl 32 s)[j]? = some x → w'.cell? ⟨w1.heap.size, j, none⟩ = some (sv x)) := Lib.hid fun w1 hb => (split_c s 32 w1 (by omega) (HE.out.below hb)).mono (by
   rintro e w' ⟨rfl, rfl⟩
   exact ⟨rfl, (Below.refl _ _).alloc (Nat.le_refl _) _, fun j x hj => cell_row w1 _ _ (by rw [List.getElem?_map, hj]; rfl)⟩)
  have HNE := Lib.hid (spl_ne 32 s)
  have HT := Lib.hid hT
  have HC := Lib.hid hc
  obtain ⟨WS, hWS⟩ : ∃ WS, WS = spl 32 s := ⟨_, rfl⟩
  rw [← hWS] at HSP HNE
  have HWS := Lib.hid hWS
  have HTF := Lib.hid ht
  have hpos : 0 < WS.length := List.length_pos_iff.2 HNE.out
  clear HTH ht hWS hT he hc
  go_enter Tryz.func32, Tryz.ntmps32
  go_upto_region 6 with (first | (go_at_call 49; refine (HTH2.out).mono ?_; rintro e w1 ⟨rfl, hb1⟩; have HB1 := Lib.hid hb1; clear hb1) | (go_at_call 50; refine (HSP.out _ HB1.out).mono ?_; rintro e w2 ⟨rfl, hb2, hcl⟩; have HB2 := Lib.hid hb2; have HCL := Lib.hid hcl; clear hb2 hcl) | fail)
  obtain ⟨g, hg⟩ : ∃ g, g = w1.heap.size := ⟨_, rfl⟩
  rw [← hg] at HCL ⊢
  have hgl : g < w2.heap.size := by
   have h0 := HCL.out 0 _ (List.getElem?_eq_getElem hpos)
   obtain ⟨o, ho, _⟩ := cells_of_cell h0
   exact lt_of_some ho
  clear hg
  obtain ⟨hd, hhd⟩ : ∃ hd, hd = WS.headD [] := ⟨_, rfl⟩
  have h0 : w2.cell? ⟨g, 0, none⟩ = some (sv hd) := HCL.out 0 hd (by
   have := HNE.out
   cases WS with
   | nil => exact absurd rfl this
   | cons x r => simp [hhd])
  have HHD := Lib.hid hhd
  clear hhd
  have HWAY : Hid (∀ w3, Calls Tryz.prog 51 #[sv hd] w3 fun e w' => FvOut (wayOf ⟨hd.toArray⟩) e w3 w') := Lib.hid fun w3 => ways_any ⟨hd.toArray⟩ w3
  have HPR : Hid (∀ w3, Calls Tryz.prog 52 #[sv hd] w3 fun e w' => PvOut (prOf ⟨hd.toArray⟩) e w3 w') := Lib.hid fun w3 => pairs_any ⟨hd.toArray⟩ w3
  obtain ⟨ow, how⟩ : ∃ ow, ow = wayOf ⟨hd.toArray⟩ := ⟨_, rfl⟩
  obtain ⟨op, hop⟩ : ∃ op, op = prOf ⟨hd.toArray⟩ := ⟨_, rfl⟩
  rw [← how] at HWAY
  rw [← hop] at HPR
  have HOW := Lib.hid how
  have HOP := Lib.hid hop
  clear how hop
  go_cut [10, 11] (fun fv fw wz => FvIs ow fv wz ∧ PvIs op fw ∧ Below w2.heap.size w2 wz)
  case first =>
   go_region_with (first | (go_at_call 51; refine (HWAY.out _).mono ?_; rintro e w3 ⟨⟨fv, rfl, hfv⟩, hb3⟩; have HFV := Lib.hid hfv; have hb3' : Below w2.heap.size w2 w3 := (by first | exact hb3 | exact (below_drewN (Below.refl _ w2) 1).trans hb3); have HB3 := Lib.hid hb3'; have h3 := (hb3'.cell (p := ⟨g, 0, none⟩) hgl).trans h0; clear hfv hb3 hb3') | (go_at_call 52; refine (HPR.out _).mono ?_; rintro e w4 ⟨⟨fw, rfl, hfw⟩, rfl⟩; have HFW := Lib.hid hfw; clear hfw) | fail)
   all_goals (go_wp2_with fail; go_meet; exact ⟨HFV.out, HFW.out, HB3.out⟩)
  case rest =>
   obtain ⟨hfv, hfw, hb3⟩ := hcut
   have HFV := Lib.hid hfv
   have HFW := Lib.hid hfw
   have HB3 := Lib.hid hb3
   clear hfv hfw hb3
   obtain ⟨fv, hv⟩ : ∃ fv, u10 = fv := ⟨_, rfl⟩
   obtain ⟨fw, hw⟩ : ∃ fw, u11 = fw := ⟨_, rfl⟩
   rw [hv] at HFV ⊢
   rw [hw] at HFW ⊢
   clear hv hw
   obtain ⟨w3, hw3⟩ : ∃ w3, wc = w3 := ⟨_, rfl⟩
   rw [hw3] at HFV HB3 ⊢
   clear hw3
   obtain ⟨na, hna⟩ : ∃ na, na = ow.isNone := ⟨_, rfl⟩
   obtain ⟨nb, hnb⟩ : ∃ nb, nb = op.isNone := ⟨_, rfl⟩
   obtain ⟨tb, htb⟩ : ∃ tb, tb = op.isSome := ⟨_, rfl⟩
   have hE1 : ∀ v, Sem.run Tryz.prog (binOp BinOp.eql 88 fv Value.nilFunc) v = .ok (.bool na) v := fun v => fv_nil HFV.out hna v
   have hE2 : ∀ v, Sem.run Tryz.prog (binOp BinOp.eql 90 fw Value.nilFunc) v = .ok (.bool nb) v := fun v => fw_nil HFW.out hnb v
   have hE3 : ∀ v, Sem.run Tryz.prog (binOp BinOp.neq 90 fw Value.nilFunc) v = .ok (.bool tb) v := fun v => fw_some HFW.out htb v
   have hG1 : ∀ v, Sem.run Tryz.prog (eqGuard BinOp.eql 88 (Operand.tmp 36) (Operand.const Value.nilFunc) fv Value.nilFunc) v = .ok () v := fun v => fv_gd HFV.out _ _ _ _ v
   have hG2 : ∀ v, Sem.run Tryz.prog (eqGuard BinOp.eql 90 (Operand.tmp 39) (Operand.const Value.nilFunc) fw Value.nilFunc) v = .ok () v := fun v => fw_gd HFW.out _ _ _ _ v
   have hG3 : ∀ v, Sem.run Tryz.prog (eqGuard BinOp.neq 90 (Operand.tmp 42) (Operand.const Value.nilFunc) fw Value.nilFunc) v = .ok () v := fun v => fw_gd HFW.out _ _ _ _ v
   have hG4 : ∀ v, Sem.run Tryz.prog (eqGuard BinOp.neq 90 (Operand.tmp 84) (Operand.const Value.nilFunc) fw Value.nilFunc) v = .ok () v := fun v => fw_gd HFW.out _ _ _ _ v
   have HNA := Lib.hid hna
   have HNB := Lib.hid hnb
   have HTB := Lib.hid htb
   clear hna hnb htb
   go_upto_region 7 with fail
   go_cut [41] (fun bv wz => bv = .bool (na && nb) ∧ wz = w3)
   case first =>
    cases na
    · go_wp2
      go_meet
      exact ⟨rfl, rfl⟩
    · go_wp2
      go_meet
      exact ⟨rfl, rfl⟩
   case rest =>
    obtain ⟨rfl, hw⟩ := hcut; rw [hw]; clear hw
    by_cases hno : (na && nb) = true
    · rw [hno]
      have hr : Hid (worF th s = ([], 4)) := by
       show _ = _
       rw [HNA.out, HNB.out] at hno
       simp only [Bool.and_eq_true, Option.isNone_iff_eq_none] at hno
       refine worF_none HTF.out ?_ ?_
       · rw [← HWS.out, ← HHD.out, ← HOP.out]; exact hno.2
       · rw [← HWS.out, ← HHD.out, ← HOW.out]; exact hno.1
      clear hno
      go_wp2
      go_ret2
      rw [hr.out]
      exact ⟨dout_bad _ _ _, below_of (below_of HB1.out HB2.out) HB3.out⟩
    · rw [Bool.eq_false_iff.2 hno]
      have HNO := Lib.hid hno
      clear hno
      go_upto_region 10 with fail
      obtain ⟨nd, hnd⟩ : ∃ nd : Nat, nd = if tb = true then 2 else 1 := ⟨_, rfl⟩
      go_upto_if 43 with fail
      go_cut [12] (fun nv wz => nv = .int .i64 nd ∧ wz = w3)
      case first =>
       subst hnd
       cases tb
       · go_wp2
         go_meet
         exact ⟨rfl, rfl⟩
       · go_wp2
         go_meet
         exact ⟨rfl, rfl⟩
      case rest =>
       obtain ⟨rfl, hw⟩ := hcut; rw [hw]; clear hw
       have HND := Lib.hid hnd
       have hnd2 : 1 ≤ nd ∧ nd ≤ 2 := by cases tb <;> simp [hnd]
       clear hnd
       by_cases hN : WS.length = nd + 1
       · rw [hN]
         have dN : (((nd + 1 : Nat) : Int) != (nd : Int) + 1) = false := by simp
         have HN := Lib.hid hN
         have HLE : Hid (∀ j, (WS.getD j []).length ≤ 100000) := Lib.hid fun j => by
          rw [HWS.out]
          rcases Nat.lt_or_ge j (spl 32 s).length with h | h
          · rw [List.getD_eq_getElem?_getD, List.getElem?_eq_getElem h]
            exact Nat.le_trans (spl_len 32 s _ (List.getElem_mem h)) hs
          · rw [List.getD_eq_getElem?_getD, List.getElem?_eq_none h]; simp
         have HCJ : Hid (∀ j, j < nd → w3.cell? ⟨g, 1 + j, none⟩ = some (sv (WS.getD (j + 1) []))) := Lib.hid fun j hj => by
          refine (HB3.out.cell (p := ⟨g, 1 + j, none⟩) hgl).trans (HCL.out _ _ ?_)
          have hl := HN.out
          rw [List.getD_eq_getElem?_getD, Nat.add_comm 1 j, List.getElem?_eq_getElem (by omega)]; rfl
         have hg3 : g < w3.heap.size := Nat.lt_of_lt_of_le hgl HB3.out.size
         have HBW : Hid (Below w.heap.size w w3) := Lib.hid (below_of (below_of HB1.out HB2.out) HB3.out)
         clear hN h0 hpos
         go_upto_region 14 with fail
         go_wp2
         go_loopw [52] (fun iv wr => ∃ i : Nat, i ≤ nd ∧ iv = .int .i64 i ∧ (∀ j, j < i → namF (WS.getD (j + 1) []) = true) ∧ Below w3.heap.size w3 wr) (fun iv _ => nd - (Go.RowKit.intOf iv).toNat)
         case atStart => exact ⟨0, Nat.zero_le _, rfl, fun j hj => absurd hj (Nat.not_lt_zero _), Below.refl _ _⟩
         case round =>
          obtain ⟨i, hi, rfl, hnam, hbr⟩ := hrel
          obtain ⟨w9, rfl⟩ : ∃ w9, w9 = wr := ⟨_, rfl⟩
          have HNAM := Lib.hid hnam
          have HBR := Lib.hid hbr
          clear hnam hbr
          by_cases hin : i < nd
          · have di : decide (i < nd) = true := decide_eq_true hin
            have di2 : decide ((i : Int) < (nd : Int)) = true := decide_eq_true (by omega)
            have hcj := (HBR.out.cell (p := ⟨g, 1 + i, none⟩) hg3).trans (HCJ.out i hin)
            have HNM := Lib.hid (named_c (WS.getD (i + 1) []) w9 (by have := HLE.out (i + 1); omega))
            obtain ⟨nm, hnm⟩ : ∃ nm, nm = WS.getD (i + 1) [] := ⟨_, rfl⟩
            rw [← hnm] at hcj HNM
            have HNE2 := Lib.hid hnm
            clear hnm
            cases hok : namF nm with
            | true =>
             rw [hok] at HNM
             go_wp2_with (first | (go_at_call 16; refine (HNM.out).mono ?_; rintro e w5 ⟨rfl, hb5⟩; have HB5 := Lib.hid hb5; clear hb5) | fail)
             go_roundw
             case rel =>
              refine ⟨i + 1, by omega, by go_num, fun j hj => ?_, below_of HBR.out HB5.out⟩
              rcases Nat.lt_succ_iff_lt_or_eq.1 hj with h | rfl
              · exact HNAM.out j h
              · rw [← HNE2.out]; exact hok
             case measure => simp [Go.RowKit.intOf]; omega
            | false =>
             rw [hok] at HNM
             have hr : Hid (worF th s = ([], 4)) := by
              show _ = _
              refine worF_bad HTF.out ?_ (.inr fun hall => ?_)
              · rw [← HWS.out, ← HHD.out, ← HOP.out, ← HOW.out]
                have := HNO.out
                rw [HNA.out, HNB.out] at this
                simpa using this
              · rw [← HWS.out] at hall
                have h3 := hall nm (by
                 have hl := HN.out
                 rw [HNE2.out]
                 exact mem_tail (by omega))
                rw [hok] at h3; cases h3
             go_wp2_with (first | (go_at_call 16; refine (HNM.out).mono ?_; rintro e w5 ⟨rfl, hb5⟩; have HB5 := Lib.hid hb5; clear hb5) | fail)
             go_ret2
             rw [hr.out]
             exact ⟨dout_bad _ _ _, below_of HBW.out (below_of HBR.out HB5.out)⟩
          · obtain rfl : i = nd := by omega
            have di : decide (i < i) = false := decide_eq_false (by omega)
            have HHNO : Hid (¬ (wayOf ⟨((spl 32 s).headD []).toArray⟩ = none ∧ prOf ⟨((spl 32 s).headD []).toArray⟩ = none)) := by
             show ¬ _
             rw [← HWS.out, ← HHD.out, ← HOP.out, ← HOW.out]
             have := HNO.out
             rw [HNA.out, HNB.out] at this
             simpa using this
            have HHN : Hid ((spl 32 s).length = (if (prOf ⟨((spl 32 s).headD []).toArray⟩).isSome = true then 2 else 1) + 1) := by
             show _ = _
             rw [← HWS.out, ← HHD.out, ← HOP.out, HN.out, HND.out, HTB.out]
            have HALL : Hid (∀ w ∈ (spl 32 s).tail, namF w = true) := by
             intro x hx
             rw [← HWS.out] at hx
             obtain ⟨k, hk, rfl⟩ := List.mem_iff_getElem.1 hx
             have hl := HN.out
             have h4 := HNAM.out k (by rw [List.length_tail] at hk; omega)
             rw [List.getD_eq_getElem?_getD, List.getElem?_eq_getElem (by rw [List.length_tail] at hk; omega)] at h4
             simpa using h4
            clear di
            go_wp2
            go_loopw [9, 63] (fun av jv wz => ∃ (j : Nat) (ag : List Value), j ≤ i ∧ jv = .int .i64 j ∧ wz.ownsRow w9.heap.size 48 1 av j ag ∧ (∀ k, k < j → ∃ T A c, th (WS.getD (k + 1) []) = some T ∧ ag[k]? = some (.slice A T.length c) ∧ OwnR wz 0 A c T) ∧ Below w9.heap.size w9 wz) (fun _ jv _ => i - (Go.RowKit.intOf jv).toNat)
            case atStart => exact ⟨0, [], Nat.zero_le _, rfl, World.ownsRow_nil _ _ _ _, fun k hk => absurd hk (Nat.not_lt_zero _), Below.refl _ _⟩
            case round =>
             obtain ⟨j, ag, hj, rfl, hown, has, hbz⟩ := hrel
             obtain ⟨wz, rfl⟩ : ∃ wz, wz = wr := ⟨_, rfl⟩
             have HOWN := Lib.hid hown
             have HAS := Lib.hid has
             have HBZ := Lib.hid hbz
             have hzz := hbz.size
             clear hown has hbz
             by_cases hjn : j < i
             · have dj : decide (j < i) = true := decide_eq_true hjn
               have dj2 : decide ((j : Int) < (i : Int)) = true := decide_eq_true (by omega)
               have hb35 : Below w3.heap.size w3 wz := below_of HBR.out HBZ.out
               have hcj := (hb35.cell (p := ⟨g, 1 + j, none⟩) hg3).trans (HCJ.out j hjn)
               have hbw5 : Below w.heap.size w wz := below_of HBW.out hb35
               have hcp := (hbw5.cell (p := ⟨p, 0, none⟩) (by obtain ⟨o, ho, _⟩ := cells_of_cell HC.out; exact lt_of_some ho)).trans HC.out
               have HTM := Lib.hid (HT.out.below hbw5)
               have hnl := HLE.out (j + 1)
               have HB5 := Lib.hid hbw5
               obtain ⟨nm, hnm⟩ : ∃ nm, nm = WS.getD (j + 1) [] := ⟨_, rfl⟩
               rw [← hnm] at hcj hnl
               have HNE2 := Lib.hid hnm
               clear hnm hb35 hbw5
               cases htj : th nm with
               | none =>
                have hr : Hid (worF th s = ([], 6)) := by
                 show _ = _
                 refine worF_miss HTF.out HHNO.out HHN.out HALL.out (j := j) ?_ ?_
                 · rw [← HWS.out, HN.out]; omega
                 · rw [← HWS.out, ← HNE2.out]; exact htj
                have HTJ := Lib.hid htj
                clear htj
                go_wp2_with (first | (at_lookup; refine TM.look HTM.out rfl _ _ rfl rfl (s := nm) (by omega) rfl ?_; intro A1 c1 _; rw [HTJ.out]; simp only [Option.getD_none, Option.isSome_none, List.length_nil]) | fail)
                go_ret2
                rw [hr.out]
                exact ⟨dout_bad _ _ _, HB5.out⟩
               | some T =>
                have HTJ := Lib.hid htj
                have hfT := HTM.out.few htj
                have HFT := Lib.hid hfT
                clear htj hfT
                go_wp2_with (first | (at_lookup; refine TM.look HTM.out rfl _ _ rfl rfl (s := nm) (by omega) rfl ?_; intro A1 c1 hAc; obtain ⟨_, hoT⟩ := hAc T HTJ.out; have HTW := Lib.hid (dtwin_any A1 c1 T wz (by have := HFT.out.1; omega) (fun k => few_row HFT.out k) hoT.sr); clear hoT hAc; rw [HTJ.out]; simp only [Option.getD_some, Option.isSome_some]) | (go_at_call 53; refine (HTW.out).mono ?_; rintro e w7 ⟨⟨v7, hs7, rfl, hm7⟩, hb7⟩; obtain ⟨A7, c7, rfl, ho7, _, _⟩ := hm7.ownR; have HO7 := Lib.hid (ho7.low (Nat.zero_le _)); have HB7 := Lib.hid hb7; have HOW7 := Lib.hid (own_belowK HOWN.out hb7); have h7z := hb7.size; clear hm7 hb7 ho7) | (at_builtin; refine wpList_appTab (v := u9) rfl (.tmp 78) (.tmp 81) rfl rfl (.slice A7 T.length c7) rfl HOW7.out w7.heap.size rfl rfl (by omega) (by omega) (fun g8 c8 w8 hl8 hg8 => ?_)) | fail)
                go_roundw
                case rel =>
                 have hfx := fx_app hg8
                 have hbare := bare_own HOW7.out (by decide) (by decide)
                 refine ⟨j + 1, _, by omega, by go_num, hl8, fun k hk => ?_, ?_⟩
                 · have hal : ag.length = j := by have := HOWN.out.1; omega
                   rcases Nat.lt_succ_iff_lt_or_eq.1 hk with h | rfl
                   · obtain ⟨T', A', c', h1, h2, h3⟩ := HAS.out k h
                     exact ⟨T', A', c', h1, by rw [List.getElem?_append_left (by omega)]; exact h2, (h3.below HB7.out).fr hfx hbare⟩
                   · exact ⟨T, A7, c7, by rw [← HNE2.out]; exact HTJ.out, by rw [List.getElem?_append_right (by omega), hal, Nat.sub_self]; rfl, HO7.out.fr hfx hbare⟩
                 · exact (HBZ.out.trans (HB7.out.mono hzz)).trans (below_app hg8 (own_ge HOW7.out (Nat.le_refl _)) (by omega))
                case measure => simp [Go.RowKit.intOf]; omega
             · obtain rfl : j = i := by omega
               have dj : decide (j < j) = false := decide_eq_false (by omega)
               have hb35 : Below w3.heap.size w3 wz := below_of HBR.out HBZ.out
               have HBW5 : Hid (Below w.heap.size w wz) := Lib.hid (below_of HBW.out hb35)
               cases op with
               | some G =>
                obtain rfl : tb = true := HTB.out
                obtain rfl : j = 2 := by have := HND.out; simpa using this
                obtain ⟨g2, rfl, ef, hcall⟩ := HFW.out
                obtain ⟨T, A, c, ht1, hh1, ho1⟩ := HAS.out 0 (by omega)
                obtain ⟨U, C, c2, ht2, hh2, ho2⟩ := HAS.out 1 (by omega)
                obtain ⟨ga, cap, rfl, hcells, hcap⟩ := own_tab HOWN.out (by omega)
                have hc1 := hcells 0 _ hh1
                have hc2 := hcells 1 _ hh2
                have HCALL : Hid (∀ w1, Below wz.heap.size wz w1 → Calls Tryz.prog g2 #[.slice A T.length c, .slice C U.length c2] w1 fun e w' => DOut (G T U) w1.heap.size e w' ∧ Below w1.heap.size w1 w') := Lib.hid fun w1 hb => hcall w1 A C c c2 T U (ho1.tc.below hb) (ho2.tc.below hb)
                have hr : Hid (worF th s = G T U) := by
                 show _ = _
                 refine worF_two HTF.out (by rw [← HWS.out, ← HHD.out, ← HOP.out]) (by rw [← HWS.out, HN.out]) HALL.out ?_ ?_
                 · rw [← HWS.out]; exact ht1
                 · rw [← HWS.out]; exact ht2
                unfold Ent at ef
                clear ht1 ht2 hh1 hh2 ho1 ho2 hcells hcall hb35
                have hdr : Below wz.heap.size wz wz.drew := below_drewN (Below.refl _ wz) 1
                go_upto_region 29 with fail
                go_region_with (first | (go_at_fn g2; refine (HCALL.out _ (by first | exact hdr | exact Below.refl _ _)).mono ?_; rintro e w6 ⟨⟨A2, c2, rfl, ho2⟩, hb2⟩; have HO2 := Lib.hid ho2; have hb2' : Below wz.heap.size wz w6 := (by first | exact hdr.trans hb2 | exact hb2); have HB6 := Lib.hid hb2'; clear ho2 hb2 hb2') | fail)
                all_goals (go_wp2_with fail; go_ret2; rw [hr.out]; exact ⟨⟨A2, c2, rfl, HO2.out.low (Nat.zero_le _)⟩, below_of HBW5.out HB6.out⟩)
               | none =>
                obtain rfl : tb = false := HTB.out
                obtain rfl : j = 1 := by have := HND.out; simpa using this
                obtain rfl : fw = .nilFunc := HFW.out
                cases ow with
                | none => exact absurd (by rw [HNA.out, HNB.out]; rfl) HNO.out
                | some F =>
                 obtain ⟨g1, lb, rfl, ef, hcall⟩ := HFV.out
                 obtain ⟨T, A, c, ht1, hh1, ho1⟩ := HAS.out 0 (by omega)
                 obtain ⟨ga, cap, rfl, hcells, hcap⟩ := own_tab HOWN.out (by omega)
                 have hc1 := hcells 0 _ hh1
                 have HCALL : Hid (∀ w1, Below wz.heap.size wz w1 → Calls Tryz.prog g1 (#[.slice A T.length c] ++ lb) w1 fun e w' => DOut (F T) w1.heap.size e w' ∧ Below w1.heap.size w1 w') := Lib.hid fun w1 hb => hcall w1 (hb35.trans (hb.mono hb35.size)) A c T (ho1.tc.below hb)
                 have hr : Hid (worF th s = F T) := by
                  show _ = _
                  refine worF_one HTF.out (by rw [← HWS.out, ← HHD.out, ← HOP.out]) (by rw [← HWS.out, ← HHD.out, ← HOW.out]) (by rw [← HWS.out, HN.out]) HALL.out ?_
                  rw [← HWS.out]; exact ht1
                 unfold Ent at ef
                 have hdr : Below wz.heap.size wz wz.drew := below_drewN (Below.refl _ wz) 1
                 clear ht1 hh1 ho1 hcells hcall hb35
                 go_wp2_with (first | (go_at_fn g1; refine (HCALL.out _ (by first | exact Below.refl _ _ | exact hdr)).mono ?_; rintro e w6 ⟨⟨A2, c2, rfl, ho2⟩, hb2⟩; have HO2 := Lib.hid ho2; have hb2' : Below wz.heap.size wz w6 := (by first | exact hdr.trans hb2 | exact hb2); have HB6 := Lib.hid hb2'; clear ho2 hb2 hb2') | fail)
                 go_ret2
                 rw [hr.out]
                 exact ⟨⟨A2, c2, rfl, HO2.out.low (Nat.zero_le _)⟩, below_of HBW5.out HB6.out⟩
       · have dN : ((WS.length : Int) != (nd : Int) + 1) = true := by simp; omega
         have hr : Hid (worF th s = ([], 4)) := by
          show _ = _
          refine worF_bad HTF.out ?_ (.inl ?_)
          · rw [← HWS.out, ← HHD.out, ← HOP.out, ← HOW.out]
            have := HNO.out
            rw [HNA.out, HNB.out] at this
            simpa using this
          · rw [← HWS.out, ← HHD.out, ← HOP.out]
            have := HND.out
            rw [HTB.out] at this
            rw [← this]; exact hN
         clear hN
         go_wp2
         go_ret2
         rw [hr.out]
         exact ⟨dout_bad _ _ _, below_of (below_of HB1.out HB2.out) HB3.out⟩
end
end Go.Proofs.YtpmkdihencepnaaGreatDoor
