/- Part of the proof. -/
import Derived.Deep.RegionHeld3
import Derived.Deep.AppendLies
import Derived.BigRegion
import Derived.OrdersHeld
import Derived.Deep.RegionHeld
import Derived.Test.YtpmkdihencepnaaGreatDoorMk46
set_option maxHeartbeats 16000000
namespace Go.Proofs.YtpmkdihencepnaaGreatDoor
section
open Go.RowKit Go.Proofs
open Go.Shelf Go.Lib
def DX (p : Nat) (v1 v2 : Value) (k : Nat) : Prop := k = p ∨ v1.ownBlock = some k ∨ v2.ownBlock = some k
structure DeskM (w : World) (p : Nat) (v1 v2 : Value) (S : St) : Prop where
 obj : ∃ b, w.heap[p]? = some (.cells #[.map (some b), v1, v2] 42 (0, 0)) ∧ TM w b S.log.length S.th
 log : w.ownsRow 0 9 1 v1 S.log.length (S.log.map sv)
 done : ∃ bs : List Nat, bs.length = S.done.length ∧ w.ownsRow 0 39 1 v2 S.done.length (bs.map fun b => Value.map (some b)) ∧ ∀ i, i < S.done.length → TM w (bs.getD i 0) i (S.done.getD i (fun _ => none))
 len : S.done.length = S.log.length
 le : S.log.length ≤ 200
theorem DeskM.bare {w : World} {p : Nat} {v1 v2 : Value} {S : St} (h : DeskM w p v1 v2 S) : Bare (DX p v1 v2) w := by
 intro k hk
 obtain ⟨b, ho, _⟩ := h.obj
 obtain ⟨bs, _, hd, _⟩ := h.done
 rcases hk with rfl | hk | hk
 · exact ⟨_, _, _, ho, by decide, by decide⟩
 · exact bare_own h.log (by decide) (by decide) k hk
 · exact bare_own hd (by decide) (by decide) k hk
theorem DeskM.far {w : World} {p : Nat} {v1 v2 : Value} {S : St} (h : DeskM w p v1 v2 S) : Far v1 v2 ∧ v1.ownBlock ≠ some p ∧ v2.ownBlock ≠ some p := by
 obtain ⟨b, ho, _⟩ := h.obj
 obtain ⟨bs, _, hd, _⟩ := h.done
 have key : ∀ {e : TypeId} {v : Value} {n : Nat} {xs : List Value}, w.ownsRow 0 e 1 v n xs → e ≠ 42 → v.ownBlock ≠ some p := by
  intro e v n xs hr he h2
  rcases hr.2 with ⟨rfl, _⟩ | ⟨g, cap, cur, rfl, _, hh, _⟩
  · simp [Value.ownBlock] at h2
  · obtain rfl : g = p := by simpa [Value.ownBlock] using h2
    have := hh.symm.trans ho
    simp at this
    exact he this.2
 exact ⟨far_typesK h.log hd (by decide), key h.log (by decide), key hd (by decide)⟩
theorem DeskM.fr {X : Nat → Prop} {w w' : World} {p : Nat} {v1 v2 : Value} {S : St} (h : DeskM w p v1 v2 S) (hf : Fx X w w') (hX : Bare X w) (hd : ∀ k, DX p v1 v2 k → ¬ X k) : DeskM w' p v1 v2 S := by
 obtain ⟨b, ho, ht⟩ := h.obj
 obtain ⟨bs, hb, hr, hts⟩ := h.done
 exact ⟨⟨b, (hf.2 p (lt_of_some ho) (hd p (.inl rfl))).trans ho, ht.fr hf hX⟩, own_fr h.log hf (fun k hk => hd k (.inr (.inl hk))), ⟨bs, hb, own_fr hr hf (fun k hk => hd k (.inr (.inr hk))), fun i hi => (hts i hi).fr hf hX⟩, h.len, h.le⟩
theorem DeskM.below {w w' : World} {p : Nat} {v1 v2 : Value} {S : St} (h : DeskM w p v1 v2 S) (hb : Below w.heap.size w w') : DeskM w' p v1 v2 S :=
 h.fr (X := fun _ => False) (Fx.of_below hb) (fun _ hk => hk.elim) (fun _ _ hk => hk)
theorem Tryz.infoThs : (Tryz.prog.info? 39).map (fun i => (i.zero, i.size, i.bytes)) = some (some (.map none), 1, 8) := by kernel_rfl
theorem DeskM.vals {w : World} {p : Nat} {v1 v2 : Value} {S : St} (h : DeskM w p v1 v2 S) : (∃ A c, v1 = .slice A S.log.length c) ∧ ∃ A c, v2 = .slice A S.log.length c := by
 have key : ∀ {e : TypeId} {v : Value} {n : Nat} {xs : List Value}, w.ownsRow 0 e 1 v n xs → ∃ A c, v = .slice A n c := by
  intro e v n xs hr
  rcases hr.2 with ⟨rfl, rfl⟩ | ⟨g, cap, cur, rfl, _⟩
  · exact ⟨_, _, rfl⟩
  · exact ⟨_, _, rfl⟩
 obtain ⟨bs, _, hd, _⟩ := h.done
 have := key hd
 rw [h.len] at this
 exact ⟨key h.log, this⟩
theorem obj_set {W : World} {p k : Nat} {cs : Array Value} {ty : TypeId} {s : Nat × Nat} (h : W.heap[p]? = some (.cells cs ty s)) (u : Value) : (W.setCell ⟨p, k, none⟩ u).heap[p]? = some (.cells (cs.setIfInBounds k u) ty s) := by
 obtain ⟨hlt, hk⟩ := Array.getElem?_eq_some_iff.1 h
 show (W.heap.modify p _)[p]? = _
 rw [Array.getElem?_eq_getElem (by rw [Array.size_modify]; exact hlt), Array.getElem_modify_self, hk]
 rfl
theorem step_appS {w : World} {base : Nat} {l : List Str} {v : Value} {ops : Array Oper} {o : Oper} {a : Act} {K : Act → World → Prop} {Q : Exit → Act → World → Prop} {E : Prop} (hgd : o.guard = none) (s x : Operand)
 (ho : o.op = .call { callee := .builtin .append, args := #[s, x], argTypes := #[22, 22] }) (hs : a.eval s = v) (y : Str) (n : Nat) (g0 : Nat)
 (hx : a.eval x = .slice (some ⟨g0, 0, none⟩) 1 1) (hown : w.ownsRow base 9 1 v n (l.map sv)) (hlit : w.heap[g0]? = some (.cells #[sv y] 9)) (hlen : n < 1000000) (hbase : base ≤ w.heap.size)
 (h : ∀ g cap w', w'.ownsRow base 9 1 (.slice (some ⟨g, 0, none⟩) (n + 1) cap) (n + 1) ((l ++ [y]).map sv) → w.grownBy w' v.ownBlock → (v.ownBlock = some g ∨ g = w.heap.size) → g < w'.heap.size →
  K (a.put o.dst (.slice (some ⟨g, 0, none⟩) (n + 1) cap)) w') :
 if Region.wanted o (yielded ops a.tmps) = true then Oper.wp Tryz.prog o a w K Q else E := by
 obtain ⟨i0, hi, hz0, hz1, hz2⟩ := info_parts Tryz.infoStr
 refine step_append_lies _ hgd s x 22 ho base 9 i0 (.string ⟨#[]⟩) 1 16 Tryz.underlying22 hi hz0 hz1 hz2 rfl (by decide) v n (l.map sv) hs hown ⟨g0, 0, none⟩ 1 1 [sv y] hx rfl (World.news_of_block (cs := #[sv y]) hlit) (by simp [Value.oneCell']) (by decide)
  (by unfold maxLen; omega) (by omega) hbase _ rfl (fun g cap w' h1 h2 h3 h4 => h g cap w' (by simpa using h1) h2 h3 h4)
theorem step_appM {w : World} {base : Nat} {l : List Nat} {v : Value} {ops : Array Oper} {o : Oper} {a : Act} {K : Act → World → Prop} {Q : Exit → Act → World → Prop} {E : Prop} (hgd : o.guard = none) (s x : Operand)
 (ho : o.op = .call { callee := .builtin .append, args := #[s, x], argTypes := #[40, 40] }) (hs : a.eval s = v) (y : Nat) (n : Nat) (g0 : Nat)
 (hx : a.eval x = .slice (some ⟨g0, 0, none⟩) 1 1) (hown : w.ownsRow base 39 1 v n (l.map fun b => Value.map (some b))) (hlit : w.heap[g0]? = some (.cells #[.map (some y)] 39)) (hlen : n < 1000000) (hbase : base ≤ w.heap.size)
 (h : ∀ g cap w', w'.ownsRow base 39 1 (.slice (some ⟨g, 0, none⟩) (n + 1) cap) (n + 1) ((l ++ [y]).map fun b => Value.map (some b)) → w.grownBy w' v.ownBlock → (v.ownBlock = some g ∨ g = w.heap.size) → g < w'.heap.size →
  K (a.put o.dst (.slice (some ⟨g, 0, none⟩) (n + 1) cap)) w') :
 if Region.wanted o (yielded ops a.tmps) = true then Oper.wp Tryz.prog o a w K Q else E := by
 obtain ⟨i0, hi, hz0, hz1, hz2⟩ := info_parts Tryz.infoThs
 refine step_append_lies _ hgd s x 40 ho base 39 i0 (.map none) 1 8 Tryz.underlying40 hi hz0 hz1 hz2 rfl (by decide) v n (l.map fun b => Value.map (some b)) hs hown ⟨g0, 0, none⟩ 1 1 [.map (some y)] hx rfl (World.news_of_block (cs := #[.map (some y)]) hlit) (by simp [Value.oneCell']) (by decide)
  (by unfold maxLen; omega) (by omega) hbase _ rfl (fun g cap w' h1 h2 h3 h4 => h g cap w' (by simpa using h1) h2 h3 h4)
theorem lit_kept {W W' : World} {g : Nat} {o : Obj} {v : Value} {n : Nat} (hg : W.grownBy W' v.ownBlock) (h : W.heap[g]? = some o) (hv : ∀ k, v.ownBlock = some k → k < n) (hn : n ≤ g) : W'.heap[g]? = some o :=
 (hg.block g (lt_of_some h) (fun e => by have := hv g e.symm; omega)).trans h
theorem lit_two (w : World) (o o' : Obj) : ((w.alloc o).alloc o').heap[w.heap.size + 1]? = some o' := by
 have := World.alloc_heap_new (w.alloc o) o'
 rwa [World.size_alloc] at this
theorem DeskM.w6 {w W w6 : World} {p : Nat} {v1 v2 : Value} {S : St} (h : DeskM w p v1 v2 S) (hb : Below w.heap.size w W) (hg : W.grownBy w6 v1.ownBlock) : w6.heap[p]? = w.heap[p]? ∧ ∀ {n : Nat} {xs : List Value}, w.ownsRow 0 39 1 v2 n xs → w6.ownsRow 0 39 1 v2 n xs := by
 obtain ⟨b, ho, _⟩ := h.obj
 obtain ⟨f1, f2, f3⟩ := h.far
 have hfx : Fx (fun k => v1.ownBlock = some k) w w6 := ⟨Nat.le_trans hb.size hg.size, fun k h1 h2 => (hg.block k (Nat.lt_of_lt_of_le h1 hb.size) (fun e => h2 e.symm)).trans (hb.block k h1), hg.os.trans hb.os, hg.tape.trans hb.tape, hg.output.trans hb.output⟩
 exact ⟨hfx.2 p (lt_of_some ho) f2, fun hr => own_fr hr hfx (fun k h1 h2 => f1 k h2 h1)⟩
def DStep (w w' : World) (p : Nat) (v1 v2 v1' v2' : Value) : Prop := Fx (DX p v1 v2) w w' ∧ ∀ k, DX p v1' v2' k → DX p v1 v2 k ∨ w.heap.size ≤ k
theorem keep_full (p bn : Nat) (v1 v2 : Value) (S : St) (line : Str) (w : World) (h : DeskM w p v1 v2 S) (hl : S.log.length = 200) :
 Calls Tryz.prog 31 #[.pointer (some ⟨p, 0, none⟩), sv line, .map (some bn)] w fun e w' => e = .returned (.int .i64 2) ∧ w = w' := by
 obtain ⟨⟨A, c, rfl⟩, _⟩ := h.vals
 obtain ⟨b, ho, _⟩ := h.obj
 have c1 : w.cell? ⟨p, 1, none⟩ = some (.slice A S.log.length c) := by simp [World.cell?, ho]
 have d2 : ((S.log.length : Int) == 200) = true := by rw [hl]; rfl
 clear h hl ho
 go_enter Tryz.func31, Tryz.ntmps31
 go_wp2
 go_ret
 exact ⟨rfl, rfl⟩
theorem fx_set (w : World) (a : Addr) (u : Value) : Fx (fun k => k = a.block) w (w.setCell a u) := ⟨(KeepsOthers.setCell w a u).size, fun k _ h2 => Below.heap_setCell w a u k h2, rfl, rfl, rfl⟩
theorem own_notp {w : World} {p : Nat} {cs : Array Value} {ty e n : TypeId} {s : Nat × Nat} {v : Value} {xs : List Value} (h : w.ownsRow 0 e 1 v n xs) (hp : w.heap[p]? = some (.cells cs ty s)) (he : e ≠ ty) : v.ownBlock ≠ some p := by
 intro h2
 rcases h.2 with ⟨rfl, _⟩ | ⟨g, cap, cur, rfl, _, hh, _⟩
 · simp [Value.ownBlock] at h2
 · obtain rfl : g = p := by simpa [Value.ownBlock] using h2
   have := hh.symm.trans hp
   simp at this
   exact he this.2.1
theorem keep_hb {w W w6 : World} {r : Option Nat} (hb : Below w.heap.size w W) (_ : W.grownBy w6 r) : Hid (Below w.heap.size w W) := Lib.hid hb
theorem keep_hb6 {w6 W w8 : World} {r : Option Nat} (hb : Below w6.heap.size w6 W) (_ : W.grownBy w8 r) : Hid (Below w6.heap.size w6 W) := Lib.hid hb
theorem keep_at {n m g : Nat} {o : Option Nat} (h : n ≤ m) (ha : o = some g ∨ g = m) : o = some g ∨ n ≤ g := ha.elim .inl (fun e => .inr (by omega))
theorem keep_p {w w6 Wd w8 : World} {p b : Nat} {v1 v2 : Value} {S : St} (h : DeskM w p v1 v2 S) (hob : w.heap[p]? = some (.cells #[.map (some b), v1, v2] 42 (0, 0))) (h6 : w6.heap[p]? = w.heap[p]?) (hbd : Below w6.heap.size w6 Wd) (hg8 : Wd.grownBy w8 v2.ownBlock) : w8.heap[p]? = some (.cells #[.map (some b), v1, v2] 42 (0, 0)) := by
 have h1 := h6.trans hob
 have hl := lt_of_some h1
 exact ((hg8.block p (Nat.lt_of_lt_of_le hl hbd.size) (fun e => h.far.2.2 e.symm)).trans (hbd.block p hl)).trans h1
theorem keep_end {w Wc w6 Wd w8 : World} {p bn b g6 cp6 g8 cp8 : Nat} {v1 v2 : Value} {S : St} {line : Str} {th : Thg} {bs : List Nat}
 (h : DeskM w p v1 v2 S) (hob : w.heap[p]? = some (.cells #[.map (some b), v1, v2] 42 (0, 0))) (hTb : TM w b S.log.length S.th) (hT : TM w bn (S.log.length + 1) th) (hbs : bs.length = S.done.length)
 (hdn : w.ownsRow 0 39 1 v2 S.log.length (bs.map fun b => Value.map (some b))) (hts : ∀ i, i < S.done.length → TM w (bs.getD i 0) i (S.done.getD i (fun _ => none))) (hlt : S.log.length < 200)
 (hbc : Below w.heap.size w Wc) (hg6 : Wc.grownBy w6 v1.ownBlock) (hl6 : w6.ownsRow 0 9 1 (.slice (some ⟨g6, 0, none⟩) (S.log.length + 1) cp6) (S.log.length + 1) ((S.log ++ [line]).map sv)) (hat6 : v1.ownBlock = some g6 ∨ w.heap.size ≤ g6)
 (hbd : Below w6.heap.size w6 Wd) (hg8 : Wd.grownBy w8 v2.ownBlock) (hl8 : w8.ownsRow 0 39 1 (.slice (some ⟨g8, 0, none⟩) (S.log.length + 1) cp8) (S.log.length + 1) ((bs ++ [b]).map fun b => Value.map (some b))) (hat8 : v2.ownBlock = some g8 ∨ w.heap.size ≤ g8)
 {w9 : World} (h9 : w9 = ((w8.setCell ⟨p, 1, none⟩ (.slice (some ⟨g6, 0, none⟩) (S.log.length + 1) cp6)).setCell ⟨p, 2, none⟩ (.slice (some ⟨g8, 0, none⟩) (S.log.length + 1) cp8)).setCell ⟨p, 0, none⟩ (.map (some bn))) :
 DeskM w9 p (.slice (some ⟨g6, 0, none⟩) (S.log.length + 1) cp6) (.slice (some ⟨g8, 0, none⟩) (S.log.length + 1) cp8) ⟨th, S.log ++ [line], S.done ++ [S.th]⟩ ∧ DStep w w9 p v1 v2 (.slice (some ⟨g6, 0, none⟩) (S.log.length + 1) cp6) (.slice (some ⟨g8, 0, none⟩) (S.log.length + 1) cp8) := by
 obtain ⟨f1, f2, f3⟩ := h.far
 have hfx6 : Fx (fun k => v1.ownBlock = some k) w w6 := ⟨Nat.le_trans hbc.size hg6.size, fun k h1 h2 => (hg6.block k (Nat.lt_of_lt_of_le h1 hbc.size) (fun e => h2 e.symm)).trans (hbc.block k h1), hg6.os.trans hbc.os, hg6.tape.trans hbc.tape, hg6.output.trans hbc.output⟩
 have hfx8 : Fx (fun k => v2.ownBlock = some k) w6 w8 := ⟨Nat.le_trans hbd.size hg8.size, fun k h1 h2 => (hg8.block k (Nat.lt_of_lt_of_le h1 hbd.size) (fun e => h2 e.symm)).trans (hbd.block k h1), hg8.os.trans hbd.os, hg8.tape.trans hbd.tape, hg8.output.trans hbd.output⟩
 have hd6 : w6.ownsRow 0 39 1 v2 S.log.length (bs.map fun b => Value.map (some b)) := own_fr hdn hfx6 (fun k h1 h2 => f1 k h2 h1)
 have ho6 := (hfx6.2 p (lt_of_some hob) f2).trans hob
 have ho8 := (hfx8.2 p (lt_of_some ho6) f3).trans ho6
 have ha := obj_set (k := 0) (obj_set (k := 2) (obj_set (k := 1) ho8 (.slice (some ⟨g6, 0, none⟩) (S.log.length + 1) cp6)) (.slice (some ⟨g8, 0, none⟩) (S.log.length + 1) cp8)) (.map (some bn))
 rw [← h9] at ha
 have hfx9 : Fx (fun k => k = p) w8 w9 := by
  rw [h9]
  exact ((fx_set w8 ⟨p, 1, none⟩ _).trans (fx_set _ ⟨p, 2, none⟩ _)).trans (fx_set _ ⟨p, 0, none⟩ _)
 have hX : Bare (DX p v1 v2) w := h.bare
 have hfx : Fx (DX p v1 v2) w w9 := ((hfx6.wide (fun k _ hk => .inr (.inl hk))).trans (hfx8.wide (fun k _ hk => .inr (.inr hk)))).trans (hfx9.wide (fun k _ hk => .inl hk))
 have hl8' : w8.ownsRow 0 9 1 (.slice (some ⟨g6, 0, none⟩) (S.log.length + 1) cp6) (S.log.length + 1) ((S.log ++ [line]).map sv) := own_fr hl6 hfx8 (fun k h1 h2 => far_typesK hl6 hd6 (by decide) k h1 h2)
 have n1 := own_notp hl8' ho8 (by decide)
 have n2 := own_notp hl8 ho8 (by decide)
 have e1 : (S.log ++ [line]).length = S.log.length + 1 := by simp
 have e2 : (S.done ++ [S.th]).length = S.log.length + 1 := by simp [h.len]
 refine ⟨⟨⟨bn, ha, ?_⟩, ?_, ⟨bs ++ [b], ?_, ?_, fun i hi => ?_⟩, ?_, ?_⟩, hfx, fun k hk => ?_⟩
 · show TM w9 bn (S.log ++ [line]).length th
   rw [e1]; exact hT.fr hfx hX
 · show w9.ownsRow 0 9 1 _ (S.log ++ [line]).length _
   rw [e1]; exact own_fr hl8' hfx9 (fun k h1 h2 => by subst h2; exact n1 h1)
 · show (bs ++ [b]).length = (S.done ++ [S.th]).length
   simp [hbs]
 · show w9.ownsRow 0 39 1 _ (S.done ++ [S.th]).length _
   rw [e2]; exact own_fr hl8 hfx9 (fun k h1 h2 => by subst h2; exact n2 h1)
 · show TM w9 ((bs ++ [b]).getD i 0) i ((S.done ++ [S.th]).getD i (fun _ => none))
   replace hi : i < (S.done ++ [S.th]).length := hi
   rw [e2] at hi
   by_cases c : i < S.done.length
   · rw [List.getD_eq_getElem?_getD, List.getD_eq_getElem?_getD, List.getElem?_append_left (by omega), List.getElem?_append_left c, ← List.getD_eq_getElem?_getD, ← List.getD_eq_getElem?_getD]
     exact (hts i c).fr hfx hX
   · have hl := h.len
     obtain rfl : i = S.done.length := by omega
     rw [List.getD_eq_getElem?_getD, List.getD_eq_getElem?_getD, List.getElem?_append_right (by omega), List.getElem?_append_right (Nat.le_refl _), hbs, Nat.sub_self]
     rw [hl]
     exact hTb.fr hfx hX
 · show (S.done ++ [S.th]).length = (S.log ++ [line]).length
   rw [e1, e2]
 · show (S.log ++ [line]).length ≤ 200
   rw [e1]; omega
 · rcases hk with rfl | hk | hk
   · exact .inl (.inl rfl)
   · obtain rfl : g6 = k := by simpa [Value.ownBlock] using hk
     exact hat6.elim (fun e => .inl (.inr (.inl e))) .inr
   · obtain rfl : g8 = k := by simpa [Value.ownBlock] using hk
     exact hat8.elim (fun e => .inl (.inr (.inr e))) .inr
end
section
open Go
section
variable {P : Program} {ops : Array Oper} {Q : Exit → Act → World → Prop} {md : Region.Mode} {S : World → Prop} {N : Nat → Bool}
def wpAnyN (P : Program) (md : Region.Mode) (ops : Array Oper) (Q : Exit → Act → World → Prop) (S : World → Prop) (N : Nat → Bool) : Nat → Array Bool → Act → World → Prop
 | 0, listed, a, w => Region.ready md ops listed = [] ∧ Q .normal a w
 | fuel + 1, listed, a, w => (Region.ready md ops listed = [] → Q .normal a w) ∧
  ∀ i ∈ Region.ready md ops listed, wpOp P ops Q i (fun a' w' => (N i = false → S w') ∧ wpAnyN P md ops Q S N fuel (listed.setIfInBounds i true) a' w') a w
theorem any_of_N : ∀ (fuel : Nat) (listed : Array Bool) (a : Act) (w : World), wpAnyN P md ops Q S N fuel listed a w → wpAny P md ops Q fuel listed a w
 | 0, _, _, _, h => h
 | fuel + 1, _, _, _, h => ⟨h.1, fun i hi => wpOp_mono (fun a' w' g => any_of_N fuel _ a' w' g.2) (h.2 i hi)⟩
theorem N_of_any : ∀ (fuel : Nat) (listed : Array Bool) (a : Act) (w : World), (∀ j, listed.getD j true = false → N j = true) → wpAny P md ops Q fuel listed a w → wpAnyN P md ops Q S N fuel listed a w
 | 0, _, _, _, _, h => h
 | fuel + 1, listed, _, _, hN, h => by
  refine ⟨h.1, fun i hi => wpOp_mono (fun a' w' g => ⟨fun hn => ?_, N_of_any fuel _ a' w' (fun j hj => ?_) g⟩) (h.2 i hi)⟩
  · rw [hN i (mem_ready.1 hi).1] at hn; cases hn
  · by_cases e : i = j
    · subst e; exact hN _ (mem_ready.1 hi).1
    · rw [getD_set_ne true e] at hj; exact hN j hj
def waitsN (md : Region.Mode) (ops : Array Oper) (N : Nat → Bool) (i : Nat) : Bool := (List.range ops.size).all fun j => !N j || match ops[j]? with
 | some oj => oj.after.any (fun e => Region.binds md e && e.on == i)
 | none => true
theorem waitsN_spec {i j : Nat} {oj : Oper} (h : waitsN md ops N i = true) (hj : ops[j]? = some oj) (hn : N j = true) : ∃ e ∈ oj.after, Region.binds md e = true ∧ e.on = i := by
 unfold waitsN at h
 have h1 := List.all_eq_true.1 h j (List.mem_range.2 (Array.getElem?_eq_some_iff.1 hj).1)
 rw [hn, hj] at h1
 obtain ⟨e, he, hb⟩ := Array.any_eq_true'.1 (by simpa using h1 : oj.after.any (fun e => Region.binds md e && e.on == i) = true)
 simp only [Bool.and_eq_true, beq_iff_eq] at hb
 exact ⟨e, he, hb⟩
theorem N_first {i : Nat} {oi : Oper} {v : Value} (hi : ops[i]? = some oi) (hsel : ∀ (j : Nat) (o : Oper) cs b, ops[j]? = some o → o.op ≠ .select cs b) (hw : waitsN md ops N i = true)
 (hQ : ∀ c a w, Q (.panic c) (a.put oi.dst v) w → Q (.panic c) a w) (fuel : Nat) :
 ∀ (listed : Array Bool) (a : Act) (w : World), (∀ j oj, ops[j]? = some oj → j ≠ i → listed.getD j true = false → (∀ e ∈ oj.after, Region.binds md e = true → e.on ≠ i) → oi.apart ops oj = true) →
  i ∈ Region.ready md ops listed → YieldsIf P ops S oi v a → S w →
  wpAnyN P md ops Q S N fuel (listed.setIfInBounds i true) (a.put oi.dst v) w → wpAnyN P md ops Q S N (fuel + 1) listed a w := by
 induction fuel with
 | zero =>
  intro listed a w _ hr hy hS H
  refine ⟨fun e => absurd (e ▸ hr) (by simp), fun j hj => ?_⟩
  rcases Decidable.em (j = i) with rfl | hne
  · exact hy.wpOp hi hS ⟨fun _ => hS, H⟩
  · exact absurd (H.1 ▸ ready_mono hj hne) (by simp)
 | succ fuel ih =>
  intro listed a w hap hr hy hS H
  refine ⟨fun e => absurd (e ▸ hr) (by simp), fun j hj => ?_⟩
  rcases Decidable.em (j = i) with rfl | hne
  · exact hy.wpOp hi hS ⟨fun _ => hS, H⟩
  · obtain ⟨hun, oj, hoj, hall⟩ := mem_ready.1 hj
    have hiun := (mem_ready.1 hr).1
    have hno : ∀ e ∈ oj.after, Region.binds md e = true → e.on ≠ i := by
     intro e he hb e2
     have h1 := hall e he hb
     rw [e2] at h1
     rw [Array.getD_eq_getD_getElem?] at h1 hiun
     cases hg : listed[i]? with
     | none => rw [hg] at h1; cases h1
     | some x => rw [hg] at h1 hiun; simp at h1 hiun; rw [h1] at hiun; cases hiun
    have hNj : N j = false := by
     cases hn : N j with
     | false => rfl
     | true =>
      obtain ⟨e, he, hb, e2⟩ := waitsN_spec hw hoj hn
      exact absurd e2 (hno e he hb)
    have g := wpOp_putIf hoj (hap j oj hoj hne hun hno) (fun cs b => hsel i oi cs b hi) (fun cs b => hsel j oj cs b hoj) hQ hy (H.2 j (ready_mono hj hne))
    refine wpOp_mono (fun a' w' k => ?_) g
    have hS' := k.2.1 hNj
    refine ⟨fun _ => hS', ih _ a' w' (fun m om hm hmi hmu hmn => ?_) (ready_mono hr (Ne.symm hne)) k.1 hS' ?_⟩
    · refine hap m om hm hmi ?_ hmn
      rcases Decidable.em (j = m) with rfl | e
      · exact hun
      · rw [← getD_set_ne true e]; exact hmu
    · rw [Array.setIfInBounds_comm _ _ hne]
      exact k.2.2
theorem N_take {i : Nat} {oi : Oper} {v : Value} {fuel : Nat} {listed : Array Bool} {a : Act} {w : World} (hi : ops[i]? = some oi) (hs : Region.noSelect ops = true) (hf : Region.free md ops listed i = true)
 (hr : (Region.ready md ops listed).contains i = true) (hw : waitsN md ops N i = true) (hQ : ∀ c a w, Q (.panic c) (a.put oi.dst v) w → Q (.panic c) a w) (hS : S w) (hy : YieldsIf P ops S oi v a)
 (h : wpAnyN P md ops Q S N fuel (listed.setIfInBounds i true) (a.put oi.dst v) w) : wpAnyN P md ops Q S N (fuel + 1) listed a w :=
 N_first hi (Region.noSelect_spec hs) hw hQ fuel listed a w (Region.free_spec hi hf) (by simpa using hr) hy hS h
def ReadyN (P : Program) (md : Region.Mode) (ops : Array Oper) (Q : Exit → Act → World → Prop) (S : World → Prop) (N : Nat → Bool) (fuel : Nat) (listed : Array Bool) (a : Act) (w : World) (rs : List Nat) : Prop :=
 ∀ i ∈ rs, wpOp P ops Q i (fun a' w' => (N i = false → S w') ∧ wpAnyN P md ops Q S N fuel (listed.setIfInBounds i true) a' w') a w
theorem ReadyN.nil {fuel : Nat} {listed : Array Bool} {a : Act} {w : World} : ReadyN P md ops Q S N fuel listed a w [] := fun _ h => nomatch h
theorem ReadyN.cons {fuel : Nat} {listed : Array Bool} {a : Act} {w : World} {i : Nat} {o : Oper} {rs : List Nat} (ho : ops[i]? = some o)
 (h : ∀ K' : Act → World → Prop, Go.Shut (∀ a w, S w → wpAnyN P md ops Q S N fuel (listed.setIfInBounds i true) a w → K' a w) → if Region.wanted o (yielded ops a.tmps) = true then Oper.wp P o a w K' Q else K' (a.put o.dst undef) w)
 (hs : ReadyN P md ops Q S N fuel listed a w rs) : ReadyN P md ops Q S N fuel listed a w (i :: rs) := by
 intro j hj
 rcases List.mem_cons.1 hj with rfl | hj
 · exact wpOp_step ho fun K' hK => h K' fun a w hS hW => hK a w ⟨fun _ => hS, hW⟩
 · exact hs j hj
theorem N_ready {rs : List Nat} {fuel : Nat} {listed : Array Bool} {a : Act} {w : World} (hr : Region.ready md ops listed = rs) (hne : rs ≠ []) (h : ReadyN P md ops Q S N fuel listed a w rs) : wpAnyN P md ops Q S N (fuel + 1) listed a w :=
 ⟨fun e => absurd (hr.symm.trans e) hne, fun i hi => h i (hr ▸ hi)⟩
theorem any_one {i : Nat} {o : Oper} {fuel : Nat} {listed : Array Bool} {a : Act} {w : World} (hr : Region.ready md ops listed = [i]) (ho : ops[i]? = some o)
 (h : ∀ K' : Act → World → Prop, Go.Shut (∀ a w, wpAny P md ops Q fuel (listed.setIfInBounds i true) a w → K' a w) → if Region.wanted o (yielded ops a.tmps) = true then Oper.wp P o a w K' Q else K' (a.put o.dst undef) w) :
 wpAny P md ops Q (fuel + 1) listed a w :=
 ⟨fun e => (nomatch (hr.symm.trans e)), fun j hj => by
  rw [hr] at hj
  rw [List.mem_singleton.1 hj]
  exact wpOp_step ho fun K' hK => h K' fun a w hW => hK a w hW⟩
end
end
end Go.Proofs.YtpmkdihencepnaaGreatDoor
