/- Part of the proof. -/
import Derived.Shelf.SlicesQ.Reverse
import Derived.Ground.SlgnProg
import Derived.Lib.OwnBridge
import Derived.Test.YtpmkdihencepnaaGreatDoorMk07
import Derived.Test.YtpmkdihencepnaaGreatDoorMk26
set_option maxHeartbeats 16000000
set_option maxRecDepth 100000
namespace Go.Proofs.YtpmkdihencepnaaGreatDoor
section
open Go.RowKit Go.Proofs
open Go.Shelf Go.Lib Go.Sort
def pcells (m : List (Int × Int)) : List Value := m.flatMap fun x => [.int .i64 x.1, .int .i64 x.2]
theorem pcells_app (m m' : List (Int × Int)) : pcells (m ++ m') = pcells m ++ pcells m' := by simp [pcells]
theorem pcells_len : ∀ (m : List (Int × Int)), (pcells m).length = m.length * 2
 | [] => rfl
 | x :: m => by
  have := pcells_len m
  have e : pcells (x :: m) = .int .i64 x.1 :: .int .i64 x.2 :: pcells m := rfl
  rw [e, List.length_cons, List.length_cons, List.length_cons, this]; omega
theorem pcells_get : ∀ {m : List (Int × Int)} {i : Nat}, i < m.length → (pcells m)[i * 2]? = some (.int .i64 (m.getD i (0, 0)).1) ∧ (pcells m)[i * 2 + 1]? = some (.int .i64 (m.getD i (0, 0)).2)
 | x :: m, 0, _ => ⟨rfl, rfl⟩
 | x :: m, i + 1, h => by
  have := pcells_get (m := m) (i := i) (by simpa using h)
  have e : (i + 1) * 2 = i * 2 + 1 + 1 := by omega
  rw [e]
  exact this
theorem pcells_pos {m : List (Int × Int)} (h : 0 < m.length) : 0 < (pcells m).length := by rw [pcells_len]; omega
theorem psl_at {w : World} {B b o : Nat} {m : List (Int × Int)} (h : Sl w B (some ⟨b, o, none⟩) (pcells m)) {i : Nat} (hi : i < m.length) :
 w.cell? ⟨b, o + i * 2, none⟩ = some (.int .i64 (m.getD i (0, 0)).1) ∧ w.cell? ⟨b, o + i * 2 + 1, none⟩ = some (.int .i64 (m.getD i (0, 0)).2) := by
 obtain ⟨b', o', e1, _, hc⟩ := h (pcells_pos (by omega))
 obtain ⟨rfl, rfl⟩ : b = b' ∧ o = o' := by simpa using e1
 obtain ⟨h1, h2⟩ := pcells_get hi
 refine ⟨hc _ _ h1, ?_⟩
 have := hc _ _ h2
 rwa [← Nat.add_assoc] at this
theorem psl_addr {w : World} {B : Nat} {A : Option Addr} {m : List (Int × Int)} (h : Sl w B A (pcells m)) (hi : 0 < m.length) : ∃ b o, A = some ⟨b, o, none⟩ ∧ b < B := by
 obtain ⟨b, o, e, hlt, _⟩ := h (pcells_pos hi)
 exact ⟨b, o, e, hlt⟩
theorem psl_of_own {w : World} {base : Nat} {v : Value} {m : List (Int × Int)} {n : Nat} (h : w.ownsRow base 156 2 v n (pcells m)) : ∃ A c, v = .slice A m.length c ∧ n = m.length ∧ Sl w w.heap.size A (pcells m) ∧ m.length ≤ c ∧ c ≤ 9223372036854775807 := by
 have hl := h.1
 rw [pcells_len] at hl
 obtain rfl : n = m.length := by omega
 rcases h.2 with ⟨rfl, h0⟩ | ⟨g, cap, cur, rfl, _, hh, hn, hm, _⟩
 · refine ⟨none, 0, by rw [h0], rfl, fun hp => ?_, by omega, by omega⟩
   rw [pcells_len, h0] at hp
   simp at hp
 · refine ⟨some ⟨g, 0, none⟩, cap, rfl, rfl, fun _ => ⟨g, 0, rfl, (Array.getElem?_eq_some_iff.1 hh).1, fun k u hk => ?_⟩, hn, by simpa [maxLen] using hm⟩
   have := h.cells (g := g) rfl k u hk
   rwa [Addr.add_lit] at this
theorem Tryz.infoPair : (Tryz.prog.info? 156).map (fun i => (i.zero, i.size, i.bytes)) = some (some (.agg #[.int .i64 0, .int .i64 0]), 2, 16) := by kernel_rfl
theorem wpList_appP {w : World} {base : Nat} {l : List (Int × Int)} {v : Value} {ops : Array Oper} {rest : List Oper} {o : Oper} {a : Act} {Q : Exit → Act → World → Prop} (hgd : o.guard = none) (s x : Operand)
 (ho : o.op = .call { callee := .builtin .append, args := #[s, x], argTypes := #[153, 153] }) (hs : a.eval s = v) (y z : Int) {n : Nat}
 (hown : w.ownsRow base 156 2 v n (pcells l)) (g0 : Nat) (hg0 : g0 = w.heap.size) (hx : a.eval x = .slice (some ⟨g0, 0, none⟩) 1 1) (hlen : n < 1000000) (hbase : base ≤ w.heap.size)
 (h : ∀ g cap w', w'.ownsRow base 156 2 (.slice (some ⟨g, 0, none⟩) (n + 1) cap) (n + 1) (pcells (l ++ [(y, z)])) → (w.alloc (.cells #[.int .i64 y, .int .i64 z] 156)).grownBy w' v.ownBlock → (v.ownBlock = some g ∨ g = w.heap.size + 1) →
  wpList Tryz.prog ops Q rest (a.put o.dst (.slice (some ⟨g, 0, none⟩) (n + 1) cap)) w') :
 wpList Tryz.prog ops Q (o :: rest) a (w.alloc (.cells #[.int .i64 y, .int .i64 z] 156)) := by
 subst hg0
 obtain ⟨i0, hi, hz0, hz1, hz2⟩ := info_parts Tryz.infoPair
 refine wpList_append_lies _ hgd s x 153 ho base 156 i0 (.agg #[.int .i64 0, .int .i64 0]) 2 16 Tryz.underlying153 hi hz0 hz1 hz2 rfl (by decide) v n (pcells l) hs (hown.alloc _) ⟨w.heap.size, 0, none⟩ 1 1 [.int .i64 y, .int .i64 z] hx rfl ?_ (by simp [Value.oneCell']) (by decide)
  (by unfold maxLen; omega) (by omega) (by simp; omega) _ rfl (fun g cap w' h1 h2 h3 _ => ?_)
 · intro j u hu
   match j, hu with
   | 0, hu => simp at hu; subst hu; simp [Addr.add]
   | 1, hu => simp at hu; subst hu; simp [Addr.add]
 · exact h g cap w' (by rw [pcells_app]; exact h1) h2 (by simpa using h3)
shelf_lay_g SlLaysE0.n35 Slgn 35 at Tryz 188 as Tryz.reverseP
def pcl (x : Int × Int) : List Value := [.int .i64 x.1, .int .i64 x.2]
theorem flat_pcells (m : List (Int × Int)) : flatK pcl 2 m.toArray = (pcells m).toArray := by
 have hl := pcells_len m
 refine ext_get! (by simp [hl]) fun t ht => ?_
 have ht' : t < m.length * 2 := by simpa using ht
 have hd : t / 2 < m.length := by omega
 rw [get_flatK _ _ _ _ (by simpa using ht')]
 obtain ⟨h1, h2⟩ := pcells_get hd
 have e0 : m.toArray[t / 2]! = m.getD (t / 2) (0, 0) := by
  rw [getElem!_pos _ _ (by simpa using hd)]
  simp [hd]
 rw [e0]
 rcases Nat.mod_two_eq_zero_or_one t with e | e
 · have et : t / 2 * 2 = t := by omega
   rw [et] at h1
   rw [e, getElem!_pos (pcells m).toArray t (by simp [hl]; omega)]
   obtain ⟨hh, h3⟩ := List.getElem?_eq_some_iff.1 h1
   simp only [List.getElem_toArray, h3]
   rfl
 · have et : t / 2 * 2 + 1 = t := by omega
   rw [et] at h2
   rw [e, getElem!_pos (pcells m).toArray t (by simp [hl]; omega)]
   obtain ⟨hh, h3⟩ := List.getElem?_eq_some_iff.1 h2
   simp only [List.getElem_toArray, h3]
   rfl
theorem holdsP {w : World} {base g cap n : Nat} {m : List (Int × Int)} (h : w.ownsRow base 156 2 (.slice (some ⟨g, 0, none⟩) n cap) n (pcells m)) : HoldsK pcl 2 w g 0 m.toArray := by
 unfold HoldsK
 rw [flat_pcells]
 intro j hj
 have hl := h.1
 rw [pcells_len] at hl
 have hj' : j < (pcells m).length := by simpa using hj
 refine ⟨?_, ?_⟩
 · rw [Nat.zero_add, h.cellAt j (by rw [pcells_len] at hj'; omega), List.getElem?_eq_getElem hj', getElem!_pos (pcells m).toArray j hj]
   rfl
 · rw [Nat.zero_add]; exact h.frozenAt j
theorem ownP {w : World} {base g cap n q : Nat} {m m' : List (Int × Int)} (h : w.ownsRow base 156 2 (.slice (some ⟨g, 0, none⟩) n cap) n (pcells m)) (hm : m'.length = m.length) :
 (putRowK pcl 2 (Sort.ahead w q) g 0 m'.toArray).ownsRow base 156 2 (.slice (some ⟨g, 0, none⟩) n cap) n (pcells m') := by
 have hl := h.1
 rw [pcells_len] at hl
 unfold putRowK
 rw [flat_pcells]
 rcases h.2 with ⟨e0, _⟩ | ⟨g', cap', cur, e0, hb, hg, hn, hmx, hs, ht⟩
 · cases e0
 · injection e0 with e1 _ e3
   injection e1 with e1
   injection e1 with e1
   subst e1; subst e3
   refine ⟨by rw [pcells_len]; omega, .inr ⟨g, cap, putCells id 0 (pcells m').toArray cur, rfl, hb, ?_, hn, hmx, by simpa [putCells] using hs, ?_⟩⟩
   · simp [putRow, mapBlock, Sort.ahead, Array.getElem?_modify, hg, onCells]
   · have hl2 := pcells_len m'
     apply List.ext_getElem?
     intro j
     rw [List.getElem?_take, Array.getElem?_toList]
     by_cases hj : j < n * 2
     · have hjc : j < cur.size := by omega
       rw [if_pos hj]
       simp only [putCells, Array.getElem?_mapIdx, Array.getElem?_eq_getElem hjc, Option.map_some]
       rw [if_pos (by simp; omega), List.getElem?_eq_getElem (by omega)]
       simp [getElem!_pos, show j < (pcells m').length by omega]
     · rw [if_neg hj, List.getElem?_eq_none (by omega)]
theorem reverseP_any {base : Nat} (v : Value) (m : List (Int × Int)) (w : World) (hn : m.length < 1000000) (h : w.ownsRow base 156 2 v m.length (pcells m)) :
 Calls Tryz.prog 188 #[v] w fun e w' => (e = .returned (.tuple #[]) ∧ w'.ownsRow base 156 2 v m.length (pcells m.reverse)) ∧ Below base w w' := by
 rcases h.2 with ⟨rfl, h0⟩ | ⟨g, cap, cur, rfl, hb, _⟩
 · have e : m = [] := List.eq_nil_of_length_eq_zero h0
   subst e
   refine (AnyQ.slices_Reverse_empty Tryz.reverseP none 0 w).mono ?_
   rintro e w' ⟨rfl, rfl⟩
   exact ⟨⟨rfl, h⟩, Below.refl _ _⟩
 · have hH := holdsP h
   have := AnyQ.slices_Reverse Tryz.reverseP 2 Tryz.isAgg156 Tryz.sizeOf156 pcl (fun _ => rfl) (fun x v hv => by simp [pcl] at hv; rcases hv with rfl | rfl <;> rfl) g 0 cap m.toArray w hH (by simp; omega)
   refine (show Calls _ _ _ _ _ from this).mono ?_
   rintro e w' ⟨rfl, n, rfl⟩
   rw [List.reverse_toArray]
   exact ⟨⟨rfl, ownP h (by simp)⟩, below_putRow (Below.refl _ _) hb⟩
end
section
open Go.RowKit
theorem qadd_flat {Q : List (List Int)} {r : Nat} (c : Int) (hr : r ≤ Q.length) : (qadd Q r c).flatten.Perm (c :: Q.flatten) := by
 unfold qadd
 by_cases e : r = Q.length
 · rw [if_pos e, List.flatten_append]
   show (Q.flatten ++ ([c] ++ [])).Perm _
   exact List.perm_append_comm
 · rw [if_neg e]; exact set_flat c (by omega)
theorem pop_flat {q : List (List Int)} {row : Nat} {most : Int} (h : Sel q row most) (ht : Tab q) : q.flatten.Perm (most :: (popRow q row).flatten) := by
 have := qadd_flat most (pop_len h.inn)
 rwa [pop_qadd h ht] at this
theorem pop_boxes {q : List (List Int)} {row : Nat} {most : Int} (h : Sel q row most) (ht : Tab q) : boxes (popRow q row) + 1 = boxes q := by
 have := (pop_flat h ht).length_eq
 rw [List.length_cons, flatten_len, flatten_len] at this
 omega
theorem pop_ok {q : List (List Int)} {row : Nat} {most : Int} (h : Sel q row most) (ht : FillOk q) : FillOk (popRow q row) := by
 refine ⟨pop_tab h ht.1, fun r hr x hx => ?_, by have := pop_boxes h ht.1; have := ht.2.2; omega⟩
 have h1 : x ∈ q.flatten := (pop_flat h ht.1).mem_iff.2 (.tail _ (List.mem_flatten.2 ⟨r, hr, hx⟩))
 obtain ⟨r', hr', hx'⟩ := List.mem_flatten.1 h1
 exact ht.2.1 r' hr' x hx'
structure Seln (q : List (List Int)) (i row : Nat) (most : Int) : Prop where
 zero : i = 0 → row = 0 ∧ most = 0
 inn : 0 < i → row < i
 here : 0 < i → lastOf (q.getD row []) = most
 top : ∀ a, a < i → lastOf (q.getD a []) ≤ most
 first : ∀ a, a < row → lastOf (q.getD a []) < most
theorem Seln.start (q : List (List Int)) : Seln q 0 0 0 := ⟨fun _ => ⟨rfl, rfl⟩, fun h => by omega, fun h => by omega, fun a h => by omega, fun a h => by omega⟩
theorem Seln.keep {q : List (List Int)} {i row : Nat} {most : Int} (h : Seln q i row most) (hl : 1 ≤ lastOf (q.getD i [])) (hx : ¬ most < lastOf (q.getD i [])) : Seln q (i + 1) row most := by
 have h0 : 0 < i := by
  apply Nat.pos_of_ne_zero
  intro e
  have := (h.zero e).2
  omega
 refine ⟨fun e => by omega, fun _ => by have := h.inn h0; omega, fun _ => h.here h0, fun a ha => ?_, h.first⟩
 by_cases e : a = i
 · subst e; omega
 · exact h.top a (by omega)
theorem Seln.up {q : List (List Int)} {i row : Nat} {most : Int} (h : Seln q i row most) (hx : most < lastOf (q.getD i [])) : Seln q (i + 1) i (lastOf (q.getD i [])) := by
 refine ⟨fun e => by omega, fun _ => by omega, fun _ => rfl, fun a ha => ?_, fun a ha => ?_⟩
 · by_cases e : a = i
   · subst e; omega
   · have := h.top a (by omega); omega
 · have := h.top a ha; omega
theorem Seln.sel {q : List (List Int)} {row : Nat} {most : Int} (h : Seln q q.length row most) (hp : 0 < q.length) : Sel q row most := ⟨h.inn hp, h.here hp, h.top, h.first⟩
theorem last_lt {q : List (List Int)} (h : FillOk q) {i : Nat} (hi : i < q.length) : Lt (lastOf (q.getD i [])) := by
 have hm : q.getD i [] ∈ q := by rw [getD_get hi]; exact List.getElem_mem _
 exact h.2.1 _ hm _ (last_mem (h.1.ne _ hm))
structure Undg (p q P Q : List (List Int)) (zs : List (Int × Int)) : Prop where
 tab : Tab P
 ok : FillOk Q
 same : SameSh P Q
 num : zs.length + boxes Q ≤ 40
 go : ∀ m, Und P Q m → Und p q (m ++ zs.reverse)
theorem Undg.start {p q : List (List Int)} (hp : Tab p) (hq : FillOk q) (hs : SameSh p q) : Undg p q p q [] := ⟨hp, hq, hs, by have := hq.2.2; simpa using this, fun m hm => by simpa using hm⟩
theorem Undg.step {p q P Q : List (List Int)} {zs : List (Int × Int)} (h : Undg p q P Q zs) {row : Nat} {most : Int} (hs : Sel Q row most) : Undg p q (unb P row).1 (popRow Q row) (zs ++ [(most, (unb P row).2)]) := by
 obtain ⟨h1, _, _, h4⟩ := out_step h.tab h.ok.1 h.same hs
 refine ⟨h1, pop_ok hs h.ok, h4, ?_, fun m hm => ?_⟩
 · have := pop_boxes hs h.ok.1
   have := h.num
   simp; omega
 · have := h.go _ (Und.step hs hm)
   simpa using this
theorem Undg.done {p q P : List (List Int)} {zs : List (Int × Int)} (h : Undg p q P [] zs) : Und p q zs.reverse := by
 have := h.go [] (.nil _)
 simpa using this
theorem own_sameP {w w' : World} {base n k : Nat} {e : TypeId} {v : Value} {cs : List Value} (h : w.ownsRow base e k v n cs) (hk : ∀ b, v.ownBlock = some b → w'.heap[b]? = w.heap[b]?) : w'.ownsRow base e k v n cs := by
 refine ⟨h.1, ?_⟩
 rcases h.2 with hn | ⟨g, cap, cur, e1, hg, hh, rest⟩
 · exact .inl hn
 · exact .inr ⟨g, cap, cur, e1, hg, (hk g (by rw [e1]; rfl)).trans hh, rest⟩
theorem own_frameP {w w' : World} {base n k : Nat} {e : TypeId} {v : Value} {cs : List Value} {F : Nat → Prop} (h : w.ownsRow base e k v n cs) (hf : Fr w w' F) (hd : ∀ b, v.ownBlock = some b → ¬ F b) : w'.ownsRow base e k v n cs :=
 own_sameP h (fun b hb => hf.block b (h.lt b hb).2 (hd b hb))
theorem ownM_low {w : World} {B B' : Nat} {v : Value} {hs : List Value} {rows : List (List Int)} (h : OwnM w B v hs rows) (hB : B' ≤ B) : OwnM w B' v hs rows := ⟨h.len, h.out.mono hB, fun r hr => (h.inn r hr).mono hB, h.far, h.top⟩
def AptP (o v : Value) (hs : List Value) : Prop := ∀ k, o.ownBlock = some k → ¬ foot v hs k
def lenOfV : Value → Nat
 | .slice _ n _ => n
 | _ => 0
def UndOut (e : Ending) (w : World) (B : Nat) (p q : List (List Int)) : Prop := ∃ v m, e = .returned v ∧ w.ownsRow B 156 2 v m.length (pcells m) ∧ Und p q m ∧ m.length ≤ 40
theorem undone_any (A C : Option Addr) (cap cap2 : Nat) (p q : List (List Int)) (w : World) (hp : FillOk p) (hq : FillOk q) (hs : SameSh p q) (h : SR w w.heap.size A p) (h2 : SR w w.heap.size C q) :
 Calls Tryz.prog 148 #[.slice A p.length cap, .slice C q.length cap2] w fun e w' => UndOut e w' w.heap.size p q ∧ Below w.heap.size w w' := by
 have hp1 := hp.small
 have hq1 := hq.small
 have hpl : p.length < 1000000 := by have := hp1.1; omega
 have hql : q.length < 1000000 := by have := hq1.1; omega
 have HPS : Hid (∀ i, (p.getD i []).length < 1000000) := Lib.hid fun i => by have := hp1.2 i; omega
 have HQS : Hid (∀ i, (q.getD i []).length < 1000000) := Lib.hid fun i => by have := hq1.2 i; omega
 have HU := Lib.hid (Undg.start hp.1 hq hs)
 clear hp hq hs hp1 hq1
 go_enter Tryz.func148, Tryz.ntmps148
 go_wp2_with (first | (go_at_call 186; refine (twin_any A cap p _ hpl HPS.out h).mono ?_) | fail)
 rintro e w1 ⟨⟨v, hs1, rfl, hm1⟩, hb1⟩
 have HB1 := Lib.hid hb1
 have HM1 := Lib.hid hm1
 have h3 := h2.keep hb1
 clear hm1 hb1 h h2
 go_wp2_with (first | (go_at_call 186; refine (twin_any C cap2 q _ hql HQS.out h3).mono ?_) | fail)
 rintro e w2 ⟨⟨u, us1, rfl, hm2⟩, hb2⟩
 have hW2 : Below w.heap.size w w2 := below_call HB1.out (Nat.le_refl _) hb2
 have HM2 := Lib.hid (ownM_low hm2 HB1.out.size)
 have HM1' := Lib.hid (HM1.out.below hb2)
 have HA : Hid (Apt v hs1 u us1) := Lib.hid fun k g1 g2 => by
  have a1 := (hm2.foot_lt g2).1
  have a2 := (HM1.out.foot_lt g1).2
  omega
 obtain ⟨Aq, cq, rfl, -, -, -⟩ := hm2.sr
 obtain ⟨Ap, cp, rfl, -, -, -⟩ := HM1.out.sr
 have HW2 := Lib.hid hW2
 clear hm2 hb2 h3 hW2 HB1 HM1 HPS HQS hpl hql
 go_wp2
 go_loopw [0, 1, 5] (fun pv qv ov wr => ∃ (P Q : List (List Int)) (zs : List (Int × Int)) (hs us : List Value) (Ap Aq Ao : Option Addr) (cp cq co : Nat), pv = .slice Ap P.length cp ∧ qv = .slice Aq Q.length cq ∧ ov = .slice Ao zs.length co ∧ OwnM wr w.heap.size pv hs P ∧ OwnM wr w.heap.size qv us Q ∧ Apt pv hs qv us ∧ wr.ownsRow w.heap.size 156 2 ov zs.length (pcells zs) ∧ AptP ov pv hs ∧ AptP ov qv us ∧ Undg p q P Q zs ∧ Below w.heap.size w wr) (fun _ _ ov _ => 41 - lenOfV ov)
 case atStart => exact ⟨p, q, [], hs1, us1, Ap, Aq, none, cp, cq, 0, rfl, rfl, rfl, HM1'.out, HM2.out, HA.out, World.ownsRow_nil _ _ _ _, fun k hk => by simp [Value.ownBlock] at hk, fun k hk => by simp [Value.ownBlock] at hk, HU.out, HW2.out⟩
 case round =>
  clear HM1' HM2 HA HU HW2
  obtain ⟨P, Q, zs, hs, us, Ap, Aq, Ao, cp, cq, co, rfl, rfl, rfl, hm, hm2, hap, ho, hpp, hpq, hug, hW⟩ := hrel
  obtain ⟨w9, rfl⟩ : ∃ w9, w9 = wr := ⟨_, rfl⟩
  have HM := Lib.hid hm
  have HM2 := Lib.hid hm2
  have HAP := Lib.hid hap
  have HO := Lib.hid ho
  have HPP := Lib.hid hpp
  have HPQ := Lib.hid hpq
  have HUG := Lib.hid hug
  have HW := Lib.hid hW
  have hsz := hW.size
  clear hm hm2 hap ho hpp hpq hug hW
  by_cases hQ0 : 0 < Q.length
  · have dq : decide (0 < Q.length) = true := decide_eq_true hQ0
    have dq2 : decide ((0 : Int) < (Q.length : Int)) = true := decide_eq_true (by omega)
    have hsm := HUG.out.ok.small
    have hQ40 := hsm.1
    have HSM := Lib.hid hsm.2
    obtain ⟨G, c', eG, hG1, hG2⟩ := HM2.out.out.form hQ0
    obtain ⟨rfl, rfl⟩ : Aq = some ⟨G, 0, none⟩ ∧ cq = c' := by injection eG with g1 _ g3; exact ⟨g1, g3⟩
    clear hsm eG
    go_wp2
    go_loop [6, 7, 21] (fun rv mv iv => ∃ (row i : Nat) (most : Int), i ≤ Q.length ∧ rv = .int .i64 row ∧ mv = .int .i64 most ∧ iv = .int .i64 i ∧ Seln Q i row most) (fun _ _ iv => Q.length - (intOf iv).toNat)
    case atStart => exact ⟨0, 0, 0, Nat.zero_le _, rfl, rfl, rfl, Seln.start Q⟩
    case round =>
     obtain ⟨row, i, most, hi, rfl, rfl, rfl, hsel⟩ := hrel
     have HSEL := Lib.hid hsel
     clear hsel
     by_cases hiq : i < Q.length
     · have di : decide (i < Q.length) = true := decide_eq_true hiq
       have hlst := last_lt HUG.out.ok hiq
       have hpos : 0 < (Q.getD i []).length := List.length_pos_iff.2 (HUG.out.ok.1.ne _ (by rw [getD_get hiq]; exact List.getElem_mem _))
       obtain ⟨gi, ci, hhr, hcc, hor, hg1, hg2⟩ := HM2.out.row (r := i) hiq hpos
       have hck := own_get hor (getD_some (l := Q.getD i []) (j := (Q.getD i []).length - 1) (by omega))
       have hcp1 := (own_cap hor).1
       have hcp2 := (own_cap hor).2
       have hrl := HSM.out i
       have hx : (Q.getD i []).getD ((Q.getD i []).length - 1) 0 = lastOf (Q.getD i []) := rfl
       rw [hx] at hck
       obtain ⟨x, hxe⟩ : ∃ x, x = lastOf (Q.getD i []) := ⟨_, rfl⟩
       obtain ⟨L, hL⟩ : ∃ L, L = (Q.getD i []).length := ⟨_, rfl⟩
       rw [← hxe, ← hL] at hck
       rw [← hL] at hcc hcp1 hrl hpos
       rw [← hxe] at hlst
       have HXE := Lib.hid hxe
       have HL1 := Lib.hid hlst
       clear hxe hL hx hhr hor hlst
       by_cases hxm : most < x
       · have dx : decide (most < x) = true := decide_eq_true hxm
         go_wp2
         go_round
         case rel => exact ⟨i, i + 1, x, by omega, rfl, rfl, by go_num, by have := HSEL.out.up (by rw [← HXE.out]; exact hxm); rw [HXE.out]; exact this⟩
         case measure => simp [intOf]; omega
       · have dx : decide (most < x) = false := decide_eq_false hxm
         go_wp2
         go_round
         case rel => exact ⟨row, i + 1, most, by omega, rfl, rfl, by go_num, HSEL.out.keep (by rw [← HXE.out]; exact HL1.out.1) (by rw [← HXE.out]; exact hxm)⟩
         case measure => simp [intOf]; omega
     · have di : decide (i < Q.length) = false := decide_eq_false hiq
       have hie : i = Q.length := by omega
       have hsl := HSEL.out
       rw [hie] at hsl
       have HS := Lib.hid (hsl.sel hQ0)
       clear hsl hie HSEL hi
       have hrow := HS.out.inn
       have hlen : P.length = Q.length := HUG.out.same.len HUG.out.tab.ne HUG.out.ok.1.ne
       have hpos : 0 < (Q.getD row []).length := List.length_pos_iff.2 (HUG.out.ok.1.ne _ (by rw [getD_get hrow]; exact List.getElem_mem _))
       have hcor := HS.out.corner HUG.out.ok.1
       have hcor2 : (P.getD (row + 1) []).length < (P.getD row []).length := by rw [HUG.out.same, HUG.out.same]; exact hcor
       have hrP : row < P.length := by omega
       have hst := HUG.out.step HS.out
       have hnum := hst.num
       have hzl : zs.length ≤ 39 := by rw [List.length_append, List.length_singleton] at hnum; omega
       obtain ⟨gr, cr, hhr, hcc, hor, hg1, hg2⟩ := HM2.out.row (r := row) hrow hpos
       have hfz := HM2.out.out.frozenAt row
       have hcap := (own_cap hor).1
       have hcap2 := (own_cap hor).2
       have hcG1 := (own_cap HM2.out.out).1
       have hcG2 := (own_cap HM2.out.out).2
       have hrl := HSM.out row
       have hcut := HM2.out.cutRow (i := row) hrow hhr (J := (Q.getD row []).length - 1) (by omega)
       have hfr0 := (Fr.refl w9 (foot (.slice (some ⟨G, 0, none⟩) Q.length cq) us)).setCell (a := ⟨G, row, none⟩) (y := .slice (some ⟨gr, 0, none⟩) ((Q.getD row []).length - 1) cr) (foot_top rfl)
       have hW0 := HW.out.setCell (p := ⟨G, row, none⟩) hG1 (.slice (some ⟨gr, 0, none⟩) ((Q.getD row []).length - 1) cr)
       have hft : ∀ k, foot (.slice (some ⟨G, 0, none⟩) Q.length cq) (us.set row (.slice (some ⟨gr, 0, none⟩) ((Q.getD row []).length - 1) cr)) k → foot (.slice (some ⟨G, 0, none⟩) Q.length cq) us k := fun k hk => foot_same (fun k' hk' => by
        have hk2 : (some gr : Option Nat) = some k' := hk'
        cases hk2
        exact foot_row (i := row) (by rw [HM2.out.len]; exact hrow) (by rw [hhr]; rfl)) hk
       have hdl : (Q.getD row []).take ((Q.getD row []).length - 1) = (Q.getD row []).dropLast := List.dropLast_eq_take.symm
       rw [hdl] at hcut
       have hone : (Q.getD row []).length = 1 → popRow Q row = Q.take row := fun e => by unfold popRow; rw [if_pos e]
       have hmany : (Q.getD row []).length ≠ 1 → popRow Q row = Q.set row (Q.getD row []).dropLast := fun e => by unfold popRow; rw [if_neg e]
       obtain ⟨L, hL⟩ : ∃ L, L = (Q.getD row []).length := ⟨_, rfl⟩
       obtain ⟨R, hR⟩ : ∃ R, R = (Q.getD row []).dropLast := ⟨_, rfl⟩
       rw [← hR] at hcut hmany
       rw [← hL] at hcc hcap hrl hpos hcut hfr0 hW0 hft hone hmany
       have HCUT := Lib.hid hcut
       have HONE := Lib.hid hone
       have HMANY := Lib.hid hmany
       have HFR0 := Lib.hid hfr0
       have HW0 := Lib.hid hW0
       have HFT := Lib.hid hft
       have HST := Lib.hid hst
       have HC2 := Lib.hid hcor2
       have HPL := Lib.hid hlen
       clear hcut hfr0 hW0 hft hst hnum hdl hone hmany hL hR hhr hor hcor hcor2 hlen
       go_wp2
       go_region
       obtain ⟨w5, hw5⟩ : ∃ w5, w5 = (w9.setCell ⟨G, row, none⟩ (.slice (some ⟨gr, 0, none⟩) (L - 1) cr)).drew := ⟨_, rfl⟩
       have hm5 : OwnM w5 w.heap.size (.slice (some ⟨G, 0, none⟩) Q.length cq) (us.set row (.slice (some ⟨gr, 0, none⟩) (L - 1) cr)) (Q.set row R) := by rw [hw5]; exact HCUT.out.drewN 1
       have hfr5 : Fr w9 w5 (foot (.slice (some ⟨G, 0, none⟩) Q.length cq) us) := by rw [hw5]; exact HFR0.out.drewN 1
       have hW5 : Below w.heap.size w w5 := by rw [hw5]; exact below_drewN HW0.out 1
       have ho5 := hm5.out
       rw [List.length_set] at ho5
       have hcc5 := ho5.cellAt row (by omega)
       rw [List.getElem?_set_self (by rw [HM2.out.len]; exact hrow)] at hcc5
       rw [← hw5]
       have HM5 := Lib.hid hm5
       have HFR5 := Lib.hid hfr5
       have HW5 := Lib.hid hW5
       clear hw5 hm5 ho5 hfr5 hW5 HCUT HFR0 HW0 hcc hfz
       go_upto_if 57 with fail
       go_cut [1] (fun qv wz => ∃ (us1 : List Value), qv = .slice (some ⟨G, 0, none⟩) (popRow Q row).length cq ∧ OwnM wz w.heap.size (.slice (some ⟨G, 0, none⟩) (popRow Q row).length cq) us1 (popRow Q row) ∧ Fr w9 wz (foot (.slice (some ⟨G, 0, none⟩) Q.length cq) us) ∧ (∀ k, foot (.slice (some ⟨G, 0, none⟩) (popRow Q row).length cq) us1 k → foot (.slice (some ⟨G, 0, none⟩) Q.length cq) us k) ∧ Below w.heap.size w wz)
       case first =>
        by_cases hL1 : L = 1
        · subst hL1
          have dz : (((1 : Nat) : Int) - 1 == 0) = true := by decide
          have he : popRow Q row = Q.take row := HONE.out rfl
          have hlen : (popRow Q row).length = row := by rw [he, List.length_take]; omega
          have htk := HM5.out.takeRows (i := row) (by rw [List.length_set]; omega)
          have e1 : List.take row (Q.set row R) = popRow Q row := by
           rw [he, List.take_set, List.set_eq_of_length_le (by rw [List.length_take]; omega)]
          rw [e1] at htk
          have HTK := Lib.hid htk
          have HLEN := Lib.hid hlen
          clear hlen he e1 htk
          go_wp2
          go_meet
          exact ⟨_, by rw [HLEN.out], by rw [HLEN.out]; exact HTK.out, HFR5.out, fun k hk => HFT.out k (by
           rw [HLEN.out] at hk
           rcases foot_take hk with h5 | h5
           · exact .inl h5
           · exact .inr h5), HW5.out⟩
        · have dz : ((((L - 1 : Nat)) : Int) == 0) = false := beq_eq_false_iff_ne.2 (by omega)
          have dz2 : decide ((((L - 1 : Nat)) : Int) = 0) = false := decide_eq_false (by omega)
          have he : popRow Q row = Q.set row R := HMANY.out hL1
          have hlen : (popRow Q row).length = Q.length := by rw [he, List.length_set]
          have hcut := HM5.out
          rw [← he] at hcut
          have HCUT2 := Lib.hid hcut
          have HLEN := Lib.hid hlen
          clear hlen he hcut
          go_wp2
          go_meet
          exact ⟨_, by rw [HLEN.out], by rw [HLEN.out]; exact HCUT2.out, HFR5.out, fun k hk => HFT.out k (by rw [HLEN.out] at hk; exact hk), HW5.out⟩
       case rest =>
        obtain ⟨us1, rfl, hm6, hfr6, hft6, hW6⟩ := hcut
        have HM6 := Lib.hid hm6
        have HFT6 := Lib.hid hft6
        have HW6 := Lib.hid hW6
        have hP6 := HM.out.frame hfr6 (fun k g1 g2 => HAP.out k g1 g2)
        have ho6 := own_frameP HO.out hfr6 (fun b hb => HPQ.out b hb)
        have HP6 := Lib.hid hP6
        have HO6 := Lib.hid ho6
        have hsz6 := hW6.size
        have HSM2 : Hid (∀ a, (P.getD a []).length ≤ 1000) := Lib.hid fun a => by rw [HUG.out.same]; have := HSM.out a; omega
        have hPl := HPL.out
        have hP1000 : P.length ≤ 1000 := by omega
        clear hm6 hfr6 hft6 hW6 hP6 ho6 HM5 HFR5 HW5 hcc5 hPl HONE HMANY HFT HO
        go_wp2_with (first | (go_at_call 187; refine (taken_any _ hs P row _ hsz6 HP6.out HUG.out.tab hrP HC2.out ⟨hP1000, HSM2.out⟩).mono ?_) | fail)
        rintro e w7 ⟨⟨v7, hs7, rfl, hm7, hfr7, hft7⟩, hb7⟩
        have hq7 := HM6.out.frame hfr7 (fun k g1 g2 => HAP.out k g2 (HFT6.out k g1))
        have ho7 := own_frameP HO6.out hfr7 (fun b hb => HPP.out b hb)
        have hap7 : Apt v7 hs7 (.slice (some ⟨G, 0, none⟩) (popRow Q row).length cq) us1 := fun k g1 g2 => HAP.out k (hft7 k g1) (HFT6.out k g2)
        have hpp7 : AptP (.slice Ao zs.length co) v7 hs7 := fun k g1 g2 => HPP.out k g1 (hft7 k g2)
        have hpq7 : AptP (.slice Ao zs.length co) (.slice (some ⟨G, 0, none⟩) (popRow Q row).length cq) us1 := fun k g1 g2 => HPQ.out k g1 (HFT6.out k g2)
        have hW7 := HW6.out.trans hb7
        have hsz7 := hW7.size
        obtain ⟨A7, c7, rfl, -, -, -⟩ := hm7.sr
        have hst7 := HST.out
        obtain ⟨x, hx⟩ : ∃ x, x = (unb P row).2 := ⟨_, rfl⟩
        obtain ⟨P7, hP7⟩ : ∃ P7, P7 = (unb P row).1 := ⟨_, rfl⟩
        rw [← hx, ← hP7] at hst7
        rw [← hP7] at hm7 hap7 hpp7
        rw [← hx, ← hP7]
        have HM7 := Lib.hid hm7
        have HQ7 := Lib.hid hq7
        have HO7 := Lib.hid ho7
        have HAP7 := Lib.hid hap7
        have HPP7 := Lib.hid hpp7
        have HPQ7 := Lib.hid hpq7
        have HW7 := Lib.hid hW7
        have HST7 := Lib.hid hst7
        clear hm7 hq7 ho7 hap7 hpp7 hpq7 hW7 hst7 hx hP7 hfr7 hft7 hb7 HM6 HFT6 HW6 HP6 HO6 HST HM HM2 HAP HPP HPQ
        go_wp2_with (first | (at_builtin; refine wpList_appP (v := .slice Ao zs.length co) rfl (.tmp 67) (.tmp 71) rfl rfl most x HO7.out w7.heap.size rfl rfl (by omega) hsz7 (fun g2 c2 w8 hl8 hg8 hat8 => ?_)) | fail)
        have hf8 : Fr w7 w8 (fun k => (Value.slice Ao zs.length co).ownBlock = some k) := ((Fr.refl _ _).alloc _).grown hg8 (fun k hk => hk)
        have hm8 := HM7.out.frame hf8 (fun k g1 g2 => HPP7.out k g2 g1)
        have hq8 := HQ7.out.frame hf8 (fun k g1 g2 => HPQ7.out k g2 g1)
        have hpp8 : AptP (.slice (some ⟨g2, 0, none⟩) (zs.length + 1) c2) (.slice A7 P7.length c7) hs7 := fun k g1 g3 => by
         have hlt := (HM7.out.foot_lt g3).2
         obtain rfl : g2 = k := by simpa [Value.ownBlock] using g1
         rcases hat8 with e | e
         · exact HPP7.out _ e g3
         · omega
        have hpq8 : AptP (.slice (some ⟨g2, 0, none⟩) (zs.length + 1) c2) (.slice (some ⟨G, 0, none⟩) (popRow Q row).length cq) us1 := fun k g1 g3 => by
         have hlt := (HQ7.out.foot_lt g3).2
         obtain rfl : g2 = k := by simpa [Value.ownBlock] using g1
         rcases hat8 with e | e
         · exact HPQ7.out _ e g3
         · omega
        have hW8 := (HW7.out.alloc hsz7 _).grown hg8 (by simp; omega) (fun k hk => (HO7.out.lt k hk).1)
        have hl : zs.length + 1 = (zs ++ [(most, x)]).length := by simp
        have HLZ := Lib.hid hl
        have HL8 := Lib.hid hl8
        have HM8 := Lib.hid hm8
        have HQ8 := Lib.hid hq8
        have HPP8 := Lib.hid hpp8
        have HPQ8 := Lib.hid hpq8
        have HW8 := Lib.hid hW8
        clear hl hl8 hm8 hq8 hpp8 hpq8 hW8 hf8 hg8 hat8 HM7 HQ7 HO7 HPP7 HPQ7 HW7
        go_wp2
        go_roundw
        case rel => exact ⟨P7, popRow Q row, zs ++ [(most, x)], hs7, us1, A7, some ⟨G, 0, none⟩, some ⟨g2, 0, none⟩, c7, cq, c2, rfl, rfl, by rw [← HLZ.out], HM8.out, HQ8.out, HAP7.out, by rw [← HLZ.out]; exact HL8.out, HPP8.out, HPQ8.out, HST7.out, HW8.out⟩
        case measure => simp [lenOfV]; omega
  · have dq : decide (0 < Q.length) = false := decide_eq_false hQ0
    have dq2 : decide ((0 : Int) < (Q.length : Int)) = false := decide_eq_false (by omega)
    have hQe : Q = [] := List.eq_nil_of_length_eq_zero (by omega)
    have hug := HUG.out
    rw [hQe] at hug
    have HD := Lib.hid hug.done
    have hz40 := hug.num
    have hrv := reverseP_any _ zs w9 (by omega) HO.out
    have HRV := Lib.hid hrv
    clear hug hQe hrv
    go_wp2_with (first | (go_at_call 188; refine HRV.out.mono ?_) | fail)
    rintro e w5 ⟨⟨rfl, ho5⟩, hb5⟩
    have HO5 := Lib.hid ho5
    have hW5 := HW.out.trans hb5
    clear ho5 hb5
    go_wp2
    go_ret
    exact ⟨⟨_, zs.reverse, rfl, by rw [List.length_reverse]; exact HO5.out, HD.out, by rw [List.length_reverse]; omega⟩, hW5⟩
end
end Go.Proofs.YtpmkdihencepnaaGreatDoor
