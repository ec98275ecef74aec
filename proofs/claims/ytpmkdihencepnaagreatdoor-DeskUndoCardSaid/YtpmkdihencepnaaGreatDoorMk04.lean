/- Part of the proof. -/
import Derived.Deep.Onto
import Derived.Deep.AppendLies
import Derived.Deep.RegionHeld3
import Derived.BigRegion
import Derived.Test.YtpmkdihencepnaaGreatDoorMk03
set_option maxHeartbeats 16000000
set_option maxRecDepth 100000
namespace Go.Proofs.YtpmkdihencepnaaGreatDoor
section
open Go.RowKit
def SR (w : World) (B : Nat) (A : Option Addr) (rows : List (List Int)) : Prop :=
 ∃ hs : List Value, hs.length = rows.length ∧ Sl w B A hs ∧ ∀ r, r < rows.length → ∃ Ar cr, hs[r]? = some (.slice Ar (rows.getD r []).length cr) ∧ Sl w B Ar (ints (rows.getD r [])) ∧ (rows.getD r []).length ≤ 9223372036854775807
section
variable {w w' : World} {B B' : Nat} {A : Option Addr} {rows : List (List Int)}
theorem SR.below (h : SR w B A rows) (hb : Below B w w') : SR w' B A rows := by
 obtain ⟨hs, h1, h2, h3⟩ := h
 exact ⟨hs, h1, h2.below hb, fun r hr => by obtain ⟨Ar, cr, a, b, c⟩ := h3 r hr; exact ⟨Ar, cr, a, b.below hb, c⟩⟩
theorem SR.more (h : SR w B A rows) (hB : B ≤ B') : SR w B' A rows := by
 obtain ⟨hs, h1, h2, h3⟩ := h
 exact ⟨hs, h1, h2.more hB, fun r hr => by obtain ⟨Ar, cr, a, b, c⟩ := h3 r hr; exact ⟨Ar, cr, a, b.more hB, c⟩⟩
theorem SR.now (h : SR w B A rows) (hb : Below B w w') (hB : B ≤ w.heap.size) : SR w' w'.heap.size A rows := (h.below hb).more (Nat.le_trans hB hb.size)
theorem SR.keep (h : SR w w.heap.size A rows) (hb : Below w.heap.size w w') : SR w' w'.heap.size A rows := (h.below hb).more hb.size
theorem SR.addr (h : SR w B A rows) (hp : 0 < rows.length) : ∃ b o, A = some ⟨b, o, none⟩ ∧ b < B := by
 obtain ⟨hs, h1, h2, _⟩ := h
 obtain ⟨b, o, e, hlt, _⟩ := h2 (by omega)
 exact ⟨b, o, e, hlt⟩
theorem SR.at_ {b o : Nat} (h : SR w B (some ⟨b, o, none⟩) rows) {r : Nat} (hr : r < rows.length) :
 ∃ Ar cr, w.cell? ⟨b, o + r, none⟩ = some (.slice Ar (rows.getD r []).length cr) ∧ Sl w B Ar (ints (rows.getD r [])) ∧ (rows.getD r []).length ≤ 9223372036854775807 := by
 obtain ⟨hs, h1, h2, h3⟩ := h
 obtain ⟨Ar, cr, a, b', c⟩ := h3 r hr
 obtain ⟨b1, o1, e1, _, hc⟩ := h2 (by omega)
 obtain ⟨rfl, rfl⟩ : b = b1 ∧ o = o1 := by simpa using e1
 exact ⟨Ar, cr, hc r _ a, b', c⟩
end
def Far (v u : Value) : Prop := ∀ k, v.ownBlock = some k → u.ownBlock ≠ some k
theorem Far.symm {u v : Value} (h : Far u v) : Far v u := fun k h1 h2 => h k h2 h1
theorem Far.ne {u v : Value} (h : Far u v) : v.ownBlock = none ∨ v.ownBlock ≠ u.ownBlock := by
 cases e : v.ownBlock with
 | none => exact .inl rfl
 | some k => exact .inr (fun h2 => h k h2.symm e)
structure OwnM (w : World) (B : Nat) (v : Value) (hs : List Value) (rows : List (List Int)) : Prop where
 len : hs.length = rows.length
 out : w.ownsRow B 65 1 v rows.length hs
 inn : ∀ r, r < rows.length → w.ownsRow B 3 1 (hs.getD r undef) (rows.getD r []).length (ints (rows.getD r []))
 far : ∀ r s, r < rows.length → s < rows.length → r ≠ s → Far (hs.getD r undef) (hs.getD s undef)
 top : ∀ r, r < rows.length → Far v (hs.getD r undef)
section
variable {w w' : World} {B : Nat} {v : Value} {hs : List Value} {rows : List (List Int)}
theorem OwnM.nil (w : World) (B : Nat) : OwnM w B (.slice none 0 0) [] [] :=
 ⟨rfl, World.ownsRow_nil _ _ _ _, fun r hr => by simp at hr, fun r s hr => by simp at hr, fun r hr => by simp at hr⟩
theorem OwnM.below (h : OwnM w B v hs rows) (hb : Below w.heap.size w w') : OwnM w' B v hs rows :=
 ⟨h.len, own_below h.out hb, fun r hr => own_below (h.inn r hr) hb, h.far, h.top⟩
theorem OwnM.alloc (h : OwnM w B v hs rows) (o : Obj) : OwnM (w.alloc o) B v hs rows :=
 ⟨h.len, h.out.alloc o, fun r hr => (h.inn r hr).alloc o, h.far, h.top⟩
theorem OwnM.drewN (h : OwnM w B v hs rows) (k : Nat) : OwnM (w.drewN k) B v hs rows := ⟨h.len, h.out, h.inn, h.far, h.top⟩
theorem OwnM.get (h : OwnM w B v hs rows) {r : Nat} (hr : r < rows.length) : hs[r]? = some (hs.getD r undef) := by
 have : r < hs.length := by rw [h.len]; exact hr
 rw [List.getD_eq_getElem?_getD]; simp [this]
theorem OwnM.sr (h : OwnM w B v hs rows) : ∃ A c, v = .slice A rows.length c ∧ SR w w.heap.size A rows ∧ rows.length ≤ c ∧ c ≤ 9223372036854775807 := by
 have key : ∀ A, Sl w w.heap.size A hs → SR w w.heap.size A rows := fun A hA => ⟨hs, h.len, hA, fun r hr => by
  obtain ⟨Ar, cr, e, _, hsl, e1, e2⟩ := own_sliceA (h.inn r hr)
  exact ⟨Ar, cr, by rw [h.get hr, e], hsl, by omega⟩⟩
 rcases h.out.2 with ⟨e1, e2⟩ | ⟨g, c, _, e1, _⟩
 · refine ⟨none, 0, by rw [e2]; exact e1, key none ?_, by omega, by omega⟩
   have hz : hs = [] := List.eq_nil_of_length_eq_zero (by rw [h.len]; exact e2)
   rw [hz]; exact Sl.nil _ _ _
 · have ho := h.out
   rw [e1] at ho
   exact ⟨_, c, e1, key _ (Sl.of_own ho), (own_cap ho).1, (own_cap ho).2⟩
def OwnR (w : World) (B : Nat) (A : Option Addr) (c : Nat) (rows : List (List Int)) : Prop := ∃ hs, OwnM w B (.slice A rows.length c) hs rows
theorem OwnR.nil (w : World) (B : Nat) : OwnR w B none 0 [] := ⟨[], OwnM.nil w B⟩
theorem OwnM.lowr {B' : Nat} (h : OwnM w B v hs rows) (hB : B' ≤ B) : OwnM w B' v hs rows := ⟨h.len, h.out.mono hB, fun r hr => (h.inn r hr).mono hB, h.far, h.top⟩
theorem OwnM.ownR (h : OwnM w B v hs rows) : ∃ A c, v = .slice A rows.length c ∧ OwnR w B A c rows ∧ rows.length ≤ c ∧ c ≤ 9223372036854775807 := by
 obtain ⟨A, c, rfl, _, h1, h2⟩ := h.sr
 exact ⟨A, c, rfl, ⟨hs, h⟩, h1, h2⟩
theorem OwnR.sr {A : Option Addr} {c : Nat} (h : OwnR w B A c rows) : SR w w.heap.size A rows := by
 obtain ⟨hs, h⟩ := h
 obtain ⟨A', c', e, h1, _⟩ := h.sr
 cases e
 exact h1
theorem OwnR.below {A : Option Addr} {c : Nat} (h : OwnR w B A c rows) (hb : Below w.heap.size w w') : OwnR w' B A c rows := by
 obtain ⟨hs, h⟩ := h
 exact ⟨hs, h.below hb⟩
theorem OwnR.low {B' : Nat} {A : Option Addr} {c : Nat} (h : OwnR w B A c rows) (hB : B' ≤ B) : OwnR w B' A c rows := by
 obtain ⟨hs, h⟩ := h
 exact ⟨hs, h.lowr hB⟩
theorem OwnM.push (h : OwnM w B v hs rows) {u : Value} {l : List Int} (hu : w.ownsRow B 3 1 u l.length (ints l)) (hf : ∀ r, r < rows.length → Far (hs.getD r undef) u) (hv : Far v u) {g cap n' : Nat} (hn : n' = rows.length + 1)
 (ho : w'.ownsRow B 65 1 (.slice (some ⟨g, 0, none⟩) n' cap) n' (hs ++ [u])) (hg : w.grownBy w' v.ownBlock) (hat : v.ownBlock = some g ∨ g = w.heap.size) :
 OwnM w' B (.slice (some ⟨g, 0, none⟩) n' cap) (hs ++ [u]) (rows ++ [l]) := by
 have hl : (rows ++ [l]).length = rows.length + 1 := by simp
 have low : ∀ r, r < rows.length → (hs ++ [u]).getD r undef = hs.getD r undef ∧ (rows ++ [l]).getD r [] = rows.getD r [] := fun r hr => by
  rw [List.getD_eq_getElem?_getD, List.getD_eq_getElem?_getD, List.getD_eq_getElem?_getD, List.getD_eq_getElem?_getD, List.getElem?_append_left (by rw [h.len]; exact hr), List.getElem?_append_left hr]
  exact ⟨rfl, rfl⟩
 have top : (hs ++ [u]).getD rows.length undef = u ∧ (rows ++ [l]).getD rows.length [] = l := by
  rw [List.getD_eq_getElem?_getD, List.getD_eq_getElem?_getD]
  have := h.len
  constructor
  · rw [← this]; simp
  · simp
 have nf : ∀ x : Value, Far v x → (∀ k, x.ownBlock = some k → k < w.heap.size) → Far (.slice (some ⟨g, 0, none⟩) n' cap) x := fun x hx hlt k hk e => by
  obtain rfl : g = k := by simpa [Value.ownBlock] using hk
  rcases hat with e2 | e2
  · exact hx _ e2 e
  · have := hlt _ e; omega
 refine ⟨by rw [hl, List.length_append, h.len]; rfl, by rw [hl, ← hn]; exact ho, fun r hr => ?_, fun r s hr hs' hne => ?_, fun r hr => ?_⟩
 · by_cases c : r < rows.length
   · rw [(low r c).1, (low r c).2]; exact (h.inn r c).kept hg (h.top r c).ne
   · obtain rfl : r = rows.length := by omega
     rw [top.1, top.2]; exact hu.kept hg hv.ne
 · by_cases c : r < rows.length
   · by_cases c2 : s < rows.length
     · rw [(low r c).1, (low s c2).1]; exact h.far r s c c2 hne
     · obtain rfl : s = rows.length := by omega
       rw [(low r c).1, top.1]; exact hf r c
   · obtain rfl : r = rows.length := by omega
     have c2 : s < rows.length := by omega
     rw [(low s c2).1, top.1]; exact (hf s c2).symm
 · by_cases c : r < rows.length
   · rw [(low r c).1]; exact nf _ (h.top r c) (fun k hk => ((h.inn r c).lt k hk).2)
   · obtain rfl : r = rows.length := by omega
     rw [top.1]; exact nf _ hv (fun k hk => (hu.lt k hk).2)
end
theorem Tryz.infoSlice : (Tryz.prog.info? 65).map (fun i => (i.zero, i.size, i.bytes)) = some (some (.slice none 0 0), 1, 24) := by kernel_rfl
theorem wpList_push {w : World} {base : Nat} {v : Value} {hs : List Value} {ops : Array Oper} {rest : List Oper} {o : Oper} {a : Act} {Q : Exit → Act → World → Prop} (hgd : o.guard = none) (s x : Operand)
 (ho : o.op = .call { callee := .builtin .append, args := #[s, x], argTypes := #[48, 48] }) (hs' : a.eval s = v) (u : Value) (hu : u.oneCell' = true) {n : Nat}
 (hown : w.ownsRow base 65 1 v n hs) (g0 : Nat) (hg0 : g0 = w.heap.size) (hx : a.eval x = .slice (some ⟨g0, 0, none⟩) 1 1) (hlen : n < 1000000) (hbase : base ≤ w.heap.size)
 (h : ∀ g cap w', w'.ownsRow base 65 1 (.slice (some ⟨g, 0, none⟩) (n + 1) cap) (n + 1) (hs ++ [u]) → (w.alloc (.cells #[u] 65)).grownBy w' v.ownBlock → (v.ownBlock = some g ∨ g = w.heap.size + 1) →
  wpList Tryz.prog ops Q rest (a.put o.dst (.slice (some ⟨g, 0, none⟩) (n + 1) cap)) w') :
 wpList Tryz.prog ops Q (o :: rest) a (w.alloc (.cells #[u] 65)) := by
 subst hg0
 obtain ⟨i0, hi, hz0, hz1, hz2⟩ := info_parts Tryz.infoSlice
 refine wpList_append_lies _ hgd s x 48 ho base 65 i0 (.slice none 0 0) 1 24 Tryz.underlying48 hi hz0 hz1 hz2 rfl (by decide) v n hs hs' (hown.alloc _) ⟨w.heap.size, 0, none⟩ 1 1 [u] hx rfl ?_ (by simpa using hu) (by decide)
  (by unfold maxLen; omega) (by omega) (by simp; omega) _ rfl (fun g cap w' h1 h2 h3 _ => ?_)
 · intro j y hy
   match j, hy with
   | 0, hy => simp at hy; subst hy; simp [Addr.add]
 · exact h g cap w' (by simpa using h1) h2 (by simpa using h3)
theorem OwnM.single {w : World} {B : Nat} {u : Value} {l : List Int} {k : Nat} (hk : k = l.length) (hu : w.ownsRow B 3 1 u k (ints l)) (hB : B ≤ w.heap.size) : OwnM (w.alloc (.cells #[u] 65)) B (.slice (some ⟨w.heap.size, 0, none⟩) 1 1) [u] [l] := by
 subst hk
 have h0 : ∀ r, r < [l].length → r = 0 := fun r hr => by simp at hr; exact hr
 refine ⟨rfl, World.ownsRow_lit (e := 65) (size := 1) w #[u] 1 hB (by decide) rfl, fun r hr => ?_, fun r s hr hs' hne => ?_, fun r hr => ?_⟩
 · obtain rfl := h0 r hr; exact hu.alloc _
 · have := h0 r hr; have := h0 s hs'; omega
 · obtain rfl := h0 r hr
   intro k hk e
   obtain rfl : w.heap.size = k := by simpa [Value.ownBlock] using hk
   have := (hu.lt _ e).2
   omega
theorem OwnM.row {w : World} {B g n c : Nat} {hs : List Value} {rows : List (List Int)} (h : OwnM w B (.slice (some ⟨g, 0, none⟩) n c) hs rows) {r : Nat} (hr : r < rows.length) (hp : 0 < (rows.getD r []).length) :
 ∃ gr cr, hs.getD r undef = .slice (some ⟨gr, 0, none⟩) (rows.getD r []).length cr ∧ w.cell? ⟨g, r, none⟩ = some (.slice (some ⟨gr, 0, none⟩) (rows.getD r []).length cr) ∧
  w.ownsRow B 3 1 (.slice (some ⟨gr, 0, none⟩) (rows.getD r []).length cr) (rows.getD r []).length (ints (rows.getD r [])) ∧ B ≤ gr ∧ gr < w.heap.size := by
 have hi := h.inn r hr
 obtain ⟨gr, cr, e, h1, h2⟩ := hi.form hp
 refine ⟨gr, cr, e, ?_, by rw [← e]; exact hi, h1, h2⟩
 have ho := h.out
 have hn : n = rows.length := by
  rcases ho.2 with ⟨e1, _⟩ | ⟨_, _, _, e1, _⟩
  · cases e1
  · injection e1
 subst hn
 rw [ho.cellAt r (by omega), h.get hr, e]
theorem OwnM.far_new {w : World} {B : Nat} {v : Value} {hs : List Value} {rows : List (List Int)} (h : OwnM w B v hs rows) {u : Value} (hu : ∀ k, u.ownBlock = some k → w.heap.size ≤ k) : (∀ r, r < rows.length → Far (hs.getD r undef) u) ∧ Far v u :=
 ⟨fun r hr k hk e => by have := ((h.inn r hr).lt k hk).2; have := hu k e; omega, fun k hk e => by have := (h.out.lt k hk).2; have := hu k e; omega⟩
theorem OwnM.setIn {w : World} {B : Nat} {v : Value} {hs : List Value} {rows : List (List Int)} (h : OwnM w B v hs rows) {r g c : Nat} (hr : r < rows.length) (hg : hs.getD r undef = .slice (some ⟨g, 0, none⟩) (rows.getD r []).length c) (j : Nat) (y : Int) :
 OwnM (w.setCell ⟨g, j, none⟩ (.int .i64 y)) B v hs (rows.set r ((rows.getD r []).set j y)) := by
 have other : ∀ {base n : Nat} {e : TypeId} {u : Value} {cs : List Value}, w.ownsRow base e 1 u n cs → (∀ k, u.ownBlock = some k → k ≠ g) → (w.setCell ⟨g, j, none⟩ (.int .i64 y)).ownsRow base e 1 u n cs := by
  intro base n e u cs ho hne
  refine ⟨ho.1, ?_⟩
  rcases ho.2 with hn | ⟨g', cap, cur, e1, hg', hh, rest⟩
  · exact .inl hn
  · refine .inr ⟨g', cap, cur, e1, hg', ?_, rest⟩
    have : g' ≠ g := hne g' (by rw [e1]; rfl)
    rw [← hh]
    simp [World.setCell, Array.getElem?_modify, Ne.symm this]
 have hgb : ∀ u : Value, Far u (hs.getD r undef) → ∀ k, u.ownBlock = some k → k ≠ g := fun u hf k hk e => by
  subst e; exact hf k hk (by rw [hg]; rfl)
 have hL : (rows.set r ((rows.getD r []).set j y)).length = rows.length := by simp
 refine ⟨by rw [hL]; exact h.len, by rw [hL]; exact other h.out (hgb v (h.top r hr)), fun s hs' => ?_, fun s t hs' ht hne => h.far s t (by rw [hL] at hs'; exact hs') (by rw [hL] at ht; exact ht) hne, fun s hs' => h.top s (by rw [hL] at hs'; exact hs')⟩
 rw [hL] at hs'
 by_cases e : s = r
 · subst e
   have e1 : (rows.set s ((rows.getD s []).set j y)).getD s [] = (rows.getD s []).set j y := by
    rw [List.getD_eq_getElem?_getD, List.getElem?_set_self hs']; rfl
   rw [e1, List.length_set]
   have hi := h.inn s hs'
   rw [hg] at hi ⊢
   exact own_set hi j y
 · have e1 : (rows.set r ((rows.getD r []).set j y)).getD s [] = rows.getD s [] := by
    rw [List.getD_eq_getElem?_getD, List.getElem?_set_ne (fun e2 => e e2.symm), ← List.getD_eq_getElem?_getD]
   rw [e1]
   exact other (h.inn s hs') (hgb _ (h.far s r hs' hr e))
theorem own_sliceV {w : World} {base n : Nat} {v : Value} {xs : List Int} (h : w.ownsRow base 3 1 v n (ints xs)) : ∃ A c, v = .slice A xs.length c ∧ n = xs.length ∧ w.ownsRow base 3 1 (.slice A xs.length c) xs.length (ints xs) := by
 obtain ⟨A, c, rfl, hn, _⟩ := own_sliceA h
 subst hn
 exact ⟨A, c, rfl, rfl, h⟩
end
section
open Go.RowKit
theorem getD_take_succ {xs : List (List Int)} {k : Nat} (h : k < xs.length) : xs.take (k + 1) = xs.take k ++ [xs.getD k []] := by
 rw [take_snoc h, getD_get h]
theorem twin_any (A : Option Addr) (cap : Nat) (T : List (List Int)) (w : World) (hT : T.length < 1000000) (hrl : ∀ i, (T.getD i []).length < 1000000) (h : SR w w.heap.size A T) :
 Calls Tryz.prog 186 #[.slice A T.length cap] w fun e w' => (∃ v hs, e = .returned v ∧ OwnM w' w.heap.size v hs T) ∧ Below w.heap.size w w' := by
 go_enter Tryz.func186, Tryz.ntmps186
 go_wp2
 go_loopw [3, 8] (fun ov iv wr => ∃ (i : Nat) (hs : List Value), i ≤ T.length ∧ iv = .int .i64 i ∧ OwnM wr w.heap.size ov hs (T.take i) ∧ Below w.heap.size w wr) (fun _ iv _ => T.length - (intOf iv).toNat)
 case atStart => exact ⟨0, [], Nat.zero_le _, rfl, OwnM.nil _ _, Below.refl _ _⟩
 case round =>
  obtain ⟨i, hs, hi, rfl, hm, hW⟩ := hrel
  have HM := Lib.hid hm
  have hsz := hW.size
  clear hm
  by_cases hlt : i < T.length
  · have di : decide (i < T.length) = true := decide_eq_true hlt
    obtain ⟨b, o, rfl, hb⟩ := h.addr (by omega)
    have h2 := h.below hW
    obtain ⟨Ar, cr, hc, hr, _⟩ := h2.at_ hlt
    have hrl2 := hrl i
    obtain ⟨r, hre⟩ : ∃ r, r = T.getD i [] := ⟨_, rfl⟩
    rw [← hre] at hc hr hrl2
    have HRE := Lib.hid hre
    clear hre h2
    go_wp2_with (first | (go_at_call 100; refine (clone_any Ar cr r _ hrl2 (hr.more hsz)).mono ?_) | fail)
    rintro e w4 ⟨v4, rfl, hv4, hb4⟩
    obtain ⟨A4, c4, rfl, _, _, hle, _⟩ := own_sliceA hv4
    have hu4 := hv4.mono hsz
    have hfar := HM.out.far_new (u := .slice A4 r.length c4) (fun k hk => by
     have := (hv4.lt k hk).1; exact this)
    have hm4 := HM.out.below hb4
    have hmo := hm4.out
    rw [List.length_take, Nat.min_eq_left (by omega)] at hmo
    have HM4 := Lib.hid hm4
    have HMO := Lib.hid hmo
    have HU4 := Lib.hid hu4
    have HF := Lib.hid hfar
    have hW4 := hW.trans (hb4.mono hsz)
    have hB9 := Lib.hid hW4.size
    clear hm4 hmo hu4 hfar hv4 hb4
    go_wp2_with (first | (at_builtin; refine wpList_push (v := u3) rfl (.tmp 12) (.tmp 15) rfl rfl (.slice A4 r.length c4) rfl HMO.out w4.heap.size rfl rfl (by omega) hB9.out (fun g2 c2 w5 hl5 hg5 hat5 => ?_)) | fail)
    have hpush := (HM4.out.alloc (.cells #[.slice A4 r.length c4] 65)).push (u := .slice A4 r.length c4) (l := r) (HU4.out.alloc _) HF.out.1 HF.out.2 (by rw [List.length_take, Nat.min_eq_left (by omega)]) hl5 hg5 (by simpa using hat5)
    have hts : T.take i ++ [r] = T.take (i + 1) := by rw [getD_take_succ hlt, HRE.out]
    rw [hts] at hpush
    have hW5 : Below w.heap.size w w5 := (hW4.alloc hB9.out _).grown hg5 (by have := hB9.out; simp; omega) (fun k hk => (HMO.out.lt k hk).1)
    have HPU := Lib.hid hpush
    clear hpush hl5 hg5 hat5 hts
    go_wp2
    go_roundw
    case rel => exact ⟨i + 1, _, by omega, by go_num, HPU.out, hW5⟩
    case measure => simp [intOf]; omega
  · have di : decide (i < T.length) = false := decide_eq_false hlt
    have hm := HM.out
    rw [List.take_of_length_le (by omega)] at hm
    have HM2 := Lib.hid hm
    clear hm
    go_wp2
    go_ret
    exact ⟨⟨_, _, rfl, HM2.out⟩, hW⟩
theorem fcheck_code (A : Option Addr) (cap : Nat) (T : List (List Int)) (w : World) (hT : T.length ≤ 9223372036854775807) (h : SR w w.heap.size A T) :
 Calls Tryz.prog 172 #[.slice A T.length cap] w fun e w' => (∃ k : Int, e = .returned (.int .i64 k) ∧ (k = 0 → FillOk T) ∧ (FillOk T → k = 0) ∧ (k ≠ 0 → k = if boxes T ≤ 40 then 1 else 2)) ∧ w = w' := by
 go_enter Tryz.func172, Tryz.ntmps172
 go_wp2
 go_loop [3, 12] (fun lv iv => ∃ (i : Nat), i ≤ T.length ∧ iv = .int .i64 i ∧ boxes (T.take i) ≤ 40 ∧ lv = .int .i64 ((40 : Int) - (boxes (T.take i) : Int))) (fun _ iv => T.length - (intOf iv).toNat)
 case atStart => exact ⟨0, Nat.zero_le _, rfl, by simp [boxes], by simp [boxes]⟩
 case round =>
  obtain ⟨i, hi, rfl, hbx, rfl⟩ := hrel
  by_cases hlt : i < T.length
  · have di : decide (i < T.length) = true := decide_eq_true hlt
    obtain ⟨b, o, rfl, hb⟩ := h.addr (by omega)
    obtain ⟨Ar, cr, hc, _, hrl⟩ := h.at_ hlt
    have hbt := boxes_take hlt
    have hble := boxes_le (T := T) (i + 1)
    obtain ⟨q, hq⟩ : ∃ q, q = (T.getD i []).length := ⟨_, rfl⟩
    obtain ⟨p, hp⟩ : ∃ p, p = boxes (T.take i) := ⟨_, rfl⟩
    rw [← hq] at hc hrl hbt
    rw [← hp] at hbx hbt ⊢
    have HBT := Lib.hid hbt
    clear hq hp hbt
    by_cases hbig : 40 - (p : Int) < (q : Int)
    · have dq : decide (40 - (p : Int) < (q : Int)) = true := decide_eq_true hbig
      have hno : Hid (¬ FillOk T) := fun hh => by have := hh.2.2; have := HBT.out; omega
      have hno4 : Hid (¬ boxes T ≤ 40) := fun hh => by have := HBT.out; omega
      clear hble
      go_wp2
      go_ret
      exact ⟨⟨2, rfl, by simp, fun hh => absurd hh hno.out, (by first | exact fun _ => rfl | exact fun _ => (if_neg hno4.out).symm)⟩, rfl⟩
    · have dq : decide (40 - (p : Int) < (q : Int)) = false := decide_eq_false hbig
      clear hble
      go_wp2
      go_round
      case rel => exact ⟨i + 1, by omega, rfl, by have := HBT.out; omega, by rw [HBT.out]; go_num⟩
      case measure => simp [intOf]; omega
  · have di : decide (i < T.length) = false := decide_eq_false hlt
    have hb40 : Hid (boxes T ≤ 40) := by
     show _ ≤ _
     rwa [List.take_of_length_le (by omega)] at hbx
    obtain ⟨p, hp⟩ : ∃ p, p = boxes (T.take i) := ⟨_, rfl⟩
    rw [← hp]
    clear hp hbx
    go_wp2
    go_loop [27] (fun iv => ∃ (i : Nat), i ≤ T.length ∧ iv = .int .i64 i ∧ ∀ i', i' < i → RowOk T i') (fun iv => T.length - (intOf iv).toNat)
    case atStart => exact ⟨0, Nat.zero_le _, rfl, fun i' hi' => by omega⟩
    case round =>
     clear hlt di hi
     obtain ⟨i, hi, rfl, hrows⟩ := hrel
     have HR := Lib.hid hrows
     clear hrows
     by_cases hit : i < T.length
     · have di : decide (i < T.length) = true := decide_eq_true hit
       obtain ⟨b, o, rfl, hb⟩ := h.addr (by omega)
       obtain ⟨Ar, cr, hc, hr, hrl⟩ := h.at_ hit
       obtain ⟨q, hq⟩ : ∃ q, q = (T.getD i []).length := ⟨_, rfl⟩
       have HQ := Lib.hid hq
       rw [← hq] at hc hrl
       have hcells : Hid (∀ j, j < q → ∃ g p, Ar = some ⟨g, p, none⟩ ∧ w.cell? ⟨g, p + j, none⟩ = some (.int .i64 ((T.getD i []).getD j 0))) := fun j hj => by
        obtain ⟨g, p, e, _⟩ := hr.addr (by omega)
        subst e
        exact ⟨g, p, rfl, getD_cell hr (k := j) (by omega)⟩
       clear hq hr
       by_cases hq0 : q = 0
       · have dq : decide ((q : Int) = 0) = true := decide_eq_true (by omega)
         have hno : Hid (¬ FillOk T) := fun hh => (hh.row hit).1 (by rw [← HQ.out]; exact hq0)
         subst hq0
         go_wp2
         go_ret
         exact ⟨⟨1, rfl, by simp, fun hh => absurd hh hno.out, (by first | exact fun _ => rfl | exact fun _ => (if_pos hb40.out).symm)⟩, rfl⟩
       · have hup : ∃ (q1 : Nat) (A1 : Option Addr) (c1 : Nat), q1 ≤ 9223372036854775807 ∧ (0 < i → w.cell? ⟨b, o + (i - 1), none⟩ = some (.slice A1 q1 c1) ∧ q1 = (T.getD (i - 1) []).length ∧ Sl w w.heap.size A1 (ints (T.getD (i - 1) []))) := by
          by_cases h0 : 0 < i
          · obtain ⟨A1, c1, hc1, hr1, hl1⟩ := h.at_ (r := i - 1) (by omega)
            exact ⟨_, A1, c1, hl1, fun _ => ⟨hc1, rfl, hr1⟩⟩
          · exact ⟨0, none, 0, by omega, fun h1 => absurd h1 h0⟩
         obtain ⟨q1, A1, c1, hq19, hup⟩ := hup
         have HUP := Lib.hid hup
         clear hup
         by_cases hlen : 0 < i ∧ q1 < q
         · have hno : Hid (¬ FillOk T) := fun hh => by
            have h1 := (hh.row hit).2.1 hlen.1
            rw [← HQ.out, ← (HUP.out hlen.1).2.1] at h1
            have := hlen.2; omega
           obtain ⟨h0, hq1⟩ := hlen
           have hc1 := (HUP.out h0).1
           have d0 : decide ((0 : Int) < (i : Int)) = true := decide_eq_true (by omega)
           have d1 : decide ((q1 : Int) < (q : Int)) = true := decide_eq_true (by omega)
           go_wp2
           go_ret
           exact ⟨⟨1, rfl, by simp, fun hh => absurd hh hno.out, (by first | exact fun _ => rfl | exact fun _ => (if_pos hb40.out).symm)⟩, rfl⟩
         · have hlo : Hid (0 < i → q ≤ q1) := fun h0 => by
            apply Classical.byContradiction
            intro hn
            exact hlen ⟨h0, by omega⟩
           have dq : ((q : Int) == 0) = false := by simp; omega
           go_upto_region 12 with fail
           go_cut [49] (fun bv wz => bv = .bool false ∧ w = wz)
           case first =>
            by_cases h0 : 0 < i
            · have hc1 := (HUP.out h0).1
              have hq1 := hlo.out h0
              have d0 : decide ((0 : Int) < (i : Int)) = true := decide_eq_true (by omega)
              have d1 : decide (q1 < q) = false := decide_eq_false (by omega)
              go_wp2
              go_meet
              exact ⟨rfl, rfl⟩
            · have d0 : decide ((0 : Int) < (i : Int)) = false := decide_eq_false (by omega)
              go_wp2
              go_meet
              exact ⟨rfl, rfl⟩
           case rest =>
            obtain ⟨rfl, rfl⟩ := hcut
            obtain ⟨g, p, rfl, _⟩ := hcells.out 0 (by omega)
            have hcl : Hid (∀ j, j < q → w.cell? ⟨g, p + j, none⟩ = some (.int .i64 ((T.getD i []).getD j 0))) := fun j hj => by
             obtain ⟨g', p', e, hh⟩ := hcells.out j hj
             obtain ⟨rfl, rfl⟩ : g = g' ∧ p = p' := by simpa using e
             exact hh
            clear hcells dq
            go_wp2
            go_loop [52] (fun jv => ∃ (j : Nat), j ≤ q ∧ jv = .int .i64 j ∧ ∀ j', j' < j → BoxOk T i j') (fun jv => q - (intOf jv).toNat)
            case atStart => exact ⟨0, Nat.zero_le _, rfl, fun j' hj' => by omega⟩
            case round =>
             obtain ⟨j, hj, rfl, hbs⟩ := hrel
             have HJ := Lib.hid hbs
             clear hbs
             by_cases hjq : j < q
             · have dj : decide (j < q) = true := decide_eq_true hjq
               have hjl : j < (T.getD i []).length := by rw [← HQ.out]; exact hjq
               have hcn := hcl.out j hjq
               obtain ⟨n, hn⟩ : ∃ n, n = (T.getD i []).getD j 0 := ⟨_, rfl⟩
               rw [← hn] at hcn
               have HN : Hid ((T.getD i []).getD j 0 = n) := hn.symm
               clear hn
               obtain ⟨m, hm⟩ : ∃ m, (T.getD i []).getD (j - 1) 0 = m := ⟨_, rfl⟩
               have HP := Lib.hid hm
               obtain ⟨u, hu⟩ : ∃ u, (T.getD (i - 1) []).getD j 0 = u := ⟨_, rfl⟩
               have HU := Lib.hid hu
               have hcp : 0 < j → w.cell? ⟨g, p + (j - 1), none⟩ = some (.int .i64 m) := fun h0 => by rw [← hm]; exact hcl.out (j - 1) (by omega)
               have HCP := Lib.hid hcp
               have hcu : 0 < i → ∃ g1 p1, A1 = some ⟨g1, p1, none⟩ ∧ w.cell? ⟨g1, p1 + j, none⟩ = some (.int .i64 u) := fun h0 => by
                obtain ⟨_, hl1, hs1⟩ := HUP.out h0
                have hq1 := hlo.out h0
                obtain ⟨g1, p1, e, _⟩ := hs1.addr (by omega)
                subst e
                exact ⟨g1, p1, rfl, by rw [← hu]; exact getD_cell hs1 (by omega)⟩
               have HCU := Lib.hid hcu
               clear hm hu hcp hcu
               by_cases c1 : n < 1
               · have e1 : decide (n < 1) = true := decide_eq_true c1
                 have hno : Hid (¬ FillOk T) := fun hh => by
                  have hb := (hh.row hit).2.2 j hjl
                  obtain ⟨⟨h1, h2⟩, h3, h4⟩ := hb
                  rw [HN.out] at h1 h2
                  first | omega | (have h5 := h3 (by omega); rw [HN.out, HP.out] at h5; omega) | (have h5 := h4 (by omega); rw [HN.out, HU.out] at h5; omega)
                 go_wp2
                 go_ret
                 exact ⟨⟨1, rfl, by simp, fun hh => absurd hh hno.out, (by first | exact fun _ => rfl | exact fun _ => (if_pos hb40.out).symm)⟩, rfl⟩
               · have e1 : decide (n < 1) = false := decide_eq_false c1
                 by_cases c2 : 99 < n
                 · have e2 : decide (99 < n) = true := decide_eq_true c2
                   have hno : Hid (¬ FillOk T) := fun hh => by
                    have hb := (hh.row hit).2.2 j hjl
                    obtain ⟨⟨h1, h2⟩, h3, h4⟩ := hb
                    rw [HN.out] at h1 h2
                    first | omega | (have h5 := h3 (by omega); rw [HN.out, HP.out] at h5; omega) | (have h5 := h4 (by omega); rw [HN.out, HU.out] at h5; omega)
                   go_wp2
                   go_ret
                   exact ⟨⟨1, rfl, by simp, fun hh => absurd hh hno.out, (by first | exact fun _ => rfl | exact fun _ => (if_pos hb40.out).symm)⟩, rfl⟩
                 · have e2 : decide (99 < n) = false := decide_eq_false c2
                   by_cases h0 : 0 < j
                   · have e0 : decide ((0 : Int) < (j : Int)) = true := decide_eq_true (by omega)
                     have hcp := HCP.out h0
                     by_cases c3 : n < m
                     · have e3 : decide (n < m) = true := decide_eq_true c3
                       have hno : Hid (¬ FillOk T) := fun hh => by
                        have hb := (hh.row hit).2.2 j hjl
                        obtain ⟨⟨h1, h2⟩, h3, h4⟩ := hb
                        rw [HN.out] at h1 h2
                        first | omega | (have h5 := h3 (by omega); rw [HN.out, HP.out] at h5; omega) | (have h5 := h4 (by omega); rw [HN.out, HU.out] at h5; omega)
                       go_wp2
                       go_ret
                       exact ⟨⟨1, rfl, by simp, fun hh => absurd hh hno.out, (by first | exact fun _ => rfl | exact fun _ => (if_pos hb40.out).symm)⟩, rfl⟩
                     · have e3 : decide (n < m) = false := decide_eq_false c3
                       by_cases hi0 : 0 < i
                       · have ei : decide ((0 : Int) < (i : Int)) = true := decide_eq_true (by omega)
                         have hc1 := (HUP.out hi0).1
                         have hq1 := hlo.out hi0
                         obtain ⟨g1, p1, rfl, hcu⟩ := HCU.out hi0
                         by_cases c4 : n ≤ u
                         · have e4 : decide (n ≤ u) = true := decide_eq_true c4
                           have hno : Hid (¬ FillOk T) := fun hh => by
                            have hb := (hh.row hit).2.2 j hjl
                            obtain ⟨⟨h1, h2⟩, h3, h4⟩ := hb
                            rw [HN.out] at h1 h2
                            first | omega | (have h5 := h3 (by omega); rw [HN.out, HP.out] at h5; omega) | (have h5 := h4 (by omega); rw [HN.out, HU.out] at h5; omega)
                           go_wp2
                           go_ret
                           exact ⟨⟨1, rfl, by simp, fun hh => absurd hh hno.out, (by first | exact fun _ => rfl | exact fun _ => (if_pos hb40.out).symm)⟩, rfl⟩
                         · have e4 : decide (n ≤ u) = false := decide_eq_false c4
                           have hbx : Hid (BoxOk T i j) := ⟨⟨by rw [HN.out]; omega, by rw [HN.out]; omega⟩, fun h0 => by first | omega | (rw [HN.out, HP.out]; omega), fun h0 => by first | omega | (rw [HN.out, HU.out]; omega)⟩
                           go_wp2
                           go_round
                           case rel => exact ⟨j + 1, by omega, rfl, fun j' hj' => by
                            by_cases e : j' = j
                            · rw [e]; exact hbx.out
                            · exact HJ.out j' (by omega)⟩
                           case measure => simp [intOf]; omega
                       · have ei : decide ((0 : Int) < (i : Int)) = false := decide_eq_false (by omega)
                         have hbx : Hid (BoxOk T i j) := ⟨⟨by rw [HN.out]; omega, by rw [HN.out]; omega⟩, fun h0 => by first | omega | (rw [HN.out, HP.out]; omega), fun h0 => by first | omega | (rw [HN.out, HU.out]; omega)⟩
                         go_wp2
                         go_round
                         case rel => exact ⟨j + 1, by omega, rfl, fun j' hj' => by
                          by_cases e : j' = j
                          · rw [e]; exact hbx.out
                          · exact HJ.out j' (by omega)⟩
                         case measure => simp [intOf]; omega
                   · have e0 : decide ((0 : Int) < (j : Int)) = false := decide_eq_false (by omega)
                     by_cases hi0 : 0 < i
                     · have ei : decide ((0 : Int) < (i : Int)) = true := decide_eq_true (by omega)
                       have hc1 := (HUP.out hi0).1
                       have hq1 := hlo.out hi0
                       obtain ⟨g1, p1, rfl, hcu⟩ := HCU.out hi0
                       by_cases c4 : n ≤ u
                       · have e4 : decide (n ≤ u) = true := decide_eq_true c4
                         have hno : Hid (¬ FillOk T) := fun hh => by
                          have hb := (hh.row hit).2.2 j hjl
                          obtain ⟨⟨h1, h2⟩, h3, h4⟩ := hb
                          rw [HN.out] at h1 h2
                          first | omega | (have h5 := h3 (by omega); rw [HN.out, HP.out] at h5; omega) | (have h5 := h4 (by omega); rw [HN.out, HU.out] at h5; omega)
                         go_wp2
                         go_ret
                         exact ⟨⟨1, rfl, by simp, fun hh => absurd hh hno.out, (by first | exact fun _ => rfl | exact fun _ => (if_pos hb40.out).symm)⟩, rfl⟩
                       · have e4 : decide (n ≤ u) = false := decide_eq_false c4
                         have hbx : Hid (BoxOk T i j) := ⟨⟨by rw [HN.out]; omega, by rw [HN.out]; omega⟩, fun h0 => by first | omega | (rw [HN.out, HP.out]; omega), fun h0 => by first | omega | (rw [HN.out, HU.out]; omega)⟩
                         go_wp2
                         go_round
                         case rel => exact ⟨j + 1, by omega, rfl, fun j' hj' => by
                          by_cases e : j' = j
                          · rw [e]; exact hbx.out
                          · exact HJ.out j' (by omega)⟩
                         case measure => simp [intOf]; omega
                     · have ei : decide ((0 : Int) < (i : Int)) = false := decide_eq_false (by omega)
                       have hbx : Hid (BoxOk T i j) := ⟨⟨by rw [HN.out]; omega, by rw [HN.out]; omega⟩, fun h0 => by first | omega | (rw [HN.out, HP.out]; omega), fun h0 => by first | omega | (rw [HN.out, HU.out]; omega)⟩
                       go_wp2
                       go_round
                       case rel => exact ⟨j + 1, by omega, rfl, fun j' hj' => by
                        by_cases e : j' = j
                        · rw [e]; exact hbx.out
                        · exact HJ.out j' (by omega)⟩
                       case measure => simp [intOf]; omega
             · have dj : decide (j < q) = false := decide_eq_false hjq
               have hro : Hid (RowOk T i) := ⟨by rw [← HQ.out]; exact hq0, fun h0 => by
                have h1 := hlo.out h0
                have h2 := (HUP.out h0).2.1
                rw [← HQ.out, ← h2]; exact h1, fun j' hj' => by
                rw [← HQ.out] at hj'
                exact HJ.out j' (by omega)⟩
               go_wp2
               go_round
               case rel => exact ⟨i + 1, by omega, rfl, fun i' hi' => by
                by_cases e : i' = i
                · rw [e]; exact hro.out
                · exact HR.out i' (by omega)⟩
               case measure => simp [intOf]; omega
     · have di : decide (i < T.length) = false := decide_eq_false hit
       have hfin : Hid (FillOk T) := fill_of hb40.out (fun i' hi' => HR.out i' (by omega))
       go_wp2
       go_ret
       exact ⟨⟨0, rfl, fun _ => hfin.out, fun _ => rfl, fun h => absurd rfl h⟩, rfl⟩
theorem fcheck_any (A : Option Addr) (cap : Nat) (T : List (List Int)) (w : World) (hT : T.length ≤ 9223372036854775807) (h : SR w w.heap.size A T) :
 Calls Tryz.prog 172 #[.slice A T.length cap] w fun e w' => (∃ k : Int, e = .returned (.int .i64 k) ∧ (k = 0 → FillOk T) ∧ (FillOk T → k = 0)) ∧ w = w' :=
 (fcheck_code A cap T w hT h).mono (fun _ _ ⟨⟨k, a, b, c, _⟩, d⟩ => ⟨⟨k, a, b, c⟩, d⟩)
end
end Go.Proofs.YtpmkdihencepnaaGreatDoor
