/- Part of the proof. -/
import Derived.Lib.SplitLaws
import Derived.Maps.OwnSet
import Derived.Maps.Views
import Derived.Maps.Keyed
import Derived.Sort.KeysCollected
import Derived.StringKeys
import Derived.Shelf.SlMaps.Clone
import Derived.Ground.SlmcProg
import Derived.Test.YtpmkdihencepnaaGreatDoorMk44
namespace Go.Proofs.YtpmkdihencepnaaGreatDoor
section
open Go.RowKit Go.Proofs
open Go.Shelf Go.Lib
theorem few1 (l : List Int) (h : Few l) : FewT [l] := ⟨by simp, fun r hr => by rw [List.mem_singleton.1 hr]; exact h⟩
theorem fewNil : FewT [] := ⟨by simp, fun r hr => by cases hr⟩
theorem oneF_few {r : List Int × Int} (h : Few r.1) : FewT (oneF r).1 := by
 unfold oneF
 split
 · exact fewNil
 · split
   · exact fewNil
   · exact few1 _ h
theorem ofF_few {F : List Int → List Int × Int} (h : ∀ p, Few (F p).1) : ∀ T, FewT (ofF F T).1
 | [] => oneF_few (h _)
 | [_] => oneF_few (h _)
 | _ :: _ :: _ => fewNil
theorem madF_few (b : Bool) (T : Rws) : FewT (madF b T).1 := by
 unfold madF mkF
 split
 · exact fewNil
 · split
   · exact makQ_few _
   · exact makP_few _
theorem hokT_few (T : Rws) : FewT (hokT T).1 := by
 unfold hokT
 split
 · exact fewNil
 · exact hokH.few _
theorem timP_few (T U : Rws) : FewT (timP T U).1 := by
 unfold timP
 split
 · exact fewNil
 · exact oneF_few (tim_few _ _)
theorem bakP_few (T U : Rws) : FewT (bakP T U).1 := oneF_few (bakF_few T U)
theorem tab_few {s : ByteArray} {F : Rws → Rws × Int} (h : tabOf s = some F) : ∀ T, FewT (F T).1 := by
 unfold tabOf at h
 repeat' (first | (split at h) | (cases h; intro T; first | exact oneF_few (shpW.few T) | exact oneF_few (wrdW.few T) | exact stdT.few T | exact turT.few T | exact recT.few T | exact evaT.few T | exact proT.few T | exact demT.few T | exact triT.few T | exact ftrT.few T | exact gyrT.few T) | cases h)
theorem ite_some {α : Type} {p : Prop} [Decidable p] {a F : α} {o : Option α} (P : α → Prop) (h : (if p then some a else o) = some F) (ha : P a) (ho : o = some F → P F) : P F := by
 by_cases c : p
 · rw [if_pos c] at h; cases h; exact ha
 · rw [if_neg c] at h; exact ho h
theorem way_few {s : ByteArray} {F : Rws → Rws × Int} (h : wayOf s = some F) : ∀ T, FewT (F T).1 := by
 unfold wayOf at h
 refine ite_some (fun F => ∀ T, FewT (F T).1) h (ofF_few conL.few) fun h => ?_
 refine ite_some (fun F => ∀ T, FewT (F T).1) h (ofF_few mrgL.few) fun h => ?_
 refine ite_some (fun F => ∀ T, FewT (F T).1) h (ofF_few splL.few) fun h => ?_
 refine ite_some (fun F => ∀ T, FewT (F T).1) h (ofF_few invL.few) fun h => ?_
 refine ite_some (fun F => ∀ T, FewT (F T).1) h (ofF_few cdeL.few) fun h => ?_
 refine ite_some (fun F => ∀ T, FewT (F T).1) h (ofF_few frmL.few) fun h => ?_
 refine ite_some (fun F => ∀ T, FewT (F T).1) h (ofF_few fldL.few) fun h => ?_
 refine ite_some (fun F => ∀ T, FewT (F T).1) h (ofF_few unfL.few) fun h => ?_
 refine ite_some (fun F => ∀ T, FewT (F T).1) h (ofF_few rndL.few) fun h => ?_
 refine ite_some (fun F => ∀ T, FewT (F T).1) h (ofF_few unrL.few) fun h => ?_
 refine ite_some (fun F => ∀ T, FewT (F T).1) h (ofF_few lngL.few) fun h => ?_
 refine ite_some (fun F => ∀ T, FewT (F T).1) h (madF_few _) fun h => ?_
 refine ite_some (fun F => ∀ T, FewT (F T).1) h (madF_few _) fun h => ?_
 refine ite_some (fun F => ∀ T, FewT (F T).1) h (hokT_few) fun h => ?_
 exact tab_few h
theorem pr_few {s : ByteArray} {F : Rws → Rws → Rws × Int} (h : prOf s = some F) : ∀ T U, FewT (F T U).1 := by
 unfold prOf at h
 repeat' (first | (split at h) | (cases h; first | exact timP_few | exact bakP_few | exact meeP.few | exact joiP.few) | cases h)
theorem num_few {s : Str} {n : Int} (h : numF s = some n) : -1000000 ≤ n ∧ n ≤ 1000000 := by
 unfold numF at h
 split at h
 · split at h
   · rename_i g; cases h; omega
   · cases h
 · cases h
theorem mapM_mem {α β : Type} (f : α → Option β) : ∀ (xs : List α) (l : List β), xs.mapM f = some l → ∀ y ∈ l, ∃ x ∈ xs, f x = some y
 | [], l, h, y, hy => by simp at h; subst h; cases hy
 | a :: xs, l, h, y, hy => by
  cases h1 : f a with
  | none => simp [h1] at h
  | some b =>
   cases h2 : xs.mapM f with
   | none => simp [h1, h2] at h
   | some l2 =>
    simp [h1, h2] at h
    subst h
    rcases List.mem_cons.1 hy with rfl | hy
    · exact ⟨a, by simp, h1⟩
    · obtain ⟨x, hx, e⟩ := mapM_mem f xs l2 h2 y hy
      exact ⟨x, List.mem_cons_of_mem _ hx, e⟩
theorem row_few {s : Str} {r : List Int} (h : rowF s = some r) : Few r := by
 unfold rowF at h
 split at h
 · rename_i g
   exact ⟨by rw [mapM_len _ _ _ h]; omega, fun x hx => by obtain ⟨y, _, e⟩ := mapM_mem _ _ _ h x hx; exact num_few e⟩
 · cases h
theorem thg_few {s : Str} {T : Rws} (h : thgF s = some T) : FewT T := by
 unfold thgF at h
 split at h
 · cases h; exact fewNil
 · split at h
   · rename_i g
     exact ⟨by rw [mapM_len _ _ _ h]; omega, fun x hx => by obtain ⟨y, _, e⟩ := mapM_mem _ _ _ h x hx; exact row_few e⟩
   · cases h
theorem index_one (c : UInt8) : ∀ l : Str, Lib.index l [c] = Lib.indexByte l c
 | [] => by simp [Lib.index, Lib.indexByte]
 | x :: l => by
  have ih := index_one c l
  unfold Lib.index Lib.indexByte
  by_cases e : x = c
  · subst e; simp [List.isPrefixOf]
  · have e2 : (x == c) = false := by simpa using e
    have e3 : (c == x) = false := by simpa using fun h => e h.symm
    simp [e2, e3, ih, List.isPrefixOf]
theorem split_spl (c : UInt8) : ∀ (k : Nat) (s : Str), s.length ≤ k → Lib.splitB ⟨#[c]⟩ 0 (Lib.countB ⟨s.toArray⟩ ⟨#[c]⟩) ⟨s.toArray⟩ = (spl c s).map (fun x => (⟨x.toArray⟩ : ByteArray)) ∧ Lib.countB ⟨s.toArray⟩ ⟨#[c]⟩ + 1 = (spl c s).length := by
 intro k
 induction k with
 | zero =>
  intro s hs
  obtain rfl : s = [] := List.eq_nil_of_length_eq_zero (by omega)
  have hi : Lib.indexB ⟨#[]⟩ ⟨#[c]⟩ = -1 := index_one c []
  rw [Lib.countB_miss _ _ hi]
  exact ⟨rfl, rfl⟩
 | succ k ih =>
  intro s hs
  have hx : Lib.indexB ⟨s.toArray⟩ ⟨#[c]⟩ = Lib.indexByte s c := by show Lib.index s.toArray.toList [c] = _; rw [List.toList_toArray]; exact index_one c s
  by_cases h : Lib.indexByte s c = -1
  · rw [Lib.countB_miss _ _ (hx.trans h), spl_none c s h]
    exact ⟨rfl, rfl⟩
  · have hge := Lib.indexByte_ge s c
    obtain ⟨i, hi⟩ : ∃ i : Nat, Lib.indexByte s c = (i : Int) := ⟨(Lib.indexByte s c).toNat, by omega⟩
    obtain ⟨hil, e1⟩ := spl_some c s i hi
    have hsz : (⟨#[c]⟩ : ByteArray).size = 1 := rfl
    have hss : (⟨s.toArray⟩ : ByteArray).size = s.length := by simp [ByteArray.size]
    obtain ⟨a1, a2⟩ := ih (s.drop (i + 1)) (by rw [List.length_drop]; omega)
    rw [Lib.countB_hit _ _ i (by rw [hsz]; exact Nat.le_refl _) (hx.trans hi), Nat.add_comm 1, Lib.splitB_hit _ _ _ _ i (hx.trans hi), hsz, hss, ex_drop, Nat.add_zero, ex_take, a1, e1]
    exact ⟨rfl, by rw [List.length_cons, ← a2]⟩
theorem split_c (s : Str) (c : UInt8) (w : World) (hs : s.length < 4294967281) (he : Env w) :
 Calls Tryz.prog 50 #[sv s, .string ⟨#[c]⟩] w fun e w' => e = .returned (.slice (some ⟨w.heap.size, 0, none⟩) (spl c s).length (spl c s).length) ∧ w' = w.alloc (.cells ((spl c s).map sv).toArray 9) := by
 obtain ⟨m, hm⟩ := he.ml
 obtain ⟨a1, a2⟩ := split_spl c s.length s (Nat.le_refl _)
 refine (Any.strings_Split Tryz.lays146 (by kernel_rfl) ⟨s.toArray⟩ ⟨#[c]⟩ m w (by simpa [ByteArray.size] using hs) hm (Nat.le_refl 1)).mono ?_
 rintro e w' ⟨rfl, rfl⟩
 rw [a1, a2, List.map_map]
 exact ⟨rfl, rfl⟩
def RV (v : Value) : Option (DataW Value × List MemPlace) := some (.held v, [])
abbrev kS (s : Str) : Lit := .string s
structure Fx (X : Nat → Prop) (w w' : World) : Prop where
 size : w.heap.size ≤ w'.heap.size
 block : ∀ k, k < w.heap.size → ¬ X k → w'.heap[k]? = w.heap[k]?
 io : w'.os = w.os ∧ w'.tape = w.tape ∧ w'.output = w.output
theorem Fx.refl (X : Nat → Prop) (w : World) : Fx X w w := ⟨Nat.le_refl _, fun _ _ _ => rfl, rfl, rfl, rfl⟩
theorem Fx.trans {X : Nat → Prop} {a b c : World} (h : Fx X a b) (k : Fx X b c) : Fx X a c := ⟨Nat.le_trans h.1 k.1, fun i h1 h2 => (k.2 i (Nat.lt_of_lt_of_le h1 h.1) h2).trans (h.2 i h1 h2), k.io.1.trans h.io.1, k.io.2.1.trans h.io.2.1, k.io.2.2.trans h.io.2.2⟩
theorem Fx.of_below {X : Nat → Prop} {w w' : World} (h : Below w.heap.size w w') : Fx X w w' := ⟨h.size, fun k hk _ => h.block k hk, h.os, h.tape, h.output⟩
theorem Fx.wide {X Y : Nat → Prop} {w w' : World} (h : Fx X w w') (hXY : ∀ k, k < w.heap.size → X k → Y k) : Fx Y w w' := ⟨h.1, fun k h1 h2 => h.2 k h1 (fun h3 => h2 (hXY k h1 h3)), h.io⟩
theorem lt_of_some {w : World} {k : Nat} {o : Obj} (h : w.heap[k]? = some o) : k < w.heap.size := (Array.getElem?_eq_some_iff.1 h).1
theorem own_fr {X : Nat → Prop} {w w' : World} {B e size n : Nat} {v : Value} {xs : List Value} (h : w.ownsRow B e size v n xs) (hf : Fx X w w') (hX : ∀ k, v.ownBlock = some k → ¬ X k) : w'.ownsRow B e size v n xs := by
 refine ⟨h.1, ?_⟩
 rcases h.2 with hn | ⟨g, cap, cur, rfl, hg, hh, rest⟩
 · exact .inl hn
 · exact .inr ⟨g, cap, cur, rfl, hg, (hf.2 g (lt_of_some hh) (hX g rfl)).trans hh, rest⟩
def Bare (X : Nat → Prop) (w : World) : Prop := ∀ k, X k → ∃ cs t s, w.heap[k]? = some (.cells cs t s) ∧ t ≠ 65 ∧ t ≠ 3
theorem own_bare {X : Nat → Prop} {w : World} {B e size n : Nat} {v : Value} {xs : List Value} (h : w.ownsRow B e size v n xs) (he : e = 65 ∨ e = 3) (hX : Bare X w) : ∀ k, v.ownBlock = some k → ¬ X k := by
 intro k h1 h2
 obtain ⟨cs, t, s, h3, h4, h5⟩ := hX k h2
 rcases h.2 with ⟨rfl, _⟩ | ⟨g, cap, cur, rfl, _, hh, _⟩
 · simp [Value.ownBlock] at h1
 · obtain rfl : g = k := by simpa [Value.ownBlock] using h1
   have := hh.symm.trans h3
   simp at this
   rcases he with rfl | rfl
   · exact h4 this.2.1.symm
   · exact h5 this.2.1.symm
theorem OwnR.fr {X : Nat → Prop} {w w' : World} {B : Nat} {A : Option Addr} {c : Nat} {rows : Rws} (h : OwnR w B A c rows) (hf : Fx X w w') (hX : Bare X w) : OwnR w' B A c rows := by
 obtain ⟨hs, hm⟩ := h
 exact ⟨hs, hm.len, own_fr hm.out hf (own_bare hm.out (.inl rfl) hX), fun r hr => own_fr (hm.inn r hr) hf (own_bare (hm.inn r hr) (.inr rfl) hX), hm.far, hm.top⟩
def TM (w : World) (b n : Nat) (th : Thg) : Prop :=
 ∃ D, w.ownsMap Tryz.prog 9 RV b n D ∧ (∀ s, Maps.has D (kS s) = (th s).isSome) ∧ ∀ s T, th s = some T → FewT T ∧ ∃ A c, (∀ z, D.atKey (kS s) z = .held (.slice A T.length c)) ∧ OwnR w 0 A c T
theorem TM.mono {w : World} {b n n' : Nat} {th : Thg} (h : TM w b n th) (hn : n ≤ n') : TM w b n' th := let ⟨D, h1, h2⟩ := h; ⟨D, h1.mono hn, h2⟩
theorem TM.fr {X : Nat → Prop} {w w' : World} {b n : Nat} {th : Thg} (h : TM w b n th) (hf : Fx X w w') (hX : Bare X w) : TM w' b n th := by
 obtain ⟨D, ⟨es, clock, hb, F, hs, hD⟩, h2, h3⟩ := h
 refine ⟨D, ⟨es, clock, (hf.2 b (lt_of_some hb) fun h4 => ?_).trans hb, F, hs, hD⟩, h2, fun s T e => ?_⟩
 · obtain ⟨cs, t, s, h5, _⟩ := hX b h4
   rw [hb] at h5; cases h5
 · obtain ⟨hf', A, c, h4, h5⟩ := h3 s T e
   exact ⟨hf', A, c, h4, h5.fr hf hX⟩
theorem TM.below {w w' : World} {b n : Nat} {th : Thg} (h : TM w b n th) (hb : Below w.heap.size w w') : TM w' b n th :=
 h.fr (X := fun _ => False) (Fx.of_below hb) (fun _ hk => hk.elim)
theorem TM.few {w : World} {b n : Nat} {th : Thg} (h : TM w b n th) {s : Str} {T : Rws} (e : th s = some T) : FewT T := by
 obtain ⟨D, _, _, h3⟩ := h
 exact (h3 s T e).1
theorem k9 : Maps.Keyed Tryz.prog 9 := Maps.string_keyed Tryz.underlying9
theorem key9 {s : Str} (h : s.length ≤ 1000000) : keyOf Tryz.prog 9 (sv s) = some (kS s) := by
 have := Go.WideMaps.keyOf_string_mk (P := Tryz.prog) (k := 9) Tryz.underlying9 (s := ⟨s.toArray⟩) (by simp [ByteArray.size]; unfold maxLen; omega)
 simpa using this
theorem TM.look {w : World} {b n : Nat} {th : Thg} (h : TM w b n th) {ops : Array Oper} {rest : List Oper} {o : Oper} {a : Act} {Q : Exit → Act → World → Prop} (hg : o.guard = none) (m x : Operand) (hop : o.op = Op.lookup 39 m x true) (hm : a.eval m = .map (some b)) {s : Str} (hs : s.length ≤ 1000000) (hx : a.eval x = sv s)
 (hK : ∀ A c, (∀ T, th s = some T → FewT T ∧ OwnR w 0 A c T) → wpList Tryz.prog ops Q rest (a.put o.dst (.tuple #[.slice A ((th s).getD []).length c, .bool (th s).isSome])) w) :
 wpList Tryz.prog ops Q (o :: rest) a w := by
 obtain ⟨D, h1, h2, h3⟩ := h
 refine wpList_lookup_own_ok w hg m x 39 hop 9 48 k9 Tryz.underlying39 RV (Tryz.zeroValue48 w) (.held (.slice none 0 0)) [] rfl b n D hm h1 (sv s) (kS s) hx (key9 hs) (fun v ps hv => ?_)
 have hv' : v = .slice none 0 0 ∧ th s = none ∨ ∃ T A c, th s = some T ∧ v = .slice A T.length c ∧ FewT T ∧ OwnR w 0 A c T := by
  unfold RV at hv
  have e : DataW.held v = D.atKey (kS s) (.held (.slice none 0 0)) := by injection hv with hv; exact congrArg Prod.fst hv
  cases ht : th s with
  | none =>
   left
   rw [Maps.atKey_of_not_has (by rw [h2 s, ht]; rfl)] at e
   injection e with e
   exact ⟨e, rfl⟩
  | some T =>
   right
   obtain ⟨hf, A, c, h4, h5⟩ := h3 s T ht
   rw [h4] at e
   injection e with e
   exact ⟨T, A, c, rfl, e, hf, h5⟩
 rw [h2 s]
 rcases hv' with ⟨rfl, ht⟩ | ⟨T, A, c, ht, rfl, h4, h5⟩
 · have := hK none 0 (fun T e => by rw [ht] at e; cases e)
   rw [ht] at this ⊢
   exact this
 · have := hK A c (fun T' e => by rw [ht] at e; cases e; exact ⟨h4, h5⟩)
   rw [ht] at this ⊢
   exact this
theorem TM.put {w : World} {b n : Nat} {th : Thg} (h : TM w b n th) (hn : n ≤ 1000000) {ops : Array Oper} {rest : List Oper} {o : Oper} {a : Act} {Q : Exit → Act → World → Prop} (hg : o.guard = none) (m x v : Operand) (hop : o.op = Op.mapUpdate 39 m x v) (hm : a.eval m = .map (some b)) {s : Str} (hs : s.length ≤ 1000000) (hx : a.eval x = sv s)
 {T : Rws} {A : Option Addr} {c : Nat} (hv : a.eval v = .slice A T.length c) (hf : FewT T) (ho : OwnR w 0 A c T)
 (hK : ∀ w', TM w' b (n + 1) (updT th s (some T)) → Fx (fun k => k = b) w w' → wpList Tryz.prog ops Q rest (a.put o.dst undef) w') :
 wpList Tryz.prog ops Q (o :: rest) a w := by
 obtain ⟨D, h1, h2, h3⟩ := h
 refine wpList_mapUpdate_own w hg m x v 39 hop 9 48 k9 Tryz.underlying39 RV b n D hm h1 (by unfold maxLen; omega) (sv s) (.slice A T.length c) (kS s) hx hv (key9 hs) (.held (.slice A T.length c)) [] rfl (fun w' g1 g2 => ?_)
 have hfr : Fx (fun k => k = b) w w' := ⟨g2.size, fun k h1 h2 => g2.block k h1 (fun e => h2 (by cases e; rfl)), g2.os, g2.tape, g2.output⟩
 have hbb : ∀ {B e size n : Nat} {v : Value} {xs : List Value}, w.ownsRow B e size v n xs → ∀ k, v.ownBlock = some k → ¬ k = b := by
  intro B e size n v xs h k hk e'
  subst e'
  obtain ⟨es, clock, hb, _⟩ := h1
  rcases h.2 with ⟨rfl, _⟩ | ⟨g, cap, cur, rfl, _, hh, _⟩
  · simp [Value.ownBlock] at hk
  · obtain rfl : g = k := by simpa [Value.ownBlock] using hk
    rw [hb] at hh; cases hh
 have hR : ∀ {A c T}, OwnR w 0 A c T → OwnR w' 0 A c T := fun ⟨hs, hm⟩ => ⟨hs, hm.len, own_fr hm.out hfr (hbb hm.out), fun r hr => own_fr (hm.inn r hr) hfr (hbb (hm.inn r hr)), hm.far, hm.top⟩
 refine hK w' ⟨_, g1, fun t => ?_, fun t U e => ?_⟩ hfr
 · by_cases e : t = s
   · subst e
     rw [Maps.has_put_same h1.isMap (k9.key (key9 hs))]
     simp [updT]
   · rw [Maps.has_put_other (fun e' => e (by injection e')), h2 t]
     simp [updT, e]
 · by_cases e2 : t = s
   · subst e2
     simp [updT] at e
     subst e
     exact ⟨hf, A, c, fun z => Maps.atKey_put_same h1.isMap (k9.key (key9 hs)) _ z, hR ho⟩
   · simp [updT, e2] at e
     obtain ⟨hf', A', c', h4, h5⟩ := h3 t U e
     exact ⟨hf', A', c', fun z => by rw [Maps.atKey_put_other (fun e' => e2 (by injection e'))]; exact h4 z, hR h5⟩
end
end Go.Proofs.YtpmkdihencepnaaGreatDoor
namespace Go.Proofs
open Go.Shelf
shelf_lay_g SlLaysW.n5 Slmc 5 at Tryz 30 as Tryz.cloneD
end Go.Proofs
namespace Go.Proofs.YtpmkdihencepnaaGreatDoor
open Go.RowKit Go.Proofs
open Go.Shelf Go.Lib
theorem TM.del {w : World} {b n : Nat} {th : Thg} (h : TM w b n th) {ops : Array Oper} {rest : List Oper} {o : Oper} {a : Act} {Q : Exit → Act → World → Prop} (hg : o.guard = none) (m x : Operand) (hop : o.op = Op.call { callee := Callee.builtin Builtin.delete, args := #[m, x], argTypes := #[39, 9] }) (hm : a.eval m = .map (some b)) {s : Str} (hs : s.length ≤ 1000000) (hx : a.eval x = sv s)
 (hK : ∀ w', TM w' b n (updT th s none) → Fx (fun k => k = b) w w' → wpList Tryz.prog ops Q rest (a.put o.dst (.tuple #[])) w') :
 wpList Tryz.prog ops Q (o :: rest) a w := by
 obtain ⟨D, h1, h2, h3⟩ := h
 refine wpList_delete_own w hg m x 39 9 hop 48 k9 Tryz.underlying39 RV b n D hm h1 (sv s) (kS s) hx (key9 hs) (fun w' g1 g2 => ?_)
 have g3 := g2.grown
 have hfr : Fx (fun k => k = b) w w' := ⟨g3.size, fun k h1 h2 => g3.block k h1 (fun e => h2 (by cases e; rfl)), g3.os, g3.tape, g3.output⟩
 have hbb : ∀ {B e size n : Nat} {v : Value} {xs : List Value}, w.ownsRow B e size v n xs → ∀ k, v.ownBlock = some k → ¬ k = b := by
  intro B e size n v xs h k hk e'
  subst e'
  obtain ⟨es, clock, hb, _⟩ := h1
  rcases h.2 with ⟨rfl, _⟩ | ⟨g, cap, cur, rfl, _, hh, _⟩
  · simp [Value.ownBlock] at hk
  · obtain rfl : g = k := by simpa [Value.ownBlock] using hk
    rw [hb] at hh; cases hh
 have hR : ∀ {A c T}, OwnR w 0 A c T → OwnR w' 0 A c T := fun ⟨hs, hm⟩ => ⟨hs, hm.len, own_fr hm.out hfr (hbb hm.out), fun r hr => own_fr (hm.inn r hr) hfr (hbb (hm.inn r hr)), hm.far, hm.top⟩
 refine hK w' ⟨_, g1, fun t => ?_, fun t U e => ?_⟩ hfr
 · by_cases e : t = s
   · subst e
     rw [Maps.has_del_same]
     simp [updT]
   · rw [Maps.has_del_other (fun e' => e (by injection e')), h2 t]
     simp [updT, e]
 · by_cases e2 : t = s
   · subst e2
     simp [updT] at e
   · simp [updT, e2] at e
     obtain ⟨hf', A', c', h4, h5⟩ := h3 t U e
     exact ⟨hf', A', c', fun z => by rw [Maps.atKey_del_other (fun e' => e2 (by injection e'))]; exact h4 z, hR h5⟩
theorem TM.clone {w : World} {b n : Nat} {th : Thg} (h : TM w b n th) :
 Calls Tryz.prog 30 #[.map (some b)] w fun e w' => e = .returned (.map (some w.heap.size)) ∧ TM w' w.heap.size n th ∧ Below w.heap.size w w' := by
 have h0 := h
 obtain ⟨D, h1, h2, h3⟩ := h
 refine (show Calls Tryz.prog 30 _ _ _ from AnyW.maps_Clone_owns Tryz.cloneD 9 RV b n D w h1).mono ?_
 rintro e w' ⟨rfl, h4, _, h5⟩
 exact ⟨rfl, ⟨D, h4, h2, fun s T e => by obtain ⟨g1, A, c, g2, g3⟩ := h3 s T e; exact ⟨g1, A, c, g2, g3.fr (X := fun _ => False) (Fx.of_below h5) (fun _ hk => hk.elim)⟩⟩, h5⟩
theorem TM.keys {w : World} {b n : Nat} {th : Thg} {D : DataW Value} (h1 : w.ownsMap Tryz.prog 9 RV b n D) (h2 : ∀ s, Maps.has D (kS s) = (th s).isSome) : (strKeys D).Nodup ∧ (∀ k, k ∈ strKeys D ↔ th k ≠ none) ∧ (strKeys D).length = Maps.size D := by
 obtain ⟨es, hD, hpw, _⟩ := h1.entries k9
 obtain ⟨es', hD', hko⟩ := h1.keysOf
 obtain rfl : es = es' := by rw [hD] at hD'; simpa using hD'
 have hk : ∀ p ∈ es, ∃ x, p.1 = .string x := fun p hp => by obtain ⟨v, hv⟩ := hko p hp; obtain ⟨x, _, hx, _⟩ := Maps.keyOf_str Tryz.underlying9 hv; exact ⟨x, hx⟩
 subst hD
 refine ⟨?_, fun k => ?_, by simp [strKeys, Maps.size]⟩
 · show (es.map fun p => strOf p.1).Nodup
   refine List.pairwise_map.2 (hpw.imp_of_mem fun {p q} hp' hq' hne e => hne ?_)
   obtain ⟨a, ha⟩ := hk p hp'
   obtain ⟨b, hb⟩ := hk q hq'
   rw [ha, hb] at e ⊢
   exact congrArg _ e
 · have := h2 k
   rw [Maps.has_eq] at this
   show k ∈ es.map (fun p => strOf p.1) ↔ _
   rw [List.mem_map]
   constructor
   · rintro ⟨p, hp, rfl⟩
     obtain ⟨x, hx⟩ := hk p hp
     have h3 : es.any (fun p' => p'.1.sameKey (kS (strOf p.1))) = true := List.any_eq_true.2 ⟨p, hp, by rw [hx]; simp [Lit.sameKey, strOf]⟩
     rw [h3] at this
     intro e
     rw [e] at this; cases this
   · intro e
     have h3 : (th k).isSome = true := by cases h : th k with
      | none => exact absurd h e
      | some _ => rfl
     rw [h3] at this
     obtain ⟨p, hp, hs⟩ := List.any_eq_true.1 this
     obtain ⟨x, hx⟩ := hk p hp
     refine ⟨p, hp, ?_⟩
     rw [hx] at hs ⊢
     simpa [Lit.sameKey, strOf] using hs
theorem cnt_of {th : Thg} {l : List Str} (h1 : l.Nodup) (h2 : ∀ k, k ∈ l ↔ th k ≠ none) : cntT th = l.length ∧ keysT th = l.mergeSort (fun x y => decide (x ≤ y)) := by
 have hex : ∃ l : List Str, l.Nodup ∧ ∀ k, k ∈ l ↔ th k ≠ none := ⟨l, h1, h2⟩
 have hp : (hex.choose).Perm l := (List.perm_ext_iff_of_nodup hex.choose_spec.1 h1).2 (fun x => by rw [hex.choose_spec.2 x, h2 x])
 unfold cntT keysT
 rw [_root_.dif_pos hex, _root_.dif_pos hex]
 exact ⟨hp.length_eq, mergeSort_of_perm hp⟩
theorem TM.size {w : World} {b n : Nat} {th : Thg} (h : TM w b n th) (ty : TypeId) : (Builtin.len_ #[39] ty #[.map (some b)]).run Tryz.prog w = .ok (.int .i64 (cntT th)) w ∧ cntT th ≤ n := by
 obtain ⟨D, h1, h2, h3⟩ := h
 obtain ⟨g1, g2, g3⟩ := TM.keys h1 h2
 rw [(cnt_of g1 g2).1, g3]
 exact ⟨h1.len Tryz.underlying39 ty, h1.size_le⟩
end Go.Proofs.YtpmkdihencepnaaGreatDoor
