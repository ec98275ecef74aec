/- Part of the proof. -/
import Derived.Test.YtpmkdihencepnaaGreatDoorMk45
import Derived.Test.YtpmkdihencepnaaGreatDoorMk48
namespace Go.Proofs.YtpmkdihencepnaaGreatDoor
section
open Go.RowKit
theorem dec_nl : ∀ u : Nat, ∀ x ∈ Lib.decDigits u, 48 ≤ x.toNat := fun u => by
 induction u using Nat.strongRecOn with
 | _ u ih =>
  intro x hx
  rw [Lib.decDigits] at hx
  split at hx
  · rename_i h
    rw [List.mem_singleton] at hx
    subst hx
    rw [UInt8.toNat_ofNat']
    omega
  · rename_i h
    rcases List.mem_append.1 hx with hx | hx
    · exact ih _ (by omega) x hx
    · rw [List.mem_singleton] at hx
      subst hx
      rw [UInt8.toNat_ofNat']
      omega
theorem itoa_nl (n : Int) : (10 : UInt8) ∉ Lib.itoa n := by
 intro h
 unfold Lib.itoa at h
 split at h
 · rcases List.mem_cons.1 h with h | h
   · exact absurd h (by decide)
   · exact absurd (dec_nl _ _ h) (by decide)
 · exact absurd (dec_nl _ _ h) (by decide)
theorem numF_nl {s : Str} {n : Int} (h : numF s = some n) : (10 : UInt8) ∉ s := by
 unfold numF at h
 split at h
 · rename_i m _
   split at h
   · rename_i h2
     rw [← h2.2]; exact itoa_nl m
   · cases h
 · cases h
theorem mapM_all {α β : Type} (f : α → Option β) : ∀ (xs : List α) (l : List β), xs.mapM f = some l → ∀ x ∈ xs, ∃ y, f x = some y
 | [], _, _, x, hx => by cases hx
 | a :: xs, l, h, x, hx => by
  rw [List.mapM_cons] at h
  cases h1 : f a with
  | none => rw [h1] at h; simp at h
  | some b =>
   cases h2 : xs.mapM f with
   | none => rw [h1, h2] at h; simp at h
   | some l2 =>
    rcases List.mem_cons.1 hx with rfl | hx
    · exact ⟨b, h1⟩
    · exact mapM_all f xs l2 h2 x hx
theorem spl_nl {c : UInt8} (hc : c ≠ 10) {s : Str} (h : ∀ p ∈ spl c s, (10 : UInt8) ∉ p) : (10 : UInt8) ∉ s := by
 intro hx
 rcases spl_mem c s 10 hx with e | ⟨p, h1, h2⟩
 · exact hc e.symm
 · exact h p h1 h2
theorem rowF_nl {s : Str} {r : List Int} (h : rowF s = some r) : (10 : UInt8) ∉ s := by
 unfold rowF at h
 split at h
 · refine spl_nl (c := 32) (by decide) fun p hp => ?_
   obtain ⟨y, e⟩ := mapM_all _ _ _ h p hp
   exact numF_nl e
 · cases h
theorem thgF_nl {s : Str} {T : Rws} (h : thgF s = some T) : (10 : UInt8) ∉ s := by
 unfold thgF at h
 split at h
 · rename_i e; subst e; simp
 · split at h
   · refine spl_nl (c := 47) (by decide) fun p hp => ?_
     obtain ⟨y, e⟩ := mapM_all _ _ _ h p hp
     exact rowF_nl e
   · cases h
theorem namF_nl {s : Str} (h : namF s = true) : (10 : UInt8) ∉ s := by
 unfold namF at h
 have h := of_decide_eq_true h
 intro hx
 exact absurd (h.2.2 10 hx).1 (by decide)
theorem ite_nl {α : Type} {a : α} {o : Option α} {s : Str} {l : Array UInt8} {d : Decidable ((⟨s.toArray⟩ : ByteArray) = ⟨l⟩)} (h : (@ite _ ((⟨s.toArray⟩ : ByteArray) = ⟨l⟩) d (some a) o) ≠ none) (ha : (10 : UInt8) ∉ l.toList) (ho : o ≠ none → (10 : UInt8) ∉ s) : (10 : UInt8) ∉ s := by
 by_cases e : (⟨s.toArray⟩ : ByteArray) = ⟨l⟩
 · have e2 : s.toArray = l := by injection e
   rw [← e2] at ha
   simpa using ha
 · rw [if_neg e] at h
   exact ho h
theorem pr_nl {s : Str} (h : prOf ⟨s.toArray⟩ ≠ none) : (10 : UInt8) ∉ s := by
 unfold prOf at h
 repeat (refine ite_nl h (by decide) (fun h => ?_))
 exact absurd rfl h
theorem tab_nl {s : Str} (h : tabOf ⟨s.toArray⟩ ≠ none) : (10 : UInt8) ∉ s := by
 unfold tabOf at h
 repeat (refine ite_nl h (by decide) (fun h => ?_))
 exact absurd rfl h
theorem way_nl {s : Str} (h : wayOf ⟨s.toArray⟩ ≠ none) : (10 : UInt8) ∉ s := by
 unfold wayOf at h
 iterate 14 (refine ite_nl h (by decide) (fun h => ?_))
 exact tab_nl h
theorem words_nl {s : Str} (h0 : (10 : UInt8) ∉ (spl 32 s).headD []) (h1 : ∀ w ∈ (spl 32 s).tail, namF w = true) : (10 : UInt8) ∉ s := by
 refine spl_nl (c := 32) (by decide) fun p hp => ?_
 cases hs : spl 32 s with
 | nil => rw [hs] at hp; cases hp
 | cons a r =>
  rw [hs] at h0 h1 hp
  rcases List.mem_cons.1 hp with rfl | hp
  · exact h0
  · exact namF_nl (h1 p hp)
theorem worF_nl {th : Thg} {s : Str} (h : (worF th s).2 = 0) : (10 : UInt8) ∉ s := by
 unfold worF at h
 cases ht : thgF s with
 | some T => exact thgF_nl ht
 | none =>
  rw [ht] at h
  simp only at h
  cases hp : prOf ⟨((spl 32 s).headD []).toArray⟩ with
  | some G =>
   rw [hp] at h
   simp only at h
   by_cases c : (spl 32 s).length ≠ 3 ∨ ¬ ∀ w ∈ (spl 32 s).tail, namF w = true
   · rw [if_pos c] at h; exact absurd h (by decide)
   · have c2 := (not_or.1 c).2
     exact words_nl (pr_nl (by rw [hp]; simp)) (Classical.not_not.1 c2)
  | none =>
   rw [hp] at h
   cases hw : wayOf ⟨((spl 32 s).headD []).toArray⟩ with
   | none => rw [hw] at h; simp at h
   | some F =>
    rw [hw] at h
    simp only at h
    by_cases c : (spl 32 s).length ≠ 2 ∨ ¬ ∀ w ∈ (spl 32 s).tail, namF w = true
    · rw [if_pos c] at h; exact absurd h (by decide)
    · have c2 := (not_or.1 c).2
      exact words_nl (way_nl (by rw [hw]; simp)) (Classical.not_not.1 c2)
theorem pre_app {s p : Str} (h : Lib.hasPrefix s p = true) : s = p ++ Lib.trimPrefix s p := by
 unfold Lib.trimPrefix
 rw [if_pos h]
 unfold Lib.hasPrefix at h
 obtain ⟨t, rfl⟩ := List.isPrefixOf_iff_prefix.1 h
 simp
theorem cut_app {s sep : Str} (h : (Lib.cut s sep).2.2 = true) : s = (Lib.cut s sep).1 ++ sep ++ (Lib.cut s sep).2.1 := by
 unfold Lib.cut at h ⊢
 by_cases c : 0 ≤ Lib.index s sep
 · rw [if_pos c]
   show s = s.take _ ++ sep ++ s.drop _
   rcases Lib.index_spec s sep with ⟨e, _⟩ | ⟨i, e, h1, h2, _⟩
   · omega
   · rw [e, Int.toNat_natCast]
     unfold Lib.occAt at h2
     obtain ⟨t, ht⟩ := List.isPrefixOf_iff_prefix.1 h2
     have : s.drop (i + sep.length) = t := by rw [← List.drop_drop, ← ht]; simp
     rw [this, List.append_assoc, ht, List.take_append_drop]
 · rw [if_neg c] at h; cases h
theorem Chg.nl {S S' : St} {line : Str} (h : Chg S line S') : (10 : UInt8) ∉ line := by
 obtain ⟨h2, h3, h5, h1⟩ := h.plain
 have hd : doF S line = chgF S line := by unfold doF; rw [if_neg (by omega), if_neg h2, if_neg h3, if_neg h5]
 obtain ⟨th, hS, _⟩ := h.th
 have hc := h.code
 rw [hd] at hc
 unfold chgF at hc
 by_cases c1 : Lib.hasPrefix line sDrop = true ∧ namF (Lib.trimPrefix line sDrop) = true
 · rw [pre_app c1.1, List.mem_append]
   rintro (h | h)
   · exact absurd h (by decide)
   · exact namF_nl c1.2 h
 · rw [if_neg c1] at hc
   by_cases c2 : (Lib.cut line sEq).2.2 = false ∨ namF (Lib.cut line sEq).1 = false
   · rw [if_pos c2] at hc; simp at hc
   · rw [if_neg c2] at hc
     have c3 := not_or.1 c2
     by_cases c4 : (worF S.th (Lib.cut line sEq).2.1).2 ≠ 0
     · rw [if_pos c4] at hc; exact absurd hc c4
     · have e := cut_app (s := line) (sep := sEq) (by simpa using c3.1)
       rw [e, List.mem_append, List.mem_append]
       rintro ((h | h) | h)
       · exact namF_nl (by simpa using c3.2) h
       · exact absurd h (by decide)
       · exact worF_nl (Classical.not_not.1 c4) h
def sav (l : List Str) : Str := l.flatMap (fun x => x ++ [10])
theorem sav_len (m : Nat) : ∀ l : List Str, (∀ x ∈ l, x.length ≤ m) → (sav l).length ≤ l.length * (m + 1)
 | [], _ => by simp [sav]
 | a :: l, h => by
  have ih := sav_len m l (fun x hx => h x (List.mem_cons_of_mem _ hx))
  have := h a (by simp)
  unfold sav at ih ⊢
  simp only [List.flatMap_cons, List.length_append, List.length_cons, List.length_nil, Nat.add_mul] at ih ⊢
  omega
theorem sav_snoc (l : List Str) (x : Str) : sav (l ++ [x]) = sav l ++ (x ++ [10]) := by simp [sav]
theorem cut_nl {line r : Str} (h : (10 : UInt8) ∉ line) : Lib.cut (line ++ [10] ++ r) [10] = (line, r, true) := by
 have hi : Lib.index (line ++ [10] ++ r) [10] = (line.length : Int) := by
  refine Lib.index_first (by simp) ?_ (fun j hj => ?_)
  · unfold Lib.occAt
    rw [List.append_assoc, List.drop_left]
    simp [List.isPrefixOf]
  · unfold Lib.occAt
    rw [List.append_assoc, List.drop_append_of_le_length (by omega)]
    cases hd : line.drop j with
    | nil => simp at hd; omega
    | cons a t =>
     have ha : a ∈ line := List.drop_subset j line (by rw [hd]; simp)
     have : ((10 : UInt8) == a) = false := by
      apply Bool.eq_false_iff.2
      intro e
      exact h (by rw [eq_of_beq e]; exact ha)
     simp [List.isPrefixOf, this]
 unfold Lib.cut
 rw [hi, if_pos (by omega), Int.toNat_natCast]
 refine Prod.ext ?_ (Prod.ext ?_ rfl)
 · show List.take line.length (line ++ [10] ++ r) = line
   rw [List.append_assoc, List.take_left]
 · show List.drop (line.length + 1) (line ++ [10] ++ r) = r
   have : line.length + 1 = (line ++ [(10 : UInt8)]).length := by simp
   rw [this, List.drop_left]
theorem RepD.chain {S : St} (h : RepD S) : ∃ f : Nat → St, f 0 = St.new ∧ f S.log.length = S ∧ (∀ i, i < S.log.length → Chg (f i) (S.log.getD i []) (f (i + 1))) ∧ ∀ i, i ≤ S.log.length → RepD (f i) ∧ (f i).log = S.log.take i := by
 induction h with
 | new => exact ⟨fun _ => St.new, rfl, rfl, (fun i hi => by simp [St.new] at hi), (fun i _ => ⟨.new, by simp [St.new]⟩)⟩
 | @step S S' line hr hc ih =>
  obtain ⟨f, h0, h1, h2, h3⟩ := ih
  obtain ⟨th, e, _⟩ := hc.th
  have el : S'.log = S.log ++ [line] := by rw [e]
  have en : S'.log.length = S.log.length + 1 := by rw [el]; simp
  refine ⟨fun i => if i ≤ S.log.length then f i else S', ?_, ?_, fun i hi => ?_, fun i hi => ?_⟩
  · simp [h0]
  · rw [en]; exact if_neg (by omega)
  · rw [en] at hi
    simp only [show i ≤ S.log.length by omega, if_true]
    by_cases c : i < S.log.length
    · simp only [show i + 1 ≤ S.log.length by omega, if_true]
      have : S'.log.getD i [] = S.log.getD i [] := by
       rw [el, List.getD_eq_getElem?_getD, List.getElem?_append_left c, ← List.getD_eq_getElem?_getD]
      rw [this]; exact h2 i c
    · obtain rfl : i = S.log.length := by omega
      simp only [show ¬ S.log.length + 1 ≤ S.log.length by omega, if_false]
      have : S'.log.getD S.log.length [] = line := by
       rw [el, List.getD_eq_getElem?_getD, List.getElem?_append_right (Nat.le_refl _)]; simp
      rw [this, h1]; exact hc
  · rw [en] at hi
    by_cases c : i ≤ S.log.length
    · simp only [c, if_true]
      refine ⟨(h3 i c).1, ?_⟩
      rw [(h3 i c).2, el, List.take_append_of_le_length c]
    · simp only [c, if_false]
      obtain rfl : i = S.log.length + 1 := by omega
      exact ⟨.step hr hc, by rw [← en, List.take_length]⟩
theorem RepD.short {S : St} (h : RepD S) : ∀ x ∈ S.log, x.length ≤ 400 := by
 induction h with
 | new => intro x hx; cases hx
 | step _ hc ih =>
  obtain ⟨th, rfl, _⟩ := hc.th
  intro x hx
  rcases List.mem_append.1 hx with hx | hx
  · exact ih x hx
  · rw [List.mem_singleton.1 hx]; exact hc.plain.2.2.2
def Nms (th : Thg) : Prop := ∀ k, th k ≠ none → namF k = true
theorem keep_names {S : St} {line : Str} {next : Thg} (h : Nms S.th) (hn : Nms next) : Nms (keepF S line next).2.th := by
 unfold keepF
 split
 · exact h
 · exact hn
theorem upd_names {th : Thg} {k : Str} {v : Option Rws} (h : Nms th) (hk : namF k = true) : Nms (updT th k v) := by
 intro x hx
 unfold updT at hx
 by_cases e : x = k
 · subst e; exact hk
 · rw [if_neg e] at hx; exact h x hx
theorem chg_names {S : St} {line : Str} (h : Nms S.th) : Nms (chgF S line).2.th := by
 unfold chgF
 by_cases c1 : Lib.hasPrefix line sDrop = true ∧ namF (Lib.trimPrefix line sDrop) = true
 · rw [if_pos c1]
   cases S.th (Lib.trimPrefix line sDrop) with
   | none => exact h
   | some _ => exact keep_names h (upd_names h c1.2)
 · rw [if_neg c1]
   by_cases c2 : (Lib.cut line sEq).2.2 = false ∨ namF (Lib.cut line sEq).1 = false
   · rw [if_pos c2]; exact h
   · rw [if_neg c2]
     have c3 : namF (Lib.cut line sEq).1 = true := by simpa using (not_or.1 c2).2
     split
     · exact h
     · split
       · exact h
       · split
         · exact h
         · exact keep_names h (upd_names h c3)
theorem RepD.names {S : St} (h : RepD S) : Nms S.th := by
 induction h with
 | new => intro k hk; exact absurd rfl hk
 | @step S S' line _ hc ih =>
  obtain ⟨h2, h3, h5, h1⟩ := hc.plain
  have hd : doF S line = chgF S line := by unfold doF; rw [if_neg (by omega), if_neg h2, if_neg h3, if_neg h5]
  rw [← hc.st, hd]
  exact chg_names ih
theorem keys_mem {th : Thg} {k : Str} (h : k ∈ keysT th) : th k ≠ none := by
 unfold keysT at h
 by_cases hex : ∃ l : List Str, l.Nodup ∧ ∀ k, k ∈ l ↔ th k ≠ none
 · rw [_root_.dif_pos hex] at h
   exact (hex.choose_spec.2 k).1 (List.mem_mergeSort.1 h)
 · rw [_root_.dif_neg hex] at h; cases h
theorem RepD.sav_le {S : St} (h : RepD S) : (sav S.log).length ≤ 80200 := by
 have := sav_len 400 S.log h.short
 have := h.len.1
 omega
def Asks (line : Str) : Prop := line = sNames ∨ (Lib.hasPrefix line sShow = true ∧ namF (Lib.trimPrefix line sShow) = true)
theorem do_full (S : St) (line : Str) (hl : S.log.length ≤ 200) (hu : line ≠ sUndo) :
 ((doF S line).2 = S ∧ ((doF S line).1.2 = 0 → Asks line)) ∨ (Chg S line (doF S line).2 ∧ ¬ Asks line) := by
 by_cases h1 : 400 < line.length
 · exact .inl (by unfold doF; rw [if_pos h1]; exact ⟨rfl, fun h => by simp at h⟩)
 · by_cases h2 : line = sNames
   · exact .inl ⟨by unfold doF; rw [if_neg h1, if_pos h2], fun _ => .inl h2⟩
   · by_cases h5 : Lib.hasPrefix line sShow = true ∧ namF (Lib.trimPrefix line sShow) = true
     · refine .inl ⟨?_, fun _ => .inr h5⟩
       unfold doF
       rw [if_neg h1, if_neg h2, if_neg hu, if_pos h5]
       cases S.th (Lib.trimPrefix line sShow) <;> rfl
     · have e : doF S line = chgF S line := by unfold doF; rw [if_neg h1, if_neg h2, if_neg hu, if_neg h5]
       rcases chg_cases S line with ⟨c1, c2⟩ | ⟨c1, c2, th, c3⟩
       · exact .inl ⟨by rw [e]; exact c2, fun h => absurd (by rw [e] at h; exact h) c1⟩
       · exact .inr ⟨⟨by rw [e]; exact c1, rfl, ⟨h2, hu, h5, by omega⟩, th, by rw [e]; exact c3, by omega⟩, fun h => h.elim h2 h5⟩
theorem undo_do {S S' : St} {line : Str} (h : Chg S line S') : doF S' sUndo = (([], 0), S) := by
 have hu := h.undo
 obtain ⟨th, rfl, _⟩ := h.th
 unfold doF
 rw [if_neg (by decide), if_neg (by decide), if_pos rfl, if_neg (by simp), hu]
theorem sav_ne {S S' : St} {line : Str} (h : Chg S line S') : sav S'.log ≠ sav S.log := by
 obtain ⟨th, rfl, _⟩ := h.th
 intro e
 have := congrArg List.length e
 rw [sav_snoc] at this
 simp at this
theorem cnt_new : cntT St.new.th = 0 := by
 have hex : ∃ l : List Str, l.Nodup ∧ ∀ k, k ∈ l ↔ St.new.th k ≠ none := ⟨[], List.nodup_nil, fun k => by simp [St.new]⟩
 unfold cntT
 rw [dif_pos hex]
 have := hex.choose_spec.2
 rw [List.length_eq_zero_iff]
 apply List.eq_nil_iff_forall_not_mem.2
 intro k hk
 exact (this k).1 hk rfl
def sX31 : Str := [120, 32, 61, 32, 51, 32, 49]
def sX1 : Str := [120, 32, 61, 32, 49]
theorem do_x (line s : Str) (T : Rws) (h1 : line.length ≤ 400) (h2 : line ≠ sNames) (h3 : line ≠ sUndo) (h4 : Lib.hasPrefix line sShow = false) (h5 : Lib.hasPrefix line sDrop = false) (hc : Lib.cut line sEq = ([120], s, true)) (ht : thgF s = some T) :
 (doF St.new line).1.2 = 0 ∧ Chg St.new line (doF St.new line).2 ∧ (doF St.new line).2.log = [line] := by
 have hw : worF St.new.th s = (T, 0) := by unfold worF; rw [ht]
 have e : doF St.new line = ((texF T, 0), ⟨updT St.new.th [120] (some T), [line], [St.new.th]⟩) := by
  unfold doF
  rw [if_neg (by omega), if_neg h2, if_neg h3, if_neg (by rw [h4]; simp)]
  unfold chgF
  rw [if_neg (by rw [h5]; simp), hc]
  simp only
  rw [if_neg (by decide), hw, if_neg (by simp), if_neg (by rw [cnt_new]; simp), if_neg (by simp [keepF, St.new])]
  simp [keepF, St.new]
 rcases do_full St.new line (by simp [St.new]) h3 with ⟨h, _⟩ | ⟨h, _⟩
 · rw [e] at h
   have := congrArg St.log h
   simp [St.new] at this
 · exact ⟨by rw [e], h, by rw [e]⟩
theorem dec1 : Lib.itoa 1 = [49] := by unfold Lib.itoa; rw [if_neg (by decide)]; exact Lib.decDigits_one (by decide)
theorem dec3 : Lib.itoa 3 = [51] := by unfold Lib.itoa; rw [if_neg (by decide)]; exact Lib.decDigits_one (by decide)
theorem num1 : numF [49] = some 1 := by
 unfold numF
 rw [show Lib.atoiAll [49] = .ok 1 by decide]
 simp only
 rw [if_pos ⟨by decide, dec1⟩]
theorem num3 : numF [51] = some 3 := by
 unfold numF
 rw [show Lib.atoiAll [51] = .ok 3 by decide]
 simp only
 rw [if_pos ⟨by decide, dec3⟩]
theorem thg1 : thgF [49] = some [[1]] := by
 have h1 : spl 47 [49] = [[49]] := by decide
 have h2 : spl 32 [49] = [[49]] := by decide
 have hr : rowF [49] = some [1] := by
  unfold rowF
  rw [h2, if_pos (by decide)]
  simp [num1]
 unfold thgF
 rw [if_neg (by decide), h1, if_pos (by decide)]
 simp [hr]
theorem thg31 : thgF [51, 32, 49] = some [[3, 1]] := by
 have h1 : spl 47 [51, 32, 49] = [[51, 32, 49]] := by decide
 have h2 : spl 32 [51, 32, 49] = [[51], [49]] := by decide
 have hr : rowF [51, 32, 49] = some [3, 1] := by
  unfold rowF
  rw [h2, if_pos (by decide)]
  simp [num1, num3]
 unfold thgF
 rw [if_neg (by decide), h1, if_pos (by decide)]
 simp [hr]
theorem do_x31 : (doF St.new sX31).1.2 = 0 ∧ Chg St.new sX31 (doF St.new sX31).2 ∧ (doF St.new sX31).2.log = [sX31] :=
 do_x sX31 [51, 32, 49] [[3, 1]] (by decide) (by decide) (by decide) (by decide) (by decide) (by decide) thg31
theorem do_x1 : (doF St.new sX1).1.2 = 0 ∧ Chg St.new sX1 (doF St.new sX1).2 ∧ (doF St.new sX1).2.log = [sX1] :=
 do_x sX1 [49] [[1]] (by decide) (by decide) (by decide) (by decide) (by decide) (by decide) thg1
end
section
open Go.RowKit Go.Proofs
open Go.Shelf Go.Lib
theorem worF_few (th : Thg) (s : Str) : FewT (worF th s).1 := by
 unfold worF
 cases ht : thgF s with
 | some T => exact thg_few ht
 | none =>
  simp only
  cases hp : prOf ⟨((spl 32 s).headD []).toArray⟩ with
  | some G =>
   simp only
   split
   · exact fewNil
   · cases h1 : th ((spl 32 s).getD 1 []) with
     | none => exact fewNil
     | some T => cases h2 : th ((spl 32 s).getD 2 []) with
      | none => exact fewNil
      | some U => exact pr_few hp T U
  | none =>
   cases hw : wayOf ⟨((spl 32 s).headD []).toArray⟩ with
   | none => exact fewNil
   | some F =>
    simp only
    split
    · exact fewNil
    · cases h1 : th ((spl 32 s).getD 1 []) with
      | none => exact fewNil
      | some T => exact way_few hw T
def EnvB (B : Nat) (w : World) : Prop := ∃ w0, w0.heap.size = B ∧ Env w0 ∧ Fx (fun k => B ≤ k) w0 w
theorem EnvB.of {w : World} (h : Env w) : EnvB w.heap.size w := ⟨w, rfl, h, Fx.refl _ _⟩
theorem EnvB.env {B : Nat} {w : World} (h : EnvB B w) : Env w := by
 obtain ⟨w0, rfl, he, hf⟩ := h
 have hv : ∀ {name : String} {c : Array Value}, w0.var? Tryz.prog name = some c → w.var? Tryz.prog name = some c := by
  intro name c h
  unfold World.var? at h ⊢
  cases hg : Tryz.prog.globalNamed name with
  | none => rw [hg] at h; simp at h
  | some g =>
   rw [hg] at h
   simp only [Option.bind_some] at h ⊢
   have hlt : g < w0.heap.size := by
    rcases Nat.lt_or_ge g w0.heap.size with h' | h'
    · exact h'
    · rw [Array.getElem?_eq_none h'] at h; cases h
   rw [hf.2 g hlt (by omega)]
   exact h
 obtain ⟨h1, ⟨m, h2⟩, ⟨t3, p3, h3⟩, ⟨t4, p4, h4⟩⟩ := he
 refine ⟨?_, ⟨m, ?_⟩, ⟨t3, p3, hv h3⟩, ⟨t4, p4, hv h4⟩⟩
 · unfold Lib.TabIs at h1 ⊢
   exact hv h1
 · have hlt := World.block_lt_of_cell? w0 _ h2
   exact (World.cell?_of_block (hf.2 _ hlt (by omega))).trans h2
theorem EnvB.le {B : Nat} {w : World} (h : EnvB B w) : B ≤ w.heap.size := by
 obtain ⟨w0, rfl, _, hf⟩ := h; exact hf.1
theorem EnvB.fx {B : Nat} {X : Nat → Prop} {w w' : World} (h : EnvB B w) (hf : Fx X w w') (hX : ∀ k, X k → B ≤ k) : EnvB B w' := by
 obtain ⟨w0, rfl, he, hf0⟩ := h
 exact ⟨w0, rfl, he, hf0.trans (hf.wide (fun k _ hk => hX k hk))⟩
abbrev Old (w w' : World) : Prop := Fx (fun _ => False) w w'
theorem Old.then_own {w w1 w2 : World} {b : Nat} (h : Old w w1) (h2 : Fx (fun k => k = b) w1 w2) (hb : w.heap.size ≤ b) : Old w w2 :=
 ⟨Nat.le_trans h.1 h2.1, fun k hk _ => (h2.2 k (Nat.lt_of_lt_of_le hk h.1) (by omega)).trans (h.2 k hk id), h2.io.1.trans h.io.1, h2.io.2.1.trans h.io.2.1, h2.io.2.2.trans h.io.2.2⟩
theorem EnvB.old {B : Nat} {w w' : World} (h : EnvB B w) (hb : Old w w') : EnvB B w' := h.fx hb (fun _ h => h.elim)
theorem EnvB.below {B : Nat} {w w' : World} (h : EnvB B w) (hb : Below w.heap.size w w') : EnvB B w' := h.old (Fx.of_below hb)
theorem DeskM.old {w w' : World} {p : Nat} {v1 v2 : Value} {S : St} (h : DeskM w p v1 v2 S) (hb : Old w w') : DeskM w' p v1 v2 S :=
 h.fr hb (fun _ hk => hk.elim) (fun _ _ hk => hk)
def Hi (B p : Nat) (v1 v2 : Value) : Prop := ∀ k, DX p v1 v2 k → B ≤ k
theorem Hi.step {B p : Nat} {v1 v2 v1' v2' : Value} {w w' : World} (h : Hi B p v1 v2) (hd : DStep w w' p v1 v2 v1' v2') (hB : B ≤ w.heap.size) : Hi B p v1' v2' :=
 fun k hk => (hd.2 k hk).elim (h k) (fun g => Nat.le_trans hB g)
theorem DStep.of_old {w w1 w2 : World} {p : Nat} {v1 v2 v1' v2' : Value} (hb : Old w w1) (h : DStep w1 w2 p v1 v2 v1' v2') : DStep w w2 p v1 v2 v1' v2' :=
 ⟨(hb.wide (fun _ _ h => h.elim)).trans h.1, fun k hk => (h.2 k hk).imp id (fun g => Nat.le_trans hb.1 g)⟩
theorem DStep.then_old {w w1 w2 : World} {p : Nat} {v1 v2 v1' v2' : Value} (h : DStep w w1 p v1 v2 v1' v2') (hb : Old w1 w2) : DStep w w2 p v1 v2 v1' v2' :=
 ⟨h.1.trans (hb.wide (fun _ _ h => h.elim)), h.2⟩
def DLeft (S' : St) (w w' : World) (p : Nat) (v1 v2 : Value) : Prop := ∃ v1' v2', DeskM w' p v1' v2' S' ∧ DStep w w' p v1 v2 v1' v2'
theorem DLeft.same {S : St} {w w' : World} {p : Nat} {v1 v2 : Value} (h : DeskM w p v1 v2 S) (hb : Old w w') : DLeft S w w' p v1 v2 :=
 ⟨v1, v2, h.old hb, hb.wide (fun _ _ h => h.elim), fun _ h => .inl h⟩
theorem DLeft.of_old {S' : St} {w w1 w2 : World} {p : Nat} {v1 v2 : Value} (hb : Old w w1) (h : DLeft S' w1 w2 p v1 v2) : DLeft S' w w2 p v1 v2 := by
 obtain ⟨v1', v2', h1, h2⟩ := h
 exact ⟨v1', v2', h1, .of_old hb h2⟩
theorem DLeft.then_old {S' : St} {w w1 w2 : World} {p : Nat} {v1 v2 : Value} (h : DLeft S' w w1 p v1 v2) (hb : Old w1 w2) : DLeft S' w w2 p v1 v2 := by
 obtain ⟨v1', v2', h1, h2⟩ := h
 exact ⟨v1', v2', h1.old hb, h2.then_old hb⟩
theorem DLeft.env {S' : St} {B : Nat} {w w' : World} {p : Nat} {v1 v2 : Value} (h : DLeft S' w w' p v1 v2) (he : EnvB B w) (hi : Hi B p v1 v2) : EnvB B w' := by
 obtain ⟨v1', v2', h1, h2⟩ := h
 exact he.fx h2.1 hi
theorem keep_c (p bn : Nat) (v1 v2 : Value) (S : St) (line : Str) (th : Thg) (w : World) (h : DeskM w p v1 v2 S) (hT : TM w bn (S.log.length + 1) th) :
 Calls Tryz.prog 31 #[.pointer (some ⟨p, 0, none⟩), sv line, .map (some bn)] w fun e w' => e = .returned (.int .i64 (keepF S line th).1) ∧ DLeft (keepF S line th).2 w w' p v1 v2 := by
 by_cases hl : S.log.length = 200
 · have e : keepF S line th = (2, S) := by unfold keepF; rw [if_pos hl]
   rw [e]
   refine (keep_full p bn v1 v2 S line w h hl).mono ?_
   rintro e w' ⟨rfl, rfl⟩
   exact ⟨rfl, .same h (Fx.refl _ _)⟩
 · have e : keepF S line th = (0, ⟨th, S.log ++ [line], S.done ++ [S.th]⟩) := by unfold keepF; rw [if_neg hl]
   rw [e]
   have := h.le
   exact keep_more p bn v1 v2 S line th w h hT (by omega)
end
end Go.Proofs.YtpmkdihencepnaaGreatDoor
