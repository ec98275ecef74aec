/- Part of the proof. -/
import Derived.Test.YtpmkdihencepnaaGreatDoorMk07
import Derived.Test.YtpmkdihencepnaaGreatDoorMk10
import Derived.Test.YtpmkdihencepnaaGreatDoorMk12
import Derived.Test.YtpmkdihencepnaaGreatDoorMk14
import Derived.Test.YtpmkdihencepnaaGreatDoorMk25
set_option maxHeartbeats 16000000
set_option maxRecDepth 100000
namespace Go.Proofs.YtpmkdihencepnaaGreatDoor
section
def lastOf (r : List Int) : Int := r.getD (r.length - 1) 0
theorem last_mem {r : List Int} (h : r ≠ []) : lastOf r ∈ r := by
 have := List.length_pos_iff.2 h
 unfold lastOf
 rw [getD_get (by omega)]
 exact List.getElem_mem _
theorem last_max {r : List Int} (h : Up r) {x : Int} (hx : x ∈ r) : x ≤ lastOf r := by
 obtain ⟨i, hi, rfl⟩ := List.getElem_of_mem hx
 unfold lastOf
 rw [getD_get (by omega)]
 by_cases e : i = r.length - 1
 · simp only [← e]; exact Int.le_refl _
 · exact List.pairwise_iff_getElem.1 h i (r.length - 1) hi (by omega) (by omega)
structure Sel (q : List (List Int)) (row : Nat) (most : Int) : Prop where
 inn : row < q.length
 here : lastOf (q.getD row []) = most
 top : ∀ a, a < q.length → lastOf (q.getD a []) ≤ most
 first : ∀ a, a < row → lastOf (q.getD a []) < most
theorem Sel.uniq {q : List (List Int)} {r r' : Nat} {m m' : Int} (h : Sel q r m) (h' : Sel q r' m') : r = r' ∧ m = m' := by
 have e1 := h.top r' h'.inn
 have e2 := h'.top r h.inn
 rw [h'.here] at e1
 rw [h.here] at e2
 have em : m = m' := by omega
 subst em
 refine ⟨?_, rfl⟩
 apply Classical.byContradiction
 intro hn
 by_cases c : r < r'
 · have := h'.first r c; rw [h.here] at this; omega
 · have := h.first r' (by omega); rw [h'.here] at this; omega
def popRow (q : List (List Int)) (row : Nat) : List (List Int) := if (q.getD row []).length = 1 then q.take row else q.set row (q.getD row []).dropLast
inductive Und : List (List Int) → List (List Int) → List (Int × Int) → Prop
 | nil (p : List (List Int)) : Und p [] []
 | step {p q : List (List Int)} {row : Nat} {most : Int} {m : List (Int × Int)} : Sel q row most → Und (unb p row).1 (popRow q row) m → Und p q (m ++ [(most, (unb p row).2)])
theorem mem_getD {T : List (List Int)} {a : Nat} {x : Int} (h : x ∈ T.getD a []) : a < T.length ∧ T.getD a [] ∈ T := by
 have : a < T.length := by
  apply Classical.byContradiction
  intro hn
  rw [getD_far (by omega)] at h
  simp at h
 exact ⟨this, by rw [getD_get this]; exact List.getElem_mem _⟩
theorem Sel.all {q : List (List Int)} {row : Nat} {most : Int} (h : Sel q row most) (ht : Tab q) {a : Nat} {x : Int} (hx : x ∈ q.getD a []) : x ≤ most := by
 have h1 := last_max (ht.upD a) hx
 have h2 := h.top a (mem_getD hx).1
 omega
theorem Sel.corner {q : List (List Int)} {row : Nat} {most : Int} (h : Sel q row most) (ht : Tab q) : (q.getD (row + 1) []).length < (q.getD row []).length := by
 have hne : q.getD row [] ≠ [] := ht.ne _ (by rw [getD_get h.inn]; exact List.getElem_mem _)
 have hl := List.length_pos_iff.2 hne
 apply Classical.byContradiction
 intro hn
 have hb : (q.getD (row + 1) [])[(q.getD row []).length - 1]? = some ((q.getD (row + 1) [])[(q.getD row []).length - 1]'(by omega)) := List.getElem?_eq_getElem (by omega)
 obtain ⟨a, ha, hab⟩ := dom_at (ht.dom row) hb
 have h1 := h.all ht (List.mem_of_getElem? hb)
 have h2 : a = most := by
  rw [← h.here]
  unfold lastOf
  rw [List.getD_eq_getElem?_getD, ha]; rfl
 omega
theorem pop_getD {q : List (List Int)} {row : Nat} (hi : row < q.length) (hne : ∀ r ∈ q, r ≠ []) (hc : (q.getD (row + 1) []).length < (q.getD row []).length) (a : Nat) : (popRow q row).getD a [] = if a = row then (q.getD row []).dropLast else q.getD a [] := by
 unfold popRow
 by_cases e1 : (q.getD row []).length = 1
 · rw [if_pos e1]
   have hlast : row + 1 = q.length := by
    apply Classical.byContradiction
    intro hn
    have : row + 1 < q.length := by omega
    have h2 := hne (q.getD (row + 1) []) (by rw [getD_get this]; exact List.getElem_mem _)
    exact h2 (List.eq_nil_of_length_eq_zero (by omega))
   by_cases e : a = row
   · rw [if_pos e, getD_far (by rw [List.length_take]; omega)]
     exact (List.eq_nil_of_length_eq_zero (by rw [List.length_dropLast]; omega)).symm
   · rw [if_neg e]
     by_cases c : a < row
     · rw [List.getD_eq_getElem?_getD, List.getElem?_take_of_lt c, ← List.getD_eq_getElem?_getD]
     · rw [getD_far (by rw [List.length_take]; omega), getD_far (by omega)]
 · rw [if_neg e1]
   by_cases e : a = row
   · rw [if_pos e, e, List.getD_eq_getElem?_getD, List.getElem?_set_self hi]; rfl
   · rw [if_neg e, List.getD_eq_getElem?_getD, List.getElem?_set_ne (Ne.symm e), ← List.getD_eq_getElem?_getD]
theorem pop_ne {q : List (List Int)} {row : Nat} (hi : row < q.length) (hne : ∀ r ∈ q, r ≠ []) : ∀ r ∈ popRow q row, r ≠ [] := fun r hr => by
 unfold popRow at hr
 by_cases e1 : (q.getD row []).length = 1
 · rw [if_pos e1] at hr; exact hne r (List.mem_of_mem_take hr)
 · rw [if_neg e1] at hr
   rcases List.mem_or_eq_of_mem_set hr with h | h
   · exact hne r h
   · have h2 : 0 < (q.getD row []).length := List.length_pos_iff.2 (hne _ (by rw [getD_get hi]; exact List.getElem_mem _))
     rw [h]
     intro e
     have h3 : (q.getD row []).length - 1 = 0 := by rw [← List.length_dropLast, e]; rfl
     omega
theorem pop_len {q : List (List Int)} {row : Nat} (hi : row < q.length) : row ≤ (popRow q row).length := by
 unfold popRow
 by_cases e1 : (q.getD row []).length = 1
 · rw [if_pos e1, List.length_take]; omega
 · rw [if_neg e1, List.length_set]; omega
theorem drop_last (r : List Int) (h : r ≠ []) : r.dropLast ++ [lastOf r] = r := by
 conv => rhs; rw [← List.dropLast_concat_getLast h]
 congr 2
 have := List.length_pos_iff.2 h
 unfold lastOf
 rw [getD_get (by omega), List.getLast_eq_getElem]
theorem pop_qadd {q : List (List Int)} {row : Nat} {most : Int} (h : Sel q row most) (ht : Tab q) : qadd (popRow q row) row most = q := by
 refine rows_ext (qadd_ne (pop_ne h.inn ht.ne)) ht.ne (fun s => ?_)
 rw [qadd_getD (pop_len h.inn), pop_getD h.inn ht.ne (h.corner ht), pop_getD h.inn ht.ne (h.corner ht), if_pos rfl]
 by_cases e : s = row
 · rw [if_pos e, ← h.here, e]
   exact drop_last _ (ht.ne _ (by rw [getD_get h.inn]; exact List.getElem_mem _))
 · rw [if_neg e, if_neg e]
theorem pop_tab {q : List (List Int)} {row : Nat} {most : Int} (h : Sel q row most) (ht : Tab q) : Tab (popRow q row) := by
 have hg := pop_getD h.inn ht.ne (h.corner ht)
 have hc := h.corner ht
 refine tab_of (fun r hr => ⟨pop_ne h.inn ht.ne r hr, ?_⟩) (fun j => ?_)
 · obtain ⟨a, ha, rfl⟩ := List.getElem_of_mem hr
   rw [← getD_get (d := []) ha, hg]
   by_cases e : a = row
   · rw [if_pos e]; exact List.Pairwise.sublist (List.dropLast_sublist _) (ht.upD row)
   · rw [if_neg e]; exact ht.upD a
 · rw [hg, hg]
   have hd := ht.dom j
   by_cases e : j = row
   · rw [if_pos e, if_neg (by omega)]
     rw [e] at hd ⊢
     refine dom_of (fun i b hb => ?_)
     obtain ⟨a, ha, hab⟩ := dom_at hd hb
     have hi := (List.getElem?_eq_some_iff.1 hb).1
     refine ⟨a, ?_, hab⟩
     rw [List.getElem?_dropLast, if_pos (by omega)]; exact ha
   · rw [if_neg e]
     by_cases e2 : j + 1 = row
     · rw [if_pos e2]
       rw [e2] at hd
       refine dom_of (fun i b hb => ?_)
       rw [List.getElem?_dropLast] at hb
       split at hb
       · exact dom_at hd hb
       · simp at hb
     · rw [if_neg e2]; exact hd
def SameSh (p q : List (List Int)) : Prop := ∀ a, (p.getD a []).length = (q.getD a []).length
theorem ins_len {T : List (List Int)} {x : Int} (a : Nat) : ((ins1 T x).getD a []).length = (T.getD a []).length + if a = irow T x then 1 else 0 := by
 obtain ⟨h1, h2⟩ := sh_ins1 T x
 rw [← sh_getD, h2, ← sh_getD T]
 unfold shadd
 rw [sh_length]
 by_cases e : irow T x = T.length
 · rw [if_pos e]
   by_cases e2 : a = irow T x
   · rw [if_pos e2, e2, e]
     rw [List.getD_eq_getElem?_getD, List.getElem?_append_right (by rw [sh_length]; omega), sh_length, getD_far (by rw [sh_length]; omega)]; simp
   · rw [if_neg e2]
     by_cases c : a < T.length
     · rw [List.getD_eq_getElem?_getD, List.getElem?_append_left (by rw [sh_length]; exact c), ← List.getD_eq_getElem?_getD]; rfl
     · rw [getD_far (by simp [sh_length]; omega), getD_far (by rw [sh_length]; omega)]
 · rw [if_neg e]
   by_cases e2 : a = irow T x
   · rw [if_pos e2, e2, List.getD_eq_getElem?_getD, List.getElem?_set_self (by rw [sh_length]; omega)]; rfl
   · rw [if_neg e2, List.getD_eq_getElem?_getD, List.getElem?_set_ne (Ne.symm e2), ← List.getD_eq_getElem?_getD]; rfl
theorem SameSh.len {p q : List (List Int)} (h : SameSh p q) (hp : ∀ r ∈ p, r ≠ []) (hq : ∀ r ∈ q, r ≠ []) : p.length = q.length := by
 have key : ∀ {A B : List (List Int)}, (∀ r ∈ A, r ≠ []) → SameSh A B → A.length ≤ B.length := fun {A B} hA hh => by
  apply Classical.byContradiction
  intro hn
  have h1 := hh B.length
  rw [getD_far (xs := B) (Nat.le_refl _), getD_get (show B.length < A.length by omega)] at h1
  exact hA _ (List.getElem_mem _) (List.eq_nil_of_length_eq_zero (by simpa using h1))
 exact Nat.le_antisymm (key hp h) (key hq (fun a => (h a).symm))
theorem out_step {p q : List (List Int)} {row : Nat} {most : Int} (hp : Tab p) (hq : Tab q) (hs : SameSh p q) (h : Sel q row most) : Tab (unb p row).1 ∧ ins1 (unb p row).1 (unb p row).2 = p ∧ irow (unb p row).1 (unb p row).2 = row ∧ SameSh (unb p row).1 (popRow q row) := by
 have hlen := hs.len hp.ne hq.ne
 have hc := h.corner hq
 rw [← hs, ← hs] at hc
 obtain ⟨h1, h2, h3⟩ := ins1_unb hp (by have := h.inn; omega) hc
 refine ⟨h1, h2, h3, fun a => ?_⟩
 have e1 := ins_len (T := (unb p row).1) (x := (unb p row).2) a
 rw [h2, h3, hs] at e1
 rw [pop_getD h.inn hq.ne (h.corner hq)]
 by_cases e : a = row
 · subst e
   rw [if_pos rfl] at e1 ⊢
   rw [List.length_dropLast]; omega
 · rw [if_neg e] at e1 ⊢
   omega
def wB (m : List (Int × Int)) : List Int := m.map (·.2)
end
end Go.Proofs.YtpmkdihencepnaaGreatDoor
namespace Go.Proofs.YtpmkdihencepnaaGreatDoor
end Go.Proofs.YtpmkdihencepnaaGreatDoor
namespace Go.Proofs.YtpmkdihencepnaaGreatDoor
section
open Go.RowKit
theorem lens_getD (T : List (List Int)) (a : Nat) : (lensOf T).getD a 0 = ((T.getD a []).length : Int) := by
 unfold lensOf
 by_cases h : a < T.length
 · rw [getD_get (by simpa using h), getD_get h, List.getElem_map]
 · rw [getD_far (by simp; omega), getD_far (by omega)]; rfl
theorem lens_same {p q : List (List Int)} (hp : FillOk p) (hq : FillOk q) : lensOf p = lensOf q ↔ SameSh p q := by
 refine ⟨fun h a => ?_, fun h => ?_⟩
 · have := lens_getD p a
   rw [h, lens_getD] at this
   omega
 · have hl := h.len hp.1.ne hq.1.ne
   unfold lensOf
   apply List.ext_getElem (by simpa using hl)
   intro a g1 g2
   rw [List.length_map] at g1 g2
   rw [List.getElem_map, List.getElem_map]
   have := h a
   rw [getD_get g1, getD_get g2] at this
   omega
def ShsOut (e : Ending) (p q : List (List Int)) : Prop := ∃ k : Int, e = .returned (.int .i64 k) ∧ (k = 0 → FillOk p ∧ FillOk q ∧ SameSh p q) ∧ (FillOk p ∧ FillOk q ∧ SameSh p q → k = 0)
theorem lensOf_len {T : List (List Int)} (h : FillOk T) : (lensOf T).length ≤ 40 := by unfold lensOf; rw [List.length_map]; exact h.small.1
theorem shapes_any (A C : Option Addr) (cap cap2 : Nat) (p q : List (List Int)) (w : World) (hp : p.length ≤ 9223372036854775807) (hq : q.length ≤ 9223372036854775807) (h : SR w w.heap.size A p) (h2 : SR w w.heap.size C q) :
 Calls Tryz.prog 146 #[.slice A p.length cap, .slice C q.length cap2] w fun e w' => ShsOut e p q ∧ Below w.heap.size w w' := by
 go_enter Tryz.func146, Tryz.ntmps146
 go_wp2_with (first | (go_at_call 134; refine (shape_any A cap p _ hp h).mono ?_) | fail)
 rintro e w1 ⟨⟨k1, A1, c1, xs, rfl, hs1, hz1, hk1⟩, hb1⟩
 have h3 := h2.keep hb1
 have HS1 := Lib.hid hs1
 have HZ1 := Lib.hid hz1
 have HK1 := Lib.hid hk1
 have HB1 := Lib.hid hb1
 clear hs1 hz1 hk1 hb1
 go_wp2_with (first | (go_at_call 134; refine (shape_any C cap2 q _ hq h3).mono ?_) | fail)
 rintro e w2 ⟨⟨k2, A2, c2, ys, rfl, hs2, hz2, hk2⟩, hb2⟩
 have HS2 := Lib.hid hs2
 have HZ2 := Lib.hid hz2
 have HK2 := Lib.hid hk2
 have HS1' := Lib.hid (HS1.out.keep hb2)
 have HB2 := Lib.hid (below_call HB1.out (Nat.le_refl _) hb2)
 clear hs2 hz2 hk2 hb2 HS1 HB1
 by_cases hk1 : k1 = 0
 · obtain ⟨ok1, e1⟩ := HZ1.out hk1
   have OK1 := Lib.hid ok1
   have E1 := Lib.hid e1
   subst hk1
   clear ok1 e1 HZ1 HK1
   by_cases hk2 : k2 = 0
   · obtain ⟨ok2, e2⟩ := HZ2.out hk2
     have OK2 := Lib.hid ok2
     have l1 : xs.length ≤ 40 := by rw [E1.out]; exact lensOf_len OK1.out
     have l2 : ys.length ≤ 40 := by rw [e2]; exact lensOf_len ok2
     have hiff := lens_same OK1.out OK2.out
     rw [← E1.out, ← e2] at hiff
     have HI := Lib.hid hiff
     subst hk2
     clear ok2 e2 HZ2 HK2 hiff
     go_wp2_with (first | (go_at_call 184; refine (equal_any A1 A2 c1 c2 xs ys _ (by omega) (by omega) HS1'.out HS2.out).mono ?_) | fail)
     rintro e w3 ⟨rfl, hb3⟩
     have hW3 := below_call HB2.out (Nat.le_refl _) hb3
     by_cases hxy : xs = ys
     · have dx : decide (xs = ys) = true := decide_eq_true hxy
       have HSH := Lib.hid (HI.out.1 hxy)
       rw [dx]
       clear hxy dx
       go_wp2
       go_ret
       exact ⟨⟨0, rfl, fun _ => ⟨OK1.out, OK2.out, HSH.out⟩, fun _ => rfl⟩, hW3⟩
     · have dx : decide (xs = ys) = false := decide_eq_false hxy
       have HNO := Lib.hid (fun hh => hxy (HI.out.2 hh))
       rw [dx]
       clear hxy dx
       go_wp2
       go_ret
       exact ⟨⟨3, rfl, fun e => absurd e (by decide), fun hh => absurd hh.2.2 HNO.out⟩, hW3⟩
   · have dk : (k2 != 0) = true := by simpa using hk2
     have HN2 := Lib.hid hk2
     go_wp2
     go_ret
     exact ⟨⟨k2, rfl, fun e => absurd e HN2.out, fun hh => HK2.out hh.2.1⟩, HB2.out⟩
 · have dk : (k1 != 0) = true := by simpa using hk1
   have HN1 := Lib.hid hk1
   go_wp2
   go_ret
   exact ⟨⟨k1, rfl, fun e => absurd e HN1.out, fun hh => HK1.out hh.1⟩, HB2.out⟩
def unD (T : List (List Int)) (row m : Nat) : List (List Int) := T.take m ++ (unb (T.drop m) (row - m)).1
def unX (T : List (List Int)) (row m : Nat) : Int := (unb (T.drop m) (row - m)).2
theorem unD_len {T : List (List Int)} {row m : Nat} (h : m ≤ T.length) : m ≤ (unD T row m).length := by unfold unD; rw [List.length_append, List.length_take]; omega
theorem tab_drop : ∀ {T : List (List Int)} (i : Nat), Tab T → Tab (T.drop i)
 | _, 0, h => h
 | [], _ + 1, _ => trivial
 | _ :: t, i + 1, h => tab_drop (T := t) i h.2.2.2
theorem drop_getD (T : List (List Int)) (i a : Nat) : (T.drop i).getD a [] = T.getD (i + a) [] := by
 rw [List.getD_eq_getElem?_getD, List.getD_eq_getElem?_getD, List.getElem?_drop]
theorem pull_ok {r : List Int} {t : List (List Int)} {i : Nat} (h : Tab (r :: t)) (hi : i < t.length) (hc : (t.getD (i + 1) []).length < (t.getD i []).length) : 0 < r.countP (· < (unb t i).2) := by
 obtain ⟨g1, g2, _⟩ := ins1_unb h.2.2.2 hi hc
 have hhd : t.headD [] = (push1 ((unb t i).1.headD []) (unb t i).2).1 := (congrArg (fun l => l.headD []) g2).symm.trans (ins1_headD _ _)
 have hup' : Up ((unb t i).1.headD []) := by
  cases hq : (unb t i).1 with
  | nil => exact List.Pairwise.nil
  | cons s _ => rw [hq] at g1; exact g1.2.1
 obtain ⟨k, hk1, _⟩ := push_pos (z := (unb t i).2) hup'
 rw [← hhd] at hk1
 obtain ⟨a, ha, haz⟩ := dom_at h.2.2.1 hk1
 exact List.countP_pos_iff.2 ⟨a, List.mem_of_getElem? ha, by simpa using haz⟩
theorem un_start {T : List (List Int)} {row : Nat} (hr : row < T.length) : unD T row row = popRow T row ∧ unX T row row = lastOf (T.getD row []) := by
 have hd : T.drop row = T.getD row [] :: T.drop (row + 1) := by rw [getD_get hr]; exact List.drop_eq_getElem_cons hr
 unfold unD unX
 rw [Nat.sub_self, hd]
 refine ⟨?_, rfl⟩
 unfold popRow unb
 by_cases e : (T.getD row []).length = 1
 · rw [if_pos e, if_pos e]; simp
 · rw [if_neg e, if_neg e, List.set_eq_take_append_cons_drop, if_pos hr]
theorem un_step {T : List (List Int)} {row i : Nat} (ht : Tab T) (hr : row < T.length) (hc : (T.getD (row + 1) []).length < (T.getD row []).length) (hi : i + 1 ≤ row) :
 (unD T row (i + 1)).getD i [] = T.getD i [] ∧ 0 < (T.getD i []).countP (· < unX T row (i + 1)) ∧ (T.getD i []).countP (· < unX T row (i + 1)) ≤ (T.getD i []).length ∧
  unD T row i = put (unD T row (i + 1)) i ((T.getD i []).countP (· < unX T row (i + 1)) - 1) (unX T row (i + 1)) ∧ unX T row i = (T.getD i []).getD ((T.getD i []).countP (· < unX T row (i + 1)) - 1) 0 := by
 have hil : i < T.length := by omega
 have hd : T.drop i = T.getD i [] :: T.drop (i + 1) := by rw [getD_get hil]; exact List.drop_eq_getElem_cons hil
 have htk : T.take (i + 1) = T.take i ++ [T.getD i []] := by rw [List.take_add_one, List.getElem?_eq_getElem hil, getD_get hil]; rfl
 have hri : row - i = (row - (i + 1)) + 1 := by omega
 have htd := tab_drop i ht
 rw [hd] at htd
 have hpo := pull_ok (i := row - (i + 1)) htd (by rw [List.length_drop]; omega) (by rw [drop_getD, drop_getD, show i + 1 + (row - (i + 1) + 1) = row + 1 by omega, show i + 1 + (row - (i + 1)) = row by omega]; exact hc)
 have hlt : (T.take i).length = i := by rw [List.length_take]; omega
 have hD1 : unD T row (i + 1) = T.take i ++ T.getD i [] :: (unb (T.drop (i + 1)) (row - (i + 1))).1 := by unfold unD; rw [htk]; simp
 refine ⟨?_, hpo, List.countP_le_length, ?_, ?_⟩
 · rw [hD1, List.getD_eq_getElem?_getD, List.getElem?_append_right (by omega), hlt, Nat.sub_self]; rfl
 · have hpa := put_at (T.take i) (T.getD i []) (unb (T.drop (i + 1)) (row - (i + 1))).1 ((T.getD i []).countP (· < unX T row (i + 1)) - 1) (unX T row (i + 1))
   rw [hlt] at hpa
   rw [hD1, hpa]
   conv => lhs; unfold unD
   rw [hri, hd]
   rfl
 · conv => lhs; unfold unX
   rw [hri, hd]
   rfl
def TkOut (e : Ending) (w w' : World) (B : Nat) (v : Value) (hs : List Value) (T : List (List Int)) (row : Nat) : Prop := ∃ v' hs', e = .returned (.tuple #[v', .int .i64 (unb T row).2]) ∧ OwnM w' B v' hs' (unb T row).1 ∧ Fr w w' (foot v hs) ∧ ∀ k, foot v' hs' k → foot v hs k
theorem taken_any {B : Nat} (v : Value) (hs0 : List Value) (T : List (List Int)) (row : Nat) (w : World) (hB : B ≤ w.heap.size) (hm : OwnM w B v hs0 T) (ht : Tab T) (hr : row < T.length) (hc : (T.getD (row + 1) []).length < (T.getD row []).length) (hsm : T.length ≤ 1000 ∧ ∀ i, (T.getD i []).length ≤ 1000) :
 Calls Tryz.prog 187 #[v, .int .i64 row] w fun e w' => TkOut e w w' B v hs0 T row ∧ Below B w w' := by
 have hmo := hm.out
 obtain ⟨G, c, rfl, hG1, hG2⟩ := hmo.form (by omega)
 have hT1 := hsm.1
 have hrl := hsm.2 row
 have HSM := Lib.hid hsm.2
 have HT := Lib.hid ht
 have HC := Lib.hid hc
 have hpos : 0 < (T.getD row []).length := by omega
 obtain ⟨gr, cr, hhr, hcc, hor, hg1, hg2⟩ := hm.row (r := row) hr hpos
 have hcG1 := (own_cap hmo).1
 have hcG2 := (own_cap hmo).2
 have hfz := hmo.frozenAt row
 have hcap := (own_cap hor).1
 have hcap2 := (own_cap hor).2
 have hck := own_get hor (getD_some (l := T.getD row []) (j := (T.getD row []).length - 1) (by omega))
 have hcut := hm.cutRow (i := row) hr hhr (J := (T.getD row []).length - 1) (by omega)
 have hfr0 := (Fr.refl w (foot (.slice (some ⟨G, 0, none⟩) T.length c) hs0)).setCell (a := ⟨G, row, none⟩) (y := .slice (some ⟨gr, 0, none⟩) ((T.getD row []).length - 1) cr) (foot_top rfl)
 have hW0 := (Below.refl B w).setCell (p := ⟨G, row, none⟩) hG1 (.slice (some ⟨gr, 0, none⟩) ((T.getD row []).length - 1) cr)
 have hft : ∀ k, foot (.slice (some ⟨G, 0, none⟩) T.length c) (hs0.set row (.slice (some ⟨gr, 0, none⟩) ((T.getD row []).length - 1) cr)) k → foot (.slice (some ⟨G, 0, none⟩) T.length c) hs0 k := fun k hk => foot_same (fun k' hk' => by
  have hk2 : (some gr : Option Nat) = some k' := hk'
  cases hk2
  exact foot_row (i := row) (by rw [hm.len]; exact hr) (by rw [hhr]; rfl)) hk
 have hst := un_start hr
 have hdl : (T.getD row []).take ((T.getD row []).length - 1) = (T.getD row []).dropLast := List.dropLast_eq_take.symm
 rw [hdl] at hcut
 have hone : (T.getD row []).length = 1 → popRow T row = T.take row := fun e => by unfold popRow; rw [if_pos e]
 have hmany : (T.getD row []).length ≠ 1 → popRow T row = T.set row (T.getD row []).dropLast := fun e => by unfold popRow; rw [if_neg e]
 have hxl : (T.getD row []).getD ((T.getD row []).length - 1) 0 = lastOf (T.getD row []) := rfl
 rw [hxl, ← hst.2] at hck
 have HST := Lib.hid hst.1
 have HCUT := Lib.hid hcut
 have HONE := Lib.hid hone
 have HMANY := Lib.hid hmany
 have HFR0 := Lib.hid hfr0
 have HW0 := Lib.hid hW0
 have HFT := Lib.hid hft
 obtain ⟨L, hL⟩ : ∃ L, L = (T.getD row []).length := ⟨_, rfl⟩
 obtain ⟨x0, hx0⟩ : ∃ x0, x0 = unX T row row := ⟨_, rfl⟩
 rw [← hL] at hcc hcap hrl hpos HCUT HONE HMANY HFR0 HW0 HFT hck
 rw [← hx0] at hck
 have HX0 := Lib.hid hx0
 clear hm hmo ht hc hsm hhr hor hcut hfr0 hW0 hft hst hdl hone hmany hxl hL hx0
 go_enter Tryz.func187, Tryz.ntmps187
 go_upto_if 34 with fail
 go_cut [0] (fun tv wz => ∃ (hs1 : List Value), tv = .slice (some ⟨G, 0, none⟩) (unD T row row).length c ∧ OwnM wz B (.slice (some ⟨G, 0, none⟩) (unD T row row).length c) hs1 (unD T row row) ∧ Fr w wz (foot (.slice (some ⟨G, 0, none⟩) T.length c) hs0) ∧ (∀ k, foot (.slice (some ⟨G, 0, none⟩) (unD T row row).length c) hs1 k → foot (.slice (some ⟨G, 0, none⟩) T.length c) hs0 k) ∧ Below B w wz)
 case first =>
  by_cases hL1 : L = 1
  · subst hL1
    have dz : (((1 : Nat) : Int) - 1 == 0) = true := by decide
    have dz2 : decide (((1 : Nat) : Int) - 1 = 0) = true := by decide
    have he : unD T row row = T.take row := HST.out.trans (HONE.out rfl)
    have hlen : (unD T row row).length = row := by rw [he, List.length_take]; omega
    have htk := HCUT.out.takeRows (i := row) (by rw [List.length_set]; omega)
    have e1 : List.take row (T.set row (T.getD row []).dropLast) = unD T row row := by
     rw [he, List.take_set, List.set_eq_of_length_le (by rw [List.length_take]; omega)]
    rw [e1] at htk
    have HTK := Lib.hid htk
    have HLEN := Lib.hid hlen
    clear hlen he e1 htk
    go_wp2
    go_meet
    exact ⟨_, by rw [HLEN.out], by rw [HLEN.out]; exact HTK.out, HFR0.out, fun k hk => HFT.out k (by
     rw [HLEN.out] at hk
     rcases foot_take hk with h5 | h5
     · exact .inl h5
     · exact .inr h5), HW0.out⟩
  · have dz : ((L : Int) - 1 == 0) = false := beq_eq_false_iff_ne.2 (by omega)
    have dz2 : decide ((L : Int) - 1 = 0) = false := decide_eq_false (by omega)
    have he : unD T row row = T.set row (T.getD row []).dropLast := HST.out.trans (HMANY.out hL1)
    have hlen : (unD T row row).length = T.length := by rw [he, List.length_set]
    have hcut := HCUT.out
    rw [← he] at hcut
    have HCUT2 := Lib.hid hcut
    have HLEN := Lib.hid hlen
    clear hlen he hcut
    go_wp2
    go_meet
    exact ⟨_, by rw [HLEN.out], by rw [HLEN.out]; exact HCUT2.out, HFR0.out, fun k hk => HFT.out k (by rw [HLEN.out] at hk; exact hk), HW0.out⟩
 case rest =>
  obtain ⟨hs1, rfl, hm, hfr, hft, hW⟩ := hcut
  have HFT2 := Lib.hid hft
  have hN := unD_len (T := T) (row := row) (m := row) (by omega)
  obtain ⟨N, hNe⟩ : ∃ N, N = (unD T row row).length := ⟨_, rfl⟩
  rw [← hNe] at hm hN HFT2 ⊢
  have HX0' : Hid (x0 = unX T row row) := HX0
  have HM1 := Lib.hid hm
  have HFR1 := Lib.hid hfr
  have HW1 := Lib.hid hW
  clear hm hfr hft hW hNe HST HCUT HONE HMANY HFR0 HW0 HFT hcc hck hfz
  go_wp2
  go_loopw [7, 8] (fun xv iv wr => ∃ (m : Nat) (z x : Int), m ≤ row ∧ iv = .int .i64 z ∧ z + 1 = (m : Int) ∧ xv = .int .i64 x ∧ x = unX T row m ∧ OwnM wr B (.slice (some ⟨G, 0, none⟩) N c) hs1 (unD T row m) ∧ Fr w wr (foot (.slice (some ⟨G, 0, none⟩) T.length c) hs0) ∧ Below B w wr) (fun _ iv _ => (intOf iv + 1).toNat)
  case atStart => exact ⟨row, (row : Int) - 1, x0, Nat.le_refl _, rfl, by omega, rfl, HX0'.out, HM1.out, HFR1.out, HW1.out⟩
  case round =>
   clear HM1 HFR1 HW1 HX0'
   obtain ⟨m, z, x, hmr, rfl, hz, rfl, hx, hm, hfr, hW⟩ := hrel
   have HM := Lib.hid hm
   have HFR := Lib.hid hfr
   have HW := Lib.hid hW
   have hsz := Nat.le_trans hB hW.size
   by_cases hz0 : 0 ≤ z
   · obtain ⟨i, rfl⟩ : ∃ i : Nat, z = i := ⟨z.toNat, by omega⟩
     have him : m = i + 1 := by omega
     subst him
     have di : decide ((0 : Int) ≤ (i : Int)) = true := decide_eq_true hz0
     obtain ⟨s1, s2, s3, s4, s5⟩ := un_step HT.out hr HC.out hmr
     rw [← hx] at s2 s3 s4 s5
     have hil : i < (unD T row (i + 1)).length := by have := unD_len (T := T) (row := row) (m := i + 1) (by omega); omega
     have hNl := hm.n_eq
     have hup := HT.out.upD i
     have hrl1 := HSM.out i
     have hmo := hm.out
     rw [← hNl] at hmo
     obtain ⟨gi, ci, hhr, hcc, hor, hg1, hg2⟩ := hm.row (r := i) hil (by rw [s1]; omega)
     rw [s1] at hhr hcc hor
     have hbs := search_any (some ⟨gi, 0, none⟩) ci (T.getD i []) x wr (by omega) hup (Sl.of_own hor)
     have hstI := hm.setIn (r := i) (g := gi) (c := ci) hil (by rw [s1]; exact hhr) ((T.getD i []).countP (· < x) - 1) x
     have hstI' : OwnM _ _ _ hs1 (put (unD T row (i + 1)) i ((T.getD i []).countP (· < x) - 1) x) := hstI
     rw [← s4] at hstI'
     have hck := own_get hor (getD_some (l := T.getD i []) (j := (T.getD i []).countP (· < x) - 1) (by omega))
     rw [← s5] at hck
     have hfk := hor.frozenAt ((T.getD i []).countP (· < x) - 1)
     have hcp1 := (own_cap hor).1
     have hcp2 := (own_cap hor).2
     have hcpG := (own_cap hmo).1
     have hcpG2 := (own_cap hmo).2
     have hfoot : foot (.slice (some ⟨G, 0, none⟩) T.length c) hs0 gi := HFT2.out gi (foot_row (i := i) (by rw [hm.len]; exact hil) (by rw [hhr]; rfl))
     obtain ⟨k, hk⟩ : ∃ k, k = (T.getD i []).countP (· < x) := ⟨_, rfl⟩
     rw [← hk] at s2 s3 hbs hstI' hck hfk
     obtain ⟨q, hq⟩ : ∃ q, q = (T.getD i []).length := ⟨_, rfl⟩
     rw [← hq] at s3 hcc hcp1 hrl1 hbs
     obtain ⟨y, hy⟩ : ∃ y, y = unX T row i := ⟨_, rfl⟩
     rw [← hy] at hck
     have HY := Lib.hid hy
     have HFO := Lib.hid hfoot
     have HBS := Lib.hid hbs
     have HST2 := Lib.hid hstI'
     have hiN : i < N := by omega
     have hfrs := fun n => (((HFR.out.drewN n).setCell (a := ⟨gi, k - 1, none⟩) (y := .int .i64 x) HFO.out))
     have HFRS := Lib.hid hfrs
     clear hx s1 s4 s5 hNl hup hmo hhr hor hbs hstI hstI' hk hq hy hfoot hm hfr hW hfrs
     go_wp2_with (first | (go_at_call 202; refine HBS.out.mono ?_) | fail)
     rintro e w4 ⟨⟨zz, rfl⟩, n, rfl⟩
     have hcc5 : (wr.drewN n).cell? ⟨G, i, none⟩ = some (.slice (some ⟨gi, 0, none⟩) q ci) := hcc
     have hck5 : (wr.drewN n).cell? ⟨gi, k - 1, none⟩ = some (.int .i64 y) := hck
     have hfk5 : (wr.drewN n).frozen? ⟨gi, k - 1, none⟩ = false := hfk
     have hst5 : OwnM ((wr.drewN n).setCell ⟨gi, k - 1, none⟩ (.int .i64 x)) B (.slice (some ⟨G, 0, none⟩) N c) hs1 (unD T row i) := HST2.out.drewN n
     have hfr5 := HFRS.out n
     have hW5 := (below_drewN HW.out n).setCell (p := ⟨gi, k - 1, none⟩) hg1 (.int .i64 x)
     obtain ⟨w5, hw5⟩ : ∃ w5, w5 = wr.drewN n := ⟨_, rfl⟩
     rw [← hw5] at hcc5 hck5 hfk5 hst5 hfr5 hW5 ⊢
     have HST5 := Lib.hid hst5
     have HFR5 := Lib.hid hfr5
     have HW5 := Lib.hid hW5
     clear hw5 hst5 hfr5 hW5 HST2 HFRS HM HW HFR hcc hck hfk hg2
     go_wp2
     go_region
     go_wp2
     go_roundw
     case rel => exact ⟨i, (i : Int) - 1, y, by omega, rfl, by omega, rfl, HY.out, HST5.out.drewN 1, HFR5.out.drewN 1, below_drewN HW5.out 1⟩
     case measure => simp [intOf]
   · have di : decide ((0 : Int) ≤ z) = false := decide_eq_false hz0
     have hm0 : m = 0 := by omega
     subst hm0
     have hmm := HM.out
     have e1 : unD T row 0 = (unb T row).1 := by unfold unD; simp
     have e2 : x = (unb T row).2 := by rw [hx]; unfold unX; simp
     rw [e1] at hmm
     have HM2 := Lib.hid hmm
     have HX2 := Lib.hid e2
     clear e1 e2 hmm hx hm hfr hW
     go_wp2
     go_ret2
     exact ⟨⟨_, hs1, by rw [← HX2.out]; rfl, HM2.out, HFR.out, HFT2.out⟩, HW.out⟩
end
end Go.Proofs.YtpmkdihencepnaaGreatDoor
