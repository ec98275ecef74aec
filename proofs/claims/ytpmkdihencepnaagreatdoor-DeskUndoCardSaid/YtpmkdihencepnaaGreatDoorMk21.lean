/- Part of the proof. -/
import Derived.Ground.Names2Prog
import Derived.Shelf.Lay
import Derived.Shelf.Slices.Delete
import Derived.Lib.OwnBridge
import Derived.OwnWalk
import Derived.Test.YtpmkdihencepnaaGreatDoorMk01
import Derived.Test.YtpmkdihencepnaaGreatDoorMk03
import Derived.Test.YtpmkdihencepnaaGreatDoorMk07
import Derived.Test.YtpmkdihencepnaaGreatDoorMk17
import Derived.Test.YtpmkdihencepnaaGreatDoorMk18
import Derived.Test.YtpmkdihencepnaaGreatDoorMk20
set_option maxHeartbeats 16000000
set_option maxRecDepth 100000
namespace Go.Proofs.YtpmkdihencepnaaGreatDoor
section
def IsCode (c : List Int) : Prop := ∀ i, i < c.length → 0 ≤ c.getD i 0 ∧ c.getD i 0 ≤ (c.length : Int) - 1 - i
instance (c : List Int) : Decidable (IsCode c) := by unfold IsCode; infer_instance
theorem codeOf_snoc (l r : List Int) : codeOf (l ++ r) = (List.range l.length).map (fun i => ((l.drop (i + 1)).countP (fun m => decide (m < l.getD i 0)) + r.countP (fun m => decide (m < l.getD i 0)) : Nat) |> fun n : Nat => (n : Int)) ++ codeOf r := by
 induction l with
 | nil => simp
 | cons x l ih =>
  rw [List.cons_append, codeOf_cons, ih, List.length_cons, List.range_succ_eq_map, List.map_cons, List.map_map, List.countP_append]
  simp only [List.cons_append]
  congr 1
def FromSt (n : Nat) (c : List Int) (out lf : List Int) : Prop :=
 (out ++ lf).Perm (upTo n) ∧ lf.Pairwise (· < ·) ∧ (∀ r, r.Perm lf → (codeOf (out ++ r)).take out.length = c.take out.length)
theorem fromSt_zero (c : List Int) : FromSt c.length c [] (upTo c.length) := by
 refine ⟨List.Perm.refl _, ?_, fun r hr => by simp⟩
 unfold upTo
 rw [List.pairwise_map]
 exact List.pairwise_lt_range.imp (fun {a b} h => by omega)
theorem asc_count {lf : List Int} (h : lf.Pairwise (· < ·)) {k : Nat} (hk : k < lf.length) : (lf.take k ++ lf.drop (k + 1)).countP (fun m => decide (m < lf[k])) = k := by
 rw [List.countP_append]
 have h1 : (lf.take k).countP (fun m => decide (m < lf[k])) = (lf.take k).length := by
  rw [List.countP_eq_length]
  intro a ha
  obtain ⟨j, hj, rfl⟩ := List.getElem_of_mem ha
  rw [List.length_take] at hj
  rw [List.getElem_take]
  exact decide_eq_true (List.pairwise_iff_getElem.1 h j k (by omega) hk (by omega))
 have h2 : (lf.drop (k + 1)).countP (fun m => decide (m < lf[k])) = 0 := by
  rw [List.countP_eq_zero]
  intro a ha
  obtain ⟨j, hj, rfl⟩ := List.getElem_of_mem ha
  rw [List.length_drop] at hj
  rw [List.getElem_drop]
  have := List.pairwise_iff_getElem.1 h k (k + 1 + j) hk (by omega) (by omega)
  simp; omega
 rw [h1, h2, List.length_take]; omega
theorem take_drop_perm {lf : List Int} {k : Nat} (hk : k < lf.length) : (lf[k] :: (lf.take k ++ lf.drop (k + 1))).Perm lf := by
 conv => rhs; rw [← List.take_append_drop k lf, List.drop_eq_getElem_cons hk]
 exact List.perm_middle.symm
theorem FromSt.step {n : Nat} {c out lf : List Int} (h : FromSt n c out lf) (hn : c.length = n) (ho : out.length < n) {k : Nat} (hk : k < lf.length) (hc : c.getD out.length 0 = k) :
 FromSt n c (out ++ [lf.getD k 0]) (lf.take k ++ lf.drop (k + 1)) := by
 obtain ⟨h1, h2, h3⟩ := h
 have hp := take_drop_perm hk
 rw [getD_get hk]
 refine ⟨?_, ?_, fun r hr => ?_⟩
 · rw [List.append_assoc]
   exact (hp.append_left out).trans h1
 · have hs : (lf.take k ++ lf.drop (k + 1)).Sublist lf := by
    conv => rhs; rw [← List.take_append_drop k lf]
    exact (List.Sublist.refl _).append (List.drop_sublist_drop_left lf (by omega))
   exact h2.sublist hs
 · rw [List.append_assoc, List.length_append, List.length_singleton]
   have h4 := h3 ([lf[k]] ++ r) ((hr.cons lf[k]).trans hp)
   have hlen : out.length < (codeOf (out ++ ([lf[k]] ++ r))).length := by rw [codeOf_length]; simp
   rw [take_snoc hlen, take_snoc (show out.length < c.length by omega), h4]
   congr 2
   simp only [codeOf_snoc out, List.getElem_append]
   rw [_root_.dif_neg (by simp)]
   simp only [List.length_map, List.length_range, Nat.sub_self]
   rw [← getD_get (d := 0), ← getD_get (d := 0) (xs := c), hc]
   simp only [List.singleton_append, codeOf_cons]
   rw [List.getD_cons_zero, hr.countP_eq, asc_count h2 hk]
theorem FromSt.done {n : Nat} {c out lf : List Int} (h : FromSt n c out lf) (hn : c.length = n) (ho : out.length = n) : IsPerm out ∧ codeOf out = c := by
 obtain ⟨h1, h2, h3⟩ := h
 have hl := h1.length_eq
 rw [List.length_append, length_upTo] at hl
 obtain rfl : lf = [] := List.eq_nil_of_length_eq_zero (by omega)
 have h4 := h3 [] (List.Perm.refl _)
 rw [List.append_nil] at h1 h4
 rw [List.take_of_length_le (by rw [codeOf_length]; exact Nat.le_refl _), List.take_of_length_le (by omega)] at h4
 exact ⟨IsPerm.of_perm h1 (isPerm_upTo n), h4⟩
theorem FromSt.len {n : Nat} {c out lf : List Int} (h : FromSt n c out lf) : out.length + lf.length = n := by
 have := h.1.length_eq
 rwa [List.length_append, length_upTo] at this
end
end Go.Proofs.YtpmkdihencepnaaGreatDoor
namespace Go.Proofs.YtpmkdihencepnaaGreatDoor
end Go.Proofs.YtpmkdihencepnaaGreatDoor
namespace Go.Proofs.YtpmkdihencepnaaGreatDoor
section
open Go.RowKit
theorem times_err (A A' : Option Addr) (cap cap' : Nat) (p q : List Int) (w : World) (hp : p.length ≤ 9223372036854775807) (hq : q.length ≤ 9223372036854775807) (hc : pairChk p q ≠ 0)
 (h : Sl w w.heap.size A (ints p)) (h' : Sl w w.heap.size A' (ints q)) :
 Calls Tryz.prog 95 #[.slice A p.length cap, .slice A' q.length cap'] w fun e w' => e = .returned (.tuple #[.slice none 0 0, .int .i64 (pairChk p q)]) ∧ Below w.heap.size w w' := by
 obtain ⟨c, hcc⟩ : ∃ c, c = pairChk p q := ⟨_, rfl⟩
 have hd : (c != 0) = true := by rw [hcc]; simpa using hc
 have HC := Lib.hid hcc
 clear hc hcc
 go_enter Tryz.func95, Tryz.ntmps95
 go_wp2_with fail
 refine (ppair_any _ _ _ _ _ _ _ hp hq h h').mono ?_
 rintro e w1 ⟨rfl, hb1⟩
 rw [← HC.out]
 go_wp2
 go_ret2
 exact ⟨by rw [← HC.out]; rfl, hb1⟩
def tmsTo (p q : List Int) (i : Nat) : List Int := (tms p q).take i ++ List.replicate (p.length - i) 0
theorem tmsTo_length {p q : List Int} {i : Nat} (hl : p.length = q.length) (hi : i ≤ p.length) : (tmsTo p q i).length = p.length := by simp [tmsTo, tms_length]; omega
theorem tmsTo_set {p q : List Int} {i : Nat} (hl : p.length = q.length) (hi : i < p.length) : (tmsTo p q i).set i (at1 p (q.getD i 0)) = tmsTo p q (i + 1) := by
 have hlt : i < (tms p q).length := by rw [tms_length]; omega
 unfold tmsTo
 rw [List.set_append_right _ _ (by rw [List.length_take]; omega), List.length_take, Nat.min_eq_left (by omega), Nat.sub_self,
  show p.length - i = (p.length - (i + 1)) + 1 by omega, List.replicate_succ, List.set_cons_zero, take_snoc hlt, ← getD_get (d := 0) hlt, tms_getD (by omega)]
 simp
theorem times_ok (A A' : Option Addr) (cap cap' : Nat) (p q : List Int) (w : World) (hc : pairChk p q = 0) (h : Sl w w.heap.size A (ints p)) (h' : Sl w w.heap.size A' (ints q)) :
 Calls Tryz.prog 95 #[.slice A p.length cap, .slice A' q.length cap'] w fun e w' => Tol0 (fun xs => xs = tms p q) w.heap.size e w' ∧ Below w.heap.size w w' := by
 obtain ⟨hp0, hq0, hl⟩ := pairChk_zero.1 hc
 obtain ⟨hp40, hpp⟩ := permChk_zero hp0
 obtain ⟨hq40, hqq⟩ := permChk_zero hq0
 have HC := Lib.hid hc
 have HQ := Lib.hid hqq
 have HL := Lib.hid hl
 clear hc hp0 hq0 hpp hqq hl
 go_enter Tryz.func95, Tryz.ntmps95
 go_wp2_with fail
 refine (ppair_any _ _ _ _ _ _ _ (by omega) (by omega) h h').mono ?_
 rintro e w1 ⟨rfl, hb1⟩
 rw [HC.out]
 have h1 := (h.below hb1)
 have h1' := (h'.below hb1)
 go_wp2_with (at_make; refine wpList_mk rfl (.tmp 17) (.tmp 17) rfl p.length rfl rfl (by omega) (Nat.le_refl _) (fun w2 hown2 hb2 hz2 => ?_))
 have HO2 := Lib.hid hown2
 clear hown2
 go_loopw [21] (fun iv wr => ∃ (i : Nat), i ≤ q.length ∧ iv = .int .i64 i ∧ wr.ownsRow w1.heap.size 3 1 (.slice (some ⟨w1.heap.size, 0, none⟩) p.length p.length) p.length (ints (tmsTo p q i)) ∧ Below w1.heap.size w1 wr) (fun iv _ => q.length - (intOf iv).toNat)
 case atStart => exact ⟨0, by omega, rfl, by simpa [tmsTo] using HO2.out, hb2⟩
 case round =>
  obtain ⟨i, hi, rfl, hown, hbl⟩ := hrel
  have HO := Lib.hid hown
  clear hown
  by_cases hlt : i < q.length
  · obtain ⟨b', o', rfl, hb'⟩ := h1'.addr (by omega)
    obtain ⟨b, o, rfl, hb⟩ := h1.addr (by have := HL.out; omega)
    have hr := HQ.out.getD_range hlt
    have hcq := getD_cell (h1'.below (hbl.mono hb1.size)) hlt
    have hlp : i < p.length := by have := HL.out; omega
    have hset := tmsTo_set (p := p) (q := q) HL.out hlp
    have hln := HL.out
    obtain ⟨n, hn⟩ : ∃ x, x = q.getD i 0 := ⟨_, rfl⟩
    rw [← hn] at hcq hr hset
    have hnl : n ≤ (p.length : Int) := by omega
    have hcp := getD_cell (h1.below (hbl.mono hb1.size)) (show n.toNat - 1 < p.length by omega)
    obtain ⟨x, hx⟩ : ∃ x, x = p.getD (n.toNat - 1) 0 := ⟨_, rfl⟩
    rw [← hx] at hcp
    have hx' : at1 p n = x := by rw [hx]; unfold at1; rw [show (n - 1).toNat = n.toNat - 1 by omega]
    rw [hx'] at hset
    have HSET := Lib.hid hset
    have HX := Lib.hid hx
    have HN := Lib.hid hn
    have hfx := HO.out.frozenAt i
    obtain ⟨z, hox⟩ : ∃ z, wr.cell? ⟨w1.heap.size, i, none⟩ = some (.int .i64 z) :=
     ⟨_, own_get HO.out (List.getElem?_eq_getElem (show i < (tmsTo p q i).length by have := tmsTo_length (p := p) (q := q) (i := i) HL.out (by omega); omega))⟩
    clear hn hx hx' hset hln
    go_wp2
    go_roundw
    case rel => exact ⟨i + 1, by omega, by go_num, by rw [← HSET.out]; exact own_set HO.out _ _, hbl.setCell (by exact Nat.le_refl _) _⟩
    case measure => simp [intOf]; omega
  · obtain rfl : i = q.length := by omega
    have hfin : Hid (tmsTo p q q.length = tms p q) := by
     show _ = _
     unfold tmsTo
     rw [List.take_of_length_le (by rw [tms_length]; exact Nat.le_refl _), HL.out, Nat.sub_self]; simp
    go_wp2
    go_ret2
    exact ⟨tol0_own (xs := tms p q) (by rw [← hfin.out]; exact HO.out.mono hb1.size) rfl, hb1.trans (hbl.mono hb1.size)⟩
theorem own_lowZ {w w' : World} {base g n c B : Nat} {e : TypeId} {cs : List Value} (h : w.ownsRow base e 1 (.slice (some ⟨g, 0, none⟩) n c) n cs) (hg : g < B) (hb : Below B w w') : w'.ownsRow base e 1 (.slice (some ⟨g, 0, none⟩) n c) n cs := by
 refine ⟨h.1, ?_⟩
 rcases h.2 with hn | ⟨g', cap, cur, e1, hg', hh, rest⟩
 · exact .inl hn
 · obtain rfl : g = g' := by
    have : g = g' ∧ c = cap := by simpa using e1
    exact this.1
   exact .inr ⟨g, cap, cur, e1, hg', (hb.block g hg).trans hh, rest⟩
end
section
open Go.RowKit Go.Proofs
open Go.Shelf Go.Lib Go.Sort
shelf_lay Lays2.n23 Nm2 23 at Tryz as Tryz.lays23
theorem delete_one {base g n cap : Nat} {zs : List Int} {i : Nat} (w : World) (h : w.ownsRow base 3 1 (.slice (some ⟨g, 0, none⟩) n cap) n (ints zs)) (hi : i < n) :
 Calls Tryz.prog 129 #[.slice (some ⟨g, 0, none⟩) n cap, .int .i64 i, .int .i64 ((i : Int) + 1)] w fun e w' => e = .returned (.slice (some ⟨g, 0, none⟩) (n - 1) cap) ∧
  w'.ownsRow base 3 1 (.slice (some ⟨g, 0, none⟩) (n - 1) cap) (n - 1) (ints (zs.take i ++ zs.drop (i + 1))) ∧ (∀ B w0, B ≤ base → Below B w0 w → Below B w0 w') ∧ (∀ k, k ≠ g → w'.heap[k]? = w.heap[k]?) ∧ w'.heap.size = w.heap.size := by
 have hc := own_cap h
 obtain ⟨g', cap', e0, hb, hlt, hn, hm, hl, hH⟩ := Lib.holds_of_ownsRow h (by simp)
 obtain ⟨rfl, rfl⟩ : g = g' ∧ cap = cap' := by simpa using e0
 subst hl
 have := Any.slices_Delete_int Tryz.lays23 g 0 cap i (i + 1) zs w hH (by omega) hc.2 (by omega) (by omega)
 refine this.mono ?_
 rintro e w' ⟨rfl, q, rfl⟩
 have hy : (zs.take i ++ zs.drop (i + 1) ++ List.replicate (i + 1 - i) 0).length = zs.length := by simp; omega
 have ho := Lib.ownsRow_putRow (q := q) (k := zs.length - 1) h hy (by omega)
 rw [List.take_left' (by simp; omega)] at ho
 exact ⟨by rw [show i + 1 - i = 1 by omega], ho, fun B w0 hB hw => Lib.below_putRow hw (by omega),
  fun k hk => by simp [putRow, mapBlock, Sort.ahead, Array.getElem?_modify, show g ≠ k from fun e => hk e.symm], by simp [putRow, mapBlock, Sort.ahead]⟩
theorem own_apart {w w' : World} {base n : Nat} {e : TypeId} {v : Value} {cs : List Value} (h : w.ownsRow base e 1 v n cs) (hk : ∀ k, base ≤ k → w'.heap[k]? = w.heap[k]?) : w'.ownsRow base e 1 v n cs := by
 refine ⟨h.1, ?_⟩
 rcases h.2 with hn | ⟨g, cap, cur, e1, hg, hh, rest⟩
 · exact .inl hn
 · exact .inr ⟨g, cap, cur, e1, hg, (hk g hg).trans hh, rest⟩
end
section
open Go.RowKit
def FromSays (c : List Int) (B0 : Nat) (e : Ending) (w' : World) : Prop :=
 (∃ k : Int, k = (if 40 < c.length then 2 else 1) ∧ e = .returned (.tuple #[.slice none 0 0, .int .i64 k]) ∧ ¬ (c.length ≤ 40 ∧ IsCode c)) ∨
 (c.length ≤ 40 ∧ IsCode c ∧ ∃ B out c', e = .returned (.tuple #[.slice B out.length c', .int .i64 0]) ∧ w'.ownsRow B0 3 1 (.slice B out.length c') out.length (ints out) ∧ out.length = c.length ∧ IsPerm out ∧ codeOf out = c)
theorem wpList_mk0 {base : Nat} (w : World) {ops : Array Oper} {rest : List Oper} {o : Oper} {a : Act} {Q : Exit → Act → World → Prop} (hgd : o.guard = none) (l c : Operand)
 (ho : o.op = Op.makeSlice 65 l c) (n : Nat) (hs : a.eval l = .int .i64 0) (hx : a.eval c = .int .i64 n) (hlen : n < 1000000) (hbase : base ≤ w.heap.size)
 (h : ∀ w', w'.ownsRow base 3 1 (.slice (some ⟨w.heap.size, 0, none⟩) 0 n) 0 (ints []) → Below w.heap.size w w' →
  wpList Tryz.prog ops Q rest (a.put o.dst (.slice (some ⟨w.heap.size, 0, none⟩) 0 n)) w') :
 wpList Tryz.prog ops Q (o :: rest) a w := by
 obtain ⟨i0, hi, hz0, hz1, hz2⟩ := info_parts Tryz.infoInt
 exact wpList_make_own w hgd l c 65 ho base 3 i0 (.int .i64 0) 1 Tryz.underlying65 hi hz0 hz1 .i64 .i64 n n hs hx rfl (by rw [hz2]; omega) (by unfold maxLen; omega) hbase
  (fun w' h1 h2 => h w' h1 ((Below.refl _ _).grown h2 (Nat.le_refl _) (by simp)))
theorem fromCode_any (A : Option Addr) (cap : Nat) (c : List Int) (w : World) (hcl : c.length ≤ 9223372036854775807) (h : Sl w w.heap.size A (ints c)) :
 Calls Tryz.prog 82 #[.slice A c.length cap] w fun e w' => FromSays c w.heap.size e w' ∧ Below w.heap.size w w' := by
 by_cases hn : 40 < c.length
 · go_enter Tryz.func82, Tryz.ntmps82
   go_wp2
   go_ret2
   exact ⟨.inl ⟨2, (if_pos (by assumption)).symm, rfl, by omega⟩, Below.refl _ _⟩
 have hn' : c.length ≤ 40 := by omega
 clear hn
 go_enter Tryz.func82, Tryz.ntmps82
 go_wp2
 go_loopw [4, 15] (fun ov iv wr => ∃ (i : Nat), i ≤ c.length ∧ iv = .int .i64 i ∧ wr.ownsRow w.heap.size 3 1 ov i (ints (upTo i)) ∧ Below w.heap.size w wr ∧ (∀ j, j < i → 0 ≤ c.getD j 0 ∧ c.getD j 0 ≤ (c.length : Int) - 1 - j)) (fun _ iv _ => c.length - (intOf iv).toNat)
 case atStart => exact ⟨0, by omega, rfl, World.ownsRow_nil w w.heap.size 3 1, Below.refl _ _, fun j hj => by omega⟩
 case round =>
  obtain ⟨i, hi, rfl, hown, hbl, hok⟩ := hrel
  have HO := Lib.hid hown
  have HK := Lib.hid hok
  clear hown hok
  by_cases hlt : i < c.length
  · obtain ⟨b, o, rfl, hb⟩ := h.addr (by omega)
    have hcx := getD_cell (h.below hbl) hlt
    have hbad : Hid (∀ h : ¬ (0 ≤ c.getD i 0 ∧ c.getD i 0 ≤ (c.length : Int) - 1 - i), ¬ IsCode c) := fun h hc => h (hc i hlt)
    have hgood : Hid (0 ≤ c.getD i 0 ∧ c.getD i 0 ≤ (c.length : Int) - 1 - i → ∀ j, j < i + 1 → 0 ≤ c.getD j 0 ∧ c.getD j 0 ≤ (c.length : Int) - 1 - j) := fun h j hj => by
     by_cases e : j = i
     · subst e; exact h
     · exact HK.out j (by omega)
    obtain ⟨n, hn⟩ : ∃ n, n = c.getD i 0 := ⟨_, rfl⟩
    rw [← hn] at hcx hbad hgood
    clear hn
    have hsn : Hid (upTo i ++ [(i : Int) + 1] = upTo (i + 1)) := by show _ = _; simp [upTo, List.range_succ]
    by_cases h1 : n < 0
    · have hd : decide (n < 0) = true := by simpa using h1
      go_wp2
      go_ret2
      exact ⟨.inl ⟨1, (if_neg (by omega)).symm, rfl, fun hh => hbad.out (by omega) hh.2⟩, hbl⟩
    · have hd : decide (n < 0) = false := by simpa using h1
      by_cases h2 : (c.length : Int) - 1 - i < n
      · have hd2 : decide ((c.length : Int) - 1 - (i : Int) < n) = true := by simpa using h2
        go_wp2
        go_ret2
        exact ⟨.inl ⟨1, (if_neg (by omega)).symm, rfl, fun hh => hbad.out (by omega) hh.2⟩, hbl⟩
      · have hd2 : decide ((c.length : Int) - 1 - (i : Int) < n) = false := by simpa using h2
        go_wp2_with (at_builtin; refine wpList_app1 rfl (.tmp 31) (.tmp 34) rfl rfl ((i : Int) + 1) HO.out rfl (by omega) hbl.size (fun g2 c2 w2 hl2 hb2 => ?_))
        go_roundw
        case rel => exact ⟨i + 1, by omega, by go_num, by rw [← hsn.out]; exact hl2, hbl.trans hb2, hgood.out (by omega)⟩
        case measure => simp [intOf]; omega
  · obtain rfl : i = c.length := by omega
    have HC : Hid (IsCode c) := HK.out
    clear hlt hi HK
    go_wp2_with (at_make; refine wpList_mk0 _ rfl (.const (.int .i64 0)) (.tmp 38) rfl c.length rfl rfl (by omega) (Nat.le_refl _) (fun w2 hown2 hb2 => ?_))
    obtain ⟨wl, rfl⟩ : ∃ wl : World, wl = wr := ⟨_, rfl⟩
    have HO2 := Lib.hid hown2
    have HOK := Lib.hid (own_below HO.out hb2)
    have hlt4 := HO.out.lt
    clear hown2
    go_loopw [4, 7, 42] (fun lv ov iv wr => ∃ (i : Nat) (out lf : List Int), i ≤ c.length ∧ iv = .int .i64 i ∧ out.length = i ∧ FromSt c.length c out lf ∧ wr.ownsRow w.heap.size 3 1 lv lf.length (ints lf) ∧
     wr.ownsRow wl.heap.size 3 1 ov out.length (ints out) ∧ Below w.heap.size w wr ∧ wl.heap.size ≤ wr.heap.size ∧ (∀ k, lv.ownBlock = some k → k < wl.heap.size)) (fun _ _ iv _ => c.length - (intOf iv).toNat)
    case atStart => exact ⟨0, [], upTo c.length, by omega, rfl, rfl, fromSt_zero c, by rw [length_upTo]; exact HOK.out, HO2.out, hbl.trans (hb2.mono hbl.size), hb2.size, fun k hk => (hlt4 k hk).2⟩
    case round =>
     obtain ⟨i, out, lf, hi, rfl, hoi, hst, hown, hown', hbr, hsz, hblk⟩ := hrel
     have HST := Lib.hid hst
     have HL := Lib.hid hown
     have HU := Lib.hid hown'
     have hlen := hst.len
     have HOI := Lib.hid hoi
     clear hst hown hown' hoi
     by_cases hlt : i < c.length
     · obtain ⟨b, o, rfl, hb⟩ := h.addr (by omega)
       have hcx := getD_cell (h.below hbr) hlt
       have hcc := HC.out i hlt
       have hstep : Hid (∀ k : Nat, k < lf.length → c.getD i 0 = k → FromSt c.length c (out ++ [lf.getD k 0]) (lf.take k ++ lf.drop (k + 1))) := fun k hk hck => HST.out.step rfl (by have := HOI.out; omega) hk (by rw [HOI.out]; exact hck)
       obtain ⟨n, hn⟩ : ∃ n, n = c.getD i 0 := ⟨_, rfl⟩
       rw [← hn] at hcx hcc hstep
       clear hn
       obtain ⟨k, rfl⟩ : ∃ k : Nat, n = k := ⟨n.toNat, by omega⟩
       have hkl : k < lf.length := by have := HOI.out; omega
       obtain ⟨g, cl, hlv, hg1, hg2⟩ := HL.out.form (by omega)
       rw [hlv] at HL hblk ⊢
       clear hlv
       have hgl := hblk g rfl
       have hcl := own_get HL.out (i := k) (z := lf.getD k 0) (by rw [getD_get hkl]; exact List.getElem?_eq_getElem _)
       obtain ⟨x, hx⟩ : ∃ x, x = lf.getD k 0 := ⟨_, rfl⟩
       rw [← hx] at hcl
       have HX := Lib.hid hx
       clear hx hblk hcc
       go_wp2_with (first | (at_builtin; refine wpList_app1 rfl (.tmp 46) (.tmp 51) rfl rfl x HU.out rfl (by omega) hsz (fun g3 c3 w3 hl3 hb3 => ?_)) | fail)
       refine (delete_one w3 (own_lowZ HL.out hgl hb3) hkl).mono ?_
       rintro e w4 ⟨rfl, hd1, hd2, hd3, hd4⟩
       have hb4 := hd2 w.heap.size w (Nat.le_refl _) (hbr.trans (hb3.mono hbl.size))
       have hu4 := own_apart hl3 (fun k' hk' => hd3 k' (by omega))
       have hsz4 : wl.heap.size ≤ w4.heap.size := by rw [hd4]; exact Nat.le_trans hsz hb3.size
       have hdl : (lf.take k ++ lf.drop (k + 1)).length = lf.length - 1 := by simp; omega
       have HD1 := Lib.hid hd1
       have HU4 := Lib.hid hu4
       have HDL := Lib.hid hdl
       clear hd1 hd2 hd3 hd4 hu4 hl3 hb3 hdl
       go_wp2
       go_roundw
       case rel =>
        refine ⟨i + 1, out ++ [x], lf.take k ++ lf.drop (k + 1), by omega, by go_num, by simp [HOI.out], ?_, ?_, by simpa using HU4.out, hb4, hsz4, fun k' hk' => ?_⟩
        · have := hstep.out k hkl rfl
          rwa [← HX.out] at this
        · rw [HDL.out]; exact HD1.out
        · simp [Value.ownBlock] at hk'; omega
       case measure => simp [intOf]; omega
     · obtain rfl : i = c.length := by omega
       have hfin := Lib.hid (HST.out.done rfl HOI.out)
       obtain ⟨A', c', hv, _, hs⟩ := own_sliceT (HU.out.mono hbl.size)
       rw [hv]
       clear hv
       go_wp2
       go_ret2
       exact ⟨.inr ⟨hn', HC.out, _, out, _, rfl, hs, HOI.out, hfin.out.1, hfin.out.2⟩, hbr⟩
end
section
open Go.RowKit
def IsPart (p : List Int) : Prop := (∀ i, i < p.length → 1 ≤ p.getD i 0) ∧ ∀ i, i < p.length → 1 ≤ i → p.getD i 0 ≤ p.getD (i - 1) 0
instance (p : List Int) : Decidable (IsPart p) := by unfold IsPart; infer_instance
theorem ext_getD {a b : List Int} (hl : a.length = b.length) (h : ∀ i, i < a.length → a.getD i 0 = b.getD i 0) : a = b := by
 apply List.ext_getElem hl
 intro i h1 h2
 have := h i h1
 rwa [getD_get h1, getD_get h2] at this
theorem IsPart.mono {p : List Int} (h : IsPart p) : ∀ j, j < p.length → ∀ i, i ≤ j → p.getD j 0 ≤ p.getD i 0 := by
 intro j
 induction j with
 | zero => intro _ i hi; rw [show i = 0 by omega]; exact Int.le_refl _
 | succ j ih =>
  intro hj i hi
  by_cases e : i = j + 1
  · rw [e]; exact Int.le_refl _
  · have h1 := h.2 (j + 1) hj (by omega)
    have h2 := ih (by omega) i (by omega)
    simp only [Nat.add_sub_cancel] at h1
    omega
theorem len_le_sum : ∀ (p : List Int), (∀ x ∈ p, 1 ≤ x) → (p.length : Int) ≤ p.sum
 | [], _ => by simp
 | x :: p, h => by
  have h1 := len_le_sum p (fun y hy => h y (List.mem_cons_of_mem _ hy))
  have h2 := h x (by simp)
  simp only [List.length_cons, List.sum_cons]
  omega
theorem IsPart.mem {p : List Int} (h : IsPart p) : ∀ x ∈ p, 1 ≤ x := fun x hx => by
 obtain ⟨i, hi, rfl⟩ := List.getElem_of_mem hx
 have := h.1 i hi
 rwa [getD_get hi] at this
theorem IsPart.len {p : List Int} (h : IsPart p) (hs : p.sum ≤ 40) : p.length ≤ 40 := by
 have := len_le_sum p h.mem
 omega
def CaseA (p : List Int) (k : Nat) : Prop := p.getD (p.length - 1) 0 ≤ k ∧ ¬ (k = p.length ∧ p.getD (p.length - 1) 0 = p.length)
def CaseB (p : List Int) (k : Nat) : Prop := (k : Int) < p.getD (p.length - 1) 0 ∧ ¬ (k = p.length ∧ p.getD (p.length - 1) 0 = p.length + 1)
def IsUnlike (p : List Int) : Prop := ∀ i, i < p.length → 1 ≤ i → p.getD i 0 ≠ p.getD (i - 1) 0
instance (p : List Int) : Decidable (IsUnlike p) := by unfold IsUnlike; infer_instance
def partChk (p : List Int) : Int := if IsPart p then (if p.sum ≤ 40 then 0 else 2) else 1
theorem partChk_zero {p : List Int} : partChk p = 0 ↔ IsPart p ∧ p.sum ≤ 40 := by
 unfold partChk
 by_cases h1 : IsPart p
 · by_cases h2 : p.sum ≤ 40 <;> simp [h1, h2]
 · simp [h1]
end
section
open Go.RowKit
theorem sum_nonneg {xs : List Int} (h : ∀ x ∈ xs, 1 ≤ x) : 0 ≤ xs.sum := by have := len_le_sum xs h; omega
theorem sumTo_le {p : List Int} (h : IsPart p) (k : Nat) : sumTo p k ≤ p.sum ∧ 0 ≤ sumTo p k := by
 have h1 : p.sum = (p.take k).sum + (p.drop k).sum := by rw [← List.sum_append, List.take_append_drop]
 have h2 := sum_nonneg (xs := p.drop k) (fun x hx => h.mem x (List.mem_of_mem_drop hx))
 have h3 := sum_nonneg (xs := p.take k) (fun x hx => h.mem x (List.mem_of_mem_take hx))
 unfold sumTo; omega
theorem sumTo_all (p : List Int) : sumTo p p.length = p.sum := by simp [sumTo]
theorem pcheck_any (A : Option Addr) (cap : Nat) (p : List Int) (w : World) (hcl : p.length ≤ 9223372036854775807) (h : Sl w w.heap.size A (ints p)) :
 Calls Tryz.prog 124 #[.slice A p.length cap] w fun e w' => e = .returned (.int .i64 (partChk p)) ∧ w = w' := by
 go_enter Tryz.func124, Tryz.ntmps124
 go_wp2
 go_loop [10] (fun iv => ∃ i : Nat, i ≤ p.length ∧ iv = .int .i64 i ∧ ∀ j, j < i → 1 ≤ p.getD j 0 ∧ (1 ≤ j → p.getD j 0 ≤ p.getD (j - 1) 0)) (fun iv => p.length - (intOf iv).toNat)
 case atStart => exact ⟨0, by omega, rfl, fun j hj => by omega⟩
 case round =>
  obtain ⟨i, hi, rfl, hok⟩ := hrel
  have HK := Lib.hid hok
  clear hok
  by_cases hlt : i < p.length
  · obtain ⟨b, o, rfl, hb⟩ := h.addr (by omega)
    have hcx := getD_cell h hlt
    have hcy := getD_cell h (show i - 1 < p.length by omega)
    have hnot : Hid (IsPart p → 1 ≤ p.getD i 0 ∧ (1 ≤ i → p.getD i 0 ≤ p.getD (i - 1) 0)) := fun hp => ⟨hp.1 i hlt, fun h1 => hp.2 i hlt h1⟩
    have hyes : Hid (1 ≤ p.getD i 0 ∧ (1 ≤ i → p.getD i 0 ≤ p.getD (i - 1) 0) → ∀ j, j < i + 1 → 1 ≤ p.getD j 0 ∧ (1 ≤ j → p.getD j 0 ≤ p.getD (j - 1) 0)) := fun h1 j hj => by
     by_cases e : j = i
     · subst e; exact h1
     · exact HK.out j (by omega)
    obtain ⟨x, hx⟩ : ∃ x, x = p.getD i 0 := ⟨_, rfl⟩
    obtain ⟨y, hy⟩ : ∃ x, x = p.getD (i - 1) 0 := ⟨_, rfl⟩
    rw [← hx] at hcx hnot hyes
    rw [← hy] at hcy hnot hyes
    clear hx hy
    by_cases h1 : x < 1
    · have hd1 : decide (x < 1) = true := by simpa using h1
      have hfin : Hid (partChk p = 1) := by show _ = _; unfold partChk; rw [if_neg (fun hp => by have := hnot.out hp; omega)]
      go_wp2
      go_ret
      exact ⟨by rw [hfin.out]; rfl, rfl⟩
    · have hd1 : decide (x < 1) = false := by simpa using h1
      by_cases h2 : 0 < i
      · have hd2 : decide ((0 : Int) < (i : Int)) = true := by simp; omega
        by_cases h3 : y < x
        · have hd3 : decide (y < x) = true := by simpa using h3
          have hfin : Hid (partChk p = 1) := by show _ = _; unfold partChk; rw [if_neg (fun hp => by have := hnot.out hp; omega)]
          go_wp2
          go_ret
          exact ⟨by rw [hfin.out]; rfl, rfl⟩
        · have hd3 : decide (y < x) = false := by simpa using h3
          go_wp2
          go_round
          case rel => exact ⟨i + 1, by omega, by go_num, hyes.out ⟨by omega, fun _ => by omega⟩⟩
          case measure => simp [intOf]; omega
      · have hd2 : decide ((0 : Int) < (i : Int)) = false := by simp; omega
        go_wp2
        go_round
        case rel => exact ⟨i + 1, by omega, by go_num, hyes.out ⟨by omega, fun _ => by omega⟩⟩
        case measure => simp [intOf]; omega
  · obtain rfl : i = p.length := by omega
    have HP : Hid (IsPart p) := ⟨fun j hj => (HK.out j hj).1, fun j hj h1 => (HK.out j hj).2 h1⟩
    clear hlt hi HK
    go_wp2
    go_loop [5, 33] (fun lv iv => ∃ i : Nat, i ≤ p.length ∧ iv = .int .i64 i ∧ lv = .int .i64 (40 - sumTo p i) ∧ sumTo p i ≤ 40) (fun _ iv => p.length - (intOf iv).toNat)
    case atStart => exact ⟨0, by omega, rfl, by simp [sumTo], by simp [sumTo]⟩
    case round =>
     obtain ⟨i, hi, rfl, rfl, hs40⟩ := hrel
     have hs0 := (sumTo_le HP.out i).2
     by_cases hlt : i < p.length
     · obtain ⟨b, o, rfl, hb⟩ := h.addr (by omega)
       have hcx := getD_cell h hlt
       have hss := sumTo_succ hlt
       rw [← getD_get (d := 0) hlt] at hss
       have hx1 := HP.out.1 i hlt
       have hle := (sumTo_le HP.out (i + 1)).1
       rw [hss] at hle
       obtain ⟨x, hx⟩ : ∃ x, x = p.getD i 0 := ⟨_, rfl⟩
       obtain ⟨s, hs⟩ : ∃ s, s = sumTo p i := ⟨_, rfl⟩
       rw [← hx] at hcx hss hx1 hle
       rw [← hs] at hs0 hs40 hss hle
       rw [← hs]
       have HSS := Lib.hid hss
       clear hx hs hss
       by_cases h1 : 40 - s < x
       · have hfin : Hid (partChk p = 2) := by show _ = _; unfold partChk; rw [if_pos HP.out, if_neg (by omega)]
         clear hle
         go_wp2
         go_ret
         exact ⟨by rw [hfin.out]; rfl, rfl⟩
       · clear hle
         go_wp2
         go_round
         case rel => exact ⟨i + 1, by omega, by go_num, by rw [HSS.out]; go_num, by rw [HSS.out]; omega⟩
         case measure => simp [intOf]; omega
     · obtain rfl : i = p.length := by omega
       have hfin : Hid (partChk p = 0) := partChk_zero.2 ⟨HP.out, by rw [← sumTo_all]; exact hs40⟩
       clear hs40 hs0
       go_wp2
       go_ret
       exact ⟨by rw [hfin.out]; rfl, rfl⟩
theorem unlike_any (A : Option Addr) (cap : Nat) (p : List Int) (w : World) (hcl : p.length ≤ 1000000) (h : Sl w w.heap.size A (ints p)) :
 Calls Tryz.prog 127 #[.slice A p.length cap] w fun e w' => e = .returned (.bool (decide (IsUnlike p))) ∧ Below w.heap.size w w' := by
 go_enter Tryz.func127, Tryz.ntmps127
 go_wp2
 go_loopw [3] (fun iv wr => ∃ i : Nat, 1 ≤ i ∧ i ≤ max 1 p.length ∧ iv = .int .i64 i ∧ (∀ j, j < i → 1 ≤ j → p.getD j 0 ≠ p.getD (j - 1) 0) ∧ ∃ n, wr = w.drewN n) (fun iv _ => p.length - (intOf iv).toNat)
 case atStart => exact ⟨1, by omega, by omega, by go_num, fun j hj h1 => by omega, 0, rfl⟩
 case round =>
  obtain ⟨i, h1, hi, rfl, hok, n, rfl⟩ := hrel
  have HK := Lib.hid hok
  clear hok
  by_cases hlt : i < p.length
  · obtain ⟨b, o, rfl, hb⟩ := h.addr (by omega)
    have hcx := getD_cell h hlt
    have hcy := getD_cell h (show i - 1 < p.length by omega)
    have hnot : Hid (IsUnlike p → p.getD i 0 ≠ p.getD (i - 1) 0) := fun hp => hp i hlt h1
    have hyes : Hid (p.getD i 0 ≠ p.getD (i - 1) 0 → ∀ j, j < i + 1 → 1 ≤ j → p.getD j 0 ≠ p.getD (j - 1) 0) := fun h1 j hj h2 => by
     by_cases e : j = i
     · subst e; exact h1
     · exact HK.out j (by omega) h2
    obtain ⟨x, hx⟩ : ∃ x, x = p.getD i 0 := ⟨_, rfl⟩
    obtain ⟨y, hy⟩ : ∃ x, x = p.getD (i - 1) 0 := ⟨_, rfl⟩
    rw [← hx] at hcx hnot hyes
    rw [← hy] at hcy hnot hyes
    clear hx hy
    by_cases hxy : x = y
    · have hfin : Hid (decide (IsUnlike p) = false) := by show _ = _; rw [decide_eq_false_iff_not]; exact fun hp => hnot.out hp hxy
      have hd : (x == y) = true := by simpa using hxy
      clear hnot hyes hxy
      go_wp2
      go_quiet (fail)
      go_wp2
      go_ret
      exact ⟨by rw [hfin.out]; rfl, below_drewN (below_drewN (Below.refl _ _) _) _⟩
    · have hd : (x == y) = false := by simpa using hxy
      have hy' := Lib.hid (hyes.out hxy)
      clear hnot hyes hxy
      go_wp2
      go_quiet (fail)
      go_wp2
      go_roundw
      case rel => exact ⟨i + 1, by omega, by omega, by go_num, hy'.out, _, rfl⟩
      case measure => simp [intOf]; omega
  · have hfin : Hid (decide (IsUnlike p) = true) := by show _ = _; rw [decide_eq_true_iff]; exact fun j hj h2 => HK.out j (by omega) h2
    go_wp2
    go_ret
    exact ⟨by rw [hfin.out]; rfl, below_drewN (Below.refl _ _) _⟩
end
section
def v2 (x : Nat) : Nat := ((List.range 6).filter (fun j => x % 2 ^ (j + 1) = 0)).length
def od (x : Nat) : Nat := x / 2 ^ v2 x
theorem dec_all : ∀ x, x < 41 → 0 < x → x = od x * 2 ^ v2 x ∧ od x % 2 = 1 ∧ v2 x < 6 := by decide
theorem uni_all : ∀ n, n < 41 → ∀ j, j < 6 → n % 2 = 1 → n * 2 ^ j < 41 → od (n * 2 ^ j) = n ∧ v2 (n * 2 ^ j) = j := by decide
def bts (t : Nat) : List Nat := (List.range 6).filter (fun j => t.testBit j)
def split1 (x : Int) : List Int := List.replicate (2 ^ v2 x.toNat) ((od x.toNat : Nat) : Int)
def merge1 (p : List Int) (n : Nat) : List Int := (bts (p.count (n : Int))).map (fun j => ((n * 2 ^ j : Nat) : Int))
def odds : List Nat := (List.range 20).map (fun i => 2 * i + 1)
def mergeL (p : List Int) : List Int := odds.flatMap (merge1 p)
def sortD (l : List Int) : List Int := l.mergeSort (fun x y => decide (y ≤ x))
theorem perm_sum {a b : List Int} (h : a.Perm b) : a.sum = b.sum := by
 induction h with
 | nil => rfl
 | cons x _ ih => simp only [List.sum_cons]; omega
 | swap x y l => simp only [List.sum_cons]; omega
 | trans _ _ h1 h2 => omega
theorem sum_rep (k : Nat) (a : Int) : (List.replicate k a).sum = (k : Int) * a := by
 induction k with
 | zero => simp
 | succ k ih => rw [List.replicate_succ, List.sum_cons, ih]; rw [Int.natCast_add, Int.add_mul]; omega
theorem bind_sum (f : Int → List Int) : ∀ l : List Int, (∀ x ∈ l, (f x).sum = x) → (l.flatMap f).sum = l.sum
 | [], _ => rfl
 | x :: l, h => by
  rw [List.flatMap_cons, List.sum_append, h x (List.mem_cons_self ..), bind_sum f l (fun y hy => h y (List.mem_cons_of_mem _ hy)), List.sum_cons]
theorem split1_sum {x : Int} (h1 : 1 ≤ x) (h2 : x ≤ 40) : (split1 x).sum = x := by
 obtain ⟨k, rfl⟩ : ∃ k : Nat, x = k := ⟨x.toNat, by omega⟩
 have h := dec_all k (by omega) (by omega)
 unfold split1
 rw [sum_rep, Int.toNat_natCast]
 conv => rhs; rw [h.1]
 rw [Int.natCast_mul, Int.mul_comm]
theorem split1_mem {x y : Int} (h1 : 1 ≤ x) (h2 : x ≤ 40) (h : y ∈ split1 x) : 1 ≤ y ∧ y % 2 = 1 ∧ y ≤ 40 := by
 obtain ⟨k, rfl⟩ : ∃ k : Nat, x = k := ⟨x.toNat, by omega⟩
 have hd := dec_all k (by omega) (by omega)
 unfold split1 at h
 rw [Int.toNat_natCast] at h
 have e := List.eq_of_mem_replicate h
 have hp : od k ≤ od k * 2 ^ v2 k := Nat.le_mul_of_pos_right _ (Nat.two_pow_pos _)
 omega
theorem part_le {p : List Int} (h : IsPart p) (hs : p.sum ≤ 40) {x : Int} (hx : x ∈ p) : 1 ≤ x ∧ x ≤ 40 := by
 have h1 := h.mem
 refine ⟨h1 x hx, ?_⟩
 obtain ⟨a, b, rfl⟩ := List.append_of_mem hx
 have h2 := len_le_sum a (fun y hy => h1 y (List.mem_append_left _ hy))
 have h3 := len_le_sum b (fun y hy => h1 y (List.mem_append_right _ (List.mem_cons_of_mem _ hy)))
 rw [List.sum_append, List.sum_cons] at hs
 omega
theorem count_le {p : List Int} (h : IsPart p) (hs : p.sum ≤ 40) {n : Nat} (hn : 1 ≤ n) : n * p.count (n : Int) ≤ 40 ∧ p.count (n : Int) < 64 := by
 have h1 := List.filter_append_perm (fun x => x == (n : Int)) p
 have h2 := perm_sum h1
 rw [List.sum_append, List.filter_beq, sum_rep] at h2
 have h3 := len_le_sum (p.filter (fun x => !(x == (n : Int)))) (fun y hy => h.mem y (List.mem_filter.1 hy).1)
 have h4 : ((p.count (n : Int) * n : Nat) : Int) ≤ 40 := by rw [Int.natCast_mul]; omega
 have h5 : p.count (n : Int) * n ≤ 40 := by omega
 refine ⟨by rw [Nat.mul_comm]; exact h5, ?_⟩
 have h6 : p.count (n : Int) * 1 ≤ p.count (n : Int) * n := Nat.mul_le_mul_left _ hn
 omega
end
end Go.Proofs.YtpmkdihencepnaaGreatDoor
