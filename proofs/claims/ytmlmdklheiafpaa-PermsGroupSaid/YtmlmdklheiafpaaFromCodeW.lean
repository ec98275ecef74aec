/-
  perms.FromCode: what it answers.
-/
import Derived.Test.YtmlmdklheiafpaaWordW
import Derived.Test.YtmlmdklheiafpaaDeleteW
import Derived.OwnWalk
namespace Go.Proofs.Ytmlmdklheiafpaa
open Go.RowKit

def codeChk (c : List Int) : Int := if 40 < c.length then 2 else if IsCode c then 0 else 1

def FromSays (c : List Int) (e : Ending) (w' : World) : Prop :=
  (∃ k, k ≠ 0 ∧ e = .returned (.tuple #[.slice none 0 0, .int .i64 k]) ∧ ¬ (c.length ≤ 40 ∧ IsCode c)) ∨
  (c.length ≤ 40 ∧ IsCode c ∧ ∃ B out c', e = .returned (.tuple #[.slice B out.length c', .int .i64 0]) ∧ Sl w' w'.heap.size B (ints out) ∧ out.length ≤ c' ∧ out.length = c.length ∧ IsPerm out ∧ codeOf out = c)

/-- 'make([]int, 0, n)'. -/
theorem wpList_mk0 {base : Nat} (w : World) {ops : Array Oper} {rest : List Oper} {o : Oper} {a : Act} {Q : Exit → Act → World → Prop} (hgd : o.guard = none) (l c : Operand)
    (ho : o.op = Op.makeSlice 22 l c) (n : Nat) (hs : a.eval l = .int .i64 0) (hx : a.eval c = .int .i64 n) (hlen : n < 1000000) (hbase : base ≤ w.heap.size)
    (h : ∀ w', w'.ownsRow base 3 1 (.slice (some ⟨w.heap.size, 0, none⟩) 0 n) 0 (ints []) → Below w.heap.size w w' →
      wpList Try.prog ops Q rest (a.put o.dst (.slice (some ⟨w.heap.size, 0, none⟩) 0 n)) w') :
    wpList Try.prog ops Q (o :: rest) a w := by
  obtain ⟨i0, hi, hz0, hz1, hz2⟩ := info_parts Try.infoInt
  exact wpList_make_own w hgd l c 22 ho base 3 i0 (.int .i64 0) 1 Try.underlying22 hi hz0 hz1 .i64 .i64 n n hs hx rfl (by rw [hz2]; omega) (by unfold maxLen; omega) hbase
    (fun w' h1 h2 => h w' h1 ((Below.refl _ _).grown h2 (Nat.le_refl _) (by simp)))

set_option maxRecDepth 100000 in
set_option maxHeartbeats 2000000 in
theorem fromCode_any (A : Option Addr) (cap : Nat) (c : List Int) (w : World) (hcl : c.length ≤ 9223372036854775807) (h : Sl w w.heap.size A (ints c)) :
    Calls Try.prog 24 #[.slice A c.length cap] w fun e w' => FromSays c e w' ∧ Below w.heap.size w w' := by
  by_cases hn : 40 < c.length
  · go_enter Try.func24, Try.ntmps24
    go_wp2
    go_ret2
    exact ⟨.inl ⟨2, by omega, rfl, by omega⟩, Below.refl _ _⟩
  have hn' : c.length ≤ 40 := by omega
  clear hn
  go_enter Try.func24, Try.ntmps24
  go_wp2
  go_loopw [4, 15] (fun ov iv wr => ∃ (i : Nat), i ≤ c.length ∧ iv = .int .i64 i ∧ wr.ownsRow w.heap.size 3 1 ov i (ints (upTo i)) ∧ Below w.heap.size w wr ∧ (∀ j, j < i → 0 ≤ c.getD j 0 ∧ c.getD j 0 ≤ (c.length : Int) - 1 - j)) (fun _ iv _ => c.length - (intOf iv).toNat)
  case atStart => exact ⟨0, by omega, rfl, World.ownsRow_nil w w.heap.size 3 1, Below.refl _ _, fun j hj => by omega⟩
  case round =>
    obtain ⟨i, hi, rfl, hown, hbl, hok⟩ := hrel
    have HO := Lib.hid hown
    have HK := Lib.hid hok
    clear hown hok
    by_cases hlt : i < c.length
    · obtain ⟨b, o, rfl, hb⟩ := h.addr (by omega)
      have hcx := getD_cell (h.below hbl) hlt
      have hbad : Hid (∀ h : ¬ (0 ≤ c.getD i 0 ∧ c.getD i 0 ≤ (c.length : Int) - 1 - i), ¬ IsCode c) := fun h hc => h (hc i hlt)
      have hgood : Hid (0 ≤ c.getD i 0 ∧ c.getD i 0 ≤ (c.length : Int) - 1 - i → ∀ j, j < i + 1 → 0 ≤ c.getD j 0 ∧ c.getD j 0 ≤ (c.length : Int) - 1 - j) := fun h j hj => by
        by_cases e : j = i
        · subst e; exact h
        · exact HK.out j (by omega)
      obtain ⟨n, hn⟩ : ∃ n, n = c.getD i 0 := ⟨_, rfl⟩
      rw [← hn] at hcx hbad hgood
      clear hn
      have hsn : Hid (upTo i ++ [(i : Int) + 1] = upTo (i + 1)) := by show _ = _; simp [upTo, List.range_succ]
      by_cases h1 : n < 0
      · have hd : decide (n < 0) = true := by simpa using h1
        go_wp2
        go_ret2
        exact ⟨.inl ⟨1, by omega, rfl, fun hh => hbad.out (by omega) hh.2⟩, hbl⟩
      · have hd : decide (n < 0) = false := by simpa using h1
        by_cases h2 : (c.length : Int) - 1 - i < n
        · have hd2 : decide ((c.length : Int) - 1 - (i : Int) < n) = true := by simpa using h2
          go_wp2
          go_ret2
          exact ⟨.inl ⟨1, by omega, rfl, fun hh => hbad.out (by omega) hh.2⟩, hbl⟩
        · have hd2 : decide ((c.length : Int) - 1 - (i : Int) < n) = false := by simpa using h2
          go_wp2_with (at_builtin; refine wpList_app1 rfl (.tmp 31) (.tmp 34) rfl rfl ((i : Int) + 1) HO.out rfl (by omega) hbl.size (fun g2 c2 w2 hl2 hb2 => ?_))
          go_roundw
          case rel => exact ⟨i + 1, by omega, by go_num, by rw [← hsn.out]; exact hl2, hbl.trans hb2, hgood.out (by omega)⟩
          case measure => simp [intOf]; omega
    · obtain rfl : i = c.length := by omega
      have HC : Hid (IsCode c) := HK.out
      clear hlt hi HK
      go_wp2_with (at_make; refine wpList_mk0 _ rfl (.const (.int .i64 0)) (.tmp 38) rfl c.length rfl rfl (by omega) (Nat.le_refl _) (fun w2 hown2 hb2 => ?_))
      obtain ⟨wl, rfl⟩ : ∃ wl : World, wl = wr := ⟨_, rfl⟩
      have HO2 := Lib.hid hown2
      have HOK := Lib.hid (own_below HO.out hb2)
      have hlt4 := HO.out.lt
      clear hown2
      go_loopw [4, 7, 42] (fun lv ov iv wr => ∃ (i : Nat) (out lf : List Int), i ≤ c.length ∧ iv = .int .i64 i ∧ out.length = i ∧ FromSt c.length c out lf ∧ wr.ownsRow w.heap.size 3 1 lv lf.length (ints lf) ∧
          wr.ownsRow wl.heap.size 3 1 ov out.length (ints out) ∧ Below w.heap.size w wr ∧ wl.heap.size ≤ wr.heap.size ∧ (∀ k, lv.ownBlock = some k → k < wl.heap.size)) (fun _ _ iv _ => c.length - (intOf iv).toNat)
      case atStart => exact ⟨0, [], upTo c.length, by omega, rfl, rfl, fromSt_zero c, by rw [length_upTo]; exact HOK.out, HO2.out, hbl.trans (hb2.mono hbl.size), hb2.size, fun k hk => (hlt4 k hk).2⟩
      case round =>
        obtain ⟨i, out, lf, hi, rfl, hoi, hst, hown, hown', hbr, hsz, hblk⟩ := hrel
        have HST := Lib.hid hst
        have HL := Lib.hid hown
        have HU := Lib.hid hown'
        have hlen := hst.len
        have HOI := Lib.hid hoi
        clear hst hown hown' hoi
        by_cases hlt : i < c.length
        · obtain ⟨b, o, rfl, hb⟩ := h.addr (by omega)
          have hcx := getD_cell (h.below hbr) hlt
          have hcc := HC.out i hlt
          have hstep : Hid (∀ k : Nat, k < lf.length → c.getD i 0 = k → FromSt c.length c (out ++ [lf.getD k 0]) (lf.take k ++ lf.drop (k + 1))) := fun k hk hck => HST.out.step rfl (by have := HOI.out; omega) hk (by rw [HOI.out]; exact hck)
          obtain ⟨n, hn⟩ : ∃ n, n = c.getD i 0 := ⟨_, rfl⟩
          rw [← hn] at hcx hcc hstep
          clear hn
          obtain ⟨k, rfl⟩ : ∃ k : Nat, n = k := ⟨n.toNat, by omega⟩
          have hkl : k < lf.length := by have := HOI.out; omega
          obtain ⟨g, cl, hlv, hg1, hg2⟩ := HL.out.form (by omega)
          rw [hlv] at HL hblk ⊢
          clear hlv
          have hgl := hblk g rfl
          have hcl := own_get HL.out (i := k) (z := lf.getD k 0) (by rw [getD_get hkl]; exact List.getElem?_eq_getElem _)
          obtain ⟨x, hx⟩ : ∃ x, x = lf.getD k 0 := ⟨_, rfl⟩
          rw [← hx] at hcl
          have HX := Lib.hid hx
          clear hx hblk hcc
          go_wp2_with (first | (at_builtin; refine wpList_app1 rfl (.tmp 46) (.tmp 51) rfl rfl x HU.out rfl (by omega) hsz (fun g3 c3 w3 hl3 hb3 => ?_)) | fail)
          refine (delete_one w3 (own_low HL.out hgl hb3) hkl).mono ?_
          rintro e w4 ⟨rfl, hd1, hd2, hd3, hd4⟩
          have hb4 := hd2 w.heap.size w (Nat.le_refl _) (hbr.trans (hb3.mono hbl.size))
          have hu4 := own_apart hl3 (fun k' hk' => hd3 k' (by omega))
          have hsz4 : wl.heap.size ≤ w4.heap.size := by rw [hd4]; exact Nat.le_trans hsz hb3.size
          have hdl : (lf.take k ++ lf.drop (k + 1)).length = lf.length - 1 := by simp; omega
          have HD1 := Lib.hid hd1
          have HU4 := Lib.hid hu4
          have HDL := Lib.hid hdl
          clear hd1 hd2 hd3 hd4 hu4 hl3 hb3 hdl
          go_wp2
          go_roundw
          case rel =>
            refine ⟨i + 1, out ++ [x], lf.take k ++ lf.drop (k + 1), by omega, by go_num, by simp [HOI.out], ?_, ?_, by simpa using HU4.out, hb4, hsz4, fun k' hk' => ?_⟩
            · have := hstep.out k hkl rfl
              rwa [← HX.out] at this
            · rw [HDL.out]; exact HD1.out
            · simp [Value.ownBlock] at hk'; omega
          case measure => simp [intOf]; omega
        · obtain rfl : i = c.length := by omega
          have hfin := Lib.hid (HST.out.done rfl HOI.out)
          obtain ⟨A', c', hv, hs, hc'⟩ : ∃ A' c', u7 = .slice A' out.length c' ∧ Sl wr wr.heap.size A' (ints out) ∧ out.length ≤ c' := by
            have ho := HU.out
            rcases ho.2 with ⟨e1, e2⟩ | ⟨g, c, _, e1, _⟩
            · refine ⟨none, 0, by rw [e2]; exact e1, ?_, by omega⟩
              rw [List.eq_nil_of_length_eq_zero e2]; exact Sl.nil _ _ _
            · rw [e1] at ho
              exact ⟨_, c, e1, Sl.of_own ho, (own_cap ho).1⟩
          rw [hv]
          clear hv
          go_wp2
          go_ret2
          exact ⟨.inr ⟨hn', HC.out, _, out, _, rfl, hs, hc', HOI.out, hfin.out.1, hfin.out.2⟩, hbr⟩

end Go.Proofs.Ytmlmdklheiafpaa
