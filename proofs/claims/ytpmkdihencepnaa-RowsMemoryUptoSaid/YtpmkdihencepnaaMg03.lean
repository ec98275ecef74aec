/-
  ferlaw.Rows (printed by wip/mkA.py).
-/
import Derived.Deep.RegionHeld3
import Derived.BigRegion
import Derived.Test.YtpmkdihencepnaaMg01
import Derived.Test.YtpmkdihencepnaaMg02
namespace Go.Proofs.Ytpmkdihencepnaa
open Go.RowKit

theorem getD_take_succ {xs : List (List Int)} {k : Nat} (h : k < xs.length) : xs.take (k + 1) = xs.take k ++ [xs.getD k []] := by
  rw [take_snoc h, getD_get h]

end Go.Proofs.Ytpmkdihencepnaa

/-
  ferlaw.Same, Rows, Tables: what they answer.
-/
namespace Go.Proofs.Ytpmkdihencepnaa
open Go.RowKit

set_option maxHeartbeats 1000000 in
theorem same_anyA (A A' : Option Addr) (cap cap' : Nat) (xs ys : List Int) (w : World) (hx : xs.length ≤ 9223372036854775807) (hy : ys.length ≤ 9223372036854775807)
    (h : Sl w w.heap.size A (ints xs)) (h' : Sl w w.heap.size A' (ints ys)) :
    Calls Try.prog 41 #[.slice A xs.length cap, .slice A' ys.length cap'] w fun e w' => e = .returned (.bool (decide (xs = ys))) ∧ ∃ n, w' = w.drewN n := by
  by_cases hl : xs.length = ys.length
  · have HL := Lib.hid hl
    have hd0 : (((xs.length : Nat) : Int) != ((ys.length : Nat) : Int)) = false := by simp [hl]
    clear hl
    go_enter Try.func41, Try.ntmps41
    go_wp2
    go_loopw [13] (fun iv wr => ∃ (i : Nat), i ≤ xs.length ∧ iv = .int .i64 i ∧ xs.take i = ys.take i ∧ ∃ d, wr = w.drewN d) (fun iv _ => xs.length - (intOf iv).toNat)
    case atStart => exact ⟨0, by omega, rfl, by simp, 0, rfl⟩
    case round =>
      obtain ⟨i, hi, rfl, heq, d, rfl⟩ := hrel
      have HE := Lib.hid heq
      clear heq
      by_cases hlt : i < xs.length
      · have hlt' : i < ys.length := by have := HL.out; omega
        obtain ⟨b, o, rfl, hb, hc⟩ := h.at_ hlt
        obtain ⟨b', o', rfl, hb', hc'⟩ := h'.at_ hlt'
        obtain ⟨x, hxx⟩ : ∃ x, x = xs[i] := ⟨_, rfl⟩
        obtain ⟨y, hyy⟩ : ∃ x, x = ys[i] := ⟨_, rfl⟩
        rw [← hxx] at hc
        rw [← hyy] at hc'
        have HX := Lib.hid hxx
        have HY := Lib.hid hyy
        have hdl : decide (i < xs.length) = true := by simpa using hlt
        clear hxx hyy
        by_cases hxy : x = y
        · have hd : (x != y) = false := by simpa using hxy
          have HXY := Lib.hid hxy
          clear hxy
          go_wp2
          go_quiet (fail)
          go_wp2
          go_roundw
          case rel =>
            refine ⟨i + 1, by omega, by go_num, ?_, _, rfl⟩
            rw [take_snoc hlt, take_snoc hlt', HE.out, ← HX.out, ← HY.out, HXY.out]
          case measure => simp [intOf]; omega
        · have hd : (x != y) = true := by simpa using hxy
          have HXY := Lib.hid hxy
          have hfin : Hid (decide (xs = ys) = false) := by
            show _ = _
            rw [decide_eq_false_iff_not]
            intro e
            subst e
            exact HXY.out (HX.out.trans HY.out.symm)
          clear hxy
          go_wp2
          go_quiet (fail)
          go_wp2
          go_ret
          exact ⟨by rw [hfin.out]; rfl, _, World.drewN_drewN ..⟩
      · have hfin : Hid (decide (xs = ys) = true) := by
          show _ = _
          rw [decide_eq_true_iff]
          have := HE.out
          have hl := HL.out
          rwa [List.take_of_length_le (by omega), List.take_of_length_le (by omega)] at this
        go_wp2
        go_ret
        exact ⟨by rw [hfin.out]; rfl, _, rfl⟩
  · have hd0 : (((xs.length : Nat) : Int) != ((ys.length : Nat) : Int)) = true := by simp; omega
    have hfin : Hid (decide (xs = ys) = false) := by
      show _ = _
      rw [decide_eq_false_iff_not]
      intro e
      subst e
      exact hl rfl
    clear hl
    go_enter Try.func41, Try.ntmps41
    go_wp2
    go_ret
    exact ⟨by rw [hfin.out]; rfl, 0, rfl⟩

theorem same_bA (A A' : Option Addr) (cap cap' : Nat) (xs ys : List Int) (w : World) (hx : xs.length ≤ 9223372036854775807) (hy : ys.length ≤ 9223372036854775807)
    (h : Sl w w.heap.size A (ints xs)) (h' : Sl w w.heap.size A' (ints ys)) :
    Calls Try.prog 41 #[.slice A xs.length cap, .slice A' ys.length cap'] w fun e w' => e = .returned (.bool (decide (xs = ys))) ∧ Below w.heap.size w w' :=
  (same_anyA A A' cap cap' xs ys w hx hy h h').mono fun e w' ⟨h1, n, h2⟩ => ⟨h1, by rw [h2]; exact below_drewN (Below.refl _ _) n⟩

set_option maxRecDepth 100000 in
set_option maxHeartbeats 2000000 in
theorem rows_any (A A' : Option Addr) (cap cap' : Nat) (xs ys : List (List Int)) (w : World) (hx : xs.length ≤ 9223372036854775807) (hy : ys.length ≤ 9223372036854775807) (h : SR w w.heap.size A xs) (h' : SR w w.heap.size A' ys) :
    Calls Try.prog 5 #[.slice A xs.length cap, .slice A' ys.length cap'] w fun e w' => e = .returned (.bool (decide (xs = ys))) ∧ Below w.heap.size w w' := by
  by_cases hl : xs.length = ys.length
  · have HL := Lib.hid hl
    have hd0 : (((xs.length : Nat) : Int) != ((ys.length : Nat) : Int)) = false := by simp [hl]
    clear hl
    go_enter Try.func5, Try.ntmps5
    go_wp2
    go_loopw [13] (fun iv wr => ∃ (i : Nat), i ≤ xs.length ∧ iv = .int .i64 i ∧ xs.take i = ys.take i ∧ Below w.heap.size w wr) (fun iv _ => xs.length - (intOf iv).toNat)
    case atStart => exact ⟨0, by omega, rfl, by simp, Below.refl _ _⟩
    case round =>
      obtain ⟨i, hi, rfl, heq, hW⟩ := hrel
      have HE := Lib.hid heq
      clear heq
      have hwsz := hW.size
      by_cases hlt : i < xs.length
      · have hlt' : i < ys.length := by have := HL.out; omega
        have hdl : decide (i < xs.length) = true := by simpa using hlt
        obtain ⟨b, o, rfl, hb⟩ := h.addr (by omega)
        obtain ⟨b', o', rfl, hb'⟩ := h'.addr (by omega)
        obtain ⟨Ar, cr, hc, hr, hrl⟩ := (h.below hW).at_ hlt
        obtain ⟨Ar', cr', hc', hr', hrl'⟩ := (h'.below hW).at_ hlt'
        obtain ⟨x, hxx⟩ : ∃ x, x = xs.getD i [] := ⟨_, rfl⟩
        obtain ⟨y, hyy⟩ : ∃ x, x = ys.getD i [] := ⟨_, rfl⟩
        rw [← hxx] at hc hr hrl
        rw [← hyy] at hc' hr' hrl'
        have HX := Lib.hid hxx
        have HY := Lib.hid hyy
        have hcall := same_bA Ar Ar' cr cr' x y wr.drew hrl hrl' ((hr.more hwsz)) ((hr'.more hwsz))
        have HCALL := Lib.hid hcall
        clear hxx hyy hcall
        by_cases hxy : x = y
        · have hd : decide (x = y) = true := decide_eq_true hxy
          have hnx : Hid (xs.take (i + 1) = ys.take (i + 1)) := by
            show _ = _
            rw [getD_take_succ hlt, getD_take_succ hlt', HE.out, ← HX.out, ← HY.out, hxy]
          clear hxy
          go_wp2
          go_region_held3 (fun w' => w'.cell? ⟨b, o + i, none⟩ = some (.slice Ar x.length cr) ∧ w'.cell? ⟨b', o' + i, none⟩ = some (.slice Ar' y.length cr')) (first | go_keep | (go_split_ands; refine ⟨(hb9.cell (by show _ < _; simp; omega)).trans ?_, (hb9.cell (by show _ < _; simp; omega)).trans ?_⟩ <;> assumption))
            (first | ((go_at_call 41; refine HCALL.out.mono ?_; rintro e w9 ⟨rfl, hb9⟩)) | fail)
          go_wp2
          go_roundw
          case rel => exact ⟨i + 1, by omega, by go_num, hnx.out, (hW.drew).trans (hb9.mono hwsz)⟩
          case measure => simp [intOf]; omega
        · have hd : decide (x = y) = false := decide_eq_false hxy
          have hfin : Hid (decide (xs = ys) = false) := by
            show _ = _
            rw [decide_eq_false_iff_not]
            intro e
            subst e
            exact hxy (HX.out.trans HY.out.symm)
          clear hxy
          go_wp2
          go_region_held3 (fun w' => w'.cell? ⟨b, o + i, none⟩ = some (.slice Ar x.length cr) ∧ w'.cell? ⟨b', o' + i, none⟩ = some (.slice Ar' y.length cr')) (first | go_keep | (go_split_ands; refine ⟨(hb9.cell (by show _ < _; simp; omega)).trans ?_, (hb9.cell (by show _ < _; simp; omega)).trans ?_⟩ <;> assumption))
            (first | ((go_at_call 41; refine HCALL.out.mono ?_; rintro e w9 ⟨rfl, hb9⟩)) | fail)
          go_wp2
          go_ret
          exact ⟨by rw [hfin.out]; rfl, (hW.drew).trans (hb9.mono hwsz)⟩
      · have hdl : decide (i < xs.length) = false := by simpa using hlt
        have hfin : Hid (decide (xs = ys) = true) := by
          show _ = _
          rw [decide_eq_true_iff]
          have := HE.out
          have hl := HL.out
          rwa [List.take_of_length_le (by omega), List.take_of_length_le (by omega)] at this
        go_wp2
        go_ret
        exact ⟨by rw [hfin.out]; rfl, hW⟩
  · have hd0 : (((xs.length : Nat) : Int) != ((ys.length : Nat) : Int)) = true := by simp; omega
    have hfin : Hid (decide (xs = ys) = false) := by
      show _ = _
      rw [decide_eq_false_iff_not]
      intro e
      subst e
      exact hl rfl
    clear hl
    go_enter Try.func5, Try.ntmps5
    go_wp2
    go_ret
    exact ⟨by rw [hfin.out]; rfl, Below.refl _ _⟩

/-- A slice of tables that reads as ts, all below block B. -/
def TR (w : World) (B : Nat) (A : Option Addr) (ts : List (List (List Int))) : Prop :=
  ∃ hs : List Value, hs.length = ts.length ∧ Sl w B A hs ∧ ∀ r, r < ts.length → ∃ Ar cr, hs[r]? = some (.slice Ar (ts.getD r []).length cr) ∧ SR w B Ar (ts.getD r []) ∧ (ts.getD r []).length ≤ 9223372036854775807
section
variable {w w' : World} {B B' : Nat} {A : Option Addr} {ts : List (List (List Int))}
theorem TR.below (h : TR w B A ts) (hb : Below B w w') : TR w' B A ts := by
  obtain ⟨hs, h1, h2, h3⟩ := h
  exact ⟨hs, h1, h2.below hb, fun r hr => by obtain ⟨Ar, cr, a, b, c⟩ := h3 r hr; exact ⟨Ar, cr, a, b.below hb, c⟩⟩
theorem TR.more (h : TR w B A ts) (hB : B ≤ B') : TR w B' A ts := by
  obtain ⟨hs, h1, h2, h3⟩ := h
  exact ⟨hs, h1, h2.more hB, fun r hr => by obtain ⟨Ar, cr, a, b, c⟩ := h3 r hr; exact ⟨Ar, cr, a, b.more hB, c⟩⟩
theorem TR.keep (h : TR w w.heap.size A ts) (hb : Below w.heap.size w w') : TR w' w'.heap.size A ts := (h.below hb).more hb.size
theorem TR.addr (h : TR w B A ts) (hp : 0 < ts.length) : ∃ b o, A = some ⟨b, o, none⟩ ∧ b < B := by
  obtain ⟨hs, h1, h2, _⟩ := h
  obtain ⟨b, o, e, hlt, _⟩ := h2 (by omega)
  exact ⟨b, o, e, hlt⟩
theorem TR.at_ {b o : Nat} (h : TR w B (some ⟨b, o, none⟩) ts) {r : Nat} (hr : r < ts.length) :
    ∃ Ar cr, w.cell? ⟨b, o + r, none⟩ = some (.slice Ar (ts.getD r []).length cr) ∧ SR w B Ar (ts.getD r []) ∧ (ts.getD r []).length ≤ 9223372036854775807 := by
  obtain ⟨hs, h1, h2, h3⟩ := h
  obtain ⟨Ar, cr, a, b', c⟩ := h3 r hr
  obtain ⟨b1, o1, e1, _, hc⟩ := h2 (by omega)
  obtain ⟨rfl, rfl⟩ : b = b1 ∧ o = o1 := by simpa using e1
  exact ⟨Ar, cr, hc r _ a, b', c⟩
end
theorem getD_take_tab {xs : List (List (List Int))} {k : Nat} (h : k < xs.length) : xs.take (k + 1) = xs.take k ++ [xs.getD k []] := by
  rw [take_snoc h, getD_get h]

set_option maxRecDepth 100000 in
set_option maxHeartbeats 2000000 in
theorem tables_any (A A' : Option Addr) (cap cap' : Nat) (xs ys : List (List (List Int))) (w : World) (hx : xs.length ≤ 9223372036854775807) (hy : ys.length ≤ 9223372036854775807) (h : TR w w.heap.size A xs) (h' : TR w w.heap.size A' ys) :
    Calls Try.prog 33 #[.slice A xs.length cap, .slice A' ys.length cap'] w fun e w' => e = .returned (.bool (decide (xs = ys))) ∧ Below w.heap.size w w' := by
  by_cases hl : xs.length = ys.length
  · have HL := Lib.hid hl
    have hd0 : (((xs.length : Nat) : Int) != ((ys.length : Nat) : Int)) = false := by simp [hl]
    clear hl
    go_enter Try.func33, Try.ntmps33
    go_wp2
    go_loopw [13] (fun iv wr => ∃ (i : Nat), i ≤ xs.length ∧ iv = .int .i64 i ∧ xs.take i = ys.take i ∧ Below w.heap.size w wr) (fun iv _ => xs.length - (intOf iv).toNat)
    case atStart => exact ⟨0, by omega, rfl, by simp, Below.refl _ _⟩
    case round =>
      obtain ⟨i, hi, rfl, heq, hW⟩ := hrel
      have HE := Lib.hid heq
      clear heq
      have hwsz := hW.size
      by_cases hlt : i < xs.length
      · have hlt' : i < ys.length := by have := HL.out; omega
        have hdl : decide (i < xs.length) = true := by simpa using hlt
        obtain ⟨b, o, rfl, hb⟩ := h.addr (by omega)
        obtain ⟨b', o', rfl, hb'⟩ := h'.addr (by omega)
        obtain ⟨Ar, cr, hc, hr, hrl⟩ := (h.below hW).at_ hlt
        obtain ⟨Ar', cr', hc', hr', hrl'⟩ := (h'.below hW).at_ hlt'
        obtain ⟨x, hxx⟩ : ∃ x, x = xs.getD i [] := ⟨_, rfl⟩
        obtain ⟨y, hyy⟩ : ∃ x, x = ys.getD i [] := ⟨_, rfl⟩
        rw [← hxx] at hc hr hrl
        rw [← hyy] at hc' hr' hrl'
        have HX := Lib.hid hxx
        have HY := Lib.hid hyy
        have hcall := rows_any Ar Ar' cr cr' x y wr.drew hrl hrl' ((hr.more hwsz)) ((hr'.more hwsz))
        have HCALL := Lib.hid hcall
        clear hxx hyy hcall
        by_cases hxy : x = y
        · have hd : decide (x = y) = true := decide_eq_true hxy
          have hnx : Hid (xs.take (i + 1) = ys.take (i + 1)) := by
            show _ = _
            rw [getD_take_tab hlt, getD_take_tab hlt', HE.out, ← HX.out, ← HY.out, hxy]
          clear hxy
          go_wp2
          go_region_held3 (fun w' => w'.cell? ⟨b, o + i, none⟩ = some (.slice Ar x.length cr) ∧ w'.cell? ⟨b', o' + i, none⟩ = some (.slice Ar' y.length cr')) (first | go_keep | (go_split_ands; refine ⟨(hb9.cell (by show _ < _; simp; omega)).trans ?_, (hb9.cell (by show _ < _; simp; omega)).trans ?_⟩ <;> assumption))
            (first | ((go_at_call 5; refine HCALL.out.mono ?_; rintro e w9 ⟨rfl, hb9⟩)) | fail)
          go_wp2
          go_roundw
          case rel => exact ⟨i + 1, by omega, by go_num, hnx.out, (hW.drew).trans (hb9.mono hwsz)⟩
          case measure => simp [intOf]; omega
        · have hd : decide (x = y) = false := decide_eq_false hxy
          have hfin : Hid (decide (xs = ys) = false) := by
            show _ = _
            rw [decide_eq_false_iff_not]
            intro e
            subst e
            exact hxy (HX.out.trans HY.out.symm)
          clear hxy
          go_wp2
          go_region_held3 (fun w' => w'.cell? ⟨b, o + i, none⟩ = some (.slice Ar x.length cr) ∧ w'.cell? ⟨b', o' + i, none⟩ = some (.slice Ar' y.length cr')) (first | go_keep | (go_split_ands; refine ⟨(hb9.cell (by show _ < _; simp; omega)).trans ?_, (hb9.cell (by show _ < _; simp; omega)).trans ?_⟩ <;> assumption))
            (first | ((go_at_call 5; refine HCALL.out.mono ?_; rintro e w9 ⟨rfl, hb9⟩)) | fail)
          go_wp2
          go_ret
          exact ⟨by rw [hfin.out]; rfl, (hW.drew).trans (hb9.mono hwsz)⟩
      · have hdl : decide (i < xs.length) = false := by simpa using hlt
        have hfin : Hid (decide (xs = ys) = true) := by
          show _ = _
          rw [decide_eq_true_iff]
          have := HE.out
          have hl := HL.out
          rwa [List.take_of_length_le (by omega), List.take_of_length_le (by omega)] at this
        go_wp2
        go_ret
        exact ⟨by rw [hfin.out]; rfl, hW⟩
  · have hd0 : (((xs.length : Nat) : Int) != ((ys.length : Nat) : Int)) = true := by simp; omega
    have hfin : Hid (decide (xs = ys) = false) := by
      show _ = _
      rw [decide_eq_false_iff_not]
      intro e
      subst e
      exact hl rfl
    clear hl
    go_enter Try.func33, Try.ntmps33
    go_wp2
    go_ret
    exact ⟨by rw [hfin.out]; rfl, Below.refl _ _⟩

end Go.Proofs.Ytpmkdihencepnaa

/-
  What ferkeep.RowsMemory's closures keep: tables told so far, and two boxes.
-/
namespace Go.Proofs.Ytpmkdihencepnaa
open Go.RowKit

/-- A slice that reads as cells, in blocks of a kind. -/
def SlP (w : World) (P : Nat → Prop) (A : Option Addr) (cs : List Value) : Prop :=
  0 < cs.length → ∃ b o, A = some ⟨b, o, none⟩ ∧ P b ∧ b < w.heap.size ∧ ∀ k u, cs[k]? = some u → w.cell? ⟨b, o + k, none⟩ = some u
/-- A table that reads as rows, in blocks of a kind. -/
def SRP (w : World) (P : Nat → Prop) (u : Value) (rows : List (List Int)) : Prop :=
  ∃ A c hs, u = .slice A rows.length c ∧ hs.length = rows.length ∧ rows.length ≤ 9223372036854775807 ∧ SlP w P A hs ∧ ∀ r, r < rows.length → ∃ Ar cr, hs[r]? = some (.slice Ar (rows.getD r []).length cr) ∧ SlP w P Ar (ints (rows.getD r [])) ∧ (rows.getD r []).length ≤ 9223372036854775807
section
variable {w w' : World} {P P' : Nat → Prop} {B : Nat} {A : Option Addr} {cs : List Value} {u v : Value} {rows : List (List Int)} {hs : List Value}
theorem SlP.keep (h : SlP w P A cs) (hs : w.heap.size ≤ w'.heap.size) (hk : ∀ k, P k → k < w.heap.size → w'.heap[k]? = w.heap[k]? ∧ P' k) : SlP w' P' A cs := fun hn => by
  obtain ⟨b, o, e, hp, hl, hc⟩ := h hn
  exact ⟨b, o, e, (hk b hp hl).2, by omega, fun k u hu => (World.cell?_of_block (a := ⟨b, o + k, none⟩) (hk b hp hl).1).trans (hc k u hu)⟩
theorem SRP.keep (h : SRP w P u rows) (hs : w.heap.size ≤ w'.heap.size) (hk : ∀ k, P k → k < w.heap.size → w'.heap[k]? = w.heap[k]? ∧ P' k) : SRP w' P' u rows := by
  obtain ⟨A, c, hs', e, h1, h2, h3, h4⟩ := h
  exact ⟨A, c, hs', e, h1, h2, h3.keep hs hk, fun r hr => by obtain ⟨Ar, cr, a, b, d⟩ := h4 r hr; exact ⟨Ar, cr, a, b.keep hs hk, d⟩⟩
theorem SlP.sl (h : SlP w P A cs) : Sl w w.heap.size A cs := fun hn => by
  obtain ⟨b, o, e, hp, hl, hc⟩ := h hn
  exact ⟨b, o, e, hl, hc⟩
theorem SRP.sr (h : SRP w P u rows) : ∃ A c, u = .slice A rows.length c ∧ SR w w.heap.size A rows ∧ rows.length ≤ 9223372036854775807 := by
  obtain ⟨A, c, hs, e, h1, h2, h3, h4⟩ := h
  exact ⟨A, c, e, ⟨hs, h1, h3.sl, fun r hr => by obtain ⟨Ar, cr, a, b, d⟩ := h4 r hr; exact ⟨Ar, cr, a, b.sl, d⟩⟩, h2⟩
theorem SlP.of_own {base n : Nat} {e : TypeId} (h : w.ownsRow base e 1 v n cs) : ∃ A c, v = .slice A cs.length c ∧ cs.length ≤ 9223372036854775807 ∧ SlP w (fun k => v.ownBlock = some k) A cs := by
  have hl := h.1
  obtain rfl : n = cs.length := by omega
  rcases h.2 with ⟨e1, e2⟩ | ⟨g, c, _, e1, _⟩
  · exact ⟨none, 0, by rw [e2]; exact e1, by omega, fun hn => by omega⟩
  · subst e1
    refine ⟨_, c, rfl, by have := own_cap h; omega, fun hn => ⟨g, 0, rfl, rfl, (h.lt g rfl).2, fun k u hk => ?_⟩⟩
    have hkl := (List.getElem?_eq_some_iff.1 hk).1
    rw [Nat.zero_add, h.cellAt k (by omega)]; exact hk
theorem OwnM.srp (h : OwnM w B v hs rows) : SRP w (foot v hs) v rows := by
  obtain ⟨A, c, e, h1, h2⟩ := SlP.of_own h.out
  have h3 := h.len
  refine ⟨A, c, hs, by rw [e, h3], h3, by omega, fun hn => ?_, fun r hr => ?_⟩
  · obtain ⟨b, o, e1, e2, e3⟩ := h2 hn
    exact ⟨b, o, e1, .inl e2, e3⟩
  · obtain ⟨Ar, cr, f1, f2, f3⟩ := SlP.of_own (h.inn r hr)
    rw [ints_length] at f1 f2
    refine ⟨Ar, cr, by rw [h.get hr, f1], fun hn => ?_, f2⟩
    obtain ⟨b, o, e1, e2, e3⟩ := f3 hn
    exact ⟨b, o, e1, .inr ⟨r, by omega, e2⟩, e3⟩
end
/-- The tables' slice, in its box: in blocks of a kind. -/
def OutS (w : World) (Q : Nat → Prop) (base bo : Nat) (ts : List (List (List Int))) : Prop :=
  ∃ ov us, w.cell? ⟨bo, 0, none⟩ = some ov ∧ w.frozen? ⟨bo, 0, none⟩ = false ∧ w.ownsRow base 22 1 ov ts.length us ∧ (∀ k, ov.ownBlock = some k → Q k) ∧
    ∀ r u, us[r]? = some u → SRP w (fun k => base ≤ k ∧ Q k ∧ ov.ownBlock ≠ some k) u (ts.getD r []) ∧ u.oneCell' = true
/-- What the closures share: box bo holds the tables' slice, bm the mark, bk whether all is well. -/
structure Onc (w : World) (Q : Nat → Prop) (base bo bm bk : Nat) (mk : Bool) (ts : List (List (List Int))) : Prop where
  lo : bo < base ∧ bm < base ∧ bk < base ∧ base ≤ w.heap.size ∧ bo ≠ bm ∧ bo ≠ bk ∧ bm ≠ bk
  lt : ∀ k, Q k → k < w.heap.size
  cm : w.cell? ⟨bm, 0, none⟩ = some (.bool mk)
  ck : w.cell? ⟨bk, 0, none⟩ = some (.bool true)
  fk : w.frozen? ⟨bk, 0, none⟩ = false
  out : OutS w Q base bo ts
section
variable {w w' : World} {Q Q' : Nat → Prop} {base bo bm bk : Nat} {mk : Bool} {ts : List (List (List Int))}
theorem Onc.keep (h : Onc w Q base bo bm bk mk ts) (hs : w.heap.size ≤ w'.heap.size) (hk : ∀ k, k < base ∨ Q k → w'.heap[k]? = w.heap[k]?) : Onc w' Q base bo bm bk mk ts := by
  obtain ⟨l1, l2, l3, l4, l5⟩ := h.lo
  refine ⟨⟨l1, l2, l3, Nat.le_trans l4 hs, l5⟩, fun k hq => Nat.lt_of_lt_of_le (h.lt k hq) hs, (World.cell?_of_block (a := ⟨bm, 0, none⟩) (hk bm (.inl l2))).trans h.cm, (World.cell?_of_block (a := ⟨bk, 0, none⟩) (hk bk (.inl l3))).trans h.ck, (World.frozen?_of_block (hk bk (.inl l3))).trans h.fk, ?_⟩
  obtain ⟨ov, us, o1, o2, o3, o4, o5⟩ := h.out
  exact ⟨ov, us, (World.cell?_of_block (a := ⟨bo, 0, none⟩) (hk bo (.inl l1))).trans o1, (World.frozen?_of_block (hk bo (.inl l1))).trans o2, own_same o3 (fun k hk2 => hk k (.inr (o4 k hk2))), o4, fun r u hu => ⟨(o5 r u hu).1.keep hs (fun k hk2 _ => ⟨hk k (.inr hk2.2.1), hk2⟩), (o5 r u hu).2⟩⟩
theorem Onc.below {L : Nat} (h : Onc w (fun k => k < L) base bo bm bk mk ts) (hL : base ≤ L) (hb : Below L w w') : Onc w' (fun k => k < L) base bo bm bk mk ts :=
  h.keep hb.size (fun k hk => hb.block k (by
    rcases hk with e | e
    · omega
    · exact e))
theorem Onc.widen (h : Onc w Q base bo bm bk mk ts) (h1 : ∀ k, Q k → Q' k) (h2 : ∀ k, Q' k → k < w.heap.size) : Onc w Q' base bo bm bk mk ts := by
  refine ⟨h.lo, h2, h.cm, h.ck, h.fk, ?_⟩
  obtain ⟨ov, us, o1, o2, o3, o4, o5⟩ := h.out
  exact ⟨ov, us, o1, o2, o3, fun k hk => h1 k (o4 k hk), fun r u hu => ⟨(o5 r u hu).1.keep (Nat.le_refl _) (fun k hk _ => ⟨rfl, hk.1, h1 k hk.2.1, hk.2.2⟩), (o5 r u hu).2⟩⟩
end
end Go.Proofs.Ytpmkdihencepnaa

/-
  ferkeep.RowsMemory's inner closure: what was told is copied, and where it is marked written over.
-/
namespace Go.Proofs.Ytpmkdihencepnaa
open Go.RowKit

theorem Try.infoTab : (Try.prog.info? 22).map (fun i => (i.zero, i.size, i.bytes)) = some (some (.slice none 0 0), 1, 24) := by kernel_rfl
/-- 'append(v, u)' of one table. -/
theorem wpList_pushT {w : World} {base : Nat} {v : Value} {hs : List Value} {ops : Array Oper} {rest : List Oper} {o : Oper} {a : Act} {Q : Exit → Act → World → Prop} (hgd : o.guard = none) (s x : Operand)
    (ho : o.op = .call { callee := .builtin .append, args := #[s, x], argTypes := #[29, 29] }) (hs' : a.eval s = v) (u : Value) (hu : u.oneCell' = true) {n : Nat}
    (hown : w.ownsRow base 22 1 v n hs) (g0 : Nat) (hg0 : g0 = w.heap.size) (hx : a.eval x = .slice (some ⟨g0, 0, none⟩) 1 1) (hlen : n < 2000000) (hbase : base ≤ w.heap.size)
    (h : ∀ g cap w', w'.ownsRow base 22 1 (.slice (some ⟨g, 0, none⟩) (n + 1) cap) (n + 1) (hs ++ [u]) → (w.alloc (.cells #[u] 22)).grownBy w' v.ownBlock → (v.ownBlock = some g ∨ g = w.heap.size + 1) →
      wpList Try.prog ops Q rest (a.put o.dst (.slice (some ⟨g, 0, none⟩) (n + 1) cap)) w') :
    wpList Try.prog ops Q (o :: rest) a (w.alloc (.cells #[u] 22)) := by
  subst hg0
  obtain ⟨i0, hi, hz0, hz1, hz2⟩ := info_parts Try.infoTab
  refine wpList_append_lies _ hgd s x 29 ho base 22 i0 (.slice none 0 0) 1 24 Try.underlying29 hi hz0 hz1 hz2 rfl (by decide) v n hs hs' (hown.alloc _) ⟨w.heap.size, 0, none⟩ 1 1 [u] hx rfl ?_ (by simpa using hu) (by decide)
    (by unfold maxLen; omega) (by omega) (by simp; omega) _ rfl (fun g cap w' h1 h2 h3 _ => ?_)
  · exact World.news_of_block (cs := #[u]) (heap_alloc_new w _)
  · exact h g cap w' (by simpa using h1) h2 (by simpa using h3)
/-- One table more: w1, the tables' slice grown: w5. -/
theorem Onc.push {w1 w5 : World} {Q Q' P : Nat → Prop} {base bo bm bk : Nat} {mk : Bool} {ts : List (List (List Int))} (h : Onc w1 Q base bo bm bk mk ts) {ov : Value} {us : List Value} (hov : w1.cell? ⟨bo, 0, none⟩ = some ov) (o3 : w1.ownsRow base 22 1 ov ts.length us)
    (o4 : ∀ k, ov.ownBlock = some k → Q k) (o5 : ∀ r u, us[r]? = some u → SRP w1 (fun k => base ≤ k ∧ Q k ∧ ov.ownBlock ≠ some k) u (ts.getD r []) ∧ u.oneCell' = true) (hz : w1.frozen? ⟨bo, 0, none⟩ = false)
    {u : Value} {rows : List (List Int)} (hu : SRP w1 P u rows) (hP : ∀ k, P k → base ≤ k ∧ ov.ownBlock ≠ some k ∧ Q' k) (h1 : u.oneCell' = true) (hQ : ∀ k, Q k → Q' k) {g cap : Nat}
    (hg : (w1.alloc (.cells #[u] 22)).grownBy w5 ov.ownBlock) (hat : ov.ownBlock = some g ∨ g = w1.heap.size + 1) (hgq : g = w1.heap.size + 1 → Q' g) (hn : w5.ownsRow base 22 1 (.slice (some ⟨g, 0, none⟩) (ts.length + 1) cap) (ts.length + 1) (us ++ [u])) (hQl : ∀ k, Q' k → k < w5.heap.size) :
    Onc (w5.setCell ⟨bo, 0, none⟩ (.slice (some ⟨g, 0, none⟩) (ts.length + 1) cap)) Q' base bo bm bk mk (ts ++ [rows]) := by
  obtain ⟨l1, l2, l3, l5, l6, l7, l8⟩ := h.lo
  have hsz : w1.heap.size + 1 ≤ w5.heap.size := by have := hg.size; simpa using this
  have hgb : base ≤ g := (hn.lt g rfl).1
  have hlow : ∀ k, k < base → some k ≠ ov.ownBlock := fun k hk e => by have := (o3.lt k e.symm).1; omega
  have hk5 : ∀ k, k < w1.heap.size → some k ≠ ov.ownBlock → w5.heap[k]? = w1.heap[k]? := fun k hk hne => (hg.block k (by simp; omega) hne).trans (Below.heap_alloc w1 _ k hk)
  have hk6 : ∀ k, k ≠ bo → (w5.setCell ⟨bo, 0, none⟩ (.slice (some ⟨g, 0, none⟩) (ts.length + 1) cap)).heap[k]? = w5.heap[k]? := fun k hk => by simp [World.setCell, Array.getElem?_modify, Ne.symm hk]
  have hs6 : (w5.setCell ⟨bo, 0, none⟩ (.slice (some ⟨g, 0, none⟩) (ts.length + 1) cap)).heap.size = w5.heap.size := by simp
  have hc5 : w5.cell? ⟨bo, 0, none⟩ = some ov := (World.cell?_of_block (a := ⟨bo, 0, none⟩) (hk5 bo (by omega) (hlow bo l1))).trans hov
  have hf5 : w5.frozen? ⟨bo, 0, none⟩ = false := (World.frozen?_of_block (hk5 bo (by omega) (hlow bo l1))).trans hz
  refine ⟨⟨l1, l2, l3, by rw [hs6]; omega, l6, l7, l8⟩, by rw [hs6]; exact hQl, ?_, ?_, ?_, ?_⟩
  · exact (World.cell?_of_block (a := ⟨bm, 0, none⟩) ((hk6 bm (Ne.symm l6)).trans (hk5 bm (by omega) (hlow bm l2)))).trans h.cm
  · exact (World.cell?_of_block (a := ⟨bk, 0, none⟩) ((hk6 bk (Ne.symm l7)).trans (hk5 bk (by omega) (hlow bk l3)))).trans h.ck
  · exact (World.frozen?_of_block ((hk6 bk (Ne.symm l7)).trans (hk5 bk (by omega) (hlow bk l3)))).trans h.fk
  · refine ⟨.slice (some ⟨g, 0, none⟩) (ts.length + 1) cap, us ++ [u], World.cell?_setCell_same' _ _ _ (by rw [hc5]; rfl), by rw [World.frozen?_setCell]; exact hf5, ?_, fun k hk => ?_, fun r x hx => ?_⟩
    · rw [List.length_append]
      exact own_same hn (fun k hk => hk6 k (fun e => by
        obtain rfl : g = k := by simpa [Value.ownBlock] using hk
        omega))
    · obtain rfl : g = k := by simpa [Value.ownBlock] using hk
      rcases hat with e2 | e2
      · exact hQ g (o4 g e2)
      · exact hgq e2
    · have hul : us.length = ts.length := by have := o3.1; omega
      have hstep : ∀ k, base ≤ k → Q' k → k < w1.heap.size → ov.ownBlock ≠ some k → (w5.setCell ⟨bo, 0, none⟩ (.slice (some ⟨g, 0, none⟩) (ts.length + 1) cap)).heap[k]? = w1.heap[k]? ∧ (base ≤ k ∧ Q' k ∧ (Value.slice (some ⟨g, 0, none⟩) (ts.length + 1) cap).ownBlock ≠ some k) := fun k hb hq hk hne => by
        refine ⟨(hk6 k (by omega)).trans (hk5 k hk (Ne.symm hne)), hb, hq, fun e => ?_⟩
        obtain rfl : g = k := by simpa [Value.ownBlock] using e
        rcases hat with e2 | e2
        · exact hne e2
        · omega
      by_cases e : r < us.length
      · rw [List.getElem?_append_left e] at hx
        rw [List.getD_eq_getElem?_getD, List.getElem?_append_left (by omega), ← List.getD_eq_getElem?_getD]
        exact ⟨(o5 r x hx).1.keep (by rw [hs6]; omega) (fun k hk hlt => hstep k hk.1 (hQ k hk.2.1) hlt hk.2.2), (o5 r x hx).2⟩
      · have hr2 : r = us.length := by
          have := (List.getElem?_eq_some_iff.1 hx).1
          simp at this; omega
        subst hr2
        rw [List.getElem?_append_right (Nat.le_refl _), Nat.sub_self] at hx
        obtain rfl : u = x := by simpa using hx
        have e9 : (ts ++ [rows]).getD us.length [] = rows := by rw [hul, List.getD_eq_getElem?_getD]; simp
        rw [e9]
        exact ⟨hu.keep (by rw [hs6]; omega) (fun k hk hlt => hstep k (hP k hk).1 (hP k hk).2.2 hlt (hP k hk).2.1), h1⟩
theorem OwnM.same {w w' : World} {B : Nat} {v : Value} {hs : List Value} {rows : List (List Int)} (h : OwnM w B v hs rows) (hk : ∀ k, foot v hs k → w'.heap[k]? = w.heap[k]?) : OwnM w' B v hs rows :=
  ⟨h.len, own_same h.out (fun k hk2 => hk k (.inl hk2)), fun r hr => own_same (h.inn r hr) (fun k hk2 => hk k (.inr ⟨r, by rw [h.len]; exact hr, hk2⟩)), h.far, h.top⟩
theorem Onc.setok {w : World} {Q : Nat → Prop} {base bo bm bk : Nat} {mk : Bool} {ts : List (List (List Int))} (h : Onc w Q base bo bm bk mk ts) : Onc (w.setCell ⟨bk, 0, none⟩ (.bool true)) Q base bo bm bk mk ts := by
  obtain ⟨l1, l2, l3, l5, l6, l7, l8⟩ := h.lo
  have hk6 : ∀ k, k ≠ bk → (w.setCell ⟨bk, 0, none⟩ (.bool true)).heap[k]? = w.heap[k]? := fun k hk => by simp [World.setCell, Array.getElem?_modify, Ne.symm hk]
  have hs6 : (w.setCell ⟨bk, 0, none⟩ (.bool true)).heap.size = w.heap.size := by simp
  refine ⟨⟨l1, l2, l3, by rw [hs6]; exact l5, l6, l7, l8⟩, by rw [hs6]; exact h.lt, (World.cell?_of_block (a := ⟨bm, 0, none⟩) (hk6 bm l8)).trans h.cm, World.cell?_setCell_same' _ _ _ (by rw [h.ck]; rfl), by rw [World.frozen?_setCell]; exact h.fk, ?_⟩
  obtain ⟨ov, us, o1, o2, o3, o4, o5⟩ := h.out
  exact ⟨ov, us, (World.cell?_of_block (a := ⟨bo, 0, none⟩) (hk6 bo l7)).trans o1, (World.frozen?_of_block (hk6 bo l7)).trans o2, own_same o3 (fun k hk2 => hk6 k (by have := (o3.lt k hk2).1; omega)), o4, fun r u hu => ⟨(o5 r u hu).1.keep (by rw [hs6]; exact Nat.le_refl _) (fun k hk2 _ => ⟨hk6 k (by have := hk2.1; omega), hk2⟩), (o5 r u hu).2⟩⟩
def AddOut (e : Ending) (w w' : World) (Q : Nat → Prop) (L B0 base bo bm bk : Nat) (mk : Bool) (ts : List (List (List Int))) : Prop := e = .returned (.tuple #[]) ∧ Onc w' (fun k => Q k ∨ (L ≤ k ∧ k < w'.heap.size)) base bo bm bk mk ts ∧ Below B0 w w' ∧ ∀ k, k < L → k ≠ bo → k ≠ bk → ¬ Q k → w'.heap[k]? = w.heap[k]?

set_option maxRecDepth 100000 in
set_option maxHeartbeats 2000000 in
theorem add_any (A : Option Addr) (c : Nat) (rows : List (List Int)) (hs : List Value) (k : Int) (w : World) (Q : Nat → Prop) (L base bo bm bk B0 : Nat) (mk : Bool) (ts : List (List (List Int))) (hB0 : B0 ≤ bo ∧ B0 ≤ bm ∧ B0 ≤ bk) (hn : rows.length ≤ 1000) (hsm : ∀ r, (rows.getD r []).length ≤ 1000)
    (hts : ts.length < 1000) (h : Onc w Q base bo bm bk mk ts) (hQL : ∀ k, Q k → k < L) (hbL : base ≤ L) (hLs : L ≤ w.heap.size) (hl : OwnM w L (.slice A rows.length c) hs rows) :
    Calls Try.prog 8 #[.slice A rows.length c, .int .i64 k, .pointer (some ⟨bo, 0, none⟩), .pointer (some ⟨bm, 0, none⟩), .pointer (some ⟨bk, 0, none⟩)] w fun e w' => AddOut e w w' Q L B0 base bo bm bk mk (ts ++ [rows]) := by
  obtain ⟨A', c', e1, hsr, -, -⟩ := hl.sr
  obtain ⟨rfl, rfl⟩ : A = A' ∧ c = c' := by injection e1 with g1 _ g3; exact ⟨g1, g3⟩
  have HSM := Lib.hid hsm
  have HON := Lib.hid h
  have HL := Lib.hid hl
  have hlo := h.lo
  obtain ⟨l1, l2, l3, l5, l6, l7, l8⟩ := hlo
  obtain ⟨b1, b2, b3⟩ := hB0
  clear h hl hsm e1
  go_enter Try.func8, Try.ntmps8
  go_wp2
  go_loopw [7, 12] (fun ov iv wr => ∃ (i : Nat) (hs2 : List Value), i ≤ rows.length ∧ iv = .int .i64 i ∧ OwnM wr w.heap.size ov hs2 (rows.take i) ∧ Below w.heap.size w wr) (fun _ iv _ => rows.length - (intOf iv).toNat)
  case atStart => exact ⟨0, [], Nat.zero_le _, rfl, by rw [List.take_zero]; exact OwnM.nil _ _, Below.refl _ _⟩
  case round =>
    obtain ⟨i, hs2, hi, rfl, hm, hW⟩ := hrel
    have HM := Lib.hid hm
    have hsz := hW.size
    by_cases hit : i < rows.length
    · have di : decide (i < rows.length) = true := decide_eq_true hit
      have h2 := hsr.below hW
      obtain ⟨b, o, rfl, hb⟩ := h2.addr (by omega)
      obtain ⟨Ar, cr, hcl, hr, hrl⟩ := h2.at_ hit
      have hR := HSM.out i
      obtain ⟨R, hRe⟩ : ∃ R, R = rows.getD i [] := ⟨_, rfl⟩
      rw [← hRe] at hcl hr hR
      have HRE := Lib.hid hRe
      have HRR := Lib.hid hr
      have hmo := hm.out
      have hmin : min i rows.length = i := by omega
      rw [List.length_take, hmin] at hmo
      have HMO := Lib.hid hmo
      have HW := Lib.hid hW
      clear hRe hr h2 hrl hm hmo hmin hW
      go_wp2_with (first | (at_builtin; refine wpList_app (l := []) (base := wr.heap.size) rfl (.const (.slice none 0 0)) (.tmp 17) rfl rfl (World.ownsRow_nil _ _ _ _) cr rfl HRR.out (by simp; omega) (Nat.le_refl _) (fun v' w2 ho2 hb2 => ?_); rw [List.nil_append] at ho2; obtain ⟨Av, cv, rfl, -, -, -⟩ := own_sliceA ho2; have HO2 := Lib.hid ho2; have HMO2 := Lib.hid (own_below HMO.out hb2); have HM2 := Lib.hid (HM.out.below hb2); have HFAR := Lib.hid (HM.out.far_new (u := .slice Av R.length cv) (fun k hk => (HO2.out.lt k hk).1)); have HW2 := Lib.hid (HW.out.trans (hb2.mono hsz)); have hsz2 := Nat.le_trans hsz hb2.size; clear ho2 hb2) | (at_builtin; refine wpList_push (v := u7) rfl (.tmp 16) (.tmp 19) rfl rfl (.slice Av R.length cv) rfl HMO2.out w2.heap.size rfl rfl (by omega) hsz2 (fun g2 c2 w5 hl5 hg5 hat5 => ?_)) | fail)
      have hpush := (HM2.out.alloc (.cells #[.slice Av R.length cv] 26)).push (u := .slice Av R.length cv) (l := R) ((HO2.out.mono hsz).alloc _) HFAR.out.1 HFAR.out.2 (by rw [List.length_take]; omega) hl5 hg5 (by simpa using hat5)
      have hts2 : rows.take i ++ [R] = rows.take (i + 1) := by rw [HRE.out]; exact (getD_take_succ hit).symm
      rw [hts2] at hpush
      have HPU := Lib.hid hpush
      have HW5 := Lib.hid ((HW2.out.alloc hsz2 (.cells #[.slice Av R.length cv] 26)).grown hg5 (by simp; omega) (fun k hk => (HMO2.out.lt k hk).1))
      clear hpush hl5 hg5 hat5 hts2
      go_wp2
      go_roundw
      case rel => exact ⟨i + 1, _, by omega, by go_num, HPU.out, HW5.out⟩
      case measure => simp [intOf]; omega
    · have di : decide (i < rows.length) = false := decide_eq_false hit
      have hie : i = rows.length := by omega
      have hm2 := hm
      rw [hie, List.take_of_length_le (Nat.le_refl _)] at hm2
      obtain ⟨Au, cu, rfl, -, -, -⟩ := hm2.sr
      have hon1 := HON.out.keep hW.size (fun k hk => hW.block k (by
        rcases hk with e | e
        · omega
        · have := hQL k e; omega))
      obtain ⟨ov, us, o1, o2, o3, o4, o5⟩ := hon1.out
      have HON1 := Lib.hid hon1
      have HM2 := Lib.hid hm2
      have HO3 := Lib.hid o3
      have HO4 := Lib.hid o4
      have HO5 := Lib.hid o5
      have HW := Lib.hid hW
      have hbse : base ≤ wr.heap.size := by omega
      have b9 : B0 ≤ w.heap.size := by omega
      have b8 : B0 ≤ wr.heap.size := Nat.le_trans b9 hsz
      clear hm hm2 hie HM hon1 o3 o4 o5 hW
      go_upto_region 7 with (first | (at_builtin; refine wpList_pushT (v := ov) rfl (.tmp 22) (.tmp 24) rfl rfl (.slice Au rows.length cu) rfl HO3.out wr.heap.size rfl rfl (by omega) hbse (fun g2 c2 w5 hl5 hg5 hat5 => ?_); have hgl := (hl5.lt g2 rfl).2; have HPU := Lib.hid (HON1.out.push (Q' := fun k => Q k ∨ (w.heap.size ≤ k ∧ k < w5.heap.size)) o1 HO3.out HO4.out HO5.out o2 HM2.out.srp (fun k hk => ⟨by (have := (HM2.out.foot_lt hk).1; omega), (fun e => by have := hQL k (HO4.out k e); have := (HM2.out.foot_lt hk).1; omega), .inr ⟨(HM2.out.foot_lt hk).1, by (have := (HM2.out.foot_lt hk).2; have := hg5.size; simp at this; omega)⟩⟩) rfl (fun k hk => .inl hk) hg5 hat5 (fun e => .inr ⟨by omega, hgl⟩) hl5 (fun k hk => by (have := hg5.size; simp at this; rcases hk with e | e; (have := hQL k e; omega); omega))); have hgs5 : wr.heap.size ≤ w5.heap.size := (by have := hg5.size; simp at this; omega); have HK5 := Lib.hid (fun k (hk1 : L ≤ k) (hk2 : k < w.heap.size) => (hg5.block k (by simp; omega) (fun e => by have := hQL k (HO4.out k e.symm); omega)).trans (Below.heap_alloc wr (.cells #[.slice Au rows.length cu] 22) k (by omega))); have HKQ := Lib.hid (fun k (hk2 : k < w.heap.size) (hk3 : ¬ Q k) => (hg5.block k (by simp; omega) (fun e => hk3 (HO4.out k e.symm))).trans (Below.heap_alloc wr (.cells #[.slice Au rows.length cu] 22) k (by omega))); have hlow : some bo ≠ ov.ownBlock := (fun e => by have := (HO3.out.lt bo e.symm).1; omega); have hc5 := (hg5.cell_far ⟨bo, 0, none⟩ (by simp; omega) hlow).trans ((World.cell?_of_block (a := ⟨bo, 0, none⟩) (Below.heap_alloc wr _ bo (by omega))).trans o1); have hf5 := (hg5.frozen_far ⟨bo, 0, none⟩ (by simp; omega) hlow).trans ((World.frozen?_of_block (a := ⟨bo, 0, none⟩) (Below.heap_alloc wr _ bo (by omega))).trans o2); have HW6 := Lib.hid (((HW.out.mono b9).alloc b8 (.cells #[.slice Au rows.length cu] 22)).grown hg5 (by simp; omega) (fun k hk => by have := (HO3.out.lt k hk).1; omega)); clear hlow hl5 hg5 hat5) | fail)
      have HW7 := Lib.hid (HW6.out.setCell (p := ⟨bo, 0, none⟩) b1 (.slice (some ⟨g2, 0, none⟩) (ts.length + 1) c2))
      have hle6 : w.heap.size ≤ wr.heap.size := hsz
      obtain ⟨w6, hw6⟩ : ∃ w6, w6 = w5.setCell ⟨bo, 0, none⟩ (.slice (some ⟨g2, 0, none⟩) (ts.length + 1) c2) := ⟨_, rfl⟩
      have hl6 : OwnM w6 L (.slice A rows.length c) hs rows := HL.out.same (fun k hk => by
        have hlt := HL.out.foot_lt hk
        have e6 : w6.heap[k]? = w5.heap[k]? := by rw [hw6]; simp [World.setCell, Array.getElem?_modify, show bo ≠ k by omega]
        exact e6.trans ((HK5.out k hlt.1 hlt.2).trans (HW.out.block k hlt.2)))
      have hs6 : w6.heap.size = w5.heap.size := by rw [hw6]; simp
      have HK6 : Hid (∀ k, k < L → k ≠ bo → k ≠ bk → ¬ Q k → w6.heap[k]? = w.heap[k]?) := Lib.hid (fun k hk hkb _ hq => by
        have e6 : w6.heap[k]? = w5.heap[k]? := by rw [hw6]; simp [World.setCell, Array.getElem?_modify, Ne.symm hkb]
        exact e6.trans ((HKQ.out k (by omega) hq).trans (HW.out.block k (by omega))))
      rw [← hw6] at HPU HW7 ⊢
      have HL6 := Lib.hid hl6
      have hwl : L ≤ w6.heap.size := by rw [hs6]; have := hgs5; omega
      have hcm := HPU.out.cm
      have hck := HPU.out.ck
      clear hw6 hl6 HK5 hs6 HW6 hc5 hf5 HO3 HO4 HO5 HM2 HON1 o1 o2
      cases mk with
      | false =>
        have HF := Lib.hid (HPU.out.widen (Q' := fun k => Q k ∨ (L ≤ k ∧ k < w6.heap.size)) (fun k hk => by
          rcases hk with e | e
          · exact .inl e
          · exact .inr ⟨by omega, HPU.out.lt k (.inr e)⟩) (fun k hk => by
          rcases hk with e | e
          · exact HPU.out.lt k (.inl e)
          · exact e.2))
        go_wp2
        go_end0
        exact ⟨rfl, HF.out, HW7.out, HK6.out⟩
      | true =>
        go_wp2_with (first | (go_at_call 9; refine (spread_any A c rows hs w6 L hwl hn HSM.out HL6.out).mono ?_) | fail)
        rintro e w7 ⟨rfl, hf7, hb7⟩
        have HON7 := Lib.hid (HPU.out.keep hf7.size (fun k hk => hf7.block k (by
          rcases hk with e | e
          · have := HPU.out.lo.2.2.2.1; omega
          · exact HPU.out.lt k e) (fun hft => by
          have := HL.out.foot_lt hft
          rcases hk with e | e | e
          · omega
          · have := hQL k e; omega
          · omega)))
        have HK7 : Hid (∀ k, k < L → k ≠ bo → k ≠ bk → ¬ Q k → (w7.setCell ⟨bk, 0, none⟩ (.bool true)).heap[k]? = w.heap[k]?) := Lib.hid (fun k hk hkb hkk hq => by
          have e8 : (w7.setCell ⟨bk, 0, none⟩ (.bool true)).heap[k]? = w7.heap[k]? := by simp [World.setCell, Array.getElem?_modify, Ne.symm hkk]
          exact e8.trans ((hf7.block k (by omega) (fun hft => by have := HL.out.foot_lt hft; omega)).trans (HK6.out k hk hkb hkk hq)))
        have HW8 := Lib.hid ((HW7.out.trans (hb7.mono (by omega))).setCell (p := ⟨bk, 0, none⟩) b3 (.bool true))
        have HON8 := Lib.hid ((HON7.out.setok).widen (Q' := fun k => Q k ∨ (L ≤ k ∧ k < (w7.setCell ⟨bk, 0, none⟩ (.bool true)).heap.size)) (fun k hk => by
          rcases hk with e | e
          · exact .inl e
          · exact .inr ⟨by omega, (HON7.out.setok).lt k (.inr e)⟩) (fun k hk => by
          rcases hk with e | e
          · exact (HON7.out.setok).lt k (.inl e)
          · exact e.2))
        have hck7 := HON7.out.ck
        have hfk7 := HON7.out.fk
        clear hf7 hb7 hcm hck
        go_wp2
        go_end0
        exact ⟨rfl, HON8.out, HW8.out, HK7.out⟩
end Go.Proofs.Ytpmkdihencepnaa
