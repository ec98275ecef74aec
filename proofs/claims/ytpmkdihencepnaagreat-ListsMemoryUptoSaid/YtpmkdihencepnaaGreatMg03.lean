/-
  ferkeep.spoilt: a row that is the call's own is written over, its spare room too, and grown.
-/
import Derived.Test.YtpmkdihencepnaaGreatMg01
import Derived.Test.YtpmkdihencepnaaGreatMg02
namespace Go.Proofs.YtpmkdihencepnaaGreat
open Go.RowKit

/-- append of three alike ints, whose answer goes nowhere. -/
theorem wpList_app3 {w : World} {base n : Nat} {xs : List Value} {v : Value} {ops : Array Oper} {rest : List Oper} {o : Oper} {a : Act} {Q : Exit → Act → World → Prop} (hgd : o.guard = none) (s x : Operand)
    (ho : o.op = .call { callee := .builtin .append, args := #[s, x], argTypes := #[22, 22] }) (hs : a.eval s = v) (y : Int)
    (hown : w.ownsRow base 3 1 v n xs) (hx : a.eval x = .slice (some ⟨w.heap.size, 0, none⟩) 3 3) (hlen : n < 2000000)
    (h : ∀ v' w', w'.ownsRow base 3 1 v n xs → (w.alloc (.cells #[.int .i64 y, .int .i64 y, .int .i64 y] 3)).grownBy w' v.ownBlock → wpList Tryz.prog ops Q rest (a.put o.dst v') w') :
    wpList Tryz.prog ops Q (o :: rest) a (w.alloc (.cells #[.int .i64 y, .int .i64 y, .int .i64 y] 3)) := by
  obtain ⟨i0, hi, hz0, hz1, hz2⟩ := info_parts Tryz.infoInt
  refine wpList_append_old hgd s x 22 ho base 3 i0 (.int .i64 0) 1 8 Tryz.underlying22 hi hz0 hz1 hz2 v n xs hs (hown.alloc _) ⟨w.heap.size, 0, none⟩ 3 3 [.int .i64 y, .int .i64 y, .int .i64 y] hx (by decide) rfl ?_ (by simp [Value.oneCell'])
    (by unfold maxLen; omega) (by omega) h
  exact World.news_of_block (cs := #[.int .i64 y, .int .i64 y, .int .i64 y]) (heap_alloc_new w _)
/-- Likewise of rows. -/
theorem wpList_app3r {w : World} {base n : Nat} {xs : List Value} {v : Value} {ops : Array Oper} {rest : List Oper} {o : Oper} {a : Act} {Q : Exit → Act → World → Prop} (hgd : o.guard = none) (s x : Operand)
    (ho : o.op = .call { callee := .builtin .append, args := #[s, x], argTypes := #[28, 28] }) (hs : a.eval s = v) (y : Value) (hy : y.oneCell' = true)
    (hown : w.ownsRow base 22 1 v n xs) (hx : a.eval x = .slice (some ⟨w.heap.size, 0, none⟩) 3 3) (hlen : n < 2000000)
    (h : ∀ v' w', w'.ownsRow base 22 1 v n xs → (w.alloc (.cells #[y, y, y] 22)).grownBy w' v.ownBlock → wpList Tryz.prog ops Q rest (a.put o.dst v') w') :
    wpList Tryz.prog ops Q (o :: rest) a (w.alloc (.cells #[y, y, y] 22)) := by
  obtain ⟨i0, hi, hz0, hz1, hz2⟩ := info_parts Tryz.infoSlice
  refine wpList_append_old hgd s x 28 ho base 22 i0 (.slice none 0 0) 1 24 Tryz.underlying28 hi hz0 hz1 hz2 v n xs hs (hown.alloc _) ⟨w.heap.size, 0, none⟩ 3 3 [y, y, y] hx (by decide) rfl ?_ (by simp [hy])
    (by unfold maxLen; omega) (by omega) h
  exact World.news_of_block (cs := #[y, y, y]) (heap_alloc_new w _)
/-- The block of a value alone. -/
def only (v : Value) (k : Nat) : Prop := v.ownBlock = some k
def SpoOut (B : Nat) (e : Ending) (w w' : World) (t : TypeId) (v : Value) (n : Nat) (y : Value) : Prop := e = .returned (.tuple #[]) ∧ w'.ownsRow B t 1 v n (List.replicate n y) ∧ Fr w w' (only v) ∧ Below B w w'
theorem ovr_take {n : Nat} {y : Value} {ys : List Value} (h : n ≤ ys.length) : (ovr ys.length y ys).take n = List.replicate n y := by
  rw [ovr_all, List.take_replicate]; congr 1; omega

set_option maxRecDepth 100000 in
set_option maxHeartbeats 1000000 in
theorem spoilt_any (A : Option Addr) (n c : Nat) (xs : List Value) (y : Int) (w : World) (B : Nat) (hB : B ≤ w.heap.size) (hn : n < 2000000) (h : w.ownsRow B 3 1 (.slice A n c) n xs) :
    Calls Tryz.prog 9 #[.slice A n c, .int .i64 y] w fun e w' => SpoOut B e w w' 3 (.slice A n c) n (.int .i64 y) := by
  rcases h.2 with ⟨e1, e2⟩ | ⟨g, c', cur, e1, -⟩
  · injection e1 with g1 g2 g3
    subst g1
    subst g2
    subst g3
    have H0 : Hid (w.ownsRow B 3 1 (.slice none 0 0) 0 (List.replicate 0 (.int .i64 y))) := World.ownsRow_nil _ _ _ _
    clear h e2
    go_enter Tryz.func9, Tryz.ntmps9
    go_wp2
    go_loopw [12] (fun iv wr => iv = .int .i64 0 ∧ wr = w) (fun _ _ => 0)
    case atStart => exact ⟨rfl, rfl⟩
    case round =>
      obtain ⟨rfl, rfl⟩ := hrel
      go_wp2_with (first | (at_builtin; refine wpList_app3 rfl (.tmp 20) (.tmp 24) rfl rfl y H0.out rfl (by omega) (fun v' w2 h2 h3 => ?_)) | fail)
      go_end0
      exact ⟨rfl, h2, ((Fr.refl _ _).alloc _).grown h3 (fun k hk => hk), ((Below.refl _ _).alloc hB _).grown h3 (by simp; omega) (fun k hk => by cases hk)⟩
  · injection e1 with g1 _ g3
    subst g1
    subst g3
    obtain ⟨ys, hyl, -, hnc, hcm, hful⟩ := own_full h
    obtain ⟨hBg, hgs⟩ := h.lt g rfl
    have HF : Hid (w.ownsRow B 3 1 (.slice (some ⟨g, 0, none⟩) c c) c (ovr 0 (.int .i64 y) ys)) := by show World.ownsRow _ _ _ _ _ _ _; rw [ovr_zero]; exact hful
    have HY := Lib.hid hyl
    clear h hful hyl
    go_enter Tryz.func9, Tryz.ntmps9
    go_wp2
    go_loopw [12] (fun iv wr => ∃ i : Nat, i ≤ c ∧ iv = .int .i64 i ∧ wr.ownsRow B 3 1 (.slice (some ⟨g, 0, none⟩) c c) c (ovr i (.int .i64 y) ys) ∧ Fr w wr (only (.slice (some ⟨g, 0, none⟩) n c)) ∧ Below B w wr) (fun iv _ => c - (intOf iv).toNat)
    case atStart => exact ⟨0, Nat.zero_le _, rfl, HF.out, Fr.refl _ _, Below.refl _ _⟩
    case round =>
      clear HF
      obtain ⟨i, hi, rfl, ho, hf, hW⟩ := hrel
      have HO := Lib.hid ho
      have HR := Lib.hid hf
      have HW := Lib.hid hW
      clear ho hf hW
      by_cases hic : i < c
      · have di : decide (i < c) = true := decide_eq_true hic
        have hil : i < (ovr i (.int .i64 y) ys).length := by rw [ovr_length (by rw [HY.out]; omega), HY.out]; exact hic
        have hck : wr.cell? ⟨g, i, none⟩ = some ((ovr i (.int .i64 y) ys)[i]) := by rw [HO.out.cellAt i (by omega)]; exact List.getElem?_eq_getElem hil
        obtain ⟨z, hz⟩ : ∃ z, z = (ovr i (.int .i64 y) ys)[i] := ⟨_, rfl⟩
        rw [← hz] at hck
        have hfz := HO.out.frozenAt i
        have hst := (HO.out.stored i (.int .i64 y)).1
        rw [ovr_set (by rw [HY.out]; exact hic)] at hst
        have HS := Lib.hid hst
        have HR2 := Lib.hid (HR.out.setCell (a := ⟨g, i, none⟩) (y := .int .i64 y) (show only (.slice (some ⟨g, 0, none⟩) n c) g from rfl))
        have HW2 := Lib.hid (HW.out.setCell (p := ⟨g, i, none⟩) hBg (.int .i64 y))
        clear hz hst hil
        go_wp2
        go_roundw
        case rel => exact ⟨i + 1, by omega, by go_num, HS.out, HR2.out, HW2.out⟩
        case measure => simp [intOf]; omega
      · have di : decide (i < c) = false := decide_eq_false hic
        have hie : i = ys.length := by rw [HY.out]; omega
        have hpt := own_part HO.out hnc
        rw [hie, ovr_take (by rw [HY.out]; exact hnc)] at hpt
        have HP := Lib.hid hpt
        have hsz := Lib.hid HW.out.size
        clear hie hpt HO
        go_wp2_with (first | (at_builtin; refine wpList_app3 rfl (.tmp 20) (.tmp 24) rfl rfl y HP.out rfl (by omega) (fun v' w2 h2 h3 => ?_)) | fail)
        go_end0
        exact ⟨rfl, h2, (HR.out.alloc _).grown h3 (fun k hk => hk), (HW.out.alloc (by have := hsz.out; omega) _).grown h3 (by have := hsz.out; simp; omega) (fun k hk => by
          have hk2 : (Value.slice (some ⟨g, 0, none⟩) n c).ownBlock = some k := hk
          obtain rfl : g = k := by simpa [Value.ownBlock] using hk2
          exact hBg)⟩

set_option maxRecDepth 100000 in
set_option maxHeartbeats 1000000 in
theorem spoiltR_any (A : Option Addr) (n c : Nat) (xs : List Value) (m : Nat) (w : World) (B : Nat) (hB : B ≤ w.heap.size) (hn : n < 2000000) (h : w.ownsRow B 22 1 (.slice A n c) n xs) :
    Calls Tryz.prog 57 #[.slice A n c, .slice (some ⟨m, 0, none⟩) 1 1] w fun e w' => SpoOut B e w w' 22 (.slice A n c) n (.slice (some ⟨m, 0, none⟩) 1 1) := by
  rcases h.2 with ⟨e1, e2⟩ | ⟨g, c', cur, e1, -⟩
  · injection e1 with g1 g2 g3
    subst g1
    subst g2
    subst g3
    have H0 : Hid (w.ownsRow B 22 1 (.slice none 0 0) 0 (List.replicate 0 (.slice (some ⟨m, 0, none⟩) 1 1))) := World.ownsRow_nil _ _ _ _
    clear h e2
    go_enter Tryz.func57, Tryz.ntmps57
    go_wp2
    go_loopw [12] (fun iv wr => iv = .int .i64 0 ∧ wr = w) (fun _ _ => 0)
    case atStart => exact ⟨rfl, rfl⟩
    case round =>
      obtain ⟨rfl, rfl⟩ := hrel
      go_wp2_with (first | (at_builtin; refine wpList_app3r rfl (.tmp 20) (.tmp 24) rfl rfl (.slice (some ⟨m, 0, none⟩) 1 1) rfl H0.out rfl (by omega) (fun v' w2 h2 h3 => ?_)) | fail)
      go_end0
      exact ⟨rfl, h2, ((Fr.refl _ _).alloc _).grown h3 (fun k hk => hk), ((Below.refl _ _).alloc hB _).grown h3 (by simp; omega) (fun k hk => by cases hk)⟩
  · injection e1 with g1 _ g3
    subst g1
    subst g3
    obtain ⟨ys, hyl, -, hnc, hcm, hful⟩ := own_full h
    obtain ⟨hBg, hgs⟩ := h.lt g rfl
    have HF : Hid (w.ownsRow B 22 1 (.slice (some ⟨g, 0, none⟩) c c) c (ovr 0 (.slice (some ⟨m, 0, none⟩) 1 1) ys)) := by show World.ownsRow _ _ _ _ _ _ _; rw [ovr_zero]; exact hful
    have HY := Lib.hid hyl
    clear h hful hyl
    go_enter Tryz.func57, Tryz.ntmps57
    go_wp2
    go_loopw [12] (fun iv wr => ∃ i : Nat, i ≤ c ∧ iv = .int .i64 i ∧ wr.ownsRow B 22 1 (.slice (some ⟨g, 0, none⟩) c c) c (ovr i (.slice (some ⟨m, 0, none⟩) 1 1) ys) ∧ Fr w wr (only (.slice (some ⟨g, 0, none⟩) n c)) ∧ Below B w wr) (fun iv _ => c - (intOf iv).toNat)
    case atStart => exact ⟨0, Nat.zero_le _, rfl, HF.out, Fr.refl _ _, Below.refl _ _⟩
    case round =>
      clear HF
      obtain ⟨i, hi, rfl, ho, hf, hW⟩ := hrel
      have HO := Lib.hid ho
      have HR := Lib.hid hf
      have HW := Lib.hid hW
      clear ho hf hW
      by_cases hic : i < c
      · have di : decide (i < c) = true := decide_eq_true hic
        have hil : i < (ovr i (.slice (some ⟨m, 0, none⟩) 1 1) ys).length := by rw [ovr_length (by rw [HY.out]; omega), HY.out]; exact hic
        have hck : wr.cell? ⟨g, i, none⟩ = some ((ovr i (.slice (some ⟨m, 0, none⟩) 1 1) ys)[i]) := by rw [HO.out.cellAt i (by omega)]; exact List.getElem?_eq_getElem hil
        obtain ⟨z, hz⟩ : ∃ z, z = (ovr i (.slice (some ⟨m, 0, none⟩) 1 1) ys)[i] := ⟨_, rfl⟩
        rw [← hz] at hck
        have hfz := HO.out.frozenAt i
        have hst := (HO.out.stored i (.slice (some ⟨m, 0, none⟩) 1 1)).1
        rw [ovr_set (by rw [HY.out]; exact hic)] at hst
        have HS := Lib.hid hst
        have HR2 := Lib.hid (HR.out.setCell (a := ⟨g, i, none⟩) (y := .slice (some ⟨m, 0, none⟩) 1 1) (show only (.slice (some ⟨g, 0, none⟩) n c) g from rfl))
        have HW2 := Lib.hid (HW.out.setCell (p := ⟨g, i, none⟩) hBg (.slice (some ⟨m, 0, none⟩) 1 1))
        clear hz hst hil
        go_wp2
        go_roundw
        case rel => exact ⟨i + 1, by omega, by go_num, HS.out, HR2.out, HW2.out⟩
        case measure => simp [intOf]; omega
      · have di : decide (i < c) = false := decide_eq_false hic
        have hie : i = ys.length := by rw [HY.out]; omega
        have hpt := own_part HO.out hnc
        rw [hie, ovr_take (by rw [HY.out]; exact hnc)] at hpt
        have HP := Lib.hid hpt
        have hsz := Lib.hid HW.out.size
        clear hie hpt HO
        go_wp2_with (first | (at_builtin; refine wpList_app3r rfl (.tmp 20) (.tmp 24) rfl rfl (.slice (some ⟨m, 0, none⟩) 1 1) rfl HP.out rfl (by omega) (fun v' w2 h2 h3 => ?_)) | fail)
        go_end0
        exact ⟨rfl, h2, (HR.out.alloc _).grown h3 (fun k hk => hk), (HW.out.alloc (by have := hsz.out; omega) _).grown h3 (by have := hsz.out; simp; omega) (fun k hk => by
          have hk2 : (Value.slice (some ⟨g, 0, none⟩) n c).ownBlock = some k := hk
          obtain rfl : g = k := by simpa [Value.ownBlock] using hk2
          exact hBg)⟩

end Go.Proofs.YtpmkdihencepnaaGreat

/-
  ferkeep.spread: rows that are the call's own, written over one by one, leave each other as they are.
-/
namespace Go.Proofs.YtpmkdihencepnaaGreat
open Go.RowKit

/-- One row turned by a call that leaves the others. -/
theorem OwnM.turn {w w' : World} {B : Nat} {v : Value} {hs : List Value} {rows rows' : List (List Int)} (h : OwnM w B v hs rows) (hl : rows'.length = rows.length) {i : Nat} (hf : Fr w w' (only (hs.getD i undef)))
    (hi : i < rows.length) (hr : ∀ r, r < rows.length → r ≠ i → rows'.getD r [] = rows.getD r []) (hown : w'.ownsRow B 3 1 (hs.getD i undef) (rows'.getD i []).length (ints (rows'.getD i []))) : OwnM w' B v hs rows' := by
  refine ⟨by rw [hl]; exact h.len, by rw [hl]; exact own_same h.out (fun k hk => hf.block k (h.out.lt k hk).2 (h.top i hi k hk)), fun r hr2 => ?_, fun r s h1 h2 hne => h.far r s (by rw [← hl]; exact h1) (by rw [← hl]; exact h2) hne, fun r h1 => h.top r (by rw [← hl]; exact h1)⟩
  rw [hl] at hr2
  by_cases e : r = i
  · rw [e]; exact hown
  · rw [hr r hr2 e]
    exact own_same (h.inn r hr2) (fun k hk => hf.block k ((h.inn r hr2).lt k hk).2 (h.far r i hr2 hi e k hk))
/-- Rows, the first i of which are written over. -/
def sprT (rows : List (List Int)) (i : Nat) : List (List Int) := (List.range rows.length).map (fun r => if r < i then List.replicate (rows.getD r []).length (-7 - (r : Int)) else rows.getD r [])
theorem sprT_length (rows : List (List Int)) (i : Nat) : (sprT rows i).length = rows.length := by simp [sprT]
theorem sprT_getD {rows : List (List Int)} {i r : Nat} (h : r < rows.length) : (sprT rows i).getD r [] = if r < i then List.replicate (rows.getD r []).length (-7 - (r : Int)) else rows.getD r [] := by simp [sprT, h]
theorem sprT_zero (rows : List (List Int)) : sprT rows 0 = rows := by
  apply List.ext_getElem (by rw [sprT_length])
  intro r h1 h2
  have := sprT_getD (i := 0) h2
  rw [if_neg (by omega), getD_get h1, getD_get h2] at this
  exact this
theorem sprT_len {rows : List (List Int)} {i r : Nat} (h : r < rows.length) : ((sprT rows i).getD r []).length = (rows.getD r []).length := by
  rw [sprT_getD h]
  by_cases e : r < i
  · rw [if_pos e, List.length_replicate]
  · rw [if_neg e]
theorem ints_rep (n : Nat) (x : Int) : ints (List.replicate n x) = List.replicate n (.int .i64 x) := by simp [ints]
theorem OwnM.spr {w w' : World} {B : Nat} {v : Value} {hs : List Value} {rows : List (List Int)} {i : Nat} (h : OwnM w B v hs (sprT rows i)) (hi : i < rows.length) {A : Option Addr} {n c : Nat} (hv : hs.getD i undef = .slice A n c) (hn : n = (rows.getD i []).length)
    (hf : Fr w w' (only (.slice A n c))) (ho : w'.ownsRow B 3 1 (.slice A n c) n (List.replicate n (.int .i64 (-7 - (i : Int))))) : OwnM w' B v hs (sprT rows (i + 1)) := by
  have e : (sprT rows (i + 1)).getD i [] = List.replicate n (-7 - (i : Int)) := by rw [sprT_getD hi, if_pos (by omega), hn]
  refine h.turn (by rw [sprT_length, sprT_length]) (i := i) (by rw [hv]; exact hf) (by rw [sprT_length]; exact hi) (fun r hr hne => ?_) ?_
  · rw [sprT_length] at hr
    rw [sprT_getD hr, sprT_getD hr]
    by_cases c : r < i
    · rw [if_pos c, if_pos (by omega)]
    · rw [if_neg c, if_neg (by omega)]
  · rw [e, List.length_replicate, hv, ints_rep]; exact ho
def SprOut (B : Nat) (e : Ending) (w w' : World) (v : Value) (hs : List Value) : Prop := e = .returned (.bool true) ∧ Fr w w' (foot v hs) ∧ Below B w w'

set_option maxRecDepth 100000 in
set_option maxHeartbeats 2000000 in
theorem spread_any (A : Option Addr) (c : Nat) (rows : List (List Int)) (hs : List Value) (w : World) (B : Nat) (hB : B ≤ w.heap.size) (hn : rows.length ≤ 1000000) (hsm : ∀ r, (rows.getD r []).length ≤ 1000000) (h : OwnM w B (.slice A rows.length c) hs rows) :
    Calls Tryz.prog 33 #[.slice A rows.length c] w fun e w' => SprOut B e w w' (.slice A rows.length c) hs := by
  have HSM := Lib.hid hsm
  have H0 : Hid (OwnM w B (.slice A rows.length c) hs (sprT rows 0)) := by show OwnM _ _ _ _ _; rw [sprT_zero]; exact h
  have hsz := Lib.hid hB
  clear hsm h hB
  go_enter Tryz.func33, Tryz.ntmps33
  go_wp2
  go_loopw [9] (fun iv wr => ∃ i : Nat, i ≤ rows.length ∧ iv = .int .i64 i ∧ OwnM wr B (.slice A rows.length c) hs (sprT rows i) ∧ Fr w wr (foot (.slice A rows.length c) hs) ∧ Below B w wr) (fun iv _ => rows.length - (intOf iv).toNat)
  case atStart => exact ⟨0, Nat.zero_le _, rfl, H0.out, Fr.refl _ _, Below.refl _ _⟩
  case round =>
    clear H0
    obtain ⟨i, hi, rfl, hm, hf, hW⟩ := hrel
    have HM := Lib.hid hm
    have HR := Lib.hid hf
    have HW := Lib.hid hW
    clear hm hf hW
    by_cases hit : i < rows.length
    · have di : decide (i < rows.length) = true := decide_eq_true hit
      have hin := HM.out.inn i (by rw [sprT_length]; exact hit)
      obtain ⟨Ai, ci, hv, -, -, -⟩ := own_sliceA hin
      have hle := sprT_len (i := i) hit
      rw [hle] at hv
      have hout := HM.out.out
      rw [sprT_length] at hout
      obtain ⟨g, c', e1, -, -⟩ := hout.form (by omega)
      obtain ⟨rfl, rfl⟩ : A = some ⟨g, 0, none⟩ ∧ c = c' := by injection e1 with g1 _ g3; exact ⟨g1, g3⟩
      have hcl : wr.cell? ⟨g, i, none⟩ = some (.slice Ai (rows.getD i []).length ci) := by rw [hout.cellAt i (by omega), HM.out.get (by rw [sprT_length]; exact hit), hv]
      have hin2 : wr.ownsRow B 3 1 (.slice Ai (rows.getD i []).length ci) (rows.getD i []).length (ints ((sprT rows i).getD i [])) := by rw [← hv, ← hle]; exact hin
      have hq := HSM.out i
      obtain ⟨q, hqe⟩ : ∃ q, q = (rows.getD i []).length := ⟨_, rfl⟩
      rw [← hqe] at hcl hin2 hq hv
      have HV := Lib.hid hv
      have HQ := Lib.hid hqe
      have HB := Lib.hid (Nat.le_trans hsz.out HW.out.size)
      have HI := Lib.hid hin2
      clear hin hle hout hqe hv hin2 e1
      go_wp2_with (first | (go_at_call 9; refine (spoilt_any Ai q ci _ (-7 - (i : Int)) _ B HB.out (by omega) HI.out).mono ?_) | fail)
      rintro e w2 ⟨rfl, ho2, hf2, hb2⟩
      have HM2 := Lib.hid (HM.out.spr hit HV.out HQ.out hf2 ho2)
      have HR2 := Lib.hid (HR.out.trans hf2 (fun k _ hk => foot_row (i := i) (by rw [HM.out.len, sprT_length]; exact hit) (by rw [HV.out]; exact hk)))
      have HW2 := Lib.hid (HW.out.trans hb2)
      clear ho2 hf2 hb2
      go_wp2
      go_roundw
      case rel => exact ⟨i + 1, by omega, by go_num, HM2.out, HR2.out, HW2.out⟩
      case measure => simp [intOf]; omega
    · have di : decide (i < rows.length) = false := decide_eq_false hit
      have hie : i = rows.length := by omega
      have hm := HM.out
      rw [hie] at hm
      have HM2 := Lib.hid hm
      have HB := Lib.hid (Nat.le_trans hsz.out HW.out.size)
      clear hm hie HM
      obtain ⟨w5, rfl⟩ : ∃ w5, w5 = wr := ⟨_, rfl⟩
      go_wp2
      go_loop [22] (fun iv => ∃ i : Nat, i ≤ rows.length ∧ iv = .int .i64 i) (fun iv => rows.length - (intOf iv).toNat)
      case atStart => exact ⟨0, Nat.zero_le _, rfl⟩
      case round =>
        obtain ⟨j, hj, rfl⟩ := hrel
        by_cases hjt : j < rows.length
        · have dj : decide (j < rows.length) = true := decide_eq_true hjt
          have hin := HM2.out.inn j (by rw [sprT_length]; exact hjt)
          obtain ⟨Aj, cj, hv, -, hsl, -, -⟩ := own_sliceA hin
          have hle := sprT_len (i := rows.length) hjt
          have hge := sprT_getD (i := rows.length) hjt
          rw [if_pos hjt] at hge
          rw [hle] at hv
          rw [hge] at hsl
          have hout := HM2.out.out
          rw [sprT_length] at hout
          obtain ⟨g, c', e1, -, -⟩ := hout.form (by omega)
          obtain ⟨rfl, rfl⟩ : A = some ⟨g, 0, none⟩ ∧ c = c' := by injection e1 with g1 _ g3; exact ⟨g1, g3⟩
          have hcl : w5.cell? ⟨g, j, none⟩ = some (.slice Aj (rows.getD j []).length cj) := by rw [hout.cellAt j (by omega), HM2.out.get (by rw [sprT_length]; exact hjt), hv]
          have hq := HSM.out j
          obtain ⟨q, hqe⟩ : ∃ q, q = (rows.getD j []).length := ⟨_, rfl⟩
          rw [← hqe] at hcl hq hsl
          have HSL := Lib.hid hsl
          clear hin hle hout hqe hv hsl e1 hge
          go_wp2
          go_loop [30] (fun kv => ∃ k : Nat, k ≤ q ∧ kv = .int .i64 k) (fun kv => q - (intOf kv).toNat)
          case atStart => exact ⟨0, Nat.zero_le _, rfl⟩
          case round =>
            obtain ⟨k, hk, rfl⟩ := hrel
            by_cases hkq : k < q
            · have dk : decide (k < q) = true := decide_eq_true hkq
              obtain ⟨b, o, rfl, hb⟩ := HSL.out.addr (by rw [List.length_replicate]; omega)
              have hcx := getD_cell HSL.out (k := k) (by rw [List.length_replicate]; exact hkq)
              rw [getD_get (by rw [List.length_replicate]; exact hkq), List.getElem_replicate] at hcx
              have hne : ((-7 - (j : Int)) != (-7 - (j : Int))) = false := by simp
              go_wp2
              go_round
              case rel => exact ⟨k + 1, by omega, by go_num⟩
              case measure => simp [intOf]; omega
            · have dk : decide (k < q) = false := decide_eq_false hkq
              go_wp2
              go_round
              case rel => exact ⟨j + 1, by omega, by go_num⟩
              case measure => simp [intOf]; omega
        · have dj : decide (j < rows.length) = false := decide_eq_false hjt
          have hout := HM2.out.out
          rw [sprT_length] at hout
          have HO := Lib.hid (hout.alloc (.cells #[.int .i64 77] 3))
          have HR3 := Lib.hid (HR.out.alloc (.cells #[.int .i64 77] 3))
          have HW3 := Lib.hid (HW.out.alloc HB.out (.cells #[.int .i64 77] 3))
          have HB3 : Hid (B ≤ (w5.alloc (.cells #[.int .i64 77] 3)).heap.size) := by show _ ≤ _; have := HB.out; simp; omega
          clear hout
          go_wp2_with (first | (go_at_call 57; refine (spoiltR_any A rows.length c _ w5.heap.size _ B HB3.out (by omega) HO.out).mono ?_) | fail)
          rintro e w6 ⟨rfl, ho6, hf6, hb6⟩
          have hfin : Hid (SprOut B (.returned (.bool true)) w w6 (.slice A rows.length c) hs) := ⟨rfl, HR3.out.trans hf6 (fun k _ hk => foot_top hk), HW3.out.trans hb6⟩
          clear ho6 hf6 hb6
          go_wp2
          go_ret
          exact hfin.out

end Go.Proofs.YtpmkdihencepnaaGreat

/-
  Plain lists: the cycles of a permutation, one behind the other, each from its greatest number on (no program in sight).
-/
namespace Go.Proofs.YtpmkdihencepnaaGreat

def IsPerm (xs : List Int) : Prop := xs.Nodup ∧ ∀ x ∈ xs, 1 ≤ x ∧ x ≤ (xs.length : Int)
instance (xs : List Int) : Decidable (IsPerm xs) := by unfold IsPerm; infer_instance

/-- The image of n, counted from 1. -/
def at1 (xs : List Int) (n : Int) : Int := xs.getD (n - 1).toNat 0

theorem IsPerm.at1_mem {xs : List Int} (h : IsPerm xs) {n : Int} (h1 : 1 ≤ n) (h2 : n ≤ xs.length) : 1 ≤ at1 xs n ∧ at1 xs n ≤ xs.length := by
  have hk : (n - 1).toNat < xs.length := by omega
  have e : at1 xs n = xs[(n - 1).toNat] := getD_get hk
  rw [e]
  exact h.2 _ (List.getElem_mem hk)

theorem IsPerm.at1_inj {xs : List Int} (h : IsPerm xs) {a b : Int} (a1 : 1 ≤ a) (a2 : a ≤ xs.length) (b1 : 1 ≤ b) (b2 : b ≤ xs.length) (e : at1 xs a = at1 xs b) : a = b := by
  have ha : (a - 1).toNat < xs.length := by omega
  have hb : (b - 1).toNat < xs.length := by omega
  have ea : at1 xs a = xs[(a - 1).toNat] := getD_get ha
  have eb : at1 xs b = xs[(b - 1).toNat] := getD_get hb
  rw [ea, eb] at e
  have := nodup_get h.1 ha hb e
  omega

/-- As many different numbers from 1 to n as there may be. -/
theorem nodup_bound {L : List Int} {n : Nat} (h : L.Nodup) (hr : ∀ x ∈ L, 1 ≤ x ∧ x ≤ (n : Int)) : L.length ≤ n := by
  have hs : L ⊆ (List.range n).map (fun i : Nat => (i : Int) + 1) := by
    intro x hx
    have := hr x hx
    exact List.mem_map.2 ⟨(x - 1).toNat, by simp; omega, by omega⟩
  have := h.length_le_of_subset hs
  simpa using this

/-- What goes from top on by the permutation, not back at top: no number comes twice. -/
structure Path (xs : List Int) (top : Int) (l : List Int) (n : Int) : Prop where
  head : l.head? = some top
  step : ∀ i (h : i + 1 < l.length), l[i + 1] = at1 xs (l[i]'(by omega))
  low : ∀ i (h : i + 1 < l.length), l[i + 1] < top
  last : n = at1 xs (l.getLastD 0)
  range : ∀ x ∈ l, 1 ≤ x ∧ x ≤ (xs.length : Int)

theorem Path.ne {xs : List Int} {top n : Int} {l : List Int} (h : Path xs top l n) : l ≠ [] := by
  intro e; have := h.head; simp [e] at this

theorem Path.pos {xs : List Int} {top n : Int} {l : List Int} (h : Path xs top l n) : 0 < l.length := List.length_pos_iff.2 h.ne

theorem Path.zero {xs : List Int} {top n : Int} {l : List Int} (h : Path xs top l n) : l[0]'h.pos = top := by
  have := h.head
  rw [List.head?_eq_getElem?, List.getElem?_eq_getElem h.pos] at this
  exact Option.some.inj this

theorem Path.start {xs : List Int} {top : Int} (h1 : 1 ≤ top) (h2 : top ≤ xs.length) : Path xs top [top] (at1 xs top) :=
  ⟨rfl, fun i h => by simp at h, fun i h => by simp at h, rfl, fun x hx => by simp at hx; omega⟩

theorem Path.next {xs : List Int} {top n : Int} {l : List Int} (hp : IsPerm xs) (h : Path xs top l n) (hn : n < top) : Path xs top (l ++ [n]) (at1 xs n) := by
  have hpos := h.pos
  have hlast : l.getLastD 0 = l[l.length - 1] := getLastD_get hpos
  have hmem : 1 ≤ n ∧ n ≤ (xs.length : Int) := by
    rw [h.last, hlast]
    have := h.range _ (List.getElem_mem (show l.length - 1 < l.length by omega))
    exact hp.at1_mem this.1 this.2
  refine ⟨?_, ?_, ?_, by simp, ?_⟩
  · rw [List.head?_append, h.head]; rfl
  · intro i hi
    simp only [List.length_append, List.length_cons, List.length_nil] at hi
    by_cases hl : i + 1 < l.length
    · rw [List.getElem_append_left hl, List.getElem_append_left (by omega)]
      exact h.step i hl
    · have e : i + 1 = l.length := by omega
      rw [List.getElem_append_right (by omega), List.getElem_append_left (by omega)]
      simp only [e, Nat.sub_self, List.getElem_cons_zero]
      rw [h.last, hlast]
      congr 2
      omega
  · intro i hi
    simp only [List.length_append, List.length_cons, List.length_nil] at hi
    by_cases hl : i + 1 < l.length
    · rw [List.getElem_append_left hl]
      exact h.low i hl
    · have e : i + 1 = l.length := by omega
      rw [List.getElem_append_right (by omega)]
      simp only [e, Nat.sub_self, List.getElem_cons_zero]
      exact hn
  · intro x hx
    rcases List.mem_append.1 hx with hx | hx
    · exact h.range x hx
    · simp at hx; omega

theorem Path.nodup {xs : List Int} {top n : Int} {l : List Int} (hp : IsPerm xs) (h : Path xs top l n) : l.Nodup := by
  have key : ∀ (i j : Nat) (hi : i < l.length) (hj : j < l.length), i < j → l[i] ≠ l[j] := by
    intro i
    induction i with
    | zero =>
      intro j hi hj hij e
      obtain ⟨j, rfl⟩ : ∃ m, j = m + 1 := ⟨j - 1, by omega⟩
      have := h.low j hj
      rw [← e, h.zero] at this
      omega
    | succ i ih =>
      intro j hi hj hij e
      obtain ⟨j, rfl⟩ : ∃ m, j = m + 1 := ⟨j - 1, by omega⟩
      rw [h.step i hi, h.step j hj] at e
      have r1 := h.range _ (List.getElem_mem (show i < l.length by omega))
      have r2 := h.range _ (List.getElem_mem (show j < l.length by omega))
      exact ih j (by omega) (by omega) (by omega) (hp.at1_inj r1.1 r1.2 r2.1 r2.2 e)
  rw [List.nodup_iff_pairwise_ne, List.pairwise_iff_getElem]
  intro i j hi hj hij
  exact key i j hi hj hij

/-! The other way: a list, cut before each number that is above all ahead. -/

/-- The greatest of the first k + 1 numbers. -/
def topTo (q : List Int) (k : Nat) : Int := (q.take (k + 1)).foldl max 0
theorem foldl_max_ge (l : List Int) : ∀ a, a ≤ l.foldl max a ∧ ∀ x ∈ l, x ≤ l.foldl max a := by
  induction l with
  | nil => intro a; simp
  | cons y l ih =>
    intro a
    have h := ih (max a y)
    simp only [List.foldl_cons]
    refine ⟨by omega, fun x hx => ?_⟩
    rcases List.mem_cons.1 hx with rfl | hx
    · omega
    · exact h.2 x hx

theorem foldl_max_mem (l : List Int) : ∀ a, l.foldl max a = a ∨ l.foldl max a ∈ l := by
  induction l with
  | nil => intro a; simp
  | cons y l ih =>
    intro a
    simp only [List.foldl_cons]
    rcases ih (max a y) with h | h
    · rw [h]
      by_cases hay : a ≤ y
      · right; rw [Int.max_eq_right hay]; simp
      · left; rw [Int.max_eq_left (by omega)]
    · right; exact List.mem_cons_of_mem _ h

/-- It is that number which stands there and is not below any. -/
theorem topTo_eq {q : List Int} {k i : Nat} (hk : k < q.length) (hi : i ≤ k) (h0 : 0 ≤ q.getD i 0) (h : ∀ j, j ≤ k → q.getD j 0 ≤ q.getD i 0) : topTo q k = q.getD i 0 := by
  unfold topTo
  have h1 := foldl_max_ge (q.take (k + 1)) 0
  have hil : i < q.length := by omega
  have hmem : q.getD i 0 ∈ q.take (k + 1) := by
    rw [getD_get hil, List.mem_take_iff_getElem]
    exact ⟨i, by omega, rfl⟩
  have h2 := h1.2 _ hmem
  rcases foldl_max_mem (q.take (k + 1)) 0 with h3 | h3
  · omega
  · obtain ⟨j, hj, e⟩ := List.mem_take_iff_getElem.1 h3
    have := h j (by omega)
    rw [getD_get (show j < q.length by omega), e] at this
    omega

theorem IsPerm.getD_range {q : List Int} (hp : IsPerm q) {k : Nat} (hk : k < q.length) : 1 ≤ q.getD k 0 ∧ q.getD k 0 ≤ q.length := by
  rw [getD_get hk]; exact hp.2 _ (List.getElem_mem hk)

theorem IsPerm.getD_inj {q : List Int} (hp : IsPerm q) {j k : Nat} (hj : j < q.length) (hk : k < q.length) (e : q.getD j 0 = q.getD k 0) : j = k := by
  rw [getD_get hj, getD_get hk] at e
  exact nodup_get hp.1 hj hk e

/-- From i on to t: a number above all ahead, and those behind it that are below it. -/
structure IsBlock (q : List Int) (i t : Nat) : Prop where
  perm : IsPerm q
  n40 : q.length ≤ 40
  lt : i < q.length
  it : i < t
  tl : t ≤ q.length
  recd : ∀ j, j < i → q.getD j 0 < q.getD i 100
  low : ∀ j, i < j → j < t → q.getD j 0 < q.getD i 0
  stop : t = q.length ∨ q.getD i 0 ≤ q.getD t 0

theorem IsBlock.le {q : List Int} {i t : Nat} (h : IsBlock q i t) {j : Nat} (hj : j < t) : q.getD j 0 ≤ q.getD i 0 := by
  have hi := h.lt
  rcases Nat.lt_trichotomy j i with h1 | h1 | h1
  · have := h.recd j h1
    rw [getD_get hi] at this ⊢
    omega
  · subst h1; omega
  · have := h.low j h1 hj; omega

theorem IsBlock.top {q : List Int} {i t : Nat} (h : IsBlock q i t) {k : Nat} (hik : i ≤ k) (hkt : k < t) : topTo q k = q.getD i 0 := by
  have hr := h.perm.getD_range h.lt
  have htl := h.tl
  exact topTo_eq (by omega) hik (by omega) (fun j hj => h.le (by omega))

theorem IsBlock.next {q : List Int} {i t : Nat} (h : IsBlock q i t) : ∀ j, j < t → q.getD j 0 < q.getD t 100 := by
  intro j hj
  have hn := h.n40
  have htl := h.tl
  have hit := h.it
  have hjl : j < q.length := by omega
  have hr := h.perm.getD_range hjl
  by_cases hl : t < q.length
  · have hs : q.getD i 0 ≤ q.getD t 0 := by
      rcases h.stop with h | h
      · omega
      · exact h
    have hne : q.getD i 0 ≠ q.getD t 0 := fun e => by
      have := h.perm.getD_inj h.lt hl e; omega
    have hji := h.le hj
    have : q.getD t 100 = q.getD t 0 := by rw [getD_get hl, getD_get hl]
    omega
  · rw [getD_far (d := 100) (by omega)]; omega

end Go.Proofs.YtpmkdihencepnaaGreat
