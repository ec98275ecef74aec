/-
  A slice with room to spare: made, filled and cut.
-/
import Derived.Test.YtpmkdihencepnaaGreatMg02
import Derived.Test.YtpmkdihencepnaaGreatMg13
import Derived.Test.YtpmkdihencepnaaGreatMg14
import Derived.Test.YtpmkdihencepnaaGreatMg17
import Derived.Test.YtpmkdihencepnaaGreatMg19
namespace Go.Proofs.YtpmkdihencepnaaGreat
open Go.RowKit

section
variable {w w' : World} {base B n : Nat} {A : Option Addr} {xs cs : List Value} {v : Value}
/-- 'make([]T, 0, c)'. -/
theorem wpList_mkc {t e : TypeId} {z : Value} {bytes : Nat} (hinfo : (Tryz.prog.info? e).map (fun i => (i.zero, i.size, i.bytes)) = some (some z, 1, bytes)) (ht : Tryz.prog.underlying t = some (.slice e))
    {ops : Array Oper} {rest : List Oper} {o : Oper} {a : Act} {Q : Exit → Act → World → Prop} (hgd : o.guard = none) (s x : Operand)
    (ho : o.op = Op.makeSlice t s x) (c : Nat) (hs : a.eval s = .int .i64 0) (hx : a.eval x = .int .i64 c) (hlen : bytes * c ≤ 281474976710656) (hc : c ≤ 9223372036854775807) (hbase : base ≤ w.heap.size)
    (h : ∀ w', w'.ownsRow base e 1 (.slice (some ⟨w.heap.size, 0, none⟩) 0 c) 0 [] → Below w.heap.size w w' → w'.heap.size = w.heap.size + 1 →
      wpList Tryz.prog ops Q rest (a.put o.dst (.slice (some ⟨w.heap.size, 0, none⟩) 0 c)) w') :
    wpList Tryz.prog ops Q (o :: rest) a w := by
  obtain ⟨i0, hi, hz0, hzs, hz2⟩ := info_parts hinfo
  have h9 : ((bytes * c : Nat) : Int) ≤ 281474976710656 := by omega
  rw [Int.natCast_mul, ← hz2] at h9
  have hrun := run_make (P := Tryz.prog) w t e i0 z ht hi hz0 .i64 .i64 0 c (by omega) (by omega) h9 (by omega)
  refine wpList_plain hgd fun K hK => ?_
  unfold Oper.wp
  simp [execOp, ho, hs, hx, hrun, Result.andThen]
  exact hK _ _ (h _ (World.ownsRow_made w _ c hbase (by unfold maxLen; exact hc) (by rw [size_madeCells, hzs])) ((Below.refl _ _).alloc (Nat.le_refl _) _) (by simp))
/-- append of a slice where there is room. -/
theorem run_app_room {t ty e : TypeId} {i : TypeInfo} (ht : Tryz.prog.underlying t = some (.slice e)) (hi : Tryz.prog.info? e = some i) (hsize : i.size = 1) {g cap : Nat} (hown : w.ownsRow base e 1 (.slice (some ⟨g, 0, none⟩) n cap) n xs)
    (c : Nat) (hr : Sl w B A cs) (h1 : ∀ u ∈ cs, u.oneCell' = true) (hroom : n + cs.length ≤ cap) :
    ∃ w', (Builtin.append_ #[t, t] ty #[.slice (some ⟨g, 0, none⟩) n cap, .slice A cs.length c]).run Tryz.prog w = .ok (.slice (some ⟨g, 0, none⟩) (n + cs.length) cap) w' ∧
      w'.ownsRow base e 1 (.slice (some ⟨g, 0, none⟩) (n + cs.length) cap) (n + cs.length) (xs ++ cs) ∧ w.grownBy w' (some g) := by
  by_cases hn : 0 < cs.length
  · obtain ⟨b, o, rfl, hb, hc⟩ := hr hn
    exact run_append_fits (P := Tryz.prog) w base t ty e i 1 ht hi hsize g n cap xs hown ⟨b, o, none⟩ cs.length c cs (by omega) (fun j u hu => by rw [Addr.add_lit]; exact hc j u hu) h1 hroom
  · obtain rfl : cs = [] := List.eq_nil_of_length_eq_zero (by omega)
    refine ⟨w, ?_, by simpa using hown, World.grownBy.refl _ _⟩
    cases A <;> simp [Builtin.append_, run_underlying ht, sizeOf, typeInfo, hi, Builtin.lenOf, Builtin.firstCells, loadCells, loadCellsFrom, storeCells, show n ≤ cap by simpa using hroom]
theorem wpList_app_room {t e : TypeId} {z : Value} {bytes : Nat} (hinfo : (Tryz.prog.info? e).map (fun i => (i.zero, i.size, i.bytes)) = some (some z, 1, bytes)) (ht : Tryz.prog.underlying t = some (.slice e))
    {ops : Array Oper} {rest : List Oper} {o : Oper} {a : Act} {Q : Exit → Act → World → Prop} (hgd : o.guard = none) (s x : Operand)
    (ho : o.op = .call { callee := .builtin .append, args := #[s, x], argTypes := #[t, t] }) {g cap : Nat} (hs : a.eval s = .slice (some ⟨g, 0, none⟩) n cap) (hown : w.ownsRow base e 1 (.slice (some ⟨g, 0, none⟩) n cap) n xs)
    (m c : Nat) (hx : a.eval x = .slice A m c) (hm : m = cs.length) (hr : Sl w B A cs) (h1 : ∀ u ∈ cs, u.oneCell' = true) (hroom : n + m ≤ cap)
    (h : ∀ w', w'.ownsRow base e 1 (.slice (some ⟨g, 0, none⟩) (n + m) cap) (n + m) (xs ++ cs) → w.grownBy w' (some g) → wpList Tryz.prog ops Q rest (a.put o.dst (.slice (some ⟨g, 0, none⟩) (n + m) cap)) w') :
    wpList Tryz.prog ops Q (o :: rest) a w := by
  subst hm
  obtain ⟨i0, hi, hz0, hzs, hz2⟩ := info_parts hinfo
  obtain ⟨w', hrun, h2, h3⟩ := run_app_room (ty := o.type) ht hi hzs hown c hr h1 hroom
  refine wpList_plain hgd fun K hK => ?_
  unfold Oper.wp execOp
  simp only [ho, resolve, invoke, builtin, Sem.run_bind, Sem.run_pure, Result.andThen_ok, List.map_toArray, List.map_cons, List.map_nil, hs, hx, hrun]
  exact hK _ _ (h w' h2 h3)
/-- Three alike, laid in a block of their own. -/
theorem Sl.three (y : Value) (e : TypeId) : Sl (w.alloc (.cells #[y, y, y] e)) (w.heap.size + 1) (some ⟨w.heap.size, 0, none⟩) [y, y, y] := fun _ =>
  ⟨w.heap.size, 0, rfl, by omega, fun k u hk => by
    have := World.news_of_block (cs := #[y, y, y]) (heap_alloc_new w (.cells #[y, y, y] e)) k u hk
    rwa [Addr.add_lit] at this⟩
end
/-- A slice with three alike behind it. -/
def Rm (w : World) (P : Nat → Prop) (u : Value) (xs : List Value) (y : Value) : Prop :=
  ∃ g c, u = .slice (some ⟨g, 0, none⟩) xs.length c ∧ xs.length + 3 ≤ c ∧ c ≤ 9223372036854775807 ∧ P g ∧ g < w.heap.size ∧ ∀ k z, (xs ++ [y, y, y])[k]? = some z → w.cell? ⟨g, k, none⟩ = some z
theorem Rm.keep {w w' : World} {P P' : Nat → Prop} {u : Value} {xs : List Value} {y : Value} (h : Rm w P u xs y) (hs : w.heap.size ≤ w'.heap.size) (hk : ∀ k, P k → k < w.heap.size → w'.heap[k]? = w.heap[k]? ∧ P' k) : Rm w' P' u xs y := by
  obtain ⟨g, c, e, h1, h2, h3, h4, h5⟩ := h
  exact ⟨g, c, e, h1, h2, (hk g h3 h4).2, by omega, fun k z hz => (World.cell?_of_block (a := ⟨g, k, none⟩) (hk g h3 h4).1).trans (h5 k z hz)⟩
theorem Rm.of {w : World} {base g n c : Nat} {e : TypeId} {xs : List Value} {y : Value} (hn : n = xs.length) (h : w.ownsRow base e 1 (.slice (some ⟨g, 0, none⟩) (n + 3) c) (n + 3) (xs ++ [y, y, y])) : Rm w (fun k => base ≤ k) (.slice (some ⟨g, 0, none⟩) n c) xs y := by
  have hl := h.lt g rfl
  subst hn
  exact ⟨g, c, rfl, (own_cap h).1, (own_cap h).2, hl.1, hl.2, fun k z hz => by
    have hk := (List.getElem?_eq_some_iff.1 hz).1
    simp at hk
    rw [h.cellAt k (by omega)]; exact hz⟩

end Go.Proofs.YtpmkdihencepnaaGreat

/-
  ferkeep.roomy: a copy with spare room in which something stands.
-/
namespace Go.Proofs.YtpmkdihencepnaaGreat
open Go.RowKit

def RoomyOut (e : Ending) (w w' : World) (xs : List Value) (y : Value) : Prop := ∃ u, e = .returned u ∧ Rm w' (fun k => w.heap.size ≤ k) u xs y
set_option maxRecDepth 100000 in
set_option maxHeartbeats 1000000 in
theorem roomy_any (A : Option Addr) (cap : Nat) (xs : List Int) (y : Int) (w : World) (hx : xs.length < 2000000) (h : Sl w w.heap.size A (ints xs)) :
    Calls Tryz.prog 6 #[.slice A xs.length cap, .int .i64 y] w fun e w' => RoomyOut e w w' (ints xs) (.int .i64 y) ∧ Below w.heap.size w w' := by
  have H := Lib.hid h
  have hwr : IntKind.i64.wrap ((xs.length : Int) + 3) = (xs.length : Int) + 3 := IntWalk.i64_in _ (by omega)
  obtain ⟨m, hm⟩ : ∃ m, m = xs.length + 3 := ⟨_, rfl⟩
  have hm2 : (xs.length : Int) + 3 = (m : Int) := by omega
  have HM := Lib.hid hm
  have hm3 : m < 2000003 := by omega
  clear h hm
  go_enter Tryz.func6, Tryz.ntmps6
  go_wp2_with (first | (refine wpList_mkc (base := w.heap.size) Tryz.infoInt Tryz.underlying22 rfl (.const (.int .i64 0)) (.tmp 8) rfl m rfl rfl (by omega) (by omega) (Nat.le_refl _) (fun w1 ho1 hb1 hs1 => ?_); have hr1 := Lib.hid (H.out.now hb1 (Nat.le_refl _)); have HO1 := Lib.hid ho1; have HB1 := Lib.hid hb1; have HS1 := Lib.hid hs1; clear ho1 hb1 hs1) | (at_builtin; refine wpList_app_room Tryz.infoInt Tryz.underlying22 rfl (.tmp 10) (.tmp 11) rfl rfl HO1.out xs.length cap rfl (by rw [ints_length]) hr1.out ints_one (by have := HM.out; omega) (fun w2 ho2 hg2 => ?_); rw [Nat.zero_add, List.nil_append] at ho2; have HO2 := Lib.hid ho2; have HW2 := Lib.hid ((HB1.out).grown hg2 (by have := HS1.out; omega) (fun k hk => by cases hk; exact Nat.le_refl _)); clear ho2 hg2) | (at_builtin; refine wpList_app_room Tryz.infoInt Tryz.underlying22 rfl (.tmp 13) (.tmp 17) rfl rfl (HO2.out.alloc _) 3 3 rfl rfl (Sl.three (.int .i64 y) 3) (by simp [Value.oneCell']) (by have := HM.out; omega) (fun w3 ho3 hg3 => ?_); have HO3 := Lib.hid ho3; have HW3 := Lib.hid ((HW2.out.alloc (Nat.le_trans (Nat.le_refl _) HW2.out.size) (.cells #[.int .i64 y, .int .i64 y, .int .i64 y] 3)).grown hg3 (by have := HW2.out.size; simp; omega) (fun k hk => by cases hk; exact Nat.le_refl _)); clear ho3 hg3; have hle : xs.length ≤ m := by (have := HM.out; omega)) | fail)
  go_ret
  exact ⟨⟨_, rfl, Rm.of ints_length.symm HO3.out⟩, HW3.out⟩
end Go.Proofs.YtpmkdihencepnaaGreat

/-
  ferkeep.kept: such a list is as it was.
-/
namespace Go.Proofs.YtpmkdihencepnaaGreat
open Go.RowKit

set_option maxRecDepth 100000 in
set_option maxHeartbeats 1000000 in
theorem kept_any (g c : Nat) (A' : Option Addr) (cap : Nat) (xs : List Int) (w : World) (hn : xs.length + 3 ≤ c) (hc : c ≤ 9223372036854775807) (hg : g < w.heap.size) (hcl : ∀ k z, (ints xs ++ [.int .i64 77, .int .i64 77, .int .i64 77])[k]? = some z → w.cell? ⟨g, k, none⟩ = some z) (h : Sl w w.heap.size A' (ints xs)) :
    Calls Tryz.prog 39 #[.slice (some ⟨g, 0, none⟩) xs.length c, .slice A' xs.length cap, .int .i64 77] w fun e w' => e = .returned (.bool true) ∧ Below w.heap.size w w' := by
  have hsl : Sl w w.heap.size (some ⟨g, 0, none⟩) (ints xs) := fun _ => ⟨g, 0, rfl, hg, fun k u hk => by
    rw [Nat.zero_add]
    have hkl := (List.getElem?_eq_some_iff.1 hk).1
    exact hcl k u (by rw [List.getElem?_append_left hkl]; exact hk)⟩
  have mark : ∀ k, k < 3 → w.cell? ⟨g, xs.length + k, none⟩ = some (.int .i64 77) := fun k hk => by
    refine hcl _ _ ?_
    rw [List.getElem?_append_right (by rw [ints_length]; omega), ints_length, show xs.length + k - xs.length = k by omega]
    rcases (show k = 0 ∨ k = 1 ∨ k = 2 by omega) with rfl | rfl | rfl <;> rfl
  have m0 := mark 0 (by omega)
  have m1 := mark 1 (by omega)
  have m2 := mark 2 (by omega)
  rw [Nat.add_zero] at m0
  have hsa : Calls Tryz.prog 5 #[.slice (some ⟨g, 0, none⟩) xs.length c, .slice A' xs.length cap] w fun e w' => e = .returned (.bool true) ∧ Below w.heap.size w w' :=
    (same_bA (some ⟨g, 0, none⟩) A' c cap xs xs w (by omega) (by omega) hsl h).mono (fun e w' hh => ⟨by rw [hh.1, decide_eq_true rfl], hh.2⟩)
  have HSA := Lib.hid hsa
  have hwr : IntKind.i64.wrap ((xs.length : Int) + 3) = (xs.length : Int) + 3 := IntWalk.i64_in _ (by omega)
  clear mark hcl hsl h hsa
  go_enter Tryz.func39, Tryz.ntmps39
  go_wp2_with (first | (go_at_call 5; refine (HSA.out).mono ?_) | fail)
  rintro e w2 ⟨rfl, hb2⟩
  have m0 := (hb2.cell (p := ⟨g, xs.length, none⟩) hg).trans m0
  have m1 := (hb2.cell (p := ⟨g, xs.length + 1, none⟩) hg).trans m1
  have m2 := (hb2.cell (p := ⟨g, xs.length + 2, none⟩) hg).trans m2
  go_wp2
  go_ret
  exact ⟨rfl, hb2⟩
end Go.Proofs.YtpmkdihencepnaaGreat

/-
  insert.Make: tables of its own.
-/
namespace Go.Proofs.YtpmkdihencepnaaGreat
open Go.RowKit

/-- What insert.Make answers. -/
def MakZ (e : Ending) (w : World) (B : Nat) : Prop :=
  ∃ (k : Int) (v u : Value) (hs us : List Value) (P Q : List (List Int)), e = .returned (.tuple #[v, u, .int .i64 k]) ∧ OwnM w B v hs P ∧ OwnM w B u us Q ∧ Apt v hs u us ∧ (P.length ≤ 40 ∧ ∀ r, (P.getD r []).length ≤ 40) ∧ (Q.length ≤ 40 ∧ ∀ r, (Q.getD r []).length ≤ 40)

set_option maxRecDepth 100000 in
theorem makez_any (A : Option Addr) (cap : Nat) (xs : List Int) (w : World) (hcl : xs.length ≤ 9223372036854775807) (h : Sl w w.heap.size A (ints xs)) :
    Calls Tryz.prog 34 #[.slice A xs.length cap] w fun e w' => MakZ e w' w.heap.size ∧ Below w.heap.size w w' := by
  go_enter Tryz.func34, Tryz.ntmps34
  go_wp2_with (first | (go_at_call 47; refine (letters_any A cap xs _ hcl h).mono ?_) | fail)
  rintro e w1 ⟨rfl, rfl⟩
  obtain ⟨k, hk⟩ : ∃ k, k = wordChk xs := ⟨_, rfl⟩
  rw [← hk]
  have HK := Lib.hid hk
  by_cases hk0 : k = 0
  · have hw := wordChk_zero (xs := xs) (by rw [← hk]; exact hk0)
    have hl := hw.1
    have HX : Hid (∀ x ∈ xs, Lt x) := hw.2
    subst hk0
    clear hk hw
    go_wp2_with (first | (refine wpList_mk (base := w.heap.size) rfl (.tmp 14) (.tmp 14) rfl xs.length rfl rfl (by omega) (Nat.le_refl _) (fun w2 hown2 hb2 hz2 => ?_)) | fail)
    rw [← upTil_zero] at hown2
    have HO2 := Lib.hid hown2
    clear hown2
    go_wp2
    go_loopw [18] (fun iv wr => ∃ i : Nat, i ≤ xs.length ∧ iv = .int .i64 i ∧ wr.ownsRow w.heap.size 3 1 (.slice (some ⟨w.heap.size, 0, none⟩) xs.length xs.length) xs.length (ints (upTil xs.length i)) ∧ Below w.heap.size w wr) (fun iv _ => xs.length - (intOf iv).toNat)
    case atStart => exact ⟨0, Nat.zero_le _, rfl, HO2.out, hb2⟩
    case round =>
      clear HO2 hb2 hz2
      obtain ⟨i, hi, rfl, ho, hW⟩ := hrel
      have HO := Lib.hid ho
      by_cases hit : i < xs.length
      · have di : decide (i < xs.length) = true := decide_eq_true hit
        have hc := own_get ho (upTil_get hit)
        have hf := ho.frozenAt i
        have hst := own_set ho i ((i : Int) + 1)
        rw [upTil_set] at hst
        have HST := Lib.hid hst
        clear hst ho
        go_wp2
        go_roundw
        case rel => exact ⟨i + 1, by omega, rfl, HST.out, hW.setCell (p := ⟨w.heap.size, i, none⟩) (Nat.le_refl _) _⟩
        case measure => simp [intOf]; omega
      · have di : decide (i < xs.length) = false := decide_eq_false hit
        have hie : i = xs.length := by omega
        rw [hie] at ho
        have hsl := Sl.of_own ho
        have hmd := made_any A (some ⟨w.heap.size, 0, none⟩) cap xs.length xs (upN xs.length) wr hl (upTil_length _ _).symm HX.out (h.now hW (Nat.le_refl _)) hsl
        have hun : (upN xs.length).length = xs.length := upTil_length _ _
        rw [hun] at hmd
        have HMD := Lib.hid hmd
        clear hmd hsl ho HO hie hun
        go_wp2_with (first | (go_at_call 58; refine HMD.out.mono ?_) | fail)
        rintro e w3 ⟨⟨v, hs, u, us, rfl, hm, hq, hap⟩, hb3⟩
        have hfo := take_ok hl HX.out xs.length
        rw [List.take_length] at hfo
        have hP := hfo.small
        have hQ : (recQ xs (upN xs.length) xs.length).length ≤ 40 ∧ ∀ r, ((recQ xs (upN xs.length) xs.length).getD r []).length ≤ 40 := by
          have e1 := rec_length (xs := xs) (cs := upN xs.length) (Nat.le_refl xs.length)
          rw [List.take_length] at e1
          refine ⟨by rw [e1]; exact hP.1, fun r => ?_⟩
          have e2 := rec_row (xs := xs) (cs := upN xs.length) (r := r) (Nat.le_refl xs.length)
          rw [List.take_length] at e2
          rw [e2]; exact hP.2 r
        have HFN : Hid (MakZ (.returned (.tuple #[v, u, .int .i64 0])) w3 w.heap.size) := Lib.hid ⟨0, v, u, hs, us, _, _, rfl, hm.lowr hW.size, hq.lowr hW.size, hap, hP, hQ⟩
        have hW3 := below_call hW (Nat.le_refl _) hb3
        clear hm hq hb3 HMD hap hfo hP hQ
        go_wp2
        go_ret3
        exact ⟨HFN.out, hW3⟩
  · have dk : (k != 0) = true := by simpa using hk0
    have HK0 := Lib.hid hk0
    clear hk
    go_wp2
    go_ret3
    exact ⟨⟨k, .slice none 0 0, .slice none 0 0, [], [], [], [], rfl, OwnM.nil _ _, OwnM.nil _ _, fun k hk => by
      rcases hk with hk | ⟨r, hr, _⟩
      · simp [Value.ownBlock] at hk
      · simp at hr, by simp, by simp⟩, Below.refl _ _⟩

end Go.Proofs.YtpmkdihencepnaaGreat

/-
  Tables of calls, apart by where they lie; two tables laid together.
-/
namespace Go.Proofs.YtpmkdihencepnaaGreat
open Go.RowKit

/-- A table of a call's own, below a bound. -/
def Seg (w : World) (lo hi : Nat) (v : Value) (rows : List (List Int)) : Prop := ∃ hs, OwnM w lo v hs rows ∧ ∀ k, foot v hs k → k < hi
section
variable {w w' : World} {lo hi lo2 hi2 : Nat} {v v2 : Value} {rows rows2 : List (List Int)}
theorem Seg.of {A : Option Addr} {c : Nat} (h : OwnR w lo A c rows) : Seg w lo w.heap.size (.slice A rows.length c) rows := by
  obtain ⟨hs, h⟩ := h
  exact ⟨hs, h, fun k hk => (h.foot_lt hk).2⟩
theorem Seg.below (h : Seg w lo hi v rows) (hb : Below hi w w') : Seg w' lo hi v rows := by
  obtain ⟨hs, h1, h2⟩ := h
  exact ⟨hs, h1.sameZ (fun k hk => hb.block k (h2 k hk)), h2⟩
theorem Seg.fr {F : Nat → Prop} (h : Seg w lo hi v rows) (hf : Fr w w' F) (hF : ∀ k, F k → k < lo ∨ hi ≤ k) : Seg w' lo hi v rows := by
  obtain ⟨hs, h1, h2⟩ := h
  refine ⟨hs, h1.frame hf (fun k hk hFk => ?_), h2⟩
  have := h2 k hk
  have := (h1.foot_lt hk).1
  rcases hF k hFk with e | e <;> omega
def SgOut (e : Ending) (w w' : World) (lo hi : Nat) : Prop := e = .returned (.bool true) ∧ Below lo w w' ∧ ∃ F : Nat → Prop, Fr w w' F ∧ ∀ k, F k → lo ≤ k ∧ k < hi
theorem spr_seg {A : Option Addr} {c : Nat} (h : Seg w lo hi (.slice A rows.length c) rows) (hsm : Sm rows) (hB : lo ≤ w.heap.size) :
    Calls Tryz.prog 33 #[.slice A rows.length c] w fun e w' => SgOut e w w' lo hi := by
  obtain ⟨hs, h1, h2⟩ := h
  refine (spread_any A c rows hs w lo hB hsm.1 hsm.2 h1).mono ?_
  rintro e w' ⟨rfl, hf, hb⟩
  exact ⟨rfl, hb, _, hf, fun k hk => ⟨(h1.foot_lt hk).1, h2 k hk⟩⟩
end
theorem far_types {w : World} {B B' : Nat} {v u : Value} {n m : Nat} {xs ys : List Value} (h1 : w.ownsRow B 22 1 v n xs) (h2 : w.ownsRow B' 3 1 u m ys) : Far v u := by
  intro k hk hk2
  rcases h1.2 with ⟨e, _⟩ | ⟨g, c, cur, e, _, hh, _⟩
  · rw [e] at hk; cases hk
  · rcases h2.2 with ⟨e', _⟩ | ⟨g', c', cur', e', _, hh', _⟩
    · rw [e'] at hk2; cases hk2
    · rw [e] at hk; rw [e'] at hk2
      obtain rfl : g = k := by simpa [Value.ownBlock] using hk
      obtain rfl : g' = g := by simpa [Value.ownBlock] using hk2
      rw [hh] at hh'
      simp at hh'
theorem OwnM.cat {w w' : World} {B : Nat} {v u v' : Value} {hs us : List Value} {P Q : List (List Int)} (hm : OwnM w B v hs P) (hq : OwnM w B u us Q) (hap : Apt v hs u us)
    (ho : w'.ownsRow B 22 1 v' (P ++ Q).length (hs ++ us)) (hg : w.grownBy w' v.ownBlock) : OwnM w' B v' (hs ++ us) (P ++ Q) := by
  have hl := hm.len
  have hl2 := hq.len
  have eL : ∀ {α : Type} (xs ys : List α) (d : α) (r : Nat), r < xs.length → (xs ++ ys).getD r d = xs.getD r d := fun xs ys d r hr => by
    rw [List.getD_eq_getElem?_getD, List.getElem?_append_left hr, ← List.getD_eq_getElem?_getD]
  have eR : ∀ {α : Type} (xs ys : List α) (d : α) (r : Nat), ¬ r < xs.length → (xs ++ ys).getD r d = ys.getD (r - xs.length) d := fun xs ys d r hr => by
    rw [List.getD_eq_getElem?_getD, List.getElem?_append_right (by omega), ← List.getD_eq_getElem?_getD]
  have inn : ∀ r, r < (P ++ Q).length → w'.ownsRow B 3 1 ((hs ++ us).getD r undef) ((P ++ Q).getD r []).length (ints ((P ++ Q).getD r [])) := fun r hr => by
    rw [List.length_append] at hr
    by_cases c : r < P.length
    · rw [eL hs us undef r (by omega), eL P Q [] r c]
      exact own_same (hm.inn r c) (fun k hk => hg.block k ((hm.inn r c).lt k hk).2 (fun e => hm.top r c k e.symm hk))
    · rw [eR hs us undef r (by omega), eR P Q [] r c, hl]
      have hr2 : r - P.length < Q.length := by omega
      exact own_same (hq.inn _ hr2) (fun k hk => hg.block k ((hq.inn _ hr2).lt k hk).2 (fun e => hap k (.inl e.symm) (.inr ⟨_, by omega, hk⟩)))
  refine ⟨by rw [List.length_append, List.length_append, hl, hl2], ho, inn, fun r s hr hs' hne => ?_, fun r hr => far_types ho (inn r hr)⟩
  rw [List.length_append] at hr hs'
  by_cases c : r < P.length
  · by_cases d : s < P.length
    · rw [eL hs us undef r (by omega), eL hs us undef s (by omega)]; exact hm.far r s c d hne
    · rw [eL hs us undef r (by omega), eR hs us undef s (by omega)]
      exact fun k h1 h2 => hap k (.inr ⟨r, by omega, h1⟩) (.inr ⟨_, by omega, h2⟩)
  · by_cases d : s < P.length
    · rw [eR hs us undef r (by omega), eL hs us undef s (by omega)]
      exact fun k h1 h2 => hap k (.inr ⟨s, by omega, h2⟩) (.inr ⟨_, by omega, h1⟩)
    · rw [eR hs us undef r (by omega), eR hs us undef s (by omega)]
      exact hq.far _ _ (by omega) (by omega) (by omega)
/-- 'append(v, u...)' of two tables. -/
theorem wpList_cat {w : World} {B : Nat} {v u : Value} {hs us : List Value} {P Q : List (List Int)} {ops : Array Oper} {rest : List Oper} {o : Oper} {a : Act} {K : Exit → Act → World → Prop} (hgd : o.guard = none) (s x : Operand)
    (ho : o.op = .call { callee := .builtin .append, args := #[s, x], argTypes := #[28, 28] }) (hs' : a.eval s = v) (hx : a.eval x = u) (hm : OwnM w B v hs P) (hq : OwnM w B u us Q) (hap : Apt v hs u us) (hlen : P.length + Q.length < 1000000) (hB : B ≤ w.heap.size)
    (h : ∀ v' w', OwnM w' B v' (hs ++ us) (P ++ Q) → Below B w w' → wpList Tryz.prog ops K rest (a.put o.dst v') w') :
    wpList Tryz.prog ops K (o :: rest) a w := by
  obtain ⟨i0, hi, hz0, hz1, hz2⟩ := info_parts Tryz.infoSlice
  have h1 : ∀ y ∈ us, y.oneCell' = true := fun y hy => by
    obtain ⟨r, hr, rfl⟩ := List.getElem_of_mem hy
    have := hq.inn r (by rw [← hq.len]; exact hr)
    rw [List.getD_eq_getElem?_getD, List.getElem?_eq_getElem hr] at this
    obtain ⟨A, c, e, _⟩ := own_sliceV this
    simp at e
    rw [e]; rfl
  obtain ⟨A, c, e, hsl⟩ : ∃ A c, u = .slice A us.length c ∧ Sl w w.heap.size A us := by
    have hqo := hq.out
    rw [← hq.len] at hqo
    rcases hqo.2 with ⟨e1, e2⟩ | ⟨g, c, _, e1, _⟩
    · exact ⟨none, 0, by rw [e2]; exact e1, fun hn => by omega⟩
    · rw [e1] at hqo; exact ⟨_, c, e1, Sl.of_own hqo⟩
  obtain ⟨v', w', hrun, h2, h3⟩ := run_app 28 o.type 22 i0 (.slice none 0 0) 24 Tryz.underlying28 hi hz0 hz1 hz2 rfl P.length hs hm.out c hsl h1 (by rw [hq.len]; unfold maxLen; omega) (by rw [hq.len]; omega) hB
  rw [← e] at hrun
  refine wpList_plain hgd fun K' hK => ?_
  unfold Oper.wp execOp
  simp only [ho, resolve, invoke, builtin, Sem.run_bind, Sem.run_pure, Result.andThen_ok, List.map_toArray, List.map_cons, List.map_nil, hs', hx, hrun]
  exact hK _ _ (h v' w' (hm.cat hq hap (by rw [List.length_append, ← hq.len]; exact h2) h3) ((Below.refl _ _).grown h3 hB (fun k hk => (hm.out.lt k hk).1)))
end Go.Proofs.YtpmkdihencepnaaGreat
