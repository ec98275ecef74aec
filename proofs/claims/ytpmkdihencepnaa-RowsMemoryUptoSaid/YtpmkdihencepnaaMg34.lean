/-
  A slice with room to spare: made, filled and cut.
-/
import Derived.Test.YtpmkdihencepnaaMg02
namespace Go.Proofs.Ytpmkdihencepnaa
open Go.RowKit

section
variable {w w' : World} {base B n : Nat} {A : Option Addr} {xs cs : List Value} {v : Value}
/-- 'make([]T, 0, c)'. -/
theorem wpList_mkc {t e : TypeId} {z : Value} {bytes : Nat} (hinfo : (Try.prog.info? e).map (fun i => (i.zero, i.size, i.bytes)) = some (some z, 1, bytes)) (ht : Try.prog.underlying t = some (.slice e))
    {ops : Array Oper} {rest : List Oper} {o : Oper} {a : Act} {Q : Exit → Act → World → Prop} (hgd : o.guard = none) (s x : Operand)
    (ho : o.op = Op.makeSlice t s x) (c : Nat) (hs : a.eval s = .int .i64 0) (hx : a.eval x = .int .i64 c) (hlen : bytes * c ≤ 281474976710656) (hc : c ≤ 9223372036854775807) (hbase : base ≤ w.heap.size)
    (h : ∀ w', w'.ownsRow base e 1 (.slice (some ⟨w.heap.size, 0, none⟩) 0 c) 0 [] → Below w.heap.size w w' → w'.heap.size = w.heap.size + 1 →
      wpList Try.prog ops Q rest (a.put o.dst (.slice (some ⟨w.heap.size, 0, none⟩) 0 c)) w') :
    wpList Try.prog ops Q (o :: rest) a w := by
  obtain ⟨i0, hi, hz0, hzs, hz2⟩ := info_parts hinfo
  have h9 : ((bytes * c : Nat) : Int) ≤ 281474976710656 := by omega
  rw [Int.natCast_mul, ← hz2] at h9
  have hrun := run_make (P := Try.prog) w t e i0 z ht hi hz0 .i64 .i64 0 c (by omega) (by omega) h9 (by omega)
  refine wpList_plain hgd fun K hK => ?_
  unfold Oper.wp
  simp [execOp, ho, hs, hx, hrun, Result.andThen]
  exact hK _ _ (h _ (World.ownsRow_made w _ c hbase (by unfold maxLen; exact hc) (by rw [size_madeCells, hzs])) ((Below.refl _ _).alloc (Nat.le_refl _) _) (by simp))
/-- append of a slice where there is room. -/
theorem run_app_room {t ty e : TypeId} {i : TypeInfo} (ht : Try.prog.underlying t = some (.slice e)) (hi : Try.prog.info? e = some i) (hsize : i.size = 1) {g cap : Nat} (hown : w.ownsRow base e 1 (.slice (some ⟨g, 0, none⟩) n cap) n xs)
    (c : Nat) (hr : Sl w B A cs) (h1 : ∀ u ∈ cs, u.oneCell' = true) (hroom : n + cs.length ≤ cap) :
    ∃ w', (Builtin.append_ #[t, t] ty #[.slice (some ⟨g, 0, none⟩) n cap, .slice A cs.length c]).run Try.prog w = .ok (.slice (some ⟨g, 0, none⟩) (n + cs.length) cap) w' ∧
      w'.ownsRow base e 1 (.slice (some ⟨g, 0, none⟩) (n + cs.length) cap) (n + cs.length) (xs ++ cs) ∧ w.grownBy w' (some g) := by
  by_cases hn : 0 < cs.length
  · obtain ⟨b, o, rfl, hb, hc⟩ := hr hn
    exact run_append_fits (P := Try.prog) w base t ty e i 1 ht hi hsize g n cap xs hown ⟨b, o, none⟩ cs.length c cs (by omega) (fun j u hu => by rw [Addr.add_lit]; exact hc j u hu) h1 hroom
  · obtain rfl : cs = [] := List.eq_nil_of_length_eq_zero (by omega)
    refine ⟨w, ?_, by simpa using hown, World.grownBy.refl _ _⟩
    cases A <;> simp [Builtin.append_, run_underlying ht, sizeOf, typeInfo, hi, Builtin.lenOf, Builtin.firstCells, loadCells, loadCellsFrom, storeCells, show n ≤ cap by simpa using hroom]
theorem wpList_app_room {t e : TypeId} {z : Value} {bytes : Nat} (hinfo : (Try.prog.info? e).map (fun i => (i.zero, i.size, i.bytes)) = some (some z, 1, bytes)) (ht : Try.prog.underlying t = some (.slice e))
    {ops : Array Oper} {rest : List Oper} {o : Oper} {a : Act} {Q : Exit → Act → World → Prop} (hgd : o.guard = none) (s x : Operand)
    (ho : o.op = .call { callee := .builtin .append, args := #[s, x], argTypes := #[t, t] }) {g cap : Nat} (hs : a.eval s = .slice (some ⟨g, 0, none⟩) n cap) (hown : w.ownsRow base e 1 (.slice (some ⟨g, 0, none⟩) n cap) n xs)
    (m c : Nat) (hx : a.eval x = .slice A m c) (hm : m = cs.length) (hr : Sl w B A cs) (h1 : ∀ u ∈ cs, u.oneCell' = true) (hroom : n + m ≤ cap)
    (h : ∀ w', w'.ownsRow base e 1 (.slice (some ⟨g, 0, none⟩) (n + m) cap) (n + m) (xs ++ cs) → w.grownBy w' (some g) → wpList Try.prog ops Q rest (a.put o.dst (.slice (some ⟨g, 0, none⟩) (n + m) cap)) w') :
    wpList Try.prog ops Q (o :: rest) a w := by
  subst hm
  obtain ⟨i0, hi, hz0, hzs, hz2⟩ := info_parts hinfo
  obtain ⟨w', hrun, h2, h3⟩ := run_app_room (ty := o.type) ht hi hzs hown c hr h1 hroom
  refine wpList_plain hgd fun K hK => ?_
  unfold Oper.wp execOp
  simp only [ho, resolve, invoke, builtin, Sem.run_bind, Sem.run_pure, Result.andThen_ok, List.map_toArray, List.map_cons, List.map_nil, hs, hx, hrun]
  exact hK _ _ (h w' h2 h3)
/-- Three alike, laid in a block of their own. -/
theorem Sl.three (y : Value) (e : TypeId) : Sl (w.alloc (.cells #[y, y, y] e)) (w.heap.size + 1) (some ⟨w.heap.size, 0, none⟩) [y, y, y] := fun _ =>
  ⟨w.heap.size, 0, rfl, by omega, fun k u hk => by
    have := World.news_of_block (cs := #[y, y, y]) (heap_alloc_new w (.cells #[y, y, y] e)) k u hk
    rwa [Addr.add_lit] at this⟩
end
/-- A slice with three alike behind it. -/
def Rm (w : World) (P : Nat → Prop) (u : Value) (xs : List Value) (y : Value) : Prop :=
  ∃ g c, u = .slice (some ⟨g, 0, none⟩) xs.length c ∧ xs.length + 3 ≤ c ∧ c ≤ 9223372036854775807 ∧ P g ∧ g < w.heap.size ∧ ∀ k z, (xs ++ [y, y, y])[k]? = some z → w.cell? ⟨g, k, none⟩ = some z
theorem Rm.keep {w w' : World} {P P' : Nat → Prop} {u : Value} {xs : List Value} {y : Value} (h : Rm w P u xs y) (hs : w.heap.size ≤ w'.heap.size) (hk : ∀ k, P k → k < w.heap.size → w'.heap[k]? = w.heap[k]? ∧ P' k) : Rm w' P' u xs y := by
  obtain ⟨g, c, e, h1, h2, h3, h4, h5⟩ := h
  exact ⟨g, c, e, h1, h2, (hk g h3 h4).2, by omega, fun k z hz => (World.cell?_of_block (a := ⟨g, k, none⟩) (hk g h3 h4).1).trans (h5 k z hz)⟩
theorem Rm.of {w : World} {base g n c : Nat} {e : TypeId} {xs : List Value} {y : Value} (hn : n = xs.length) (h : w.ownsRow base e 1 (.slice (some ⟨g, 0, none⟩) (n + 3) c) (n + 3) (xs ++ [y, y, y])) : Rm w (fun k => base ≤ k) (.slice (some ⟨g, 0, none⟩) n c) xs y := by
  have hl := h.lt g rfl
  subst hn
  exact ⟨g, c, rfl, (own_cap h).1, (own_cap h).2, hl.1, hl.2, fun k z hz => by
    have hk := (List.getElem?_eq_some_iff.1 hz).1
    simp at hk
    rw [h.cellAt k (by omega)]; exact hz⟩

end Go.Proofs.Ytpmkdihencepnaa

/-
  ferkeep.roomy, roomyRows: copies with spare room in which something stands.
-/
namespace Go.Proofs.Ytpmkdihencepnaa
open Go.RowKit

def RoomyOut (e : Ending) (w w' : World) (xs : List Value) (y : Value) : Prop := ∃ u, e = .returned u ∧ Rm w' (fun k => w.heap.size ≤ k) u xs y
set_option maxRecDepth 100000 in
set_option maxHeartbeats 1000000 in
theorem roomy_any (A : Option Addr) (cap : Nat) (xs : List Int) (y : Int) (w : World) (hx : xs.length < 2000000) (h : Sl w w.heap.size A (ints xs)) :
    Calls Try.prog 42 #[.slice A xs.length cap, .int .i64 y] w fun e w' => RoomyOut e w w' (ints xs) (.int .i64 y) ∧ Below w.heap.size w w' := by
  have H := Lib.hid h
  have hwr : IntKind.i64.wrap ((xs.length : Int) + 3) = (xs.length : Int) + 3 := IntWalk.i64_in _ (by omega)
  obtain ⟨m, hm⟩ : ∃ m, m = xs.length + 3 := ⟨_, rfl⟩
  have hm2 : (xs.length : Int) + 3 = (m : Int) := by omega
  have HM := Lib.hid hm
  have hm3 : m < 2000003 := by omega
  clear h hm
  go_enter Try.func42, Try.ntmps42
  go_wp2_with (first | (refine wpList_mkc (base := w.heap.size) Try.infoInt Try.underlying26 rfl (.const (.int .i64 0)) (.tmp 8) rfl m rfl rfl (by omega) (by omega) (Nat.le_refl _) (fun w1 ho1 hb1 hs1 => ?_); have hr1 := Lib.hid (H.out.now hb1 (Nat.le_refl _)); have HO1 := Lib.hid ho1; have HB1 := Lib.hid hb1; have HS1 := Lib.hid hs1; clear ho1 hb1 hs1) | (at_builtin; refine wpList_app_room Try.infoInt Try.underlying26 rfl (.tmp 10) (.tmp 11) rfl rfl HO1.out xs.length cap rfl (by rw [ints_length]) hr1.out ints_one (by have := HM.out; omega) (fun w2 ho2 hg2 => ?_); rw [Nat.zero_add, List.nil_append] at ho2; have HO2 := Lib.hid ho2; have HW2 := Lib.hid ((HB1.out).grown hg2 (by have := HS1.out; omega) (fun k hk => by cases hk; exact Nat.le_refl _)); clear ho2 hg2) | (at_builtin; refine wpList_app_room Try.infoInt Try.underlying26 rfl (.tmp 13) (.tmp 17) rfl rfl (HO2.out.alloc _) 3 3 rfl rfl (Sl.three (.int .i64 y) 3) (by simp [Value.oneCell']) (by have := HM.out; omega) (fun w3 ho3 hg3 => ?_); have HO3 := Lib.hid ho3; have HW3 := Lib.hid ((HW2.out.alloc (Nat.le_trans (Nat.le_refl _) HW2.out.size) (.cells #[.int .i64 y, .int .i64 y, .int .i64 y] 3)).grown hg3 (by have := HW2.out.size; simp; omega) (fun k hk => by cases hk; exact Nat.le_refl _)); clear ho3 hg3; have hle : xs.length ≤ m := by (have := HM.out; omega)) | fail)
  go_ret
  exact ⟨⟨_, rfl, Rm.of ints_length.symm HO3.out⟩, HW3.out⟩

set_option maxRecDepth 100000 in
set_option maxHeartbeats 1000000 in
theorem roomyR_any (A : Option Addr) (cap : Nat) (xs : List Value) (h1 : ∀ u ∈ xs, u.oneCell' = true) (m0 : Nat) (w : World) (hx : xs.length < 2000000) (h : Sl w w.heap.size A xs) :
    Calls Try.prog 43 #[.slice A xs.length cap, .slice (some ⟨m0, 0, none⟩) 1 1] w fun e w' => RoomyOut e w w' xs (.slice (some ⟨m0, 0, none⟩) 1 1) ∧ Below w.heap.size w w' := by
  have H := Lib.hid h
  have hwr : IntKind.i64.wrap ((xs.length : Int) + 3) = (xs.length : Int) + 3 := IntWalk.i64_in _ (by omega)
  obtain ⟨m, hm⟩ : ∃ m, m = xs.length + 3 := ⟨_, rfl⟩
  have hm2 : (xs.length : Int) + 3 = (m : Int) := by omega
  have HM := Lib.hid hm
  have hm3 : m < 2000003 := by omega
  clear h hm
  go_enter Try.func43, Try.ntmps43
  go_wp2_with (first | (refine wpList_mkc (base := w.heap.size) Try.infoSlice Try.underlying22 rfl (.const (.int .i64 0)) (.tmp 8) rfl m rfl rfl (by omega) (by omega) (Nat.le_refl _) (fun w1 ho1 hb1 hs1 => ?_); have hr1 := Lib.hid (H.out.now hb1 (Nat.le_refl _)); have HO1 := Lib.hid ho1; have HB1 := Lib.hid hb1; have HS1 := Lib.hid hs1; clear ho1 hb1 hs1) | (at_builtin; refine wpList_app_room Try.infoSlice Try.underlying22 rfl (.tmp 10) (.tmp 11) rfl rfl HO1.out xs.length cap rfl rfl hr1.out h1 (by have := HM.out; omega) (fun w2 ho2 hg2 => ?_); rw [Nat.zero_add, List.nil_append] at ho2; have HO2 := Lib.hid ho2; have HW2 := Lib.hid ((HB1.out).grown hg2 (by have := HS1.out; omega) (fun k hk => by cases hk; exact Nat.le_refl _)); clear ho2 hg2) | (at_builtin; refine wpList_app_room Try.infoSlice Try.underlying22 rfl (.tmp 13) (.tmp 17) rfl rfl (HO2.out.alloc _) 3 3 rfl rfl (Sl.three (.slice (some ⟨m0, 0, none⟩) 1 1) 26) (by simp [Value.oneCell']) (by have := HM.out; omega) (fun w3 ho3 hg3 => ?_); have HO3 := Lib.hid ho3; have HW3 := Lib.hid ((HW2.out.alloc (Nat.le_trans (Nat.le_refl _) HW2.out.size) (.cells #[.slice (some ⟨m0, 0, none⟩) 1 1, .slice (some ⟨m0, 0, none⟩) 1 1, .slice (some ⟨m0, 0, none⟩) 1 1] 26)).grown hg3 (by have := HW2.out.size; simp; omega) (fun k hk => by cases hk; exact Nat.le_refl _)); clear ho3 hg3; have hle : xs.length ≤ m := by (have := HM.out; omega)) | fail)
  go_ret
  exact ⟨⟨_, rfl, Rm.of rfl HO3.out⟩, HW3.out⟩

/-- A table with spare room: its rows, too. -/
structure RmR (w : World) (B G C : Nat) (rows : List (List Int)) : Prop where
  cap : rows.length + 3 ≤ C ∧ C ≤ 9223372036854775807
  lt : G < B
  row : ∀ r, r < rows.length → ∃ g c, w.cell? ⟨G, r, none⟩ = some (.slice (some ⟨g, 0, none⟩) (rows.getD r []).length c) ∧ (rows.getD r []).length + 3 ≤ c ∧ c ≤ 9223372036854775807 ∧ g < B ∧
    ∀ k z, (ints (rows.getD r []) ++ [.int .i64 77, .int .i64 77, .int .i64 77])[k]? = some z → w.cell? ⟨g, k, none⟩ = some z
  mark : ∃ m, m < B ∧ (∀ k, k < 3 → w.cell? ⟨G, rows.length + k, none⟩ = some (.slice (some ⟨m, 0, none⟩) 1 1)) ∧ w.cell? ⟨m, 0, none⟩ = some (.int .i64 77)
theorem RmR.below {w w' : World} {B G C : Nat} {rows : List (List Int)} (h : RmR w B G C rows) (hb : Below B w w') : RmR w' B G C rows := by
  refine ⟨h.cap, h.lt, fun r hr => ?_, ?_⟩
  · obtain ⟨g, c, h1, h2, h3, h4, h5⟩ := h.row r hr
    exact ⟨g, c, (hb.cell (p := ⟨G, r, none⟩) h.lt).trans h1, h2, h3, h4, fun k z hz => (hb.cell (p := ⟨g, k, none⟩) h4).trans (h5 k z hz)⟩
  · obtain ⟨m, h1, h2, h3⟩ := h.mark
    exact ⟨m, h1, fun k hk => (hb.cell (p := ⟨G, rows.length + k, none⟩) h.lt).trans (h2 k hk), (hb.cell (p := ⟨m, 0, none⟩) h1).trans h3⟩
theorem RmR.more {w : World} {B B' G C : Nat} {rows : List (List Int)} (h : RmR w B G C rows) (hB : B ≤ B') : RmR w B' G C rows := by
  refine ⟨h.cap, Nat.lt_of_lt_of_le h.lt hB, fun r hr => ?_, ?_⟩
  · obtain ⟨g, c, h1, h2, h3, h4, h5⟩ := h.row r hr
    exact ⟨g, c, h1, h2, h3, by omega, h5⟩
  · obtain ⟨m, h1, h2, h3⟩ := h.mark
    exact ⟨m, by omega, h2, h3⟩
theorem RmR.sr {w : World} {B G C : Nat} {rows : List (List Int)} (h : RmR w B G C rows) : SR w B (some ⟨G, 0, none⟩) rows := by
  have key : ∀ n, n ≤ rows.length → ∃ hs : List Value, hs.length = n ∧ (∀ r, r < n → w.cell? ⟨G, r, none⟩ = hs[r]?) ∧ ∀ r, r < n → ∃ Ar cr, hs[r]? = some (.slice Ar (rows.getD r []).length cr) ∧ Sl w B Ar (ints (rows.getD r [])) ∧ (rows.getD r []).length ≤ 9223372036854775807 := by
    intro n
    induction n with
    | zero => exact fun _ => ⟨[], rfl, fun r hr => by omega, fun r hr => by omega⟩
    | succ n ih =>
      intro hn
      obtain ⟨hs, e1, e2, e3⟩ := ih (by omega)
      obtain ⟨g, c, h1, h2, h3, h4, h5⟩ := h.row n (by omega)
      refine ⟨hs ++ [.slice (some ⟨g, 0, none⟩) (rows.getD n []).length c], by simp [e1], fun r hr => ?_, fun r hr => ?_⟩
      · by_cases e : r < n
        · rw [List.getElem?_append_left (by omega)]; exact e2 r e
        · obtain rfl : r = n := by omega
          rw [h1, List.getElem?_append_right (by omega), e1, Nat.sub_self]; rfl
      · by_cases e : r < n
        · rw [List.getElem?_append_left (by omega)]; exact e3 r e
        · obtain rfl : r = n := by omega
          refine ⟨_, c, by rw [List.getElem?_append_right (by omega), e1, Nat.sub_self]; rfl, fun _ => ⟨g, 0, rfl, h4, fun k u hk => ?_⟩, by omega⟩
          rw [Nat.zero_add]
          have hkl := (List.getElem?_eq_some_iff.1 hk).1
          exact h5 k u (by rw [List.getElem?_append_left hkl]; exact hk)
  obtain ⟨hs, e1, e2, e3⟩ := key rows.length (Nat.le_refl _)
  exact ⟨hs, e1, fun _ => ⟨G, 0, rfl, h.lt, fun k u hk => by
    have hkl := (List.getElem?_eq_some_iff.1 hk).1
    rw [Nat.zero_add, e2 k (by omega)]; exact hk⟩, e3⟩

end Go.Proofs.Ytpmkdihencepnaa

/-
  ferkeep.roomyRows: a table copied, with spare room.
-/
namespace Go.Proofs.Ytpmkdihencepnaa
open Go.RowKit

/-- 'append(v, u)' of one slice of ints, of rather long tables. -/
theorem wpList_pushB {w : World} {base : Nat} {v : Value} {hs : List Value} {ops : Array Oper} {rest : List Oper} {o : Oper} {a : Act} {Q : Exit → Act → World → Prop} (hgd : o.guard = none) (s x : Operand)
    (ho : o.op = .call { callee := .builtin .append, args := #[s, x], argTypes := #[22, 22] }) (hs' : a.eval s = v) (u : Value) (hu : u.oneCell' = true) {n : Nat}
    (hown : w.ownsRow base 26 1 v n hs) (g0 : Nat) (hg0 : g0 = w.heap.size) (hx : a.eval x = .slice (some ⟨g0, 0, none⟩) 1 1) (hlen : n < 2000000) (hbase : base ≤ w.heap.size)
    (h : ∀ g cap w', w'.ownsRow base 26 1 (.slice (some ⟨g, 0, none⟩) (n + 1) cap) (n + 1) (hs ++ [u]) → (w.alloc (.cells #[u] 26)).grownBy w' v.ownBlock → (v.ownBlock = some g ∨ g = w.heap.size + 1) →
      wpList Try.prog ops Q rest (a.put o.dst (.slice (some ⟨g, 0, none⟩) (n + 1) cap)) w') :
    wpList Try.prog ops Q (o :: rest) a (w.alloc (.cells #[u] 26)) := by
  subst hg0
  obtain ⟨i0, hi, hz0, hz1, hz2⟩ := info_parts Try.infoSlice
  refine wpList_append_lies _ hgd s x 22 ho base 26 i0 (.slice none 0 0) 1 24 Try.underlying22 hi hz0 hz1 hz2 rfl (by decide) v n hs hs' (hown.alloc _) ⟨w.heap.size, 0, none⟩ 1 1 [u] hx rfl ?_ (by simpa using hu) (by decide)
    (by unfold maxLen; omega) (by omega) (by simp; omega) _ rfl (fun g cap w' h1 h2 h3 _ => ?_)
  · exact World.news_of_block (cs := #[u]) (heap_alloc_new w _)
  · exact h g cap w' (by simpa using h1) h2 (by simpa using h3)
theorem own_valS {w : World} {base n : Nat} {e : TypeId} {v : Value} {us : List Value} (h : w.ownsRow base e 1 v n us) : ∃ A c, v = .slice A us.length c ∧ n = us.length ∧ Sl w w.heap.size A us := by
  have hl := h.1
  obtain rfl : n = us.length := by omega
  rcases h.2 with ⟨e1, e2⟩ | ⟨g, c, _, e1, _⟩
  · exact ⟨none, 0, by rw [e2]; exact e1, rfl, by rw [List.eq_nil_of_length_eq_zero e2]; exact Sl.nil _ _ _⟩
  · rw [e1] at h
    exact ⟨_, c, e1, rfl, Sl.of_own h⟩
def RooOut (e : Ending) (w' : World) (T : List (List Int)) : Prop := ∃ G C, e = .returned (.slice (some ⟨G, 0, none⟩) T.length C) ∧ RmR w' w'.heap.size G C T
/-- Rows copied so far. -/
def RmS (w : World) (B : Nat) (ov : Value) (us : List Value) (T : List (List Int)) : Prop := ∀ r u, us[r]? = some u → Rm w (fun k => B ≤ k ∧ ov.ownBlock ≠ some k) u (ints (T.getD r [])) (.int .i64 77) ∧ u.oneCell' = true

set_option maxRecDepth 100000 in
set_option maxHeartbeats 1000000 in
theorem roomyRows_any (A : Option Addr) (cap : Nat) (T : List (List Int)) (w : World) (hT : T.length < 1900000) (hrl : ∀ r, (T.getD r []).length < 1900000) (h : SR w w.heap.size A T) :
    Calls Try.prog 6 #[.slice A T.length cap] w fun e w' => RooOut e w' T ∧ Below w.heap.size w w' := by
  have HRL := Lib.hid hrl
  clear hrl
  go_enter Try.func6, Try.ntmps6
  go_wp2
  go_loopw [3, 8] (fun ov iv wr => ∃ (i : Nat) (us : List Value), i ≤ T.length ∧ iv = .int .i64 i ∧ wr.ownsRow w.heap.size 26 1 ov i us ∧ RmS wr w.heap.size ov us T ∧ Below w.heap.size w wr) (fun _ iv _ => T.length - (intOf iv).toNat)
  case atStart => exact ⟨0, [], Nat.zero_le _, rfl, World.ownsRow_nil _ _ _ _, fun r u hu => by simp at hu, Below.refl _ _⟩
  case round =>
    obtain ⟨i, us, hi, rfl, ho, hrm, hW⟩ := hrel
    have HO := Lib.hid ho
    have HR := Lib.hid hrm
    have HW := Lib.hid hW
    have hsz := hW.size
    clear ho hrm
    by_cases hit : i < T.length
    · have di : decide (i < T.length) = true := decide_eq_true hit
      have h2 := h.below hW
      obtain ⟨b, o, rfl, hb⟩ := h2.addr (by omega)
      obtain ⟨Ar, cr, hcl, hr, hrl⟩ := h2.at_ hit
      have hR := HRL.out i
      obtain ⟨R, hRe⟩ : ∃ R, R = T.getD i [] := ⟨_, rfl⟩
      rw [← hRe] at hcl hr hR
      have HRE := Lib.hid hRe
      have HRR := Lib.hid (hr.more hsz)
      clear hRe hr h2 hrl hW
      go_wp2_with (first | (go_at_call 42; refine (roomy_any Ar cr R 77 wr (by omega) HRR.out).mono ?_) | fail)
      rintro e w2 ⟨⟨u, rfl, hu⟩, hb2⟩
      obtain ⟨gu, cu, rfl, q1, q2, q3, q4, q5⟩ := hu
      rw [ints_length] at q1
      have HU5 := Lib.hid q5
      have HO2 := Lib.hid (own_below HO.out hb2)
      have HR2 : Hid (RmS w2 w.heap.size _ us T) := Lib.hid (fun r u hu => ⟨(HR.out r u hu).1.keep hb2.size (fun k hk hlt => ⟨hb2.block k hlt, hk⟩), (HR.out r u hu).2⟩)
      have HW2 := Lib.hid (HW.out.trans (hb2.mono hsz))
      have hsz2 := Nat.le_trans hsz hb2.size
      have hub : ∀ k, u3.ownBlock = some k → k < wr.heap.size := fun k hk => (HO.out.lt k hk).2
      have HUB := Lib.hid hub
      have HQ3 := Lib.hid q3
      have HQ4 := Lib.hid q4
      have HQ1 := Lib.hid q1
      have HQ2 := Lib.hid q2
      clear q1 q2 q3 q4 q5 hb2 HR HO hub
      rw [ints_length]
      go_wp2_with (first | (at_builtin; refine wpList_pushB (v := u3) rfl (.tmp 12) (.tmp 15) rfl rfl (.slice (some ⟨gu, 0, none⟩) R.length cu) rfl HO2.out w2.heap.size rfl rfl (by omega) hsz2 (fun g2 c2 w5 hl5 hg5 hat5 => ?_)) | fail)
      have HL5 := Lib.hid hl5
      have HW5 := Lib.hid ((HW2.out.alloc hsz2 (.cells #[.slice (some ⟨gu, 0, none⟩) R.length cu] 26)).grown hg5 (by simp; omega) (fun k hk => (HO2.out.lt k hk).1))
      have hs5 : w2.heap.size + 1 ≤ w5.heap.size := by have := hg5.size; simpa using this
      have HR5 : Hid (RmS w5 w.heap.size (.slice (some ⟨g2, 0, none⟩) (i + 1) c2) (us ++ [.slice (some ⟨gu, 0, none⟩) R.length cu]) T) := Lib.hid (fun r u hu => by
        have hul : us.length = i := by have := HO2.out.1; omega
        have hstep : ∀ k, k < w2.heap.size → u3.ownBlock ≠ some k → w5.heap[k]? = w2.heap[k]? ∧ (Value.slice (some ⟨g2, 0, none⟩) (i + 1) c2).ownBlock ≠ some k := fun k hk hne => by
          refine ⟨(hg5.block k (by simp; omega) (fun e => hne e.symm)).trans (Below.heap_alloc w2 _ k hk), fun e => ?_⟩
          obtain rfl : g2 = k := by simpa [Value.ownBlock] using e
          rcases hat5 with e2 | e2
          · exact hne e2
          · omega
        by_cases e : r < us.length
        · rw [List.getElem?_append_left e] at hu
          refine ⟨(HR2.out r u hu).1.keep (by omega) (fun k hk hlt => ?_), (HR2.out r u hu).2⟩
          have := hstep k hlt hk.2
          exact ⟨this.1, hk.1, this.2⟩
        · have hr2 : r = us.length := by
            have := (List.getElem?_eq_some_iff.1 hu).1
            simp at this; omega
          subst hr2
          rw [List.getElem?_append_right (Nat.le_refl _), Nat.sub_self] at hu
          obtain rfl : Value.slice (some ⟨gu, 0, none⟩) R.length cu = u := by simpa using hu
          refine ⟨?_, rfl⟩
          have h6 := hstep gu HQ4.out (fun e => by have := HUB.out gu e; have := HQ3.out; omega)
          rw [hul, ← HRE.out]
          refine ⟨gu, cu, by rw [ints_length], by rw [ints_length]; exact HQ1.out, HQ2.out, ⟨by have := HQ3.out; omega, h6.2⟩, by have := HQ4.out; omega, fun k z hz => ?_⟩
          exact (World.cell?_of_block (a := ⟨gu, k, none⟩) h6.1).trans (HU5.out k z hz))
      clear hl5 hg5 hat5 HO2 HR2 HW2
      go_wp2
      go_roundw
      case rel => exact ⟨i + 1, us ++ [.slice (some ⟨gu, 0, none⟩) R.length cu], by omega, by go_num, HL5.out, HR5.out, HW5.out⟩
      case measure => simp [intOf]; omega
    · have di : decide (i < T.length) = false := decide_eq_false hit
      obtain rfl : i = T.length := by omega
      obtain ⟨Ao, co, rfl, hul, hsl⟩ := own_valS HO.out
      have HSL := Lib.hid (hsl.now ((Below.refl wr.heap.size wr).alloc (Nat.le_refl _) (.cells #[.int .i64 77] 3)) (Nat.le_refl _))
      have hone : ∀ u ∈ us, u.oneCell' = true := fun u hu => by
        obtain ⟨r, hr⟩ := List.getElem?_of_mem hu
        exact (HR.out r u hr).2
      have HONE := Lib.hid hone
      have HUL := Lib.hid hul
      have hul2 : us.length < 2000000 := by omega
      have HWA := Lib.hid (HW.out.alloc hsz (.cells #[.int .i64 77] 3))
      obtain ⟨wa, hwa⟩ : ∃ wa, wa = wr.alloc (.cells #[.int .i64 77] 3) := ⟨_, rfl⟩
      have hsa : Hid (wa.heap.size = wr.heap.size + 1) := by show _ = _; rw [hwa]; simp
      have hca : Hid (wa.cell? ⟨wr.heap.size, 0, none⟩ = some (.int .i64 77)) := by show _ = _; rw [hwa, World.cell?_alloc_at _ _ _ _ rfl]; rfl
      have HRA : Hid (RmS wa w.heap.size (.slice Ao us.length co) us T) := Lib.hid (fun r u hu => ⟨(HR.out r u hu).1.keep (by have := hsa.out; omega) (fun k hk hlt => ⟨by rw [hwa]; exact Below.heap_alloc wr _ k hlt, hk⟩), (HR.out r u hu).2⟩)
      rw [← hwa] at HSL HWA
      have HWE := Lib.hid hwa
      clear hwa hone hsl hul HO HR HW hW
      go_wp2_with (first | (go_at_call 43; rw [← HWE.out]; refine (roomyR_any Ao co us HONE.out wr.heap.size wa hul2 HSL.out).mono ?_) | fail)
      rintro e w6 ⟨⟨u, rfl, hu⟩, hb6⟩
      have hfin : Hid (RooOut (.returned u) w6 T) := by
        obtain ⟨G, C, rfl, q1, q2, q3, q4, q5⟩ := hu
        have hle := hb6.size
        have hss := hsa.out
        refine ⟨G, C, by rw [HUL.out], ⟨by have := HUL.out; omega, q2⟩, q4, fun r hr => ?_, wr.heap.size, by omega, fun k hk => ?_, (hb6.cell (p := ⟨wr.heap.size, 0, none⟩) (by show wr.heap.size < wa.heap.size; omega)).trans hca.out⟩
        · have hr2 : r < us.length := by have := HUL.out; omega
          have hg : us[r]? = some us[r] := List.getElem?_eq_getElem hr2
          obtain ⟨g, c, e1, p1, p2, p3, p4, p5⟩ := (HRA.out r _ hg).1
          rw [ints_length] at e1 p1
          refine ⟨g, c, q5 r _ (by rw [List.getElem?_append_left hr2, hg, e1]), p1, p2, by omega, fun k z hz => (hb6.cell (p := ⟨g, k, none⟩) (by exact p4)).trans (p5 k z hz)⟩
        · refine q5 (T.length + k) _ ?_
          have := HUL.out
          rw [List.getElem?_append_right (by omega), show T.length + k - us.length = k by omega]
          rcases (show k = 0 ∨ k = 1 ∨ k = 2 by omega) with rfl | rfl | rfl <;> rfl
      have HW6 := Lib.hid (HWA.out.trans (hb6.mono HWA.out.size))
      clear hu hb6
      go_wp2
      go_ret
      exact ⟨hfin.out, HW6.out⟩
end Go.Proofs.Ytpmkdihencepnaa
