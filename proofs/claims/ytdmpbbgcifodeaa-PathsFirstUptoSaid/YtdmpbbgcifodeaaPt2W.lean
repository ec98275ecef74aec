/-
  slices.Contains, slices.Clone, slices.Concat of points.
-/
import Derived.Test.YtdmpbbgcifodeaaPtL
import Derived.Laws.StructEq
import Derived.Shelf.Spec.SlicesGrow
import Derived.Ground.Names8Prog
namespace Go.Proofs
open Go.Shelf
shelf_lay_g Lays8.n4 Nm8 4 at Try 138 as Try.growP
end Go.Proofs
namespace Go.Proofs.Ytdmpbbgcifodeaa
open Go.RowKit Go.Proofs

theorem Try.infoPt : (Try.prog.info? 48).map (fun i => (i.zero, i.size, i.bytes)) = some (some (.agg #[.int .i64 0, .int .i64 0]), 2, 16) := by kernel_rfl
theorem psl_of_own {w : World} {base : Nat} {v : Value} {m : List (Int × Int)} {n : Nat} (h : w.ownsRow base 48 2 v n (pcells m)) : ∃ A c, v = .slice A m.length c ∧ n = m.length ∧ Sl w w.heap.size A (pcells m) ∧ m.length ≤ c ∧ c ≤ 9223372036854775807 := by
  have hl := h.1
  rw [pcells_len] at hl
  obtain rfl : n = m.length := by omega
  rcases h.2 with ⟨rfl, h0⟩ | ⟨g, cap, cur, rfl, _, hh, hn, hm, _⟩
  · refine ⟨none, 0, by rw [h0], rfl, fun hp => ?_, by omega, by omega⟩
    rw [pcells_len, h0] at hp
    simp at hp
  · refine ⟨some ⟨g, 0, none⟩, cap, rfl, rfl, fun _ => ⟨g, 0, rfl, (Array.getElem?_eq_some_iff.1 hh).1, fun k u hk => ?_⟩, hn, by simpa [maxLen] using hm⟩
    have := h.cells (g := g) rfl k u hk
    rwa [Addr.add_lit] at this
theorem run_appP {w : World} {base B : Nat} {v : Value} {l m : List (Int × Int)} {A : Option Addr} (ty : TypeId) (n : Nat) (hown : w.ownsRow base 48 2 v n (pcells l)) (c : Nat) (hr : Sl w B A (pcells m)) (hlen : n + m.length ≤ 2000000) (hbase : base ≤ w.heap.size) :
    ∃ v' w', (Builtin.append_ #[41, 41] ty #[v, .slice A m.length c]).run Try.prog w = .ok v' w' ∧ w'.ownsRow base 48 2 v' (n + m.length) (pcells (l ++ m)) ∧ w.grownBy w' v.ownBlock := by
  obtain ⟨i0, hi, hz0, hz1, hz2⟩ := info_parts Try.infoPt
  by_cases hn : 0 < m.length
  · obtain ⟨b, o, rfl, hb, hc⟩ := hr (pcells_pos hn)
    obtain ⟨v', w', h2, h3, h4, _⟩ := run_append_own (P := Try.prog) w base 41 ty 48 i0 (.agg #[.int .i64 0, .int .i64 0]) 2 16 Try.underlying41 hi hz0 hz1 hz2 rfl (by omega) v n (pcells l) hown ⟨b, o, none⟩ m.length c (pcells m) (by rw [pcells_len])
      (fun j u hu => by rw [Addr.add_lit]; exact hc j u hu) (pcells_one m) (by unfold maxLen; omega) (by omega) hbase
    exact ⟨v', w', h2, by rw [pcells_app]; exact h3, h4⟩
  · obtain rfl : m = [] := List.eq_nil_of_length_eq_zero (by omega)
    refine ⟨v, w, ?_, by simpa using hown, World.grownBy.refl _ _⟩
    rcases hown.2 with ⟨rfl, rfl⟩ | ⟨g, cap, cur, rfl, _, _, hnc, _⟩
    · cases A <;> simp [Builtin.append_, run_underlying Try.underlying41, sizeOf, typeInfo, hi, Builtin.lenOf, Builtin.firstCells, loadCells, loadCellsFrom]
    · cases A <;> simp [Builtin.append_, run_underlying Try.underlying41, sizeOf, typeInfo, hi, Builtin.lenOf, Builtin.firstCells, loadCells, loadCellsFrom, hnc, storeCells]
/-- 'append(v, ws...)' of points. -/
theorem wpList_appPs {w : World} {base B : Nat} {v : Value} {l m : List (Int × Int)} {A : Option Addr} {ops : Array Oper} {rest : List Oper} {o : Oper} {a : Act} {Q : Exit → Act → World → Prop} (hgd : o.guard = none) (s x : Operand)
    (ho : o.op = .call { callee := .builtin .append, args := #[s, x], argTypes := #[41, 41] }) (hs : a.eval s = v) (n : Nat)
    (hown : w.ownsRow base 48 2 v n (pcells l)) (c : Nat) (hx : a.eval x = .slice A m.length c) (hr : Sl w B A (pcells m)) (hlen : n + m.length ≤ 2000000) (hbase : base ≤ w.heap.size)
    (h : ∀ v' w', w'.ownsRow base 48 2 v' (n + m.length) (pcells (l ++ m)) → w.grownBy w' v.ownBlock → Below base w w' → wpList Try.prog ops Q rest (a.put o.dst v') w') :
    wpList Try.prog ops Q (o :: rest) a w := by
  obtain ⟨v', w', hrun, h2, h3⟩ := run_appP o.type n hown c hr hlen hbase
  refine wpList_plain hgd fun K hK => ?_
  unfold Oper.wp execOp
  simp only [ho, resolve, invoke, builtin, Sem.run_bind, Sem.run_pure, Result.andThen_ok, List.map_toArray, List.map_cons, List.map_nil, hs, hx, hrun]
  exact hK _ _ (h v' w' h2 h3 ((Below.refl _ _).grown h3 hbase (fun k hk => (hown.lt k hk).1)))

set_option maxHeartbeats 1000000 in
theorem pidx_any {B : Nat} (A : Option Addr) (cap : Nat) (m : List (Int × Int)) (x y : Int) (w : World) (hl : m.length ≤ 9223372036854775807) (hB : B ≤ w.heap.size) (h : Sl w B A (pcells m)) :
    Calls Try.prog 71 #[.slice A m.length cap, .agg #[.int .i64 x, .int .i64 y]] w fun e w' => (∃ k : Int, e = .returned (.int .i64 k) ∧ (0 ≤ k ↔ (x, y) ∈ m)) ∧ Below w.heap.size w w' := by
  obtain ⟨w0, hw0⟩ : ∃ w0, w0 = w.alloc (.cells #[.int .i64 x, .int .i64 y] 48) := ⟨_, rfl⟩
  have hb0 : Below w.heap.size w w0 := by rw [hw0]; exact (Below.refl _ _).alloc (Nat.le_refl _) _
  have hx1 : w0.cell? ⟨w.heap.size, 0, none⟩ = some (.int .i64 x) := by rw [hw0, World.cell?_alloc_at _ _ _ _ rfl]; rfl
  have hx2 : w0.cell? ⟨w.heap.size, 1, none⟩ = some (.int .i64 y) := by rw [hw0, World.cell?_alloc_at _ _ _ _ rfl]; rfl
  have h0 := h.below (hb0.mono hB)
  go_enter Try.func71, Try.ntmps71
  go_wp2
  rw [← hw0]
  clear hw0 h
  go_loopw [8] (fun iv wr => ∃ i : Nat, i ≤ m.length ∧ iv = .int .i64 i ∧ (∀ j, j < i → m.getD j (0, 0) ≠ (x, y)) ∧ ∃ d, wr = w0.drewN d) (fun iv _ => m.length - (intOf iv).toNat)
  case atStart => exact ⟨0, Nat.zero_le _, rfl, fun j hj => by omega, 0, rfl⟩
  case round =>
    obtain ⟨i, hi, rfl, hall, d, rfl⟩ := hrel
    have HALL := Lib.hid hall
    clear hall
    by_cases hlt : i < m.length
    · have di : decide (i < m.length) = true := decide_eq_true hlt
      obtain ⟨b, o, rfl, hb⟩ := psl_addr h0 (by omega)
      obtain ⟨hc1, hc2⟩ := psl_at h0 hlt
      have hm : Hid (m.getD i (0, 0) ∈ m) := by
        show _ ∈ _
        rw [getD_get hlt]; exact List.getElem_mem hlt
      obtain ⟨p, hp⟩ : ∃ p, p = (m.getD i (0, 0)).1 := ⟨_, rfl⟩
      obtain ⟨q, hq⟩ : ∃ q, q = (m.getD i (0, 0)).2 := ⟨_, rfl⟩
      have hpq : m.getD i (0, 0) = (p, q) := by rw [hp, hq]
      rw [hpq] at hm
      rw [← hp] at hc1
      rw [← hq] at hc2
      have HPQ := Lib.hid hpq
      clear hp hq hpq
      by_cases hxy : x = p ∧ y = q
      · obtain ⟨rfl, rfl⟩ := hxy
        go_wp2
        go_quiet (fail)
        go_wp2
        go_ret
        exact ⟨⟨_, rfl, fun _ => hm.out, fun _ => by omega⟩, below_drewN (below_drewN hb0 _) _⟩
      · have hne : Hid ((p, q) ≠ (x, y)) := Lib.hid fun e => hxy (by injection e with e1 e2; exact ⟨e1.symm, e2.symm⟩)
        by_cases h1 : x = p
        · have h2 : ¬ y = q := fun e => hxy ⟨h1, e⟩
          have d1 : (x == p) = true := by simpa using h1
          have d2 : (y == q) = false := by simpa using h2
          clear hxy h1 h2
          go_wp2
          go_quiet (fail)
          go_wp2
          go_roundw
          case rel =>
            refine ⟨i + 1, by omega, by go_num, fun j hj => ?_, _, rfl⟩
            by_cases e : j = i
            · rw [e, HPQ.out]; exact hne.out
            · exact HALL.out j (by omega)
          case measure => simp [intOf]; omega
        · have d1 : (x == p) = false := by simpa using h1
          clear hxy h1
          go_wp2
          go_quiet (fail)
          go_wp2
          go_roundw
          case rel =>
            refine ⟨i + 1, by omega, by go_num, fun j hj => ?_, _, rfl⟩
            by_cases e : j = i
            · rw [e, HPQ.out]; exact hne.out
            · exact HALL.out j (by omega)
          case measure => simp [intOf]; omega
    · have di : decide (i < m.length) = false := decide_eq_false hlt
      have hno : Hid ((x, y) ∉ m) := Lib.hid fun hm => by
        obtain ⟨j, hj, e⟩ := List.getElem_of_mem hm
        exact HALL.out j (by omega) (by rw [getD_get hj]; exact e)
      go_wp2
      go_ret
      exact ⟨⟨-1, rfl, fun hh => by omega, fun hh => absurd hh hno.out⟩, below_drewN hb0 _⟩
theorem pcon_any {B : Nat} (A : Option Addr) (cap : Nat) (m : List (Int × Int)) (x y : Int) (w : World) (hl : m.length ≤ 9223372036854775807) (hB : B ≤ w.heap.size) (h : Sl w B A (pcells m)) :
    Calls Try.prog 27 #[.slice A m.length cap, .agg #[.int .i64 x, .int .i64 y]] w fun e w' => (∃ c : Bool, e = .returned (.bool c) ∧ (c = true ↔ (x, y) ∈ m)) ∧ Below w.heap.size w w' := by
  have hb0 : Below w.heap.size w (w.alloc (.cells #[.int .i64 x, .int .i64 y] 48)) := (Below.refl _ _).alloc (Nat.le_refl _) _
  have hx := pidx_any (B := B) A cap m x y (w.alloc (.cells #[.int .i64 x, .int .i64 y] 48)) hl (by simp; omega) (h.below (hb0.mono hB))
  have HX := Lib.hid hx
  have HB := Lib.hid hb0
  clear hx h hb0
  go_enter Try.func27, Try.ntmps27
  go_wp2_with (first | (go_at_call 71; refine (HX.out).mono ?_) | fail)
  rintro e w2 ⟨⟨k, rfl, hk⟩, hb2⟩
  have HK := Lib.hid hk
  have hb3 := below_call HB.out (Nat.le_refl _) hb2
  clear hk hb2
  go_wp2
  go_ret
  exact ⟨⟨_, rfl, by rw [decide_eq_true_iff]; exact HK.out⟩, hb3⟩
end Go.Proofs.Ytdmpbbgcifodeaa
