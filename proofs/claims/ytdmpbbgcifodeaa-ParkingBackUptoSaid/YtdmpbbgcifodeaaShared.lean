/-
  Words that seat B's walks share: ferlaw.Same, slices.Clone, ferref.Size over ints; literals; rows.
-/
import Derived.Test.YtdmpbbgcifodeaaLib
import Derived.Test.YtdmpbbgcifodeaaBase
import Derived.OwnWalk
namespace Go.Proofs.Ytdmpbbgcifodeaa
open Go.RowKit

set_option maxHeartbeats 1000000 in
theorem same_any (A A' : Option Addr) (cap cap' : Nat) (xs ys : List Int) (w : World) (hx : xs.length ≤ 9223372036854775807) (hy : ys.length ≤ 9223372036854775807)
    (h : Sl w w.heap.size A (ints xs)) (h' : Sl w w.heap.size A' (ints ys)) :
    Calls Try.prog 14 #[.slice A xs.length cap, .slice A' ys.length cap'] w fun e w' => e = .returned (.bool (decide (xs = ys))) ∧ ∃ n, w' = w.drewN n := by
  by_cases hl : xs.length = ys.length
  · have HL := Lib.hid hl
    have hd0 : (((xs.length : Nat) : Int) != ((ys.length : Nat) : Int)) = false := by simp [hl]
    clear hl
    go_enter Try.func14, Try.ntmps14
    go_wp2
    go_loopw [13] (fun iv wr => ∃ (i : Nat), i ≤ xs.length ∧ iv = .int .i64 i ∧ xs.take i = ys.take i ∧ ∃ d, wr = w.drewN d) (fun iv _ => xs.length - (intOf iv).toNat)
    case atStart => exact ⟨0, by omega, rfl, by simp, 0, rfl⟩
    case round =>
      obtain ⟨i, hi, rfl, heq, d, rfl⟩ := hrel
      have HE := Lib.hid heq
      clear heq
      by_cases hlt : i < xs.length
      · have hlt' : i < ys.length := by have := HL.out; omega
        obtain ⟨b, o, rfl, hb, hc⟩ := h.at_ hlt
        obtain ⟨b', o', rfl, hb', hc'⟩ := h'.at_ hlt'
        obtain ⟨x, hxx⟩ : ∃ x, x = xs[i] := ⟨_, rfl⟩
        obtain ⟨y, hyy⟩ : ∃ x, x = ys[i] := ⟨_, rfl⟩
        rw [← hxx] at hc
        rw [← hyy] at hc'
        have HX := Lib.hid hxx
        have HY := Lib.hid hyy
        have hdl : decide (i < xs.length) = true := by simpa using hlt
        clear hxx hyy
        by_cases hxy : x = y
        · have hd : (x != y) = false := by simpa using hxy
          have HXY := Lib.hid hxy
          clear hxy
          go_wp2
          go_quiet (fail)
          go_wp2
          go_roundw
          case rel =>
            refine ⟨i + 1, by omega, by go_num, ?_, _, rfl⟩
            rw [take_snoc hlt, take_snoc hlt', HE.out, ← HX.out, ← HY.out, HXY.out]
          case measure => simp [intOf]; omega
        · have hd : (x != y) = true := by simpa using hxy
          have HXY := Lib.hid hxy
          have hfin : Hid (decide (xs = ys) = false) := by
            show _ = _
            rw [decide_eq_false_iff_not]
            intro e
            subst e
            exact HXY.out (HX.out.trans HY.out.symm)
          clear hxy
          go_wp2
          go_quiet (fail)
          go_wp2
          go_ret
          exact ⟨by rw [hfin.out]; rfl, _, World.drewN_drewN ..⟩
      · have hfin : Hid (decide (xs = ys) = true) := by
          show _ = _
          rw [decide_eq_true_iff]
          have := HE.out
          have hl := HL.out
          rwa [List.take_of_length_le (by omega), List.take_of_length_le (by omega)] at this
        go_wp2
        go_ret
        exact ⟨by rw [hfin.out]; rfl, _, rfl⟩
  · have hd0 : (((xs.length : Nat) : Int) != ((ys.length : Nat) : Int)) = true := by simp; omega
    have hfin : Hid (decide (xs = ys) = false) := by
      show _ = _
      rw [decide_eq_false_iff_not]
      intro e
      subst e
      exact hl rfl
    clear hl
    go_enter Try.func14, Try.ntmps14
    go_wp2
    go_ret
    exact ⟨by rw [hfin.out]; rfl, 0, rfl⟩

theorem same_b (A A' : Option Addr) (cap cap' : Nat) (xs ys : List Int) (w : World) (hx : xs.length ≤ 9223372036854775807) (hy : ys.length ≤ 9223372036854775807)
    (h : Sl w w.heap.size A (ints xs)) (h' : Sl w w.heap.size A' (ints ys)) :
    Calls Try.prog 14 #[.slice A xs.length cap, .slice A' ys.length cap'] w fun e w' => e = .returned (.bool (decide (xs = ys))) ∧ Below w.heap.size w w' :=
  (same_any A A' cap cap' xs ys w hx hy h h').mono fun e w' ⟨h1, n, h2⟩ => ⟨h1, by rw [h2]; exact below_drewN (Below.refl _ _) n⟩

set_option maxHeartbeats 400000 in
theorem clone_any (A : Option Addr) (cap : Nat) (xs : List Int) (w : World) (hl : xs.length < 1000000) (h : Sl w w.heap.size A (ints xs)) :
    Calls Try.prog 61 #[.slice A xs.length cap] w fun e w' => ∃ v, e = .returned v ∧ w'.ownsRow w.heap.size 3 1 v xs.length (ints xs) ∧ Below w.heap.size w w' := by
  rcases A with _ | ad
  · have hx : xs = [] := by
      by_cases hp : 0 < xs.length
      · obtain ⟨b, o, e, _⟩ := h.at_ hp
        cases e
      · exact List.eq_nil_of_length_eq_zero (by omega)
    subst hx
    have he := fun w => Lib.run_eql_slice_nil (P := Try.prog) w 22 3 none 0 cap 0 0 Try.underlying22
    go_enter Try.func61, Try.ntmps61
    go_wp2
    go_ret
    exact ⟨_, rfl, World.ownsRow_nil _ _ _ _, Below.refl _ _⟩
  · have he := fun w => Lib.run_eql_slice_nil (P := Try.prog) w 22 3 (some ad) xs.length cap 0 0 Try.underlying22
    go_enter Try.func61, Try.ntmps61
    go_wp2_with (at_builtin; refine wpList_app (l := []) rfl (.tmp 5) (.tmp 6) rfl rfl (World.ownsRow_lit w #[] 0 (Nat.le_refl _) (by decide) rfl) cap rfl (h.below ((Below.refl _ _).alloc (Nat.le_refl _) _)) (by simp; omega) (by simp) (fun v3 w3 hv3 hb3 => ?_))
    go_ret
    exact ⟨_, rfl, by simpa using hv3, ((Below.refl _ _).alloc (Nat.le_refl _) _).trans hb3⟩

/-- The sum of the first k. -/
def sumTo (xs : List Int) (k : Nat) : Int := (xs.take k).sum
theorem sumTo_succ {xs : List Int} {k : Nat} (h : k < xs.length) : sumTo xs (k + 1) = sumTo xs k + xs[k] := by
  unfold sumTo
  rw [take_snoc h, List.sum_append]; simp

set_option maxHeartbeats 800000 in
theorem size_any (A : Option Addr) (cap : Nat) (xs : List Int) (w : World) (hcl : xs.length < 1000000) (hr : ∀ k, k ≤ xs.length → -1000000000000 ≤ sumTo xs k ∧ sumTo xs k ≤ 1000000000000) (h : Sl w w.heap.size A (ints xs)) :
    Calls Try.prog 15 #[.slice A xs.length cap] w fun e w' => e = .returned (.int .i64 xs.sum) ∧ w = w' := by
  have HR := Lib.hid hr
  clear hr
  go_enter Try.func15, Try.ntmps15
  go_wp2
  go_loop [3, 4] (fun s i => ∃ k : Nat, k ≤ xs.length ∧ i = .int .i64 k ∧ s = .int .i64 (sumTo xs k)) (fun _ i => xs.length - (intOf i).toNat)
  case atStart => exact ⟨0, by omega, rfl, by simp [sumTo]⟩
  case round =>
    obtain ⟨k, hk, rfl, rfl⟩ := hrel
    by_cases hlt : k < xs.length
    · obtain ⟨b, o, rfl, hb, hc0⟩ := h.at_ hlt
      have hs1 := HR.out k hk
      have hs2 := HR.out (k + 1) (by omega)
      have hs := sumTo_succ hlt
      obtain ⟨x, hx⟩ : ∃ x, x = xs[k] := ⟨_, rfl⟩
      obtain ⟨s, hss⟩ : ∃ s, s = sumTo xs k := ⟨_, rfl⟩
      rw [← hx] at hc0 hs
      rw [← hss] at hs hs1 ⊢
      rw [hs] at hs2
      have HS := Lib.hid hs
      have HX := Lib.hid hx
      have HSS := Lib.hid hss
      clear hs hx hss
      go_wp2
      go_round
      case rel => exact ⟨k + 1, by omega, by go_num, by rw [HS.out]⟩
      case measure => simp [intOf]; omega
    · obtain rfl : k = xs.length := by omega
      go_wp2
      go_ret
      exact ⟨by simp [sumTo], rfl⟩

theorem sum_bound {xs : List Int} {m : Int} (h : ∀ x ∈ xs, 0 ≤ x ∧ x ≤ m) : 0 ≤ xs.sum ∧ xs.sum ≤ m * xs.length := by
  induction xs with
  | nil => simp
  | cons y xs ih =>
    have h1 := ih (fun x hx => h x (List.mem_cons_of_mem _ hx))
    have h2 := h y (by simp)
    rw [List.sum_cons, List.length_cons]
    have : m * ((xs.length + 1 : Nat) : Int) = m * xs.length + m := by rw [Int.natCast_add, Int.mul_add]; simp
    omega

theorem sumTo_bound {xs : List Int} {m : Int} (hm : 0 ≤ m) (h : ∀ x ∈ xs, 0 ≤ x ∧ x ≤ m) (k : Nat) : 0 ≤ sumTo xs k ∧ sumTo xs k ≤ m * xs.length := by
  have h1 := sum_bound (xs := xs.take k) (fun x hx => h x (List.mem_of_mem_take hx))
  have h2 : m * ((xs.take k).length : Int) ≤ m * xs.length := Int.mul_le_mul_of_nonneg_left (by rw [List.length_take]; omega) hm
  unfold sumTo
  omega

theorem sl_lit (w : World) (cs : List Value) (B : Nat) (hB : w.heap.size < B) : Sl (w.alloc (.cells cs.toArray 3)) B (some ⟨w.heap.size, 0, none⟩) cs := fun _ =>
  ⟨_, _, rfl, hB, fun k u hk => by rw [World.cell?_alloc_at _ _ _ _ rfl]; simpa using hk⟩

theorem sl_lit2 (w : World) (xs ys : List Value) (B : Nat) (hB : w.heap.size + 1 < B) : Sl ((w.alloc (.cells xs.toArray 3)).alloc (.cells ys.toArray 3)) B (some ⟨w.heap.size + 1, 0, none⟩) ys := by
  have e : (w.alloc (.cells xs.toArray 3)).heap.size = w.heap.size + 1 := by simp
  have := sl_lit (w.alloc (.cells xs.toArray 3)) ys B (by rw [e]; exact hB)
  rwa [e] at this

theorem own_low {w w' : World} {base g n c B : Nat} {e : TypeId} {cs : List Value} (h : w.ownsRow base e 1 (.slice (some ⟨g, 0, none⟩) n c) n cs) (hg : g < B) (hb : Below B w w') : w'.ownsRow base e 1 (.slice (some ⟨g, 0, none⟩) n c) n cs := by
  refine ⟨h.1, ?_⟩
  rcases h.2 with hn | ⟨g', cap, cur, e1, hg', hh, rest⟩
  · exact .inl hn
  · obtain rfl : g = g' := by
      have : g = g' ∧ c = cap := by simpa using e1
      exact this.1
    exact .inr ⟨g, cap, cur, e1, hg', (hb.block g hg).trans hh, rest⟩
/-- A row that another row's turning leaves. -/
theorem own_apart {w w' : World} {base n : Nat} {e : TypeId} {v : Value} {cs : List Value} (h : w.ownsRow base e 1 v n cs) (hk : ∀ k, base ≤ k → w'.heap[k]? = w.heap[k]?) : w'.ownsRow base e 1 v n cs := by
  refine ⟨h.1, ?_⟩
  rcases h.2 with hn | ⟨g, cap, cur, e1, hg, hh, rest⟩
  · exact .inl hn
  · exact .inr ⟨g, cap, cur, e1, hg, (hk g hg).trans hh, rest⟩

/-- 'make([]int, 0, n)'. -/
theorem wpList_mk0 {base : Nat} (w : World) {ops : Array Oper} {rest : List Oper} {o : Oper} {a : Act} {Q : Exit → Act → World → Prop} (hgd : o.guard = none) (l c : Operand)
    (ho : o.op = Op.makeSlice 22 l c) (n : Nat) (hs : a.eval l = .int .i64 0) (hx : a.eval c = .int .i64 n) (hlen : n < 1000000) (hbase : base ≤ w.heap.size)
    (h : ∀ w', w'.ownsRow base 3 1 (.slice (some ⟨w.heap.size, 0, none⟩) 0 n) 0 (ints []) → Below w.heap.size w w' →
      wpList Try.prog ops Q rest (a.put o.dst (.slice (some ⟨w.heap.size, 0, none⟩) 0 n)) w') :
    wpList Try.prog ops Q (o :: rest) a w := by
  obtain ⟨i0, hi, hz0, hz1, hz2⟩ := info_parts Try.infoInt
  exact wpList_make_own w hgd l c 22 ho base 3 i0 (.int .i64 0) 1 Try.underlying22 hi hz0 hz1 .i64 .i64 n n hs hx rfl (by rw [hz2]; omega) (by unfold maxLen; omega) hbase
    (fun w' h1 h2 => h w' h1 ((Below.refl _ _).grown h2 (Nat.le_refl _) (by simp)))

theorem results_tmp4 {fn : Func} {t u v x : Tmp} (h : fn.results = #[.tmp t, .tmp u, .tmp v, .tmp x]) (tmps : Array Value) (P : Program) (w : World) :
    (results fn tmps).run P w = .ok (.tuple #[tmps.getD t undef, tmps.getD u undef, tmps.getD v undef, tmps.getD x undef]) w := by simp [results, h]

/-- A value that owns a row, as a slice that reads. -/
theorem own_slice {w : World} {base n : Nat} {v : Value} {xs : List Int} (h : w.ownsRow base 3 1 v n (ints xs)) : ∃ A c, v = .slice A xs.length c ∧ n = xs.length ∧ Sl w w.heap.size A (ints xs) ∧ xs.length ≤ c ∧ c ≤ 9223372036854775807 := by
  have hl : xs.length = n := by have := h.1; rw [ints_length] at this; omega
  subst hl
  rcases h.2 with ⟨e1, e2⟩ | ⟨g, c, _, e1, _⟩
  · refine ⟨none, 0, by rw [e2]; exact e1, rfl, ?_, by omega, by omega⟩
    rw [List.eq_nil_of_length_eq_zero e2]; exact Sl.nil _ _ _
  · rw [e1] at h
    exact ⟨_, c, e1, rfl, Sl.of_own h, (own_cap h).1, (own_cap h).2⟩

end Go.Proofs.Ytdmpbbgcifodeaa
