/-
  parts.Frobenius: what it answers; two rows in one region.
-/
import Derived.Test.YtdmpbbgcifodeaaFlipW
import Derived.Deep.RegionHeld3
import Derived.Deep.AppendLies
import Derived.BigRegion
namespace Go.Proofs.Ytdmpbbgcifodeaa
open Go.RowKit

/-- 'append(v, y)' at a step of a region that draws: y was laid in a block of its own. -/
theorem step_app1 {w : World} {base : Nat} {l : List Int} {v : Value} {ops : Array Oper} {o : Oper} {a : Act} {K : Act → World → Prop} {Q : Exit → Act → World → Prop} {E : Prop} (hgd : o.guard = none) (s x : Operand)
    (ho : o.op = .call { callee := .builtin .append, args := #[s, x], argTypes := #[22, 22] }) (hs : a.eval s = v) (y : Int) (n : Nat) (g0 : Nat)
    (hx : a.eval x = .slice (some ⟨g0, 0, none⟩) 1 1) (hown : w.ownsRow base 3 1 v n (ints l)) (hlit : w.heap[g0]? = some (.cells #[.int .i64 y] 3)) (hlen : n < 1000000) (hbase : base ≤ w.heap.size)
    (h : ∀ g cap w', w'.ownsRow base 3 1 (.slice (some ⟨g, 0, none⟩) (n + 1) cap) (n + 1) (ints (l ++ [y])) → w.grownBy w' v.ownBlock → (v.ownBlock = some g ∨ g = w.heap.size) → g < w'.heap.size →
      K (a.put o.dst (.slice (some ⟨g, 0, none⟩) (n + 1) cap)) w') :
    if Region.wanted o (yielded ops a.tmps) = true then Oper.wp Try.prog o a w K Q else E := by
  obtain ⟨i0, hi, hz0, hz1, hz2⟩ := info_parts Try.infoInt
  refine step_append_lies _ hgd s x 22 ho base 3 i0 (.int .i64 0) 1 8 Try.underlying22 hi hz0 hz1 hz2 rfl (by decide) v n (ints l) hs hown ⟨g0, 0, none⟩ 1 1 [.int .i64 y] hx rfl (World.news_of_block (cs := #[.int .i64 y]) hlit) (by simp [Value.oneCell']) (by decide)
    (by unfold maxLen; omega) (by omega) hbase _ rfl (fun g cap w' h1 h2 h3 h4 => h g cap w' (by simpa [ints] using h1) h2 h3 h4)

/-- Two rows apart. -/
def Apart (v u : Value) : Prop := ∀ k, v.ownBlock = some k → u.ownBlock ≠ some k
theorem Apart.symm {u v : Value} (h : Apart u v) : Apart v u := fun k h1 h2 => h k h2 h1
theorem Apart.ne {u v : Value} (h : Apart u v) : v.ownBlock = none ∨ v.ownBlock ≠ u.ownBlock := by
  cases e : v.ownBlock with
  | none => exact .inl rfl
  | some k => exact .inr (fun h2 => h k h2.symm e)
/-- Two rows that the call owns. -/
structure Pair2 (B : Nat) (a0 w : World) (u v : Value) (n m : Nat) (xs ys : List Int) : Prop where
  a : w.ownsRow B 3 1 u n (ints xs)
  l : w.ownsRow B 3 1 v m (ints ys)
  ap : Apart u v
  b : Below B a0 w
  sz : B ≤ w.heap.size
section
variable {B : Nat} {a0 w w' : World} {u v : Value} {n m : Nat} {xs ys : List Int}
theorem Pair2.alloc (h : Pair2 B a0 w u v n m xs ys) (o : Obj) : Pair2 B a0 (w.alloc o) u v n m xs ys :=
  ⟨h.a.alloc o, h.l.alloc o, h.ap, h.b.alloc h.sz o, by have := h.sz; simp; omega⟩
theorem Pair2.drew (h : Pair2 B a0 w u v n m xs ys) : Pair2 B a0 w.drew u v n m xs ys := ⟨h.a, h.l, h.ap, below_drewN h.b 1, h.sz⟩
theorem Pair2.swap (h : Pair2 B a0 w u v n m xs ys) : Pair2 B a0 w v u m n ys xs := ⟨h.l, h.a, h.ap.symm, h.b, h.sz⟩
theorem Pair2.farA (h : Pair2 B a0 w u v n m xs ys) {k : Nat} (hk : w.heap.size ≤ k) : some k ≠ u.ownBlock := fun e => by
  have := (h.a.lt k e.symm).2; omega
theorem Pair2.grow (h : Pair2 B a0 w u v n m xs ys) {g cap n' : Nat} {xs' : List Int} (ho : w'.ownsRow B 3 1 (.slice (some ⟨g, 0, none⟩) n' cap) n' (ints xs')) (hg : w.grownBy w' u.ownBlock)
    (hat : u.ownBlock = some g ∨ g = w.heap.size) : Pair2 B a0 w' (.slice (some ⟨g, 0, none⟩) n' cap) v n' m xs' ys :=
  ⟨ho, h.l.kept hg h.ap.ne, fun k hk hv => by
    obtain rfl : g = k := by simpa [Value.ownBlock] using hk
    rcases hat with e | e
    · exact h.ap _ e hv
    · have := (h.l.lt _ hv).2; omega, h.b.grown hg h.sz (own_ge h.a (Nat.le_refl _)), Nat.le_trans h.sz hg.size⟩
end

theorem step_appA {ops : Array Oper} {o : Oper} {a : Act} {K : Act → World → Prop} {Q : Exit → Act → World → Prop} {E : Prop} {B : Nat} {a0 w : World} {u v : Value} {n m : Nat} {xs ys : List Int} (hgd : o.guard = none) (s x : Operand)
    (ho : o.op = .call { callee := .builtin .append, args := #[s, x], argTypes := #[22, 22] }) (hs : a.eval s = u) (y : Int) (g0 : Nat)
    (hx : a.eval x = .slice (some ⟨g0, 0, none⟩) 1 1) (hP : Pair2 B a0 w u v n m xs ys) (hlit : w.heap[g0]? = some (.cells #[.int .i64 y] 3)) (hlen : n < 1000000)
    (h : ∀ g cap w', Pair2 B a0 w' (.slice (some ⟨g, 0, none⟩) (n + 1) cap) v (n + 1) m (xs ++ [y]) ys → w.heap.size ≤ w'.heap.size → (∀ k, k < w.heap.size → some k ≠ u.ownBlock → w'.heap[k]? = w.heap[k]?) →
      K (a.put o.dst (.slice (some ⟨g, 0, none⟩) (n + 1) cap)) w') :
    if Region.wanted o (yielded ops a.tmps) = true then Oper.wp Try.prog o a w K Q else E :=
  step_app1 hgd s x ho hs y n g0 hx hP.a hlit hlen hP.sz (fun g cap w' h1 h2 h3 _ => h g cap w' (hP.grow h1 h2 h3) h2.size (fun k hk hn => h2.block k hk hn))
theorem step_appL {ops : Array Oper} {o : Oper} {a : Act} {K : Act → World → Prop} {Q : Exit → Act → World → Prop} {E : Prop} {B : Nat} {a0 w : World} {u v : Value} {n m : Nat} {xs ys : List Int} (hgd : o.guard = none) (s x : Operand)
    (ho : o.op = .call { callee := .builtin .append, args := #[s, x], argTypes := #[22, 22] }) (hs : a.eval s = v) (y : Int) (g0 : Nat)
    (hx : a.eval x = .slice (some ⟨g0, 0, none⟩) 1 1) (hP : Pair2 B a0 w u v n m xs ys) (hlit : w.heap[g0]? = some (.cells #[.int .i64 y] 3)) (hlen : m < 1000000)
    (h : ∀ g cap w', Pair2 B a0 w' u (.slice (some ⟨g, 0, none⟩) (m + 1) cap) n (m + 1) xs (ys ++ [y]) → w.heap.size ≤ w'.heap.size → (∀ k, k < w.heap.size → some k ≠ v.ownBlock → w'.heap[k]? = w.heap[k]?) →
      K (a.put o.dst (.slice (some ⟨g, 0, none⟩) (m + 1) cap)) w') :
    if Region.wanted o (yielded ops a.tmps) = true then Oper.wp Try.prog o a w K Q else E :=
  step_app1 hgd s x ho hs y m g0 hx hP.l hlit hlen hP.sz (fun g cap w' h1 h2 h3 _ => h g cap w' (hP.swap.grow h1 h2 h3).swap h2.size (fun k hk hn => h2.block k hk hn))

theorem lit1 (w : World) (o o' : Obj) : ((w.alloc o).alloc o').heap[w.heap.size]? = some o := (heap_alloc_old (w.alloc o) o' (by simp)).trans (heap_alloc_new w o)
theorem lit2 (w : World) (o o' : Obj) : ((w.alloc o).alloc o').heap[w.heap.size + 1]? = some o' := by
  have := heap_alloc_new (w.alloc o) o'
  simpa using this
theorem lt1 (w : World) (o o' : Obj) : w.heap.size < ((w.alloc o).alloc o').heap.size := by simp; omega
theorem lt2 (w : World) (o o' : Obj) : w.heap.size + 1 < ((w.alloc o).alloc o').heap.size := by simp

/-- What Frobenius answers of a partition. -/
def FrobSays (p : List Int) (e : Ending) (w : World) : Prop :=
  ∃ (d : Nat) (A1 A2 : Option Addr) (c1 c2 : Nat), IsDiag p d ∧ e = .returned (.tuple #[.slice A1 (armsOf p d).length c1, .slice A2 (armsOf (flipOf p) d).length c2, .int .i64 0]) ∧
    Sl w w.heap.size A1 (ints (armsOf p d)) ∧ Sl w w.heap.size A2 (ints (armsOf (flipOf p) d))
theorem frob_fin {p : List Int} {w w1 wr : World} {u v : Value} {i : Nat} (hd : IsDiag p i) (h : Pair2 w1.heap.size w1 wr u v i i (armsOf p i) (armsOf (flipOf p) i)) (hb : Below w.heap.size w w1) :
    FrobSays p (.returned (.tuple #[u, v, .int .i64 0])) wr ∧ Below w.heap.size w wr := by
  obtain ⟨A1, c1, e1, _, s1, _⟩ := own_slice h.a
  obtain ⟨A2, c2, e2, _, s2, _⟩ := own_slice h.l
  exact ⟨⟨i, A1, A2, c1, c2, hd, by rw [e1, e2], s1, s2⟩, hb.trans (h.b.mono hb.size)⟩

set_option maxRecDepth 100000 in
set_option maxHeartbeats 2000000 in
theorem frob_any (A : Option Addr) (cap : Nat) (p : List Int) (w : World) (hp : IsPart p) (hs : p.sum ≤ 40) (h : Sl w w.heap.size A (ints p)) :
    Calls Try.prog 17 #[.slice A p.length cap] w fun e w' => FrobSays p e w' ∧ Below w.heap.size w w' := by
  have hB := Nat.le_refl w.heap.size
  have hlen := hp.len hs
  have hc : partChk p = 0 := partChk_zero.2 ⟨hp, hs⟩
  have hfl : (flipOf p).length ≤ 40 := (flip_part hp).len (by rw [flip_sum hp]; exact hs)
  have HC := Lib.hid hc
  have HP := Lib.hid hp
  have HS := Lib.hid hs
  go_enter Try.func17, Try.ntmps17
  go_wp2_with fail
  refine (pcheck_any _ _ _ _ (by omega) h).mono ?_
  rintro e w0 ⟨rfl, rfl⟩
  rw [HC.out]
  go_wp2_with fail
  refine (flipped_any _ _ _ _ hp hs h).mono ?_
  rintro e w1 ⟨v, rfl, hown, hb1⟩
  obtain ⟨A', c', rfl, _, hs', _, _⟩ := own_slice hown
  have h1 := h.now hb1 (Nat.le_refl _)
  have HO := Lib.hid hown
  clear hown hc hp hs
  go_wp2
  go_loopw [2, 3, 7] (fun av lv iv wr => ∃ i : Nat, i ≤ p.length ∧ iv = .int .i64 i ∧ (∀ k, k < i → (k : Int) < p.getD k 0) ∧ Pair2 w1.heap.size w1 wr av lv i i (armsOf p i) (armsOf (flipOf p) i)) (fun _ _ iv _ => p.length - (intOf iv).toNat)
  case atStart => exact ⟨0, by omega, rfl, fun k hk => by omega, ⟨World.ownsRow_nil _ _ _ _, World.ownsRow_nil _ _ _ _, fun k hk => by simp [Value.ownBlock] at hk, Below.refl _ _, Nat.le_refl _⟩⟩
  case round =>
    obtain ⟨i, hi, rfl, hall, hp2⟩ := hrel
    have HALL := Lib.hid hall
    have HP1 := Lib.hid hp2
    have hW := hp2.b
    clear hall hp2
    by_cases hlt : i < p.length
    · have hd0 : decide (i < p.length) = true := decide_eq_true hlt
      obtain ⟨b, o, rfl, hb⟩ := h.addr (by omega)
      have hr := h1.below hW
      have hcx := getD_cell hr hlt
      have hx40 := part_le_sum HP.out hlt
      have hx40' := HS.out
      have hg := galois HP.out i i
      have hx0 := HP.out.1 i hlt
      obtain ⟨x, hx⟩ : ∃ x, x = p.getD i 0 := ⟨_, rfl⟩
      rw [← hx] at hcx hg hx0 hx40
      have hxx : x ≤ 40 := by omega
      have HX := Lib.hid hx
      clear hx hx40 hx40'
      by_cases hxi : (i : Int) < x
      · have hd1 : decide ((i : Int) < x) = true := decide_eq_true hxi
        have hyi := hg.1 hxi
        have hil : i < (flipOf p).length := by
          by_cases e : i < (flipOf p).length
          · exact e
          · rw [getD_out (by omega)] at hyi; omega
        obtain ⟨b2, o2, rfl, hb2⟩ := hs'.addr (by omega)
        have hcy := getD_cell (hs'.below hW) hil
        have hy40 : (flipOf p).getD i 0 ≤ 40 := by rw [flip_getD HP.out]; have := over_le p i; omega
        obtain ⟨y, hy⟩ : ∃ x, x = (flipOf p).getD i 0 := ⟨_, rfl⟩
        rw [← hy] at hcy hyi hy40
        have HY := Lib.hid hy
        clear hg hy
        go_upto_region 8 with fail
        have hfA : ∀ k, wr.heap.size ≤ k → some k ≠ u2.ownBlock := fun k hk => HP1.out.farA hk
        have hwz := hW.size
        have hb1z := hb1.size
        have hbA : some b ≠ u2.ownBlock := fun e => by have := (HP1.out.a.lt b e.symm).1; omega
        have hb2A : some b2 ≠ u2.ownBlock := fun e => by have := (HP1.out.a.lt b2 e.symm).1; omega
        have hbL : some b ≠ u3.ownBlock := fun e => by have := (HP1.out.l.lt b e.symm).1; omega
        have hb2L : some b2 ≠ u3.ownBlock := fun e => by have := (HP1.out.l.lt b2 e.symm).1; omega
        have w1x : IntKind.i64.wrap (x - (i : Int)) = x - (i : Int) := IntWalk.i64_in _ (by omega)
        have w2x : IntKind.i64.wrap (x - (i : Int) - 1) = x - (i : Int) - 1 := IntWalk.i64_in _ (by omega)
        have w1y : IntKind.i64.wrap (y - (i : Int)) = y - (i : Int) := IntWalk.i64_in _ (by omega)
        have w2y : IntKind.i64.wrap (y - (i : Int) - 1) = y - (i : Int) - 1 := IntWalk.i64_in _ (by omega)
        go_region_held3 (fun w' => w'.cell? ⟨b, o + i, none⟩ = some (.int .i64 x) ∧ w'.cell? ⟨b2, o2 + i, none⟩ = some (.int .i64 y))
          (first
            | go_keep
            | (go_split_ands
               refine ⟨?_, ?_⟩
               · (rw [World.cell?_of_block (hkA b (by first | omega | (simp; omega)) hbA)]; assumption)
               · (rw [World.cell?_of_block (hkA b2 (by first | omega | (simp; omega)) hb2A)]; assumption))
            | (go_split_ands
               refine ⟨?_, ?_⟩
               · (rw [World.cell?_of_block (hkL b (by first | omega | (simp; omega)) hbL)]; assumption)
               · (rw [World.cell?_of_block (hkL b2 (by first | omega | (simp; omega)) hb2L)]; assumption)))
          (first
            | ((refine step_appA (B := w1.heap.size) (a0 := w1) (u := u2) (v := u3) (n := i) (m := i) (xs := armsOf p i) (ys := armsOf (flipOf p) i) ?_ (.tmp 29) (.tmp 37) ?_ ?_ (x - (i : Int) - 1) (wr.heap.size) ?_ ?_ ?_ ?_ ?_
                · rfl
                · rfl
                · rfl
                · rfl
                · first | exact (HP1.out.alloc _).drew | exact ((HP1.out.alloc _).alloc _).drew
                · first | exact heap_alloc_new _ _ | exact lit1 _ _ _ | exact lit2 _ _ _
                · omega
                intro gA capA wA HP2 hszA hkA
                have hszA' : wr.heap.size + 1 ≤ wA.heap.size := Nat.le_trans (by simp; try omega) hszA))
            | ((refine step_appA (B := w1.heap.size) (a0 := w1) (u := u2) (v := u3) (n := i) (m := i) (xs := armsOf p i) (ys := armsOf (flipOf p) i) ?_ (.tmp 29) (.tmp 37) ?_ ?_ (x - (i : Int) - 1) (wr.heap.size + 1) ?_ ?_ ?_ ?_ ?_
                · rfl
                · rfl
                · rfl
                · rfl
                · first | exact (HP1.out.alloc _).drew | exact ((HP1.out.alloc _).alloc _).drew
                · first | exact heap_alloc_new _ _ | exact lit1 _ _ _ | exact lit2 _ _ _
                · omega
                intro gA capA wA HP2 hszA hkA
                have hszA' : wr.heap.size + 1 ≤ wA.heap.size := Nat.le_trans (by simp; try omega) hszA))
            | ((refine step_appL (B := w1.heap.size) (a0 := w1) (u := .slice (some ⟨gA, 0, none⟩) (i + 1) capA) (v := u3) (n := i + 1) (m := i) (xs := armsOf p i ++ [x - (i : Int) - 1]) (ys := armsOf (flipOf p) i) ?_ (.tmp 39) (.tmp 47) ?_ ?_ (y - (i : Int) - 1) (wA.heap.size) ?_ ?_ ?_ ?_ ?_
                · rfl
                · rfl
                · rfl
                · rfl
                · first | exact HP2 | exact HP2.alloc _ | exact (HP2.alloc _).drew
                · first | exact heap_alloc_new _ _ | exact (hkA _ (lt1 _ _ _) (hfA _ (Nat.le_refl _))).trans (lit1 _ _ _) | exact (hkA _ (lt2 _ _ _) (hfA _ (Nat.le_succ _))).trans (lit2 _ _ _)
                · omega
                intro gL capL wL HP3 hszL hkL))
            | ((refine step_appL (B := w1.heap.size) (a0 := w1) (u := .slice (some ⟨gA, 0, none⟩) (i + 1) capA) (v := u3) (n := i + 1) (m := i) (xs := armsOf p i ++ [x - (i : Int) - 1]) (ys := armsOf (flipOf p) i) ?_ (.tmp 39) (.tmp 47) ?_ ?_ (y - (i : Int) - 1) (wr.heap.size) ?_ ?_ ?_ ?_ ?_
                · rfl
                · rfl
                · rfl
                · rfl
                · first | exact HP2 | exact HP2.alloc _ | exact (HP2.alloc _).drew
                · first | exact heap_alloc_new _ _ | exact (hkA _ (lt1 _ _ _) (hfA _ (Nat.le_refl _))).trans (lit1 _ _ _) | exact (hkA _ (lt2 _ _ _) (hfA _ (Nat.le_succ _))).trans (lit2 _ _ _)
                · omega
                intro gL capL wL HP3 hszL hkL))
            | ((refine step_appL (B := w1.heap.size) (a0 := w1) (u := .slice (some ⟨gA, 0, none⟩) (i + 1) capA) (v := u3) (n := i + 1) (m := i) (xs := armsOf p i ++ [x - (i : Int) - 1]) (ys := armsOf (flipOf p) i) ?_ (.tmp 39) (.tmp 47) ?_ ?_ (y - (i : Int) - 1) (wr.heap.size + 1) ?_ ?_ ?_ ?_ ?_
                · rfl
                · rfl
                · rfl
                · rfl
                · first | exact HP2 | exact HP2.alloc _ | exact (HP2.alloc _).drew
                · first | exact heap_alloc_new _ _ | exact (hkA _ (lt1 _ _ _) (hfA _ (Nat.le_refl _))).trans (lit1 _ _ _) | exact (hkA _ (lt2 _ _ _) (hfA _ (Nat.le_succ _))).trans (lit2 _ _ _)
                · omega
                intro gL capL wL HP3 hszL hkL))
            | fail)
        all_goals
          go_wp2
          go_roundw
          case rel =>
            refine ⟨i + 1, by omega, by go_num, fun k hk => ?_, ?_⟩
            · by_cases e : k = i
              · rw [e, ← HX.out]; exact hxi
              · exact HALL.out k (by omega)
            · rw [← armsOf_succ p i, ← armsOf_succ (flipOf p) i, ← HX.out, ← HY.out]; exact HP3
          case measure => simp [intOf]; omega
      · have hd1 : decide ((i : Int) < x) = false := decide_eq_false hxi
        have hdg : Hid (IsDiag p i) := ⟨HALL.out, by rw [← HX.out]; omega⟩
        clear hg hxi
        go_wp2
        go_ret3
        exact frob_fin hdg.out HP1.out hb1
    · have hd0 : decide (i < p.length) = false := decide_eq_false hlt
      have hdg : Hid (IsDiag p i) := ⟨HALL.out, by rw [getD_out (by omega)]; omega⟩
      go_wp2
      go_ret3
      exact frob_fin hdg.out HP1.out hb1

end Go.Proofs.Ytdmpbbgcifodeaa
