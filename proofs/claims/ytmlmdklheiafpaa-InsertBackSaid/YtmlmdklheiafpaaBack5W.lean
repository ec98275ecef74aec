/-
  insert.MakePairs: what it answers.
-/
import Derived.Test.YtmlmdklheiafpaaBack4W
import Derived.Test.YtmlmdklheiafpaaBackQ
import Derived.Test.YtmlmdklheiafpaaBack3W
import Derived.Deep.RegionHeld3
import Derived.Deep.AppendLies
import Derived.BigRegion
namespace Go.Proofs.Ytmlmdklheiafpaa
open Go.RowKit

/-- Two rows that the call owns. -/
structure Pair2 (B : Nat) (a0 w : World) (u v : Value) (n m : Nat) (xs ys : List Int) : Prop where
  a : w.ownsRow B 3 1 u n (ints xs)
  l : w.ownsRow B 3 1 v m (ints ys)
  ap : Far u v
  b : Below B a0 w
  sz : B ≤ w.heap.size
section
variable {B : Nat} {a0 w w' : World} {u v : Value} {n m : Nat} {xs ys : List Int}
theorem Pair2.alloc (h : Pair2 B a0 w u v n m xs ys) (o : Obj) : Pair2 B a0 (w.alloc o) u v n m xs ys :=
  ⟨h.a.alloc o, h.l.alloc o, h.ap, h.b.alloc h.sz o, by have := h.sz; simp; omega⟩
theorem Pair2.drewN (h : Pair2 B a0 w u v n m xs ys) (k : Nat) : Pair2 B a0 (w.drewN k) u v n m xs ys := ⟨h.a, h.l, h.ap, below_drewN h.b k, h.sz⟩
theorem Pair2.drew (h : Pair2 B a0 w u v n m xs ys) : Pair2 B a0 w.drew u v n m xs ys := h.drewN 1
theorem Pair2.swap (h : Pair2 B a0 w u v n m xs ys) : Pair2 B a0 w v u m n ys xs := ⟨h.l, h.a, h.ap.symm, h.b, h.sz⟩
theorem Pair2.farA (h : Pair2 B a0 w u v n m xs ys) {k : Nat} (hk : w.heap.size ≤ k) : some k ≠ u.ownBlock := fun e => by
  have := (h.a.lt k e.symm).2; omega
theorem Pair2.grow (h : Pair2 B a0 w u v n m xs ys) {g cap n' : Nat} {xs' : List Int} (ho : w'.ownsRow B 3 1 (.slice (some ⟨g, 0, none⟩) n' cap) n' (ints xs')) (hg : w.grownBy w' u.ownBlock)
    (hat : u.ownBlock = some g ∨ g = w.heap.size) : Pair2 B a0 w' (.slice (some ⟨g, 0, none⟩) n' cap) v n' m xs' ys :=
  ⟨ho, h.l.kept hg h.ap.ne, fun k hk hv => by
    obtain rfl : g = k := by simpa [Value.ownBlock] using hk
    rcases hat with e | e
    · exact h.ap _ e hv
    · have := (h.l.lt _ hv).2; omega, h.b.grown hg h.sz (own_ge h.a (Nat.le_refl _)), Nat.le_trans h.sz hg.size⟩
end

theorem step_appA {ops : Array Oper} {o : Oper} {a : Act} {K : Act → World → Prop} {Q : Exit → Act → World → Prop} {E : Prop} {B : Nat} {a0 w : World} {u v : Value} {n m : Nat} {xs ys : List Int} (hgd : o.guard = none) (s x : Operand)
    (ho : o.op = .call { callee := .builtin .append, args := #[s, x], argTypes := #[22, 22] }) (hs : a.eval s = u) (y : Int) (g0 : Nat)
    (hx : a.eval x = .slice (some ⟨g0, 0, none⟩) 1 1) (hP : Pair2 B a0 w u v n m xs ys) (hlit : w.heap[g0]? = some (.cells #[.int .i64 y] 3)) (hlen : n < 1000000)
    (h : ∀ g cap w', Pair2 B a0 w' (.slice (some ⟨g, 0, none⟩) (n + 1) cap) v (n + 1) m (xs ++ [y]) ys → w.heap.size ≤ w'.heap.size → (∀ k, k < w.heap.size → some k ≠ u.ownBlock → w'.heap[k]? = w.heap[k]?) →
      K (a.put o.dst (.slice (some ⟨g, 0, none⟩) (n + 1) cap)) w') :
    if Region.wanted o (yielded ops a.tmps) = true then Oper.wp Try.prog o a w K Q else E :=
  step_app1 hgd s x ho hs y n g0 hx hP.a hlit hlen hP.sz (fun g cap w' h1 h2 h3 _ => h g cap w' (hP.grow h1 h2 h3) h2.size (fun k hk hn => h2.block k hk hn))
theorem step_appL {ops : Array Oper} {o : Oper} {a : Act} {K : Act → World → Prop} {Q : Exit → Act → World → Prop} {E : Prop} {B : Nat} {a0 w : World} {u v : Value} {n m : Nat} {xs ys : List Int} (hgd : o.guard = none) (s x : Operand)
    (ho : o.op = .call { callee := .builtin .append, args := #[s, x], argTypes := #[22, 22] }) (hs : a.eval s = v) (y : Int) (g0 : Nat)
    (hx : a.eval x = .slice (some ⟨g0, 0, none⟩) 1 1) (hP : Pair2 B a0 w u v n m xs ys) (hlit : w.heap[g0]? = some (.cells #[.int .i64 y] 3)) (hlen : m < 1000000)
    (h : ∀ g cap w', Pair2 B a0 w' u (.slice (some ⟨g, 0, none⟩) (m + 1) cap) n (m + 1) xs (ys ++ [y]) → w.heap.size ≤ w'.heap.size → (∀ k, k < w.heap.size → some k ≠ v.ownBlock → w'.heap[k]? = w.heap[k]?) →
      K (a.put o.dst (.slice (some ⟨g, 0, none⟩) (m + 1) cap)) w') :
    if Region.wanted o (yielded ops a.tmps) = true then Oper.wp Try.prog o a w K Q else E :=
  step_app1 hgd s x ho hs y m g0 hx hP.l hlit hlen hP.sz (fun g cap w' h1 h2 h3 _ => h g cap w' (hP.swap.grow h1 h2 h3).swap h2.size (fun k hk hn => h2.block k hk hn))
theorem lit1 (w : World) (o o' : Obj) : ((w.alloc o).alloc o').heap[w.heap.size]? = some o := (heap_alloc_old (w.alloc o) o' (by simp)).trans (heap_alloc_new w o)
theorem lit2 (w : World) (o o' : Obj) : ((w.alloc o).alloc o').heap[w.heap.size + 1]? = some o' := by
  have := heap_alloc_new (w.alloc o) o'
  simpa using this
theorem lt1 (w : World) (o o' : Obj) : w.heap.size < ((w.alloc o).alloc o').heap.size := by simp; omega
theorem lt2 (w : World) (o o' : Obj) : w.heap.size + 1 < ((w.alloc o).alloc o').heap.size := by simp

/-- Pairs that go in. -/
structure PairsOk (m : List (Int × Int)) : Prop where
  len : m.length ≤ 40
  ok : ∀ x ∈ m, Lt x.1 ∧ Lt x.2
  sorted : Sorted m
def PairOk (m : List (Int × Int)) (i : Nat) : Prop := (Lt (m.getD i (0, 0)).1 ∧ Lt (m.getD i (0, 0)).2) ∧ (0 < i → LexLe (m.getD (i - 1) (0, 0)) (m.getD i (0, 0)))
theorem pairsOk_of {m : List (Int × Int)} (h : m.length ≤ 40) (hk : ∀ k, k < m.length → PairOk m k) : PairsOk m :=
  ⟨h, fun x hx => by
    obtain ⟨i, hi, rfl⟩ := List.getElem_of_mem hx
    have := (hk i hi).1
    rwa [getD_get hi] at this, fun i h0 hi => (hk i hi).2 h0⟩
theorem PairsOk.at_ {m : List (Int × Int)} (h : PairsOk m) {i : Nat} (hi : i < m.length) : PairOk m i :=
  ⟨h.ok _ (by rw [getD_get hi]; exact List.getElem_mem _), fun h0 => h.sorted i h0 hi⟩
/-- What insert.MakePairs answers. -/
def MkpOut (e : Ending) (w : World) (m : List (Int × Int)) : Prop :=
  ∃ (k : Int) (A1 A2 : Option Addr) (c1 c2 : Nat) (P Q : List (List Int)), e = .returned (.tuple #[.slice A1 P.length c1, .slice A2 Q.length c2, .int .i64 k]) ∧ SR w w.heap.size A1 P ∧ SR w w.heap.size A2 Q ∧ P.length ≤ 9223372036854775807 ∧ Q.length ≤ 9223372036854775807 ∧
    (k = 0 → PairsOk m ∧ P = insW [] (wB m) ∧ Q = recQ (wB m) (wA m) m.length) ∧ (PairsOk m → k = 0)

set_option maxRecDepth 100000 in
set_option maxHeartbeats 2000000 in
theorem makep_any (A : Option Addr) (cap : Nat) (m : List (Int × Int)) (w : World) (hcl : m.length ≤ 9223372036854775807) (h : Sl w w.heap.size A (pcells m)) :
    Calls Try.prog 42 #[.slice A m.length cap] w fun e w' => MkpOut e w' m ∧ Below w.heap.size w w' := by
  have hB := Nat.le_refl w.heap.size
  go_enter Try.func42, Try.ntmps42
  by_cases hlong : 40 < m.length
  · have dl : decide ((40 : Int) < (m.length : Int)) = true := decide_eq_true (by omega)
    have HL := Lib.hid hlong
    go_wp2
    go_ret3
    exact ⟨⟨2, none, none, 0, 0, [], [], rfl, SR.nil _ _ _, SR.nil _ _ _, by simp, by simp, fun e => absurd e (by decide), fun hh => by have := hh.len; have := HL.out; omega⟩, Below.refl _ _⟩
  · have dl : decide ((40 : Int) < (m.length : Int)) = false := decide_eq_false (by omega)
    have hm40 : m.length ≤ 40 := by omega
    clear hlong
    go_wp2
    go_loopw [5, 6, 14] (fun pv qv iv wr => ∃ (i : Nat), i ≤ m.length ∧ iv = .int .i64 i ∧ (∀ k, k < i → PairOk m k) ∧ Pair2 w.heap.size w wr pv qv i i ((wB m).take i) ((wA m).take i)) (fun _ _ iv _ => m.length - (intOf iv).toNat)
    case atStart => exact ⟨0, Nat.zero_le _, rfl, fun k hk => by omega, ⟨World.ownsRow_nil _ _ _ _, World.ownsRow_nil _ _ _ _, fun k hk => by simp [Value.ownBlock] at hk, Below.refl _ _, Nat.le_refl _⟩⟩
    case round =>
      obtain ⟨i, hi, rfl, hall, hp⟩ := hrel
      have HALL := Lib.hid hall
      have HP := Lib.hid hp
      have hW := hp.b
      have hsz := hW.size
      clear hall hp
      by_cases hit : i < m.length
      · have di : decide (i < m.length) = true := decide_eq_true hit
        have hsl := h.below hW
        obtain ⟨b, o, rfl, hb⟩ := psl_addr h (by omega)
        obtain ⟨hc1, hc2⟩ := psl_at hsl hit
        have htB := wB_take hit
        have htA := wA_take hit
        have hpo : PairOk m i ↔ PairOk m i := Iff.rfl
        conv at hpo => rhs; unfold PairOk LexLe
        have hprev : 0 < i → (wr.alloc (.cells #[.int .i64 (m.getD i (0, 0)).1, .int .i64 (m.getD i (0, 0)).2] 62)).cell? ⟨b, o + (i - 1) * 2, none⟩ = some (.int .i64 (m.getD (i - 1) (0, 0)).1) ∧ (wr.alloc (.cells #[.int .i64 (m.getD i (0, 0)).1, .int .i64 (m.getD i (0, 0)).2] 62)).cell? ⟨b, o + (i - 1) * 2 + 1, none⟩ = some (.int .i64 (m.getD (i - 1) (0, 0)).2) := fun h0 => by
          exact psl_at (h.below (hW.alloc hsz _)) (i := i - 1) (by omega)
        obtain ⟨y, hy⟩ : ∃ y, y = (m.getD i (0, 0)).1 := ⟨_, rfl⟩
        obtain ⟨z, hz⟩ : ∃ z, z = (m.getD i (0, 0)).2 := ⟨_, rfl⟩
        obtain ⟨y', hy'⟩ : ∃ y, y = (m.getD (i - 1) (0, 0)).1 := ⟨_, rfl⟩
        obtain ⟨z', hz'⟩ : ∃ z, z = (m.getD (i - 1) (0, 0)).2 := ⟨_, rfl⟩
        rw [← hy] at hc1 htA hprev hpo
        rw [← hz] at hc2 htB hprev hpo
        rw [← hy', ← hz'] at hpo hprev
        have HTB := Lib.hid htB
        have HTA := Lib.hid htA
        have HPO := Lib.hid hpo
        have HPR := Lib.hid hprev
        clear htB htA hpo hprev hy hz hy' hz' hsl
        go_upto_region 7 with fail
        go_cut [73] (fun bv wz => (∃ bad : Bool, bv = .bool bad ∧ (bad = false ↔ PairOk m i)) ∧ ∃ d, wz = (wr.alloc (.cells #[.int .i64 y, .int .i64 z] 62)).drewN d)
        case first =>
          by_cases cd1 : y < 1
          · have d1 : decide (y < 1) = true := decide_eq_true cd1
            have HNO : Hid (¬ PairOk m i) := Lib.hid fun hh => by have h1 := HPO.out.1 hh; unfold Lt at h1; omega
            clear cd1
            go_wp2
            go_quiet (fail)
            go_wp2
            go_meet
            exact ⟨⟨true, rfl, Iff.intro (fun e => absurd e (by decide)) (fun e => absurd e HNO.out)⟩, _, rfl⟩
          · have d1 : decide (y < 1) = false := decide_eq_false cd1
            by_cases cd2 : 99 < y
            · have d2 : decide (99 < y) = true := decide_eq_true cd2
              have HNO : Hid (¬ PairOk m i) := Lib.hid fun hh => by have h1 := HPO.out.1 hh; unfold Lt at h1; omega
              clear cd2
              go_wp2
              go_quiet (fail)
              go_wp2
              go_meet
              exact ⟨⟨true, rfl, Iff.intro (fun e => absurd e (by decide)) (fun e => absurd e HNO.out)⟩, _, rfl⟩
            · have d2 : decide (99 < y) = false := decide_eq_false cd2
              by_cases cd3 : z < 1
              · have d3 : decide (z < 1) = true := decide_eq_true cd3
                have HNO : Hid (¬ PairOk m i) := Lib.hid fun hh => by have h1 := HPO.out.1 hh; unfold Lt at h1; omega
                clear cd3
                go_wp2
                go_quiet (fail)
                go_wp2
                go_meet
                exact ⟨⟨true, rfl, Iff.intro (fun e => absurd e (by decide)) (fun e => absurd e HNO.out)⟩, _, rfl⟩
              · have d3 : decide (z < 1) = false := decide_eq_false cd3
                by_cases cd4 : 99 < z
                · have d4 : decide (99 < z) = true := decide_eq_true cd4
                  have HNO : Hid (¬ PairOk m i) := Lib.hid fun hh => by have h1 := HPO.out.1 hh; unfold Lt at h1; omega
                  clear cd4
                  go_wp2
                  go_quiet (fail)
                  go_wp2
                  go_meet
                  exact ⟨⟨true, rfl, Iff.intro (fun e => absurd e (by decide)) (fun e => absurd e HNO.out)⟩, _, rfl⟩
                · have d4 : decide (99 < z) = false := decide_eq_false cd4
                  have hlt : Lt y ∧ Lt z := by unfold Lt; omega
                  have HLT := Lib.hid hlt
                  clear cd1 cd2 cd3 cd4 hlt
                  by_cases c5 : 0 < i
                  · have d5 : decide ((0 : Int) < (i : Int)) = true := decide_eq_true (by omega)
                    obtain ⟨hp1, hp2⟩ := HPR.out c5
                    by_cases c6 : y < y'
                    · have d6 : decide (y < y') = true := decide_eq_true c6
                      have HNO : Hid (¬ PairOk m i) := Lib.hid fun hh => by have h1 := HPO.out.1 hh; have h2 := h1.2 c5; omega
                      clear c6
                      go_wp2
                      go_quiet (fail)
                      go_wp2
                      go_meet
                      exact ⟨⟨true, rfl, Iff.intro (fun e => absurd e (by decide)) (fun e => absurd e HNO.out)⟩, _, rfl⟩
                    · have d6 : decide (y < y') = false := decide_eq_false c6
                      by_cases c7 : y = y'
                      · subst c7
                        by_cases c8 : z < z'
                        · have d8 : decide (z < z') = true := decide_eq_true c8
                          have HNO : Hid (¬ PairOk m i) := Lib.hid fun hh => by have h1 := HPO.out.1 hh; have h2 := h1.2 c5; omega
                          clear c8
                          go_wp2
                          go_quiet (fail)
                          go_wp2
                          go_meet
                          exact ⟨⟨true, rfl, Iff.intro (fun e => absurd e (by decide)) (fun e => absurd e HNO.out)⟩, _, rfl⟩
                        · have d8 : decide (z < z') = false := decide_eq_false c8
                          have HOK : Hid (PairOk m i) := Lib.hid (HPO.out.2 ⟨HLT.out, fun _ => by omega⟩)
                          clear c8 c6
                          go_wp2
                          go_quiet (fail)
                          go_wp2
                          go_meet
                          exact ⟨⟨false, rfl, Iff.intro (fun _ => HOK.out) (fun _ => rfl)⟩, _, rfl⟩
                      · have d7 : (y == y') = false := by simpa using c7
                        have HOK : Hid (PairOk m i) := Lib.hid (HPO.out.2 ⟨HLT.out, fun _ => by omega⟩)
                        clear c7 c6
                        go_wp2
                        go_quiet (fail)
                        go_wp2
                        go_meet
                        exact ⟨⟨false, rfl, Iff.intro (fun _ => HOK.out) (fun _ => rfl)⟩, _, rfl⟩
                  · have d5 : decide ((0 : Int) < (i : Int)) = false := decide_eq_false (by omega)
                    have HOK : Hid (PairOk m i) := Lib.hid (HPO.out.2 ⟨HLT.out, fun e => absurd e c5⟩)
                    have d5' : decide (0 < i) = false := decide_eq_false c5
                    clear c5
                    go_wp2
                    go_quiet (fail)
                    go_wp2
                    go_meet
                    exact ⟨⟨false, rfl, Iff.intro (fun _ => HOK.out) (fun _ => rfl)⟩, _, rfl⟩
        case rest =>
          obtain ⟨⟨bad, rfl, hbad⟩, d, rfl⟩ := hcut
          cases bad with
          | true =>
            have HNO : Hid (¬ PairOk m i) := Lib.hid fun hh => by have := hbad.2 hh; cases this
            clear hbad
            go_wp2
            go_ret3
            exact ⟨⟨1, none, none, 0, 0, [], [], rfl, SR.nil _ _ _, SR.nil _ _ _, by simp, by simp, fun e => absurd e (by decide), fun hh => absurd (hh.at_ hit) HNO.out⟩, below_drewN (hW.alloc hsz _) d⟩
          | false =>
            have HOK := Lib.hid (hbad.1 rfl)
            clear hbad
            have hp3 := (HP.out.alloc (.cells #[.int .i64 y, .int .i64 z] 62)).drewN d
            have hq1 : ((wr.alloc (.cells #[.int .i64 y, .int .i64 z] 62)).drewN d).cell? ⟨wr.heap.size, 0, none⟩ = some (.int .i64 y) := by
              show (wr.alloc _).cell? _ = _
              rw [World.cell?_alloc_at _ _ _ _ rfl]; rfl
            have hq2 : ((wr.alloc (.cells #[.int .i64 y, .int .i64 z] 62)).drewN d).cell? ⟨wr.heap.size, 1, none⟩ = some (.int .i64 z) := by
              show (wr.alloc _).cell? _ = _
              rw [World.cell?_alloc_at _ _ _ _ rfl]; rfl
            have hzz : ((wr.alloc (.cells #[.int .i64 y, .int .i64 z] 62)).drewN d).heap.size = wr.heap.size + 1 := by simp
            obtain ⟨w3, hw3⟩ : ∃ w3, w3 = (wr.alloc (.cells #[.int .i64 y, .int .i64 z] 62)).drewN d := ⟨_, rfl⟩
            rw [← hw3] at hp3 hq1 hq2 hzz
            rw [← hw3]
            have hbA : some wr.heap.size ≠ u5.ownBlock := fun e => by have := (HP.out.a.lt wr.heap.size e.symm).2; omega
            have hbL : some wr.heap.size ≠ u6.ownBlock := fun e => by have := (HP.out.l.lt wr.heap.size e.symm).2; omega
            have hfA : ∀ k, w3.heap.size ≤ k → some k ≠ u5.ownBlock := fun k hk => hp3.farA hk
            obtain ⟨N, hN⟩ : ∃ N, N = wr.heap.size := ⟨_, rfl⟩
            rw [← hN] at hq1 hq2 hzz hbA hbL ⊢
            have HP3 := Lib.hid hp3
            have HZZ := Lib.hid hzz
            clear hzz hw3 hp3 HP HPR HPO hc1 hc2 hN
            go_upto_region 9 with fail
            go_region_held3 (fun w' => w'.cell? ⟨N, 0, none⟩ = some (.int .i64 y) ∧ w'.cell? ⟨N, 1, none⟩ = some (.int .i64 z))
              (first
              | go_keep
              | (go_split_ands
                 refine ⟨?_, ?_⟩
                 · (rw [World.cell?_of_block (hkA N (by have := HZZ.out; first | omega | (simp; omega)) hbA)]; assumption)
                 · (rw [World.cell?_of_block (hkA N (by have := HZZ.out; first | omega | (simp; omega)) hbA)]; assumption))
              | (go_split_ands
                 refine ⟨?_, ?_⟩
                 · (rw [World.cell?_of_block (hkL N (by have := HZZ.out; first | omega | (simp; omega)) hbL)]; assumption)
                 · (rw [World.cell?_of_block (hkL N (by have := HZZ.out; first | omega | (simp; omega)) hbL)]; assumption)))
              (first
              | ((refine step_appA (B := w.heap.size) (a0 := w) (u := u5) (v := u6) (n := i) (m := i) (xs := List.take i (wB m)) (ys := List.take i (wA m)) ?_ (.tmp 74) (.tmp 77) ?_ ?_ z (w3.heap.size) ?_ ?_ ?_ ?_ ?_
                  · rfl
                  · rfl
                  · rfl
                  · rfl
                  · first | exact (HP3.out.alloc _).drew | exact ((HP3.out.alloc _).alloc _).drew
                  · first | exact heap_alloc_new _ _ | exact lit1 _ _ _ | exact lit2 _ _ _
                  · omega
                  intro gA capA wX HP2 hszA hkA
                  have hszA' : w3.heap.size + 1 ≤ wX.heap.size := Nat.le_trans (by simp; try omega) hszA))
              | ((refine step_appA (B := w.heap.size) (a0 := w) (u := u5) (v := u6) (n := i) (m := i) (xs := List.take i (wB m)) (ys := List.take i (wA m)) ?_ (.tmp 74) (.tmp 77) ?_ ?_ z (w3.heap.size + 1) ?_ ?_ ?_ ?_ ?_
                  · rfl
                  · rfl
                  · rfl
                  · rfl
                  · first | exact (HP3.out.alloc _).drew | exact ((HP3.out.alloc _).alloc _).drew
                  · first | exact heap_alloc_new _ _ | exact lit1 _ _ _ | exact lit2 _ _ _
                  · omega
                  intro gA capA wX HP2 hszA hkA
                  have hszA' : w3.heap.size + 1 ≤ wX.heap.size := Nat.le_trans (by simp; try omega) hszA))
              | ((refine step_appL (B := w.heap.size) (a0 := w) (u := .slice (some ⟨gA, 0, none⟩) (i + 1) capA) (v := u6) (n := i + 1) (m := i) (xs := List.take i (wB m) ++ [z]) (ys := List.take i (wA m)) ?_ (.tmp 79) (.tmp 82) ?_ ?_ y (wX.heap.size) ?_ ?_ ?_ ?_ ?_
                  · rfl
                  · rfl
                  · rfl
                  · rfl
                  · first | exact HP2 | exact HP2.alloc _ | exact (HP2.alloc _).drew
                  · first | exact heap_alloc_new _ _ | exact (hkA _ (lt1 _ _ _) (hfA _ (Nat.le_refl _))).trans (lit1 _ _ _) | exact (hkA _ (lt2 _ _ _) (hfA _ (Nat.le_succ _))).trans (lit2 _ _ _)
                  · omega
                  intro gL capL wL HP3' hszL hkL))
              | ((refine step_appL (B := w.heap.size) (a0 := w) (u := .slice (some ⟨gA, 0, none⟩) (i + 1) capA) (v := u6) (n := i + 1) (m := i) (xs := List.take i (wB m) ++ [z]) (ys := List.take i (wA m)) ?_ (.tmp 79) (.tmp 82) ?_ ?_ y (w3.heap.size) ?_ ?_ ?_ ?_ ?_
                  · rfl
                  · rfl
                  · rfl
                  · rfl
                  · first | exact HP2 | exact HP2.alloc _ | exact (HP2.alloc _).drew
                  · first | exact heap_alloc_new _ _ | exact (hkA _ (lt1 _ _ _) (hfA _ (Nat.le_refl _))).trans (lit1 _ _ _) | exact (hkA _ (lt2 _ _ _) (hfA _ (Nat.le_succ _))).trans (lit2 _ _ _)
                  · omega
                  intro gL capL wL HP3' hszL hkL))
              | ((refine step_appL (B := w.heap.size) (a0 := w) (u := .slice (some ⟨gA, 0, none⟩) (i + 1) capA) (v := u6) (n := i + 1) (m := i) (xs := List.take i (wB m) ++ [z]) (ys := List.take i (wA m)) ?_ (.tmp 79) (.tmp 82) ?_ ?_ y (w3.heap.size + 1) ?_ ?_ ?_ ?_ ?_
                  · rfl
                  · rfl
                  · rfl
                  · rfl
                  · first | exact HP2 | exact HP2.alloc _ | exact (HP2.alloc _).drew
                  · first | exact heap_alloc_new _ _ | exact (hkA _ (lt1 _ _ _) (hfA _ (Nat.le_refl _))).trans (lit1 _ _ _) | exact (hkA _ (lt2 _ _ _) (hfA _ (Nat.le_succ _))).trans (lit2 _ _ _)
                  · omega
                  intro gL capL wL HP3' hszL hkL))
              | fail)
            all_goals
              go_wp2
              go_roundw
              case rel =>
                refine ⟨i + 1, by omega, by go_num, fun k hk => ?_, ?_⟩
                · by_cases e : k = i
                  · rw [e]; exact HOK.out
                  · exact HALL.out k (by omega)
                · rw [← HTB.out, ← HTA.out]; exact HP3'
              case measure => simp [intOf]; omega
      · have di : decide (i < m.length) = false := decide_eq_false hit
        have hie : i = m.length := by omega
        have hok : PairsOk m := pairsOk_of hm40 (fun k hk => HALL.out k (by omega))
        have hp := HP.out
        rw [hie, List.take_of_length_le (by rw [wB_len]; omega), List.take_of_length_le (by rw [wA_len]; omega)] at hp
        obtain ⟨A1, c1, rfl, -, hs1, -, -⟩ := own_sliceA hp.a
        obtain ⟨A2, c2, rfl, -, hs2, -, -⟩ := own_sliceA hp.l
        have hmd := made_any A1 A2 c1 c2 (wB m) (wA m) wr (by rw [wB_len]; exact hm40) (by rw [wB_len, wA_len]) (fun x hx => by obtain ⟨y, hy, rfl⟩ := List.mem_map.1 hx; exact (hok.ok y hy).2) hs1 hs2
        have HOK := Lib.hid hok
        have HMD := Lib.hid hmd
        clear hok hmd hp hs1 hs2 HP HALL hie
        go_wp2_with (first | (go_at_call 62; refine HMD.out.mono ?_) | fail)
        rintro e w3 ⟨⟨v, hs, u, us, rfl, hm, hq, _⟩, hb3⟩
        obtain ⟨A3, c3, rfl, hs3, hl3, hl3'⟩ := hm.sr
        obtain ⟨A4, c4, rfl, hs4, hl4, hl4'⟩ := hq.sr
        rw [wB_len] at hs4 hl4
        rw [wB_len]
        have HS3 := Lib.hid hs3
        have HS4 := Lib.hid hs4
        have hW3 := below_call hW (Nat.le_refl _) hb3
        clear hs3 hs4 hm hq hb3 HMD
        go_wp2
        go_ret3
        exact ⟨⟨0, A3, A4, c3, c4, _, _, rfl, HS3.out, HS4.out, by omega, by omega, fun _ => ⟨HOK.out, rfl, rfl⟩, fun _ => rfl⟩, hW3⟩
end Go.Proofs.Ytmlmdklheiafpaa
