/-
  Plain lists: Bruhat's order by ranks: an order; what is below has no more inversions; so it is with inverses.
-/
import Derived.Test.YtpmkdihencepnaaGreatMg04
import Derived.Test.YtpmkdihencepnaaGreatMg05
namespace Go.Proofs.YtpmkdihencepnaaGreat

/-- How many of the first i are at least k. -/
def rk (p : List Int) (i : Nat) (k : Int) : Nat := (p.take i).countP (fun x => decide (k ≤ x))

/-- a below b, as the code asks it. -/
def LeB (a b : List Int) : Prop := ∀ i, i < a.length → ∀ k : Int, 1 ≤ k → k ≤ a.length → rk a (i + 1) k ≤ rk b (i + 1) k

theorem rk_low {p : List Int} (hp : IsPerm p) {i : Nat} (hi : i ≤ p.length) {k : Int} (hk : k ≤ 1) : rk p i k = i := by
  unfold rk
  have : (p.take i).countP (fun x => decide (k ≤ x)) = (p.take i).length := by
    rw [List.countP_eq_length]
    intro x hx
    have := (hp.2 x (List.mem_of_mem_take hx)).1
    simp; omega
  rw [this, List.length_take]; omega

theorem rk_high {p : List Int} (hp : IsPerm p) (i : Nat) {k : Int} (hk : (p.length : Int) < k) : rk p i k = 0 := by
  unfold rk
  rw [List.countP_eq_zero]
  intro x hx
  have := (hp.2 x (List.mem_of_mem_take hx)).2
  simp; omega

/-- .. and at all numbers. -/
theorem LeB.all {a b : List Int} (ha : IsPerm a) (hb : IsPerm b) (hl : a.length = b.length) (h : LeB a b) (i : Nat) (hi : i ≤ a.length) (k : Int) : rk a i k ≤ rk b i k := by
  cases i with
  | zero => simp [rk]
  | succ i =>
    by_cases h1 : k ≤ 1
    · rw [rk_low ha hi h1, rk_low hb (by omega) h1]; exact Nat.le_refl _
    · by_cases h2 : k ≤ a.length
      · exact h i (by omega) k (by omega) h2
      · rw [rk_high ha _ (by omega), rk_high hb _ (by omega)]; exact Nat.le_refl _

theorem LeB.refl (a : List Int) : LeB a a := fun _ _ _ _ _ => Nat.le_refl _
theorem LeB.trans {a b c : List Int} (hl : a.length = b.length) (h : LeB a b) (h' : LeB b c) : LeB a c :=
  fun i hi k h1 h2 => Nat.le_trans (h i hi k h1 h2) (h' i (by omega) k h1 (by omega))

/-- Two lists of one length that are not the same part somewhere. -/
theorem first_parting : ∀ (a b : List Int), a.length = b.length → a ≠ b → ∃ l u ra v rb, a = l ++ u :: ra ∧ b = l ++ v :: rb ∧ u ≠ v
  | [], [], _, h => absurd rfl h
  | x :: a, y :: b, hl, h => by
    by_cases e : x = y
    · subst e
      obtain ⟨l, u, ra, v, rb, h1, h2, h3⟩ := first_parting a b (by simpa using hl) (fun e => h (by rw [e]))
      exact ⟨x :: l, u, ra, v, rb, by rw [h1]; rfl, by rw [h2]; rfl, h3⟩
    · exact ⟨[], x, a, y, b, rfl, rfl, e⟩
  | [], _ :: _, hl, _ => by simp at hl
  | _ :: _, [], hl, _ => by simp at hl

/-- The first one of its kind. -/
theorem first_one (p : Int → Prop) [DecidablePred p] : ∀ (l : List Int), (∃ x ∈ l, p x) → ∃ m w r, l = m ++ w :: r ∧ p w ∧ ∀ x ∈ m, ¬ p x
  | [], h => by obtain ⟨x, hx, _⟩ := h; cases hx
  | y :: l, h => by
    by_cases hy : p y
    · exact ⟨[], y, l, rfl, hy, by simp⟩
    · obtain ⟨m, w, r, h1, h2, h3⟩ := first_one p l (by
        obtain ⟨x, hx, hp⟩ := h
        rcases List.mem_cons.1 hx with rfl | hx
        · exact absurd hp hy
        · exact ⟨x, hx, hp⟩)
      refine ⟨y :: m, w, r, by rw [h1]; rfl, h2, fun x hx => ?_⟩
      rcases List.mem_cons.1 hx with rfl | hx
      · exact hy
      · exact h3 x hx

theorem IsPerm.mem {q : List Int} (hq : IsPerm q) {x : Int} (h1 : 1 ≤ x) (h2 : x ≤ q.length) : x ∈ q := by
  apply Classical.byContradiction
  intro hno
  have hnd : (x :: q).Nodup := List.nodup_cons.2 ⟨hno, hq.1⟩
  have := nodup_bound (n := q.length) hnd (fun y hy => by
    rcases List.mem_cons.1 hy with rfl | hy
    · exact ⟨h1, h2⟩
    · exact hq.2 y hy)
  simp at this
  omega

theorem IsPerm.of_perm {a b : List Int} (h : a.Perm b) (hb : IsPerm b) : IsPerm a :=
  ⟨h.symm.nodup hb.1, fun x hx => by rw [h.length_eq]; exact hb.2 x (h.mem_iff.1 hx)⟩

/-- Two that stand in order change places: more inversions. -/
theorem inv_swap (l m r : List Int) {u v : Int} (h : u < v) : inv (l ++ u :: (m ++ v :: r)) < inv (l ++ v :: (m ++ u :: r)) := by
  have e1 : l ++ u :: (m ++ v :: r) = l ++ (([u] ++ m ++ [v]) ++ r) := by simp
  have e2 : l ++ v :: (m ++ u :: r) = l ++ (([v] ++ m ++ [u]) ++ r) := by simp
  have hp : ([u] ++ m ++ [v]).Perm ([v] ++ m ++ [u]) := by
    refine (List.perm_append_comm).trans ?_
    simp only [List.append_assoc]
    refine List.Perm.append_left [v] ?_
    exact List.perm_append_comm
  have c1 := cross_perm (List.Perm.refl l) (hp.append_right r)
  have c2 := cross_perm hp (List.Perm.refl r)
  have i1 : inv ([u] ++ m ++ [v]) = inv m + cross [u] m + over ([u] ++ m) v := by rw [inv_snoc, inv_append, inv_one]; omega
  have i2 : inv ([v] ++ m ++ [u]) = inv m + cross [v] m + over ([v] ++ m) u := by rw [inv_snoc, inv_append, inv_one]; omega
  have o1 : over ([u] ++ m) v = over m v := by
    rw [over_append]
    have : over [u] v = 0 := over_none (by simp; omega)
    omega
  have o2 : over ([v] ++ m) u = over m u + 1 := by
    rw [over_append]
    have : over [v] u = 1 := by rw [over_all (by simpa using h)]; rfl
    omega
  have m1 : cross [u] m ≤ cross [v] m := by
    rw [cross_one, cross_one]
    exact List.countP_mono_left (fun x _ hx => by simp at hx ⊢; omega)
  have m2 : over m v ≤ over m u := List.countP_mono_left (fun x _ hx => by simp at hx ⊢; omega)
  rw [e1, e2, inv_append l, inv_append l, inv_append _ r, inv_append _ r, c1, c2, i1, i2, o1, o2]
  omega

/-- What is below, and not the same, has something between that differs by two places and has more inversions. -/
theorem LeB.step {a b : List Int} (ha : IsPerm a) (hb : IsPerm b) (hl : a.length = b.length) (h : LeB a b) (hne : a ≠ b) :
    ∃ c, IsPerm c ∧ c.length = a.length ∧ LeB c b ∧ inv a < inv c := by
  obtain ⟨l, u, ra, v, rb, rfl, rfl, huv⟩ := first_parting a b hl hne
  have hall := h.all ha hb hl
  have hrl : ra.length = rb.length := by simpa using hl
  have cnt1 : ∀ (k x : Int), [x].countP (fun x => decide (k ≤ x)) = if k ≤ x then 1 else 0 := by
    intro k x; by_cases hk : k ≤ x <;> simp [hk]
  -- the ranks ahead of, at, and behind the place
  have rkat : ∀ (x : Int) (r : List Int) (j : Nat) (k : Int), rk (l ++ x :: r) (l.length + 1 + j) k = l.countP (fun x => decide (k ≤ x)) + (if k ≤ x then 1 else 0) + (r.take j).countP (fun x => decide (k ≤ x)) := by
    intro x r j k
    have e : (l ++ x :: r).take (l.length + 1 + j) = l ++ ([x] ++ r.take j) := by
      rw [List.take_append, List.take_of_length_le (show l.length ≤ l.length + 1 + j by omega), show l.length + 1 + j - l.length = j + 1 by omega]
      rfl
    unfold rk
    rw [e, List.countP_append, List.countP_append, cnt1]; omega
  have hlt : u < v := by
    have := hall (l.length + 1 + 0) (by simp) u
    rw [rkat, rkat, if_pos (by omega)] at this
    simp at this
    by_cases hv : u ≤ v
    · omega
    · rw [if_neg hv] at this; omega
  have hvra : v ∈ ra := by
    have h1 := hb.2 v (by simp)
    have h2 := ha.mem (x := v) h1.1 (by rw [hl]; exact h1.2)
    have h3 : v ∉ l := by
      have := hb.1
      rw [List.nodup_append] at this
      intro hv; exact this.2.2 v hv v (by simp) rfl
    rcases List.mem_append.1 h2 with h2 | h2
    · exact absurd h2 h3
    · rcases List.mem_cons.1 h2 with h2 | h2
      · omega
      · exact h2
  obtain ⟨m, w, r, rfl, hw, hm⟩ := first_one (fun x => u < x ∧ x ≤ v) ra ⟨v, hvra, hlt, Int.le_refl _⟩
  have hperm : (l ++ w :: (m ++ u :: r)).Perm (l ++ u :: (m ++ w :: r)) := by
    refine List.Perm.append_left l ?_
    have e1 : w :: (m ++ u :: r) = ([w] ++ m ++ [u]) ++ r := by simp
    have e2 : u :: (m ++ w :: r) = ([u] ++ m ++ [w]) ++ r := by simp
    rw [e1, e2]
    refine List.Perm.append_right r ?_
    refine (List.perm_append_comm).trans ?_
    simp only [List.append_assoc]
    exact List.Perm.append_left [u] List.perm_append_comm
  refine ⟨l ++ w :: (m ++ u :: r), IsPerm.of_perm hperm ha, hperm.length_eq, ?_, inv_swap l m r hw.1⟩
  intro i0 hi0 k _ _
  rw [hperm.length_eq] at hi0
  have hAB := hall (i0 + 1) (by omega)
  generalize hi : i0 + 1 = i at hAB
  by_cases c1 : i ≤ l.length
  · -- ahead of both places
    have e : ∀ (x : Int) (s : List Int), rk (l ++ x :: s) i k = (l.take i).countP (fun x => decide (k ≤ x)) := by
      intro x s; unfold rk; rw [List.take_append_of_le_length c1]
    rw [e, e]; exact Nat.le_refl _
  · obtain ⟨j, rfl⟩ : ∃ j, i = l.length + 1 + j := ⟨i - l.length - 1, by omega⟩
    by_cases c2 : j ≤ m.length
    · -- between
      have em : ∀ (x : Int), (m ++ x :: r).take j = m.take j := fun x => List.take_append_of_le_length c2
      rw [rkat, rkat, em]
      by_cases hk : u < k ∧ k ≤ w
      · rw [if_pos hk.2, if_pos (by omega)]
        have h1 := hAB (v + 1)
        rw [rkat, rkat, if_neg (by omega), if_neg (by omega), em] at h1
        have h2 : (m.take j).countP (fun x => decide (k ≤ x)) = (m.take j).countP (fun x => decide (v + 1 ≤ x)) := by
          refine List.countP_congr (fun x hx => ?_)
          have := hm x (List.mem_of_mem_take hx)
          simp only [decide_eq_true_eq]
          omega
        have h3 : (rb.take j).countP (fun x => decide (v + 1 ≤ x)) ≤ (rb.take j).countP (fun x => decide (k ≤ x)) :=
          List.countP_mono_left (fun x _ hx => by simp at hx ⊢; omega)
        rw [h2]
        omega
      · have h1 := hAB k
        rw [rkat, rkat, em] at h1
        have : (if k ≤ w then 1 else 0 : Nat) = if k ≤ u then 1 else 0 := by
          by_cases hku : k ≤ u
          · rw [if_pos hku, if_pos (by omega)]
          · rw [if_neg hku, if_neg (by omega)]
        rw [this]
        exact h1
    · -- behind both
      have h1 := hAB k
      obtain ⟨q, rfl⟩ : ∃ q, j = m.length + 1 + q := ⟨j - m.length - 1, by omega⟩
      have em : ∀ (x : Int), ((m ++ x :: r).take (m.length + 1 + q)).countP (fun x => decide (k ≤ x)) = m.countP (fun x => decide (k ≤ x)) + (if k ≤ x then 1 else 0) + (r.take q).countP (fun x => decide (k ≤ x)) := by
        intro x
        have e : (m ++ x :: r).take (m.length + 1 + q) = m ++ ([x] ++ r.take q) := by
          rw [List.take_append, List.take_of_length_le (show m.length ≤ m.length + 1 + q by omega), show m.length + 1 + q - m.length = q + 1 by omega]
          rfl
        rw [e, List.countP_append, List.countP_append, cnt1]; omega
      rw [rkat, rkat, em] at h1
      rw [rkat, rkat, em]
      omega

/-! Inverses. -/

end Go.Proofs.YtpmkdihencepnaaGreat

/-
  Plain lists: Bruhat's order by ranks: an order; what is below has no more inversions; so it is with inverses.
-/
namespace Go.Proofs.YtpmkdihencepnaaGreat

theorem inv_bound (a : List Int) : inv a ≤ a.length * a.length := by
  have key : ∀ i, i ≤ a.length → wrongTo a i ≤ i * a.length := by
    intro i
    induction i with
    | zero => intro _; simp [wrongTo]
    | succ i ih =>
      intro h
      have h1 := ih (by omega)
      have h2 : overAt a i i ≤ i := by
        have := List.countP_le_length (p := fun x => decide (a.getD i 0 < x)) (l := a.take i)
        rw [List.length_take] at this
        unfold overAt; omega
      rw [wrongTo, Nat.add_mul]; omega
  exact key a.length (Nat.le_refl _)

/-! Inverses. -/

/-- x is p's inverse. -/
def IsInv (p x : List Int) : Prop := x.length = p.length ∧ ∀ k, k < p.length → at1 x (p.getD k 0) = (k : Int) + 1

theorem IsPerm.perm_upTo {p : List Int} (hp : IsPerm p) : p.Perm (upTo p.length) := by
  rw [List.perm_ext_iff_of_nodup hp.1 (nodup_upTo _)]
  intro x
  rw [mem_upTo]
  exact ⟨fun h => hp.2 x h, fun h => hp.mem h.1 h.2⟩

theorem at1_list {x : List Int} : (upTo x.length).map (at1 x) = x := by
  apply List.ext_getElem (by simp [upTo])
  intro i h1 h2
  simp only [upTo, List.getElem_map, List.getElem_range]
  exact at1_get h2

end Go.Proofs.YtpmkdihencepnaaGreat

/-
  perms.pair, perms.Inverse, perms.Below: what they answer.
-/
namespace Go.Proofs.YtpmkdihencepnaaGreat
open Go.RowKit

def pairChk (p q : List Int) : Int := if permChk p ≠ 0 then permChk p else if permChk q ≠ 0 then permChk q else if p.length = q.length then 0 else 3

theorem permChk_zero {xs : List Int} (h : permChk xs = 0) : xs.length ≤ 40 ∧ IsPerm xs := by
  unfold permChk at h
  split at h
  · cases h
  · split at h
    · exact ⟨by omega, by assumption⟩
    · cases h
theorem pairChk_zero {p q : List Int} : pairChk p q = 0 ↔ permChk p = 0 ∧ permChk q = 0 ∧ p.length = q.length := by
  unfold pairChk
  by_cases h1 : permChk p = 0
  · by_cases h2 : permChk q = 0
    · by_cases h3 : p.length = q.length <;> simp [h1, h2, h3]
    · simp [h1, h2]
  · simp [h1]

set_option maxHeartbeats 800000 in
theorem pair_any (A A' : Option Addr) (cap cap' : Nat) (p q : List Int) (w : World) (hp : p.length ≤ 9223372036854775807) (hq : q.length ≤ 9223372036854775807)
    (h : Sl w w.heap.size A (ints p)) (h' : Sl w w.heap.size A' (ints q)) :
    Calls Tryz.prog 49 #[.slice A p.length cap, .slice A' q.length cap'] w fun e w' => e = .returned (.int .i64 (pairChk p q)) ∧ Below w.heap.size w w' := by
  obtain ⟨a, ha⟩ : ∃ a, a = permChk p := ⟨_, rfl⟩
  obtain ⟨b, hb⟩ : ∃ b, b = permChk q := ⟨_, rfl⟩
  have HA := Lib.hid ha
  have HB := Lib.hid hb
  clear ha hb
  go_enter Tryz.func49, Tryz.ntmps49
  go_wp2_with fail
  refine (check_any _ _ _ _ hp h).mono ?_
  rintro e w1 ⟨rfl, hb1⟩
  rw [← HA.out]
  go_wp2_with fail
  refine (check_any _ _ _ _ hq (h'.keep hb1)).mono ?_
  rintro e w2 ⟨rfl, hb2⟩
  rw [← HB.out]
  have hW2 : Below w.heap.size w w2 := below_call hb1 (Nat.le_refl _) hb2
  clear hb1 hb2
  by_cases h1 : a = 0
  · have hd1 : (a != 0) = false := by simpa using h1
    have H1 := Lib.hid h1
    clear h1
    by_cases h2 : b = 0
    · have hd2 : (b != 0) = false := by simpa using h2
      have H2 := Lib.hid h2
      clear h2
      by_cases h3 : p.length = q.length
      · have hd3 : (((p.length : Nat) : Int) != ((q.length : Nat) : Int)) = false := by simp [h3]
        have hfin : Hid (pairChk p q = 0) := pairChk_zero.2 ⟨by rw [← HA.out]; exact H1.out, by rw [← HB.out]; exact H2.out, h3⟩
        clear h3
        go_wp2
        go_ret
        exact ⟨by rw [hfin.out]; rfl, hW2⟩
      · have hd3 : (((p.length : Nat) : Int) != ((q.length : Nat) : Int)) = true := by simp; omega
        have hfin : Hid (pairChk p q = 3) := by
          show _ = _
          unfold pairChk
          rw [if_neg (by rw [← HA.out]; simpa using H1.out), if_neg (by rw [← HB.out]; simpa using H2.out), if_neg h3]
        clear h3
        go_wp2
        go_ret
        exact ⟨by rw [hfin.out]; rfl, hW2⟩
    · have hd2 : (b != 0) = true := by simpa using h2
      have hfin : Hid (pairChk p q = b) := by
        show _ = _
        unfold pairChk
        rw [if_neg (by rw [← HA.out]; simpa using H1.out), if_pos (by rw [← HB.out]; exact h2), HB.out]
      clear h2
      go_wp2
      go_ret
      exact ⟨by rw [hfin.out]; rfl, hW2⟩
  · have hd1 : (a != 0) = true := by simpa using h1
    have hfin : Hid (pairChk p q = a) := by
      show _ = _
      unfold pairChk
      rw [if_pos (by rw [← HA.out]; exact h1), HA.out]
    clear h1
    go_wp2
    go_ret
    exact ⟨by rw [hfin.out]; rfl, hW2⟩

theorem inv_step {p zs : List Int} (hp : IsPerm p) (hz : zs.length = p.length) {k : Nat} (hk : k < p.length) (hd : ∀ j, j < k → at1 zs (p.getD j 0) = (j : Int) + 1) :
    ∀ j, j < k + 1 → at1 (zs.set ((p.getD k 0).toNat - 1) ((k : Int) + 1)) (p.getD j 0) = (j : Int) + 1 := by
  intro j hj
  have hrj := hp.getD_range (show j < p.length by omega)
  have hrk := hp.getD_range hk
  have hl1 : (p.getD j 0 - 1).toNat < (zs.set ((p.getD k 0).toNat - 1) ((k : Int) + 1)).length := by simp only [List.length_set]; omega
  unfold at1
  rw [getD_get hl1, List.getElem_set]
  by_cases he : j = k
  · subst he
    rw [if_pos (by omega)]
  · have hne : p.getD j 0 ≠ p.getD k 0 := fun e => he (hp.getD_inj (by omega) hk e)
    rw [if_neg (by omega)]
    have := hd j (by omega)
    unfold at1 at this
    rw [getD_get (by omega)] at this
    exact this

set_option maxHeartbeats 1000000 in
theorem inverse_ok (A : Option Addr) (cap : Nat) (p : List Int) (w : World) (hn : p.length ≤ 40) (hp : IsPerm p) (h : Sl w w.heap.size A (ints p)) :
    Calls Tryz.prog 12 #[.slice A p.length cap] w fun e w' => Tol (IsInv p) w.heap.size e w' ∧ Below w.heap.size w w' := by
  have hk : Hid (permChk p = 0) := permChk_ok (by omega) hp
  have HP := Lib.hid hp
  clear hp
  go_enter Tryz.func12, Tryz.ntmps12
  go_wp2_with fail
  refine (check_any _ _ _ _ (by omega) h).mono ?_
  rintro e w1 ⟨rfl, hb1⟩
  rw [hk.out]
  have h1 := (h.below hb1)
  go_wp2_with (at_make; refine wpList_mk rfl (.tmp 14) (.tmp 14) rfl p.length rfl rfl (by omega) (Nat.le_refl _) (fun w2 hown2 hb2 hz2 => ?_))
  have HO2 := Lib.hid hown2
  clear hown2
  go_loopw [18] (fun iv wr => ∃ (i : Nat) (ys : List Int), i ≤ p.length ∧ iv = .int .i64 i ∧ ys.length = p.length ∧ wr.ownsRow w1.heap.size 3 1 (.slice (some ⟨w1.heap.size, 0, none⟩) p.length p.length) p.length (ints ys) ∧ Below w1.heap.size w1 wr ∧
      (∀ k, k < i → at1 ys (p.getD k 0) = (k : Int) + 1)) (fun iv _ => p.length - (intOf iv).toNat)
  case atStart => exact ⟨0, _, by omega, rfl, by simp, HO2.out, hb2, fun k hk => by omega⟩
  case round =>
    obtain ⟨i, ys, hi, rfl, hyl, hown, hbl, hdone⟩ := hrel
    have HO := Lib.hid hown
    have HD := Lib.hid hdone
    have HY := Lib.hid hyl
    clear hown hdone hyl
    by_cases hlt : i < p.length
    · obtain ⟨b, o, rfl, hb⟩ := h1.addr (by omega)
      have hcx := getD_cell (h1.below (hbl.mono hb1.size)) hlt
      have hr := HP.out.getD_range hlt
      obtain ⟨x, hx⟩ : ∃ x, x = p.getD i 0 := ⟨_, rfl⟩
      rw [← hx] at hcx hr
      have HX := Lib.hid hx
      clear hx
      have hox := HO.out.cellAt (x.toNat - 1) (by have := HY.out; omega)
      rw [ints_get (by have := HY.out; omega)] at hox
      have hfx := HO.out.frozenAt (x.toNat - 1)
      go_wp2
      go_roundw
      case rel =>
        refine ⟨i + 1, ys.set (x.toNat - 1) ((i : Int) + 1), by omega, by go_num, by simp [HY.out], own_set HO.out _ _, hbl.setCell (by exact Nat.le_refl _) _, ?_⟩
        rw [HX.out]
        exact inv_step HP.out HY.out hlt HD.out
      case measure => simp [intOf]; omega
    · obtain rfl : i = p.length := by omega
      go_wp2
      go_ret2
      exact ⟨tol_own (HO.out.mono hb1.size) 0 ⟨HY.out, HD.out⟩, hb1.trans (hbl.mono hb1.size)⟩

set_option maxHeartbeats 400000 in
theorem inverse_err (A : Option Addr) (cap : Nat) (xs : List Int) (w : World) (hcl : xs.length ≤ 9223372036854775807) (hp : permChk xs ≠ 0) (h : Sl w w.heap.size A (ints xs)) :
    Calls Tryz.prog 12 #[.slice A xs.length cap] w fun e w' => e = .returned (.tuple #[.slice none 0 0, .int .i64 (permChk xs)]) ∧ Below w.heap.size w w' := by
  obtain ⟨c, hc⟩ : ∃ c, c = permChk xs := ⟨_, rfl⟩
  have hd : (c != 0) = true := by rw [hc]; simpa using hp
  have HC := Lib.hid hc
  clear hc hp
  go_enter Tryz.func12, Tryz.ntmps12
  go_wp2_with fail
  refine (check_any _ _ _ _ hcl h).mono ?_
  rintro e w1 ⟨rfl, hb1⟩
  rw [← HC.out]
  go_wp2
  go_ret2
  exact ⟨by rw [← HC.out]; rfl, hb1⟩

def dif (p q : List Int) (i k : Nat) : Int := (rk q i k : Int) - rk p i k
end Go.Proofs.YtpmkdihencepnaaGreat

/-
  perms.Below: what it answers.
-/
namespace Go.Proofs.YtpmkdihencepnaaGreat
open Go.RowKit

theorem dif_neg {p q : List Int} {i k : Nat} (hi : i < p.length) (h1 : 1 ≤ k) (h2 : k ≤ p.length) (h : dif p q (i + 1) k < 0) : ¬ LeB p q := fun hl => by
  have := hl i hi (k : Int) (by omega) (by omega)
  unfold dif at h
  omega

end Go.Proofs.YtpmkdihencepnaaGreat

/-
  perms.Code, perms.Measure: what they answer.
-/
namespace Go.Proofs.YtpmkdihencepnaaGreat
open Go.RowKit

def cntTo (p : List Int) (i k : Nat) : Nat := ((p.drop (i + 1)).take k).countP (fun m => decide (m < p.getD i 0))
def codeAt (p : List Int) (i : Nat) : Nat := (p.drop (i + 1)).countP (fun m => decide (m < p.getD i 0))
def codeOf (p : List Int) : List Int := (List.range p.length).map (fun i => (codeAt p i : Int))
def ctab (p : List Int) (i : Nat) (c : Int) : List Int := (List.range p.length).map (fun j => if j < i then (codeAt p j : Int) else if j = i then c else 0)

theorem codeOf_length (p : List Int) : (codeOf p).length = p.length := by simp [codeOf]
theorem ctab_at {p : List Int} {i : Nat} (c : Int) (h : i < p.length) : (ctab p i c)[i]? = some c := by simp [ctab, h]
theorem ctab_set (p : List Int) (i : Nat) (c c' : Int) : (ctab p i c).set i c' = ctab p i c' := by
  apply List.ext_getElem?
  intro j
  rw [List.getElem?_set]
  by_cases e : i = j
  · subst e
    simp only [ctab, List.length_map, List.length_range, if_true, List.getElem?_map]
    split <;> simp [*]
  · rw [if_neg e]
    have e' : ¬ j = i := fun h => e h.symm
    by_cases h : j < p.length <;> simp [ctab, h, e']
theorem ctab_zero (p : List Int) : ctab p 0 0 = List.replicate p.length 0 := by
  apply List.ext_getElem?
  intro j
  by_cases h : j < p.length <;> simp [ctab, h]
theorem ctab_next (p : List Int) (i : Nat) : ctab p i (codeAt p i) = ctab p (i + 1) 0 := by
  unfold ctab
  apply List.map_congr_left
  intro j hj
  by_cases h1 : j < i
  · rw [if_pos h1, if_pos (by omega)]
  · by_cases h2 : j = i
    · subst h2; simp
    · rw [if_neg h1, if_neg h2, if_neg (by omega)]; split <;> rfl
theorem ctab_all (p : List Int) : ctab p p.length 0 = codeOf p := by
  unfold ctab codeOf
  apply List.map_congr_left
  intro j hj
  rw [if_pos (List.mem_range.1 hj)]
theorem cntTo_succ {p : List Int} {i k : Nat} (h : i + 1 + k < p.length) : cntTo p i (k + 1) = cntTo p i k + if p.getD (i + 1 + k) 0 < p.getD i 0 then 1 else 0 := by
  unfold cntTo
  rw [take_snoc (show k < (p.drop (i + 1)).length by rw [List.length_drop]; omega), List.countP_append, List.getElem_drop, getD_get h]
  simp
theorem cntTo_all (p : List Int) (i : Nat) : cntTo p i (p.length - (i + 1)) = codeAt p i := by
  unfold cntTo codeAt
  rw [List.take_of_length_le (by simp)]
theorem cntTo_le (p : List Int) (i k : Nat) : cntTo p i k ≤ k := by
  have := List.countP_le_length (p := fun m => decide (m < p.getD i 0)) (l := (p.drop (i + 1)).take k)
  rw [List.length_take] at this
  unfold cntTo; omega

set_option maxHeartbeats 400000 in
theorem code_err (A : Option Addr) (cap : Nat) (xs : List Int) (w : World) (hcl : xs.length ≤ 9223372036854775807) (hp : permChk xs ≠ 0) (h : Sl w w.heap.size A (ints xs)) :
    Calls Tryz.prog 13 #[.slice A xs.length cap] w fun e w' => e = .returned (.tuple #[.slice none 0 0, .int .i64 (permChk xs)]) ∧ Below w.heap.size w w' := by
  obtain ⟨c, hc⟩ : ∃ c, c = permChk xs := ⟨_, rfl⟩
  have hd : (c != 0) = true := by rw [hc]; simpa using hp
  have HC := Lib.hid hc
  clear hc hp
  go_enter Tryz.func13, Tryz.ntmps13
  go_wp2_with fail
  refine (check_any _ _ _ _ hcl h).mono ?_
  rintro e w1 ⟨rfl, hb1⟩
  rw [← HC.out]
  go_wp2
  go_ret2
  exact ⟨by rw [← HC.out]; rfl, hb1⟩

set_option maxHeartbeats 1000000 in
theorem code_ok (A : Option Addr) (cap : Nat) (p : List Int) (w : World) (hcap : p.length ≤ cap) (hn : p.length ≤ 40) (hp : permChk p = 0) (h : Sl w w.heap.size A (ints p)) :
    Calls Tryz.prog 13 #[.slice A p.length cap] w fun e w' => ∃ A' c', e = .returned (.tuple #[.slice A' (codeOf p).length c', .int .i64 0]) ∧ w'.ownsRow w.heap.size 3 1 (.slice A' (codeOf p).length c') (codeOf p).length (ints (codeOf p)) ∧ (codeOf p).length ≤ c' ∧ Below w.heap.size w w' := by
  have hk := Lib.hid hp
  clear hp
  go_enter Tryz.func13, Tryz.ntmps13
  go_wp2_with fail
  refine (check_any _ _ _ _ (by omega) h).mono ?_
  rintro e w1 ⟨rfl, hb1⟩
  rw [hk.out]
  have h1 := (h.below hb1)
  go_wp2_with (at_make; refine wpList_mk rfl (.tmp 16) (.tmp 16) rfl p.length rfl rfl (by omega) (Nat.le_refl _) (fun w2 hown2 hb2 hz2 => ?_))
  have HO2 := Lib.hid hown2
  clear hown2
  go_loopw [20] (fun iv wr => ∃ (i : Nat), i ≤ p.length ∧ iv = .int .i64 i ∧ wr.ownsRow w1.heap.size 3 1 (.slice (some ⟨w1.heap.size, 0, none⟩) p.length p.length) p.length (ints (ctab p i 0)) ∧ Below w1.heap.size w1 wr) (fun iv _ => p.length - (intOf iv).toNat)
  case atStart => exact ⟨0, by omega, rfl, by rw [ctab_zero]; exact HO2.out, hb2⟩
  case round =>
    obtain ⟨i, hi, rfl, hown, hbl⟩ := hrel
    have HO := Lib.hid hown
    clear hown
    by_cases hlt : i < p.length
    · obtain ⟨b, o, rfl, hb⟩ := h1.addr (by omega)
      have hcx := getD_cell (h1.below (hbl.mono hb1.size)) hlt
      obtain ⟨x, hx⟩ : ∃ x, x = p.getD i 0 := ⟨_, rfl⟩
      rw [← hx] at hcx
      have HX := Lib.hid hx
      clear hx
      have hnx : Hid (ctab p i (codeAt p i) = ctab p (i + 1) 0) := ctab_next p i
      by_cases hce : cap = i + 1
      · obtain rfl : i = p.length - 1 := by omega
        have hca : Hid (codeAt p (p.length - 1) = 0) := by show _ = _; unfold codeAt; rw [List.drop_of_length_le (by omega)]; rfl
        go_wp2
        go_loopw [30] (fun kv wk => kv = .int .i64 0 ∧ wk.ownsRow w1.heap.size 3 1 (.slice (some ⟨w1.heap.size, 0, none⟩) p.length p.length) p.length (ints (ctab p (p.length - 1) 0)) ∧ Below w1.heap.size w1 wk) (fun kv _ => 0)
        case atStart => exact ⟨rfl, HO.out, hbl⟩
        case round =>
          obtain ⟨rfl, hown, hbk⟩ := hrel
          have HO' := Lib.hid hown
          clear hown
          go_wp2
          go_roundw
          case rel =>
            refine ⟨p.length - 1 + 1, by omega, by go_num, ?_, hbk⟩
            rw [← hnx.out, hca.out]; exact HO'.out
          case measure => simp [intOf]; omega
      · go_wp2
        go_loopw [30] (fun kv wk => ∃ (k : Nat), k ≤ p.length - (i + 1) ∧ kv = .int .i64 k ∧ wk.ownsRow w1.heap.size 3 1 (.slice (some ⟨w1.heap.size, 0, none⟩) p.length p.length) p.length (ints (ctab p i (cntTo p i k))) ∧ Below w1.heap.size w1 wk) (fun kv _ => p.length - (i + 1) - (intOf kv).toNat)
        case atStart => exact ⟨0, by omega, rfl, HO.out, hbl⟩
        case round =>
          obtain ⟨k, hk', rfl, hown, hbk⟩ := hrel
          have HO' := Lib.hid hown
          clear hown
          by_cases hkl : k < p.length - (i + 1)
          · have hcy := getD_cell (h1.below (hbk.mono hb1.size)) (show i + 1 + k < p.length by omega)
            have hcs := cntTo_succ (p := p) (i := i) (k := k) (by omega)
            have hcl := cntTo_le p i k
            obtain ⟨y, hy⟩ : ∃ x, x = p.getD (i + 1 + k) 0 := ⟨_, rfl⟩
            rw [← hy, ← Nat.add_assoc] at hcy
            rw [← hy, ← HX.out] at hcs
            obtain ⟨c, hc⟩ : ∃ c, c = cntTo p i k := ⟨_, rfl⟩
            rw [← hc] at hcl hcs
            have hoc := own_get HO'.out (ctab_at (cntTo p i k) hlt)
            rw [← hc] at hoc
            have hfr := HO'.out.frozenAt i
            rw [← hc] at HO'
            have HCC := Lib.hid hc
            clear hc hy
            by_cases hyx : y < x
            · rw [if_pos hyx] at hcs
              have HCS := Lib.hid hcs
              clear hcs
              have hst := own_set HO'.out i ((c : Int) + 1)
              rw [ctab_set] at hst
              have HST := Lib.hid hst
              clear hst
              go_wp2
              go_roundw
              case rel =>
                refine ⟨k + 1, by omega, by go_num, ?_, hbk.setCell (by exact Nat.le_refl _) _⟩
                rw [HCS.out]; exact HST.out
              case measure => simp [intOf]; omega
            · rw [if_neg hyx] at hcs
              have HCS := Lib.hid hcs
              clear hcs
              go_wp2
              go_roundw
              case rel =>
                refine ⟨k + 1, by omega, by go_num, ?_, hbk⟩
                rw [HCS.out]; exact HO'.out
              case measure => simp [intOf]; omega
          · obtain rfl : k = p.length - (i + 1) := by omega
            have hca := Lib.hid (cntTo_all p i)
            go_wp2
            go_roundw
            case rel =>
              refine ⟨i + 1, by omega, by go_num, ?_, hbk⟩
              rw [← hnx.out, ← hca.out]; exact HO'.out
            case measure => simp [intOf]; omega
    · obtain rfl : i = p.length := by omega
      have hfin := Lib.hid (ctab_all p)
      go_wp2
      go_ret2
      exact ⟨_, _, by rw [codeOf_length]; rfl, by rw [codeOf_length, ← hfin.out]; exact HO.out.mono hb1.size, by rw [codeOf_length]; exact Nat.le_refl _, hb1.trans (hbl.mono hb1.size)⟩
end Go.Proofs.YtpmkdihencepnaaGreat
