/-
  Plain: EULER'S: odd parts and unlike ones.
-/
import Derived.Test.YtdmpbbgcifodeaaFrankM
namespace Go.Proofs.Ytdmpbbgcifodeaa

/-- How often 2 goes into x; what is left then. -/
def v2 (x : Nat) : Nat := ((List.range 6).filter (fun j => x % 2 ^ (j + 1) = 0)).length
def od (x : Nat) : Nat := x / 2 ^ v2 x
set_option maxRecDepth 100000 in
theorem dec_all : ∀ x, x < 41 → 0 < x → x = od x * 2 ^ v2 x ∧ od x % 2 = 1 ∧ v2 x < 6 := by decide
set_option maxRecDepth 100000 in
theorem uni_all : ∀ n, n < 41 → ∀ j, j < 6 → n % 2 = 1 → n * 2 ^ j < 41 → od (n * 2 ^ j) = n ∧ v2 (n * 2 ^ j) = j := by decide
def bts (t : Nat) : List Nat := (List.range 6).filter (fun j => t.testBit j)
set_option maxRecDepth 100000 in
theorem bts_sum : ∀ t, t < 64 → ((bts t).map (fun j => 2 ^ j)).sum = t := by decide
set_option maxRecDepth 100000 in
theorem bts_le : ∀ t, t < 64 → ∀ j, j < 6 → t.testBit j = true → 2 ^ j ≤ t := by decide
theorem bts_mem {t j : Nat} : j ∈ bts t ↔ j < 6 ∧ t.testBit j = true := by unfold bts; simp
def split1 (x : Int) : List Int := List.replicate (2 ^ v2 x.toNat) ((od x.toNat : Nat) : Int)
def merge1 (p : List Int) (n : Nat) : List Int := (bts (p.count (n : Int))).map (fun j => ((n * 2 ^ j : Nat) : Int))
def odds : List Nat := (List.range 20).map (fun i => 2 * i + 1)
def mergeL (p : List Int) : List Int := odds.flatMap (merge1 p)
def sortD (l : List Int) : List Int := l.mergeSort (fun x y => decide (y ≤ x))
theorem odds_mem {n : Nat} : n ∈ odds ↔ n % 2 = 1 ∧ n < 40 := by
  unfold odds
  simp only [List.mem_map, List.mem_range]
  exact ⟨fun ⟨i, h, e⟩ => by omega, fun h => ⟨n / 2, by omega, by omega⟩⟩
theorem odds_nodup : odds.Nodup := by decide

theorem perm_sum {a b : List Int} (h : a.Perm b) : a.sum = b.sum := by
  induction h with
  | nil => rfl
  | cons x _ ih => simp only [List.sum_cons]; omega
  | swap x y l => simp only [List.sum_cons]; omega
  | trans _ _ h1 h2 => omega
theorem perm_bind {a b : List Int} (f : Int → List Int) (h : a.Perm b) : (a.flatMap f).Perm (b.flatMap f) := by
  induction h with
  | nil => exact .refl _
  | cons x _ ih => simp only [List.flatMap_cons]; exact List.Perm.append_left _ ih
  | swap x y l =>
    simp only [List.flatMap_cons]
    rw [← List.append_assoc, ← List.append_assoc]
    exact List.Perm.append_right _ List.perm_append_comm
  | trans _ _ h1 h2 => exact h1.trans h2
theorem sum_rep (k : Nat) (a : Int) : (List.replicate k a).sum = (k : Int) * a := by
  induction k with
  | zero => simp
  | succ k ih => rw [List.replicate_succ, List.sum_cons, ih]; rw [Int.natCast_add, Int.add_mul]; omega
theorem bind_rep {α : Type} (g : Nat → Nat) (a : α) : ∀ l : List Nat, l.flatMap (fun j => List.replicate (g j) a) = List.replicate ((l.map g).sum) a
  | [] => rfl
  | j :: l => by rw [List.flatMap_cons, bind_rep g a l, List.map_cons, List.sum_cons, List.replicate_append_replicate]
theorem bind_sum (f : Int → List Int) : ∀ l : List Int, (∀ x ∈ l, (f x).sum = x) → (l.flatMap f).sum = l.sum
  | [], _ => rfl
  | x :: l, h => by
    rw [List.flatMap_cons, List.sum_append, h x (List.mem_cons_self ..), bind_sum f l (fun y hy => h y (List.mem_cons_of_mem _ hy)), List.sum_cons]
theorem split1_sum {x : Int} (h1 : 1 ≤ x) (h2 : x ≤ 40) : (split1 x).sum = x := by
  obtain ⟨k, rfl⟩ : ∃ k : Nat, x = k := ⟨x.toNat, by omega⟩
  have h := dec_all k (by omega) (by omega)
  unfold split1
  rw [sum_rep, Int.toNat_natCast]
  conv => rhs; rw [h.1]
  rw [Int.natCast_mul, Int.mul_comm]
theorem split1_mem {x y : Int} (h1 : 1 ≤ x) (h2 : x ≤ 40) (h : y ∈ split1 x) : 1 ≤ y ∧ y % 2 = 1 ∧ y ≤ 40 := by
  obtain ⟨k, rfl⟩ : ∃ k : Nat, x = k := ⟨x.toNat, by omega⟩
  have hd := dec_all k (by omega) (by omega)
  unfold split1 at h
  rw [Int.toNat_natCast] at h
  have e := List.eq_of_mem_replicate h
  have hp : od k ≤ od k * 2 ^ v2 k := Nat.le_mul_of_pos_right _ (Nat.two_pow_pos _)
  omega

/-! ### in order -/
theorem part_pw {p : List Int} (h : IsPart p) : p.Pairwise (fun x y => y ≤ x) := by
  rw [List.pairwise_iff_getElem]
  intro i j hi hj hij
  have := h.mono j hj i (by omega)
  rw [getD_get hi, getD_get hj] at this
  exact this
theorem pw_part {p : List Int} (h : p.Pairwise (fun x y => y ≤ x)) (h1 : ∀ x ∈ p, 1 ≤ x) : IsPart p := by
  refine ⟨fun i hi => ?_, fun i hi h0 => ?_⟩
  · rw [getD_get hi]; exact h1 _ (List.getElem_mem hi)
  · rw [getD_get hi, getD_get (by omega)]
    exact List.pairwise_iff_getElem.1 h (i - 1) i (by omega) hi (by omega)
theorem sortD_perm (l : List Int) : (sortD l).Perm l := List.mergeSort_perm l _
theorem sortD_pw (l : List Int) : (sortD l).Pairwise (fun x y => y ≤ x) := by
  have := List.pairwise_mergeSort (le := fun x y : Int => decide (y ≤ x)) (fun a b c h1 h2 => by simp at *; omega) (fun a b => by simp; omega) l
  exact this.imp (fun h => by simpa using h)
theorem sortD_eq {l p : List Int} (hp : IsPart p) (h : l.Perm p) : sortD l = p :=
  List.Perm.eq_of_pairwise (le := fun x y : Int => y ≤ x) (fun a b _ _ h1 h2 => by omega) (sortD_pw l) (part_pw hp) ((sortD_perm l).trans h)
theorem unlike_of {p : List Int} (h : p.Nodup) : IsUnlike p := fun i hi h0 e => by
  rw [getD_get hi, getD_get (show i - 1 < p.length by omega)] at e
  have := (List.getElem_inj h).1 e
  omega
theorem unlike_nodup {p : List Int} (hp : IsPart p) (h : IsUnlike p) : p.Nodup := by
  rw [List.nodup_iff_pairwise_ne, List.pairwise_iff_getElem]
  intro i j hi hj hij e
  have h1 := strict_at hp h (show i + 1 < p.length by omega) (by omega)
  have h2 := hp.mono j hj (i + 1) (by omega)
  rw [getD_get hj] at h2
  rw [Nat.add_sub_cancel, getD_get hi] at h1
  omega

/-! ### what is merged -/
theorem part_le {p : List Int} (h : IsPart p) (hs : p.sum ≤ 40) {x : Int} (hx : x ∈ p) : 1 ≤ x ∧ x ≤ 40 := by
  have h1 := h.mem
  refine ⟨h1 x hx, ?_⟩
  obtain ⟨a, b, rfl⟩ := List.append_of_mem hx
  have h2 := len_le_sum a (fun y hy => h1 y (List.mem_append_left _ hy))
  have h3 := len_le_sum b (fun y hy => h1 y (List.mem_append_right _ (List.mem_cons_of_mem _ hy)))
  rw [List.sum_append, List.sum_cons] at hs
  omega
theorem count_le {p : List Int} (h : IsPart p) (hs : p.sum ≤ 40) {n : Nat} (hn : 1 ≤ n) : n * p.count (n : Int) ≤ 40 ∧ p.count (n : Int) < 64 := by
  have h1 := List.filter_append_perm (fun x => x == (n : Int)) p
  have h2 := perm_sum h1
  rw [List.sum_append, List.filter_beq, sum_rep] at h2
  have h3 := len_le_sum (p.filter (fun x => !(x == (n : Int)))) (fun y hy => h.mem y (List.mem_filter.1 hy).1)
  have h4 : ((p.count (n : Int) * n : Nat) : Int) ≤ 40 := by rw [Int.natCast_mul]; omega
  have h5 : p.count (n : Int) * n ≤ 40 := by omega
  refine ⟨by rw [Nat.mul_comm]; exact h5, ?_⟩
  have h6 : p.count (n : Int) * 1 ≤ p.count (n : Int) * n := Nat.mul_le_mul_left _ hn
  omega
theorem by_counts : ∀ (os : List Nat) (p : List Int), os.Nodup → (∀ x ∈ p, ∃ n ∈ os, x = (n : Int)) → p.Perm (os.flatMap (fun n : Nat => List.replicate (p.count (n : Int)) (n : Int)))
  | [], p, _, h => by
    cases p with
    | nil => exact .refl _
    | cons x _ => obtain ⟨n, hn, _⟩ := h x (List.mem_cons_self ..); simp at hn
  | n :: os, p, hnd, h => by
    rw [List.nodup_cons] at hnd
    have h1 := (List.filter_append_perm (fun x => x == (n : Int)) p).symm
    rw [List.filter_beq] at h1
    have h2 := by_counts os (p.filter (fun x => !(x == (n : Int)))) hnd.2 (fun x hx => by
      obtain ⟨g1, g2⟩ := List.mem_filter.1 hx
      obtain ⟨m, hm, e⟩ := h x g1
      rcases List.mem_cons.1 hm with rfl | hm
      · simp [e] at g2
      · exact ⟨m, hm, e⟩)
    rw [List.flatMap_cons]
    refine h1.trans (List.Perm.append_left _ (h2.trans ?_))
    have e : ∀ m ∈ os, (p.filter (fun x => !(x == (n : Int)))).count (m : Int) = p.count (m : Int) := fun m hm => by
      rw [List.count_filter]
      have : m ≠ n := fun e => hnd.1 (by rw [← e]; exact hm)
      simp; omega
    have e2 : os.flatMap (fun m : Nat => List.replicate ((p.filter (fun x => !(x == (n : Int)))).count (m : Int)) (m : Int)) = os.flatMap (fun m : Nat => List.replicate (p.count (m : Int)) (m : Int)) := by
      rw [List.flatMap_def, List.flatMap_def]
      congr 1
      exact List.map_congr_left (fun m hm => by rw [e m hm])
    rw [e2]
theorem merge1_split {p : List Int} {n : Nat} (hn : n ∈ odds) (h1 : n * p.count (n : Int) ≤ 40) (h2 : p.count (n : Int) < 64) : (merge1 p n).flatMap split1 = List.replicate (p.count (n : Int)) (n : Int) := by
  have hno := odds_mem.1 hn
  unfold merge1
  rw [List.flatMap_map]
  have e : (bts (p.count (n : Int))).flatMap (fun j => split1 ((n * 2 ^ j : Nat) : Int)) = (bts (p.count (n : Int))).flatMap (fun j => List.replicate (2 ^ j) (n : Int)) := by
    rw [List.flatMap_def, List.flatMap_def]
    congr 1
    refine List.map_congr_left (fun j hj => ?_)
    obtain ⟨g1, g2⟩ := bts_mem.1 hj
    have g3 := bts_le _ h2 j g1 g2
    have g4 : n * 2 ^ j ≤ n * p.count (n : Int) := Nat.mul_le_mul_left _ g3
    obtain ⟨u1, u2⟩ := uni_all n (by omega) j g1 hno.1 (by omega)
    unfold split1
    rw [Int.toNat_natCast, u1, u2]
  rw [e, bind_rep, bts_sum _ h2]
theorem mergeL_nodup {p : List Int} (h : ∀ n ∈ odds, ∀ j ∈ bts (p.count (n : Int)), n * 2 ^ j < 41) : (mergeL p).Nodup := by
  have key : ∀ n ∈ odds, ∀ j ∈ bts (p.count (n : Int)), od (n * 2 ^ j) = n ∧ v2 (n * 2 ^ j) = j := fun n hn j hj => by
    have hno := odds_mem.1 hn
    exact uni_all n (by omega) j (bts_mem.1 hj).1 hno.1 (h n hn j hj)
  unfold mergeL
  rw [List.nodup_iff_pairwise_ne, List.pairwise_flatMap]
  refine ⟨fun n hn => ?_, ?_⟩
  · unfold merge1
    rw [List.pairwise_map]
    have h1 : (bts (p.count (n : Int))).Pairwise (· ≠ ·) := (List.nodup_iff_pairwise_ne.1 List.nodup_range).filter _
    refine h1.imp_of_mem (fun {a b} ha hb hab e => hab ?_)
    have e2 : n * 2 ^ a = n * 2 ^ b := by omega
    rw [← (key n hn a ha).2, ← (key n hn b hb).2, e2]
  · refine (List.nodup_iff_pairwise_ne.1 odds_nodup).imp_of_mem (fun {n m} hn hm hnm x hx y hy e => hnm ?_)
    unfold merge1 at hx hy
    obtain ⟨a, ha, rfl⟩ := List.mem_map.1 hx
    obtain ⟨b, hb, rfl⟩ := List.mem_map.1 hy
    have e2 : n * 2 ^ a = m * 2 ^ b := by omega
    rw [← (key n hn a ha).1, ← (key m hm b hb).1, e2]
theorem mergeL_mem {p : List Int} {y : Int} : y ∈ mergeL p ↔ ∃ n ∈ odds, ∃ j ∈ bts (p.count (n : Int)), y = ((n * 2 ^ j : Nat) : Int) := by
  unfold mergeL merge1
  rw [List.mem_flatMap]
  exact ⟨fun ⟨n, hn, h⟩ => by obtain ⟨j, hj, e⟩ := List.mem_map.1 h; exact ⟨n, hn, j, hj, e.symm⟩, fun ⟨n, hn, j, hj, e⟩ => ⟨n, hn, List.mem_map.2 ⟨j, hj, e.symm⟩⟩⟩
/-- Odd parts, merged, and split again. -/
theorem merge_split {p : List Int} (h : IsPart p) (hs : p.sum ≤ 40) (ho : ∀ x ∈ p, x % 2 = 1) : IsPart (sortD (mergeL p)) ∧ (sortD (mergeL p)).sum ≤ 40 ∧ IsUnlike (sortD (mergeL p)) ∧ sortD ((sortD (mergeL p)).flatMap split1) = p := by
  have hc := fun n (hn : n ∈ odds) => count_le h hs (n := n) (by have := odds_mem.1 hn; omega)
  have hle : ∀ n ∈ odds, ∀ j ∈ bts (p.count (n : Int)), n * 2 ^ j < 41 := fun n hn j hj => by
    obtain ⟨g1, g2⟩ := bts_mem.1 hj
    have g3 := bts_le _ (hc n hn).2 j g1 g2
    have g4 : n * 2 ^ j ≤ n * p.count (n : Int) := Nat.mul_le_mul_left _ g3
    have := (hc n hn).1
    omega
  have hnd := mergeL_nodup hle
  have hb : ∀ y ∈ mergeL p, 1 ≤ y ∧ y ≤ 40 := fun y hy => by
    obtain ⟨n, hn, j, hj, rfl⟩ := mergeL_mem.1 hy
    have g1 := hle n hn j hj
    have g2 := odds_mem.1 hn
    have g3 : 0 < n * 2 ^ j := Nat.mul_pos (by omega) (Nat.two_pow_pos _)
    omega
  have hp : ((mergeL p).flatMap split1).Perm p := by
    have e : (mergeL p).flatMap split1 = odds.flatMap (fun n : Nat => List.replicate (p.count (n : Int)) (n : Int)) := by
      unfold mergeL
      rw [List.flatMap_assoc, List.flatMap_def, List.flatMap_def]
      congr 1
      exact List.map_congr_left (fun n hn => merge1_split hn (hc n hn).1 (hc n hn).2)
    rw [e]
    refine (by_counts odds p odds_nodup (fun x hx => ?_)).symm
    have := part_le h hs hx
    have := ho x hx
    exact ⟨x.toNat, odds_mem.2 ⟨by omega, by omega⟩, by omega⟩
  have hsum : (mergeL p).sum = p.sum := by
    rw [← perm_sum hp, bind_sum split1 _ (fun x hx => split1_sum (hb x hx).1 (hb x hx).2)]
  refine ⟨pw_part (sortD_pw _) (fun x hx => (hb x ((sortD_perm _).mem_iff.1 hx)).1), by rw [perm_sum (sortD_perm _), hsum]; exact hs, unlike_of ((sortD_perm _).nodup_iff.2 hnd), ?_⟩
  exact sortD_eq h ((perm_bind split1 (sortD_perm _)).trans hp)

/-! ### what is split -/
theorem six_sum (P : Nat → Bool) : (((List.range 6).filter P).map (fun j => 2 ^ j)).sum = (if P 0 then 1 else 0) + (if P 1 then 2 else 0) + (if P 2 then 4 else 0) + (if P 3 then 8 else 0) + (if P 4 then 16 else 0) + (if P 5 then 32 else 0) := by
  have e : List.range 6 = [0, 1, 2, 3, 4, 5] := by decide
  rw [e]
  cases h0 : P 0 <;> cases h1 : P 1 <;> cases h2 : P 2 <;> cases h3 : P 3 <;> cases h4 : P 4 <;> cases h5 : P 5 <;> simp [h0, h1, h2, h3, h4, h5]
set_option maxRecDepth 100000 in
theorem six_bits : ∀ b0 b1 b2 b3 b4 b5 : Bool, (∀ j, j < 6 → ((if b0 then 1 else 0) + (if b1 then 2 else 0) + (if b2 then 4 else 0) + (if b3 then 8 else 0) + (if b4 then 16 else 0) + (if b5 then 32 else 0) : Nat).testBit j = [b0, b1, b2, b3, b4, b5].getD j false) ∧ ((if b0 then 1 else 0) + (if b1 then 2 else 0) + (if b2 then 4 else 0) + (if b3 then 8 else 0) + (if b4 then 16 else 0) + (if b5 then 32 else 0) : Nat) < 64 := by decide
theorem six (P : Nat → Bool) {j : Nat} (hj : j < 6) : (((List.range 6).filter P).map (fun j => 2 ^ j)).sum.testBit j = P j ∧ (((List.range 6).filter P).map (fun j => 2 ^ j)).sum < 64 := by
  obtain ⟨h1, h2⟩ := six_bits (P 0) (P 1) (P 2) (P 3) (P 4) (P 5)
  rw [six_sum]
  refine ⟨?_, h2⟩
  rw [h1 j hj]
  match j, hj with
  | 0, _ => rfl
  | 1, _ => rfl
  | 2, _ => rfl
  | 3, _ => rfl
  | 4, _ => rfl
  | 5, _ => rfl
/-- The powers that come of the parts with one odd part. -/
def pows (p : List Int) (n : Nat) : List Nat := (p.filter (fun x => od x.toNat == n)).map (fun x => v2 x.toNat)
theorem split_count (n : Nat) : ∀ p : List Int, (p.flatMap split1).count (n : Int) = ((pows p n).map (fun j => 2 ^ j)).sum
  | [] => rfl
  | x :: p => by
    rw [List.flatMap_cons, List.count_append, split_count n p]
    unfold pows split1
    rw [List.count_replicate, List.filter_cons]
    by_cases e : od x.toNat = n
    · rw [if_pos (by simp [e]), if_pos (by simp [e])]; simp
    · rw [if_neg (by simp; omega), if_neg (by simpa using e)]; simp
theorem pows_nodup {p : List Int} (hb : ∀ x ∈ p, 1 ≤ x ∧ x ≤ 40) (hn : p.Nodup) (n : Nat) : (pows p n).Nodup ∧ ∀ j ∈ pows p n, j < 6 := by
  unfold pows
  refine ⟨?_, fun j hj => ?_⟩
  · rw [List.nodup_iff_pairwise_ne, List.pairwise_map]
    refine ((List.nodup_iff_pairwise_ne.1 hn).filter _).imp_of_mem (fun {a b} ha hb2 hab e => hab ?_)
    obtain ⟨a1, a2⟩ := List.mem_filter.1 ha
    obtain ⟨b1, b2⟩ := List.mem_filter.1 hb2
    have ha3 := hb a a1
    have hb3 := hb b b1
    have d1 := (dec_all a.toNat (by omega) (by omega)).1
    have d2 := (dec_all b.toNat (by omega) (by omega)).1
    rw [beq_iff_eq] at a2 b2
    rw [a2, e] at d1
    rw [b2] at d2
    omega
  · obtain ⟨x, hx, rfl⟩ := List.mem_map.1 hj
    have := hb x (List.mem_filter.1 hx).1
    exact (dec_all x.toNat (by omega) (by omega)).2.2
theorem pows_mem {p : List Int} (hb : ∀ x ∈ p, 1 ≤ x ∧ x ≤ 40) {n j : Nat} (hn : n % 2 = 1) (hn2 : n < 40) (hj : j < 6) : j ∈ pows p n ↔ ((n * 2 ^ j : Nat) : Int) ∈ p := by
  unfold pows
  refine ⟨fun h => ?_, fun h => ?_⟩
  · obtain ⟨x, hx, e⟩ := List.mem_map.1 h
    obtain ⟨x1, x2⟩ := List.mem_filter.1 hx
    rw [beq_iff_eq] at x2
    have h3 := hb x x1
    have d1 := (dec_all x.toNat (by omega) (by omega)).1
    rw [x2, e] at d1
    rw [← d1]
    rw [show ((x.toNat : Nat) : Int) = x by omega]
    exact x1
  · have h3 := hb _ h
    obtain ⟨u1, u2⟩ := uni_all n (by omega) j hj hn (by omega)
    refine List.mem_map.2 ⟨_, List.mem_filter.2 ⟨h, ?_⟩, ?_⟩
    · rw [Int.toNat_natCast, u1]; simp
    · rw [Int.toNat_natCast, u2]
theorem split_bits {p : List Int} (hb : ∀ x ∈ p, 1 ≤ x ∧ x ≤ 40) (hnd : p.Nodup) {n j : Nat} (hn : n % 2 = 1) (hn2 : n < 40) (hj : j < 6) : (((p.flatMap split1).count (n : Int)).testBit j = true ↔ ((n * 2 ^ j : Nat) : Int) ∈ p) := by
  obtain ⟨h1, h2⟩ := pows_nodup hb hnd n
  have hp : (pows p n).Perm ((List.range 6).filter (fun j => decide (j ∈ pows p n))) := by
    rw [List.perm_ext_iff_of_nodup h1 (List.nodup_range.filter _)]
    intro a
    rw [List.mem_filter, List.mem_range]
    exact ⟨fun h => ⟨h2 a h, decide_eq_true h⟩, fun h => of_decide_eq_true h.2⟩
  have hsum : ((pows p n).map (fun j => 2 ^ j)).sum = (((List.range 6).filter (fun j => decide (j ∈ pows p n))).map (fun j => 2 ^ j)).sum := (hp.map _).sum_nat
  rw [split_count, hsum, (six _ hj).1, decide_eq_true_iff, pows_mem hb hn hn2 hj]
/-- Unlike parts, split, and merged again. -/
theorem split_merge {p : List Int} (h : IsPart p) (hs : p.sum ≤ 40) (hu : IsUnlike p) : IsPart (sortD (p.flatMap split1)) ∧ (sortD (p.flatMap split1)).sum ≤ 40 ∧ (∀ x ∈ sortD (p.flatMap split1), x % 2 = 1) ∧ sortD (mergeL (sortD (p.flatMap split1))) = p := by
  have hb : ∀ x ∈ p, 1 ≤ x ∧ x ≤ 40 := fun x hx => part_le h hs hx
  have hnd := unlike_nodup h hu
  have hq : ∀ y ∈ sortD (p.flatMap split1), 1 ≤ y ∧ y % 2 = 1 ∧ y ≤ 40 := fun y hy => by
    obtain ⟨x, hx, h2⟩ := List.mem_flatMap.1 ((sortD_perm _).mem_iff.1 hy)
    exact split1_mem (hb x hx).1 (hb x hx).2 h2
  have hcnt : ∀ n : Nat, (sortD (p.flatMap split1)).count (n : Int) = (p.flatMap split1).count (n : Int) := fun n => (sortD_perm _).count_eq _
  have hbit : ∀ n ∈ odds, ∀ j, (j ∈ bts ((sortD (p.flatMap split1)).count (n : Int)) ↔ j < 6 ∧ ((n * 2 ^ j : Nat) : Int) ∈ p) := fun n hn j => by
    have hno := odds_mem.1 hn
    rw [bts_mem, hcnt]
    exact ⟨fun ⟨a, b⟩ => ⟨a, (split_bits hb hnd hno.1 hno.2 a).1 b⟩, fun ⟨a, b⟩ => ⟨a, (split_bits hb hnd hno.1 hno.2 a).2 b⟩⟩
  refine ⟨pw_part (sortD_pw _) (fun x hx => (hq x hx).1), ?_, fun x hx => (hq x hx).2.1, ?_⟩
  · rw [perm_sum (sortD_perm _), bind_sum split1 _ (fun x hx => split1_sum (hb x hx).1 (hb x hx).2)]; exact hs
  · refine sortD_eq h ?_
    have n1 : (mergeL (sortD (p.flatMap split1))).Nodup := mergeL_nodup (fun n hn j hj => by
      have := hb _ ((hbit n hn j).1 hj).2
      omega)
    rw [List.perm_ext_iff_of_nodup n1 hnd]
    intro y
    rw [mergeL_mem]
    refine ⟨fun ⟨n, hn, j, hj, e⟩ => by rw [e]; exact ((hbit n hn j).1 hj).2, fun hy => ?_⟩
    have h3 := hb y hy
    obtain ⟨d1, d2, d3⟩ := dec_all y.toNat (by omega) (by omega)
    have hle : od y.toNat ≤ od y.toNat * 2 ^ v2 y.toNat := Nat.le_mul_of_pos_right _ (Nat.two_pow_pos _)
    have e : y = ((od y.toNat * 2 ^ v2 y.toNat : Nat) : Int) := by rw [← d1]; omega
    have ho : od y.toNat ∈ odds := odds_mem.2 ⟨d2, by omega⟩
    refine ⟨od y.toNat, ho, v2 y.toNat, (hbit _ ho _).2 ⟨d3, by rw [← e]; exact hy⟩, e⟩
end Go.Proofs.Ytdmpbbgcifodeaa
