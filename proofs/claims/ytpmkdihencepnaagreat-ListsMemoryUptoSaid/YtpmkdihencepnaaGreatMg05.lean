/-
  ferlaw.Same over ints; perms.Rounds and perms.Unrounds of what is no permutation.
-/
import Derived.Test.YtpmkdihencepnaaGreatMg01
import Derived.Test.YtpmkdihencepnaaGreatMg03
import Derived.Test.YtpmkdihencepnaaGreatMg04
namespace Go.Proofs.YtpmkdihencepnaaGreat
open Go.RowKit

set_option maxHeartbeats 400000 in
theorem rounds_err (A : Option Addr) (cap : Nat) (xs : List Int) (w : World) (hcl : xs.length ≤ 9223372036854775807) (hp : permChk xs ≠ 0) (h : Sl w w.heap.size A (ints xs)) :
    Calls Tryz.prog 18 #[.slice A xs.length cap] w fun e w' => e = .returned (.tuple #[.slice none 0 0, .int .i64 (permChk xs)]) ∧ Below w.heap.size w w' := by
  obtain ⟨c, hc⟩ : ∃ c, c = permChk xs := ⟨_, rfl⟩
  have hd : (c != 0) = true := by rw [hc]; simpa using hp
  have HC := Lib.hid hc
  clear hc hp
  go_enter Tryz.func18, Tryz.ntmps18
  go_wp2_with fail
  refine (check_any _ _ _ _ hcl h).mono ?_
  rintro e w1 ⟨rfl, hb1⟩
  rw [← HC.out]
  go_wp2
  go_ret2
  exact ⟨by rw [← HC.out]; rfl, hb1⟩

set_option maxHeartbeats 400000 in
theorem unrounds_err (A : Option Addr) (cap : Nat) (xs : List Int) (w : World) (hcl : xs.length ≤ 9223372036854775807) (hp : permChk xs ≠ 0) (h : Sl w w.heap.size A (ints xs)) :
    Calls Tryz.prog 19 #[.slice A xs.length cap] w fun e w' => e = .returned (.tuple #[.slice none 0 0, .int .i64 (permChk xs)]) ∧ Below w.heap.size w w' := by
  obtain ⟨c, hc⟩ : ∃ c, c = permChk xs := ⟨_, rfl⟩
  have hd : (c != 0) = true := by rw [hc]; simpa using hp
  have HC := Lib.hid hc
  clear hc hp
  go_enter Tryz.func19, Tryz.ntmps19
  go_wp2_with fail
  refine (check_any _ _ _ _ hcl h).mono ?_
  rintro e w1 ⟨rfl, hb1⟩
  rw [← HC.out]
  go_wp2
  go_ret2
  exact ⟨by rw [← HC.out]; rfl, hb1⟩

end Go.Proofs.YtpmkdihencepnaaGreat

/-
  slices.Clone of ints; perms.Letters; ferref.Size.
-/
namespace Go.Proofs.YtpmkdihencepnaaGreat
open Go.RowKit

/-- Is it a word? -/
def IsWord (xs : List Int) : Prop := ∀ x ∈ xs, 1 ≤ x ∧ x ≤ 99
instance (xs : List Int) : Decidable (IsWord xs) := by unfold IsWord; infer_instance
def wordChk (xs : List Int) : Int := if 40 < xs.length then 2 else if IsWord xs then 0 else 1
theorem wordChk_large {xs : List Int} (h : 40 < xs.length) : wordChk xs = 2 := by simp [wordChk, h]
theorem wordChk_ok {xs : List Int} (h : ¬ 40 < xs.length) (hp : IsWord xs) : wordChk xs = 0 := by simp [wordChk, h, hp]
theorem wordChk_bad {xs : List Int} (h : ¬ 40 < xs.length) (hp : ¬ IsWord xs) : wordChk xs = 1 := by simp [wordChk, h, hp]
theorem wordChk_zero {xs : List Int} (h : wordChk xs = 0) : xs.length ≤ 40 ∧ IsWord xs := by
  unfold wordChk at h
  split at h
  · cases h
  · split at h
    · exact ⟨by omega, by assumption⟩
    · cases h

set_option maxHeartbeats 800000 in
theorem letters_any (A : Option Addr) (cap : Nat) (xs : List Int) (w : World) (hcl : xs.length ≤ 9223372036854775807) (h : Sl w w.heap.size A (ints xs)) :
    Calls Tryz.prog 47 #[.slice A xs.length cap] w fun e w' => e = .returned (.int .i64 (wordChk xs)) ∧ w = w' := by
  by_cases hn : 40 < xs.length
  · rw [wordChk_large hn]
    go_enter Tryz.func47, Tryz.ntmps47
    go_wp2
    go_ret
    exact ⟨rfl, rfl⟩
  have hn' : xs.length ≤ 40 := by omega
  have HN := Lib.hid hn
  clear hn
  go_enter Tryz.func47, Tryz.ntmps47
  go_wp2
  go_loop [10] (fun i => ∃ k : Nat, k ≤ xs.length ∧ i = .int .i64 k ∧ ∀ x ∈ xs.take k, 1 ≤ x ∧ x ≤ 99) (fun i => xs.length - (intOf i).toNat)
  case atStart => exact ⟨0, by omega, rfl, by simp⟩
  case round =>
    obtain ⟨k, hk, rfl, hrg⟩ := hrel
    have HRG := Lib.hid hrg
    clear hrg
    by_cases hlt : k < xs.length
    · obtain ⟨b, o, rfl, hb, hc0⟩ := h.at_ hlt
      have ht := take_snoc hlt
      obtain ⟨x, hx⟩ : ∃ x, x = xs[k] := ⟨_, rfl⟩
      rw [← hx] at hc0 ht
      have HT := Lib.hid ht
      have HX := Lib.hid hx
      clear ht hx
      have hxm : Hid (x ∈ xs) := by rw [HX.out]; exact List.getElem_mem hlt
      by_cases h1 : x < 1
      · have hfin : Hid (wordChk xs = 1) := wordChk_bad HN.out (fun hp => by have := (hp x hxm.out).1; omega)
        go_wp2
        go_ret
        exact ⟨by rw [hfin.out]; rfl, rfl⟩
      by_cases h2 : 99 < x
      · have hfin : Hid (wordChk xs = 1) := wordChk_bad HN.out (fun hp => by have := (hp x hxm.out).2; omega)
        go_wp2
        go_ret
        exact ⟨by rw [hfin.out]; rfl, rfl⟩
      go_wp2
      go_round
      case rel =>
        refine ⟨k + 1, by omega, by go_num, ?_⟩
        rw [HT.out]
        intro y hy
        rcases List.mem_append.1 hy with hy | hy
        · exact HRG.out y hy
        · simp at hy; omega
      case measure => simp [intOf]; omega
    · have hfin : Hid (wordChk xs = 0) := wordChk_ok HN.out (by have := HRG.out; rwa [List.take_of_length_le (by omega)] at this)
      go_wp2
      go_ret
      exact ⟨by rw [hfin.out]; rfl, rfl⟩

/-- The sum of the first k. -/
def sumTo (xs : List Int) (k : Nat) : Int := (xs.take k).sum
theorem sumTo_succ {xs : List Int} {k : Nat} (h : k < xs.length) : sumTo xs (k + 1) = sumTo xs k + xs[k] := by
  unfold sumTo
  rw [take_snoc h, List.sum_append]; simp

end Go.Proofs.YtpmkdihencepnaaGreat

/-
  Plain lists: a map of a finite stock into itself that never gives one thing twice gives each; the words of a length.
-/
namespace Go.Proofs.YtpmkdihencepnaaGreat

/-- The numbers from 1 to n. -/
def upTo (n : Nat) : List Int := (List.range n).map (fun i : Nat => (i : Int) + 1)
theorem mem_upTo {n : Nat} {x : Int} : x ∈ upTo n ↔ 1 ≤ x ∧ x ≤ (n : Int) := by
  simp only [upTo, List.mem_map, List.mem_range]
  constructor
  · rintro ⟨i, hi, rfl⟩; omega
  · intro h; exact ⟨(x - 1).toNat, by omega, by omega⟩
theorem nodup_upTo (n : Nat) : (upTo n).Nodup := by
  rw [upTo, List.nodup_iff_pairwise_ne, List.pairwise_map]
  have := List.nodup_range (n := n)
  rw [List.nodup_iff_pairwise_ne] at this
  exact this.imp (fun h e => h (by omega))
theorem length_upTo (n : Nat) : (upTo n).length = n := by simp [upTo]

end Go.Proofs.YtpmkdihencepnaaGreat

/-
  Plain lists: Foata's folding: there and back; its inversions are what the descents come to.
-/
namespace Go.Proofs.YtpmkdihencepnaaGreat

/-- Is it on the same side of x as e? -/
def side (x e : Int) (y : Int) : Bool := decide (y ≤ x) == decide (e ≤ x)

end Go.Proofs.YtpmkdihencepnaaGreat

/-
  Plain lists: Foata's folding: there and back; its inversions are what the descents come to.
-/
namespace Go.Proofs.YtpmkdihencepnaaGreat

/-- Cut behind each that is marked; each piece's last one goes to its front. -/
def rot (p : Int → Bool) : List Int → List Int → List Int
  | blk, [] => blk
  | blk, y :: rest => if p y then (y :: blk) ++ rot p [] rest else rot p (blk ++ [y]) rest

/-- Cut ahead of each that is marked; each piece's first one goes to its end. y: the piece's first one; blk: what stands behind it so far. -/
def unrot (p : Int → Bool) : Int → List Int → List Int → List Int
  | y, blk, [] => blk ++ [y]
  | y, blk, z :: rest => if p z then (blk ++ [y]) ++ unrot p z [] rest else unrot p y (blk ++ [z]) rest

def unrotAll (p : Int → Bool) : List Int → List Int
  | [] => []
  | y :: rest => unrot p y [] rest

def foldStep (v : List Int) (x : Int) : List Int := (if v = [] then [] else rot (side x (v.getLastD 0)) [] v) ++ [x]
def foldOf (w : List Int) : List Int := w.foldl foldStep []

/-- The n-th is what was put last; what is ahead of it is unrolled. -/
def unfoldN : Nat → List Int → List Int
  | 0, v => v
  | n + 1, v => unfoldN n (unrotAll (side (v.getD (n + 1) 0) (v.getD 0 0)) (v.take (n + 1)) ++ v.drop (n + 1))
def unfoldOf (w : List Int) : List Int := unfoldN (w.length - 1) w

theorem rot_perm (p : Int → Bool) : ∀ rest blk, (rot p blk rest).Perm (blk ++ rest)
  | [], blk => by simp [rot]
  | y :: rest, blk => by
    rw [rot]
    split
    · refine ((rot_perm p rest []).append_left (y :: blk)).trans ?_
      simp only [List.nil_append, List.cons_append]
      exact List.perm_middle.symm
    · refine (rot_perm p rest (blk ++ [y])).trans ?_
      simp

theorem rot_length (p : Int → Bool) (blk rest : List Int) : (rot p blk rest).length = blk.length + rest.length := by
  rw [(rot_perm p rest blk).length_eq, List.length_append]

theorem unrot_pass (p : Int → Bool) (z : Int) (m : List Int) : ∀ (b q : List Int), (∀ u ∈ b, p u = false) → unrot p z q (b ++ m) = unrot p z (q ++ b) m
  | [], q, _ => by simp
  | u :: b, q, h => by
    rw [List.cons_append, unrot, if_neg (by simp [h u (by simp)]), unrot_pass p z m b _ (fun t ht => h t (List.mem_cons_of_mem _ ht))]
    simp

theorem foldOf_snoc (w : List Int) (x : Int) : foldOf (w ++ [x]) = foldStep (foldOf w) x := by simp [foldOf]

theorem foldStep_length (v : List Int) (x : Int) : (foldStep v x).length = v.length + 1 := by
  unfold foldStep
  by_cases h : v = []
  · simp [h]
  · simp [h, rot_length]

theorem foldOf_length (w : List Int) : (foldOf w).length = w.length := by
  induction w using snoc_ind with
  | nil => rfl
  | snoc w x ih => rw [foldOf_snoc, foldStep_length, ih]; simp

theorem side_self (x e : Int) : side x e e = true := by simp [side]

end Go.Proofs.YtpmkdihencepnaaGreat

/-
  Plain lists: the inversions of what is folded are what the descents come to.
-/
namespace Go.Proofs.YtpmkdihencepnaaGreat

/-- How many of the first k are above the one at i. -/
def overAt (xs : List Int) (i k : Nat) : Nat := (xs.take k).countP (fun a => decide (xs.getD i 0 < a))
/-- How many pairs of the first i stand the wrong way round. -/
def wrongTo (xs : List Int) : Nat → Nat
  | 0 => 0
  | i + 1 => wrongTo xs i + overAt xs i i

def over (l : List Int) (x : Int) : Nat := l.countP (fun a => decide (x < a))
def inv (l : List Int) : Nat := wrongTo l l.length
/-- Pairs the wrong way round of one ahead and one behind. -/
def cross (a b : List Int) : Nat := (b.map (over a)).sum

theorem over_append (a b : List Int) (x : Int) : over (a ++ b) x = over a x + over b x := by simp [over, List.countP_append]
theorem over_perm {a b : List Int} (h : a.Perm b) (x : Int) : over a x = over b x := h.countP_eq _
theorem over_all {l : List Int} {x : Int} (h : ∀ y ∈ l, x < y) : over l x = l.length := by
  unfold over; rw [List.countP_eq_length]; intro y hy; simpa using h y hy
theorem over_none {l : List Int} {x : Int} (h : ∀ y ∈ l, y ≤ x) : over l x = 0 := by
  unfold over; rw [List.countP_eq_zero]; intro y hy; have := h y hy; simp; omega
theorem cross_nil (a : List Int) : cross a [] = 0 := rfl
theorem cross_snoc (a b : List Int) (y : Int) : cross a (b ++ [y]) = cross a b + over a y := by simp [cross]
theorem cross_perm {a a' b b' : List Int} (h : a.Perm a') (h' : b.Perm b') : cross a b = cross a' b' := by
  unfold cross
  rw [show over a = over a' from funext (fun x => over_perm h x)]
  exact (h'.map _).sum_nat
theorem cross_one {y : Int} {b : List Int} : cross [y] b = b.countP (fun z => decide (z < y)) := by
  induction b using snoc_ind with
  | nil => rfl
  | snoc b z ih =>
    rw [cross_snoc, ih, List.countP_append]
    simp [over, List.countP_cons]

theorem wrongTo_prefix (l s : List Int) : ∀ i, i ≤ l.length → wrongTo (l ++ s) i = wrongTo l i
  | 0, _ => rfl
  | i + 1, h => by
    rw [wrongTo, wrongTo, wrongTo_prefix l s i (by omega)]
    unfold overAt
    rw [List.take_append_of_le_length (by omega)]
    have : (l ++ s).getD i 0 = l.getD i 0 := by rw [getD_get (by simp; omega), getD_get (by omega), List.getElem_append_left]
    rw [this]

theorem inv_snoc (l : List Int) (x : Int) : inv (l ++ [x]) = inv l + over l x := by
  unfold inv
  rw [List.length_append, List.length_singleton, wrongTo, wrongTo_prefix l [x] _ (Nat.le_refl _)]
  unfold overAt over
  have : (l ++ [x]).getD l.length 0 = x := by rw [getD_get (by simp), List.getElem_append_right (by omega)]; simp
  rw [List.take_left, this]

theorem inv_append (a b : List Int) : inv (a ++ b) = inv a + inv b + cross a b := by
  induction b using snoc_ind with
  | nil => simp [cross_nil, inv, wrongTo]
  | snoc b y ih => rw [← List.append_assoc, inv_snoc, ih, over_append, inv_snoc, cross_snoc]; omega

theorem inv_one (y : Int) : inv [y] = 0 := rfl

end Go.Proofs.YtpmkdihencepnaaGreat

/-
  ferref.Falls, ferref.Wrong: what they answer.
-/
namespace Go.Proofs.YtpmkdihencepnaaGreat
open Go.RowKit

theorem sum_bound {xs : List Int} {m : Int} (h : ∀ x ∈ xs, 0 ≤ x ∧ x ≤ m) : 0 ≤ xs.sum ∧ xs.sum ≤ m * xs.length := by
  induction xs with
  | nil => simp
  | cons y xs ih =>
    have h1 := ih (fun x hx => h x (List.mem_cons_of_mem _ hx))
    have h2 := h y (by simp)
    rw [List.sum_cons, List.length_cons]
    have : m * ((xs.length + 1 : Nat) : Int) = m * xs.length + m := by rw [Int.natCast_add, Int.mul_add]; simp
    omega

theorem sumTo_bound {xs : List Int} {m : Int} (hm : 0 ≤ m) (h : ∀ x ∈ xs, 0 ≤ x ∧ x ≤ m) (k : Nat) : 0 ≤ sumTo xs k ∧ sumTo xs k ≤ m * xs.length := by
  have h1 := sum_bound (xs := xs.take k) (fun x hx => h x (List.mem_of_mem_take hx))
  have h2 : m * ((xs.take k).length : Int) ≤ m * xs.length := Int.mul_le_mul_of_nonneg_left (by rw [List.length_take]; omega) hm
  unfold sumTo
  omega

end Go.Proofs.YtpmkdihencepnaaGreat

/-
  Plain lists: cycles written one behind the other: there and back; as many cycles as numbers above all ahead.
-/
namespace Go.Proofs.YtpmkdihencepnaaGreat

section
variable {xs : List Int} {t : Int}

end

/-! What is told so far. -/

theorem IsPerm.length_of {q : List Int} {n : Nat} (h : q.Nodup) (hr : ∀ x ∈ q, 1 ≤ x ∧ x ≤ (n : Int)) (hall : ∀ x : Int, 1 ≤ x → x ≤ n → x ∈ q) : q.length = n := by
  have h1 := nodup_bound h hr
  have h2 := (nodup_upTo n).length_le_of_subset (l₂ := q) (fun x hx => by have := mem_upTo.1 hx; exact hall x this.1 this.2)
  rw [length_upTo] at h2
  omega

end Go.Proofs.YtpmkdihencepnaaGreat

/-
  Plain lists: cycles written one behind the other: there and back; as many cycles as numbers above all ahead.
-/
namespace Go.Proofs.YtpmkdihencepnaaGreat

/-- The way of top comes back to top. -/
def Closing (xs : List Int) (top : Int) : Prop := at1 xs ((arc xs top).getLastD 0) = top
instance (xs : List Int) (top : Int) : Decidable (Closing xs top) := by unfold Closing; infer_instance

theorem chain_end {xs : List Int} {top : Int} (hp : IsPerm xs) : ∀ (f : Nat) (l : List Int) (n : Int), Path xs top l n → f + l.length = xs.length + 1 →
    ∃ n', Path xs top (l ++ chain xs top f n) n' ∧ top ≤ n'
  | 0, l, n, h, e => by
    have := h.length_le hp; omega
  | f + 1, l, n, h, e => by
    by_cases hc : n ≠ top ∧ n < top
    · rw [chain_go _ hc]
      obtain ⟨n', h'⟩ := chain_end hp f (l ++ [n]) (at1 xs n) (h.next hp hc.2) (by simp; omega)
      exact ⟨n', by simpa using h'⟩
    · rw [chain_stop _ hc]
      exact ⟨n, by simpa using h, by omega⟩

theorem arc_spec {xs : List Int} {top : Int} (hp : IsPerm xs) (h1 : 1 ≤ top) (h2 : top ≤ xs.length) : ∃ n, Path xs top (arc xs top) n ∧ top ≤ n :=
  chain_end hp xs.length [top] _ (Path.start h1 h2) (by simp)

section
variable {xs : List Int} {t : Int}

theorem arc_pos (xs : List Int) (t : Int) : 0 < (arc xs t).length := by simp [arc]
theorem arc_zero (xs : List Int) (t : Int) : (arc xs t)[0]'(arc_pos xs t) = t := by simp [arc]
theorem mem_arc_self (xs : List Int) (t : Int) : t ∈ arc xs t := by simp [arc]

theorem arc_le (hp : IsPerm xs) (h1 : 1 ≤ t) (h2 : t ≤ xs.length) {x : Int} (hx : x ∈ arc xs t) : x ≤ t := by
  obtain ⟨n, h, _⟩ := arc_spec hp h1 h2
  obtain ⟨j, hj, rfl⟩ := List.mem_iff_getElem.1 hx
  cases j with
  | zero => rw [arc_zero]; omega
  | succ j => have := h.low j hj; omega

theorem arc_range (hp : IsPerm xs) (h1 : 1 ≤ t) (h2 : t ≤ xs.length) {x : Int} (hx : x ∈ arc xs t) : 1 ≤ x ∧ x ≤ (xs.length : Int) := by
  obtain ⟨n, h, _⟩ := arc_spec hp h1 h2
  exact h.range x hx

/-- Where a number of a closed way goes. -/
theorem arc_at (hp : IsPerm xs) (h1 : 1 ≤ t) (h2 : t ≤ xs.length) (hc : Closing xs t) {j : Nat} (hj : j < (arc xs t).length) :
    at1 xs (arc xs t)[j] = if h : j + 1 < (arc xs t).length then (arc xs t)[j + 1] else t := by
  obtain ⟨n, h, _⟩ := arc_spec hp h1 h2
  split
  · rename_i hl; exact (h.step j hl).symm
  · have : (arc xs t).getLastD 0 = (arc xs t)[j] := by
      rw [getLastD_get (by omega)]; congr 1; omega
    rw [← this]; exact hc

theorem arc_closed (hp : IsPerm xs) (h1 : 1 ≤ t) (h2 : t ≤ xs.length) (hc : Closing xs t) {x : Int} (hx : x ∈ arc xs t) : at1 xs x ∈ arc xs t := by
  obtain ⟨j, hj, rfl⟩ := List.mem_iff_getElem.1 hx
  rw [arc_at hp h1 h2 hc hj]
  split
  · exact List.getElem_mem _
  · exact mem_arc_self xs t

theorem arc_pred (hp : IsPerm xs) (h1 : 1 ≤ t) (h2 : t ≤ xs.length) (hc : Closing xs t) {x : Int} (hx : x ∈ arc xs t) : ∃ y ∈ arc xs t, at1 xs y = x := by
  obtain ⟨j, hj, rfl⟩ := List.mem_iff_getElem.1 hx
  cases j with
  | zero =>
    refine ⟨(arc xs t).getLastD 0, ?_, ?_⟩
    · rw [getLastD_get (arc_pos xs t)]; exact List.getElem_mem _
    · rw [arc_zero]; exact hc
  | succ j =>
    refine ⟨(arc xs t)[j], List.getElem_mem _, ?_⟩
    rw [arc_at hp h1 h2 hc (by omega), dif_pos hj]

theorem arc_absorb (hp : IsPerm xs) (h1 : 1 ≤ t) (h2 : t ≤ xs.length) (hc : Closing xs t) (T : Int → Prop) (hT : ∀ x ∈ arc xs t, T x → T (at1 xs x)) {x : Int} (hx : x ∈ arc xs t) (hTx : T x) :
    ∀ y ∈ arc xs t, T y := by
  obtain ⟨j, hj, rfl⟩ := List.mem_iff_getElem.1 hx
  have up : ∀ (i d : Nat) (hd : i + d < (arc xs t).length), T ((arc xs t)[i]'(by omega)) → T (arc xs t)[i + d] := by
    intro i d
    induction d with
    | zero => intro _ h; exact h
    | succ d ih =>
      intro hd h
      have h' := hT _ (List.getElem_mem _) (ih (by omega) h)
      rw [arc_at hp h1 h2 hc (by omega), dif_pos (by omega)] at h'
      exact h'
  have hlast : T ((arc xs t)[(arc xs t).length - 1]'(by omega)) := by
    have := up j ((arc xs t).length - 1 - j) (by omega) hTx
    have e : j + ((arc xs t).length - 1 - j) = (arc xs t).length - 1 := by omega
    simpa only [e] using this
  have h0 : T ((arc xs t)[0]'(arc_pos xs t)) := by
    have h' := hT _ (List.getElem_mem _) hlast
    rw [arc_at hp h1 h2 hc (by omega), dif_neg (by omega)] at h'
    rw [arc_zero]; exact h'
  intro y hy
  obtain ⟨i, hi, rfl⟩ := List.mem_iff_getElem.1 hy
  have := up 0 i (by omega) h0
  simpa using this

theorem arc_uniq (hp : IsPerm xs) {s : Int} (h1 : 1 ≤ t) (h2 : t ≤ xs.length) (hc : Closing xs t) (s1 : 1 ≤ s) (s2 : s ≤ xs.length) (sc : Closing xs s) {x : Int} (hx : x ∈ arc xs t) (hy : x ∈ arc xs s) : s = t := by
  have a := arc_absorb hp h1 h2 hc (· ∈ arc xs s) (fun z _ hz => arc_closed hp s1 s2 sc hz) hx hy t (mem_arc_self xs t)
  have b := arc_absorb hp s1 s2 sc (· ∈ arc xs t) (fun z _ hz => arc_closed hp h1 h2 hc hz) hy hx s (mem_arc_self xs s)
  have := arc_le hp s1 s2 a
  have := arc_le hp h1 h2 b
  omega

theorem arc_cover (hp : IsPerm xs) : ∀ (d : Nat) (x : Int), 1 ≤ x → x ≤ xs.length → (xs.length : Int) - x ≤ d → ∃ t : Int, 1 ≤ t ∧ t ≤ xs.length ∧ Closing xs t ∧ x ∈ arc xs t := by
  intro d
  induction d using Nat.strongRecOn with
  | _ d ih =>
    intro x h1 h2 hd
    apply Classical.byContradiction
    intro hno
    obtain ⟨n, hpath, hge⟩ := arc_spec hp h1 h2
    -- what is not in a closed way goes on to what is not in one
    have hcl : ∀ z : Int, 1 ≤ z → z ≤ xs.length → (¬ ∃ t : Int, 1 ≤ t ∧ t ≤ xs.length ∧ Closing xs t ∧ z ∈ arc xs t) → ¬ ∃ t : Int, 1 ≤ t ∧ t ≤ xs.length ∧ Closing xs t ∧ at1 xs z ∈ arc xs t := by
      rintro z z1 z2 hz ⟨t, t1, t2, tc, hm⟩
      obtain ⟨y, hy, e⟩ := arc_pred hp t1 t2 tc hm
      have hr := arc_range hp t1 t2 hy
      have := hp.at1_inj hr.1 hr.2 z1 z2 e
      subst this
      exact hz ⟨t, t1, t2, tc, hy⟩
    have hall : ∀ (j : Nat) (hj : j < (arc xs x).length), ¬ ∃ t : Int, 1 ≤ t ∧ t ≤ xs.length ∧ Closing xs t ∧ (arc xs x)[j] ∈ arc xs t := by
      intro j
      induction j with
      | zero => intro hj; rw [arc_zero]; exact hno
      | succ j ihj =>
        intro hj
        rw [hpath.step j hj]
        have hr := hpath.range _ (List.getElem_mem (show j < (arc xs x).length by omega))
        exact hcl _ hr.1 hr.2 (ihj (by omega))
    have hap := arc_pos xs x
    have hl : (arc xs x).getLastD 0 = (arc xs x)[(arc xs x).length - 1] := getLastD_get (arc_pos xs x)
    have hr := hpath.range _ (List.getElem_mem (show (arc xs x).length - 1 < (arc xs x).length from by omega))
    have hn := hcl _ hr.1 hr.2 (hall _ (by have := arc_pos xs x; omega))
    rw [← hl, ← hpath.last] at hn
    have hnr := hpath.n_range hp
    by_cases e : n = x
    · refine hno ⟨x, h1, h2, ?_, mem_arc_self xs x⟩
      unfold Closing
      rw [← hpath.last]; exact e
    · exact hn (ih ((xs.length : Int) - n).toNat (by omega) n hnr.1 hnr.2 (by omega))

end

/-! What is told so far. -/

end Go.Proofs.YtpmkdihencepnaaGreat

/-
  Plain lists: as many numbers above all ahead as cycles that are met.
-/
namespace Go.Proofs.YtpmkdihencepnaaGreat

/-- How many closed ways there are outside of a set. -/
def left (xs : List Int) (S : Int → Bool) (t : Nat) : Nat := (List.range t).countP (fun i : Nat => decide (Closing xs ((i : Int) + 1)) && !S ((i : Int) + 1))

theorem countP_one {α : Type} {l : List α} {p q : α → Bool} {a : α} (hl : l.Nodup) (ha : a ∈ l) (h : ∀ x ∈ l, x ≠ a → p x = q x) (hp : p a = true) (hq : q a = false) : l.countP q + 1 = l.countP p := by
  induction l with
  | nil => cases ha
  | cons y l ih =>
    have hn := List.nodup_cons.1 hl
    rw [List.countP_cons, List.countP_cons]
    by_cases e : y = a
    · subst e
      have : l.countP p = l.countP q := List.countP_congr (fun x hx => by rw [h x (List.mem_cons_of_mem _ hx) (fun e => hn.1 (e ▸ hx))])
      simp [hp, hq, this]
    · have ha' : a ∈ l := by
        rcases List.mem_cons.1 ha with h | h
        · exact absurd h.symm e
        · exact h
      have := ih hn.2 ha' (fun x hx => h x (List.mem_cons_of_mem _ hx))
      rw [h y (by simp) e]
      omega

/-- Gone from i on, k is next. -/
structure Going (xs S : List Int) (i : Int) (l : List Int) (k : Int) : Prop where
  nodup : l.Nodup
  range : ∀ x ∈ l, 1 ≤ x ∧ x ≤ (xs.length : Int)
  krange : 1 ≤ k ∧ k ≤ (xs.length : Int)
  step : ∀ x ∈ l, at1 xs x ∈ l ∨ at1 xs x = k
  start : i ∈ l ∨ k = i
  inside : ∀ t : Int, 1 ≤ t → t ≤ xs.length → Closing xs t → i ∈ arc xs t → k ∈ arc xs t ∧ ∀ x ∈ l, x ∈ arc xs t

theorem Going.nil {xs S : List Int} {i : Int} (h1 : 1 ≤ i) (h2 : i ≤ xs.length) : Going xs S i [] i :=
  ⟨by simp, by simp, ⟨h1, h2⟩, by simp, .inr rfl, fun t _ _ _ h => ⟨h, by simp⟩⟩

theorem Going.next {xs S : List Int} {i k : Int} {l : List Int} (hp : IsPerm xs) (h : Going xs S i l k) (hk : k ∉ l) : Going xs S i (l ++ [k]) (at1 xs k) := by
  refine ⟨nodup_snoc.2 ⟨h.nodup, hk⟩, ?_, hp.at1_mem h.krange.1 h.krange.2, ?_, ?_, ?_⟩
  · intro x hx
    rcases List.mem_append.1 hx with hx | hx
    · exact h.range x hx
    · simp at hx; subst hx; exact h.krange
  · intro x hx
    rcases List.mem_append.1 hx with hx | hx
    · rcases h.step x hx with h1 | h1
      · left; simp [h1]
      · left; simp [h1]
    · simp at hx; subst hx; right; rfl
  · left
    rcases h.start with h1 | h1
    · simp [h1]
    · simp [h1]
  · intro t t1 t2 tc hi
    have := h.inside t t1 t2 tc hi
    refine ⟨arc_closed hp t1 t2 tc this.1, fun x hx => ?_⟩
    rcases List.mem_append.1 hx with hx | hx
    · exact this.2 x hx
    · simp at hx; subst hx; exact this.1

/-- The numbers that were seen: closed under the permutation. -/
def Shut (xs S : List Int) : Prop := ∀ x ∈ S, at1 xs x ∈ S

theorem Going.shut {xs S : List Int} {i k : Int} {l : List Int} (h : Going xs S i l k) (hS : Shut xs S) (hk : k ∈ S ++ l) : Shut xs (S ++ l) := by
  intro x hx
  rcases List.mem_append.1 hx with hx | hx
  · exact List.mem_append_left _ (hS x hx)
  · rcases h.step x hx with h1 | h1
    · exact List.mem_append_right _ h1
    · rw [h1]; exact hk

theorem Going.left {xs S : List Int} {i k : Int} {l : List Int} (hp : IsPerm xs) (h : Going xs S i l k) (hS : Shut xs S) (hk : k ∈ S ++ l) (h1 : 1 ≤ i) (h2 : i ≤ xs.length) (hi : i ∉ S) :
    left xs (fun x => decide (x ∈ S ++ l)) xs.length + 1 = left xs (fun x => decide (x ∈ S)) xs.length := by
  obtain ⟨t, t1, t2, tc, hit⟩ := arc_cover hp ((xs.length : Int) - i).toNat i h1 h2 (by omega)
  have hsh := h.shut hS hk
  have hiS : i ∈ S ++ l := by
    rcases h.start with h3 | h3
    · exact List.mem_append_right _ h3
    · rw [← h3]; exact hk
  have htS' : t ∈ S ++ l := arc_absorb hp t1 t2 tc (· ∈ S ++ l) (fun x _ hx => hsh x hx) hit hiS t (mem_arc_self xs t)
  have htS : t ∉ S := fun ht => hi (arc_absorb hp t1 t2 tc (· ∈ S) (fun x _ hx => hS x hx) (mem_arc_self xs t) ht i hit)
  have e : (((t - 1).toNat : Nat) : Int) + 1 = t := by omega
  refine countP_one (a := (t - 1).toNat) List.nodup_range (by simp; omega) ?_ ?_ ?_
  · intro j hj hne
    simp only [List.mem_range] at hj
    by_cases hc : Closing xs ((j : Int) + 1)
    · have hnl : ((j : Int) + 1) ∉ l := fun hm => by
        have := (h.inside t t1 t2 tc hit).2 _ hm
        have := arc_uniq hp t1 t2 tc (s := (j : Int) + 1) (by omega) (by omega) hc this (mem_arc_self xs _)
        omega
      have : ((j : Int) + 1 ∈ S ++ l) ↔ ((j : Int) + 1 ∈ S) := by
        rw [List.mem_append]
        exact ⟨fun h => h.elim id (fun h => absurd h hnl), Or.inl⟩
      simp only [this]
    · simp [hc]
  · simp only [e]; simp [tc, htS]
  · simp only [e]; simp only [htS', decide_true]; simp

end Go.Proofs.YtpmkdihencepnaaGreat
