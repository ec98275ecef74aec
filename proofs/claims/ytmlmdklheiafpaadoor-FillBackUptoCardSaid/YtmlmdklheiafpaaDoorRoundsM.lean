/-
  Plain lists: the cycles of a permutation, one behind the other, each from its greatest number on (no program in sight).
-/
import Derived.Test.YtmlmdklheiafpaaDoorBase
namespace Go.Proofs.YtmlmdklheiafpaaDoor

def IsPerm (xs : List Int) : Prop := xs.Nodup ∧ ∀ x ∈ xs, 1 ≤ x ∧ x ≤ (xs.length : Int)
instance (xs : List Int) : Decidable (IsPerm xs) := by unfold IsPerm; infer_instance

/-- The image of n, counted from 1. -/
def at1 (xs : List Int) (n : Int) : Int := xs.getD (n - 1).toNat 0

theorem at1_get {xs : List Int} {k : Nat} (h : k < xs.length) : at1 xs ((k : Int) + 1) = xs[k] := by
  have e : ((k : Int) + 1 - 1).toNat = k := by omega
  simp only [at1, e]
  exact getD_get h

theorem IsPerm.at1_mem {xs : List Int} (h : IsPerm xs) {n : Int} (h1 : 1 ≤ n) (h2 : n ≤ xs.length) : 1 ≤ at1 xs n ∧ at1 xs n ≤ xs.length := by
  have hk : (n - 1).toNat < xs.length := by omega
  have e : at1 xs n = xs[(n - 1).toNat] := getD_get hk
  rw [e]
  exact h.2 _ (List.getElem_mem hk)

theorem IsPerm.at1_inj {xs : List Int} (h : IsPerm xs) {a b : Int} (a1 : 1 ≤ a) (a2 : a ≤ xs.length) (b1 : 1 ≤ b) (b2 : b ≤ xs.length) (e : at1 xs a = at1 xs b) : a = b := by
  have ha : (a - 1).toNat < xs.length := by omega
  have hb : (b - 1).toNat < xs.length := by omega
  have ea : at1 xs a = xs[(a - 1).toNat] := getD_get ha
  have eb : at1 xs b = xs[(b - 1).toNat] := getD_get hb
  rw [ea, eb] at e
  have := nodup_get h.1 ha hb e
  omega

/-- As many different numbers from 1 to n as there may be. -/
theorem nodup_bound {L : List Int} {n : Nat} (h : L.Nodup) (hr : ∀ x ∈ L, 1 ≤ x ∧ x ≤ (n : Int)) : L.length ≤ n := by
  have hs : L ⊆ (List.range n).map (fun i : Nat => (i : Int) + 1) := by
    intro x hx
    have := hr x hx
    exact List.mem_map.2 ⟨(x - 1).toNat, by simp; omega, by omega⟩
  have := h.length_le_of_subset hs
  simpa using this

def chain (xs : List Int) (top : Int) : Nat → Int → List Int
  | 0, _ => []
  | f + 1, n => if n ≠ top ∧ n < top then n :: chain xs top f (at1 xs n) else []

def arc (xs : List Int) (top : Int) : List Int := top :: chain xs top xs.length (at1 xs top)

def roundsTo (xs : List Int) : Nat → List Int
  | 0 => []
  | t + 1 => roundsTo xs t ++ (if at1 xs ((arc xs (t + 1)).getLastD 0) = (t : Int) + 1 then arc xs (t + 1) else [])

def roundsOf (xs : List Int) : List Int := roundsTo xs xs.length

theorem chain_stop {xs : List Int} {top n : Int} (f : Nat) (h : ¬ (n ≠ top ∧ n < top)) : chain xs top f n = [] := by
  cases f with
  | zero => rfl
  | succ f => rw [chain, if_neg h]

theorem chain_go {xs : List Int} {top n : Int} (f : Nat) (h : n ≠ top ∧ n < top) : chain xs top (f + 1) n = n :: chain xs top f (at1 xs n) := by
  rw [chain, if_pos h]

/-- What goes from top on by the permutation, not back at top: no number comes twice. -/
structure Path (xs : List Int) (top : Int) (l : List Int) (n : Int) : Prop where
  head : l.head? = some top
  step : ∀ i (h : i + 1 < l.length), l[i + 1] = at1 xs (l[i]'(by omega))
  low : ∀ i (h : i + 1 < l.length), l[i + 1] < top
  last : n = at1 xs (l.getLastD 0)
  range : ∀ x ∈ l, 1 ≤ x ∧ x ≤ (xs.length : Int)

theorem Path.ne {xs : List Int} {top n : Int} {l : List Int} (h : Path xs top l n) : l ≠ [] := by
  intro e; have := h.head; simp [e] at this

theorem Path.pos {xs : List Int} {top n : Int} {l : List Int} (h : Path xs top l n) : 0 < l.length := List.length_pos_iff.2 h.ne

theorem Path.zero {xs : List Int} {top n : Int} {l : List Int} (h : Path xs top l n) : l[0]'h.pos = top := by
  have := h.head
  rw [List.head?_eq_getElem?, List.getElem?_eq_getElem h.pos] at this
  exact Option.some.inj this

theorem Path.start {xs : List Int} {top : Int} (h1 : 1 ≤ top) (h2 : top ≤ xs.length) : Path xs top [top] (at1 xs top) :=
  ⟨rfl, fun i h => by simp at h, fun i h => by simp at h, rfl, fun x hx => by simp at hx; omega⟩

theorem Path.next {xs : List Int} {top n : Int} {l : List Int} (hp : IsPerm xs) (h : Path xs top l n) (hn : n < top) : Path xs top (l ++ [n]) (at1 xs n) := by
  have hpos := h.pos
  have hlast : l.getLastD 0 = l[l.length - 1] := getLastD_get hpos
  have hmem : 1 ≤ n ∧ n ≤ (xs.length : Int) := by
    rw [h.last, hlast]
    have := h.range _ (List.getElem_mem (show l.length - 1 < l.length by omega))
    exact hp.at1_mem this.1 this.2
  refine ⟨?_, ?_, ?_, by simp, ?_⟩
  · rw [List.head?_append, h.head]; rfl
  · intro i hi
    simp only [List.length_append, List.length_cons, List.length_nil] at hi
    by_cases hl : i + 1 < l.length
    · rw [List.getElem_append_left hl, List.getElem_append_left (by omega)]
      exact h.step i hl
    · have e : i + 1 = l.length := by omega
      rw [List.getElem_append_right (by omega), List.getElem_append_left (by omega)]
      simp only [e, Nat.sub_self, List.getElem_cons_zero]
      rw [h.last, hlast]
      congr 2
      omega
  · intro i hi
    simp only [List.length_append, List.length_cons, List.length_nil] at hi
    by_cases hl : i + 1 < l.length
    · rw [List.getElem_append_left hl]
      exact h.low i hl
    · have e : i + 1 = l.length := by omega
      rw [List.getElem_append_right (by omega)]
      simp only [e, Nat.sub_self, List.getElem_cons_zero]
      exact hn
  · intro x hx
    rcases List.mem_append.1 hx with hx | hx
    · exact h.range x hx
    · simp at hx; omega

theorem Path.nodup {xs : List Int} {top n : Int} {l : List Int} (hp : IsPerm xs) (h : Path xs top l n) : l.Nodup := by
  have key : ∀ (i j : Nat) (hi : i < l.length) (hj : j < l.length), i < j → l[i] ≠ l[j] := by
    intro i
    induction i with
    | zero =>
      intro j hi hj hij e
      obtain ⟨j, rfl⟩ : ∃ m, j = m + 1 := ⟨j - 1, by omega⟩
      have := h.low j hj
      rw [← e, h.zero] at this
      omega
    | succ i ih =>
      intro j hi hj hij e
      obtain ⟨j, rfl⟩ : ∃ m, j = m + 1 := ⟨j - 1, by omega⟩
      rw [h.step i hi, h.step j hj] at e
      have r1 := h.range _ (List.getElem_mem (show i < l.length by omega))
      have r2 := h.range _ (List.getElem_mem (show j < l.length by omega))
      exact ih j (by omega) (by omega) (by omega) (hp.at1_inj r1.1 r1.2 r2.1 r2.2 e)
  rw [List.nodup_iff_pairwise_ne, List.pairwise_iff_getElem]
  intro i j hi hj hij
  exact key i j hi hj hij

theorem Path.length_le {xs : List Int} {top n : Int} {l : List Int} (hp : IsPerm xs) (h : Path xs top l n) : l.length ≤ xs.length :=
  nodup_bound (h.nodup hp) h.range

theorem Path.n_range {xs : List Int} {top n : Int} {l : List Int} (hp : IsPerm xs) (h : Path xs top l n) : 1 ≤ n ∧ n ≤ (xs.length : Int) := by
  have hpos := h.pos
  have hlast : l.getLastD 0 = l[l.length - 1] := getLastD_get hpos
  rw [h.last, hlast]
  have := h.range _ (List.getElem_mem (show l.length - 1 < l.length by omega))
  exact hp.at1_mem this.1 this.2

theorem Path.chain {xs : List Int} {top : Int} (hp : IsPerm xs) : ∀ (f : Nat) (l : List Int) (n : Int), Path xs top l n → ∃ n', Path xs top (l ++ chain xs top f n) n'
  | 0, l, n, h => ⟨n, by simpa [Proofs.YtmlmdklheiafpaaDoor.chain] using h⟩
  | f + 1, l, n, h => by
    by_cases hc : n ≠ top ∧ n < top
    · rw [chain_go _ hc]
      obtain ⟨n', h'⟩ := Path.chain hp f (l ++ [n]) (at1 xs n) (h.next hp hc.2)
      exact ⟨n', by simpa using h'⟩
    · rw [chain_stop _ hc]
      exact ⟨n, by simpa using h⟩

theorem arc_path {xs : List Int} {top : Int} (hp : IsPerm xs) (h1 : 1 ≤ top) (h2 : top ≤ xs.length) : ∃ n, Path xs top (arc xs top) n :=
  Path.chain hp xs.length [top] _ (Path.start h1 h2)

theorem roundsTo_le {xs : List Int} (hp : IsPerm xs) : ∀ t, t ≤ xs.length → (roundsTo xs t).length ≤ t * xs.length
  | 0, _ => by simp [roundsTo]
  | t + 1, h => by
    have ih := roundsTo_le hp t (by omega)
    rw [roundsTo, List.length_append, Nat.add_mul]
    split
    · obtain ⟨n, hn⟩ := arc_path (top := (t : Int) + 1) hp (by omega) (by omega)
      have := hn.length_le hp
      omega
    · simp; omega

/-! The other way: a list, cut before each number that is above all ahead. -/

/-- The greatest of the first k + 1 numbers. -/
def topTo (q : List Int) (k : Nat) : Int := (q.take (k + 1)).foldl max 0
/-- What the number at place k goes to. -/
def nxt (q : List Int) (k : Nat) : Int := if q.getD (k + 1) 100 < topTo q k then q.getD (k + 1) 100 else topTo q k

theorem foldl_max_ge (l : List Int) : ∀ a, a ≤ l.foldl max a ∧ ∀ x ∈ l, x ≤ l.foldl max a := by
  induction l with
  | nil => intro a; simp
  | cons y l ih =>
    intro a
    have h := ih (max a y)
    simp only [List.foldl_cons]
    refine ⟨by omega, fun x hx => ?_⟩
    rcases List.mem_cons.1 hx with rfl | hx
    · omega
    · exact h.2 x hx

theorem foldl_max_mem (l : List Int) : ∀ a, l.foldl max a = a ∨ l.foldl max a ∈ l := by
  induction l with
  | nil => intro a; simp
  | cons y l ih =>
    intro a
    simp only [List.foldl_cons]
    rcases ih (max a y) with h | h
    · rw [h]
      by_cases hay : a ≤ y
      · right; rw [Int.max_eq_right hay]; simp
      · left; rw [Int.max_eq_left (by omega)]
    · right; exact List.mem_cons_of_mem _ h

/-- It is that number which stands there and is not below any. -/
theorem topTo_eq {q : List Int} {k i : Nat} (hk : k < q.length) (hi : i ≤ k) (h0 : 0 ≤ q.getD i 0) (h : ∀ j, j ≤ k → q.getD j 0 ≤ q.getD i 0) : topTo q k = q.getD i 0 := by
  unfold topTo
  have h1 := foldl_max_ge (q.take (k + 1)) 0
  have hil : i < q.length := by omega
  have hmem : q.getD i 0 ∈ q.take (k + 1) := by
    rw [getD_get hil, List.mem_take_iff_getElem]
    exact ⟨i, by omega, rfl⟩
  have h2 := h1.2 _ hmem
  rcases foldl_max_mem (q.take (k + 1)) 0 with h3 | h3
  · omega
  · obtain ⟨j, hj, e⟩ := List.mem_take_iff_getElem.1 h3
    have := h j (by omega)
    rw [getD_get (show j < q.length by omega), e] at this
    omega

theorem IsPerm.getD_range {q : List Int} (hp : IsPerm q) {k : Nat} (hk : k < q.length) : 1 ≤ q.getD k 0 ∧ q.getD k 0 ≤ q.length := by
  rw [getD_get hk]; exact hp.2 _ (List.getElem_mem hk)

theorem IsPerm.getD_inj {q : List Int} (hp : IsPerm q) {j k : Nat} (hj : j < q.length) (hk : k < q.length) (e : q.getD j 0 = q.getD k 0) : j = k := by
  rw [getD_get hj, getD_get hk] at e
  exact nodup_get hp.1 hj hk e

/-- From i on to t: a number above all ahead, and those behind it that are below it. -/
structure IsBlock (q : List Int) (i t : Nat) : Prop where
  perm : IsPerm q
  n40 : q.length ≤ 40
  lt : i < q.length
  it : i < t
  tl : t ≤ q.length
  recd : ∀ j, j < i → q.getD j 0 < q.getD i 100
  low : ∀ j, i < j → j < t → q.getD j 0 < q.getD i 0
  stop : t = q.length ∨ q.getD i 0 ≤ q.getD t 0

theorem IsBlock.le {q : List Int} {i t : Nat} (h : IsBlock q i t) {j : Nat} (hj : j < t) : q.getD j 0 ≤ q.getD i 0 := by
  have hi := h.lt
  rcases Nat.lt_trichotomy j i with h1 | h1 | h1
  · have := h.recd j h1
    rw [getD_get hi] at this ⊢
    omega
  · subst h1; omega
  · have := h.low j h1 hj; omega

theorem IsBlock.top {q : List Int} {i t : Nat} (h : IsBlock q i t) {k : Nat} (hik : i ≤ k) (hkt : k < t) : topTo q k = q.getD i 0 := by
  have hr := h.perm.getD_range h.lt
  have htl := h.tl
  exact topTo_eq (by omega) hik (by omega) (fun j hj => h.le (by omega))

theorem IsBlock.nxt {q : List Int} {i t : Nat} (h : IsBlock q i t) {k : Nat} (hik : i ≤ k) (hkt : k < t) :
    Proofs.YtmlmdklheiafpaaDoor.nxt q k = if k + 1 < t then q.getD (k + 1) 0 else q.getD i 0 := by
  have ht := h.top hik hkt
  have hr := h.perm.getD_range h.lt
  have htl := h.tl
  have hn := h.n40
  unfold Proofs.YtmlmdklheiafpaaDoor.nxt
  rw [ht]
  by_cases h1 : k + 1 < t
  · have hl : k + 1 < q.length := by omega
    have := h.low (k + 1) (by omega) h1
    rw [getD_get hl] at this
    rw [if_pos h1, getD_get hl, getD_get hl, if_pos this]
  · rw [if_neg h1]
    have e : k + 1 = t := by omega
    rw [e]
    by_cases hl : t < q.length
    · rcases h.stop with hs | hs
      · omega
      · rw [getD_get hl] at hs
        rw [getD_get hl, if_neg (by omega)]
    · rw [getD_far (by omega), if_neg (by omega)]

theorem IsBlock.next {q : List Int} {i t : Nat} (h : IsBlock q i t) : ∀ j, j < t → q.getD j 0 < q.getD t 100 := by
  intro j hj
  have hn := h.n40
  have htl := h.tl
  have hit := h.it
  have hjl : j < q.length := by omega
  have hr := h.perm.getD_range hjl
  by_cases hl : t < q.length
  · have hs : q.getD i 0 ≤ q.getD t 0 := by
      rcases h.stop with h | h
      · omega
      · exact h
    have hne : q.getD i 0 ≠ q.getD t 0 := fun e => by
      have := h.perm.getD_inj h.lt hl e; omega
    have hji := h.le hj
    have : q.getD t 100 = q.getD t 0 := by rw [getD_get hl, getD_get hl]
    omega
  · rw [getD_far (d := 100) (by omega)]; omega

/-- One more number is told where it goes. -/
theorem done_step {q zs : List Int} (hp : IsPerm q) (hz : zs.length = q.length) {k : Nat} (hk : k < q.length) (hd : ∀ j, j < k → at1 zs (q.getD j 0) = nxt q j) {v : Int} (hv : v = nxt q k) :
    ∀ j, j < k + 1 → at1 (zs.set ((q.getD k 0).toNat - 1) v) (q.getD j 0) = nxt q j := by
  intro j hj
  have hjl : j < q.length := by omega
  have hrj : 1 ≤ q.getD j 0 ∧ q.getD j 0 ≤ q.length := by rw [getD_get hjl]; exact hp.2 _ (List.getElem_mem hjl)
  have hrk : 1 ≤ q.getD k 0 ∧ q.getD k 0 ≤ q.length := by rw [getD_get hk]; exact hp.2 _ (List.getElem_mem hk)
  have hl1 : (q.getD j 0 - 1).toNat < (zs.set ((q.getD k 0).toNat - 1) v).length := by simp only [List.length_set]; omega
  unfold at1
  rw [getD_get hl1, List.getElem_set]
  by_cases he : j = k
  · subst he
    rw [if_pos (by omega)]; exact hv
  · have hne : q.getD j 0 ≠ q.getD k 0 := fun e => he (by
      rw [getD_get hjl, getD_get hk] at e
      exact nodup_get hp.1 hjl hk e)
    rw [if_neg (by omega)]
    have := hd j (by omega)
    unfold at1 at this
    rw [getD_get (by omega)] at this
    exact this

end Go.Proofs.YtmlmdklheiafpaaDoor
