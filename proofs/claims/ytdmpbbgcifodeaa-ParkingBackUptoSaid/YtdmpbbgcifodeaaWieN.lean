/-
  Plain: the loops of a matrix of alternating signs, the matrix of loops; a gyration face by face.
-/
import Derived.Test.YtdmpbbgcifodeaaWieH
import Derived.Test.YtdmpbbgcifodeaaSign1W
namespace Go.Proofs.Ytdmpbbgcifodeaa

/-- The loops of a matrix. -/
def lpC (m : List (List Int)) : Cf
  | .h i j => decide (rsum m i.toNat j.toNat = 1) == decide ((i + j - 1) % 2 = 0)
  | .v i j => decide (dsum m i.toNat j.toNat = 0) == decide ((i - 1 + j) % 2 = 0)

theorem two_pure {s0 s1 c0 c1 : Int} {e : Bool} (h : s1 - s0 = c1 - c0) (h0 : 0 ≤ s0 ∧ s0 ≤ 1) (h1 : 0 ≤ s1 ∧ s1 ≤ 1) (h2 : 0 ≤ c0 ∧ c0 ≤ 1) (h3 : 0 ≤ c1 ∧ c1 ≤ 1) :
    Two (decide (s0 = 1) == !e) (decide (c1 = 0) == e) (decide (s1 = 1) == e) (decide (c0 = 0) == !e) := by
  have e0 : s0 = 0 ∨ s0 = 1 := by omega
  have e1 : s1 = 0 ∨ s1 = 1 := by omega
  have e2 : c0 = 0 ∨ c0 = 1 := by omega
  have e3 : c1 = 0 ∨ c1 = 1 := by omega
  rcases e0 with rfl | rfl <;> rcases e1 with rfl | rfl <;> rcases e2 with rfl | rfl <;> rcases e3 with rfl | rfl <;> (first | (exfalso; omega) | (cases e <;> decide))
theorem lp_gdl {m : List (List Int)} {n : Nat} (h : IsSign m n) : GdL n (lpC m) 0 := by
  refine ⟨by have := h.pos; omega, .inl rfl, fun r q hi => ?_, fun k h0 h4 => ?_⟩
  · unfold Ins at hi
    obtain ⟨a, rfl⟩ : ∃ a : Nat, r = a := ⟨r.toNat, by omega⟩
    obtain ⟨b, rfl⟩ : ∃ b : Nat, q = b := ⟨q.toNat, by omega⟩
    have := two_pure (s0 := rsum m a b) (s1 := rsum m a (b + 1)) (c0 := dsum m a b) (c1 := dsum m (a + 1) b) (e := decide (((a : Int) + b) % 2 = 0)) (by rw [rsum_succ, dsum_succ]; omega)
      (h.row a b (by omega) (by omega)) (h.row a (b + 1) (by omega) (by omega)) (h.col a b (by omega) (by omega)) (h.col (a + 1) b (by omega) (by omega))
    have p1 : decide (((a : Int) + b - 1) % 2 = 0) = !decide (((a : Int) + b) % 2 = 0) := by
      by_cases c : ((a : Int) + b) % 2 = 0
      · rw [decide_eq_true c, decide_eq_false (by omega)]; rfl
      · rw [decide_eq_false c, decide_eq_true (by omega)]; rfl
    simp only [lpC]
    rw [show ((a : Int) + ((b : Int) + 1) - 1) = (a : Int) + b by omega, show ((a : Int) + 1 - 1 + b) = (a : Int) + b by omega, show ((a : Int) - 1 + b) = (a : Int) + b - 1 by omega, p1,
      show ((a : Int) + 1).toNat = a + 1 by omega, show ((b : Int) + 1).toNat = b + 1 by omega, Int.toNat_natCast, Int.toNat_natCast]
    exact this
  · have hn := h.pos
    by_cases c1 : k < n
    · rw [outer_h0 c1]
      simp only [lpC]
      rw [show rsum m k.toNat (0 : Int).toNat = 0 from rfl, show decide ((0 : Int) = 1) = false from rfl]
      by_cases c : k % 2 = 0
      · rw [decide_eq_true c, decide_eq_false (by omega)]; rfl
      · rw [decide_eq_false c, decide_eq_true (by omega)]; rfl
    · by_cases c2 : k < 2 * n
      · have e := outer_vn (n := (n : Int)) (j := k - n) (by omega) (by omega)
        rw [show (n : Int) + (k - n) = k by omega] at e
        rw [e]
        simp only [lpC]
        rw [Int.toNat_natCast, h.col1 _ (by omega), show decide ((1 : Int) = 0) = false from rfl]
        by_cases c : k % 2 = 0
        · rw [decide_eq_true c, decide_eq_false (by omega)]; rfl
        · rw [decide_eq_false c, decide_eq_true (by omega)]; rfl
      · by_cases c3 : k < 3 * n
        · have e := outer_hn (n := (n : Int)) (i := 3 * n - 1 - k) (by omega) (by omega)
          rw [show 3 * (n : Int) - 1 - (3 * n - 1 - k) = k by omega] at e
          rw [e]
          simp only [lpC]
          rw [Int.toNat_natCast, h.row1 _ (by omega), show decide ((1 : Int) = 1) = true from rfl]
          by_cases c : k % 2 = 0
          · rw [decide_eq_true c, decide_eq_true (by omega)]; rfl
          · rw [decide_eq_false c, decide_eq_false (by omega)]; rfl
        · have e := outer_v0 (n := (n : Int)) (j := 4 * n - 1 - k) (by omega) (by omega)
          rw [show 4 * (n : Int) - 1 - (4 * n - 1 - k) = k by omega] at e
          rw [e]
          simp only [lpC]
          rw [show dsum m (0 : Int).toNat (4 * (n : Int) - 1 - k).toNat = 0 from rfl, show decide ((0 : Int) = 0) = true from rfl]
          by_cases c : k % 2 = 0
          · rw [decide_eq_true c, decide_eq_true (by omega)]; rfl
          · rw [decide_eq_false c, decide_eq_false (by omega)]; rfl

/-- What stands so far in a row, told by its lines; likewise in a column. -/
def sOf (Y : Cf) (i j : Nat) : Int := if Y (.h i j) = decide (((i : Int) + j - 1) % 2 = 0) then 1 else 0
def cOf (Y : Cf) (i j : Nat) : Int := if Y (.v i j) = decide (((i : Int) - 1 + j) % 2 = 0) then 0 else 1
def matRow (n : Nat) (Y : Cf) (i : Nat) : List Int := (List.range n).map (fun j => sOf Y i (j + 1) - sOf Y i j)
def matOf (n : Nat) (Y : Cf) : List (List Int) := (List.range n).map (matRow n Y)
theorem matOf_sq (n : Nat) (Y : Cf) : IsSq (matOf n Y) n := by
  refine ⟨by simp [matOf], fun r hr => ?_⟩
  obtain ⟨i, _, rfl⟩ := List.mem_map.1 hr
  simp [matRow]
theorem matOf_ent {n : Nat} {Y : Cf} {i j : Nat} (hi : i < n) (hj : j < n) : ent (matOf n Y) i j = sOf Y i (j + 1) - sOf Y i j := by
  unfold ent matOf
  rw [List.getD_eq_getElem?_getD]
  simp [hi, matRow, hj]
section
variable {n : Nat} {Y : Cf}
theorem sOf_zero (hY : GdL n Y 0) {i : Nat} (hi : i < n) : sOf Y i 0 = 0 := by
  have := hY.bnd i (by omega) (by omega)
  rw [outer_h0 (by omega)] at this
  unfold sOf
  rw [show (((0 : Nat) : Int)) = 0 from rfl, this]
  by_cases c : (i : Int) % 2 = 0
  · rw [decide_eq_true c, decide_eq_false (by omega)]; rfl
  · rw [decide_eq_false c, decide_eq_true (by omega)]; rfl
theorem sOf_full (hY : GdL n Y 0) {i : Nat} (hi : i < n) : sOf Y i n = 1 := by
  have := hY.bnd (3 * n - 1 - i) (by omega) (by omega)
  rw [outer_hn (by omega) (by omega)] at this
  unfold sOf
  rw [this]
  by_cases c : (3 * (n : Int) - 1 - i) % 2 = 0
  · rw [decide_eq_true c, decide_eq_true (by omega)]; rfl
  · rw [decide_eq_false c, decide_eq_false (by omega)]; rfl
theorem cOf_zero (hY : GdL n Y 0) {j : Nat} (hj : j < n) : cOf Y 0 j = 0 := by
  have := hY.bnd (4 * n - 1 - j) (by omega) (by omega)
  rw [outer_v0 (by omega) (by omega)] at this
  unfold cOf
  rw [show (((0 : Nat) : Int)) = 0 from rfl, this]
  by_cases c : (4 * (n : Int) - 1 - j) % 2 = 0
  · rw [decide_eq_true c, decide_eq_true (by omega)]; rfl
  · rw [decide_eq_false c, decide_eq_false (by omega)]; rfl
theorem cOf_full (hY : GdL n Y 0) {j : Nat} (hj : j < n) : cOf Y n j = 1 := by
  have := hY.bnd (n + j) (by omega) (by omega)
  rw [outer_vn (by omega) (by omega)] at this
  unfold cOf
  rw [this]
  by_cases c : ((n : Int) + j) % 2 = 0
  · rw [decide_eq_true c, decide_eq_false (by omega)]; rfl
  · rw [decide_eq_false c, decide_eq_true (by omega)]; rfl
theorem box_pure {x0 x1 x2 x3 e : Bool} (h : Two x0 x1 x2 x3) : ((if x2 = e then (1 : Int) else 0) - (if x0 = !e then 1 else 0)) = ((if x1 = e then (0 : Int) else 1) - (if x3 = !e then 0 else 1)) := by
  revert h; revert x0 x1 x2 x3 e; decide
theorem box_sum (hY : GdL n Y 0) {i j : Nat} (hi : i < n) (hj : j < n) : sOf Y i (j + 1) - sOf Y i j = cOf Y (i + 1) j - cOf Y i j := by
  have := box_pure (e := decide (((i : Int) + j) % 2 = 0)) (hY.two i j (by unfold Ins; omega))
  have p1 : decide (((i : Int) + j - 1) % 2 = 0) = !decide (((i : Int) + j) % 2 = 0) := by
    by_cases c : ((i : Int) + j) % 2 = 0
    · rw [decide_eq_true c, decide_eq_false (by omega)]; rfl
    · rw [decide_eq_false c, decide_eq_true (by omega)]; rfl
  unfold sOf cOf
  rw [show (((j + 1 : Nat) : Int)) = (j : Int) + 1 by omega, show (((i + 1 : Nat) : Int)) = (i : Int) + 1 by omega, show ((i : Int) + ((j : Int) + 1) - 1) = (i : Int) + j by omega,
    show ((i : Int) + 1 - 1 + j) = (i : Int) + j by omega, show ((i : Int) - 1 + j) = (i : Int) + j - 1 by omega, p1]
  exact this
theorem mat_rsum (hY : GdL n Y 0) {i : Nat} (hi : i < n) : ∀ j, j ≤ n → rsum (matOf n Y) i j = sOf Y i j
  | 0, _ => (sOf_zero hY hi).symm
  | j + 1, hj => by rw [rsum_succ, mat_rsum hY hi j (by omega), matOf_ent hi (by omega)]; omega
theorem mat_dsum (hY : GdL n Y 0) {j : Nat} (hj : j < n) : ∀ i, i ≤ n → dsum (matOf n Y) i j = cOf Y i j
  | 0, _ => (cOf_zero hY hj).symm
  | i + 1, hi => by rw [dsum_succ, mat_dsum hY hj i (by omega), matOf_ent (by omega) hj, box_sum hY (by omega) hj]; omega
theorem mat_sign (hn : 1 ≤ n) (hY : GdL n Y 0) : IsSign (matOf n Y) n := by
  refine ⟨matOf_sq n Y, hn, fun i j hi hj => ?_, fun i hi => ?_, fun i j hi hj => ?_, fun j hj => ?_⟩
  · rw [mat_rsum hY hi j hj]; unfold sOf; split <;> omega
  · rw [mat_rsum hY hi n (Nat.le_refl _), sOf_full hY hi]
  · rw [mat_dsum hY hj i hi]; unfold cOf; split <;> omega
  · rw [mat_dsum hY hj n (Nat.le_refl _), cOf_full hY hj]
/-- The matrix read back has these loops. -/
theorem mat_lp (hY : GdL n Y 0) : ∀ e, Is n e → lpC (matOf n Y) e = Y e := by
  intro e he
  cases e with
  | h i j =>
    simp only [Is] at he
    obtain ⟨a, rfl⟩ : ∃ a : Nat, i = a := ⟨i.toNat, by omega⟩
    obtain ⟨b, rfl⟩ : ∃ b : Nat, j = b := ⟨j.toNat, by omega⟩
    have h1 := mat_rsum hY (i := a) (by omega) b (by omega)
    simp only [lpC, Int.toNat_natCast, h1]
    unfold sOf
    cases Y (.h a b) <;> cases decide (((a : Int) + b - 1) % 2 = 0) <;> rfl
  | v i j =>
    simp only [Is] at he
    obtain ⟨a, rfl⟩ : ∃ a : Nat, i = a := ⟨i.toNat, by omega⟩
    obtain ⟨b, rfl⟩ : ∃ b : Nat, j = b := ⟨j.toNat, by omega⟩
    have h1 := mat_dsum hY (j := b) (by omega) a (by omega)
    simp only [lpC, Int.toNat_natCast, h1]
    unfold cOf
    cases Y (.v a b) <;> cases decide (((a : Int) - 1 + b) % 2 = 0) <;> rfl
end

/-! Only the edges that there are count. -/
section
variable {n s : Int} {X Y : Cf}
theorem box_is {r q : Int} (hi : Ins n r q) : Is n (.h r q) ∧ Is n (.v (r + 1) q) ∧ Is n (.h r (q + 1)) ∧ Is n (.v r q) := by
  unfold Ins at hi; simp only [Is]; omega
theorem nx_same (h : ∀ e, Is n e → X e = Y e) {d : Dt} (hi : Ins n d.r d.q) : nx X d = nx Y d := by
  obtain ⟨a, b, c, e⟩ := box_is hi
  have : wyAt X d.r d.q d.c = wyAt Y d.r d.q d.c := by unfold wyAt; rw [h _ a, h _ b, h _ c, h _ e]
  unfold nx
  rw [this]
theorem it_same (h : ∀ e, Is n e → X e = Y e) {d : Dt} : ∀ M, (∀ t, t < M → Ins n (it X d t).r (it X d t).q) → it X d M = it Y d M
  | 0, _ => rfl
  | M + 1, hi => by
    change nx X (it X d M) = nx Y (it Y d M)
    rw [nx_same h (hi M (by omega)), it_same h M (fun t ht => hi t (by omega))]
theorem Lnk.same (h : ∀ e, Is n e → X e = Y e) {k k' : Int} (hL : Lnk n X k k') : Lnk n Y k k' := by
  obtain ⟨M, ⟨h1, h2⟩, e⟩ := hL
  have hs : ∀ t, t ≤ M → it X (gin n k) t = it Y (gin n k) t := fun t ht => it_same h t (fun u hu => h1 u (by omega))
  refine ⟨M, ⟨fun t ht => ?_, ?_⟩, ?_⟩
  · rw [← hs t (by omega)]; exact h1 t ht
  · rw [← hs M (Nat.le_refl _)]; exact h2
  · rw [← hs M (Nat.le_refl _)]; exact e

/-! Face by face. -/

/-- The faces before (a, b) are done. -/
def prog (n p : Int) (X : Cf) (a b : Int) : Cf := fun e => if fcR p e < a ∨ (fcR p e = a ∧ fcQ p e < b) then gy n p X e else X e
variable {p : Int}
theorem fc_par (hp : p = 0 ∨ p = 1) (e : Ed) : (fcR p e + fcQ p e) % 2 = p := by
  cases e <;> simp only [fcR, fcQ] <;> split <;> omega
theorem gy_noalt {e : Ed} (h : alt n X (fcR p e) (fcQ p e) = false) : gy n p X e = X e := by unfold gy; rw [h]; rfl
theorem prog_start : prog n p X 0 0 = X := by
  funext e
  unfold prog
  split
  · exact gy_noalt (alt_edge (by omega))
  · rfl
theorem prog_end : prog n p X (n - 1) 0 = gy n p X := by
  funext e
  unfold prog
  split
  · rfl
  · exact (gy_noalt (alt_edge (by omega))).symm
theorem prog_row {a : Int} : prog n p X a (n - 1) = prog n p X (a + 1) 0 := by
  funext e
  unfold prog
  by_cases c : fcR p e < a ∨ (fcR p e = a ∧ fcQ p e < n - 1)
  · rw [if_pos c, if_pos (by omega)]
  · rw [if_neg c]
    split
    · exact (gy_noalt (alt_edge (by omega))).symm
    · rfl
theorem prog_skip (hp : p = 0 ∨ p = 1) {a b : Int} (h : (a + b) % 2 ≠ p) : prog n p X a (b + 1) = prog n p X a b := by
  funext e
  have := fc_par hp e
  unfold prog
  by_cases c : fcR p e < a ∨ (fcR p e = a ∧ fcQ p e < b)
  · rw [if_pos c, if_pos (by omega)]
  · rw [if_neg c, if_neg (fun c2 => c (by
      rcases c2 with c2 | ⟨c2, c3⟩
      · exact .inl c2
      · right
        refine ⟨c2, ?_⟩
        rcases Int.lt_or_le (fcQ p e) b with c4 | c4
        · exact c4
        · exfalso
          have e1 : fcQ p e = b := by omega
          rw [c2, e1] at this
          exact h this))]
/-- The four edges of a face. -/
def four (a b : Int) (e : Ed) : Prop := e = .h a (b + 1) ∨ e = .h (a + 1) (b + 1) ∨ e = .v (a + 1) b ∨ e = .v (a + 1) (b + 1)
theorem fc_four (_ : p = 0 ∨ p = 1) {a b : Int} (h : (a + b) % 2 = p) (e : Ed) : (fcR p e = a ∧ fcQ p e = b) ↔ four a b e := by
  unfold four
  cases e with
  | h i j =>
    simp only [fcR, fcQ, Ed.h.injEq, reduceCtorEq, or_false]
    split <;> omega
  | v i j =>
    simp only [fcR, fcQ, Ed.v.injEq, reduceCtorEq, false_or]
    split <;> omega
theorem prog_four (hp : p = 0 ∨ p = 1) {a b : Int} (h : (a + b) % 2 = p) {e : Ed} (he : four a b e) : prog n p X a b e = X e := by
  have := (fc_four hp h e).2 he
  unfold prog
  rw [if_neg (by omega)]
/-- A face by turns: its four edges are turned over. -/
theorem prog_turn (hp : p = 0 ∨ p = 1) {a b : Int} (h : (a + b) % 2 = p) (ha : alt n X a b = true) (e : Ed) :
    (four a b e → prog n p X a (b + 1) e = !prog n p X a b e) ∧ (¬ four a b e → prog n p X a (b + 1) e = prog n p X a b e) := by
  constructor
  · intro he
    obtain ⟨e1, e2⟩ := (fc_four hp h e).2 he
    rw [prog_four hp h he]
    unfold prog gy
    rw [if_pos (by omega), e1, e2, ha]
    rfl
  · intro he
    have e3 : ¬ (fcR p e = a ∧ fcQ p e = b) := fun c => he ((fc_four hp h e).1 c)
    unfold prog
    by_cases c : fcR p e < a ∨ (fcR p e = a ∧ fcQ p e < b)
    · rw [if_pos c, if_pos (by omega)]
    · rw [if_neg c, if_neg (by omega)]
theorem prog_stay (hp : p = 0 ∨ p = 1) {a b : Int} (h : (a + b) % 2 = p) (ha : alt n X a b = false) : prog n p X a (b + 1) = prog n p X a b := by
  funext e
  by_cases he : four a b e
  · obtain ⟨e1, e2⟩ := (fc_four hp h e).2 he
    rw [prog_four hp h he]
    unfold prog
    rw [if_pos (by omega)]
    exact gy_noalt (by rw [e1, e2]; exact ha)
  · have e3 : ¬ (fcR p e = a ∧ fcQ p e = b) := fun c => he ((fc_four hp h e).1 c)
    unfold prog
    by_cases c : fcR p e < a ∨ (fcR p e = a ∧ fcQ p e < b)
    · rw [if_pos c, if_pos (by omega)]
    · rw [if_neg c, if_neg (by omega)]
end

/-- The matrix gyrated. -/
def gyrM (m : List (List Int)) : List (List Int) := matOf m.length (gyr m.length (lpC m))
theorem gyrM_lnk {m : List (List Int)} (h : IsSign m m.length) {k k' : Int} (h0 : 0 ≤ k) (h4 : k < 4 * m.length) (hk : k % 2 = 0) (hL : Lnk m.length (lpC m) k k') :
    Lnk m.length (lpC (gyrM m)) ((k + 4 * m.length - 2) % (4 * m.length)) ((k' + 4 * m.length - 2) % (4 * m.length)) := by
  obtain ⟨g, hw⟩ := wieland (lp_gdl h) h0 h4 hk hL
  exact hw.same (fun e he => (mat_lp g e he).symm)
theorem gyr_gdl {m : List (List Int)} (h : IsSign m m.length) : GdL m.length (gyr m.length (lpC m)) 0 := by
  have h1 := half_gdl (p := 0) (lp_gdl h) (.inl rfl)
  have h2 := half_gdl (p := 1) h1 (.inr rfl)
  rw [gyr_half]
  exact h2
theorem gyrM_sign {m : List (List Int)} (h : IsSign m m.length) : IsSign (gyrM m) m.length := mat_sign h.pos (gyr_gdl h)
end Go.Proofs.Ytdmpbbgcifodeaa
