/-
  Plain: good chains of strips (STEMBRIDGE's way): counted by a signed sum over all chains; so two counts one after the other do not hang on their order.
-/
import Derived.Test.YtidnpmkdajicjaaDoorLrK
namespace Go.Proofs.YtidnpmkdajicjaaDoor.LR

def U (R M : Nat) : List Nat → Nat → List Nat → List (List (List Nat))
  | a, 0, e => if a = e then [[]] else []
  | a, k + 1, e => ((shapes R M).filter (fun q => decide (HS R a q))).flatMap (fun q => (U R M q k e).map (q :: ·))
def Ch (R : Nat) : List Nat → List (List Nat) → List Nat → Prop
  | a, [], e => a = e
  | a, q :: X, e => HS R a q ∧ Ch R q X e
def wt (R : Nat) : List Nat → List (List Nat) → List Nat
  | _, [] => []
  | a, q :: X => (sz R q - sz R a) :: wt R q X
theorem wt_len {R : Nat} : ∀ {a : List Nat} {X : List (List Nat)}, (wt R a X).length = X.length
  | _, [] => rfl
  | _, q :: X => by simp [wt, wt_len (a := q) (X := X)]

theorem mem_U {R M : Nat} {e : List Nat} : ∀ {k : Nat} {a : List Nat} {X : List (List Nat)}, X ∈ U R M a k e ↔ X.length = k ∧ (∀ q ∈ X, q ∈ shapes R M) ∧ Ch R a X e
  | 0, a, X => by
    by_cases h : a = e
    · simp only [U, h, if_true, List.mem_singleton]
      constructor
      · rintro rfl; simp [Ch]
      · intro h; exact List.eq_nil_of_length_eq_zero h.1
    · simp only [U, h, if_false]
      constructor
      · intro h'; cases h'
      · intro h'
        rw [List.eq_nil_of_length_eq_zero h'.1] at h'
        exact absurd h'.2.2 h
  | k + 1, a, X => by
    simp only [U, List.mem_flatMap, List.mem_filter, List.mem_map, decide_eq_true_eq]
    constructor
    · rintro ⟨q, ⟨hq, hh⟩, Y, hY, rfl⟩
      have := mem_U.1 hY
      refine ⟨by simp [this.1], fun x hx => ?_, hh, this.2.2⟩
      rcases List.mem_cons.1 hx with rfl | hx
      · exact hq
      · exact this.2.1 x hx
    · rintro ⟨hl, hm, hc⟩
      match X, hl, hm, hc with
      | q :: Y, hl, hm, hc =>
        exact ⟨q, ⟨hm q (by simp), hc.1⟩, Y, mem_U.2 ⟨by simpa using hl, fun x hx => hm x (by simp [hx]), hc.2⟩, rfl⟩
theorem U_nodup {R M : Nat} {e : List Nat} : ∀ {k : Nat} {a : List Nat}, (U R M a k e).Nodup
  | 0, a => by
    by_cases h : a = e
    · simp [U, h]
    · simp [U, h]
  | k + 1, a => by
    refine flat_nodup (fun l => l.headD []) ((shapes_nodup R M).sublist List.filter_sublist) (fun x _ => cons_nodup x U_nodup) (fun x _ y hy => ?_)
    obtain ⟨m, _, rfl⟩ := List.mem_map.1 hy
    rfl
theorem S_U {R M k : Nat} {a e : List Nat} (F : List (List Nat) → Int) : S (U R M a (k + 1) e) F = S (shapes R M) (fun q => if HS R a q then S (U R M q k e) (fun X => F (q :: X)) else 0) := by
  simp only [U]
  rw [S_flatMap, S_filter]
  exact S_congr (fun q _ => by rw [S_map])

theorem sz_le {R M : Nat} {p : List Nat} (h : p ∈ shapes R M) : sz R p ≤ R * M := by
  have e : rs R (fun _ => M) = R * M := by
    clear h
    induction R with
    | zero => simp [rs]
    | succ n ih => simp only [rs, ih, Nat.succ_mul]
  rw [← e]
  exact rs_le (fun r _ => at0_le h r)

/-- Chains laid together by their sizes. -/
theorem grp {R M : Nat} {e : List Nat} : ∀ (k : Nat) (f : List Nat → Int) (a : List Nat),
    S (U R M a k e) (fun X => f (wt R a X)) = S (words (List.range (R * M + 1)) k) (fun b => f b * K R M a b e)
  | 0, f, a => by
    by_cases h : a = e
    · simp [U, h, words, S, wt, K]
    · simp [U, h, words, S, K]
  | k + 1, f, a => by
    rw [S_U]
    simp only [words]
    rw [S_flatMap]
    have e1 : ∀ q ∈ shapes R M, (if HS R a q then S (U R M q k e) (fun X => f (wt R a (q :: X))) else 0)
        = S (List.range (R * M + 1)) (fun m => if HS R a q ∧ sz R q = sz R a + m then S (words (List.range (R * M + 1)) k) (fun b => f (m :: b) * K R M q b e) else 0) := by
      intro q hq
      by_cases h : HS R a q
      · have m := sz_mono h
        have e2 : ∀ n, (HS R a q ∧ sz R q = sz R a + n) ↔ n = sz R q - sz R a := fun n => ⟨fun c => by omega, fun c => ⟨h, by omega⟩⟩
        have e3 := S_pick (sz R q - sz R a) (fun n => S (words (List.range (R * M + 1)) k) (fun b => f (n :: b) * K R M q b e)) (List.range (R * M + 1)) List.nodup_range
          (List.mem_range.2 (by have := sz_le hq; omega))
        rw [if_pos h]
        simp only [e2]
        rw [e3]
        exact grp k (fun b => f ((sz R q - sz R a) :: b)) q
      · simp only [h, if_false, false_and]
        exact (S_zero _).symm
    rw [S_congr e1, S_swap]
    refine S_congr (fun m _ => ?_)
    rw [S_map]
    simp only [K]
    have e4 : ∀ b, f (m :: b) * S (shapes R M) (fun q => if HS R a q ∧ sz R q = sz R a + m then K R M q b e else 0)
        = S (shapes R M) (fun q => if HS R a q ∧ sz R q = sz R a + m then f (m :: b) * K R M q b e else 0) := by
      intro b
      rw [← S_mul]
      refine S_congr (fun q _ => ?_)
      by_cases c : HS R a q ∧ sz R q = sz R a + m
      · simp [c]
      · simp [c]
    simp only [e4]
    rw [S_swap]
    exact S_congr (fun q _ => S_split _)

/- Faults: where a letter has more boxes, in the columns from j on, than the letter ahead of it. -/
def badN : Nat → Nat → List Nat → Bool
  | 0, t, u :: v :: _ => decide (2 * u < v + t)
  | l + 1, _, u :: X => badN l u X
  | _, _, _ => false
def bad (R : Nat) (a : List Nat) (X : List (List Nat)) (j l : Nat) : Bool := badN l (tr R j a) (X.map (tr R j))
def togAt (R j : Nat) : Nat → List Nat → List (List Nat) → List (List Nat)
  | 0, a, q :: s :: X => tog R j a q s :: s :: X
  | l + 1, _, q :: X => q :: togAt R j l q X
  | _, _, X => X

theorem height {R j : Nat} {p : List Nat} : tr R j p = tr R (j + 1) p + rs R (fun r => if j < at0 p r then 1 else 0) := by
  unfold tr
  rw [← rs_add]
  refine rs_congr (fun r _ => ?_)
  by_cases h : j < at0 p r
  · simp only [h, if_true]; omega
  · simp only [h, if_false]; omega
theorem height_next {R j : Nat} {q s : List Nat} (h : HS R q s) : rs R (fun r => if j < at0 s r then 1 else 0) ≤ rs R (fun r => if j < at0 q r then 1 else 0) + 1 := by
  have key : ∀ n, n + 1 ≤ R → rs (n + 1) (fun r => if j < at0 s r then 1 else 0) ≤ rs n (fun r => if j < at0 q r then 1 else 0) + 1 := by
    intro n
    induction n with
    | zero => intro _; simp only [rs]; split <;> omega
    | succ n ih =>
      intro hn
      have i := ih (by omega)
      have c := (h n (by omega)).2
      simp only [rs] at i ⊢
      by_cases c1 : j < at0 s (n + 1)
      · have c2 : j < at0 q n := by omega
        simp only [c1, c2, if_true]; omega
      · simp only [c1, if_false]; omega
  match R, h, key with
  | 0, _, _ => simp [rs]
  | n + 1, _, key =>
    have := key n (Nat.le_refl _)
    have m : rs n (fun r => if j < at0 q r then 1 else 0) ≤ rs (n + 1) (fun r => if j < at0 q r then 1 else 0) := by simp only [rs]; omega
    omega
theorem bad_facts {R j : Nat} {p q s : List Nat} (T : Tri R p q s) (h1 : 2 * tr R j q < tr R j s + tr R j p) (h2 : ¬ 2 * tr R (j + 1) q < tr R (j + 1) s + tr R (j + 1) p) :
    (∀ r, r < R → j < at0 q r → j ≤ at0 p r) ∧ tr R j s + tr R j p = 2 * tr R j q + 1 := by
  have e1 := height (R := R) (j := j) (p := p)
  have e2 := height (R := R) (j := j) (p := q)
  have e3 := height (R := R) (j := j) (p := s)
  have e4 := height_next (j := j) T.h2
  have le : ∀ r, r < R → (if j < at0 p r then 1 else 0) ≤ (if j < at0 q r then 1 else 0) := by
    intro r hr
    have := (T.h1 r hr).1
    by_cases c : j < at0 p r
    · have c' : j < at0 q r := by omega
      simp [c, c']
    · simp [c]
  have e5 := rs_le le
  have e6 := rs_eq_each le (by omega)
  refine ⟨fun r hr c => ?_, by omega⟩
  have := e6 r hr
  by_cases c' : j < at0 p r
  · omega
  · simp [c, c'] at this

structure Ok (R M : Nat) (a : List Nat) (X : List (List Nat)) (e : List Nat) : Prop where
  ha : a ∈ shapes R M
  hX : ∀ q ∈ X, q ∈ shapes R M
  hc : Ch R a X e
theorem Ok.tail {R M : Nat} {a q e : List Nat} {X : List (List Nat)} (h : Ok R M a (q :: X) e) : Ok R M q X e :=
  ⟨h.hX q (by simp), fun x hx => h.hX x (by simp [hx]), h.hc.2⟩
theorem Ok.tri {R M : Nat} {a q s e : List Nat} {X : List (List Nat)} (h : Ok R M a (q :: s :: X) e) : Tri R a q s :=
  ⟨(mem_shapes.1 h.ha).1, (mem_shapes.1 (h.hX q (by simp))).1, (mem_shapes.1 (h.hX s (by simp))).1, h.hc.1, h.hc.2.1⟩

/-- One level turned over at a fault. -/
theorem turned {R M j : Nat} {e : List Nat} : ∀ (l : Nat) {a : List Nat} {X : List (List Nat)}, Ok R M a X e → bad R a X j l = true → bad R a X (j + 1) l = false →
    Ok R M a (togAt R j l a X) e ∧ (togAt R j l a X).length = X.length ∧ togAt R j l a (togAt R j l a X) = X ∧
    (∀ j', j ≤ j' → (togAt R j l a X).map (tr R j') = X.map (tr R j')) ∧
    ∃ b1 x y b2, wt R a X = b1 ++ x :: (y + 1) :: b2 ∧ wt R a (togAt R j l a X) = b1 ++ y :: (x + 1) :: b2
  | 0, a, q :: s :: X, h, h1, h2 => by
    have T := h.tri
    have f := bad_facts (j := j) T (of_decide_eq_true h1) (of_decide_eq_false h2)
    have hs := h.hX s (by simp)
    have z := tog_sz (j := j) T f.1
    have m1 := sz_mono (tog_hs1 (j := j) T)
    have m2 := sz_mono (tog_hs2 (j := j) T)
    have m3 := sz_mono T.h1
    have m4 := sz_mono T.h2
    refine ⟨⟨h.ha, fun x hx => ?_, tog_hs1 T, tog_hs2 T, h.hc.2.2⟩, rfl, ?_, fun j' hj => ?_, [], sz R q - sz R a, sz R s - sz R q - 1, wt R s X, ?_, ?_⟩
    · rcases List.mem_cons.1 hx with rfl | hx
      · exact tog_mem T hs
      · exact h.hX x (List.mem_cons_of_mem _ hx)
    · simp only [togAt, tog_tog T]
    · simp only [togAt, List.map_cons, tog_tr T hj]
    · simp only [wt, List.nil_append]
      congr 2
      omega
    · simp only [togAt, wt, List.nil_append]
      rw [show sz R (tog R j a q s) - sz R a = sz R s - sz R q - 1 from by omega, show sz R s - sz R (tog R j a q s) = sz R q - sz R a + 1 from by omega]
  | l + 1, a, q :: X, h, h1, h2 => by
    obtain ⟨i1, i2, i3, i4, b1, x, y, b2, i5, i6⟩ := turned l h.tail h1 h2
    refine ⟨⟨h.ha, fun z hz => ?_, h.hc.1, i1.hc⟩, by simp [togAt, i2], by simp only [togAt, i3], fun j' hj => by simp only [togAt, List.map_cons, i4 j' hj],
      (sz R q - sz R a) :: b1, x, y, b2, by simp only [wt, i5, List.cons_append], by simp only [togAt, wt, i6, List.cons_append]⟩
    rcases List.mem_cons.1 hz with rfl | hz
    · exact h.hX _ (by simp)
    · exact i1.hX z hz
  | 0, _, [], _, h1, _ => by simp [bad, badN] at h1
  | 0, _, [_], _, h1, _ => by simp [bad, badN] at h1
  | l + 1, _, [], _, h1, _ => by simp [bad, badN] at h1

/- The first fault: from the right, there the first letter. -/
def scan (k : Nat) (f : Nat → Nat → Bool) : Nat → Option (Nat × Nat)
  | 0 => none
  | j + 1 => match (List.range k).find? (f j) with
    | some l => some (j, l)
    | none => scan k f j
theorem scan_some {k : Nat} {f : Nat → Nat → Bool} {j l : Nat} : ∀ {m : Nat}, scan k f m = some (j, l) →
    j < m ∧ l < k ∧ f j l = true ∧ ∀ j', j < j' → j' < m → ∀ l', l' < k → f j' l' = false
  | 0, h => by simp [scan] at h
  | m + 1, h => by
    simp only [scan] at h
    match hf : (List.range k).find? (f m), h with
    | some l0, h =>
      simp only [Option.some.injEq, Prod.mk.injEq] at h
      obtain ⟨rfl, rfl⟩ := h
      exact ⟨by omega, List.mem_range.1 (List.mem_of_find?_eq_some hf), List.find?_some hf, by omega⟩
    | none, h =>
      obtain ⟨i1, i2, i3, i4⟩ := scan_some h
      refine ⟨by omega, i2, i3, fun j' h1 h2 l' hl => ?_⟩
      by_cases c : j' = m
      · subst c
        have := List.find?_eq_none.1 hf l' (List.mem_range.2 hl)
        simpa using this
      · exact i4 j' h1 (by omega) l' hl
theorem scan_none {k : Nat} {f : Nat → Nat → Bool} : ∀ {m : Nat}, scan k f m = none → ∀ j, j < m → ∀ l, l < k → f j l = false
  | 0, _, _, h, _, _ => by omega
  | m + 1, h, j, hj, l, hl => by
    simp only [scan] at h
    match hf : (List.range k).find? (f m), h with
    | none, h =>
      by_cases c : j = m
      · subst c
        have := List.find?_eq_none.1 hf l (List.mem_range.2 hl)
        simpa using this
      · exact scan_none h j (by omega) l hl
theorem scan_congr {k : Nat} {f g : Nat → Nat → Bool} {j l : Nat} : ∀ {m : Nat}, scan k f m = some (j, l) → (∀ j', j ≤ j' → ∀ l', g j' l' = f j' l') → scan k g m = some (j, l)
  | 0, h, _ => by simp [scan] at h
  | m + 1, h, e => by
    have hm := (scan_some h).1
    have : g m = f m := funext (fun l' => e m (by omega) l')
    simp only [scan] at h ⊢
    rw [this]
    match hf : (List.range k).find? (f m), h with
    | some l0, h => simpa using h
    | none, h => exact scan_congr h e
theorem scan_ext {k : Nat} {f g : Nat → Nat → Bool} (e : ∀ j l, g j l = f j l) (m : Nat) : scan k g m = scan k f m := by
  have : g = f := funext (fun j => funext (fun l => e j l))
  rw [this]

def first (R M : Nat) (a : List Nat) (X : List (List Nat)) : Option (Nat × Nat) := scan X.length (bad R a X) M
def turn (R M : Nat) (a : List Nat) (X : List (List Nat)) : List (List Nat) :=
  match first R M a X with
  | some (j, l) => togAt R j l a X
  | none => X
def Good (R M : Nat) (a : List Nat) (X : List (List Nat)) : Prop := first R M a X = none
instance (R M : Nat) (a : List Nat) (X : List (List Nat)) : Decidable (Good R M a X) := inferInstanceAs (Decidable (first R M a X = none))

theorem badN_short : ∀ (l t : Nat) (X : List Nat), X.length ≤ l → badN l t X = false
  | 0, _, [], _ => rfl
  | 0, _, _ :: _, h => by simp at h
  | l + 1, _, [], _ => rfl
  | l + 1, _, u :: X, h => badN_short l u X (by simpa using h)
theorem bad_short {R : Nat} {a : List Nat} {X : List (List Nat)} {j l : Nat} (h : X.length ≤ l) : bad R a X j l = false := badN_short _ _ _ (by simpa using h)
theorem badN_zero : ∀ (l t : Nat) (X : List Nat), t = 0 → (∀ x ∈ X, x = 0) → badN l t X = false
  | 0, t, u :: v :: X, ht, h => by
    have := h u (by simp)
    have := h v (by simp)
    simp only [badN, decide_eq_false_iff_not]; omega
  | 0, _, [], _, _ => rfl
  | 0, _, [_], _, _ => rfl
  | l + 1, _, [], _, _ => rfl
  | l + 1, _, u :: X, _, h => badN_zero l u X (h u (by simp)) (fun x hx => h x (by simp [hx]))
theorem bad_high {R M : Nat} {a e : List Nat} {X : List (List Nat)} (h : Ok R M a X e) {j l : Nat} (hj : M ≤ j) : bad R a X j l = false := by
  refine badN_zero _ _ _ (tr_high h.ha hj) (fun x hx => ?_)
  obtain ⟨p, hp, rfl⟩ := List.mem_map.1 hx
  exact tr_high (h.hX p hp) hj
theorem good_all {R M : Nat} {a e : List Nat} {X : List (List Nat)} (h : Ok R M a X e) : Good R M a X ↔ ∀ j l, bad R a X j l = false := by
  constructor
  · intro g j l
    by_cases hj : M ≤ j
    · exact bad_high h hj
    · by_cases hl : X.length ≤ l
      · exact bad_short hl
      · exact scan_none g j (by omega) l (by omega)
  · intro g
    unfold Good
    match hf : first R M a X with
    | none => rfl
    | some (j, l) =>
      have := (scan_some hf).2.2.1
      rw [g] at this; cases this

/-- What has a fault, turned over: it has the same fault, and turned again it is as it was. -/
theorem turn_facts {R M k : Nat} {a e : List Nat} {X : List (List Nat)} (ha : a ∈ shapes R M) (hX : X ∈ U R M a k e) (hg : ¬ Good R M a X) :
    turn R M a X ∈ U R M a k e ∧ ¬ Good R M a (turn R M a X) ∧ turn R M a (turn R M a X) = X ∧
    ∃ b1 x y b2, wt R a X = b1 ++ x :: (y + 1) :: b2 ∧ wt R a (turn R M a X) = b1 ++ y :: (x + 1) :: b2 := by
  have hU := mem_U.1 hX
  have O : Ok R M a X e := ⟨ha, hU.2.1, hU.2.2⟩
  unfold Good at hg
  match hf : first R M a X, hg with
  | some (j, l), _ =>
    obtain ⟨f1, f2, f3, f4⟩ := scan_some hf
    have f5 : bad R a X (j + 1) l = false := by
      by_cases c : j + 1 < M
      · exact f4 (j + 1) (by omega) c l f2
      · exact bad_high O (by omega)
    obtain ⟨t1, t2, t3, t4, t5⟩ := turned l O f3 f5
    have e1 : turn R M a X = togAt R j l a X := by simp only [turn, hf]
    have e2 : first R M a (togAt R j l a X) = some (j, l) := by
      unfold first
      rw [t2]
      refine scan_congr hf (fun j' hj l' => ?_)
      unfold bad
      rw [t4 j' hj]
    rw [e1]
    refine ⟨mem_U.2 ⟨by rw [t2]; exact hU.1, t1.hX, t1.hc⟩, by simp [Good, e2], ?_, t5⟩
    simp only [turn, e2, t3]

/- Signs. -/
def st : List Nat → List Nat
  | [] => []
  | x :: xs => (x + xs.length) :: st xs
theorem st_len : ∀ {b : List Nat}, (st b).length = b.length
  | [] => rfl
  | _ :: b => by simp [st, st_len (b := b)]
theorem st_inj : ∀ {b c : List Nat}, st b = st c → b = c
  | [], [], _ => rfl
  | [], _ :: _, h => by simp [st] at h
  | _ :: _, [], h => by simp [st] at h
  | x :: b, y :: c, h => by
    simp only [st, List.cons.injEq] at h
    have l : b.length = c.length := by rw [← st_len (b := b), ← st_len (b := c), h.2]
    rw [st_inj h.2, show x = y from by omega]
theorem st_swap (x y : Nat) (b2 : List Nat) : ∀ (b1 : List Nat), ∃ v1 u v v2, st (b1 ++ x :: (y + 1) :: b2) = v1 ++ u :: v :: v2 ∧ st (b1 ++ y :: (x + 1) :: b2) = v1 ++ v :: u :: v2
  | [] => ⟨[], x + (b2.length + 1), y + 1 + b2.length, st b2, by simp [st], by simp [st]; omega⟩
  | z :: b1 => by
    obtain ⟨v1, u, v, v2, h1, h2⟩ := st_swap x y b2 b1
    refine ⟨(z + (b1 ++ x :: (y + 1) :: b2).length) :: v1, u, v, v2, by simp only [List.cons_append, st, h1], ?_⟩
    simp only [List.cons_append, st, h2, List.cons.injEq, and_true]
    simp
def sgn : List Nat → Int
  | [] => 1
  | x :: xs => (-1) ^ (xs.countP (fun y => decide (x < y))) * sgn xs
theorem sgn_swap (u v : Nat) (h : u ≠ v) (v2 : List Nat) : ∀ (v1 : List Nat), sgn (v1 ++ u :: v :: v2) = - sgn (v1 ++ v :: u :: v2)
  | [] => by
    simp only [List.nil_append, sgn, List.countP_cons]
    by_cases c : u < v
    · have c' : ¬ v < u := by omega
      simp only [c, c', decide_true, decide_false, if_true, Bool.false_eq_true, if_false, Nat.add_zero, Int.pow_succ]
      generalize (-1 : Int) ^ (List.countP (fun y => decide (u < y)) v2) = p
      generalize (-1 : Int) ^ (List.countP (fun y => decide (v < y)) v2) = q
      rw [Int.mul_neg_one, Int.neg_mul, ← Int.mul_assoc, ← Int.mul_assoc, Int.mul_comm p q]
    · have c' : v < u := by omega
      simp only [c, c', decide_true, decide_false, if_true, Bool.false_eq_true, if_false, Nat.add_zero, Int.pow_succ]
      generalize (-1 : Int) ^ (List.countP (fun y => decide (u < y)) v2) = p
      generalize (-1 : Int) ^ (List.countP (fun y => decide (v < y)) v2) = q
      rw [Int.mul_neg_one, Int.neg_mul, Int.neg_neg, ← Int.mul_assoc, ← Int.mul_assoc, Int.mul_comm p q]
  | z :: v1 => by
    simp only [List.cons_append, sgn, sgn_swap u v h v2 v1]
    have : (v1 ++ u :: v :: v2).countP (fun y => decide (z < y)) = (v1 ++ v :: u :: v2).countP (fun y => decide (z < y)) :=
      List.Perm.countP_eq _ (List.Perm.append_left _ (List.Perm.swap _ _ _))
    rw [this, Int.mul_neg]
theorem sgn_down : ∀ {v : List Nat}, v.Pairwise (· > ·) → sgn v = 1
  | [], _ => rfl
  | x :: v, h => by
    have h' := List.pairwise_cons.1 h
    have : v.countP (fun y => decide (x < y)) = 0 := List.countP_eq_zero.2 (fun y hy => by have := h'.1 y hy; simp; omega)
    simp only [sgn, this, sgn_down h'.2]; rfl
/-- The sign of what B was mixed by; nothing where it is not B mixed. -/
def A (B v : List Nat) : Int := if v.Perm B then sgn v else 0
theorem A_swap {B v1 v2 : List Nat} {u v : Nat} (hB : B.Pairwise (· > ·)) : A B (v1 ++ v :: u :: v2) = - A B (v1 ++ u :: v :: v2) := by
  have p : (v1 ++ v :: u :: v2).Perm (v1 ++ u :: v :: v2) := List.Perm.append_left _ (List.Perm.swap _ _ _)
  unfold A
  by_cases c : (v1 ++ u :: v :: v2).Perm B
  · have c' := p.trans c
    have hn : (v1 ++ u :: v :: v2).Nodup := c.nodup_iff.2 (by
      rw [List.nodup_iff_pairwise_ne]
      exact hB.imp (fun h => by omega))
    have ne : u ≠ v := by
      intro e
      subst e
      rw [List.nodup_append] at hn
      simp at hn
    rw [if_pos c, if_pos c', sgn_swap u v ne v2 v1, Int.neg_neg]
  · have c' : ¬ (v1 ++ v :: u :: v2).Perm B := fun h => c (p.symm.trans h)
    rw [if_neg c, if_neg c']; rfl
theorem A_down {B v : List Nat} (hB : B.Pairwise (· > ·)) (hv : v.Pairwise (· > ·)) : A B v = if v = B then 1 else 0 := by
  unfold A
  by_cases c : v = B
  · subst c; simp [sgn_down hv]
  · have : ¬ v.Perm B := fun h => c (h.eq_of_pairwise (le := (· > ·)) (fun a b _ _ h1 h2 => by omega) hv hB)
    simp [c, this]

theorem st_down : ∀ {b : List Nat}, b.Pairwise (· ≥ ·) → (st b).Pairwise (· > ·)
  | [], _ => List.Pairwise.nil
  | x :: b, h => by
    have h' := List.pairwise_cons.1 h
    simp only [st]
    refine List.pairwise_cons.2 ⟨fun z hz => ?_, st_down h'.2⟩
    have key : ∀ (c : List Nat), (∀ y ∈ c, y ≤ x) → ∀ z ∈ st c, z < x + c.length := by
      intro c
      induction c with
      | nil => intro _ z hz; cases hz
      | cons y c ih =>
        intro hc z hz
        simp only [st, List.mem_cons] at hz
        have hy := hc y (by simp)
        rcases hz with rfl | hz
        · simp; omega
        · have := ih (fun w hw => hc w (by simp [hw])) z hz
          simp; omega
    exact key b (fun y hy => h'.1 y hy) z hz
theorem tr_zero {R : Nat} {p : List Nat} : tr R 0 p = sz R p := rs_congr (fun _ _ => rfl)
theorem wt_down {R : Nat} : ∀ {X : List (List Nat)} {a e : List Nat}, Ch R a X e → (∀ l, bad R a X 0 l = false) → (wt R a X).Pairwise (· ≥ ·)
  | [], _, _, _, _ => List.Pairwise.nil
  | [q], _, _, _, _ => by simp [wt]
  | q :: s :: X, a, e, hc, hb => by
    have ih := wt_down (X := s :: X) hc.2 (fun l => hb (l + 1))
    have h0 : ¬ 2 * sz R q < sz R s + sz R a := by
      have := of_decide_eq_false (hb 0)
      simp only [tr_zero] at this
      exact this
    have m1 := sz_mono hc.1
    have m2 := sz_mono hc.2.1
    rw [wt]
    refine List.pairwise_cons.2 ⟨fun z hz => ?_, ih⟩
    rw [wt] at ih hz
    have i := List.pairwise_cons.1 ih
    rcases List.mem_cons.1 hz with rfl | hz
    · omega
    · have := i.1 z hz
      omega

/-- How many good chains of these sizes. -/
def lr (R M : Nat) (a b e : List Nat) : Int := S (U R M a b.length e) (fun X => if Good R M a X ∧ wt R a X = b then 1 else 0)

theorem lr_sum {R M : Nat} {a b e : List Nat} (ha : a ∈ shapes R M) (hb : b.Pairwise (· ≥ ·)) :
    lr R M a b e = S (words (List.range (R * M + 1)) b.length) (fun c => A (st b) (st c) * K R M a c e) := by
  rw [← grp b.length (fun c => A (st b) (st c)) a]
  have hB := st_down hb
  have e1 : S (U R M a b.length e) (fun X => A (st b) (st (wt R a X))) = S (U R M a b.length e) (fun X => if Good R M a X then A (st b) (st (wt R a X)) else 0)
      + S (U R M a b.length e) (fun X => if ¬ Good R M a X then A (st b) (st (wt R a X)) else 0) := by
    rw [← S_add]
    refine S_congr (fun X _ => ?_)
    by_cases g : Good R M a X
    · simp [g]
    · simp [g]
  have e2 : S (U R M a b.length e) (fun X => if ¬ Good R M a X then A (st b) (st (wt R a X)) else 0) = 0 := by
    rw [← S_filter]
    refine S_odd (U_nodup.sublist List.filter_sublist) (turn R M a) ?_ ?_ _ ?_
    · intro X hX
      have h := List.mem_filter.1 hX
      have f := turn_facts ha h.1 (of_decide_eq_true h.2)
      exact List.mem_filter.2 ⟨f.1, decide_eq_true f.2.1⟩
    · intro X hX
      have h := List.mem_filter.1 hX
      exact (turn_facts ha h.1 (of_decide_eq_true h.2)).2.2.1
    · intro X hX
      have h := List.mem_filter.1 hX
      obtain ⟨_, _, _, b1, x, y, b2, w1, w2⟩ := turn_facts ha h.1 (of_decide_eq_true h.2)
      obtain ⟨v1, u, v, v2, s1, s2⟩ := st_swap x y b2 b1
      rw [w1, w2, s1, s2]
      exact A_swap hB
  rw [e1, e2, Int.add_zero]
  refine S_congr (fun X hX => ?_)
  by_cases g : Good R M a X
  · have hU := mem_U.1 hX
    have d := wt_down hU.2.2 (fun l => (good_all ⟨ha, hU.2.1, hU.2.2⟩).1 g 0 l)
    rw [if_pos g, A_down hB (st_down d)]
    by_cases c : wt R a X = b
    · simp [g, c]
    · have c' : ¬ st (wt R a X) = st b := fun h => c (st_inj h)
      simp [c, c']
  · simp [g]

theorem lr_comm {R M : Nat} {a b c e : List Nat} (ha : a ∈ shapes R M) (hb : b.Pairwise (· ≥ ·)) (hc : c.Pairwise (· ≥ ·)) :
    S (shapes R M) (fun d => lr R M a b d * lr R M d c e) = S (shapes R M) (fun d => lr R M a c d * lr R M d b e) := by
  have key : ∀ (b c : List Nat), b.Pairwise (· ≥ ·) → c.Pairwise (· ≥ ·) → S (shapes R M) (fun d => lr R M a b d * lr R M d c e)
      = S (words (List.range (R * M + 1)) b.length) (fun x => S (words (List.range (R * M + 1)) c.length) (fun y => A (st b) (st x) * A (st c) (st y) * K R M a (x ++ y) e)) := by
    intro b c hb hc
    have e1 : ∀ d ∈ shapes R M, lr R M a b d * lr R M d c e
        = S (words (List.range (R * M + 1)) b.length) (fun x => S (words (List.range (R * M + 1)) c.length) (fun y => A (st b) (st x) * A (st c) (st y) * (K R M a x d * K R M d y e))) := by
      intro d hd
      rw [lr_sum ha hb, lr_sum hd hc, ← S_mulr]
      refine S_congr (fun x _ => ?_)
      rw [← S_mul]
      refine S_congr (fun y _ => ?_)
      rw [Int.mul_assoc, Int.mul_assoc, Int.mul_left_comm (K R M a x d)]
    rw [S_congr e1, S_swap]
    refine S_congr (fun x _ => ?_)
    rw [S_swap]
    refine S_congr (fun y _ => ?_)
    rw [S_mul, ← K_append y e x ha]
  rw [key b c hb hc, key c b hc hb, S_swap]
  refine S_congr (fun y _ => S_congr (fun x _ => ?_))
  rw [K_perm (List.perm_append_comm : (x ++ y).Perm (y ++ x)) ha, Int.mul_comm (A (st b) (st x))]
end Go.Proofs.YtidnpmkdajicjaaDoor.LR
