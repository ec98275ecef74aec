/-
  Plain: strips of boxes, no two in one column; one level of a chain of them turned over; how many chains there are does not hang on the order of their sizes.
-/
import Derived.Test.YtidnpmkdajicjaaDoorLrS
namespace Go.Proofs.YtidnpmkdajicjaaDoor.LR

def at0 (p : List Nat) (r : Nat) : Nat := p.getD r 0
def HS (R : Nat) (p q : List Nat) : Prop := ∀ r, r < R → at0 p r ≤ at0 q r ∧ at0 q (r + 1) ≤ at0 p r
instance (R : Nat) (p q : List Nat) : Decidable (HS R p q) := inferInstanceAs (Decidable (∀ r, r < R → at0 p r ≤ at0 q r ∧ at0 q (r + 1) ≤ at0 p r))
def sz (R : Nat) (p : List Nat) : Nat := rs R (at0 p)
def tr (R j : Nat) (p : List Nat) : Nat := rs R (fun r => at0 p r - j)
def shapes (R M : Nat) : List (List Nat) := words (List.range (M + 1)) R

theorem mem_shapes {R M : Nat} {p : List Nat} : p ∈ shapes R M ↔ p.length = R ∧ ∀ x ∈ p, x ≤ M := by
  unfold shapes
  rw [mem_words]
  simp only [List.mem_range, Nat.lt_succ_iff]
theorem shapes_nodup (R M : Nat) : (shapes R M).Nodup := words_nodup List.nodup_range R
theorem at0_far {p : List Nat} {r : Nat} (h : p.length ≤ r) : at0 p r = 0 := by simp [at0, List.getElem?_eq_none h]
theorem at0_get {p : List Nat} {r : Nat} (h : r < p.length) : at0 p r = p[r] := by simp [at0, h]
theorem at0_le {R M : Nat} {p : List Nat} (h : p ∈ shapes R M) (r : Nat) : at0 p r ≤ M := by
  by_cases hr : r < p.length
  · rw [at0_get hr]; exact (mem_shapes.1 h).2 _ (List.getElem_mem hr)
  · rw [at0_far (by omega)]; omega
theorem shape_ext {R : Nat} {p q : List Nat} (hp : p.length = R) (hq : q.length = R) (h : ∀ r, r < R → at0 p r = at0 q r) : p = q := by
  refine List.ext_getElem (by omega) (fun r h1 h2 => ?_)
  have := h r (by omega)
  rwa [at0_get h1, at0_get h2] at this
theorem shape_of {R M : Nat} {p : List Nat} (hp : p.length = R) (h : ∀ r, r < R → at0 p r ≤ M) : p ∈ shapes R M := by
  refine mem_shapes.2 ⟨hp, fun x hx => ?_⟩
  obtain ⟨r, hr, rfl⟩ := List.getElem_of_mem hx
  have := h r (by omega)
  rwa [at0_get hr] at this

/-- A row of numbers out of a function. -/
def ofFn (R : Nat) (f : Nat → Nat) : List Nat := (List.range R).map f
theorem ofFn_len {R : Nat} {f : Nat → Nat} : (ofFn R f).length = R := by simp [ofFn]
theorem at0_ofFn {R : Nat} {f : Nat → Nat} {r : Nat} (h : r < R) : at0 (ofFn R f) r = f r := by simp [ofFn, at0, h]
theorem at0_ofFn_far {R : Nat} {f : Nat → Nat} {r : Nat} (h : R ≤ r) : at0 (ofFn R f) r = 0 := at0_far (by rw [ofFn_len]; exact h)

def pm (p s : List Nat) (r : Nat) : Nat := if r = 0 then at0 s 0 else at0 p (r - 1)
def tg (j : Nat) (p q s : List Nat) (r : Nat) : Nat :=
  if j < at0 q r then at0 q r else max (at0 p r) (at0 s (r + 1)) + min j (min (at0 s r) (pm p s r)) - at0 q r
def tog (R j : Nat) (p q s : List Nat) : List Nat := ofFn R (tg j p q s)

theorem tog_len {R j : Nat} {p q s : List Nat} : (tog R j p q s).length = R := ofFn_len

structure Tri (R : Nat) (p q s : List Nat) : Prop where
  hp : p.length = R
  hq : q.length = R
  hs : s.length = R
  h1 : HS R p q
  h2 : HS R q s


theorem q_le_pm {R : Nat} {p q s : List Nat} (T : Tri R p q s) {r : Nat} (hr : r < R) : at0 q r ≤ pm p s r := by
  unfold pm
  by_cases e : r = 0
  · subst e; simpa using (T.h2 0 hr).1
  · simp only [e, if_false]
    have := (T.h1 (r - 1) (by omega)).2
    rwa [show r - 1 + 1 = r from by omega] at this

theorem tg_facts {R j : Nat} {p q s : List Nat} (T : Tri R p q s) {r : Nat} (hr : r < R) : max (at0 p r) (at0 s (r + 1)) ≤ tg j p q s r ∧ tg j p q s r ≤ min (at0 s r) (pm p s r) ∧
    (j < at0 q r → tg j p q s r = at0 q r) ∧ (at0 q r ≤ j → tg j p q s r ≤ j ∧ tg j p q s r + at0 q r = max (at0 p r) (at0 s (r + 1)) + min j (min (at0 s r) (pm p s r))) := by
  have e1 := q_le_pm T hr
  have e2 := T.h1 r hr
  have e3 := T.h2 r hr
  unfold tg
  by_cases e : j < at0 q r
  · rw [if_pos e]; refine ⟨by omega, by omega, fun _ => rfl, by omega⟩
  · rw [if_neg e]; refine ⟨by omega, by omega, by omega, fun _ => ⟨by omega, by omega⟩⟩

theorem tog_hs1 {R j : Nat} {p q s : List Nat} (T : Tri R p q s) : HS R p (tog R j p q s) := by
  intro r hr
  have f := tg_facts (j := j) T hr
  refine ⟨by rw [tog, at0_ofFn hr]; omega, ?_⟩
  by_cases hr1 : r + 1 < R
  · have f1 := tg_facts (j := j) T hr1
    have : pm p s (r + 1) = at0 p r := by simp [pm]
    rw [tog, at0_ofFn hr1]; omega
  · rw [tog, at0_ofFn_far (by omega)]; omega
theorem tog_hs2 {R j : Nat} {p q s : List Nat} (T : Tri R p q s) : HS R (tog R j p q s) s := by
  intro r hr
  have f := tg_facts (j := j) T hr
  refine ⟨by rw [tog, at0_ofFn hr]; omega, by rw [tog, at0_ofFn hr]; omega⟩
theorem Tri.tog {R j : Nat} {p q s : List Nat} (T : Tri R p q s) : Tri R p (LR.tog R j p q s) s := ⟨T.hp, tog_len, T.hs, tog_hs1 T, tog_hs2 T⟩
theorem tog_tog {R j : Nat} {p q s : List Nat} (T : Tri R p q s) : tog R j p (tog R j p q s) s = q := by
  refine shape_ext tog_len T.hq (fun r hr => ?_)
  have f := tg_facts (j := j) T hr
  have g := tg_facts (j := j) (T.tog (j := j)) hr
  have e : at0 (tog R j p q s) r = tg j p q s r := by rw [tog, at0_ofFn hr]
  rw [tog, at0_ofFn hr]
  rw [e] at g
  omega
theorem tog_tr {R j j' : Nat} {p q s : List Nat} (T : Tri R p q s) (h : j ≤ j') : tr R j' (tog R j p q s) = tr R j' q := by
  refine rs_congr (fun r hr => ?_)
  have f := tg_facts (j := j) T hr
  rw [tog, at0_ofFn hr]
  omega
theorem tele {R j : Nat} {p s : List Nat} : ∀ n, n ≤ R → rs n (fun r => min j (max (at0 p r) (at0 s (r + 1))) + min j (min (at0 s r) (pm p s r))) + min j (min (at0 s n) (pm p s n))
    = rs n (fun r => min j (at0 p r)) + rs n (fun r => min j (at0 s r)) + min j (at0 s n) := by
  intro n
  induction n with
  | zero => intro _; simp [rs, pm]
  | succ n ih =>
    intro hn
    have := ih (by omega)
    have e : pm p s (n + 1) = at0 p n := by simp [pm]
    simp only [rs, e]
    omega
theorem split_min {j : Nat} (x : List Nat) (n : Nat) : rs n (at0 x) = rs n (fun r => at0 x r - j) + rs n (fun r => min j (at0 x r)) := by
  rw [← rs_add]
  exact rs_congr (fun r _ => by omega)
theorem tog_sz {R j : Nat} {p q s : List Nat} (T : Tri R p q s) (H : ∀ r, r < R → j < at0 q r → j ≤ at0 p r) : sz R (tog R j p q s) + sz R q + tr R j p + tr R j s = 2 * tr R j q + sz R p + sz R s := by
  have t := tele (j := j) (p := p) (s := s) R (Nat.le_refl _)
  have z : at0 s R = 0 := at0_far (by rw [T.hs]; exact Nat.le_refl _)
  rw [z] at t
  have e : rs R (fun r => at0 (tog R j p q s) r + at0 q r) = rs R (fun r => 2 * (at0 q r - j) + (min j (max (at0 p r) (at0 s (r + 1))) + min j (min (at0 s r) (pm p s r)))) := by
    refine rs_congr (fun r hr => ?_)
    have f := tg_facts (j := j) T hr
    have g := H r hr
    have e1 := q_le_pm T hr
    have e2 := T.h1 r hr
    have e3 := T.h2 r hr
    rw [tog, at0_ofFn hr]
    by_cases e : j < at0 q r
    · have := g e
      have := f.2.2.1 e
      omega
    · have := f.2.2.2 (by omega)
      omega
  rw [rs_add, rs_add, rs_mul] at e
  have s1 := split_min (j := j) p R
  have s2 := split_min (j := j) s R
  unfold sz tr
  omega

theorem tog_mem {R M j : Nat} {p q s : List Nat} (T : Tri R p q s) (hs : s ∈ shapes R M) : tog R j p q s ∈ shapes R M := by
  refine shape_of tog_len (fun r hr => ?_)
  have f := tg_facts (j := j) T hr
  have := at0_le hs r
  rw [tog, at0_ofFn hr]; omega

theorem sz_mono {R : Nat} {p q : List Nat} (h : HS R p q) : sz R p ≤ sz R q := rs_le (fun r hr => (h r hr).1)

theorem tr_high {R M j : Nat} {p : List Nat} (h : p ∈ shapes R M) (hj : M ≤ j) : tr R j p = 0 := by
  have : tr R j p = rs R (fun _ => 0) := rs_congr (fun r _ => by have := at0_le h r; omega)
  rw [this, rs_zero]

/-- How many chains of strips of these sizes. -/
def K (R M : Nat) : List Nat → List Nat → List Nat → Int
  | a, [], e => if a = e then 1 else 0
  | a, m :: b, e => S (shapes R M) (fun q => if HS R a q ∧ sz R q = sz R a + m then K R M q b e else 0)

theorem S_split {α : Type} {l : List α} {P : Prop} [Decidable P] (f : α → Int) : (if P then S l f else 0) = S l (fun x => if P then f x else 0) := by
  by_cases h : P
  · simp [h]
  · simp [h, S_zero]

theorem K_swap {R M : Nat} {a : List Nat} (ha : a ∈ shapes R M) (m n : Nat) (b e : List Nat) : K R M a (m :: n :: b) e = K R M a (n :: m :: b) e := by
  have two : ∀ m n, K R M a (m :: n :: b) e = S (shapes R M) (fun s => S (shapes R M) (fun q => if (HS R a q ∧ sz R q = sz R a + m) ∧ (HS R q s ∧ sz R s = sz R q + n) then K R M s b e else 0)) := by
    intro m n
    rw [S_swap]
    simp only [K]
    refine S_congr (fun q _ => ?_)
    rw [S_split]
    refine S_congr (fun s _ => ?_)
    by_cases c : HS R a q ∧ sz R q = sz R a + m
    · simp only [c, if_true, true_and, and_self]
    · simp only [c, if_false, false_and]
  rw [two, two]
  refine S_congr (fun s hs => ?_)
  have step : ∀ m n, S (shapes R M) (fun q => if (HS R a q ∧ sz R q = sz R a + m) ∧ (HS R q s ∧ sz R s = sz R q + n) then K R M s b e else 0)
      = S ((shapes R M).filter (fun q => decide ((HS R a q ∧ sz R q = sz R a + m) ∧ (HS R q s ∧ sz R s = sz R q + n)))) (fun _ => K R M s b e) := by
    intro m n
    rw [S_filter]
  rw [step, step]
  have turn : ∀ m n, ∀ q ∈ (shapes R M).filter (fun q => decide ((HS R a q ∧ sz R q = sz R a + m) ∧ (HS R q s ∧ sz R s = sz R q + n))),
      tog R M a q s ∈ (shapes R M).filter (fun q => decide ((HS R a q ∧ sz R q = sz R a + n) ∧ (HS R q s ∧ sz R s = sz R q + m))) := by
    intro m n q hq
    have hq' := List.mem_filter.1 hq
    have c := of_decide_eq_true hq'.2
    have T : Tri R a q s := ⟨(mem_shapes.1 ha).1, (mem_shapes.1 hq'.1).1, (mem_shapes.1 hs).1, c.1.1, c.2.1⟩
    refine List.mem_filter.2 ⟨tog_mem T hs, decide_eq_true ?_⟩
    have z := tog_sz (j := M) T (fun r _ h => by have := at0_le hq'.1 r; omega)
    rw [tr_high ha (Nat.le_refl _), tr_high hs (Nat.le_refl _), tr_high hq'.1 (Nat.le_refl _)] at z
    refine ⟨⟨tog_hs1 T, by omega⟩, tog_hs2 T, by omega⟩
  have back : ∀ m n, ∀ q ∈ (shapes R M).filter (fun q => decide ((HS R a q ∧ sz R q = sz R a + m) ∧ (HS R q s ∧ sz R s = sz R q + n))),
      tog R M a (tog R M a q s) s = q := by
    intro m n q hq
    have hq' := List.mem_filter.1 hq
    have c := of_decide_eq_true hq'.2
    exact tog_tog ⟨(mem_shapes.1 ha).1, (mem_shapes.1 hq'.1).1, (mem_shapes.1 hs).1, c.1.1, c.2.1⟩
  exact S_bij ((shapes_nodup R M).sublist List.filter_sublist) ((shapes_nodup R M).sublist List.filter_sublist)
    (fun q => tog R M a q s) (fun q => tog R M a q s) (turn m n) (turn n m) (back m n) (back n m) _ _ (fun _ _ => rfl)

theorem K_perm {R M : Nat} {b c : List Nat} (h : b.Perm c) : ∀ {a e : List Nat}, a ∈ shapes R M → K R M a b e = K R M a c e := by
  induction h with
  | nil => intro a e _; rfl
  | cons m _ ih =>
    intro a e _
    simp only [K]
    refine S_congr (fun q hq => ?_)
    rw [ih hq]
  | swap m n l => intro a e ha; exact K_swap ha n m l e
  | trans _ _ ih1 ih2 => intro a e ha; rw [ih1 ha, ih2 ha]

theorem K_append {R M : Nat} (c e : List Nat) : ∀ (b : List Nat) {a : List Nat}, a ∈ shapes R M → K R M a (b ++ c) e = S (shapes R M) (fun d => K R M a b d * K R M d c e)
  | [], a, ha => by
    have : S (shapes R M) (fun d => K R M a [] d * K R M d c e) = S (shapes R M) (fun d => if d = a then K R M d c e else 0) := S_congr (fun d _ => by
      by_cases h : d = a
      · subst h; simp [K]
      · have h' : ¬ a = d := fun e => h e.symm
        simp [K, h, h'])
    rw [this, S_pick a (fun d => K R M d c e) _ (shapes_nodup R M) ha]
    rfl
  | m :: b, a, ha => by
    simp only [List.cons_append, K]
    have : S (shapes R M) (fun d => S (shapes R M) (fun q => if HS R a q ∧ sz R q = sz R a + m then K R M q b d else 0) * K R M d c e)
        = S (shapes R M) (fun d => S (shapes R M) (fun q => (if HS R a q ∧ sz R q = sz R a + m then K R M q b d else 0) * K R M d c e)) :=
      S_congr (fun d _ => (S_mulr _ _ _).symm)
    rw [this, S_swap]
    refine S_congr (fun q hq => ?_)
    by_cases h : HS R a q ∧ sz R q = sz R a + m
    · simp only [h, and_self, if_true]
      exact K_append c e b hq
    · simp only [h, if_false, Int.zero_mul]
      exact (S_zero _).symm
end Go.Proofs.YtidnpmkdajicjaaDoor.LR
