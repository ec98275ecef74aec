/-
  Plain: partitions as they are listed; how many ends at most; the number N of a product; brackets.
-/
import Derived.Test.YtidnpmkdajicjaaDoorLrC
namespace Go.Proofs.YtidnpmkdajicjaaDoor.LR

/- The search never comes to more ends than there are orders. -/
def fac : Nat → Nat
  | 0 => 1
  | n + 1 => (n + 1) * fac n
theorem rs_count {k : Nat} {L : Nat → Nat} {c : Nat} {f : Nat → Nat} (h : ∀ x, x < k → f x ≤ if L x ≠ 0 then c else 0) : rs k f ≤ rs k L * c := by
  induction k with
  | zero => simp [rs]
  | succ k ih =>
    have h1 := ih (fun x hx => h x (by omega))
    have h2 := h k (by omega)
    simp only [rs]
    rw [Nat.add_mul]
    by_cases z : L k = 0
    · simp [z] at h2; simp [h2]; omega
    · rw [if_pos z] at h2
      have : 1 * c ≤ L k * c := Nat.mul_le_mul_right c (by omega)
      omega
theorem rs_put1 {k x : Nat} {L : Nat → Nat} (hx : x < k) (h : L x ≠ 0) : rs k (put1 L x (L x - 1)) + 1 = rs k L := by
  have e : rs k L = rs k (fun r => put1 L x (L x - 1) r + (if r = x then 1 else 0)) := by
    refine rs_congr (fun r _ => ?_)
    by_cases c : r = x
    · subst c; simp [put1]; omega
    · simp [put1, c]
  rw [e, rs_add, rs_at hx]
theorem cnt_le {k : Nat} {c : Nat → Nat} : ∀ (bs : List (Nat × Nat)) (F : Nat → Nat → Nat) (L Us : Nat → Nat), rs k L ≤ bs.length → cnt k c bs F L Us ≤ fac bs.length
  | [], _, _, _, _ => Nat.le_refl _
  | (i, j) :: bs, F, L, Us, h => by
    have e : ∀ x, x < k → (if may c i j x F L Us then cnt k c bs (put2 F i j (x + 1)) (put1 L x (L x - 1)) (put1 Us x (Us x + 1)) else 0) ≤ if L x ≠ 0 then fac bs.length else 0 := by
      intro x hx
      by_cases m : may c i j x F L Us
      · rw [if_pos m, if_pos m.1]
        refine cnt_le bs _ _ _ ?_
        have := rs_put1 hx m.1
        simp only [List.length_cons] at h
        omega
      · rw [if_neg m]; omega
    refine Nat.le_trans (rs_count e) ?_
    exact Nat.mul_le_mul_right _ h
theorem fac_mono {m n : Nat} (h : m ≤ n) : fac m ≤ fac n := by
  induction n with
  | zero => rw [show m = 0 by omega]; exact Nat.le_refl _
  | succ n ih =>
    by_cases e : m = n + 1
    · subst e; exact Nat.le_refl _
    · have := ih (by omega)
      have e1 : fac (n + 1) = (n + 1) * fac n := rfl
      have : 1 * fac n ≤ (n + 1) * fac n := Nat.mul_le_mul_right _ (by omega)
      omega

/- Partitions. -/
structure Pn (b : List Nat) : Prop where
  down : b.Pairwise (· ≥ ·)
  pos : ∀ x ∈ b, 1 ≤ x
theorem lsum_rs : ∀ (b : List Nat), b.sum = rs b.length (at0 b)
  | [] => rfl
  | x :: b => by
    have e : ∀ n, rs (n + 1) (at0 (x :: b)) = x + rs n (at0 b) := by
      intro n
      induction n with
      | zero => simp [rs, at0]
      | succ n ih =>
        rw [rs, ih, rs]
        simp [at0]; omega
    rw [List.length_cons, e, List.sum_cons, lsum_rs b]
theorem sz_pad {R : Nat} {b : List Nat} (h : b.length ≤ R) : sz R (pad R b) = b.sum := by
  rw [lsum_rs, ← rs_cut h]
  refine rs_congr (fun r hr => ?_)
  rw [pad, at0_ofFn hr]
  by_cases c : r < b.length
  · simp [c]
  · simp [c, at0_far (show b.length ≤ r by omega)]
theorem le_sum {b : List Nat} : ∀ x ∈ b, x ≤ b.sum := by
  induction b with
  | nil => intro x h; cases h
  | cons y b ih =>
    intro x h
    rw [List.sum_cons]
    rcases List.mem_cons.1 h with rfl | h
    · omega
    · have := ih x h; omega
theorem Pn.len {b : List Nat} (h : Pn b) : b.length ≤ b.sum := by
  have hp := h.pos
  clear h
  induction b with
  | nil => simp
  | cons y b ih =>
    have := ih (fun x hx => hp x (by simp [hx]))
    have := hp y (by simp)
    simp; omega
theorem Pn.par {b : List Nat} (h : Pn b) (h16 : b.sum ≤ 16) : Par 16 16 b :=
  ⟨h.down, by have := h.len; omega, fun x hx => by have := le_sum x hx; omega⟩
theorem pad_inj {b c : List Nat} (hb : Pn b) (hc : Pn c) (h1 : b.length ≤ 16) (h2 : c.length ≤ 16) (h : pad 16 b = pad 16 c) : b = c := by
  have e : ∀ r, at0 b r = at0 c r := by
    intro r
    by_cases hr : r < 16
    · have : at0 (pad 16 b) r = at0 (pad 16 c) r := by rw [h]
      rwa [pad, pad, at0_ofFn hr, at0_ofFn hr] at this
    · rw [at0_far (by omega), at0_far (by omega)]
  have l : ∀ (b c : List Nat), Pn b → (∀ r, at0 b r = at0 c r) → b.length ≤ c.length := by
    intro b c hb e
    by_cases x : b.length ≤ c.length
    · exact x
    · have := e c.length
      rw [at0_far (Nat.le_refl _), at0_get (by omega)] at this
      have := hb.pos _ (List.getElem_mem (show c.length < b.length by omega))
      omega
  have l1 := l b c hb e
  have l2 := l c b hc (fun r => (e r).symm)
  refine List.ext_getElem (by omega) (fun r h1 h2 => ?_)
  have := e r
  rwa [at0_get h1, at0_get h2] at this

/-- All partitions of a number, in the order in which they are listed. -/
def downs (m : Nat) : List Nat := (List.range m).map (fun i => m - i)
def pts : Nat → Nat → Nat → List (List Nat)
  | 0, left, _ => if left = 0 then [[]] else []
  | f + 1, left, most => if left = 0 then [[]] else (downs (min left most)).flatMap (fun k => (pts f (left - k) k).map (k :: ·))
theorem mem_downs {m k : Nat} : k ∈ downs m ↔ 1 ≤ k ∧ k ≤ m := by
  simp only [downs, List.mem_map, List.mem_range]
  constructor
  · rintro ⟨i, hi, rfl⟩; omega
  · rintro ⟨h1, h2⟩; exact ⟨m - k, by omega, by omega⟩
theorem downs_nodup (m : Nat) : (downs m).Nodup := map_nodup List.nodup_range (fun x hx y hy e => by
  have := List.mem_range.1 hx
  have := List.mem_range.1 hy
  omega)
theorem mem_pts : ∀ (f left most : Nat), left ≤ f → ∀ p, p ∈ pts f left most ↔ (p.sum = left ∧ Pn p ∧ ∀ x ∈ p, x ≤ most)
  | 0, left, most, hf, p => by
    obtain rfl : left = 0 := by omega
    simp only [pts, if_true, List.mem_singleton]
    constructor
    · rintro rfl; exact ⟨rfl, ⟨List.Pairwise.nil, by simp⟩, by simp⟩
    · rintro ⟨h1, h2, _⟩
      have := h2.len
      exact List.eq_nil_of_length_eq_zero (by omega)
  | f + 1, left, most, hf, p => by
    by_cases z : left = 0
    · subst z
      simp only [pts, if_true, List.mem_singleton]
      constructor
      · rintro rfl; exact ⟨rfl, ⟨List.Pairwise.nil, by simp⟩, by simp⟩
      · rintro ⟨h1, h2, _⟩
        have := h2.len
        exact List.eq_nil_of_length_eq_zero (by omega)
    · simp only [pts, z, if_false, List.mem_flatMap, List.mem_map, mem_downs]
      constructor
      · rintro ⟨k, ⟨h1, h2⟩, q, hq, rfl⟩
        obtain ⟨i1, i2, i3⟩ := (mem_pts f (left - k) k (by omega) q).1 hq
        refine ⟨by rw [List.sum_cons]; omega, ⟨List.pairwise_cons.2 ⟨fun y hy => i3 y hy, i2.down⟩, fun x hx => ?_⟩, fun x hx => ?_⟩
        · rcases List.mem_cons.1 hx with rfl | hx
          · exact h1
          · exact i2.pos x hx
        · rcases List.mem_cons.1 hx with rfl | hx
          · omega
          · have := i3 x hx; omega
      · rintro ⟨h1, h2, h3⟩
        match p, h1, h2, h3 with
        | [], h1, _, _ => simp at h1; omega
        | k :: q, h1, h2, h3 =>
          rw [List.sum_cons] at h1
          have k1 := h2.pos k (by simp)
          have k2 := h3 k (by simp)
          have d := List.pairwise_cons.1 h2.down
          exact ⟨k, ⟨k1, by omega⟩, q, (mem_pts f (left - k) k (by omega) q).2 ⟨by omega, ⟨d.2, fun x hx => h2.pos x (by simp [hx])⟩, fun x hx => d.1 x hx⟩, rfl⟩
theorem pts_nodup : ∀ (f left most : Nat), (pts f left most).Nodup
  | 0, left, most => by
    by_cases z : left = 0
    · simp [pts, z]
    · simp [pts, z]
  | f + 1, left, most => by
    by_cases z : left = 0
    · simp [pts, z]
    · simp only [pts, z, if_false]
      refine flat_nodup (fun l => l.headD 0) (downs_nodup _) (fun k _ => cons_nodup k (pts_nodup f (left - k) k)) (fun k _ y hy => ?_)
      obtain ⟨q, _, rfl⟩ := List.mem_map.1 hy
      rfl
/-- Those of n. -/
def allP (n : Nat) : List (List Nat) := pts n n n
theorem mem_allP {n : Nat} {p : List Nat} : p ∈ allP n ↔ p.sum = n ∧ Pn p := by
  unfold allP
  rw [mem_pts n n n (Nat.le_refl _)]
  constructor
  · rintro ⟨h1, h2, _⟩; exact ⟨h1, h2⟩
  · rintro ⟨h1, h2⟩; exact ⟨h1, h2, fun x hx => by have := le_sum x hx; omega⟩
theorem allP_nodup (n : Nat) : (allP n).Nodup := pts_nodup _ _ _

/-- The number that the program finds. -/
def within (a c : List Nat) : Prop := a.length ≤ c.length ∧ ∀ r, r < a.length → at0 a r ≤ at0 c r
instance (a c : List Nat) : Decidable (within a c) := inferInstanceAs (Decidable (_ ∧ ∀ r, r < a.length → at0 a r ≤ at0 c r))
def num3 (a b c : List Nat) : Nat :=
  if a.sum + b.sum = c.sum ∧ within a c ∧ within b c then cnt b.length (at0 c) (bxs (at0 a) (at0 c) c.length 0 (at0 c 0)) (fun _ _ => 0) (at0 b) (fun _ => 0) else 0

theorem at0_pad {R : Nat} {b : List Nat} (h : b.length ≤ R) (r : Nat) : at0 (pad R b) r = at0 b r := by
  by_cases hr : r < R
  · rw [pad, at0_ofFn hr]
  · rw [pad, at0_ofFn_far (by omega), at0_far (by omega)]
theorem at0_padf {R : Nat} {b : List Nat} (h : b.length ≤ R) : at0 (pad R b) = at0 b := funext (at0_pad h)
theorem chain_mono {R : Nat} {e : List Nat} : ∀ {X : List (List Nat)} {a : List Nat}, Ch R a X e → ∀ r, r < R → at0 a r ≤ at0 e r
  | [], _, h, r, _ => by rw [h]; exact Nat.le_refl _
  | _ :: X, _, h, r, hr => Nat.le_trans (h.1 r hr).1 (chain_mono h.2 r hr)
theorem chain_sz {R : Nat} {e : List Nat} : ∀ {X : List (List Nat)} {a : List Nat}, Ch R a X e → sz R a + (wt R a X).sum = sz R e
  | [], _, h => by rw [h]; simp [wt]
  | q :: X, a, h => by
    have := chain_sz h.2
    have m := sz_mono h.1
    simp only [wt, List.sum_cons]; omega
theorem lr_nil {R M : Nat} {a b e : List Nat} (h : ∀ X, X ∈ U R M a b.length e → wt R a X = b → False) : lr R M a b e = 0 := by
  refine (S_congr (g := fun _ => 0) (fun X hX => ?_)).trans (S_zero _)
  rw [if_neg]
  rintro ⟨_, w⟩
  exact h X hX w
theorem within_of {a c : List Nat} (ha : Pn a) (h1 : a.length ≤ 16) (h : ∀ r, r < 16 → at0 a r ≤ at0 c r) : within a c := by
  refine ⟨?_, fun r hr => h r (by omega)⟩
  by_cases x : a.length ≤ c.length
  · exact x
  · have := h c.length (by omega)
    rw [at0_far (show c.length ≤ c.length by omega), at0_get (show c.length < a.length by omega)] at this
    have := ha.pos _ (List.getElem_mem (show c.length < a.length by omega))
    omega
theorem num3_lr {a b c : List Nat} (ha : Pn a) (hb : Pn b) (hc : Pn c) (a16 : a.sum ≤ 16) (b16 : b.sum ≤ 16) (c16 : c.sum ≤ 16) :
    (num3 a b c : Int) = lr 16 16 (pad 16 a) b (pad 16 c) := by
  have pa := ha.par a16
  have pb := hb.par b16
  have pc := hc.par c16
  unfold num3
  by_cases h : a.sum + b.sum = c.sum ∧ within a c ∧ within b c
  · rw [if_pos h, ← at0_padf pa.len, ← at0_padf pc.len]
    refine count_all (pad_mem pa.top) (pad_mem pc.top) ⟨fun r => ?_, fun r => ?_, fun r => ?_, fun r hr => ?_⟩ pc.len rfl ?_
    · rw [at0_padf pa.len, at0_padf pc.len]
      by_cases x : r < a.length
      · exact h.2.1.2 r x
      · rw [at0_far (by omega)]; omega
    · rw [at0_padf pa.len]; exact at0_down ha.down (by omega)
    · rw [at0_padf pc.len]; exact at0_down hc.down (by omega)
    · rw [at0_padf pc.len]; exact at0_far hr
    · rw [sz_pad pa.len, sz_pad pc.len, ← lsum_rs]; exact h.1
  · rw [if_neg h]
    symm
    by_cases h1 : a.sum + b.sum = c.sum
    · by_cases h2 : within a c
      · have h3 : ¬ within b c := fun x => h ⟨h1, h2, x⟩
        rw [lr_turn pa pb]
        refine lr_nil (fun X hX _ => h3 (within_of hb pb.len (fun r hr => ?_)))
        have := chain_mono (mem_U.1 hX).2.2 r hr
        rwa [at0_pad pb.len, at0_pad pc.len] at this
      · refine lr_nil (fun X hX _ => h2 (within_of ha pa.len (fun r hr => ?_)))
        have := chain_mono (mem_U.1 hX).2.2 r hr
        rwa [at0_pad pa.len, at0_pad pc.len] at this
    · refine lr_nil (fun X hX w => h1 ?_)
      have := chain_sz (mem_U.1 hX).2.2
      rw [w, sz_pad pa.len, sz_pad pc.len] at this
      exact this

/-- What is listed of a product is all there is. -/
theorem lr_shape {a b d : List Nat} (ha : Pn a) (a16 : a.sum ≤ 16) (h : lr 16 16 (pad 16 a) b d ≠ 0) : ∃ p, p ∈ allP (a.sum + b.sum) ∧ pad 16 p = d := by
  have pa := ha.par a16
  have ex : ∃ X, X ∈ U 16 16 (pad 16 a) b.length d ∧ wt 16 (pad 16 a) X = b := by
    refine Classical.byContradiction (fun no => h (lr_nil (fun X hX w => no ⟨X, hX, w⟩)))
  obtain ⟨X, hX, w⟩ := ex
  have m := mem_U.1 hX
  have down : ∀ (X : List (List Nat)) (a : List Nat), (∀ r, at0 a (r + 1) ≤ at0 a r) → (∀ q ∈ X, q ∈ shapes 16 16) → Ch 16 a X d → ∀ r, at0 d (r + 1) ≤ at0 d r := by
    intro X
    induction X with
    | nil => intro a h _ hc r; rw [← hc]; exact h r
    | cons q X ih =>
      intro a h hq hc
      refine ih q (fun r => ?_) (fun x hx => hq x (by simp [hx])) hc.2
      by_cases hr : r < 16
      · have := hc.1 r hr; omega
      · have := (mem_shapes.1 (hq q (by simp))).1
        rw [at0_far (p := q) (r := r + 1) (by omega)]; omega
  have dd := down X (pad 16 a) (fun r => by rw [at0_pad pa.len, at0_pad pa.len]; exact at0_down ha.down (by omega)) m.2.1 m.2.2
  have s := chain_sz m.2.2
  rw [w, sz_pad pa.len] at s
  have dl : d.length = 16 := by
    match hX' : X, m with
    | [], m => rw [← m.2.2]; exact ofFn_len
    | q :: Y, m =>
      have key : ∀ (Y : List (List Nat)) (q : List Nat), q.length = 16 → (∀ x ∈ Y, x ∈ shapes 16 16) → Ch 16 q Y d → d.length = 16 := by
        intro Y
        induction Y with
        | nil => intro q h _ hc; rw [← hc]; exact h
        | cons x Y ih => intro q _ hq hc; exact ih x (mem_shapes.1 (hq x (by simp))).1 (fun z hz => hq z (by simp [hz])) hc.2
      exact key Y q (mem_shapes.1 (m.2.1 q (by simp))).1 (fun x hx => m.2.1 x (by simp [hx])) m.2.2.2
  -- the part of d that is not 0
  have cut : ∃ n, n ≤ 16 ∧ (∀ r, r < n → 1 ≤ at0 d r) ∧ ∀ r, n ≤ r → at0 d r = 0 := by
    have : ∀ n, n ≤ 16 → (∀ r, n ≤ r → at0 d r = 0) → ∃ n, n ≤ 16 ∧ (∀ r, r < n → 1 ≤ at0 d r) ∧ ∀ r, n ≤ r → at0 d r = 0 := by
      intro n
      induction n with
      | zero => intro _ h0; exact ⟨0, by omega, by omega, h0⟩
      | succ n ih =>
        intro hn h0
        by_cases z : at0 d n = 0
        · exact ih (by omega) (fun r hr => by
            by_cases e : r = n
            · subst e; exact z
            · exact h0 r (by omega))
        · refine ⟨n + 1, hn, fun r hr => ?_, h0⟩
          have : ∀ i, i ≤ n → at0 d n ≤ at0 d (n - i) := by
            intro i
            induction i with
            | zero => intro _; exact Nat.le_refl _
            | succ i ihi =>
              intro hi
              have := ihi (by omega)
              have := dd (n - (i + 1))
              rw [show n - (i + 1) + 1 = n - i by omega] at this
              omega
          have := this (n - r) (by omega)
          rw [show n - (n - r) = r by omega] at this
          omega
    exact this 16 (Nat.le_refl _) (fun r hr => at0_far (by omega))
  obtain ⟨n, n16', pos, zer⟩ := cut
  have pat : ∀ r, at0 (d.take n) r = at0 d r := by
    intro r
    by_cases hr : r < n
    · rw [at0_get (show r < (d.take n).length by rw [List.length_take]; omega), at0_get (show r < d.length by omega)]; simp
    · rw [zer r (by omega), at0_far (by rw [List.length_take]; omega)]
  have pp : pad 16 (d.take n) = d := shape_ext ofFn_len dl (fun r hr => by rw [pad, at0_ofFn hr, pat])
  refine ⟨d.take n, mem_allP.2 ⟨?_, ⟨?_, fun x hx => ?_⟩⟩, pp⟩
  · rw [← sz_pad (R := 16) (by rw [List.length_take]; omega), pp]; omega
  · refine List.pairwise_iff_getElem.2 (fun i j hi hj hij => ?_)
    have hd : ∀ k, at0 d (i + k) ≤ at0 d i := by
      intro k
      induction k with
      | zero => exact Nat.le_refl _
      | succ k ih => have := dd (i + k); rw [show i + (k + 1) = i + k + 1 by omega]; omega
    have := hd (j - i)
    rw [show i + (j - i) = j by omega, ← pat, ← pat, at0_get hi, at0_get hj] at this
    exact this
  · obtain ⟨r, hr, rfl⟩ := List.getElem_of_mem hx
    have := pos r (by rw [List.length_take] at hr; omega)
    rwa [← pat, at0_get hr] at this

theorem S_sub {α : Type} [DecidableEq α] {A B : List α} (hA : A.Nodup) (hB : B.Nodup) (sub : ∀ x ∈ A, x ∈ B) (f : α → Int) (h0 : ∀ x ∈ B, x ∉ A → f x = 0) : S A f = S B f := by
  have e : S B f = S (B.filter (fun x => decide (x ∈ A))) f := by
    rw [S_filter]
    refine S_congr (fun x hx => ?_)
    by_cases c : x ∈ A
    · simp [c]
    · simp [c, h0 x hx c]
  rw [e]
  refine S_perm f ((List.perm_ext_iff_of_nodup hA (hB.sublist List.filter_sublist)).2 (fun x => ?_))
  simp only [List.mem_filter, decide_eq_true_eq]
  exact ⟨fun h => ⟨sub x h, h⟩, fun h => h.2⟩

/-- THE LAW: products do not hang on brackets. -/
theorem law {a b c e : List Nat} (ha : Pn a) (hb : Pn b) (hc : Pn c) (he : Pn e) (h16 : a.sum + b.sum + c.sum ≤ 16) (e16 : e.sum ≤ 16) :
    S (allP (a.sum + b.sum)) (fun d => (num3 a b d * num3 d c e : Int)) = S (allP (b.sum + c.sum)) (fun d => (num3 b c d * num3 d a e : Int)) := by
  have key : ∀ a b c : List Nat, Pn a → Pn b → Pn c → a.sum + b.sum + c.sum ≤ 16 → S (allP (a.sum + b.sum)) (fun d => (num3 a b d * num3 d c e : Int))
      = S (shapes 16 16) (fun d => lr 16 16 (pad 16 a) b d * lr 16 16 d c (pad 16 e)) := by
    intro a b c ha hb hc h16
    have e1 : ∀ d ∈ allP (a.sum + b.sum), (num3 a b d * num3 d c e : Int) = (fun d => lr 16 16 (pad 16 a) b d * lr 16 16 d c (pad 16 e)) (pad 16 d) := by
      intro d hd
      have hd' := mem_allP.1 hd
      rw [num3_lr ha hb hd'.2 (by omega) (by omega) (by omega), num3_lr hd'.2 hc he (by omega) (by omega) e16]
    rw [S_congr e1, ← S_map (pad 16) (fun d => lr 16 16 (pad 16 a) b d * lr 16 16 d c (pad 16 e))]
    refine S_sub (map_nodup (allP_nodup _) (fun x hx y hy h => ?_)) (shapes_nodup 16 16) (fun x hx => ?_) _ (fun x _ hx => ?_)
    · have hx' := mem_allP.1 hx
      have hy' := mem_allP.1 hy
      exact pad_inj hx'.2 hy'.2 (by have := hx'.2.len; omega) (by have := hy'.2.len; omega) h
    · obtain ⟨p, hp, rfl⟩ := List.mem_map.1 hx
      have hp' := mem_allP.1 hp
      exact pad_mem (fun x hx => by have := le_sum x hx; omega)
    · by_cases z : lr 16 16 (pad 16 a) b x = 0
      · rw [z, Int.zero_mul]
      · obtain ⟨p, hp, e⟩ := lr_shape ha (by omega) z
        exact absurd (List.mem_map.2 ⟨p, hp, e⟩) hx
  rw [key a b c ha hb hc h16, key b c a hb hc ha (by omega)]
  exact brackets (ha.par (by omega)) (hb.par (by omega)) (hc.par (by omega))
/- There is always something in a product. -/
def partA (R : Nat) (a b : List Nat) (l : Nat) : List Nat := ofFn R (fun r => at0 a r + if r < l then at0 b r else 0)
def canA (R : Nat) (a b : List Nat) : Nat → Nat → List (List Nat)
  | _, 0 => []
  | l, n + 1 => partA R a b (l + 1) :: canA R a b (l + 1) n
theorem at0_partA {R l r : Nat} {a b : List Nat} (h : r < R) : at0 (partA R a b l) r = at0 a r + if r < l then at0 b r else 0 := at0_ofFn h
theorem partA_step {R l : Nat} {a b : List Nat} (h : l < R) (f : Nat → Nat) :
    rs R (fun r => f (at0 (partA R a b (l + 1)) r)) + f (at0 a l) = rs R (fun r => f (at0 (partA R a b l) r)) + f (at0 a l + at0 b l) := by
  have e : rs R (fun r => f (at0 (partA R a b (l + 1)) r) + (if r = l then f (at0 a l) else 0)) = rs R (fun r => f (at0 (partA R a b l) r) + (if r = l then f (at0 a l + at0 b l) else 0)) := by
    refine rs_congr (fun r hr => ?_)
    rw [at0_partA hr, at0_partA hr]
    by_cases c : r = l
    · subst c; simp; omega
    · by_cases c2 : r < l
      · simp [c, c2, show r < l + 1 by omega]
      · simp [c, c2, show ¬ r < l + 1 by omega]
  rw [rs_add, rs_add, rs_at h, rs_at h] at e
  exact e
theorem canA_ok {R M : Nat} {a b : List Nat} (ha : a.Pairwise (· ≥ ·)) (hb : b.Pairwise (· ≥ ·)) (hM : ∀ r, at0 a r + at0 b r ≤ M) : ∀ (n l : Nat), l + n ≤ R → (l + n = b.length) →
    (canA R a b l n).length = n ∧ (∀ q ∈ canA R a b l n, q ∈ shapes R M) ∧ Ch R (partA R a b l) (canA R a b l n) (partA R a b b.length) ∧ wt R (partA R a b l) (canA R a b l n) = b.drop l ∧
    (∀ j i, bad R (partA R a b l) (canA R a b l n) j i = false)
  | 0, l, _, h2 => by
    refine ⟨rfl, by simp [canA], by simp only [canA, Ch]; rw [← h2]; simp, by simp [canA, wt, show b.length ≤ l by omega], fun j i => bad_short (by simp [canA])⟩
  | n + 1, l, h1, h2 => by
    obtain ⟨i1, i2, i3, i4, i5⟩ := canA_ok (R := R) (M := M) ha hb hM n (l + 1) (by omega) (by omega)
    have mem : ∀ l, partA R a b l ∈ shapes R M := by
      intro l
      refine shape_of ofFn_len (fun r hr => ?_)
      rw [at0_partA hr]
      have := hM r
      by_cases c : r < l
      · simp only [c, if_true]; exact this
      · simp only [c, if_false]; omega
    refine ⟨by simp [canA, i1], fun q hq => ?_, ⟨fun r hr => ⟨?_, ?_⟩, i3⟩, ?_, fun j i => ?_⟩
    · simp only [canA, List.mem_cons] at hq
      rcases hq with rfl | hq
      · exact mem _
      · exact i2 q hq
    · rw [at0_partA hr, at0_partA hr]
      by_cases c : r < l
      · simp [c, show r < l + 1 by omega]
      · simp [c]
    · have da := at0_down ha (show r ≤ r + 1 by omega)
      have db := at0_down hb (show r ≤ r + 1 by omega)
      by_cases c : r + 1 < R
      · rw [at0_partA c, at0_partA hr]
        by_cases c2 : r < l
        · simp only [c2, show r + 1 < l + 1 by omega, if_true]; omega
        · simp only [c2, show ¬ r + 1 < l + 1 by omega, if_false]; omega
      · rw [partA, at0_ofFn_far (by omega)]; omega
    · simp only [canA, wt, i4]
      have st := partA_step (R := R) (l := l) (a := a) (b := b) (by omega) (fun x => x)
      rw [drop_at (show l < b.length by omega)]
      congr 1
      unfold sz
      have e1 : rs R (at0 (partA R a b (l + 1))) = rs R (fun r => at0 (partA R a b (l + 1)) r) := rfl
      have e2 : rs R (at0 (partA R a b l)) = rs R (fun r => at0 (partA R a b l) r) := rfl
      rw [e1, e2]
      omega
    · match n, i5 with
      | 0, _ =>
        match i with
        | 0 => rfl
        | i + 1 => exact bad_short (by simp [canA])
      | n + 1, i5 =>
        match i with
        | 0 =>
          have t1 := partA_step (R := R) (l := l) (a := a) (b := b) (by omega) (fun x => x - j)
          have t2 := partA_step (R := R) (l := l + 1) (a := a) (b := b) (by omega) (fun x => x - j)
          have da := at0_down ha (show l ≤ l + 1 by omega)
          have db := at0_down hb (show l ≤ l + 1 by omega)
          simp only [bad, canA, List.map_cons, badN, decide_eq_false_iff_not]
          unfold tr
          omega
        | i + 1 => exact i5 j i
theorem S_pos {α : Type} {f : α → Int} : ∀ {l : List α}, (∀ x ∈ l, 0 ≤ f x) → ∀ x ∈ l, f x ≤ S l f
  | [], _, _, h => by cases h
  | y :: l, h0, x, hx => by
    have nn : ∀ (l : List α), (∀ x ∈ l, 0 ≤ f x) → 0 ≤ S l f := by
      intro l
      induction l with
      | nil => intro _; exact Int.le_refl _
      | cons z l ih => intro h; have := h z (by simp); have := ih (fun x hx => h x (by simp [hx])); simp only [S]; omega
    simp only [S]
    rcases List.mem_cons.1 hx with rfl | hx
    · have := nn l (fun x hx => h0 x (by simp [hx])); omega
    · have := S_pos (fun x hx => h0 x (by simp [hx])) x hx
      have := h0 y (by simp)
      omega
theorem some_in {a b : List Nat} (ha : Pn a) (hb : Pn b) (h16 : a.sum + b.sum ≤ 16) : ∃ p, p ∈ allP (a.sum + b.sum) ∧ 0 < num3 a b p := by
  have pa := ha.par (by omega)
  have pb := hb.par (by omega)
  have at_le : ∀ (b : List Nat) r, at0 b r ≤ b.sum := by
    intro b r
    by_cases c : r < b.length
    · rw [at0_get c]; exact le_sum _ (List.getElem_mem c)
    · rw [at0_far (by omega)]; omega
  have k := canA_ok (R := 16) (M := 16) ha.down hb.down (fun r => by have := at_le a r; have := at_le b r; omega) b.length 0 (by have := pb.len; omega) (by omega)
  have e0 : partA 16 a b 0 = pad 16 a := shape_ext ofFn_len ofFn_len (fun r hr => by rw [at0_partA hr, pad, at0_ofFn hr]; simp)
  rw [e0] at k
  have hU : canA 16 a b 0 b.length ∈ U 16 16 (pad 16 a) b.length (partA 16 a b b.length) := mem_U.2 ⟨k.1, k.2.1, k.2.2.1⟩
  have g : Good 16 16 (pad 16 a) (canA 16 a b 0 b.length) := (good_all ⟨pad_mem pa.top, k.2.1, k.2.2.1⟩).2 k.2.2.2.2
  have ne : lr 16 16 (pad 16 a) b (partA 16 a b b.length) ≠ 0 := by
    have := S_pos (f := fun X => if Good 16 16 (pad 16 a) X ∧ wt 16 (pad 16 a) X = b then 1 else 0) (l := U 16 16 (pad 16 a) b.length (partA 16 a b b.length)) (fun x _ => by
      by_cases c : Good 16 16 (pad 16 a) x ∧ wt 16 (pad 16 a) x = b
      · simp [c]
      · simp [c]) _ hU
    rw [if_pos ⟨g, by simpa using k.2.2.2.1⟩] at this
    unfold lr
    omega
  obtain ⟨p, hp, e⟩ := lr_shape ha (by omega) ne
  have hp' := mem_allP.1 hp
  refine ⟨p, hp, ?_⟩
  have n := num3_lr ha hb hp'.2 (by omega) (by omega) (by omega)
  rw [e] at n
  omega
end Go.Proofs.YtidnpmkdajicjaaDoor.LR
