/-
  Plain: loops on a square of boxes, followed from an outer line to another one.
-/
import Derived.Test.YtdmpbbgcifodeaaBase
namespace Go.Proofs.Ytdmpbbgcifodeaa

/-- Edges: left of box (i, j), and above it. -/
inductive Ed where
  | h (i j : Int)
  | v (i j : Int)

/-- A box, and by which of its four edges one came in. -/
structure Dt where
  r : Int
  q : Int
  c : Nat

abbrev Cf := Ed → Bool

def edAt (r q : Int) : Nat → Ed
  | 0 => .h r q
  | 1 => .v (r + 1) q
  | 2 => .h r (q + 1)
  | _ => .v r q
def mvR (r : Int) : Nat → Int
  | 0 => r
  | 1 => r + 1
  | 2 => r
  | _ => r - 1
def mvQ (q : Int) : Nat → Int
  | 0 => q - 1
  | 1 => q
  | 2 => q + 1
  | _ => q
def Two (b0 b1 b2 b3 : Bool) : Prop := b0.toNat + b1.toNat + b2.toNat + b3.toNat = 2
instance (a b c d : Bool) : Decidable (Two a b c d) := by unfold Two; infer_instance
def wy (_ b1 b2 b3 : Bool) (c : Nat) : Nat := if b3 && c != 3 then 3 else if b2 && c != 2 then 2 else if b1 && c != 1 then 1 else 0
def pick (b0 b1 b2 b3 : Bool) (c : Nat) : Bool := match c with | 0 => b0 | 1 => b1 | 2 => b2 | _ => b3
theorem wy_all : ∀ b0 b1 b2 b3 : Bool, ∀ c : Fin 4, Two b0 b1 b2 b3 → pick b0 b1 b2 b3 c = true →
    wy b0 b1 b2 b3 c < 4 ∧ wy b0 b1 b2 b3 c ≠ c ∧ pick b0 b1 b2 b3 (wy b0 b1 b2 b3 c) = true ∧ wy b0 b1 b2 b3 (wy b0 b1 b2 b3 c) = c ∧
      ∀ w : Fin 4, pick b0 b1 b2 b3 w = true → w.val = c ∨ w.val = wy b0 b1 b2 b3 c := by decide

def wyAt (X : Cf) (r q : Int) (c : Nat) : Nat := wy (X (.h r q)) (X (.v (r + 1) q)) (X (.h r (q + 1))) (X (.v r q)) c
def nx (X : Cf) (d : Dt) : Dt := ⟨mvR d.r (wyAt X d.r d.q d.c), mvQ d.q (wyAt X d.r d.q d.c), (wyAt X d.r d.q d.c + 2) % 4⟩
def ed (d : Dt) : Ed := edAt d.r d.q d.c
def Ins (n : Int) (r q : Int) : Prop := 0 ≤ r ∧ r < n ∧ 0 ≤ q ∧ q < n

def outer (n k : Int) : Ed := if k < n then .h k 0 else if k < 2 * n then .v n (k - n) else if k < 3 * n then .h (3 * n - 1 - k) n else .v 0 (4 * n - 1 - k)
def gin (n k : Int) : Dt := if k < n then ⟨k, 0, 0⟩ else if k < 2 * n then ⟨n - 1, k - n, 1⟩ else if k < 3 * n then ⟨3 * n - 1 - k, n - 1, 2⟩ else ⟨0, 4 * n - 1 - k, 3⟩
/-- The outer line that one stands behind. -/
def lineOf (n r q : Int) : Int := if q < 0 then r else if r ≥ n then n + q else if q ≥ n then 3 * n - 1 - r else 4 * n - 1 - q

structure GdL (n : Int) (X : Cf) (s : Int) : Prop where
  pos : 1 ≤ n
  par : s = 0 ∨ s = 1
  two : ∀ r q, Ins n r q → Two (X (.h r q)) (X (.v (r + 1) q)) (X (.h r (q + 1))) (X (.v r q))
  bnd : ∀ k, 0 ≤ k → k < 4 * n → X (outer n k) = decide (k % 2 = s)

theorem edAt_pick (X : Cf) (r q : Int) (c : Nat) : X (edAt r q c) = pick (X (.h r q)) (X (.v (r + 1) q)) (X (.h r (q + 1))) (X (.v r q)) c := by
  match c with
  | 0 => rfl
  | 1 => rfl
  | 2 => rfl
  | _ + 3 => rfl

section
variable {n s : Int} {X : Cf}
/-- What holds where one stands inside on a line. -/
structure On (n : Int) (X : Cf) (d : Dt) : Prop where
  ins : Ins n d.r d.q
  c4 : d.c < 4
  on : X (ed d) = true

theorem GdL.way (hX : GdL n X s) {r q : Int} {c : Nat} (hi : Ins n r q) (hc : c < 4) (ho : X (edAt r q c) = true) :
    wyAt X r q c < 4 ∧ wyAt X r q c ≠ c ∧ X (edAt r q (wyAt X r q c)) = true ∧ wyAt X r q (wyAt X r q c) = c ∧ ∀ w, w < 4 → X (edAt r q w) = true → w = c ∨ w = wyAt X r q c := by
  rw [edAt_pick X] at ho
  obtain ⟨h1, h2, h3, h4, h5⟩ := wy_all _ _ _ _ ⟨c, hc⟩ (hX.two r q hi) ho
  exact ⟨h1, h2, by rw [edAt_pick X]; exact h3, h4, fun w hw hx => h5 ⟨w, hw⟩ (by rw [edAt_pick X] at hx; exact hx)⟩

theorem lt4 {c : Nat} (h : c < 4) : c = 0 ∨ c = 1 ∨ c = 2 ∨ c = 3 := by omega

/-- Over an edge one comes in by the same edge. -/
theorem ed_mv {r q : Int} {w : Nat} (hw : w < 4) : ed ⟨mvR r w, mvQ q w, (w + 2) % 4⟩ = edAt r q w := by
  rcases lt4 hw with rfl | rfl | rfl | rfl <;> simp [ed, edAt, mvR, mvQ] <;> omega
theorem mv_ne {r q : Int} {w : Nat} (hw : w < 4) : ¬ (mvR r w = r ∧ mvQ q w = q) := by
  rcases lt4 hw with rfl | rfl | rfl | rfl <;> simp [mvR, mvQ] <;> omega
/-- Who stands at an edge of (r, q) has come in there, or stands on the other side. -/
theorem ed_at {d : Dt} {r q : Int} {w : Nat} (hd : d.c < 4) (hw : w < 4) (h : ed d = edAt r q w) : (d.r = r ∧ d.q = q ∧ d.c = w) ∨ (d.r = mvR r w ∧ d.q = mvQ q w ∧ d.c = (w + 2) % 4) := by
  obtain ⟨a, b, c⟩ := d
  simp only at hd
  rcases lt4 hw with rfl | rfl | rfl | rfl <;> rcases lt4 hd with rfl | rfl | rfl | rfl <;> simp [ed, edAt, mvR, mvQ] at h ⊢ <;> omega
/-- Back over the edge. -/
theorem mv_back {r q a b : Int} {w : Nat} {c : Nat} (hw : w < 4) (hc : c < 4) (h1 : a = mvR r w) (h2 : b = mvQ q w) (h3 : c = (w + 2) % 4) : r = mvR a c ∧ q = mvQ b c ∧ w = (c + 2) % 4 := by
  rcases lt4 hw with rfl | rfl | rfl | rfl <;> simp [mvR, mvQ] at h1 h2 h3 <;> subst h3 <;> simp [mvR, mvQ] <;> omega

theorem nx_ed (hX : GdL n X s) {d : Dt} (h : On n X d) : ed (nx X d) = edAt d.r d.q (wyAt X d.r d.q d.c) := ed_mv (hX.way h.ins h.c4 h.on).1
theorem nx_on (hX : GdL n X s) {d : Dt} (h : On n X d) : X (ed (nx X d)) = true := by rw [nx_ed hX h]; exact (hX.way h.ins h.c4 h.on).2.2.1
theorem nx_c4 (d : Dt) : (nx X d).c < 4 := Nat.mod_lt _ (by decide)
theorem nx_next (hX : GdL n X s) {d : Dt} (h : On n X d) (hi : Ins n (nx X d).r (nx X d).q) : On n X (nx X d) := ⟨hi, nx_c4 d, nx_on hX h⟩
theorem Dt.ext' {d e : Dt} (h1 : d.r = e.r) (h2 : d.q = e.q) (h3 : d.c = e.c) : d = e := by
  cases d; cases e; simp at h1 h2 h3; simp [h1, h2, h3]
/-- No two ways lead to one place. -/
theorem nx_inj (hX : GdL n X s) {d e : Dt} (hd : On n X d) (he : On n X e) (h : nx X d = nx X e) : d = e := by
  have wd := hX.way hd.ins hd.c4 hd.on
  have we := hX.way he.ins he.c4 he.on
  have b1 := mv_back (a := (nx X d).r) (b := (nx X d).q) wd.1 (nx_c4 (X := X) d) rfl rfl rfl
  have b2 := mv_back (a := (nx X e).r) (b := (nx X e).q) we.1 (nx_c4 (X := X) e) rfl rfl rfl
  rw [h] at b1
  have hr : d.r = e.r := b1.1.trans b2.1.symm
  have hq : d.q = e.q := b1.2.1.trans b2.2.1.symm
  have hw : wyAt X d.r d.q d.c = wyAt X e.r e.q e.c := b1.2.2.trans b2.2.2.symm
  refine Dt.ext' hr hq ?_
  rw [← wd.2.2.2.1, hw, hr, hq, we.2.2.2.1]

/-- The way from an outer line. -/
def it (X : Cf) (d : Dt) : Nat → Dt
  | 0 => d
  | t + 1 => nx X (it X d t)

theorem gin_ed {k : Int} : ed (gin n k) = outer n k := by
  unfold gin outer
  split
  · rfl
  · split
    · simp [ed, edAt]
    · split
      · simp [ed, edAt]
      · rfl
theorem gin_ins (hn : 1 ≤ n) {k : Int} (h0 : 0 ≤ k) (h4 : k < 4 * n) : Ins n (gin n k).r (gin n k).q ∧ (gin n k).c < 4 := by
  unfold gin Ins
  split
  · simp; omega
  · split
    · simp; omega
    · split
      · simp; omega
      · simp; omega
theorem gin_on (hX : GdL n X s) {k : Int} (h0 : 0 ≤ k) (h4 : k < 4 * n) (hs : k % 2 = s) : On n X (gin n k) := by
  have := gin_ins hX.pos h0 h4
  exact ⟨this.1, this.2, by rw [gin_ed, hX.bnd k h0 h4]; simpa using hs⟩
/-- One does not come in from within at an outer line. -/
theorem gin_out (_ : 1 ≤ n) {k : Int} (_ : 0 ≤ k) (_ : k < 4 * n) {d : Dt} (hd : Ins n d.r d.q) {w : Nat} (hw : w < 4) : ¬ ((gin n k).r = mvR d.r w ∧ (gin n k).q = mvQ d.q w ∧ (gin n k).c = (w + 2) % 4) := by
  unfold Ins at hd
  unfold gin
  rcases lt4 hw with rfl | rfl | rfl | rfl
  all_goals
    split
    · simp [mvR, mvQ] <;> omega
    · split
      · simp [mvR, mvQ] <;> omega
      · split
        · simp [mvR, mvQ] <;> omega
        · simp [mvR, mvQ] <;> omega
/-- An edge at a box inside that is an outer line is that one's way in. -/
theorem ed_outer {k : Int} (hn : 1 ≤ n) (h0 : 0 ≤ k) (h4 : k < 4 * n) {d : Dt} (hd : Ins n d.r d.q) (hc : d.c < 4) (h : ed d = outer n k) : d = gin n k := by
  have hi := gin_ins hn h0 h4
  rw [← gin_ed] at h
  rcases ed_at (r := (gin n k).r) (q := (gin n k).q) (w := (gin n k).c) hc hi.2 h with ⟨h1, h2, h3⟩ | ⟨h1, h2, h3⟩
  · exact Dt.ext' h1 h2 h3
  · exfalso
    obtain ⟨a, b, c⟩ := mv_back hi.2 hc h1 h2 h3
    exact gin_out hn h0 h4 hd hc ⟨a, b, c⟩
theorem outer_inj {k l : Int} (hn : 1 ≤ n) (_ : 0 ≤ k) (_ : k < 4 * n) (_ : 0 ≤ l) (_ : l < 4 * n) (h : outer n k = outer n l) : k = l := by
  unfold outer at h
  split at h <;> (try split at h) <;> (try split at h) <;> (try split at h) <;> (try split at h) <;> (try split at h) <;> simp at h <;> omega

/-- Out at M from k. -/
def Outs (n : Int) (X : Cf) (k : Int) (M : Nat) : Prop := (∀ t, t < M → Ins n (it X (gin n k) t).r (it X (gin n k) t).q) ∧ ¬ Ins n (it X (gin n k) M).r (it X (gin n k) M).q

theorem it_on (hX : GdL n X s) {d : Dt} (hd : On n X d) : ∀ {M : Nat}, (∀ t, t ≤ M → Ins n (it X d t).r (it X d t).q) → On n X (it X d M)
  | 0, _ => hd
  | M + 1, h => nx_next hX (it_on hX hd (fun t ht => h t (by omega))) (h (M + 1) (Nat.le_refl _))
theorem it_true (hX : GdL n X s) {d : Dt} (hd : On n X d) {M : Nat} (h : ∀ t, t < M → Ins n (it X d t).r (it X d t).q) : X (ed (it X d M)) = true := by
  cases M with
  | zero => exact hd.on
  | succ M => exact nx_on hX (it_on hX hd (fun t ht => h t (by omega)))
/-- All places inside. -/
def spots (n : Nat) : List (Int × Int × Nat) := (List.range n).flatMap fun (r : Nat) => (List.range n).flatMap fun (q : Nat) => (List.range 4).map fun (c : Nat) => ((r : Int), (q : Int), c)
theorem mem_spots {m : Nat} (hm : n = m) {d : Dt} (hd : On n X d) : (d.r, d.q, d.c) ∈ spots m := by
  have h1 := hd.ins
  have h2 := hd.c4
  unfold Ins at h1
  unfold spots
  refine List.mem_flatMap.2 ⟨d.r.toNat, List.mem_range.2 (by omega), List.mem_flatMap.2 ⟨d.q.toNat, List.mem_range.2 (by omega), List.mem_map.2 ⟨d.c, List.mem_range.2 h2, ?_⟩⟩⟩
  rw [Int.toNat_of_nonneg h1.1, Int.toNat_of_nonneg h1.2.2.1]
theorem it_back (hX : GdL n X s) {k : Int} (h0 : 0 ≤ k) (h4 : k < 4 * n) (hs : k % 2 = s) (hall : ∀ t, Ins n (it X (gin n k) t).r (it X (gin n k) t).q) : ∀ a b : Nat, a < b → it X (gin n k) a = it X (gin n k) b → False
  | 0, b + 1, _, e => by
    have hd := gin_on hX h0 h4 hs
    have hb := it_on hX hd (M := b) (fun t _ => hall t)
    have hw := hX.way hb.ins hb.c4 hb.on
    refine gin_out hX.pos h0 h4 hb.ins hw.1 ?_
    change (gin n k).r = (nx X (it X (gin n k) b)).r ∧ (gin n k).q = (nx X (it X (gin n k) b)).q ∧ (gin n k).c = (nx X (it X (gin n k) b)).c
    change gin n k = nx X (it X (gin n k) b) at e
    rw [← e]
    exact ⟨rfl, rfl, rfl⟩
  | a + 1, b + 1, h, e => by
    have hd := gin_on hX h0 h4 hs
    exact it_back hX h0 h4 hs hall a b (by omega) (nx_inj hX (it_on hX hd (fun t _ => hall t)) (it_on hX hd (fun t _ => hall t)) e)
theorem outs_any (hX : GdL n X s) {k : Int} (h0 : 0 ≤ k) (h4 : k < 4 * n) (hs : k % 2 = s) : ∃ M, Outs n X k M := by
  have hex : ∃ M, ¬ Ins n (it X (gin n k) M).r (it X (gin n k) M).q := by
    refine Classical.byContradiction fun hno => ?_
    have hall : ∀ t, Ins n (it X (gin n k) t).r (it X (gin n k) t).q := fun t => Classical.byContradiction fun h => hno ⟨t, h⟩
    obtain ⟨m, hm⟩ : ∃ m : Nat, n = m := ⟨n.toNat, by have := hX.pos; omega⟩
    have hd := gin_on hX h0 h4 hs
    have hnd : ((List.range ((spots m).length + 1)).map (fun t => ((it X (gin n k) t).r, (it X (gin n k) t).q, (it X (gin n k) t).c))).Nodup := by
      rw [List.nodup_iff_pairwise_ne, List.pairwise_map]
      refine List.pairwise_lt_range.imp (fun {a b} hab e => ?_)
      simp only [Prod.mk.injEq] at e
      exact it_back hX h0 h4 hs hall a b hab (Dt.ext' e.1 e.2.1 e.2.2)
    have hsub : ((List.range ((spots m).length + 1)).map (fun t => ((it X (gin n k) t).r, (it X (gin n k) t).q, (it X (gin n k) t).c))) ⊆ spots m := by
      intro z hz
      obtain ⟨t, _, rfl⟩ := List.mem_map.1 hz
      exact mem_spots hm (it_on hX hd (fun t _ => hall t))
    have := hnd.length_le_of_subset hsub
    simp at this
    omega
  obtain ⟨M, hM⟩ := hex
  induction M using Nat.strongRecOn with
  | ind M ih =>
    by_cases h : ∃ t, t < M ∧ ¬ Ins n (it X (gin n k) t).r (it X (gin n k) t).q
    · obtain ⟨t, ht, hno⟩ := h
      exact ih t ht hno
    · exact ⟨M, fun t ht => Classical.byContradiction fun hh => h ⟨t, ht, hh⟩, hM⟩
theorem outs_one {k : Int} {M M' : Nat} (h : Outs n X k M) (h' : Outs n X k M') : M = M' := by
  rcases Nat.lt_trichotomy M M' with c | c | c
  · exact absurd (h'.1 M c) h.2
  · exact c
  · exact absurd (h.1 M' c) h'.2
/-- Where one comes out is an outer line. -/
theorem out_line (hX : GdL n X s) {d : Dt} (hd : On n X d) (ho : ¬ Ins n (nx X d).r (nx X d).q) :
    0 ≤ lineOf n (nx X d).r (nx X d).q ∧ lineOf n (nx X d).r (nx X d).q < 4 * n ∧ outer n (lineOf n (nx X d).r (nx X d).q) = ed (nx X d) := by
  have hw := hX.way hd.ins hd.c4 hd.on
  rw [nx_ed hX hd]
  have hi := hd.ins
  have hn := hX.pos
  unfold Ins at hi ho
  simp only [nx] at ho ⊢
  obtain ⟨w, hw'⟩ : ∃ w, w = wyAt X d.r d.q d.c := ⟨_, rfl⟩
  rw [← hw'] at ho hw ⊢
  rcases lt4 hw.1 with rfl | rfl | rfl | rfl <;> simp only [mvR, mvQ] at ho ⊢ <;> unfold lineOf outer edAt
  · have : d.q = 0 := by omega
    rw [if_pos (by omega), if_pos (by omega)]
    simp; omega
  · have : d.r = n - 1 := by omega
    rw [if_neg (by omega), if_pos (by omega), if_neg (by omega), if_pos (by omega)]
    simp; omega
  · have : d.q = n - 1 := by omega
    rw [if_neg (by omega), if_neg (by omega), if_pos (by omega), if_neg (by omega), if_neg (by omega), if_pos (by omega)]
    simp; omega
  · have : d.r = 0 := by omega
    rw [if_neg (by omega), if_neg (by omega), if_neg (by omega), if_neg (by omega), if_neg (by omega), if_neg (by omega)]
    simp; omega

/-- Lines that hang together. -/
def Lnk (n : Int) (X : Cf) (k k' : Int) : Prop := ∃ M, Outs n X k M ∧ lineOf n (it X (gin n k) M).r (it X (gin n k) M).q = k'

/-- Labels that are the same on both edges of each box. -/
def Cons (n : Int) (X : Cf) {α : Type} (lab : Ed → α) : Prop := ∀ r q, Ins n r q → ∀ c c', c < 4 → c' < 4 → X (edAt r q c) = true → X (edAt r q c') = true → lab (edAt r q c) = lab (edAt r q c')

theorem Outs.pos (hn : 1 ≤ n) {k : Int} (h0 : 0 ≤ k) (h4 : k < 4 * n) {M : Nat} (h : Outs n X k M) : ∃ m, M = m + 1 := by
  cases M with
  | zero => exact absurd (gin_ins hn h0 h4).1 h.2
  | succ m => exact ⟨m, rfl⟩
theorem outs_end (hX : GdL n X s) {k : Int} (h0 : 0 ≤ k) (h4 : k < 4 * n) (hs : k % 2 = s) {M : Nat} (h : Outs n X k M) {k' : Int} (e : lineOf n (it X (gin n k) M).r (it X (gin n k) M).q = k') :
    0 ≤ k' ∧ k' < 4 * n ∧ k' % 2 = s ∧ outer n k' = ed (it X (gin n k) M) := by
  obtain ⟨m, rfl⟩ := h.pos hX.pos h0 h4
  have hd := it_on hX (gin_on hX h0 h4 hs) (M := m) (fun t ht => h.1 t (by omega))
  obtain ⟨a, b, c⟩ := out_line hX hd h.2
  subst e
  refine ⟨a, b, ?_, c⟩
  have := hX.bnd _ a b
  rw [c, nx_on hX hd] at this
  exact of_decide_eq_true this.symm
theorem Lnk.end_ (hX : GdL n X s) {k k' : Int} (h0 : 0 ≤ k) (h4 : k < 4 * n) (hs : k % 2 = s) (h : Lnk n X k k') : 0 ≤ k' ∧ k' < 4 * n ∧ k' % 2 = s := by
  obtain ⟨M, hM, e⟩ := h
  obtain ⟨a, b, c, _⟩ := outs_end hX h0 h4 hs hM e
  exact ⟨a, b, c⟩
theorem lab_it (hX : GdL n X s) {α : Type} {lab : Ed → α} (hl : Cons n X lab) {d : Dt} (hd : On n X d) : ∀ {M : Nat}, (∀ t, t < M → Ins n (it X d t).r (it X d t).q) → lab (ed (it X d M)) = lab (ed d)
  | 0, _ => rfl
  | M + 1, h => by
    have hM := it_on hX hd (M := M) (fun t ht => h t (by omega))
    have hw := hX.way hM.ins hM.c4 hM.on
    rw [← lab_it hX hl hd (M := M) (fun t ht => h t (by omega))]
    change lab (ed (nx X (it X d M))) = _
    rw [nx_ed hX hM]
    exact hl _ _ hM.ins _ _ hw.1 hM.c4 hw.2.2.1 hM.on
theorem Lnk.lab (hX : GdL n X s) {α : Type} {lab : Ed → α} (hl : Cons n X lab) {k k' : Int} (h0 : 0 ≤ k) (h4 : k < 4 * n) (hs : k % 2 = s) (h : Lnk n X k k') : lab (outer n k) = lab (outer n k') := by
  obtain ⟨M, hM, e⟩ := h
  obtain ⟨_, _, _, e2⟩ := outs_end hX h0 h4 hs hM e
  rw [e2, lab_it hX hl (gin_on hX h0 h4 hs) hM.1, gin_ed]

/-- No line comes back to itself: the way would be its own way back. -/
theorem mirror (hX : GdL n X s) {d : Dt} (hd : On n X d) {M : Nat} (hin : ∀ t, t < M → Ins n (it X d t).r (it X d t).q) : ∀ (k a b : Nat), b = a + k → b < M →
    (it X d a).r = (it X d b).r → (it X d a).q = (it X d b).q → wyAt X (it X d b).r (it X d b).q (it X d b).c = (it X d a).c → False := by
  have on : ∀ t, t < M → On n X (it X d t) := fun t ht => it_on hX hd (fun u hu => hin u (by omega))
  intro k
  induction k using Nat.strongRecOn with
  | ind k ih =>
    intro a b hb hM h1 h2 h3
    have ob := on b hM
    have wb := hX.way ob.ins ob.c4 ob.on
    have oa := on a (by omega)
    match k, hb, ih with
    | 0, hb, _ => subst hb; exact wb.2.1 h3
    | 1, hb, _ =>
      subst hb
      have wa := hX.way oa.ins oa.c4 oa.on
      have := mv_ne (r := (it X d a).r) (q := (it X d a).q) wa.1
      exact this ⟨h1.symm, h2.symm⟩
    | k + 2, hb, ih =>
      obtain ⟨b', rfl⟩ : ∃ b', b = b' + 1 := ⟨b - 1, by omega⟩
      have ob' := on b' (by omega)
      have wb' := hX.way ob'.ins ob'.c4 ob'.on
      have wa := hX.way oa.ins oa.c4 oa.on
      -- the way from a is the edge by which b was come to
      have hwa : wyAt X (it X d a).r (it X d a).q (it X d a).c = (it X d (b' + 1)).c := by rw [← h3, h1, h2]; exact wb.2.2.2.1
      have back := mv_back (r := (it X d b').r) (q := (it X d b').q) (a := (it X d (b' + 1)).r) (b := (it X d (b' + 1)).q) (c := (it X d (b' + 1)).c) wb'.1 ob.c4 rfl rfl rfl
      refine ih k (by omega) (a + 1) b' (by omega) (by omega) ?_ ?_ ?_
      · change mvR (it X d a).r (wyAt X (it X d a).r (it X d a).q (it X d a).c) = _
        rw [hwa, back.1, h1]
      · change mvQ (it X d a).q (wyAt X (it X d a).r (it X d a).q (it X d a).c) = _
        rw [hwa, back.2.1, h2]
      · change _ = (wyAt X (it X d a).r (it X d a).q (it X d a).c + 2) % 4
        rw [hwa, back.2.2]
theorem Lnk.ne (hX : GdL n X s) {k k' : Int} (h0 : 0 ≤ k) (h4 : k < 4 * n) (hs : k % 2 = s) (h : Lnk n X k k') : k' ≠ k := by
  obtain ⟨M, hM, e⟩ := h
  obtain ⟨a, b, c, e2⟩ := outs_end hX h0 h4 hs hM e
  rintro rfl
  obtain ⟨m, rfl⟩ := hM.pos hX.pos h0 h4
  have hd := gin_on hX h0 h4 hs
  have om := it_on hX hd (M := m) (fun t ht => hM.1 t (by omega))
  have wm := hX.way om.ins om.c4 om.on
  have e3 : edAt (it X (gin n k') m).r (it X (gin n k') m).q (wyAt X (it X (gin n k') m).r (it X (gin n k') m).q (it X (gin n k') m).c) = outer n k' := by
    rw [e2]; exact (nx_ed hX om).symm
  have e4 := ed_outer hX.pos h0 h4 (d := ⟨(it X (gin n k') m).r, (it X (gin n k') m).q, wyAt X (it X (gin n k') m).r (it X (gin n k') m).q (it X (gin n k') m).c⟩) om.ins wm.1 e3
  refine mirror hX hd (M := m + 1) hM.1 m 0 m (by omega) (by omega) ?_ ?_ ?_
  · exact (congrArg Dt.r e4).symm
  · exact (congrArg Dt.q e4).symm
  · exact congrArg Dt.c e4

/-- The lines from whose way one sees an edge. -/
def seen (n : Int) (X : Cf) (s : Int) (e : Ed) : Int → Prop := fun k => 0 ≤ k ∧ k < 4 * n ∧ k % 2 = s ∧ ∃ M, Outs n X k M ∧ ∃ t, t ≤ M ∧ ed (it X (gin n k) t) = e
theorem seen_step (hX : GdL n X s) {r q : Int} (hi : Ins n r q) {c c' : Nat} (hc : c < 4) (hc' : c' < 4) (h1 : X (edAt r q c) = true) (h2 : X (edAt r q c') = true) {k : Int} (h : seen n X s (edAt r q c) k) : seen n X s (edAt r q c') k := by
  obtain ⟨h0, h4, hs, M, hM, t, ht, e⟩ := h
  refine ⟨h0, h4, hs, M, hM, ?_⟩
  have hd := gin_on hX h0 h4 hs
  by_cases hcc : c' = c
  · subst hcc; exact ⟨t, ht, e⟩
  have hc0 : (it X (gin n k) t).c < 4 := by
    cases t with
    | zero => exact hd.c4
    | succ t => exact nx_c4 _
  rcases ed_at hc0 hc e with ⟨a1, a2, a3⟩ | ⟨a1, a2, a3⟩
  · have htM : t < M := by
      rcases Nat.lt_or_ge t M with c | c
      · exact c
      · obtain rfl : t = M := by omega
        exact absurd (by rw [a1, a2]; exact hi) hM.2
    have ot := it_on hX hd (M := t) (fun u hu => hM.1 u (by omega))
    refine ⟨t + 1, htM, ?_⟩
    change ed (nx X (it X (gin n k) t)) = _
    rw [nx_ed hX ot, a1, a2, a3]
    have := (hX.way hi hc h1).2.2.2.2 c' hc' h2
    rcases this with h | h
    · exact absurd h hcc
    · rw [← h]
  · have back := mv_back hc hc0 a1 a2 a3
    cases t with
    | zero =>
      exact absurd ⟨a1, a2, a3⟩ (gin_out hX.pos h0 h4 (d := ⟨r, q, c⟩) hi hc)
    | succ t =>
      have ot := it_on hX hd (M := t) (fun u hu => hM.1 u (by omega))
      have wt := hX.way ot.ins ot.c4 ot.on
      have bk := mv_back (r := (it X (gin n k) t).r) (q := (it X (gin n k) t).q) (a := (it X (gin n k) (t + 1)).r) (b := (it X (gin n k) (t + 1)).q) (c := (it X (gin n k) (t + 1)).c) wt.1 hc0 rfl rfl rfl
      have er : (it X (gin n k) t).r = r := bk.1.trans back.1.symm
      have eq : (it X (gin n k) t).q = q := bk.2.1.trans back.2.1.symm
      have ew : wyAt X (it X (gin n k) t).r (it X (gin n k) t).q (it X (gin n k) t).c = c := bk.2.2.trans back.2.2.symm
      refine ⟨t, by omega, ?_⟩
      have hx := wt.2.2.2.1
      rw [ew, er, eq] at hx
      have := (hX.way hi hc h1).2.2.2.2 c' hc' h2
      rcases this with h | h
      · exact absurd h hcc
      · unfold ed; rw [er, eq, ← hx, ← h]
theorem seen_cons (hX : GdL n X s) : Cons n X (seen n X s) := fun r q hi c c' hc hc' h1 h2 => by
  funext k
  exact propext ⟨seen_step hX hi hc hc' h1 h2, seen_step hX hi hc' hc h2 h1⟩
theorem seen_sharp (hX : GdL n X s) {k k' : Int} (h0 : 0 ≤ k) (h4 : k < 4 * n) (hs : k % 2 = s) (l0 : 0 ≤ k') (l4 : k' < 4 * n) (h : seen n X s (outer n k) = seen n X s (outer n k')) : k' = k ∨ Lnk n X k k' := by
  obtain ⟨M, hM⟩ := outs_any hX h0 h4 hs
  have h1 : seen n X s (outer n k) k := ⟨h0, h4, hs, M, hM, 0, Nat.zero_le _, gin_ed⟩
  rw [h] at h1
  obtain ⟨_, _, _, M', hM', t, ht, e⟩ := h1
  obtain rfl := outs_one hM hM'
  have hd := gin_on hX h0 h4 hs
  rcases Nat.lt_or_ge t M with c | c
  · have ot := it_on hX hd (M := t) (fun u hu => hM.1 u (by omega))
    have e2 := ed_outer hX.pos l0 l4 ot.ins ot.c4 e
    cases t with
    | zero =>
      left
      have : outer n k = outer n k' := by rw [← gin_ed, ← gin_ed]; exact congrArg ed e2
      exact (outer_inj hX.pos h0 h4 l0 l4 this).symm
    | succ t =>
      exfalso
      have op := it_on hX hd (M := t) (fun u hu => hM.1 u (by omega))
      have wp := hX.way op.ins op.c4 op.on
      exact gin_out hX.pos l0 l4 op.ins wp.1 ⟨(congrArg Dt.r e2).symm, (congrArg Dt.q e2).symm, (congrArg Dt.c e2).symm⟩
  · obtain rfl : t = M := by omega
    right
    refine ⟨t, hM, ?_⟩
    obtain ⟨a, b, _, e2⟩ := outs_end hX h0 h4 hs hM rfl
    exact outer_inj hX.pos a b l0 l4 (e2.trans e)
theorem Lnk.any (hX : GdL n X s) {k : Int} (h0 : 0 ≤ k) (h4 : k < 4 * n) (hs : k % 2 = s) : ∃ k', Lnk n X k k' := by
  obtain ⟨M, hM⟩ := outs_any hX h0 h4 hs
  exact ⟨_, M, hM, rfl⟩
theorem Lnk.one {k a b : Int} (h : Lnk n X k a) (h' : Lnk n X k b) : a = b := by
  obtain ⟨M, hM, rfl⟩ := h
  obtain ⟨M', hM', rfl⟩ := h'
  obtain rfl := outs_one hM hM'
  rfl
theorem Lnk.symm (hX : GdL n X s) {k k' : Int} (h0 : 0 ≤ k) (h4 : k < 4 * n) (hs : k % 2 = s) (h : Lnk n X k k') : Lnk n X k' k := by
  obtain ⟨a, b, c⟩ := h.end_ hX h0 h4 hs
  rcases seen_sharp hX a b c h0 h4 (h.lab hX (seen_cons hX) h0 h4 hs).symm with e | e
  · exact absurd e.symm (h.ne hX h0 h4 hs)
  · exact e
end
end Go.Proofs.Ytdmpbbgcifodeaa
