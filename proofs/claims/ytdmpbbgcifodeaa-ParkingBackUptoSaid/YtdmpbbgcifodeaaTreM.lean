/-
  Plain: edges that each join two classes; with one edge less than places that is: all hang together.
-/
import Derived.Test.YtdmpbbgcifodeaaBase
namespace Go.Proofs.Ytdmpbbgcifodeaa

abbrev Edge := Int × Int
def joinC (f : Int → Int) (a b : Int) : Int → Int := fun v => if f v = a then b else f v
def Merges : (Int → Int) → List Edge → Prop
  | _, [] => True
  | f, x :: xs => f x.1 ≠ f x.2 ∧ Merges (joinC f (f x.1) (f x.2)) xs
def clsOf : (Int → Int) → List Edge → (Int → Int)
  | f, [] => f
  | f, x :: xs => clsOf (joinC f (f x.1) (f x.2)) xs
inductive Conn (l : List Edge) : Int → Int → Prop where
  | refl (u : Int) : Conn l u u
  | step {u v w : Int} (h : Conn l u v) (e : (v, w) ∈ l ∨ (w, v) ∈ l) : Conn l u w
theorem Conn.trans {l : List Edge} {u v w : Int} (h : Conn l u v) (h' : Conn l v w) : Conn l u w := by
  induction h' with
  | refl => exact h
  | step _ e ih => exact .step ih e
theorem Conn.one {l : List Edge} {u v : Int} (e : (u, v) ∈ l ∨ (v, u) ∈ l) : Conn l u v := .step (.refl u) e
theorem Conn.symm {l : List Edge} {u v : Int} (h : Conn l u v) : Conn l v u := by
  induction h with
  | refl => exact .refl _
  | step _ e ih => exact (Conn.one e.symm).trans ih
theorem Conn.map {l l' : List Edge} {g : Int → Int} (hg : ∀ x ∈ l, Conn l' (g x.1) (g x.2)) {u v : Int} (h : Conn l u v) : Conn l' (g u) (g v) := by
  induction h with
  | refl => exact .refl _
  | step _ e ih =>
    rcases e with e | e
    · exact ih.trans (hg _ e)
    · exact ih.trans (hg _ e).symm
theorem Conn.mono {l l' : List Edge} (hs : ∀ x ∈ l, x ∈ l' ∨ (x.2, x.1) ∈ l') {u v : Int} (h : Conn l u v) : Conn l' u v :=
  h.map (g := id) (fun x hx => Conn.one (hs x hx))

/-- Classes within V. -/
def InV (V : List Int) (f : Int → Int) : Prop := ∀ v ∈ V, f v ∈ V ∧ f (f v) = f v
theorem InV.id (V : List Int) : InV V id := fun _ hv => ⟨hv, rfl⟩
theorem InV.join {V : List Int} {f : Int → Int} (h : InV V f) {x y : Int} (hy : y ∈ V) : InV V (joinC f (f x) (f y)) := by
  intro v hv
  unfold joinC
  by_cases c : f v = f x
  · rw [if_pos c]
    refine ⟨(h y hy).1, ?_⟩
    rw [(h y hy).2]
    by_cases c2 : f y = f x
    · rw [if_pos c2]
    · rw [if_neg c2]
  · rw [if_neg c]
    refine ⟨(h v hv).1, ?_⟩
    rw [(h v hv).2, if_neg c]
def rootsN (V : List Int) (f : Int → Int) : Nat := V.countP (fun v => decide (f v = v))
theorem countP_less {V : List Int} (hn : V.Nodup) {a : Int} (ha : a ∈ V) {p : Int → Bool} (hp : p a = true) : V.countP (fun v => p v && decide (v ≠ a)) + 1 = V.countP p := by
  induction V with
  | nil => cases ha
  | cons b V ih =>
    have hb := List.nodup_cons.1 hn
    by_cases e : b = a
    · subst e
      rw [List.countP_cons, List.countP_cons]
      have : V.countP (fun v => p v && decide (v ≠ b)) = V.countP p := by
        apply List.countP_congr
        intro v hv
        have : v ≠ b := fun e => hb.1 (e ▸ hv)
        simp [this]
      rw [this, hp]; simp
    · have ha' : a ∈ V := by
        rcases List.mem_cons.1 ha with h | h
        · exact absurd h.symm e
        · exact h
      have := ih hb.2 ha'
      rw [List.countP_cons, List.countP_cons, ← this]
      have e2 : decide (b ≠ a) = true := by simp [e]
      rw [e2, Bool.and_true]
      omega
theorem roots_join {V : List Int} (hn : V.Nodup) {f : Int → Int} (h : InV V f) {x y : Int} (hx : x ∈ V) (hy : y ∈ V) (hne : f x ≠ f y) : rootsN V (joinC f (f x) (f y)) + 1 = rootsN V f := by
  unfold rootsN
  rw [← countP_less hn (h x hx).1 (p := fun v => decide (f v = v)) (by simpa using (h x hx).2)]
  congr 1
  apply List.countP_congr
  intro v hv
  simp only [Bool.and_eq_true, decide_eq_true_eq, ne_eq]
  rw [show joinC f (f x) (f y) v = if f v = f x then f y else f v from rfl]
  by_cases c : f v = f x
  · rw [if_pos c]
    constructor
    · intro e
      have := (h y hy).2
      rw [e, c] at this
      exact absurd (this.trans e.symm) hne
    · rintro ⟨e1, e2⟩
      exact absurd (e1.symm.trans c) e2
  · rw [if_neg c]
    constructor
    · intro e; exact ⟨e, fun e2 => c (by rw [e, e2])⟩
    · exact fun e => e.1
theorem join_same {f : Int → Int} {a : Int} : joinC f a a = f := by
  funext v; unfold joinC; split
  · rename_i h; exact h.symm
  · rfl
/-- Each edge takes one root away, or none. -/
theorem roots_all {V : List Int} (hn : V.Nodup) : ∀ (l : List Edge) {f : Int → Int}, InV V f → (∀ x ∈ l, x.1 ∈ V ∧ x.2 ∈ V) → InV V (clsOf f l) ∧ rootsN V f ≤ rootsN V (clsOf f l) + l.length ∧ (Merges f l ↔ rootsN V f = rootsN V (clsOf f l) + l.length)
  | [], f, h, _ => ⟨h, Nat.le_refl _, fun _ => rfl, fun _ => trivial⟩
  | x :: xs, f, h, hl => by
    have hx := hl x (by simp)
    obtain ⟨a, b, c⟩ := roots_all hn xs (h.join hx.2) (fun y hy => hl y (List.mem_cons_of_mem _ hy))
    refine ⟨a, ?_⟩
    simp only [clsOf, Merges, List.length_cons]
    by_cases e : f x.1 = f x.2
    · rw [e, join_same] at b c ⊢
      refine ⟨by omega, fun h => absurd rfl h.1, fun h => by omega⟩
    · have := roots_join hn h hx.1 hx.2 e
      refine ⟨by omega, fun h => ?_, fun h => ⟨e, c.2 (by omega)⟩⟩
      have := c.1 h.2
      omega
theorem cls_keep : ∀ (l : List Edge) {f : Int → Int} {u v : Int}, f u = f v → clsOf f l u = clsOf f l v
  | [], _, _, _, h => h
  | x :: xs, f, u, v, h => cls_keep xs (by unfold joinC; rw [h])
theorem cls_edge : ∀ (l : List Edge) {f : Int → Int} {x : Edge}, x ∈ l → clsOf f l x.1 = clsOf f l x.2
  | y :: ys, f, x, h => by
    rcases List.mem_cons.1 h with rfl | h
    · refine cls_keep ys ?_
      unfold joinC
      rw [if_pos rfl]
      split
      · rfl
      · rfl
    · exact cls_edge ys h
theorem cls_conn {L : List Edge} : ∀ (l : List Edge) {f : Int → Int}, (∀ x ∈ l, x ∈ L) → (∀ u v, f u = f v → Conn L u v) → ∀ u v, clsOf f l u = clsOf f l v → Conn L u v
  | [], _, _, h => h
  | x :: xs, f, hl, h => by
    refine cls_conn xs (fun y hy => hl y (List.mem_cons_of_mem _ hy)) (fun u v e => ?_)
    have hx : Conn L x.1 x.2 := Conn.one (.inl (hl x (by simp)))
    unfold joinC at e
    by_cases c1 : f u = f x.1
    · by_cases c2 : f v = f x.1
      · exact h u v (c1.trans c2.symm)
      · rw [if_pos c1, if_neg c2] at e
        exact ((h _ _ c1).trans hx).trans (h _ _ e)
    · by_cases c2 : f v = f x.1
      · rw [if_neg c1, if_pos c2] at e
        exact (h _ _ e).trans (hx.symm.trans (h _ _ c2.symm))
      · rw [if_neg c1, if_neg c2] at e
        exact h _ _ e
theorem conn_cls {l : List Edge} {u v : Int} (h : Conn l u v) : clsOf id l u = clsOf id l v := by
  induction h with
  | refl => rfl
  | step _ e ih =>
    rcases e with e | e
    · exact ih.trans (cls_edge l e)
    · exact ih.trans (cls_edge l e).symm
theorem countP_twoI {V : List Int} {p : Int → Bool} {a b : Int} (ha : a ∈ V) (hb : b ∈ V) (hab : a ≠ b) (pa : p a = true) (pb : p b = true) : 2 ≤ V.countP p := by
  induction V with
  | nil => cases ha
  | cons c V ih =>
    rw [List.countP_cons]
    by_cases e1 : a = c
    · subst e1
      have hb' : b ∈ V := by
        rcases List.mem_cons.1 hb with h | h
        · exact absurd h.symm hab
        · exact h
      have := List.countP_pos_iff.2 ⟨b, hb', pb⟩
      rw [pa, if_pos rfl]; omega
    · by_cases e2 : b = c
      · subst e2
        have ha' : a ∈ V := by
          rcases List.mem_cons.1 ha with h | h
          · exact absurd h hab
          · exact h
        have := List.countP_pos_iff.2 ⟨a, ha', pa⟩
        rw [pb, if_pos rfl]; omega
      · have ha' : a ∈ V := by
          rcases List.mem_cons.1 ha with h | h
          · exact absurd h e1
          · exact h
        have hb' : b ∈ V := by
          rcases List.mem_cons.1 hb with h | h
          · exact absurd h e2
          · exact h
        have := ih ha' hb'
        omega
/-- Places all of which hang together, by one edge less. -/
structure TreeOn (V : List Int) (l : List Edge) : Prop where
  len : l.length + 1 = V.length
  inn : ∀ x ∈ l, x.1 ∈ V ∧ x.2 ∈ V
  conn : ∀ u ∈ V, ∀ v ∈ V, Conn l u v
theorem rootsN_id (V : List Int) : rootsN V id = V.length := by
  unfold rootsN
  rw [List.countP_eq_length]
  intro v _; simp
theorem tree_iff {V : List Int} (hn : V.Nodup) {l : List Edge} (hlen : l.length + 1 = V.length) (hin : ∀ x ∈ l, x.1 ∈ V ∧ x.2 ∈ V) : Merges id l ↔ TreeOn V l := by
  obtain ⟨a, b, c⟩ := roots_all hn l (InV.id V) hin
  rw [rootsN_id] at b c
  have hv0 : ∃ v, v ∈ V := by
    cases V with
    | nil => simp at hlen
    | cons v _ => exact ⟨v, by simp⟩
  obtain ⟨v0, hv0⟩ := hv0
  rw [c]
  constructor
  · intro h
    have h1 : rootsN V (clsOf id l) = 1 := by omega
    refine ⟨hlen, hin, fun u hu v hv => cls_conn l (fun x hx => hx) (fun u v e => by rw [show u = v from e]; exact .refl _) u v ?_⟩
    refine Classical.byContradiction fun hne => ?_
    have := countP_twoI (p := fun v => decide (clsOf id l v = v)) (a u hu).1 (a v hv).1 hne (by simpa using (a u hu).2) (by simpa using (a v hv).2)
    unfold rootsN at h1
    omega
  · intro h
    have h1 : rootsN V (clsOf id l) ≤ 1 := by
      unfold rootsN
      refine Nat.le_of_not_lt fun hlt => ?_
      have hsub : V.countP (fun v => decide (clsOf id l v = v)) ≤ V.countP (fun v => decide (v = clsOf id l v0)) := by
        apply List.countP_mono_left
        intro v hv e
        have e := of_decide_eq_true e
        have := conn_cls (h.conn v hv v0 hv0)
        exact decide_eq_true (by rw [← this, e])
      have hone : V.countP (fun v => decide (v = clsOf id l v0)) ≤ 1 := by
        have := countP_less (V := V) hn (a v0 hv0).1 (p := fun v => decide (v = clsOf id l v0)) (by simp)
        have z : V.countP (fun v => decide (v = clsOf id l v0) && decide (v ≠ clsOf id l v0)) = 0 := by
          rw [List.countP_eq_zero]; intro v _; simp
        omega
      omega
    omega
end Go.Proofs.Ytdmpbbgcifodeaa
