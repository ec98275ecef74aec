/- Part of the proof. -/
import Derived.Test.YtpmkdihencepnaaGreatDoorMk01
import Derived.Test.YtpmkdihencepnaaGreatDoorMk28
namespace Go.Proofs.YtpmkdihencepnaaGreatDoor
section
inductive Ed where
 | h (i j : Int)
 | v (i j : Int)
structure Dt where
 r : Int
 q : Int
 c : Nat
abbrev Cf := Ed → Bool
def edAt (r q : Int) : Nat → Ed
 | 0 => .h r q
 | 1 => .v (r + 1) q
 | 2 => .h r (q + 1)
 | _ => .v r q
def mvR (r : Int) : Nat → Int
 | 0 => r
 | 1 => r + 1
 | 2 => r
 | _ => r - 1
def mvQ (q : Int) : Nat → Int
 | 0 => q - 1
 | 1 => q
 | 2 => q + 1
 | _ => q
def Two (b0 b1 b2 b3 : Bool) : Prop := b0.toNat + b1.toNat + b2.toNat + b3.toNat = 2
instance (a b c d : Bool) : Decidable (Two a b c d) := by unfold Two; infer_instance
def wy (_ b1 b2 b3 : Bool) (c : Nat) : Nat := if b3 && c != 3 then 3 else if b2 && c != 2 then 2 else if b1 && c != 1 then 1 else 0
def pick (b0 b1 b2 b3 : Bool) (c : Nat) : Bool := match c with | 0 => b0 | 1 => b1 | 2 => b2 | _ => b3
theorem wy_all : ∀ b0 b1 b2 b3 : Bool, ∀ c : Fin 4, Two b0 b1 b2 b3 → pick b0 b1 b2 b3 c = true →
 wy b0 b1 b2 b3 c < 4 ∧ wy b0 b1 b2 b3 c ≠ c ∧ pick b0 b1 b2 b3 (wy b0 b1 b2 b3 c) = true ∧ wy b0 b1 b2 b3 (wy b0 b1 b2 b3 c) = c ∧
  ∀ w : Fin 4, pick b0 b1 b2 b3 w = true → w.val = c ∨ w.val = wy b0 b1 b2 b3 c := by decide
def wyAt (X : Cf) (r q : Int) (c : Nat) : Nat := wy (X (.h r q)) (X (.v (r + 1) q)) (X (.h r (q + 1))) (X (.v r q)) c
def nx (X : Cf) (d : Dt) : Dt := ⟨mvR d.r (wyAt X d.r d.q d.c), mvQ d.q (wyAt X d.r d.q d.c), (wyAt X d.r d.q d.c + 2) % 4⟩
def ed (d : Dt) : Ed := edAt d.r d.q d.c
def Ins (n : Int) (r q : Int) : Prop := 0 ≤ r ∧ r < n ∧ 0 ≤ q ∧ q < n
def outer (n k : Int) : Ed := if k < n then .h k 0 else if k < 2 * n then .v n (k - n) else if k < 3 * n then .h (3 * n - 1 - k) n else .v 0 (4 * n - 1 - k)
def gin (n k : Int) : Dt := if k < n then ⟨k, 0, 0⟩ else if k < 2 * n then ⟨n - 1, k - n, 1⟩ else if k < 3 * n then ⟨3 * n - 1 - k, n - 1, 2⟩ else ⟨0, 4 * n - 1 - k, 3⟩
structure GdL (n : Int) (X : Cf) (s : Int) : Prop where
 pos : 1 ≤ n
 par : s = 0 ∨ s = 1
 two : ∀ r q, Ins n r q → Two (X (.h r q)) (X (.v (r + 1) q)) (X (.h r (q + 1))) (X (.v r q))
 bnd : ∀ k, 0 ≤ k → k < 4 * n → X (outer n k) = decide (k % 2 = s)
theorem edAt_pick (X : Cf) (r q : Int) (c : Nat) : X (edAt r q c) = pick (X (.h r q)) (X (.v (r + 1) q)) (X (.h r (q + 1))) (X (.v r q)) c := by
 match c with
 | 0 => rfl
 | 1 => rfl
 | 2 => rfl
 | _ + 3 => rfl
section
variable {n s : Int} {X : Cf}
structure On (n : Int) (X : Cf) (d : Dt) : Prop where
 ins : Ins n d.r d.q
 c4 : d.c < 4
 on : X (ed d) = true
theorem GdL.way (hX : GdL n X s) {r q : Int} {c : Nat} (hi : Ins n r q) (hc : c < 4) (ho : X (edAt r q c) = true) :
 wyAt X r q c < 4 ∧ wyAt X r q c ≠ c ∧ X (edAt r q (wyAt X r q c)) = true ∧ wyAt X r q (wyAt X r q c) = c ∧ ∀ w, w < 4 → X (edAt r q w) = true → w = c ∨ w = wyAt X r q c := by
 rw [edAt_pick X] at ho
 obtain ⟨h1, h2, h3, h4, h5⟩ := wy_all _ _ _ _ ⟨c, hc⟩ (hX.two r q hi) ho
 exact ⟨h1, h2, by rw [edAt_pick X]; exact h3, h4, fun w hw hx => h5 ⟨w, hw⟩ (by rw [edAt_pick X] at hx; exact hx)⟩
theorem lt4 {c : Nat} (h : c < 4) : c = 0 ∨ c = 1 ∨ c = 2 ∨ c = 3 := by omega
theorem ed_mv {r q : Int} {w : Nat} (hw : w < 4) : ed ⟨mvR r w, mvQ q w, (w + 2) % 4⟩ = edAt r q w := by
 rcases lt4 hw with rfl | rfl | rfl | rfl <;> simp [ed, edAt, mvR, mvQ] <;> omega
theorem ed_at {d : Dt} {r q : Int} {w : Nat} (hd : d.c < 4) (hw : w < 4) (h : ed d = edAt r q w) : (d.r = r ∧ d.q = q ∧ d.c = w) ∨ (d.r = mvR r w ∧ d.q = mvQ q w ∧ d.c = (w + 2) % 4) := by
 obtain ⟨a, b, c⟩ := d
 simp only at hd
 rcases lt4 hw with rfl | rfl | rfl | rfl <;> rcases lt4 hd with rfl | rfl | rfl | rfl <;> simp [ed, edAt, mvR, mvQ] at h ⊢ <;> omega
theorem mv_back {r q a b : Int} {w : Nat} {c : Nat} (hw : w < 4) (hc : c < 4) (h1 : a = mvR r w) (h2 : b = mvQ q w) (h3 : c = (w + 2) % 4) : r = mvR a c ∧ q = mvQ b c ∧ w = (c + 2) % 4 := by
 rcases lt4 hw with rfl | rfl | rfl | rfl <;> simp [mvR, mvQ] at h1 h2 h3 <;> subst h3 <;> simp [mvR, mvQ] <;> omega
theorem nx_ed (hX : GdL n X s) {d : Dt} (h : On n X d) : ed (nx X d) = edAt d.r d.q (wyAt X d.r d.q d.c) := ed_mv (hX.way h.ins h.c4 h.on).1
theorem nx_on (hX : GdL n X s) {d : Dt} (h : On n X d) : X (ed (nx X d)) = true := by rw [nx_ed hX h]; exact (hX.way h.ins h.c4 h.on).2.2.1
theorem nx_c4 (d : Dt) : (nx X d).c < 4 := Nat.mod_lt _ (by decide)
theorem nx_next (hX : GdL n X s) {d : Dt} (h : On n X d) (hi : Ins n (nx X d).r (nx X d).q) : On n X (nx X d) := ⟨hi, nx_c4 d, nx_on hX h⟩
def it (X : Cf) (d : Dt) : Nat → Dt
 | 0 => d
 | t + 1 => nx X (it X d t)
theorem gin_ed {k : Int} : ed (gin n k) = outer n k := by
 unfold gin outer
 split
 · rfl
 · split
   · simp [ed, edAt]
   · split
     · simp [ed, edAt]
     · rfl
theorem gin_ins (hn : 1 ≤ n) {k : Int} (h0 : 0 ≤ k) (h4 : k < 4 * n) : Ins n (gin n k).r (gin n k).q ∧ (gin n k).c < 4 := by
 unfold gin Ins
 split
 · simp; omega
 · split
   · simp; omega
   · split
     · simp; omega
     · simp; omega
theorem gin_on (hX : GdL n X s) {k : Int} (h0 : 0 ≤ k) (h4 : k < 4 * n) (hs : k % 2 = s) : On n X (gin n k) := by
 have := gin_ins hX.pos h0 h4
 exact ⟨this.1, this.2, by rw [gin_ed, hX.bnd k h0 h4]; simpa using hs⟩
theorem gin_out (_ : 1 ≤ n) {k : Int} (_ : 0 ≤ k) (_ : k < 4 * n) {d : Dt} (hd : Ins n d.r d.q) {w : Nat} (hw : w < 4) : ¬ ((gin n k).r = mvR d.r w ∧ (gin n k).q = mvQ d.q w ∧ (gin n k).c = (w + 2) % 4) := by
 unfold Ins at hd
 unfold gin
 rcases lt4 hw with rfl | rfl | rfl | rfl
 all_goals
  split
  · simp [mvR, mvQ] <;> omega
  · split
    · simp [mvR, mvQ] <;> omega
    · split
      · simp [mvR, mvQ] <;> omega
      · simp [mvR, mvQ] <;> omega
def Outs (n : Int) (X : Cf) (k : Int) (M : Nat) : Prop := (∀ t, t < M → Ins n (it X (gin n k) t).r (it X (gin n k) t).q) ∧ ¬ Ins n (it X (gin n k) M).r (it X (gin n k) M).q
theorem it_on (hX : GdL n X s) {d : Dt} (hd : On n X d) : ∀ {M : Nat}, (∀ t, t ≤ M → Ins n (it X d t).r (it X d t).q) → On n X (it X d M)
 | 0, _ => hd
 | M + 1, h => nx_next hX (it_on hX hd (fun t ht => h t (by omega))) (h (M + 1) (Nat.le_refl _))
def Cons (n : Int) (X : Cf) {α : Type} (lab : Ed → α) : Prop := ∀ r q, Ins n r q → ∀ c c', c < 4 → c' < 4 → X (edAt r q c) = true → X (edAt r q c') = true → lab (edAt r q c) = lab (edAt r q c')
def seen (n : Int) (X : Cf) (s : Int) (e : Ed) : Int → Prop := fun k => 0 ≤ k ∧ k < 4 * n ∧ k % 2 = s ∧ ∃ M, Outs n X k M ∧ ∃ t, t ≤ M ∧ ed (it X (gin n k) t) = e
theorem seen_step (hX : GdL n X s) {r q : Int} (hi : Ins n r q) {c c' : Nat} (hc : c < 4) (hc' : c' < 4) (h1 : X (edAt r q c) = true) (h2 : X (edAt r q c') = true) {k : Int} (h : seen n X s (edAt r q c) k) : seen n X s (edAt r q c') k := by
 obtain ⟨h0, h4, hs, M, hM, t, ht, e⟩ := h
 refine ⟨h0, h4, hs, M, hM, ?_⟩
 have hd := gin_on hX h0 h4 hs
 by_cases hcc : c' = c
 · subst hcc; exact ⟨t, ht, e⟩
 have hc0 : (it X (gin n k) t).c < 4 := by
  cases t with
  | zero => exact hd.c4
  | succ t => exact nx_c4 _
 rcases ed_at hc0 hc e with ⟨a1, a2, a3⟩ | ⟨a1, a2, a3⟩
 · have htM : t < M := by
    rcases Nat.lt_or_ge t M with c | c
    · exact c
    · obtain rfl : t = M := by omega
      exact absurd (by rw [a1, a2]; exact hi) hM.2
   have ot := it_on hX hd (M := t) (fun u hu => hM.1 u (by omega))
   refine ⟨t + 1, htM, ?_⟩
   change ed (nx X (it X (gin n k) t)) = _
   rw [nx_ed hX ot, a1, a2, a3]
   have := (hX.way hi hc h1).2.2.2.2 c' hc' h2
   rcases this with h | h
   · exact absurd h hcc
   · rw [← h]
 · have back := mv_back hc hc0 a1 a2 a3
   cases t with
   | zero =>
    exact absurd ⟨a1, a2, a3⟩ (gin_out hX.pos h0 h4 (d := ⟨r, q, c⟩) hi hc)
   | succ t =>
    have ot := it_on hX hd (M := t) (fun u hu => hM.1 u (by omega))
    have wt := hX.way ot.ins ot.c4 ot.on
    have bk := mv_back (r := (it X (gin n k) t).r) (q := (it X (gin n k) t).q) (a := (it X (gin n k) (t + 1)).r) (b := (it X (gin n k) (t + 1)).q) (c := (it X (gin n k) (t + 1)).c) wt.1 hc0 rfl rfl rfl
    have er : (it X (gin n k) t).r = r := bk.1.trans back.1.symm
    have eq : (it X (gin n k) t).q = q := bk.2.1.trans back.2.1.symm
    have ew : wyAt X (it X (gin n k) t).r (it X (gin n k) t).q (it X (gin n k) t).c = c := bk.2.2.trans back.2.2.symm
    refine ⟨t, by omega, ?_⟩
    have hx := wt.2.2.2.1
    rw [ew, er, eq] at hx
    have := (hX.way hi hc h1).2.2.2.2 c' hc' h2
    rcases this with h | h
    · exact absurd h hcc
    · unfold ed; rw [er, eq, ← hx, ← h]
theorem seen_cons (hX : GdL n X s) : Cons n X (seen n X s) := fun r q hi c c' hc hc' h1 h2 => by
 funext k
 exact propext ⟨seen_step hX hi hc hc' h1 h2, seen_step hX hi hc' hc h2 h1⟩
end
end
section
def Is (n : Int) : Ed → Prop
 | .h i j => 0 ≤ i ∧ i < n ∧ 0 ≤ j ∧ j ≤ n
 | .v i j => 0 ≤ i ∧ i ≤ n ∧ 0 ≤ j ∧ j < n
def fcR (p : Int) : Ed → Int
 | .h i j => if (i + j + 1) % 2 = p then i else i - 1
 | .v i _ => i - 1
def fcQ (p : Int) : Ed → Int
 | .h _ j => j - 1
 | .v i j => if (i + j + 1) % 2 = p then j else j - 1
def alt (n : Int) (X : Cf) (a b : Int) : Bool :=
 decide (0 ≤ a ∧ a + 1 < n ∧ 0 ≤ b ∧ b + 1 < n) && (X (.h a (b + 1)) == X (.h (a + 1) (b + 1)) && X (.v (a + 1) b) == X (.v (a + 1) (b + 1)) && X (.h a (b + 1)) != X (.v (a + 1) b))
def halfB (n p : Int) (X : Cf) : Cf := fun e => if alt n X (fcR p e) (fcQ p e) then X e else !X e
def gy (n p : Int) (X : Cf) : Cf := fun e => if alt n X (fcR p e) (fcQ p e) then !X e else X e
section
variable {n s p : Int} {X : Cf} {α : Type} {lab : Ed → α}
noncomputable def lf (n : Int) (X : Cf) (lab : Ed → α) (a b : Int) : α :=
 open Classical in
 if Is n (.h a (b + 1)) ∧ X (.h a (b + 1)) = true then lab (.h a (b + 1)) else if Is n (.h (a + 1) (b + 1)) ∧ X (.h (a + 1) (b + 1)) = true then lab (.h (a + 1) (b + 1))
  else if Is n (.v (a + 1) b) ∧ X (.v (a + 1) b) = true then lab (.v (a + 1) b) else lab (.v (a + 1) (b + 1))
noncomputable def labH (n p : Int) (X : Cf) (lab : Ed → α) : Ed → α := fun e => if alt n X (fcR p e) (fcQ p e) then lab e else lf n X lab (fcR p e) (fcQ p e)
theorem outer_h0 {i : Int} (h1 : i < n) : outer n i = .h i 0 := by unfold outer; rw [if_pos h1]
theorem outer_vn {j : Int} (h0 : 0 ≤ j) (h1 : j < n) : outer n (n + j) = .v n j := by
 unfold outer; rw [if_neg (by omega), if_pos (by omega)]; congr 1; omega
theorem outer_hn {i : Int} (h0 : 0 ≤ i) (h1 : i < n) : outer n (3 * n - 1 - i) = .h i n := by
 unfold outer; rw [if_neg (by omega), if_neg (by omega), if_pos (by omega)]; congr 1; omega
theorem outer_v0 {j : Int} (h0 : 0 ≤ j) (h1 : j < n) : outer n (4 * n - 1 - j) = .v 0 j := by
 unfold outer; rw [if_neg (by omega), if_neg (by omega), if_neg (by omega)]; congr 1; omega
theorem GdL.turns (hX : GdL n X s) {k l : Int} (h0 : 0 ≤ k) (h4 : k < 4 * n) (l0 : 0 ≤ l) (l4 : l < 4 * n) (e : k = l + 1 ∨ l = k + 1) : ¬ (X (outer n k) = true ∧ X (outer n l) = true) := by
 rintro ⟨a, b⟩
 rw [hX.bnd k h0 h4] at a
 rw [hX.bnd l l0 l4] at b
 have a := of_decide_eq_true a
 have b := of_decide_eq_true b
 omega
theorem alt_in {a b : Int} (h : alt n X a b = true) : 0 ≤ a ∧ a + 1 < n ∧ 0 ≤ b ∧ b + 1 < n := by
 unfold alt at h
 rw [Bool.and_eq_true] at h
 exact of_decide_eq_true h.1
theorem alt_ne {a b : Int} (h : alt n X a b = true) : X (.h a (b + 1)) = !X (.v (a + 1) b) ∧ X (.h a (b + 1)) = !X (.v (a + 1) (b + 1)) ∧ X (.h (a + 1) (b + 1)) = !X (.v (a + 1) b) ∧ X (.h (a + 1) (b + 1)) = !X (.v (a + 1) (b + 1)) := by
 unfold alt at h
 rw [Bool.and_eq_true] at h
 have h2 := h.2
 clear h
 revert h2
 cases X (.h a (b + 1)) <;> cases X (.v (a + 1) b) <;> cases X (.h (a + 1) (b + 1)) <;> cases X (.v (a + 1) (b + 1)) <;> simp
theorem alt_no {a b : Int} (hi : 0 ≤ a ∧ a + 1 < n ∧ 0 ≤ b ∧ b + 1 < n) (h : alt n X a b = false) : ¬ (X (.h a (b + 1)) = X (.h (a + 1) (b + 1)) ∧ X (.v (a + 1) b) = X (.v (a + 1) (b + 1)) ∧ X (.h a (b + 1)) ≠ X (.v (a + 1) b)) := by
 unfold alt at h
 rw [decide_eq_true hi, Bool.true_and] at h
 revert h
 cases X (.h a (b + 1)) <;> cases X (.v (a + 1) b) <;> cases X (.h (a + 1) (b + 1)) <;> cases X (.v (a + 1) (b + 1)) <;> simp
theorem lf_pure {U1 U2 U3 U4 : Prop} {_ : Decidable U1} {_ : Decidable U2} {_ : Decidable U3} {l1 l2 l3 l4 : α} (g1 : U1 → U3 → l1 = l3) (g2 : U1 → U4 → l1 = l4) (g3 : U2 → U3 → l2 = l3) (g4 : U2 → U4 → l2 = l4)
 (o1 : U1 → U2 → U3 ∨ U4) (o2 : U3 → U4 → U1 ∨ U2) :
 (U1 → (if U1 then l1 else if U2 then l2 else if U3 then l3 else l4) = l1) ∧ (U2 → (if U1 then l1 else if U2 then l2 else if U3 then l3 else l4) = l2) ∧
 (U3 → (if U1 then l1 else if U2 then l2 else if U3 then l3 else l4) = l3) ∧ (U4 → (if U1 then l1 else if U2 then l2 else if U3 then l3 else l4) = l4) := by
 by_cases u1 : U1 <;> by_cases u2 : U2 <;> by_cases u3 : U3 <;> by_cases u4 : U4 <;> simp_all
theorem face_lab (hX : GdL n X s) (hl : Cons n X lab) {a b : Int} (ha : alt n X a b = false) :
 (Is n (.h a (b + 1)) ∧ X (.h a (b + 1)) = true → lf n X lab a b = lab (.h a (b + 1))) ∧ (Is n (.h (a + 1) (b + 1)) ∧ X (.h (a + 1) (b + 1)) = true → lf n X lab a b = lab (.h (a + 1) (b + 1))) ∧
 (Is n (.v (a + 1) b) ∧ X (.v (a + 1) b) = true → lf n X lab a b = lab (.v (a + 1) b)) ∧ (Is n (.v (a + 1) (b + 1)) ∧ X (.v (a + 1) (b + 1)) = true → lf n X lab a b = lab (.v (a + 1) (b + 1))) := by
 unfold lf
 refine lf_pure ?_ ?_ ?_ ?_ ?_ ?_
 · rintro ⟨i1, x1⟩ ⟨i2, x2⟩
   simp only [Is] at i1 i2
   exact hl a b (by unfold Ins; omega) 2 1 (by decide) (by decide) x1 x2
 · rintro ⟨i1, x1⟩ ⟨i2, x2⟩
   simp only [Is] at i1 i2
   exact hl a (b + 1) (by unfold Ins; omega) 0 1 (by decide) (by decide) x1 x2
 · rintro ⟨i1, x1⟩ ⟨i2, x2⟩
   simp only [Is] at i1 i2
   exact hl (a + 1) b (by unfold Ins; omega) 2 3 (by decide) (by decide) x1 x2
 · rintro ⟨i1, x1⟩ ⟨i2, x2⟩
   simp only [Is] at i1 i2
   exact hl (a + 1) (b + 1) (by unfold Ins; omega) 0 3 (by decide) (by decide) x1 x2
 · rintro ⟨i1, x1⟩ ⟨i2, x2⟩
   simp only [Is] at i1 i2 ⊢
   by_cases c1 : b = -1
   · exfalso
     subst c1
     change X (.h a 0) = true at x1
     change X (.h (a + 1) 0) = true at x2
     rw [← outer_h0 (n := n) (i := a) (by omega)] at x1
     exact hX.turns (k := a) (l := a + 1) (by omega) (by omega) (by omega) (by omega) (by omega) ⟨x1, by rw [outer_h0 (by omega)]; exact x2⟩
   · by_cases c2 : b + 1 = n
     · exfalso
       rw [c2] at x1 x2
       rw [← outer_hn (n := n) (i := a) (by omega) (by omega)] at x1
       rw [← outer_hn (n := n) (i := a + 1) (by omega) (by omega)] at x2
       exact hX.turns (by omega) (by omega) (by omega) (by omega) (by omega) ⟨x1, x2⟩
     · have := alt_no (X := X) (by omega) ha
       rw [x1, x2] at this
       cases e3 : X (.v (a + 1) b) with
       | true => exact .inl ⟨by omega, rfl⟩
       | false =>
        cases e4 : X (.v (a + 1) (b + 1)) with
        | true => exact .inr ⟨by omega, rfl⟩
        | false => rw [e3, e4] at this; simp at this
 · rintro ⟨i1, x1⟩ ⟨i2, x2⟩
   simp only [Is] at i1 i2 ⊢
   by_cases c1 : a = -1
   · exfalso
     subst c1
     change X (.v 0 b) = true at x1
     change X (.v 0 (b + 1)) = true at x2
     rw [← outer_v0 (n := n) (j := b) (by omega) (by omega)] at x1
     rw [← outer_v0 (n := n) (j := b + 1) (by omega) (by omega)] at x2
     exact hX.turns (by omega) (by omega) (by omega) (by omega) (by omega) ⟨x1, x2⟩
   · by_cases c2 : a + 1 = n
     · exfalso
       rw [c2] at x1 x2
       rw [← outer_vn (n := n) (j := b) (by omega) (by omega)] at x1
       rw [← outer_vn (n := n) (j := b + 1) (by omega) (by omega)] at x2
       exact hX.turns (by omega) (by omega) (by omega) (by omega) (by omega) ⟨x1, x2⟩
     · have := alt_no (X := X) (by omega) ha
       rw [x1, x2] at this
       cases e3 : X (.h a (b + 1)) with
       | true => exact .inl ⟨by omega, rfl⟩
       | false =>
        cases e4 : X (.h (a + 1) (b + 1)) with
        | true => exact .inr ⟨by omega, rfl⟩
        | false => rw [e3, e4] at this; simp at this
theorem fc_lab (hX : GdL n X s) (hl : Cons n X lab) {e : Ed} (hi : Is n e) (hx : X e = true) (ha : alt n X (fcR p e) (fcQ p e) = false) : lf n X lab (fcR p e) (fcQ p e) = lab e := by
 obtain ⟨f1, f2, f3, f4⟩ := face_lab hX hl ha
 cases e with
 | h i j =>
  unfold fcR fcQ at *
  simp only at f1 f2 f3 f4 ha ⊢
  rw [show j - 1 + 1 = j by omega] at *
  split at ha
  · rename_i c
    rw [if_pos c] at *
    exact f1 ⟨hi, hx⟩
  · rename_i c
    rw [if_neg c] at *
    rw [show i - 1 + 1 = i by omega] at *
    exact f2 ⟨hi, hx⟩
 | v i j =>
  unfold fcR fcQ at *
  simp only at f1 f2 f3 f4 ha ⊢
  rw [show i - 1 + 1 = i by omega] at *
  split at ha
  · rename_i c
    rw [if_pos c] at *
    exact f3 ⟨hi, hx⟩
  · rename_i c
    rw [if_neg c] at *
    rw [show j - 1 + 1 = j by omega] at *
    exact f4 ⟨hi, hx⟩
theorem box_two {x1 x2 x3 x4 f g : Bool} (h : Two x1 x2 x3 x4) (hf : f = true → x1 = !x2) (hg : g = true → x3 = !x4) :
 Two (if f then x1 else !x1) (if f then x2 else !x2) (if g then x3 else !x3) (if g then x4 else !x4) := by
 revert h hf hg
 revert x1 x2 x3 x4 f g
 decide
theorem box_lab {x1 x2 x3 x4 f g : Bool} {l1 l2 l3 l4 u v : α} (h : Two x1 x2 x3 x4) (hf : f = true → x1 = !x2) (hg : g = true → x3 = !x4)
 (u1 : f = false → x1 = true → u = l1) (u2 : f = false → x2 = true → u = l2) (v3 : g = false → x3 = true → v = l3) (v4 : g = false → x4 = true → v = l4)
 (e12 : x1 = true → x2 = true → l1 = l2) (e13 : x1 = true → x3 = true → l1 = l3) (e14 : x1 = true → x4 = true → l1 = l4) (e23 : x2 = true → x3 = true → l2 = l3) (e24 : x2 = true → x4 = true → l2 = l4) (e34 : x3 = true → x4 = true → l3 = l4) :
 ((if f then x1 else !x1) = true → (if f then x2 else !x2) = true → (if f then l1 else u) = (if f then l2 else u)) ∧
 ((if f then x1 else !x1) = true → (if g then x3 else !x3) = true → (if f then l1 else u) = (if g then l3 else v)) ∧
 ((if f then x1 else !x1) = true → (if g then x4 else !x4) = true → (if f then l1 else u) = (if g then l4 else v)) ∧
 ((if f then x2 else !x2) = true → (if g then x3 else !x3) = true → (if f then l2 else u) = (if g then l3 else v)) ∧
 ((if f then x2 else !x2) = true → (if g then x4 else !x4) = true → (if f then l2 else u) = (if g then l4 else v)) ∧
 ((if g then x3 else !x3) = true → (if g then x4 else !x4) = true → (if g then l3 else v) = (if g then l4 else v)) := by
 cases x1 <;> cases x2 <;> cases x3 <;> cases x4 <;> (try exact absurd h (by decide)) <;> cases f <;> cases g <;> (first | exact absurd (hf rfl) (by decide) | exact absurd (hg rfl) (by decide) | grind)
theorem alt_edge {a b : Int} (h : a < 0 ∨ n ≤ a + 1 ∨ b < 0 ∨ n ≤ b + 1) : alt n X a b = false := by
 cases e : alt n X a b with
 | false => rfl
 | true => have := alt_in e; omega
theorem fc_box (hp : p = 0 ∨ p = 1) (r q : Int) :
 ((r + q) % 2 = p ∧ fcR p (.h r q) = r - 1 ∧ fcQ p (.h r q) = q - 1 ∧ fcR p (.v r q) = r - 1 ∧ fcQ p (.v r q) = q - 1 ∧ fcR p (.h r (q + 1)) = r ∧ fcQ p (.h r (q + 1)) = q ∧ fcR p (.v (r + 1) q) = r ∧ fcQ p (.v (r + 1) q) = q) ∨
 ((r + q) % 2 ≠ p ∧ fcR p (.h r q) = r ∧ fcQ p (.h r q) = q - 1 ∧ fcR p (.v r q) = r - 1 ∧ fcQ p (.v r q) = q ∧ fcR p (.h r (q + 1)) = r - 1 ∧ fcQ p (.h r (q + 1)) = q ∧ fcR p (.v (r + 1) q) = r ∧ fcQ p (.v (r + 1) q) = q - 1) := by
 by_cases c : (r + q) % 2 = p
 · left
   refine ⟨c, ?_, ?_, ?_, ?_, ?_, ?_, ?_, ?_⟩ <;> simp only [fcR, fcQ] <;> (repeat' split) <;> omega
 · right
   refine ⟨c, ?_, ?_, ?_, ?_, ?_, ?_, ?_, ?_⟩ <;> simp only [fcR, fcQ] <;> (repeat' split) <;> omega
theorem half_box (hX : GdL n X s) (hp : p = 0 ∨ p = 1) (hl : Cons n X lab) {r q : Int} (hi : Ins n r q) :
 Two (halfB n p X (.h r q)) (halfB n p X (.v (r + 1) q)) (halfB n p X (.h r (q + 1))) (halfB n p X (.v r q)) ∧
  ∀ c c', c < 4 → c' < 4 → halfB n p X (edAt r q c) = true → halfB n p X (edAt r q c') = true → labH n p X lab (edAt r q c) = labH n p X lab (edAt r q c') := by
 have tw := hX.two r q hi
 have i0 : Is n (.h r q) := by unfold Ins at hi; simp only [Is]; omega
 have i1 : Is n (.v (r + 1) q) := by unfold Ins at hi; simp only [Is]; omega
 have i2 : Is n (.h r (q + 1)) := by unfold Ins at hi; simp only [Is]; omega
 have i3 : Is n (.v r q) := by unfold Ins at hi; simp only [Is]; omega
 have l0 := fun x a => fc_lab (p := p) hX hl i0 x a
 have l1 := fun x a => fc_lab (p := p) hX hl i1 x a
 have l2 := fun x a => fc_lab (p := p) hX hl i2 x a
 have l3 := fun x a => fc_lab (p := p) hX hl i3 x a
 have g : ∀ c c', c < 4 → c' < 4 → X (edAt r q c) = true → X (edAt r q c') = true → lab (edAt r q c) = lab (edAt r q c') := hl r q hi
 have g01 := g 0 1 (by decide) (by decide)
 have g02 := g 0 2 (by decide) (by decide)
 have g03 := g 0 3 (by decide) (by decide)
 have g12 := g 1 2 (by decide) (by decide)
 have g13 := g 1 3 (by decide) (by decide)
 have g23 := g 2 3 (by decide) (by decide)
 have g31 := g 3 1 (by decide) (by decide)
 have g32 := g 3 2 (by decide) (by decide)
 have g21 := g 2 1 (by decide) (by decide)
 simp only [edAt] at g01 g02 g03 g12 g13 g23 g31 g32 g21
 have fin : ∀ {Y : Cf} {l : Ed → α}, (Y (.h r q) = true → Y (.v (r + 1) q) = true → l (.h r q) = l (.v (r + 1) q)) → (Y (.h r q) = true → Y (.h r (q + 1)) = true → l (.h r q) = l (.h r (q + 1))) →
  (Y (.h r q) = true → Y (.v r q) = true → l (.h r q) = l (.v r q)) → (Y (.v (r + 1) q) = true → Y (.h r (q + 1)) = true → l (.v (r + 1) q) = l (.h r (q + 1))) →
  (Y (.v (r + 1) q) = true → Y (.v r q) = true → l (.v (r + 1) q) = l (.v r q)) → (Y (.h r (q + 1)) = true → Y (.v r q) = true → l (.h r (q + 1)) = l (.v r q)) →
  ∀ c c', c < 4 → c' < 4 → Y (edAt r q c) = true → Y (edAt r q c') = true → l (edAt r q c) = l (edAt r q c') := by
  intro Y l a1 a2 a3 a4 a5 a6 c c' hc hc' y y'
  rcases lt4 hc with rfl | rfl | rfl | rfl <;> rcases lt4 hc' with rfl | rfl | rfl | rfl <;> simp only [edAt] at y y' ⊢
  · exact a1 y y'
  · exact a2 y y'
  · exact a3 y y'
  · exact (a1 y' y).symm
  · exact a4 y y'
  · exact a5 y y'
  · exact (a2 y' y).symm
  · exact (a4 y' y).symm
  · exact a6 y y'
  · exact (a3 y' y).symm
  · exact (a5 y' y).symm
  · exact (a6 y' y).symm
 rcases fc_box hp r q with ⟨_, a0, b0, a3, b3, a2, b2, a1, b1⟩ | ⟨_, a0, b0, a3, b3, a2, b2, a1, b1⟩
 · -- left and above; right and below
   rw [a0, b0] at l0
   rw [a1, b1] at l1
   rw [a2, b2] at l2
   rw [a3, b3] at l3
   have hf : alt n X (r - 1) (q - 1) = true → X (.h r q) = !X (.v r q) := fun h => by
    have := (alt_ne h).2.2.2
    rwa [show r - 1 + 1 = r by omega, show q - 1 + 1 = q by omega] at this
   have hg : alt n X r q = true → X (.h r (q + 1)) = !X (.v (r + 1) q) := fun h => (alt_ne h).1
   have tw2 : Two (X (.h r q)) (X (.v r q)) (X (.h r (q + 1))) (X (.v (r + 1) q)) := by unfold Two at tw ⊢; omega
   obtain ⟨m1, m2, m3, m4, m5, m6⟩ := box_lab (f := alt n X (r - 1) (q - 1)) (g := alt n X r q) (u := lf n X lab (r - 1) (q - 1)) (v := lf n X lab r q) tw2 hf hg (fun a x => l0 x a) (fun a x => l3 x a) (fun a x => l2 x a) (fun a x => l1 x a) g03 g02 g01 g32 g31 g21
   have tw3 := box_two tw2 hf hg
   unfold halfB labH
   simp only [a0, b0, a1, b1, a2, b2, a3, b3]
   refine ⟨by unfold Two at tw3 ⊢; omega, ?_⟩
   refine fin (Y := halfB n p X) (l := labH n p X lab) ?_ ?_ ?_ ?_ ?_ ?_ <;> unfold halfB labH <;> simp only [a0, b0, a1, b1, a2, b2, a3, b3]
   · exact m3
   · exact m2
   · exact m1
   · exact fun a b => (m6 b a).symm
   · exact fun a b => (m5 b a).symm
   · exact fun a b => (m4 b a).symm
 · rw [a0, b0] at l0
   rw [a1, b1] at l1
   rw [a2, b2] at l2
   rw [a3, b3] at l3
   have hf : alt n X r (q - 1) = true → X (.h r q) = !X (.v (r + 1) q) := fun h => by
    have := (alt_ne h).2.1
    rwa [show q - 1 + 1 = q by omega] at this
   have hg : alt n X (r - 1) q = true → X (.h r (q + 1)) = !X (.v r q) := fun h => by
    have := (alt_ne h).2.2.1
    rwa [show r - 1 + 1 = r by omega] at this
   have tw2 : Two (X (.h r q)) (X (.v (r + 1) q)) (X (.h r (q + 1))) (X (.v r q)) := tw
   obtain ⟨m1, m2, m3, m4, m5, m6⟩ := box_lab (f := alt n X r (q - 1)) (g := alt n X (r - 1) q) (u := lf n X lab r (q - 1)) (v := lf n X lab (r - 1) q) tw2 hf hg (fun a x => l0 x a) (fun a x => l1 x a) (fun a x => l2 x a) (fun a x => l3 x a) g01 g02 g03 g12 g13 g23
   have tw3 := box_two tw2 hf hg
   unfold halfB labH
   simp only [a0, b0, a1, b1, a2, b2, a3, b3]
   refine ⟨tw3, ?_⟩
   refine fin (Y := halfB n p X) (l := labH n p X lab) ?_ ?_ ?_ ?_ ?_ ?_ <;> unfold halfB labH <;> simp only [a0, b0, a1, b1, a2, b2, a3, b3]
   · exact m1
   · exact m2
   · exact m3
   · exact m4
   · exact m5
   · exact m6
theorem outer_cases (_ : 1 ≤ n) {k : Int} (h0 : 0 ≤ k) (h4 : k < 4 * n) : (∃ i, 0 ≤ i ∧ i < n ∧ (outer n k = .h i 0 ∨ outer n k = .h i n ∨ outer n k = .v 0 i ∨ outer n k = .v n i)) := by
 unfold outer
 split
 · exact ⟨k, by omega, by omega, .inl rfl⟩
 · split
   · exact ⟨k - n, by omega, by omega, .inr (.inr (.inr rfl))⟩
   · split
     · exact ⟨3 * n - 1 - k, by omega, by omega, .inr (.inl rfl)⟩
     · exact ⟨4 * n - 1 - k, by omega, by omega, .inr (.inr (.inl rfl))⟩
theorem outer_noalt (hn : 1 ≤ n) {k : Int} (h0 : 0 ≤ k) (h4 : k < 4 * n) : alt n X (fcR p (outer n k)) (fcQ p (outer n k)) = false := by
 refine alt_edge ?_
 obtain ⟨i, i0, i1, e⟩ := outer_cases hn h0 h4
 rcases e with e | e | e | e <;> rw [e] <;> unfold fcR fcQ <;> simp only <;> (repeat' split) <;> omega
theorem half_gdl (hX : GdL n X s) (hp : p = 0 ∨ p = 1) : GdL n (halfB n p X) (1 - s) := by
 refine ⟨hX.pos, by have := hX.par; omega, fun r q hi => (half_box hX hp (seen_cons hX) hi).1, fun k h0 h4 => ?_⟩
 unfold halfB
 rw [outer_noalt hX.pos h0 h4, hX.bnd k h0 h4]
 have := hX.par
 by_cases c : k % 2 = s
 · rw [decide_eq_true c, decide_eq_false (by omega)]; rfl
 · rw [decide_eq_false c, decide_eq_true (by omega)]; rfl
def gyr (n : Int) (X : Cf) : Cf := gy n 1 (gy n 0 X)
theorem alt_not {a b : Int} : alt n (fun e => !X e) a b = alt n X a b := by
 unfold alt
 simp only
 cases X (.h a (b + 1)) <;> cases X (.v (a + 1) b) <;> cases X (.h (a + 1) (b + 1)) <;> cases X (.v (a + 1) (b + 1)) <;> rfl
theorem half_eq : halfB n p X = fun e => !gy n p X e := by
 funext e
 unfold halfB gy
 split <;> simp
theorem gyr_half : gyr n X = halfB n 1 (halfB n 0 X) := by
 rw [half_eq (p := 0)]
 funext e
 unfold gyr halfB
 rw [alt_not]
 rw [gy]
 simp
end
end
section
def lpC (m : List (List Int)) : Cf
 | .h i j => decide (rsum m i.toNat j.toNat = 1) == decide ((i + j - 1) % 2 = 0)
 | .v i j => decide (dsum m i.toNat j.toNat = 0) == decide ((i - 1 + j) % 2 = 0)
theorem two_pure {s0 s1 c0 c1 : Int} {e : Bool} (h : s1 - s0 = c1 - c0) (h0 : 0 ≤ s0 ∧ s0 ≤ 1) (h1 : 0 ≤ s1 ∧ s1 ≤ 1) (h2 : 0 ≤ c0 ∧ c0 ≤ 1) (h3 : 0 ≤ c1 ∧ c1 ≤ 1) :
 Two (decide (s0 = 1) == !e) (decide (c1 = 0) == e) (decide (s1 = 1) == e) (decide (c0 = 0) == !e) := by
 have e0 : s0 = 0 ∨ s0 = 1 := by omega
 have e1 : s1 = 0 ∨ s1 = 1 := by omega
 have e2 : c0 = 0 ∨ c0 = 1 := by omega
 have e3 : c1 = 0 ∨ c1 = 1 := by omega
 rcases e0 with rfl | rfl <;> rcases e1 with rfl | rfl <;> rcases e2 with rfl | rfl <;> rcases e3 with rfl | rfl <;> (first | (exfalso; omega) | (cases e <;> decide))
theorem lp_gdl {m : List (List Int)} {n : Nat} (h : IsSign m n) : GdL n (lpC m) 0 := by
 refine ⟨by have := h.pos; omega, .inl rfl, fun r q hi => ?_, fun k h0 h4 => ?_⟩
 · unfold Ins at hi
   obtain ⟨a, rfl⟩ : ∃ a : Nat, r = a := ⟨r.toNat, by omega⟩
   obtain ⟨b, rfl⟩ : ∃ b : Nat, q = b := ⟨q.toNat, by omega⟩
   have := two_pure (s0 := rsum m a b) (s1 := rsum m a (b + 1)) (c0 := dsum m a b) (c1 := dsum m (a + 1) b) (e := decide (((a : Int) + b) % 2 = 0)) (by rw [rsum_succ, dsum_succ]; omega)
    (h.row a b (by omega) (by omega)) (h.row a (b + 1) (by omega) (by omega)) (h.col a b (by omega) (by omega)) (h.col (a + 1) b (by omega) (by omega))
   have p1 : decide (((a : Int) + b - 1) % 2 = 0) = !decide (((a : Int) + b) % 2 = 0) := by
    by_cases c : ((a : Int) + b) % 2 = 0
    · rw [decide_eq_true c, decide_eq_false (by omega)]; rfl
    · rw [decide_eq_false c, decide_eq_true (by omega)]; rfl
   simp only [lpC]
   rw [show ((a : Int) + ((b : Int) + 1) - 1) = (a : Int) + b by omega, show ((a : Int) + 1 - 1 + b) = (a : Int) + b by omega, show ((a : Int) - 1 + b) = (a : Int) + b - 1 by omega, p1,
    show ((a : Int) + 1).toNat = a + 1 by omega, show ((b : Int) + 1).toNat = b + 1 by omega, Int.toNat_natCast, Int.toNat_natCast]
   exact this
 · have hn := h.pos
   by_cases c1 : k < n
   · rw [outer_h0 c1]
     simp only [lpC]
     rw [show rsum m k.toNat (0 : Int).toNat = 0 from rfl, show decide ((0 : Int) = 1) = false from rfl]
     by_cases c : k % 2 = 0
     · rw [decide_eq_true c, decide_eq_false (by omega)]; rfl
     · rw [decide_eq_false c, decide_eq_true (by omega)]; rfl
   · by_cases c2 : k < 2 * n
     · have e := outer_vn (n := (n : Int)) (j := k - n) (by omega) (by omega)
       rw [show (n : Int) + (k - n) = k by omega] at e
       rw [e]
       simp only [lpC]
       rw [Int.toNat_natCast, h.col1 _ (by omega), show decide ((1 : Int) = 0) = false from rfl]
       by_cases c : k % 2 = 0
       · rw [decide_eq_true c, decide_eq_false (by omega)]; rfl
       · rw [decide_eq_false c, decide_eq_true (by omega)]; rfl
     · by_cases c3 : k < 3 * n
       · have e := outer_hn (n := (n : Int)) (i := 3 * n - 1 - k) (by omega) (by omega)
         rw [show 3 * (n : Int) - 1 - (3 * n - 1 - k) = k by omega] at e
         rw [e]
         simp only [lpC]
         rw [Int.toNat_natCast, h.row1 _ (by omega), show decide ((1 : Int) = 1) = true from rfl]
         by_cases c : k % 2 = 0
         · rw [decide_eq_true c, decide_eq_true (by omega)]; rfl
         · rw [decide_eq_false c, decide_eq_false (by omega)]; rfl
       · have e := outer_v0 (n := (n : Int)) (j := 4 * n - 1 - k) (by omega) (by omega)
         rw [show 4 * (n : Int) - 1 - (4 * n - 1 - k) = k by omega] at e
         rw [e]
         simp only [lpC]
         rw [show dsum m (0 : Int).toNat (4 * (n : Int) - 1 - k).toNat = 0 from rfl, show decide ((0 : Int) = 0) = true from rfl]
         by_cases c : k % 2 = 0
         · rw [decide_eq_true c, decide_eq_true (by omega)]; rfl
         · rw [decide_eq_false c, decide_eq_false (by omega)]; rfl
def sOf (Y : Cf) (i j : Nat) : Int := if Y (.h i j) = decide (((i : Int) + j - 1) % 2 = 0) then 1 else 0
def matRow (n : Nat) (Y : Cf) (i : Nat) : List Int := (List.range n).map (fun j => sOf Y i (j + 1) - sOf Y i j)
def matOf (n : Nat) (Y : Cf) : List (List Int) := (List.range n).map (matRow n Y)
section
variable {n : Nat} {Y : Cf}
theorem sOf_zero (hY : GdL n Y 0) {i : Nat} (hi : i < n) : sOf Y i 0 = 0 := by
 have := hY.bnd i (by omega) (by omega)
 rw [outer_h0 (by omega)] at this
 unfold sOf
 rw [show (((0 : Nat) : Int)) = 0 from rfl, this]
 by_cases c : (i : Int) % 2 = 0
 · rw [decide_eq_true c, decide_eq_false (by omega)]; rfl
 · rw [decide_eq_false c, decide_eq_true (by omega)]; rfl
end
section
variable {n s : Int} {X Y : Cf}
def prog (n p : Int) (X : Cf) (a b : Int) : Cf := fun e => if fcR p e < a ∨ (fcR p e = a ∧ fcQ p e < b) then gy n p X e else X e
variable {p : Int}
theorem fc_par (hp : p = 0 ∨ p = 1) (e : Ed) : (fcR p e + fcQ p e) % 2 = p := by
 cases e <;> simp only [fcR, fcQ] <;> split <;> omega
theorem gy_noalt {e : Ed} (h : alt n X (fcR p e) (fcQ p e) = false) : gy n p X e = X e := by unfold gy; rw [h]; rfl
theorem prog_start : prog n p X 0 0 = X := by
 funext e
 unfold prog
 split
 · exact gy_noalt (alt_edge (by omega))
 · rfl
theorem prog_end : prog n p X (n - 1) 0 = gy n p X := by
 funext e
 unfold prog
 split
 · rfl
 · exact (gy_noalt (alt_edge (by omega))).symm
theorem prog_row {a : Int} : prog n p X a (n - 1) = prog n p X (a + 1) 0 := by
 funext e
 unfold prog
 by_cases c : fcR p e < a ∨ (fcR p e = a ∧ fcQ p e < n - 1)
 · rw [if_pos c, if_pos (by omega)]
 · rw [if_neg c]
   split
   · exact (gy_noalt (alt_edge (by omega))).symm
   · rfl
theorem prog_skip (hp : p = 0 ∨ p = 1) {a b : Int} (h : (a + b) % 2 ≠ p) : prog n p X a (b + 1) = prog n p X a b := by
 funext e
 have := fc_par hp e
 unfold prog
 by_cases c : fcR p e < a ∨ (fcR p e = a ∧ fcQ p e < b)
 · rw [if_pos c, if_pos (by omega)]
 · rw [if_neg c, if_neg (fun c2 => c (by
    rcases c2 with c2 | ⟨c2, c3⟩
    · exact .inl c2
    · right
      refine ⟨c2, ?_⟩
      rcases Int.lt_or_le (fcQ p e) b with c4 | c4
      · exact c4
      · exfalso
        have e1 : fcQ p e = b := by omega
        rw [c2, e1] at this
        exact h this))]
def four (a b : Int) (e : Ed) : Prop := e = .h a (b + 1) ∨ e = .h (a + 1) (b + 1) ∨ e = .v (a + 1) b ∨ e = .v (a + 1) (b + 1)
theorem fc_four (_ : p = 0 ∨ p = 1) {a b : Int} (h : (a + b) % 2 = p) (e : Ed) : (fcR p e = a ∧ fcQ p e = b) ↔ four a b e := by
 unfold four
 cases e with
 | h i j =>
  simp only [fcR, fcQ, Ed.h.injEq, reduceCtorEq, or_false]
  split <;> omega
 | v i j =>
  simp only [fcR, fcQ, Ed.v.injEq, reduceCtorEq, false_or]
  split <;> omega
theorem prog_four (hp : p = 0 ∨ p = 1) {a b : Int} (h : (a + b) % 2 = p) {e : Ed} (he : four a b e) : prog n p X a b e = X e := by
 have := (fc_four hp h e).2 he
 unfold prog
 rw [if_neg (by omega)]
theorem prog_turn (hp : p = 0 ∨ p = 1) {a b : Int} (h : (a + b) % 2 = p) (ha : alt n X a b = true) (e : Ed) :
 (four a b e → prog n p X a (b + 1) e = !prog n p X a b e) ∧ (¬ four a b e → prog n p X a (b + 1) e = prog n p X a b e) := by
 constructor
 · intro he
   obtain ⟨e1, e2⟩ := (fc_four hp h e).2 he
   rw [prog_four hp h he]
   unfold prog gy
   rw [if_pos (by omega), e1, e2, ha]
   rfl
 · intro he
   have e3 : ¬ (fcR p e = a ∧ fcQ p e = b) := fun c => he ((fc_four hp h e).1 c)
   unfold prog
   by_cases c : fcR p e < a ∨ (fcR p e = a ∧ fcQ p e < b)
   · rw [if_pos c, if_pos (by omega)]
   · rw [if_neg c, if_neg (by omega)]
theorem prog_stay (hp : p = 0 ∨ p = 1) {a b : Int} (h : (a + b) % 2 = p) (ha : alt n X a b = false) : prog n p X a (b + 1) = prog n p X a b := by
 funext e
 by_cases he : four a b e
 · obtain ⟨e1, e2⟩ := (fc_four hp h e).2 he
   rw [prog_four hp h he]
   unfold prog
   rw [if_pos (by omega)]
   exact gy_noalt (by rw [e1, e2]; exact ha)
 · have e3 : ¬ (fcR p e = a ∧ fcQ p e = b) := fun c => he ((fc_four hp h e).1 c)
   unfold prog
   by_cases c : fcR p e < a ∨ (fcR p e = a ∧ fcQ p e < b)
   · rw [if_pos c, if_pos (by omega)]
   · rw [if_neg c, if_neg (by omega)]
end
def gyrM (m : List (List Int)) : List (List Int) := matOf m.length (gyr m.length (lpC m))
theorem gyr_gdl {m : List (List Int)} (h : IsSign m m.length) : GdL m.length (gyr m.length (lpC m)) 0 := by
 have h1 := half_gdl (p := 0) (lp_gdl h) (.inl rfl)
 have h2 := half_gdl (p := 1) h1 (.inr rfl)
 rw [gyr_half]
 exact h2
end
end Go.Proofs.YtpmkdihencepnaaGreatDoor
