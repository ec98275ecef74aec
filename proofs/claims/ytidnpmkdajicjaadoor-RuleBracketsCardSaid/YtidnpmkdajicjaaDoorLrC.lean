/-
  Plain: the search comes to as many ends as lr says.
-/
import Derived.Test.YtidnpmkdajicjaaDoorLrV
namespace Go.Proofs.YtidnpmkdajicjaaDoor.LR

def lv (al : List Nat) (X : List (List Nat)) : Nat → Nat → Nat := fun l r => at0 (lev al X l) r

theorem rs_S {f : Nat → Nat} : ∀ {k : Nat}, ((rs k f : Nat) : Int) = S (List.range k) (fun x => (f x : Int))
  | 0 => rfl
  | k + 1 => by
    rw [List.range_succ, S_append, ← rs_S (k := k)]
    simp [rs, S]

theorem lvX {R M k : Nat} {al cl : List Nat} {X : List (List Nat)} (ha : al ∈ shapes R M) (hX : X ∈ U R M al k cl) : Lv k (at0 al) (at0 cl) (lv al X) := by
  have h := mem_U.1 hX
  have hs := lev_hs h.2.2
  have far : ∀ l r, l ≤ k → R ≤ r → lv al X l r = 0 := fun l r hl hr =>
    at0_far (by rw [(mem_shapes.1 (lev_mem ha h.2.1 (show l ≤ X.length by omega))).1]; exact hr)
  refine ⟨fun l hl r => ?_, fun l hl r => ?_, fun r => by rw [lv, lev_zero], fun r => by rw [lv, ← h.1, lev_end h.2.2]⟩
  · by_cases c : r < R
    · exact (hs l (by omega) r c).1
    · rw [far _ _ (by omega) (show R ≤ r by omega)]; omega
  · by_cases c : r < R
    · exact (hs l (by omega) r c).2
    · rw [far _ (r + 1) (by omega) (by omega)]; omega
theorem lvfar {R M k : Nat} {al cl : List Nat} {X : List (List Nat)} (ha : al ∈ shapes R M) (hX : X ∈ U R M al k cl) : ∀ l r, l ≤ k → R ≤ r → lv al X l r = 0 := by
  have h := mem_U.1 hX
  exact fun l r hl hr => at0_far (by rw [(mem_shapes.1 (lev_mem ha h.2.1 (show l ≤ X.length by omega))).1]; exact hr)
theorem lv_good {R M k : Nat} {al cl : List Nat} {X : List (List Nat)} (ha : al ∈ shapes R M) (hX : X ∈ U R M al k cl) :
    Good R M al X ↔ ∀ j y, y + 2 ≤ k → ¬ 2 * rs R (fun r => lv al X (y + 1) r - j) < rs R (fun r => lv al X (y + 2) r - j) + rs R (fun r => lv al X y r - j) := by
  have h := mem_U.1 hX
  rw [good_all ⟨ha, h.2.1, h.2.2⟩]
  constructor
  · intro g j y hy
    have := g j y
    rw [lev_bad (by omega)] at this
    exact of_decide_eq_false this
  · intro g j y
    by_cases c : y + 2 ≤ k
    · rw [lev_bad (by omega)]
      exact decide_eq_false (g j y c)
    · exact bad_far (by omega)
theorem lv_sz {R M k : Nat} {al cl : List Nat} {X : List (List Nat)} (ha : al ∈ shapes R M) (hX : X ∈ U R M al k cl) {y : Nat} (hy : y < k) :
    sz R (lev al X (y + 1)) = sz R (lev al X y) + rs R (fun r => lv al X (y + 1) r - lv al X y r) := by
  have V := lvX ha hX
  unfold sz
  rw [← rs_add]
  exact rs_congr (fun r _ => by have := V.m1 y hy r; simp only [lv] at this ⊢; omega)
theorem lv_wt {R M k : Nat} {al cl : List Nat} {X : List (List Nat)} (ha : al ∈ shapes R M) (hX : X ∈ U R M al k cl) {y : Nat} (hy : y < k) :
    at0 (wt R al X) y = rs R (fun r => lv al X (y + 1) r - lv al X y r) := by
  have h := mem_U.1 hX
  rw [lev_wt (by omega), lv_sz ha hX hy]; omega

/-- Two chains that agree with one whole filling are one. -/
theorem agree_one {R M n k : Nat} {al cl : List Nat} {X Y : List (List Nat)} {F : Nat → Nat → Nat} (ha : al ∈ shapes R M) (Sg : Sh n (at0 al) (at0 cl)) (hX : X ∈ U R M al k cl) (hY : Y ∈ U R M al k cl)
    (hF : ∀ r j, Box n (at0 al) (at0 cl) r j → 1 ≤ F r j ∧ F r j ≤ k)
    (h1 : Agree n (at0 al) (at0 cl) n 0 F (lv al X)) (h2 : Agree n (at0 al) (at0 cl) n 0 F (lv al Y)) : X = Y := by
  have key : ∀ (X Y : List (List Nat)), X ∈ U R M al k cl → Y ∈ U R M al k cl → Agree n (at0 al) (at0 cl) n 0 F (lv al X) → Agree n (at0 al) (at0 cl) n 0 F (lv al Y) →
      ∀ l r, l ≤ k → lv al X l r ≤ lv al Y l r := by
    intro X Y hX hY h1 h2 l r hl
    have VX := lvX ha hX
    have VY := lvX ha hY
    by_cases c : lv al X l r ≤ lv al Y l r
    · exact c
    · exfalso
      have e1 := VX.mono r hl (Nat.le_refl _)
      have e2 := VY.mono r (Nat.zero_le l) hl
      rw [VX.pk] at e1
      rw [VY.p0] at e2
      have hr : r < n := by
        by_cases hr : r < n
        · exact hr
        · have := Sg.far r (by omega); omega
      have hb : Box n (at0 al) (at0 cl) r (lv al Y l r) := ⟨hr, e2, by omega⟩
      have hp : Placed n (at0 al) (at0 cl) n 0 r (lv al Y l r) := ⟨hb, Or.inl hr⟩
      have f := hF _ _ hb
      have g1 := h1 r _ hp
      have g2 := h2 r _ hp
      by_cases c1 : F r (lv al Y l r) ≤ l
      · have := VY.mono r c1 hl; omega
      · have := VX.mono r (show l ≤ F r (lv al Y l r) - 1 by omega) (by omega); omega
  have m1 := mem_U.1 hX
  have m2 := mem_U.1 hY
  refine List.ext_getElem (by omega) (fun l l1 l2 => ?_)
  have e1 : X[l] = lev al X (l + 1) := by simp [lev, l1]
  have e2 : Y[l] = lev al Y (l + 1) := by simp [lev, l2]
  rw [e1, e2]
  refine shape_ext (mem_shapes.1 (lev_mem ha m1.2.1 (by omega))).1 (mem_shapes.1 (lev_mem ha m2.2.1 (by omega))).1 (fun r _ => ?_)
  have := key X Y hX hY h1 h2 (l + 1) r (by omega)
  have := key Y X hY hX h2 h1 (l + 1) r (by omega)
  simp only [lv] at *
  omega

/-- A whole filling that kept to the rules is a good chain's. -/
theorem whole {R M n k : Nat} {al cl bl : List Nat} {F : Nat → Nat → Nat} {L Us : Nat → Nat} {m : Nat} (ha : al ∈ shapes R M) (hc : cl ∈ shapes R M) (Sg : Sh n (at0 al) (at0 cl)) (hn : n ≤ R)
    (hk : bl.length = k) (hsum : sz R al + rs k (at0 bl) = sz R cl) (inv : Inv n k (at0 al) (at0 cl) (at0 bl) n m F L Us) (hm : m ≤ at0 cl n) :
    ∃ X, X ∈ U R M al k cl ∧ Good R M al X ∧ wt R al X = bl ∧ Agree n (at0 al) (at0 cl) n 0 F (lv al X) := by
  have pl : ∀ r j, Box n (at0 al) (at0 cl) r j → Placed n (at0 al) (at0 cl) n m r j := fun r j h => ⟨h, Or.inl h.1⟩
  have inn : ∀ r, 0 < at0 cl r → r < n := by
    intro r h
    by_cases hr : r < n
    · exact hr
    · have := Sg.far r (by omega); omega
  have thr : ∀ l r, ∃ t, at0 al r ≤ t ∧ t ≤ at0 cl r ∧ ∀ j, at0 al r ≤ j → j < at0 cl r → (F r j ≤ l ↔ j < t) := by
    intro l r
    refine cut_at (fun j h1 h2 h3 => ?_) (Sg.ac r)
    have := inv.row r j (pl r j ⟨inn r (by omega), h1, by omega⟩) h2
    omega
  let Q : Nat → Nat → Nat := fun l r => Classical.choose (thr l r)
  have hQ : ∀ l r, at0 al r ≤ Q l r ∧ Q l r ≤ at0 cl r ∧ ∀ j, at0 al r ≤ j → j < at0 cl r → (F r j ≤ l ↔ j < Q l r) := fun l r => Classical.choose_spec (thr l r)
  clear_value Q
  have q0 : ∀ r, Q 0 r = at0 al r := by
    intro r
    have h := hQ 0 r
    by_cases c : at0 al r < Q 0 r
    · have hb : Box n (at0 al) (at0 cl) r (at0 al r) := ⟨inn r (by omega), Nat.le_refl _, by omega⟩
      have := (h.2.2 _ hb.2.1 hb.2.2).2 c
      have := (inv.low r _ (pl r _ hb)).1
      omega
    · omega
  have qk : ∀ r, Q k r = at0 cl r := by
    intro r
    have h := hQ k r
    by_cases c : Q k r < at0 cl r
    · have hb : Box n (at0 al) (at0 cl) r (Q k r) := ⟨inn r (by omega), h.1, c⟩
      have := (h.2.2 _ hb.2.1 hb.2.2).1 (inv.low r _ (pl r _ hb)).2
      omega
    · omega
  have qf : ∀ l r, R ≤ r → Q l r = 0 := by
    intro l r hr
    have := hQ l r
    have := Sg.far r (by omega)
    omega
  obtain ⟨X, hXd⟩ : ∃ X, X = (List.range k).map (fun l => ofFn R (Q (l + 1))) := ⟨_, rfl⟩
  have hXl : X.length = k := by rw [hXd]; simp
  have lQ : ∀ l, l ≤ k → lev al X l = ofFn R (Q l) := by
    intro l hl
    match l with
    | 0 =>
      rw [lev_zero]
      exact shape_ext (mem_shapes.1 ha).1 ofFn_len (fun r hr => by rw [at0_ofFn hr, q0])
    | l + 1 =>
      have : lev al X (l + 1) = X[l]'(by omega) := by simp [lev, show l < X.length by omega]
      rw [this]
      simp [hXd]
  have aQ : ∀ l r, l ≤ k → lv al X l r = Q l r := by
    intro l r hl
    rw [lv, lQ l hl]
    by_cases c : r < R
    · rw [at0_ofFn c]
    · rw [at0_ofFn_far (by omega), qf l r (by omega)]
  have hX : X ∈ U R M al k cl := by
    refine mem_U.2 ⟨hXl, fun q hq => ?_, lev_ch (fun l hl r _ => ?_) ?_⟩
    · rw [hXd] at hq
      obtain ⟨l, _, rfl⟩ := List.mem_map.1 hq
      refine shape_of ofFn_len (fun r hr => ?_)
      rw [at0_ofFn hr]
      have := (hQ (l + 1) r).2.1
      have := at0_le hc r
      omega
    · have e1 := aQ l r (by omega)
      have e2 := aQ (l + 1) r (by omega)
      have e3 := aQ (l + 1) (r + 1) (by omega)
      simp only [lv] at e1 e2 e3
      rw [e1, e2, e3]
      have f1 := hQ l r
      have f2 := hQ (l + 1) r
      have f3 := hQ (l + 1) (r + 1)
      have ad := Sg.ad r
      have cd := Sg.cd r
      constructor
      · by_cases c : Q l r ≤ Q (l + 1) r
        · exact c
        · have := (f1.2.2 (Q (l + 1) r) f2.1 (by omega)).2 (by omega)
          have := (f2.2.2 (Q (l + 1) r) f2.1 (by omega)).1 (by omega)
          omega
      · by_cases c : Q (l + 1) (r + 1) ≤ Q l r
        · exact c
        · have b1 : Box n (at0 al) (at0 cl) (r + 1) (Q l r) := ⟨inn _ (by omega), by omega, by omega⟩
          have g := inv.col r (Q l r) (pl _ _ b1) f1.1
          have g1 := (f3.2.2 (Q l r) (by omega) (by omega)).2 (by omega)
          have g2 := (f1.2.2 (Q l r) f1.1 (by omega)).1 (by omega)
          omega
    · rw [hXl, lQ k (Nat.le_refl _)]
      exact shape_ext ofFn_len (mem_shapes.1 hc).1 (fun r hr => by rw [at0_ofFn hr, qk])
  have V := lvX ha hX
  have lo : ∀ i m r j, Placed n (at0 al) (at0 cl) i m r j → F r j ≤ k := fun i m r j hp => (inv.low r j (pl r j hp.1)).2
  have agr : ∀ i m, Agree n (at0 al) (at0 cl) i m F (lv al X) := by
    intro i m r j hp
    have l := inv.low r j (pl r j hp.1)
    refine ⟨l.1, ?_, ?_⟩
    · rw [aQ _ _ (by omega)]
      by_cases c : Q (F r j - 1) r ≤ j
      · exact c
      · have := ((hQ (F r j - 1) r).2.2 j hp.1.2.1 hp.1.2.2).2 (by omega); omega
    · rw [aQ _ _ l.2]
      exact ((hQ (F r j) r).2.2 j hp.1.2.1 hp.1.2.2).1 (Nat.le_refl _)
  have far := lvfar ha hX
  refine ⟨X, hX, (lv_good ha hX).2 (fun j y hy => ?_), ?_, agr n 0⟩
  · refine row_col V Sg.ad hy far (fun r hr => ?_)
    induction r with
    | zero =>
      by_cases c : lv al X (y + 1) 0 < lv al X (y + 2) 0
      · exfalso
        have e2 := V.mono 0 (show y + 2 ≤ k by omega) (Nat.le_refl _)
        have e0 := V.mono 0 (Nat.zero_le (y + 1)) (by omega)
        rw [V.pk] at e2
        rw [V.p0] at e0
        have hb : Box n (at0 al) (at0 cl) 0 (lv al X (y + 1) 0) := ⟨inn _ (by omega), e0, by omega⟩
        have q1 := aQ (y + 1) 0 (by omega)
        have q2 := aQ (y + 2) 0 (by omega)
        have f1 : ¬ F 0 (lv al X (y + 1) 0) ≤ y + 1 := fun h => by
          have := ((hQ (y + 1) 0).2.2 _ hb.2.1 hb.2.2).1 h; omega
        have f2 : F 0 (lv al X (y + 1) 0) ≤ y + 2 := ((hQ (y + 2) 0).2.2 _ hb.2.1 hb.2.2).2 (by omega)
        have l := inv.lat 0 _ y (pl _ _ hb) (by omega)
        rw [num_agree V (agr _ _) (lo _ _) (show y + 1 < k by omega) Sg.far (by omega), num_agree V (agr _ _) (lo _ _) (show y < k by omega) Sg.far (by omega)] at l
        have m := V.m1 y (by omega) 0
        simp only [rs] at l
        omega
      · simp only [rs]; omega
    | succ r ih =>
      have i := ih (by omega)
      by_cases c : lv al X (y + 1) (r + 1) < lv al X (y + 2) (r + 1)
      · have e2 := V.mono (r + 1) (show y + 2 ≤ k by omega) (Nat.le_refl _)
        have e0 := V.mono (r + 1) (Nat.zero_le (y + 1)) (by omega)
        rw [V.pk] at e2
        rw [V.p0] at e0
        have hb : Box n (at0 al) (at0 cl) (r + 1) (lv al X (y + 1) (r + 1)) := ⟨inn _ (by omega), e0, by omega⟩
        have q1 := aQ (y + 1) (r + 1) (by omega)
        have q2 := aQ (y + 2) (r + 1) (by omega)
        have f1 : ¬ F (r + 1) (lv al X (y + 1) (r + 1)) ≤ y + 1 := fun h => by
          have := ((hQ (y + 1) (r + 1)).2.2 _ hb.2.1 hb.2.2).1 h; omega
        have f2 : F (r + 1) (lv al X (y + 1) (r + 1)) ≤ y + 2 := ((hQ (y + 2) (r + 1)).2.2 _ hb.2.1 hb.2.2).2 (by omega)
        have l := inv.lat (r + 1) _ y (pl _ _ hb) (by omega)
        rw [num_agree V (agr _ _) (lo _ _) (show y + 1 < k by omega) Sg.far (by omega), num_agree V (agr _ _) (lo _ _) (show y < k by omega) Sg.far (by omega)] at l
        have m := V.m1 y (by omega) (r + 1)
        have l' : rs (r + 1) (fun t => lv al X (y + 2) t - lv al X (y + 1) t) + (max (lv al X (y + 2) (r + 1)) (lv al X (y + 1) (r + 1) + 1) - max (lv al X (y + 1) (r + 1)) (lv al X (y + 1) (r + 1) + 1))
          < rs (r + 1) (fun t => lv al X (y + 1) t - lv al X y t) + (max (lv al X (y + 1) (r + 1)) (lv al X (y + 1) (r + 1) + 1) - max (lv al X y (r + 1)) (lv al X (y + 1) (r + 1) + 1)) := l
        rw [rs]
        omega
      · rw [rs]
        rw [rs.eq_def (r + 1) (fun t => lv al X (y + 1) t - lv al X y t)]
        simp only
        omega
  · have N : ∀ y, y < k → at0 (wt R al X) y = Us y := by
      intro y hy
      rw [lv_wt ha hX hy, inv.us y hy, num_agree V (agr _ _) (lo _ _) hy Sg.far hm]
      have z : ∀ l, l ≤ k → lv al X l n = 0 := by
        intro l hl
        have := V.mono n hl (Nat.le_refl _)
        rw [V.pk, Sg.far n (Nat.le_refl _)] at this
        omega
      rw [z _ (by omega), z _ (by omega), ← rs_cut hn]
      simp only [Nat.sub_self, Nat.add_zero]
      refine rs_congr (fun r _ => ?_)
      by_cases c : r < n
      · simp [c]
      · have := V.mono r (show y + 1 ≤ k by omega) (Nat.le_refl _)
        rw [V.pk, Sg.far r (by omega)] at this
        simp only [c, if_false]; omega
    have tot : ∀ y, y ≤ k → sz R (lev al X y) = sz R al + rs y (fun t => at0 (wt R al X) t) := by
      intro y
      induction y with
      | zero => intro _; rw [lev_zero]; rfl
      | succ y ih =>
        intro hy
        rw [lv_sz ha hX (by omega), ih (by omega), ← lv_wt ha hX (by omega)]
        simp only [rs]; omega
    have tk := tot k (Nat.le_refl _)
    have ek : lev al X k = cl := by rw [← hXl]; exact lev_end (mem_U.1 hX).2.2
    rw [ek] at tk
    have each := rs_eq_each (f := fun t => at0 (wt R al X) t) (g := at0 bl) (n := k) (fun y hy => by
      have := N y hy
      have := inv.lu y hy
      show at0 (wt R al X) y ≤ at0 bl y
      omega) (by omega)
    refine List.ext_getElem (by rw [wt_len]; omega) (fun y h1 h2 => ?_)
    have := each y (by omega)
    rwa [at0_get h1, at0_get h2] at this

theorem find_x {k j : Nat} {f : Nat → Nat} (h0 : f 0 ≤ j) (hk : j < f k) : ∃ x, x < k ∧ f x ≤ j ∧ j < f (x + 1) := by
  induction k with
  | zero => omega
  | succ k ih =>
    by_cases c : j < f k
    · obtain ⟨x, x1, x2⟩ := ih c
      exact ⟨x, by omega, x2⟩
    · exact ⟨k, by omega, by omega, hk⟩

open Classical in
noncomputable def Gc (R M n : Nat) (al cl bl : List Nat) (i m : Nat) (F : Nat → Nat → Nat) : Int :=
  S (U R M al bl.length cl) (fun X => if Good R M al X ∧ wt R al X = bl ∧ Agree n (at0 al) (at0 cl) i m F (lv al X) then 1 else 0)

theorem count {R M n k : Nat} {al cl bl : List Nat} (ha : al ∈ shapes R M) (hc : cl ∈ shapes R M) (Sg : Sh n (at0 al) (at0 cl)) (hn : n ≤ R)
    (hk : bl.length = k) (hsum : sz R al + rs k (at0 bl) = sz R cl) : ∀ (t i m : Nat) (F : Nat → Nat → Nat) (L Us : Nat → Nat), i + t = n → m ≤ at0 cl i →
    Inv n k (at0 al) (at0 cl) (at0 bl) i m F L Us → (cnt k (at0 cl) (bxs (at0 al) (at0 cl) t i m) F L Us : Int) = Gc R M n al cl bl i m F := by
  classical
  intro t
  induction t with
  | zero =>
    intro i m F L Us hi hm inv
    rw [Nat.add_zero] at hi
    subst hi
    obtain ⟨X, hX, g, w, ag⟩ := whole ha hc Sg hn hk hsum inv hm
    have same : ∀ P, Agree i (at0 al) (at0 cl) i m F P ↔ Agree i (at0 al) (at0 cl) i 0 F P :=
      fun P => ⟨fun h r j hp => h r j ⟨hp.1, Or.inl hp.1.1⟩, fun h r j hp => h r j ⟨hp.1, Or.inl hp.1.1⟩⟩
    have e : Gc R M i al cl bl i m F = S (U R M al bl.length cl) (fun Y => if Y = X then 1 else 0) := by
      refine S_congr (fun Y hY => ?_)
      rw [hk] at hY
      by_cases c : Y = X
      · subst c
        rw [if_pos rfl, if_pos ⟨g, w, (same _).2 ag⟩]
      · rw [if_neg c, if_neg]
        rintro ⟨_, _, h⟩
        exact c (agree_one ha Sg hY hX (fun r j hb => inv.low r j ⟨hb, Or.inl hb.1⟩) ((same _).1 h) ag)
    rw [e, S_pick X (fun _ => 1) _ U_nodup (by rw [hk]; exact hX)]
    rfl
  | succ t iht =>
    intro i m
    induction m with
    | zero =>
      intro F L Us hi hm inv
      have := iht (i + 1) (at0 cl (i + 1)) F L Us (by omega) (Nat.le_refl _) (inv.next (Nat.zero_le _))
      simp only [bxs, rb, List.nil_append]
      rw [this]
      refine S_congr (fun X _ => ?_)
      have : Agree n (at0 al) (at0 cl) (i + 1) (at0 cl (i + 1)) F (lv al X) ↔ Agree n (at0 al) (at0 cl) i 0 F (lv al X) := by
        constructor
        · intro h r j hp
          exact h r j ⟨hp.1, Or.inl (by rcases hp.2 with h | h <;> omega)⟩
        · intro h r j hp
          refine h r j ⟨hp.1, ?_⟩
          have := hp.1.2.2
          by_cases e : r = i
          · exact Or.inr ⟨e, Nat.zero_le _⟩
          · exact Or.inl (by rcases hp.2 with h | ⟨rfl, h⟩ <;> omega)
      simp only [this]
    | succ j ihj =>
      intro F L Us hi hm inv
      by_cases hin : j < at0 al i
      · have := iht (i + 1) (at0 cl (i + 1)) F L Us (by omega) (Nat.le_refl _) (inv.next (by omega))
        simp only [bxs, rb, hin, if_true, List.nil_append]
        rw [this]
        refine S_congr (fun X _ => ?_)
        have : Agree n (at0 al) (at0 cl) (i + 1) (at0 cl (i + 1)) F (lv al X) ↔ Agree n (at0 al) (at0 cl) i (j + 1) F (lv al X) := by
          constructor
          · intro h r s hp
            exact h r s ⟨hp.1, Or.inl (by rcases hp.2 with h | h <;> omega)⟩
          · intro h r s hp
            refine h r s ⟨hp.1, ?_⟩
            have := hp.1.2.2
            have := hp.1.2.1
            by_cases e : r = i
            · subst e; exact Or.inr ⟨rfl, by omega⟩
            · exact Or.inl (by rcases hp.2 with h | ⟨rfl, h⟩ <;> omega)
        simp only [this]
      · have hbx : bxs (at0 al) (at0 cl) (t + 1) i (j + 1) = (i, j) :: bxs (at0 al) (at0 cl) (t + 1) i j := by
          simp only [bxs, rb, hin, if_false, List.cons_append]
        rw [hbx, cnt, rs_S]
        have hin' : i < n := by omega
        have e1 : ∀ x ∈ List.range k, (((if may (at0 cl) i j x F L Us then cnt k (at0 cl) (bxs (at0 al) (at0 cl) (t + 1) i j) (put2 F i j (x + 1)) (put1 L x (L x - 1)) (put1 Us x (Us x + 1)) else 0) : Nat) : Int)
            = S (U R M al bl.length cl) (fun X => if may (at0 cl) i j x F L Us ∧ (Good R M al X ∧ wt R al X = bl ∧ Agree n (at0 al) (at0 cl) i j (put2 F i j (x + 1)) (lv al X)) then 1 else 0) := by
          intro x hx
          by_cases c : may (at0 cl) i j x F L Us
          · simp only [c, if_true, true_and]
            exact ihj _ _ _ hi (by omega) (inv.put Sg (by omega) (by omega) (List.mem_range.1 hx) c)
          · simp only [c, if_false, false_and]
            exact (S_zero _).symm
        rw [S_congr e1, S_swap]
        refine S_congr (fun X hX => ?_)
        rw [hk] at hX
        have V := lvX ha hX
        obtain ⟨x, x1, x2, x3⟩ := find_x (k := k) (j := j) (f := fun l => lv al X l i) (by rw [V.p0]; omega) (by rw [V.pk]; omega)
        have pls : ∀ r s, Placed n (at0 al) (at0 cl) i (j + 1) r s → ¬ (r = i ∧ s = j) ∧ Placed n (at0 al) (at0 cl) i j r s := by
          intro r s hp
          refine ⟨by rintro ⟨rfl, rfl⟩; rcases hp.2 with h | h <;> omega, hp.1, ?_⟩
          rcases hp.2 with h | ⟨h1, h2⟩
          · exact Or.inl h
          · exact Or.inr ⟨h1, by omega⟩
        have up : ∀ y, Agree n (at0 al) (at0 cl) i j (put2 F i j (y + 1)) (lv al X) → Agree n (at0 al) (at0 cl) i (j + 1) F (lv al X) := by
          intro y h r s hp
          obtain ⟨ne, q⟩ := pls r s hp
          have := h r s q
          simpa only [put2, ne, if_false] using this
        by_cases all : Good R M al X ∧ wt R al X = bl ∧ Agree n (at0 al) (at0 cl) i (j + 1) F (lv al X)
        · rw [if_pos all]
          obtain ⟨g, w, ag⟩ := all
          have ok : may (at0 cl) i j x F L Us := may_of Sg hn V inv (by omega) (by omega) ag x1 x2 x3
            (fun y hy => by rw [← w, lv_wt ha hX hy]) (fun y hy => (lv_good ha hX).1 g j y hy)
          have e2 : S (List.range k) (fun y => if may (at0 cl) i j y F L Us ∧ (Good R M al X ∧ wt R al X = bl ∧ Agree n (at0 al) (at0 cl) i j (put2 F i j (y + 1)) (lv al X)) then (1 : Int) else 0)
              = S (List.range k) (fun y => if y = x then 1 else 0) := by
            refine S_congr (fun y _ => ?_)
            by_cases c : y = x
            · subst c
              rw [if_pos rfl, if_pos]
              refine ⟨ok, g, w, fun r s hp => ?_⟩
              by_cases e : r = i ∧ s = j
              · obtain ⟨rfl, rfl⟩ := e
                simp only [put2, and_self, if_true]
                exact ⟨by omega, x2, x3⟩
              · simp only [put2, e, if_false]
                refine ag r s ⟨hp.1, ?_⟩
                rcases hp.2 with h | ⟨h1, h2⟩
                · exact Or.inl h
                · exact Or.inr ⟨h1, by omega⟩
            · rw [if_neg c, if_neg]
              rintro ⟨_, _, _, h⟩
              have := h i j ⟨⟨hin', by omega, by omega⟩, Or.inr ⟨rfl, Nat.le_refl _⟩⟩
              simp only [put2, and_self, if_true, Nat.add_sub_cancel] at this
              by_cases c1 : y < x
              · have := V.mono i (show y + 1 ≤ x by omega) (by omega); omega
              · have hy : y < k := by
                  by_cases hy : y < k
                  · exact hy
                  · have : y ∈ List.range k := by assumption
                    exact absurd (List.mem_range.1 this) hy
                have := V.mono i (show x + 1 ≤ y by omega) (by omega); omega
          rw [e2, S_pick x (fun _ => 1) _ List.nodup_range (List.mem_range.2 x1)]
        · rw [if_neg all]
          refine (S_congr (g := fun _ => 0) (fun y _ => ?_)).trans (S_zero _)
          rw [if_neg]
          rintro ⟨_, g, w, h⟩
          exact all ⟨g, w, up y h⟩

/-- THE COUNT: the whole search. -/
theorem count_all {R M n k : Nat} {al cl bl : List Nat} (ha : al ∈ shapes R M) (hc : cl ∈ shapes R M) (Sg : Sh n (at0 al) (at0 cl)) (hn : n ≤ R)
    (hk : bl.length = k) (hsum : sz R al + rs k (at0 bl) = sz R cl) :
    (cnt k (at0 cl) (bxs (at0 al) (at0 cl) n 0 (at0 cl 0)) (fun _ _ => 0) (at0 bl) (fun _ => 0) : Int) = lr R M al bl cl := by
  classical
  have no : ∀ r j, ¬ Placed n (at0 al) (at0 cl) 0 (at0 cl 0) r j := by
    rintro r j ⟨hb, h | ⟨rfl, h⟩⟩
    · omega
    · have := hb.2.2; omega
  have inv : Inv n k (at0 al) (at0 cl) (at0 bl) 0 (at0 cl 0) (fun _ _ => 0) (at0 bl) (fun _ => 0) := by
    refine ⟨fun r j h => absurd h (no r j), fun r j h => absurd h (no r j), fun r j h => absurd h (no _ j), fun r j x h => absurd h (no r j), fun _ _ _ => rfl, fun y _ => ?_, fun _ _ => rfl, fun _ _ => Nat.le_refl _⟩
    simp only [num, rs, Nat.zero_add]
    have : rs (at0 cl 0) (fun j => if (at0 al 0 ≤ j ∧ at0 cl 0 ≤ j) ∧ 0 = y + 1 then 1 else 0) = rs (at0 cl 0) (fun _ => 0) := rs_congr (fun j _ => by simp)
    rw [this, rs_zero]
  rw [count ha hc Sg hn hk hsum n 0 _ _ _ _ (by omega) (Nat.le_refl _) inv]
  refine S_congr (fun X _ => ?_)
  have : Agree n (at0 al) (at0 cl) 0 (at0 cl 0) (fun _ _ => 0) (lv al X) := fun r j h => absurd h (no r j)
  simp only [this, and_true]
end Go.Proofs.YtidnpmkdajicjaaDoor.LR
