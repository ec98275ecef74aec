/-
  Plain: the two ways to multiply have the same sums.
-/
import Derived.Test.YtidnpmkdajicjaaDoorTimL
namespace Go.Proofs.YtidnpmkdajicjaaDoor
open Go.RowKit Go.Maps LR

/-- One number a thing, the rest left out. -/
theorem gsum_map {f : List Nat → Nat} {e : List Nat} : ∀ {l : List (List Nat)}, l.Nodup → gsum ((l.map (fun c => (c, f c))).filter (fun x => decide (0 < x.2))) (keyT e) = if e ∈ l then f e else 0
  | [], _ => by simp [gsum]
  | c :: l, hn => by
    have hn' := List.nodup_cons.1 hn
    have i := gsum_map (f := f) (e := e) (l := l) hn'.2
    simp only [List.map_cons]
    by_cases p : 0 < f c
    · rw [List.filter_cons_of_pos (by simpa using p)]
      simp only [gsum]
      rw [i]
      by_cases ec : c = e
      · subst ec
        simp [hn'.1]
      · have : ¬ keyT c = keyT e := fun h => ec (keyT_inj h)
        have h2 : ¬ e = c := fun h => ec h.symm
        simp [this, h2]
    · rw [List.filter_cons_of_neg (by simpa using p), i]
      by_cases ec : e = c
      · subst ec
        have : f e = 0 := by omega
        simp [this]
      · simp [ec]
theorem gsum_prodT {d c e : List Nat} (he : e ∈ allP (d.sum + c.sum)) : gsum (prodT d c) (keyT e) = num3 d c e := by
  unfold prodT
  rw [gsum_map (allP_nodup _), if_pos he]
theorem gsum_scale {n : Nat} {s : List UInt8} : ∀ (l : List (List Nat × Nat)), gsum (l.map (fun u => (u.1, n * u.2))) s = n * gsum l s
  | [] => by simp [gsum]
  | u :: l => by
    simp only [List.map_cons, gsum, gsum_scale l, Nat.mul_add]
    by_cases h : keyT u.1 = s
    · simp [h]
    · simp [h]
theorem gsum_contrib {f : List Nat → Nat} {c e : List Nat} {n : Nat} (he : e ∈ allP (n + c.sum)) : ∀ (l : List (List Nat)), (∀ d ∈ l, d.sum = n) →
    (gsum (contrib ((l.map (fun d => (d, f d))).filter (fun x => decide (0 < x.2))) c) (keyT e) : Int) = S l (fun d => (f d * num3 d c e : Int))
  | [], _ => by simp [contrib, gsum, S]
  | d :: l, h => by
    have i := gsum_contrib (f := f) (c := c) (e := e) (n := n) he l (fun x hx => h x (by simp [hx]))
    have hd := h d (by simp)
    simp only [List.map_cons, S]
    by_cases p : 0 < f d
    · rw [List.filter_cons_of_pos (by simpa using p)]
      have e1 : contrib ((d, f d) :: (l.map (fun d => (d, f d))).filter (fun x => decide (0 < x.2))) c = (prodT d c).map (fun u => (u.1, f d * u.2)) ++ contrib ((l.map (fun d => (d, f d))).filter (fun x => decide (0 < x.2))) c := by simp [contrib]
      rw [e1, gsum_app, gsum_scale, gsum_prodT (by rw [hd]; exact he), ← i]
      simp
    · rw [List.filter_cons_of_neg (by simpa using p), i]
      have : f d = 0 := by omega
      simp [this]
theorem contrib_key {a b c : List Nat} {x : List Nat × Nat} (hx : x ∈ contrib (prodT a b) c) : x.1 ∈ allP (a.sum + b.sum + c.sum) ∧ 0 < x.2 := by
  unfold contrib at hx
  obtain ⟨t, ht, hx⟩ := List.mem_flatMap.1 hx
  obtain ⟨u, hu, rfl⟩ := List.mem_map.1 hx
  have h1 := prodT_mem ht
  have h2 := prodT_mem hu
  have h3 := (mem_allP.1 h1.1).1
  refine ⟨by rw [← h3]; exact h2.1, Nat.mul_pos h1.2.2 h2.2.2⟩
/-- THE SUMS ARE THE SAME. -/
theorem sums_same {a b c : List Nat} (ha : Pn a) (hb : Pn b) (hc : Pn c) (h16 : a.sum + b.sum + c.sum ≤ 16) (s : List UInt8) :
    gsum (contrib (prodT a b) c) s = gsum (contrib (prodT b c) a) s := by
  by_cases h : ∃ e, e ∈ allP (a.sum + b.sum + c.sum) ∧ keyT e = s
  · obtain ⟨e, he, rfl⟩ := h
    have hp := mem_allP.1 he
    have g1 := gsum_contrib (f := fun d => num3 a b d) (c := c) (e := e) (n := a.sum + b.sum) he (allP (a.sum + b.sum)) (fun d hd => (mem_allP.1 hd).1)
    have he2 : e ∈ allP (b.sum + c.sum + a.sum) := by rwa [show b.sum + c.sum + a.sum = a.sum + b.sum + c.sum by omega]
    have g2 := gsum_contrib (f := fun d => num3 b c d) (c := a) (e := e) (n := b.sum + c.sum) he2 (allP (b.sum + c.sum)) (fun d hd => (mem_allP.1 hd).1)
    have l := LR.law ha hb hc hp.2 h16 (by rw [hp.1]; exact h16)
    rw [← g1, ← g2] at l
    exact Int.ofNat.inj l
  · have z : ∀ (l : List (List Nat × Nat)), (∀ x ∈ l, keyT x.1 ≠ s) → gsum l s = 0 := by
      intro l
      induction l with
      | nil => intro _; rfl
      | cons x l ih =>
        intro hl
        simp only [gsum]
        rw [if_neg (hl x (by simp)), ih (fun y hy => hl y (by simp [hy]))]
    rw [z _ (fun x hx e => h ⟨x.1, (contrib_key hx).1, e⟩), z _ (fun x hx e => h ⟨x.1, by
      have := (contrib_key hx).1
      rwa [show b.sum + c.sum + a.sum = a.sum + b.sum + c.sum by omega] at this, e⟩)]

theorem sameKey_str {s : List UInt8} {kl : Lit} : (Lit.string s).sameKey kl = true ↔ kl = .string s := by
  cases kl with
  | string t => simp [Lit.sameKey]; exact eq_comm
  | _ => simp [Lit.sameKey]
theorem has_same {D1 D2 : SMap} {L1 L2 : List (List Nat × Nat)} (h1 : SumOf D1 L1) (h2 : SumOf D2 L2) (p1 : ∀ x ∈ L1, 0 < x.2) (p2 : ∀ x ∈ L2, 0 < x.2) (h : ∀ s, gsum L1 s = gsum L2 s) (kl : Lit) : has D1 kl = has D2 kl := by
  have key : ∀ {L : List (List Nat × Nat)}, (∀ x ∈ L, 0 < x.2) → (L.any (fun x => (Lit.string (keyT x.1)).sameKey kl) = true ↔ ∃ s, kl = .string s ∧ 0 < gsum L s) := by
    intro L p
    rw [List.any_eq_true]
    constructor
    · rintro ⟨x, hx, hk⟩
      have := sameKey_str.1 hk
      exact ⟨keyT x.1, this, (gsum_pos p).2 ⟨x, hx, rfl⟩⟩
    · rintro ⟨s, hs, hg⟩
      obtain ⟨x, hx, e⟩ := (gsum_pos p).1 hg
      exact ⟨x, hx, sameKey_str.2 (by rw [hs, e])⟩
  rw [h1.has_, h2.has_]
  have k1 := key p1
  have k2 := key p2
  have : (∃ s, kl = .string s ∧ 0 < gsum L1 s) ↔ (∃ s, kl = .string s ∧ 0 < gsum L2 s) := by simp only [h]
  rw [Bool.eq_iff_iff, k1, k2, this]
/-- Maps with the same keys are of one size. -/
theorem size_same {D1 D2 : SMap} (h1 : Tidy D1) (h2 : Tidy D2) (h : ∀ kl, has D1 kl = has D2 kl) (k1 : ∀ es, D1 = .map es → ∀ p ∈ es, WideAt.IsKeyLit p.1) (k2 : ∀ es, D2 = .map es → ∀ p ∈ es, WideAt.IsKeyLit p.1) : size D1 = size D2 := by
  obtain ⟨e1, rfl, n1⟩ := h1
  obtain ⟨e2, rfl, n2⟩ := h2
  have self : ∀ kl : Lit, WideAt.IsKeyLit kl → kl.sameKey kl = true := by
    intro kl hk
    cases kl <;> first | (simp [Lit.sameKey]; done) | exact absurd hk (by simp [WideAt.IsKeyLit])
  have key : ∀ (a b : List (Lit × DataW Unit)), (a.Pairwise (fun p q => p.1 ≠ q.1)) → (∀ p ∈ a, WideAt.IsKeyLit p.1) → (∀ kl, has (.map a) kl = true → has (.map b) kl = true) → a.length ≤ b.length := by
    intro a b hn hk hh
    have hnd : (a.map (·.1)).Nodup := by
      rw [List.nodup_iff_pairwise_ne, List.pairwise_map]; exact hn
    have hsub : a.map (·.1) ⊆ b.map (·.1) := by
      intro kl hkl
      obtain ⟨p, hp, rfl⟩ := List.mem_map.1 hkl
      have h1 : has (.map a) p.1 = true := by
        rw [has_eq, List.any_eq_true]
        exact ⟨p, hp, self _ (hk p hp)⟩
      have h2 := hh _ h1
      rw [has_eq, List.any_eq_true] at h2
      obtain ⟨q, hq, e⟩ := h2
      exact List.mem_map.2 ⟨q, hq, WideAt.sameKey_eq e⟩
    have := hnd.length_le_of_subset hsub
    simpa using this
  rw [size_eq, size_eq]
  exact Nat.le_antisymm (key e1 e2 n1 (k1 e1 rfl) (fun kl hh => by rw [← h]; exact hh)) (key e2 e1 n2 (k2 e2 rfl) (fun kl hh => by rw [h]; exact hh))
end Go.Proofs.YtidnpmkdajicjaaDoor
