/-
  Plain: sums told by keys, as a map has them.
-/
import Derived.Test.YtidnpmkdajicjaaDoorKeyW
import Derived.Test.YtidnpmkdajicjaaDoorProW
import Derived.Maps.OwnOps
import Derived.Maps.Views
import Derived.Maps.RangeWalk
namespace Go.Proofs.YtidnpmkdajicjaaDoor
open Go.RowKit Go.Maps LR

abbrev SMap := DataW Unit
/-- What a list of contributions has of a key. -/
def gsum : List (List Nat × Nat) → List UInt8 → Nat
  | [], _ => 0
  | x :: l, s => (if keyT x.1 = s then x.2 else 0) + gsum l s
theorem gsum_app : ∀ (l m : List (List Nat × Nat)) (s : List UInt8), gsum (l ++ m) s = gsum l s + gsum m s
  | [], m, s => by simp [gsum]
  | x :: l, m, s => by simp only [List.cons_append, gsum, gsum_app l m s]; omega
theorem gsum_pos : ∀ {l : List (List Nat × Nat)} {s : List UInt8}, (∀ x ∈ l, 0 < x.2) → (0 < gsum l s ↔ ∃ x ∈ l, keyT x.1 = s)
  | [], s, _ => by simp [gsum]
  | x :: l, s, h => by
    have i := gsum_pos (l := l) (s := s) (fun y hy => h y (by simp [hy]))
    have hx := h x (by simp)
    simp only [gsum, List.mem_cons]
    constructor
    · intro g
      by_cases e : keyT x.1 = s
      · exact ⟨x, Or.inl rfl, e⟩
      · rw [if_neg e] at g
        obtain ⟨y, hy, ey⟩ := i.1 (by omega)
        exact ⟨y, Or.inr hy, ey⟩
    · rintro ⟨y, rfl | hy, ey⟩
      · rw [if_pos ey]; omega
      · have := i.2 ⟨y, hy, ey⟩; omega
/-- Each key once: no more than the largest. -/
theorem gsum_once : ∀ {l : List (List Nat × Nat)} {s : List UInt8} {B : Nat}, (l.map (·.1)).Nodup → (∀ x ∈ l, x.2 ≤ B) → gsum l s ≤ B
  | [], _, _, _, _ => by simp [gsum]
  | x :: l, s, B, hn, h => by
    have hn' := List.nodup_cons.1 hn
    have i := gsum_once (l := l) (s := s) (B := B) hn'.2 (fun y hy => h y (by simp [hy]))
    simp only [gsum]
    by_cases e : keyT x.1 = s
    · have z : gsum l s = 0 := by
        by_cases c : gsum l s = 0
        · exact c
        · have key : ∀ (l : List (List Nat × Nat)), 0 < gsum l s → ∃ y ∈ l, keyT y.1 = s := by
            intro l
            induction l with
            | nil => intro h; simp [gsum] at h
            | cons y l ih =>
              intro h
              simp only [gsum] at h
              by_cases e : keyT y.1 = s
              · exact ⟨y, by simp, e⟩
              · rw [if_neg e] at h
                obtain ⟨z, hz, ez⟩ := ih (by omega)
                exact ⟨z, by simp [hz], ez⟩
          obtain ⟨y, hy, ey⟩ := key l (by omega)
          have : x.1 = y.1 := keyT_inj (e.trans ey.symm)
          exact absurd (List.mem_map.2 ⟨y, hy, this.symm⟩) hn'.1
      have := h x (by simp)
      rw [if_pos e]; omega
    · rw [if_neg e]; omega
/-- What a product with c has of each term. -/
def contrib (ts : List (List Nat × Nat)) (c : List Nat) : List (List Nat × Nat) := ts.flatMap (fun t => (prodT t.1 c).map (fun u => (u.1, t.2 * u.2)))
theorem contrib_take {ts : List (List Nat × Nat)} {c : List Nat} {i : Nat} (h : i < ts.length) :
    contrib (ts.take (i + 1)) c = contrib (ts.take i) c ++ (prodT (ts.getD i ([], 0)).1 c).map (fun u => (u.1, (ts.getD i ([], 0)).2 * u.2)) := by
  unfold contrib
  rw [List.take_succ_eq_append_getElem h, List.flatMap_append, getD_get h]; simp
theorem prodT_keys {a b : List Nat} : ((prodT a b).map (·.1)).Nodup := by
  unfold prodT
  refine List.Nodup.sublist (List.Sublist.map _ List.filter_sublist) ?_
  rw [List.map_map]
  have : ((fun x : List Nat × Nat => x.1) ∘ fun c => (c, num3 a b c)) = id := rfl
  rw [this, List.map_id]; exact allP_nodup _
theorem prodT_mem {a b : List Nat} {x : List Nat × Nat} (h : x ∈ prodT a b) : x.1 ∈ allP (a.sum + b.sum) ∧ x.2 = num3 a b x.1 ∧ 0 < x.2 := by
  unfold prodT at h
  have h' := List.mem_filter.1 h
  obtain ⟨c, hc, rfl⟩ := List.mem_map.1 h'.1
  exact ⟨hc, rfl, of_decide_eq_true h'.2⟩
theorem fac_mul (m : Nat) : ∀ n, fac m * fac n ≤ fac (m + n)
  | 0 => by simp [fac]
  | n + 1 => by
    have i := fac_mul m n
    have e1 : fac (n + 1) = (n + 1) * fac n := rfl
    have e2 : fac (m + (n + 1)) = (m + n + 1) * fac (m + n) := rfl
    rw [e1, e2, Nat.mul_left_comm]
    exact Nat.mul_le_mul (by omega) i
theorem gsum_contrib_le {ts : List (List Nat × Nat)} {c : List Nat} {m : Nat} (hm : m + c.sum ≤ 16) (h : ∀ t ∈ ts, t.2 ≤ fac m) (s : List UInt8) : gsum (contrib ts c) s ≤ ts.length * fac 16 := by
  induction ts with
  | nil => simp [contrib, gsum]
  | cons t ts ih =>
    have i := ih (fun x hx => h x (by simp [hx]))
    have e : contrib (t :: ts) c = (prodT t.1 c).map (fun u => (u.1, t.2 * u.2)) ++ contrib ts c := by simp [contrib]
    have o : gsum ((prodT t.1 c).map (fun u => (u.1, t.2 * u.2))) s ≤ fac 16 := by
      refine gsum_once ?_ (fun x hx => ?_)
      · rw [List.map_map]; exact prodT_keys
      · obtain ⟨u, hu, rfl⟩ := List.mem_map.1 hx
        have hu' := prodT_mem hu
        show t.2 * u.2 ≤ fac 16
        rw [hu'.2.1]
        exact Nat.le_trans (Nat.mul_le_mul (h t (by simp)) num3_le) (Nat.le_trans (fac_mul m c.sum) (fac_mono hm))
    rw [e, gsum_app, List.length_cons, Nat.succ_mul]
    omega
theorem gsum_part_le {t : List Nat × Nat} {c : List Nat} {m : Nat} (hm : m + c.sum ≤ 16) (h : t.2 ≤ fac m) (j : Nat) (s : List UInt8) : gsum (((prodT t.1 c).take j).map (fun u => (u.1, t.2 * u.2))) s ≤ fac 16 := by
  refine gsum_once ?_ (fun x hx => ?_)
  · rw [List.map_map]
    exact List.Nodup.sublist (List.Sublist.map _ (List.take_sublist _ _)) prodT_keys
  · obtain ⟨u, hu, rfl⟩ := List.mem_map.1 hx
    have hu' := prodT_mem (List.mem_of_mem_take hu)
    show t.2 * u.2 ≤ fac 16
    rw [hu'.2.1]
    exact Nat.le_trans (Nat.mul_le_mul h num3_le) (Nat.le_trans (fac_mul m c.sum) (fac_mono hm))

/-- The map has these contributions. -/
structure SumOf (D : SMap) (L : List (List Nat × Nat)) : Prop where
  tidy : Tidy D
  at_ : ∀ s : List UInt8, D.atKey (.string s) (.lit (.int .i64 0)) = .lit (.int .i64 (gsum L s))
  has_ : ∀ kl : Lit, has D kl = L.any (fun x => (Lit.string (keyT x.1)).sameKey kl)
theorem SumOf.nil : SumOf (.map []) [] := ⟨tidy_empty, fun _ => rfl, fun _ => rfl⟩
theorem SumOf.add {D : SMap} {L : List (List Nat × Nat)} (h : SumOf D L) (e : List Nat) (v : Nat) :
    SumOf (D.put (.string (keyT e)) (.lit (.int .i64 ((gsum L (keyT e) : Int) + v)))) (L ++ [(e, v)]) := by
  have hk : WideAt.IsKeyLit (.string (keyT e)) := trivial
  refine ⟨h.tidy.put hk _, fun s => ?_, fun kl => ?_⟩
  · by_cases es : s = keyT e
    · subst es
      rw [atKey_put_same h.tidy.isMap hk, gsum_app]
      simp [gsum]
    · rw [atKey_put_other (by intro e2; injection e2 with e3; exact es e3), h.at_, gsum_app]
      have : ¬ keyT e = s := fun x => es x.symm
      simp [gsum, this]
  · by_cases es : kl = .string (keyT e)
    · subst es
      rw [has_put_same h.tidy.isMap hk]
      simp [Lit.sameKey]
    · rw [has_put_other es, h.has_, List.any_append]
      have : (Lit.string (keyT e)).sameKey kl = false := sameKey_ne (fun x => es x.symm)
      simp [this]
end Go.Proofs.YtidnpmkdajicjaaDoor
