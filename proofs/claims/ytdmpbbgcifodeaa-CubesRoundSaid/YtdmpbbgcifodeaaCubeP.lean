/-
  Plain piles of cubes: the edge of each level, written and read.
-/
import Derived.Test.YtdmpbbgcifodeaaCubeM
namespace Go.Proofs.Ytdmpbbgcifodeaa

/-- How far row i goes at a level. -/
def lam (p : List (List Int)) (c lev i : Nat) : Nat := cnt (fun j => decide ((lev : Int) ≤ ent p i j)) c
theorem lam_le (p : List (List Int)) (c lev i : Nat) : lam p c lev i ≤ c := cnt_le _ _
theorem lam_iff {p : List (List Int)} {r c h lev i j : Nat} (hp : Pile p r c h) (hi : i < r) (hj : j < c) : j < lam p c lev i ↔ (lev : Int) ≤ ent p i j := by
  have := cnt_lt (P := fun j => decide ((lev : Int) ≤ ent p i j)) c (fun a b hab hb hpb => by
    have := hp.anti_side hi b a hab hb
    simp only [decide_eq_true_eq] at hpb ⊢
    omega) j hj
  simpa [lam] using this
theorem lam_mono {p : List (List Int)} {r c h lev i : Nat} (hp : Pile p r c h) (hi : i + 1 < r) : lam p c lev (i + 1) ≤ lam p c lev i :=
  cnt_mono c (fun j hj hq => by
    have := hp.down i j hi hj
    simp only [decide_eq_true_eq] at hq ⊢
    omega)

/-- What is still to be written: m rows to come, a columns behind. -/
def restW (L : Nat → Nat) (c : Nat) : Nat → Nat → List UInt8
  | 0, a => List.replicate (c - a) 82
  | m + 1, a => List.replicate (L m - a) 82 ++ 85 :: restW L c m (L m)
theorem restW_R {L : Nat → Nat} {c m a : Nat} (h : a < L m) : restW L c (m + 1) a = 82 :: restW L c (m + 1) (a + 1) := by
  simp only [restW]
  rw [show L m - a = (L m - (a + 1)) + 1 by omega, List.replicate_succ]; rfl
theorem restW_U {L : Nat → Nat} {c m a : Nat} (h : a = L m) : restW L c (m + 1) a = 85 :: restW L c m a := by
  subst h
  simp [restW]
theorem restW_end {L : Nat → Nat} {c a : Nat} (h : a < c) : restW L c 0 a = 82 :: restW L c 0 (a + 1) := by
  simp only [restW]
  rw [show c - a = (c - (a + 1)) + 1 by omega, List.replicate_succ]
/-- Rising as the rows come. -/
def Falls (L : Nat → Nat) (m : Nat) : Prop := ∀ i, i + 1 < m → L (i + 1) ≤ L i
theorem restW_count {L : Nat → Nat} {c : Nat} (hc : ∀ i, L i ≤ c) : ∀ (m a : Nat), Falls L m → (∀ k, m = k + 1 → a ≤ L k) → a ≤ c → (restW L c m a).count 85 = m ∧ (restW L c m a).count 82 = c - a ∧ (restW L c m a).length = m + (c - a)
  | 0, a, _, _, ha => by simp [restW, List.count_replicate]
  | m + 1, a, hf, hk, ha => by
    have h1 := hk m rfl
    have ih := restW_count hc m (L m) (fun i hi => hf i (by omega)) (fun k e => by subst e; exact hf k (by omega)) (hc m)
    have h2 := hc m
    simp only [restW, List.count_append, List.count_cons, List.length_append, List.length_cons, List.length_replicate, List.count_replicate]
    obtain ⟨i1, i2, i3⟩ := ih
    rw [i1, i2, i3]
    refine ⟨by simp, by simp; omega, by omega⟩

/-- The edge of a level. -/
def edge (p : List (List Int)) (r c lev : Nat) : List UInt8 := restW (lam p c lev) c r 0
theorem edge_count {p : List (List Int)} {r c h lev : Nat} (hp : Pile p r c h) : (edge p r c lev).count 85 = r ∧ (edge p r c lev).count 82 = c ∧ (edge p r c lev).length = r + c := by
  have := restW_count (L := lam p c lev) (c := c) (lam_le p c lev) r 0 (fun i hi => lam_mono hp hi) (fun k _ => Nat.zero_le _) (Nat.zero_le _)
  simpa [edge] using this

/-- What is filled when levels below lev are read, and of level lev the rows from m on. -/
def fillTo (p : List (List Int)) (r c lev m : Nat) : List (List Int) := gmat r c (fun i j => if m ≤ i then min ((lev : Int) + 1) (ent p i j) else min (lev : Int) (ent p i j))
theorem fillTo_start {p : List (List Int)} {r c h : Nat} (hp : Pile p r c h) : fillTo p r c 0 r = gmat r c (fun _ _ => 0) := by
  refine gm_ext (gmat_length _ _ _) (gmat_length _ _ _) gmat_row gmat_row (fun i j hi hj => ?_)
  unfold fillTo
  rw [gmat_ent hi hj, gmat_ent hi hj, if_neg (by omega)]
  have := hp.bd i j hi hj
  omega
theorem fillTo_next (p : List (List Int)) (r c lev : Nat) : fillTo p r c lev 0 = fillTo p r c (lev + 1) r := by
  refine gm_ext (gmat_length _ _ _) (gmat_length _ _ _) gmat_row gmat_row (fun i j hi hj => ?_)
  unfold fillTo
  rw [gmat_ent hi hj, gmat_ent hi hj, if_pos (by omega), if_neg (by omega)]
  have : ((lev + 1 : Nat) : Int) = (lev : Int) + 1 := by omega
  rw [this]
theorem fillTo_end {p : List (List Int)} {r c h : Nat} (hp : Pile p r c h) : fillTo p r c h r = p := by
  refine gm_ext (gmat_length _ _ _) hp.len gmat_row hp.row (fun i j hi hj => ?_)
  unfold fillTo
  rw [gmat_ent hi hj, if_neg (by omega)]
  have := hp.bd i j hi hj
  omega
/-- Row i at level lev, as far as column j. -/
def fillRow (p : List (List Int)) (c lev i k : Nat) : List Int := (List.range c).map (fun j => if j < k then min ((lev : Int) + 1) (ent p i j) else min (lev : Int) (ent p i j))
theorem fillRow_zero {p : List (List Int)} {r c lev m i : Nat} (hi : i < r) (hm : i < m) : (fillTo p r c lev m).getD i [] = fillRow p c lev i 0 := by
  unfold fillTo fillRow
  rw [gmat_getD hi]
  refine List.map_congr_left (fun j _ => ?_)
  rw [if_neg (by omega), if_neg (by omega)]
theorem fillRow_at {p : List (List Int)} {r c h lev i k : Nat} (hp : Pile p r c h) (hi : i < r) (hk : k < lam p c (lev + 1) i) : (fillRow p c lev i k)[k]? = some (lev : Int) ∧ (fillRow p c lev i k).set k ((lev : Int) + 1) = fillRow p c lev i (k + 1) := by
  have hkc : k < c := Nat.lt_of_lt_of_le hk (lam_le _ _ _ _)
  have hge := (lam_iff hp hi hkc).1 hk
  constructor
  · unfold fillRow; simp [hkc]; omega
  · apply List.ext_getElem (by simp [fillRow])
    intro j h1 h2
    rw [List.getElem_set]
    simp only [fillRow, List.getElem_map, List.getElem_range]
    by_cases e : k = j
    · subst e
      rw [if_pos rfl, if_pos (by omega)]; omega
    · rw [if_neg e]
      by_cases e2 : j < k
      · rw [if_pos e2, if_pos (by omega)]
      · rw [if_neg e2, if_neg (by omega)]
theorem fillRow_end {p : List (List Int)} {r c h lev i : Nat} (hp : Pile p r c h) (hi : i < r) : (fillTo p r c lev (i + 1)).set i (fillRow p c lev i (lam p c (lev + 1) i)) = fillTo p r c lev i := by
  apply List.ext_getElem (by simp [fillTo, gmat])
  intro a h1 h2
  have ha : a < r := by simpa [fillTo, gmat] using h2
  rw [List.getElem_set]
  by_cases e : i = a
  · subst e
    rw [if_pos rfl]
    simp only [fillTo, gmat, fillRow, List.getElem_map, List.getElem_range]
    refine List.map_congr_left (fun j hj => ?_)
    have hjc := List.mem_range.1 hj
    have := lam_iff (lev := lev + 1) hp hi hjc
    rw [if_pos (Nat.le_refl _)]
    by_cases c2 : j < lam p c (lev + 1) i
    · rw [if_pos c2]
    · rw [if_neg c2]
      have : ¬ ((lev + 1 : Nat) : Int) ≤ ent p i j := fun h => c2 (this.2 h)
      omega
  · rw [if_neg e]
    simp only [fillTo, gmat, List.getElem_map, List.getElem_range]
    refine List.map_congr_left (fun j _ => ?_)
    by_cases c2 : i + 1 ≤ a
    · rw [if_pos c2, if_pos (by omega)]
    · rw [if_neg c2, if_neg (by omega)]

end Go.Proofs.Ytdmpbbgcifodeaa
