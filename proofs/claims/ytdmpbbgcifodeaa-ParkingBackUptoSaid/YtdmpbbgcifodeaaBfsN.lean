/-
  Plain: the tree of a list with which all find a place, and the list of a tree.
-/
import Derived.Test.YtdmpbbgcifodeaaBfsM
import Derived.Test.YtdmpbbgcifodeaaParkM
namespace Go.Proofs.Ytdmpbbgcifodeaa

def Adj (l : List Edge) (v w : Int) : Prop := (v, w) ∈ l ∨ (w, v) ∈ l
def upV (n : Nat) : List Int := (List.range (n + 1)).map (fun i : Nat => (i : Int))
theorem mem_upV {n : Nat} {u : Int} : u ∈ upV n ↔ 0 ≤ u ∧ u ≤ n := by
  simp only [upV, List.mem_map, List.mem_range]
  constructor
  · rintro ⟨i, hi, rfl⟩; omega
  · intro h; exact ⟨u.toNat, by omega, by omega⟩
theorem upV_sorted (n : Nat) : (upV n).Pairwise (· < ·) := by
  unfold upV
  rw [List.pairwise_map]
  exact List.pairwise_lt_range.imp (fun h => by omega)
theorem upV_len (n : Nat) : (upV n).length = n + 1 := by simp [upV]
/-- The one from whom i + 1 was come to. -/
def parD (d : List Int) (i : Nat) : Int := (Qd d d.length).getD ((d.getD i 0).toNat - 1) 0
def edgesD (d : List Int) : List Edge := (List.range d.length).map (fun i : Nat => (parD d i, (i : Int) + 1))
theorem mem_edgesD {d : List Int} {x : Edge} : x ∈ edgesD d ↔ ∃ i : Nat, i < d.length ∧ x = (parD d i, (i : Int) + 1) := by
  simp only [edgesD, List.mem_map, List.mem_range]
  constructor
  · rintro ⟨i, h, rfl⟩; exact ⟨i, h, rfl⟩
  · rintro ⟨i, h, rfl⟩; exact ⟨i, h, rfl⟩
theorem getD_memI {l : List Int} {p : Nat} (h : p < l.length) : l.getD p 0 ∈ l := by
  rw [List.getD_eq_getElem?_getD, List.getElem?_eq_getElem h]; exact List.getElem_mem h
theorem getD_injI {l : List Int} (hn : l.Nodup) {p q : Nat} (hp : p < l.length) (hq : q < l.length) (e : l.getD p 0 = l.getD q 0) : p = q := by
  rw [List.getD_eq_getElem?_getD, List.getD_eq_getElem?_getD, List.getElem?_eq_getElem hp, List.getElem?_eq_getElem hq] at e
  exact (List.getElem_inj hn).1 e
theorem mem_getDI {l : List Int} {u : Int} (h : u ∈ l) : ∃ p, p < l.length ∧ l.getD p 0 = u := by
  obtain ⟨p, hp, e⟩ := List.getElem_of_mem h
  exact ⟨p, hp, by rw [List.getD_eq_getElem?_getD, List.getElem?_eq_getElem hp]; exact e⟩
theorem all_of_len {Q V : List Int} (hQ : Q.Nodup) (hs : Q ⊆ V) (hl : V.length ≤ Q.length) : V ⊆ Q := by
  intro x hx
  refine Classical.byContradiction fun hno => ?_
  have := (List.nodup_cons.2 ⟨hno, hQ⟩).length_le_of_subset (l₂ := V) (by
    intro y hy
    rcases List.mem_cons.1 hy with rfl | hy
    · exact hx
    · exact hs hy)
  simp at this
  omega
section
variable {d : List Int} (hc : Crit d)
include hc
theorem Crit.rng {i : Nat} (hi : i < d.length) : 1 ≤ d.getD i 0 ∧ d.getD i 0 ≤ (d.length : Int) := hc.1 _ (getD_memI hi)
theorem Crit.long {k : Nat} (hk : k ≤ d.length) : k + 1 ≤ (Qd d k).length := by
  rw [Qd_len (fun x hx => (hc.1 x hx).1)]
  have := hc.2 k hk
  unfold cntLe at this
  omega
theorem Crit.full : (Qd d d.length).length = d.length + 1 := by
  rw [Qd_len (fun x hx => (hc.1 x hx).1), List.countP_eq_length.2]
  intro x hx
  have := (hc.1 x hx).2
  simpa using this
theorem Crit.kid {i : Nat} (hi : i < d.length) : ∃ k : Nat, d.getD i 0 = ((k + 1 : Nat) : Int) ∧ k < d.length ∧ (i : Int) + 1 ∈ kids d (k + 1) ∧ parD d i = (Qd d d.length).getD k 0 := by
  have := hc.rng hi
  refine ⟨(d.getD i 0).toNat - 1, by omega, by omega, mem_kids.2 ⟨i, hi, by omega, rfl⟩, rfl⟩
theorem Crit.mem {u : Int} : u ∈ Qd d d.length ↔ 0 ≤ u ∧ u ≤ d.length := by
  rw [mem_Qd]
  constructor
  · rintro (h | ⟨j, _, _, h⟩)
    · omega
    · obtain ⟨i, h1, _, h3⟩ := mem_kids.1 h; omega
  · intro h
    by_cases e : u = 0
    · exact .inl e
    · right
      obtain ⟨i, hi⟩ : ∃ i : Nat, u = (i : Int) + 1 := ⟨(u - 1).toNat, by omega⟩
      obtain ⟨k, h1, h2, h3, _⟩ := hc.kid (i := i) (by omega)
      exact ⟨k + 1, by omega, by omega, hi ▸ h3⟩
/-- Whom one comes to from a place. -/
theorem Crit.from_ {t i : Nat} (ht : t ≤ d.length) (hi : i < d.length) :
    ((t : Int) < d.getD i 0 ∧ Adj (edgesD d) ((Qd d d.length).getD t 0) ((i : Int) + 1) ∧ (i : Int) + 1 ≠ (Qd d d.length).getD t 0) ↔ d.getD i 0 = ((t + 1 : Nat) : Int) := by
  have hfull := hc.full
  obtain ⟨k, k1, k2, k3, k4⟩ := hc.kid hi
  constructor
  · rintro ⟨h1, h2, h3⟩
    rcases h2 with h | h
    · obtain ⟨i', hi', e⟩ := mem_edgesD.1 h
      simp only [Prod.mk.injEq] at e
      have : i = i' := by omega
      subst this
      rw [k4] at e
      have := getD_injI (Qd_nodup d _) (by omega) (by omega) e.1
      omega
    · obtain ⟨i', hi', e⟩ := mem_edgesD.1 h
      simp only [Prod.mk.injEq] at e
      obtain ⟨k', m1, m2, m3, m4⟩ := hc.kid hi'
      have p1 := kid_pos m3 (by omega) e.2
      have p2 := hc.long (k := k') (by omega)
      have p3 := kid_pos k3 (m := d.length) (p := k') (by omega) (by rw [← m4]; exact e.1.symm)
      have p4 := hc.long (k := k) (by omega)
      omega
  · intro h
    have hk : k = t := by omega
    subst hk
    refine ⟨by omega, .inl (mem_edgesD.2 ⟨i, hi, by rw [k4]⟩), fun e => ?_⟩
    have p1 := kid_pos k3 (m := d.length) (p := k) (by omega) e.symm
    have p2 := hc.long (k := k) (by omega)
    omega
theorem Crit.tree : TreeOn (upV d.length) (edgesD d) := by
  have hfull := hc.full
  refine ⟨by rw [upV_len]; simp [edgesD], fun x hx => ?_, ?_⟩
  · obtain ⟨i, hi, rfl⟩ := mem_edgesD.1 hx
    obtain ⟨k, k1, k2, k3, k4⟩ := hc.kid hi
    refine ⟨mem_upV.2 ?_, mem_upV.2 (by simp only; omega)⟩
    simp only
    rw [k4]
    exact hc.mem.1 (getD_memI (by omega))
  · have key : ∀ p, p < (Qd d d.length).length → Conn (edgesD d) ((Qd d d.length).getD p 0) 0 := by
      intro p
      induction p using Nat.strongRecOn with
      | ind p ih =>
        intro hp
        have hm := hc.mem.1 (getD_memI hp)
        by_cases e : (Qd d d.length).getD p 0 = 0
        · rw [e]; exact .refl _
        · obtain ⟨i, hi⟩ : ∃ i : Nat, (Qd d d.length).getD p 0 = (i : Int) + 1 := ⟨((Qd d d.length).getD p 0 - 1).toNat, by omega⟩
          obtain ⟨k, k1, k2, k3, k4⟩ := hc.kid (i := i) (by omega)
          have p1 := kid_pos k3 (m := d.length) (p := p) (by omega) hi
          have p2 := hc.long (k := k) (by omega)
          have := ih k (by omega) (by omega)
          rw [hi]
          refine (Conn.one (.inr (mem_edgesD.2 ⟨i, by omega, rfl⟩))).trans ?_
          rw [k4]; exact this
    intro u hu v hv
    obtain ⟨p, hp, rfl⟩ := mem_getDI (hc.mem.2 (mem_upV.1 hu))
    obtain ⟨q, hq, rfl⟩ := mem_getDI (hc.mem.2 (mem_upV.1 hv))
    exact (key p hp).trans (key q hq).symm
theorem Crit.edges_nodup : ((edgesD d).map nrm).Nodup := by
  have hfull := hc.full
  unfold edgesD
  rw [List.map_map, List.nodup_iff_pairwise_ne, List.pairwise_map]
  refine List.Pairwise.imp_of_mem (R := (· < ·)) (fun {a b} ha hb hab e => ?_) List.pairwise_lt_range
  have ha := List.mem_range.1 ha
  have hb := List.mem_range.1 hb
  obtain ⟨k, k1, k2, k3, k4⟩ := hc.kid ha
  obtain ⟨k', m1, m2, m3, m4⟩ := hc.kid hb
  simp only [Function.comp, nrm, Prod.mk.injEq] at e
  have e1 : parD d a = (b : Int) + 1 ∧ parD d b = (a : Int) + 1 := by omega
  have p1 := kid_pos m3 (m := d.length) (p := k) (by omega) (by rw [← k4]; exact e1.1)
  have p2 := kid_pos k3 (m := d.length) (p := k') (by omega) (by rw [← m4]; exact e1.2)
  have p3 := hc.long (k := k) (by omega)
  have p4 := hc.long (k := k') (by omega)
  omega
end
theorem perm_of_sub : ∀ {a b : List Edge}, a.Nodup → a ⊆ b → a.length = b.length → a.Perm b
  | [], b, _, _, hl => by rw [List.eq_nil_of_length_eq_zero (l := b) (by simpa using hl.symm)]
  | x :: a, b, hn, hs, hl => by
    have hx := List.nodup_cons.1 hn
    have hxb : x ∈ b := hs (by simp)
    have : a.Perm (b.erase x) := perm_of_sub hx.2 (fun y hy => (List.mem_erase_of_ne (fun e => hx.1 (by rw [← e]; exact hy))).2 (hs (List.mem_cons_of_mem _ hy))) (by
      rw [List.length_erase_of_mem hxb]; simp at hl; omega)
    exact (this.cons x).trans (List.perm_cons_erase hxb).symm

/-! Of each tree a list. -/
open Classical in
noncomputable def rnd (l : List Edge) (t : Nat) (out : List Int) : List Int :=
  (List.range out.length).map (fun i => if out.getD i 0 = 0 ∧ Adj l ((Qd out t).getD t 0) ((i : Int) + 1) ∧ (i : Int) + 1 ≠ (Qd out t).getD t 0 then ((t + 1 : Nat) : Int) else out.getD i 0)
structure Wv (l : List Edge) (n t : Nat) (out : List Int) : Prop where
  len : out.length = n
  ran : ∀ i, i < n → 0 ≤ out.getD i 0 ∧ out.getD i 0 ≤ t
  adj : ∀ i, i < n → ∀ k : Nat, out.getD i 0 = ((k + 1 : Nat) : Int) → Adj l ((Qd out t).getD k 0) ((i : Int) + 1)
  lng : ∀ k, k < t → k + 1 ≤ (Qd out k).length
  cls : ∀ p, p < t → ∀ i, i < n → Adj l ((Qd out t).getD p 0) ((i : Int) + 1) → (i : Int) + 1 ≠ (Qd out t).getD p 0 → out.getD i 0 ≠ 0
theorem rep_getD {n i : Nat} : (List.replicate n (0 : Int)).getD i 0 = 0 := by
  rw [List.getD_eq_getElem?_getD, List.getElem?_replicate]; split <;> rfl
theorem Wv.start (l : List Edge) (n : Nat) : Wv l n 0 (List.replicate n 0) := by
  refine ⟨by simp, fun i _ => by rw [rep_getD]; omega, fun i _ k h => ?_, fun k h => by omega, fun p h => by omega⟩
  rw [rep_getD] at h; omega
open Classical in
theorem Wv.step {l : List Edge} {n t : Nat} {out : List Int} (h : Wv l n t out) (hlen : t + 1 ≤ (Qd out t).length) : Wv l n (t + 1) (rnd l t out) := by
  have hl : (rnd l t out).length = n := by simp [rnd, h.len]
  have hg : ∀ i, i < n → (out.getD i 0 = 0 ∧ Adj l ((Qd out t).getD t 0) ((i : Int) + 1) ∧ (i : Int) + 1 ≠ (Qd out t).getD t 0 ∧ (rnd l t out).getD i 0 = ((t + 1 : Nat) : Int)) ∨
      (¬ (out.getD i 0 = 0 ∧ Adj l ((Qd out t).getD t 0) ((i : Int) + 1) ∧ (i : Int) + 1 ≠ (Qd out t).getD t 0) ∧ (rnd l t out).getD i 0 = out.getD i 0) := fun i hi => by
    have e : (rnd l t out).getD i 0 = if out.getD i 0 = 0 ∧ Adj l ((Qd out t).getD t 0) ((i : Int) + 1) ∧ (i : Int) + 1 ≠ (Qd out t).getD t 0 then ((t + 1 : Nat) : Int) else out.getD i 0 := by
      unfold rnd
      rw [List.getD_eq_getElem?_getD (l := List.map _ _), List.getElem?_map, List.getElem?_range (by rw [h.len]; exact hi)]
      rfl
    by_cases c : out.getD i 0 = 0 ∧ Adj l ((Qd out t).getD t 0) ((i : Int) + 1) ∧ (i : Int) + 1 ≠ (Qd out t).getD t 0
    · rw [if_pos c] at e; exact .inl ⟨c.1, c.2.1, c.2.2, e⟩
    · rw [if_neg c] at e; exact .inr ⟨c, e⟩
  have hk : ∀ k, 1 ≤ k → k ≤ t → kids (rnd l t out) k = kids out k := fun k k1 k2 => by
    unfold kids
    rw [hl, h.len]
    congr 1
    refine List.filter_congr (fun i hi => ?_)
    have hi := List.mem_range.1 hi
    rcases hg i hi with ⟨a, _, _, b⟩ | ⟨_, b⟩
    · rw [a, b, decide_eq_false (by omega), decide_eq_false (by omega)]
    · rw [b]
  have hQ : ∀ k, k ≤ t → Qd (rnd l t out) k = Qd out k := fun k => by
    induction k with
    | zero => intro _; rfl
    | succ k ih => intro hkt; simp only [Qd]; rw [ih (by omega), hk (k + 1) (by omega) hkt]
  have hlen2 : t + 1 ≤ (Qd (rnd l t out) t).length := by rw [hQ t (Nat.le_refl _)]; exact hlen
  have hget : ∀ p, p < (Qd out t).length → (Qd (rnd l t out) (t + 1)).getD p 0 = (Qd out t).getD p 0 := fun p hp => by
    rw [Qd_get (rnd l t out) (k := t) (by omega) (by rw [hQ t (Nat.le_refl _)]; exact hp), hQ t (Nat.le_refl _)]
  refine ⟨hl, fun i hi => ?_, fun i hi k e => ?_, fun k hkt => ?_, fun p hp i hi ha hne => ?_⟩
  · have := h.ran i hi
    rcases hg i hi with ⟨_, _, _, b⟩ | ⟨_, b⟩ <;> rw [b] <;> omega
  · rcases hg i hi with ⟨_, a, _, b⟩ | ⟨_, b⟩
    · rw [b] at e
      have : k = t := by omega
      subst this
      rw [hget k (by omega)]; exact a
    · rw [b] at e
      have := h.ran i hi
      rw [hget k (by omega)]; exact h.adj i hi k e
  · by_cases e : k = t
    · subst e; exact hlen2
    · rw [hQ k (by omega)]; exact h.lng k (by omega)
  · rw [hget p (by omega)] at ha hne
    rcases hg i hi with ⟨_, _, _, b⟩ | ⟨a, b⟩
    · rw [b]; omega
    · rw [b]
      by_cases e : p = t
      · subst e
        intro h0
        exact a ⟨h0, ha, hne⟩
      · exact h.cls p (by omega) i hi ha hne
theorem Wv.sub {l : List Edge} {n t : Nat} {out : List Int} (h : Wv l n t out) : Qd out t ⊆ upV n := by
  intro u hu
  rcases mem_Qd.1 hu with h' | ⟨j, _, _, hj⟩
  · exact mem_upV.2 (by omega)
  · obtain ⟨i, h1, _, h3⟩ := mem_kids.1 hj
    rw [h.len] at h1
    exact mem_upV.2 (by omega)
/-- One does not stop before all is come to. -/
theorem Wv.more {l : List Edge} {n t : Nat} {out : List Int} (h : Wv l n t out) (ht : TreeOn (upV n) l) (htn : t ≤ n) : t + 1 ≤ (Qd out t).length := by
  refine Nat.le_of_not_lt fun hlt => ?_
  have hmem : ∀ u, Conn l 0 u → u ∈ Qd out t := by
    intro u hu
    induction hu with
    | refl => exact mem_Qd.2 (.inl rfl)
    | @step v w hvw e ih =>
      obtain ⟨p, hp, hpv⟩ := mem_getDI ih
      have hw : w ∈ upV n := by
        rcases e with e | e
        · exact (ht.inn _ e).2
        · exact (ht.inn _ e).1
      have hw := mem_upV.1 hw
      by_cases e0 : w = 0
      · exact mem_Qd.2 (.inl e0)
      · by_cases e1 : w = v
        · rw [e1]; exact ih
        · obtain ⟨i, hi⟩ : ∃ i : Nat, w = (i : Int) + 1 := ⟨(w - 1).toNat, by omega⟩
          subst hi
          have hn0 := h.cls p (by omega) i (by omega) (by rw [hpv]; exact e) (by rw [hpv]; exact e1)
          have hr := h.ran i (by omega)
          refine mem_Qd.2 (.inr ⟨(out.getD i 0).toNat, by omega, by omega, mem_kids.2 ⟨i, by rw [h.len]; omega, by omega, rfl⟩⟩)
  have hV : upV n ⊆ Qd out t := fun u hu => hmem u (ht.conn 0 (mem_upV.2 (by omega)) u hu)
  have := (sorted_nodup (upV_sorted n)).length_le_of_subset hV
  rw [upV_len] at this
  omega
theorem list_of_tree {l : List Edge} {n : Nat} (ht : TreeOn (upV n) l) : ∃ d, d.length = n ∧ Crit d ∧ ((edgesD d).map nrm).Perm (l.map nrm) := by
  have hall : ∀ t, t ≤ n → ∃ out, Wv l n t out := by
    intro t
    induction t with
    | zero => intro _; exact ⟨_, Wv.start l n⟩
    | succ t ih =>
      intro h
      obtain ⟨out, ho⟩ := ih (by omega)
      exact ⟨_, ho.step (ho.more ht (by omega))⟩
  obtain ⟨d, hd⟩ := hall n (Nat.le_refl _)
  have hlong := hd.more ht (Nat.le_refl _)
  have hV := all_of_len (Qd_nodup d n) hd.sub (by rw [upV_len]; exact hlong)
  have hpos : ∀ i, i < n → 1 ≤ d.getD i 0 := fun i hi => by
    have := hV (mem_upV (u := (i : Int) + 1).2 (by omega))
    rcases mem_Qd.1 this with h | ⟨j, j1, _, hj⟩
    · omega
    · obtain ⟨i', h1, h2, h3⟩ := mem_kids.1 hj
      have : i = i' := by omega
      subst this
      omega
  have hlen := hd.len
  have hent : ∀ x ∈ d, 1 ≤ x ∧ x ≤ (d.length : Int) := fun x hx => by
    obtain ⟨i, hi, rfl⟩ := mem_getDI hx
    rw [hlen] at hi ⊢
    exact ⟨hpos i hi, (hd.ran i hi).2⟩
  have hc : Crit d := by
    refine ⟨hent, fun j hj => ?_⟩
    have h1 := Qd_len (fun x hx => (hent x hx).1) j
    unfold cntLe
    rw [hlen] at hj
    by_cases e : j = n
    · subst e; omega
    · have := hd.lng j (by omega); omega
  refine ⟨d, hlen, hc, perm_of_sub hc.edges_nodup (fun x hx => ?_) ?_⟩
  · obtain ⟨y, hy, rfl⟩ := List.mem_map.1 hx
    obtain ⟨i, hi, rfl⟩ := mem_edgesD.1 hy
    obtain ⟨k, k1, k2, k3, k4⟩ := hc.kid hi
    have ha := hd.adj i (by omega) k k1
    rw [k4, hlen]
    rcases ha with h | h
    · exact List.mem_map.2 ⟨_, h, rfl⟩
    · exact List.mem_map.2 ⟨_, h, nrm_swap _ _⟩
  · have := ht.len
    rw [upV_len] at this
    simp [edgesD, hlen]; omega
end Go.Proofs.Ytdmpbbgcifodeaa
