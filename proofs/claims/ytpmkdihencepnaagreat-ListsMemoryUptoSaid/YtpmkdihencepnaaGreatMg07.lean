/-
  perms.Measure: what it answers.
-/
import Derived.Test.YtpmkdihencepnaaGreatMg04
import Derived.Test.YtpmkdihencepnaaGreatMg05
import Derived.Test.YtpmkdihencepnaaGreatMg06
namespace Go.Proofs.YtpmkdihencepnaaGreat
open Go.RowKit

theorem codeOf_cons (x : Int) (l : List Int) : codeOf (x :: l) = (l.countP (fun m => decide (m < x)) : Int) :: codeOf l := by
  unfold codeOf
  rw [List.length_cons, List.range_succ_eq_map, List.map_cons, List.map_map]
  congr 1

theorem codeOf_sum : ∀ l : List Int, (codeOf l).sum = (inv l : Int)
  | [] => rfl
  | x :: l => by
    rw [codeOf_cons, List.sum_cons, codeOf_sum l, show x :: l = [x] ++ l from rfl, inv_append, inv_one, cross_one]
    push_cast
    omega

theorem codeAt_le (p : List Int) (i : Nat) : codeAt p i ≤ p.length - (i + 1) := by
  have := List.countP_le_length (p := fun m => decide (m < p.getD i 0)) (l := p.drop (i + 1))
  rw [List.length_drop] at this
  unfold codeAt; omega

theorem codeOf_mem {p : List Int} {x : Int} (h : x ∈ codeOf p) : 0 ≤ x ∧ x ≤ p.length := by
  obtain ⟨i, _, rfl⟩ := List.mem_map.1 h
  have := codeAt_le p i
  omega

theorem results_tmp4 {fn : Func} {t u v x : Tmp} (h : fn.results = #[.tmp t, .tmp u, .tmp v, .tmp x]) (tmps : Array Value) (P : Program) (w : World) :
    (results fn tmps).run P w = .ok (.tuple #[tmps.getD t undef, tmps.getD u undef, tmps.getD v undef, tmps.getD x undef]) w := by simp [results, h]

set_option maxHeartbeats 400000 in
theorem measure_err (A : Option Addr) (cap : Nat) (xs : List Int) (w : World) (hcl : xs.length ≤ 9223372036854775807) (hp : permChk xs ≠ 0) (h : Sl w w.heap.size A (ints xs)) :
    Calls Tryz.prog 24 #[.slice A xs.length cap] w fun e w' => e = .returned (.tuple #[.int .i64 0, .int .i64 0, .slice none 0 0, .int .i64 (permChk xs)]) ∧ Below w.heap.size w w' := by
  obtain ⟨c, hc⟩ : ∃ c, c = permChk xs := ⟨_, rfl⟩
  have hd : (c != 0) = true := by rw [hc]; simpa using hp
  have HC := Lib.hid hc
  go_enter Tryz.func24, Tryz.ntmps24
  go_wp2_with fail
  refine (code_err _ _ _ _ hcl hp h).mono ?_
  rintro e w1 ⟨rfl, hb1⟩
  rw [← HC.out]
  clear hc hp
  go_wp2
  refine bodyPost_ret (results_tmp4 rfl _ _ _) rfl ?_
  exact ⟨by rw [← HC.out]; rfl, hb1⟩

/-- The places of descents below i. -/
def desT (p : List Int) (i : Nat) : List Int := ((List.range i).filter (fun j => decide (j + 1 < p.length ∧ p.getD (j + 1) 0 < p.getD j 0))).map (fun j : Nat => (j : Int) + 1)
theorem desT_yes {p : List Int} {i : Nat} (h : i + 1 < p.length) (hd : p.getD (i + 1) 0 < p.getD i 0) : desT p (i + 1) = desT p i ++ [(i : Int) + 1] := by
  unfold desT
  rw [List.range_succ, List.filter_append, List.map_append, List.filter_cons_of_pos (by exact decide_eq_true ⟨h, hd⟩)]
  simp
theorem desT_no {p : List Int} {i : Nat} (h : ¬ (i + 1 < p.length ∧ p.getD (i + 1) 0 < p.getD i 0)) : desT p (i + 1) = desT p i := by
  unfold desT
  rw [List.range_succ, List.filter_append, List.map_append]
  rw [List.filter_cons_of_neg (by simp only [decide_eq_true_eq]; exact h)]
  simp
theorem desT_len (p : List Int) (i : Nat) : (desT p i).length ≤ i := by
  unfold desT
  rw [List.length_map]
  have := List.length_filter_le (fun j => decide (j + 1 < p.length ∧ p.getD (j + 1) 0 < p.getD j 0)) (List.range i)
  simpa using this
def MeasSays (p : List Int) (B : Nat) (e : Ending) (w : World) : Prop := ∃ mj A c, e = .returned (.tuple #[.int .i64 (inv p), mj, .slice A (desT p p.length).length c, .int .i64 0]) ∧ w.ownsRow B 3 1 (.slice A (desT p p.length).length c) (desT p p.length).length (ints (desT p p.length))

set_option maxHeartbeats 1000000 in
theorem measure_ok (A : Option Addr) (cap : Nat) (p : List Int) (w : World) (hcap : p.length ≤ cap) (hn : p.length ≤ 40) (hp : permChk p = 0) (h : Sl w w.heap.size A (ints p)) :
    Calls Tryz.prog 24 #[.slice A p.length cap] w fun e w' => MeasSays p w.heap.size e w' ∧ Below w.heap.size w w' := by
  go_enter Tryz.func24, Tryz.ntmps24
  go_wp2_with fail
  refine (code_ok _ _ _ _ hcap hn hp h).mono ?_
  rintro e w1 ⟨A1, c1, rfl, hs1', hc1, hb1⟩
  have hs1 := Sl.of_own hs1'
  clear hs1'
  have h1 := (h.below hb1)
  have hsum := codeOf_sum p
  have hmem : ∀ k, 0 ≤ sumTo (codeOf p) k ∧ sumTo (codeOf p) k ≤ 1600 := fun k => by
    have := sumTo_bound (xs := codeOf p) (m := p.length) (by omega) (fun x hx => codeOf_mem hx) k
    rw [codeOf_length] at this
    have : (p.length : Int) * p.length ≤ 40 * 40 := Int.mul_le_mul (by omega) (by omega) (by omega) (by omega)
    omega
  obtain ⟨cs, hcs⟩ : ∃ c, c = codeOf p := ⟨_, rfl⟩
  have hcl : cs.length = p.length := by rw [hcs, codeOf_length]
  rw [← hcs] at hs1 hc1 hsum hmem ⊢
  have HM := Lib.hid hmem
  have HSU := Lib.hid hsum
  have HCL := Lib.hid hcl
  have HCS := Lib.hid hcs
  clear hmem hsum hcl hcs hp
  go_wp2_with fail
  go_loopw [2, 3, 4, 20] (fun nv mv ov iv wr => ∃ (i : Nat) (ds : List Int) (mj : Int), i ≤ cs.length ∧ iv = .int .i64 i ∧ nv = .int .i64 (sumTo cs i) ∧ mv = .int .i64 mj ∧ 0 ≤ mj ∧ mj ≤ 40 * i ∧ ds = desT p i ∧
      wr.ownsRow w1.heap.size 3 1 ov ds.length (ints ds) ∧ Below w1.heap.size w1 wr) (fun _ _ _ iv _ => cs.length - (intOf iv).toNat)
  case atStart => exact ⟨0, [], 0, by omega, rfl, rfl, rfl, by omega, by omega, rfl, World.ownsRow_nil w1 w1.heap.size 3 1, Below.refl _ _⟩
  case round =>
    obtain ⟨i, ds, mj, hi, rfl, rfl, rfl, hmj, hmj', hds, hown, hbl⟩ := hrel
    have HDS := Lib.hid hds
    have hdl : ds.length ≤ i := by rw [hds]; exact desT_len p i
    clear hds
    have HO := Lib.hid hown
    clear hown
    have hL := HCL.out
    by_cases hlt : i < cs.length
    · obtain ⟨b, o, rfl, hb⟩ := h1.addr (by omega)
      obtain ⟨b', o', rfl, hb'⟩ := hs1.addr (by omega)
      have hi40 : i < 40 := by omega
      obtain ⟨c, hc⟩ : ∃ x, x = cs.getD i 0 := ⟨_, rfl⟩
      obtain ⟨s, hs⟩ : ∃ x, x = sumTo cs i := ⟨_, rfl⟩
      have HS := Lib.hid hs
      have HC := Lib.hid hc
      have HSN : Hid (sumTo cs (i + 1) = s + c) := by show _ = _; rw [sumTo_succ hlt, ← getD_get hlt, hs, hc]
      have hcn : wr.cell? ⟨b', o' + i, none⟩ = some (.int .i64 c) := by rw [hc]; exact getD_cell (hs1.below hbl) hlt
      have hr1 : 0 ≤ s ∧ s ≤ 1600 := by rw [hs]; exact HM.out i
      have hr2 : 0 ≤ s + c ∧ s + c ≤ 1600 := by rw [← HSN.out]; exact HM.out (i + 1)
      rw [← hs]
      clear hc hs hL
      by_cases hlast : i + 1 < p.length
      · have hcx := getD_cell (h1.below (hbl.mono hb1.size)) (show i < p.length by omega)
        have hcy := getD_cell (h1.below (hbl.mono hb1.size)) hlast
        obtain ⟨x, hx⟩ : ∃ x, x = p.getD i 0 := ⟨_, rfl⟩
        obtain ⟨y, hy⟩ : ∃ x, x = p.getD (i + 1) 0 := ⟨_, rfl⟩
        rw [← hx] at hcx
        rw [← hy] at hcy
        have HXX := Lib.hid hx
        have HYY := Lib.hid hy
        have HLA := Lib.hid hlast
        have hd0 : decide (((i : Int) + 1) < (p.length : Int)) = true := by simp; omega
        clear hx hy
        by_cases hxy : y < x
        · have hd1 : decide (y < x) = true := by simpa using hxy
          go_wp2
          go_quiet (fail)
          go_wp2_with (at_builtin; refine wpList_app1 rfl (.tmp 49) (.tmp 52) rfl rfl ((i : Int) + 1) (own_drewN HO.out _) rfl (by omega) hbl.size (fun g2 c2 w2 hl2 hb2 => ?_))
          go_roundw
          case rel =>
            refine ⟨i + 1, ds ++ [(i : Int) + 1], mj + (i + 1), by omega, by go_num, by rw [HSN.out], rfl, by omega, by omega, by rw [desT_yes HLA.out (by rw [← HXX.out, ← HYY.out]; exact hxy), HDS.out], by simpa using hl2, (below_drewN hbl _).trans hb2⟩
          case measure => simp [intOf]; omega
        · have hd1 : decide (y < x) = false := by simpa using hxy
          go_wp2
          go_quiet (fail)
          go_wp2
          go_roundw
          case rel =>
            refine ⟨i + 1, ds, mj, by omega, by go_num, by rw [HSN.out], rfl, hmj, by omega, by rw [desT_no (fun h => by have := h.2; rw [← HXX.out, ← HYY.out] at this; omega), HDS.out], HO.out, below_drewN hbl _⟩
          case measure => simp [intOf]; omega
      · have hd0 : decide (((i : Int) + 1) < (p.length : Int)) = false := by simp; omega
        go_wp2
        go_quiet (fail)
        go_wp2
        go_roundw
        case rel =>
          refine ⟨i + 1, ds, mj, by omega, by go_num, by rw [HSN.out], rfl, hmj, by omega, by rw [desT_no (fun h => hlast h.1), HDS.out], HO.out, below_drewN hbl _⟩
        case measure => simp [intOf]; omega
    · obtain rfl : i = cs.length := by omega
      obtain ⟨A2, c2, rfl, _, ho2⟩ := own_sliceT (HO.out.mono hb1.size)
      have hfin : Hid (ds = desT p p.length) := Lib.hid (by rw [HDS.out, HCL.out])
      have HO2 := Lib.hid ho2
      clear ho2
      go_wp2
      refine bodyPost_ret (results_tmp4 rfl _ _ _) rfl ?_
      exact ⟨⟨_, A2, c2, by rw [← HSU.out, ← hfin.out]; simp only [sumTo, ← HCL.out, List.take_length]; rfl, by rw [← hfin.out]; exact HO2.out⟩, hb1.trans (hbl.mono hb1.size)⟩

end Go.Proofs.YtpmkdihencepnaaGreat

/-
  PermsBruhat: the law, walked.
-/
namespace Go.Proofs.YtpmkdihencepnaaGreat
open Go.RowKit

theorem isPerm_upTo (n : Nat) : IsPerm (upTo n) := ⟨nodup_upTo n, fun x hx => by have := mem_upTo.1 hx; rw [length_upTo]; exact this⟩

theorem IsInv.perm {p x : List Int} (hp : IsPerm p) (h : IsInv p x) : IsPerm x := by
  have h1 : x.Perm (p.map (at1 x)) := by
    conv => lhs; rw [← at1_list (x := x), h.1]
    exact (hp.perm_upTo.symm).map _
  have h2 : p.map (at1 x) = upTo p.length := by
    apply List.ext_getElem (by simp [upTo])
    intro i h1 h2
    simp only [upTo, List.getElem_map, List.getElem_range]
    have := h.2 i (by simpa using h1)
    rwa [getD_get (by simpa using h1)] at this
  rw [h2] at h1
  exact IsPerm.of_perm h1 (isPerm_upTo _)

end Go.Proofs.YtpmkdihencepnaaGreat

/-
  Plain lists: inverses, products, codes, words of permutations.
-/
namespace Go.Proofs.YtpmkdihencepnaaGreat

/-! Inverses. -/

theorem IsInv.uniq {p x y : List Int} (hp : IsPerm p) (hx : IsInv p x) (hy : IsInv p y) : x = y := by
  rw [← at1_list (x := x), ← at1_list (x := y), hx.1, hy.1]
  apply List.map_congr_left
  intro v hv
  have h := mem_upTo.1 hv
  obtain ⟨k, hk, e⟩ := List.getElem_of_mem (hp.mem h.1 h.2)
  have h1 := hx.2 k hk
  have h2 := hy.2 k hk
  rw [getD_get hk, e] at h1 h2
  rw [h1, h2]

/-! Products. -/

def tms (a b : List Int) : List Int := b.map (at1 a)
theorem tms_length (a b : List Int) : (tms a b).length = b.length := by simp [tms]
theorem at1_map {f : Int → Int} {q : List Int} {m : Int} (h1 : 1 ≤ m) (h2 : m ≤ q.length) : at1 (q.map f) m = f (at1 q m) := by
  unfold at1
  rw [getD_get (by simp; omega), getD_get (by omega), List.getElem_map]
theorem tms_getD {a b : List Int} {k : Nat} (h : k < b.length) : (tms a b).getD k 0 = at1 a (b.getD k 0) := by
  rw [getD_get (by simpa [tms] using h), getD_get h]; simp [tms]
theorem IsInv.tms {p q a s : List Int} (hp : IsPerm p) (hq : IsPerm q) (hl : p.length = q.length) (ha : IsInv p a) (hs : IsInv q s) : IsInv (tms p q) (tms s a) := by
  refine ⟨by rw [tms_length, tms_length, ha.1, hl], fun k hk => ?_⟩
  rw [tms_length] at hk
  have hr := hq.getD_range hk
  have h1 := hp.at1_mem hr.1 (by omega)
  rw [tms_getD hk]
  have e1 : at1 (Go.Proofs.YtpmkdihencepnaaGreat.tms s a) (at1 p (q.getD k 0)) = at1 s (at1 a (at1 p (q.getD k 0))) := at1_map h1.1 (by rw [ha.1]; exact h1.2)
  rw [e1]
  have e2 : at1 a (at1 p (q.getD k 0)) = q.getD k 0 := by
    have := ha.2 ((q.getD k 0 - 1).toNat) (by omega)
    unfold at1 at this ⊢
    rw [this]; omega
  rw [e2, hs.2 k hk]

end Go.Proofs.YtpmkdihencepnaaGreat

/-
  Plain lists: a permutation from its code; its word of neighbours.
-/
namespace Go.Proofs.YtpmkdihencepnaaGreat

/-! From the code. -/

/-- A list of codes: is each below what is left? -/
def IsCode (c : List Int) : Prop := ∀ i, i < c.length → 0 ≤ c.getD i 0 ∧ c.getD i 0 ≤ (c.length : Int) - 1 - i
instance (c : List Int) : Decidable (IsCode c) := by unfold IsCode; infer_instance

theorem codeOf_snoc (l r : List Int) : codeOf (l ++ r) = (List.range l.length).map (fun i => ((l.drop (i + 1)).countP (fun m => decide (m < l.getD i 0)) + r.countP (fun m => decide (m < l.getD i 0)) : Nat) |> fun n : Nat => (n : Int)) ++ codeOf r := by
  induction l with
  | nil => simp
  | cons x l ih =>
    rw [List.cons_append, codeOf_cons, ih, List.length_cons, List.range_succ_eq_map, List.map_cons, List.map_map, List.countP_append]
    simp only [List.cons_append]
    congr 1

/-- The state of FromCode's loop: what is out, what is left. -/
def FromSt (n : Nat) (c : List Int) (out lf : List Int) : Prop :=
  (out ++ lf).Perm (upTo n) ∧ lf.Pairwise (· < ·) ∧ (∀ r, r.Perm lf → (codeOf (out ++ r)).take out.length = c.take out.length)

theorem fromSt_zero (c : List Int) : FromSt c.length c [] (upTo c.length) := by
  refine ⟨List.Perm.refl _, ?_, fun r hr => by simp⟩
  unfold upTo
  rw [List.pairwise_map]
  exact List.pairwise_lt_range.imp (fun {a b} h => by omega)

theorem asc_count {lf : List Int} (h : lf.Pairwise (· < ·)) {k : Nat} (hk : k < lf.length) : (lf.take k ++ lf.drop (k + 1)).countP (fun m => decide (m < lf[k])) = k := by
  rw [List.countP_append]
  have h1 : (lf.take k).countP (fun m => decide (m < lf[k])) = (lf.take k).length := by
    rw [List.countP_eq_length]
    intro a ha
    obtain ⟨j, hj, rfl⟩ := List.getElem_of_mem ha
    rw [List.length_take] at hj
    rw [List.getElem_take]
    exact decide_eq_true (List.pairwise_iff_getElem.1 h j k (by omega) hk (by omega))
  have h2 : (lf.drop (k + 1)).countP (fun m => decide (m < lf[k])) = 0 := by
    rw [List.countP_eq_zero]
    intro a ha
    obtain ⟨j, hj, rfl⟩ := List.getElem_of_mem ha
    rw [List.length_drop] at hj
    rw [List.getElem_drop]
    have := List.pairwise_iff_getElem.1 h k (k + 1 + j) hk (by omega) (by omega)
    simp; omega
  rw [h1, h2, List.length_take]; omega

theorem take_drop_perm {lf : List Int} {k : Nat} (hk : k < lf.length) : (lf[k] :: (lf.take k ++ lf.drop (k + 1))).Perm lf := by
  conv => rhs; rw [← List.take_append_drop k lf, List.drop_eq_getElem_cons hk]
  exact List.perm_middle.symm

theorem FromSt.step {n : Nat} {c out lf : List Int} (h : FromSt n c out lf) (hn : c.length = n) (ho : out.length < n) {k : Nat} (hk : k < lf.length) (hc : c.getD out.length 0 = k) :
    FromSt n c (out ++ [lf.getD k 0]) (lf.take k ++ lf.drop (k + 1)) := by
  obtain ⟨h1, h2, h3⟩ := h
  have hp := take_drop_perm hk
  rw [getD_get hk]
  refine ⟨?_, ?_, fun r hr => ?_⟩
  · rw [List.append_assoc]
    exact (hp.append_left out).trans h1
  · have hs : (lf.take k ++ lf.drop (k + 1)).Sublist lf := by
      conv => rhs; rw [← List.take_append_drop k lf]
      exact (List.Sublist.refl _).append (List.drop_sublist_drop_left lf (by omega))
    exact h2.sublist hs
  · rw [List.append_assoc, List.length_append, List.length_singleton]
    have h4 := h3 ([lf[k]] ++ r) ((hr.cons lf[k]).trans hp)
    have hlen : out.length < (codeOf (out ++ ([lf[k]] ++ r))).length := by rw [codeOf_length]; simp
    rw [take_snoc hlen, take_snoc (show out.length < c.length by omega), h4]
    congr 2
    simp only [codeOf_snoc out, List.getElem_append]
    rw [_root_.dif_neg (by simp)]
    simp only [List.length_map, List.length_range, Nat.sub_self]
    rw [← getD_get (d := 0), ← getD_get (d := 0) (xs := c), hc]
    simp only [List.singleton_append, codeOf_cons]
    rw [List.getD_cons_zero, hr.countP_eq, asc_count h2 hk]

theorem FromSt.done {n : Nat} {c out lf : List Int} (h : FromSt n c out lf) (hn : c.length = n) (ho : out.length = n) : IsPerm out ∧ codeOf out = c := by
  obtain ⟨h1, h2, h3⟩ := h
  have hl := h1.length_eq
  rw [List.length_append, length_upTo] at hl
  obtain rfl : lf = [] := List.eq_nil_of_length_eq_zero (by omega)
  have h4 := h3 [] (List.Perm.refl _)
  rw [List.append_nil] at h1 h4
  rw [List.take_of_length_le (by rw [codeOf_length]; exact Nat.le_refl _), List.take_of_length_le (by omega)] at h4
  exact ⟨IsPerm.of_perm h1 (isPerm_upTo n), h4⟩

theorem FromSt.len {n : Nat} {c out lf : List Int} (h : FromSt n c out lf) : out.length + lf.length = n := by
  have := h.1.length_eq
  rwa [List.length_append, length_upTo] at this

end Go.Proofs.YtpmkdihencepnaaGreat

/-
  Plain lists: the word of neighbours by which a permutation is put in order.
-/
namespace Go.Proofs.YtpmkdihencepnaaGreat

/-- Numbers i and i + 1 (from 0) change places. -/
def swp (q : List Int) (i : Nat) : List Int := (q.set i (q.getD (i + 1) 0)).set (i + 1) (q.getD i 0)

theorem swp_length (q : List Int) (i : Nat) : (swp q i).length = q.length := by simp [swp]

theorem swp_mid (l r : List Int) (a b : Int) : swp (l ++ a :: b :: r) l.length = l ++ b :: a :: r := by
  unfold swp
  have h1 : (l ++ a :: b :: r).getD (l.length + 1) 0 = b := by
    rw [getD_get (by simp), List.getElem_append_right (by omega)]; simp
  have h2 : (l ++ a :: b :: r).getD l.length 0 = a := by
    rw [getD_get (by simp), List.getElem_append_right (by omega)]; simp
  rw [h1, h2, List.set_append_right _ _ (Nat.le_refl _), Nat.sub_self, List.set_append_right _ _ (by omega)]
  simp

theorem split_mid {q : List Int} {i : Nat} (h : i + 1 < q.length) : q = q.take i ++ q.getD i 0 :: q.getD (i + 1) 0 :: q.drop (i + 2) := by
  conv => lhs; rw [← List.take_append_drop i q, List.drop_eq_getElem_cons (show i < q.length by omega), List.drop_eq_getElem_cons h]
  rw [getD_get (by omega), getD_get h]

theorem swp_eq {q : List Int} {i : Nat} (h : i + 1 < q.length) : swp q i = q.take i ++ q.getD (i + 1) 0 :: q.getD i 0 :: q.drop (i + 2) := by
  have h1 := swp_mid (q.take i) (q.drop (i + 2)) (q.getD i 0) (q.getD (i + 1) 0)
  rw [← split_mid h, List.length_take, Nat.min_eq_left (by omega)] at h1
  exact h1

theorem swp_perm {q : List Int} {i : Nat} (h : i + 1 < q.length) : (swp q i).Perm q := by
  rw [swp_eq h]
  conv => rhs; rw [split_mid h]
  exact (List.Perm.swap _ _ _).append_left _

theorem swp_swp {q : List Int} {i : Nat} (h : i + 1 < q.length) : swp (swp q i) i = q := by
  have h1 := swp_mid (q.take i) (q.drop (i + 2)) (q.getD (i + 1) 0) (q.getD i 0)
  rw [List.length_take, Nat.min_eq_left (by omega), ← swp_eq h, ← split_mid h] at h1
  exact h1

theorem inv_two (a b : Int) : inv [a, b] = if b < a then 1 else 0 := by
  have : [a, b] = [a] ++ [b] := rfl
  rw [this, inv_append, inv_one, inv_one, cross_one]
  by_cases h : b < a <;> simp [h]

theorem swp_inv {q : List Int} {i : Nat} (h : i + 1 < q.length) (hd : q.getD (i + 1) 0 < q.getD i 0) : inv (swp q i) + 1 = inv q := by
  rw [swp_eq h]
  conv => rhs; rw [split_mid h]
  generalize q.getD (i + 1) 0 = b at *
  generalize q.getD i 0 = a at *
  have e1 : q.take i ++ b :: a :: q.drop (i + 2) = q.take i ++ ([b, a] ++ q.drop (i + 2)) := by simp
  have e2 : q.take i ++ a :: b :: q.drop (i + 2) = q.take i ++ ([a, b] ++ q.drop (i + 2)) := by simp
  rw [e1, e2]
  simp only [inv_append]
  have p1 : [b, a].Perm [a, b] := List.Perm.swap _ _ _
  rw [cross_perm (List.Perm.refl (q.take i)) (p1.append_right (q.drop (i + 2))), cross_perm p1 (List.Perm.refl (q.drop (i + 2))), inv_two, inv_two, if_pos hd, if_neg (by omega)]
  omega

theorem swp_getD_low {q : List Int} {i j : Nat} (hj : j < i) : (swp q i).getD j 0 = q.getD j 0 := by
  unfold swp
  simp only [List.getD_eq_getElem?_getD, List.getElem?_set]
  rw [if_neg (by omega), if_neg (by omega)]

/-- What a word makes of a list, its last letter first. -/
def unword (w : List Int) (q : List Int) : List Int := w.foldr (fun i q => swp q (i.toNat - 1)) q
theorem unword_snoc (w : List Int) (x : Int) (q : List Int) : unword (w ++ [x]) q = unword w (swp q (x.toNat - 1)) := by simp [unword]
theorem unword_length (w q : List Int) : (unword w q).length = q.length := by
  induction w with
  | nil => rfl
  | cons x w ih => rw [← ih]; exact swp_length _ _

/-- The state of Word's loop. -/
def WordSt (p q out : List Int) (i : Nat) : Prop :=
  q.Perm p ∧ unword out q = p ∧ (∀ j, j < i → q.getD j 0 < q.getD (j + 1) 0) ∧ out.length + inv q = inv p ∧ ∀ x ∈ out, 1 ≤ x ∧ x < (p.length : Int)

theorem wordSt_zero (p : List Int) : WordSt p p [] 0 := ⟨List.Perm.refl _, rfl, fun j h => by omega, by simp, fun x h => by cases h⟩
theorem WordSt.go {p q out : List Int} {i : Nat} (h : WordSt p q out i) (hlt : q.getD i 0 < q.getD (i + 1) 0) : WordSt p q out (i + 1) :=
  ⟨h.1, h.2.1, fun j hj => by
    by_cases e : j = i
    · subst e; exact hlt
    · exact h.2.2.1 j (by omega), h.2.2.2⟩
theorem WordSt.swap {p q out : List Int} {i : Nat} (h : WordSt p q out i) (hp : IsPerm p) (hi : i + 1 < p.length) (hlt : ¬ q.getD i 0 < q.getD (i + 1) 0) :
    WordSt p (swp q i) (out ++ [(i : Int) + 1]) (i - 1) ∧ inv (swp q i) + 1 = inv q := by
  obtain ⟨h1, h2, h3, h4, h5⟩ := h
  have hl := h1.length_eq
  have hq : IsPerm q := IsPerm.of_perm h1 hp
  have hd : q.getD (i + 1) 0 < q.getD i 0 := by
    have : q.getD i 0 ≠ q.getD (i + 1) 0 := fun e => by have := hq.getD_inj (by omega) (by omega) e; omega
    omega
  have hs := swp_inv (show i + 1 < q.length by omega) hd
  refine ⟨⟨(swp_perm (by omega)).trans h1, ?_, fun j hj => ?_, ?_, fun x hx => ?_⟩, hs⟩
  · rw [unword_snoc, show ((i : Int) + 1).toNat - 1 = i by omega, swp_swp (by omega), h2]
  · rw [swp_getD_low (by omega), swp_getD_low (by omega)]; exact h3 j (by omega)
  · rw [List.length_append, List.length_singleton]; omega
  · rcases List.mem_append.1 hx with hx | hx
    · exact h5 x hx
    · simp at hx; omega

theorem asc_upTo {q : List Int} (hq : IsPerm q) (h : ∀ j, j + 1 < q.length → q.getD j 0 < q.getD (j + 1) 0) : q = upTo q.length := by
  have h1 : ∀ j, j < q.length → (j : Int) + 1 ≤ q.getD j 0 := by
    intro j
    induction j with
    | zero => intro hj; have := hq.getD_range hj; omega
    | succ j ih => intro hj; have := ih (by omega); have := h j hj; omega
  have h2 : ∀ k, k < q.length → q.getD (q.length - 1 - k) 0 ≤ (q.length : Int) - k := by
    intro k
    induction k with
    | zero => intro hk; have := hq.getD_range (show q.length - 1 - 0 < q.length by omega); omega
    | succ k ih =>
      intro hk
      have e1 := ih (by omega)
      have e2 := h (q.length - 1 - (k + 1)) (by omega)
      rw [show q.length - 1 - (k + 1) + 1 = q.length - 1 - k by omega] at e2
      omega
  apply List.ext_getElem (by rw [length_upTo])
  intro i hi _
  simp only [upTo, List.getElem_map, List.getElem_range]
  have e1 := h1 i hi
  have e2 := h2 (q.length - 1 - i) (by omega)
  rw [show q.length - 1 - (q.length - 1 - i) = i by omega] at e2
  rw [getD_get hi] at e1 e2
  omega

theorem inv_upTo : ∀ n, inv (upTo n) = 0
  | 0 => rfl
  | n + 1 => by
    have : upTo (n + 1) = upTo n ++ [(n : Int) + 1] := by simp [upTo, List.range_succ]
    rw [this, inv_snoc, inv_upTo n, over_none (fun y hy => by have := mem_upTo.1 hy; omega)]

theorem WordSt.done {p q out : List Int} {i : Nat} (h : WordSt p q out i) (hp : IsPerm p) (hi : p.length ≤ i + 1) :
    out.length = inv p ∧ unword out (upTo p.length) = p ∧ ∀ x ∈ out, 1 ≤ x ∧ x < (p.length : Int) := by
  obtain ⟨h1, h2, h3, h4, h5⟩ := h
  have hl := h1.length_eq
  have hq := asc_upTo (IsPerm.of_perm h1 hp) (fun j hj => h3 j (by omega))
  rw [hl] at hq
  rw [hq] at h2 h4
  rw [inv_upTo] at h4
  exact ⟨by omega, h2, h5⟩

end Go.Proofs.YtpmkdihencepnaaGreat

/-
  perms.Times, perms.Product: what they answer.
-/
namespace Go.Proofs.YtpmkdihencepnaaGreat
open Go.RowKit

set_option maxHeartbeats 400000 in
theorem times_err (A A' : Option Addr) (cap cap' : Nat) (p q : List Int) (w : World) (hp : p.length ≤ 9223372036854775807) (hq : q.length ≤ 9223372036854775807) (hc : pairChk p q ≠ 0)
    (h : Sl w w.heap.size A (ints p)) (h' : Sl w w.heap.size A' (ints q)) :
    Calls Tryz.prog 25 #[.slice A p.length cap, .slice A' q.length cap'] w fun e w' => e = .returned (.tuple #[.slice none 0 0, .int .i64 (pairChk p q)]) ∧ Below w.heap.size w w' := by
  obtain ⟨c, hcc⟩ : ∃ c, c = pairChk p q := ⟨_, rfl⟩
  have hd : (c != 0) = true := by rw [hcc]; simpa using hc
  have HC := Lib.hid hcc
  clear hc hcc
  go_enter Tryz.func25, Tryz.ntmps25
  go_wp2_with fail
  refine (pair_any _ _ _ _ _ _ _ hp hq h h').mono ?_
  rintro e w1 ⟨rfl, hb1⟩
  rw [← HC.out]
  go_wp2
  go_ret2
  exact ⟨by rw [← HC.out]; rfl, hb1⟩

def tmsTo (p q : List Int) (i : Nat) : List Int := (tms p q).take i ++ List.replicate (p.length - i) 0
theorem tmsTo_length {p q : List Int} {i : Nat} (hl : p.length = q.length) (hi : i ≤ p.length) : (tmsTo p q i).length = p.length := by simp [tmsTo, tms_length]; omega
theorem tmsTo_set {p q : List Int} {i : Nat} (hl : p.length = q.length) (hi : i < p.length) : (tmsTo p q i).set i (at1 p (q.getD i 0)) = tmsTo p q (i + 1) := by
  have hlt : i < (tms p q).length := by rw [tms_length]; omega
  unfold tmsTo
  rw [List.set_append_right _ _ (by rw [List.length_take]; omega), List.length_take, Nat.min_eq_left (by omega), Nat.sub_self,
    show p.length - i = (p.length - (i + 1)) + 1 by omega, List.replicate_succ, List.set_cons_zero, take_snoc hlt, ← getD_get (d := 0) hlt, tms_getD (by omega)]
  simp

set_option maxHeartbeats 1000000 in
theorem times_ok (A A' : Option Addr) (cap cap' : Nat) (p q : List Int) (w : World) (hc : pairChk p q = 0) (h : Sl w w.heap.size A (ints p)) (h' : Sl w w.heap.size A' (ints q)) :
    Calls Tryz.prog 25 #[.slice A p.length cap, .slice A' q.length cap'] w fun e w' => Tol (fun xs => xs = tms p q) w.heap.size e w' ∧ Below w.heap.size w w' := by
  obtain ⟨hp0, hq0, hl⟩ := pairChk_zero.1 hc
  obtain ⟨hp40, hpp⟩ := permChk_zero hp0
  obtain ⟨hq40, hqq⟩ := permChk_zero hq0
  have HC := Lib.hid hc
  have HQ := Lib.hid hqq
  have HL := Lib.hid hl
  clear hc hp0 hq0 hpp hqq hl
  go_enter Tryz.func25, Tryz.ntmps25
  go_wp2_with fail
  refine (pair_any _ _ _ _ _ _ _ (by omega) (by omega) h h').mono ?_
  rintro e w1 ⟨rfl, hb1⟩
  rw [HC.out]
  have h1 := (h.below hb1)
  have h1' := (h'.below hb1)
  go_wp2_with (at_make; refine wpList_mk rfl (.tmp 17) (.tmp 17) rfl p.length rfl rfl (by omega) (Nat.le_refl _) (fun w2 hown2 hb2 hz2 => ?_))
  have HO2 := Lib.hid hown2
  clear hown2
  go_loopw [21] (fun iv wr => ∃ (i : Nat), i ≤ q.length ∧ iv = .int .i64 i ∧ wr.ownsRow w1.heap.size 3 1 (.slice (some ⟨w1.heap.size, 0, none⟩) p.length p.length) p.length (ints (tmsTo p q i)) ∧ Below w1.heap.size w1 wr) (fun iv _ => q.length - (intOf iv).toNat)
  case atStart => exact ⟨0, by omega, rfl, by simpa [tmsTo] using HO2.out, hb2⟩
  case round =>
    obtain ⟨i, hi, rfl, hown, hbl⟩ := hrel
    have HO := Lib.hid hown
    clear hown
    by_cases hlt : i < q.length
    · obtain ⟨b', o', rfl, hb'⟩ := h1'.addr (by omega)
      obtain ⟨b, o, rfl, hb⟩ := h1.addr (by have := HL.out; omega)
      have hr := HQ.out.getD_range hlt
      have hcq := getD_cell (h1'.below (hbl.mono hb1.size)) hlt
      have hlp : i < p.length := by have := HL.out; omega
      have hset := tmsTo_set (p := p) (q := q) HL.out hlp
      have hln := HL.out
      obtain ⟨n, hn⟩ : ∃ x, x = q.getD i 0 := ⟨_, rfl⟩
      rw [← hn] at hcq hr hset
      have hnl : n ≤ (p.length : Int) := by omega
      have hcp := getD_cell (h1.below (hbl.mono hb1.size)) (show n.toNat - 1 < p.length by omega)
      obtain ⟨x, hx⟩ : ∃ x, x = p.getD (n.toNat - 1) 0 := ⟨_, rfl⟩
      rw [← hx] at hcp
      have hx' : at1 p n = x := by rw [hx]; unfold at1; rw [show (n - 1).toNat = n.toNat - 1 by omega]
      rw [hx'] at hset
      have HSET := Lib.hid hset
      have HX := Lib.hid hx
      have HN := Lib.hid hn
      have hfx := HO.out.frozenAt i
      obtain ⟨z, hox⟩ : ∃ z, wr.cell? ⟨w1.heap.size, i, none⟩ = some (.int .i64 z) :=
        ⟨_, own_get HO.out (List.getElem?_eq_getElem (show i < (tmsTo p q i).length by have := tmsTo_length (p := p) (q := q) (i := i) HL.out (by omega); omega))⟩
      clear hn hx hx' hset hln
      go_wp2
      go_roundw
      case rel => exact ⟨i + 1, by omega, by go_num, by rw [← HSET.out]; exact own_set HO.out _ _, hbl.setCell (by exact Nat.le_refl _) _⟩
      case measure => simp [intOf]; omega
    · obtain rfl : i = q.length := by omega
      have hfin : Hid (tmsTo p q q.length = tms p q) := by
        show _ = _
        unfold tmsTo
        rw [List.take_of_length_le (by rw [tms_length]; exact Nat.le_refl _), HL.out, Nat.sub_self]; simp
      go_wp2
      go_ret2
      exact ⟨tol_own (xs := tms p q) (by rw [← hfin.out]; exact HO.out.mono hb1.size) 0 rfl, hb1.trans (hbl.mono hb1.size)⟩

end Go.Proofs.YtpmkdihencepnaaGreat
