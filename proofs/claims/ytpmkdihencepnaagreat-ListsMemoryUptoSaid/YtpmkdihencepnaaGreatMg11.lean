/-
  Plain lists: what Frobenius tells of a partition, and the way back.
-/
import Derived.Test.YtpmkdihencepnaaGreatMg09
import Derived.Test.YtpmkdihencepnaaGreatMg10
namespace Go.Proofs.YtpmkdihencepnaaGreat

/-- d boxes on the diagonal. -/
def IsDiag (p : List Int) (d : Nat) : Prop := (∀ i, i < d → (i : Int) < p.getD i 0) ∧ p.getD d 0 ≤ d
theorem IsDiag.uniq {p : List Int} {d d' : Nat} (h : IsDiag p d) (h' : IsDiag p d') : d = d' := by
  rcases Nat.lt_trichotomy d d' with c | c | c
  · have := h'.1 d c; have := h.2; omega
  · exact c
  · have := h.1 d' c; have := h'.2; omega
theorem IsDiag.flip {p : List Int} {d : Nat} (hp : IsPart p) (h : IsDiag p d) : IsDiag (flipOf p) d :=
  ⟨fun i hi => (galois hp i i).1 (h.1 i hi), by
    by_cases c : (d : Int) < (flipOf p).getD d 0
    · have := (galois hp d d).2 c; have := h.2; omega
    · omega⟩
theorem IsDiag.len {p : List Int} {d : Nat} (h : IsDiag p d) : d ≤ p.length := by
  by_cases c : d ≤ p.length
  · exact c
  · have := h.1 p.length (by omega)
    rw [getD_out (Nat.le_refl _)] at this
    omega

def armsOf (p : List Int) (d : Nat) : List Int := (List.range d).map (fun (k : Nat) => p.getD k 0 - (k : Int) - 1)
theorem armsOf_length (p : List Int) (d : Nat) : (armsOf p d).length = d := by simp [armsOf]
theorem armsOf_getD {p : List Int} {d i : Nat} (h : i < d) : (armsOf p d).getD i 0 = p.getD i 0 - (i : Int) - 1 := by
  rw [getD_get (by rw [armsOf_length]; exact h)]; simp [armsOf]
theorem armsOf_succ (p : List Int) (d : Nat) : armsOf p d ++ [p.getD d 0 - (d : Int) - 1] = armsOf p (d + 1) := by
  simp [armsOf, List.range_succ]
theorem arms_bound {p : List Int} {d : Nat} (h : IsDiag p d) {i : Nat} (hi : i < d) : 0 ≤ (armsOf p d).getD i 0 := by
  have := h.1 i hi
  rw [armsOf_getD hi]; omega
theorem arms_fall {p : List Int} {d : Nat} (hp : IsPart p) {i : Nat} (hi : i < d) (h1 : 1 ≤ i) : (armsOf p d).getD i 0 < (armsOf p d).getD (i - 1) 0 := by
  have := hp.anti (i := i - 1) (j := i) (by omega)
  rw [armsOf_getD hi, armsOf_getD (by omega)]; omega

/-- What the hooks of the first k have together. -/
def hooksTo (p : List Int) (k : Nat) : Int := psum (fun i => (p.getD i 0 - i - 1) + ((flipOf p).getD i 0 - i - 1) + 1) k
theorem hooksTo_eq (p : List Int) : ∀ k : Nat, hooksTo p k = pre p k + pre (flipOf p) k - k * k
  | 0 => by simp [hooksTo, pre, psum]
  | k + 1 => by
    have h : hooksTo p (k + 1) = hooksTo p k + ((p.getD k 0 - k - 1) + ((flipOf p).getD k 0 - k - 1) + 1) := rfl
    rw [h, hooksTo_eq p k, pre_succ, pre_succ]
    have e : ((k + 1 : Nat) : Int) * ((k + 1 : Nat) : Int) = k * k + 2 * k + 1 := by
      rw [Int.natCast_add, Int.add_mul, Int.mul_add, Int.mul_add]; simp; omega
    rw [e]; omega
theorem hooksTo_le {p : List Int} (hp : IsPart p) (k : Nat) : hooksTo p k ≤ p.sum := by
  rw [hooksTo_eq]
  have := both_le hp k k
  omega
theorem hooksTo_succ (p : List Int) (k : Nat) : hooksTo p (k + 1) = hooksTo p k + (p.getD k 0 - k - 1) + ((flipOf p).getD k 0 - k - 1) + 1 := by
  have : hooksTo p (k + 1) = hooksTo p k + ((p.getD k 0 - k - 1) + ((flipOf p).getD k 0 - k - 1) + 1) := rfl
  omega
theorem hooksTo_nonneg {p : List Int} {d : Nat} (hp : IsPart p) (h : IsDiag p d) : ∀ k, k ≤ d → 0 ≤ hooksTo p k
  | 0, _ => Int.le_refl _
  | k + 1, hk => by
    have h1 := hooksTo_nonneg hp h k (by omega)
    have h2 := h.1 k (by omega)
    have h3 := (h.flip hp).1 k (by omega)
    rw [hooksTo_succ]; omega

/-- What stands after i rounds, the last of them as far as r. -/
def Stage (p : List Int) (d i r : Nat) (out : List Int) : Prop :=
  out.length = p.length ∧ ∀ s, s < p.length → out.getD s 0 = if s < d then p.getD s 0 else if s < r then min ((i : Int) + 1) (p.getD s 0) else min (i : Int) (p.getD s 0)

theorem stage_start {p : List Int} (hp : IsPart p) {d z : Nat} (h : d + z = p.length) : Stage p d 0 d (p.take d ++ List.replicate z 0) := by
  refine ⟨by simp; omega, fun s hs => ?_⟩
  have h1 := hp.1 s hs
  by_cases c : s < d
  · rw [if_pos c, getD_get (by simp; omega), List.getElem_append_left (by simp; omega), List.getElem_take, getD_get hs]
  · rw [if_neg c, if_neg c, getD_get (by simp; omega), List.getElem_append_right (by simp; omega), List.getElem_replicate]
    omega
theorem stage_step {p : List Int} (hp : IsPart p) {d i r : Nat} {out : List Int} (h : Stage p d i r out) (hd : d ≤ r) (hr : (r : Int) < (flipOf p).getD i 0) :
    r < p.length ∧ out.getD r 0 = i ∧ Stage p d i (r + 1) (out.set r (out.getD r 0 + 1)) := by
  have hg := (galois hp r i).2 hr
  have hrl : r < p.length := by
    by_cases c : r < p.length
    · exact c
    · rw [getD_out (by omega)] at hg; omega
  have ho : out.getD r 0 = i := by
    rw [h.2 r hrl, if_neg (by omega), if_neg (by omega)]; omega
  refine ⟨hrl, ho, by rw [List.length_set]; exact h.1, fun s hs => ?_⟩
  rw [getD_get (by rw [List.length_set, h.1]; exact hs), List.getElem_set]
  by_cases e : r = s
  · subst e
    rw [if_pos rfl, ho, if_neg (by omega), if_pos (by omega)]; omega
  · rw [if_neg e, ← getD_get (d := 0), h.2 s hs]
    by_cases c : s < d
    · rw [if_pos c, if_pos c]
    · rw [if_neg c, if_neg c]
      by_cases c2 : s < r
      · rw [if_pos c2, if_pos (by omega)]
      · rw [if_neg c2, if_neg (by omega)]
theorem stage_next {p : List Int} (hp : IsPart p) {d i r : Nat} {out : List Int} (h : Stage p d i r out) (hr : (flipOf p).getD i 0 ≤ r) : Stage p d (i + 1) d out := by
  refine ⟨h.1, fun s hs => ?_⟩
  rw [h.2 s hs]
  by_cases c : s < d
  · rw [if_pos c, if_pos c]
  · rw [if_neg c, if_neg c, if_neg c]
    by_cases c2 : s < r
    · rw [if_pos c2]; omega
    · rw [if_neg c2]
      have hg := (galois hp s i)
      have : ¬ (i : Int) < p.getD s 0 := fun hh => by have := hg.1 hh; omega
      omega
theorem stage_end {p : List Int} (hp : IsPart p) {d : Nat} {out : List Int} (h : Stage p d d d out) (hd : IsDiag p d) : out = p := by
  apply ext_getD h.1
  intro s hs
  rw [h.1] at hs
  rw [h.2 s hs]
  by_cases c : s < d
  · rw [if_pos c]
  · rw [if_neg c, if_neg c]
    have := hp.anti (i := d) (j := s) (by omega)
    have := hd.2
    omega
theorem diag_zero {p : List Int} (hp : IsPart p) (h : IsDiag p 0) : p = [] := by
  by_cases c : 0 < p.length
  · have := hp.1 0 c; have := h.2; omega
  · exact List.eq_nil_of_length_eq_zero (by omega)
theorem flip_head {p : List Int} (hp : IsPart p) : (flipOf p).getD 0 0 = p.length := by rw [flip_getD hp, overB_all hp]

/-! Dominance in as many steps as the longer one has. -/

end Go.Proofs.YtpmkdihencepnaaGreat

/-
  parts.flipped, Conjugate, Size, both, Dominates: what they answer.
-/
namespace Go.Proofs.YtpmkdihencepnaaGreat
open Go.RowKit

theorem flip_snoc (p : List Int) (j : Nat) : (List.range j).map (fun j => (overB p j : Int)) ++ [(overB p j : Int)] = (List.range (j + 1)).map (fun j => (overB p j : Int)) := by
  simp [List.range_succ]

set_option maxHeartbeats 1000000 in
theorem flipped_any (A : Option Addr) (cap : Nat) (p : List Int) (w : World) (hp : IsPart p) (hs : p.sum ≤ 40) (h : Sl w w.heap.size A (ints p)) :
    Calls Tryz.prog 41 #[.slice A p.length cap] w fun e w' => ∃ v, e = .returned v ∧ w'.ownsRow w.heap.size 3 1 v (flipOf p).length (ints (flipOf p)) ∧ Below w.heap.size w w' := by
  have hB := Nat.le_refl w.heap.size
  have hlen := hp.len hs
  have hfl : Hid ((flipOf p).length = (p.getD 0 0).toNat) := flipOf_length p
  have hh0 := hp.nonneg 0
  have hh : p.getD 0 0 ≤ 40 := by
    by_cases c : 0 < p.length
    · have := part_le_sum hp c; omega
    · rw [getD_out (by omega)]; omega
  obtain ⟨m, hm⟩ : ∃ m : Nat, p.getD 0 0 = m := ⟨(p.getD 0 0).toNat, by omega⟩
  have hmm : m ≤ 40 := by omega
  have HM := Lib.hid hm
  have HP := Lib.hid hp
  have HF : Hid (flipOf p = (List.range m).map (fun j => (overB p j : Int))) := by show _ = _; unfold flipOf; rw [hm]; rfl
  have HZ : Hid (p.length = 0 → m = 0) := fun h0 => by rw [getD_out (by omega)] at hm; omega
  clear hp hs hh0 hh hm
  go_enter Tryz.func41, Tryz.ntmps41
  go_wp2
  go_loopw [3, 4] (fun ov jv wr => ∃ j : Nat, j ≤ m ∧ jv = .int .i64 j ∧ wr.ownsRow w.heap.size 3 1 ov j (ints ((List.range j).map (fun j => (overB p j : Int)))) ∧ Below w.heap.size w wr) (fun _ jv _ => m - (intOf jv).toNat)
  case atStart => exact ⟨0, by omega, rfl, World.ownsRow_nil _ _ _ _, Below.refl _ _⟩
  case round =>
    obtain ⟨j, hj, rfl, hown, hW⟩ := hrel
    have HO := Lib.hid hown
    clear hown
    have hsn := flip_snoc p j
    by_cases hn : 0 < p.length
    · have hd0 : decide (0 < p.length) = true := decide_eq_true hn
      obtain ⟨b, o, rfl, hb⟩ := h.addr hn
      have hr := h.below hW
      have hcx := getD_cell hr hn
      rw [HM.out, Nat.add_zero] at hcx
      by_cases hlt : j < m
      · have hd1 : decide (j < m) = true := decide_eq_true hlt
        have hol := over_le p j
        obtain ⟨t, ht⟩ : ∃ t, t = overB p j := ⟨_, rfl⟩
        have HV : Hid (∀ i : Nat, (j : Int) < p.getD i 0 ↔ i < t) := by rw [ht]; exact fun i => over_lt HP.out i j
        rw [← ht] at hol hsn
        have HT := Lib.hid ht
        have HSN := Lib.hid hsn
        clear ht hsn
        go_wp2

        go_loop [5] (fun nv => ∃ n : Nat, n ≤ t ∧ nv = .int .i64 n) (fun nv => t - (intOf nv).toNat)
        case atStart => exact ⟨0, by omega, rfl⟩
        case round =>
          obtain ⟨n, hn2, rfl⟩ := hrel
          by_cases hnl : n < p.length
          · have hd2 : decide (n < p.length) = true := decide_eq_true hnl
            have hcy := getD_cell hr hnl
            have hv := HV.out n
            obtain ⟨x, hx⟩ : ∃ x, x = p.getD n 0 := ⟨_, rfl⟩
            rw [← hx] at hcy hv
            clear hx
            by_cases hxj : (j : Int) < x
            · have hd3 : decide ((j : Int) < x) = true := decide_eq_true hxj
              have hnt := hv.1 hxj
              clear hv hxj
              go_wp2
              go_round
              case rel => exact ⟨n + 1, by omega, by go_num⟩
              case measure => simp [intOf]; omega
            · have hd3 : decide ((j : Int) < x) = false := decide_eq_false hxj
              have hnt : Hid (n = t) := by show _ = _; have := mt hv.2 hxj; omega
              clear hv hxj
              go_wp2_with (first | (at_builtin; refine wpList_app1 rfl (.tmp 32) (.tmp 34) rfl rfl (n : Int) HO.out rfl (by omega) hW.size (fun g2 c2 w5 hl5 hb5 => ?_)) | fail)
              go_wp2
              go_roundw
              case rel =>
                refine ⟨j + 1, by omega, by go_num, ?_, hW.trans hb5⟩
                rw [← HSN.out, ← hnt.out]; exact hl5
              case measure => simp [intOf]; omega
          · have hd2 : decide (n < p.length) = false := decide_eq_false hnl
            have hnt : Hid (n = t) := by show _ = _; omega
            go_wp2_with (first | (at_builtin; refine wpList_app1 rfl (.tmp 32) (.tmp 34) rfl rfl (n : Int) HO.out rfl (by omega) hW.size (fun g2 c2 w5 hl5 hb5 => ?_)) | fail)
            go_wp2
            go_roundw
            case rel =>
              refine ⟨j + 1, by omega, by go_num, ?_, hW.trans hb5⟩
              rw [← HSN.out, ← hnt.out]; exact hl5
            case measure => simp [intOf]; omega
      · have hd1 : decide (j < m) = false := decide_eq_false hlt
        have hjm : Hid (j = m) := by show _ = _; omega
        clear hsn
        go_wp2
        go_ret
        exact ⟨_, rfl, by rw [hfl.out, HM.out, HF.out, Int.toNat_natCast, ← hjm.out]; exact HO.out, hW⟩
    · have hd0 : decide (0 < p.length) = false := decide_eq_false hn
      have hjm : Hid (j = m) := by show _ = _; have := HZ.out (by omega); omega
      clear hsn
      go_wp2
      go_ret
      exact ⟨_, rfl, by rw [hfl.out, HM.out, HF.out, Int.toNat_natCast, ← hjm.out]; exact HO.out, hW⟩

/-- What Conjugate answers. -/
def ConjRes (p : List Int) (e : Ending) (w : World) : Prop :=
  ∃ (k : Int) (q : List Int) (A : Option Addr) (c : Nat), e = .returned (.tuple #[.slice A q.length c, .int .i64 k]) ∧ Sl w w.heap.size A (ints q) ∧ (k ≠ 0 → q = []) ∧ (k = 0 ↔ partChk p = 0) ∧ (k = 0 → q = flipOf p)

set_option maxHeartbeats 1000000 in
theorem conj_any (A : Option Addr) (cap : Nat) (p : List Int) (w : World) (hcl : p.length ≤ 9223372036854775807) (h : Sl w w.heap.size A (ints p)) :
    Calls Tryz.prog 4 #[.slice A p.length cap] w fun e w' => ConjRes p e w' ∧ Below w.heap.size w w' := by
  by_cases hc : partChk p = 0
  · have HC := Lib.hid hc
    obtain ⟨hp, hs⟩ := partChk_zero.1 hc
    clear hc
    go_enter Tryz.func4, Tryz.ntmps4
    go_wp2_with fail
    refine (pcheck_any _ _ _ _ hcl h).mono ?_
    rintro e w0 ⟨rfl, rfl⟩
    rw [HC.out]
    go_wp2_with fail
    refine (flipped_any _ _ _ _ hp hs h).mono ?_
    rintro e w1 ⟨v, rfl, hown, hb⟩
    obtain ⟨A', c', rfl, _, hs', _, _⟩ := own_slice hown
    clear hown
    go_wp2
    go_ret2
    exact ⟨⟨0, flipOf p, A', c', rfl, hs', fun h => absurd rfl h, ⟨fun _ => HC.out, fun _ => rfl⟩, fun _ => rfl⟩, hb⟩
  · obtain ⟨c, hcc⟩ : ∃ c, c = partChk p := ⟨_, rfl⟩
    have hd : (c != 0) = true := by rw [hcc]; simpa using hc
    have hc' : Hid (c ≠ 0) := by rw [hcc]; exact hc
    have HC := Lib.hid hcc
    clear hc hcc
    go_enter Tryz.func4, Tryz.ntmps4
    go_wp2_with fail
    refine (pcheck_any _ _ _ _ hcl h).mono ?_
    rintro e w0 ⟨rfl, rfl⟩
    rw [← HC.out]
    go_wp2
    go_ret2
    exact ⟨⟨c, [], none, 0, rfl, Sl.nil _ _ _, fun _ => rfl, by rw [← HC.out], fun h => absurd h hc'.out⟩, Below.refl _ _⟩

set_option maxHeartbeats 800000 in
theorem psize_any (A : Option Addr) (cap : Nat) (xs : List Int) (w : World) (hcl : xs.length < 1000000) (hr : ∀ k, k ≤ xs.length → -1000000000000 ≤ sumTo xs k ∧ sumTo xs k ≤ 1000000000000) (h : Sl w w.heap.size A (ints xs)) :
    Calls Tryz.prog 51 #[.slice A xs.length cap] w fun e w' => e = .returned (.int .i64 xs.sum) ∧ w = w' := by
  have HR := Lib.hid hr
  clear hr
  go_enter Tryz.func51, Tryz.ntmps51
  go_wp2
  go_loop [3, 8] (fun s i => ∃ k : Nat, k ≤ xs.length ∧ i = .int .i64 k ∧ s = .int .i64 (sumTo xs k)) (fun _ i => xs.length - (intOf i).toNat)
  case atStart => exact ⟨0, by omega, rfl, by simp [sumTo]⟩
  case round =>
    obtain ⟨k, hk, rfl, rfl⟩ := hrel
    by_cases hlt : k < xs.length
    · obtain ⟨b, o, rfl, hb, hc0⟩ := h.at_ hlt
      have hs1 := HR.out k hk
      have hs2 := HR.out (k + 1) (by omega)
      have hs := sumTo_succ hlt
      obtain ⟨x, hx⟩ : ∃ x, x = xs[k] := ⟨_, rfl⟩
      obtain ⟨s, hss⟩ : ∃ s, s = sumTo xs k := ⟨_, rfl⟩
      rw [← hx] at hc0 hs
      rw [← hss] at hs hs1 ⊢
      rw [hs] at hs2
      have HS := Lib.hid hs
      have HX := Lib.hid hx
      have HSS := Lib.hid hss
      clear hs hx hss
      go_wp2
      go_round
      case rel => exact ⟨k + 1, by omega, by go_num, by rw [HS.out]⟩
      case measure => simp [intOf]; omega
    · obtain rfl : k = xs.length := by omega
      go_wp2
      go_ret
      exact ⟨by simp [sumTo], rfl⟩

end Go.Proofs.YtpmkdihencepnaaGreat
