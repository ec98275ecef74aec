/-
  slices.Compare at ints: what it answers.
-/
import Derived.Shelf.SlicesG.Cmp
import Derived.Shelf.Lay
import Derived.Ground.SlgcProg
import Derived.Shelf.SlSortCmp.NoneTotal
import Derived.Ground.SlsfProg
import Derived.Sort.OwnSortedInts
import Derived.Test.YtpmkdihencepnaaGreatMg04
import Derived.Test.YtpmkdihencepnaaGreatMg09
import Derived.Test.YtpmkdihencepnaaGreatMg17
import Derived.Test.YtpmkdihencepnaaGreatMg21
namespace Go.Proofs
open Go.Shelf
shelf_lay_g SlLaysC2.n5 Slgc 5 at Tryz 66 as Tryz.cmpL
end Go.Proofs
namespace Go.Proofs.YtpmkdihencepnaaGreat
open Go.RowKit Go.Proofs
open Go.Shelf

theorem lexC_drop {xs ys : List Int} {i : Nat} (hx : i < xs.length) (hy : i < ys.length) : lexC (xs.drop i) (ys.drop i) = if xs.getD i 0 < ys.getD i 0 then -1 else if ys.getD i 0 < xs.getD i 0 then 1 else lexC (xs.drop (i + 1)) (ys.drop (i + 1)) := by
  rw [List.drop_eq_getElem_cons hx, List.drop_eq_getElem_cons hy, getD_get hx, getD_get hy]; rfl
theorem lexC_over {xs ys : List Int} {i : Nat} (hx : i < xs.length) (hy : ¬ i < ys.length) : lexC (xs.drop i) (ys.drop i) = 1 := by
  have e : ys.drop i = [] := List.drop_eq_nil_of_le (by omega)
  rw [List.drop_eq_getElem_cons hx, e]; rfl
theorem lexC_end {xs ys : List Int} : lexC (xs.drop xs.length) (ys.drop xs.length) = if xs.length < ys.length then -1 else 0 := by
  rw [List.drop_length]
  by_cases h : xs.length < ys.length
  · rw [if_pos h, List.drop_eq_getElem_cons h]; rfl
  · rw [if_neg h, List.drop_eq_nil_of_le (by omega)]; rfl

set_option maxRecDepth 100000 in
set_option maxHeartbeats 1000000 in
theorem compare_any (A A' : Option Addr) (cap cap' : Nat) (xs ys : List Int) (w : World) (hx : xs.length ≤ 9223372036854775807) (hy : ys.length ≤ 9223372036854775807)
    (h : Sl w w.heap.size A (ints xs)) (h' : Sl w w.heap.size A' (ints ys)) :
    Calls Tryz.prog 54 #[.slice A xs.length cap, .slice A' ys.length cap'] w fun e w' => e = .returned (.int .i64 (lexC xs ys)) ∧ w = w' := by
  have hC : ∀ x y W, Calls Tryz.prog 66 #[.int .i64 x, .int .i64 y] W fun e w' => e = .returned (.int .i64 (Lib.compareInt x y)) ∧ w' = W := fun x y W => AnyG.cmp_Compare_int Tryz.cmpL x y W
  have HC := Lib.hid hC
  clear hC
  go_enter Tryz.func54, Tryz.ntmps54
  go_wp2_with fail
  go_loopw [11] (fun iv wr => ∃ (i : Nat), i ≤ xs.length ∧ i ≤ ys.length ∧ iv = .int .i64 i ∧ lexC xs ys = lexC (xs.drop i) (ys.drop i) ∧ w = wr) (fun iv _ => xs.length - (intOf iv).toNat)
  case atStart => exact ⟨0, by omega, by omega, rfl, rfl, rfl⟩
  case round =>
    obtain ⟨i, hi, hiy, rfl, heq, rfl⟩ := hrel
    have HE := Lib.hid heq
    clear heq
    by_cases hlt : i < xs.length
    · have hdl : decide (i < xs.length) = true := decide_eq_true hlt
      obtain ⟨b, o, rfl, hb⟩ := h.addr (by omega)
      have hcx := getD_cell h hlt
      by_cases hly : i < ys.length
      · have hdy : decide ((ys.length : Int) ≤ (i : Int)) = false := decide_eq_false (by omega)
        obtain ⟨b', o', rfl, hb'⟩ := h'.addr (by omega)
        have hcy := getD_cell h' hly
        have hst := lexC_drop hlt hly
        obtain ⟨x, hxe⟩ : ∃ x, x = xs.getD i 0 := ⟨_, rfl⟩
        obtain ⟨y, hye⟩ : ∃ y, y = ys.getD i 0 := ⟨_, rfl⟩
        rw [← hxe] at hcx hst
        rw [← hye] at hcy hst
        have hcm : Lib.compareInt x y = if x < y then -1 else if y < x then 1 else 0 := by
          unfold Lib.compareInt
          by_cases h1 : x < y
          · simp [h1]
          · by_cases h2 : y < x <;> simp [h1, h2]
        obtain ⟨r, hr⟩ : ∃ r, r = Lib.compareInt x y := ⟨_, rfl⟩
        rw [← hr] at hcm
        have HR := Lib.hid hr
        have HST := Lib.hid hst
        have HCM := Lib.hid hcm
        clear hxe hye hst hcm hr
        by_cases hr0 : r = 0
        · have hdr : (r != 0) = false := by simpa using hr0
          have hns : Hid (y ≤ x ∧ x ≤ y) := by
            have := HCM.out
            rw [hr0] at this
            show _ ∧ _
            by_cases c2 : x < y
            · rw [if_pos c2] at this; cases this
            · rw [if_neg c2] at this
              by_cases c : y < x
              · rw [if_pos c] at this; cases this
              · omega
          subst hr0
          go_wp2_with (first | (go_at_call 66; refine (HC.out _ _ _).mono ?_; rintro e w' ⟨rfl, rfl⟩; rw [← HR.out]) | fail)
          go_roundw
          case rel =>
            refine ⟨i + 1, by omega, by omega, by go_num, ?_, trivial⟩
            rw [HE.out, HST.out, if_neg (by have := hns.out.1; omega), if_neg (by have := hns.out.2; omega)]
          case measure => simp [intOf]; omega
        · have hdr : (r != 0) = true := by simpa using hr0
          have hfin : Hid (lexC xs ys = r) := by
            show _ = _
            rw [HE.out, HST.out]
            have := HCM.out
            by_cases c : x < y
            · rw [if_pos c] at this ⊢; exact this.symm
            · rw [if_neg c] at this ⊢
              by_cases c2 : y < x
              · rw [if_pos c2] at this ⊢; exact this.symm
              · rw [if_neg c2] at this; exact absurd this hr0
          go_wp2_with (first | (go_at_call 66; refine (HC.out _ _ _).mono ?_; rintro e w' ⟨rfl, rfl⟩; rw [← HR.out]) | fail)
          go_ret
          rw [hfin.out]
          exact ⟨rfl, rfl⟩
      · have hdy : decide ((ys.length : Int) ≤ (i : Int)) = true := decide_eq_true (by omega)
        have hfin : Hid (lexC xs ys = 1) := HE.out.trans (lexC_over hlt hly)
        obtain ⟨x, hxe⟩ : ∃ x, x = xs.getD i 0 := ⟨_, rfl⟩
        rw [← hxe] at hcx
        clear hxe
        go_wp2_with fail
        go_ret
        rw [hfin.out]
        exact ⟨rfl, rfl⟩
    · have hdl : decide (i < xs.length) = false := decide_eq_false hlt
      have hie : i = xs.length := by omega
      have he := HE.out
      rw [hie, lexC_end] at he
      have HF := Lib.hid he
      clear he hie HE
      by_cases c : xs.length < ys.length
      · have dc : decide ((xs.length : Int) < (ys.length : Int)) = true := decide_eq_true (by omega)
        have hfin : Hid (lexC xs ys = -1) := by show _ = _; rw [HF.out, if_pos c]
        go_wp2_with fail
        go_ret
        rw [hfin.out]
        exact ⟨rfl, rfl⟩
      · have dc : decide ((xs.length : Int) < (ys.length : Int)) = false := decide_eq_false (by omega)
        have hfin : Hid (lexC xs ys = 0) := by show _ = _; rw [HF.out, if_neg c]
        go_wp2_with fail
        go_ret
        rw [hfin.out]
        exact ⟨rfl, rfl⟩
end Go.Proofs.YtpmkdihencepnaaGreat

/-
  parts.fallen: slices.SortFunc off the shelf, the greatest first.
-/
namespace Go.Proofs
open Go.Shelf
shelf_lay_g SlLaysF.n6 Slsf 6 at Tryz 64 as Tryz.sortL
end Go.Proofs
namespace Go.Proofs.YtpmkdihencepnaaGreat
open Go.RowKit Go.Proofs
open Go.Shelf Go.Lib Go.Sort

/-- The comparison: the other way round. -/
def cfD (x y : Int) : Int := Lib.compareInt y x
theorem ltD (x y : Int) : ltOf cfD x y = decide (y < x) := by
  unfold ltOf cfD Lib.compareInt
  by_cases h1 : y < x
  · simp [h1]
  · by_cases h2 : x < y <;> simp [h1, h2]
theorem swoD : SWO (ltOf cfD) where
  irrefl x := by rw [ltD]; simp
  trans x y z h1 h2 := by rw [ltD] at *; simp at *; omega
  ntrans x y z h1 h2 := by rw [ltD] at *; simp at *; omega
theorem totD (x y : Int) (h1 : ltOf cfD x y = false) (h2 : ltOf cfD y x = false) : x = y := by rw [ltD] at *; simp at *; omega
theorem geD : (fun x y : Int => !ltOf cfD y x) = fun x y => decide (y ≤ x) := by
  funext x y
  rw [ltD]
  by_cases h : y ≤ x
  · have h' : ¬ x < y := by omega
    simp [h, h']
  · have h' : x < y := by omega
    simp [h, h']

set_option maxHeartbeats 1000000 in
theorem fcmp_any (x y : Int) (W : World) : Calls Tryz.prog 65 #[.int .i64 x, .int .i64 y] W fun e w' => e = .returned (.int .i64 (cfD x y)) ∧ ∃ q, w' = W.drewN q := by
  have hcon := AnyG.cmp_Compare_int Tryz.cmpL y x W
  change Calls Tryz.prog 66 _ _ _ at hcon
  unfold cfD
  generalize Lib.compareInt y x = r at hcon ⊢
  go_enter Tryz.func65, Tryz.ntmps65
  go_wp2_with (first | (go_at_call 66; refine hcon.mono ?_; rintro e w' ⟨rfl, rfl⟩) | fail)
  go_ret
  exact ⟨rfl, 0, rfl⟩

theorem fcmp_reads (blk off size : Nat) (w : World) : CmpReads Tryz.prog 65 #[] (Value.int .i64) cfD blk off size w := fun _ _ _ _ x y => fcmp_any x y _

set_option maxHeartbeats 1000000 in
/-- In order, the greatest first, in place. -/
theorem fallen_any {base n : Nat} {v : Value} {zs : List Int} (w : World) (h : w.ownsRow base 3 1 v n (ints zs)) (hn : n < 1000000) :
    Calls Tryz.prog 42 #[v] w fun e w' => e = .returned v ∧ w'.ownsRow base 3 1 v n (ints (sortD zs)) ∧ w.grownBy w' v.ownBlock := by
  rcases h.2 with ⟨e1, e2⟩ | ⟨g, cap, cur, e1, hg, hh, hc1, hc2, hc3, hc4⟩
  · subst e1 e2
    have hz : zs = [] := List.eq_nil_of_length_eq_zero (by have := h.1; rw [ints_length] at this; omega)
    subst hz
    have hS := fun W => AnyF.slices_SortFunc_none (P := Tryz.prog) (ρ := Tryz.sortL_ren) { Tryz.sortL with } none 0 (.func (.func 65) #[] #[]) W
    change ∀ W, Calls Tryz.prog 64 _ _ _ at hS
    go_enter Tryz.func42, Tryz.ntmps42
    go_wp2_with (first | (go_at_call 64; refine (hS _).mono ?_; rintro e w' ⟨rfl, rfl⟩) | fail)
    go_ret
    exact ⟨rfl, by simpa [sortD] using h, World.grownBy.refl _ _⟩
  · subst e1
    have hl : zs.length = n := by have := h.1; rw [ints_length] at this; omega
    subst hl
    have hlt : g < w.heap.size := (Array.getElem?_eq_some_iff.1 hh).1
    have eg : ∀ args w, (callFunc 65 args).run Tryz.prog w = .ok (.enter 65 args) w := enters_of Tryz.func65 (by kernel_rfl) rfl
    have hS := Any.slices_SortFunc_total Tryz.sortL (Value.int .i64) (fun _ => rfl) cfD swoD 65 #[] g 0 cap zs.toArray w eg (fcmp_reads g 0 zs.toArray.size w).lays (holds_of_blockI hh (by simpa [ints] using hc4)) hlt (by simp; omega) totD
    rw [geD] at hS
    change Calls Tryz.prog 64 _ _ _ at hS
    have hsz : zs.toArray.size = zs.length := by simp
    have htl : zs.toArray.toList = zs := by simp
    rw [hsz, htl] at hS
    have HS := Lib.hid hS
    have HO : Hid (∀ q os, (grow (putRow (Value.int .i64) (Sort.ahead w q) g 0 (sortD zs).toArray) os).ownsRow base 3 1 (.slice (some ⟨g, 0, none⟩) zs.length cap) zs.length (ints (sortD zs))) := fun q os => ownsRow_sortedI (by unfold sortD; simp) hg hh hc1 hc2 hc3
    clear hS hsz htl hh hc3 hc4
    go_enter Tryz.func42, Tryz.ntmps42
    go_wp2_with (first | (go_at_call 64; refine HS.out.mono ?_; rintro e w' ⟨rfl, q, os, rfl⟩) | fail)
    go_ret
    exact ⟨rfl, HO.out q os, grownBy_sortedI _⟩
end Go.Proofs.YtpmkdihencepnaaGreat

/-
  parts.Split: what it answers.
-/
namespace Go.Proofs.YtpmkdihencepnaaGreat
open Go.RowKit

/-- What Split and Merge answer. -/
def EulOut (e : Ending) (w : World) (B : Nat) (ok : Prop) (ys : List Int) : Prop := ∃ (k : Int) (xs : List Int) (A' : Option Addr) (c' : Nat), e = .returned (.tuple #[.slice A' xs.length c', .int .i64 k]) ∧ w.ownsRow B 3 1 (.slice A' xs.length c') xs.length (ints xs) ∧ xs.length ≤ 100000 ∧ (k = 0 → ok ∧ xs = ys) ∧ (ok → k = 0) ∧ (k ≠ 0 → xs = [])
theorem eul_bad {w : World} {B : Nat} {ok : Prop} {ys : List Int} {k : Int} (hk : k ≠ 0) (hn : ¬ ok) : EulOut (.returned (.tuple #[.slice none 0 0, .int .i64 k])) w B ok ys :=
  ⟨k, [], none, 0, rfl, World.ownsRow_nil _ _ _ _, by simp, fun e => absurd e hk, fun h => absurd h hn, fun _ => rfl⟩
theorem eul_own {w : World} {B n : Nat} {v : Value} {xs ys : List Int} {ok : Prop} (h : w.ownsRow B 3 1 v n (ints xs)) (hn : n < 100000) (hok : ok) (e : xs = ys) : EulOut (.returned (.tuple #[v, .int .i64 0])) w B ok ys := by
  obtain ⟨A, c, rfl, h1, h2⟩ := own_sliceT h
  exact ⟨0, xs, A, c, rfl, h2, by omega, fun _ => ⟨hok, e⟩, fun _ => rfl, fun h => absurd rfl h⟩
theorem split_take {p : List Int} {i : Nat} (h : i < p.length) : (p.take (i + 1)).flatMap split1 = (p.take i).flatMap split1 ++ split1 (p.getD i 0) := by
  rw [List.take_add_one, List.getElem?_eq_getElem h, List.flatMap_append, getD_get h]; simp
theorem split_len {p : List Int} (hb : ∀ x ∈ p, 1 ≤ x ∧ x ≤ 40) (hs : p.sum ≤ 40) (i : Nat) : ((p.take i).flatMap split1).length ≤ 40 := by
  have h1 := len_le_sum ((p.take i).flatMap split1) (fun y hy => by
    obtain ⟨x, hx, h2⟩ := List.mem_flatMap.1 hy
    have := hb x (List.mem_of_mem_take hx)
    exact (split1_mem this.1 this.2 h2).1)
  rw [bind_sum split1 _ (fun x hx => by have := hb x (List.mem_of_mem_take hx); exact split1_sum this.1 this.2)] at h1
  have h2 := len_le_sum (p.drop i) (fun y hy => (hb y (List.mem_of_mem_drop hy)).1)
  have h3 : p.sum = (p.take i).sum + (p.drop i).sum := by rw [← List.sum_append, List.take_append_drop]
  omega
theorem rep_snoc {l : List Int} {c : Nat} {n : Int} : l ++ List.replicate c n ++ [n] = l ++ List.replicate (c + 1) n := by
  rw [List.replicate_succ', List.append_assoc]

set_option maxRecDepth 100000 in
set_option maxHeartbeats 2000000 in
theorem split_any (A : Option Addr) (cap : Nat) (p : List Int) (w : World) (hcl : p.length ≤ 9223372036854775807) (h : Sl w w.heap.size A (ints p)) :
    Calls Tryz.prog 11 #[.slice A p.length cap] w fun e w' => EulOut e w' w.heap.size (IsPart p ∧ p.sum ≤ 40 ∧ IsUnlike p) (sortD (p.flatMap split1)) ∧ Below w.heap.size w w' := by
  have hB := Nat.le_refl w.heap.size
  have H := Lib.hid h
  go_enter Tryz.func11, Tryz.ntmps11
  go_wp2_with (first | (go_at_call 40; refine (pcheck_any A cap p _ (by omega) h).mono ?_) | fail)
  rintro e w1 ⟨rfl, rfl⟩
  have hpc := partChk_zero (p := p)
  obtain ⟨k, hk⟩ : ∃ k, k = partChk p := ⟨_, rfl⟩
  rw [← hk] at hpc ⊢
  have HPC := Lib.hid hpc
  clear hpc hk
  by_cases hk0 : k = 0
  · obtain ⟨hp, hs⟩ := HPC.out.1 hk0
    have HP := Lib.hid hp
    have HS := Lib.hid hs
    have hpl := hp.len hs
    subst hk0
    clear hp hs HPC
    go_wp2_with (first | (go_at_call 43; refine (unlike_any A cap p _ (by omega) h).mono ?_) | fail)
    rintro e w2 ⟨rfl, hb2⟩
    have HU2 := Lib.hid hb2
    clear hb2
    by_cases hu : IsUnlike p
    · have du : decide (IsUnlike p) = true := decide_eq_true hu
      have HU := Lib.hid hu
      rw [du]
      clear hu du
      go_wp2
      go_loopw [5, 19] (fun ov iv wr => ∃ (i : Nat), i ≤ p.length ∧ iv = .int .i64 i ∧ wr.ownsRow w.heap.size 3 1 ov ((p.take i).flatMap split1).length (ints ((p.take i).flatMap split1)) ∧ Below w.heap.size w wr) (fun _ iv _ => p.length - (intOf iv).toNat)
      case atStart => exact ⟨0, Nat.zero_le _, rfl, World.ownsRow_nil _ _ _ _, HU2.out⟩
      case round =>
        clear HU2
        obtain ⟨i, hi, rfl, ho, hW⟩ := hrel
        have hB1 := hW.size
        have HO := Lib.hid ho
        have HW := Lib.hid hW
        clear ho
        by_cases hip : i < p.length
        · have di : decide (i < p.length) = true := decide_eq_true hip
          have h2 := h.below hW
          obtain ⟨b, o, rfl, hb⟩ := h.addr (by omega)
          have hcx := getD_cell h2 hip
          have hxb := part_le HP.out HS.out (x := p.getD i 0) (by rw [getD_get hip]; exact List.getElem_mem hip)
          have hst := split_take hip
          have hln := split_len (fun x hx => part_le HP.out HS.out hx) HS.out (i + 1)
          obtain ⟨x, hx⟩ : ∃ x, x = p.getD i 0 := ⟨_, rfl⟩
          rw [← hx] at hcx hxb hst
          obtain ⟨X, rfl⟩ : ∃ X : Nat, x = X := ⟨x.toNat, by omega⟩
          obtain ⟨L, hL⟩ : ∃ L, L = (p.take i).flatMap split1 := ⟨_, rfl⟩
          rw [hst, ← hL] at hln
          rw [← hL] at hst HO
          have HST := Lib.hid hst
          have HLN := Lib.hid hln
          have hL40 : L.length ≤ 40 := by rw [List.length_append] at hln; omega
          have hX1 : 1 ≤ X := by omega
          have hX40 : X ≤ 40 := by omega
          clear hx hst hln hL hxb h2 hW
          go_wp2
          go_loop [7, 8] (fun nv kv => ∃ (n j : Nat), nv = .int .i64 n ∧ kv = .int .i64 ((2 ^ j : Nat) : Int) ∧ n * 2 ^ j = X ∧ 1 ≤ n) (fun nv _ => (intOf nv).toNat)
          case atStart => exact ⟨X, 0, rfl, rfl, by simp, hX1⟩
          case round =>
            obtain ⟨n, j, rfl, rfl, hnj, hn1⟩ := hrel
            have h2j : 2 ^ j ≤ n * 2 ^ j := Nat.le_mul_of_pos_left _ (by omega)
            have hn40 : n ≤ n * 2 ^ j := Nat.le_mul_of_pos_right _ (Nat.two_pow_pos _)
            have hj6 : j < 6 := by
              apply Classical.byContradiction
              intro hn
              have : 2 ^ 6 ≤ 2 ^ j := Nat.pow_le_pow_right (by omega) (by omega)
              omega
            rw [hnj] at h2j hn40
            have hpj : 0 < 2 ^ j := Nat.two_pow_pos _
            obtain ⟨K, hK⟩ : ∃ K, K = 2 ^ j := ⟨_, rfl⟩
            have HK := Lib.hid hK
            have HNJ := Lib.hid hnj
            rw [← hK] at h2j hpj ⊢
            clear hK hnj
            by_cases hn2 : n % 2 = 0
            · obtain ⟨m, hm⟩ : ∃ m, m = n / 2 := ⟨_, rfl⟩
              have d1 : ((n : Int).tmod 2) = 0 := by rw [Int.tmod_eq_emod_of_nonneg (by omega)]; omega
              have d2 : ((n : Int).tdiv 2) = (m : Int) := by rw [Int.tdiv_eq_ediv_of_nonneg (by omega)]; omega
              have d3 : Hid (n = 2 * m) := by show _ = _; omega
              have hm40 : m ≤ 40 := by omega
              have hm1 : 1 ≤ m := by omega
              clear hm hn2
              go_wp2
              go_round
              case rel => exact ⟨m, j + 1, rfl, by rw [Nat.pow_succ, ← HK.out]; congr 1; omega, by rw [Nat.pow_succ, ← HNJ.out, d3.out]; rw [Nat.mul_comm (2 ^ j) 2, ← Nat.mul_assoc, Nat.mul_comm m 2], hm1⟩
              case measure => simp [intOf]; have := d3.out; omega
            · have d1 : ((n : Int).tmod 2) = 1 := by rw [Int.tmod_eq_emod_of_nonneg (by omega)]; omega
              have hXe : Hid (split1 ((X : Nat) : Int) = List.replicate K (n : Int)) := by
                show _ = _
                have hu1 := uni_all n (by omega) j hj6 (by omega) (by rw [HNJ.out]; omega)
                rw [HNJ.out] at hu1
                unfold split1
                rw [Int.toNat_natCast, hu1.1, hu1.2, HK.out]
              have hK40 : L.length + K ≤ 40 := by
                have := HLN.out
                rw [hXe.out, List.length_append, List.length_replicate] at this
                exact this
              clear hn2 HNJ HK
              go_wp2
              go_loopw [5, 31] (fun ov cv wz => ∃ (c : Nat), c ≤ K ∧ cv = .int .i64 c ∧ wz.ownsRow w.heap.size 3 1 ov (L ++ List.replicate c (n : Int)).length (ints (L ++ List.replicate c (n : Int))) ∧ Below w.heap.size w wz) (fun _ cv _ => K - (intOf cv).toNat)
              case atStart => exact ⟨0, Nat.zero_le _, rfl, by simpa using HO.out, HW.out⟩
              case round =>
                obtain ⟨w9, rfl⟩ : ∃ w9, w9 = wr := ⟨_, rfl⟩
                clear HO HW
                obtain ⟨c, hcK, rfl, ho, hW⟩ := hrel
                have hB2 := hW.size
                have HO := Lib.hid ho
                have HW := Lib.hid hW
                have hlc : (L ++ List.replicate c (n : Int)).length ≤ 80 := by rw [List.length_append, List.length_replicate]; omega
                obtain ⟨M, hM⟩ : ∃ M, M = L ++ List.replicate c (n : Int) := ⟨_, rfl⟩
                rw [← hM] at HO hlc
                have HMM := Lib.hid hM
                clear ho hW hM
                by_cases hck : c < K
                · have dc : decide (c < K) = true := decide_eq_true hck
                  have hnx : Hid (M ++ [(n : Int)] = L ++ List.replicate (c + 1) (n : Int)) := by show _ = _; rw [HMM.out, rep_snoc]
                  go_wp2_with (first | (at_builtin; refine wpList_app1 rfl (.tmp 33) (.tmp 35) rfl rfl (n : Int) HO.out rfl (by omega) hB2 (fun g2 c2 w6 hl6 hb6 => ?_)) | fail)
                  go_roundw
                  case rel => exact ⟨c + 1, by omega, by go_num, by rw [← hnx.out, List.length_append]; exact hl6, HW.out.trans hb6⟩
                  case measure => simp [intOf]; omega
                · have dc : decide (c < K) = false := decide_eq_false hck
                  have hfin : Hid (M = (p.take (i + 1)).flatMap split1) := by show _ = _; rw [HMM.out, HST.out, hXe.out, show c = K by omega]
                  go_wp2
                  go_roundw
                  case rel => exact ⟨i + 1, by omega, by go_num, by rw [← hfin.out]; exact HO.out, HW.out⟩
                  case measure => simp [intOf]; omega
        · have di : decide (i < p.length) = false := decide_eq_false hip
          have hall : p.take i = p := List.take_of_length_le (by omega)
          have hln := split_len (fun x hx => part_le HP.out HS.out hx) HS.out p.length
          rw [List.take_length] at hln
          rw [hall] at HO
          obtain ⟨L, hL⟩ : ∃ L, L = p.flatMap split1 := ⟨_, rfl⟩
          rw [← hL] at HO hln
          have HL := Lib.hid hL
          clear hall hL
          go_wp2_with (first | (go_at_call 42; refine (fallen_any _ HO.out (by omega)).mono ?_) | fail)
          rintro e w7 ⟨rfl, ho7, hg7⟩
          have hW7 := HW.out.grown hg7 hB1 (fun k hk => (HO.out.lt k hk).1)
          have HFN := Lib.hid (eul_own (ok := IsPart p ∧ p.sum ≤ 40 ∧ IsUnlike p) (ys := sortD (p.flatMap split1)) ho7 (by omega) ⟨HP.out, HS.out, HU.out⟩ (by rw [HL.out]))
          clear ho7 hg7
          go_wp2
          go_ret2
          exact ⟨HFN.out, hW7⟩
    · have du : decide (IsUnlike p) = false := decide_eq_false hu
      have HU := Lib.hid hu
      rw [du]
      clear hu du
      go_wp2
      go_ret2
      exact ⟨eul_bad (by decide) (fun hh => HU.out hh.2.2), HU2.out⟩
  · have dk : (k != 0) = true := by simpa using hk0
    have HK0 := Lib.hid hk0
    go_wp2
    go_ret2
    exact ⟨eul_bad HK0.out (fun hh => HK0.out (HPC.out.2 ⟨hh.1, hh.2.1⟩)), Below.refl _ _⟩
end Go.Proofs.YtpmkdihencepnaaGreat
