/-
  parts.flipped, Conjugate, Size, both, Dominates: what they answer.
-/
import Derived.Test.YtdmpbbgcifodeaaPart1W
import Derived.Test.YtdmpbbgcifodeaaFrankW
import Derived.Test.YtdmpbbgcifodeaaFrobM
namespace Go.Proofs.Ytdmpbbgcifodeaa
open Go.RowKit

theorem flip_snoc (p : List Int) (j : Nat) : (List.range j).map (fun j => (over p j : Int)) ++ [(over p j : Int)] = (List.range (j + 1)).map (fun j => (over p j : Int)) := by
  simp [List.range_succ]

set_option maxHeartbeats 1000000 in
theorem flipped_any (A : Option Addr) (cap : Nat) (p : List Int) (w : World) (hp : IsPart p) (hs : p.sum ≤ 40) (h : Sl w w.heap.size A (ints p)) :
    Calls Try.prog 62 #[.slice A p.length cap] w fun e w' => ∃ v, e = .returned v ∧ w'.ownsRow w.heap.size 3 1 v (flipOf p).length (ints (flipOf p)) ∧ Below w.heap.size w w' := by
  have hB := Nat.le_refl w.heap.size
  have hlen := hp.len hs
  have hfl : Hid ((flipOf p).length = (p.getD 0 0).toNat) := flipOf_length p
  have hh0 := hp.nonneg 0
  have hh : p.getD 0 0 ≤ 40 := by
    by_cases c : 0 < p.length
    · have := part_le_sum hp c; omega
    · rw [getD_out (by omega)]; omega
  obtain ⟨m, hm⟩ : ∃ m : Nat, p.getD 0 0 = m := ⟨(p.getD 0 0).toNat, by omega⟩
  have hmm : m ≤ 40 := by omega
  have HM := Lib.hid hm
  have HP := Lib.hid hp
  have HF : Hid (flipOf p = (List.range m).map (fun j => (over p j : Int))) := by show _ = _; unfold flipOf; rw [hm]; rfl
  have HZ : Hid (p.length = 0 → m = 0) := fun h0 => by rw [getD_out (by omega)] at hm; omega
  clear hp hs hh0 hh hm
  go_enter Try.func62, Try.ntmps62
  go_wp2
  go_loopw [3, 4] (fun ov jv wr => ∃ j : Nat, j ≤ m ∧ jv = .int .i64 j ∧ wr.ownsRow w.heap.size 3 1 ov j (ints ((List.range j).map (fun j => (over p j : Int)))) ∧ Below w.heap.size w wr) (fun _ jv _ => m - (intOf jv).toNat)
  case atStart => exact ⟨0, by omega, rfl, World.ownsRow_nil _ _ _ _, Below.refl _ _⟩
  case round =>
    obtain ⟨j, hj, rfl, hown, hW⟩ := hrel
    have HO := Lib.hid hown
    clear hown
    have hsn := flip_snoc p j
    by_cases hn : 0 < p.length
    · have hd0 : decide (0 < p.length) = true := decide_eq_true hn
      obtain ⟨b, o, rfl, hb⟩ := h.addr hn
      have hr := h.below hW
      have hcx := getD_cell hr hn
      rw [HM.out, Nat.add_zero] at hcx
      by_cases hlt : j < m
      · have hd1 : decide (j < m) = true := decide_eq_true hlt
        have hol := over_le p j
        obtain ⟨t, ht⟩ : ∃ t, t = over p j := ⟨_, rfl⟩
        have HV : Hid (∀ i : Nat, (j : Int) < p.getD i 0 ↔ i < t) := by rw [ht]; exact fun i => over_lt HP.out i j
        rw [← ht] at hol hsn
        have HT := Lib.hid ht
        have HSN := Lib.hid hsn
        clear ht hsn
        go_wp2

        go_loop [5] (fun nv => ∃ n : Nat, n ≤ t ∧ nv = .int .i64 n) (fun nv => t - (intOf nv).toNat)
        case atStart => exact ⟨0, by omega, rfl⟩
        case round =>
          obtain ⟨n, hn2, rfl⟩ := hrel
          by_cases hnl : n < p.length
          · have hd2 : decide (n < p.length) = true := decide_eq_true hnl
            have hcy := getD_cell hr hnl
            have hv := HV.out n
            obtain ⟨x, hx⟩ : ∃ x, x = p.getD n 0 := ⟨_, rfl⟩
            rw [← hx] at hcy hv
            clear hx
            by_cases hxj : (j : Int) < x
            · have hd3 : decide ((j : Int) < x) = true := decide_eq_true hxj
              have hnt := hv.1 hxj
              clear hv hxj
              go_wp2
              go_round
              case rel => exact ⟨n + 1, by omega, by go_num⟩
              case measure => simp [intOf]; omega
            · have hd3 : decide ((j : Int) < x) = false := decide_eq_false hxj
              have hnt : Hid (n = t) := by show _ = _; have := mt hv.2 hxj; omega
              clear hv hxj
              go_wp2_with (first | (at_builtin; refine wpList_app1 rfl (.tmp 32) (.tmp 34) rfl rfl (n : Int) HO.out rfl (by omega) hW.size (fun g2 c2 w5 hl5 hb5 => ?_)) | fail)
              go_wp2
              go_roundw
              case rel =>
                refine ⟨j + 1, by omega, by go_num, ?_, hW.trans hb5⟩
                rw [← HSN.out, ← hnt.out]; exact hl5
              case measure => simp [intOf]; omega
          · have hd2 : decide (n < p.length) = false := decide_eq_false hnl
            have hnt : Hid (n = t) := by show _ = _; omega
            go_wp2_with (first | (at_builtin; refine wpList_app1 rfl (.tmp 32) (.tmp 34) rfl rfl (n : Int) HO.out rfl (by omega) hW.size (fun g2 c2 w5 hl5 hb5 => ?_)) | fail)
            go_wp2
            go_roundw
            case rel =>
              refine ⟨j + 1, by omega, by go_num, ?_, hW.trans hb5⟩
              rw [← HSN.out, ← hnt.out]; exact hl5
            case measure => simp [intOf]; omega
      · have hd1 : decide (j < m) = false := decide_eq_false hlt
        have hjm : Hid (j = m) := by show _ = _; omega
        clear hsn
        go_wp2
        go_ret
        exact ⟨_, rfl, by rw [hfl.out, HM.out, HF.out, Int.toNat_natCast, ← hjm.out]; exact HO.out, hW⟩
    · have hd0 : decide (0 < p.length) = false := decide_eq_false hn
      have hjm : Hid (j = m) := by show _ = _; have := HZ.out (by omega); omega
      clear hsn
      go_wp2
      go_ret
      exact ⟨_, rfl, by rw [hfl.out, HM.out, HF.out, Int.toNat_natCast, ← hjm.out]; exact HO.out, hW⟩

/-- What Conjugate answers. -/
def ConjRes (p : List Int) (e : Ending) (w : World) : Prop :=
  ∃ (k : Int) (q : List Int) (A : Option Addr) (c : Nat), e = .returned (.tuple #[.slice A q.length c, .int .i64 k]) ∧ Sl w w.heap.size A (ints q) ∧ (k ≠ 0 → q = []) ∧ (k = 0 ↔ partChk p = 0) ∧ (k = 0 → q = flipOf p)

set_option maxHeartbeats 1000000 in
theorem conj_any (A : Option Addr) (cap : Nat) (p : List Int) (w : World) (hcl : p.length ≤ 9223372036854775807) (h : Sl w w.heap.size A (ints p)) :
    Calls Try.prog 16 #[.slice A p.length cap] w fun e w' => ConjRes p e w' ∧ Below w.heap.size w w' := by
  by_cases hc : partChk p = 0
  · have HC := Lib.hid hc
    obtain ⟨hp, hs⟩ := partChk_zero.1 hc
    clear hc
    go_enter Try.func16, Try.ntmps16
    go_wp2_with fail
    refine (pcheck_any _ _ _ _ hcl h).mono ?_
    rintro e w0 ⟨rfl, rfl⟩
    rw [HC.out]
    go_wp2_with fail
    refine (flipped_any _ _ _ _ hp hs h).mono ?_
    rintro e w1 ⟨v, rfl, hown, hb⟩
    obtain ⟨A', c', rfl, _, hs', _, _⟩ := own_slice hown
    clear hown
    go_wp2
    go_ret2
    exact ⟨⟨0, flipOf p, A', c', rfl, hs', fun h => absurd rfl h, ⟨fun _ => HC.out, fun _ => rfl⟩, fun _ => rfl⟩, hb⟩
  · obtain ⟨c, hcc⟩ : ∃ c, c = partChk p := ⟨_, rfl⟩
    have hd : (c != 0) = true := by rw [hcc]; simpa using hc
    have hc' : Hid (c ≠ 0) := by rw [hcc]; exact hc
    have HC := Lib.hid hcc
    clear hc hcc
    go_enter Try.func16, Try.ntmps16
    go_wp2_with fail
    refine (pcheck_any _ _ _ _ hcl h).mono ?_
    rintro e w0 ⟨rfl, rfl⟩
    rw [← HC.out]
    go_wp2
    go_ret2
    exact ⟨⟨c, [], none, 0, rfl, Sl.nil _ _ _, fun _ => rfl, by rw [← HC.out], fun h => absurd h hc'.out⟩, Below.refl _ _⟩

set_option maxHeartbeats 800000 in
theorem psize_any (A : Option Addr) (cap : Nat) (xs : List Int) (w : World) (hcl : xs.length < 1000000) (hr : ∀ k, k ≤ xs.length → -1000000000000 ≤ sumTo xs k ∧ sumTo xs k ≤ 1000000000000) (h : Sl w w.heap.size A (ints xs)) :
    Calls Try.prog 100 #[.slice A xs.length cap] w fun e w' => e = .returned (.int .i64 xs.sum) ∧ w = w' := by
  have HR := Lib.hid hr
  clear hr
  go_enter Try.func100, Try.ntmps100
  go_wp2
  go_loop [3, 8] (fun s i => ∃ k : Nat, k ≤ xs.length ∧ i = .int .i64 k ∧ s = .int .i64 (sumTo xs k)) (fun _ i => xs.length - (intOf i).toNat)
  case atStart => exact ⟨0, by omega, rfl, by simp [sumTo]⟩
  case round =>
    obtain ⟨k, hk, rfl, rfl⟩ := hrel
    by_cases hlt : k < xs.length
    · obtain ⟨b, o, rfl, hb, hc0⟩ := h.at_ hlt
      have hs1 := HR.out k hk
      have hs2 := HR.out (k + 1) (by omega)
      have hs := sumTo_succ hlt
      obtain ⟨x, hx⟩ : ∃ x, x = xs[k] := ⟨_, rfl⟩
      obtain ⟨s, hss⟩ : ∃ s, s = sumTo xs k := ⟨_, rfl⟩
      rw [← hx] at hc0 hs
      rw [← hss] at hs hs1 ⊢
      rw [hs] at hs2
      have HS := Lib.hid hs
      have HX := Lib.hid hx
      have HSS := Lib.hid hss
      clear hs hx hss
      go_wp2
      go_round
      case rel => exact ⟨k + 1, by omega, by go_num, by rw [HS.out]⟩
      case measure => simp [intOf]; omega
    · obtain rfl : k = xs.length := by omega
      go_wp2
      go_ret
      exact ⟨by simp [sumTo], rfl⟩

theorem part_sums {p : List Int} (h : IsPart p) (hs : p.sum ≤ 40) : ∀ k, k ≤ p.length → -1000000000000 ≤ sumTo p k ∧ sumTo p k ≤ 1000000000000 := fun k _ => by
  have := sumTo_le h k
  omega

def bothChk (a b : List Int) : Int := if partChk a = 0 then (if partChk b = 0 then (if a.sum = b.sum then 0 else 3) else partChk b) else partChk a
theorem bothChk_zero {a b : List Int} : bothChk a b = 0 ↔ partChk a = 0 ∧ partChk b = 0 ∧ a.sum = b.sum := by
  unfold bothChk
  by_cases h1 : partChk a = 0 <;> by_cases h2 : partChk b = 0 <;> by_cases h3 : a.sum = b.sum <;> simp [h1, h2, h3]

set_option maxHeartbeats 1000000 in
theorem both_any (A A' : Option Addr) (cap cap' : Nat) (a b : List Int) (w : World) (hcl : a.length ≤ 9223372036854775807) (hcl' : b.length ≤ 9223372036854775807) (h : Sl w w.heap.size A (ints a)) (h' : Sl w w.heap.size A' (ints b)) :
    Calls Try.prog 64 #[.slice A a.length cap, .slice A' b.length cap'] w fun e w' => e = .returned (.int .i64 (bothChk a b)) ∧ Below w.heap.size w w' := by
  have HB : Hid (∀ x, x = bothChk a b → x = if partChk a = 0 then (if partChk b = 0 then (if a.sum = b.sum then 0 else 3) else partChk b) else partChk a) := fun x hx => hx
  obtain ⟨x, hx⟩ : ∃ x, x = partChk a := ⟨_, rfl⟩
  obtain ⟨y, hy⟩ : ∃ y, y = partChk b := ⟨_, rfl⟩
  obtain ⟨z, hz⟩ : ∃ z, z = bothChk a b := ⟨_, rfl⟩
  rw [← hz]
  have hz' := HB.out z hz
  rw [← hx, ← hy] at hz'
  have HX := Lib.hid hx
  have HY := Lib.hid hy
  clear hz HB hx hy
  go_enter Try.func64, Try.ntmps64
  go_wp2_with fail
  refine (pcheck_any _ _ _ _ hcl h).mono ?_
  rintro e w0 ⟨rfl, rfl⟩
  rw [← HX.out]
  go_wp2_with fail
  refine (pcheck_any _ _ _ _ hcl' h').mono ?_
  rintro e w0 ⟨rfl, rfl⟩
  rw [← HY.out]
  by_cases hx0 : x = 0
  · have hdx : (x != 0) = false := by simpa using hx0
    by_cases hy0 : y = 0
    · have hdy : (y != 0) = false := by simpa using hy0
      rw [if_pos hx0, if_pos hy0] at hz'
      obtain ⟨pa, sa⟩ := partChk_zero.1 (HX.out.symm.trans hx0)
      obtain ⟨pb, sb⟩ := partChk_zero.1 (HY.out.symm.trans hy0)
      have la := pa.len sa
      have lb := pb.len sb
      have na := part_sums pa sa
      have nb := part_sums pb sb
      have HZ := Lib.hid hz'
      clear hz' hx0 hy0 pa pb sa sb
      go_wp2_with fail
      refine (psize_any _ _ _ _ (by omega) na h).mono ?_
      rintro e w0 ⟨rfl, rfl⟩
      go_wp2_with fail
      refine (psize_any _ _ _ _ (by omega) nb h').mono ?_
      rintro e w0 ⟨rfl, rfl⟩
      obtain ⟨s, hs⟩ : ∃ s, s = a.sum := ⟨_, rfl⟩
      obtain ⟨t, ht⟩ : ∃ t, t = b.sum := ⟨_, rfl⟩
      have hz' := HZ.out
      rw [← hs, ← ht] at hz' ⊢
      by_cases hst : s = t
      · have hd : (s != t) = false := by simpa using hst
        rw [if_pos hst] at hz'
        have HZ' := Lib.hid hz'
        clear hz' hst hs ht na nb
        go_wp2
        go_ret
        exact ⟨by rw [HZ'.out]; rfl, Below.refl _ _⟩
      · have hd : (s != t) = true := by simpa using hst
        rw [if_neg hst] at hz'
        have HZ' := Lib.hid hz'
        clear hz' hst hs ht na nb
        go_wp2
        go_ret
        exact ⟨by rw [HZ'.out]; rfl, Below.refl _ _⟩
    · have hdy : (y != 0) = true := by simpa using hy0
      rw [if_pos hx0, if_neg hy0] at hz'
      have HZ := Lib.hid hz'
      clear hz' hx0 hy0
      go_wp2
      go_ret
      exact ⟨by rw [HZ.out]; rfl, Below.refl _ _⟩
  · have hdx : (x != 0) = true := by simpa using hx0
    rw [if_neg hx0] at hz'
    have HZ := Lib.hid hz'
    clear hz' hx0
    go_wp2
    go_ret
    exact ⟨by rw [HZ.out]; rfl, Below.refl _ _⟩

/-- What Dominates answers. -/
def DomRes (a b : List Int) (e : Ending) : Prop :=
  ∃ (m : Bool) (k : Int), e = .returned (.tuple #[.bool m, .int .i64 k]) ∧ (k = 0 ↔ partChk a = 0 ∧ partChk b = 0 ∧ a.sum = b.sum) ∧ (k ≠ 0 → m = false) ∧ (k = 0 → (m = true ↔ Dom a b))

theorem pre_bound {p : List Int} (h : IsPart p) (hs : p.sum ≤ 40) (k : Nat) : 0 ≤ pre p k ∧ pre p k ≤ 40 := by
  rw [pre_take]
  have := sumTo_le h k
  unfold sumTo at this
  omega

set_option maxHeartbeats 1000000 in
theorem dom_any (A A' : Option Addr) (cap cap' : Nat) (a b : List Int) (w : World) (hcl : a.length ≤ 9223372036854775807) (hcl' : b.length ≤ 9223372036854775807) (h : Sl w w.heap.size A (ints a)) (h' : Sl w w.heap.size A' (ints b)) :
    Calls Try.prog 19 #[.slice A a.length cap, .slice A' b.length cap'] w fun e w' => DomRes a b e ∧ Below w.heap.size w w' := by
  by_cases hc : bothChk a b = 0
  · obtain ⟨ca, cb, hsum⟩ := bothChk_zero.1 hc
    obtain ⟨pa, sa⟩ := partChk_zero.1 ca
    obtain ⟨pb, sb⟩ := partChk_zero.1 cb
    have la := pa.len sa
    have lb := pb.len sb
    have HC := Lib.hid hc
    have HPA := Lib.hid (pre_bound pa sa)
    have HPB := Lib.hid (pre_bound pb sb)
    have HK := Lib.hid (bothChk_zero.1 hc)
    obtain ⟨M, hM⟩ : ∃ M, M = max a.length b.length := ⟨_, rfl⟩
    have hM40 : M ≤ 40 := by omega
    have HM := Lib.hid hM
    clear hc ca cb hsum pa pb sa sb hM
    go_enter Try.func19, Try.ntmps19
    go_wp2_with fail
    refine (both_any _ _ _ _ _ _ _ hcl hcl' h h').mono ?_
    rintro e w1 ⟨rfl, hb1⟩
    rw [HC.out]
    have h := h.keep hb1
    have h' := h'.keep hb1
    go_upto_region 5 with fail
    go_cut [19, 20] (fun mv iv wz => mv = .int .i64 (M : Int) ∧ iv = .int .i64 0 ∧ wz = w1)
    case first =>
      by_cases hab : a.length < b.length
      · have hmm : M = b.length := by rw [HM.out]; omega
        subst hmm
        go_wp2
        go_meet
        exact ⟨rfl, rfl, rfl⟩
      · have hmm : M = a.length := by rw [HM.out]; omega
        subst hmm
        go_wp2
        go_meet
        exact ⟨rfl, rfl, rfl⟩
    case rest =>
      obtain ⟨rfl, rfl, rfl⟩ := hcut
      go_wp2
      go_loop [7, 20] (fun ov iv => ∃ i : Nat, i ≤ M ∧ iv = .int .i64 i ∧ ov = .int .i64 (pre a i - pre b i) ∧ ∀ k, k ≤ i → pre b k ≤ pre a k) (fun _ iv => M - (intOf iv).toNat)
      case atStart => exact ⟨0, by omega, rfl, rfl, fun k hk => by rw [show k = 0 by omega]; exact Int.le_refl _⟩
      case round =>
        obtain ⟨i, hi, rfl, rfl, hall⟩ := hrel
        have HALL := Lib.hid hall
        have hu := HPA.out i
        have hv := HPB.out i
        have hu' := HPA.out (i + 1)
        have hv' := HPB.out (i + 1)
        have hA := pre_succ a i
        have hV := pre_succ b i
        obtain ⟨x, hx⟩ : ∃ x, x = a.getD i 0 := ⟨_, rfl⟩
        obtain ⟨y, hy⟩ : ∃ x, x = b.getD i 0 := ⟨_, rfl⟩
        obtain ⟨u, huu⟩ : ∃ x, x = pre a i := ⟨_, rfl⟩
        obtain ⟨v, hvv⟩ : ∃ x, x = pre b i := ⟨_, rfl⟩
        rw [← hx, ← huu] at hA
        rw [← hy, ← hvv] at hV
        rw [← huu] at hu ⊢
        rw [← hvv] at hv ⊢
        rw [hA] at hu'
        rw [hV] at hv'
        have HA := Lib.hid hA
        have HV := Lib.hid hV
        clear hall hA hV huu hvv
        by_cases hlt : i < M
        · by_cases hia : i < a.length
          · by_cases hib : i < b.length
            · obtain ⟨b1, o1, rfl, hb1'⟩ := h.addr (by omega)
              have hca := getD_cell h hia
              rw [← hx] at hca
              obtain ⟨b2, o2, rfl, hb2'⟩ := h'.addr (by omega)
              have hcb := getD_cell h' hib
              rw [← hy] at hcb
              clear hx hy
              by_cases hneg : u - v + x - y < 0
              · have hneg' : Hid (u + x - (v + y) < 0) := by show _ < _; omega
                have hd : decide (u - v + x - y < 0) = true := decide_eq_true hneg
                clear hneg
                go_wp2
                go_ret2
                exact ⟨⟨false, 0, rfl, ⟨fun _ => HK.out, fun _ => rfl⟩, fun h => absurd rfl h, fun _ => ⟨fun h => (Bool.noConfusion h), fun hdom => by have := hdom (i + 1); rw [HA.out, HV.out] at this; have := hneg'.out; omega⟩⟩, hb1⟩
              · have hneg' : Hid (0 ≤ u + x - (v + y)) := by show _ ≤ _; omega
                have hd : decide (u - v + x - y < 0) = false := decide_eq_false hneg
                clear hneg
                go_wp2
                go_round
                case rel =>
                  refine ⟨i + 1, by omega, by go_num, ?_, fun k hk => ?_⟩
                  · rw [HA.out, HV.out]; congr 1; omega
                  · by_cases e : k = i + 1
                    · rw [e, HA.out, HV.out]; have := hneg'.out; omega
                    · exact HALL.out k (by omega)
                case measure => simp [intOf]; omega
            · obtain ⟨b1, o1, rfl, hb1'⟩ := h.addr (by omega)
              have hca := getD_cell h hia
              rw [← hx] at hca
              have hy0 : Hid (y = 0) := by show _ = _; rw [hy]; exact getD_out (by omega)
              clear hx hy
              by_cases hneg : u - v + x < 0
              · have hneg' : Hid (u + x - (v + y) < 0) := by show _ < _; have := hy0.out; omega
                have hd : decide (u - v + x < 0) = true := decide_eq_true hneg
                clear hneg
                go_wp2
                go_ret2
                exact ⟨⟨false, 0, rfl, ⟨fun _ => HK.out, fun _ => rfl⟩, fun h => absurd rfl h, fun _ => ⟨fun h => (Bool.noConfusion h), fun hdom => by have := hdom (i + 1); rw [HA.out, HV.out] at this; have := hneg'.out; omega⟩⟩, hb1⟩
              · have hneg' : Hid (0 ≤ u + x - (v + y)) := by show _ ≤ _; have := hy0.out; omega
                have hd : decide (u - v + x < 0) = false := decide_eq_false hneg
                clear hneg
                go_wp2
                go_round
                case rel =>
                  refine ⟨i + 1, by omega, by go_num, ?_, fun k hk => ?_⟩
                  · rw [HA.out, HV.out]; have := hy0.out; congr 1; omega
                  · by_cases e : k = i + 1
                    · rw [e, HA.out, HV.out]; have := hneg'.out; omega
                    · exact HALL.out k (by omega)
                case measure => simp [intOf]; omega
          · have hib : i < b.length := by have := HM.out; omega
            have hx0 : Hid (x = 0) := by show _ = _; rw [hx]; exact getD_out (by omega)
            obtain ⟨b2, o2, rfl, hb2'⟩ := h'.addr (by omega)
            have hcb := getD_cell h' hib
            rw [← hy] at hcb
            clear hx hy
            by_cases hneg : u - v - y < 0
            · have hneg' : Hid (u + x - (v + y) < 0) := by show _ < _; have := hx0.out; omega
              have hd : decide (u - v - y < 0) = true := decide_eq_true hneg
              clear hneg
              go_wp2
              go_ret2
              exact ⟨⟨false, 0, rfl, ⟨fun _ => HK.out, fun _ => rfl⟩, fun h => absurd rfl h, fun _ => ⟨fun h => (Bool.noConfusion h), fun hdom => by have := hdom (i + 1); rw [HA.out, HV.out] at this; have := hneg'.out; omega⟩⟩, hb1⟩
            · have hneg' : Hid (0 ≤ u + x - (v + y)) := by show _ ≤ _; have := hx0.out; omega
              have hd : decide (u - v - y < 0) = false := decide_eq_false hneg
              clear hneg
              go_wp2
              go_round
              case rel =>
                refine ⟨i + 1, by omega, by go_num, ?_, fun k hk => ?_⟩
                · rw [HA.out, HV.out]; have := hx0.out; congr 1; omega
                · by_cases e : k = i + 1
                  · rw [e, HA.out, HV.out]; have := hneg'.out; omega
                  · exact HALL.out k (by omega)
              case measure => simp [intOf]; omega
        · have hfin : Hid (Dom a b) := dom_of (fun k hk => HALL.out k (by have := HM.out; omega))
          clear hx hy
          go_wp2
          go_ret2
          exact ⟨⟨true, 0, rfl, ⟨fun _ => HK.out, fun _ => rfl⟩, fun h => absurd rfl h, fun _ => ⟨fun _ => hfin.out, fun _ => rfl⟩⟩, hb1⟩
  · obtain ⟨c, hcc⟩ : ∃ c, c = bothChk a b := ⟨_, rfl⟩
    have hd : (c != 0) = true := by rw [hcc]; simpa using hc
    have hc' : Hid (c ≠ 0) := by rw [hcc]; exact hc
    have HC := Lib.hid hcc
    clear hc hcc
    go_enter Try.func19, Try.ntmps19
    go_wp2_with fail
    refine (both_any _ _ _ _ _ _ _ hcl hcl' h h').mono ?_
    rintro e w1 ⟨rfl, hb1⟩
    rw [← HC.out]
    go_wp2
    go_ret2
    exact ⟨⟨false, c, rfl, by rw [HC.out]; exact bothChk_zero, fun _ => rfl, fun h => absurd h hc'.out⟩, hb1⟩

end Go.Proofs.Ytdmpbbgcifodeaa
