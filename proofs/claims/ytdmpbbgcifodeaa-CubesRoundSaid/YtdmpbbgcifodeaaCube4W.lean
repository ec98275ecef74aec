/-
  cubes.Rest, Volume: what they answer.
-/
import Derived.Test.YtdmpbbgcifodeaaCube3W
namespace Go.Proofs.Ytdmpbbgcifodeaa
open Go.RowKit

theorem psum_bound {f : Nat → Int} {m : Int} : ∀ n : Nat, (∀ i, i < n → 0 ≤ f i ∧ f i ≤ m) → 0 ≤ psum f n ∧ psum f n ≤ n * m
  | 0, _ => by simp [psum]
  | n + 1, h => by
    have ih := psum_bound n (fun i hi => h i (by omega))
    have h1 := h n (by omega)
    simp only [psum]
    rw [Int.natCast_add, Int.add_mul]
    simp
    omega
theorem psum_succ (f : Nat → Int) (n : Nat) : psum f (n + 1) = psum f n + f n := rfl

set_option maxRecDepth 100000 in
set_option maxHeartbeats 2000000 in
theorem rest_any (A : Option Addr) (cap : Nat) (p : List (List Int)) (h : Int) (w : World) (hcl : p.length ≤ 9223372036854775807) (hr : SR w w.heap.size A p) :
    Calls Try.prog 46 #[.slice A p.length cap, .int .i64 h] w fun e w' => (∃ (k : Int) (rows : List (List Int)), CubeOut e w' k rows ∧ ChkPile p h k ∧ (k ≠ 0 → rows = []) ∧ (k = 0 → rows = restOf p p.length (p.getD 0 []).length h.toNat)) ∧ Below w.heap.size w w' := by
  go_enter Try.func46, Try.ntmps46
  go_wp2_with fail
  refine (ccheck_any A cap p h w hcl hr).mono ?_
  rintro e w0 ⟨⟨k, rfl, hk⟩, rfl⟩
  rcases hk with ⟨hok, rfl⟩ | ⟨hok, rfl⟩
  · have HOK := Lib.hid hok
    obtain ⟨H, hH, hp⟩ := hok
    subst hH
    have hr8 := hp.r1
    have hc8 := hp.c1
    have hh8 := hp.h1
    obtain ⟨b, o, rfl, hb⟩ := hr.addr (by omega)
    obtain ⟨c, hc⟩ : ∃ c, c = (p.getD 0 []).length := ⟨_, rfl⟩
    rw [← hc] at hp hc8
    have HC := Lib.hid hc
    have HP := Lib.hid hp
    clear hc hp
    go_wp2
    go_loopw [7, 8] (fun ov iv wr => ∃ (m : Nat) (hs : List Value), m ≤ p.length ∧ iv = .int .i64 ((m : Int) - 1) ∧ OwnM wr w.heap.size ov hs ((restOf p p.length c H).take (p.length - m)) ∧ Below w.heap.size w wr) (fun _ iv _ => (intOf iv + 1).toNat)
    case atStart => exact ⟨p.length, [], Nat.le_refl _, rfl, by rw [Nat.sub_self, List.take_zero]; exact OwnM.nil _ _, Below.refl _ _⟩
    case round =>
      obtain ⟨m, hs, hm0, rfl, hm, hW⟩ := hrel
      obtain ⟨w9, rfl⟩ : ∃ w9, w9 = wr := ⟨_, rfl⟩
      have HM := Lib.hid hm
      have hsz := hW.size
      clear hm
      cases m with
      | succ m =>
        have e1 : ((m + 1 : Nat) : Int) - 1 = (m : Int) := by omega
        rw [e1]
        have hd1 : decide ((0 : Int) ≤ (m : Int)) = true := decide_eq_true (by omega)
        have hml : m < p.length := by omega
        obtain ⟨Ai, ci, hci, hri, _⟩ := hr.at_ (r := m) hml
        have hli := HP.out.rowlen hml
        rw [hli] at hci
        obtain ⟨b1, o1, rfl, hb1⟩ := hri.addr (by rw [hli]; omega)
        have HCI := Lib.hid hci
        have hci := (hW.cell (p := ⟨b, o + m, none⟩) hb).trans hci
        have HLI := Lib.hid hli
        clear hli e1
        go_wp2
        go_loopw [9, 10] (fun rv jv wz => ∃ q : Nat, q ≤ c ∧ jv = .int .i64 ((q : Int) - 1) ∧ wz.ownsRow w9.heap.size 3 1 rv (c - q) (ints (((List.range c).map (fun j => (H : Int) - ent p m (c - 1 - j))).take (c - q))) ∧ Below w9.heap.size w9 wz) (fun _ jv _ => (intOf jv + 1).toNat)
        case atStart => exact ⟨c, Nat.le_refl _, rfl, by rw [Nat.sub_self, List.take_zero]; exact World.ownsRow_nil _ _ _ _, Below.refl _ _⟩
        case round =>
          clear hci
          obtain ⟨q, hq, rfl, hown, hW2⟩ := hrel
          have HO := Lib.hid hown
          have hWw := hW.trans (hW2.mono hsz)
          clear hown
          cases q with
          | succ q =>
            have e2 : ((q + 1 : Nat) : Int) - 1 = (q : Int) := by omega
            rw [e2]
            have hd2 : decide ((0 : Int) ≤ (q : Int)) = true := decide_eq_true (by omega)
            have hqc : q < c := by omega
            have hci := (hWw.cell (p := ⟨b, o + m, none⟩) hb).trans HCI.out
            have hcx := getD_cell (hri.below hWw) (k := q) (by rw [HLI.out]; exact hqc)
            rw [show (p.getD m []).getD q 0 = ent p m q from rfl] at hcx
            have hbd := HP.out.bd m q hml hqc
            have hct := col_take (r := c) (i := c - (q + 1)) (f := fun j => (H : Int) - ent p m (c - 1 - j)) (by omega)
            rw [show c - 1 - (c - (q + 1)) = q by omega, show c - (q + 1) + 1 = c - q by omega] at hct
            have HCT := Lib.hid hct
            obtain ⟨N, hN⟩ : ∃ N, N = c - (q + 1) := ⟨_, rfl⟩
            have hNq : Hid (N + 1 = c - q) := by show _ = _; omega
            have HON := HO.out
            rw [← hN] at HON
            have HO2 := Lib.hid HON
            obtain ⟨x, hx⟩ : ∃ x, x = ent p m q := ⟨_, rfl⟩
            rw [← hx] at hcx hbd
            have HX := Lib.hid hx
            have HN := Lib.hid hN
            have hN8 : N < 1000000 := by omega
            clear hx hct HON hN e2
            go_wp2_with (first | (at_builtin; refine wpList_app1 rfl (.tmp 34) (.tmp 44) rfl rfl ((H : Int) - x) HO2.out rfl hN8 hW2.size (fun g2 c2 w5 hl5 hb5 => ?_)) | fail)
            have hl6 : w5.ownsRow w9.heap.size 3 1 (.slice (some ⟨g2, 0, none⟩) (N + 1) c2) (c - q) (ints (((List.range c).map (fun j => (H : Int) - ent p m (c - 1 - j))).take (c - q))) := by
              have hq := hl5
              rw [HX.out, HN.out, HCT.out, ← HN.out, hNq.out] at hq
              rw [hNq.out]
              exact hq
            have HL6 := Lib.hid hl6
            clear hl5 hl6
            go_wp2
            go_roundw
            case rel => exact ⟨q, by omega, rfl, HL6.out, hW2.trans hb5⟩
            case measure => simp [intOf]
          | zero =>
            have e2 : ((0 : Nat) : Int) - 1 = -1 := rfl
            rw [e2]
            have hO := HO.out
            rw [Nat.sub_zero, List.take_of_length_le (by simp)] at hO
            obtain ⟨gr, crr, hv, _, _⟩ := hO.form (by omega)
            subst hv
            have HO1 := Lib.hid hO
            clear hO HO e2
            go_wp2_with (first | (at_builtin; refine wpList_pushRow (v := u7) (u := .slice (some ⟨gr, 0, none⟩) c crr) rfl (.tmp 46) (.tmp 48) rfl rfl rfl HM.out hW2 (by simp) HO1.out hWw hsz (p.length - (m + 1)) (by rw [List.length_take]; unfold restOf; rw [gmat_length]; omega) (by omega) (fun g2 c2 w5 hs5 hm5 hb5 hz5 => ?_)) | fail)
            have hts := gmat_take (r := p.length) (c := c) (j := p.length - (m + 1)) (f := fun i j => (H : Int) - ent p (p.length - 1 - i) (c - 1 - j)) (by omega)
            rw [show p.length - (m + 1) + 1 = p.length - m by omega] at hts
            have hm5' : OwnM w5 w.heap.size (.slice (some ⟨g2, 0, none⟩) (p.length - (m + 1) + 1) c2) hs5 ((restOf p p.length c H).take (p.length - m)) := by
              have hq := hm5
              unfold restOf at hq ⊢
              rw [← hts, show p.length - 1 - (p.length - (m + 1)) = m by omega]
              exact hq
            have HM5 := Lib.hid hm5'
            clear hm5 hm5' hts
            go_wp2
            go_roundw
            case rel => exact ⟨m, hs5, by omega, rfl, HM5.out, hb5⟩
            case measure => simp [intOf]
      | zero =>
        have e1 : ((0 : Nat) : Int) - 1 = -1 := rfl
        rw [e1]
        have hm := HM.out
        rw [Nat.sub_zero, List.take_of_length_le (by unfold restOf; rw [gmat_length]; exact Nat.le_refl _)] at hm
        have HM' := Lib.hid hm
        clear hm e1
        go_wp2
        go_ret2
        exact ⟨⟨0, _, cubeOut_own HM'.out 0, .inl ⟨HOK.out, rfl⟩, fun e => absurd rfl e, fun _ => by rw [← HC.out, Int.toNat_natCast]⟩, hW⟩
  · have HOK := Lib.hid hok
    clear hok
    go_wp2
    go_ret2
    exact ⟨⟨1, [], cubeOut_nil _ 1, .inr ⟨HOK.out, rfl⟩, fun _ => rfl, fun e => (by cases e)⟩, Below.refl _ _⟩

set_option maxHeartbeats 2000000 in
theorem vol_any (A : Option Addr) (cap : Nat) (p : List (List Int)) (h : Int) (w : World) (hcl : p.length ≤ 9223372036854775807) (hr : SR w w.heap.size A p) :
    Calls Try.prog 50 #[.slice A p.length cap, .int .i64 h] w fun e w' => (∃ k v : Int, e = .returned (.tuple #[.int .i64 v, .int .i64 k]) ∧ ChkPile p h k ∧ (k = 0 → v = volOf p p.length (p.getD 0 []).length)) ∧ w = w' := by
  go_enter Try.func50, Try.ntmps50
  go_wp2_with fail
  refine (ccheck_any A cap p h w hcl hr).mono ?_
  rintro e w0 ⟨⟨k, rfl, hk⟩, rfl⟩
  rcases hk with ⟨hok, rfl⟩ | ⟨hok, rfl⟩
  · have HOK := Lib.hid hok
    obtain ⟨H, hH, hp⟩ := hok
    subst hH
    have hr8 := hp.r1
    have hc8 := hp.c1
    have hh8 := hp.h1
    obtain ⟨b, o, rfl, hb⟩ := hr.addr (by omega)
    obtain ⟨c, hc⟩ : ∃ c, c = (p.getD 0 []).length := ⟨_, rfl⟩
    rw [← hc] at hp hc8
    have HC := Lib.hid hc
    have HP := Lib.hid hp
    have HR : Hid (∀ i, i < p.length → ∀ j, j ≤ c → 0 ≤ psum (fun b => ent p i b) j ∧ psum (fun b => ent p i b) j ≤ 64) := fun i hi j hj => by
      have := psum_bound (f := fun b => ent p i b) (m := 8) j (fun b hb => by have := hp.bd i b hi (by omega); omega)
      omega
    have HT : Hid (∀ i, i ≤ p.length → 0 ≤ psum (fun a => psum (fun b => ent p a b) c) i ∧ psum (fun a => psum (fun b => ent p a b) c) i ≤ 1000) := fun i hi => by
      have := psum_bound (f := fun a => psum (fun b => ent p a b) c) (m := 64) i (fun a ha => HR.out a (by omega) c (Nat.le_refl _))
      omega
    clear hc hp
    go_wp2
    go_loop [7, 20] (fun sv iv => ∃ i : Nat, i ≤ p.length ∧ iv = .int .i64 i ∧ sv = .int .i64 (psum (fun a => psum (fun b => ent p a b) c) i)) (fun _ iv => p.length - (intOf iv).toNat)
    case atStart => exact ⟨0, by omega, rfl, rfl⟩
    case round =>
      obtain ⟨i, hi, rfl, rfl⟩ := hrel
      by_cases hlt : i < p.length
      · have hd1 : decide (i < p.length) = true := decide_eq_true hlt
        obtain ⟨Ai, ci, hci, hri, _⟩ := hr.at_ (r := i) hlt
        have hli := HP.out.rowlen hlt
        rw [hli] at hci
        obtain ⟨b1, o1, rfl, hb1⟩ := hri.addr (by rw [hli]; omega)
        have HLI := Lib.hid hli
        clear hli
        obtain ⟨S, hS⟩ : ∃ S, S = psum (fun a => psum (fun b => ent p a b) c) i := ⟨_, rfl⟩
        have hSb := HT.out i hi
        rw [← hS] at hSb ⊢
        have HS := Lib.hid hS
        clear hS
        go_wp2
        go_loop [7, 26] (fun sv jv => ∃ j : Nat, j ≤ c ∧ jv = .int .i64 j ∧ sv = .int .i64 (S + psum (fun b => ent p i b) j)) (fun _ jv => c - (intOf jv).toNat)
        case atStart => exact ⟨0, by omega, rfl, by simp [psum]⟩
        case round =>
          obtain ⟨j, hj, rfl, rfl⟩ := hrel
          by_cases hlt2 : j < c
          · have hd2 : decide (j < c) = true := decide_eq_true hlt2
            have hcx := getD_cell hri (k := j) (by rw [HLI.out]; exact hlt2)
            rw [show (p.getD i []).getD j 0 = ent p i j from rfl] at hcx
            have hbd := HP.out.bd i j hlt hlt2
            have hps := psum_succ (fun b => ent p i b) j
            have hr1 := HR.out i hlt j hj
            obtain ⟨x, hx⟩ : ∃ x, x = ent p i j := ⟨_, rfl⟩
            obtain ⟨T, hT⟩ : ∃ T, T = psum (fun b => ent p i b) j := ⟨_, rfl⟩
            rw [← hx] at hcx hbd
            rw [← hT] at hr1 ⊢
            have hps2 : psum (fun b => ent p i b) (j + 1) = T + x := by rw [hps, hT, hx]
            have HPS := Lib.hid hps2
            clear hx hT hps hps2
            go_wp2
            go_round
            case rel => exact ⟨j + 1, by omega, by go_num, by rw [HPS.out, Int.add_assoc]⟩
            case measure => simp [intOf]; omega
          · have hd2 : decide (j < c) = false := decide_eq_false hlt2
            obtain rfl : j = c := by omega
            have hps := psum_succ (fun a => psum (fun b => ent p a b) j) i
            rw [← HS.out] at hps
            have HPS := Lib.hid hps
            clear hps
            go_wp2
            go_round
            case rel => exact ⟨i + 1, by omega, by go_num, by rw [HPS.out]⟩
            case measure => simp [intOf]; omega
      · have hd1 : decide (i < p.length) = false := decide_eq_false hlt
        obtain rfl : i = p.length := by omega
        have hfin : Hid (psum (fun a => psum (fun b => ent p a b) c) p.length = volOf p p.length (p.getD 0 []).length) := by show _ = _; rw [← HC.out]; rfl
        go_wp2
        go_ret2
        exact ⟨⟨0, _, rfl, .inl ⟨HOK.out, rfl⟩, fun _ => by simpa using hfin.out⟩, rfl⟩
  · have HOK := Lib.hid hok
    clear hok
    go_wp2
    go_ret2
    exact ⟨⟨1, 0, rfl, .inr ⟨HOK.out, rfl⟩, fun e => (by cases e)⟩, rfl⟩

end Go.Proofs.Ytdmpbbgcifodeaa
