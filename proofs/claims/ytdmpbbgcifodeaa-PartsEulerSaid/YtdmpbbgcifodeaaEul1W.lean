/-
  parts.Split: what it answers.
-/
import Derived.Test.YtdmpbbgcifodeaaEulS
namespace Go.Proofs.Ytdmpbbgcifodeaa
open Go.RowKit

/-- What Split and Merge answer. -/
def EulOut (e : Ending) (w : World) (ok : Prop) (ys : List Int) : Prop := ∃ (k : Int) (xs : List Int) (A' : Option Addr) (c' : Nat), e = .returned (.tuple #[.slice A' xs.length c', .int .i64 k]) ∧ Sl w w.heap.size A' (ints xs) ∧ xs.length ≤ 1000000 ∧ (k = 0 → ok ∧ xs = ys) ∧ (ok → k = 0) ∧ (k ≠ 0 → xs = [])
theorem eul_bad {w : World} {ok : Prop} {ys : List Int} {k : Int} (hk : k ≠ 0) (hn : ¬ ok) : EulOut (.returned (.tuple #[.slice none 0 0, .int .i64 k])) w ok ys :=
  ⟨k, [], none, 0, rfl, Sl.nil _ _ _, by simp, fun e => absurd e hk, fun h => absurd h hn, fun _ => rfl⟩
theorem eul_own {w : World} {B n : Nat} {v : Value} {xs ys : List Int} {ok : Prop} (h : w.ownsRow B 3 1 v n (ints xs)) (hn : n < 1000000) (hok : ok) (e : xs = ys) : EulOut (.returned (.tuple #[v, .int .i64 0])) w ok ys := by
  obtain ⟨A, c, rfl, h1, h2, _, _⟩ := own_slice h
  exact ⟨0, xs, A, c, rfl, h2, by omega, fun _ => ⟨hok, e⟩, fun _ => rfl, fun h => absurd rfl h⟩
theorem split_take {p : List Int} {i : Nat} (h : i < p.length) : (p.take (i + 1)).flatMap split1 = (p.take i).flatMap split1 ++ split1 (p.getD i 0) := by
  rw [List.take_add_one, List.getElem?_eq_getElem h, List.flatMap_append, getD_get h]; simp
theorem split_len {p : List Int} (hb : ∀ x ∈ p, 1 ≤ x ∧ x ≤ 40) (hs : p.sum ≤ 40) (i : Nat) : ((p.take i).flatMap split1).length ≤ 40 := by
  have h1 := len_le_sum ((p.take i).flatMap split1) (fun y hy => by
    obtain ⟨x, hx, h2⟩ := List.mem_flatMap.1 hy
    have := hb x (List.mem_of_mem_take hx)
    exact (split1_mem this.1 this.2 h2).1)
  rw [bind_sum split1 _ (fun x hx => by have := hb x (List.mem_of_mem_take hx); exact split1_sum this.1 this.2)] at h1
  have h2 := len_le_sum (p.drop i) (fun y hy => (hb y (List.mem_of_mem_drop hy)).1)
  have h3 : p.sum = (p.take i).sum + (p.drop i).sum := by rw [← List.sum_append, List.take_append_drop]
  omega
theorem rep_snoc {l : List Int} {c : Nat} {n : Int} : l ++ List.replicate c n ++ [n] = l ++ List.replicate (c + 1) n := by
  rw [List.replicate_succ', List.append_assoc]

set_option maxRecDepth 100000 in
set_option maxHeartbeats 2000000 in
theorem split_any (A : Option Addr) (cap : Nat) (p : List Int) (w : World) (hcl : p.length ≤ 9223372036854775807) (h : Sl w w.heap.size A (ints p)) :
    Calls Try.prog 52 #[.slice A p.length cap] w fun e w' => EulOut e w' (IsPart p ∧ p.sum ≤ 40 ∧ IsUnlike p) (sortD (p.flatMap split1)) ∧ Below w.heap.size w w' := by
  have hB := Nat.le_refl w.heap.size
  have H := Lib.hid h
  go_enter Try.func52, Try.ntmps52
  go_wp2_with (first | (go_at_call 59; refine (pcheck_any A cap p _ (by omega) h).mono ?_) | fail)
  rintro e w1 ⟨rfl, rfl⟩
  have hpc := partChk_zero (p := p)
  obtain ⟨k, hk⟩ : ∃ k, k = partChk p := ⟨_, rfl⟩
  rw [← hk] at hpc ⊢
  have HPC := Lib.hid hpc
  clear hpc hk
  by_cases hk0 : k = 0
  · obtain ⟨hp, hs⟩ := HPC.out.1 hk0
    have HP := Lib.hid hp
    have HS := Lib.hid hs
    have hpl := hp.len hs
    subst hk0
    clear hp hs HPC
    go_wp2_with (first | (go_at_call 60; refine (unlike_any A cap p _ (by omega) h).mono ?_) | fail)
    rintro e w2 ⟨rfl, hb2⟩
    have HU2 := Lib.hid hb2
    clear hb2
    by_cases hu : IsUnlike p
    · have du : decide (IsUnlike p) = true := decide_eq_true hu
      have HU := Lib.hid hu
      rw [du]
      clear hu du
      go_wp2
      go_loopw [5, 19] (fun ov iv wr => ∃ (i : Nat), i ≤ p.length ∧ iv = .int .i64 i ∧ wr.ownsRow w.heap.size 3 1 ov ((p.take i).flatMap split1).length (ints ((p.take i).flatMap split1)) ∧ Below w.heap.size w wr) (fun _ iv _ => p.length - (intOf iv).toNat)
      case atStart => exact ⟨0, Nat.zero_le _, rfl, World.ownsRow_nil _ _ _ _, HU2.out⟩
      case round =>
        clear HU2
        obtain ⟨i, hi, rfl, ho, hW⟩ := hrel
        have hB1 := hW.size
        have HO := Lib.hid ho
        have HW := Lib.hid hW
        clear ho
        by_cases hip : i < p.length
        · have di : decide (i < p.length) = true := decide_eq_true hip
          have h2 := h.below hW
          obtain ⟨b, o, rfl, hb⟩ := h.addr (by omega)
          have hcx := getD_cell h2 hip
          have hxb := part_le HP.out HS.out (x := p.getD i 0) (by rw [getD_get hip]; exact List.getElem_mem hip)
          have hst := split_take hip
          have hln := split_len (fun x hx => part_le HP.out HS.out hx) HS.out (i + 1)
          obtain ⟨x, hx⟩ : ∃ x, x = p.getD i 0 := ⟨_, rfl⟩
          rw [← hx] at hcx hxb hst
          obtain ⟨X, rfl⟩ : ∃ X : Nat, x = X := ⟨x.toNat, by omega⟩
          obtain ⟨L, hL⟩ : ∃ L, L = (p.take i).flatMap split1 := ⟨_, rfl⟩
          rw [hst, ← hL] at hln
          rw [← hL] at hst HO
          have HST := Lib.hid hst
          have HLN := Lib.hid hln
          have hL40 : L.length ≤ 40 := by rw [List.length_append] at hln; omega
          have hX1 : 1 ≤ X := by omega
          have hX40 : X ≤ 40 := by omega
          clear hx hst hln hL hxb h2 hW
          go_wp2
          go_loop [7, 8] (fun nv kv => ∃ (n j : Nat), nv = .int .i64 n ∧ kv = .int .i64 ((2 ^ j : Nat) : Int) ∧ n * 2 ^ j = X ∧ 1 ≤ n) (fun nv _ => (intOf nv).toNat)
          case atStart => exact ⟨X, 0, rfl, rfl, by simp, hX1⟩
          case round =>
            obtain ⟨n, j, rfl, rfl, hnj, hn1⟩ := hrel
            have h2j : 2 ^ j ≤ n * 2 ^ j := Nat.le_mul_of_pos_left _ (by omega)
            have hn40 : n ≤ n * 2 ^ j := Nat.le_mul_of_pos_right _ (Nat.two_pow_pos _)
            have hj6 : j < 6 := by
              apply Classical.byContradiction
              intro hn
              have : 2 ^ 6 ≤ 2 ^ j := Nat.pow_le_pow_right (by omega) (by omega)
              omega
            rw [hnj] at h2j hn40
            have hpj : 0 < 2 ^ j := Nat.two_pow_pos _
            obtain ⟨K, hK⟩ : ∃ K, K = 2 ^ j := ⟨_, rfl⟩
            have HK := Lib.hid hK
            have HNJ := Lib.hid hnj
            rw [← hK] at h2j hpj ⊢
            clear hK hnj
            by_cases hn2 : n % 2 = 0
            · obtain ⟨m, hm⟩ : ∃ m, m = n / 2 := ⟨_, rfl⟩
              have d1 : ((n : Int).tmod 2) = 0 := by rw [Int.tmod_eq_emod_of_nonneg (by omega)]; omega
              have d2 : ((n : Int).tdiv 2) = (m : Int) := by rw [Int.tdiv_eq_ediv_of_nonneg (by omega)]; omega
              have d3 : Hid (n = 2 * m) := by show _ = _; omega
              have hm40 : m ≤ 40 := by omega
              have hm1 : 1 ≤ m := by omega
              clear hm hn2
              go_wp2
              go_round
              case rel => exact ⟨m, j + 1, rfl, by rw [Nat.pow_succ, ← HK.out]; congr 1; omega, by rw [Nat.pow_succ, ← HNJ.out, d3.out]; rw [Nat.mul_comm (2 ^ j) 2, ← Nat.mul_assoc, Nat.mul_comm m 2], hm1⟩
              case measure => simp [intOf]; have := d3.out; omega
            · have d1 : ((n : Int).tmod 2) = 1 := by rw [Int.tmod_eq_emod_of_nonneg (by omega)]; omega
              have hXe : Hid (split1 ((X : Nat) : Int) = List.replicate K (n : Int)) := by
                show _ = _
                have hu1 := uni_all n (by omega) j hj6 (by omega) (by rw [HNJ.out]; omega)
                rw [HNJ.out] at hu1
                unfold split1
                rw [Int.toNat_natCast, hu1.1, hu1.2, HK.out]
              have hK40 : L.length + K ≤ 40 := by
                have := HLN.out
                rw [hXe.out, List.length_append, List.length_replicate] at this
                exact this
              clear hn2 HNJ HK
              go_wp2
              go_loopw [5, 31] (fun ov cv wz => ∃ (c : Nat), c ≤ K ∧ cv = .int .i64 c ∧ wz.ownsRow w.heap.size 3 1 ov (L ++ List.replicate c (n : Int)).length (ints (L ++ List.replicate c (n : Int))) ∧ Below w.heap.size w wz) (fun _ cv _ => K - (intOf cv).toNat)
              case atStart => exact ⟨0, Nat.zero_le _, rfl, by simpa using HO.out, HW.out⟩
              case round =>
                obtain ⟨w9, rfl⟩ : ∃ w9, w9 = wr := ⟨_, rfl⟩
                clear HO HW
                obtain ⟨c, hcK, rfl, ho, hW⟩ := hrel
                have hB2 := hW.size
                have HO := Lib.hid ho
                have HW := Lib.hid hW
                have hlc : (L ++ List.replicate c (n : Int)).length ≤ 80 := by rw [List.length_append, List.length_replicate]; omega
                obtain ⟨M, hM⟩ : ∃ M, M = L ++ List.replicate c (n : Int) := ⟨_, rfl⟩
                rw [← hM] at HO hlc
                have HMM := Lib.hid hM
                clear ho hW hM
                by_cases hck : c < K
                · have dc : decide (c < K) = true := decide_eq_true hck
                  have hnx : Hid (M ++ [(n : Int)] = L ++ List.replicate (c + 1) (n : Int)) := by show _ = _; rw [HMM.out, rep_snoc]
                  go_wp2_with (first | (at_builtin; refine wpList_app1 rfl (.tmp 33) (.tmp 35) rfl rfl (n : Int) HO.out rfl (by omega) hB2 (fun g2 c2 w6 hl6 hb6 => ?_)) | fail)
                  go_roundw
                  case rel => exact ⟨c + 1, by omega, by go_num, by rw [← hnx.out, List.length_append]; exact hl6, HW.out.trans hb6⟩
                  case measure => simp [intOf]; omega
                · have dc : decide (c < K) = false := decide_eq_false hck
                  have hfin : Hid (M = (p.take (i + 1)).flatMap split1) := by show _ = _; rw [HMM.out, HST.out, hXe.out, show c = K by omega]
                  go_wp2
                  go_roundw
                  case rel => exact ⟨i + 1, by omega, by go_num, by rw [← hfin.out]; exact HO.out, HW.out⟩
                  case measure => simp [intOf]; omega
        · have di : decide (i < p.length) = false := decide_eq_false hip
          have hall : p.take i = p := List.take_of_length_le (by omega)
          have hln := split_len (fun x hx => part_le HP.out HS.out hx) HS.out p.length
          rw [List.take_length] at hln
          rw [hall] at HO
          obtain ⟨L, hL⟩ : ∃ L, L = p.flatMap split1 := ⟨_, rfl⟩
          rw [← hL] at HO hln
          have HL := Lib.hid hL
          clear hall hL
          go_wp2_with (first | (go_at_call 92; refine (fallen_any _ HO.out (by omega)).mono ?_) | fail)
          rintro e w7 ⟨rfl, ho7, hg7⟩
          have hW7 := HW.out.grown hg7 hB1 (fun k hk => (HO.out.lt k hk).1)
          have HFN := Lib.hid (eul_own (ok := IsPart p ∧ p.sum ≤ 40 ∧ IsUnlike p) (ys := sortD (p.flatMap split1)) ho7 (by omega) ⟨HP.out, HS.out, HU.out⟩ (by rw [HL.out]))
          clear ho7 hg7
          go_wp2
          go_ret2
          exact ⟨HFN.out, hW7⟩
    · have du : decide (IsUnlike p) = false := decide_eq_false hu
      have HU := Lib.hid hu
      rw [du]
      clear hu du
      go_wp2
      go_ret2
      exact ⟨eul_bad (by decide) (fun hh => HU.out hh.2.2), HU2.out⟩
  · have dk : (k != 0) = true := by simpa using hk0
    have HK0 := Lib.hid hk0
    go_wp2
    go_ret2
    exact ⟨eul_bad HK0.out (fun hh => HK0.out (HPC.out.2 ⟨hh.1, hh.2.1⟩)), Below.refl _ _⟩
end Go.Proofs.Ytdmpbbgcifodeaa
