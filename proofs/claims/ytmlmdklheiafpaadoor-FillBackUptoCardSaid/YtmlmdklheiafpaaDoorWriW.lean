/-
  fill.Write: what it answers.
-/
import Derived.Test.YtmlmdklheiafpaaDoorFChkW
import Derived.Test.YtmlmdklheiafpaaDoorFilM
import Derived.Shelf.Lay
import Derived.Shelf.Strconv.Itoa3
import Derived.Ground.NamesProg
import Derived.Laws.Concat
namespace Go.Proofs
open Go.Shelf
shelf_lay Lays.n171 Nm 171 at Tryd as Tryd.lays171
end Go.Proofs
namespace Go.Proofs.YtmlmdklheiafpaaDoor
open Go.RowKit Go.Proofs Fil
open Go.Shelf

theorem dec_dg {n : Int} (h1 : 1 ≤ n) (h2 : n ≤ 99) : Lib.decDigits n.toNat = dg n := by
  unfold dg
  by_cases h : n < 10
  · rw [if_pos h]
    unfold Lib.decDigits
    rw [dif_pos (by omega)]
  · rw [if_neg h]
    unfold Lib.decDigits
    rw [dif_neg (by omega)]
    unfold Lib.decDigits
    rw [dif_pos (by omega)]; rfl
def WriOut (e : Ending) (T : List (List Int)) : Prop :=
  (FillOk T ∧ e = .returned (.tuple #[.string ⟨(txt T).toArray⟩, .int .i64 0])) ∨ (¬ FillOk T ∧ ∃ k : Int, k ≠ 0 ∧ e = .returned (.tuple #[.string ⟨#[]⟩, .int .i64 k]))
set_option maxRecDepth 100000 in
set_option maxHeartbeats 4000000 in
theorem write_any (A : Option Addr) (cap : Nat) (T : List (List Int)) (w : World) (hT : T.length ≤ 9223372036854775807) (h : SR w w.heap.size A T) :
    Calls Tryd.prog 5 #[.slice A T.length cap] w fun e w' => WriOut e T ∧ w = w' := by
  go_enter Tryd.func5, Tryd.ntmps5
  go_wp2_with (first | (go_at_call 12; refine (fcheck_any A cap T _ hT h).mono ?_) | fail)
  rintro e w1 ⟨⟨k, rfl, hk1, hk2⟩, rfl⟩
  by_cases hk0 : k = 0
  · have hok := hk1 hk0
    have hT4 := hok.small.1
    have HOK := Lib.hid hok
    have HT5 := Lib.hid hok.small.2
    have HLE : Hid (∀ i, (txt (T.take i)).length ≤ 5000) := fun i => by
      have h1 := txt_le (B := 40) (T.take i) (fun r hr => by
        obtain ⟨j, hj, e⟩ := List.getElem_of_mem (List.mem_of_mem_take hr)
        have := HT5.out j
        rwa [getD_get hj, e] at this)
      have h2 : (T.take i).length ≤ 40 := by rw [List.length_take]; omega
      have h3 := Nat.mul_le_mul_left (3 * 40 + 1) h2
      omega
    subst hk0
    clear hk1 hk2 hok
    go_wp2
    go_loopw [5, 17] (fun sv iv wr => ∃ (i : Nat) (L : List UInt8), i ≤ T.length ∧ iv = .int .i64 i ∧ L = txt (T.take i) ∧ sv = .string ⟨L.toArray⟩ ∧ w = wr) (fun _ iv _ => T.length - (intOf iv).toNat)
    case atStart => exact ⟨0, [], Nat.zero_le _, rfl, rfl, rfl, rfl⟩
    case round =>
      obtain ⟨i, L, hi, rfl, hL, rfl, rfl⟩ := hrel
      have hLl : L.length ≤ 5000 := by rw [hL]; exact HLE.out i
      have HL := Lib.hid hL
      clear hL
      by_cases hit : i < T.length
      · have di : decide (i < T.length) = true := decide_eq_true hit
        have di2 : decide ((i : Int) < (T.length : Int)) = true := decide_eq_true (by omega)
        obtain ⟨b, o, rfl, hb⟩ := h.addr (by omega)
        obtain ⟨Ar, cr, hc, hr, hrl⟩ := h.at_ hit
        have hnx := txt_take hit
        rw [← HL.out] at hnx
        obtain ⟨r, hre⟩ : ∃ r, r = T.getD i [] := ⟨_, rfl⟩
        have hr40 := HT5.out i
        have hlt : ∀ x ∈ r, Lt x := fun x hx => HOK.out.2.1 r (by rw [hre, getD_get hit]; exact List.getElem_mem hit) x hx
        rw [← hre] at hc hr hrl hnx hr40
        obtain ⟨P, hP⟩ : ∃ P, P = L ++ (if i = 0 then [] else [47]) := ⟨_, rfl⟩
        have hPl : P.length ≤ 5001 := by rw [hP, List.length_append]; split <;> simp <;> omega
        have hnx2 : Hid (txt (T.take (i + 1)) = P ++ rowT r) := by show _ = _; rw [hnx, hP, List.append_assoc]
        have HP := Lib.hid hP
        have HR := Lib.hid hr
        have HLT := Lib.hid hlt
        clear hnx hre hr hlt hP
        go_upto_if 23 with fail
        go_cut [5] (fun sv wz => sv = .string ⟨P.toArray⟩ ∧ w = wz)
        case first =>
          by_cases hi0 : i = 0
          · have d0 : decide ((0 : Int) < (i : Int)) = false := decide_eq_false (by omega)
            have d1 : ¬ (0 < i) := by omega
            have hf : Hid (L = P) := by show _ = _; rw [HP.out, if_pos hi0, List.append_nil]
            clear hi0
            go_wp2
            go_meet
            exact ⟨by rw [hf.out], rfl⟩
          · have d0 : decide ((0 : Int) < (i : Int)) = true := decide_eq_true (by omega)
            have d1 : 0 < i := by omega
            have hcat : ¬ (9223372036854775807 < L.length + 1) := by omega
            have hf : Hid ((ByteArray.mk L.toArray ++ ByteArray.mk #[47]) = ByteArray.mk P.toArray) := by
              show _ = _
              rw [HP.out, if_neg hi0]
              exact ByteArray.mk_append_mk L [47]
            clear hi0
            go_wp2
            go_meet
            exact ⟨by rw [hf.out], rfl⟩
        case rest =>
          obtain ⟨rfl, rfl⟩ := hcut
          go_wp2
          go_loopw [5, 28] (fun sv jv wz => ∃ (j : Nat) (M : List UInt8), j ≤ r.length ∧ jv = .int .i64 j ∧ M = P ++ rowT (r.take j) ∧ sv = .string ⟨M.toArray⟩ ∧ w = wz) (fun _ jv _ => r.length - (intOf jv).toNat)
          case atStart => exact ⟨0, P, Nat.zero_le _, rfl, by simp [rowT], rfl, rfl⟩
          case round =>
            obtain ⟨j, M, hj, rfl, hM, rfl, rfl⟩ := hrel
            by_cases hjr : j < r.length
            · have dj : decide (j < r.length) = true := decide_eq_true hjr
              have dj2 : decide ((j : Int) < (r.length : Int)) = true := decide_eq_true (by omega)
              obtain ⟨g, p, rfl, hg⟩ := HR.out.addr (by omega)
              have hcx := getD_cell HR.out hjr
              have hx := HLT.out (r.getD j 0) (by rw [getD_get hjr]; exact List.getElem_mem hjr)
              have hMl : M.length ≤ 5200 := by
                have := rowT_le (r.take j)
                rw [List.length_take] at this
                rw [hM, List.length_append]; omega
              have hnr := rowT_take hjr
              obtain ⟨x, hxe⟩ : ∃ x, x = r.getD j 0 := ⟨_, rfl⟩
              rw [← hxe] at hcx hx hnr
              have hfin : Hid (P ++ rowT (r.take (j + 1)) = M ++ (if j = 0 then [] else [32]) ++ dg x) := by show _ = _; rw [hnr, hM]; simp
              clear hxe hnr hM
              obtain ⟨n, rfl⟩ : ∃ n : Nat, x = n := ⟨x.toNat, by have := hx.1; omega⟩
              have hx1 := hx.1
              have hx2 := hx.2
              have hdl := dg_le (n : Int)
              obtain ⟨M2, hM2⟩ : ∃ M2, M2 = M ++ (if j = 0 then [] else [32]) := ⟨_, rfl⟩
              have hM2l : M2.length ≤ 5201 := by rw [hM2, List.length_append]; split <;> simp <;> omega
              rw [← hM2] at hfin
              have HM2 := Lib.hid hM2
              have hdd := dec_dg hx1 hx2
              rw [show ((n : Int)).toNat = n by omega] at hdd
              have hIT : Calls Tryd.prog 13 #[.int .i64 n] w fun e w' => e = .returned (.string ⟨(Lib.decDigits n).toArray⟩) ∧ w' = w := Any.strconv_Itoa_small Tryd.lays171 n (by omega) w
              rw [hdd] at hIT
              have HIT := Lib.hid hIT
              obtain ⟨D, hD⟩ : ∃ D, D = dg (n : Int) := ⟨_, rfl⟩
              rw [← hD] at HIT hfin hdl
              clear hM2 hdd hD hx hIT
              go_upto_if 34 with fail
              go_cut [5] (fun sv wz => sv = .string ⟨M2.toArray⟩ ∧ w = wz)
              case first =>
                by_cases hj0 : j = 0
                · have d0 : decide ((0 : Int) < (j : Int)) = false := decide_eq_false (by omega)
                  have d1 : ¬ (0 < j) := by omega
                  have hf : Hid (M = M2) := by show _ = _; rw [HM2.out, if_pos hj0, List.append_nil]
                  clear hj0
                  go_wp2
                  go_meet
                  exact ⟨by rw [hf.out], rfl⟩
                · have d0 : decide ((0 : Int) < (j : Int)) = true := decide_eq_true (by omega)
                  have d1 : 0 < j := by omega
                  have hcat : ¬ (9223372036854775807 < M.length + 1) := by omega
                  have hf : Hid ((ByteArray.mk M.toArray ++ ByteArray.mk #[32]) = ByteArray.mk M2.toArray) := by
                    show _ = _
                    rw [HM2.out, if_neg hj0]
                    exact ByteArray.mk_append_mk M [32]
                  clear hj0
                  go_wp2
                  go_meet
                  exact ⟨by rw [hf.out], rfl⟩
              case rest =>
                obtain ⟨rfl, rfl⟩ := hcut
                have hcat : ¬ (9223372036854775807 < M2.length + D.length) := by omega
                go_wp2_with (first | (go_at_call 13; refine HIT.out.mono ?_) | fail)
                rintro e w' ⟨rfl, rfl⟩
                go_wp2
                go_roundw
                case rel => exact ⟨j + 1, M2 ++ D, by omega, by go_num, hfin.out.symm, by rw [ByteArray.mk_append_mk], by first | rfl | trivial⟩
                case measure => simp [intOf]; omega
            · have dj : decide (j < r.length) = false := decide_eq_false hjr
              have dj2 : decide ((j : Int) < (r.length : Int)) = false := decide_eq_false (by omega)
              have hf : Hid (M = txt (T.take (i + 1))) := by
                show _ = _
                rw [hM, hnx2.out, List.take_of_length_le (by omega)]
              clear hM
              go_wp2
              go_roundw
              case rel => exact ⟨i + 1, M, by omega, by go_num, hf.out, rfl, by first | rfl | trivial⟩
              case measure => simp [intOf]; omega
      · have di : decide (i < T.length) = false := decide_eq_false hit
        have di2 : decide ((i : Int) < (T.length : Int)) = false := decide_eq_false (by omega)
        have hf : Hid (WriOut (.returned (.tuple #[.string ⟨L.toArray⟩, .int .i64 0])) T) := by
          refine .inl ⟨HOK.out, ?_⟩
          rw [HL.out, List.take_of_length_le (by omega)]
        go_wp2
        go_ret2
        exact ⟨hf.out, by first | rfl | trivial⟩
  · have dk : (k != 0) = true := by simpa using hk0
    have hf : Hid (WriOut (.returned (.tuple #[.string ⟨#[]⟩, .int .i64 k])) T) := .inr ⟨fun hh => hk0 (hk2 hh), k, hk0, rfl⟩
    clear hk1 hk2
    go_wp2
    go_ret2
    exact ⟨hf.out, by first | rfl | trivial⟩
end Go.Proofs.YtmlmdklheiafpaaDoor
