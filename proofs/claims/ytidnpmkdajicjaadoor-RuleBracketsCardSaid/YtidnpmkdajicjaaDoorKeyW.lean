/-
  ferref.Key: a list as a string; no two lists have the same.
-/
import Derived.Test.YtidnpmkdajicjaaDoorTermL
import Derived.Laws.Concat
namespace Go.Proofs.YtidnpmkdajicjaaDoor
open Go.RowKit Go.Proofs LR

def keyT (p : List Nat) : List UInt8 := p.flatMap (fun x => Lib.decDigits x ++ [32])
theorem keyT_take {p : List Nat} {i : Nat} (h : i < p.length) : keyT (p.take (i + 1)) = keyT (p.take i) ++ (Lib.decDigits (at0 p i) ++ [32]) := by
  unfold keyT
  rw [List.take_succ_eq_append_getElem h, List.flatMap_append, at0_get h]; simp
theorem digits_no32 {x : Nat} : (32 : UInt8) ∉ Lib.decDigits x := fun h => by
  have := (digits_low x x (Nat.le_refl _) 32 h).1
  simp at this
theorem cut32 : ∀ {a b r s : List UInt8}, (32 : UInt8) ∉ a → (32 : UInt8) ∉ b → a ++ 32 :: r = b ++ 32 :: s → a = b ∧ r = s
  | [], [], _, _, _, _, h => by simpa using h
  | [], y :: b, _, _, _, hb, h => by
    simp only [List.nil_append, List.cons_append, List.cons.injEq] at h
    exact absurd (by rw [← h.1]; simp) hb
  | x :: a, [], _, _, ha, _, h => by
    simp only [List.nil_append, List.cons_append, List.cons.injEq] at h
    exact absurd (by rw [h.1]; simp) ha
  | x :: a, y :: b, r, s, ha, hb, h => by
    simp only [List.cons_append, List.cons.injEq] at h
    have := cut32 (a := a) (b := b) (fun hh => ha (by simp [hh])) (fun hh => hb (by simp [hh])) h.2
    exact ⟨by rw [h.1, this.1], this.2⟩
theorem keyT_inj : ∀ {p q : List Nat}, keyT p = keyT q → p = q
  | [], [], _ => rfl
  | [], y :: q, h => by
    simp only [keyT, List.flatMap_nil, List.flatMap_cons] at h
    have := congrArg List.length h
    simp at this
  | x :: p, [], h => by
    simp only [keyT, List.flatMap_nil, List.flatMap_cons] at h
    have := congrArg List.length h
    simp at this
  | x :: p, y :: q, h => by
    simp only [keyT, List.flatMap_cons, List.append_assoc, List.cons_append, List.nil_append] at h
    have := cut32 digits_no32 digits_no32 h
    rw [digits_inj this.1, keyT_inj (p := p) (q := q) this.2]
theorem keyT_len {p : List Nat} (h : ∀ x ∈ p, x ≤ 16) : (keyT p).length ≤ 3 * p.length := by
  induction p with
  | nil => simp [keyT]
  | cons x p ih =>
    have h1 := ih (fun y hy => h y (by simp [hy]))
    have h2 := digits_len 1 x (by have := h x (by simp); omega)
    simp only [keyT, List.flatMap_cons, List.length_append, List.length_cons, List.length_nil] at h1 ⊢
    omega

set_option maxRecDepth 100000 in
set_option maxHeartbeats 2000000 in
theorem key_any (A : Option Addr) (cap : Nat) (p : List Nat) (w : World) (hl : p.length ≤ 16) (h16 : ∀ x ∈ p, x ≤ 16) (h : Sl w w.heap.size A (ints (zs p))) :
    Calls Tryd.prog 21 #[.slice A p.length cap] w fun e w' => e = .returned (.string ⟨(keyT p).toArray⟩) ∧ w = w' := by
  have H := Lib.hid h
  have HL : Hid (∀ i, (keyT (p.take i)).length ≤ 48) := Lib.hid (fun i => by
    have h1 := keyT_len (p := p.take i) (fun x hx => h16 x (List.mem_of_mem_take hx))
    rw [List.length_take] at h1; omega)
  have H16 := Lib.hid h16
  clear h h16
  go_enter Tryd.func21, Tryd.ntmps21
  go_upto_region 3 with fail
  go_loopw [3, 4] (fun sv iv wr => ∃ (i : Nat) (M : List UInt8), i ≤ p.length ∧ iv = .int .i64 i ∧ M = keyT (p.take i) ∧ sv = .string ⟨M.toArray⟩ ∧ w = wr) (fun _ iv _ => p.length - (intOf iv).toNat)
  case atStart => exact ⟨0, [], Nat.zero_le _, rfl, rfl, rfl, rfl⟩
  case round =>
    obtain ⟨i, M, hi, rfl, hM, rfl, rfl⟩ := hrel
    have hMl : M.length ≤ 48 := by rw [hM]; exact HL.out i
    have HM := Lib.hid hM
    clear hM
    by_cases hip : i < p.length
    · have di : decide ((i : Int) < (p.length : Int)) = true := decide_eq_true (by omega)
      obtain ⟨b, o, rfl, hb⟩ := H.out.addr (by rw [zs_length]; omega)
      have hc := getD_cell H.out (k := i) (by rw [zs_length]; exact hip)
      rw [zs_getD] at hc
      have hx16 : at0 p i ≤ 16 := by rw [at0_get hip]; exact H16.out _ (List.getElem_mem hip)
      have hnx := keyT_take hip
      rw [← HM.out] at hnx
      obtain ⟨x, hx⟩ : ∃ x, x = at0 p i := ⟨_, rfl⟩
      rw [← hx] at hc hx16 hnx
      have hIT : Calls Tryd.prog 10 #[.int .i64 x] w fun e w' => e = .returned (.string ⟨(Lib.decDigits x).toArray⟩) ∧ w' = w := Any.strconv_Itoa_small Tryd.lays171 x (by omega) w
      have hdl := digits_len 1 x (by omega)
      obtain ⟨D, hD⟩ : ∃ D, D = Lib.decDigits x := ⟨_, rfl⟩
      rw [← hD] at hIT hnx hdl
      have HIT := Lib.hid hIT
      have HNX := Lib.hid hnx
      have e1 : (ByteArray.mk M.toArray ++ (ByteArray.mk D.toArray ++ ByteArray.mk #[32])) = ByteArray.mk (M ++ (D ++ [32])).toArray := by
        have h1 := ByteArray.mk_append_mk D [32]
        have h2 := ByteArray.mk_append_mk M (D ++ [32])
        rw [← h2, ← h1]
      have HE := Lib.hid e1
      have c1 : ¬ (9223372036854775807 < D.length + 1) := by omega
      have c2 : ¬ (9223372036854775807 < M.length + (D.length + 1)) := by omega
      clear hx hD hIT hnx e1
      go_wp2_with (first | (go_at_call 10; refine (HIT.out).mono ?_; rintro e w' ⟨rfl, rfl⟩) | fail)
      go_roundw
      case rel => exact ⟨i + 1, M ++ (D ++ [32]), by omega, by go_num, HNX.out.symm, by rw [HE.out], trivial⟩
      case measure => simp [intOf]; omega
    · obtain rfl : i = p.length := by omega
      have di : decide ((p.length : Int) < (p.length : Int)) = false := decide_eq_false (by omega)
      have HF : Hid (M = keyT p) := Lib.hid (by have := HM.out; rwa [List.take_length] at this)
      go_wp2
      go_ret
      exact ⟨by rw [← HF.out]; rfl, rfl⟩
theorem Key_any (A : Option Addr) (cap : Nat) (p : List Nat) (w : World) (hl : p.length ≤ 16) (h16 : ∀ x ∈ p, x ≤ 16) (h : Sl w w.heap.size A (ints (zs p))) :
    Calls Tryd.prog 12 #[.slice A p.length cap] w fun e w' => e = .returned (.string ⟨(keyT p).toArray⟩) ∧ w = w' := by
  have HK := Lib.hid (key_any A cap p w hl h16 h)
  obtain ⟨T, hT⟩ : ∃ T, T = keyT p := ⟨_, rfl⟩
  rw [← hT] at HK ⊢
  clear h hT
  go_enter Tryd.func12, Tryd.ntmps12
  go_wp2_with (first | (go_at_call 21; refine (HK.out).mono ?_; rintro e w' ⟨rfl, rfl⟩) | fail)
  go_ret
  exact ⟨rfl, rfl⟩
end Go.Proofs.YtidnpmkdajicjaaDoor
