/-
  paths.Turns: what it answers.
-/
import Derived.Test.YtdmpbbgcifodeaaPath3W
namespace Go.Proofs.Ytdmpbbgcifodeaa
open Go.RowKit

/-- A list of ints and an error. -/
def IntsOut (e : Ending) (w : World) (k : Int) (xs : List Int) : Prop :=
  ∃ A c, e = .returned (.tuple #[.slice A xs.length c, .int .i64 k]) ∧ Sl w w.heap.size A (ints xs) ∧ xs.length ≤ 9223372036854775807
theorem intsOut_own {w : World} {B n : Nat} {v : Value} {xs : List Int} (h : w.ownsRow B 3 1 v n (ints xs)) (k : Int) : IntsOut (.returned (.tuple #[v, .int .i64 k])) w k xs := by
  obtain ⟨A, c, rfl, _, h1, h2, h3⟩ := own_slice h
  exact ⟨A, c, rfl, h1, by omega⟩
theorem exc_near (l : List UInt8) (i : Nat) : ∀ k : Nat, -(k : Int) ≤ exc l (i + k) - exc l i ∧ exc l (i + k) - exc l i ≤ (k : Int)
  | 0 => by simp
  | k + 1 => by
    have ih := exc_near l i k
    rw [show i + (k + 1) = i + k + 1 by omega]
    simp only [exc, brk]
    split <;> omega
def AllTo (l : List UInt8) (i : Nat) : Prop := ∀ j c, j < i → l[j]? = some c → c = 40 ∨ c = 41
theorem AllTo.all {l : List UInt8} (h : AllTo l l.length) : Brks l := fun c hc => by
  obtain ⟨j, hj, e⟩ := List.getElem_of_mem hc
  exact h j c hj (by rw [List.getElem?_eq_getElem hj, e])
theorem brk_at {l : List UInt8} {j k : Nat} {c : UInt8} (hk : k % l.length = j) (hc : l[j]? = some c) : brk l k = if c = 40 then 1 else -1 := by
  unfold brk
  rw [hk, List.getD_eq_getElem?_getD, hc]; rfl

set_option maxRecDepth 100000 in
set_option maxHeartbeats 1000000 in
theorem turns_any (s : ByteArray) (l : List UInt8) (hs : s = ⟨l.toArray⟩) (w : World) :
    Calls Try.prog 37 #[.string s] w fun e w' => (∃ (k : Int) (xs : List Int), IntsOut e w' k xs ∧ ((k = 0 ∧ Brks l ∧ l.length ≤ 60 ∧ xs = turnsTo l l.length) ∨ (k ≠ 0 ∧ xs = [] ∧ (Brks l → 60 < l.length)))) ∧ Below w.heap.size w w' := by
  have hss : s.size = l.length := by rw [hs]; simp [ByteArray.size]
  have HS := Lib.hid hs
  have HSS := Lib.hid hss
  clear hs
  go_enter Try.func37, Try.ntmps37
  by_cases hn : 60 < s.size
  · have d0 : decide ((60 : Int) < (s.size : Int)) = true := decide_eq_true (by omega)
    have hf : Hid (Brks l → 60 < l.length) := fun _ => by omega
    clear hss
    go_wp2
    go_ret2
    exact ⟨⟨2, [], ⟨none, 0, rfl, Sl.nil _ _ _, by simp⟩, .inr ⟨by decide, rfl, hf.out⟩⟩, Below.refl _ _⟩
  · have d0 : decide ((60 : Int) < (s.size : Int)) = false := decide_eq_false (by omega)
    have hn60 : s.size ≤ 60 := by omega
    clear hss
    go_wp2
    go_loop [15] (fun iv => ∃ (i : Nat), i ≤ s.size ∧ iv = .int .i64 i ∧ AllTo l i) (fun iv => s.size - (intOf iv).toNat)
    case atStart => exact ⟨0, Nat.zero_le _, rfl, fun j c hj _ => by omega⟩
    case round =>
      obtain ⟨i, hi, rfl, hal⟩ := hrel
      have HAL := Lib.hid hal
      clear hal
      by_cases hlt : i < s.size
      · have di : decide ((i : Int) < (s.size : Int)) = true := decide_eq_true (by omega)
        obtain ⟨x, hx⟩ : ∃ x, l[i]? = some x := by
          have := HSS.out
          exact ⟨l[i]'(by omega), List.getElem?_eq_getElem (by omega)⟩
        have HX := Lib.hid hx
        clear hx
        by_cases h40 : x = 40
        · have hb40 : ∀ hh : i < s.size, (((s[i]'hh).toNat : Int) != 40) = false := fun hh => by rw [byte_at HS.out HX.out hh, h40]; rfl
          have hnx : Hid (AllTo l (i + 1)) := fun j c hj hc => by
            by_cases e : j = i
            · subst e
              rw [HX.out] at hc
              cases hc
              exact .inl h40
            · exact HAL.out j c (by omega) hc
          clear h40
          go_wp2
          go_round
          case rel => exact ⟨i + 1, by omega, rfl, hnx.out⟩
          case measure => simp [intOf]; omega
        · have hb40 : ∀ hh : i < s.size, (((s[i]'hh).toNat : Int) != 40) = true := fun hh => by
            rw [byte_at HS.out HX.out hh]
            have : x.toNat ≠ 40 := fun e => h40 (UInt8.toNat_inj.1 e)
            simp; omega
          by_cases h41 : x = 41
          · have hb41 : ∀ hh : i < s.size, (((s[i]'hh).toNat : Int) != 41) = false := fun hh => by rw [byte_at HS.out HX.out hh, h41]; rfl
            have hnx : Hid (AllTo l (i + 1)) := fun j c hj hc => by
              by_cases e : j = i
              · subst e
                rw [HX.out] at hc
                cases hc
                exact .inr h41
              · exact HAL.out j c (by omega) hc
            clear h40 h41
            go_wp2
            go_round
            case rel => exact ⟨i + 1, by omega, rfl, hnx.out⟩
            case measure => simp [intOf]; omega
          · have hb41 : ∀ hh : i < s.size, (((s[i]'hh).toNat : Int) != 41) = true := fun hh => by
              rw [byte_at HS.out HX.out hh]
              have : x.toNat ≠ 41 := fun e => h41 (UInt8.toNat_inj.1 e)
              simp; omega
            have hf : Hid (Brks l → 60 < l.length) := fun h => by
              exfalso
              rcases h x (List.mem_of_getElem? HX.out) with e | e
              · exact h40 e
              · exact h41 e
            clear h40 h41
            go_wp2
            go_ret2
            exact ⟨⟨1, [], ⟨none, 0, rfl, Sl.nil _ _ _, by simp⟩, .inr ⟨by decide, rfl, hf.out⟩⟩, Below.refl _ _⟩
      · have hie : i = l.length := by have := HSS.out; omega
        have hbr : Hid (Brks l) := (show AllTo l l.length by rw [← hie]; exact HAL.out).all
        have di : decide ((i : Int) < (s.size : Int)) = false := decide_eq_false (by omega)
        clear hie HAL
        go_wp2
        go_loopw [5, 31] (fun ov iv wr => ∃ (i : Nat), i ≤ s.size ∧ iv = .int .i64 i ∧ wr.ownsRow w.heap.size 3 1 ov (turnsTo l i).length (ints (turnsTo l i)) ∧ Below w.heap.size w wr) (fun _ iv _ => s.size - (intOf iv).toNat)
        case atStart => exact ⟨0, Nat.zero_le _, rfl, World.ownsRow_nil _ _ _ _, Below.refl _ _⟩
        case round =>
          clear di hlt hi
          obtain ⟨i, hi, rfl, hown, hW⟩ := hrel
          have HO := Lib.hid hown
          have hsz := hW.size
          clear hown
          by_cases hlt : i < s.size
          · have di : decide ((i : Int) < (s.size : Int)) = true := decide_eq_true (by omega)
            go_wp2
            go_loop [7, 8, 36] (fun xv bv kv => ∃ (k : Nat), k ≤ s.size ∧ kv = .int .i64 k ∧ xv = .int .i64 (exc l (i + k) - exc l i) ∧ bv = .bool (okTo l i k)) (fun _ _ kv => s.size - (intOf kv).toNat)
            case atStart => exact ⟨0, Nat.zero_le _, rfl, by simp, rfl⟩
            case round =>
              obtain ⟨k, hk, rfl, rfl, rfl⟩ := hrel
              by_cases hkl : k < s.size
              · have dk : decide ((k : Int) < (s.size : Int)) = true := decide_eq_true (by omega)
                have hnear := exc_near l i k
                obtain ⟨x, hx⟩ : ∃ x, x = exc l (i + k) - exc l i := ⟨_, rfl⟩
                obtain ⟨z, hz⟩ : ∃ z, z = okTo l i k := ⟨_, rfl⟩
                rw [← hx] at hnear ⊢
                rw [← hz]
                obtain ⟨j, hj⟩ : ∃ j, j = (i + k) % s.size := ⟨_, rfl⟩
                have hjl : j < s.size := by rw [hj]; exact Nat.mod_lt _ (by omega)
                have hjm : ((i : Int) + (k : Int)).tmod (s.size : Int) = (j : Int) := by
                  rw [hj, Int.natCast_emod, Int.natCast_add]
                  exact Int.tmod_eq_emod_of_nonneg (by omega)
                obtain ⟨c, hc⟩ : ∃ c, l[j]? = some c := by
                  have := HSS.out
                  exact ⟨l[j]'(by omega), List.getElem?_eq_getElem (by omega)⟩
                have hbk := brk_at (k := i + k) (by rw [← HSS.out]; exact hj.symm) hc
                have HX := Lib.hid hx
                have HZ := Lib.hid hz
                have HC := Lib.hid hc
                clear hx hz hc hj
                by_cases h40 : c = 40
                · have hb40 : ∀ hh : j < s.size, (((s[j]'hh).toNat : Int) == 40) = true := fun hh => by rw [byte_at HS.out HC.out hh, h40]; rfl
                  rw [if_pos h40] at hbk
                  have hxn : Hid (x + 1 = exc l (i + (k + 1)) - exc l i) := by
                    show _ = _
                    rw [HX.out, show i + (k + 1) = i + k + 1 by omega]
                    simp only [exc]; rw [hbk]; omega
                  have hzn : Hid ((z && decide (0 < x + 1)) = okTo l i (k + 1)) := by
                    show _ = _
                    have e := hxn.out
                    simp only [okTo]
                    rw [← HZ.out, e, show i + (k + 1) = i + k + 1 by omega]
                    congr 1
                    exact decide_eq_decide.2 (by omega)
                  clear h40 hbk
                  cases z with
                  | true =>
                    have hz2 := hzn.out
                    rw [Bool.true_and] at hz2
                    have HZ2 := Lib.hid hz2
                    clear hz2
                    go_wp2
                    go_round
                    case rel => exact ⟨k + 1, by omega, rfl, by rw [hxn.out], by rw [HZ2.out]⟩
                    case measure => simp [intOf]; omega
                  | false =>
                    have hz2 := hzn.out
                    rw [Bool.false_and] at hz2
                    have HZ2 := Lib.hid hz2
                    clear hz2
                    go_wp2
                    go_round
                    case rel => exact ⟨k + 1, by omega, rfl, by rw [hxn.out], by rw [← HZ2.out]⟩
                    case measure => simp [intOf]; omega
                · have hb40 : ∀ hh : j < s.size, (((s[j]'hh).toNat : Int) == 40) = false := fun hh => by
                    rw [byte_at HS.out HC.out hh]
                    have : c.toNat ≠ 40 := fun e => h40 (UInt8.toNat_inj.1 e)
                    simp; omega
                  rw [if_neg h40] at hbk
                  have hxn : Hid (x - 1 = exc l (i + (k + 1)) - exc l i) := by
                    show _ = _
                    rw [HX.out, show i + (k + 1) = i + k + 1 by omega]
                    simp only [exc]; rw [hbk]; omega
                  have hzn : Hid ((z && decide (0 < x - 1)) = okTo l i (k + 1)) := by
                    show _ = _
                    have e := hxn.out
                    simp only [okTo]
                    rw [← HZ.out, e, show i + (k + 1) = i + k + 1 by omega]
                    congr 1
                    exact decide_eq_decide.2 (by omega)
                  clear h40 hbk
                  cases z with
                  | true =>
                    have hz2 := hzn.out
                    rw [Bool.true_and] at hz2
                    have HZ2 := Lib.hid hz2
                    clear hz2
                    go_wp2
                    go_round
                    case rel => exact ⟨k + 1, by omega, rfl, by rw [hxn.out], by rw [← HZ2.out]; congr 1; exact decide_eq_decide.2 (by omega)⟩
                    case measure => simp [intOf]; omega
                  | false =>
                    have hz2 := hzn.out
                    rw [Bool.false_and] at hz2
                    have HZ2 := Lib.hid hz2
                    clear hz2
                    go_wp2
                    go_round
                    case rel => exact ⟨k + 1, by omega, rfl, by rw [hxn.out], by rw [← HZ2.out]⟩
                    case measure => simp [intOf]; omega
              · have hke : k = l.length := by have := HSS.out; omega
                have dk : decide ((k : Int) < (s.size : Int)) = false := decide_eq_false (by omega)
                have hlen := turnsTo_le l i
                have hap : turnsTo l (i + 1) = if okTo l i k = true then turnsTo l i ++ [(i : Int)] else turnsTo l i := by rw [hke]; rfl
                have hxn := exc_near l i k
                obtain ⟨x, hx⟩ : ∃ x, x = exc l (i + k) - exc l i := ⟨_, rfl⟩
                rw [← hx] at hxn ⊢
                obtain ⟨z, hz⟩ : ∃ z, z = okTo l i k := ⟨_, rfl⟩
                rw [← hz] at hap ⊢
                clear hx hz hke
                have hl9 : (turnsTo l i).length < 1000000 := by omega
                cases z with
                | true =>
                  rw [if_pos rfl] at hap
                  have HAP := Lib.hid hap
                  clear hap
                  go_wp2_with (first | (at_builtin; refine wpList_app1 rfl (.tmp 59) (.tmp 61) rfl rfl (i : Int) HO.out rfl hl9 hsz (fun g2 c2 w8 hl8 hb8 => ?_)) | fail)
                  have hW8 := hW.trans hb8
                  rw [← HAP.out] at hl8
                  have HL8 := Lib.hid hl8
                  clear hl8
                  have hlen8 : Hid ((turnsTo l i).length + 1 = (turnsTo l (i + 1)).length) := by show _ = _; rw [HAP.out]; simp
                  go_wp2
                  go_roundw
                  case rel => exact ⟨i + 1, by omega, rfl, by rw [← hlen8.out]; exact HL8.out, hW8⟩
                  case measure => simp [intOf]; omega
                | false =>
                  rw [if_neg (by decide)] at hap
                  have HAP := Lib.hid hap
                  clear hap
                  go_wp2
                  go_roundw
                  case rel => exact ⟨i + 1, by omega, rfl, by rw [HAP.out]; exact HO.out, hW⟩
                  case measure => simp [intOf]; omega
          · have hie : i = l.length := by have := HSS.out; omega
            have di : decide ((i : Int) < (s.size : Int)) = false := decide_eq_false (by omega)
            have ho := HO.out
            have hl60 : Hid (l.length ≤ 60) := by show _ ≤ _; have := HSS.out; omega
            rw [hie] at ho
            have HO' := Lib.hid ho
            clear ho hie HO
            go_wp2
            go_ret2
            exact ⟨⟨0, _, intsOut_own HO'.out 0, .inl ⟨rfl, hbr.out, hl60.out, rfl⟩⟩, hW⟩
end Go.Proofs.Ytdmpbbgcifodeaa
