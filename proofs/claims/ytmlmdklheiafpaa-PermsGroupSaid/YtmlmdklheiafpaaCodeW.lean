/-
  perms.Code, perms.Measure: what they answer.
-/
import Derived.Test.YtmlmdklheiafpaaPairW
namespace Go.Proofs.Ytmlmdklheiafpaa
open Go.RowKit

def cntTo (p : List Int) (i k : Nat) : Nat := ((p.drop (i + 1)).take k).countP (fun m => decide (m < p.getD i 0))
def codeAt (p : List Int) (i : Nat) : Nat := (p.drop (i + 1)).countP (fun m => decide (m < p.getD i 0))
def codeOf (p : List Int) : List Int := (List.range p.length).map (fun i => (codeAt p i : Int))
def ctab (p : List Int) (i : Nat) (c : Int) : List Int := (List.range p.length).map (fun j => if j < i then (codeAt p j : Int) else if j = i then c else 0)

theorem codeOf_length (p : List Int) : (codeOf p).length = p.length := by simp [codeOf]
theorem ctab_length (p : List Int) (i : Nat) (c : Int) : (ctab p i c).length = p.length := by simp [ctab]
theorem ctab_at {p : List Int} {i : Nat} (c : Int) (h : i < p.length) : (ctab p i c)[i]? = some c := by simp [ctab, h]
theorem ctab_set (p : List Int) (i : Nat) (c c' : Int) : (ctab p i c).set i c' = ctab p i c' := by
  apply List.ext_getElem?
  intro j
  rw [List.getElem?_set]
  by_cases e : i = j
  · subst e
    simp only [ctab, List.length_map, List.length_range, if_true, List.getElem?_map]
    split <;> simp [*]
  · rw [if_neg e]
    have e' : ¬ j = i := fun h => e h.symm
    by_cases h : j < p.length <;> simp [ctab, h, e']
theorem ctab_zero (p : List Int) : ctab p 0 0 = List.replicate p.length 0 := by
  apply List.ext_getElem?
  intro j
  by_cases h : j < p.length <;> simp [ctab, h]
theorem ctab_next (p : List Int) (i : Nat) : ctab p i (codeAt p i) = ctab p (i + 1) 0 := by
  unfold ctab
  apply List.map_congr_left
  intro j hj
  by_cases h1 : j < i
  · rw [if_pos h1, if_pos (by omega)]
  · by_cases h2 : j = i
    · subst h2; simp
    · rw [if_neg h1, if_neg h2, if_neg (by omega)]; split <;> rfl
theorem ctab_all (p : List Int) : ctab p p.length 0 = codeOf p := by
  unfold ctab codeOf
  apply List.map_congr_left
  intro j hj
  rw [if_pos (List.mem_range.1 hj)]
theorem cntTo_succ {p : List Int} {i k : Nat} (h : i + 1 + k < p.length) : cntTo p i (k + 1) = cntTo p i k + if p.getD (i + 1 + k) 0 < p.getD i 0 then 1 else 0 := by
  unfold cntTo
  rw [take_snoc (show k < (p.drop (i + 1)).length by rw [List.length_drop]; omega), List.countP_append, List.getElem_drop, getD_get h]
  simp
theorem cntTo_all (p : List Int) (i : Nat) : cntTo p i (p.length - (i + 1)) = codeAt p i := by
  unfold cntTo codeAt
  rw [List.take_of_length_le (by simp)]
theorem cntTo_le (p : List Int) (i k : Nat) : cntTo p i k ≤ k := by
  have := List.countP_le_length (p := fun m => decide (m < p.getD i 0)) (l := (p.drop (i + 1)).take k)
  rw [List.length_take] at this
  unfold cntTo; omega

set_option maxHeartbeats 400000 in
theorem code_err (A : Option Addr) (cap : Nat) (xs : List Int) (w : World) (hcl : xs.length ≤ 9223372036854775807) (hp : permChk xs ≠ 0) (h : Sl w w.heap.size A (ints xs)) :
    Calls Try.prog 25 #[.slice A xs.length cap] w fun e w' => e = .returned (.tuple #[.slice none 0 0, .int .i64 (permChk xs)]) ∧ Below w.heap.size w w' := by
  obtain ⟨c, hc⟩ : ∃ c, c = permChk xs := ⟨_, rfl⟩
  have hd : (c != 0) = true := by rw [hc]; simpa using hp
  have HC := Lib.hid hc
  clear hc hp
  go_enter Try.func25, Try.ntmps25
  go_wp2_with fail
  refine (check_any _ _ _ _ hcl h).mono ?_
  rintro e w1 ⟨rfl, hb1⟩
  rw [← HC.out]
  go_wp2
  go_ret2
  exact ⟨by rw [← HC.out]; rfl, hb1⟩

set_option maxHeartbeats 1000000 in
theorem code_ok (A : Option Addr) (cap : Nat) (p : List Int) (w : World) (hcap : p.length ≤ cap) (hn : p.length ≤ 40) (hp : permChk p = 0) (h : Sl w w.heap.size A (ints p)) :
    Calls Try.prog 25 #[.slice A p.length cap] w fun e w' => ∃ A' c', e = .returned (.tuple #[.slice A' (codeOf p).length c', .int .i64 0]) ∧ Sl w' w'.heap.size A' (ints (codeOf p)) ∧ (codeOf p).length ≤ c' ∧ Below w.heap.size w w' := by
  have hk := Lib.hid hp
  clear hp
  go_enter Try.func25, Try.ntmps25
  go_wp2_with fail
  refine (check_any _ _ _ _ (by omega) h).mono ?_
  rintro e w1 ⟨rfl, hb1⟩
  rw [hk.out]
  have h1 := (h.below hb1)
  go_wp2_with (at_make; refine wpList_mk rfl (.tmp 16) (.tmp 16) rfl p.length rfl rfl (by omega) (Nat.le_refl _) (fun w2 hown2 hb2 hz2 => ?_))
  have HO2 := Lib.hid hown2
  clear hown2
  go_loopw [20] (fun iv wr => ∃ (i : Nat), i ≤ p.length ∧ iv = .int .i64 i ∧ wr.ownsRow w1.heap.size 3 1 (.slice (some ⟨w1.heap.size, 0, none⟩) p.length p.length) p.length (ints (ctab p i 0)) ∧ Below w1.heap.size w1 wr) (fun iv _ => p.length - (intOf iv).toNat)
  case atStart => exact ⟨0, by omega, rfl, by rw [ctab_zero]; exact HO2.out, hb2⟩
  case round =>
    obtain ⟨i, hi, rfl, hown, hbl⟩ := hrel
    have HO := Lib.hid hown
    clear hown
    by_cases hlt : i < p.length
    · obtain ⟨b, o, rfl, hb⟩ := h1.addr (by omega)
      have hcx := getD_cell (h1.below (hbl.mono hb1.size)) hlt
      obtain ⟨x, hx⟩ : ∃ x, x = p.getD i 0 := ⟨_, rfl⟩
      rw [← hx] at hcx
      have HX := Lib.hid hx
      clear hx
      have hnx : Hid (ctab p i (codeAt p i) = ctab p (i + 1) 0) := ctab_next p i
      by_cases hce : cap = i + 1
      · obtain rfl : i = p.length - 1 := by omega
        have hca : Hid (codeAt p (p.length - 1) = 0) := by show _ = _; unfold codeAt; rw [List.drop_of_length_le (by omega)]; rfl
        go_wp2
        go_loopw [30] (fun kv wk => kv = .int .i64 0 ∧ wk.ownsRow w1.heap.size 3 1 (.slice (some ⟨w1.heap.size, 0, none⟩) p.length p.length) p.length (ints (ctab p (p.length - 1) 0)) ∧ Below w1.heap.size w1 wk) (fun kv _ => 0)
        case atStart => exact ⟨rfl, HO.out, hbl⟩
        case round =>
          obtain ⟨rfl, hown, hbk⟩ := hrel
          have HO' := Lib.hid hown
          clear hown
          go_wp2
          go_roundw
          case rel =>
            refine ⟨p.length - 1 + 1, by omega, by go_num, ?_, hbk⟩
            rw [← hnx.out, hca.out]; exact HO'.out
          case measure => simp [intOf]; omega
      · go_wp2
        go_loopw [30] (fun kv wk => ∃ (k : Nat), k ≤ p.length - (i + 1) ∧ kv = .int .i64 k ∧ wk.ownsRow w1.heap.size 3 1 (.slice (some ⟨w1.heap.size, 0, none⟩) p.length p.length) p.length (ints (ctab p i (cntTo p i k))) ∧ Below w1.heap.size w1 wk) (fun kv _ => p.length - (i + 1) - (intOf kv).toNat)
        case atStart => exact ⟨0, by omega, rfl, HO.out, hbl⟩
        case round =>
          obtain ⟨k, hk', rfl, hown, hbk⟩ := hrel
          have HO' := Lib.hid hown
          clear hown
          by_cases hkl : k < p.length - (i + 1)
          · have hcy := getD_cell (h1.below (hbk.mono hb1.size)) (show i + 1 + k < p.length by omega)
            have hcs := cntTo_succ (p := p) (i := i) (k := k) (by omega)
            have hcl := cntTo_le p i k
            obtain ⟨y, hy⟩ : ∃ x, x = p.getD (i + 1 + k) 0 := ⟨_, rfl⟩
            rw [← hy, ← Nat.add_assoc] at hcy
            rw [← hy, ← HX.out] at hcs
            obtain ⟨c, hc⟩ : ∃ c, c = cntTo p i k := ⟨_, rfl⟩
            rw [← hc] at hcl hcs
            have hoc := own_get HO'.out (ctab_at (cntTo p i k) hlt)
            rw [← hc] at hoc
            have hfr := HO'.out.frozenAt i
            rw [← hc] at HO'
            have HCC := Lib.hid hc
            clear hc hy
            by_cases hyx : y < x
            · rw [if_pos hyx] at hcs
              have HCS := Lib.hid hcs
              clear hcs
              have hst := own_set HO'.out i ((c : Int) + 1)
              rw [ctab_set] at hst
              have HST := Lib.hid hst
              clear hst
              go_wp2
              go_roundw
              case rel =>
                refine ⟨k + 1, by omega, by go_num, ?_, hbk.setCell (by exact Nat.le_refl _) _⟩
                rw [HCS.out]; exact HST.out
              case measure => simp [intOf]; omega
            · rw [if_neg hyx] at hcs
              have HCS := Lib.hid hcs
              clear hcs
              go_wp2
              go_roundw
              case rel =>
                refine ⟨k + 1, by omega, by go_num, ?_, hbk⟩
                rw [HCS.out]; exact HO'.out
              case measure => simp [intOf]; omega
          · obtain rfl : k = p.length - (i + 1) := by omega
            have hca := Lib.hid (cntTo_all p i)
            go_wp2
            go_roundw
            case rel =>
              refine ⟨i + 1, by omega, by go_num, ?_, hbk⟩
              rw [← hnx.out, ← hca.out]; exact HO'.out
            case measure => simp [intOf]; omega
    · obtain rfl : i = p.length := by omega
      have hfin := Lib.hid (ctab_all p)
      go_wp2
      go_ret2
      exact ⟨_, _, by rw [codeOf_length]; rfl, Sl.of_own (by rw [← hfin.out]; exact HO.out), by rw [codeOf_length]; exact Nat.le_refl _, hb1.trans (hbl.mono hb1.size)⟩
end Go.Proofs.Ytmlmdklheiafpaa
