/-
  perms.Check, perms.Letters: what they answer.
-/
import Derived.Test.YtmlmdklheiafpaaLib
import Derived.Test.YtmlmdklheiafpaaRoundsM
namespace Go.Proofs.Ytmlmdklheiafpaa
open Go.RowKit

def permChk (xs : List Int) : Int := if 40 < xs.length then 2 else if IsPerm xs then 0 else 1

theorem permChk_large {xs : List Int} (h : 40 < xs.length) : permChk xs = 2 := by simp [permChk, h]
theorem permChk_ok {xs : List Int} (h : ¬ 40 < xs.length) (hp : IsPerm xs) : permChk xs = 0 := by simp [permChk, h, hp]
theorem permChk_bad {xs : List Int} (h : ¬ 40 < xs.length) (hp : ¬ IsPerm xs) : permChk xs = 1 := by simp [permChk, h, hp]

/-- The table of the numbers that were seen. -/
def SeenArr (w : World) (g : Nat) (xs : List Int) : Prop :=
  ∃ cs : Array Value, w.heap[g]? = some (.cells cs 27 (0, 0)) ∧ cs.size = 41 ∧ ∀ i : Nat, i < 41 → cs[i]? = some (.bool (decide ((i : Int) ∈ xs)))

theorem SeenArr.cell {w : World} {g : Nat} {xs : List Int} (h : SeenArr w g xs) {x : Int} (h0 : 0 ≤ x) (h1 : x ≤ 40) :
    w.cell? ⟨g, x.toNat, none⟩ = some (.bool (decide (x ∈ xs))) := by
  obtain ⟨cs, hg, hs, hc⟩ := h
  rw [cell_of_row _ _ _ _ _ _ hg, hc _ (by omega), Int.toNat_of_nonneg h0]
theorem SeenArr.cellN {w : World} {g : Nat} {xs : List Int} (h : SeenArr w g xs) {k : Nat} (hk : k ≤ 40) {x : Int} (hx : x = k) :
    w.cell? ⟨g, k, none⟩ = some (.bool (decide (x ∈ xs))) := by
  subst hx
  have := h.cell (x := (k : Int)) (by omega) (by omega)
  rwa [Int.toNat_natCast] at this
theorem SeenArr.frozen {w : World} {g : Nat} {xs : List Int} (h : SeenArr w g xs) (i : Nat) : w.frozen? ⟨g, i, none⟩ = false := by
  obtain ⟨cs, hg, hs, hc⟩ := h
  exact frozen_of_row w g i cs _ hg
theorem SeenArr.set_ {w : World} {g : Nat} {xs ys : List Int} (h : SeenArr w g xs) {x : Int} (h0 : 0 ≤ x) (h1 : x ≤ 40) (hy : ∀ y, y ∈ ys ↔ y ∈ xs ∨ y = x) :
    SeenArr (w.setCell ⟨g, x.toNat, none⟩ (.bool true)) g ys := by
  obtain ⟨cs, hg, hs, hc⟩ := h
  refine ⟨cs.setIfInBounds x.toNat (.bool true), heap_setCell_same w g _ cs _ _ hg, by simpa using hs, fun i hi => ?_⟩
  rw [Array.getElem?_setIfInBounds]
  split
  · subst_vars
    rw [if_pos (by omega)]
    simp only [Option.some.injEq, Value.bool.injEq]
    refine (decide_eq_true ?_).symm
    rw [hy]; right; omega
  · rw [hc i hi]
    simp only [Option.some.injEq, Value.bool.injEq, decide_eq_decide]
    rw [hy]
    constructor
    · exact Or.inl
    · rintro (h | h)
      · exact h
      · omega

theorem seen_new (w : World) : SeenArr (w.alloc (.cells #[.bool false, .bool false, .bool false, .bool false, .bool false, .bool false, .bool false, .bool false, .bool false, .bool false, .bool false, .bool false, .bool false, .bool false, .bool false, .bool false, .bool false, .bool false, .bool false, .bool false, .bool false, .bool false, .bool false, .bool false, .bool false, .bool false, .bool false, .bool false, .bool false, .bool false, .bool false, .bool false, .bool false, .bool false, .bool false, .bool false, .bool false, .bool false, .bool false, .bool false, .bool false] 27)) w.heap.size [] := by
  refine ⟨Array.replicate 41 (.bool false), heap_alloc_new _ _, by simp, fun i hi => ?_⟩
  simp [hi]

set_option maxHeartbeats 800000 in
theorem check_any (A : Option Addr) (cap : Nat) (xs : List Int) (w : World) (hcl : xs.length ≤ 9223372036854775807) (h : Sl w w.heap.size A (ints xs)) :
    Calls Try.prog 55 #[.slice A xs.length cap] w fun e w' => e = .returned (.int .i64 (permChk xs)) ∧ Below w.heap.size w w' := by
  by_cases hn : 40 < xs.length
  · rw [permChk_large hn]
    go_enter Try.func55, Try.ntmps55
    go_wp2
    go_ret
    exact ⟨rfl, Below.refl _ _⟩
  have hn' : xs.length ≤ 40 := by omega
  have HN := Lib.hid hn
  clear hn
  go_enter Try.func55, Try.ntmps55
  go_wp2
  go_loopw [11] (fun i wr => ∃ k : Nat, k ≤ xs.length ∧ i = .int .i64 k ∧ SeenArr wr w.heap.size (xs.take k) ∧ Below w.heap.size w wr ∧ (xs.take k).Nodup ∧ ∀ x ∈ xs.take k, 1 ≤ x ∧ x ≤ (xs.length : Int)) (fun i _ => xs.length - (intOf i).toNat)
  case atStart =>
    exact ⟨0, by omega, rfl, seen_new w, (Below.refl _ _).alloc (Nat.le_refl _) _, by simp, by simp⟩
  case round =>
    obtain ⟨k, hk, rfl, hseen, hbl, hnd, hrg⟩ := hrel
    have HND := Lib.hid hnd
    have HRG := Lib.hid hrg
    have HS := Lib.hid hseen
    clear hnd hrg hseen
    by_cases hlt : k < xs.length
    · obtain ⟨b, o, rfl, hb, hc0⟩ := h.at_ hlt
      have hcx := (hbl.cell (p := ⟨b, o + k, none⟩) (by exact hb)).trans hc0
      have ht := take_snoc hlt
      obtain ⟨x, hx⟩ : ∃ x, x = xs[k] := ⟨_, rfl⟩
      rw [← hx] at hcx ht
      have HT := Lib.hid ht
      have HX := Lib.hid hx
      clear hc0 ht hx
      have hxm : Hid (x ∈ xs) := by rw [HX.out]; exact List.getElem_mem hlt
      by_cases h1 : x < 1
      · have hfin : Hid (permChk xs = 1) := permChk_bad HN.out (fun hp => by have := (hp.2 x hxm.out).1; omega)
        go_wp2
        go_ret
        exact ⟨by rw [hfin.out]; rfl, hbl⟩
      by_cases h2 : (xs.length : Int) < x
      · have hfin : Hid (permChk xs = 1) := permChk_bad HN.out (fun hp => by have := (hp.2 x hxm.out).2; omega)
        go_wp2
        go_ret
        exact ⟨by rw [hfin.out]; rfl, hbl⟩
      have hcs := HS.out.cell (x := x) (by omega) (by omega)
      by_cases h3 : x ∈ xs.take k
      · have hfin : Hid (permChk xs = 1) := permChk_bad HN.out (fun hp => by
          have := hp.1
          rw [← List.take_append_drop (k + 1) xs, List.nodup_append, HT.out, nodup_snoc] at this
          exact this.1.2 h3)
        rw [decide_eq_true h3] at hcs
        go_wp2
        go_ret
        exact ⟨by rw [hfin.out]; rfl, hbl⟩
      · rw [decide_eq_false h3] at hcs
        have hfr := HS.out.frozen x.toNat
        have H3 := Lib.hid h3
        clear h3
        go_wp2
        go_roundw
        case rel =>
          refine ⟨k + 1, by omega, by go_num, HS.out.set_ (by omega) (by omega) (fun y => ?_), hbl.setCell (by exact Nat.le_refl _) _, ?_, ?_⟩
          · rw [HT.out]; simp
          · rw [HT.out]; exact nodup_snoc.2 ⟨HND.out, H3.out⟩
          · rw [HT.out]
            intro y hy
            rcases List.mem_append.1 hy with hy | hy
            · exact HRG.out y hy
            · simp at hy; omega
        case measure => simp [intOf]; omega
    · have hfin : Hid (permChk xs = 0) := permChk_ok HN.out ⟨by have := HND.out; rwa [List.take_of_length_le (by omega)] at this, by have := HRG.out; rwa [List.take_of_length_le (by omega)] at this⟩
      go_wp2
      go_ret
      exact ⟨by rw [hfin.out]; rfl, hbl⟩

end Go.Proofs.Ytmlmdklheiafpaa
