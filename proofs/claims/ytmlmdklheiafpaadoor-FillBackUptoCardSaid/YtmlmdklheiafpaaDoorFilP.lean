/-
  Plain: what FillBack's law asks of tableaux.
-/
import Derived.Test.YtmlmdklheiafpaaDoorStdN
import Derived.Test.YtmlmdklheiafpaaDoorRdM
import Derived.Test.YtmlmdklheiafpaaDoorRoundsM
namespace Go.Proofs.YtmlmdklheiafpaaDoor
open Std1 Fil
theorem FillOk.good {T : List (List Int)} (h : FillOk T) : Good T := ⟨h.1.ne, fun r hr x hx => h.2.1 r hr x hx⟩
theorem std_lens (T : List (List Int)) : (std T).map List.length = T.map List.length := by
  apply List.ext_getElem (by simp [std_length])
  intro i h1 h2
  have hi : i < T.length := by simpa using h2
  have := std_len T i
  unfold len at this
  rw [getD_get (by rw [std_length]; exact hi), getD_get hi] at this
  simpa using this
theorem boxes_std (T : List (List Int)) : boxes (std T) = boxes T := by unfold boxes; rw [std_lens]
theorem allB_len (T : List (List Int)) : (allB T).length = boxes T := by
  rw [← boxes_std T]
  have h := congrArg List.length (std_flatten T)
  rw [List.length_map, List.length_flatten] at h
  exact h.symm
theorem FillOk.std {T : List (List Int)} (h : FillOk T) : FillOk (std T) := by
  have ht := TOk.of h
  have hs := ht.std
  refine fill_of (by rw [boxes_std]; exact h.2.2) (fun i hi => ?_)
  rw [std_length] at hi
  have hl := std_len T i
  have hr := h.row hi
  refine ⟨?_, fun h0 => ?_, fun j hj => ⟨?_, fun h0 => ?_, fun h0 => ?_⟩⟩
  · show len (Std1.std T) i ≠ 0
    rw [hl]; exact hr.1
  · show len (Std1.std T) i ≤ len (Std1.std T) (i - 1)
    rw [hl, std_len]; exact hr.2.1 h0
  · have hj : j < len (Std1.std T) i := hj
    rw [hl] at hj
    show Lt (ent (Std1.std T) i j)
    rw [std_ent hi hj]
    have := rk_len (T := T) (b := (i, j)) (mem_allB.2 ⟨hi, hj⟩)
    rw [allB_len] at this
    have := h.2.2
    exact ⟨by omega, by omega⟩
  · have hj : j < len (Std1.std T) i := hj
    show ent (Std1.std T) i (j - 1) ≤ ent (Std1.std T) i j
    have := hs.row i (j - 1) (by rw [std_length]; exact hi) (by omega)
    rwa [show j - 1 + 1 = j by omega] at this
  · have hj : j < len (Std1.std T) i := hj
    show ent (Std1.std T) (i - 1) j < ent (Std1.std T) i j
    have := (hs.col (i - 1) j (by rw [std_length]; omega) (by rw [show i - 1 + 1 = i by omega]; exact hj)).2
    rwa [show i - 1 + 1 = i by omega] at this
theorem FillOk.std_isPerm {T : List (List Int)} (h : FillOk T) : IsPerm (Std1.std T).flatten := (TOk.of h).std_perm
theorem FillOk.std_twice {T : List (List Int)} (h : FillOk T) : Std1.std (Std1.std T) = Std1.std T := (TOk.of h).std_std
theorem one_ok : FillOk [[1, 1, 2], [2, 3]] := by
  refine fill_of (by decide) (fun i hi => ?_)
  match i, hi with
  | 0, _ => exact ⟨by decide, by decide, fun j hj => by match j, hj with | 0, _ => exact ⟨⟨by decide, by decide⟩, by decide, by decide⟩ | 1, _ => exact ⟨⟨by decide, by decide⟩, by decide, by decide⟩ | 2, _ => exact ⟨⟨by decide, by decide⟩, by decide, by decide⟩⟩
  | 1, _ => exact ⟨by decide, by decide, fun j hj => by match j, hj with | 0, _ => exact ⟨⟨by decide, by decide⟩, by decide, by decide⟩ | 1, _ => exact ⟨⟨by decide, by decide⟩, by decide, by decide⟩⟩
theorem one_txt : txt [[1, 1, 2], [2, 3]] = [49, 32, 49, 32, 50, 47, 50, 32, 51] := by decide
theorem txt_small {T : List (List Int)} (h : FillOk T) : (txt T).length ≤ 5000 := by
  have h1 := txt_le (B := 40) T (fun r hr => by
    obtain ⟨j, hj, e⟩ := List.getElem_of_mem hr
    have := h.small.2 j
    rwa [getD_get hj, e] at this)
  have h2 := h.small.1
  have h3 := Nat.mul_le_mul_left (3 * 40 + 1) h2
  omega
end Go.Proofs.YtmlmdklheiafpaaDoor
