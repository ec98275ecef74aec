/-
  ParkingBack: what its calls answer, put together.
-/
import Derived.Test.YtdmpbbgcifodeaaCodW
import Derived.Test.YtdmpbbgcifodeaaRooW
import Derived.Test.YtdmpbbgcifodeaaUnrW
namespace Go.Proofs.Ytdmpbbgcifodeaa
open Go.RowKit

theorem code_of_tree {c : List Int} {E : List Edge} (hok : CodeOk c) (h : Run (upTo (c.length + 2)) c E) : CodeT (edgedL E) ∧ ∀ d, Run (upTo ((edgedL E).length + 1)) d (edgedL E) → d = c := by
  have hl := h.len.2
  have hl2 : (edgedL E).length = c.length + 1 := by rw [edged_len]; exact hl
  obtain ⟨E', hE', ht⟩ := run_of_code c (upTo (c.length + 2)) (upTo_sorted _) (length_upTo _) (fun x hx => mem_upTo.2 (hok.2 x hx))
  have hp := h.edges hE'
  have ht2 := ht.perm (hp.symm.trans (edged_nrm E).symm)
  have hr := h.perm (edged_nrm E).symm
  have := hok.1
  refine ⟨⟨?_, by omega, by omega⟩, fun d hd => ?_⟩
  · rw [hl2]; exact tree1_iff.2 ht2
  · rw [hl2] at hd
    exact (hr.code (nodup_upTo _) hd).symm
theorem tree_of_code {l : List Edge} {d : List Int} (ht : CodeT l) (h : Run (upTo (l.length + 1)) d l) : CodeOk d ∧ ∀ E, Run (upTo (d.length + 2)) d E → edgedL E = edgedL l := by
  have hl := h.len.1
  rw [length_upTo] at hl
  have hg := (h.deg (nodup_upTo _)).2.1
  have h19 := ht.2.2
  refine ⟨⟨by omega, fun x hx => ?_⟩, fun E hE => ?_⟩
  · have := mem_upTo.1 (hg x hx)
    rw [hl] at this
    exact this
  · rw [← hl] at hE
    exact edged_same (hE.edges h)
theorem edged3 {E : List Edge} (h : Run (upTo 3) [3] E) : edgedL E = [(1, 3), (2, 3)] := by
  have h0 : Run (upTo 3) [3] [(1, 3), (2, 3)] := by
    have e : upTo 3 = [1, 2, 3] := by decide
    rw [e]
    refine Run.step (v := 1) (e := (1, 3)) (by decide) (by decide) (by decide) (by decide) (by decide) (.inl rfl) (by decide) ?_
    have e2 : ([1, 2, 3] : List Int).erase 1 = [2, 3] := by decide
    have e3 : ([(1, 3), (2, 3)] : List Edge).erase (1, 3) = [(2, 3)] := by decide
    rw [e2, e3]
    exact Run.last (by decide) (.inl rfl)
  rw [edged_same (h.edges h0)]
  decide

def TreeR (c : List Int) (v : Value) (k : Int) (w' : World) : Prop :=
  (k = 0 ∧ CodeOk c ∧ ∃ A cap E, Run (upTo (c.length + 2)) c E ∧ v = .slice A (edgedL E).length cap ∧ Sl w' w'.heap.size A (pcells (edgedL E))) ∨ (k ≠ 0 ∧ ¬ CodeOk c)
theorem PTree.res {c : List Int} {e : Ending} {w' : World} (h : PTree c e w') : ∃ v k, e = .returned (.tuple #[v, .int .i64 k]) ∧ TreeR c v k w' := by
  rcases h with ⟨hok, A, cap, E, hr, rfl, hs⟩ | ⟨hno, k, hk, rfl⟩
  · refine ⟨_, _, rfl, .inl ⟨rfl, hok, A, cap, E, hr, ?_, hs⟩⟩
    rw [edged_len, hr.len.2]
  · exact ⟨_, _, rfl, .inr ⟨hk, hno⟩⟩
def CodeR (l : List Edge) (v : Value) (k : Int) (w' : World) : Prop :=
  (k = 0 ∧ CodeT l ∧ ∃ A cap c, Run (upTo (l.length + 1)) c l ∧ v = .slice A c.length cap ∧ Sl w' w'.heap.size A (ints c)) ∨ (k ≠ 0 ∧ ¬ CodeT l ∧ v = .slice none 0 0)
theorem PCode.res {l : List Edge} {e : Ending} {w' : World} (h : PCode l e w') : ∃ v k, e = .returned (.tuple #[v, .int .i64 k]) ∧ CodeR l v k w' := by
  rcases h with ⟨hok, A, cap, c, hr, rfl, hs⟩ | ⟨hno, k, hk, rfl⟩
  · exact ⟨_, _, rfl, .inl ⟨rfl, hok, A, cap, c, hr, rfl, hs⟩⟩
  · exact ⟨_, _, rfl, .inr ⟨hk, hno, rfl⟩⟩
def RootR (d : List Int) (v : Value) (k : Int) (w' : World) : Prop :=
  (k = 0 ∧ (d.length ≤ 20 ∧ Crit d) ∧ ∃ A cap, v = .slice A (edgedL (edgesD d)).length cap ∧ Sl w' w'.heap.size A (pcells (edgedL (edgesD d)))) ∨ (k ≠ 0 ∧ ¬ (d.length ≤ 20 ∧ Crit d))
theorem edgesD_len (d : List Int) : (edgesD d).length = d.length := by simp [edgesD]
theorem PRoot.res {d : List Int} {e : Ending} {w' : World} (h : PRoot d e w') : ∃ v k, e = .returned (.tuple #[v, .int .i64 k]) ∧ RootR d v k w' := by
  rcases h with ⟨hok, A, cap, rfl, hs⟩ | ⟨hno, k, hk, rfl⟩
  · exact ⟨_, _, rfl, .inl ⟨rfl, hok, A, cap, by rw [edged_len, edgesD_len], hs⟩⟩
  · exact ⟨_, _, rfl, .inr ⟨hk, hno⟩⟩
def UnrR (l : List Edge) (v : Value) (k : Int) (w' : World) : Prop :=
  (k = 0 ∧ ∃ A cap d, d.length = l.length ∧ l.length ≤ 20 ∧ Crit d ∧ ((edgesD d).map nrm).Perm (l.map nrm) ∧ v = .slice A d.length cap ∧ Sl w' w'.heap.size A (ints d)) ∨ k ≠ 0
def UnrP (l : List Edge) (e : Ending) (w' : World) : Prop := ∃ v k, e = .returned (.tuple #[v, .int .i64 k]) ∧ UnrR l v k w'
theorem unr_any (A : Option Addr) (cap : Nat) (l : List Edge) (w : World) (hcl : l.length ≤ 2000000) (h : Sl w w.heap.size A (pcells l)) :
    Calls Try.prog 57 #[.slice A l.length cap] w fun e w' => UnrP l e w' ∧ Below w.heap.size w w' := by
  by_cases hu : UTree l
  · obtain ⟨d, hd1, hd2, hd3⟩ := list_of_tree (tree0_iff.1 hu.2)
    refine (unr_yes A cap l d w hu.1 h hd2 hd1 hd3).mono ?_
    rintro e w' ⟨⟨A', cap', rfl, hs⟩, hb⟩
    exact ⟨⟨_, _, rfl, .inl ⟨rfl, A', cap', d, hd1, hu.1, hd2, hd3, by rw [hd1], hs⟩⟩, hb⟩
  · refine (unr_no A cap l w hcl h hu).mono ?_
    rintro e w' ⟨⟨k, hk, rfl⟩, hb⟩
    exact ⟨⟨_, _, rfl, .inr hk⟩, hb⟩
/-- Unrooted of what Rooted told. -/
theorem unr_root (A : Option Addr) (cap : Nat) (d : List Int) (w : World) (h20 : d.length ≤ 20) (hc : Crit d) (h : Sl w w.heap.size A (pcells (edgedL (edgesD d)))) :
    Calls Try.prog 57 #[.slice A (edgedL (edgesD d)).length cap] w fun e w' => (∃ A' cap', e = .returned (.tuple #[.slice A' d.length cap', .int .i64 0]) ∧ Sl w' w'.heap.size A' (ints d)) ∧ Below w.heap.size w w' := by
  have hl : (edgedL (edgesD d)).length = d.length := by rw [edged_len, edgesD_len]
  have := unr_yes A cap (edgedL (edgesD d)) d w (by omega) h hc hl.symm (edged_nrm _).symm
  rw [hl] at this ⊢
  exact this
end Go.Proofs.Ytdmpbbgcifodeaa
