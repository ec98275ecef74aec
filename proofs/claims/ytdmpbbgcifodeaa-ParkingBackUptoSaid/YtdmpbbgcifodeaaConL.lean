/-
  slices.Contains of pairs.
-/
import Derived.Test.YtdmpbbgcifodeaaPaiL
import Derived.Test.YtdmpbbgcifodeaaTreM
import Derived.Shelf.SlicesQ.Contains
import Derived.Laws.StructEq
import Derived.Ground.SlgqProg
namespace Go.Proofs
open Go.Shelf Go.Lib
shelf_lay_g SlLaysQ.n7 Slgq 7 at Try 98 as Try.conP
end Go.Proofs
namespace Go.Proofs.Ytdmpbbgcifodeaa
open Go.RowKit Go.Proofs
open Go.Shelf Go.Lib

def encP (x : Edge) : List Value := [.int .i64 x.1, .int .i64 x.2]
theorem eqP : EqlAt Try.prog 81 (fun x => .agg (encP x).toArray) (fun x y => x.1 == y.1 && x.2 == y.2) := by
  refine ⟨fun x y w => ?_, GuardAt.agg _ (by kernel_rfl)⟩
  have u3 := Try.underlying3
  have a3 := Try.isAgg3
  have z3 := Try.sizeOf3
  have hS : Try.prog.underlying 81 = some (.struct (Try.prog.fieldsOf 81)) := by kernel_rfl
  have hp : Try.prog.stoodInHeld 81 = false := by kernel_rfl
  simp only [encP]
  rw [run_eql_struct, show (10000 : Nat) = 9999 + 1 from rfl, run_equalIn_agg w 9999 _ _ _ hS hp]
  simp only [Program.fieldsOf, Try.underlying81]
  go_simp
  by_cases h1 : x.fst = y.fst <;> by_cases h2 : x.snd = y.snd <;> simp [h1, h2]
theorem con_any {b o cap : Nat} {l : List Edge} (y z : Int) (w : World) (hl : l.length ≤ 9223372036854775807) (h : Sl w w.heap.size (some ⟨b, o, none⟩) (pcells l)) :
    Calls Try.prog 98 #[.slice (some ⟨b, o, none⟩) l.length cap, .agg #[.int .i64 y, .int .i64 z]] w fun e w' => e = .returned (.bool (decide ((y, z) ∈ l))) ∧ Below w.heap.size w w' := by
  have hc := AnyQ.slices_Contains Try.conP 2 Try.isAgg81 Try.sizeOf81 encP (fun _ => rfl) _ eqP b o l.length cap l (y, z) w (Nat.le_refl _) hl (fun j hj i v hi => by
    obtain ⟨h1, h2⟩ := psl_at h hj
    have e : l[j]! = l.getD j (0, 0) := by rw [getElem!_pos l j hj, getD_get hj]
    rw [e] at hi
    match i, hi with
    | 0, hi => simp [encP] at hi; rw [← hi]; exact h1
    | 1, hi => simp [encP] at hi; rw [← hi]; exact h2)
  refine (show Calls _ _ _ _ _ from hc).mono ?_
  rintro e w' ⟨rfl, hb⟩
  refine ⟨?_, hb⟩
  congr 2
  rw [List.take_length, Bool.eq_iff_iff, List.any_eq_true, decide_eq_true_iff]
  constructor
  · rintro ⟨x, hx, he⟩
    simp at he
    obtain ⟨a, b⟩ := x
    simp only at he
    rw [he.1, he.2]; exact hx
  · intro h; exact ⟨_, h, by simp⟩
end Go.Proofs.Ytdmpbbgcifodeaa
