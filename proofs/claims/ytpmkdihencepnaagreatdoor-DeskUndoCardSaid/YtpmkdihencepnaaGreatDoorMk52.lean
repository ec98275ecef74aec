/- Part of the proof. -/
import Derived.Test.YtpmkdihencepnaaGreatDoorMk51
namespace Go.Proofs.YtpmkdihencepnaaGreatDoor
section
open Go.RowKit Go.Proofs
open Go.Shelf Go.Lib
theorem Old.step {w0 w w' : World} {X : Nat → Prop} (h : Old w0 w) (hf : Fx X w w') (hX : ∀ k, X k → w0.heap.size ≤ k) : Old w0 w' :=
 ⟨Nat.le_trans h.1 hf.1, fun k hk _ => (hf.2 k (Nat.lt_of_lt_of_le hk h.1) (fun g => by have := hX k g; omega)).trans (h.2 k hk id), hf.3.1.trans h.3.1, hf.3.2.1.trans h.3.2.1, hf.3.2.2.trans h.3.2.2⟩
theorem Old.env {w0 w : World} (he : Env w0) (h : Old w0 w) : EnvB w0.heap.size w := (EnvB.of he).old h
theorem Old.toBelow {w0 w : World} (h : Old w0 w) : Below w0.heap.size w0 w := ⟨h.3.1, h.3.2.1, h.3.2.2, h.1, fun k hk => h.2 k hk id⟩
theorem Hi.lt {p : Nat} {v1 v2 : Value} {S : St} {w : World} (h : DeskM w p v1 v2 S) {k : Nat} (hk : DX p v1 v2 k) : k < w.heap.size := by
 obtain ⟨_, _, _, h1, _⟩ := h.bare k hk
 exact lt_of_some h1
def DOne (w0 w : World) (p : Nat) (S : St) : Prop := ∃ v1 v2, DeskM w p v1 v2 S ∧ Hi w0.heap.size p v1 v2 ∧ RepD S ∧ Old w0 w
def DTwo (w0 w : World) (p q : Nat) (S T : St) : Prop := ∃ v1 v2 u1 u2, DeskM w p v1 v2 S ∧ DeskM w q u1 u2 T ∧ Hi w0.heap.size p v1 v2 ∧ Hi w0.heap.size q u1 u2 ∧ (∀ k, DX p v1 v2 k → ¬ DX q u1 u2 k) ∧ RepD S ∧ RepD T ∧ Old w0 w
theorem DTwo.swap {w0 w : World} {p q : Nat} {S T : St} (h : DTwo w0 w p q S T) : DTwo w0 w q p T S := by
 obtain ⟨v1, v2, u1, u2, h1, h2, h3, h4, h5, h6, h7, h8⟩ := h
 exact ⟨u1, u2, v1, v2, h2, h1, h4, h3, fun k hk hj => h5 k hj hk, h7, h6, h8⟩
theorem DTwo.old {w0 w : World} {p q : Nat} {S T : St} (h : DTwo w0 w p q S T) : Old w0 w := by
 obtain ⟨v1, v2, u1, u2, h1, h2, h3, h4, h5, h6, h7, h8⟩ := h; exact h8
theorem DTwo.rep {w0 w : World} {p q : Nat} {S T : St} (h : DTwo w0 w p q S T) : RepD S := by
 obtain ⟨v1, v2, u1, u2, h1, h2, h3, h4, h5, h6, h7, h8⟩ := h; exact h6
theorem DOne.old {w0 w : World} {p : Nat} {S : St} (h : DOne w0 w p S) : Old w0 w := by
 obtain ⟨v1, v2, h1, h2, h3, h4⟩ := h; exact h4
theorem DOne.rep {w0 w : World} {p : Nat} {S : St} (h : DOne w0 w p S) : RepD S := by
 obtain ⟨v1, v2, h1, h2, h3, h4⟩ := h; exact h3
theorem DOne.below {w0 w w' : World} {p : Nat} {S : St} (h : DOne w0 w p S) (hb : Below w.heap.size w w') : DOne w0 w' p S := by
 obtain ⟨v1, v2, h1, h2, h3, h4⟩ := h
 exact ⟨v1, v2, h1.below hb, h2, h3, h4.step (X := fun _ => False) (Fx.of_below hb) (fun _ h => h.elim)⟩
theorem DTwo.below {w0 w w' : World} {p q : Nat} {S T : St} (h : DTwo w0 w p q S T) (hb : Below w.heap.size w w') : DTwo w0 w' p q S T := by
 obtain ⟨v1, v2, u1, u2, h1, h2, h3, h4, h5, h6, h7, h8⟩ := h
 exact ⟨v1, v2, u1, u2, h1.below hb, h2.below hb, h3, h4, h5, h6, h7, h8.step (X := fun _ => False) (Fx.of_below hb) (fun _ h => h.elim)⟩
theorem DOne.do {w0 w : World} {p : Nat} {S : St} (he : Env w0) (h : DOne w0 w p S) (line : Str) (hl : line.length ≤ 9223372036854775807) :
 Calls Tryz.prog 6 #[.pointer (some ⟨p, 0, none⟩), sv line] w fun e w' => e = .returned (.tuple #[sv (doF S line).1.1, .int .i64 (doF S line).1.2]) ∧ DOne w0 w' p (doF S line).2 := by
 obtain ⟨v1, v2, h1, h2, h3, h4⟩ := h
 refine (do_c p w0.heap.size v1 v2 S line w h1 h3 (h4.env he) h2 hl).mono ?_
 rintro e w' ⟨rfl, v1', v2', g1, g2⟩
 exact ⟨rfl, v1', v2', g1, h2.step g2 h4.1, h3.next line, h4.step g2.1 h2⟩
theorem DOne.save {w0 w : World} {p : Nat} {S : St} (h : DOne w0 w p S) :
 Calls Tryz.prog 7 #[.pointer (some ⟨p, 0, none⟩)] w fun e w' => e = .returned (sv (sav S.log)) ∧ DOne w0 w' p S := by
 have h0 := h
 obtain ⟨v1, v2, h1, h2, h3, h4⟩ := h
 refine (save_c p v1 v2 S w h1 h3).mono ?_
 rintro e w' ⟨rfl, hb⟩
 exact ⟨rfl, h0.below hb⟩
theorem DOne.new {w0 w : World} (h : Old w0 w) : Calls Tryz.prog 5 #[] w fun e w' => ∃ p, e = .returned (.pointer (some ⟨p, 0, none⟩)) ∧ DOne w0 w' p St.new := by
 refine (new_c w).mono ?_
 rintro e w' ⟨p, rfl, h1, h2, h3⟩
 exact ⟨p, rfl, _, _, h1, hi_nil (Nat.le_trans h.1 h3), .new, h.step (X := fun _ => False) (Fx.of_below h2) (fun _ h => h.elim)⟩
theorem DTwo.of {w0 w w' : World} {p q : Nat} {S T : St} {u1 u2 : Value} (h : DOne w0 w p S) (hq : DeskM w' q u1 u2 T) (hi : Hi w.heap.size q u1 u2) (hr : RepD T) (ho : Old w w') : DTwo w0 w' p q S T := by
 obtain ⟨v1, v2, h1, h2, h3, h4⟩ := h
 refine ⟨v1, v2, u1, u2, h1.old ho, hq, h2, fun k hk => Nat.le_trans h4.1 (hi k hk), fun k hk hj => ?_, h3, hr, h4.step ho (fun _ h => h.elim)⟩
 have a := Hi.lt h1 hk
 have b := hi k hj
 omega
theorem DTwo.new {w0 w : World} {p : Nat} {S : St} (h : DOne w0 w p S) : Calls Tryz.prog 5 #[] w fun e w' => ∃ q, e = .returned (.pointer (some ⟨q, 0, none⟩)) ∧ DTwo w0 w' p q S St.new := by
 refine (new_c w).mono ?_
 rintro e w' ⟨q, rfl, h1, h2, h3⟩
 exact ⟨q, rfl, .of h h1 (hi_nil h3) .new (Fx.of_below h2)⟩
theorem DTwo.load {w0 w : World} {p : Nat} {S : St} (he : Env w0) (h : DOne w0 w p S) :
 Calls Tryz.prog 11 #[sv (sav S.log)] w fun e w' => ∃ q, e = .returned (.tuple #[.pointer (some ⟨q, 0, none⟩), .agg #[.int .i64 0, .int .i64 0]]) ∧ DTwo w0 w' p q S S := by
 refine (load_c S h.rep w (h.old.env he).env).mono ?_
 rintro e w' ⟨q, v1, v2, rfl, h1, h2, h3⟩
 exact ⟨q, rfl, .of h h1 h2 h.rep h3⟩
theorem DTwo.do1 {w0 w : World} {p q : Nat} {S T : St} (he : Env w0) (h : DTwo w0 w p q S T) (line : Str) (hl : line.length ≤ 9223372036854775807) :
 Calls Tryz.prog 6 #[.pointer (some ⟨p, 0, none⟩), sv line] w fun e w' => e = .returned (.tuple #[sv (doF S line).1.1, .int .i64 (doF S line).1.2]) ∧ DTwo w0 w' p q (doF S line).2 T := by
 obtain ⟨v1, v2, u1, u2, h1, h2, h3, h4, h5, h6, h7, h8⟩ := h
 refine (do_c p w0.heap.size v1 v2 S line w h1 h6 (h8.env he) h3 hl).mono ?_
 rintro e w' ⟨rfl, v1', v2', g1, g2⟩
 refine ⟨rfl, v1', v2', u1, u2, g1, h2.fr g2.1 h1.bare (fun k hk hj => h5 k hj hk), h3.step g2 h8.1, h4, fun k hk hj => ?_, h6.next line, h7, h8.step g2.1 h3⟩
 rcases g2.2 k hk with g | g
 · exact h5 k g hj
 · have := Hi.lt h2 hj; omega
theorem DTwo.do2 {w0 w : World} {p q : Nat} {S T : St} (he : Env w0) (h : DTwo w0 w p q S T) (line : Str) (hl : line.length ≤ 9223372036854775807) :
 Calls Tryz.prog 6 #[.pointer (some ⟨q, 0, none⟩), sv line] w fun e w' => e = .returned (.tuple #[sv (doF T line).1.1, .int .i64 (doF T line).1.2]) ∧ DTwo w0 w' p q S (doF T line).2 := by
 refine (DTwo.do1 he h.swap line hl).mono ?_
 rintro e w' ⟨rfl, h1⟩
 exact ⟨rfl, h1.swap⟩
theorem DTwo.save1 {w0 w : World} {p q : Nat} {S T : St} (h : DTwo w0 w p q S T) :
 Calls Tryz.prog 7 #[.pointer (some ⟨p, 0, none⟩)] w fun e w' => e = .returned (sv (sav S.log)) ∧ DTwo w0 w' p q S T := by
 have h0 := h
 obtain ⟨v1, v2, u1, u2, h1, h2, h3, h4, h5, h6, h7, h8⟩ := h
 refine (save_c p v1 v2 S w h1 h6).mono ?_
 rintro e w' ⟨rfl, hb⟩
 exact ⟨rfl, h0.below hb⟩
theorem DTwo.save2 {w0 w : World} {p q : Nat} {S T : St} (h : DTwo w0 w p q S T) :
 Calls Tryz.prog 7 #[.pointer (some ⟨q, 0, none⟩)] w fun e w' => e = .returned (sv (sav T.log)) ∧ DTwo w0 w' p q S T := by
 refine (DTwo.save1 h.swap).mono ?_
 rintro e w' ⟨rfl, h1⟩
 exact ⟨rfl, h1.swap⟩
noncomputable def runF (S : St) (ls : List Str) : St := ls.foldl (fun S l => (doF S l).2) S
theorem runF_snoc (S : St) (ls : List Str) {i : Nat} (h : i < ls.length) : runF S (ls.take (i + 1)) = (doF (runF S (ls.take i)) (ls.getD i [])).2 := by
 unfold runF
 rw [List.take_succ_eq_append_getElem h, List.foldl_append, getD_str h]
 rfl
end
end Go.Proofs.YtpmkdihencepnaaGreatDoor
