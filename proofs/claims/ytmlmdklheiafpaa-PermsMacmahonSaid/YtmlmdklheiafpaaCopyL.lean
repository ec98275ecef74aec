/-
  copy within one row that the call owns: the law for a region that draws its order.
-/
import Derived.Test.YtmlmdklheiafpaaLib
import Derived.Laws.CopyOwn
namespace Go.Proofs.Ytmlmdklheiafpaa
open Go.RowKit

theorem splice_map {α β : Type} (f : α → β) (l : List α) (off : Nat) (cs : List α) : (splice l off cs).map f = splice (l.map f) off (cs.map f) := by
  simp [splice]

theorem take_splice {α : Type} (L : List α) (off n : Nat) (cs : List α) (h : off + cs.length ≤ n) (hn : n ≤ L.length) : (splice L off cs).take n = splice (L.take n) off cs := by
  unfold splice
  have e1 : (L.take off).length = off := by simp; omega
  have e2 : (L.take n).take off = L.take off := by rw [List.take_take, Nat.min_eq_left (by omega)]
  have e3 : (L.take n).drop (off + cs.length) = (L.drop (off + cs.length)).take (n - (off + cs.length)) := List.drop_take ..
  rw [List.take_append, e1, List.take_of_length_le (show (L.take off).length ≤ n by omega), List.take_append, List.take_of_length_le (show cs.length ≤ n - off by omega), e2, e3,
    show n - off - cs.length = n - (off + cs.length) by omega]

theorem step_copy_own {ops : Array Oper} {o : Oper} {a : Act} {w : World} {K : Act → World → Prop} {Q : Exit → Act → World → Prop} {E : Prop} {base : Nat} (hgd : o.guard = none) (d s : Operand)
    (ho : o.op = .call { callee := .builtin .copy, args := #[d, s], argTypes := #[22, 22] })
    (g n cap : Nat) (l : List Int) (hown : w.ownsRow base 3 1 (.slice (some ⟨g, 0, none⟩) n cap) n (ints l)) (off src m : Nat) (dp sp : Option Addr) (dLen dCap sLen sCap : Nat)
    (hd : a.eval d = .slice dp dLen dCap) (hs : a.eval s = .slice sp sLen sCap) (hm : Nat.min sLen dLen = m) (hdp : 0 < m → dp = some ⟨g, off, none⟩) (hsp : 0 < m → sp = some ⟨g, src, none⟩)
    (ho1 : off + m ≤ n) (hs1 : src + m ≤ n)
    (h : ∀ w', Hid (w'.ownsRow base 3 1 (.slice (some ⟨g, 0, none⟩) n cap) n (ints (splice l off ((l.drop src).take m)))) → Hid (Below base w w') → K (a.put o.dst (goInt m)) w') :
    if Region.wanted o (yielded ops a.tmps) = true then Oper.wp Try.prog o a w K Q else E := by
  obtain ⟨i0, hi, hz0, hz1, hz2⟩ := info_parts Try.infoInt
  have hl := hown.1
  rw [ints_length] at hl
  have hl' : l.length = n := by omega
  rcases hown.2 with ⟨hv, _⟩ | ⟨g', cap', cur, hv, hb, hg, hnc, hcm, hcs, htake⟩
  · cases hv
  obtain ⟨rfl, rfl⟩ : g = g' ∧ cap = cap' := by simpa using hv
  have hcl : (ints ((l.drop src).take m)).length = m := by simp [ints]; omega
  have hcur : n ≤ cur.toList.length := by simp; omega
  refine step_copy_splice hgd d s 22 22 ho 3 Try.underlying22 (by rw [hi]; simp [hz1]) dp sp dLen dCap sLen sCap hd hs g off cur.toList 3 (by simpa using hg) (ints ((l.drop src).take m)) (by rw [hcl]; exact hm.symm)
    (fun hp => ?_) (by rw [hcl]; omega) ints_one base w (Below.refl _ _) hb (fun w' hg' hb' => ?_)
  · rw [hcl] at hp
    refine ⟨hdp hp, _, hsp hp, fun j v hj => ?_⟩
    have hjl : j < ((l.drop src).take m).length := by
      have := (List.getElem?_eq_some_iff.1 hj).1
      simpa [ints] using this
    have hjm : j < m := by simp at hjl; omega
    rw [Addr.add_lit, hown.cellAt _ (by omega), ints_get (show src + j < l.length by omega)]
    rw [ints_get hjl] at hj
    rw [← hj]
    simp
  · rw [hcl]
    refine h w' ?_ hb'
    show World.ownsRow _ _ _ _ _ _ _
    have hsl : (splice l off ((l.drop src).take m)).length = l.length := length_splice _ _ _ (by simp; omega)
    refine ⟨by rw [ints_length, hsl]; omega, .inr ⟨g, cap, _, rfl, hb, hg'.out, hnc, hcm, ?_, ?_⟩⟩
    · have := length_splice cur.toList off (ints ((l.drop src).take m)) (by rw [hcl]; omega)
      simp only [List.size_toArray]
      rw [this]; simpa using hcs
    · have e1 : (splice cur.toList off (ints ((l.drop src).take m))).take (n * 1) = splice (cur.toList.take (n * 1)) off (ints ((l.drop src).take m)) :=
        take_splice _ _ _ _ (by rw [hcl]; omega) (by omega)
      show (splice cur.toList off (ints ((l.drop src).take m))).take (n * 1) = _
      rw [e1, htake]
      exact (splice_map (Value.int .i64) l off ((l.drop src).take m)).symm

end Go.Proofs.Ytmlmdklheiafpaa
