/-
  The builder's and the strings' contracts in the walks' words; rows of strings.
-/
import Derived.Test.YtdmpbbgcifodeaaBldS
import Derived.Test.YtdmpbbgcifodeaaBoolL
namespace Go.Proofs.Ytdmpbbgcifodeaa
open Go.RowKit Go.Proofs
open Go.Shelf Go.Lib

theorem Bld.lt {b : Nat} {l : List UInt8} {w : World} (h : Bld b l w) : b < w.heap.size := h.elim (fun k => k.lt) (fun k => k.lt)
/-- 'var b strings.Builder'. -/
theorem bld_new (w : World) : Bld w.heap.size [] (w.alloc (.cells #[.pointer none, .slice none 0 0] 115)) := Lib.fresh_isBuilder _ _ w
theorem wb_any {b : Nat} {l : List UInt8} {w : World} (c : UInt8) (h : Bld b l w) (hl : l.length < 1000000) :
    Calls Try.prog 83 #[.pointer (some ⟨b, 0, none⟩), .int .u8 c.toNat] w fun e w' => e = .returned .nilIface ∧ Bld b (l ++ [c]) w' ∧ Below b w w' := by
  refine (Any.Builder_WriteByte lays167 extraB b b (Lib.byteCells l) c.toNat w h (by simp [Lib.byteCells]; omega) (Nat.le_of_lt h.lt)).mono ?_
  rintro e w' ⟨he, h1, h2⟩
  have e1 : Lib.byteCells (l ++ [c]) = Lib.byteCells l ++ [.int .u8 c.toNat] := by simp [Lib.byteCells]
  exact ⟨he, .inr (by rw [e1]; exact h1), h2⟩
theorem ws_any {b : Nat} {l m : List UInt8} {w : World} (h : Bld b l w) (hl : l.length + m.length < 1000000) :
    Calls Try.prog 90 #[.pointer (some ⟨b, 0, none⟩), .string ⟨m.toArray⟩] w fun e w' => (∃ v, e = .returned v) ∧ Bld b (l ++ m) w' ∧ Below b w w' := by
  have hs : (⟨m.toArray⟩ : ByteArray).size = m.length := by simp [ByteArray.size]
  refine (Any.Builder_WriteString lays166 extra b b (Lib.byteCells l) ⟨m.toArray⟩ w h (by rw [hs]; simp [Lib.byteCells]; omega) (Nat.le_of_lt h.lt)).mono ?_
  rintro e w' ⟨he, h1, h2⟩
  have e1 : Lib.byteCells (l ++ m) = Lib.byteCells l ++ Lib.strCells ⟨m.toArray⟩ := by simp [Lib.byteCells, Lib.strCells]
  exact ⟨⟨_, he⟩, .inr (by rw [e1]; exact h1), h2⟩
theorem bs_any {b : Nat} {l : List UInt8} {w : World} (h : Bld b l w) :
    Calls Try.prog 84 #[.pointer (some ⟨b, 0, none⟩)] w fun e w' => e = .returned (.string ⟨l.toArray⟩) ∧ Below b w w' :=
  Any.Builder_String_any lays169 extra b b l w h (Nat.le_of_lt h.lt)
theorem rep_any (x : UInt8) (c : Nat) (w : World) (hc : c < 1000000) :
    Calls Try.prog 91 #[.string ⟨#[x]⟩, .int .i64 c] w fun e w' => e = .returned (.string ⟨(List.replicate c x).toArray⟩) ∧ Below w.heap.size w w' := by
  refine (Any.strings_Repeat Try.lays105 extra ⟨#[x]⟩ c w (by omega) (by simp [ByteArray.size]; omega)).mono ?_
  rintro e w' ⟨he, h2⟩
  refine ⟨?_, h2⟩
  have := Lib.repeatL_replicate x 1 c
  simp at this
  rw [he]; simp [this]
theorem cntB_any (l : List UInt8) (x : UInt8) (w : World) :
    Calls Try.prog 38 #[.string ⟨l.toArray⟩, .string ⟨#[x]⟩] w fun e w' => e = .returned (.int .i64 (l.count x)) ∧ w = w' := by
  refine (Any.strings_Count_one Try.lays138 ⟨l.toArray⟩ x w).mono ?_
  rintro e w' ⟨he, h2⟩
  exact ⟨by rw [he]; simp [Lib.countByte], h2.symm⟩

theorem Try.infoStr : (Try.prog.info? 9).map (fun i => (i.zero, i.size, i.bytes)) = some (some (.string ⟨#[]⟩), 1, 16) := by kernel_rfl
/-- Strings as a row reads them. -/
def strs (xs : List (List UInt8)) : List Value := xs.map (fun l => Value.string ⟨l.toArray⟩)
theorem strs_length (xs : List (List UInt8)) : (strs xs).length = xs.length := by simp [strs]

/-- 'append(v, x)' of one string: x was laid in a block of its own. -/
theorem wpList_appS {w : World} {base : Nat} {l : List (List UInt8)} {v : Value} {ops : Array Oper} {rest : List Oper} {o : Oper} {a : Act} {Q : Exit → Act → World → Prop} (hgd : o.guard = none) (s x : Operand)
    (ho : o.op = .call { callee := .builtin .append, args := #[s, x], argTypes := #[44, 44] }) (hs : a.eval s = v) (y : List UInt8) {n : Nat}
    (hown : w.ownsRow base 9 1 v n (strs l)) (hx : a.eval x = .slice (some ⟨w.heap.size, 0, none⟩) 1 1) (hlen : n < 1000000) (hbase : base ≤ w.heap.size)
    (h : ∀ g cap w', w'.ownsRow base 9 1 (.slice (some ⟨g, 0, none⟩) (n + 1) cap) (n + 1) (strs (l ++ [y])) → Below base w w' →
      wpList Try.prog ops Q rest (a.put o.dst (.slice (some ⟨g, 0, none⟩) (n + 1) cap)) w') :
    wpList Try.prog ops Q (o :: rest) a (w.alloc (.cells #[.string ⟨y.toArray⟩] 9)) := by
  obtain ⟨i0, hi, hz0, hz1, hz2⟩ := info_parts Try.infoStr
  refine wpList_append_lies _ hgd s x 44 ho base 9 i0 (.string ⟨#[]⟩) 1 16 Try.underlying44 hi hz0 hz1 hz2 rfl (by decide) v n (strs l) hs (hown.alloc _) ⟨w.heap.size, 0, none⟩ 1 1 [.string ⟨y.toArray⟩] hx rfl ?_ (by simp [Value.oneCell']) (by decide)
    (by unfold maxLen; omega) (by omega) (by simp; omega) _ rfl (fun g cap w' h1 h2 _ _ => ?_)
  · intro j u hu
    match j, hu with
    | 0, hu => simp at hu; subst hu; simp [Addr.add]
  · refine h g cap w' (by simpa [strs] using h1) (((Below.refl _ _).alloc hbase _).grown h2 (by simp; omega) (own_ge hown (Nat.le_refl _)))
end Go.Proofs.Ytdmpbbgcifodeaa
