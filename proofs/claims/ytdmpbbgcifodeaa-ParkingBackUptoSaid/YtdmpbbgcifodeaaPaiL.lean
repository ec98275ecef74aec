/-
  Rows of pairs of letters, of two cells each: read, appended to (printed after seat A's PairL).
-/
import Derived.Test.YtdmpbbgcifodeaaShared
import Derived.Deep.AppendLies
namespace Go.Proofs.Ytdmpbbgcifodeaa
open Go.RowKit

def pcells (m : List (Int × Int)) : List Value := m.flatMap fun x => [.int .i64 x.1, .int .i64 x.2]
theorem pcells_app (m m' : List (Int × Int)) : pcells (m ++ m') = pcells m ++ pcells m' := by simp [pcells]
theorem pcells_len : ∀ (m : List (Int × Int)), (pcells m).length = m.length * 2
  | [] => rfl
  | x :: m => by
    have := pcells_len m
    have e : pcells (x :: m) = .int .i64 x.1 :: .int .i64 x.2 :: pcells m := rfl
    rw [e, List.length_cons, List.length_cons, List.length_cons, this]; omega
theorem pcells_get : ∀ {m : List (Int × Int)} {i : Nat}, i < m.length → (pcells m)[i * 2]? = some (.int .i64 (m.getD i (0, 0)).1) ∧ (pcells m)[i * 2 + 1]? = some (.int .i64 (m.getD i (0, 0)).2)
  | x :: m, 0, _ => ⟨rfl, rfl⟩
  | x :: m, i + 1, h => by
    have := pcells_get (m := m) (i := i) (by simpa using h)
    have e : (i + 1) * 2 = i * 2 + 1 + 1 := by omega
    rw [e]
    exact this
theorem pcells_one (m : List (Int × Int)) : ∀ u ∈ pcells m, u.oneCell' = true := by
  intro u hu
  obtain ⟨x, _, hx⟩ := List.mem_flatMap.1 hu
  rcases List.mem_cons.1 hx with rfl | hx
  · rfl
  · rcases List.mem_cons.1 hx with rfl | hx
    · rfl
    · simp at hx
theorem pcells_pos {m : List (Int × Int)} (h : 0 < m.length) : 0 < (pcells m).length := by rw [pcells_len]; omega
/-- The two cells of the pair at i. -/
theorem psl_at {w : World} {B b o : Nat} {m : List (Int × Int)} (h : Sl w B (some ⟨b, o, none⟩) (pcells m)) {i : Nat} (hi : i < m.length) :
    w.cell? ⟨b, o + i * 2, none⟩ = some (.int .i64 (m.getD i (0, 0)).1) ∧ w.cell? ⟨b, o + i * 2 + 1, none⟩ = some (.int .i64 (m.getD i (0, 0)).2) := by
  obtain ⟨b', o', e1, _, hc⟩ := h (pcells_pos (by omega))
  obtain ⟨rfl, rfl⟩ : b = b' ∧ o = o' := by simpa using e1
  obtain ⟨h1, h2⟩ := pcells_get hi
  refine ⟨hc _ _ h1, ?_⟩
  have := hc _ _ h2
  rwa [← Nat.add_assoc] at this
theorem psl_addr {w : World} {B : Nat} {A : Option Addr} {m : List (Int × Int)} (h : Sl w B A (pcells m)) (hi : 0 < m.length) : ∃ b o, A = some ⟨b, o, none⟩ ∧ b < B := by
  obtain ⟨b, o, e, hlt, _⟩ := h (pcells_pos hi)
  exact ⟨b, o, e, hlt⟩
theorem psl_of_own {w : World} {base : Nat} {v : Value} {m : List (Int × Int)} {n : Nat} (h : w.ownsRow base 81 2 v n (pcells m)) : ∃ A c, v = .slice A m.length c ∧ n = m.length ∧ Sl w w.heap.size A (pcells m) ∧ m.length ≤ c ∧ c ≤ 9223372036854775807 := by
  have hl := h.1
  rw [pcells_len] at hl
  obtain rfl : n = m.length := by omega
  rcases h.2 with ⟨rfl, h0⟩ | ⟨g, cap, cur, rfl, _, hh, hn, hm, _⟩
  · refine ⟨none, 0, by rw [h0], rfl, fun hp => ?_, by omega, by omega⟩
    rw [pcells_len, h0] at hp
    simp at hp
  · refine ⟨some ⟨g, 0, none⟩, cap, rfl, rfl, fun _ => ⟨g, 0, rfl, (Array.getElem?_eq_some_iff.1 hh).1, fun k u hk => ?_⟩, hn, by simpa [maxLen] using hm⟩
    have := h.cells (g := g) rfl k u hk
    rwa [Addr.add_lit] at this

theorem Try.infoPair : (Try.prog.info? 81).map (fun i => (i.zero, i.size, i.bytes)) = some (some (.agg #[.int .i64 0, .int .i64 0]), 2, 16) := by kernel_rfl

/-- 'append(v, x)' of one pair: x was laid in a block of its own. -/
theorem wpList_appP {w : World} {base : Nat} {l : List (Int × Int)} {v : Value} {ops : Array Oper} {rest : List Oper} {o : Oper} {a : Act} {Q : Exit → Act → World → Prop} (hgd : o.guard = none) (s x : Operand)
    (ho : o.op = .call { callee := .builtin .append, args := #[s, x], argTypes := #[76, 76] }) (hs : a.eval s = v) (y z : Int) {n : Nat}
    (hown : w.ownsRow base 81 2 v n (pcells l)) (g0 : Nat) (hg0 : g0 = w.heap.size) (hx : a.eval x = .slice (some ⟨g0, 0, none⟩) 1 1) (hlen : n < 1000000) (hbase : base ≤ w.heap.size)
    (h : ∀ g cap w', w'.ownsRow base 81 2 (.slice (some ⟨g, 0, none⟩) (n + 1) cap) (n + 1) (pcells (l ++ [(y, z)])) → (w.alloc (.cells #[.int .i64 y, .int .i64 z] 81)).grownBy w' v.ownBlock → (v.ownBlock = some g ∨ g = w.heap.size + 1) →
      wpList Try.prog ops Q rest (a.put o.dst (.slice (some ⟨g, 0, none⟩) (n + 1) cap)) w') :
    wpList Try.prog ops Q (o :: rest) a (w.alloc (.cells #[.int .i64 y, .int .i64 z] 81)) := by
  subst hg0
  obtain ⟨i0, hi, hz0, hz1, hz2⟩ := info_parts Try.infoPair
  refine wpList_append_lies _ hgd s x 76 ho base 81 i0 (.agg #[.int .i64 0, .int .i64 0]) 2 16 Try.underlying76 hi hz0 hz1 hz2 rfl (by decide) v n (pcells l) hs (hown.alloc _) ⟨w.heap.size, 0, none⟩ 1 1 [.int .i64 y, .int .i64 z] hx rfl ?_ (by simp [Value.oneCell']) (by decide)
    (by unfold maxLen; omega) (by omega) (by simp; omega) _ rfl (fun g cap w' h1 h2 h3 _ => ?_)
  · intro j u hu
    match j, hu with
    | 0, hu => simp at hu; subst hu; simp [Addr.add]
    | 1, hu => simp at hu; subst hu; simp [Addr.add]
  · exact h g cap w' (by rw [pcells_app]; exact h1) h2 (by simpa using h3)

end Go.Proofs.Ytdmpbbgcifodeaa
