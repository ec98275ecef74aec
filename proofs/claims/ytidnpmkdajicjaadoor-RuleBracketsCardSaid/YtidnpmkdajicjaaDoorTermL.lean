/-
  Rows of terms (a list and a numeral): cells of two; append of one.
-/
import Derived.Test.YtidnpmkdajicjaaDoorNumW
import Derived.Test.YtidnpmkdajicjaaDoorAllL
import Derived.Test.YtidnpmkdajicjaaDoorDecL
import Derived.Shelf.Lay
import Derived.Shelf.LaysM
import Derived.Shelf.Strconv.Itoa3
import Derived.Shelf.Strconv.Atoi
import Derived.Ground.NamesProg
import Derived.Lib.AppendIntMem
import Derived.Lib.SmallJoins
namespace Go.Proofs
open Go.Shelf
shelf_lay LaysM.n171 Nm 171 at Tryd as Tryd.laysM171
shelf_lay Lays.n171 Nm 171 at Tryd as Tryd.lays171
shelf_lay Lays.n172 Nm 172 at Tryd as Tryd.lays172
end Go.Proofs
namespace Go.Proofs.YtidnpmkdajicjaaDoor
open Go.RowKit Go.Proofs LR

abbrev Tm := Value × List UInt8
def tcells (m : List Tm) : List Value := m.flatMap fun x => [x.1, .string ⟨x.2.toArray⟩]
theorem tcells_app (m m' : List Tm) : tcells (m ++ m') = tcells m ++ tcells m' := by simp [tcells]
theorem tcells_len : ∀ (m : List Tm), (tcells m).length = m.length * 2
  | [] => rfl
  | x :: m => by
    have := tcells_len m
    simp only [tcells, List.flatMap_cons, List.length_append, List.length_cons, List.length_nil] at this ⊢
    omega
theorem tcells_get : ∀ {m : List Tm} {i : Nat} (hi : i < m.length), (tcells m)[i * 2]? = some m[i].1 ∧ (tcells m)[i * 2 + 1]? = some (.string ⟨m[i].2.toArray⟩)
  | x :: m, 0, _ => by simp [tcells]
  | x :: m, i + 1, hi => by
    have := tcells_get (m := m) (i := i) (by simpa using hi)
    simp only [tcells, List.flatMap_cons] at this ⊢
    rw [show (i + 1) * 2 = i * 2 + 2 by omega, show i * 2 + 2 + 1 = (i * 2 + 1) + 2 by omega]
    simpa using this
theorem tsl_at {w : World} {B b o : Nat} {m : List Tm} (h : Sl w B (some ⟨b, o, none⟩) (tcells m)) {i : Nat} (hi : i < m.length) :
    w.cell? ⟨b, o + i * 2, none⟩ = some m[i].1 ∧ w.cell? ⟨b, o + (i * 2 + 1), none⟩ = some (.string ⟨m[i].2.toArray⟩) := by
  obtain ⟨b', o', e, _, hc⟩ := h (by rw [tcells_len]; omega)
  obtain ⟨rfl, rfl⟩ : b = b' ∧ o = o' := by simpa using e
  have g := tcells_get hi
  exact ⟨hc _ _ g.1, hc _ _ g.2⟩
theorem tsl_addr {w : World} {B : Nat} {A : Option Addr} {m : List Tm} (h : Sl w B A (tcells m)) (hi : 0 < m.length) : ∃ b o, A = some ⟨b, o, none⟩ ∧ b < B := by
  obtain ⟨b, o, e, hb, _⟩ := h (by rw [tcells_len]; omega)
  exact ⟨b, o, e, hb⟩
theorem Tryd.infoTerm : (Tryd.prog.info? 40).map (fun i => (i.zero, i.size, i.bytes)) = some (some (.agg #[.slice none 0 0, .string ⟨#[]⟩]), 2, 40) := by kernel_rfl
theorem tsl_of_own {w : World} {base : Nat} {v : Value} {m : List Tm} {n : Nat} (h : w.ownsRow base 40 2 v n (tcells m)) : ∃ A c, v = .slice A m.length c ∧ n = m.length ∧ Sl w w.heap.size A (tcells m) := by
  have hl := h.1
  rw [tcells_len] at hl
  obtain rfl : n = m.length := by omega
  rcases h.2 with ⟨e1, e2⟩ | ⟨g, c, cur, e1, hg, hh, h1, h2, h3, h4⟩
  · refine ⟨none, 0, by rw [e2]; exact e1, rfl, fun hp => ?_⟩
    rw [tcells_len, e2] at hp
    simp at hp
  · rw [e1] at h
    refine ⟨some ⟨g, 0, none⟩, c, e1, rfl, fun _ => ⟨g, 0, rfl, (Array.getElem?_eq_some_iff.1 hh).1, fun k u hk => ?_⟩⟩
    have := h.cells (g := g) rfl k u hk
    rwa [Addr.add_lit] at this

/-- 'append(v, Term{..})': it was laid in a block of its own. -/
theorem wpList_appT {w : World} {base : Nat} {l : List Tm} {v : Value} {ops : Array Oper} {rest : List Oper} {o : Oper} {a : Act} {Q : Exit → Act → World → Prop} (hgd : o.guard = none) (s x : Operand)
    (ho : o.op = .call { callee := .builtin .append, args := #[s, x], argTypes := #[23, 23] }) (hs : a.eval s = v) (y : Value) (hy : y.oneCell' = true) (z : List UInt8) {n : Nat}
    (hown : w.ownsRow base 40 2 v n (tcells l)) (g0 : Nat) (hg0 : g0 = w.heap.size) (hx : a.eval x = .slice (some ⟨g0, 0, none⟩) 1 1) (hlen : n < 1000000) (hbase : base ≤ w.heap.size)
    (h : ∀ g cap w', w'.ownsRow base 40 2 (.slice (some ⟨g, 0, none⟩) (n + 1) cap) (n + 1) (tcells (l ++ [(y, z)])) → (w.alloc (.cells #[y, .string ⟨z.toArray⟩] 40)).grownBy w' v.ownBlock →
      wpList Tryd.prog ops Q rest (a.put o.dst (.slice (some ⟨g, 0, none⟩) (n + 1) cap)) w') :
    wpList Tryd.prog ops Q (o :: rest) a (w.alloc (.cells #[y, .string ⟨z.toArray⟩] 40)) := by
  subst hg0
  obtain ⟨i0, hi, hz0, hz1, hz2⟩ := info_parts Tryd.infoTerm
  refine wpList_append_lies _ hgd s x 23 ho base 40 i0 (.agg #[.slice none 0 0, .string ⟨#[]⟩]) 2 40 Tryd.underlying23 hi hz0 hz1 hz2 rfl (by decide) v n (tcells l) hs (hown.alloc _) ⟨w.heap.size, 0, none⟩ 1 1 [y, .string ⟨z.toArray⟩] hx rfl ?_ (fun u hu => by simp only [List.mem_cons, List.not_mem_nil, or_false] at hu; rcases hu with rfl | rfl; exact hy; rfl) (by decide)
    (by unfold maxLen; omega) (by omega) (by simp; omega) _ rfl (fun g cap w' h1 h2 h3 _ => ?_)
  · intro j u hu
    match j, hu with
    | 0, hu => simp at hu; subst hu; simp [Addr.add]
    | 1, hu => simp at hu; subst hu; simp [Addr.add]
  · exact h g cap w' (by rw [tcells_app]; exact h1) h2

/-- The library's table of powers of ten. -/
def Tab10 (w : World) : Prop := Lib.TabIs Tryd.prog w "internal/strconv.uint64pow10" .u64 Lib.pow10Tab
/-- The numeral of a number that is not too large. -/
theorem itoa_any (n : Nat) (hn : n ≤ 9223372036854775807) (w : World) (ht : Tab10 w) :
    Calls Tryd.prog 10 #[.int .i64 n] w fun e w' => e = .returned (.string ⟨(Lib.decDigits n).toArray⟩) ∧ Below w.heap.size w w' := by
  refine (Any.strconv_Itoa Tryd.laysM171 (n : Int) (by omega) (by omega) w ht).mono ?_
  rintro e w' ⟨rfl, k, os, rfl⟩
  refine ⟨?_, ?_⟩
  · have : Lib.itoa (n : Int) = Lib.decDigits n := by
      unfold Lib.itoa
      rw [if_neg (by omega)]; simp
    rw [this]
  · exact Lib.below_grow _ w (Nat.le_refl _) k os
/-- .. and read again. -/
theorem atoi_any (n : Nat) (hn : n < 1000000000000000000) (w : World) :
    Calls Tryd.prog 11 #[.string ⟨(Lib.decDigits n).toArray⟩] w fun e w' => e = .returned (.tuple #[.int .i64 n, .nilIface]) ∧ Below w.heap.size w w' := by
  have hl := digits_len 17 n (by simpa using hn)
  refine (Any.strconv_Atoi Tryd.lays172 ⟨(Lib.decDigits n).toArray⟩ (n : Int) (by simpa [ByteArray.size] using hl) (by simpa using atoi_digits n) w).mono ?_
  rintro e w' ⟨rfl, t, rfl⟩
  exact ⟨rfl, Joins.below_bytesWorld _ w _ _ (Nat.le_refl _)⟩
theorem tab10_below {w w' : World} (h : Tab10 w) (hb : Below w.heap.size w w') : Tab10 w' := by
  unfold Tab10 Lib.TabIs World.var? at h ⊢
  cases hg : Tryd.prog.globalNamed "internal/strconv.uint64pow10" with
  | none => rw [hg] at h; simp at h
  | some g =>
    rw [hg] at h
    simp only [Option.bind_some] at h ⊢
    have hlt : g < w.heap.size := by
      rcases Nat.lt_or_ge g w.heap.size with h' | h'
      · exact h'
      · rw [Array.getElem?_eq_none h'] at h; cases h
    rw [hb.block g hlt]
    exact h
end Go.Proofs.YtidnpmkdajicjaaDoor
