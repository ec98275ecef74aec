/-
  Rows of pairs: cells copied into them; a row longer by one.
-/
import Derived.Test.YtdmpbbgcifodeaaPaiL
import Derived.Test.YtdmpbbgcifodeaaBfsM
import Derived.Laws.IdiomCopy
import Derived.Lib.AppendZerosOnto
namespace Go.Proofs.Ytdmpbbgcifodeaa
open Go.RowKit

/-- 'copy' of elements of z cells. -/
theorem run_copy_k {P : Program} (w : World) (dT sT ty elem : TypeId) (b o dLen dCap : Nat) (a : Addr) (sLen sCap m z : Nat) (cs : List Value)
    (hu : P.underlying dT = some (.slice elem)) (hs : (P.info? elem).map (·.size) = some z) (hm : Nat.min sLen dLen = m) (hn : cs.length = m * z)
    (hsrc : ∀ j v, cs[j]? = some v → w.cell? (a.add j) = some v) (hc : ∀ j, j < cs.length → (w.cell? ⟨b, o + j, none⟩).isSome = true) (hf : ∀ j, j < cs.length → w.frozen? ⟨b, o + j, none⟩ = false) (h1 : ∀ v ∈ cs, v.oneCell' = true) :
    (Builtin.copy_ #[dT, sT] ty #[.slice (some ⟨b, o, none⟩) dLen dCap, .slice (some a) sLen sCap]).run P w = .ok (goInt m) (w.setCells b o cs) := by
  have hl := run_loadCells_list (P := P) w a cs hsrc
  have hst := run_storeCells_cells (P := P) b o cs 0 w (by simpa using hc) (by simpa using hf) h1
  rw [hn] at hl
  cases hq : P.info? elem with
  | none => simp [hq] at hs
  | some i =>
    have hi : i.size = z := by simpa [hq] using hs
    simp [Builtin.copy_, run_underlying hu, Builtin.lenOf, Builtin.firstCells, sizeOf, typeInfo, hq, hi, hm, hl, hst]

/-- Cells set one behind the other. -/
def setsAt : List Value → Nat → List Value → List Value
  | cs, _, [] => cs
  | cs, o, v :: r => setsAt (cs.set o v) (o + 1) r
theorem setsAt_eq : ∀ (vs cs : List Value) (o : Nat), o + vs.length ≤ cs.length → setsAt cs o vs = cs.take o ++ vs ++ cs.drop (o + vs.length)
  | [], cs, o, h => by simp [setsAt]
  | v :: r, cs, o, h => by
    rw [List.length_cons] at h
    rw [setsAt, setsAt_eq r (cs.set o v) (o + 1) (by rw [List.length_set]; omega), List.length_cons, List.drop_set_of_lt (by omega)]
    have e1 : (cs.set o v).take (o + 1) = cs.take o ++ [v] := by
      rw [List.take_set, List.take_add_one, List.getElem?_eq_getElem (by omega)]
      have hl : (cs.take o).length = o := by rw [List.length_take]; omega
      rw [List.set_append_right _ _ (by omega), hl]
      simp
    rw [e1, show o + 1 + r.length = o + (r.length + 1) by omega]
    simp
theorem own_setCells {base g n cap k : Nat} {e : TypeId} : ∀ (vs : List Value) (o : Nat) {w : World} {cs : List Value}, w.ownsRow base e k (.slice (some ⟨g, 0, none⟩) n cap) n cs →
    (w.setCells g o vs).ownsRow base e k (.slice (some ⟨g, 0, none⟩) n cap) n (setsAt cs o vs) ∧ (w.setCells g o vs).heap.size = w.heap.size ∧ ∀ {B : Nat} {w0 : World}, B ≤ g → Below B w0 w → Below B w0 (w.setCells g o vs)
  | [], _, w, cs, h => ⟨h, rfl, fun _ hb => hb⟩
  | v :: r, o, w, cs, h => by
    have h1 := (h.stored o v).1
    obtain ⟨a, b, c⟩ := own_setCells r (o + 1) h1
    exact ⟨a, by rw [World.setCells, b]; simp, fun hB hb => c hB (hb.setCell (p := ⟨g, o, none⟩) hB v)⟩
/-- A row with room, read longer by one. -/
theorem own_longer {w : World} {base g n cap k : Nat} {e : TypeId} {cs : List Value} (h : w.ownsRow base e k (.slice (some ⟨g, 0, none⟩) n cap) n cs) (hr : n + 1 ≤ cap) : ∃ ex, ex.length = k ∧ w.ownsRow base e k (.slice (some ⟨g, 0, none⟩) (n + 1) cap) (n + 1) (cs ++ ex) := by
  rcases h.2 with ⟨e1, _⟩ | ⟨g', cap', cur, e1, h1, h2, h3, h4, h5, h6⟩
  · cases e1
  · obtain ⟨rfl, rfl⟩ : g = g' ∧ cap = cap' := by injection e1 with e2 _ e3; injection e2 with e4; injection e4 with e5; exact ⟨e5, e3⟩
    have hle : (n + 1) * k ≤ cap * k := Nat.mul_le_mul_right _ hr
    have hmm : (n + 1) * k = n * k + k := by rw [Nat.add_mul, Nat.one_mul]
    have hsp : cur.toList.take ((n + 1) * k) = cs ++ (cur.toList.drop (n * k)).take k := by
      rw [hmm, ← h6, List.take_add]
    have hsz : cur.toList.length = cap * k := by rw [Array.length_toList, h5]
    refine ⟨(cur.toList.drop (n * k)).take k, by rw [List.length_take, List.length_drop]; omega, ?_, .inr ⟨g, cap, cur, rfl, h1, h2, hr, h4, h5, hsp⟩⟩
    rw [← hsp, List.length_take]; omega
theorem pcells_take (m : List Edge) {k : Nat} (hk : k ≤ m.length) : (pcells m).take (k * 2) = pcells (m.take k) := by
  have hl : (pcells (m.take k)).length = k * 2 := by rw [pcells_len, List.length_take, Nat.min_eq_left hk]
  rw [← List.take_append_drop k m, pcells_app, List.take_append_drop k m, ← hl, List.take_left]
theorem pcells_drop (m : List Edge) {k : Nat} (hk : k ≤ m.length) : (pcells m).drop (k * 2) = pcells (m.drop k) := by
  have hl : (pcells (m.take k)).length = k * 2 := by rw [pcells_len, List.length_take, Nat.min_eq_left hk]
  rw [← List.take_append_drop k m, pcells_app, List.take_append_drop k m, ← hl, List.drop_left]
/-- First what stands behind is moved up, then the new one is laid: in a row longer by one. -/
theorem ins_cells (out : List Edge) (p : Edge) {k : Nat} (hk : k ≤ out.length) {ex : List Value} (hx : ex.length = 2) :
    setsAt (setsAt (pcells out ++ ex) ((k + 1) * 2) (pcells (out.drop k))) (k * 2) (pcells [p]) = pcells (out.take k ++ p :: out.drop k) := by
  have h0 : (pcells out).length = out.length * 2 := pcells_len out
  have h1 : (pcells (out.drop k)).length = (out.length - k) * 2 := by rw [pcells_len, List.length_drop]
  have h2 : (pcells [p]).length = 2 := by rw [pcells_len]; rfl
  have e1 : (pcells out ++ ex).drop ((k + 1) * 2 + (pcells (out.drop k)).length) = [] := List.drop_eq_nil_of_le (by rw [List.length_append, h0, h1, hx]; omega)
  have hA : setsAt (pcells out ++ ex) ((k + 1) * 2) (pcells (out.drop k)) = (pcells out ++ ex).take ((k + 1) * 2) ++ pcells (out.drop k) := by
    rw [setsAt_eq _ _ _ (by rw [List.length_append, h0, h1, hx]; omega), e1, List.append_nil]
  rw [hA]
  have hl : ((pcells out ++ ex).take ((k + 1) * 2)).length = (k + 1) * 2 := by rw [List.length_take, List.length_append, h0, hx]; omega
  rw [setsAt_eq _ _ _ (by rw [List.length_append, hl, h2]; omega), h2, List.take_append_of_le_length (by rw [hl]; omega), List.take_take, Nat.min_eq_left (by omega), List.take_append_of_le_length (by rw [h0]; omega), pcells_take out hk,
    show k * 2 + 2 = ((pcells out ++ ex).take ((k + 1) * 2)).length by rw [hl]; omega, List.drop_left, show p :: out.drop k = [p] ++ out.drop k from rfl, pcells_app, pcells_app, List.append_assoc]
/-- In a new row: what stands ahead, then the new one is laid, then what stands behind. -/
theorem ins_cells_new (out : List Edge) (p : Edge) {k : Nat} (hk : k ≤ out.length) {ex : List Value} (hx : ex.length = (out.length + 1 - k) * 2) :
    setsAt (setsAt (pcells (out.take k) ++ ex) (k * 2) (pcells [p])) ((k + 1) * 2) (pcells (out.drop k)) = pcells (out.take k ++ p :: out.drop k) := by
  have h0 : (pcells (out.take k)).length = k * 2 := by rw [pcells_len, List.length_take, Nat.min_eq_left hk]
  have h1 : (pcells (out.drop k)).length = (out.length - k) * 2 := by rw [pcells_len, List.length_drop]
  have h2 : (pcells [p]).length = 2 := by rw [pcells_len]; rfl
  have hA : setsAt (pcells (out.take k) ++ ex) (k * 2) (pcells [p]) = pcells (out.take k) ++ pcells [p] ++ (pcells (out.take k) ++ ex).drop (k * 2 + (pcells [p]).length) := by
    rw [setsAt_eq _ _ _ (by rw [List.length_append, h0, h2, hx]; omega)]
    congr 2
    rw [← h0, List.take_left]
  rw [hA]
  have hl : (pcells (out.take k) ++ pcells [p]).length = (k + 1) * 2 := by rw [List.length_append, h0, h2]; omega
  obtain ⟨T, hT⟩ : ∃ T, T = (pcells (out.take k) ++ ex).drop (k * 2 + (pcells [p]).length) := ⟨_, rfl⟩
  have hTl : T.length = (out.length - k) * 2 := by rw [hT, List.length_drop, List.length_append, h0, h2, hx]; omega
  rw [← hT]
  obtain ⟨H, hH⟩ : ∃ H, H = pcells (out.take k) ++ pcells [p] := ⟨_, rfl⟩
  rw [← hH] at hl ⊢
  have e3 : (H ++ T).drop ((k + 1) * 2 + (pcells (out.drop k)).length) = [] := List.drop_eq_nil_of_le (by rw [List.length_append, hl, hTl, h1]; omega)
  rw [setsAt_eq _ _ _ (by rw [List.length_append, hl, hTl, h1]; omega), e3, List.append_nil, ← hl, List.take_left, hH, show p :: out.drop k = [p] ++ out.drop k from rfl, pcells_app, pcells_app, List.append_assoc]
end Go.Proofs.Ytdmpbbgcifodeaa
