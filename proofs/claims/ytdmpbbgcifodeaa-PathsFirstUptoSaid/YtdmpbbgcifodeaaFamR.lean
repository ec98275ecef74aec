/-
  paths.family in memory: the struct, its points that are free, its paths.
-/
import Derived.Test.YtdmpbbgcifodeaaFamX
import Derived.Test.YtdmpbbgcifodeaaPt7W
import Derived.Test.YtdmpbbgcifodeaaStrL
import Derived.Maps.AppendAt
namespace Go.Proofs.Ytdmpbbgcifodeaa
open Go.RowKit Go.Proofs

/-- What stays as it is while families are found. -/
structure FK where
  W : Nat
  H : Nat
  n : Nat
  bv : Value
  ss : List Pt
  es : List Pt
  sa : Option Addr
  ea : Option Addr
  wb : Nat
  sc : Nat
  ec : Nat
  wl : Nat
  wc : Nat
  G : Nat
  most : Nat
  b : Nat
def fcells (K : FK) (v u : Value) (s : St) : List Value :=
  [.int .i64 K.W, .int .i64 K.H, K.bv, .slice K.sa K.ss.length K.sc, .slice K.ea K.es.length K.ec, .slice (some ⟨K.wb, 0, none⟩) K.wl K.wc, .slice (some ⟨K.G, 0, none⟩) K.n K.n, v, u, .int .i64 K.most, .int .i64 s.n, .int .i64 s.steps]
structure FamR (w : World) (B : Nat) (K : FK) (v u : Value) (s : St) : Prop where
  fam : w.ownsRow B 99 12 (.slice (some ⟨K.b, 0, none⟩) 1 1) 1 (fcells K v u s)
  free : w.ownsRow B 4 1 (.slice (some ⟨K.G, 0, none⟩) K.n K.n) K.n (bools s.free)
  now : w.ownsRow B 9 1 v s.now.length (strs s.now)
  first : w.ownsRow B 9 1 u s.first.length (strs s.first)
  starts : Sl w B K.sa (pcells K.ss)
  ends : Sl w B K.ea (pcells K.es)
  way : ∀ i, i < K.wl → w.cell? ⟨K.wb, i, none⟩ = some (.int .i64 i)
  wlt : K.wb < w.heap.size
  bG : K.b ≠ K.G
  wd : K.wb ≠ K.b ∧ K.wb ≠ K.G
  vd : ∀ k, v.ownBlock = some k → k ≠ K.b ∧ k ≠ K.G ∧ k ≠ K.wb
  ud : ∀ k, u.ownBlock = some k → k ≠ K.b ∧ k ≠ K.G ∧ k ≠ K.wb
  vu : ∀ k, v.ownBlock = some k → u.ownBlock ≠ some k
section
variable {w w' : World} {B : Nat} {K : FK} {v u : Value} {s : St}
theorem own_sameG {base n k : Nat} {e : TypeId} {cs : List Value} (h : w.ownsRow base e k v n cs) (hk : ∀ b, v.ownBlock = some b → w'.heap[b]? = w.heap[b]?) : w'.ownsRow base e k v n cs := by
  refine ⟨h.1, ?_⟩
  rcases h.2 with hn | ⟨g, cap, cur, e1, hg, hh, rest⟩
  · exact .inl hn
  · exact .inr ⟨g, cap, cur, e1, hg, (hk g (by rw [e1]; rfl)).trans hh, rest⟩
theorem way_same {b : Nat} {i : Nat} {x : Value} (hk : w'.heap[b]? = w.heap[b]?) (h : w.cell? ⟨b, i, none⟩ = some x) : w'.cell? ⟨b, i, none⟩ = some x := by
  unfold World.cell? at h ⊢
  rw [hk]; exact h
theorem keep_set {b k N j : Nat} {x y : Value} (hne : N ≠ b) (h : w.cell? ⟨N, j, none⟩ = some x) : (w.setCell ⟨b, k, none⟩ y).cell? ⟨N, j, none⟩ = some x := way_same (by simp [World.setCell, Array.getElem?_modify, Ne.symm hne]) h
theorem FamR.blt (h : FamR w B K v u s) : B ≤ K.b ∧ K.b < w.heap.size := h.fam.lt K.b rfl
theorem FamR.glt (h : FamR w B K v u s) : B ≤ K.G ∧ K.G < w.heap.size := h.free.lt K.G rfl
theorem FamR.below (h : FamR w B K v u s) (hb : Below w.heap.size w w') : FamR w' B K v u s := by
  have key : ∀ k, k < w.heap.size → w'.heap[k]? = w.heap[k]? := fun k hk => hb.block k hk
  exact ⟨own_sameG h.fam (fun k hk => key k (h.fam.lt k hk).2), own_sameG h.free (fun k hk => key k (h.free.lt k hk).2), own_sameG h.now (fun k hk => key k (h.now.lt k hk).2), own_sameG h.first (fun k hk => key k (h.first.lt k hk).2), h.starts.below (hb.mono (by have := h.blt; omega)), h.ends.below (hb.mono (by have := h.blt; omega)), fun i hi => way_same (key _ h.wlt) (h.way i hi), Nat.lt_of_lt_of_le h.wlt hb.size, h.bG, h.wd, h.vd, h.ud, h.vu⟩
theorem FamR.drewN (h : FamR w B K v u s) (q : Nat) : FamR (w.drewN q) B K v u s := ⟨h.fam, h.free, h.now, h.first, h.starts, h.ends, h.way, h.wlt, h.bG, h.wd, h.vd, h.ud, h.vu⟩
theorem FamR.cell (h : FamR w B K v u s) {k : Nat} {x : Value} (hk : (fcells K v u s)[k]? = some x) : w.cell? ⟨K.b, k, none⟩ = some x := by
  have h1 := (List.getElem?_eq_some_iff.1 hk).1
  rw [h.fam.cellAt k (by simp [fcells] at h1; omega)]; exact hk
theorem FamR.fz (h : FamR w B K v u s) (k : Nat) : w.frozen? ⟨K.b, k, none⟩ = false := h.fam.frozenAt k
theorem FamR.bit (h : FamR w B K v u s) (hl : s.free.length = K.n) {i : Nat} (hi : i < K.n) : w.cell? ⟨K.G, i, none⟩ = some (.bool (s.free.getD i false)) := by
  have hlt : i < s.free.length := by omega
  have e : s.free[i]? = some (s.free.getD i false) := by rw [getD_get hlt]; exact List.getElem?_eq_getElem hlt
  exact ownB_get h.free e
/-- A store into the struct itself. -/
theorem FamR.put (h : FamR w B K v u s) {k : Nat} {y : Value} {s' : St} (hc : (fcells K v u s).set k y = fcells K v u s') (h1 : s'.free = s.free) (h2 : s'.now = s.now) (h3 : s'.first = s.first) : FamR (w.setCell ⟨K.b, k, none⟩ y) B K v u s' := by
  have hne : ∀ j, j ≠ K.b → (w.setCell ⟨K.b, k, none⟩ y).heap[j]? = w.heap[j]? := fun j hj => by simp [World.setCell, Array.getElem?_modify, Ne.symm hj]
  have hf := (h.fam.stored k y).1
  rw [hc] at hf
  have hB := h.blt
  have hbB : Below B w (w.setCell ⟨K.b, k, none⟩ y) := (Below.refl _ _).setCell (p := ⟨K.b, k, none⟩) hB.1 _
  refine ⟨hf, ?_, ?_, ?_, h.starts.below hbB, h.ends.below hbB, fun i hi => way_same (hne _ h.wd.1) (h.way i hi), Nat.lt_of_lt_of_le h.wlt hbB.size, h.bG, h.wd, h.vd, h.ud, h.vu⟩
  · rw [h1]; exact own_sameG h.free (fun j hj => hne j (by obtain rfl : K.G = j := by simpa [Value.ownBlock] using hj
                                                           exact h.bG.symm))
  · rw [h2]; exact own_sameG h.now (fun j hj => hne j (h.vd j hj).1)
  · rw [h3]; exact own_sameG h.first (fun j hj => hne j (h.ud j hj).1)
/-- A store into the points that are free. -/
theorem FamR.mark (h : FamR w B K v u s) (i : Nat) (c : Bool) : FamR (w.setCell ⟨K.G, i, none⟩ (.bool c)) B K v u { s with free := s.free.set i c } := by
  have hne : ∀ j, j ≠ K.G → (w.setCell ⟨K.G, i, none⟩ (.bool c)).heap[j]? = w.heap[j]? := fun j hj => by simp [World.setCell, Array.getElem?_modify, Ne.symm hj]
  have hB := h.glt
  have hbB : Below B w (w.setCell ⟨K.G, i, none⟩ (.bool c)) := (Below.refl _ _).setCell (p := ⟨K.G, i, none⟩) hB.1 _
  refine ⟨?_, ownB_set h.free i c, ?_, ?_, h.starts.below hbB, h.ends.below hbB, fun j hj => way_same (hne _ h.wd.2) (h.way j hj), Nat.lt_of_lt_of_le h.wlt hbB.size, h.bG, h.wd, h.vd, h.ud, h.vu⟩
  · exact own_sameG h.fam (fun j hj => hne j (by obtain rfl : K.b = j := by simpa [Value.ownBlock] using hj
                                                 exact h.bG))
  · exact own_sameG h.now (fun j hj => hne j (h.vd j hj).2.1)
  · exact own_sameG h.first (fun j hj => hne j (h.ud j hj).2.1)
/-- The paths so far, one more: the row grown, then stored. -/
theorem FamR.push (h : FamR w B K v u s) {g c : Nat} {path : List UInt8} (ho : w'.ownsRow B 9 1 (.slice (some ⟨g, 0, none⟩) (s.now.length + 1) c) (s.now.length + 1) (strs (s.now ++ [path]))) (hg : w.grownBy w' v.ownBlock) (hat : v.ownBlock = some g ∨ w.heap.size ≤ g) :
    FamR (w'.setCell ⟨K.b, 7, none⟩ (.slice (some ⟨g, 0, none⟩) (s.now.length + 1) c)) B K (.slice (some ⟨g, 0, none⟩) (s.now.length + 1) c) u { s with now := s.now ++ [path] } := by
  have hgb : g ≠ K.b ∧ g ≠ K.G ∧ g ≠ K.wb := by
    rcases hat with e | e
    · exact h.vd g e
    · have := h.blt.2; have := h.glt.2; have := h.wlt; omega
  have hgu : u.ownBlock ≠ some g := by
    rcases hat with e | e
    · exact h.vu g e
    · intro e2
      have := (h.first.lt g e2).2; omega
  have hvn : ∀ k, v.ownBlock = some k → k ≠ K.b := fun k hk => (h.vd k hk).1
  have hvG : ∀ k, v.ownBlock = some k → k ≠ K.G := fun k hk => (h.vd k hk).2.1
  have hvW : ∀ k, v.ownBlock = some k → k ≠ K.wb := fun k hk => (h.vd k hk).2.2
  have e3 : w'.heap[K.wb]? = w.heap[K.wb]? := hg.block K.wb h.wlt (fun e => hvW K.wb e.symm rfl)
  have hB := h.blt
  have hbB : Below B w (w'.setCell ⟨K.b, 7, none⟩ (.slice (some ⟨g, 0, none⟩) (s.now.length + 1) c)) := ((Below.refl B w).grown hg (by omega) (fun k hk => (h.now.lt k hk).1)).setCell (p := ⟨K.b, 7, none⟩) hB.1 _
  have e1 : w'.heap[K.b]? = w.heap[K.b]? := hg.block K.b h.blt.2 (fun e => hvn K.b e.symm rfl)
  have e2 : w'.heap[K.G]? = w.heap[K.G]? := hg.block K.G h.glt.2 (fun e => hvG K.G e.symm rfl)
  have hf : w'.ownsRow B 99 12 (.slice (some ⟨K.b, 0, none⟩) 1 1) 1 (fcells K v u s) := own_sameG h.fam (fun k hk => by
    obtain rfl : K.b = k := by simpa [Value.ownBlock] using hk
    exact e1)
  have hne : ∀ j, j ≠ K.b → (w'.setCell ⟨K.b, 7, none⟩ (.slice (some ⟨g, 0, none⟩) (s.now.length + 1) c)).heap[j]? = w'.heap[j]? := fun j hj => by simp [World.setCell, Array.getElem?_modify, Ne.symm hj]
  refine ⟨(hf.stored 7 (.slice (some ⟨g, 0, none⟩) (s.now.length + 1) c)).1, ?_, ?_, ?_, h.starts.below hbB, h.ends.below hbB, fun j hj => way_same ((hne _ h.wd.1).trans e3) (h.way j hj), Nat.lt_of_lt_of_le h.wlt hbB.size, h.bG, h.wd, fun k hk => ?_, h.ud, fun k hk => ?_⟩
  · exact own_sameG h.free (fun k hk => by
      obtain rfl : K.G = k := by simpa [Value.ownBlock] using hk
      exact (hne _ h.bG.symm).trans e2)
  · have : (s.now ++ [path]).length = s.now.length + 1 := by simp
    show World.ownsRow _ _ _ _ _ (s.now ++ [path]).length _
    rw [this]
    exact own_sameG ho (fun k hk => by
      obtain rfl : g = k := by simpa [Value.ownBlock] using hk
      exact hne _ hgb.1)
  · exact own_sameG h.first (fun k hk => (hne k (h.ud k hk).1).trans (hg.block k (h.first.lt k hk).2 (fun e => h.vu k e.symm hk)))
  · obtain rfl : g = k := by simpa [Value.ownBlock] using hk
    exact hgb
  · obtain rfl : g = k := by simpa [Value.ownBlock] using hk
    exact hgu
/-- The last path taken back. -/
theorem FamR.pop {g c m : Nat} (h : FamR w B K (.slice (some ⟨g, 0, none⟩) (m + 1) c) u s) (hm : s.now.length = m + 1) : FamR (w.setCell ⟨K.b, 7, none⟩ (.slice (some ⟨g, 0, none⟩) m c)) B K (.slice (some ⟨g, 0, none⟩) m c) u { s with now := s.now.dropLast } := by
  have hne : ∀ j, j ≠ K.b → (w.setCell ⟨K.b, 7, none⟩ (.slice (some ⟨g, 0, none⟩) m c)).heap[j]? = w.heap[j]? := fun j hj => by simp [World.setCell, Array.getElem?_modify, Ne.symm hj]
  have hB := h.blt
  have hbB : Below B w (w.setCell ⟨K.b, 7, none⟩ (.slice (some ⟨g, 0, none⟩) m c)) := (Below.refl _ _).setCell (p := ⟨K.b, 7, none⟩) hB.1 _
  refine ⟨(h.fam.stored 7 (.slice (some ⟨g, 0, none⟩) m c)).1, ?_, ?_, ?_, h.starts.below hbB, h.ends.below hbB, fun j hj => way_same (hne _ h.wd.1) (h.way j hj), Nat.lt_of_lt_of_le h.wlt hbB.size, h.bG, h.wd, fun k hk => h.vd k hk, h.ud, fun k hk => h.vu k hk⟩
  · exact own_sameG h.free (fun k hk => hne k (by obtain rfl : K.G = k := by simpa [Value.ownBlock] using hk
                                                  exact h.bG.symm))
  · have hn := h.now
    rw [hm] at hn
    have hd : s.now.dropLast.length = m := by simp [hm]
    show World.ownsRow _ _ _ _ _ s.now.dropLast.length _
    rw [hd]
    have e3 : strs s.now.dropLast = (strs s.now).take m := by
      rw [List.dropLast_eq_take, hm]
      simp [strs, List.map_take]
    rw [e3]
    refine own_sameG (v := .slice (some ⟨g, 0, none⟩) m c) (w := w) ?_ (fun k hk => hne k (h.vd k hk).1)
    refine ⟨by simp [strs_length, hm], ?_⟩
    rcases hn.2 with ⟨e0, _⟩ | ⟨g', cap', cur, e0, hb, hg, hn2, hmx, hs, ht⟩
    · cases e0
    · obtain ⟨rfl, rfl⟩ : g = g' ∧ c = cap' := by injection e0 with e1 _ e3; injection e1 with e1; injection e1 with e1; exact ⟨e1, e3⟩
      refine .inr ⟨g, c, cur, rfl, hb, hg, by omega, hmx, hs, ?_⟩
      rw [← ht, List.take_take, show min m ((m + 1) * 1) = m * 1 by omega]
  · exact own_sameG h.first (fun k hk => hne k (h.ud k hk).1)
/-- The first family, kept. -/
theorem FamR.keep1 (h : FamR w B K v u s) {z : Value} (hb : Below w.heap.size w w') (ho : w'.ownsRow w.heap.size 9 1 z s.now.length (strs s.now)) : FamR (w'.setCell ⟨K.b, 8, none⟩ z) B K v z { s with first := s.now } := by
  have h' := h.below hb
  have hzk : ∀ k, z.ownBlock = some k → w.heap.size ≤ k := fun k hk => (ho.lt k hk).1
  have hne : ∀ j, j ≠ K.b → (w'.setCell ⟨K.b, 8, none⟩ z).heap[j]? = w'.heap[j]? := fun j hj => by simp [World.setCell, Array.getElem?_modify, Ne.symm hj]
  have hb1 := h.blt
  have hb2 := h.glt
  have hbB : Below B w (w'.setCell ⟨K.b, 8, none⟩ z) := (hb.mono (by omega)).setCell (p := ⟨K.b, 8, none⟩) hb1.1 _
  refine ⟨(h'.fam.stored 8 z).1, ?_, ?_, ?_, h.starts.below hbB, h.ends.below hbB, fun j hj => way_same (hne _ h.wd.1) (h'.way j hj), Nat.lt_of_lt_of_le h.wlt hbB.size, h.bG, h.wd, h.vd, fun k hk => ?_, fun k hk e => ?_⟩
  · exact own_sameG h'.free (fun k hk => hne k (by obtain rfl : K.G = k := by simpa [Value.ownBlock] using hk
                                                   exact h.bG.symm))
  · exact own_sameG h'.now (fun k hk => hne k (h.vd k hk).1)
  · exact own_sameG (ho.mono (by omega)) (fun k hk => hne k (by have := hzk k hk; omega))
  · have := hzk k hk; have := h.wlt; omega
  · have := hzk k e; have := (h.now.lt k hk).2; omega
/-- What a call leaves alone, and where the paths then lie. -/
structure Fr (B : Nat) (K : FK) (v v' : Value) (w w' : World) : Prop where
  bel : Below B w w'
  blk : ∀ b, b < w.heap.size → b ≠ K.b → b ≠ K.G → v.ownBlock ≠ some b → w'.heap[b]? = w.heap[b]?
  at_ : ∀ k, v'.ownBlock = some k → v.ownBlock = some k ∨ w.heap.size ≤ k
theorem Fr.trans {v1 v2 : Value} {w1 w2 : World} (h1 : Fr B K v v1 w w1) (h2 : Fr B K v1 v2 w1 w2) : Fr B K v v2 w w2 := by
  refine ⟨h1.bel.trans h2.bel, fun b hb e1 e2 e3 => ?_, fun k hk => ?_⟩
  · have hs := h1.bel.size
    refine (h2.blk b (by omega) e1 e2 (fun e => ?_)).trans (h1.blk b hb e1 e2 e3)
    rcases h1.at_ b e with g | g
    · exact e3 g
    · omega
  · rcases h2.at_ k hk with g | g
    · exact h1.at_ k g
    · exact .inr (Nat.le_trans h1.bel.size g)
theorem Fr.of (v : Value) (hB : B ≤ w.heap.size) (h : Below w.heap.size w w') : Fr B K v v w w' := ⟨h.mono hB, fun b hb _ _ _ => h.block b hb, fun _ hk => .inl hk⟩
theorem Fr.set {k : Nat} {y : Value} (v v' : Value) (hB : B ≤ K.b) (hv : v'.ownBlock = v.ownBlock) : Fr B K v v' w (w.setCell ⟨K.b, k, none⟩ y) :=
  ⟨(Below.refl _ _).setCell (p := ⟨K.b, k, none⟩) hB _, fun b _ e1 _ _ => by simp [World.setCell, Array.getElem?_modify, Ne.symm e1], fun k hk => .inl (by rw [← hv]; exact hk)⟩
theorem Fr.bit {k : Nat} {y : Value} (v : Value) (hB : B ≤ K.G) : Fr B K v v w (w.setCell ⟨K.G, k, none⟩ y) :=
  ⟨(Below.refl _ _).setCell (p := ⟨K.G, k, none⟩) hB _, fun b _ _ e1 _ => by simp [World.setCell, Array.getElem?_modify, Ne.symm e1], fun k hk => .inl hk⟩
theorem Fr.cell {v' : Value} (h : Fr B K v v' w w') {N j : Nat} {x : Value} (e1 : N ≠ K.b) (e2 : N ≠ K.G) (e3 : v.ownBlock ≠ some N) (hx : w.cell? ⟨N, j, none⟩ = some x) : w'.cell? ⟨N, j, none⟩ = some x :=
  way_same (h.blk N (World.block_lt_of_cell? w _ hx) e1 e2 e3) hx
theorem FamR.nowv {m : Nat} (h : FamR w B K v u s) (hm : s.now.length = m + 1) : ∃ g c, v = .slice (some ⟨g, 0, none⟩) (m + 1) c ∧ m + 1 ≤ c ∧ c ≤ maxLen := by
  have hn := h.now
  rw [hm] at hn
  rcases hn.2 with ⟨_, e0⟩ | ⟨g, c, cur, e0, _, _, hc, hx, _⟩
  · omega
  · exact ⟨g, c, e0, hc, hx⟩
/-- 'append(f.now, path)': the path was laid in a block of its own. -/
theorem wpList_fpush {ops : Array Oper} {rest : List Oper} {o : Oper} {a : Act} {Q : Exit → Act → World → Prop} (hgd : o.guard = none) (sx x : Operand)
    (ho : o.op = .call { callee := .builtin .append, args := #[sx, x], argTypes := #[44, 44] }) (hs : a.eval sx = v) (path : List UInt8)
    (h : FamR w B K v u s) (hx : a.eval x = .slice (some ⟨w.heap.size, 0, none⟩) 1 1) (hlen : s.now.length < 1000000)
    (hc : ∀ g c w', w'.cell? ⟨K.b, 7, none⟩ = some v → w'.frozen? ⟨K.b, 7, none⟩ = false →
      FamR (w'.setCell ⟨K.b, 7, none⟩ (.slice (some ⟨g, 0, none⟩) (s.now.length + 1) c)) B K (.slice (some ⟨g, 0, none⟩) (s.now.length + 1) c) u { s with now := s.now ++ [path] } →
      Fr B K v (.slice (some ⟨g, 0, none⟩) (s.now.length + 1) c) w (w'.setCell ⟨K.b, 7, none⟩ (.slice (some ⟨g, 0, none⟩) (s.now.length + 1) c)) →
      wpList Try.prog ops Q rest (a.put o.dst (.slice (some ⟨g, 0, none⟩) (s.now.length + 1) c)) w') :
    wpList Try.prog ops Q (o :: rest) a (w.alloc (.cells #[.string ⟨path.toArray⟩] 9)) := by
  obtain ⟨i0, hi, hz0, hz1, hz2⟩ := info_parts Try.infoStr
  obtain ⟨w0, hw0⟩ : ∃ w0, w0 = w.alloc (.cells #[.string ⟨path.toArray⟩] 9) := ⟨_, rfl⟩
  have hba : Below w.heap.size w w0 := by rw [hw0]; exact (Below.refl _ _).alloc (Nat.le_refl _) _
  have hx0 : w0.cell? ⟨w.heap.size, 0, none⟩ = some (.string ⟨path.toArray⟩) := by rw [hw0, World.cell?_alloc_at _ _ _ _ rfl]; rfl
  have hz : w0.heap.size = w.heap.size + 1 := by rw [hw0]; simp
  rw [← hw0]
  have hB := h.blt
  have h0 := h.below hba
  obtain ⟨v', w', hrun, ho2, hg, _, hat⟩ := run_append_own_at (P := Try.prog) (w := w0) B 44 o.type 9 i0 (.string ⟨#[]⟩) 1 16 Try.underlying44 hi hz0 hz1 hz2 rfl (by decide) v s.now.length (strs s.now) h0.now ⟨w.heap.size, 0, none⟩ 1 1 [.string ⟨path.toArray⟩] rfl
    (fun j y hy => by
      match j, hy with
      | 0, hy => simp at hy; subst hy; rw [Addr.add_lit]; exact hx0) (by simp [Value.oneCell']) (by unfold maxLen; omega) (by omega) (by omega)
  have ho3 : w'.ownsRow B 9 1 v' (s.now.length + 1) (strs (s.now ++ [path])) := by
    have : strs (s.now ++ [path]) = strs s.now ++ [.string ⟨path.toArray⟩] := by simp [strs]
    rw [this]; exact ho2
  obtain ⟨g, c, rfl⟩ : ∃ g c, v' = .slice (some ⟨g, 0, none⟩) (s.now.length + 1) c := by
    rcases ho3.2 with ⟨_, e0⟩ | ⟨g, c, cur, e0, _⟩
    · omega
    · exact ⟨g, c, e0⟩
  have hat' : v.ownBlock = some g ∨ w0.heap.size ≤ g := by
    rcases hat with e | e
    · exact .inl (by rw [← e]; rfl)
    · have e2 : some g = some w0.heap.size := e
      injection e2 with e2
      exact .inr (by omega)
  have hF := h0.push ho3 hg hat'
  have hkb : w'.heap[K.b]? = w0.heap[K.b]? := hg.block K.b h0.blt.2 (fun e => (h.vd K.b e.symm).1 rfl)
  have hgB : Below B w0 w' := (Below.refl B w0).grown hg (by omega) (fun k hk => (h0.now.lt k hk).1)
  refine wpList_plain hgd fun K' hK => ?_
  unfold Oper.wp execOp
  simp only [ho, resolve, invoke, builtin, Sem.run_bind, Sem.run_pure, Result.andThen_ok, List.map_toArray, List.map_cons, List.map_nil, hs, hx, hrun]
  refine hK _ _ (hc g c w' ?_ ?_ hF ?_)
  · exact way_same hkb (h0.cell (k := 7) rfl)
  · have := h0.fz 7
    unfold World.frozen? at this ⊢
    rw [hkb]; exact this
  · refine (Fr.of v (by omega) hba).trans (Fr.trans (v1 := .slice (some ⟨g, 0, none⟩) (s.now.length + 1) c) (w1 := w') ⟨hgB, fun b hb _ _ e3 => hg.block b hb (fun e => e3 e.symm), fun k hk => ?_⟩ (Fr.set _ _ hB.1 rfl))
    have e2 : some g = some k := hk
    injection e2 with e2
    subst e2
    exact hat'
end
end Go.Proofs.Ytdmpbbgcifodeaa
