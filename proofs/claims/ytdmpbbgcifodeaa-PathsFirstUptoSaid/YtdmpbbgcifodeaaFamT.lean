/-
  Plain: a family walked point by point; one point appended.
-/
import Derived.Test.YtdmpbbgcifodeaaFam5L
namespace Go.Proofs.Ytdmpbbgcifodeaa
open Go.RowKit Go.Proofs

theorem all_pre (ss : List Pt) : ∀ (l' l : List (List UInt8)), ∃ r, allPts ss (l ++ l') = allPts ss l ++ r
  | [], l => ⟨[], by simp⟩
  | x :: t, l => by
    obtain ⟨r, hr⟩ := all_pre ss t (l ++ [x])
    have e : l ++ x :: t = (l ++ [x]) ++ t := by simp
    refine ⟨ptsOf (ss.getD l.length (0, 0)) x ++ r, ?_⟩
    rw [e, hr, all_snoc, List.append_assoc]
theorem all_take {ss : List Pt} {ps : List (List UInt8)} {k : Nat} (hk : k < ps.length) : allPts ss (ps.take (k + 1)) = allPts ss (ps.take k) ++ ptsOf (ss.getD k (0, 0)) (ps.getD k []) := by
  have e : ps.take (k + 1) = ps.take k ++ [ps.getD k []] := by
    rw [List.take_add_one, List.getElem?_eq_getElem hk, getD_get hk]; rfl
  have hl : (ps.take k).length = k := by rw [List.length_take]; omega
  rw [e, all_snoc, hl]
theorem fin_sum : ∀ (s : List UInt8) (p : Pt), (∀ c ∈ s, c = 82 ∨ c = 85) → (finOf p s).1 + (finOf p s).2 = p.1 + p.2 + s.length
  | [], p, _ => by simp [finOf]
  | c :: t, p, h => by
    have ih := fin_sum t (stepP p c) fun d hd => h d (List.mem_cons_of_mem _ hd)
    have hc := h c (List.mem_cons_self ..)
    show (finOf (stepP p c) t).1 + (finOf (stepP p c) t).2 = _
    rw [ih]
    rcases hc with rfl | rfl
    · simp [stepP]; omega
    · simp [stepP]; omega
/-- What is taken when path k is walked as far as its q-th point. -/
def takenT (ss bar : List Pt) (ps : List (List UInt8)) (k q : Nat) : List Pt := bar ++ allPts ss (ps.take k) ++ (ptsOf (ss.getD k (0, 0)) (ps.getD k [])).take q
theorem takenT_next {ss bar : List Pt} {ps : List (List UInt8)} {k : Nat} (hk : k < ps.length) : takenT ss bar ps k ((ps.getD k []).length + 1) = takenT ss bar ps (k + 1) 0 := by
  have e : (ptsOf (ss.getD k (0, 0)) (ps.getD k [])).take ((ps.getD k []).length + 1) = ptsOf (ss.getD k (0, 0)) (ps.getD k []) := List.take_of_length_le (by rw [pts_len]; omega)
  unfold takenT
  rw [e, all_take hk, List.take_zero, List.append_nil, List.append_assoc]
theorem takenT_zero (ss bar : List Pt) (ps : List (List UInt8)) : takenT ss bar ps 0 0 = bar := by simp [takenT, allPts]
theorem fam_step {ss es bar : List Pt} {W H : Nat} {ps : List (List UInt8)} (h : Fam ss es W H bar ps) {k q : Nat} (hk : k < ps.length) (hq : q ≤ (ps.getD k []).length) :
    InG W H (finOf (ss.getD k (0, 0)) ((ps.getD k []).take q)) ∧ finOf (ss.getD k (0, 0)) ((ps.getD k []).take q) ∉ takenT ss bar ps k q ∧ takenT ss bar ps k q ++ [finOf (ss.getD k (0, 0)) ((ps.getD k []).take q)] = takenT ss bar ps k (q + 1) := by
  obtain ⟨_, _, hnd, hin⟩ := h
  have hg := pts_get (s := ps.getD k []) (p := ss.getD k (0, 0)) hq
  obtain ⟨a, ha⟩ : ∃ a, a = finOf (ss.getD k (0, 0)) ((ps.getD k []).take q) := ⟨_, rfl⟩
  rw [← ha] at hg ⊢
  obtain ⟨r, hr⟩ := all_pre ss (ps.drop (k + 1)) (ps.take (k + 1))
  rw [List.take_append_drop, all_take hk] at hr
  have hlq : q < (ptsOf (ss.getD k (0, 0)) (ps.getD k [])).length := by rw [pts_len]; omega
  have hsp : ptsOf (ss.getD k (0, 0)) (ps.getD k []) = (ptsOf (ss.getD k (0, 0)) (ps.getD k [])).take q ++ a :: (ptsOf (ss.getD k (0, 0)) (ps.getD k [])).drop (q + 1) := by
    have e2 : (ptsOf (ss.getD k (0, 0)) (ps.getD k []))[q] = a := by
      rw [List.getElem?_eq_getElem hlq] at hg
      exact Option.some.inj hg
    rw [← e2, List.getElem_cons_drop, List.take_append_drop]
  have hmem : a ∈ allPts ss ps := by
    rw [hr, hsp]; simp
  refine ⟨(hin a hmem).1, fun hm => ?_, ?_⟩
  · unfold takenT at hm
    rw [List.append_assoc] at hm
    rcases List.mem_append.1 hm with g | g
    · exact (hin a hmem).2 g
    · rw [hr, hsp, List.append_assoc, List.append_assoc, List.cons_append, ← List.append_assoc] at hnd
      have := (List.nodup_append.1 hnd).2.2 a g a (List.mem_cons_self ..)
      exact this rfl
  · unfold takenT
    have e3 : (ptsOf (ss.getD k (0, 0)) (ps.getD k [])).take (q + 1) = (ptsOf (ss.getD k (0, 0)) (ps.getD k [])).take q ++ [a] := by
      rw [List.take_add_one, hg]; rfl
    rw [e3]
    simp only [List.append_assoc]
/-- How long a path is, and how many are taken. -/
theorem fam_len {ss es bar : List Pt} {W H : Nat} {ps : List (List UInt8)} (h : Fam ss es W H bar ps) (hW : W ≤ 8) (hH : H ≤ 8) {k : Nat} (hk : k < ps.length) : (ps.getD k []).length ≤ 20 := by
  have h0 := (fam_step h hk (Nat.zero_le _)).1
  have h1 := (fam_step h hk (Nat.le_refl _)).1
  have h2 := fin_sum (ps.getD k []) (ss.getD k (0, 0)) (h.2.1 k hk).1
  rw [List.take_length] at h1
  simp only [List.take_zero, finOf] at h0
  obtain ⟨a1, a2, a3, a4⟩ := h0
  obtain ⟨b1, b2, b3, b4⟩ := h1
  omega
theorem all_len {ss es bar : List Pt} {W H : Nat} {ps : List (List UInt8)} (h : Fam ss es W H bar ps) (hW : W ≤ 8) (hH : H ≤ 8) : ∀ k, k ≤ ps.length → (allPts ss (ps.take k)).length ≤ 21 * k
  | 0, _ => by simp [allPts]
  | k + 1, hk => by
    have ih := all_len h hW hH k (by omega)
    have hl := fam_len h hW hH (k := k) (by omega)
    rw [all_take (by omega), List.length_append, pts_len]
    omega
theorem takenT_len {ss es bar : List Pt} {W H : Nat} {ps : List (List UInt8)} (h : Fam ss es W H bar ps) (hW : W ≤ 8) (hH : H ≤ 8) (h4 : ps.length ≤ 4) {k q : Nat} (hk : k ≤ ps.length) : (takenT ss bar ps k q).length ≤ bar.length + 84 + q := by
  have h1 := all_len h hW hH k hk
  have h2 : ((ptsOf (ss.getD k (0, 0)) (ps.getD k [])).take q).length ≤ q := List.length_take_le ..
  unfold takenT
  rw [List.length_append, List.length_append]
  omega
theorem fin_next {p : Pt} {s : List UInt8} {q : Nat} (hq : q < s.length) : finOf p (s.take (q + 1)) = stepP (finOf p (s.take q)) (s.getD q 0) := by
  have e : s.take (q + 1) = s.take q ++ [s.getD q 0] := by
    rw [List.take_add_one, List.getElem?_eq_getElem hq, getD_get hq]; rfl
  rw [e, fin_snoc]

/-- 'append(v, x)' of one point: x was laid in a block of its own. -/
theorem wpList_appP1 {w : World} {base : Nat} {v : Value} {l : List Pt} {ops : Array Oper} {rest : List Oper} {o : Oper} {a : Act} {Q : Exit → Act → World → Prop} (hgd : o.guard = none) (sx x : Operand)
    (ho : o.op = .call { callee := .builtin .append, args := #[sx, x], argTypes := #[41, 41] }) (hs : a.eval sx = v) (y : Pt) {n : Nat}
    (hown : w.ownsRow base 48 2 v n (pcells l)) (hx : a.eval x = .slice (some ⟨w.heap.size, 0, none⟩) 1 1) (hlen : n < 2000000) (hbase : base ≤ w.heap.size)
    (hc : ∀ v' w', w'.ownsRow base 48 2 v' (n + 1) (pcells (l ++ [y])) → Below base w w' → (∀ b, b < w.heap.size → v.ownBlock ≠ some b → w'.heap[b]? = w.heap[b]?) → (∀ k, v'.ownBlock = some k → v.ownBlock = some k ∨ w.heap.size ≤ k) →
      wpList Try.prog ops Q rest (a.put o.dst v') w') :
    wpList Try.prog ops Q (o :: rest) a (w.alloc (.cells #[.int .i64 y.1, .int .i64 y.2] 48)) := by
  obtain ⟨i0, hi, hz0, hz1, hz2⟩ := info_parts Try.infoPt
  obtain ⟨w0, hw0⟩ : ∃ w0, w0 = w.alloc (.cells #[.int .i64 y.1, .int .i64 y.2] 48) := ⟨_, rfl⟩
  have hba : Below w.heap.size w w0 := by rw [hw0]; exact (Below.refl _ _).alloc (Nat.le_refl _) _
  have hx0 : w0.cell? ⟨w.heap.size, 0, none⟩ = some (.int .i64 y.1) := by rw [hw0, World.cell?_alloc_at _ _ _ _ rfl]; rfl
  have hx1 : w0.cell? ⟨w.heap.size, 1, none⟩ = some (.int .i64 y.2) := by rw [hw0, World.cell?_alloc_at _ _ _ _ rfl]; rfl
  have hz : w0.heap.size = w.heap.size + 1 := by rw [hw0]; simp
  rw [← hw0]
  obtain ⟨v', w', hrun, ho2, hg, _, hat⟩ := run_append_own_at (P := Try.prog) (w := w0) base 41 o.type 48 i0 (.agg #[.int .i64 0, .int .i64 0]) 2 16 Try.underlying41 hi hz0 hz1 hz2 rfl (by omega) v n (pcells l) (own_sameG hown (fun k hk => hba.block k (hown.lt k hk).2)) ⟨w.heap.size, 0, none⟩ 1 1 (pcells [y]) rfl
    (fun j u hu => by
      match j, hu with
      | 0, hu => obtain rfl := Option.some.inj hu; rw [Addr.add_lit]; exact hx0
      | 1, hu => obtain rfl := Option.some.inj hu; rw [Addr.add_lit]; exact hx1
      | j + 2, hu => exact absurd hu (by simp [pcells])) (pcells_one _) (by unfold maxLen; omega) (by omega) (by omega)
  refine wpList_plain hgd fun K' hK => ?_
  unfold Oper.wp execOp
  simp only [ho, resolve, invoke, builtin, Sem.run_bind, Sem.run_pure, Result.andThen_ok, List.map_toArray, List.map_cons, List.map_nil, hs, hx, hrun]
  refine hK _ _ (hc v' w' (by rw [pcells_app]; exact ho2) ?_ (fun b hb hne => ?_) fun k hk => ?_)
  · exact (hba.mono hbase).trans ((Below.refl base w0).grown hg (by omega) (fun k hk => (hown.lt k hk).1))
  · exact (hg.block b (by omega) (fun e => hne e.symm)).trans (hba.block b hb)
  · rcases hat with e | e
    · exact .inl (by rw [← e]; exact hk)
    · rw [e] at hk
      injection hk with hk
      exact .inr (by omega)
end Go.Proofs.Ytdmpbbgcifodeaa
