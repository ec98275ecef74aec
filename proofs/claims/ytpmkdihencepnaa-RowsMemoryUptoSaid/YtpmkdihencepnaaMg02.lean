/-
  What a call leaves untouched.
-/
import Derived.Deep.AppendLies
import Derived.Test.YtpmkdihencepnaaMg01
namespace Go.Proofs.Ytpmkdihencepnaa
open Go.RowKit

/-- Blocks that were there and are not in F stay as they are. -/
structure Fr (w w' : World) (F : Nat → Prop) : Prop where
  size : w.heap.size ≤ w'.heap.size
  block : ∀ k, k < w.heap.size → ¬ F k → w'.heap[k]? = w.heap[k]?
theorem Fr.refl (w : World) (F : Nat → Prop) : Fr w w F := ⟨Nat.le_refl _, fun _ _ _ => rfl⟩
theorem Fr.alloc {w w' : World} {F : Nat → Prop} (h : Fr w w' F) (o : Obj) : Fr w (w'.alloc o) F :=
  ⟨by have := h.size; simp; omega, fun k hk hn => by
    have h1 := h.size
    have h2 : (w'.alloc o).heap[k]? = w'.heap[k]? := by
      have := (World.grownBy_alloc w' o none).block k (by omega) (by simp)
      exact this
    rw [h2]; exact h.block k hk hn⟩
theorem Fr.grown {w w' w2 : World} {F : Nat → Prop} {row : Option Nat} (h : Fr w w' F) (hg : w'.grownBy w2 row) (hr : ∀ k, row = some k → F k) : Fr w w2 F :=
  ⟨Nat.le_trans h.size hg.size, fun k hk hn => by
    rw [hg.block k (by have := h.size; omega) (fun e => hn (hr k e.symm))]; exact h.block k hk hn⟩
theorem Fr.setCell {w w' : World} {F : Nat → Prop} (h : Fr w w' F) {a : Addr} {y : Value} (ha : F a.block) : Fr w (w'.setCell a y) F :=
  ⟨by have := h.size; simpa using this, fun k hk hn => by
    have hne : a.block ≠ k := fun e => hn (e ▸ ha)
    have : (w'.setCell a y).heap[k]? = w'.heap[k]? := by simp [World.setCell, Array.getElem?_modify, hne]
    rw [this]; exact h.block k hk hn⟩
theorem Fr.trans {a b c : World} {F G : Nat → Prop} (h : Fr a b F) (h' : Fr b c G) (hG : ∀ k, k < a.heap.size → G k → F k) : Fr a c F :=
  ⟨Nat.le_trans h.size h'.size, fun k hk hn => by
    rw [h'.block k (by have := h.size; omega) (fun e => hn (hG k hk e))]; exact h.block k hk hn⟩
theorem Fr.drewN {w w' : World} {F : Nat → Prop} (h : Fr w w' F) (q : Nat) : Fr w (w'.drewN q) F := ⟨h.size, h.block⟩
/-- The blocks of a tableau. -/
def foot (v : Value) (hs : List Value) (k : Nat) : Prop := v.ownBlock = some k ∨ ∃ r, r < hs.length ∧ (hs.getD r undef).ownBlock = some k
theorem foot_top {v : Value} {hs : List Value} {k : Nat} (h : v.ownBlock = some k) : foot v hs k := .inl h
theorem foot_row {v : Value} {hs : List Value} {i k : Nat} (hi : i < hs.length) (h : (hs.getD i undef).ownBlock = some k) : foot v hs k := .inr ⟨i, hi, h⟩
theorem OwnM.foot_lt {w : World} {B : Nat} {v : Value} {hs : List Value} {rows : List (List Int)} (h : OwnM w B v hs rows) {k : Nat} (hk : foot v hs k) : B ≤ k ∧ k < w.heap.size := by
  rcases hk with hk | ⟨r, hr, hk⟩
  · exact h.out.lt k hk
  · exact (h.inn r (by rw [← h.len]; exact hr)).lt k hk
theorem own_same {w w' : World} {base n : Nat} {e : TypeId} {v : Value} {cs : List Value} (h : w.ownsRow base e 1 v n cs) (hk : ∀ k, v.ownBlock = some k → w'.heap[k]? = w.heap[k]?) : w'.ownsRow base e 1 v n cs := by
  refine ⟨h.1, ?_⟩
  rcases h.2 with hn | ⟨g, cap, cur, e1, hg, hh, rest⟩
  · exact .inl hn
  · exact .inr ⟨g, cap, cur, e1, hg, (hk g (by rw [e1]; rfl)).trans hh, rest⟩
/-- A tableau that another's turning leaves. -/
theorem OwnM.frame {w w' : World} {B : Nat} {v : Value} {hs : List Value} {rows : List (List Int)} {F : Nat → Prop} (h : OwnM w B v hs rows) (hf : Fr w w' F) (hd : ∀ k, foot v hs k → ¬ F k) : OwnM w' B v hs rows := by
  have key : ∀ k, foot v hs k → w'.heap[k]? = w.heap[k]? := fun k hk => hf.block k (h.foot_lt hk).2 (hd k hk)
  exact ⟨h.len, own_same h.out (fun k hk => key k (.inl hk)), fun r hr => own_same (h.inn r hr) (fun k hk => key k (.inr ⟨r, by rw [h.len]; exact hr, hk⟩)), h.far, h.top⟩


end Go.Proofs.Ytpmkdihencepnaa

/-
  What stands behind a slice: a row that is owned is owned with its spare room; an append leaves the slice itself as it was.
-/
namespace Go.Proofs.Ytpmkdihencepnaa
open Go.RowKit

section
variable {w : World} {base n g cap : Nat} {e : TypeId} {xs : List Value}
/-- A row that is owned, with its spare room. -/
theorem own_full (h : w.ownsRow base e 1 (.slice (some ⟨g, 0, none⟩) n cap) n xs) : ∃ ys : List Value, ys.length = cap ∧ ys.take n = xs ∧ n ≤ cap ∧ cap ≤ 9223372036854775807 ∧ w.ownsRow base e 1 (.slice (some ⟨g, 0, none⟩) cap cap) cap ys := by
  rcases h.2 with ⟨e1, _⟩ | ⟨g', cap', cur, e1, hb, hg, h1, h2, h3, h4⟩
  · cases e1
  · cases e1
    exact ⟨cur.toList, by simp [h3], by simpa using h4, h1, by simpa [maxLen] using h2, by simp [h3], .inr ⟨g, cap, cur, rfl, hb, hg, Nat.le_refl _, h2, h3, List.take_of_length_le (by simp [h3])⟩⟩
theorem own_part {ys : List Value} {m : Nat} (h : w.ownsRow base e 1 (.slice (some ⟨g, 0, none⟩) cap cap) cap ys) (hm : m ≤ cap) : w.ownsRow base e 1 (.slice (some ⟨g, 0, none⟩) m cap) m (ys.take m) := by
  have hl := h.1
  rcases h.2 with ⟨e1, _⟩ | ⟨g', cap', cur, e1, hb, hg, h1, h2, h3, h4⟩
  · cases e1
  · cases e1
    refine ⟨by simp at hl ⊢; omega, .inr ⟨g, cap, cur, rfl, hb, hg, hm, h2, h3, ?_⟩⟩
    rw [← h4, List.take_take]
    congr 1
    omega
/-- Written over up to i. -/
def ovr (i : Nat) (k : Value) (ys : List Value) : List Value := List.replicate i k ++ ys.drop i
theorem ovr_zero (k : Value) (ys : List Value) : ovr 0 k ys = ys := by simp [ovr]
theorem ovr_set {i : Nat} {k : Value} {ys : List Value} (h : i < ys.length) : (ovr i k ys).set i k = ovr (i + 1) k ys := by
  unfold ovr
  rw [List.set_append_right _ _ (by simp)]
  simp only [List.length_replicate, Nat.sub_self]
  rw [List.drop_eq_getElem_cons h, List.set_cons_zero, List.replicate_succ', List.append_assoc]
  rfl
theorem ovr_length {i : Nat} {k : Value} {ys : List Value} (h : i ≤ ys.length) : (ovr i k ys).length = ys.length := by simp [ovr]; omega
theorem ovr_all {k : Value} {ys : List Value} : ovr ys.length k ys = List.replicate ys.length k := by simp [ovr]
end

/-- An append leaves the slice itself as it was: its own row, or a new block alone, is written. -/
theorem run_append_old {P : Program} (w : World) (base : Nat) (t ty e : TypeId) (i : TypeInfo) (z : Value) (size bytes : Nat) (ht : P.underlying t = some (.slice e)) (hi : P.info? e = some i) (hz : i.zero = some z)
    (hsize : i.size = size) (hby : i.bytes = bytes)
    (v : Value) (n : Nat) (xs : List Value) (hown : w.ownsRow base e size v n xs)
    (a : Addr) (m c : Nat) (news : List Value) (hm : 0 < m) (hl : news.length = m * size) (hnews : ∀ j u, news[j]? = some u → w.cell? (a.add j) = some u) (h1 : ∀ u ∈ news, u.oneCell' = true)
    (h63 : n + m ≤ maxLen) (hbytes : (n + m) * bytes ≤ 140737488355328) :
    ∃ v' w', (Builtin.append_ #[t, t] ty #[v, .slice (some a) m c]).run P w = .ok v' w' ∧ w'.ownsRow base e size v n xs ∧ w.grownBy w' v.ownBlock := by
  subst hsize
  subst hby
  have hsmall : n + m ≤ 9223372036854775807 := by simp only [maxLen] at h63; omega
  have lay : ∀ (o : Obj) (row : Option Nat), (w.drew.alloc o).ownsRow base e i.size v n xs ∧ w.grownBy (w.drew.alloc o) row := fun o row =>
    ⟨World.ownsRow.alloc (w := w.drew) hown o, ⟨rfl, rfl, rfl, by simp, fun k hk _ => Below.heap_alloc w.drew o k hk⟩⟩
  rcases hown.2 with ⟨rfl, rfl⟩ | ⟨g, cap, cur, rfl, hbg, hg, hnc, hcm, hcs, htake⟩
  · have hr := run_append_nil (P := P) w t ty e i z ht hi hz a m c news hl hnews hm (by omega) (by have hb := hbytes; simp only [Nat.zero_add] at hb; omega)
    exact ⟨_, _, hr, (lay _ none).1, (lay _ _).2⟩
  · by_cases hroom : n + m ≤ cap
    · have hfit : n * i.size + news.length ≤ cur.size := by rw [hl, hcs, ← Nat.add_mul]; exact Nat.mul_le_mul_right _ hroom
      have hr := run_append_room (P := P) w t ty e i ht hi g n cap cur hg a m c news hl hnews h1 hroom hfit
      refine ⟨_, _, hr, ⟨hown.1, .inr ⟨g, cap, _, rfl, hbg, setRow_heap w g cur _ e _ hg, hnc, hcm, ?_, ?_⟩⟩, ⟨rfl, rfl, rfl, by simp, fun k _ hk => setRow_other w g k _ (fun e => hk (by simp [Value.ownBlock, e]))⟩⟩
      · simp only [List.size_toArray, List.length_append, List.length_take, List.length_drop, Array.length_toList]
        omega
      · rw [htake, List.append_assoc]
        have h3 := hown.1
        rw [← h3]
        exact List.take_left
    · have holds : ∀ j u, xs[j]? = some u → w.cell? ((⟨g, 0, none⟩ : Addr).add j) = some u := hown.cells (g := g) rfl
      have hr := run_append_grow (P := P) w t ty e i z ht hi hz ⟨g, 0, none⟩ n cap xs hown.1 holds a m c news hl hnews (by omega) (by omega) (growslice_fits (by omega) hbytes)
      exact ⟨_, _, hr, (lay _ none).1, (lay _ _).2⟩
theorem wpList_append_old {P : Program} {w : World} {ops : Array Oper} {rest : List Oper} {o : Oper} {a : Act} {Q : Exit → Act → World → Prop} (hgd : o.guard = none) (s x : Operand) (t : TypeId)
    (ho : o.op = .call { callee := .builtin .append, args := #[s, x], argTypes := #[t, t] })
    (base : Nat) (e : TypeId) (i : TypeInfo) (z : Value) (size bytes : Nat) (ht : P.underlying t = some (.slice e)) (hi : P.info? e = some i) (hz : i.zero = some z)
    (hsize : i.size = size) (hby : i.bytes = bytes)
    (v : Value) (n : Nat) (xs : List Value) (hs : a.eval s = v) (hown : w.ownsRow base e size v n xs)
    (ad : Addr) (m c : Nat) (news : List Value) (hx : a.eval x = .slice (some ad) m c) (hm : 0 < m) (hl : news.length = m * size) (hnews : ∀ j u, news[j]? = some u → w.cell? (ad.add j) = some u) (h1 : ∀ u ∈ news, u.oneCell' = true)
    (h63 : n + m ≤ maxLen) (hbytes : (n + m) * bytes ≤ 140737488355328)
    (h : ∀ v' w', w'.ownsRow base e size v n xs → w.grownBy w' v.ownBlock → wpList P ops Q rest (a.put o.dst v') w') : wpList P ops Q (o :: rest) a w := by
  obtain ⟨v', w', hr, h2, h3⟩ := run_append_old (P := P) w base t o.type e i z size bytes ht hi hz hsize hby v n xs hown ad m c news hm hl hnews h1 h63 hbytes
  refine wpList_plain hgd fun K hK => ?_
  unfold Oper.wp execOp
  simp only [ho, resolve, invoke, builtin, Sem.run_bind, Sem.run_pure, Result.andThen_ok, List.map_toArray, List.map_cons, List.map_nil, hs, hx, hr]
  exact hK _ _ (h v' w' h2 h3)

end Go.Proofs.Ytpmkdihencepnaa

/-
  ferkeep.spoilt: a row that is the call's own is written over, its spare room too, and grown.
-/
namespace Go.Proofs.Ytpmkdihencepnaa
open Go.RowKit

/-- append of three alike ints, whose answer goes nowhere. -/
theorem wpList_app3 {w : World} {base n : Nat} {xs : List Value} {v : Value} {ops : Array Oper} {rest : List Oper} {o : Oper} {a : Act} {Q : Exit → Act → World → Prop} (hgd : o.guard = none) (s x : Operand)
    (ho : o.op = .call { callee := .builtin .append, args := #[s, x], argTypes := #[26, 26] }) (hs : a.eval s = v) (y : Int)
    (hown : w.ownsRow base 3 1 v n xs) (hx : a.eval x = .slice (some ⟨w.heap.size, 0, none⟩) 3 3) (hlen : n < 2000000)
    (h : ∀ v' w', w'.ownsRow base 3 1 v n xs → (w.alloc (.cells #[.int .i64 y, .int .i64 y, .int .i64 y] 3)).grownBy w' v.ownBlock → wpList Try.prog ops Q rest (a.put o.dst v') w') :
    wpList Try.prog ops Q (o :: rest) a (w.alloc (.cells #[.int .i64 y, .int .i64 y, .int .i64 y] 3)) := by
  obtain ⟨i0, hi, hz0, hz1, hz2⟩ := info_parts Try.infoInt
  refine wpList_append_old hgd s x 26 ho base 3 i0 (.int .i64 0) 1 8 Try.underlying26 hi hz0 hz1 hz2 v n xs hs (hown.alloc _) ⟨w.heap.size, 0, none⟩ 3 3 [.int .i64 y, .int .i64 y, .int .i64 y] hx (by decide) rfl ?_ (by simp [Value.oneCell'])
    (by unfold maxLen; omega) (by omega) h
  exact World.news_of_block (cs := #[.int .i64 y, .int .i64 y, .int .i64 y]) (heap_alloc_new w _)
/-- Likewise of rows. -/
theorem wpList_app3r {w : World} {base n : Nat} {xs : List Value} {v : Value} {ops : Array Oper} {rest : List Oper} {o : Oper} {a : Act} {Q : Exit → Act → World → Prop} (hgd : o.guard = none) (s x : Operand)
    (ho : o.op = .call { callee := .builtin .append, args := #[s, x], argTypes := #[22, 22] }) (hs : a.eval s = v) (y : Value) (hy : y.oneCell' = true)
    (hown : w.ownsRow base 26 1 v n xs) (hx : a.eval x = .slice (some ⟨w.heap.size, 0, none⟩) 3 3) (hlen : n < 2000000)
    (h : ∀ v' w', w'.ownsRow base 26 1 v n xs → (w.alloc (.cells #[y, y, y] 26)).grownBy w' v.ownBlock → wpList Try.prog ops Q rest (a.put o.dst v') w') :
    wpList Try.prog ops Q (o :: rest) a (w.alloc (.cells #[y, y, y] 26)) := by
  obtain ⟨i0, hi, hz0, hz1, hz2⟩ := info_parts Try.infoSlice
  refine wpList_append_old hgd s x 22 ho base 26 i0 (.slice none 0 0) 1 24 Try.underlying22 hi hz0 hz1 hz2 v n xs hs (hown.alloc _) ⟨w.heap.size, 0, none⟩ 3 3 [y, y, y] hx (by decide) rfl ?_ (by simp [hy])
    (by unfold maxLen; omega) (by omega) h
  exact World.news_of_block (cs := #[y, y, y]) (heap_alloc_new w _)
/-- The block of a value alone. -/
def only (v : Value) (k : Nat) : Prop := v.ownBlock = some k
def SpoOut (B : Nat) (e : Ending) (w w' : World) (t : TypeId) (v : Value) (n : Nat) (y : Value) : Prop := e = .returned (.tuple #[]) ∧ w'.ownsRow B t 1 v n (List.replicate n y) ∧ Fr w w' (only v) ∧ Below B w w'
theorem ovr_take {n : Nat} {y : Value} {ys : List Value} (h : n ≤ ys.length) : (ovr ys.length y ys).take n = List.replicate n y := by
  rw [ovr_all, List.take_replicate]; congr 1; omega

set_option maxRecDepth 100000 in
set_option maxHeartbeats 1000000 in
theorem spoilt_any (A : Option Addr) (n c : Nat) (xs : List Value) (y : Int) (w : World) (B : Nat) (hB : B ≤ w.heap.size) (hn : n < 2000000) (h : w.ownsRow B 3 1 (.slice A n c) n xs) :
    Calls Try.prog 44 #[.slice A n c, .int .i64 y] w fun e w' => SpoOut B e w w' 3 (.slice A n c) n (.int .i64 y) := by
  rcases h.2 with ⟨e1, e2⟩ | ⟨g, c', cur, e1, -⟩
  · injection e1 with g1 g2 g3
    subst g1
    subst g2
    subst g3
    have H0 : Hid (w.ownsRow B 3 1 (.slice none 0 0) 0 (List.replicate 0 (.int .i64 y))) := World.ownsRow_nil _ _ _ _
    clear h e2
    go_enter Try.func44, Try.ntmps44
    go_wp2
    go_loopw [12] (fun iv wr => iv = .int .i64 0 ∧ wr = w) (fun _ _ => 0)
    case atStart => exact ⟨rfl, rfl⟩
    case round =>
      obtain ⟨rfl, rfl⟩ := hrel
      go_wp2_with (first | (at_builtin; refine wpList_app3 rfl (.tmp 20) (.tmp 24) rfl rfl y H0.out rfl (by omega) (fun v' w2 h2 h3 => ?_)) | fail)
      go_end0
      exact ⟨rfl, h2, ((Fr.refl _ _).alloc _).grown h3 (fun k hk => hk), ((Below.refl _ _).alloc hB _).grown h3 (by simp; omega) (fun k hk => by cases hk)⟩
  · injection e1 with g1 _ g3
    subst g1
    subst g3
    obtain ⟨ys, hyl, -, hnc, hcm, hful⟩ := own_full h
    obtain ⟨hBg, hgs⟩ := h.lt g rfl
    have HF : Hid (w.ownsRow B 3 1 (.slice (some ⟨g, 0, none⟩) c c) c (ovr 0 (.int .i64 y) ys)) := by show World.ownsRow _ _ _ _ _ _ _; rw [ovr_zero]; exact hful
    have HY := Lib.hid hyl
    clear h hful hyl
    go_enter Try.func44, Try.ntmps44
    go_wp2
    go_loopw [12] (fun iv wr => ∃ i : Nat, i ≤ c ∧ iv = .int .i64 i ∧ wr.ownsRow B 3 1 (.slice (some ⟨g, 0, none⟩) c c) c (ovr i (.int .i64 y) ys) ∧ Fr w wr (only (.slice (some ⟨g, 0, none⟩) n c)) ∧ Below B w wr) (fun iv _ => c - (intOf iv).toNat)
    case atStart => exact ⟨0, Nat.zero_le _, rfl, HF.out, Fr.refl _ _, Below.refl _ _⟩
    case round =>
      clear HF
      obtain ⟨i, hi, rfl, ho, hf, hW⟩ := hrel
      have HO := Lib.hid ho
      have HR := Lib.hid hf
      have HW := Lib.hid hW
      clear ho hf hW
      by_cases hic : i < c
      · have di : decide (i < c) = true := decide_eq_true hic
        have hil : i < (ovr i (.int .i64 y) ys).length := by rw [ovr_length (by rw [HY.out]; omega), HY.out]; exact hic
        have hck : wr.cell? ⟨g, i, none⟩ = some ((ovr i (.int .i64 y) ys)[i]) := by rw [HO.out.cellAt i (by omega)]; exact List.getElem?_eq_getElem hil
        obtain ⟨z, hz⟩ : ∃ z, z = (ovr i (.int .i64 y) ys)[i] := ⟨_, rfl⟩
        rw [← hz] at hck
        have hfz := HO.out.frozenAt i
        have hst := (HO.out.stored i (.int .i64 y)).1
        rw [ovr_set (by rw [HY.out]; exact hic)] at hst
        have HS := Lib.hid hst
        have HR2 := Lib.hid (HR.out.setCell (a := ⟨g, i, none⟩) (y := .int .i64 y) (show only (.slice (some ⟨g, 0, none⟩) n c) g from rfl))
        have HW2 := Lib.hid (HW.out.setCell (p := ⟨g, i, none⟩) hBg (.int .i64 y))
        clear hz hst hil
        go_wp2
        go_roundw
        case rel => exact ⟨i + 1, by omega, by go_num, HS.out, HR2.out, HW2.out⟩
        case measure => simp [intOf]; omega
      · have di : decide (i < c) = false := decide_eq_false hic
        have hie : i = ys.length := by rw [HY.out]; omega
        have hpt := own_part HO.out hnc
        rw [hie, ovr_take (by rw [HY.out]; exact hnc)] at hpt
        have HP := Lib.hid hpt
        have hsz := Lib.hid HW.out.size
        clear hie hpt HO
        go_wp2_with (first | (at_builtin; refine wpList_app3 rfl (.tmp 20) (.tmp 24) rfl rfl y HP.out rfl (by omega) (fun v' w2 h2 h3 => ?_)) | fail)
        go_end0
        exact ⟨rfl, h2, (HR.out.alloc _).grown h3 (fun k hk => hk), (HW.out.alloc (by have := hsz.out; omega) _).grown h3 (by have := hsz.out; simp; omega) (fun k hk => by
          have hk2 : (Value.slice (some ⟨g, 0, none⟩) n c).ownBlock = some k := hk
          obtain rfl : g = k := by simpa [Value.ownBlock] using hk2
          exact hBg)⟩

set_option maxRecDepth 100000 in
set_option maxHeartbeats 1000000 in
theorem spoiltR_any (A : Option Addr) (n c : Nat) (xs : List Value) (m : Nat) (w : World) (B : Nat) (hB : B ≤ w.heap.size) (hn : n < 2000000) (h : w.ownsRow B 26 1 (.slice A n c) n xs) :
    Calls Try.prog 45 #[.slice A n c, .slice (some ⟨m, 0, none⟩) 1 1] w fun e w' => SpoOut B e w w' 26 (.slice A n c) n (.slice (some ⟨m, 0, none⟩) 1 1) := by
  rcases h.2 with ⟨e1, e2⟩ | ⟨g, c', cur, e1, -⟩
  · injection e1 with g1 g2 g3
    subst g1
    subst g2
    subst g3
    have H0 : Hid (w.ownsRow B 26 1 (.slice none 0 0) 0 (List.replicate 0 (.slice (some ⟨m, 0, none⟩) 1 1))) := World.ownsRow_nil _ _ _ _
    clear h e2
    go_enter Try.func45, Try.ntmps45
    go_wp2
    go_loopw [12] (fun iv wr => iv = .int .i64 0 ∧ wr = w) (fun _ _ => 0)
    case atStart => exact ⟨rfl, rfl⟩
    case round =>
      obtain ⟨rfl, rfl⟩ := hrel
      go_wp2_with (first | (at_builtin; refine wpList_app3r rfl (.tmp 20) (.tmp 24) rfl rfl (.slice (some ⟨m, 0, none⟩) 1 1) rfl H0.out rfl (by omega) (fun v' w2 h2 h3 => ?_)) | fail)
      go_end0
      exact ⟨rfl, h2, ((Fr.refl _ _).alloc _).grown h3 (fun k hk => hk), ((Below.refl _ _).alloc hB _).grown h3 (by simp; omega) (fun k hk => by cases hk)⟩
  · injection e1 with g1 _ g3
    subst g1
    subst g3
    obtain ⟨ys, hyl, -, hnc, hcm, hful⟩ := own_full h
    obtain ⟨hBg, hgs⟩ := h.lt g rfl
    have HF : Hid (w.ownsRow B 26 1 (.slice (some ⟨g, 0, none⟩) c c) c (ovr 0 (.slice (some ⟨m, 0, none⟩) 1 1) ys)) := by show World.ownsRow _ _ _ _ _ _ _; rw [ovr_zero]; exact hful
    have HY := Lib.hid hyl
    clear h hful hyl
    go_enter Try.func45, Try.ntmps45
    go_wp2
    go_loopw [12] (fun iv wr => ∃ i : Nat, i ≤ c ∧ iv = .int .i64 i ∧ wr.ownsRow B 26 1 (.slice (some ⟨g, 0, none⟩) c c) c (ovr i (.slice (some ⟨m, 0, none⟩) 1 1) ys) ∧ Fr w wr (only (.slice (some ⟨g, 0, none⟩) n c)) ∧ Below B w wr) (fun iv _ => c - (intOf iv).toNat)
    case atStart => exact ⟨0, Nat.zero_le _, rfl, HF.out, Fr.refl _ _, Below.refl _ _⟩
    case round =>
      clear HF
      obtain ⟨i, hi, rfl, ho, hf, hW⟩ := hrel
      have HO := Lib.hid ho
      have HR := Lib.hid hf
      have HW := Lib.hid hW
      clear ho hf hW
      by_cases hic : i < c
      · have di : decide (i < c) = true := decide_eq_true hic
        have hil : i < (ovr i (.slice (some ⟨m, 0, none⟩) 1 1) ys).length := by rw [ovr_length (by rw [HY.out]; omega), HY.out]; exact hic
        have hck : wr.cell? ⟨g, i, none⟩ = some ((ovr i (.slice (some ⟨m, 0, none⟩) 1 1) ys)[i]) := by rw [HO.out.cellAt i (by omega)]; exact List.getElem?_eq_getElem hil
        obtain ⟨z, hz⟩ : ∃ z, z = (ovr i (.slice (some ⟨m, 0, none⟩) 1 1) ys)[i] := ⟨_, rfl⟩
        rw [← hz] at hck
        have hfz := HO.out.frozenAt i
        have hst := (HO.out.stored i (.slice (some ⟨m, 0, none⟩) 1 1)).1
        rw [ovr_set (by rw [HY.out]; exact hic)] at hst
        have HS := Lib.hid hst
        have HR2 := Lib.hid (HR.out.setCell (a := ⟨g, i, none⟩) (y := .slice (some ⟨m, 0, none⟩) 1 1) (show only (.slice (some ⟨g, 0, none⟩) n c) g from rfl))
        have HW2 := Lib.hid (HW.out.setCell (p := ⟨g, i, none⟩) hBg (.slice (some ⟨m, 0, none⟩) 1 1))
        clear hz hst hil
        go_wp2
        go_roundw
        case rel => exact ⟨i + 1, by omega, by go_num, HS.out, HR2.out, HW2.out⟩
        case measure => simp [intOf]; omega
      · have di : decide (i < c) = false := decide_eq_false hic
        have hie : i = ys.length := by rw [HY.out]; omega
        have hpt := own_part HO.out hnc
        rw [hie, ovr_take (by rw [HY.out]; exact hnc)] at hpt
        have HP := Lib.hid hpt
        have hsz := Lib.hid HW.out.size
        clear hie hpt HO
        go_wp2_with (first | (at_builtin; refine wpList_app3r rfl (.tmp 20) (.tmp 24) rfl rfl (.slice (some ⟨m, 0, none⟩) 1 1) rfl HP.out rfl (by omega) (fun v' w2 h2 h3 => ?_)) | fail)
        go_end0
        exact ⟨rfl, h2, (HR.out.alloc _).grown h3 (fun k hk => hk), (HW.out.alloc (by have := hsz.out; omega) _).grown h3 (by have := hsz.out; simp; omega) (fun k hk => by
          have hk2 : (Value.slice (some ⟨g, 0, none⟩) n c).ownBlock = some k := hk
          obtain rfl : g = k := by simpa [Value.ownBlock] using hk2
          exact hBg)⟩

end Go.Proofs.Ytpmkdihencepnaa

/-
  ferkeep.spread: rows that are the call's own, written over one by one, leave each other as they are.
-/
namespace Go.Proofs.Ytpmkdihencepnaa
open Go.RowKit

/-- One row turned by a call that leaves the others. -/
theorem OwnM.turn {w w' : World} {B : Nat} {v : Value} {hs : List Value} {rows rows' : List (List Int)} (h : OwnM w B v hs rows) (hl : rows'.length = rows.length) {i : Nat} (hf : Fr w w' (only (hs.getD i undef)))
    (hi : i < rows.length) (hr : ∀ r, r < rows.length → r ≠ i → rows'.getD r [] = rows.getD r []) (hown : w'.ownsRow B 3 1 (hs.getD i undef) (rows'.getD i []).length (ints (rows'.getD i []))) : OwnM w' B v hs rows' := by
  refine ⟨by rw [hl]; exact h.len, by rw [hl]; exact own_same h.out (fun k hk => hf.block k (h.out.lt k hk).2 (h.top i hi k hk)), fun r hr2 => ?_, fun r s h1 h2 hne => h.far r s (by rw [← hl]; exact h1) (by rw [← hl]; exact h2) hne, fun r h1 => h.top r (by rw [← hl]; exact h1)⟩
  rw [hl] at hr2
  by_cases e : r = i
  · rw [e]; exact hown
  · rw [hr r hr2 e]
    exact own_same (h.inn r hr2) (fun k hk => hf.block k ((h.inn r hr2).lt k hk).2 (h.far r i hr2 hi e k hk))
/-- Rows, the first i of which are written over. -/
def sprT (rows : List (List Int)) (i : Nat) : List (List Int) := (List.range rows.length).map (fun r => if r < i then List.replicate (rows.getD r []).length (-7 - (r : Int)) else rows.getD r [])
theorem sprT_length (rows : List (List Int)) (i : Nat) : (sprT rows i).length = rows.length := by simp [sprT]
theorem sprT_getD {rows : List (List Int)} {i r : Nat} (h : r < rows.length) : (sprT rows i).getD r [] = if r < i then List.replicate (rows.getD r []).length (-7 - (r : Int)) else rows.getD r [] := by simp [sprT, h]
theorem sprT_zero (rows : List (List Int)) : sprT rows 0 = rows := by
  apply List.ext_getElem (by rw [sprT_length])
  intro r h1 h2
  have := sprT_getD (i := 0) h2
  rw [if_neg (by omega), getD_get h1, getD_get h2] at this
  exact this
theorem sprT_len {rows : List (List Int)} {i r : Nat} (h : r < rows.length) : ((sprT rows i).getD r []).length = (rows.getD r []).length := by
  rw [sprT_getD h]
  by_cases e : r < i
  · rw [if_pos e, List.length_replicate]
  · rw [if_neg e]
theorem ints_rep (n : Nat) (x : Int) : ints (List.replicate n x) = List.replicate n (.int .i64 x) := by simp [ints]
theorem OwnM.spr {w w' : World} {B : Nat} {v : Value} {hs : List Value} {rows : List (List Int)} {i : Nat} (h : OwnM w B v hs (sprT rows i)) (hi : i < rows.length) {A : Option Addr} {n c : Nat} (hv : hs.getD i undef = .slice A n c) (hn : n = (rows.getD i []).length)
    (hf : Fr w w' (only (.slice A n c))) (ho : w'.ownsRow B 3 1 (.slice A n c) n (List.replicate n (.int .i64 (-7 - (i : Int))))) : OwnM w' B v hs (sprT rows (i + 1)) := by
  have e : (sprT rows (i + 1)).getD i [] = List.replicate n (-7 - (i : Int)) := by rw [sprT_getD hi, if_pos (by omega), hn]
  refine h.turn (by rw [sprT_length, sprT_length]) (i := i) (by rw [hv]; exact hf) (by rw [sprT_length]; exact hi) (fun r hr hne => ?_) ?_
  · rw [sprT_length] at hr
    rw [sprT_getD hr, sprT_getD hr]
    by_cases c : r < i
    · rw [if_pos c, if_pos (by omega)]
    · rw [if_neg c, if_neg (by omega)]
  · rw [e, List.length_replicate, hv, ints_rep]; exact ho
def SprOut (B : Nat) (e : Ending) (w w' : World) (v : Value) (hs : List Value) : Prop := e = .returned (.bool true) ∧ Fr w w' (foot v hs) ∧ Below B w w'

set_option maxRecDepth 100000 in
set_option maxHeartbeats 2000000 in
theorem spread_any (A : Option Addr) (c : Nat) (rows : List (List Int)) (hs : List Value) (w : World) (B : Nat) (hB : B ≤ w.heap.size) (hn : rows.length ≤ 1000) (hsm : ∀ r, (rows.getD r []).length ≤ 1000) (h : OwnM w B (.slice A rows.length c) hs rows) :
    Calls Try.prog 9 #[.slice A rows.length c] w fun e w' => SprOut B e w w' (.slice A rows.length c) hs := by
  have HSM := Lib.hid hsm
  have H0 : Hid (OwnM w B (.slice A rows.length c) hs (sprT rows 0)) := by show OwnM _ _ _ _ _; rw [sprT_zero]; exact h
  have hsz := Lib.hid hB
  clear hsm h hB
  go_enter Try.func9, Try.ntmps9
  go_wp2
  go_loopw [9] (fun iv wr => ∃ i : Nat, i ≤ rows.length ∧ iv = .int .i64 i ∧ OwnM wr B (.slice A rows.length c) hs (sprT rows i) ∧ Fr w wr (foot (.slice A rows.length c) hs) ∧ Below B w wr) (fun iv _ => rows.length - (intOf iv).toNat)
  case atStart => exact ⟨0, Nat.zero_le _, rfl, H0.out, Fr.refl _ _, Below.refl _ _⟩
  case round =>
    clear H0
    obtain ⟨i, hi, rfl, hm, hf, hW⟩ := hrel
    have HM := Lib.hid hm
    have HR := Lib.hid hf
    have HW := Lib.hid hW
    clear hm hf hW
    by_cases hit : i < rows.length
    · have di : decide (i < rows.length) = true := decide_eq_true hit
      have hin := HM.out.inn i (by rw [sprT_length]; exact hit)
      obtain ⟨Ai, ci, hv, -, -, -⟩ := own_sliceA hin
      have hle := sprT_len (i := i) hit
      rw [hle] at hv
      have hout := HM.out.out
      rw [sprT_length] at hout
      obtain ⟨g, c', e1, -, -⟩ := hout.form (by omega)
      obtain ⟨rfl, rfl⟩ : A = some ⟨g, 0, none⟩ ∧ c = c' := by injection e1 with g1 _ g3; exact ⟨g1, g3⟩
      have hcl : wr.cell? ⟨g, i, none⟩ = some (.slice Ai (rows.getD i []).length ci) := by rw [hout.cellAt i (by omega), HM.out.get (by rw [sprT_length]; exact hit), hv]
      have hin2 : wr.ownsRow B 3 1 (.slice Ai (rows.getD i []).length ci) (rows.getD i []).length (ints ((sprT rows i).getD i [])) := by rw [← hv, ← hle]; exact hin
      have hq := HSM.out i
      obtain ⟨q, hqe⟩ : ∃ q, q = (rows.getD i []).length := ⟨_, rfl⟩
      rw [← hqe] at hcl hin2 hq hv
      have HV := Lib.hid hv
      have HQ := Lib.hid hqe
      have HB := Lib.hid (Nat.le_trans hsz.out HW.out.size)
      have HI := Lib.hid hin2
      clear hin hle hout hqe hv hin2 e1
      go_wp2_with (first | (go_at_call 44; refine (spoilt_any Ai q ci _ (-7 - (i : Int)) _ B HB.out (by omega) HI.out).mono ?_) | fail)
      rintro e w2 ⟨rfl, ho2, hf2, hb2⟩
      have HM2 := Lib.hid (HM.out.spr hit HV.out HQ.out hf2 ho2)
      have HR2 := Lib.hid (HR.out.trans hf2 (fun k _ hk => foot_row (i := i) (by rw [HM.out.len, sprT_length]; exact hit) (by rw [HV.out]; exact hk)))
      have HW2 := Lib.hid (HW.out.trans hb2)
      clear ho2 hf2 hb2
      go_wp2
      go_roundw
      case rel => exact ⟨i + 1, by omega, by go_num, HM2.out, HR2.out, HW2.out⟩
      case measure => simp [intOf]; omega
    · have di : decide (i < rows.length) = false := decide_eq_false hit
      have hie : i = rows.length := by omega
      have hm := HM.out
      rw [hie] at hm
      have HM2 := Lib.hid hm
      have HB := Lib.hid (Nat.le_trans hsz.out HW.out.size)
      clear hm hie HM
      obtain ⟨w5, rfl⟩ : ∃ w5, w5 = wr := ⟨_, rfl⟩
      go_wp2
      go_loop [22] (fun iv => ∃ i : Nat, i ≤ rows.length ∧ iv = .int .i64 i) (fun iv => rows.length - (intOf iv).toNat)
      case atStart => exact ⟨0, Nat.zero_le _, rfl⟩
      case round =>
        obtain ⟨j, hj, rfl⟩ := hrel
        by_cases hjt : j < rows.length
        · have dj : decide (j < rows.length) = true := decide_eq_true hjt
          have hin := HM2.out.inn j (by rw [sprT_length]; exact hjt)
          obtain ⟨Aj, cj, hv, -, hsl, -, -⟩ := own_sliceA hin
          have hle := sprT_len (i := rows.length) hjt
          have hge := sprT_getD (i := rows.length) hjt
          rw [if_pos hjt] at hge
          rw [hle] at hv
          rw [hge] at hsl
          have hout := HM2.out.out
          rw [sprT_length] at hout
          obtain ⟨g, c', e1, -, -⟩ := hout.form (by omega)
          obtain ⟨rfl, rfl⟩ : A = some ⟨g, 0, none⟩ ∧ c = c' := by injection e1 with g1 _ g3; exact ⟨g1, g3⟩
          have hcl : w5.cell? ⟨g, j, none⟩ = some (.slice Aj (rows.getD j []).length cj) := by rw [hout.cellAt j (by omega), HM2.out.get (by rw [sprT_length]; exact hjt), hv]
          have hq := HSM.out j
          obtain ⟨q, hqe⟩ : ∃ q, q = (rows.getD j []).length := ⟨_, rfl⟩
          rw [← hqe] at hcl hq hsl
          have HSL := Lib.hid hsl
          clear hin hle hout hqe hv hsl e1 hge
          go_wp2
          go_loop [30] (fun kv => ∃ k : Nat, k ≤ q ∧ kv = .int .i64 k) (fun kv => q - (intOf kv).toNat)
          case atStart => exact ⟨0, Nat.zero_le _, rfl⟩
          case round =>
            obtain ⟨k, hk, rfl⟩ := hrel
            by_cases hkq : k < q
            · have dk : decide (k < q) = true := decide_eq_true hkq
              obtain ⟨b, o, rfl, hb⟩ := HSL.out.addr (by rw [List.length_replicate]; omega)
              have hcx := getD_cell HSL.out (k := k) (by rw [List.length_replicate]; exact hkq)
              rw [getD_get (by rw [List.length_replicate]; exact hkq), List.getElem_replicate] at hcx
              have hne : ((-7 - (j : Int)) != (-7 - (j : Int))) = false := by simp
              go_wp2
              go_round
              case rel => exact ⟨k + 1, by omega, by go_num⟩
              case measure => simp [intOf]; omega
            · have dk : decide (k < q) = false := decide_eq_false hkq
              go_wp2
              go_round
              case rel => exact ⟨j + 1, by omega, by go_num⟩
              case measure => simp [intOf]; omega
        · have dj : decide (j < rows.length) = false := decide_eq_false hjt
          have hout := HM2.out.out
          rw [sprT_length] at hout
          have HO := Lib.hid (hout.alloc (.cells #[.int .i64 77] 3))
          have HR3 := Lib.hid (HR.out.alloc (.cells #[.int .i64 77] 3))
          have HW3 := Lib.hid (HW.out.alloc HB.out (.cells #[.int .i64 77] 3))
          have HB3 : Hid (B ≤ (w5.alloc (.cells #[.int .i64 77] 3)).heap.size) := by show _ ≤ _; have := HB.out; simp; omega
          clear hout
          go_wp2_with (first | (go_at_call 45; refine (spoiltR_any A rows.length c _ w5.heap.size _ B HB3.out (by omega) HO.out).mono ?_) | fail)
          rintro e w6 ⟨rfl, ho6, hf6, hb6⟩
          have hfin : Hid (SprOut B (.returned (.bool true)) w w6 (.slice A rows.length c) hs) := ⟨rfl, HR3.out.trans hf6 (fun k _ hk => foot_top hk), HW3.out.trans hb6⟩
          clear ho6 hf6 hb6
          go_wp2
          go_ret
          exact hfin.out

end Go.Proofs.Ytpmkdihencepnaa
