/-
  slices.Insert of pairs, one at a time.
-/
import Derived.Test.YtdmpbbgcifodeaaInsL
import Derived.Test.YtdmpbbgcifodeaaQueL
import Derived.Shelf.Spec.SlicesInsert
import Derived.Lib.Overlaps
import Derived.BigRegion
import Derived.StillTailTactics
import Derived.Deep.RegionWith
namespace Go.Proofs.Ytdmpbbgcifodeaa
open Go.RowKit Go.Lib Go.Proofs

theorem Try.pairSize : (Try.prog.info? 81).map (·.size) = some 2 := by
  obtain ⟨i0, hi0, hz0, hz1, hz2⟩ := info_parts Try.infoPair
  rw [hi0]; simp [hz1]
theorem copy_own {W : World} {base g n cap dLen dCap sLen sCap m i : Nat} {cs vs : List Value} {a : Addr} (h : W.ownsRow base 81 2 (.slice (some ⟨g, 0, none⟩) n cap) n cs) (hm : Nat.min sLen dLen = m) (hv : vs.length = m * 2) (hfit : i * 2 + vs.length ≤ n * 2)
    (hsrc : ∀ j v, vs[j]? = some v → W.cell? (a.add j) = some v) (h1 : ∀ v ∈ vs, v.oneCell' = true) (ty : TypeId) :
    (Builtin.copy_ #[76, 76] ty #[.slice (some ⟨g, i * 2, none⟩) dLen dCap, .slice (some a) sLen sCap]).run Try.prog W = .ok (goInt m) (W.setCells g (i * 2) vs) :=
  run_copy_k W _ _ ty 81 g (i * 2) dLen dCap a sLen sCap m 2 vs Try.underlying76 Try.pairSize hm hv hsrc
    (fun j hj => by
      have hl := h.1
      rw [h.cellAt _ (by omega), List.getElem?_eq_getElem (by omega)]; rfl)
    (fun j _ => h.frozenAt _) h1
def InsOut (base n k : Nat) (out : List Edge) (p : Edge) (e : Ending) (w' : World) : Prop :=
  ∃ v', e = .returned v' ∧ w'.ownsRow base 81 2 v' (n + 1) (pcells (out.take k ++ p :: out.drop k))

set_option maxRecDepth 100000 in
set_option maxHeartbeats 8000000 in
theorem ins_any {base n k X : Nat} {v : Value} {out : List Edge} (y z : Int) (w : World) (h : w.ownsRow base 81 2 v n (pcells out)) (hk : k ≤ n) (hX : w.heap[X]? = some (.cells #[.int .i64 y, .int .i64 z] 81)) (hXv : v.ownBlock ≠ some X) (hb : base ≤ w.heap.size) (hn : n ≤ 100) :
    Calls Try.prog 99 #[v, .int .i64 k, .slice (some ⟨X, 0, none⟩) 1 1] w fun e w' => InsOut base n k out (y, z) e w' ∧ Below base w w' := by
  obtain ⟨A, c, rfl, hno, hs, hc1, hc2⟩ := psl_of_own h
  have HS := Lib.hid hs
  have HO := Lib.hid h
  have HX := Lib.hid hX
  have HXV := Lib.hid hXv
  have HNO := Lib.hid hno
  by_cases hkn : k = n
  · subst hkn
    have hl : out.take k ++ (y, z) :: out.drop k = out ++ [(y, z)] := by rw [hno, List.take_length, List.drop_length]
    have HL := Lib.hid hl
    rw [← hno] at HO hc1 ⊢
    clear hs h hX hXv hl hno hk
    go_enter Try.func99, Try.ntmps99
    obtain ⟨i0, hi0, hz0, hz1, hz2⟩ := info_parts Try.infoPair
    go_wp2_with (first | (at_builtin; refine wpList_append_lies _ rfl (.tmp 23) (.tmp 24) 76 rfl base 81 i0 (.agg #[.int .i64 0, .int .i64 0]) 2 16 Try.underlying76 hi0 hz0 hz1 hz2 rfl (by decide) (.slice A k c) k (pcells out) rfl HO.out ⟨X, 0, none⟩ 1 1 [.int .i64 y, .int .i64 z] rfl rfl (World.news_of_block HX.out) (by simp [Value.oneCell']) (by decide) (by unfold maxLen; omega) (by omega) hb _ rfl (fun g5 c5 w5 h1 h2 h3 h4 => ?_)) | fail)
    all_goals
      have hf : Hid (InsOut base k k out (y, z) (.returned (.slice (some ⟨g5, 0, none⟩) (k + 1) c5)) w5) := ⟨_, rfl, by rw [HL.out, pcells_app]; exact h1⟩
      have hbb : Hid (Below base w w5) := (Below.refl base w).grown h2 hb (fun b hb' => (HO.out.lt b hb').1)
      clear h1 h2 h3 h4
      go_ret
      exact ⟨hf.out, hbb.out⟩
  · have hkl : k < n := by omega
    obtain ⟨g, rfl⟩ : ∃ g, A = some ⟨g, 0, none⟩ := by
      rcases h.2 with ⟨_, e2⟩ | ⟨g, cap, cur, e1, _⟩
      · omega
      · injection e1 with e2; exact ⟨g, e2⟩
    have hg := h.lt g rfl
    have hXg : X ≠ g := fun e => hXv (by rw [e]; rfl)
    have hXl := (Array.getElem?_eq_some_iff.1 hX).1
    have hck : ¬ (c = k) := by omega
    have hnk : ¬ ((k : Int) = (n : Int)) := by omega
    have dnk : ((k : Int) == (n : Int)) = false := by simpa using hnk
    have hl1 : out.length = n := hno.symm
    rw [← hno] at HO hc1 ⊢
    have hpl : (pcells out).length = n * 2 := by rw [pcells_len, hl1]
    have hdl : (pcells (out.drop k)).length = (n - k) * 2 := by rw [pcells_len, List.length_drop, hl1]
    have htl : (pcells (out.take k)).length = k * 2 := by rw [pcells_len, List.length_take, hl1]; congr 1; omega
    have hpt : (pcells out).take (k * 2) = pcells (out.take k) := pcells_take out (by omega)
    have hpd : (pcells out).drop (k * 2) = pcells (out.drop k) := pcells_drop out (by omega)
    have hsrc : ∀ (W : World), (∀ j, j < n * 2 → W.cell? ⟨g, j, none⟩ = w.cell? ⟨g, j, none⟩) → ∀ j v, (pcells (out.drop k))[j]? = some v → W.cell? ((⟨g, k * 2, none⟩ : Addr).add j) = some v := fun W hW j v hj => by
      have hjl := (List.getElem?_eq_some_iff.1 hj).1
      rw [Addr.add_lit, hW _ (by omega), HO.out.cellAt _ (by omega)]
      rw [← hpd, List.getElem?_drop] at hj
      exact hj
    by_cases hroom : c < n + 1
    · have d3 : decide ((c : Int) < (n : Int) + 1) = true := decide_eq_true (by omega)
      have d3' : (c : Int) < (n : Int) + 1 := by omega
      obtain ⟨i0, hi0, hz0, hzs, hzb⟩ := info_parts Try.infoPair
      have hold : (Builtin.firstCells i0.size k (.slice (some ⟨g, 0, none⟩) k c)).run Try.prog w.drew = .ok (pcells (out.take k)).toArray w.drew := by
        rw [hzs]
        exact run_firstCells_some w.drew 2 k ⟨g, 0, none⟩ k c (pcells (out.take k)) htl (fun j v hj => by
          have hjl := (List.getElem?_eq_some_iff.1 hj).1
          rw [Addr.add_lit, Nat.zero_add]
          show w.cell? _ = _
          rw [HO.out.cellAt _ (by omega)]
          rw [← hpt, List.getElem?_take] at hj
          split at hj
          · exact hj
          · cases hj)
      have hik : k + (n + 1 - k) = n + 1 := by omega
      have hkk : (n : Int) + 1 - (k : Int) = ((n + 1 - k : Nat) : Int) := by omega
      have hrz : ∀ ty, (Builtin.append_ #[76, 3] ty #[.slice (some ⟨g, 0, none⟩) k c, .int .i64 ((n : Int) + 1 - (k : Int))]).run Try.prog w =
          .ok (.slice (some ⟨w.heap.size, 0, none⟩) (n + 1) (grownCap w (n + 1) c 81)) (w.drew.alloc (.cells ((pcells (out.take k)).toArray ++ Builtin.zeroCells (Value.agg #[.int .i64 0, .int .i64 0]).cells (n + 1 - k) ++ Builtin.zeroCells (Value.agg #[.int .i64 0, .int .i64 0]).cells (grownCap w (n + 1) c 81 - (n + 1))) 81)) := fun ty => by
        have hh := Lib.run_append_grow_zeros w 76 3 ty 81 i0 _ .i64 .i64 Try.underlying76 Try.underlying3 hi0 hz0 (some ⟨g, 0, none⟩) k c (pcells (out.take k)) hold (n + 1 - k) (by omega) (by omega) (by omega) (by omega) (by rw [hzb]; omega) (by rw [hzb, hik]; exact growslice_fits (by omega) (by omega))
        rw [hik] at hh
        rw [hkk]
        exact hh
      obtain ⟨G, hG⟩ : ∃ G, G = grownCap w (n + 1) c 81 := ⟨_, rfl⟩
      have hGn : n + 1 ≤ G := by rw [hG]; exact grownCap_ge w _ _ _
      have hGm : G ≤ maxLen := by rw [hG]; exact grownCap_le_maxLen w (n + 1) c _ (by unfold maxLen; omega)
      have hG63 : G ≤ 9223372036854775807 := by unfold maxLen at hGm; omega
      rw [← hG] at hrz
      obtain ⟨ROW, hROW⟩ : ∃ ROW : Array Value, ROW = (pcells (out.take k)).toArray ++ Builtin.zeroCells (Value.agg #[.int .i64 0, .int .i64 0]).cells (n + 1 - k) ++ Builtin.zeroCells (Value.agg #[.int .i64 0, .int .i64 0]).cells (G - (n + 1)) := ⟨_, rfl⟩
      rw [← hROW] at hrz
      obtain ⟨gN, hgN⟩ : ∃ g, g = w.heap.size := ⟨_, rfl⟩
      obtain ⟨W1, hW1⟩ : ∃ W1, W1 = w.drew.alloc (.cells ROW 81) := ⟨_, rfl⟩
      rw [← hW1, ← hgN] at hrz
      have hown1 : ∃ ex, ex.length = (out.length + 1 - k) * 2 ∧ W1.ownsRow base 81 2 (.slice (some ⟨gN, 0, none⟩) (n + 1) G) (n + 1) (pcells (out.take k) ++ ex) := by
        have hzc : (Builtin.zeroCells (Value.agg #[.int .i64 0, .int .i64 0]).cells (n + 1 - k)).size = (n + 1 - k) * 2 := by simp [Builtin.zeroCells, Value.cells]
        have hzc2 : (Builtin.zeroCells (Value.agg #[.int .i64 0, .int .i64 0]).cells (G - (n + 1))).size = (G - (n + 1)) * 2 := by simp [Builtin.zeroCells, Value.cells]
        have hl2 : (pcells (out.take k) ++ (Builtin.zeroCells (Value.agg #[.int .i64 0, .int .i64 0]).cells (n + 1 - k)).toList).length = (n + 1) * 2 := by rw [List.length_append, htl, Array.length_toList, hzc]; omega
        refine ⟨(Builtin.zeroCells (Value.agg #[.int .i64 0, .int .i64 0]).cells (n + 1 - k)).toList, by rw [Array.length_toList, hzc, hl1], hl2, .inr ⟨gN, G, ROW, rfl, by omega, by rw [hW1, hgN]; exact heap_alloc_new w.drew _, hGn, hGm, ?_, ?_⟩⟩
        · rw [hROW, Array.size_append, Array.size_append, hzc, hzc2, List.size_toArray, htl]; omega
        · rw [hROW, Array.toList_append, Array.toList_append, ← hl2, List.take_left]
      obtain ⟨ex, hex, hown1⟩ := hown1
      have hbw1 : Below base w W1 := by rw [hW1]; exact (below_drewN (Below.refl base w) 1).alloc hb _
      have hold1 : ∀ j, W1.cell? ⟨g, j, none⟩ = w.cell? ⟨g, j, none⟩ := fun j => by
        rw [hW1, World.cell?_alloc_past (w := w.drew) _ g j hg.2]; rfl
      have hX1 : ∀ j v, [Value.int .i64 y, Value.int .i64 z][j]? = some v → W1.cell? ((⟨X, 0, none⟩ : Addr).add j) = some v := fun j v hj => by
        have := World.news_of_block HX.out j v hj
        rw [Addr.add_lit] at this ⊢
        rw [hW1, World.cell?_alloc_past (w := w.drew) _ X _ hXl]; exact this
      have hgg : g ≠ gN := by omega
      have hone : ∀ v ∈ [Value.int .i64 y, Value.int .i64 z], v.oneCell' = true := by simp [Value.oneCell']
      have hcp1 : ∀ ty dc, (Builtin.copy_ #[76, 76] ty #[.slice (some ⟨gN, k * 2, none⟩) (n + 1 - k) dc, .slice (some ⟨X, 0, none⟩) 1 1]).run Try.prog W1 = .ok (goInt 1) (W1.setCells gN (k * 2) [.int .i64 y, .int .i64 z]) := fun ty dc =>
        copy_own hown1 (show min 1 (n + 1 - k) = 1 by omega) rfl (by simp; omega) hX1 hone ty
      obtain ⟨hown2, hsz2, hbl2⟩ := own_setCells [Value.int .i64 y, Value.int .i64 z] (k * 2) hown1
      obtain ⟨W2, hW2⟩ : ∃ W2, W2 = W1.setCells gN (k * 2) [.int .i64 y, .int .i64 z] := ⟨_, rfl⟩
      rw [← hW2] at hcp1 hown2 hsz2
      have hold2 : ∀ j, W2.cell? ⟨g, j, none⟩ = w.cell? ⟨g, j, none⟩ := fun j => by
        rw [hW2, World.cell?_setCells_out _ _ _ _ _ (fun e _ => absurd e hgg)]; exact hold1 j
      have hbw2 : Below base w W2 := by rw [hW2]; exact hbl2 (by omega) hbw1
      have hcp2 : ∀ ty dc sc, (Builtin.copy_ #[76, 76] ty #[.slice (some ⟨gN, (k + 1) * 2, none⟩) (n - k) dc, .slice (some ⟨g, k * 2, none⟩) (n - k) sc]).run Try.prog W2.drew = .ok (goInt (n - k : Nat)) (W2.drew.setCells gN ((k + 1) * 2) (pcells (out.drop k))) := fun ty dc sc =>
        copy_own (W := W2.drew) hown2 (show min (n - k) (n - k) = n - k by omega) hdl (by rw [hdl]; omega) (hsrc W2.drew (fun j _ => hold2 j)) (pcells_one _) ty
      obtain ⟨hown3, hsz3, hbl3⟩ := own_setCells (w := W2.drew) (pcells (out.drop k)) ((k + 1) * 2) hown2
      have hins := ins_cells_new out (y, z) (k := k) (by omega) hex
      rw [show pcells [(y, z)] = [Value.int .i64 y, Value.int .i64 z] from rfl] at hins
      rw [hins] at hown3
      have hbw3 := hbl3 (by omega) (below_drewN hbw2 1)
      obtain ⟨W3, hW3⟩ : ∃ W3, W3 = W2.drew.setCells gN ((k + 1) * 2) (pcells (out.drop k)) := ⟨_, rfl⟩
      rw [← hW3] at hcp2 hown3 
      have hbw3 : Below base w W3 := by rw [hW3]; exact hbw3
      have hf : Hid (InsOut base n k out (y, z) (.returned (.slice (some ⟨gN, 0, none⟩) (n + 1) G)) W3) := ⟨_, rfl, hown3⟩
      have hbb : Hid (Below base w W3) := hbw3
      have hGk : ¬ (G = k) := by omega
      have hGk1 : ¬ (G = k + 1) := by omega
      have hw1 : IntKind.i64.wrap ((k : Int) + 1) = (k : Int) + 1 := by rw [IntKind.wrap_i64]; omega
      have hb1 : (0 : Int) ≤ (k : Int) + 1 := by omega
      have htn : ((k : Int) + 1).toNat = k + 1 := by omega
      have hkn1 : (k : Int) ≤ (n : Int) := by omega
      have hkn2 : (k : Int) + 1 ≤ (n : Int) + 1 := by omega
      have hkc : k ≤ c := by omega
      clear hs h hX hXv hno hold hik hkk hG hROW hW1 hown1 hbw1 hold1 hX1 hown2 hsz2 hbl2 hold2 hbw2 hown3 hsz3 hbl3 hins hbw3 hW2 hW3 hex hsrc hpl hdl htl hpt hpd hXg hXl hg hone HO HX HXV HNO HS hl1 hi0 hz0 hzs hzb hgN hgg
      go_enter Try.func99, Try.ntmps99
      go_wp2_with (first
        | (at_builtin; refine Lib.wpList_append_run _ rfl _ _ _ _ rfl _ _ rfl rfl _ _ (hrz _) ?_)
        | (at_builtin; refine wpList_copy_runI _ rfl _ _ 76 76 rfl _ _ rfl rfl (hcp1 _ _) ?_)
        | fail)
      go_still_tail 8, (by kernel_rfl)
      change wpList _ _ _ _ _ W2.drew
      go_wp2_with (first | (at_builtin; refine wpList_copy_runI _ rfl _ _ 76 76 rfl _ _ rfl rfl (hcp2 _ _ _) ?_) | fail)
      go_ret
      exact ⟨hf.out, hbb.out⟩
    · have d3 : decide ((c : Int) < (n : Int) + 1) = false := decide_eq_false (by omega)
      have d3' : ¬ (c : Int) < (n : Int) + 1 := by omega
      have hX1 : ∀ (W : World), (∀ j, W.cell? ⟨X, j, none⟩ = w.cell? ⟨X, j, none⟩) → ∀ j v, [Value.int .i64 y, Value.int .i64 z][j]? = some v → W.cell? ((⟨X, 0, none⟩ : Addr).add j) = some v := fun W hW j v hj => by
        have := World.news_of_block HX.out j v hj
        rw [Addr.add_lit] at this ⊢
        rw [hW]; exact this
      have hone : ∀ v ∈ [Value.int .i64 y, Value.int .i64 z], v.oneCell' = true := by simp [Value.oneCell']
      obtain ⟨ex, hex, hown0⟩ := own_longer HO.out (by omega)
      have hshX : w.shape? X = some (81, 2) := by unfold World.shape?; rw [HX.out]; rfl
      have hshg : ∃ kB, w.shape? g = some (81, kB) ∧ kB ≠ 0 := by
        rcases HO.out.2 with ⟨e1, _⟩ | ⟨g', cap', cur, e1, h1, h2, h3, h4, h5, h6⟩
        · cases e1
        · obtain rfl : g = g' := by injection e1 with e2; injection e2 with e4; injection e4
          refine ⟨cur.size, by unfold World.shape?; rw [h2], ?_⟩
          have : c = cap' := by injection e1
          omega
      obtain ⟨kB, hshg, hkB⟩ := hshg
      have hfX : ∀ j, w.frozen? ⟨X, j, none⟩ = false := fun j => by unfold World.frozen?; rw [HX.out]; simp
      have hov : ∀ lb cb, (callFunc 134 #[.slice (some ⟨X, 0, none⟩) 1 1, .slice (some ⟨g, (k + 1) * 2, none⟩) lb cb]).run Try.prog w = .ok (.value (.bool false)) w := fun lb cb => by
        rw [run_callFunc_extern Try.func134 (by kernel_rfl) (by kernel_rfl) (by kernel_rfl) (e := Extern.SlicesOverlaps.overlaps #[76, 76] #[4]) (by kernel_rfl),
          Lib.run_overlaps_apart w 76 4 81 Try.underlying76 2 Try.sizeOf81 ⟨X, 0, none⟩ ⟨g, (k + 1) * 2, none⟩ 1 1 lb cb hXg 81 81 2 kB hshX hshg hkB (hfX 0) (hfX 2)]
        rfl
      have hcp1 : ∀ ty dc sc, (Builtin.copy_ #[76, 76] ty #[.slice (some ⟨g, (k + 1) * 2, none⟩) (n - k) dc, .slice (some ⟨g, k * 2, none⟩) (n + 1 - k) sc]).run Try.prog w.drew = .ok (goInt (n - k : Nat)) (w.drew.setCells g ((k + 1) * 2) (pcells (out.drop k))) := fun ty dc sc =>
        copy_own (W := w.drew) hown0 (show min (n + 1 - k) (n - k) = n - k by omega) hdl (by rw [hdl]; omega) (hsrc w.drew (fun j _ => rfl)) (pcells_one _) ty
      obtain ⟨hown1, hsz1, hbl1⟩ := own_setCells (w := w.drew) (pcells (out.drop k)) ((k + 1) * 2) hown0
      obtain ⟨W1, hW1⟩ : ∃ W1, W1 = w.drew.setCells g ((k + 1) * 2) (pcells (out.drop k)) := ⟨_, rfl⟩
      have hbw1 : Below base w W1 := by rw [hW1]; exact hbl1 hg.1 (below_drewN (Below.refl base w) 1)
      have hold1 : ∀ j, W1.cell? ⟨X, j, none⟩ = w.cell? ⟨X, j, none⟩ := fun j => by
        rw [hW1, World.cell?_setCells_out _ _ _ _ _ (fun e _ => absurd e hXg)]; rfl
      rw [← hW1] at hcp1 hown1
      have hcp2 : ∀ ty dc, (Builtin.copy_ #[76, 76] ty #[.slice (some ⟨g, k * 2, none⟩) (n + 1 - k) dc, .slice (some ⟨X, 0, none⟩) 1 1]).run Try.prog W1 = .ok (goInt 1) (W1.setCells g (k * 2) [.int .i64 y, .int .i64 z]) := fun ty dc =>
        copy_own hown1 (show min 1 (n + 1 - k) = 1 by omega) rfl (by simp; omega) (hX1 W1 hold1) hone ty
      obtain ⟨hown2, hsz2, hbl2⟩ := own_setCells [Value.int .i64 y, Value.int .i64 z] (k * 2) hown1
      have hins := ins_cells out (y, z) (k := k) (by omega) hex
      rw [show pcells [(y, z)] = [Value.int .i64 y, Value.int .i64 z] from rfl] at hins
      rw [hins] at hown2
      obtain ⟨W2, hW2⟩ : ∃ W2, W2 = W1.setCells g (k * 2) [.int .i64 y, .int .i64 z] := ⟨_, rfl⟩
      have hbw2 : Below base w W2 := by rw [hW2]; exact hbl2 hg.1 hbw1
      rw [← hW2] at hcp2 hown2
      have hf : Hid (InsOut base n k out (y, z) (.returned (.slice (some ⟨g, 0, none⟩) (n + 1) c)) W2) := ⟨_, rfl, hown2⟩
      have hbb : Hid (Below base w W2) := hbw2
      have hck1 : ¬ (c = k + 1) := by omega
      have hw1 : IntKind.i64.wrap ((k : Int) + 1) = (k : Int) + 1 := by rw [IntKind.wrap_i64]; omega
      have hb1 : (0 : Int) ≤ (k : Int) + 1 := by omega
      have htn : ((k : Int) + 1).toNat = k + 1 := by omega
      have hkn1 : (k : Int) ≤ (n : Int) := by omega
      have hkn2 : (k : Int) + 1 ≤ (n : Int) + 1 := by omega
      have hkn3 : (k : Int) ≤ (n : Int) + 1 := by omega
      have hnc : n + 1 ≤ c := by omega
      clear hs h hX hXv hno hX1 hown0 hshX hshg hkB hfX hown1 hsz1 hbl1 hW1 hbw1 hold1 hown2 hsz2 hbl2 hins hW2 hbw2 hex hsrc hpl hdl htl hpt hpd hXg hXl hg hone HO HX HXV HNO HS hl1
      go_enter Try.func99, Try.ntmps99
      go_wp2_with (simp only [hov])
      go_still_tail 8, (by kernel_rfl)
      change wpList _ _ _ _ _ w.drew
      go_wp2_with (first
        | (at_builtin; refine wpList_copy_runI _ rfl _ _ 76 76 rfl _ _ rfl rfl (hcp1 _ _ _) ?_)
        | (at_builtin; refine wpList_copy_runI _ rfl _ _ 76 76 rfl _ _ rfl rfl (hcp2 _ _) ?_)
        | fail)
      go_ret
      exact ⟨hf.out, hbb.out⟩
end Go.Proofs.Ytdmpbbgcifodeaa
