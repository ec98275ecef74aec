/-
  slices.CompactFunc by slices.Equal: what it leaves of rows.
-/
import Derived.Lib.SliceRun
import Derived.Deep.RegionHeld3
import Derived.Test.YtpmkdihencepnaaGreatMg29
namespace Go.Proofs.YtpmkdihencepnaaGreat
open Go.RowKit

set_option maxRecDepth 100000 in
theorem equalq_any (A C : Option Addr) (cap cap2 : Nat) (r s : List Int) (w : World) (hl : r.length ≤ 9223372036854775807) (_hl2 : s.length ≤ 9223372036854775807) (h : Sl w w.heap.size A (ints r)) (h2 : Sl w w.heap.size C (ints s)) :
    Calls Tryz.prog 56 #[.slice A r.length cap, .slice C s.length cap2] w fun e w' => e = .returned (.bool (decide (r = s))) ∧ ∃ d, w' = w.drewN d := by
  go_enter Tryz.func56, Tryz.ntmps56
  by_cases hln : r.length = s.length
  · have dl : decide ((r.length : Int) = (s.length : Int)) = true := decide_eq_true (by omega)
    have hLN := Lib.hid hln
    go_wp2
    go_loopw [13] (fun nv wr => ∃ (n : Nat), n ≤ r.length ∧ nv = .int .i64 n ∧ r.take n = s.take n ∧ ∃ d, wr = w.drewN d) (fun nv _ => r.length - (intOf nv).toNat)
    case atStart => exact ⟨0, Nat.zero_le _, rfl, by simp, 0, rfl⟩
    case round =>
      obtain ⟨n, hn, rfl, hz, dn0, rfl⟩ := hrel
      have hW := below_drewN (Below.refl w.heap.size w) dn0
      have HZ := Lib.hid hz
      clear hz
      by_cases hlt : n < r.length
      · have dn : decide (n < r.length) = true := decide_eq_true hlt
        have hlt2 : n < s.length := by omega
        have hA := h
        have hC := h2
        obtain ⟨b, o, rfl, hb⟩ := h.addr (by omega)
        obtain ⟨b2, o2, rfl, hb2⟩ := h2.addr (by omega)
        have hc := getD_cell hA (k := n) hlt
        have hc2 := getD_cell hC (k := n) hlt2
        have hg := getD_some (l := r) (j := n) hlt
        have hg2 := getD_some (l := s) (j := n) hlt2
        obtain ⟨x, hx⟩ : ∃ x, x = r.getD n 0 := ⟨_, rfl⟩
        obtain ⟨y, hy⟩ : ∃ y, y = s.getD n 0 := ⟨_, rfl⟩
        rw [← hx] at hc hg
        rw [← hy] at hc2 hg2
        have HG := Lib.hid hg
        have HG2 := Lib.hid hg2
        clear hx hy hg hg2 hA hC
        by_cases h0 : x = y
        · subst h0
          have hnx : Hid (r.take (n + 1) = s.take (n + 1)) := by
            show _ = _
            obtain ⟨a1, a2⟩ := List.getElem?_eq_some_iff.1 HG.out
            obtain ⟨a3, a4⟩ := List.getElem?_eq_some_iff.1 HG2.out
            rw [List.take_succ_eq_append_getElem a1, List.take_succ_eq_append_getElem a3, HZ.out, a2, a4]
          go_wp2
          go_quiet (fail)
          go_wp2
          go_roundw
          case rel => exact ⟨n + 1, by omega, by go_num, hnx.out, _, rfl⟩
          case measure => simp [intOf]; omega
        · have dx : (x == y) = false := by simpa using h0
          have hfin : Hid (decide (r = s) = false) := decide_eq_false (fun e => by
            have h5 := HG.out
            rw [e, HG2.out] at h5
            injection h5 with h6
            exact h0 h6.symm)
          go_wp2
          go_quiet (fail)
          go_wp2
          go_ret
          exact ⟨by rw [hfin.out]; rfl, _, World.drewN_drewN ..⟩
      · have dn : decide (n < r.length) = false := decide_eq_false hlt
        have hfin : Hid (decide (r = s) = true) := decide_eq_true (by
          have := HZ.out
          rwa [List.take_of_length_le (by omega), List.take_of_length_le (by have := hLN.out; omega)] at this)
        go_wp2
        go_ret
        exact ⟨by rw [hfin.out]; rfl, _, rfl⟩
  · have dl : ((r.length : Int) == (s.length : Int)) = false := by simp; omega
    have hfin : Hid (decide (r = s) = false) := decide_eq_false (fun e => hln (by rw [e]))
    go_wp2
    go_ret
    exact ⟨by rw [hfin.out]; rfl, 0, rfl⟩


/-! ### plain: of a run of equal rows the first one stays -/
def dz : Value × List Int := (undef, [])
def DupAt (zs : List (Value × List Int)) (j : Nat) : Prop := 0 < j ∧ (zs.getD j dz).2 = (zs.getD (j - 1) dz).2
instance (zs : List (Value × List Int)) (j : Nat) : Decidable (DupAt zs j) := by unfold DupAt; infer_instance
def kpt (zs : List (Value × List Int)) : Nat → List (Value × List Int)
  | 0 => []
  | j + 1 => if DupAt zs j then kpt zs j else kpt zs j ++ [zs.getD j dz]
theorem ztake_snoc {zs : List (Value × List Int)} {j : Nat} (h : j < zs.length) : zs.take (j + 1) = zs.take j ++ [zs.getD j dz] := by
  rw [List.take_add_one, List.getElem?_eq_getElem h, getD_get h]; rfl
theorem kpt_all {zs : List (Value × List Int)} : ∀ {k : Nat}, k ≤ zs.length → (∀ j, j < k → ¬ DupAt zs j) → kpt zs k = zs.take k
  | 0, _, _ => by simp [kpt]
  | k + 1, hk, h => by
    unfold kpt
    rw [if_neg (h k (by omega)), kpt_all (k := k) (by omega) (fun j hj => h j (by omega)), ← ztake_snoc (by omega)]
theorem kpt_len (zs : List (Value × List Int)) : ∀ j, (kpt zs j).length ≤ j
  | 0 => by simp [kpt]
  | j + 1 => by
    have := kpt_len zs j
    unfold kpt
    split
    · omega
    · simp; omega
theorem kpt_sub {zs : List (Value × List Int)} : ∀ {j : Nat}, j ≤ zs.length → (kpt zs j).Sublist (zs.take j)
  | 0, _ => by simp [kpt]
  | j + 1, h => by
    have ih := kpt_sub (zs := zs) (j := j) (by omega)
    rw [ztake_snoc (by omega)]
    unfold kpt
    split
    · exact ih.trans (List.sublist_append_left _ _)
    · exact ih.append (List.Sublist.refl _)
theorem kpt_has {zs : List (Value × List Int)} : ∀ {j : Nat}, ∀ i, i < j → ∃ z ∈ kpt zs j, z.2 = (zs.getD i dz).2
  | 0, i, h => by omega
  | j + 1, i, h => by
    by_cases e : i < j
    · obtain ⟨z, hz, e2⟩ := kpt_has (zs := zs) i e
      refine ⟨z, ?_, e2⟩
      unfold kpt
      split
      · exact hz
      · exact List.mem_append.2 (.inl hz)
    · obtain rfl : i = j := by omega
      unfold kpt
      split
      · rename_i hd
        obtain ⟨z, hz, e2⟩ := kpt_has (zs := zs) (j := i) (i - 1) (by have := hd.1; omega)
        exact ⟨z, hz, by rw [e2, hd.2]⟩
      · exact ⟨zs.getD i dz, by simp, rfl⟩
/-- Rows in order: what stays is strictly in order. -/
theorem kpt_strict {zs : List (Value × List Int)} (hs : zs.Pairwise (fun a b => ¬ lexC b.2 a.2 < 0)) : ∀ {j : Nat}, j ≤ zs.length → (kpt zs j).Pairwise (fun a b => lexC a.2 b.2 < 0)
  | 0, _ => by simp [kpt]
  | j + 1, h => by
    have ih := kpt_strict hs (j := j) (by omega)
    have hle : ∀ a b, a < b → b < zs.length → ¬ lexC (zs.getD b dz).2 (zs.getD a dz).2 < 0 := fun a b hab hb => by
      rw [getD_get hb, getD_get (by omega)]
      exact List.pairwise_iff_getElem.1 hs a b (by omega) hb hab
    unfold kpt
    by_cases hd : DupAt zs j
    · rw [if_pos hd]; exact ih
    · rw [if_neg hd]
      refine List.pairwise_append.2 ⟨ih, List.pairwise_singleton _ _, fun a ha b hb => ?_⟩
      rw [List.mem_singleton] at hb
      subst hb
      obtain ⟨i, hi, rfl⟩ := List.getElem_of_mem ((kpt_sub (by omega)).subset ha)
      have hij : i < j := by rw [List.length_take] at hi; omega
      have hj0 : 0 < j := by omega
      have h1 := hle (j - 1) j (by omega) (by omega)
      have h2 : ¬ lexC (zs.getD (j - 1) dz).2 (zs.getD i dz).2 < 0 := by
        by_cases e : i = j - 1
        · rw [e, lexC_self]; omega
        · exact hle i (j - 1) (by omega) (by omega)
      have e1 : (zs.take j)[i] = zs.getD i dz := by rw [List.getElem_take, getD_get (by omega)]
      rw [e1]
      have hne : (zs.getD j dz).2 ≠ (zs.getD (j - 1) dz).2 := fun e => hd ⟨hj0, e⟩
      have h3 : lexC (zs.getD (j - 1) dz).2 (zs.getD j dz).2 < 0 := by
        have f := lexC_flip (zs.getD (j - 1) dz).2 (zs.getD j dz).2
        have : lexC (zs.getD (j - 1) dz).2 (zs.getD j dz).2 ≠ 0 := fun e => hne (lexC_zero e).symm
        omega
      by_cases e : lexC (zs.getD i dz).2 (zs.getD (j - 1) dz).2 = 0
      · rw [lexC_zero e]; exact h3
      · have f := lexC_flip (zs.getD i dz).2 (zs.getD (j - 1) dz).2
        exact lexC_trans (by omega) h3
/-- The cells while the second loop goes: j done, k kept. -/
structure CInv (zs : List (Value × List Int)) (j k : Nat) (L : List Value) : Prop where
  len : L.length = zs.length
  num : k = (kpt zs j).length
  low : L.take k = (kpt zs j).map (·.1)
  high : ∀ i, j - 1 ≤ i → i < zs.length → L.getD i undef = (zs.getD i dz).1
  lt : k < j
theorem CInv.start {zs : List (Value × List Int)} {k : Nat} (hk : k < zs.length) (h : ∀ j, j < k → ¬ DupAt zs j) (hd : DupAt zs k) : CInv zs (k + 1) k (zs.map (·.1)) := by
  have e : kpt zs (k + 1) = zs.take k := by
    rw [← kpt_all (by omega) h]
    show (if DupAt zs k then _ else _) = _
    rw [if_pos hd]
  refine ⟨by simp, by rw [e, List.length_take]; omega, by rw [e, List.map_take], fun i _ hi => ?_, by omega⟩
  rw [map_getD hi, getD_get hi]
theorem CInv.skip {zs : List (Value × List Int)} {j k : Nat} {L : List Value} (h : CInv zs j k L) (hd : DupAt zs j) : CInv zs (j + 1) k L := by
  have e : kpt zs (j + 1) = kpt zs j := by
    show (if DupAt zs j then _ else _) = _
    rw [if_pos hd]
  exact ⟨h.len, by rw [e]; exact h.num, by rw [e]; exact h.low, fun i hi hi2 => h.high i (by omega) hi2, by have := h.lt; omega⟩
theorem CInv.keep {zs : List (Value × List Int)} {j k : Nat} {L : List Value} (h : CInv zs j k L) (hj : j < zs.length) (hd : ¬ DupAt zs j) : CInv zs (j + 1) (k + 1) (L.set k (zs.getD j dz).1) := by
  have hl := h.len
  have hlt := h.lt
  have e : kpt zs (j + 1) = kpt zs j ++ [zs.getD j dz] := by
    show (if DupAt zs j then _ else _) = _
    rw [if_neg hd]
  refine ⟨by simp [hl], by rw [e, List.length_append, ← h.num]; rfl, ?_, fun i hi hi2 => ?_, by omega⟩
  · rw [e, List.map_append, ← h.low, List.take_add_one, List.take_set, List.set_eq_of_length_le (by rw [List.length_take]; omega), List.getElem?_set_self (by omega)]; rfl
  · rw [List.getD_eq_getElem?_getD, List.getElem?_set_ne (by omega), ← List.getD_eq_getElem?_getD]
    exact h.high i (by omega) hi2
theorem heap_setCells (b : Nat) : ∀ (vs : List Value) (o : Nat) (w : World), (w.setCells b o vs).heap.size = w.heap.size ∧ ∀ k, k ≠ b → (w.setCells b o vs).heap[k]? = w.heap[k]?
  | [], _, _ => ⟨rfl, fun _ _ => rfl⟩
  | v :: vs, o, w => by
    obtain ⟨h1, h2⟩ := heap_setCells b vs (o + 1) (w.setCell ⟨b, o, none⟩ v)
    have e : w.setCells b o (v :: vs) = (w.setCell ⟨b, o, none⟩ v).setCells b (o + 1) vs := rfl
    rw [e]
    refine ⟨by rw [h1]; simp, fun k hk => ?_⟩
    rw [h2 k hk]
    simp [World.setCell, Array.getElem?_modify, Ne.symm hk]
theorem own_prefix {w : World} {B g n cap k : Nat} {e : TypeId} {L : List Value} (h : w.ownsRow B e 1 (.slice (some ⟨g, 0, none⟩) n cap) n L) (hk : k ≤ n) : w.ownsRow B e 1 (.slice (some ⟨g, 0, none⟩) k cap) k (L.take k) := by
  have hl := h.1
  refine ⟨by rw [List.length_take]; omega, ?_⟩
  rcases h.2 with ⟨e0, _⟩ | ⟨g', cap', cur, e0, hb, hg, hn, hm, hs, ht⟩
  · cases e0
  · obtain ⟨rfl, rfl⟩ : g = g' ∧ cap = cap' := by injection e0 with e1 _ e3; injection e1 with e1; injection e1 with e1; exact ⟨e1, e3⟩
    refine .inr ⟨g, cap, cur, rfl, hb, hg, by omega, hm, hs, ?_⟩
    rw [← ht, List.take_take, show min k (n * 1) = k * 1 by omega]
theorem own_cleared {B g n cap k : Nat} {e : TypeId} : ∀ (vs : List Value) (o : Nat) (w : World) (L : List Value), w.ownsRow B e 1 (.slice (some ⟨g, 0, none⟩) n cap) n L → k ≤ o → ∃ L', (w.setCells g o vs).ownsRow B e 1 (.slice (some ⟨g, 0, none⟩) n cap) n L' ∧ L'.take k = L.take k
  | [], _, w, L, h, _ => ⟨L, h, rfl⟩
  | v :: vs, o, w, L, h, hk => by
    obtain ⟨L', h1, h2⟩ := own_cleared (k := k) vs (o + 1) (w.setCell ⟨g, o, none⟩ v) (L.set o v) (h.stored o v).1 (by omega)
    refine ⟨L', h1, by rw [h2, List.take_set, List.set_eq_of_length_le (by rw [List.length_take]; omega)]⟩
theorem zcells_get {zs : List (Value × List Int)} {i : Nat} (h : i < zs.length) : (zs.map (·.1))[i]? = some (zs.getD i dz).1 := by
  rw [List.getElem?_map, List.getElem?_eq_getElem h, getD_get h]; rfl
theorem getD_some0 {L : List Value} {i : Nat} (h : i < L.length) : L[i]? = some (L.getD i undef) := by rw [List.getElem?_eq_getElem h, getD_get h]

theorem below_cells {B b : Nat} {a : World} (hb : B ≤ b) : ∀ (vs : List Value) (o : Nat) (w : World), Below B a w → Below B a (w.setCells b o vs)
  | [], _, _, h => h
  | v :: vs, o, _, h => below_cells hb vs (o + 1) _ (h.setCell (p := ⟨b, o, none⟩) hb v)
theorem zero_slice (w : World) : (zeroValue 22).run Tryz.prog w = .ok (.slice none 0 0) w := by
  obtain ⟨i0, hi, hz0, hz1, hz2⟩ := info_parts Tryz.infoSlice
  unfold zeroValue
  simp [Sem.run_bind, typeInfo, hi, hz0, Result.andThen_ok]

set_option maxRecDepth 100000 in
set_option maxHeartbeats 4000000 in
theorem compactR_any {B : Nat} (v : Value) (zs : List (Value × List Int)) (w : World) (h : RowZ w B v zs) (hn : zs.length < 1000000) :
    Calls Tryz.prog 55 #[v, .func (.func 56) #[] #[]] w fun e w' => (∃ v', e = .returned v' ∧ RowZ w' B v' (kpt zs zs.length)) ∧ Below B w w' := by
  by_cases h2 : zs.length < 2
  · have hk : kpt zs zs.length = zs := by
      rw [kpt_all (Nat.le_refl _) (fun j hj => fun hd => by have := hd.1; omega), List.take_length]
    have HK := Lib.hid hk
    obtain ⟨A, c, rfl⟩ : ∃ A c, v = .slice A zs.length c := by
      rcases h.out.2 with ⟨e, e0⟩ | ⟨G, cap, cur, e, _⟩
      · exact ⟨none, 0, by rw [e0]; exact e⟩
      · exact ⟨_, _, e⟩
    have d2 : decide ((zs.length : Int) < 2) = true := decide_eq_true (by omega)
    have H := Lib.hid h
    clear hk h
    go_enter Tryz.func55, Tryz.ntmps55
    go_wp2
    go_ret
    exact ⟨⟨_, rfl, by rw [HK.out]; exact H.out⟩, Below.refl _ _⟩
  · obtain ⟨G, cap, rfl, hG, hGs⟩ := h.out.form (by omega)
    have hcap := own_cap h.out
    have hc1 := hcap.1
    have hc2 := hcap.2
    have hrd := h.rd
    have HRD : Hid (∀ i, i < zs.length → RowRd w G (zs.getD i dz)) := Lib.hid fun i hi => hrd _ (by rw [getD_get hi]; exact List.getElem_mem _)
    have H := Lib.hid h
    have d2 : decide ((zs.length : Int) < 2) = false := decide_eq_false (by omega)
    obtain ⟨n, hne⟩ : ∃ n, n = zs.length := ⟨_, rfl⟩
    have HOUT : Hid (w.ownsRow B 22 1 (.slice (some ⟨G, 0, none⟩) n cap) n (zs.map (·.1))) := by rw [hne]; exact h.out
    rw [← hne] at hn h2 hc1 d2
    rw [← hne]
    have HNE := Lib.hid hne
    clear h hrd hne hcap
    go_enter Tryz.func55, Tryz.ntmps55
    go_wp2
    go_loopg [5] n (fun g kv wr => ∃ k q : Nat, 1 ≤ k ∧ k ≤ n ∧ n - k ≤ g ∧ kv = .int .i64 k ∧ wr = w.drewN q ∧ ∀ j, j < k → ¬ DupAt zs j)
    case atStart => exact ⟨1, 0, Nat.le_refl _, by omega, by omega, rfl, rfl, fun j hj hd => by have := hd.1; omega⟩
    case round =>
      obtain ⟨k, q, hk1, hk, hg, rfl, rfl, hall⟩ := hrel
      have HALL := Lib.hid hall
      clear hall
      by_cases hlt : k < n
      · have dk : decide (k < n) = true := decide_eq_true hlt
        have dk2 : decide ((k : Int) < (n : Int)) = true := decide_eq_true (by omega)
        have hck := HOUT.out.cellAt k (by omega)
        rw [zcells_get (by rw [← HNE.out]; exact hlt)] at hck
        have hcp := HOUT.out.cellAt (k - 1) (by omega)
        rw [zcells_get (by rw [← HNE.out]; omega)] at hcp
        obtain ⟨A1, c1, e1, l1, s1, _⟩ := HRD.out k (by rw [← HNE.out]; exact hlt)
        obtain ⟨A2, c2, e2, l2, s2, _⟩ := HRD.out (k - 1) (by rw [← HNE.out]; omega)
        rw [e1] at hck
        rw [e2] at hcp
        have hdup : DupAt zs k ↔ (zs.getD k dz).2 = (zs.getD (k - 1) dz).2 := ⟨fun hd => hd.2, fun hd => ⟨by omega, hd⟩⟩
        obtain ⟨x, hx⟩ : ∃ x, x = (zs.getD k dz).2 := ⟨_, rfl⟩
        obtain ⟨y, hy⟩ : ∃ y, y = (zs.getD (k - 1) dz).2 := ⟨_, rfl⟩
        rw [← hx] at hck l1 s1 hdup
        rw [← hy] at hcp l2 s2 hdup
        have HCALL : Hid (∀ m, Calls Tryz.prog 56 #[.slice A1 x.length c1, .slice A2 y.length c2] ((w.drewN q).drewN m) fun e w' => e = .returned (.bool (decide (x = y))) ∧ ∃ d, w' = ((w.drewN q).drewN m).drewN d) := Lib.hid fun m => equalq_any A1 A2 c1 c2 x y _ l1 l2 s1 s2
        have HDUP := Lib.hid hdup
        clear hx hy e1 e2 s1 s2 hdup
        have wk : IntKind.i64.wrap ((k : Int) - 1) = ((k - 1 : Nat) : Int) := by rw [IntWalk.i64_in _ (by omega)]; omega
        have hkn : k - 1 < n := by omega
        by_cases hxy : x = y
        · have dxy : decide (x = y) = true := decide_eq_true hxy
          have hd := HDUP.out.2 hxy
          have HD := Lib.hid hd
          clear hd hxy
          go_wp2
          go_region_held3 (fun w' => w'.cell? ⟨G, k, none⟩ = some (.slice A1 x.length c1) ∧ w'.cell? ⟨G, k - 1, none⟩ = some (.slice A2 y.length c2)) (first | go_keep | (go_split_ands; refine ⟨?_, ?_⟩ <;> assumption))
            (first | ((go_at_call 56; refine (HCALL.out 1).mono ?_; rintro e w9 ⟨rfl, d9, rfl⟩)) | fail)
          go_wp2
          have hci : Hid (CInv zs (k + 1) k (zs.map (·.1))) := Lib.hid (CInv.start (by rw [← HNE.out]; exact hlt) HALL.out HD.out)
          clear hck hcp HCALL HDUP
          go_loopg [5, 7] n (fun g kv k2v wr => ∃ (kk k2 : Nat) (L : List Value), kv = .int .i64 kk ∧ k2v = .int .i64 k2 ∧ 1 ≤ k2 ∧ k + k2 ≤ n ∧ n - (k + k2) ≤ g ∧ Fr w wr (fun b => b = G) ∧ Below B w wr ∧ wr.ownsRow B 22 1 (.slice (some ⟨G, 0, none⟩) n cap) n L ∧ CInv zs (k + k2) kk L)
          case atStart => exact ⟨k, 1, _, rfl, rfl, Nat.le_refl _, by omega, by omega, ⟨Nat.le_refl _, fun _ _ _ => rfl⟩, ⟨rfl, rfl, rfl, Nat.le_refl _, fun _ _ => rfl⟩, HOUT.out, hci.out⟩
          case round =>
            clear hci
            obtain ⟨kk, k2, L, rfl, rfl, h1k, hkn2, hg2, hfr, hbw, ho, hci⟩ := hrel
            obtain ⟨w9, rfl⟩ : ∃ w9, w9 = wr := ⟨_, rfl⟩
            have hklt := hci.lt
            have hLn := hci.len
            have HFR := Lib.hid hfr
            have HBW := Lib.hid hbw
            have HO := Lib.hid ho
            have HCI := Lib.hid hci
            clear hfr hbw ho hci
            by_cases hlt2 : k + k2 < n
            · have dk3 : decide ((k2 : Int) < ((n - k : Nat) : Int)) = true := decide_eq_true (by omega)
              have dk4 : decide (k2 < n - k) = true := decide_eq_true (by omega)
              have hzl : n = zs.length := HNE.out
              have hck := HO.out.cellAt (k + k2) (by omega)
              rw [getD_some0 (by omega), HCI.out.high (k + k2) (by omega) (by omega)] at hck
              have hcp := HO.out.cellAt (k + (k2 - 1)) (by omega)
              rw [getD_some0 (by omega), HCI.out.high (k + (k2 - 1)) (by omega) (by omega)] at hcp
              have hco := HO.out.cellAt kk (by omega)
              rw [getD_some0 (by omega)] at hco
              have hfo := HO.out.frozenAt kk
              obtain ⟨A3, c3, e3, l3, s3, _⟩ := (HRD.out (k + k2) (by omega)).fr HFR.out
              obtain ⟨A4, c4, e4, l4, s4, _⟩ := (HRD.out (k + (k2 - 1)) (by omega)).fr HFR.out
              have hdup : DupAt zs (k + k2) ↔ (zs.getD (k + k2) dz).2 = (zs.getD (k + (k2 - 1)) dz).2 := by
                have : k + k2 - 1 = k + (k2 - 1) := by omega
                unfold DupAt
                rw [this]
                exact ⟨fun hd => hd.2, fun hd => ⟨by omega, hd⟩⟩
              have hskip := fun hd => HCI.out.skip hd
              have hkeep := fun hd => HCI.out.keep (by omega) hd
              have hst := (HO.out.stored kk (zs.getD (k + k2) dz).1).1
              rw [e3] at hck hkeep hst
              rw [e4] at hcp
              obtain ⟨x, hx⟩ : ∃ x, x = (zs.getD (k + k2) dz).2 := ⟨_, rfl⟩
              obtain ⟨y, hy⟩ : ∃ y, y = (zs.getD (k + (k2 - 1)) dz).2 := ⟨_, rfl⟩
              rw [← hx] at hck l3 s3 hdup hkeep hst
              rw [← hy] at hcp l4 s4 hdup
              obtain ⟨old, hold⟩ : ∃ o, o = L.getD kk undef := ⟨_, rfl⟩
              rw [← hold] at hco
              have HCALL : Hid (∀ m, Calls Tryz.prog 56 #[.slice A3 x.length c3, .slice A4 y.length c4] (w9.drewN m) fun e w' => e = .returned (.bool (decide (x = y))) ∧ ∃ d, w' = (w9.drewN m).drewN d) := Lib.hid fun m => equalq_any A3 A4 c3 c4 x y _ l3 l4 s3 s4
              have HDUP := Lib.hid hdup
              have HSK := Lib.hid hskip
              have HKP := Lib.hid hkeep
              have HST := Lib.hid hst
              have wk2 : IntKind.i64.wrap ((k2 : Int) - 1) = ((k2 - 1 : Nat) : Int) := by rw [IntWalk.i64_in _ (by omega)]; omega
              have hkn3 : k2 - 1 < n - k := by omega
              have hkn4 : k2 < n - k := by omega
              have hkk : kk < n := by omega
              clear hx hy e3 e4 s3 s4 hdup hskip hkeep hst hold hzl hLn
              by_cases hxy : x = y
              · have dxy : decide (x = y) = true := decide_eq_true hxy
                have HD := Lib.hid (HDUP.out.2 hxy)
                clear hxy
                go_wp2
                go_region_held3 (fun w' => w'.cell? ⟨G, k + k2, none⟩ = some (.slice A3 x.length c3) ∧ w'.cell? ⟨G, k + (k2 - 1), none⟩ = some (.slice A4 y.length c4)) (first | go_keep | (go_split_ands; refine ⟨?_, ?_⟩ <;> assumption))
                  (first | ((go_at_call 56; refine (HCALL.out 1).mono ?_; rintro e w9 ⟨rfl, d9, rfl⟩)) | fail)
                go_wp2
                go_roundg (n - (k + (k2 + 1)))
                case measure => omega
                case rel => exact ⟨kk, k2 + 1, L, rfl, by go_num, by omega, by omega, Nat.le_refl _, HFR.out.drewN _, below_drewN HBW.out _, HO.out, HSK.out HD.out⟩
              · have dxy : decide (x = y) = false := decide_eq_false hxy
                have HD := Lib.hid (fun hd => hxy (HDUP.out.1 hd))
                clear hxy
                go_wp2
                go_region_held3 (fun w' => w'.cell? ⟨G, k + k2, none⟩ = some (.slice A3 x.length c3) ∧ w'.cell? ⟨G, k + (k2 - 1), none⟩ = some (.slice A4 y.length c4)) (first | go_keep | (go_split_ands; refine ⟨?_, ?_⟩ <;> assumption))
                  (first | ((go_at_call 56; refine (HCALL.out 1).mono ?_; rintro e w9 ⟨rfl, d9, rfl⟩)) | fail)
                go_wp2
                go_roundg (n - (k + (k2 + 1)))
                case measure => omega
                case rel => exact ⟨kk + 1, k2 + 1, _, by go_num, by go_num, by omega, by omega, Nat.le_refl _, (HFR.out.drewN _).setCell (a := ⟨G, kk, none⟩) rfl, (below_drewN HBW.out _).setCell (p := ⟨G, kk, none⟩) hG _, HST.out, HKP.out HD.out⟩
            · have hend : k + k2 = n := by omega
              have hzl : n = zs.length := HNE.out
              have dk3 : decide ((k2 : Int) < ((n - k : Nat) : Int)) = false := decide_eq_false (by omega)
              have dk4 : decide (k2 < n - k) = false := decide_eq_false (by omega)
              have hcl : ∀ ty, (Builtin.clear_ #[28] ty #[.slice (some ⟨G, kk, none⟩) (n - kk) (cap - kk)]).run Tryz.prog w9 = .ok (.tuple #[]) (w9.setCells G kk (List.replicate (n - kk) (.slice none 0 0))) :=
                fun ty => Lib.run_clear_slice w9 _ _ ty _ Tryz.underlying28 zero_slice rfl rfl G kk _ _ (by omega) (fun j hj => by rw [HO.out.cellAt (kk + j) (by omega), getD_some0 (by omega)]; rfl) (fun j hj => HO.out.frozenAt (kk + j))
              obtain ⟨L', ho1, ho2⟩ := own_cleared (k := kk) (List.replicate (n - kk) (.slice none 0 0)) kk w9 L HO.out (Nat.le_refl _)
              have ho3 := own_prefix ho1 (k := kk) (by omega)
              rw [ho2, HCI.out.low] at ho3
              have hnum := HCI.out.num
              rw [hend] at hnum ho3
              obtain ⟨hs1, hs2⟩ := heap_setCells G (List.replicate (n - kk) (.slice none 0 0)) kk w9
              have hff : Fr w (w9.setCells G kk (List.replicate (n - kk) (.slice none 0 0))) (fun b => b = G) := ⟨by rw [hs1]; exact HFR.out.size, fun b hb hn => by rw [hs2 b hn]; exact HFR.out.block b hb hn⟩
              have hbb : Below B w (w9.setCells G kk (List.replicate (n - kk) (.slice none 0 0))) := below_cells hG _ _ _ HBW.out
              have hsub := kpt_sub (zs := zs) (j := n) (by omega)
              rw [hzl, List.take_length, ← hzl] at hsub
              have hfin := (hzl ▸ H.out).fr (n' := kk) hff (by rw [← hnum]; exact ho3) (fun z hz => hsub.subset hz) (List.Pairwise.sublist hsub H.out.far)
              have HFIN := Lib.hid hfin
              have HBB := Lib.hid hbb
              have hkk2 : kk ≤ n := by omega
              clear hs1 hs2 hff hbb hsub hfin ho1 ho2 ho3 hnum hzl hend
              go_wp2
              go_ret
              exact ⟨⟨_, rfl, HFIN.out⟩, HBB.out⟩
        · have dxy : decide (x = y) = false := decide_eq_false hxy
          have HD := Lib.hid (fun hd => hxy (HDUP.out.1 hd))
          clear hxy
          go_wp2
          go_region_held3 (fun w' => w'.cell? ⟨G, k, none⟩ = some (.slice A1 x.length c1) ∧ w'.cell? ⟨G, k - 1, none⟩ = some (.slice A2 y.length c2)) (first | go_keep | (go_split_ands; refine ⟨?_, ?_⟩ <;> assumption))
            (first | ((go_at_call 56; refine (HCALL.out 1).mono ?_; rintro e w9 ⟨rfl, d9, rfl⟩)) | fail)
          go_wp2
          go_roundg (n - (k + 1))
          case measure => omega
          case rel =>
            refine ⟨k + 1, _, by omega, by omega, Nat.le_refl _, by go_num, rfl, fun j hj => ?_⟩
            by_cases e : j = k
            · rw [e]; exact HD.out
            · exact HALL.out j (by omega)
      · have hend : k = n := by omega
        have dk : decide (k < n) = false := decide_eq_false hlt
        have dk2 : decide ((k : Int) < (n : Int)) = false := decide_eq_false (by omega)
        have hzl : n = zs.length := HNE.out
        have hk : kpt zs n = zs := by
          rw [kpt_all (by omega) (fun j hj => HALL.out j (by omega)), hzl, List.take_length]
        have HK := Lib.hid hk
        have HF : Hid (RowZ (w.drewN q) B (.slice (some ⟨G, 0, none⟩) n cap) zs) := by
          rw [hzl]; exact ⟨H.out.out, H.out.inn, H.out.far, H.out.top⟩
        clear hk hend hzl
        go_wp2
        go_ret
        exact ⟨⟨_, rfl, by rw [HK.out]; exact HF.out⟩, below_drewN (Below.refl _ _) _⟩
end Go.Proofs.YtpmkdihencepnaaGreat
