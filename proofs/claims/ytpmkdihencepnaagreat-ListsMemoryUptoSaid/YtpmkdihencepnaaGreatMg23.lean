/-
  parts.Merge: what it answers.
-/
import Derived.Maps.OwnOps
import Derived.Maps.Views
import Derived.Laws.CopyOwn
import Derived.Test.YtpmkdihencepnaaGreatMg01
import Derived.Test.YtpmkdihencepnaaGreatMg22
namespace Go.Proofs.YtpmkdihencepnaaGreat
open Go.RowKit Go.Maps

theorem law_int : Keyed Tryz.prog 3 := int_keyed Tryz.underlying3
theorem zero_int (w : World) : (zeroValue 3).run Tryz.prog w = .ok (.int .i64 0) w := by kernel_rfl
abbrev IMap := DataW Unit
/-- The map tells how often each number stands in a list. -/
structure TimesOf (D : IMap) (l : List Int) : Prop where
  m : IsMap D
  at_ : ∀ n : Int, D.atKey (.int .i64 n) (.lit (.int .i64 0)) = .lit (.int .i64 (l.count n))
theorem TimesOf.nil : TimesOf (.map []) [] := ⟨isMap_empty, fun _ => rfl⟩
theorem TimesOf.add {D : IMap} {l : List Int} (h : TimesOf D l) (x : Int) : TimesOf (D.put (.int .i64 x) (.lit (.int .i64 ((l.count x : Int) + 1)))) (l ++ [x]) := by
  refine ⟨h.m.put _ _, fun n => ?_⟩
  by_cases e : n = x
  · subst e
    rw [atKey_put_same h.m (show WideAt.IsKeyLit (.int .i64 n) from trivial), List.count_append]; simp
  · rw [atKey_put_other (by intro e2; injection e2 with _ e3; exact e e3), h.at_, List.count_append]
    have : ([x] : List Int).count n = 0 := by
      rw [List.count_eq_zero]; simpa using e
    rw [this]; rfl
theorem TimesOf.look {D : IMap} {l : List Int} (h : TimesOf D l) {n c : Int} (hc : D.atKey (.int .i64 n) (.lit (.int .i64 0)) = .lit (.int .i64 c)) : c = (l.count n : Int) := by
  rw [h.at_] at hc
  injection hc with e
  injection e with _ e2
  exact e2.symm
theorem merge_take (p : List Int) {i : Nat} (h : i < 20) : (odds.take (i + 1)).flatMap (merge1 p) = (odds.take i).flatMap (merge1 p) ++ merge1 p (2 * i + 1) := by
  have hl : odds.length = 20 := by decide
  rw [List.take_add_one, List.getElem?_eq_getElem (by omega), List.flatMap_append]
  have e : odds[i]'(by omega) = 2 * i + 1 := by unfold odds; simp
  rw [e]; simp
/-- The powers of two of t below the j-th one. -/
def low (t j : Nat) : List Nat := (List.range j).filter (fun i => t.testBit i)
theorem low_next (t j : Nat) : low t (j + 1) = low t j ++ (if t.testBit j then [j] else []) := by
  unfold low
  rw [List.range_succ, List.filter_append]
  congr 1
  rw [List.filter_cons]; rfl
set_option maxRecDepth 100000 in
theorem low_allB : ∀ t, t < 41 → ∀ j, j < 7 → t < 2 ^ j → low t j = bts t := by decide
set_option maxRecDepth 100000 in
theorem and_bits : ∀ t : Nat, t < 41 → ∀ j : Nat, j < 6 → bits BinOp.and IntKind.i64 (t : Int) ((2 ^ j : Nat) : Int) = if t.testBit j then ((2 ^ j : Nat) : Int) else 0 := by decide
theorem map_below {w w' : World} {B b n : Nat} {D : IMap} (h : w.ownsMap Tryz.prog 3 (plainElem Tryz.prog 3) b n D) (hb : Below B w w') (hlt : b < B) : w'.ownsMap Tryz.prog 3 (plainElem Tryz.prog 3) b n D := by
  obtain ⟨es, clock, h1, h2, h3, h4⟩ := h
  exact ⟨es, clock, (hb.block b hlt).trans h1, h2, h3, h4⟩
theorem merge_len (p : List Int) : ∀ l : List Nat, (l.flatMap (merge1 p)).length ≤ 6 * l.length
  | [] => by simp
  | n :: l => by
    have h1 := merge_len p l
    have h2 : (merge1 p n).length ≤ 6 := by
      unfold merge1 bts
      rw [List.length_map]
      exact Nat.le_trans (List.length_filter_le _ _) (by simp)
    rw [List.flatMap_cons, List.length_append, List.length_cons]
    omega

set_option maxRecDepth 100000 in
set_option maxHeartbeats 2000000 in
theorem merge_any (A : Option Addr) (cap : Nat) (p : List Int) (w : World) (hcl : p.length ≤ 9223372036854775807) (h : Sl w w.heap.size A (ints p)) :
    Calls Tryz.prog 10 #[.slice A p.length cap] w fun e w' => EulOut e w' w.heap.size (IsPart p ∧ p.sum ≤ 40 ∧ ∀ x ∈ p, x % 2 = 1) (sortD (mergeL p)) ∧ Below w.heap.size w w' := by
  have hB := Nat.le_refl w.heap.size
  have H := Lib.hid h
  have hmm := @run_makeMap Tryz.prog
  go_enter Tryz.func10, Tryz.ntmps10
  go_wp2_with (first | (go_at_call 40; refine (pcheck_any A cap p _ (by omega) h).mono ?_) | fail)
  rintro e w1 ⟨rfl, rfl⟩
  have hpc := partChk_zero (p := p)
  obtain ⟨k, hk⟩ : ∃ k, k = partChk p := ⟨_, rfl⟩
  rw [← hk] at hpc ⊢
  have HPC := Lib.hid hpc
  clear hpc hk
  by_cases hk0 : k = 0
  · obtain ⟨hp, hs⟩ := HPC.out.1 hk0
    have HP := Lib.hid hp
    have HS := Lib.hid hs
    have hpl := hp.len hs
    have HLE := Lib.hid (fun x (hx : x ∈ p) => part_le hp hs hx)
    have HCN := Lib.hid (fun n (hn : 1 ≤ n) => count_le hp hs (n := n) hn)
    subst hk0
    clear hp hs HPC
    go_wp2
    go_loopw [19] (fun iv wr => ∃ (i : Nat) (D : IMap), i ≤ p.length ∧ iv = .int .i64 i ∧ TimesOf D (p.take i) ∧ (∀ x ∈ p.take i, x % 2 = 1) ∧ wr.ownsMap Tryz.prog 3 (plainElem Tryz.prog 3) w.heap.size i D ∧ Below w.heap.size w wr) (fun iv _ => p.length - (intOf iv).toNat)
    case atStart => exact ⟨0, .map [], Nat.zero_le _, rfl, TimesOf.nil, by simp, World.ownsMap_made _ _ _ _, (Below.refl _ _).alloc (Nat.le_refl _) _⟩
    case round =>
      obtain ⟨i, D, hi, rfl, htm, hod, hown, hW⟩ := hrel
      have hB1 := hW.size
      have HTM := Lib.hid htm
      have HOD := Lib.hid hod
      have HOWN := Lib.hid hown
      have HW := Lib.hid hW
      have hmb := hown.lt
      clear htm hod hown
      by_cases hip : i < p.length
      · have di : decide (i < p.length) = true := decide_eq_true hip
        have h2 := h.below hW
        obtain ⟨b, o, rfl, hb⟩ := h.addr (by omega)
        have hcx := getD_cell h2 hip
        have hxb := HLE.out (p.getD i 0) (by rw [getD_get hip]; exact List.getElem_mem hip)
        have hgx : p[i]? = some (p.getD i 0) := by rw [getD_get hip]; exact List.getElem?_eq_getElem hip
        obtain ⟨x, hx⟩ : ∃ x, x = p.getD i 0 := ⟨_, rfl⟩
        rw [← hx] at hcx hxb hgx
        have htk : p.take (i + 1) = p.take i ++ [x] := by rw [List.take_add_one, hgx]; rfl
        obtain ⟨X, rfl⟩ : ∃ X : Nat, x = X := ⟨x.toNat, by omega⟩
        have HTK := Lib.hid htk
        have HGX := Lib.hid hgx
        have hX1 : 1 ≤ X := by omega
        have hX40 : X ≤ 40 := by omega
        clear hx htk hgx h2 hW hxb
        by_cases hx2 : X % 2 = 0
        · have d1 : ((X : Int).tmod 2) = 0 := by rw [Int.tmod_eq_emod_of_nonneg (by omega)]; omega
          have hno : Hid (¬ (IsPart p ∧ p.sum ≤ 40 ∧ ∀ x ∈ p, x % 2 = 1)) := fun hh => by
            have := hh.2.2 (X : Int) (List.mem_of_getElem? HGX.out)
            omega
          clear hx2
          go_wp2
          go_ret2
          exact ⟨eul_bad (by decide) hno.out, HW.out⟩
        · have d1 : ((X : Int).tmod 2) = 1 := by rw [Int.tmod_eq_emod_of_nonneg (by omega)]; omega
          have hkey : keyOf Tryz.prog 3 (.int .i64 (X : Int)) = some (.int .i64 (X : Int)) := keyOf_int_mk Tryz.underlying3 (WalkArith.wf_i64 (by omega))
          have HKEY := Lib.hid hkey
          have hc40 : (p.take i).count (X : Int) ≤ 40 := Nat.le_trans List.count_le_length (by rw [List.length_take]; omega)
          have HLOOK := Lib.hid (fun c hc => HTM.out.look (n := (X : Int)) (c := c) hc)
          have HADD := Lib.hid (HTM.out.add (X : Int))
          obtain ⟨C, hC⟩ : ∃ C, C = (p.take i).count (X : Int) := ⟨_, rfl⟩
          rw [← hC] at hc40 HLOOK HADD
          rw [← HTK.out] at HADD
          have hodd : Hid (∀ x ∈ p.take (i + 1), x % 2 = 1) := fun y hy => by
            rw [HTK.out] at hy
            rcases List.mem_append.1 hy with g | g
            · exact HOD.out y g
            · have : y = (X : Int) := by simpa using g
              rw [this]; omega
          have hwf : (Lit.int .i64 ((C : Int) + 1)).wf = true := WalkArith.wf_i64 (by omega)
          have HWF := Lib.hid hwf
          have hi40 : i ≤ 40 := by omega
          clear hx2 hC hkey hwf
          go_wp2_with (first | (at_lookup; refine wpList_lookup_own_int _ rfl _ _ 53 rfl 3 3 .i64 law_int Tryz.underlying53 Tryz.underlying3 (zero_int _) w.heap.size i _ rfl HOWN.out _ _ rfl HKEY.out ?_; intro c hat hwc; obtain rfl := HLOOK.out c hat; clear hat hwc) | (at_mapUpdate; refine wpList_mapUpdate_own _ rfl _ _ _ 53 rfl 3 3 law_int Tryz.underlying53 _ w.heap.size i _ rfl HOWN.out (by unfold maxLen; omega) _ _ _ rfl rfl HKEY.out _ [] (plainElem_int Tryz.underlying3 HWF.out) ?_; intro w6 hown6 hgrow6) | fail)
          have HOWN6 := Lib.hid hown6
          have HW6 := Lib.hid (HW.out.grown hgrow6 hB1 (fun j hj => by cases hj; exact Nat.le_refl _))
          clear hown6 hgrow6
          go_wp2
          go_roundw
          case rel => exact ⟨i + 1, _, by omega, by go_num, HADD.out, hodd.out, HOWN6.out, HW6.out⟩
          case measure => simp [intOf]; omega
      · have di : decide (i < p.length) = false := decide_eq_false hip
        have hall : p.take i = p := List.take_of_length_le (by omega)
        have htm := HTM.out
        have hod := HOD.out
        rw [hall] at htm hod
        have HTM2 := Lib.hid htm
        have HOD2 := Lib.hid hod
        have hmb2 : w.heap.size + 1 ≤ wr.heap.size := hmb
        obtain ⟨w8, hw8⟩ : ∃ w8, w8 = wr := ⟨_, rfl⟩
        subst hw8
        clear htm hod hall HTM HOD hW
        go_wp2
        go_loopw [8, 9] (fun ov nv wr => ∃ (i n : Nat), i ≤ 20 ∧ n = 2 * i + 1 ∧ nv = .int .i64 n ∧ wr.ownsRow (w.heap.size + 1) 3 1 ov ((odds.take i).flatMap (merge1 p)).length (ints ((odds.take i).flatMap (merge1 p))) ∧ wr.ownsMap Tryz.prog 3 (plainElem Tryz.prog 3) w.heap.size p.length D ∧ Below w.heap.size w wr) (fun _ nv _ => 41 - (intOf nv).toNat)
        case atStart => exact ⟨0, 1, by omega, rfl, rfl, World.ownsRow_nil _ _ _ _, HOWN.out.mono (by omega), HW.out⟩
        case round =>
          clear HOWN HW hB1 hmb hmb2
          obtain ⟨i, n, hi, hn, rfl, ho, hown, hW⟩ := hrel
          have hB1 := hW.size
          have HO := Lib.hid ho
          have HOWN := Lib.hid hown
          have HW := Lib.hid hW
          have HNI := Lib.hid hn
          have hmb : w.heap.size + 1 ≤ wr.heap.size := hown.lt
          have hn1 : 1 ≤ n := by omega
          have hn41 : n ≤ 41 := by omega
          clear ho hown hW hn
          by_cases hn40 : n ≤ 40
          · have dn : decide ((n : Int) ≤ 40) = true := decide_eq_true (by omega)
            obtain ⟨hnt, ht64⟩ := HCN.out n hn1
            have ht : p.count (n : Int) ≤ n * p.count (n : Int) := Nat.le_mul_of_pos_left _ hn1
            have hi20 : i < 20 := by have := HNI.out; omega
            have hmt := merge_take p hi20
            rw [← HNI.out] at hmt
            have hl6 := merge_len p (odds.take i)
            have hl20 : (odds.take i).length ≤ 20 := by rw [List.length_take, show odds.length = 20 by decide]; omega
            have HLOOK := Lib.hid (fun c hc => HTM2.out.look (n := (n : Int)) (c := c) hc)
            have HKEY : Hid (keyOf Tryz.prog 3 (.int .i64 (n : Int)) = some (.int .i64 (n : Int))) := Lib.hid (keyOf_int_mk Tryz.underlying3 (WalkArith.wf_i64 (by omega)))
            obtain ⟨t, htd⟩ : ∃ t, t = p.count (n : Int) := ⟨_, rfl⟩
            have hm1 : merge1 p n = (bts t).map (fun j => ((n * 2 ^ j : Nat) : Int)) := by unfold merge1; rw [htd]
            rw [← htd] at hnt ht HLOOK
            rw [hm1] at hmt
            obtain ⟨L, hL⟩ : ∃ L, L = (odds.take i).flatMap (merge1 p) := ⟨_, rfl⟩
            rw [← hL] at hmt HO hl6
            have HMT := Lib.hid hmt
            have ht40 : t ≤ 40 := by omega
            have HNT := Lib.hid hnt
            have hL40 : L.length ≤ 120 := by omega
            clear hmt htd hL hnt ht64 ht hm1 hl6 hl20
            obtain ⟨w8, hw8⟩ : ∃ w8, w8 = wr := ⟨_, rfl⟩
            subst hw8
            go_wp2
            go_loopw [8, 10] (fun ov bv wz => ∃ (j B : Nat), j ≤ 6 ∧ B = 2 ^ j ∧ bv = .int .i64 B ∧ wz.ownsRow (w.heap.size + 1) 3 1 ov (L ++ (low t j).map (fun j => ((n * 2 ^ j : Nat) : Int))).length (ints (L ++ (low t j).map (fun j => ((n * 2 ^ j : Nat) : Int)))) ∧ wz.ownsMap Tryz.prog 3 (plainElem Tryz.prog 3) w.heap.size p.length D ∧ Below w.heap.size w wz) (fun _ bv _ => 128 - (intOf bv).toNat)
            case atStart => exact ⟨0, 1, by omega, rfl, rfl, by simpa [low] using HO.out, HOWN.out, HW.out⟩
            case round =>
              clear HO HOWN HW hB1 hmb
              obtain ⟨j, B, hj, hBj, rfl, ho, hown, hW⟩ := hrel
              have hB1 := hW.size
              have HO := Lib.hid ho
              have HOWN := Lib.hid hown
              have HW := Lib.hid hW
              have HBJ := Lib.hid hBj
              have hmb : w.heap.size + 1 ≤ wr.heap.size := hown.lt
              have hB64 : B ≤ 64 := by
                rw [hBj]
                have : 2 ^ j ≤ 2 ^ 6 := Nat.pow_le_pow_right (by omega) hj
                omega
              have hB0 : 0 < B := by rw [hBj]; exact Nat.two_pow_pos _
              clear ho hown hW hBj
              by_cases hBt : B ≤ t
              · have dB : decide ((B : Int) ≤ (t : Int)) = true := decide_eq_true (by omega)
                have hj6 : j < 6 := by
                  apply Classical.byContradiction
                  intro hn
                  have h6 : 2 ^ 6 ≤ 2 ^ j := Nat.pow_le_pow_right (by omega) (by omega)
                  have := HBJ.out
                  omega
                have hbb := and_bits t (by omega) j hj6
                have hln := low_next t j
                rw [← HBJ.out] at hbb
                have hM : (L ++ (low t j).map (fun j => ((n * 2 ^ j : Nat) : Int))).length ≤ 200 := by
                  rw [List.length_append, List.length_map]
                  have : (low t j).length ≤ j := by unfold low; exact Nat.le_trans (List.length_filter_le _ _) (by simp)
                  omega
                have hnB : n * B ≤ 40 := Nat.le_trans (Nat.mul_le_mul_left _ hBt) HNT.out
                have hsn : L ++ (low t j).map (fun j => ((n * 2 ^ j : Nat) : Int)) ++ [(n : Int) * (B : Int)] = L ++ (low t j ++ [j]).map (fun j => ((n * 2 ^ j : Nat) : Int)) := by
                  rw [List.map_append, HBJ.out]; simp [Int.natCast_mul]
                have HLN := Lib.hid hln
                have HSN := Lib.hid hsn
                obtain ⟨M, hMM⟩ : ∃ M, M = L ++ (low t j).map (fun j => ((n * 2 ^ j : Nat) : Int)) := ⟨_, rfl⟩
                rw [← hMM] at HO hM HSN
                have HMM := Lib.hid hMM
                clear hln hsn hMM
                by_cases htb : t.testBit j = true
                · rw [if_pos htb] at hbb
                  have hne : (bits BinOp.and IntKind.i64 (t : Int) (B : Int) != 0) = true := by rw [hbb]; simp; omega
                  have HTB := Lib.hid htb
                  clear hbb htb
                  go_wp2_with (first | (at_lookup; refine wpList_lookup_own_int _ rfl _ _ 53 rfl 3 3 .i64 law_int Tryz.underlying53 Tryz.underlying3 (zero_int _) w.heap.size p.length _ rfl HOWN.out _ _ rfl HKEY.out ?_; intro c hat hwc; obtain rfl := HLOOK.out c hat; clear hat hwc) | (at_builtin; refine wpList_app1 rfl (.tmp 48) (.tmp 52) rfl rfl ((n : Int) * (B : Int)) HO.out rfl (by omega) hmb (fun g2 c2 w6 hl6 hb6 => ?_); have HL6 := Lib.hid hl6; have HB6 := Lib.hid hb6; clear hl6 hb6) | fail)
                  go_roundw
                  case rel => exact ⟨j + 1, 2 * B, by omega, by rw [Nat.pow_succ, ← HBJ.out, Nat.mul_comm], by go_num, by rw [HLN.out, if_pos HTB.out, ← HSN.out, List.length_append]; exact HL6.out, map_below HOWN.out HB6.out (by omega), HW.out.trans (HB6.out.mono (by omega))⟩
                  case measure => simp [intOf]; omega
                · rw [if_neg htb] at hbb
                  have hne : (bits BinOp.and IntKind.i64 (t : Int) (B : Int) != 0) = false := by rw [hbb]; rfl
                  have HTB := Lib.hid htb
                  clear hbb htb
                  go_wp2_with (first | (at_lookup; refine wpList_lookup_own_int _ rfl _ _ 53 rfl 3 3 .i64 law_int Tryz.underlying53 Tryz.underlying3 (zero_int _) w.heap.size p.length _ rfl HOWN.out _ _ rfl HKEY.out ?_; intro c hat hwc; obtain rfl := HLOOK.out c hat; clear hat hwc) | fail)
                  go_roundw
                  case rel => exact ⟨j + 1, 2 * B, by omega, by rw [Nat.pow_succ, ← HBJ.out, Nat.mul_comm], by go_num, by rw [HLN.out, if_neg HTB.out, List.append_nil, ← HMM.out]; exact HO.out, HOWN.out, HW.out⟩
                  case measure => simp [intOf]; omega
              · have dB : decide ((B : Int) ≤ (t : Int)) = false := decide_eq_false (by omega)
                have hla := low_allB t (by omega) j (by omega) (by rw [← HBJ.out]; omega)
                have HLA := Lib.hid hla
                clear hla
                go_wp2_with (first | (at_lookup; refine wpList_lookup_own_int _ rfl _ _ 53 rfl 3 3 .i64 law_int Tryz.underlying53 Tryz.underlying3 (zero_int _) w.heap.size p.length _ rfl HOWN.out _ _ rfl HKEY.out ?_; intro c hat hwc; obtain rfl := HLOOK.out c hat; clear hat hwc) | fail)
                go_roundw
                case rel => exact ⟨i + 1, n + 2, by omega, by have := HNI.out; omega, by go_num, by rw [HMT.out, ← HLA.out]; exact HO.out, HOWN.out, HW.out⟩
                case measure => simp [intOf]; omega
          · have dn : decide ((n : Int) ≤ 40) = false := decide_eq_false (by omega)
            have hall : odds.take i = odds := List.take_of_length_le (by rw [show odds.length = 20 by decide]; have := HNI.out; omega)
            have hl6 := merge_len p odds
            rw [show odds.length = 20 by decide] at hl6
            rw [hall] at HO
            obtain ⟨L, hL⟩ : ∃ L, L = odds.flatMap (merge1 p) := ⟨_, rfl⟩
            rw [← hL] at HO hl6
            have HL := Lib.hid hL
            clear hall hL
            go_wp2_with (first | (go_at_call 42; refine (fallen_any _ HO.out (by omega)).mono ?_) | fail)
            rintro e w7 ⟨rfl, ho7, hg7⟩
            have hW7 := HW.out.grown hg7 hB1 (fun k hk => by have := (HO.out.lt k hk).1; omega)
            have HFN := Lib.hid (eul_own (B := w.heap.size) (ok := IsPart p ∧ p.sum ≤ 40 ∧ ∀ x ∈ p, x % 2 = 1) (ys := sortD (mergeL p)) (ho7.mono (by omega)) (by omega) ⟨HP.out, HS.out, HOD2.out⟩ (by rw [HL.out]; rfl))
            clear ho7 hg7
            go_wp2
            go_ret2
            exact ⟨HFN.out, hW7⟩
  · have dk : (k != 0) = true := by simpa using hk0
    have HK0 := Lib.hid hk0
    go_wp2
    go_ret2
    exact ⟨eul_bad HK0.out (fun hh => HK0.out (HPC.out.2 ⟨hh.1, hh.2.1⟩)), Below.refl _ _⟩
end Go.Proofs.YtpmkdihencepnaaGreat

/-
  copy within one row that the call owns: the law for a region that draws its order.
-/
namespace Go.Proofs.YtpmkdihencepnaaGreat
open Go.RowKit

theorem splice_map {α β : Type} (f : α → β) (l : List α) (off : Nat) (cs : List α) : (splice l off cs).map f = splice (l.map f) off (cs.map f) := by
  simp [splice]

theorem take_splice {α : Type} (L : List α) (off n : Nat) (cs : List α) (h : off + cs.length ≤ n) (hn : n ≤ L.length) : (splice L off cs).take n = splice (L.take n) off cs := by
  unfold splice
  have e1 : (L.take off).length = off := by simp; omega
  have e2 : (L.take n).take off = L.take off := by rw [List.take_take, Nat.min_eq_left (by omega)]
  have e3 : (L.take n).drop (off + cs.length) = (L.drop (off + cs.length)).take (n - (off + cs.length)) := List.drop_take ..
  rw [List.take_append, e1, List.take_of_length_le (show (L.take off).length ≤ n by omega), List.take_append, List.take_of_length_le (show cs.length ≤ n - off by omega), e2, e3,
    show n - off - cs.length = n - (off + cs.length) by omega]

theorem step_copy_own {ops : Array Oper} {o : Oper} {a : Act} {w : World} {K : Act → World → Prop} {Q : Exit → Act → World → Prop} {E : Prop} {base : Nat} (hgd : o.guard = none) (d s : Operand)
    (ho : o.op = .call { callee := .builtin .copy, args := #[d, s], argTypes := #[22, 22] })
    (g n cap : Nat) (l : List Int) (hown : w.ownsRow base 3 1 (.slice (some ⟨g, 0, none⟩) n cap) n (ints l)) (off src m : Nat) (dp sp : Option Addr) (dLen dCap sLen sCap : Nat)
    (hd : a.eval d = .slice dp dLen dCap) (hs : a.eval s = .slice sp sLen sCap) (hm : Nat.min sLen dLen = m) (hdp : 0 < m → dp = some ⟨g, off, none⟩) (hsp : 0 < m → sp = some ⟨g, src, none⟩)
    (ho1 : off + m ≤ n) (hs1 : src + m ≤ n)
    (h : ∀ w', Hid (w'.ownsRow base 3 1 (.slice (some ⟨g, 0, none⟩) n cap) n (ints (splice l off ((l.drop src).take m)))) → Hid (Below base w w') → K (a.put o.dst (goInt m)) w') :
    if Region.wanted o (yielded ops a.tmps) = true then Oper.wp Tryz.prog o a w K Q else E := by
  obtain ⟨i0, hi, hz0, hz1, hz2⟩ := info_parts Tryz.infoInt
  have hl := hown.1
  rw [ints_length] at hl
  have hl' : l.length = n := by omega
  rcases hown.2 with ⟨hv, _⟩ | ⟨g', cap', cur, hv, hb, hg, hnc, hcm, hcs, htake⟩
  · cases hv
  obtain ⟨rfl, rfl⟩ : g = g' ∧ cap = cap' := by simpa using hv
  have hcl : (ints ((l.drop src).take m)).length = m := by simp [ints]; omega
  have hcur : n ≤ cur.toList.length := by simp; omega
  refine step_copy_splice hgd d s 22 22 ho 3 Tryz.underlying22 (by rw [hi]; simp [hz1]) dp sp dLen dCap sLen sCap hd hs g off cur.toList 3 (by simpa using hg) (ints ((l.drop src).take m)) (by rw [hcl]; exact hm.symm)
    (fun hp => ?_) (by rw [hcl]; omega) ints_one base w (Below.refl _ _) hb (fun w' hg' hb' => ?_)
  · rw [hcl] at hp
    refine ⟨hdp hp, _, hsp hp, fun j v hj => ?_⟩
    have hjl : j < ((l.drop src).take m).length := by
      have := (List.getElem?_eq_some_iff.1 hj).1
      simpa [ints] using this
    have hjm : j < m := by simp at hjl; omega
    rw [Addr.add_lit, hown.cellAt _ (by omega), ints_get (show src + j < l.length by omega)]
    rw [ints_get hjl] at hj
    rw [← hj]
    simp
  · rw [hcl]
    refine h w' ?_ hb'
    show World.ownsRow _ _ _ _ _ _ _
    have hsl : (splice l off ((l.drop src).take m)).length = l.length := length_splice _ _ _ (by simp; omega)
    refine ⟨by rw [ints_length, hsl]; omega, .inr ⟨g, cap, _, rfl, hb, hg'.out, hnc, hcm, ?_, ?_⟩⟩
    · have := length_splice cur.toList off (ints ((l.drop src).take m)) (by rw [hcl]; omega)
      simp only [List.size_toArray]
      rw [this]; simpa using hcs
    · have e1 : (splice cur.toList off (ints ((l.drop src).take m))).take (n * 1) = splice (cur.toList.take (n * 1)) off (ints ((l.drop src).take m)) :=
        take_splice _ _ _ _ (by rw [hcl]; omega) (by omega)
      show (splice cur.toList off (ints ((l.drop src).take m))).take (n * 1) = _
      rw [e1, htake]
      exact (splice_map (Value.int .i64) l off ((l.drop src).take m)).symm

end Go.Proofs.YtpmkdihencepnaaGreat
