/-
  signs.FromTriangle: what it answers of what Triangle tells.
-/
import Derived.Test.YtdmpbbgcifodeaaSign6W
namespace Go.Proofs.Ytdmpbbgcifodeaa
open Go.RowKit

def ind (q : List Int) (j : Nat) : Int := if ((j : Int) + 1) ∈ q then 1 else 0
theorem ind_nil (j : Nat) : ind [] j = 0 := by simp [ind]
theorem ind_take {q : List Int} (hq : q.Pairwise (· < ·)) {k X : Nat} (hk : k < q.length) (hX : q.getD k 0 = (X : Int) + 1) (j : Nat) : ind (q.take (k + 1)) j = if j = X then ind (q.take k) X + 1 else ind (q.take k) j := by
  have hx : q[k] = (X : Int) + 1 := by rw [← hX, getD_get hk]
  have hnot : ((X : Int) + 1) ∉ q.take k := fun h => by
    obtain ⟨i, hi, e⟩ := List.getElem_of_mem h
    have hi' : i < k := by simp at hi; omega
    rw [List.getElem_take] at e
    have := List.pairwise_iff_getElem.1 hq i k (by omega) hk hi'
    omega
  unfold ind
  rw [take_snoc hk, hx]
  by_cases e : j = X
  · subst e
    rw [if_pos rfl, if_pos (by simp), if_neg hnot]; rfl
  · rw [if_neg e]
    have : ((j : Int) + 1 ∈ q.take k ++ [(X : Int) + 1]) ↔ (j : Int) + 1 ∈ q.take k := by
      rw [List.mem_append, List.mem_singleton]
      exact ⟨fun h => h.elim id (fun h => by omega), .inl⟩
    simp only [this]
theorem ind_tri {m : List (List Int)} {n i j : Nat} (h : IsSign m n) (hi : i ≤ n) (hj : j < n) : ind (triTo m i n) j = dsum m i j := by
  have hd := h.col i j hi hj
  unfold ind
  by_cases c : dsum m i j = 1
  · rw [if_pos (triTo_mem.2 ⟨j, hj, c, rfl⟩), c]
  · rw [if_neg (fun hh => by
      obtain ⟨b, _, hb, e⟩ := triTo_mem.1 hh
      have : b = j := by omega
      rw [this] at hb
      exact c hb)]
    omega
theorem ind_le (q : List Int) (j : Nat) : 0 ≤ ind q j ∧ ind q j ≤ 1 := by unfold ind; split <;> omega
theorem row_tab {m : List (List Int)} {i : Nat} (h : SignOk m) (hi : i < m.length) : tab m.length (fun j => ind (triTo m (i + 1) m.length) j - ind (triTo m i m.length) j) = m.getD i [] := by
  apply ext_getD (by rw [tab_length, h.len hi])
  intro j hj
  rw [tab_length] at hj
  rw [tab_getD hj, ind_tri h.2 (by omega) hj, ind_tri h.2 (by omega) hj, dsum_succ, ent_row]
  omega

set_option maxRecDepth 100000 in
set_option maxHeartbeats 4000000 in
theorem fromtri_any (A : Option Addr) (cap n : Nat) (m : List (List Int)) (w : World) (hok : SignOk m) (hn : n = m.length) (h : SR w w.heap.size A (triOf m n)) :
    Calls Try.prog 33 #[.slice A n cap] w fun e w' => RowsOut e w' 0 m ∧ Below w.heap.size w w' := by
  have h7 : n ≤ 7 := by rw [hn]; exact hok.1
  have hp : 1 ≤ n := by rw [hn]; exact hok.2.pos
  have HOK : Hid (IsSign m n) := by show IsSign m n; rw [hn]; exact hok.2
  have HN := Lib.hid hn
  have HS := Lib.hid hok
  clear hok hn
  obtain ⟨b, o, rfl, hb⟩ := h.addr (by rw [triOf_length]; omega)
  have d1 : decide (n < 1) = false := decide_eq_false (by omega)
  have d2 : decide (7 < n) = false := decide_eq_false (by omega)
  go_enter Try.func33, Try.ntmps33
  go_wp2
  go_loopw [27] (fun iv wr => ∃ i d : Nat, i ≤ n ∧ iv = .int .i64 i ∧ wr = w.drewN d) (fun iv _ => n - (intOf iv).toNat)
  case atStart => exact ⟨0, 0, by omega, rfl, rfl⟩
  case round =>
    obtain ⟨i, d, hi, rfl, rfl⟩ := hrel
    by_cases hlt : i < n
    · have hd1 : decide (i < n) = true := decide_eq_true hlt
      obtain ⟨Ai, ci, hci, hri, _⟩ := h.at_ (r := i) (by rw [triOf_length]; exact hlt)
      rw [triOf_getD hlt] at hci hri
      have hli := tri_length HOK.out (i := i + 1) (by omega)
      rw [hli] at hci
      have HLI := Lib.hid hli
      obtain ⟨b3, o3, rfl, hb3⟩ := hri.addr (by rw [hli]; omega)
      clear hli
      go_wp2
      go_loopw [39] (fun jv wr => ∃ j e : Nat, j ≤ i + 1 ∧ jv = .int .i64 j ∧ wr = w.drewN e) (fun jv _ => i + 1 - (intOf jv).toNat)
      case atStart => exact ⟨0, d, by omega, rfl, rfl⟩
      case round =>
        obtain ⟨j, e, hj, rfl, rfl⟩ := hrel
        by_cases hlt2 : j < i + 1
        · have hd2 : decide ((j : Int) < (i : Int) + 1) = true := by simp; omega
          have x2 : (j : Int) < (i : Int) + 1 := by omega
          have hcx := getD_cell hri (k := j) (by rw [HLI.out]; exact hlt2)
          have hrg := tri_range HOK.out (i := i + 1) (k := j) (by omega) hlt2
          by_cases hj0 : j = 0
          · subst hj0
            rw [Nat.add_zero] at hcx
            obtain ⟨x, hxx⟩ : ∃ x, x = (triTo m (i + 1) n).getD 0 0 := ⟨_, rfl⟩
            rw [← hxx] at hcx hrg
            clear hxx
            have t1 : decide (x < 1) = false := by simp; omega
            have t2 : decide ((n : Int) < x) = false := by simp; omega
            go_wp2
            go_quiet (fail)
            go_wp2
            go_roundw
            case rel => exact ⟨1, _, by omega, by go_num, rfl⟩
            case measure => simp [intOf]
          · obtain ⟨j', rfl⟩ : ∃ j', j = j' + 1 := ⟨j - 1, by omega⟩
            obtain ⟨i', rfl⟩ : ∃ i', i = i' + 1 := ⟨i - 1, by omega⟩
            obtain ⟨Aj, cj, hcj, hrj, _⟩ := h.at_ (r := i') (by rw [triOf_length]; omega)
            rw [triOf_getD (by omega)] at hcj hrj
            have hlj := tri_length HOK.out (i := i' + 1) (by omega)
            rw [hlj] at hcj
            obtain ⟨b4, o4, rfl, hb4⟩ := hrj.addr (by rw [hlj]; omega)
            have hcy := getD_cell hri (k := j') (by rw [HLI.out]; omega)
            have hcz := getD_cell hrj (k := j') (by rw [hlj]; omega)
            have hrise := tri_rise HOK.out (i := i' + 1 + 1) (k := j' + 1) (by omega) (by omega) hlt2
            have hlace := tri_lace HOK.out (i := i' + 1) (k := j' + 1) (by omega) (by omega) hlt2
            rw [Nat.add_sub_cancel] at hrise hlace
            obtain ⟨x, hxx⟩ : ∃ x, x = (triTo m (i' + 1 + 1) n).getD (j' + 1) 0 := ⟨_, rfl⟩
            obtain ⟨y, hyy⟩ : ∃ x, x = (triTo m (i' + 1 + 1) n).getD j' 0 := ⟨_, rfl⟩
            obtain ⟨z, hzz⟩ : ∃ x, x = (triTo m (i' + 1) n).getD j' 0 := ⟨_, rfl⟩
            rw [← hxx] at hcx hrg hrise hlace
            rw [← hyy] at hcy hrise hlace
            rw [← hzz] at hcz hlace
            clear hxx hyy hzz hlj hd2 x2
            have t0 : decide ((0 : Int) < (j' : Int) + 1) = true := decide_eq_true (by omega)
            have t1 : decide (x < 1) = false := by simp; omega
            have t2 : decide ((n : Int) < x) = false := by simp; omega
            have t3 : decide (x ≤ y) = false := by simp; omega
            have t4 : decide (z < y) = false := by simp; omega
            have t5 : decide (x < z) = false := by simp; omega
            have u1 : decide ((j' : Int) + 1 < (i' : Int) + 1 + 1) = true := decide_eq_true (by omega)
            have u1' : decide (j' < i' + 1) = true := decide_eq_true (by omega)
            have u2 : (j' : Int) + 1 < (i' : Int) + 1 + 1 := by omega
            have u3 : (j' : Int) < (i' : Int) + 1 + 1 := by omega
            have u4 : (j' : Int) < (i' : Int) + 1 := by omega
            have u5 : (i' : Int) < (n : Int) := by omega
            have u6 : i' < n := by omega
            have w4 : IntKind.i64.wrap (i' : Int) = i' := IntWalk.i64_in _ (by omega)
            have w5 : IntKind.i64.wrap (j' : Int) = j' := IntWalk.i64_in _ (by omega)
            go_wp2
            go_quiet (fail)
            go_wp2
            go_roundw
            case rel => exact ⟨j' + 1 + 1, _, by omega, by go_num, rfl⟩
            case measure => simp [intOf]; omega
        · have hd2 : decide ((j : Int) < (i : Int) + 1) = false := by simp; omega
          go_wp2
          go_roundw
          case rel => exact ⟨i + 1, e, by omega, by go_num, rfl⟩
          case measure => simp [intOf]; omega
    · have hd1 : decide (i < n) = false := decide_eq_false hlt
      have hW : Below w.heap.size w (w.drewN d) := below_drewN (Below.refl _ _) d
      obtain ⟨wd, hwd⟩ : ∃ wd, wd = w.drewN d := ⟨_, rfl⟩
      rw [← hwd] at hW ⊢
      clear hwd
      go_wp2
      go_loopw [9, 102] (fun ov iv wr => ∃ (i : Nat) (hs : List Value), i ≤ n ∧ iv = .int .i64 i ∧ OwnM wr w.heap.size ov hs (m.take i) ∧ Below w.heap.size w wr) (fun _ iv _ => n - (intOf iv).toNat)
      case atStart => exact ⟨0, [], by omega, rfl, by rw [List.take_zero]; exact OwnM.nil _ _, hW⟩
      case round =>
        clear hW hlt hd1 hi
        obtain ⟨i, hs, hi, rfl, hm, hW⟩ := hrel
        obtain ⟨w9, rfl⟩ : ∃ w9, w9 = wr := ⟨_, rfl⟩
        have HM := Lib.hid hm
        have hsz := hW.size
        have hmo := hm.out
        rw [List.length_take, ← HN.out, Nat.min_eq_left hi] at hmo
        have HMO := Lib.hid hmo
        clear hm hmo
        by_cases hlt : i < n
        · have hd1 : decide (i < n) = true := decide_eq_true hlt
          obtain ⟨Ai, ci, hci, hri, _⟩ := h.at_ (r := i) (by rw [triOf_length]; exact hlt)
          rw [triOf_getD hlt] at hci hri
          have hli := tri_length HOK.out (i := i + 1) (by omega)
          rw [hli] at hci
          have HLI := Lib.hid hli
          obtain ⟨b3, o3, rfl, hb3⟩ := hri.addr (by rw [hli]; omega)
          have hci := (hW.cell (p := ⟨b, o + i, none⟩) hb).trans hci
          clear hli
          go_wp2_with (first | (refine wpList_mk rfl (.tmp 107) (.tmp 107) rfl n rfl rfl (by omega) (Nat.le_refl _) (fun w2 hown2 hb2 hz2 => ?_)) | fail)
          rw [tab_zero] at hown2
          have HO2 := Lib.hid hown2
          clear hown2
          go_wp2
          go_loopw [111] (fun kv wz => ∃ k : Nat, k ≤ i + 1 ∧ kv = .int .i64 k ∧ wz.ownsRow w9.heap.size 3 1 (.slice (some ⟨w9.heap.size, 0, none⟩) n n) n (ints (tab n (fun j => ind ((triTo m (i + 1) n).take k) j))) ∧ Below w9.heap.size w9 wz) (fun kv _ => i + 1 - (intOf kv).toNat)
          case atStart => exact ⟨0, by omega, rfl, by rw [List.take_zero, tab_congr (g := fun _ => 0) (fun j _ => ind_nil j)]; exact HO2.out, hb2⟩
          case round =>
            clear HO2 hb2
            obtain ⟨k, hk, rfl, hown, hW2⟩ := hrel
            have HO := Lib.hid hown
            clear hown
            have hri2 := hri.below (hW.trans (hW2.mono hsz))
            by_cases hlt2 : k < i + 1
            · have hd2 : decide ((k : Int) < (i : Int) + 1) = true := decide_eq_true (by omega)
              have x2 : (k : Int) < (i : Int) + 1 := by omega
              have hcx := getD_cell hri2 (k := k) (by rw [HLI.out]; exact hlt2)
              have hrg := tri_range HOK.out (i := i + 1) (k := k) (by omega) hlt2
              obtain ⟨X, hX⟩ : ∃ X : Nat, (triTo m (i + 1) n).getD k 0 = (X : Int) + 1 := ⟨((triTo m (i + 1) n).getD k 0 - 1).toNat, by omega⟩
              have hXn : X < n := by omega
              have hit := ind_take (triTo_pairwise m (i + 1) n) (k := k) (X := X) (by rw [HLI.out]; exact hlt2) hX
              have HIT := Lib.hid hit
              rw [hX] at hcx
              have hcy := own_get HO.out (i := X) (tab_get hXn)
              have hle := ind_le ((triTo m (i + 1) n).take k) X
              have hfr := HO.out.frozenAt X
              have hst := own_set HO.out X (ind ((triTo m (i + 1) n).take k) X + 1)
              rw [tab_set, tab_congr (g := fun j => ind ((triTo m (i + 1) n).take (k + 1)) j) (fun j _ => (HIT.out j).symm)] at hst
              have hWs := hW2.setCell (p := ⟨w9.heap.size, X, none⟩) (Nat.le_refl _) (.int .i64 (ind ((triTo m (i + 1) n).take k) X + 1))
              obtain ⟨y, hy⟩ : ∃ y, y = ind ((triTo m (i + 1) n).take k) X := ⟨_, rfl⟩
              rw [← hy] at hcy hle hst hWs
              have HST := Lib.hid hst
              have w5 : IntKind.i64.wrap (X : Int) = X := IntWalk.i64_in _ (by omega)
              have x3 : (X : Int) < (n : Int) := by omega
              clear hy hst hit hX hrg
              go_wp2
              go_roundw
              case rel => exact ⟨k + 1, by omega, by go_num, HST.out, hWs⟩
              case measure => simp [intOf]; omega
            · have hd2 : decide ((k : Int) < (i : Int) + 1) = false := decide_eq_false (by omega)
              have hO := HO.out
              rw [List.take_of_length_le (by rw [HLI.out]; omega)] at hO
              have HO1 := Lib.hid hO
              clear hO HO
              go_upto_if 124 with fail
              go_cut [] (fun wz => wz.ownsRow w9.heap.size 3 1 (.slice (some ⟨w9.heap.size, 0, none⟩) n n) n (ints (m.getD i [])) ∧ Below w9.heap.size w9 wz)
              case first =>
                by_cases hi0 : i = 0
                · subst hi0
                  have hfin := HO1.out
                  rw [tab_congr (g := fun j => ind (triTo m (0 + 1) n) j - ind (triTo m 0 n) j) (fun j _ => by rw [triTo_zero, ind_nil]; omega)] at hfin
                  have hrt := row_tab HS.out (i := 0) (by rw [← HN.out]; exact hlt)
                  rw [← HN.out] at hrt
                  rw [hrt] at hfin
                  have HF := Lib.hid hfin
                  clear hfin hrt
                  go_wp2
                  go_meet
                  exact ⟨HF.out, hW2⟩
                · obtain ⟨i', rfl⟩ : ∃ i', i = i' + 1 := ⟨i - 1, by omega⟩
                  obtain ⟨Aj, cj, hcj, hrj, _⟩ := h.at_ (r := i') (by rw [triOf_length]; omega)
                  rw [triOf_getD (by omega)] at hcj hrj
                  have hlj := tri_length HOK.out (i := i' + 1) (by omega)
                  rw [hlj] at hcj
                  obtain ⟨b4, o4, rfl, hb4⟩ := hrj.addr (by rw [hlj]; omega)
                  have hWw := hW.trans (hW2.mono hsz)
                  have hcj := (hWw.cell (p := ⟨b, o + i', none⟩) hb).trans hcj
                  have HLJ := Lib.hid hlj
                  have t0 : decide ((0 : Int) < (i' : Int) + 1) = true := decide_eq_true (by omega)
                  have u5 : (i' : Int) < (n : Int) := by omega
                  have u6 : i' < n := by omega
                  have w4 : IntKind.i64.wrap (i' : Int) = i' := IntWalk.i64_in _ (by omega)
                  clear hlj hi0
                  go_wp2
                  go_loopw [131] (fun kv wz => ∃ k : Nat, k ≤ i' + 1 ∧ kv = .int .i64 k ∧ wz.ownsRow w9.heap.size 3 1 (.slice (some ⟨w9.heap.size, 0, none⟩) n n) n (ints (tab n (fun j => ind (triTo m (i' + 1 + 1) n) j - ind ((triTo m (i' + 1) n).take k) j))) ∧ Below w9.heap.size w9 wz) (fun kv _ => i' + 1 - (intOf kv).toNat)
                  case atStart => exact ⟨0, by omega, rfl, by rw [List.take_zero, tab_congr (g := fun j => ind (triTo m (i' + 1 + 1) n) j) (fun j _ => by rw [ind_nil]; omega)]; exact HO1.out, hW2⟩
                  case round =>
                    clear HO1 hW2 hWw
                    obtain ⟨k2, hk2, rfl, hown, hW2⟩ := hrel
                    have HO := Lib.hid hown
                    clear hown
                    have hrj2 := hrj.below (hW.trans (hW2.mono hsz))
                    by_cases hlt3 : k2 < i' + 1
                    · have hd2 : decide ((k2 : Int) < (i' : Int) + 1) = true := decide_eq_true (by omega)
                      have x2 : (k2 : Int) < (i' : Int) + 1 := by omega
                      have hcx := getD_cell hrj2 (k := k2) (by rw [HLJ.out]; exact hlt3)
                      have hrg := tri_range HOK.out (i := i' + 1) (k := k2) (by omega) hlt3
                      obtain ⟨X, hX⟩ : ∃ X : Nat, (triTo m (i' + 1) n).getD k2 0 = (X : Int) + 1 := ⟨((triTo m (i' + 1) n).getD k2 0 - 1).toNat, by omega⟩
                      have hXn : X < n := by omega
                      have hit := ind_take (triTo_pairwise m (i' + 1) n) (k := k2) (X := X) (by rw [HLJ.out]; exact hlt3) hX
                      have HIT := Lib.hid hit
                      rw [hX] at hcx
                      have hcy := own_get HO.out (i := X) (tab_get hXn)
                      have hle := ind_le ((triTo m (i' + 1) n).take k2) X
                      have hle2 := ind_le (triTo m (i' + 1 + 1) n) X
                      have hfr := HO.out.frozenAt X
                      have hst := own_set HO.out X (ind (triTo m (i' + 1 + 1) n) X - ind ((triTo m (i' + 1) n).take k2) X - 1)
                      rw [tab_set, tab_congr (g := fun j => ind (triTo m (i' + 1 + 1) n) j - ind ((triTo m (i' + 1) n).take (k2 + 1)) j) (fun j _ => by
                        rw [HIT.out j]
                        by_cases e : j = X
                        · rw [if_pos e, if_pos e, e]; omega
                        · rw [if_neg e, if_neg e])] at hst
                      have hWs := hW2.setCell (p := ⟨w9.heap.size, X, none⟩) (Nat.le_refl _) (.int .i64 (ind (triTo m (i' + 1 + 1) n) X - ind ((triTo m (i' + 1) n).take k2) X - 1))
                      obtain ⟨y, hy⟩ : ∃ y, y = ind (triTo m (i' + 1 + 1) n) X - ind ((triTo m (i' + 1) n).take k2) X := ⟨_, rfl⟩
                      have hy2 : -1 ≤ y ∧ y ≤ 1 := by omega
                      rw [← hy] at hcy hst hWs
                      have HST := Lib.hid hst
                      have w5 : IntKind.i64.wrap (X : Int) = X := IntWalk.i64_in _ (by omega)
                      have x3 : (X : Int) < (n : Int) := by omega
                      clear hy hst hit hX hrg hle hle2
                      go_wp2
                      go_roundw
                      case rel => exact ⟨k2 + 1, by omega, by go_num, HST.out, hWs⟩
                      case measure => simp [intOf]; omega
                    · have hd2 : decide ((k2 : Int) < (i' : Int) + 1) = false := decide_eq_false (by omega)
                      have hfin := HO.out
                      rw [List.take_of_length_le (by rw [HLJ.out]; omega)] at hfin
                      have hrt := row_tab HS.out (i := i' + 1) (by rw [← HN.out]; exact hlt)
                      rw [← HN.out] at hrt
                      rw [hrt] at hfin
                      have HF := Lib.hid hfin
                      clear hfin hrt
                      go_wp2
                      go_meet
                      exact ⟨HF.out, hW2⟩
              case rest =>
                obtain ⟨hown, hW2⟩ := hcut
                have HF := Lib.hid hown
                have hm2 := HM.out.below hW2
                have hmo := own_below HMO.out hW2
                have HM2 := Lib.hid hm2
                have HMO2 := Lib.hid hmo
                have hB9 := Lib.hid (Nat.le_trans hsz hW2.size)
                clear hown hm2 hmo HO1
                go_wp2_with (first | (at_builtin; refine wpList_push (v := u9) rfl (.tmp 143) (.tmp 145) rfl rfl (.slice (some ⟨w9.heap.size, 0, none⟩) n n) rfl HMO2.out wc.heap.size rfl rfl (by omega) hB9.out (fun g2 c2 w5 hl5 hg5 hat5 => ?_)) | fail)
                have hfar := HM.out.far_new (u := .slice (some ⟨w9.heap.size, 0, none⟩) n n) (fun k hk => by
                  obtain rfl : w9.heap.size = k := by simpa [Value.ownBlock] using hk
                  exact Nat.le_refl _)
                have hll := HS.out.len (i := i) (by rw [← HN.out]; exact hlt)
                have hpush := (HM2.out.alloc (.cells #[.slice (some ⟨w9.heap.size, 0, none⟩) n n] 22)).push (u := .slice (some ⟨w9.heap.size, 0, none⟩) n n) (l := m.getD i [])
                  (by rw [hll, ← HN.out]; exact (HF.out.mono hsz).alloc _) hfar.1 hfar.2 (by rw [List.length_take, ← HN.out, Nat.min_eq_left hi]) hl5 hg5 (by simpa using hat5)
                have hts : m.take i ++ [m.getD i []] = m.take (i + 1) := (getD_take_succ (by rw [← HN.out]; exact hlt)).symm
                rw [hts] at hpush
                have hW5 : Below w.heap.size w w5 := ((hW.trans (hW2.mono hsz)).alloc hB9.out _).grown hg5 (by have := hB9.out; simp; omega) (fun k hk => (HMO.out.lt k hk).1)
                have HPU := Lib.hid hpush
                clear hpush hfar hl5 hg5 hat5 hts hll
                go_wp2
                go_roundw
                case rel => exact ⟨i + 1, _, by omega, by go_num, HPU.out, hW5⟩
                case measure => simp [intOf]; omega
        · have hd1 : decide (i < n) = false := decide_eq_false hlt
          have him : Hid (i = m.length) := by show _ = _; rw [← HN.out]; omega
          have hm := HM.out
          rw [List.take_of_length_le (by rw [him.out]; exact Nat.le_refl _)] at hm
          have HM' := Lib.hid hm
          clear hm
          go_wp2
          go_ret2
          exact ⟨rowsOut_own HM'.out 0, hW⟩

end Go.Proofs.Ytdmpbbgcifodeaa
