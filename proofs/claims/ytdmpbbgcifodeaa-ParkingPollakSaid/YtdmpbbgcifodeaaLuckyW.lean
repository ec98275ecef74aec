/-
  slices.Index of bools, parking.Lucky, ferref.Pick: what they answer.
-/
import Derived.Test.YtdmpbbgcifodeaaParkW
namespace Go.Proofs.Ytdmpbbgcifodeaa
open Go.RowKit

set_option maxHeartbeats 1000000 in
theorem indexB_any (g c n base : Nat) (bs : List Bool) (f : Nat) (w : World) (hn : n ≤ 1000000) (hf : bs[f]? = some false) (hb : ∀ j, j < f → bs[j]? = some true) (h : w.ownsRow base 4 1 (.slice (some ⟨g, 0, none⟩) n c) n (bools bs)) :
    Calls Try.prog 85 #[.slice (some ⟨g, 0, none⟩) n c, .bool false] w fun e w' => e = .returned (.int .i64 f) ∧ w = w' := by
  have hl : bs.length = n := by have := h.1; rw [bools_length] at this; omega
  have hfn : f < n := by have := (List.getElem?_eq_some_iff.1 hf).1; omega
  have HF := Lib.hid hf
  have HB := Lib.hid hb
  have HO := Lib.hid h
  clear hf hb h hl
  go_enter Try.func85, Try.ntmps85
  go_wp2
  go_loop [8] (fun iv => ∃ i : Nat, i ≤ f ∧ iv = .int .i64 i) (fun iv => n - (intOf iv).toNat)
  case atStart => exact ⟨0, by omega, rfl⟩
  case round =>
    obtain ⟨i, hi, rfl⟩ := hrel
    have hd : decide (i < n) = true := decide_eq_true (by omega)
    by_cases hif : i = f
    · subst hif
      have hcx := ownB_get HO.out HF.out
      go_wp2
      go_ret
      exact ⟨rfl, rfl⟩
    · have hcx := ownB_get HO.out (HB.out i (by omega))
      go_wp2
      go_round
      case rel => exact ⟨i + 1, by omega, by go_num⟩
      case measure => simp [intOf]; omega

/-- What Lucky answers. -/
def LuckyRes (l : List Int) (e : Ending) : Prop :=
  ∃ (k : Nat) (c : Int), e = .returned (.tuple #[.int .i64 k, .int .i64 c]) ∧ (c ≠ 0 → k = 0) ∧ (c = 0 ↔ l.length ≤ 20 ∧ ∀ x ∈ l, 1 ≤ x ∧ x ≤ (l.length : Int) + 1) ∧ (c = 0 → k ≤ l.length ∧ Crit (rot l k))

theorem first_free {n : Nat} {q : List Int} (hl : q.length < n) : ∃ f : Nat, f < n ∧ (f : Int) ∉ q ∧ ∀ j : Nat, j < f → (j : Int) ∈ q := by
  have key : ∀ m : Nat, m ≤ n → (∃ f : Nat, f < m ∧ (f : Int) ∉ q ∧ ∀ j : Nat, j < f → (j : Int) ∈ q) ∨ ∀ j : Nat, j < m → (j : Int) ∈ q := by
    intro m
    induction m with
    | zero => exact fun _ => .inr (fun j hj => by omega)
    | succ m ih =>
      intro hm
      rcases ih (by omega) with ⟨f, h1, h2⟩ | h
      · exact .inl ⟨f, by omega, h2⟩
      · by_cases c : (m : Int) ∈ q
        · exact .inr (fun j hj => by
            by_cases e : j = m
            · rw [e]; exact c
            · exact h j (by omega))
        · exact .inl ⟨m, by omega, c, h⟩
  rcases key n (Nat.le_refl _) with h | h
  · exact h
  · exfalso
    have hnd : ((List.range n).map (fun j : Nat => (j : Int))).Nodup := by
      rw [List.nodup_iff_pairwise_ne, List.pairwise_map]
      have := List.nodup_range (n := n)
      rw [List.nodup_iff_pairwise_ne] at this
      exact this.imp (fun h e => h (by omega))
    have := hnd.length_le_of_subset (l₂ := q) (fun x hx => by
      obtain ⟨j, hj, rfl⟩ := List.mem_map.1 hx
      exact h j (List.mem_range.1 hj))
    simp at this
    omega

set_option maxRecDepth 100000 in
set_option maxHeartbeats 2000000 in
theorem lucky_any (A : Option Addr) (cap : Nat) (l : List Int) (w : World) (hcl : l.length ≤ 9223372036854775807) (h : Sl w w.heap.size A (ints l)) :
    Calls Try.prog 41 #[.slice A l.length cap] w fun e w' => LuckyRes l e ∧ Below w.heap.size w w' := by
  go_enter Try.func41, Try.ntmps41
  by_cases hl : 20 < l.length
  · have hd : decide (20 < l.length) = true := decide_eq_true hl
    go_wp2
    go_ret2
    exact ⟨⟨0, 2, rfl, fun _ => rfl, ⟨fun e => (by cases e), fun e => (by have := e.1; omega)⟩, fun e => (by cases e)⟩, Below.refl _ _⟩
  · have hd : decide (20 < l.length) = false := decide_eq_false hl
    go_wp2_with (first | (refine wpList_mkB rfl (.tmp 17) (.tmp 17) rfl (l.length + 1) rfl rfl (by omega) (Nat.le_refl _) (fun w1 hown1 hb1 hz1 => ?_)) | fail)
    rw [← marks_nil] at hown1
    have HO1 := Lib.hid hown1
    clear hown1
    go_wp2
    go_loop [21] (fun iv => ∃ i : Nat, i ≤ l.length ∧ iv = .int .i64 i ∧ ∀ j, j < i → 1 ≤ l.getD j 0 ∧ l.getD j 0 ≤ (l.length : Int) + 1) (fun iv => l.length - (intOf iv).toNat)
    case atStart => exact ⟨0, by omega, rfl, fun j hj => by omega⟩
    case round =>
      obtain ⟨i, hi, rfl, hok⟩ := hrel
      have HK := Lib.hid hok
      clear hok
      by_cases hlt : i < l.length
      · have hd2 : decide (i < l.length) = true := decide_eq_true hlt
        obtain ⟨b, o, rfl, hb⟩ := h.addr (by omega)
        have hcx := getD_cell (h.below hb1) hlt
        have hyes : Hid (1 ≤ l.getD i 0 ∧ l.getD i 0 ≤ (l.length : Int) + 1 → ∀ j, j < i + 1 → 1 ≤ l.getD j 0 ∧ l.getD j 0 ≤ (l.length : Int) + 1) := fun hh j hj => by
          by_cases e : j = i
          · rw [e]; exact hh
          · exact HK.out j (by omega)
        have hno : Hid (¬ (1 ≤ l.getD i 0 ∧ l.getD i 0 ≤ (l.length : Int) + 1) → ((1 : Int) = 0 ↔ l.length ≤ 20 ∧ ∀ x ∈ l, 1 ≤ x ∧ x ≤ (l.length : Int) + 1)) := fun hh => by
          constructor
          · intro e; cases e
          · intro e; exact absurd (e.2 (l.getD i 0) (by rw [getD_get hlt]; exact List.getElem_mem hlt)) hh
        obtain ⟨x, hx⟩ : ∃ x, x = l.getD i 0 := ⟨_, rfl⟩
        rw [← hx] at hcx hyes hno
        clear hx
        by_cases h1 : x < 1
        · have hd3 : decide (x < 1) = true := decide_eq_true h1
          go_wp2
          go_ret2
          exact ⟨⟨0, 1, rfl, fun _ => rfl, hno.out (by omega), fun e => (by cases e)⟩, hb1⟩
        · have hd3 : decide (x < 1) = false := decide_eq_false h1
          by_cases h2 : (l.length : Int) + 1 < x
          · have hd4 : decide ((l.length : Int) + 1 < x) = true := decide_eq_true h2
            go_wp2
            go_ret2
            exact ⟨⟨0, 1, rfl, fun _ => rfl, hno.out (by omega), fun e => (by cases e)⟩, hb1⟩
          · have hd4 : decide ((l.length : Int) + 1 < x) = false := decide_eq_false h2
            have hy := Lib.hid (hyes.out (by omega))
            go_wp2
            go_round
            case rel => exact ⟨i + 1, by omega, by go_num, hy.out⟩
            case measure => simp [intOf]; omega
      · have hd2 : decide (i < l.length) = false := decide_eq_false hlt
        have HV : Hid (∀ j, j < l.length → 1 ≤ l.getD j 0 ∧ l.getD j 0 ≤ (l.length : Int) + 1) := fun j hj => HK.out j (by omega)
        clear HK
        go_wp2
        go_loopw [35] (fun iv wr => ∃ q : List Int, q.length ≤ l.length ∧ iv = .int .i64 q.length ∧ RoundInv l q ∧
          wr.ownsRow w.heap.size 4 1 (.slice (some ⟨w.heap.size, 0, none⟩) (l.length + 1) (l.length + 1)) (l.length + 1) (bools (marks (l.length + 1) q)) ∧ Below w.heap.size w wr) (fun iv _ => l.length - (intOf iv).toNat)
        case atStart => exact ⟨[], by simp, rfl, RoundInv.nil l, HO1.out, hb1⟩
        case round =>
          clear HO1 hb1 hi hlt hd2
          obtain ⟨q, hq, rfl, hinv, hmk, hW⟩ := hrel
          have HI := Lib.hid hinv
          have HM := Lib.hid hmk
          clear hinv hmk
          obtain ⟨i, hi⟩ : ∃ i, i = q.length := ⟨_, rfl⟩
          have HIL := Lib.hid hi
          rw [← hi] at hq ⊢
          clear hi
          by_cases hlt : i < l.length
          · have hd1 : decide (i < l.length) = true := decide_eq_true hlt
            obtain ⟨b, o, rfl, hb⟩ := h.addr (by omega)
            have hcx := getD_cell (h.below hW) hlt
            have hx1 := HV.out i hlt
            obtain ⟨x, hx⟩ : ∃ x, x = l.getD i 0 := ⟨_, rfl⟩
            rw [← hx] at hcx hx1
            have HX := Lib.hid hx
            clear hx
            have hm0 := Int.emod_nonneg x (b := (l.length : Int) + 1) (by omega)
            have hm1 := Int.emod_lt_of_pos x (b := (l.length : Int) + 1) (by omega)
            obtain ⟨X0, hX0⟩ : ∃ X0 : Nat, x % ((l.length : Int) + 1) = X0 := ⟨(x % ((l.length : Int) + 1)).toNat, by omega⟩
            have hX1 : X0 ≤ l.length := by omega
            have htm : x.tmod ((l.length : Int) + 1) = X0 := by rw [Int.tmod_eq_emod_of_nonneg (by omega)]; exact hX0
            have HX0 := Lib.hid hX0
            clear hm0 hm1 hX0
            go_wp2
            go_loopg [9] (l.length + 1) (fun gn nv wz => ∃ (y e : Nat), nv = .int .i64 y ∧ y ≤ l.length ∧ (x + (e : Int)) % ((l.length : Int) + 1) = y ∧ (∀ e' : Nat, e' < e → (x + (e' : Int)) % ((l.length : Int) + 1) ∈ q) ∧ gn + e = l.length + 1 ∧ wz = wr)
            case atStart => exact ⟨X0, 0, rfl, hX1, by simpa using HX0.out, fun e' he => by omega, by omega, rfl⟩
            case round =>
              obtain ⟨y, e, rfl, hy, hye, hall, hge, rfl⟩ := hrel
              have HYE := Lib.hid hye
              have HALL := Lib.hid hall
              have HGE := Lib.hid hge
              clear hye hall hge htm
              have hcy := ownB_get HM.out (i := y) (marks_get (by omega))
              by_cases hyq : (y : Int) ∈ q
              · rw [decide_eq_true hyq] at hcy
                have hm0 := Int.emod_nonneg ((y : Int) + 1) (b := (l.length : Int) + 1) (by omega)
                have hm1 := Int.emod_lt_of_pos ((y : Int) + 1) (b := (l.length : Int) + 1) (by omega)
                obtain ⟨Y1, hY1⟩ : ∃ Y1 : Nat, ((y : Int) + 1) % ((l.length : Int) + 1) = Y1 := ⟨(((y : Int) + 1) % ((l.length : Int) + 1)).toNat, by omega⟩
                have hY2 : Y1 ≤ l.length := by omega
                have htm : ((y : Int) + 1).tmod ((l.length : Int) + 1) = Y1 := by rw [Int.tmod_eq_emod_of_nonneg (by omega)]; exact hY1
                have hnx : Hid (∀ e' : Nat, e' < e + 1 → (x + (e' : Int)) % ((l.length : Int) + 1) ∈ q) := fun e' he => by
                  by_cases c : e' = e
                  · rw [c, HYE.out]; exact hyq
                  · exact HALL.out e' (by omega)
                have hroom : Hid (e + 1 ≤ l.length) := by have := round_room (by rw [← HIL.out]; omega) hnx.out; rw [← HIL.out] at this; show _ ≤ _; omega
                have hye2 : Hid ((x + ((e + 1 : Nat) : Int)) % ((l.length : Int) + 1) = Y1) := by
                  show _ = _
                  rw [show x + ((e + 1 : Nat) : Int) = (x + e) + 1 by omega, ← Int.emod_add_emod, HYE.out]; exact hY1
                clear hm0 hm1 hY1 hyq
                go_wp2
                go_roundg (gk - 1)
                case measure => have := HGE.out; have := hroom.out; omega
                case rel => exact ⟨Y1, e + 1, rfl, hY2, hye2.out, hnx.out, by have := HGE.out; have := hroom.out; omega, rfl⟩
              · rw [decide_eq_false hyq] at hcy
                have hsn := HI.out.snoc (e := e) (by rw [← HIL.out, ← HX.out, HYE.out]; exact hyq) (by rw [← HIL.out, ← HX.out]; exact HALL.out)
                rw [← HIL.out, ← HX.out, HYE.out] at hsn
                have HSN := Lib.hid hsn
                have hfr := HM.out.frozenAt y
                have hst := ownB_set HM.out y true
                rw [marks_snoc] at hst
                have HST := Lib.hid hst
                clear hyq hsn hst
                go_wp2
                go_roundw
                case rel => exact ⟨q ++ [(y : Int)], by rw [List.length_append, ← HIL.out]; simp; omega, by rw [List.length_append, ← HIL.out]; go_num, HSN.out, HST.out, hW.setCell (Nat.le_refl _) _⟩
                case measure => simp [intOf]; omega
          · have hd1 : decide (i < l.length) = false := decide_eq_false hlt
            have him : Hid (q.length = l.length) := by show _ = _; rw [← HIL.out]; omega
            obtain ⟨f, hf1, hf2, hf3⟩ := first_free (n := l.length + 1) (q := q) (by rw [him.out]; omega)
            have hcr := HI.out.crit him.out (f := (f : Int)) (by omega) (by omega) hf2
            have hm0 := Int.emod_nonneg ((l.length : Int) + 1 - (f : Int)) (b := (l.length : Int) + 1) (by omega)
            have hm1 := Int.emod_lt_of_pos ((l.length : Int) + 1 - (f : Int)) (b := (l.length : Int) + 1) (by omega)
            obtain ⟨K, hK⟩ : ∃ K : Nat, ((l.length : Int) + 1 - (f : Int)) % ((l.length : Int) + 1) = K := ⟨(((l.length : Int) + 1 - (f : Int)) % ((l.length : Int) + 1)).toNat, by omega⟩
            have hK2 : K ≤ l.length := by omega
            have htm : ((l.length : Int) + 1 - (f : Int)).tmod ((l.length : Int) + 1) = K := by rw [Int.tmod_eq_emod_of_nonneg (by omega)]; exact hK
            rw [hK] at hcr
            have HCR := Lib.hid hcr
            have hidx := indexB_any w.heap.size (l.length + 1) (l.length + 1) w.heap.size (marks (l.length + 1) q) f wr (by omega) (by rw [marks_get (by omega), decide_eq_false hf2]) (fun j hj => by rw [marks_get (by omega), decide_eq_true (hf3 j hj)]) HM.out
            have HIDX := Lib.hid hidx
            clear hcr hm0 hm1 hK hidx hf2 hf3
            go_wp2_with fail
            refine HIDX.out.mono ?_
            rintro e w2 ⟨rfl, rfl⟩
            go_wp2
            go_ret2
            refine ⟨⟨K, 0, rfl, fun e => absurd rfl e, ⟨fun _ => ⟨by omega, fun x hx => ?_⟩, fun _ => rfl⟩, fun _ => ⟨hK2, HCR.out⟩⟩, hW⟩
            obtain ⟨j, hj, rfl⟩ := List.getElem_of_mem hx
            have := HV.out j hj
            rwa [getD_get hj] at this

set_option maxHeartbeats 1000000 in
theorem pick_any (x : Int) (n : Nat) (w : World) (hn : 0 < n) (hn2 : n ≤ 1000000) (h1 : -9223372036854775808 ≤ x) (h2 : x ≤ 9223372036854775807) :
    Calls Try.prog 43 #[.int .i64 x, .int .i64 n] w fun e w' => (∃ k : Nat, k < n ∧ e = .returned (.int .i64 k)) ∧ w = w' := by
  have key : ∀ y : Int, 0 ≤ y → ∃ k : Nat, k < n ∧ y.tmod (n : Int) = k := fun y hy => by
    have a1 := Int.emod_nonneg y (b := (n : Int)) (by omega)
    have a2 := Int.emod_lt_of_pos y (b := (n : Int)) (by omega)
    exact ⟨(y % (n : Int)).toNat, by omega, by rw [Int.tmod_eq_emod_of_nonneg hy]; omega⟩
  go_enter Try.func43, Try.ntmps43
  by_cases hx : x < 0
  · have hd : decide (x < 0) = true := decide_eq_true hx
    obtain ⟨k, hk, he⟩ := key (-(x + 1)) (by omega)
    clear key
    go_wp2
    go_ret
    exact ⟨⟨k, hk, rfl⟩, rfl⟩
  · have hd : decide (x < 0) = false := decide_eq_false hx
    obtain ⟨k, hk, he⟩ := key x (by omega)
    clear key
    go_wp2
    go_ret
    exact ⟨⟨k, hk, rfl⟩, rfl⟩

end Go.Proofs.Ytdmpbbgcifodeaa
