/-
  paths.open: what it answers.
-/
import Derived.Test.YtdmpbbgcifodeaaPt6W
namespace Go.Proofs.Ytdmpbbgcifodeaa
open Go.RowKit Go.Proofs

def openF (W H : Nat) (bar : List (Int × Int)) : List Bool := bar.foldl (fun l p => l.set (ix W p) false) (List.replicate (W * H) true)
theorem openF_snoc (W H : Nat) (bar : List (Int × Int)) (p : Int × Int) : openF W H (bar ++ [p]) = (openF W H bar).set (ix W p) false := by simp [openF]
theorem fold_len (W : Nat) : ∀ (bar : List (Int × Int)) (l : List Bool), (bar.foldl (fun l p => l.set (ix W p) false) l).length = l.length
  | [], _ => rfl
  | p :: bar, l => by
    show (bar.foldl _ (l.set (ix W p) false)).length = _
    rw [fold_len W bar, List.length_set]
theorem openF_len (W H : Nat) (bar : List (Int × Int)) : (openF W H bar).length = W * H := by
  unfold openF
  rw [fold_len, List.length_replicate]
theorem openF_take {W H : Nat} {bar : List (Int × Int)} {i : Nat} (h : i < bar.length) : openF W H (bar.take (i + 1)) = (openF W H (bar.take i)).set (ix W (bar.getD i (0, 0))) false := by
  rw [← openF_snoc, List.take_add_one, List.getElem?_eq_getElem h, getD_get h]; rfl
theorem openF_is {W H : Nat} : ∀ (n : Nat) (bar : List (Int × Int)), bar.length = n → (∀ p ∈ bar, InG W H p) → ∀ p, InG W H p → ((openF W H bar).getD (ix W p) false = true ↔ p ∉ bar)
  | 0, bar, hn, _, p, hp => by
    have : bar = [] := List.eq_nil_of_length_eq_zero hn
    subst this
    have := ix_lt hp
    simp [openF, this]
  | n + 1, bar, hn, hb, p, hp => by
    have hne : bar ≠ [] := fun e => by rw [e] at hn; cases hn
    have e := List.dropLast_concat_getLast hne
    have hd : ∀ q ∈ bar.dropLast, InG W H q := fun q hq => hb q ((List.dropLast_sublist bar).subset hq)
    have ih := openF_is n bar.dropLast (by simp [hn]) hd p hp
    have hl : InG W H (bar.getLast hne) := hb _ (List.getLast_mem hne)
    have e2 : openF W H bar = (openF W H bar.dropLast).set (ix W (bar.getLast hne)) false := by rw [← openF_snoc, e]
    rw [e2, free_set hl hp (openF_len ..), ih]
    constructor
    · rintro ⟨g1, g2⟩ hm
      rw [← e] at hm
      rcases List.mem_append.1 hm with g | g
      · exact g1 g
      · rw [List.mem_singleton] at g; exact g2 g
    · intro hm
      refine ⟨fun g => hm ((List.dropLast_sublist bar).subset g), fun g => hm (by rw [g]; exact List.getLast_mem hne)⟩
def trueTo (n i : Nat) : List Bool := (List.range n).map (fun j => decide (j < i))
theorem trueTo_len (n i : Nat) : (trueTo n i).length = n := by simp [trueTo]
theorem trueTo_zero (n : Nat) : trueTo n 0 = List.replicate n false := by
  unfold trueTo
  apply List.ext_getElem (by simp)
  intro i h1 h2
  simp
theorem trueTo_full (n : Nat) : trueTo n n = List.replicate n true := by
  unfold trueTo
  apply List.ext_getElem (by simp)
  intro i h1 h2
  have : i < n := by simpa using h2
  simp [this]
theorem trueTo_set {n i : Nat} : (trueTo n i).set i true = trueTo n (i + 1) := by
  apply List.ext_getElem (by simp [trueTo])
  intro j h1 h2
  rw [List.getElem_set]
  simp only [trueTo, List.getElem_map, List.getElem_range]
  by_cases e : i = j
  · rw [if_pos e, ← e]; simp
  · rw [if_neg e, decide_eq_decide]; omega
theorem trueTo_get {n i : Nat} (h : i < n) : (trueTo n i)[i]? = some false := by simp [trueTo, h]
theorem inG_of {W H : Nat} {p : Int × Int} (h : inB W H p = true) : InG W H p := by
  obtain ⟨h1, h2, h3, h4⟩ := inB_true.1 h
  exact ⟨h1, h2, h3, h4⟩
theorem pix_any (W : Nat) (H : Int) (p : Int × Int) {H' : Nat} (bv : Value) (w : World) (hW : W ≤ 8) (hH : H' ≤ 8) (hp : InG W H' p) :
    Calls Try.prog 104 #[.agg #[.int .i64 W, .int .i64 H, bv], .agg #[.int .i64 p.1, .int .i64 p.2]] w fun e w' => e = .returned (.int .i64 (ix W p : Nat)) ∧ Below w.heap.size w w' := by
  rw [ix_eq hp]
  obtain ⟨h1, h2, h3, h4⟩ := hp
  exact point_any W H p.1 p.2 bv w ⟨by omega, by omega⟩ ⟨h1, by omega⟩ ⟨h2, by omega⟩

set_option maxRecDepth 100000 in
set_option maxHeartbeats 2000000 in
theorem open_any (W H : Nat) (A : Option Addr) (cap : Nat) (bar : List (Int × Int)) (w : World) (hg : GridOk W H bar) (hl : bar.length ≤ 1000000) (h : Sl w w.heap.size A (pcells bar)) :
    Calls Try.prog 68 #[.agg #[.int .i64 W, .int .i64 H, .slice A bar.length cap]] w fun e w' => ∃ G, e = .returned (.slice (some ⟨G, 0, none⟩) (W * H) (W * H)) ∧ w'.ownsRow w.heap.size 4 1 (.slice (some ⟨G, 0, none⟩) (W * H) (W * H)) (W * H) (bools (openF W H bar)) ∧ Below w.heap.size w w' := by
  obtain ⟨w0, hw0⟩ : ∃ w0, w0 = w.alloc (.cells #[.int .i64 W, .int .i64 H, .slice A bar.length cap] 43) := ⟨_, rfl⟩
  have hb0 : Below w.heap.size w w0 := by rw [hw0]; exact (Below.refl _ _).alloc (Nat.le_refl _) _
  have g1 : w0.cell? ⟨w.heap.size, 0, none⟩ = some (.int .i64 W) := by rw [hw0, World.cell?_alloc_at _ _ _ _ rfl]; rfl
  have g2 : w0.cell? ⟨w.heap.size, 1, none⟩ = some (.int .i64 H) := by rw [hw0, World.cell?_alloc_at _ _ _ _ rfl]; rfl
  have g3 : w0.cell? ⟨w.heap.size, 2, none⟩ = some (.slice A bar.length cap) := by rw [hw0, World.cell?_alloc_at _ _ _ _ rfl]; rfl
  have hz0 : w0.heap.size = w.heap.size + 1 := by rw [hw0]; simp
  have hs0 := h.below hb0
  have HB0 := Lib.hid hb0
  have HZ0 := Lib.hid hz0
  have HG := Lib.hid hg
  have hr := hg.1
  have hWH : W * H ≤ 8 * 8 := Nat.mul_le_mul (by omega) (by omega)
  have hW8 : W ≤ 8 := by omega
  have hH8 : H ≤ 8 := by omega
  obtain ⟨n, hn⟩ : ∃ n, n = W * H := ⟨_, rfl⟩
  have wm : IntKind.i64.wrap ((W : Int) * (H : Int)) = ((n : Nat) : Int) := by
    have : (W : Int) * (H : Int) = ((W * H : Nat) : Int) := by simp
    rw [this, hn, IntWalk.i64_in _ (by omega)]
  rw [← hn] at hWH ⊢
  have HN := Lib.hid hn
  clear hn hr hg
  go_enter Try.func68, Try.ntmps68
  go_upto_region 1 with fail
  rw [← hw0]
  clear hw0 h hb0 hz0
  go_wp2_with (first | (refine wpList_mkB (base := w.heap.size) rfl (.tmp 11) (.tmp 11) rfl n rfl rfl (by omega) (by have := HZ0.out; omega) (fun w2 hown2 hb2 hz2 => ?_)) | fail)
  rw [← trueTo_zero] at hown2
  have HO2 := Lib.hid hown2
  have HB2 := Lib.hid hb2
  clear hown2 hb2 hz2
  obtain ⟨G, hG⟩ : ∃ G, G = w0.heap.size := ⟨_, rfl⟩
  rw [← hG] at HO2 ⊢
  have HGE := Lib.hid hG
  clear hG
  go_wp2
  go_loopw [15] (fun iv wr => ∃ i : Nat, i ≤ n ∧ iv = .int .i64 i ∧ wr.ownsRow w.heap.size 4 1 (.slice (some ⟨G, 0, none⟩) n n) n (bools (trueTo n i)) ∧ Below w0.heap.size w0 wr) (fun iv _ => n - (intOf iv).toNat)
  case atStart => exact ⟨0, Nat.zero_le _, rfl, HO2.out, HB2.out⟩
  case round =>
    clear HO2 HB2
    obtain ⟨i, hi, rfl, ho, hW⟩ := hrel
    have HO := Lib.hid ho
    have HW := Lib.hid hW
    clear ho hW
    by_cases hlt : i < n
    · have di : decide (i < n) = true := decide_eq_true hlt
      have hc := ownB_get HO.out (trueTo_get hlt)
      have hf := HO.out.frozenAt i
      have hst := ownB_set HO.out i true
      rw [trueTo_set] at hst
      have HST := Lib.hid hst
      clear hst
      go_wp2
      go_roundw
      case rel => exact ⟨i + 1, by omega, by go_num, HST.out, HW.out.setCell (p := ⟨G, i, none⟩) (by show w0.heap.size ≤ G; rw [HGE.out]; exact Nat.le_refl _) _⟩
      case measure => simp [intOf]; omega
    · have di : decide (i < n) = false := decide_eq_false hlt
      have hie : i = n := by omega
      have ho := HO.out
      rw [hie, trueTo_full] at ho
      have k3 := cell_keep HW.out g3
      have HO3 := Lib.hid ho
      clear ho hie
      obtain ⟨w3, hw3⟩ : ∃ w3, w3 = wr := ⟨_, rfl⟩
      rw [← hw3] at HO3 HW k3 ⊢
      clear hw3 HO
      go_wp2
      go_loopw [25] (fun iv wr => ∃ j : Nat, j ≤ bar.length ∧ iv = .int .i64 j ∧ wr.ownsRow w.heap.size 4 1 (.slice (some ⟨G, 0, none⟩) n n) n (bools (openF W H (bar.take j))) ∧ Below w0.heap.size w0 wr) (fun iv _ => bar.length - (intOf iv).toNat)
      case atStart => exact ⟨0, Nat.zero_le _, rfl, by rw [HN.out] at HO3 ⊢; exact HO3.out, HW.out⟩
      case round =>
        clear HO3 HW k3
        obtain ⟨j, hj, rfl, ho, hW⟩ := hrel
        have HO := Lib.hid ho
        have HW := Lib.hid hW
        clear ho hW
        by_cases hlt2 : j < bar.length
        · have dj : decide (j < bar.length) = true := decide_eq_true hlt2
          have hsl : Sl wr w.heap.size A (pcells bar) := hs0.below (HW.out.mono (by have := HZ0.out; omega))
          obtain ⟨b, o, rfl, hb⟩ := psl_addr hsl (by omega)
          obtain ⟨hc1, hc2⟩ := psl_at hsl hlt2
          have hin : InG W H (bar.getD j (0, 0)) := inG_of (HG.out.2.2 _ (by rw [getD_get hlt2]; exact List.getElem_mem hlt2))
          have htk := openF_take (W := W) (H := H) hlt2
          obtain ⟨p, hp⟩ : ∃ p, p = bar.getD j (0, 0) := ⟨_, rfl⟩
          rw [← hp] at hc1 hc2 hin htk
          have hba : Below wr.heap.size wr (wr.alloc (.cells #[.int .i64 p.1, .int .i64 p.2] 48)) := (Below.refl _ _).alloc (Nat.le_refl _) _
          have m1 := cell_keep hba (cell_keep HW.out g1)
          have m2 := cell_keep hba (cell_keep HW.out g2)
          have m3 := cell_keep hba (cell_keep HW.out g3)
          have hpx := pix_any W H p (.slice (some ⟨b, o, none⟩) bar.length cap) (wr.alloc (.cells #[.int .i64 p.1, .int .i64 p.2] 48)) hW8 hH8 hin
          have hil := ix_lt hin
          rw [← HN.out] at hil
          have ho1 := HO.out.alloc (.cells #[.int .i64 p.1, .int .i64 p.2] 48)
          have hw1 := heldB_trans HW.out hba
          have HPX := Lib.hid hpx
          have HTK := Lib.hid htk
          have HO1 := Lib.hid ho1
          have HW1 := Lib.hid hw1
          obtain ⟨x, hx⟩ : ∃ x, x = p.1 := ⟨_, rfl⟩
          obtain ⟨y, hy⟩ : ∃ y, y = p.2 := ⟨_, rfl⟩
          obtain ⟨k, hk⟩ : ∃ k, k = ix W p := ⟨_, rfl⟩
          rw [← hx] at hc1 m1 m2 m3 HPX HO1 HW1
          rw [← hy] at hc2 m1 m2 m3 HPX HO1 HW1
          rw [← hk] at hil HPX HTK
          clear hp hba hpx htk ho1 hw1 hx hy hk hin hsl HO HW
          go_wp2_with (first | (go_at_call 104; refine (HPX.out).mono ?_; rintro e w9 ⟨rfl, hb9⟩; have ho9 := own_below HO1.out hb9; have hz9 : (bools (openF W H (bar.take j)))[k]? = some (.bool ((openF W H (bar.take j)).getD k false)) := (by rw [bools, List.getElem?_map, List.getElem?_eq_getElem (by rw [openF_len, ← HN.out]; exact hil), getD_get (by rw [openF_len, ← HN.out]; exact hil)]; rfl); have hc9 := (ho9.cellAt k (by omega)).trans hz9; have hf9 := ho9.frozenAt k; have HO9 := Lib.hid ho9; have HB9 := Lib.hid hb9; clear ho9 hb9 hz9) | fail)
          have hst := ownB_set HO9.out k false
          rw [← HTK.out] at hst
          have HST := Lib.hid hst
          have hW9 := (heldB_trans HW1.out HB9.out)
          have hW9' := Below.setCell (B := w0.heap.size) hW9 (p := ⟨G, k, none⟩) (by show w0.heap.size ≤ G; rw [HGE.out]; exact Nat.le_refl _) (.bool false)
          have HW9 := Lib.hid hW9'
          clear hst hW9 hW9' m1 m2 m3
          go_wp2
          go_roundw
          case rel => exact ⟨j + 1, by omega, by go_num, HST.out, HW9.out⟩
          case measure => simp [intOf]; omega
        · have dj : decide (j < bar.length) = false := decide_eq_false hlt2
          have hje : j = bar.length := by omega
          have ho := HO.out
          rw [hje, List.take_length] at ho
          have HO4 := Lib.hid ho
          have hWf : Below w.heap.size w wr := HB0.out.trans (HW.out.mono (by have := HZ0.out; omega))
          clear ho hje
          go_wp2
          go_ret
          exact ⟨G, rfl, HO4.out, hWf⟩
end Go.Proofs.Ytdmpbbgcifodeaa
