/-
  slides.Word: what it answers.
-/
import Derived.Test.YtmlmdklheiafpaaSlid2W
import Derived.Test.YtmlmdklheiafpaaSCap
import Derived.StillTailTactics
import Derived.IntWalk
namespace Go.Proofs.Ytmlmdklheiafpaa
open Go.RowKit

theorem lets_hol : ∀ {r : List Int}, (∀ j, j < r.length → hol r ≤ j → 0 < r.getD j 0) → lets r = r.drop (hol r)
  | [], _ => rfl
  | a :: t, h => by
    by_cases e : a = 0
    · have h1 : hol (a :: t) = hol t + 1 := by unfold hol; simp [List.takeWhile, e]
      have ih := lets_hol (r := t) (fun j hj hh => by
        have := h (j + 1) (by simp; omega) (by omega)
        simpa using this)
      rw [h1, lets_cons, if_neg (by omega), ih]; rfl
    · have h1 : hol (a :: t) = 0 := by unfold hol; simp [List.takeWhile, e]
      rw [h1, List.drop_zero]
      refine lets_pos (fun x hx => ?_)
      obtain ⟨j, hj, rfl⟩ := List.getElem_of_mem hx
      have := h j hj (by omega)
      rwa [getD_get hj] at this
theorem SkOk.lets {s : List (List Int)} (h : SkOk s) (i : Nat) : lets (s.getD i []) = (s.getD i []).drop (hol (s.getD i [])) := by
  refine lets_hol (fun j hj hh => ?_)
  have := ((h.1 i (rl_in hj)).2.2 j hj hh).1.1
  omega
theorem SkOk.small {T : List (List Int)} (h : SkOk T) : T.length ≤ 40 ∧ ∀ i, (T.getD i []).length ≤ 40 := by
  have h1 : ∀ (U : List (List Int)), (∀ r ∈ U, r ≠ []) → U.length ≤ boxes U := fun U => by
    induction U with
    | nil => intro _; simp
    | cons r t ih =>
      intro hu
      have := ih (fun s hs => hu s (List.mem_cons_of_mem _ hs))
      have h2 : r.length ≠ 0 := fun e => hu r (by simp) (List.eq_nil_of_length_eq_zero e)
      rw [boxes_cons]; simp; omega
  have h3 := h.2
  have h4 := h1 T (fun r hr e => by
    obtain ⟨i, hi, rfl⟩ := List.getElem_of_mem hr
    refine (h.1 i hi).1 ?_
    rw [getD_get hi, e]; rfl)
  refine ⟨by omega, fun i => ?_⟩
  by_cases hi : i < T.length
  · have h5 := boxes_take hi
    have h6 := boxes_le (T := T) (i + 1)
    omega
  · rw [List.getD_eq_getElem?_getD, List.getElem?_eq_none (by omega)]; simp
theorem rword_len : ∀ (s : List (List Int)), (rword s).length = boxes s
  | [] => rfl
  | r :: t => by rw [rword, List.length_append, rword_len t, boxes_cons]; omega
theorem sword_len (s : List (List Int)) : (sword s).length ≤ boxes s := by
  induction s with
  | nil => exact Nat.le_refl _
  | cons r t ih =>
    rw [sword_cons, List.length_append, boxes_cons]
    have : (Go.Proofs.Ytmlmdklheiafpaa.lets r).length ≤ r.length := List.length_filter_le _ _
    omega
theorem sword_drop {T : List (List Int)} {m : Nat} (h : m < T.length) : sword (T.drop m) = sword (T.drop (m + 1)) ++ lets (T.getD m []) := by
  rw [List.drop_eq_getElem_cons h, sword_cons, getD_get h]
theorem boxes_drop (T : List (List Int)) (m : Nat) : boxes (T.drop m) ≤ boxes T := by
  conv => rhs; rw [← List.take_append_drop m T, boxes_append]
  omega
theorem SkOk.word {s : List (List Int)} (h : SkOk s) : (sword s).length ≤ 40 ∧ IsWord (sword s) := by
  refine ⟨Nat.le_trans (sword_len s) h.2, fun x hx => ?_⟩
  obtain ⟨i, j, h1, rfl, h2⟩ := mem_sword hx
  have := h.sk.2 i j h1
  omega

theorem sl_drop {w : World} {B g p : Nat} {r : List Int} {x : Nat} (h : Sl w B (some ⟨g, p, none⟩) (ints r)) (hx : x ≤ r.length) : Sl w B (some ⟨g, p + x, none⟩) (ints (r.drop x)) := by
  intro hn
  rw [ints_length, List.length_drop] at hn
  obtain ⟨b', o', e1, hb, hc⟩ := h (by rw [ints_length]; omega)
  obtain ⟨rfl, rfl⟩ : g = b' ∧ p = o' := by simpa using e1
  refine ⟨g, p + x, rfl, hb, fun j u hu => ?_⟩
  have : (ints r)[x + j]? = some u := by
    rw [← hu]; unfold ints; rw [List.getElem?_map, List.getElem?_map, List.getElem?_drop]
  rw [Nat.add_assoc]
  exact hc (x + j) u this

/-- What slides.Word answers. -/
def WordOut (e : Ending) (w : World) (T : List (List Int)) : Prop :=
  ∃ (k : Int) (A : Option Addr) (c : Nat) (xs : List Int), e = .returned (.tuple #[.slice A xs.length c, .int .i64 k]) ∧ Sl w w.heap.size A (ints xs) ∧ (k = 0 → SkOk T ∧ xs = sword T) ∧ (SkOk T → k = 0)

set_option maxRecDepth 100000 in
set_option maxHeartbeats 1000000 in
theorem word_any (A : Option Addr) (cap : Nat) (T : List (List Int)) (w : World) (hT : T.length ≤ 9223372036854775807) (h : SR w w.heap.size A T) (hcp : SCap w A T.length) :
    Calls Try.prog 52 #[.slice A T.length cap] w fun e w' => WordOut e w' T ∧ Below w.heap.size w w' := by
  go_enter Try.func52, Try.ntmps52
  go_wp2_with (first | (go_at_call 76; refine (scheck_any A cap T _ hT h).mono ?_) | fail)
  rintro e w1 ⟨⟨k, rfl, hk1, hk2⟩, hb1⟩
  by_cases hk0 : k = 0
  · have hok := hk1 hk0
    have hT4 := hok.small.1
    have hcp1 := hcp.below h hb1
    have h1 := h.now hb1 (Nat.le_refl _)
    have HCP := Lib.hid hcp1
    have HOK := Lib.hid hok
    have HB1 := Lib.hid hb1
    subst hk0
    clear hk1 hk2 hok h hb1 hcp hcp1
    go_wp2
    go_loopw [5, 6] (fun ov iv wr => ∃ (m : Nat) (z : Int) (c : Nat) (A5 : Option Addr) (l : List Int), m ≤ T.length ∧ iv = .int .i64 z ∧ z + 1 = (m : Int) ∧ ov = .slice A5 l.length c ∧ l = sword (T.drop m) ∧ wr.ownsRow w1.heap.size 3 1 (.slice A5 l.length c) l.length (ints l) ∧ Below w1.heap.size w1 wr) (fun _ iv _ => (Go.RowKit.intOf iv + 1).toNat)
    case atStart => exact ⟨T.length, (T.length : Int) - 1, 0, none, [], Nat.le_refl _, rfl, by omega, rfl, by rw [List.drop_length]; rfl, World.ownsRow_nil _ _ _ _, Below.refl _ _⟩
    case round =>
      obtain ⟨m, z, c, A5, l, hm, rfl, hz, rfl, hl, ho, hW⟩ := hrel
      have hsz := hW.size
      have HO := Lib.hid ho
      have HL := Lib.hid hl
      have hl40 : l.length ≤ 40 := by
        rw [hl]; exact Nat.le_trans (sword_len _) (Nat.le_trans (boxes_drop T m) HOK.out.2)
      clear ho hl
      by_cases hz0 : 0 ≤ z
      · obtain ⟨i, rfl⟩ : ∃ i : Nat, z = i := ⟨z.toNat, by omega⟩
        have him : m = i + 1 := by omega
        subst him
        have di : decide ((0 : Int) ≤ (i : Int)) = true := decide_eq_true hz0
        have hit : i < T.length := by omega
        obtain ⟨b, o, rfl, hb⟩ := h1.addr (by omega)
        have h2 := h1.below hW
        obtain ⟨Ar, cr, hc, hr, hrl⟩ := h2.at_ hit
        have hrc := HCP.out.below h1 hW b o rfl i hit Ar _ cr hc
        have hlr := HOK.out.lets i
        have hln := (HOK.out.1 i hit).1
        have hr40 := HOK.out.small.2 i
        have hho := hol_le (T.getD i [])
        obtain ⟨r, hre⟩ : ∃ r, r = T.getD i [] := ⟨_, rfl⟩
        rw [← hre] at hc hr hrl hlr hln hr40 hho hrc
        obtain ⟨g, p, rfl, hg⟩ := hr.addr (by omega)
        have hca := holes_any (some ⟨g, p, none⟩) cr r wr.drew hrl (hr.below (below_drewN (Below.refl _ _) 1))
        obtain ⟨x1, hx1⟩ : ∃ x1, x1 = hol r := ⟨_, rfl⟩
        rw [← hx1] at hca hlr hho
        have hsl := sl_drop hr hho
        have hqd : (r.drop x1).length = r.length - x1 := List.length_drop
        obtain ⟨r2, hr2⟩ : ∃ r2, r2 = r.drop x1 := ⟨_, rfl⟩
        rw [← hr2] at hsl hqd hlr
        have hs8 : Sl wr w1.heap.size (if cr = x1 then some ⟨g, p, none⟩ else some ⟨g, p + x1, none⟩) (ints r2) := by
          by_cases e : cr = x1
          · have : r2 = [] := List.eq_nil_of_length_eq_zero (by omega)
            rw [this]; exact Sl.nil _ _ _
          · rw [if_neg e]; exact hsl
        obtain ⟨A8, hA8⟩ : ∃ A8, A8 = (if cr = x1 then some (⟨g, p, none⟩ : Addr) else some ⟨g, p + x1, none⟩) := ⟨_, rfl⟩
        rw [← hA8] at hs8
        have HA8 := Lib.hid hA8
        have HS8 := Lib.hid hs8
        clear hA8 hs8
        have hnx : Hid (l ++ r2 = sword (T.drop i)) := by
          show _ = _
          rw [sword_drop hit, ← HL.out, ← hre, hlr]
        have HCA := Lib.hid hca
        have HSL := Lib.hid hsl
        have HQD := Lib.hid hqd
        have hr2l : r2.length ≤ 40 := by omega
        clear hca hsl hqd hlr hr2 hre hr h2 hx1
        go_wp2
        go_still_tail 11, (by kernel_rfl)
        still_call (HCA.out)
        repeat still_step
        refine wpStill_nil ?_
        change wpList _ _ _ _ _ wr.drew
        rw [← HA8.out, ← HQD.out]
        obtain ⟨w7, hw7⟩ : ∃ w7, w7 = wr.drew := ⟨_, rfl⟩
        have ho7 : w7.ownsRow w1.heap.size 3 1 (.slice A5 l.length c) l.length (ints l) := by rw [hw7]; exact HO.out
        have hs7 : Sl w7 w1.heap.size A8 (ints r2) := by rw [hw7]; exact HS8.out.below (below_drewN (Below.refl _ _) 1)
        have hW7 : Below w1.heap.size w1 w7 := by rw [hw7]; exact below_drewN hW 1
        have hsz7 := hW7.size
        have HO7 := Lib.hid ho7
        have HS7 := Lib.hid hs7
        rw [← hw7]
        clear hw7 HCA HO HS8 ho7 hs7
        go_wp2_with (first | (at_builtin; refine wpList_app (l := l) (xs := r2) rfl (.tmp 19) (.tmp 29) rfl rfl HO7.out (cr - x1) rfl HS7.out (by omega) hsz7 (fun v3 w3 hv3 hb3 => ?_)) | fail)
        obtain ⟨A6, c6, rfl, _, _, _, _⟩ := own_sliceA hv3
        go_roundw
        case rel => exact ⟨i, (i : Int) - 1, c6, A6, _, by omega, by go_num, by omega, rfl, hnx.out, hv3, hW7.trans hb3⟩
        case measure => simp [Go.RowKit.intOf]
      · have di : decide ((0 : Int) ≤ z) = false := decide_eq_false hz0
        have hfin : Hid (l = sword T) := by
          show _ = _
          rw [HL.out]
          have : m = 0 := by omega
          rw [this]; rfl
        go_wp2
        go_ret2
        exact ⟨⟨0, A5, c, l, rfl, Sl.of_own HO.out, fun _ => ⟨HOK.out, hfin.out⟩, fun _ => rfl⟩, HB1.out.trans (hW.mono HB1.out.size)⟩
  · have dk : (k != 0) = true := by simpa using hk0
    have hno : Hid (¬ SkOk T) := fun hh => hk0 (hk2 hh)
    have HK0 := Lib.hid hk0
    clear hk1 hk2
    go_wp2
    go_ret2
    exact ⟨⟨k, none, 0, [], rfl, Sl.nil _ _ _, fun e => absurd e HK0.out, fun e => absurd e hno.out⟩, hb1⟩
end Go.Proofs.Ytmlmdklheiafpaa
