/-
  A finished row put behind the others; cubes.Mirrored, Turned: what they answer.
-/
import Derived.Test.YtdmpbbgcifodeaaCube1W
namespace Go.Proofs.Ytdmpbbgcifodeaa
open Go.RowKit

/-- 'out = append(out, row)': the row was made behind out. -/
theorem wpList_pushRow {w0 w9 w : World} {B : Nat} {v u : Value} {hs : List Value} {rows : List (List Int)} {l : List Int} {n : Nat} {ops : Array Oper} {rest : List Oper} {o : Oper} {a : Act} {Q : Exit → Act → World → Prop} (hgd : o.guard = none) (s x : Operand)
    (ho : o.op = .call { callee := .builtin .append, args := #[s, x], argTypes := #[36, 36] }) (hv : a.eval s = v) (hx : a.eval x = .slice (some ⟨w.heap.size, 0, none⟩) 1 1)
    (hm : OwnM w9 B v hs rows) (h9 : Below w9.heap.size w9 w) (hn : n = l.length) (hu : w.ownsRow w9.heap.size 3 1 u n (ints l)) (hW : Below B w0 w) (hB9 : B ≤ w9.heap.size) (m : Nat) (hmm : m = rows.length) (hlen : m < 1000000)
    (h : ∀ g cap w' hs', OwnM w' B (.slice (some ⟨g, 0, none⟩) (m + 1) cap) hs' (rows ++ [l]) → Below B w0 w' → w.heap.size ≤ w'.heap.size → wpList Try.prog ops Q rest (a.put o.dst (.slice (some ⟨g, 0, none⟩) (m + 1) cap)) w') :
    wpList Try.prog ops Q (o :: rest) a (w.alloc (.cells #[u] 22)) := by
  subst hn hmm
  have hone : u.oneCell' = true := by
    rcases hu.2 with ⟨e, _⟩ | ⟨g, c, _, e, _⟩ <;> rw [e] <;> rfl
  have hm2 := hm.below h9
  have hBw : B ≤ w.heap.size := Nat.le_trans hB9 h9.size
  refine wpList_push hgd s x ho hv u hone hm2.out w.heap.size rfl hx hlen hBw (fun g cap w' h1 h2 h3 => ?_)
  have hfar := hm.far_new (u := u) (fun k hk => (hu.lt k hk).1)
  have hp := (hm2.alloc (.cells #[u] 22)).push (u := u) (l := l) ((hu.mono hB9).alloc _) hfar.1 hfar.2 rfl h1 h2 (by simpa using h3)
  exact h g cap w' _ hp ((hW.alloc hBw _).grown h2 (by simp; omega) (fun k hk => (hm2.out.lt k hk).1)) (by have := h2.size; simp at this; omega)

/-- Rows and an error. -/
def CubeOut (e : Ending) (w : World) (k : Int) (rows : List (List Int)) : Prop :=
  ∃ A c, e = .returned (.tuple #[.slice A rows.length c, .int .i64 k]) ∧ SR w w.heap.size A rows ∧ rows.length ≤ 9223372036854775807
theorem cubeOut_own {w : World} {B : Nat} {v : Value} {hs : List Value} {rows : List (List Int)} (h : OwnM w B v hs rows) (k : Int) : CubeOut (.returned (.tuple #[v, .int .i64 k])) w k rows := by
  obtain ⟨A, c, e, h1, h2, h3⟩ := h.sr
  exact ⟨A, c, by rw [e], h1, by omega⟩
theorem cubeOut_nil (w : World) (k : Int) : CubeOut (.returned (.tuple #[.slice none 0 0, .int .i64 k])) w k [] := ⟨none, 0, rfl, SR.nil _ _ _, by simp⟩

theorem gmat_take {r c j : Nat} {f : Nat → Nat → Int} (h : j < r) : (gmat r c f).take j ++ [(List.range c).map (f j)] = (gmat r c f).take (j + 1) := by
  rw [take_snoc (by rw [gmat_length]; exact h), ← getD_get (d := []), gmat_getD h]
theorem col_take {r i : Nat} {f : Nat → Int} (h : i < r) : ((List.range r).map f).take i ++ [f i] = ((List.range r).map f).take (i + 1) := by
  rw [take_snoc (by simpa using h)]; simp

set_option maxRecDepth 100000 in
set_option maxHeartbeats 2000000 in
theorem mir_any (A : Option Addr) (cap : Nat) (p : List (List Int)) (h : Int) (w : World) (hcl : p.length ≤ 9223372036854775807) (hr : SR w w.heap.size A p) :
    Calls Try.prog 47 #[.slice A p.length cap, .int .i64 h] w fun e w' => (∃ (k : Int) (rows : List (List Int)), CubeOut e w' k rows ∧ ChkPile p h k ∧ (k ≠ 0 → rows = []) ∧ (k = 0 → rows = mirOf p p.length (p.getD 0 []).length)) ∧ Below w.heap.size w w' := by
  go_enter Try.func47, Try.ntmps47
  go_wp2_with fail
  refine (ccheck_any A cap p h w hcl hr).mono ?_
  rintro e w0 ⟨⟨k, rfl, hk⟩, rfl⟩
  rcases hk with ⟨hok, rfl⟩ | ⟨hok, rfl⟩
  · have HOK := Lib.hid hok
    obtain ⟨H, hH, hp⟩ := hok
    have hr8 := hp.r1
    have hc8 := hp.c1
    obtain ⟨b, o, rfl, hb⟩ := hr.addr (by omega)
    obtain ⟨A0, c0, hc0, hr0, hl0⟩ := hr.at_ (r := 0) (by omega)
    rw [Nat.add_zero] at hc0
    obtain ⟨c, hc⟩ : ∃ c, c = (p.getD 0 []).length := ⟨_, rfl⟩
    rw [← hc] at hc0 hl0 hp hc8
    have HC := Lib.hid hc
    have HP := Lib.hid hp
    clear hc hp hH
    go_wp2
    go_loopw [7, 21] (fun ov jv wr => ∃ (j : Nat) (hs : List Value), j ≤ c ∧ jv = .int .i64 j ∧ OwnM wr w.heap.size ov hs ((mirOf p p.length c).take j) ∧ Below w.heap.size w wr) (fun _ jv _ => c - (intOf jv).toNat)
    case atStart => exact ⟨0, [], by omega, rfl, by rw [List.take_zero]; exact OwnM.nil _ _, Below.refl _ _⟩
    case round =>
      obtain ⟨j, hs, hj, rfl, hm, hW⟩ := hrel
      obtain ⟨w9, rfl⟩ : ∃ w9, w9 = wr := ⟨_, rfl⟩
      have HM := Lib.hid hm
      have hsz := hW.size
      clear hm
      by_cases hlt : j < c
      · have hd1 : decide (j < c) = true := decide_eq_true hlt
        go_wp2
        go_loopw [9, 26] (fun rv iv wz => ∃ i : Nat, i ≤ p.length ∧ iv = .int .i64 i ∧ wz.ownsRow w9.heap.size 3 1 rv i (ints (((List.range p.length).map (fun i => ent p i j)).take i)) ∧ Below w9.heap.size w9 wz) (fun _ iv _ => p.length - (intOf iv).toNat)
        case atStart => exact ⟨0, by omega, rfl, by rw [List.take_zero]; exact World.ownsRow_nil _ _ _ _, Below.refl _ _⟩
        case round =>
          obtain ⟨i, hi, rfl, hown, hW2⟩ := hrel
          have HO := Lib.hid hown
          have hWw := hW.trans (hW2.mono hsz)
          clear hown
          by_cases hlt2 : i < p.length
          · have hd2 : decide (i < p.length) = true := decide_eq_true hlt2
            obtain ⟨Ai, ci, hci, hri, _⟩ := hr.at_ (r := i) hlt2
            have hli := HP.out.rowlen hlt2
            rw [hli] at hci
            obtain ⟨b1, o1, rfl, hb1⟩ := hri.addr (by rw [hli]; omega)
            have hci := (hWw.cell (p := ⟨b, o + i, none⟩) hb).trans hci
            have hcx := getD_cell (hri.below hWw) (k := j) (by rw [hli]; exact hlt)
            rw [show (p.getD i []).getD j 0 = ent p i j from rfl] at hcx
            have hct := Lib.hid (col_take (f := fun i => ent p i j) hlt2)
            obtain ⟨x, hx⟩ : ∃ x, x = ent p i j := ⟨_, rfl⟩
            rw [← hx] at hcx
            have HX := Lib.hid hx
            clear hx hli
            go_wp2_with (first | (at_builtin; refine wpList_app1 rfl (.tmp 29) (.tmp 37) rfl rfl x HO.out rfl (by omega) hW2.size (fun g2 c2 w5 hl5 hb5 => ?_)) | fail)
            go_wp2
            go_roundw
            case rel => exact ⟨i + 1, by omega, by go_num, by rw [← hct.out, ← HX.out]; exact hl5, hW2.trans hb5⟩
            case measure => simp [intOf]; omega
          · have hd2 : decide (i < p.length) = false := decide_eq_false hlt2
            obtain rfl : i = p.length := by omega
            have hO := HO.out
            rw [List.take_of_length_le (by simp)] at hO
            obtain ⟨gr, crr, hv, _, _⟩ := hO.form (by omega)
            subst hv
            have HO1 := Lib.hid hO
            clear hO HO
            go_wp2_with (first | (at_builtin; refine wpList_pushRow (v := u7) (u := .slice (some ⟨gr, 0, none⟩) p.length crr) rfl (.tmp 40) (.tmp 42) rfl rfl rfl HM.out hW2 (by simp) HO1.out hWw hsz j (by rw [List.length_take]; unfold mirOf; rw [gmat_length]; omega) (by omega) (fun g2 c2 w5 hs5 hm5 hb5 hz5 => ?_)) | fail)
            have hts := gmat_take (r := c) (c := p.length) (f := fun j i => ent p i j) hlt
            have hm5' : OwnM w5 w.heap.size (.slice (some ⟨g2, 0, none⟩) (j + 1) c2) hs5 ((mirOf p p.length c).take (j + 1)) := by
              have hq := hm5
              unfold mirOf at hq ⊢
              rw [hts] at hq
              exact hq
            have HM5 := Lib.hid hm5'
            clear hm5 hm5' hts
            go_wp2
            go_roundw
            case rel => exact ⟨j + 1, hs5, by omega, by go_num, HM5.out, hb5⟩
            case measure => simp [intOf]; omega
      · have hd1 : decide (j < c) = false := decide_eq_false hlt
        have hjc : Hid (j = c) := by show _ = _; omega
        have hm := HM.out
        rw [List.take_of_length_le (by unfold mirOf; rw [gmat_length, hjc.out]; exact Nat.le_refl _)] at hm
        have HM' := Lib.hid hm
        clear hm
        go_wp2
        go_ret2
        exact ⟨⟨0, _, cubeOut_own HM'.out 0, .inl ⟨HOK.out, rfl⟩, fun e => absurd rfl e, fun _ => by rw [← HC.out]⟩, hW⟩
  · have HOK := Lib.hid hok
    clear hok
    go_wp2
    go_ret2
    exact ⟨⟨1, [], cubeOut_nil _ 1, .inr ⟨HOK.out, rfl⟩, fun _ => rfl, fun e => (by cases e)⟩, Below.refl _ _⟩

end Go.Proofs.Ytdmpbbgcifodeaa
