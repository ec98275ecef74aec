/-
  parking.Code.
-/
import Derived.Test.YtdmpbbgcifodeaaCodL
import Derived.Test.YtdmpbbgcifodeaaQueL
import Derived.Deep.RegionHeld3
namespace Go.Proofs.Ytdmpbbgcifodeaa
open Go.RowKit

def CodeT (l : List Edge) : Prop := TreeB l 1 (l.length + 1) ∧ 1 ≤ l.length ∧ l.length ≤ 19
def PCode (l : List Edge) (e : Ending) (w' : World) : Prop :=
  (CodeT l ∧ ∃ A cap c, Run (upTo (l.length + 1)) c l ∧ e = .returned (.tuple #[.slice A c.length cap, .int .i64 0]) ∧ Sl w' w'.heap.size A (ints c)) ∨
  (¬ CodeT l ∧ ∃ k : Int, k ≠ 0 ∧ e = .returned (.tuple #[.slice none 0 0, .int .i64 k]))
theorem merges_ne : ∀ {l : List Edge} {f : Int → Int}, Merges f l → ∀ x ∈ l, x.1 ≠ x.2
  | y :: l, f, h, x, hx => by
    rcases List.mem_cons.1 hx with rfl | hx
    · exact fun e => h.1 (by rw [e])
    · exact merges_ne h.2 x hx
theorem CodeT.run {l : List Edge} (h : CodeT l) : ∃ c, Run (upTo (l.length + 1)) c l := by
  obtain ⟨⟨h1, h2, h3⟩, h4, h5⟩ := h
  have hin : ∀ x ∈ l, x.1 ∈ upTo (l.length + 1) ∧ x.2 ∈ upTo (l.length + 1) := fun x hx => by
    have := h2 x hx
    exact ⟨mem_upTo.2 (by omega), mem_upTo.2 (by omega)⟩
  have ht := (tree_iff (nodup_upTo (l.length + 1)) (by rw [length_upTo]) hin).1 h3
  obtain ⟨k, hk⟩ : ∃ k, l.length = k + 1 := ⟨l.length - 1, by omega⟩
  exact run_of_tree k _ l (by rw [length_upTo]; omega) (upTo_sorted _) ht (merges_ne h3)
theorem Try.infoIS : (Try.prog.info? 22).map (fun i => (i.zero, i.size, i.bytes)) = some (some (.slice none 0 0), 1, 24) := by kernel_rfl
theorem CSt.start (w : World) (n : Nat) (hn : n ≤ 1000) : AllR (w.alloc (.cells (madeCells #[.slice none 0 0] n) 22)) w.heap.size (CG.mk n w.heap.size (Reg.none 3) (.slice none 0 0) [] (fun _ => .slice none 0 0) (fun _ => [])).reg := by
  refine ⟨fun x => ?_, fun x y hxy => ?_⟩
  · match x with
    | 0 =>
      have := own_obj (B := w.heap.size) (z := 1) (n := n) (heap_alloc_new w (.cells (madeCells #[.slice none 0 0] n) 22)) (Nat.le_refl _) (by omega) (by rw [size_madeCells]; simp)
      have e : (madeCells #[Value.slice none 0 0] n).toList = (List.range n).map (fun _ => Value.slice none 0 0) := by rw [toList_madeCells_one, List.map_const', List.length_range]
      rw [e] at this
      exact this
    | 1 => exact World.ownsRow_nil _ _ _ _
    | 2 => exact World.ownsRow_nil _ _ _ _
    | i + 3 => exact World.ownsRow_nil _ _ _ _
  · intro b h1 h2
    match x, y, hxy with
    | 0, 0, hxy => exact absurd rfl hxy
    | 0, 1, _ => simp [CG.reg, Reg.none, Value.ownBlock] at h2
    | 0, 2, _ => simp [CG.reg, Value.ownBlock] at h2
    | 0, i + 3, _ => simp [CG.reg, Value.ownBlock] at h2
    | 1, _, _ => simp [CG.reg, Reg.none, Value.ownBlock] at h1
    | 2, _, _ => simp [CG.reg, Value.ownBlock] at h1
    | i + 3, _, _ => simp [CG.reg, Value.ownBlock] at h1
theorem nb_two {l : List Edge} {i a b : Nat} (hi : i < l.length) (he : l.getD i (0, 0) = ((a : Int), (b : Int))) :
    at1 (at1 (fun u : Nat => nb (l.take i) (u : Int)) a (nb (l.take i) (a : Int) ++ [(b : Int)])) b (at1 (fun u : Nat => nb (l.take i) (u : Int)) a (nb (l.take i) (a : Int) ++ [(b : Int)]) b ++ [(a : Int)]) = fun u : Nat => nb (l.take (i + 1)) (u : Int) := by
  have e1 : l.take (i + 1) = l.take i ++ [((a : Int), (b : Int))] := by rw [take_snoc hi, ← he, getD_get hi]
  funext u
  rw [e1, nb_snoc]
  unfold nb1 at1
  simp only
  by_cases h1 : u = b
  · subst h1
    by_cases h2 : u = a
    · subst h2; simp
    · have : ¬ (a : Int) = (u : Int) := by omega
      simp [h2, this]
  · have h1' : ¬ (b : Int) = (u : Int) := by omega
    by_cases h2 : u = a
    · subst h2; simp [h1, h1']
    · have : ¬ (a : Int) = (u : Int) := by omega
      simp [h1, h2, h1', this]

theorem nb_le (E : List Edge) (u : Int) : (nb E u).length ≤ 2 * E.length := by
  induction E with
  | nil => simp [nb_nil]
  | cons x E ih =>
    rw [nb_cons, List.length_append, List.length_cons]
    have : (nb1 u x).length ≤ 2 := by
      unfold nb1
      rw [List.length_append]
      split <;> split <;> simp
    omega
open Classical in
set_option maxRecDepth 100000 in
set_option maxHeartbeats 8000000 in
theorem code_any (A : Option Addr) (cap : Nat) (l : List Edge) (w : World) (hcl : l.length ≤ 2000000) (h : Sl w w.heap.size A (pcells l)) :
    Calls Try.prog 55 #[.slice A l.length cap] w fun e w' => PCode l e w' ∧ Below w.heap.size w w' := by
  have hno : Hid (∀ (k : Int) w', ¬ CodeT l → k ≠ 0 → PCode l (.returned (.tuple #[.slice none 0 0, .int .i64 k])) w') := fun k w' hh hk => .inr ⟨hh, k, hk, rfl⟩
  go_enter Try.func55, Try.ntmps55
  obtain ⟨n, hn'⟩ : ∃ n, n = l.length + 1 := ⟨_, rfl⟩
  have hn : (l.length : Int) + 1 = (n : Int) := by omega
  by_cases hbig : l.length ≤ 19
  · have d0 : decide ((20 : Int) < (n : Int)) = false := decide_eq_false (by omega)
    have d0' : decide (20 < n) = false := decide_eq_false (by omega)
    by_cases hone : l.length < 1
    · have d1 : decide ((n : Int) < 2) = true := decide_eq_true (by omega)
      have d1' : decide (n < 2) = true := decide_eq_true (by omega)
      have hf := Lib.hid (hno.out 1 w (fun hh => by have := hh.2.1; omega) (by decide))
      clear hno h hn'
      go_wp2
      go_ret2
      exact ⟨hf.out, Below.refl _ _⟩
    · have d1 : decide ((n : Int) < 2) = false := decide_eq_false (by omega)
      have d1' : decide (n < 2) = false := decide_eq_false (by omega)
      have HT := Lib.hid (tree_any A cap l 1 n w (Nat.le_refl _) (by omega) (by omega) h)
      obtain ⟨tb, htb⟩ : ∃ tb, tb = decide (TreeB l 1 n) := ⟨_, rfl⟩
      rw [← htb] at HT
      have HTB := Lib.hid htb
      have HS := Lib.hid h
      have HN := Lib.hid hn'
      clear h htb hn'
      go_upto_region 5 with (first | (go_at_call 95; refine HT.out.mono ?_) | fail)
      rintro e w1 ⟨rfl, hb1⟩
      cases tb with
      | false =>
        have hf := Lib.hid (hno.out 1 w1 (fun hh => by
          have h1 := hh.1
          rw [← HN.out] at h1
          have h2 := HTB.out
          rw [decide_eq_true h1] at h2
          cases h2) (by decide))
        clear hno HTB HT HS
        go_wp2
        go_ret2
        exact ⟨hf.out, hb1⟩
      | true =>
        have hct : CodeT l := ⟨by rw [← HN.out]; exact of_decide_eq_true HTB.out.symm, by omega, by omega⟩
        obtain ⟨c, hc⟩ := hct.run
        rw [← HN.out] at hc
        have hlen := hc.len
        have hrg : ∀ x ∈ l, ((1 : Int) ≤ x.1 ∧ x.1 ≤ n) ∧ ((1 : Int) ≤ x.2 ∧ x.2 ≤ n) := by
          have := hct.1.2.1
          rw [← HN.out] at this
          exact this
        have hne : ∀ x ∈ l, x.1 ≠ x.2 := merges_ne hct.1.2.2
        rw [length_upTo] at hlen
        have hlc : l.length = c.length + 1 := hlen.2
        have hnc : n = c.length + 2 := hlen.1
        obtain ⟨n1, hn1'⟩ : ∃ k, k = n + 1 := ⟨_, rfl⟩
        have hn1 : (n : Int) + 1 = (n1 : Int) := by omega
        have HN1 := Lib.hid hn1'
        have HCT := Lib.hid hct
        have HC := Lib.hid hc
        have HRG := Lib.hid hrg
        have HNE := Lib.hid hne
        have HLC := Lib.hid hlc
        have HNC := Lib.hid hnc
        have hn21 : n1 ≤ 21 := by omega
        have hn2 : 2 ≤ n := by omega
        have hn20 : n ≤ 20 := by omega
        clear hno HTB HT hct hc hrg hne hlc hnc hlen hn1' d0 d0' d1 d1' hone hbig
        obtain ⟨i0, hi0, hz0, hz1, hz2⟩ := info_parts Try.infoIS
        have hmk := fun w => run_make (P := Try.prog) w 36 22 i0 (.slice none 0 0) Try.underlying36 hi0 hz0 .i64 .i64 n1 n1 (by omega) (by omega) (by rw [hz2]; omega) (by omega)
        go_upto_region 7 with fail
        obtain ⟨gA, hgA⟩ : ∃ g, g = w1.heap.size := ⟨_, rfl⟩
        have hsz1 := hb1.size
        have hst : CSt w (w1.alloc (.cells (madeCells #[.slice none 0 0] n1) 22)) n1 gA w.heap.size (Reg.none 3) (.slice none 0 0) [] (fun u : Nat => nb (l.take 0) (u : Int)) := by
          rw [hgA]
          exact ⟨_, (CSt.start w1 n1 (by omega)).base (by omega), hb1.alloc (by omega) _⟩
        have HST := Lib.hid hst
        rw [← hgA]
        obtain ⟨w2, hw2⟩ : ∃ w2, w2 = w1.alloc (.cells (madeCells #[.slice none 0 0] n1) 22) := ⟨_, rfl⟩
        rw [← hw2] at HST ⊢
        clear hgA hst hw2 hmk hi0 hz0 hz1 hz2 hb1 hsz1
        obtain ⟨N, hN⟩ : ∃ N, N = w.heap.size := ⟨_, rfl⟩
        rw [← hN] at HST
        have HNE0 := Lib.hid hN
        clear hN
        go_wp2
        go_loopw [29] (fun kv wr => ∃ (i : Nat) (bx : Reg), i ≤ l.length ∧ kv = .int .i64 i ∧ CSt w wr n1 gA N bx (.slice none 0 0) [] (fun u : Nat => nb (l.take i) (u : Int))) (fun kv _ => l.length - (intOf kv).toNat)
        case atStart => exact ⟨0, _, Nat.zero_le _, rfl, HST.out⟩
        case round =>
          obtain ⟨w9, rfl⟩ : ∃ w9, w9 = wr := ⟨_, rfl⟩
          clear HST
          obtain ⟨i, bx, hi, rfl, hst⟩ := hrel
          by_cases hil : i < l.length
          · have di : decide (i < l.length) = true := decide_eq_true hil
            have di2 : decide ((i : Int) < (l.length : Int)) = true := decide_eq_true (by omega)
            obtain ⟨b0, o0, rfl, hb0⟩ := psl_addr HS.out (by omega)
            obtain ⟨q1, q2⟩ := psl_at HS.out hil
            obtain ⟨vA, hall, hW⟩ := hst
            have hb0N : b0 < N := by rw [HNE0.out]; exact hb0
            have q1 := (hW.cell (p := ⟨b0, o0 + i * 2, none⟩) hb0N).trans q1
            have q2 := (hW.cell (p := ⟨b0, o0 + i * 2 + 1, none⟩) hb0N).trans q2
            obtain ⟨x, hx⟩ : ∃ x, x = l.getD i (0, 0) := ⟨_, rfl⟩
            have hxm : x ∈ l := by rw [hx, getD_get hil]; exact List.getElem_mem hil
            have hxr := HRG.out x hxm
            rw [← hx] at q1 q2
            obtain ⟨y, z⟩ := x
            simp only at q1 q2 hxr
            obtain ⟨a, rfl⟩ : ∃ k : Nat, y = k := ⟨y.toNat, by omega⟩
            obtain ⟨b, rfl⟩ : ∃ k : Nat, z = k := ⟨z.toNat, by omega⟩
            have ha : a < n1 := by have := HN1.out; omega
            have hb : b < n1 := by have := HN1.out; omega
            have hNs : N ≤ w9.heap.size := (CSt.le hall).1
            have HX := Lib.hid hx.symm
            have HALL := Lib.hid hall
            have HW := Lib.hid hW
            clear hx hxm hall hW hxr hb0N
            have hRs : l.length ≤ 19 := by omega
            go_upto_block 1 with fail
            go_cut [] (fun wy => ∃ bx', CSt w wy n1 gA N bx' (.slice none 0 0) [] (fun u : Nat => nb (l.take (i + 1)) (u : Int)))
            case first =>
              clear HS HCT HC HRG HNE HLC HNC HN HN1 HNE0 di di2 hcl hi hn hn1 hn2 hb0
              go_upto_region 10 with fail
              have hlay := CSt.lay HALL.out (cur := #[.int .i64 (a : Int), .int .i64 (b : Int)]) (e := 81) (z := 2) rfl
              have hW8 := HW.out.alloc hNs (.cells #[.int .i64 (a : Int), .int .i64 (b : Int)] 81)
              obtain ⟨X, hX⟩ : ∃ X, X = w9.heap.size := ⟨_, rfl⟩
              obtain ⟨w8, hw8⟩ : ∃ w8, w8 = w9.alloc (.cells #[.int .i64 (a : Int), .int .i64 (b : Int)] 81) := ⟨_, rfl⟩
              rw [← hX, ← hw8] at hlay
              rw [← hw8] at hW8
              rw [← hX, ← hw8]
              have hlay : AllR w8 N (CG.mk n1 gA ⟨81, 2, .slice (some ⟨X, 0, none⟩) 1 1, 1, [.int .i64 (a : Int), .int .i64 (b : Int)]⟩ (.slice none 0 0) [] vA (fun u : Nat => nb (l.take i) (u : Int))).reg := hlay
              have HALL8 := Lib.hid hlay
              have HW8 := Lib.hid hW8
              clear hlay hW8 hX hw8 q1 q2 HALL HW hNs
              obtain ⟨rA, hrA⟩ : ∃ rA, rA = fun u : Nat => nb (l.take i) (u : Int) := ⟨_, rfl⟩
              obtain ⟨rB, hrB⟩ : ∃ rB, rB = at1 rA a (rA a ++ [(b : Int)]) := ⟨_, rfl⟩
              have e2 := nb_two hil HX.out
              rw [show nb (l.take i) (a : Int) = rA a by rw [hrA], ← hrA, ← hrB] at e2
              have hRA : (rA a).length ≤ 100 := by
                have hRl := nb_le (l.take i) (a : Int)
                rw [List.length_take] at hRl
                rw [hrA]
                show (nb (l.take i) (a : Int)).length ≤ 100
                omega
              have hRB : (rB b).length ≤ 100 := by
                have h1 := nb_le (l.take i) (a : Int)
                have h2 := nb_le (l.take i) (b : Int)
                rw [List.length_take] at h1 h2
                rw [hrB, hrA]
                show (if b = a then nb (l.take i) (a : Int) ++ [(b : Int)] else nb (l.take i) (b : Int)).length ≤ _
                split
                · rw [List.length_append]; simp; omega
                · omega
              rw [← hrA] at HALL8
              have HRB := Lib.hid hrB
              have HE2 := Lib.hid e2
              clear hrA hrB e2
              go_cut [] (fun wy => CSt w wy n1 gA N ⟨81, 2, .slice (some ⟨X, 0, none⟩) 1 1, 1, [.int .i64 (a : Int), .int .i64 (b : Int)]⟩ (.slice none 0 0) [] rB)
              case first =>
                have hown := HALL8.out.oR (i := a) (bs := rA a) rfl
                have HV := Lib.hid hown
                have hNs : N ≤ w8.heap.size := (CSt.le HALL8.out).1
                have c1 := CSt.box HALL8.out (j := 0) (u := .int .i64 (a : Int)) (by decide) rfl
                have c2 := CSt.box HALL8.out (j := 1) (u := .int .i64 (b : Int)) (by decide) rfl
                have c3 : w8.cell? ⟨gA, a, none⟩ = some (vA a) := HALL8.out.cR (i := a) ha
                have c4 : ∀ o, (w8.alloc o).cell? ⟨X, 0, none⟩ = some (.int .i64 (a : Int)) := fun o => CSt.box (HALL8.out.alloc o) (j := 0) (by decide) rfl
                have c5 : ∀ o, (w8.alloc o).cell? ⟨X, 1, none⟩ = some (.int .i64 (b : Int)) := fun o => CSt.box (HALL8.out.alloc o) (j := 1) (by decide) rfl
                have c6 : ∀ o, (w8.alloc o).cell? ⟨gA, a, none⟩ = some (vA a) := fun o => (HALL8.out.alloc o).cR (i := a) ha
                obtain ⟨R, hR⟩ : ∃ R, R = rA a := ⟨_, rfl⟩
                have HRE := Lib.hid hR
                rw [← hR] at HV hRA
                clear hown hR HX HE2 hRB
                go_wp2
                go_region_law (first | (refine step_app1I (base := N) (l := R) (v := vA a) ?_ (.tmp 40) (.tmp 43) ?_ ?_ (b : Int) R.length w8.heap.size ?_ ?_ ?_ ?_ ?_ ?_; (· rfl); (· rfl); (· rfl); (· rfl); (· exact own_drew (HV.out.alloc _)); (· exact heap_alloc_new _ _); (· omega); (· (show _ ≤ (World.drew _).heap.size; simp; omega)); intro g2 c2' w6 hl6 hg6 hat6 hlt6; have hq := CSt.left (HALL8.out.alloc (.cells #[.int .i64 (b : Int)] 3)).drew ha hg6; have q1 := hq.1; have q2 := hq.2; have q3 := hg6.cell (CSt.box (HALL8.out.alloc (.cells #[.int .i64 (b : Int)] 3)).drew (j := 0) (u := .int .i64 (a : Int)) (by decide) rfl) (fun e => (CSt.boxNe HALL8.out).2 a e.symm); have q4 := hg6.cell (CSt.box (HALL8.out.alloc (.cells #[.int .i64 (b : Int)] 3)).drew (j := 1) (u := .int .i64 (b : Int)) (by decide) rfl) (fun e => (CSt.boxNe HALL8.out).2 a e.symm); have HL6 := Lib.hid hl6; have HG6 := Lib.hid hg6; have HAT6 := Lib.hid hat6; clear hq hl6 hat6 hg6) | fail)
                all_goals
                  go_wp2
                  go_meet
                  rw [HRB.out, ← HRE.out]
                  exact CSt.app (HALL8.out.alloc _).drew (below_drewN (HW8.out.alloc hNs _) 1) (by simp) HL6.out HG6.out HAT6.out
              case rest =>
                obtain ⟨vA2, hall, hW⟩ := hcut
                have HALL9 := Lib.hid hall
                have HW9 := Lib.hid hW
                clear hall hW HALL8 HW8
                have hown := HALL9.out.oR (i := b) (bs := rB b) rfl
                have HV := Lib.hid hown
                have hNs : N ≤ wc.heap.size := (CSt.le HALL9.out).1
                have c1 := CSt.box HALL9.out (j := 0) (u := .int .i64 (a : Int)) (by decide) rfl
                have c2 := CSt.box HALL9.out (j := 1) (u := .int .i64 (b : Int)) (by decide) rfl
                have c3 : wc.cell? ⟨gA, b, none⟩ = some (vA2 b) := HALL9.out.cR (i := b) hb
                have c4 : ∀ o, (wc.alloc o).cell? ⟨X, 0, none⟩ = some (.int .i64 (a : Int)) := fun o => CSt.box (HALL9.out.alloc o) (j := 0) (by decide) rfl
                have c5 : ∀ o, (wc.alloc o).cell? ⟨X, 1, none⟩ = some (.int .i64 (b : Int)) := fun o => CSt.box (HALL9.out.alloc o) (j := 1) (by decide) rfl
                have c6 : ∀ o, (wc.alloc o).cell? ⟨gA, b, none⟩ = some (vA2 b) := fun o => (HALL9.out.alloc o).cR (i := b) hb
                obtain ⟨R, hR⟩ : ∃ R, R = rB b := ⟨_, rfl⟩
                have HRE := Lib.hid hR
                rw [← hR] at HV hRB
                clear hown hR HX HRB hRA
                go_wp2
                go_region_law (first | (refine step_app1I (base := N) (l := R) (v := vA2 b) ?_ (.tmp 53) (.tmp 56) ?_ ?_ (a : Int) R.length wc.heap.size ?_ ?_ ?_ ?_ ?_ ?_; (· rfl); (· rfl); (· rfl); (· rfl); (· exact own_drew (HV.out.alloc _)); (· exact heap_alloc_new _ _); (· omega); (· (show _ ≤ (World.drew _).heap.size; simp; omega)); intro g2 c2' w6 hl6 hg6 hat6 hlt6; have hq := CSt.left (HALL9.out.alloc (.cells #[.int .i64 (a : Int)] 3)).drew hb hg6; have q1 := hq.1; have q2 := hq.2; have q3 := hg6.cell (CSt.box (HALL9.out.alloc (.cells #[.int .i64 (a : Int)] 3)).drew (j := 0) (u := .int .i64 (a : Int)) (by decide) rfl) (fun e => (CSt.boxNe HALL9.out).2 b e.symm); have q4 := hg6.cell (CSt.box (HALL9.out.alloc (.cells #[.int .i64 (a : Int)] 3)).drew (j := 1) (u := .int .i64 (b : Int)) (by decide) rfl) (fun e => (CSt.boxNe HALL9.out).2 b e.symm); have HL6 := Lib.hid hl6; have HG6 := Lib.hid hg6; have HAT6 := Lib.hid hat6; clear hq hl6 hat6 hg6) | fail)
                all_goals
                  have hcut := CSt.app (HALL9.out.alloc _).drew (below_drewN (HW9.out.alloc hNs _) 1) (by simp) HL6.out HG6.out HAT6.out
                  have e2 := HE2.out
                  rw [← HRE.out] at e2
                  rw [e2] at hcut
                  have HCUT := Lib.hid hcut
                  clear hcut
                  go_wp2
                  go_meet
                  exact ⟨_, HCUT.out⟩
            case rest =>
              obtain ⟨bx9, hcut⟩ := hcut
              have HCUT := Lib.hid hcut
              clear hcut HALL HW q1 q2
              go_wp2
              go_roundw
              case rel => exact ⟨i + 1, _, by omega, by go_num, HCUT.out⟩
              case measure => simp [intOf]; omega
          · have di : decide (i < l.length) = false := decide_eq_false hil
            have di2 : decide ((i : Int) < (l.length : Int)) = false := decide_eq_false (by omega)
            rw [List.take_of_length_le (by omega)] at hst
            have HST := Lib.hid hst
            obtain ⟨m, hm'⟩ : ∃ m, m = c.length := ⟨_, rfl⟩
            have hm : (n : Int) - 2 = (m : Int) := by have := HNC.out; omega
            have HM := Lib.hid hm'
            have hm20 : m ≤ 18 := by have := HNC.out; omega
            clear hst hm'
            go_wp2
            go_loopw [8, 62] (fun ov iv wz => ∃ (vO : Value) (k : Nat) (S : List Int) (E : List Edge) (r : Nat → List Int) (bx : Reg), vO = ov ∧ k ≤ m ∧ iv = .int .i64 k ∧ Run S (c.drop k) E ∧ NbOk r n S E ∧ S.Nodup ∧ (∀ u ∈ S, 1 ≤ u ∧ u ≤ (n : Int)) ∧ CSt w wz n1 gA N bx ov (c.take k) r) (fun _ iv _ => m - (intOf iv).toNat)
            case atStart => exact ⟨_, 0, upTo n, l, _, bx, rfl, Nat.zero_le _, rfl, HC.out, ⟨fun u _ _ _ => rfl, fun u h1 h2 h3 => absurd (mem_upTo.2 (by omega)) h3⟩, nodup_upTo n, fun u hu => mem_upTo.1 hu, HST.out⟩
            case round =>
              obtain ⟨w7, rfl⟩ : ∃ w7, w7 = wr := ⟨_, rfl⟩
              clear HST
              obtain ⟨vO, k, S, E, r, bx2, rfl, hk, rfl, hrun, hnb, hnd, hsub, vA, hall, hW⟩ := hrel
              by_cases hkm : k < m
              · have dk : decide (k < m) = true := decide_eq_true hkm
                have dk2 : decide ((k : Int) < (m : Int)) = true := decide_eq_true (by omega)
                have hkc : k < c.length := by have := HM.out; omega
                have hdr : c.drop k = c.getD k 0 :: c.drop (k + 1) := by rw [List.drop_eq_getElem_cons hkc, getD_get hkc]
                have htk : c.take (k + 1) = c.take k ++ [c.getD k 0] := by rw [take_snoc hkc, getD_get hkc]
                obtain ⟨x, hx⟩ : ∃ x, x = c.getD k 0 := ⟨_, rfl⟩
                rw [← hx] at hdr htk
                rw [hdr] at hrun
                clear hx hdr
                cases hrun with
                | @step _ _ _ v _ e hv hno hmin hw hne he hm2 hr =>
                  obtain ⟨p, y, rfl, rfl, p1, p2, y1, y2, hrp, hlow, hupl, hry, hyp, hnext⟩ := hnb.step hsub hnd hv hno hmin hw hne he hm2 hr
                  have hlenE := (Run.step hv hno hmin hw hne he hm2 hr).len.2
                  simp only [List.length_cons, List.length_drop] at hlenE
                  have hE20 : E.length ≤ 20 := by have := HM.out; omega
                  have hp1 : p < n1 := by have := HN1.out; omega
                  have hy1 : y < n1 := by have := HN1.out; omega
                  have hkl : (c.take k).length = k := by rw [List.length_take]; omega
                  have HRUN := Lib.hid hr
                  have HND := Lib.hid (hnd.erase (p : Int))
                  have HSUB : Hid (∀ u ∈ S.erase (p : Int), 1 ≤ u ∧ u ≤ (n : Int)) := fun u hu => hsub u (List.mem_of_mem_erase hu)
                  have HLOW := Lib.hid hlow
                  have HUPL := Lib.hid hupl
                  have HRP := Lib.hid hrp
                  have HRY := Lib.hid hry
                  have HNX := Lib.hid hnext
                  have HTK := Lib.hid htk
                  have HKL := Lib.hid hkl
                  have HALL := Lib.hid hall
                  have HW := Lib.hid hW
                  have hNs : N ≤ w7.heap.size := (CSt.le hall).1
                  clear hr hnd hsub hlow hupl hrp hry hnext htk hall hW hv hno hmin hw hne he hm2 hnb hlenE hkl
                  go_upto_region 17 with fail
                  have hlay := CSt.lay HALL.out (cur := #[.int .i64 1]) (e := 3) (z := 1) rfl
                  have hW8 := HW.out.alloc hNs (.cells #[.int .i64 1] 3)
                  obtain ⟨X, hX⟩ : ∃ X, X = w7.heap.size := ⟨_, rfl⟩
                  obtain ⟨w8, hw8⟩ : ∃ w8, w8 = w7.alloc (.cells #[.int .i64 1] 3) := ⟨_, rfl⟩
                  rw [← hX, ← hw8] at hlay
                  rw [← hw8] at hW8
                  rw [← hX, ← hw8]
                  have hlay : AllR w8 N (CG.mk n1 gA ⟨3, 1, .slice (some ⟨X, 0, none⟩) 1 1, 1, [.int .i64 ((1 : Nat) : Int)]⟩ vO (c.take k) vA r).reg := hlay
                  have HL8 := Lib.hid hlay
                  have HW8 := Lib.hid hW8
                  clear hlay hW8 hX hw8 HALL HW hNs
                  go_wp2
                  go_loopg [] p (fun g wz => ∃ j : Nat, 1 ≤ j ∧ j ≤ p ∧ p - j ≤ g ∧ AllR wz N (CG.mk n1 gA ⟨3, 1, .slice (some ⟨X, 0, none⟩) 1 1, 1, [.int .i64 (j : Int)]⟩ vO (c.take k) vA r).reg ∧ Below N w wz)
                  case atStart => exact ⟨1, Nat.le_refl _, p1, by omega, HL8.out, HW8.out⟩
                  case round =>
                    obtain ⟨w6, rfl⟩ : ∃ w6, w6 = wr := ⟨_, rfl⟩
                    clear HL8 HW8
                    obtain ⟨j, j1, j2, j3, hall, hW⟩ := hrel
                    have cX := CSt.box hall (j := 0) (u := .int .i64 (j : Int)) (by decide) rfl
                    have cXf := CSt.boxf hall 0
                    obtain ⟨A3, c3, hv3, -, hs3, h31, h32⟩ := own_slice (hall.oR (i := j) rfl)
                    replace hs3 : Sl w6 w6.heap.size A3 (ints (r j)) := hs3
                    replace h31 : (r j).length ≤ c3 := h31
                    replace hv3 : vA j = .slice A3 (r j).length c3 := hv3
                    have cA : w6.cell? ⟨gA, j, none⟩ = some (.slice A3 (r j).length c3) := (hall.cR (i := j) (by show j < n1; omega)).trans (congrArg some hv3)
                    clear hv3
                    have HALL := Lib.hid hall
                    have HW := Lib.hid hW
                    clear hall hW
                    by_cases hj : (r j).length = 1
                    · have hjp : p = j := by
                        refine Classical.byContradiction fun e => HLOW.out j j1 (by omega) hj
                      obtain rfl := hjp
                      rw [HRP.out] at hs3 cA
                      replace cA : w6.cell? ⟨gA, p, none⟩ = some (.slice A3 1 c3) := cA
                      obtain ⟨b3, o3, rfl, hb3⟩ := hs3.addr (by simp)
                      have c3' := getD_cell hs3 (k := 0) (by simp)
                      replace c3' : w6.cell? ⟨b3, o3, none⟩ = some (.int .i64 (y : Int)) := c3'
                      obtain ⟨AO, cO, hvO, -, -, ho1, ho2⟩ := own_slice (HALL.out.own 2)
                      replace hvO : vO = .slice AO (c.take k).length cO := hvO
                      rw [HKL.out] at hvO ho1
                      subst hvO
                      have HO : Hid (w6.ownsRow N 3 1 (.slice AO k cO) k (ints (c.take k))) := by
                        have := HALL.out.own 2
                        have this : w6.ownsRow N 3 1 (.slice AO k cO) (c.take k).length (ints (c.take k)) := this
                        rw [HKL.out] at this
                        exact this
                      have hNs : N ≤ w6.heap.size := (CSt.le HALL.out).1
                      have hgAN : N ≤ gA := (CSt.le HALL.out).2.1
                      clear hs3 h31 h32 hj j3
                      go_upto_region 20 with fail
                      go_upto_region 21 with (first | (at_builtin; refine wpList_app1I (base := N) (l := c.take k) (v := .slice AO k cO) rfl (.tmp 78) (.tmp 80) rfl rfl (y : Int) HO.out w6.heap.size rfl rfl (by omega) (by omega) (fun g5 c5 w5 hown5 hg5 hat5 => ?_)) | fail)
                      have hall5 : AllR w5 N (CG.mk n1 gA ⟨3, 1, .slice (some ⟨X, 0, none⟩) 1 1, 1, [.int .i64 (p : Int)]⟩ (.slice (some ⟨g5, 0, none⟩) (k + 1) c5) (c.take (k + 1)) vA r).reg := by
                        refine AllR.putO HALL.out (v := .slice (some ⟨g5, 0, none⟩) (k + 1) c5) (O := c.take (k + 1)) ?_ (grown_two hg5) (fun b hb => ?_)
                        · rw [HTK.out, List.length_append, HKL.out]; exact hown5
                        · obtain rfl : g5 = b := by simpa [Value.ownBlock] using hb
                          exact hat5.imp id (fun e => by omega)
                      have hW5 := below_app HW.out hNs hg5 (fun b hb => (HALL.out.lt (x := 2) (b := b) hb).1)
                      have cX5 : w5.cell? ⟨X, 0, none⟩ = some (.int .i64 (p : Int)) := CSt.box hall5 (j := 0) (by decide) rfl
                      have cA5 : w5.cell? ⟨gA, p, none⟩ = some (vA p) := hall5.cR (i := p) hp1
                      have fA5 : w5.frozen? ⟨gA, p, none⟩ = false := hall5.fR p
                      have hall4 := hall5.putR (w' := w5) (i := p) (m := 0) (v := .slice none 0 0) (bs := []) rfl (World.ownsRow_nil _ _ _ _) (fun b _ _ => rfl) (fun b hb => by simp [Value.ownBlock] at hb)
                      have hW4 := hW5.setCell (p := ⟨gA, p, none⟩) hgAN (.slice none 0 0)
                      clear cX cXf cA c3' HALL HW HO hown5 hg5 hat5
                      go_upto_region 22 with fail
                      obtain ⟨w4, hw4⟩ : ∃ w4, w4 = w5.setCell ⟨gA, p, none⟩ (.slice none 0 0) := ⟨_, rfl⟩
                      have hall4 : AllR w4 N (CG.mk n1 gA ⟨3, 1, .slice (some ⟨X, 0, none⟩) 1 1, 1, [.int .i64 (p : Int)]⟩ (.slice (some ⟨g5, 0, none⟩) (k + 1) c5) (c.take (k + 1)) (at1 vA p (.slice none 0 0)) (at1 r p [])).reg := by rw [hw4]; exact hall4
                      rw [← hw4] at hW4 ⊢
                      clear hw4 hall5 hW5 cX5 cA5 fA5
                      have hoy := hall4.oR (i := y) (bs := r y) (at1_ne _ _ hyp)
                      obtain ⟨g3, c4, hv4⟩ : ∃ g c, at1 vA p (.slice none 0 0) y = .slice (some ⟨g, 0, none⟩) (r y).length c := by
                        rcases hoy.2 with ⟨e1, e2⟩ | ⟨g, cap, cur, e1, _⟩
                        · exact absurd (List.eq_nil_of_length_eq_zero e2) HRY.out
                        · exact ⟨g, cap, e1⟩
                      have hoy : w4.ownsRow N 3 1 (.slice (some ⟨g3, 0, none⟩) (r y).length c4) (r y).length (ints (r y)) := by rw [← hv4]; exact hoy
                      have hXs : X < w4.heap.size := (hall4.lt (x := 1) (b := X) rfl).2
                      have hXg : X ≠ g3 := fun e => (CSt.boxNe hall4).2 y (by show (at1 vA p (.slice none 0 0) y).ownBlock = _; rw [hv4, e]; rfl)
                      have cX4 : w4.cell? ⟨X, 0, none⟩ = some (.int .i64 (p : Int)) := CSt.box hall4 (j := 0) (by decide) rfl
                      have hup := HUPL.out y y1 y2
                      have HDL := Lib.hid (del_any (base := N) (p : Int) w4 hoy hXs hXg cX4 (by omega))
                      have cA4 : w4.cell? ⟨gA, y, none⟩ = some (.slice (some ⟨g3, 0, none⟩) (r y).length c4) := (hall4.cR (i := y) hy1).trans (congrArg some hv4)
                      have hNs4 : N ≤ w4.heap.size := (CSt.le hall4).1
                      have HALL4 := Lib.hid hall4
                      have HW4 := Lib.hid hW4
                      have HV4 := Lib.hid hv4
                      clear hall4 hW4 hoy hXs hXg cX4 hv4
                      obtain ⟨q, hq⟩ : ∃ q, q = (r y).length := ⟨_, rfl⟩
                      rw [← hq] at HDL cA4 hup HV4
                      clear hq
                      go_wp2_with (first | (go_at_call 96; refine HDL.out.mono ?_) | fail)
                      rintro e w3 rfl hownF hgF
                      have hff : (r y).filter (fun x => !decide (x = (p : Int))) = (r y).filter (fun x => decide (x ≠ (p : Int))) := by congr 1; funext x; simp
                      obtain ⟨FL, hFL⟩ : ∃ FL, FL = (r y).filter (fun x => !decide (x = (p : Int))) := ⟨_, rfl⟩
                      obtain ⟨F, hF0⟩ : ∃ F, F = FL.length := ⟨_, rfl⟩
                      rw [← hFL] at hff hownF ⊢
                      rw [← hF0] at hownF ⊢
                      have hF : F = ((r y).filter (fun x => decide (x ≠ (p : Int)))).length := by rw [hF0, hff]
                      rw [hff] at hownF
                      clear hFL hF0 hff
                      have hgF' : w4.grownBy w3 (at1 vA p (.slice none 0 0) y).ownBlock := by rw [HV4.out]; exact hgF
                      have hlf := CSt.left HALL4.out (i := y) (j := y) hy1 hgF'
                      have q1 := hlf.1
                      have q2 := hlf.2
                      have hall3 := HALL4.out.putR (i := y) (m := F) (v := .slice (some ⟨g3, 0, none⟩) F c4) (bs := (r y).filter (fun x => decide (x ≠ (p : Int)))) hF hownF (fun b hb hne => hgF'.block b hb (fun e => hne e.symm)) (fun b hb => .inl (by show (at1 vA p (.slice none 0 0) y).ownBlock = some b; rw [HV4.out]; exact hb))
                      have hW3 := (HW4.out.grown hgF' hNs4 (fun b hb => (HALL4.out.lt (x := y + 3) (b := b) hb).1)).setCell (p := ⟨gA, y, none⟩) hgAN (.slice (some ⟨g3, 0, none⟩) F c4)
                      have hnb4 := HNX.out (at1 (at1 r p []) y ((r y).filter (fun x => decide (x ≠ (p : Int))))) (by rw [at1_ne _ _ (fun e => hyp e.symm), at1_self]) (at1_self _ _ _) (fun u h1 h2 => by rw [at1_ne _ _ h2, at1_ne _ _ h1])
                      have HALL3 := Lib.hid hall3
                      clear hF
                      have HW3 := Lib.hid hW3
                      have HNB4 := Lib.hid hnb4
                      clear hgF hgF' hlf hownF hall3 hW3 hnb4 HALL4 HW4 HV4
                      go_wp2
                      go_roundw
                      case rel => exact ⟨_, k + 1, S.erase (p : Int), E.erase e, _, _, rfl, by omega, by go_num, HRUN.out, HNB4.out, HND.out, HSUB.out, ⟨_, HALL3.out, HW3.out⟩⟩
                      case measure => simp [intOf]; omega
                    · have hjp : j < p := by
                        refine Nat.lt_of_le_of_ne j2 (fun e => hj ?_)
                        rw [e, HRP.out]; rfl
                      have hjl := HUPL.out j j1 (by omega)
                      obtain ⟨q, hq⟩ : ∃ q, q = (r j).length := ⟨_, rfl⟩
                      rw [← hq] at hj cA hjl h31
                      have de : ((q : Int) != 1) = true := by simp; omega
                      have hX1 := CSt.setX HALL.out 0 (.int .i64 ((j + 1 : Nat) : Int))
                      have hXN : N ≤ X := (HALL.out.lt (x := 1) (b := X) rfl).1
                      have HX1 := Lib.hid hX1
                      have HWX := Lib.hid (HW.out.setCell (p := ⟨X, 0, none⟩) hXN (.int .i64 ((j + 1 : Nat) : Int)))
                      clear hX1 hq
                      go_wp2
                      go_roundg (gk - 1)
                      case measure => omega
                      case rel => exact ⟨j + 1, by omega, by omega, by omega, HX1.out, HWX.out⟩
              · have dk : decide (k < m) = false := decide_eq_false hkm
                have dk2 : decide ((k : Int) < (m : Int)) = false := decide_eq_false (by omega)
                have hkm2 : k = m := by omega
                have hf : ∃ AO cO, vO = .slice AO c.length cO ∧ Sl w7 w7.heap.size AO (ints c) := by
                  have ho : w7.ownsRow N 3 1 vO (c.take k).length (ints (c.take k)) := hall.own 2
                  have hmc := HM.out
                  rw [List.take_of_length_le (by omega)] at ho
                  obtain ⟨A, cc, h1, -, h2, -, -⟩ := own_slice ho
                  exact ⟨A, cc, h1, h2⟩
                obtain ⟨AO, cO, rfl, hSl⟩ := hf
                have hfin : Hid (PCode l (.returned (.tuple #[.slice AO c.length cO, .int .i64 0])) w7) := .inl ⟨HCT.out, AO, cO, c, by rw [← HN.out]; exact HC.out, rfl, hSl⟩
                have hbb := hW
                rw [HNE0.out] at hbb
                clear hall hW hrun hnb hnd hsub hSl hkm2
                go_wp2
                go_ret2
                exact ⟨hfin.out, hbb⟩
  · have d0 : decide ((20 : Int) < (n : Int)) = true := decide_eq_true (by omega)
    have d0' : decide (20 < n) = true := decide_eq_true (by omega)
    have hf := Lib.hid (hno.out 2 w (fun hh => by have := hh.2.2; omega) (by decide))
    clear h hno hn'
    go_wp2
    go_ret2
    exact ⟨hf.out, Below.refl _ _⟩
end Go.Proofs.Ytdmpbbgcifodeaa
