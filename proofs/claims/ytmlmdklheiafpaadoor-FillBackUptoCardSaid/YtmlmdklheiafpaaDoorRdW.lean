/-
  fill.Read: what it answers.
-/
import Derived.Test.YtmlmdklheiafpaaDoorFChkW
import Derived.Test.YtmlmdklheiafpaaDoorRdM
import Derived.Test.YtmlmdklheiafpaaDoorQpaL
namespace Go.Proofs.YtmlmdklheiafpaaDoor
open Go.RowKit Go.Proofs Fil

theorem OwnM.keepB {w w' : World} {B : Nat} {v : Value} {hs : List Value} {rows : List (List Int)} (h : OwnM w B v hs rows) (hk : ∀ k, B ≤ k → w'.heap[k]? = w.heap[k]?) : OwnM w' B v hs rows := by
  have other : ∀ {m : Nat} {e : TypeId} {x : Value} {cs : List Value}, w.ownsRow B e 1 x m cs → w'.ownsRow B e 1 x m cs := by
    intro m e x cs ho
    refine ⟨ho.1, ?_⟩
    rcases ho.2 with hn | ⟨g', cap, cur, e1, hg', hh, rest⟩
    · exact .inl hn
    · refine .inr ⟨g', cap, cur, e1, hg', ?_, rest⟩
      rw [← hh]
      exact hk g' hg'
  exact ⟨h.len, other h.out, fun r hr => other (h.inn r hr), h.far, h.top⟩
theorem OwnM.low {w : World} {B B' : Nat} {v : Value} {hs : List Value} {rows : List (List Int)} (h : OwnM w B v hs rows) (hB : B' ≤ B) : OwnM w B' v hs rows :=
  ⟨h.len, h.out.mono hB, fun r hr => (h.inn r hr).mono hB, h.far, h.top⟩
def RdOut (S : List UInt8) (B : Nat) (e : Ending) (w' : World) : Prop :=
  (∃ a v hs, e = .returned (.tuple #[v, .agg #[.int .i64 0, .int .i64 0]]) ∧ Done S a ∧ FillOk a ∧ OwnM w' B v hs a) ∨
  ((Stuck S ∨ ∃ a, Done S a ∧ ¬ FillOk a) ∧ ∃ k z : Int, k ≠ 0 ∧ e = .returned (.tuple #[.slice none 0 0, .agg #[.int .i64 k, .int .i64 z]]))
theorem wrote2 {w : World} {M : Nat} {a b x y : Value} (h0 : w.cell? ⟨M, 0, none⟩ = some a) (h1 : w.cell? ⟨M, 1, none⟩ = some b) :
    ((w.setCell ⟨M, 0, none⟩ x).setCell ⟨M, 1, none⟩ y).cell? ⟨M, 0, none⟩ = some x ∧ ((w.setCell ⟨M, 0, none⟩ x).setCell ⟨M, 1, none⟩ y).cell? ⟨M, 1, none⟩ = some y ∧
    ((w.setCell ⟨M, 0, none⟩ x).setCell ⟨M, 1, none⟩ y).heap.size = w.heap.size ∧ (∀ k, k ≠ M → ((w.setCell ⟨M, 0, none⟩ x).setCell ⟨M, 1, none⟩ y).heap[k]? = w.heap[k]?) := by
  refine ⟨?_, ?_, by simp [World.setCell], fun k hk => ?_⟩
  · rw [World.cell?_setCell_other _ _ _ _ (by simp)]; exact World.cell?_setCell_same _ _ _ h0
  · exact World.cell?_setCell_same _ _ _ ((World.cell?_setCell_other _ _ _ _ (by simp)).trans h1)
  · rw [Below.heap_setCell _ _ _ _ hk, Below.heap_setCell _ _ _ _ hk]
/-- What was laid at the start, written at the end. -/
theorem RdOut.fin {w w1 w9 w' : World} {N : Nat} (hN : N = w.heap.size) (h1 : w1 = w.alloc (.cells #[.int .i64 0, .int .i64 0] 25)) (hW : Below (N + 1) w1 w9)
    (hs : w'.heap.size = w9.heap.size) (hk : ∀ k, k ≠ N → w'.heap[k]? = w9.heap[k]?) (ho : w'.os = w9.os ∧ w'.tape = w9.tape ∧ w'.output = w9.output) : Below w.heap.size w w' := by
  subst hN h1
  have h0 : Below w.heap.size w w9 := ((Below.refl _ w).alloc (Nat.le_refl _) _).trans (hW.mono (by omega))
  exact ⟨ho.1.trans h0.os, ho.2.1.trans h0.tape, ho.2.2.trans h0.output, by rw [hs]; exact h0.size, fun k hlt => (hk k (by omega)).trans (h0.block k hlt)⟩
set_option maxRecDepth 100000 in
set_option maxHeartbeats 8000000 in
theorem read_any (S : List UInt8) (w : World) (hS : S.length ≤ 1048576) :
    Calls Tryd.prog 4 #[.string ⟨S.toArray⟩] w fun e w' => RdOut S w.heap.size e w' ∧ Below w.heap.size w w' := by
  obtain ⟨N, hN⟩ : ∃ N, N = w.heap.size := ⟨_, rfl⟩
  have HNE := Lib.hid hN
  obtain ⟨w1, hw1⟩ : ∃ w1, w1 = w.alloc (.cells #[.int .i64 0, .int .i64 0] 25) := ⟨_, rfl⟩
  have HW1 := Lib.hid hw1
  have HC0 : Hid (w1.cell? ⟨w.heap.size, 0, none⟩ = some (.int .i64 0) ∧ w1.cell? ⟨w.heap.size, 1, none⟩ = some (.int .i64 0) ∧ w1.frozen? ⟨w.heap.size, 0, none⟩ = false ∧ w1.frozen? ⟨w.heap.size, 1, none⟩ = false) := by
    show _ ∧ _
    rw [hw1]
    exact ⟨by rw [World.cell?_alloc_at _ _ _ _ rfl]; rfl, by rw [World.cell?_alloc_at _ _ _ _ rfl]; rfl, (Go.RowKit.frozen?_alloc_cells _ _ _ _).trans (by simp [World.frozen?]), (Go.RowKit.frozen?_alloc_cells _ _ _ _).trans (by simp [World.frozen?])⟩
  have HSG : Hid (∀ (q : Nat) (h : q < (ByteArray.mk S.toArray).size), ((ByteArray.mk S.toArray)[q]'h).toNat = sg S q) := fun q h => by
    have hq : q < S.length := h
    show ((ByteArray.mk S.toArray).data[q]'_).toNat = _
    unfold sg
    rw [List.getD_eq_getElem?_getD, List.getElem?_eq_getElem hq]; simp
  have HSZ : Hid (w1.heap.size = N + 1) := by show _ = _; rw [hw1, hN]; simp
  clear hN hw1
  go_enter Tryd.func4, Tryd.ntmps4
  go_upto_region 1 with fail
  rw [← HW1.out]
  go_wp2
  go_loopw [4, 5] (fun ov iv wr => ∃ (p : Nat) (out : List (List Int)) (hs : List Value) (A5 : Option Addr) (c5 : Nat), iv = .int .i64 p ∧ ov = .slice A5 out.length c5 ∧ OwnM wr (N + 1) ov hs out ∧ Rd S p out ∧ Below (N + 1) w1 wr) (fun _ iv _ => S.length + 1 - (Go.RowKit.intOf iv).toNat)
  case atStart => exact ⟨0, [], [], none, 0, rfl, rfl, OwnM.nil _ _, .start, Below.refl _ _⟩
  case round =>
    obtain ⟨w9, rfl⟩ : ∃ w9, w9 = wr := ⟨_, rfl⟩
    obtain ⟨p, out, hs, A5, c5, rfl, rfl, hm, hrd, hW⟩ := hrel
    obtain ⟨hpl, hol, hrl, hne⟩ := hrd.bound
    have HRL := Lib.hid hrl
    have HNO := Lib.hid hne
    have HRD := Lib.hid hrd
    by_cases hS0 : S = []
    · have hemp : S.isEmpty = true := by simp [hS0]
      have hsr := hm.sr
      obtain ⟨A', c', e', hsr, _, _⟩ := hsr
      obtain ⟨rfl, rfl⟩ : A5 = A' ∧ c5 = c' := by injection e' with h1 _ h2; exact ⟨h1, h2⟩
      have hdn : Done S out := by
        have hp0 : p = 0 := by rw [hS0] at hpl; simpa using hpl
        rcases hrd.inv with ⟨_, h⟩ | ⟨_, _, _, _, _, h, _⟩
        · exact .inl ⟨hS0, h⟩
        · omega
      have HDN := Lib.hid hdn
      have HSR := Lib.hid hsr
      have HM := Lib.hid hm
      have HW := Lib.hid hW
      have hol2 : out.length ≤ 9223372036854775807 := by omega
      have c0 := (hW.cell (p := ⟨w.heap.size, 0, none⟩) (by rw [HNE.out]; exact Nat.lt_succ_self _)).trans HC0.out.1
      have c1 := (hW.cell (p := ⟨w.heap.size, 1, none⟩) (by rw [HNE.out]; exact Nat.lt_succ_self _)).trans HC0.out.2.1
      have z0 := (hW.frozen (p := ⟨w.heap.size, 0, none⟩) (by rw [HNE.out]; exact Nat.lt_succ_self _)).trans HC0.out.2.2.1
      have z1 := (hW.frozen (p := ⟨w.heap.size, 1, none⟩) (by rw [HNE.out]; exact Nat.lt_succ_self _)).trans HC0.out.2.2.2
      clear hdn hsr hm hW hrd hne hrl e' hS0
      go_wp2_with (first | (go_at_call 12; refine (fcheck_any A5 c5 out w9 hol2 HSR.out).mono ?_) | fail)
      rintro e w2 ⟨⟨k, rfl, hk1, hk2⟩, rfl⟩
      by_cases hk0 : k = 0
      · have hok := Lib.hid (hk1 hk0)
        subst hk0
        clear hk1 hk2
        have hw2 := wrote2 (x := .int .i64 0) (y := .int .i64 0) c0 c1
        obtain ⟨W2, hW2⟩ : ∃ W2, W2 = (w9.setCell ⟨w.heap.size, 0, none⟩ (.int .i64 0)).setCell ⟨w.heap.size, 1, none⟩ (.int .i64 0) := ⟨_, rfl⟩
        rw [← hW2] at hw2
        obtain ⟨r0, r1, r2, r3⟩ := hw2
        have hbb : Below w.heap.size w W2 := RdOut.fin HNE.out HW1.out HW.out r2 (by rw [HNE.out]; exact r3) (by rw [hW2]; exact ⟨rfl, rfl, rfl⟩)
        have hfin : Hid (RdOut S w.heap.size (.returned (.tuple #[.slice A5 out.length c5, .agg #[.int .i64 0, .int .i64 0]])) W2 ∧ Below w.heap.size w W2) := ⟨.inl ⟨out, _, hs, rfl, HDN.out, hok.out, (HM.out.keepB (fun k hk => r3 k (by have := HNE.out; omega))).low (by have := HNE.out; omega)⟩, hbb⟩
        have HW2 := Lib.hid hW2
        clear hW2 hbb r2 r3
        go_wp2
        rw [← HW2.out]
        refine bodyPost_ret (v := .tuple #[.slice A5 out.length c5, .agg #[.int .i64 0, .int .i64 0]]) ?_ rfl hfin.out
        have hres : Tryd.f4.results = #[.tmp 2, .cell 3 25] := by kernel_rfl
        simp only [results, hres]
        go_simp
      · have dk : (k != 0) = true := by simpa using hk0
        have hno : Hid (¬ FillOk out) := fun hh => hk0 (hk2 hh)
        clear hk1 hk2
        have hw2 := wrote2 (x := .int .i64 k) (y := .int .i64 (-1)) c0 c1
        obtain ⟨W2, hW2⟩ : ∃ W2, W2 = (w9.setCell ⟨w.heap.size, 0, none⟩ (.int .i64 k)).setCell ⟨w.heap.size, 1, none⟩ (.int .i64 (-1)) := ⟨_, rfl⟩
        rw [← hW2] at hw2
        obtain ⟨r0, r1, r2, r3⟩ := hw2
        have hbb : Below w.heap.size w W2 := RdOut.fin HNE.out HW1.out HW.out r2 (by rw [HNE.out]; exact r3) (by rw [hW2]; exact ⟨rfl, rfl, rfl⟩)
        have hfin : Hid (RdOut S w.heap.size (.returned (.tuple #[.slice none 0 0, .agg #[.int .i64 k, .int .i64 (-1)]])) W2 ∧ Below w.heap.size w W2) := ⟨.inr ⟨.inr ⟨out, HDN.out, hno.out⟩, k, -1, hk0, rfl⟩, hbb⟩
        have HW2 := Lib.hid hW2
        clear hW2 hbb r2 r3
        go_wp2
        rw [← HW2.out]
        refine bodyPost_ret (v := .tuple #[.slice none 0 0, .agg #[.int .i64 k, .int .i64 (-1)]]) ?_ rfl hfin.out
        have hres : Tryd.f4.results = #[.tmp 2, .cell 3 25] := by kernel_rfl
        simp only [results, hres]
        go_simp
    · have hemp : S.isEmpty = false := by cases S with | nil => exact absurd rfl hS0 | cons _ _ => rfl
      obtain ⟨nb, hnb⟩ : ∃ b, b = newAt S p := ⟨_, rfl⟩
      obtain ⟨V, hV⟩ : ∃ V, V = begR out nb := ⟨_, rfl⟩
      obtain ⟨i, hi⟩ : ∃ i, V.length = i + 1 := by
        refine ⟨V.length - 1, ?_⟩
        have : V ≠ [] := by
          rw [hV]; unfold begR
          split
          · simp
          · rename_i hnw
            refine hne (Nat.pos_of_ne_zero (fun h0 => hnw ?_))
            simp [hnb, newAt, h0]
        have := List.length_pos_iff.2 this
        omega
      have hil : 2 * i ≤ p := by
        have : V.length ≤ out.length + 1 := by rw [hV]; unfold begR; split <;> simp
        omega
      have hVr : 2 * (V.getD i []).length ≤ p := by
        have : ∀ r ∈ V, 2 * r.length ≤ p := fun r hr => by
          rw [hV] at hr; unfold begR at hr
          split at hr
          · rcases List.mem_append.1 hr with hr | hr
            · exact hrl r hr
            · simp at hr; subst hr; simp
          · exact hrl r hr
        rw [List.getD_eq_getElem?_getD, List.getElem?_eq_getElem (by omega)]
        exact this _ (List.getElem_mem _)
      have HM := Lib.hid hm
      have HW := Lib.hid hW
      have HV := Lib.hid hV
      have HVL := Lib.hid hi
      have HS0 := Lib.hid hS0
      have HNB := Lib.hid hnb
      clear hm hW hV hi hrl hrd hS0 hne hnb
      go_upto_region 4 with fail
      go_cut [19] (fun bv wz => bv = .bool nb ∧ w9 = wz)
      case first =>
        by_cases hp0 : p = 0
        · have d0 : ((p : Int) == 0) = true := by simpa using hp0
          have hf : Hid (nb = true) := by show _ = _; rw [HNB.out]; simp [newAt, hp0]
          clear hp0
          go_wp2
          go_meet
          exact ⟨by rw [hf.out], rfl⟩
        · have d0 : ((p : Int) == 0) = false := by simpa using hp0
          have hp1 : 0 < p := by omega
          have hf : Hid (((sg S (p - 1) : Int) == 47) = nb) := by
            show _ = _
            rw [HNB.out, newAt_eq hp1 hpl]
            by_cases h : sg S (p - 1) = 47
            · simp [h]
            · rw [decide_eq_false h]; simp; omega
          have hi1 : 1 ≤ (p : Int) := by omega
          have hi2 : (p : Int) - 1 < (S.length : Int) := by omega
          have hsg := HSG.out
          go_wp2
          go_meet
          exact ⟨by rw [hf.out], rfl⟩
      case rest =>
        obtain ⟨rfl, rfl⟩ := hcut
        go_upto_if 19 with fail
        go_cut [4] (fun ov wz => ∃ (hs : List Value) (A : Option Addr) (c : Nat), ov = .slice A (i + 1) c ∧ OwnM wz (N + 1) ov hs V ∧ Below (N + 1) w1 wz)
        case first =>
          cases nb with
          | true =>
            have hqo := HM.out.out
            have HQO := Lib.hid hqo
            have hsz : N + 1 ≤ w9.heap.size := by have := HW.out.size; have := HSZ.out; omega
            clear hqo
            go_wp2_with (first | (at_builtin; refine wpList_push (v := .slice A5 out.length c5) rfl (.tmp 20) (.tmp 21) rfl rfl (.slice none 0 0) rfl HQO.out w9.heap.size rfl rfl (by omega) hsz (fun g2 c3 w5 hl5 hg5 hat5 => ?_)) | fail)
            have hpush := (HM.out.alloc (.cells #[.slice none 0 0] 34)).push (u := .slice none 0 0) (l := []) (World.ownsRow_nil _ _ _ _) (HM.out.far_new (u := .slice none 0 0) (fun k hk => by simp [Value.ownBlock] at hk)).1 (HM.out.far_new (u := .slice none 0 0) (fun k hk => by simp [Value.ownBlock] at hk)).2 rfl hl5 hg5 (by simpa using hat5)
            have hW5 := (HW.out.alloc hsz _).grown hg5 (by simp; omega) (fun k hk => (HQO.out.lt k hk).1)
            have hqe : out ++ [[]] = V := by rw [HV.out]; rfl
            have hqn : out.length + 1 = i + 1 := by rw [← HVL.out, ← hqe]; simp
            rw [hqe] at hpush
            have HP := Lib.hid hpush
            have HW5 := Lib.hid hW5
            have HQN := Lib.hid hqn
            clear hpush hW5 hl5 hg5 hat5 hqn hqe
            go_wp2
            go_meet
            exact ⟨_, _, _, by rw [HQN.out], HP.out, HW5.out⟩
          | false =>
            have hqn : Hid (out.length = i + 1) := by show _ = _; rw [← HVL.out, HV.out]; rfl
            go_wp2
            go_meet
            exact ⟨hs, A5, c5, by rw [hqn.out], by have h := HM.out; rw [show out = V by rw [HV.out]; rfl] at h; rw [show V.length = out.length by rw [HV.out]; rfl] at h; exact h, HW.out⟩
        case rest =>
          obtain ⟨hs, A7, c7, rfl, hm, hW⟩ := hcut
          clear HM HW
          have HM := Lib.hid hm
          have HW := Lib.hid hW
          clear hm hW
          go_wp2
          go_loopw [5, 7] (fun qv nw wz => ∃ (q k : Nat) (n : Int), q = p + k ∧ k ≤ 2 ∧ qv = .int .i64 q ∧ n = nv S p k ∧ nw = .int .i64 n ∧ (∀ j, j < k → Sgn S p (p + j)) ∧ wc = wz) (fun qv _ _ => p + 2 - (Go.RowKit.intOf qv).toNat)
          case atStart => exact ⟨p, 0, 0, rfl, by omega, rfl, rfl, rfl, fun _ h => absurd h (by omega), rfl⟩
          case round =>
            obtain ⟨q, k, n, hq, hk, rfl, hn, rfl, hall, rfl⟩ := hrel
            have HALL := Lib.hid hall
            have hnb := nv_le hall
            rw [← hn] at hnb
            have HN := Lib.hid hn
            have HNB2 := Lib.hid hnb
            obtain ⟨a, ha⟩ : ∃ a, a = sg S q := ⟨_, rfl⟩
            have HA := Lib.hid ha
            have ha256 : a < 256 := by rw [ha]; exact sg_lt _ _
            replace HSG : Hid (∀ (h : q < (ByteArray.mk S.toArray).size), ((ByteArray.mk S.toArray)[q]'h).toNat = a) := fun h => by rw [ha]; exact HSG.out q h
            clear hall hn ha hnb
            have hpq : p ≤ q := by omega
            have hq2 : q ≤ p + 2 := by omega
            have HQ := Lib.hid hq
            clear hq
            go_upto_region 8 with fail
            go_cut [56] (fun bv wz => bv = .bool (decide (Sgn S p q)) ∧ wc = wz)
            case first =>
                by_cases h1 : q < S.length
                · have d0a : decide (q < S.length) = true := decide_eq_true (by omega)
                  have d0b : decide ((q : Int) < (S.length : Int)) = true := decide_eq_true (by omega)
                  have hi2 : (q : Int) < (S.length : Int) := by omega
                  have hsg := HSG.out
                  by_cases h2 : q < p + 2
                  · have d1a : decide ((q : Int) < (p : Int) + 2) = true := decide_eq_true (by omega)
                    have d1b : decide (q < p + 2) = true := decide_eq_true (by omega)
                    by_cases h3 : 48 ≤ a
                    · have d2a : decide ((48 : Int) ≤ (a : Int)) = true := decide_eq_true (by omega)
                      have d2b : decide (48 ≤ a) = true := decide_eq_true (by omega)
                      by_cases h4 : a ≤ 57
                      · have d3a : decide ((a : Int) ≤ 57) = true := decide_eq_true (by omega)
                        have d3b : decide (a ≤ 57) = true := decide_eq_true (by omega)
                        by_cases h5 : p < q
                        · have d4a : decide (p < q) = true := decide_eq_true (by omega)
                          have d4b : decide ((p : Int) < (q : Int)) = true := decide_eq_true (by omega)
                          have hf : Hid (decide (Sgn S p q) = true) := decide_eq_true (by unfold Sgn; rw [HA.out] at *; exact ⟨h1, h2, h3, h4, .inl h5⟩)
                          go_wp2
                          go_meet
                          exact ⟨by rw [hf.out], rfl⟩
                        · have d4a : decide (p < q) = false := decide_eq_false (by omega)
                          have d4b : decide ((p : Int) < (q : Int)) = false := decide_eq_false (by omega)
                          by_cases h6 : 48 < a
                          · have d5a : decide ((48 : Int) < (a : Int)) = true := decide_eq_true (by omega)
                            have d5b : decide (48 < a) = true := decide_eq_true (by omega)
                            have hf : Hid (decide (Sgn S p q) = true) := decide_eq_true (by unfold Sgn; rw [HA.out] at *; exact ⟨h1, h2, h3, h4, .inr h6⟩)
                            go_wp2
                            go_meet
                            exact ⟨by rw [hf.out], rfl⟩
                          · have d5a : decide ((48 : Int) < (a : Int)) = false := decide_eq_false (by omega)
                            have d5b : decide (48 < a) = false := decide_eq_false (by omega)
                            have hf : Hid (decide (Sgn S p q) = false) := decide_eq_false (by unfold Sgn; rw [← HA.out]; exact fun h => by rcases h.2.2.2.2 with h | h; exact h5 h; exact h6 h)
                            go_wp2
                            go_meet
                            exact ⟨by rw [hf.out], rfl⟩
                      · have d3a : decide ((a : Int) ≤ 57) = false := decide_eq_false (by omega)
                        have d3b : decide (a ≤ 57) = false := decide_eq_false (by omega)
                        have hf : Hid (decide (Sgn S p q) = false) := decide_eq_false (by unfold Sgn; rw [← HA.out]; exact fun h => h4 h.2.2.2.1)
                        go_wp2
                        go_meet
                        exact ⟨by rw [hf.out], rfl⟩
                    · have d2a : decide ((48 : Int) ≤ (a : Int)) = false := decide_eq_false (by omega)
                      have d2b : decide (48 ≤ a) = false := decide_eq_false (by omega)
                      have hf : Hid (decide (Sgn S p q) = false) := decide_eq_false (by unfold Sgn; rw [← HA.out]; exact fun h => h3 h.2.2.1)
                      go_wp2
                      go_meet
                      exact ⟨by rw [hf.out], rfl⟩
                  · have d1a : decide ((q : Int) < (p : Int) + 2) = false := decide_eq_false (by omega)
                    have d1b : decide (q < p + 2) = false := decide_eq_false (by omega)
                    have hf : Hid (decide (Sgn S p q) = false) := decide_eq_false (by unfold Sgn; rw [← HA.out]; exact fun h => h2 h.2.1)
                    go_wp2
                    go_meet
                    exact ⟨by rw [hf.out], rfl⟩
                · have d0a : decide (q < S.length) = false := decide_eq_false (by omega)
                  have d0b : decide ((q : Int) < (S.length : Int)) = false := decide_eq_false (by omega)
                  have hf : Hid (decide (Sgn S p q) = false) := decide_eq_false (by unfold Sgn; rw [← HA.out]; exact fun h => h1 h.1)
                  go_wp2
                  go_meet
                  exact ⟨by rw [hf.out], rfl⟩
            case rest =>
              obtain ⟨rfl, rfl⟩ := hcut
              by_cases hg : Sgn S p q
              · have dg : decide (Sgn S p q) = true := decide_eq_true hg
                have h1 : q < S.length := hg.1
                have h2 : q < p + 2 := hg.2.1
                have h3 : 48 ≤ a := by rw [HA.out]; exact hg.2.2.1
                have h4 : a ≤ 57 := by rw [HA.out]; exact hg.2.2.2.1
                have hk1 : k ≤ 1 := by have := HQ.out; omega
                have hnn : 0 ≤ n ∧ n ≤ 9 := by
                  have := HNB2.out
                  rcases (show k = 0 ∨ k = 1 by omega) with h | h <;> rw [h] at this <;> simp at this <;> omega
                obtain ⟨hn0, hn9⟩ := hnn
                have hi2 : (q : Int) < (S.length : Int) := by omega
                have hsg := HSG.out
                have hall2 : Hid (∀ j, j < k + 1 → Sgn S p (p + j)) := fun j hj => by
                  by_cases e : j = k
                  · rw [e, ← HQ.out]; exact hg
                  · exact HALL.out j (by omega)
                have hnv : Hid (10 * n + ((a : Int) - 48) = nv S p (k + 1)) := by
                  show _ = _
                  rw [HN.out, HA.out, HQ.out]; rfl
                go_wp2
                go_roundw
                case rel => exact ⟨q + 1, k + 1, _, by rw [HQ.out]; omega, by omega, by go_num, hnv.out, by first | rfl | go_num, hall2.out, by first | rfl | trivial⟩
                case measure => simp [Go.RowKit.intOf]; omega
              · have dg : decide (Sgn S p q) = false := decide_eq_false hg
                have hnum : Hid (num1 (S.drop p) = (n, k)) := by
                  show _ = _
                  rw [HN.out]
                  exact num_exit hk HALL.out (by rw [← HQ.out]; exact hg)
                have hqS : q ≤ S.length := by
                  by_cases hk0 : k = 0
                  · have := HQ.out; omega
                  · have := (num1_take hnum.out (by omega)).2.2.2.1
                    rw [List.length_drop] at this
                    have := HQ.out; omega
                obtain ⟨b2, hb2⟩ : ∃ b, b = decide (q = p ∨ (q < S.length ∧ a ≠ 32 ∧ a ≠ 47)) := ⟨_, rfl⟩
                have HB2 := Lib.hid hb2
                clear hb2 HALL
                go_upto_region 11 with fail
                clear hg dg
                go_cut [87] (fun bv wz => bv = .bool b2 ∧ wc = wz)
                case first =>
                  by_cases e1 : q = p
                  · have d1 : ((q : Int) == (p : Int)) = true := by simp [e1]
                    have hf : Hid (b2 = true) := by show _ = _; rw [HB2.out]; exact decide_eq_true (.inl e1)
                    clear e1
                    go_wp2
                    go_meet
                    exact ⟨by rw [hf.out], rfl⟩
                  · have d1 : ((q : Int) == (p : Int)) = false := by simp; omega
                    by_cases h1 : q < S.length
                    · have d2 : decide (q < S.length) = true := decide_eq_true h1
                      have d3 : decide ((q : Int) < (S.length : Int)) = true := decide_eq_true (by omega)
                      have hi2 : (q : Int) < (S.length : Int) := by omega
                      have hsg := HSG.out
                      by_cases h32 : a = 32
                      · have d4 : ((a : Int) != 32) = false := by simp; omega
                        have d5 : ((a : Int) == 32) = true := by simp; omega
                        have hf : Hid (b2 = false) := by show _ = _; rw [HB2.out]; exact decide_eq_false (by omega)
                        clear h32
                        go_wp2
                        go_meet
                        exact ⟨by rw [hf.out], rfl⟩
                      · have d4 : ((a : Int) != 32) = true := by simp; omega
                        have d5 : ((a : Int) == 32) = false := by simp; omega
                        by_cases h47 : a = 47
                        · have d6 : ((a : Int) != 47) = false := by simp; omega
                          have d7 : ((a : Int) == 47) = true := by simp; omega
                          have hf : Hid (b2 = false) := by show _ = _; rw [HB2.out]; exact decide_eq_false (by omega)
                          clear h47
                          go_wp2
                          go_meet
                          exact ⟨by rw [hf.out], rfl⟩
                        · have d6 : ((a : Int) != 47) = true := by simp; omega
                          have d7 : ((a : Int) == 47) = false := by simp; omega
                          have hf : Hid (b2 = true) := by show _ = _; rw [HB2.out]; exact decide_eq_true (by omega)
                          go_wp2
                          go_meet
                          exact ⟨by rw [hf.out], rfl⟩
                    · have d2 : decide (q < S.length) = false := decide_eq_false h1
                      have d3 : decide ((q : Int) < (S.length : Int)) = false := decide_eq_false (by omega)
                      have hf : Hid (b2 = false) := by show _ = _; rw [HB2.out]; exact decide_eq_false (by omega)
                      go_wp2
                      go_meet
                      exact ⟨by rw [hf.out], rfl⟩
                case rest =>
                  obtain ⟨rfl, rfl⟩ := hcut
                  cases b2 with
                  | true =>
                    have hst : Hid (Stuck S) := by
                      refine ⟨p, out, n, k, HRD.out, HS0.out, hnum.out, ?_⟩
                      have h := HB2.out
                      have hq := HQ.out
                      rcases of_decide_eq_true h.symm with h | ⟨h1, h2, h3⟩
                      · exact .inl (by omega)
                      · right
                        rw [← hq]
                        exact nosep_of h1 (by rw [← HA.out]; exact h2) (by rw [← HA.out]; exact h3)
                    have c0 := (HW.out.cell (p := ⟨w.heap.size, 0, none⟩) (by rw [HNE.out]; exact Nat.lt_succ_self _)).trans HC0.out.1
                    have c1 := (HW.out.cell (p := ⟨w.heap.size, 1, none⟩) (by rw [HNE.out]; exact Nat.lt_succ_self _)).trans HC0.out.2.1
                    have z0 := (HW.out.frozen (p := ⟨w.heap.size, 0, none⟩) (by rw [HNE.out]; exact Nat.lt_succ_self _)).trans HC0.out.2.2.1
                    have z1 := (HW.out.frozen (p := ⟨w.heap.size, 1, none⟩) (by rw [HNE.out]; exact Nat.lt_succ_self _)).trans HC0.out.2.2.2
                    have hw2 := wrote2 (x := .int .i64 4) (y := .int .i64 (q : Int)) c0 c1
                    obtain ⟨W2, hW2⟩ : ∃ W2, W2 = (wc.setCell ⟨w.heap.size, 0, none⟩ (.int .i64 4)).setCell ⟨w.heap.size, 1, none⟩ (.int .i64 (q : Int)) := ⟨_, rfl⟩
                    rw [← hW2] at hw2
                    obtain ⟨r0, r1, r2, r3⟩ := hw2
                    have hbb : Below w.heap.size w W2 := RdOut.fin HNE.out HW1.out HW.out r2 (by rw [HNE.out]; exact r3) (by rw [hW2]; exact ⟨rfl, rfl, rfl⟩)
                    have hfin : Hid (RdOut S w.heap.size (.returned (.tuple #[.slice none 0 0, .agg #[.int .i64 4, .int .i64 (q : Int)]])) W2 ∧ Below w.heap.size w W2) := ⟨.inr ⟨.inl hst.out, 4, _, by decide, rfl⟩, hbb⟩
                    have HW2 := Lib.hid hW2
                    clear hW2 hbb r2 r3
                    go_wp2
                    rw [← HW2.out]
                    refine bodyPost_ret (v := .tuple #[.slice none 0 0, .agg #[.int .i64 4, .int .i64 (q : Int)]]) ?_ rfl hfin.out
                    have hres : Tryd.f4.results = #[.tmp 2, .cell 3 25] := by kernel_rfl
                    simp only [results, hres]
                    go_simp
                  | false =>
                    have hk0 : 0 < k ∧ (q < S.length → a = 32 ∨ a = 47) := by
                      have h := HB2.out
                      have h := of_decide_eq_false h.symm
                      have hq := HQ.out
                      omega
                    have HK0 := Lib.hid hk0
                    clear hk0
                    have hrp : i < V.length := by rw [HVL.out]; omega
                    have hq5 := HM.out
                    have hqo := hq5.out
                    rw [HVL.out] at hqo
                    obtain ⟨Gq, c7', e5, hG5, hG6⟩ := hqo.form (by omega)
                    obtain ⟨rfl, rfl⟩ : A7 = some ⟨Gq, 0, none⟩ ∧ c7 = c7' := by injection e5 with e2 _ e3; exact ⟨e2, e3⟩
                    have hin := hq5.inn i hrp
                    obtain ⟨Aj, cj, hrv, _, _, _, _⟩ := own_sliceA hin
                    have hqc := hqo.cellAt i (by omega)
                    rw [hq5.get hrp, hrv] at hqc
                    have hqf := hqo.frozenAt i
                    have hnr := hVr
                    obtain ⟨R, hR⟩ : ∃ R, R = V.getD i [] := ⟨_, rfl⟩
                    rw [← hR] at hrv hin hqc hnr
                    have hfar := (hq5.top i hrp).symm
                    rw [hrv] at hin hfar
                    have hsz5 : N + 1 ≤ wc.heap.size := by have := HW.out.size; have := HSZ.out; omega
                    have HIN := Lib.hid hin
                    have HFAR := Lib.hid hfar.ne
                    have HR := Lib.hid hR
                    have HRV := Lib.hid hrv
                    have HQ5 := Lib.hid hq5
                    have HQO := Lib.hid hqo
                    clear hin hfar hR hrv hq5 e5 hqo HM
                    have hrl3 : (i : Int) < ((i : Int) + 1) := by omega
                    by_cases hqe : q = S.length
                    · have d8 : ((q : Int) == (S.length : Int)) = true := by simp [hqe]
                      have hdn : Hid (Done S (push V n)) := by
                        refine .inr ⟨p, out, n, k, HRD.out, hnum.out, HK0.out.1, by rw [← HQ.out]; exact hqe, ?_⟩
                        rw [HV.out, HNB.out]
                      clear hqe
                      go_wp2_with (first | (at_builtin; refine wpList_app1g rfl (.tmp 99) (.tmp 101) rfl rfl n HIN.out wc.heap.size rfl rfl (by omega) hsz5 (fun g2 c3 w6 hl6 hg6 hat6 => ?_); have ho6 := (HQO.out.alloc (.cells #[.int .i64 n] 3)).kept hg6 HFAR.out; have hc6 := (ho6.cellAt i (by omega)).trans ((HQ5.out.get hrp).trans (congrArg some HRV.out)); have hf6 := ho6.frozenAt i; have HL6 := Lib.hid hl6; have HG6 := Lib.hid hg6; have HAT6 := Lib.hid hat6; clear ho6 hl6 hg6 hat6) | fail)
                      have happ := HQ5.out.app (i := i) hrp (l := R ++ [n]) (by simp) HL6.out (by rw [HRV.out]; exact HG6.out) (by rw [HRV.out]; exact HAT6.out)
                      have hset : V.set i (R ++ [n]) = push V n := by rw [HR.out]; exact (push_set HVL.out n).symm
                      rw [hset] at happ
                      have hpl2 : (push V n).length = i + 1 := by rw [← hset, List.length_set, HVL.out]
                      have hW6 := ((HW.out.alloc hsz5 _).grown HG6.out (by simp; omega) (fun b hb => (HIN.out.lt b hb).1)).setCell (p := ⟨Gq, i, none⟩) hG5 (.slice (some ⟨g2, 0, none⟩) (R.length + 1) c3)
                      obtain ⟨w8, hw8⟩ : ∃ x, x = w6.setCell ⟨Gq, i, none⟩ (.slice (some ⟨g2, 0, none⟩) (R.length + 1) c3) := ⟨_, rfl⟩
                      rw [← hw8] at happ hW6 ⊢
                      obtain ⟨hs8, hhs8⟩ : ∃ x, x = hs.set i (.slice (some ⟨g2, 0, none⟩) (R.length + 1) c3) := ⟨_, rfl⟩
                      rw [← hhs8] at happ
                      have HM8 := Lib.hid happ
                      have HW8 := Lib.hid hW6
                      have HCK : Hid (Calls Tryd.prog 12 #[.slice (some ⟨Gq, 0, none⟩) (i + 1) c7] w8 fun e w' => (∃ k : Int, e = .returned (.int .i64 k) ∧ (k = 0 → FillOk (push V n)) ∧ (FillOk (push V n) → k = 0)) ∧ w8 = w') := by
                        show Calls _ _ _ _ _
                        obtain ⟨A', c', e', hsr, _, _⟩ := happ.sr
                        obtain ⟨rfl, rfl⟩ : some ⟨Gq, 0, none⟩ = A' ∧ c7 = c' := by injection e' with h1 _ h2; exact ⟨h1, h2⟩
                        have := fcheck_any (some ⟨Gq, 0, none⟩) c7 (push V n) w8 (by omega) hsr
                        rw [hpl2] at this
                        exact this
                      clear happ hW6 hset hpl2 hw8 hhs8 hc6 hf6 hqc hqf
                      refine HCK.out.mono ?_
                      rintro e w2 ⟨⟨k, rfl, hk1, hk2⟩, rfl⟩
                      by_cases hk0 : k = 0
                      · have hok := Lib.hid (hk1 hk0)
                        subst hk0
                        clear hk1 hk2
                        have c0 := (HW8.out.cell (p := ⟨w.heap.size, 0, none⟩) (by rw [HNE.out]; exact Nat.lt_succ_self _)).trans HC0.out.1
                        have c1 := (HW8.out.cell (p := ⟨w.heap.size, 1, none⟩) (by rw [HNE.out]; exact Nat.lt_succ_self _)).trans HC0.out.2.1
                        have z0 := (HW8.out.frozen (p := ⟨w.heap.size, 0, none⟩) (by rw [HNE.out]; exact Nat.lt_succ_self _)).trans HC0.out.2.2.1
                        have z1 := (HW8.out.frozen (p := ⟨w.heap.size, 1, none⟩) (by rw [HNE.out]; exact Nat.lt_succ_self _)).trans HC0.out.2.2.2
                        have hw2 := wrote2 (x := .int .i64 0) (y := .int .i64 0) c0 c1
                        obtain ⟨W2, hW2⟩ : ∃ W2, W2 = (w8.setCell ⟨w.heap.size, 0, none⟩ (.int .i64 0)).setCell ⟨w.heap.size, 1, none⟩ (.int .i64 0) := ⟨_, rfl⟩
                        rw [← hW2] at hw2
                        obtain ⟨r0, r1, r2, r3⟩ := hw2
                        have hbb : Below w.heap.size w W2 := RdOut.fin HNE.out HW1.out HW8.out r2 (by rw [HNE.out]; exact r3) (by rw [hW2]; exact ⟨rfl, rfl, rfl⟩)
                        have hfin : Hid (RdOut S w.heap.size (.returned (.tuple #[.slice (some ⟨Gq, 0, none⟩) (i + 1) c7, .agg #[.int .i64 0, .int .i64 0]])) W2 ∧ Below w.heap.size w W2) := ⟨.inl ⟨push V n, _, hs8, rfl, hdn.out, hok.out, (HM8.out.keepB (fun k hk => r3 k (by have := HNE.out; omega))).low (by have := HNE.out; omega)⟩, hbb⟩
                        have HW2 := Lib.hid hW2
                        clear hW2 hbb r2 r3
                        go_wp2
                        rw [← HW2.out]
                        refine bodyPost_ret (v := .tuple #[.slice (some ⟨Gq, 0, none⟩) (i + 1) c7, .agg #[.int .i64 0, .int .i64 0]]) ?_ rfl hfin.out
                        have hres : Tryd.f4.results = #[.tmp 2, .cell 3 25] := by kernel_rfl
                        simp only [results, hres]
                        go_simp
                      · have dk : (k != 0) = true := by simpa using hk0
                        have hno : Hid (¬ FillOk (push V n)) := fun hh => hk0 (hk2 hh)
                        clear hk1 hk2
                        have c0 := (HW8.out.cell (p := ⟨w.heap.size, 0, none⟩) (by rw [HNE.out]; exact Nat.lt_succ_self _)).trans HC0.out.1
                        have c1 := (HW8.out.cell (p := ⟨w.heap.size, 1, none⟩) (by rw [HNE.out]; exact Nat.lt_succ_self _)).trans HC0.out.2.1
                        have z0 := (HW8.out.frozen (p := ⟨w.heap.size, 0, none⟩) (by rw [HNE.out]; exact Nat.lt_succ_self _)).trans HC0.out.2.2.1
                        have z1 := (HW8.out.frozen (p := ⟨w.heap.size, 1, none⟩) (by rw [HNE.out]; exact Nat.lt_succ_self _)).trans HC0.out.2.2.2
                        have hw2 := wrote2 (x := .int .i64 k) (y := .int .i64 (-1)) c0 c1
                        obtain ⟨W2, hW2⟩ : ∃ W2, W2 = (w8.setCell ⟨w.heap.size, 0, none⟩ (.int .i64 k)).setCell ⟨w.heap.size, 1, none⟩ (.int .i64 (-1)) := ⟨_, rfl⟩
                        rw [← hW2] at hw2
                        obtain ⟨r0, r1, r2, r3⟩ := hw2
                        have hbb : Below w.heap.size w W2 := RdOut.fin HNE.out HW1.out HW8.out r2 (by rw [HNE.out]; exact r3) (by rw [hW2]; exact ⟨rfl, rfl, rfl⟩)
                        have hfin : Hid (RdOut S w.heap.size (.returned (.tuple #[.slice none 0 0, .agg #[.int .i64 k, .int .i64 (-1)]])) W2 ∧ Below w.heap.size w W2) := ⟨.inr ⟨.inr ⟨push V n, hdn.out, hno.out⟩, k, -1, hk0, rfl⟩, hbb⟩
                        have HW2 := Lib.hid hW2
                        clear hW2 hbb r2 r3
                        go_wp2
                        rw [← HW2.out]
                        refine bodyPost_ret (v := .tuple #[.slice none 0 0, .agg #[.int .i64 k, .int .i64 (-1)]]) ?_ rfl hfin.out
                        have hres : Tryd.f4.results = #[.tmp 2, .cell 3 25] := by kernel_rfl
                        simp only [results, hres]
                        go_simp
                    · have d8 : ((q : Int) == (S.length : Int)) = false := by simp; omega
                      have hrd2 : Hid (Rd S (q + 1) (push V n)) := by
                        show Rd _ _ _
                        obtain ⟨c, hc, hcs⟩ := sep_of (s := S) (q := q) (by omega) (by rw [← HA.out]; exact HK0.out.2 (by omega))
                        rw [HQ.out] at hc
                        have := Rd.next HRD.out hnum.out HK0.out.1 hc hcs
                        rw [← HQ.out, ← HNB.out, ← HV.out] at this
                        exact this
                      have HQS : Hid (q + 1 ≤ S.length + 0) := by show _ ≤ _; omega
                      clear hqe
                      go_wp2_with (first | (at_builtin; refine wpList_app1g rfl (.tmp 99) (.tmp 101) rfl rfl n HIN.out wc.heap.size rfl rfl (by omega) hsz5 (fun g2 c3 w6 hl6 hg6 hat6 => ?_); have ho6 := (HQO.out.alloc (.cells #[.int .i64 n] 3)).kept hg6 HFAR.out; have hc6 := (ho6.cellAt i (by omega)).trans ((HQ5.out.get hrp).trans (congrArg some HRV.out)); have hf6 := ho6.frozenAt i; have HL6 := Lib.hid hl6; have HG6 := Lib.hid hg6; have HAT6 := Lib.hid hat6; clear ho6 hl6 hg6 hat6) | fail)
                      have happ := HQ5.out.app (i := i) hrp (l := R ++ [n]) (by simp) HL6.out (by rw [HRV.out]; exact HG6.out) (by rw [HRV.out]; exact HAT6.out)
                      have hset : V.set i (R ++ [n]) = push V n := by rw [HR.out]; exact (push_set HVL.out n).symm
                      rw [hset] at happ
                      have hpl2 : (push V n).length = i + 1 := by rw [← hset, List.length_set, HVL.out]
                      have hW6 := ((HW.out.alloc hsz5 _).grown HG6.out (by simp; omega) (fun b hb => (HIN.out.lt b hb).1)).setCell (p := ⟨Gq, i, none⟩) hG5 (.slice (some ⟨g2, 0, none⟩) (R.length + 1) c3)
                      obtain ⟨w8, hw8⟩ : ∃ x, x = w6.setCell ⟨Gq, i, none⟩ (.slice (some ⟨g2, 0, none⟩) (R.length + 1) c3) := ⟨_, rfl⟩
                      rw [← hw8] at happ hW6 ⊢
                      obtain ⟨hs8, hhs8⟩ : ∃ x, x = hs.set i (.slice (some ⟨g2, 0, none⟩) (R.length + 1) c3) := ⟨_, rfl⟩
                      rw [← hhs8] at happ
                      have HM8 := Lib.hid happ
                      have HW8 := Lib.hid hW6
                      have HPL := Lib.hid hpl2
                      clear happ hW6 hset hpl2 hw8 hhs8 hc6 hf6 hqc hqf
                      first | go_roundw | (go_wp2; go_roundw) | skip
                      case rel => exact ⟨q + 1, push V n, hs8, _, _, by go_num, by rw [HPL.out], HM8.out, hrd2.out, HW8.out⟩
                      case measure => have := HQS.out; simp [Go.RowKit.intOf]; omega
end Go.Proofs.YtmlmdklheiafpaaDoor
