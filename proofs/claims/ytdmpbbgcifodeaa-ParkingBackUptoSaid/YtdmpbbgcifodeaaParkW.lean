/-
  parking.Check, Park: what they answer.
-/
import Derived.Test.YtdmpbbgcifodeaaBoolL
import Derived.Test.YtdmpbbgcifodeaaParkM
namespace Go.Proofs.Ytdmpbbgcifodeaa
open Go.RowKit

def pkOk (m : List Int) : Prop := m.length ≤ 20 ∧ ∀ x ∈ m, 1 ≤ x ∧ x ≤ (m.length : Int)
def pkChk (m : List Int) (k : Int) : Prop := k = 0 ↔ pkOk m

set_option maxHeartbeats 1000000 in
theorem pkcheck_any (A : Option Addr) (cap : Nat) (m : List Int) (w : World) (hcl : m.length ≤ 9223372036854775807) (h : Sl w w.heap.size A (ints m)) :
    Calls Try.prog 86 #[.slice A m.length cap] w fun e w' => (∃ k : Int, e = .returned (.int .i64 k) ∧ pkChk m k) ∧ w = w' := by
  go_enter Try.func86, Try.ntmps86
  by_cases hl : 20 < m.length
  · have hd : decide (20 < m.length) = true := decide_eq_true hl
    have hfin : Hid (pkChk m 2) := by
      show _ ↔ _
      constructor
      · intro e; cases e
      · intro e; have := e.1; omega
    go_wp2
    go_ret
    exact ⟨⟨2, rfl, hfin.out⟩, rfl⟩
  · have hd : decide (20 < m.length) = false := decide_eq_false hl
    go_wp2
    go_loop [10] (fun iv => ∃ i : Nat, i ≤ m.length ∧ iv = .int .i64 i ∧ ∀ j, j < i → 1 ≤ m.getD j 0 ∧ m.getD j 0 ≤ (m.length : Int)) (fun iv => m.length - (intOf iv).toNat)
    case atStart => exact ⟨0, by omega, rfl, fun j hj => by omega⟩
    case round =>
      obtain ⟨i, hi, rfl, hok⟩ := hrel
      have HK := Lib.hid hok
      clear hok
      by_cases hlt : i < m.length
      · have hd2 : decide (i < m.length) = true := decide_eq_true hlt
        obtain ⟨b, o, rfl, hb⟩ := h.addr (by omega)
        have hcx := getD_cell h hlt
        have hno : Hid (¬ (1 ≤ m.getD i 0 ∧ m.getD i 0 ≤ (m.length : Int)) → pkChk m 1) := fun hh => by
          constructor
          · intro e; cases e
          · intro e; exact absurd (e.2 (m.getD i 0) (by rw [getD_get hlt]; exact List.getElem_mem hlt)) hh
        have hyes : Hid (1 ≤ m.getD i 0 ∧ m.getD i 0 ≤ (m.length : Int) → ∀ j, j < i + 1 → 1 ≤ m.getD j 0 ∧ m.getD j 0 ≤ (m.length : Int)) := fun hh j hj => by
          by_cases e : j = i
          · rw [e]; exact hh
          · exact HK.out j (by omega)
        obtain ⟨x, hx⟩ : ∃ x, x = m.getD i 0 := ⟨_, rfl⟩
        rw [← hx] at hcx hno hyes
        clear hx
        by_cases h1 : x < 1
        · have hd3 : decide (x < 1) = true := decide_eq_true h1
          have hfin := Lib.hid (hno.out (by omega))
          go_wp2
          go_ret
          exact ⟨⟨1, rfl, hfin.out⟩, rfl⟩
        · have hd3 : decide (x < 1) = false := decide_eq_false h1
          by_cases h2 : (m.length : Int) < x
          · have hd4 : decide ((m.length : Int) < x) = true := decide_eq_true h2
            have hfin := Lib.hid (hno.out (by omega))
            go_wp2
            go_ret
            exact ⟨⟨1, rfl, hfin.out⟩, rfl⟩
          · have hd4 : decide ((m.length : Int) < x) = false := decide_eq_false h2
            have hy := Lib.hid (hyes.out (by omega))
            go_wp2
            go_round
            case rel => exact ⟨i + 1, by omega, by go_num, hy.out⟩
            case measure => simp [intOf]; omega
      · have hd2 : decide (i < m.length) = false := decide_eq_false hlt
        have hfin : Hid (pkChk m 0) := by
          show _ ↔ _
          refine ⟨fun _ => ⟨by omega, fun x hx => ?_⟩, fun _ => rfl⟩
          obtain ⟨j, hj, rfl⟩ := List.getElem_of_mem hx
          have := HK.out j (by omega)
          rwa [getD_get hj] at this
        go_wp2
        go_ret
        exact ⟨⟨0, rfl, hfin.out⟩, rfl⟩

/-- What Park answers. -/
def ParkRes (m : List Int) (B : Nat) (e : Ending) (w : World) : Prop :=
  ∃ (v : Value) (k : Int), e = .returned (.tuple #[v, .int .i64 k]) ∧ (k = 0 ↔ m.length ≤ 20 ∧ Crit m) ∧ (k = 0 → ∃ q, AllSpots m.length q ∧ w.ownsRow B 3 1 v m.length (ints q))

set_option maxRecDepth 100000 in
set_option maxHeartbeats 2000000 in
theorem park_any (A : Option Addr) (cap : Nat) (m : List Int) (w : World) (hcl : m.length ≤ 9223372036854775807) (h : Sl w w.heap.size A (ints m)) :
    Calls Try.prog 42 #[.slice A m.length cap] w fun e w' => ParkRes m w.heap.size e w' ∧ Below w.heap.size w w' := by
  go_enter Try.func42, Try.ntmps42
  go_wp2_with fail
  refine (pkcheck_any _ _ _ _ hcl h).mono ?_
  rintro e w0 ⟨⟨k, rfl, hk⟩, rfl⟩
  by_cases hk0 : k = 0
  · obtain ⟨h20, hv⟩ := hk.1 hk0
    subst hk0
    have HV := Lib.hid hv
    clear hk hv
    go_wp2_with (first | (refine wpList_mkB rfl (.tmp 16) (.tmp 16) rfl (m.length + 1) rfl rfl (by omega) (Nat.le_refl _) (fun w1 hown1 hb1 hz1 => ?_)) | fail)
    rw [← marks_nil] at hown1
    have HO1 := Lib.hid hown1
    clear hown1
    go_wp2
    go_loopw [6, 20] (fun ov iv wr => ∃ q : List Int, q.length ≤ m.length ∧ iv = .int .i64 q.length ∧ ParkInv m q ∧ wr.ownsRow w1.heap.size 3 1 ov q.length (ints q) ∧
      wr.ownsRow w.heap.size 4 1 (.slice (some ⟨w.heap.size, 0, none⟩) (m.length + 1) (m.length + 1)) (m.length + 1) (bools (marks (m.length + 1) q)) ∧ Below w.heap.size w wr ∧ w1.heap.size ≤ wr.heap.size) (fun _ iv _ => m.length - (intOf iv).toNat)
    case atStart => exact ⟨[], by simp, rfl, ParkInv.nil m, World.ownsRow_nil _ _ _ _, HO1.out, hb1, Nat.le_refl _⟩
    case round =>
      clear HO1 hb1
      obtain ⟨q, hq, rfl, hinv, hown, hmk, hW, hsz⟩ := hrel
      have HI := Lib.hid hinv
      have HO := Lib.hid hown
      have HM := Lib.hid hmk
      clear hinv hown hmk
      obtain ⟨i, hi⟩ : ∃ i, i = q.length := ⟨_, rfl⟩
      have HIL := Lib.hid hi
      rw [← hi] at hq HO ⊢
      clear hi
      by_cases hlt : i < m.length
      · have hd1 : decide (i < m.length) = true := decide_eq_true hlt
        obtain ⟨b, o, rfl, hb⟩ := h.addr (by omega)
        have hcx := getD_cell (h.below hW) hlt
        have hx1 := HV.out (m.getD i 0) (by rw [getD_get hlt]; exact List.getElem_mem hlt)
        obtain ⟨M, hM⟩ : ∃ M : Nat, m.getD i 0 = M := ⟨(m.getD i 0).toNat, by omega⟩
        rw [hM] at hcx hx1
        have HMM := Lib.hid hM
        clear hM
        go_wp2
        go_loop [8] (fun nv => ∃ y : Nat, M ≤ y ∧ y ≤ m.length + 1 ∧ nv = .int .i64 y ∧ ∀ s : Int, (M : Int) ≤ s → s < y → s ∈ q) (fun nv => m.length + 1 - (intOf nv).toNat)
        case atStart => exact ⟨M, Nat.le_refl _, by omega, rfl, fun s a b => by omega⟩
        case round =>
          obtain ⟨y, hy1, hy2, rfl, hall⟩ := hrel
          have HALL := Lib.hid hall
          clear hall
          by_cases hyl : y ≤ m.length
          · have hd2 : decide (y ≤ m.length) = true := decide_eq_true hyl
            have hcy := ownB_get HM.out (i := y) (marks_get (by omega))
            by_cases hyq : (y : Int) ∈ q
            · rw [decide_eq_true hyq] at hcy
              have hnx : Hid (∀ s : Int, (M : Int) ≤ s → s < ((y + 1 : Nat) : Int) → s ∈ q) := fun s a b => by
                by_cases e : s = y
                · rw [e]; exact hyq
                · exact HALL.out s a (by omega)
              clear hyq
              go_wp2
              go_round
              case rel => exact ⟨y + 1, by omega, by omega, by go_num, hnx.out⟩
              case measure => simp [intOf]; omega
            · rw [decide_eq_false hyq] at hcy
              have hsn := HI.out.snoc (y := (y : Int)) hyq (by omega) (by omega) (by rw [← HIL.out, HMM.out]; omega) (by rw [← HIL.out, HMM.out]; exact HALL.out)
              have HSN := Lib.hid hsn
              have hd3 : decide (m.length < y) = false := decide_eq_false (by omega)
              have hfr := HM.out.frozenAt y
              have hst := ownB_set HM.out y true
              rw [marks_snoc] at hst
              have HST := Lib.hid hst
              have hos := ownsRow_setCell_below HO.out (a := ⟨w.heap.size, y, none⟩) (by show w.heap.size < w1.heap.size; omega) (.bool true)
              have hszs : w1.heap.size ≤ (wr.setCell ⟨w.heap.size, y, none⟩ (.bool true)).heap.size := by simpa using hsz
              have HOS := Lib.hid hos
              have hszq : Hid (wr.heap.size = (wr.setCell ⟨w.heap.size, y, none⟩ (.bool true)).heap.size) := by show _ = _; simp
              clear hyq hsn hst hos
              go_wp2_with (first | (at_builtin; refine wpList_app1h rfl (.tmp 43) (.tmp 45) rfl rfl (y : Int) HOS.out wr.heap.size hszq.out rfl (by omega) hszs (fun g2 c2 w5 hl5 hb5 => ?_)) | fail)
              go_wp2
              go_roundw
              case rel =>
                refine ⟨q ++ [(y : Int)], by rw [List.length_append, ← HIL.out]; simp; omega, by rw [List.length_append, ← HIL.out]; go_num, HSN.out, by rw [List.length_append, ← HIL.out]; exact hl5, own_low HST.out (by omega) hb5, ?_, Nat.le_trans hszs hb5.size⟩
                exact (hW.setCell (p := ⟨w.heap.size, y, none⟩) (Nat.le_refl _) _).trans (hb5.mono (by omega))
              case measure => simp [intOf]; omega
          · have hd2 : decide (y ≤ m.length) = false := decide_eq_false hyl
            have hd3 : decide (m.length < y) = true := decide_eq_true (by omega)
            have hfin : Hid (¬ Crit m) := HI.out.fail (by rw [← HIL.out]; exact hlt) (fun x hx => (HV.out x hx).1) (by rw [← HIL.out, HMM.out]; exact fun s a b => HALL.out s a (by omega))
            go_wp2
            go_ret2
            exact ⟨⟨_, 5, rfl, ⟨fun e => (by cases e), fun e => absurd e.2 hfin.out⟩, fun e => (by cases e)⟩, hW⟩
      · have hd1 : decide (i < m.length) = false := decide_eq_false hlt
        have him : Hid (q.length = m.length) := by show _ = _; rw [← HIL.out]; omega
        have hfin := Lib.hid (HI.out.crit him.out (fun x hx => (HV.out x hx).1))
        have him2 : Hid (i = m.length) := by show _ = _; omega
        go_wp2
        go_ret2
        exact ⟨⟨_, 0, rfl, ⟨fun _ => ⟨h20, hfin.out.2⟩, fun _ => rfl⟩, fun _ => ⟨q, hfin.out.1, by rw [← him2.out]; exact HO.out.mono (by omega)⟩⟩, hW⟩
  · have hd : (k != 0) = true := by simpa using hk0
    have hfin : Hid (k = 0 ↔ m.length ≤ 20 ∧ Crit m) := ⟨fun e => absurd e hk0, fun e => absurd (hk.2 ⟨e.1, e.2.1⟩) hk0⟩
    have hne := Lib.hid hk0
    clear hk hk0
    go_wp2
    go_ret2
    exact ⟨⟨_, k, rfl, hfin.out, fun e => absurd e hne.out⟩, Below.refl _ _⟩

end Go.Proofs.Ytdmpbbgcifodeaa
