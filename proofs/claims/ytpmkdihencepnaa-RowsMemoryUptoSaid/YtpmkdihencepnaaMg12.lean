/-
  fill.Check, fill.twin: what they answer.
-/
import Derived.Test.YtpmkdihencepnaaMg03
import Derived.Test.YtpmkdihencepnaaMg06
import Derived.Test.YtpmkdihencepnaaMg07
import Derived.Test.YtpmkdihencepnaaMg11
namespace Go.Proofs.Ytpmkdihencepnaa
open Go.RowKit

set_option maxRecDepth 100000 in
theorem ftwin_any (A : Option Addr) (cap : Nat) (T : List (List Int)) (w : World) (hT : T.length < 1000000) (hrl : ∀ i, (T.getD i []).length < 1000000) (h : SR w w.heap.size A T) :
    Calls Try.prog 40 #[.slice A T.length cap] w fun e w' => (∃ v hs, e = .returned v ∧ OwnM w' w.heap.size v hs T) ∧ Below w.heap.size w w' := by
  go_enter Try.func40, Try.ntmps40
  go_wp2
  go_loopw [3, 8] (fun ov iv wr => ∃ (i : Nat) (hs : List Value), i ≤ T.length ∧ iv = .int .i64 i ∧ OwnM wr w.heap.size ov hs (T.take i) ∧ Below w.heap.size w wr) (fun _ iv _ => T.length - (intOf iv).toNat)
  case atStart => exact ⟨0, [], Nat.zero_le _, rfl, OwnM.nil _ _, Below.refl _ _⟩
  case round =>
    obtain ⟨i, hs, hi, rfl, hm, hW⟩ := hrel
    have HM := Lib.hid hm
    have hsz := hW.size
    clear hm
    by_cases hlt : i < T.length
    · have di : decide (i < T.length) = true := decide_eq_true hlt
      obtain ⟨b, o, rfl, hb⟩ := h.addr (by omega)
      have h2 := h.below hW
      obtain ⟨Ar, cr, hc, hr, _⟩ := h2.at_ hlt
      have hrl2 := hrl i
      obtain ⟨r, hre⟩ : ∃ r, r = T.getD i [] := ⟨_, rfl⟩
      rw [← hre] at hc hr hrl2
      have HRE := Lib.hid hre
      clear hre h2
      go_wp2_with (first | (go_at_call 75; refine (clone_any Ar cr r _ hrl2 (hr.more hsz)).mono ?_) | fail)
      rintro e w4 ⟨v4, rfl, hv4, hb4⟩
      obtain ⟨A4, c4, rfl, _, _, hle, _⟩ := own_sliceA hv4
      have hu4 := hv4.mono hsz
      have hfar := HM.out.far_new (u := .slice A4 r.length c4) (fun k hk => by
        have := (hv4.lt k hk).1; exact this)
      have hm4 := HM.out.below hb4
      have hmo := hm4.out
      rw [List.length_take, Nat.min_eq_left (by omega)] at hmo
      have HM4 := Lib.hid hm4
      have HMO := Lib.hid hmo
      have HU4 := Lib.hid hu4
      have HF := Lib.hid hfar
      have hW4 := hW.trans (hb4.mono hsz)
      have hB9 := Lib.hid hW4.size
      clear hm4 hmo hu4 hfar hv4 hb4
      go_wp2_with (first | (at_builtin; refine wpList_push (v := u3) rfl (.tmp 12) (.tmp 15) rfl rfl (.slice A4 r.length c4) rfl HMO.out w4.heap.size rfl rfl (by omega) hB9.out (fun g2 c2 w5 hl5 hg5 hat5 => ?_)) | fail)
      have hpush := (HM4.out.alloc (.cells #[.slice A4 r.length c4] 26)).push (u := .slice A4 r.length c4) (l := r) (HU4.out.alloc _) HF.out.1 HF.out.2 (by rw [List.length_take, Nat.min_eq_left (by omega)]) hl5 hg5 (by simpa using hat5)
      have hts : T.take i ++ [r] = T.take (i + 1) := by rw [getD_take_succ hlt, HRE.out]
      rw [hts] at hpush
      have hW5 : Below w.heap.size w w5 := (hW4.alloc hB9.out _).grown hg5 (by have := hB9.out; simp; omega) (fun k hk => (HMO.out.lt k hk).1)
      have HPU := Lib.hid hpush
      clear hpush hl5 hg5 hat5 hts
      go_wp2
      go_roundw
      case rel => exact ⟨i + 1, _, by omega, by go_num, HPU.out, hW5⟩
      case measure => simp [intOf]; omega
    · have di : decide (i < T.length) = false := decide_eq_false hlt
      have hm := HM.out
      rw [List.take_of_length_le (by omega)] at hm
      have HM2 := Lib.hid hm
      clear hm
      go_wp2
      go_ret
      exact ⟨⟨_, _, rfl, HM2.out⟩, hW⟩

end Go.Proofs.Ytpmkdihencepnaa

/-
  fill.Turned: what it answers.
-/
namespace Go.Proofs.Ytpmkdihencepnaa
open Go.RowKit

theorem strict_nodup {r : List Int} (h : Up r) (hn : ∀ q, q + 1 < r.length → r.getD q 0 ≠ r.getD (q + 1) 0) : r.Nodup := by
  have hd : Dn r := dn_of (fun i a b ha hb => by
    obtain ⟨a', ha', hle⟩ := up_at h hb
    rw [ha] at ha'
    obtain rfl := Option.some.inj ha'
    obtain ⟨h1, e1⟩ := some_getD ha
    obtain ⟨h2, e2⟩ := some_getD hb
    have := hn i h2
    omega)
  exact hd.imp (fun {a b} g e => by omega)
/-- What fill.Turned answers. -/
def TurOut (T : List (List Int)) (B : Nat) (e : Ending) (w' : World) : Prop :=
  (∃ v hs, e = .returned (.tuple #[v, .int .i64 0]) ∧ (∀ r ∈ T, r.Nodup) ∧ OwnM w' B v hs (fillC [] T)) ∨ ((¬ ∀ r ∈ T, r.Nodup) ∧ ∃ k : Int, k ≠ 0 ∧ e = .returned (.tuple #[.slice none 0 0, .int .i64 k]))
set_option maxRecDepth 100000 in
set_option maxHeartbeats 2000000 in
theorem turned_any (A : Option Addr) (cap : Nat) (T : List (List Int)) (w : World) (hT : T.length ≤ 9223372036854775807) (hok : FillOk T) (h : SR w w.heap.size A T) :
    Calls Try.prog 10 #[.slice A T.length cap] w fun e w' => TurOut T w.heap.size e w' ∧ Below w.heap.size w w' := by
  have HOK := Lib.hid hok
  have hsm := hok.small
  have hT40 := hsm.1
  have HR40 := Lib.hid hsm.2
  clear hsm
  go_enter Try.func10, Try.ntmps10
  go_wp2_with (first | (go_at_call 35; refine (fcheck_any A cap T _ hT h).mono ?_) | fail)
  rintro e w1 ⟨⟨k, rfl, _, hk⟩, rfl⟩
  have hk0 := hk HOK.out
  subst hk0
  clear hk hok
  go_wp2
  go_loopw [5, 17] (fun ov iv wr => ∃ (i : Nat) (hs : List Value) (A5 : Option Addr) (c5 : Nat), i ≤ T.length ∧ iv = .int .i64 i ∧ ov = .slice A5 (fillC [] (T.take i)).length c5 ∧ OwnM wr w.heap.size ov hs (fillC [] (T.take i)) ∧ (∀ i', i' < i → (T.getD i' []).Nodup) ∧ Below w.heap.size w wr) (fun _ iv _ => T.length - (Go.RowKit.intOf iv).toNat)
  case atStart => exact ⟨0, [], none, 0, Nat.zero_le _, rfl, rfl, OwnM.nil _ _, fun i' h' => by omega, Below.refl _ _⟩
  case round =>
    obtain ⟨i, hs, A5, c5, hi, rfl, rfl, hm, hdone, hW⟩ := hrel
    have HDONE := Lib.hid hdone
    clear hdone
    have HM := Lib.hid hm
    have HW := Lib.hid hW
    clear hm
    by_cases hit : i < T.length
    · have di : decide (i < T.length) = true := decide_eq_true hit
      obtain ⟨b, o, rfl, hb⟩ := h.addr (by omega)
      have h2 := h.below hW
      obtain ⟨Ar, cr, hc, hr, _⟩ := h2.at_ hit
      have hrl := HR40.out i
      have hhi := fill_high HOK.out.1 hit
      have hft := fillC_take hit
      have hsh := fill_short HOK.out i
      have hnd : T.getD i [] ∈ T := by rw [getD_get hit]; exact List.getElem_mem hit
      have hup := HOK.out.1.up _ hnd
      have HRI : Hid ((T.getD i []).Nodup → ∀ i', i' < i + 1 → (T.getD i' []).Nodup) := fun hh i' h' => by
        by_cases e : i' = i
        · rw [e]; exact hh
        · exact HDONE.out i' (by omega)
      have HRN : Hid (¬ (T.getD i []).Nodup → ¬ ∀ r ∈ T, r.Nodup) := fun hh hall => hh (hall _ hnd)
      obtain ⟨r, hre⟩ : ∃ r, r = T.getD i [] := ⟨_, rfl⟩
      obtain ⟨U, hU⟩ : ∃ U, U = fillC [] (T.take i) := ⟨_, rfl⟩
      rw [← hre] at hc hr hrl hhi hft hup HRI HRN
      rw [← hU] at HM hhi hft hsh ⊢
      have hrs : Hid (∀ j, j < r.length → ∃ g p, Ar = some ⟨g, p, none⟩ ∧ g < w.heap.size ∧ w.cell? ⟨g, p + j, none⟩ = some (.int .i64 (r.getD j 0))) := fun j hj => by
        obtain ⟨Ar2, cr2, hc2, hr2, _⟩ := h.at_ hit
        rw [← hre] at hc2 hr2
        have e := (hW.cell (p := ⟨b, o + i, none⟩) hb).trans hc2
        rw [hc] at e
        have e2 : Ar = Ar2 := by
          have := Option.some.inj e
          injection this
        subst e2
        obtain ⟨g, p, e3, hg⟩ := hr2.addr (by omega)
        subst e3
        exact ⟨g, p, rfl, hg, getD_cell hr2 hj⟩
      have HFT := Lib.hid hft
      have HHI := Lib.hid hhi
      have HSH := Lib.hid hsh
      have HUP := Lib.hid hup
      clear hft hhi hsh hnd hup hre hU h2 hr hW
      go_wp2
      go_loopw [5, 24] (fun ov jv wz => ∃ (j : Nat) (hs : List Value) (A5 : Option Addr) (c5 : Nat), j ≤ r.length ∧ jv = .int .i64 j ∧ ov = .slice A5 (addCol U (r.take j)).length c5 ∧ OwnM wz w.heap.size ov hs (addCol U (r.take j)) ∧ (∀ q, q + 1 < j → r.getD q 0 ≠ r.getD (q + 1) 0) ∧ Below w.heap.size w wz) (fun _ jv _ => r.length - (Go.RowKit.intOf jv).toNat)
      case atStart => exact ⟨0, hs, A5, c5, Nat.zero_le _, rfl, by simp [addCol], by simpa [addCol] using HM.out, fun q hq => by omega, HW.out⟩
      case round =>
        obtain ⟨w9, rfl⟩ : ∃ w9, w9 = wr := ⟨_, rfl⟩
        clear HM HW hs hc
        obtain ⟨j, hs, A6, c6, hj, rfl, rfl, hm, hne, hW⟩ := hrel
        have HNE := Lib.hid hne
        clear hne
        have HM := Lib.hid hm
        have HW := Lib.hid hW
        have hsz := hW.size
        clear hm hW
        by_cases hjr : j < r.length
        · have dj : decide (j < r.length) = true := decide_eq_true hjr
          obtain ⟨g, p, rfl, hg, hcj0⟩ := hrs.out j hjr
          have hcj := (HW.out.cell (p := ⟨g, p + j, none⟩) hg).trans hcj0
          obtain ⟨n, hn⟩ : ∃ n, n = r.getD j 0 := ⟨_, rfl⟩
          have hstep := addCol_step U r (j := j) (x := n) (by rw [hn]; exact getD_some hjr) (by rcases HHI.out with h | h; exact .inl h.1; exact .inr h.1)
          have hlen : (addCol U (r.take j)).length ≤ 40 ∧ (∀ q, ((addCol U (r.take j)).getD q []).length ≤ 41) ∧ j ≤ (addCol U (r.take j)).length ∧ (j = (addCol U (r.take j)).length ↔ i = 0) := by
            have h1 := HSH.out
            refine ⟨?_, fun q => ?_, ?_, ?_⟩
            · rcases HHI.out with ⟨e, _⟩ | ⟨e, _⟩
              · rw [e, addCol_len, List.length_take]; omega
              · rw [addCol_keep _ _ (by rw [List.length_take]; omega)]; exact h1.1
            · rw [addCol_getD, List.length_append]
              have := h1.2 q
              have : ((r.take j)[q]?).toList.length ≤ 1 := by cases (r.take j)[q]? <;> simp
              omega
            · rcases HHI.out with ⟨e, _⟩ | ⟨e, _⟩
              · rw [e, addCol_len, List.length_take]; omega
              · rw [addCol_keep _ _ (by rw [List.length_take]; omega)]; omega
            · rcases HHI.out with ⟨e, e0⟩ | ⟨e, e0⟩
              · rw [e, addCol_len, List.length_take]; omega
              · rw [addCol_keep _ _ (by rw [List.length_take]; omega)]; omega
          obtain ⟨V, hV⟩ : ∃ V, V = addCol U (r.take j) := ⟨_, rfl⟩
          rw [← hV] at hstep hlen HM ⊢
          obtain ⟨hl1, hl2, hl3, hl4⟩ := hlen
          rw [← hn] at hcj
          have hqa := qpad_add n hl3
          have hql := Lib.hid (qpad_len (Q := V) (r := j) hl2)
          have HQA := Lib.hid hqa
          have HSTEP := Lib.hid hstep
          have HL4 := Lib.hid hl4
          have hprev : 0 < j → ∃ q : Int, w9.cell? ⟨g, p + (j - 1), none⟩ = some (.int .i64 q) ∧ q = r.getD (j - 1) 0 := fun h0 => by
            obtain ⟨g', p', e, _, hh⟩ := hrs.out (j - 1) (by omega)
            obtain ⟨rfl, rfl⟩ : g = g' ∧ p = p' := by simpa using e
            exact ⟨_, (HW.out.cell (p := ⟨g, p + (j - 1), none⟩) hg).trans hh, rfl⟩
          have HN := Lib.hid hn
          by_cases hrep : 0 < j ∧ n = r.getD (j - 1) 0
          · obtain ⟨q, hq, hqe⟩ := hprev hrep.1
            have d0 : decide ((0 : Int) < (j : Int)) = true := decide_eq_true (by have := hrep.1; omega)
            have dne : (n == q) = true := by simp [hqe, hrep.2]
            have hfin : Hid (TurOut T w.heap.size (.returned (.tuple #[.slice none 0 0, .int .i64 3])) w9) := by
              refine .inr ⟨HRN.out (fun hnd => ?_), 3, by decide, rfl⟩
              have e := hrep.2
              rw [HN.out, getD_get hjr, getD_get (show j - 1 < r.length by omega)] at e
              have := (List.getElem_inj hnd).1 e
              have := hrep.1
              omega
            have hWf := HW.out
            have h0 := hrep.1
            clear hqe hrep hprev hqa hstep hl2 hl4 hV hn
            go_wp2
            go_ret2
            exact ⟨hfin.out, hWf⟩
          replace hprev : 0 < j → ∃ q : Int, w9.cell? ⟨g, p + (j - 1), none⟩ = some (.int .i64 q) ∧ n ≠ q := fun h0 => by
            obtain ⟨q, hq, hqe⟩ := hprev h0
            exact ⟨q, hq, fun e => hrep ⟨h0, by rw [e, hqe]⟩⟩
          have HNX : Hid (∀ q, q + 1 < j + 1 → r.getD q 0 ≠ r.getD (q + 1) 0) := fun q hq e => by
            by_cases hqj : q + 1 = j
            · refine hrep ⟨by omega, ?_⟩
              rw [HN.out, show j - 1 = q by omega, ← hqj]; exact e.symm
            · exact HNE.out q (by omega) e
          clear hrep HN
          have HPREV := Lib.hid hprev
          clear hqa hstep hl2 hl4 hV hn hprev hcj0
          go_upto_region 11 with fail
          go_cut [39] (fun bv wz => bv = .bool false ∧ w9 = wz)
          case first =>
            by_cases h0 : 0 < j
            · obtain ⟨q, hq, hne⟩ := HPREV.out h0
              have d0 : decide ((0 : Int) < (j : Int)) = true := decide_eq_true (by omega)
              have dne : (n == q) = false := by simpa using hne
              go_wp2
              go_meet
              exact ⟨rfl, rfl⟩
            · have d0 : decide ((0 : Int) < (j : Int)) = false := decide_eq_false (by omega)
              go_wp2
              go_meet
              exact ⟨rfl, rfl⟩
          case rest =>
            obtain ⟨rfl, rfl⟩ := hcut
            go_upto_if 41 with fail
            go_cut [5] (fun qv wz => ∃ (us5 : List Value) (A7 : Option Addr) (c7 : Nat), qv = .slice A7 (qpad V j).length c7 ∧ OwnM wz w.heap.size qv us5 (qpad V j) ∧ Below w.heap.size w wz)
            case first =>
              by_cases hi0 : i = 0
              · have dr : ((i : Int) == 0) = true := by simpa using hi0
                have hje := Lib.hid (HL4.out.2 hi0)
                have hqo := HM.out.out
                have HQO := Lib.hid hqo
                clear hqo hi0
                go_wp2_with (first | (at_builtin; refine wpList_push (v := .slice A6 V.length c6) rfl (.tmp 42) (.tmp 43) rfl rfl (.slice none 0 0) rfl HQO.out w9.heap.size rfl rfl (by omega) hsz (fun g2 c3 w5 hl5 hg5 hat5 => ?_)) | fail)
                have hpush := (HM.out.alloc (.cells #[.slice none 0 0] 26)).push (u := .slice none 0 0) (l := []) (World.ownsRow_nil _ _ _ _) (HM.out.far_new (u := .slice none 0 0) (fun k hk => by simp [Value.ownBlock] at hk)).1 (HM.out.far_new (u := .slice none 0 0) (fun k hk => by simp [Value.ownBlock] at hk)).2 rfl hl5 hg5 (by simpa using hat5)
                have hW5 := (HW.out.alloc hsz _).grown hg5 (by simp; omega) (fun k hk => (HQO.out.lt k hk).1)
                have hqn : (qpad V j).length = V.length + 1 := by rw [qpad_new hje.out]; simp
                rw [← qpad_new hje.out] at hpush
                have HP := Lib.hid hpush
                have HW5 := Lib.hid hW5
                have HQN := Lib.hid hqn
                clear hpush hW5 hl5 hg5 hat5 hqn
                go_wp2
                go_meet
                exact ⟨_, _, _, by rw [HQN.out], HP.out, HW5.out⟩
              · have dr : ((i : Int) == 0) = false := by simpa using hi0
                have hqn := Lib.hid (qpad_old (Q := V) (r := j) (fun e => hi0 (HL4.out.1 e)))
                go_wp2
                go_meet
                exact ⟨hs, A6, c6, by rw [hqn.out], by rw [hqn.out]; exact HM.out, HW.out⟩
            case rest =>
              obtain ⟨us5, A7, c7, rfl, hq5, hW5⟩ := hcut
              clear HM HW hsz
              have hrp := HQA.out.1
              obtain ⟨Gq, c7', e5, hG5, hG6⟩ := hq5.out.form (by omega)
              obtain ⟨rfl, rfl⟩ : A7 = some ⟨Gq, 0, none⟩ ∧ c7 = c7' := by injection e5 with e2 _ e3; exact ⟨e2, e3⟩
              have hin := hq5.inn j hrp
              obtain ⟨Aj, cj, hrv, _, _, _, _⟩ := own_sliceA hin
              have hqc := hq5.out.cellAt j (by omega)
              rw [hq5.get hrp, hrv] at hqc
              have hqf := hq5.out.frozenAt j
              have hnr := hql.out
              obtain ⟨R, hR⟩ : ∃ R, R = (qpad V j).getD j [] := ⟨_, rfl⟩
              rw [← hR] at hrv hin hqc hnr
              have hfar := (hq5.top j hrp).symm
              rw [hrv] at hin hfar
              have hsz5 := hW5.size
              have HIN := Lib.hid hin
              have HFAR := Lib.hid hfar.ne
              have HR := Lib.hid hR
              have HRV := Lib.hid hrv
              have HQ5 := Lib.hid hq5
              have HQO := Lib.hid hq5.out
              have HW5 := Lib.hid hW5
              have hrl2 : j < (qpad V j).length := hrp
              have hrl3 : (j : Int) < ((qpad V j).length : Int) := by omega
              clear hin hfar hR hrv hq5 hW5 e5
              go_wp2_with (first | (at_builtin; refine wpList_app1g rfl (.tmp 50) (.tmp 52) rfl rfl n HIN.out wc.heap.size rfl rfl (by omega) hsz5 (fun g2 c3 w6 hl6 hg6 hat6 => ?_); have ho6 := (HQO.out.alloc (.cells #[.int .i64 n] 3)).kept hg6 HFAR.out; have hc6 := (ho6.cellAt j (by omega)).trans ((HQ5.out.get hrl2).trans (congrArg some HRV.out)); have hf6 := ho6.frozenAt j; have HL6 := Lib.hid hl6; have HG6 := Lib.hid hg6; have HAT6 := Lib.hid hat6; clear ho6 hl6 hg6 hat6) | fail)
              have happ := HQ5.out.app (i := j) hrl2 (l := R ++ [n]) (by simp) HL6.out (by rw [HRV.out]; exact HG6.out) (by rw [HRV.out]; exact HAT6.out)
              have hset : (qpad V j).set j (R ++ [n]) = addCol U (r.take (j + 1)) := by rw [HR.out, HQA.out.2, HSTEP.out]
              rw [hset] at happ
              have hlq : (addCol U (r.take (j + 1))).length = (qpad V j).length := by rw [← hset, List.length_set]
              have hW6 := ((HW5.out.alloc hsz5 _).grown HG6.out (by simp; omega) (fun b hb => (HIN.out.lt b hb).1)).setCell (p := ⟨Gq, j, none⟩) hG5 (.slice (some ⟨g2, 0, none⟩) (R.length + 1) c3)
              have HA6 := Lib.hid happ
              have HLQ := Lib.hid hlq
              have HW6 := Lib.hid hW6
              clear happ hset hlq hW6
              go_wp2
              go_roundw
              case rel => exact ⟨j + 1, _, _, _, by omega, rfl, by rw [HLQ.out], HA6.out, HNX.out, HW6.out⟩
              case measure => simp [Go.RowKit.intOf]; omega
        · have dj : decide (j < r.length) = false := decide_eq_false hjr
          have hje : j = r.length := by omega
          have hm := HM.out
          have hfl : addCol U (r.take j) = fillC [] (T.take (i + 1)) := by rw [hje, List.take_length, HFT.out]
          rw [hfl] at hm ⊢
          have HM' := Lib.hid hm
          have HDN : Hid (∀ i', i' < i + 1 → (T.getD i' []).Nodup) := HRI.out (strict_nodup HUP.out (fun q hq => HNE.out q (by omega)))
          clear hm hfl HM hje
          go_wp2
          go_roundw
          case rel => exact ⟨i + 1, hs, A6, c6, by omega, rfl, rfl, HM'.out, HDN.out, HW.out⟩
          case measure => simp [Go.RowKit.intOf]; omega
    · have di : decide (i < T.length) = false := decide_eq_false hit
      have hm := HM.out
      rw [List.take_of_length_le (by omega)] at hm ⊢
      have HM' := Lib.hid hm
      have HAL : Hid (∀ r ∈ T, r.Nodup) := fun r hr => by
        obtain ⟨i', h', e⟩ := List.getElem_of_mem hr
        have := HDONE.out i' (by omega)
        rwa [getD_get h', e] at this
      clear hm HM
      go_wp2
      go_ret2
      exact ⟨.inl ⟨_, hs, rfl, HAL.out, HM'.out⟩, HW.out⟩

end Go.Proofs.Ytpmkdihencepnaa

/-
  fill.Turned, whatever comes in.
-/
namespace Go.Proofs.Ytpmkdihencepnaa
open Go.RowKit

def TurTo (T rows : List (List Int)) : Prop := (FillOk T ∧ (∀ r ∈ T, r.Nodup) ∧ rows = fillC [] T) ∨ (¬ (FillOk T ∧ ∀ r ∈ T, r.Nodup) ∧ rows = [])
theorem TurTo.fn {T r s : List (List Int)} (h : TurTo T r) (h' : TurTo T s) : r = s := by
  rcases h with ⟨a, b, rfl⟩ | ⟨a, rfl⟩ <;> rcases h' with ⟨c, d, rfl⟩ | ⟨c, rfl⟩
  · rfl
  · exact absurd ⟨a, b⟩ c
  · exact absurd ⟨c, d⟩ a
  · rfl
theorem turned_all (A : Option Addr) (cap : Nat) (T : List (List Int)) (w : World) (hT : T.length ≤ 9223372036854775807) (h : SR w w.heap.size A T) :
    Calls Try.prog 10 #[.slice A T.length cap] w fun e w' => Told (TurTo T) w.heap.size e w' ∧ Below w.heap.size w w' := by
  by_cases hok : FillOk T
  · refine (turned_any A cap T w hT hok h).mono ?_
    rintro e w' ⟨hT, hb⟩
    rcases hT with ⟨v, hs, rfl, hn, hm⟩ | ⟨hn, k, hk, rfl⟩
    · obtain ⟨A', c', rfl, ho, _, _⟩ := hm.ownR
      exact ⟨⟨_, A', c', 0, rfl, ho, .inl ⟨hok, hn, rfl⟩⟩, hb⟩
    · exact ⟨⟨[], none, 0, k, rfl, OwnR.nil _ _, .inr ⟨fun e => hn e.2, rfl⟩⟩, hb⟩
  · go_enter Try.func10, Try.ntmps10
    go_wp2_with (first | (go_at_call 35; refine (fcheck_any A cap T _ hT h).mono ?_) | fail)
    rintro e w1 ⟨⟨k, rfl, hk1, hk2⟩, rfl⟩
    have hk0 : k ≠ 0 := fun e => hok (hk1 e)
    have hd : (k != 0) = true := by simpa using hk0
    have HN := Lib.hid hok
    clear hk1 hk2 hok hk0
    go_wp2
    go_ret2
    exact ⟨⟨[], none, 0, k, rfl, OwnR.nil _ _, .inr ⟨fun e => HN.out e.1, rfl⟩⟩, Below.refl _ _⟩
end Go.Proofs.Ytpmkdihencepnaa
