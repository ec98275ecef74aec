/- Part of the proof. -/
import Derived.Test.YtpmkdihencepnaaGreatDoorMk03
import Derived.Test.YtpmkdihencepnaaGreatDoorMk04
import Derived.Test.YtpmkdihencepnaaGreatDoorMk05
import Derived.Test.YtpmkdihencepnaaGreatDoorMk06
import Derived.Test.YtpmkdihencepnaaGreatDoorMk07
set_option maxHeartbeats 16000000
set_option maxRecDepth 100000
namespace Go.Proofs.YtpmkdihencepnaaGreatDoor
section
open Go.RowKit
theorem strict_nodup {r : List Int} (h : Up r) (hn : ∀ q, q + 1 < r.length → r.getD q 0 ≠ r.getD (q + 1) 0) : r.Nodup := by
 have hd : Dn r := dn_of (fun i a b ha hb => by
  obtain ⟨a', ha', hle⟩ := up_at h hb
  rw [ha] at ha'
  obtain rfl := Option.some.inj ha'
  obtain ⟨h1, e1⟩ := some_getD ha
  obtain ⟨h2, e2⟩ := some_getD hb
  have := hn i h2
  omega)
 exact hd.imp (fun {a b} g e => by omega)
def TurOut (T : List (List Int)) (B : Nat) (e : Ending) (w' : World) : Prop :=
 (∃ v hs, e = .returned (.tuple #[v, .int .i64 0]) ∧ (∀ r ∈ T, r.Nodup) ∧ OwnM w' B v hs (fillC [] T)) ∨ ((¬ ∀ r ∈ T, r.Nodup) ∧ e = .returned (.tuple #[.slice none 0 0, .int .i64 3]))
theorem turned_any (A : Option Addr) (cap : Nat) (T : List (List Int)) (w : World) (hT : T.length ≤ 9223372036854775807) (hok : FillOk T) (h : SR w w.heap.size A T) :
 Calls Tryz.prog 137 #[.slice A T.length cap] w fun e w' => TurOut T w.heap.size e w' ∧ Below w.heap.size w w' := by
 have HOK := Lib.hid hok
 have hsm := hok.small
 have hT40 := hsm.1
 have HR40 := Lib.hid hsm.2
 clear hsm
 go_enter Tryz.func137, Tryz.ntmps137
 go_wp2_with (first | (go_at_call 172; refine (fcheck_any A cap T _ hT h).mono ?_) | fail)
 rintro e w1 ⟨⟨k, rfl, _, hk⟩, rfl⟩
 have hk0 := hk HOK.out
 subst hk0
 clear hk hok
 go_wp2
 go_loopw [5, 17] (fun ov iv wr => ∃ (i : Nat) (hs : List Value) (A5 : Option Addr) (c5 : Nat), i ≤ T.length ∧ iv = .int .i64 i ∧ ov = .slice A5 (fillC [] (T.take i)).length c5 ∧ OwnM wr w.heap.size ov hs (fillC [] (T.take i)) ∧ (∀ i', i' < i → (T.getD i' []).Nodup) ∧ Below w.heap.size w wr) (fun _ iv _ => T.length - (Go.RowKit.intOf iv).toNat)
 case atStart => exact ⟨0, [], none, 0, Nat.zero_le _, rfl, rfl, OwnM.nil _ _, fun i' h' => by omega, Below.refl _ _⟩
 case round =>
  obtain ⟨i, hs, A5, c5, hi, rfl, rfl, hm, hdone, hW⟩ := hrel
  have HDONE := Lib.hid hdone
  clear hdone
  have HM := Lib.hid hm
  have HW := Lib.hid hW
  clear hm
  by_cases hit : i < T.length
  · have di : decide (i < T.length) = true := decide_eq_true hit
    obtain ⟨b, o, rfl, hb⟩ := h.addr (by omega)
    have h2 := h.below hW
    obtain ⟨Ar, cr, hc, hr, _⟩ := h2.at_ hit
    have hrl := HR40.out i
    have hhi := fill_high HOK.out.1 hit
    have hft := fillC_take hit
    have hsh := fill_short HOK.out i
    have hnd : T.getD i [] ∈ T := by rw [getD_get hit]; exact List.getElem_mem hit
    have hup := HOK.out.1.up _ hnd
    have HRI : Hid ((T.getD i []).Nodup → ∀ i', i' < i + 1 → (T.getD i' []).Nodup) := fun hh i' h' => by
     by_cases e : i' = i
     · rw [e]; exact hh
     · exact HDONE.out i' (by omega)
    have HRN : Hid (¬ (T.getD i []).Nodup → ¬ ∀ r ∈ T, r.Nodup) := fun hh hall => hh (hall _ hnd)
    obtain ⟨r, hre⟩ : ∃ r, r = T.getD i [] := ⟨_, rfl⟩
    obtain ⟨U, hU⟩ : ∃ U, U = fillC [] (T.take i) := ⟨_, rfl⟩
    rw [← hre] at hc hr hrl hhi hft hup HRI HRN
    rw [← hU] at HM hhi hft hsh ⊢
    have hrs : Hid (∀ j, j < r.length → ∃ g p, Ar = some ⟨g, p, none⟩ ∧ g < w.heap.size ∧ w.cell? ⟨g, p + j, none⟩ = some (.int .i64 (r.getD j 0))) := fun j hj => by
     obtain ⟨Ar2, cr2, hc2, hr2, _⟩ := h.at_ hit
     rw [← hre] at hc2 hr2
     have e := (hW.cell (p := ⟨b, o + i, none⟩) hb).trans hc2
     rw [hc] at e
     have e2 : Ar = Ar2 := by
      have := Option.some.inj e
      injection this
     subst e2
     obtain ⟨g, p, e3, hg⟩ := hr2.addr (by omega)
     subst e3
     exact ⟨g, p, rfl, hg, getD_cell hr2 hj⟩
    have HFT := Lib.hid hft
    have HHI := Lib.hid hhi
    have HSH := Lib.hid hsh
    have HUP := Lib.hid hup
    clear hft hhi hsh hnd hup hre hU h2 hr hW
    go_wp2
    go_loopw [5, 24] (fun ov jv wz => ∃ (j : Nat) (hs : List Value) (A5 : Option Addr) (c5 : Nat), j ≤ r.length ∧ jv = .int .i64 j ∧ ov = .slice A5 (addCol U (r.take j)).length c5 ∧ OwnM wz w.heap.size ov hs (addCol U (r.take j)) ∧ (∀ q, q + 1 < j → r.getD q 0 ≠ r.getD (q + 1) 0) ∧ Below w.heap.size w wz) (fun _ jv _ => r.length - (Go.RowKit.intOf jv).toNat)
    case atStart => exact ⟨0, hs, A5, c5, Nat.zero_le _, rfl, by simp [addCol], by simpa [addCol] using HM.out, fun q hq => by omega, HW.out⟩
    case round =>
     obtain ⟨w9, rfl⟩ : ∃ w9, w9 = wr := ⟨_, rfl⟩
     clear HM HW hs hc
     obtain ⟨j, hs, A6, c6, hj, rfl, rfl, hm, hne, hW⟩ := hrel
     have HNE := Lib.hid hne
     clear hne
     have HM := Lib.hid hm
     have HW := Lib.hid hW
     have hsz := hW.size
     clear hm hW
     by_cases hjr : j < r.length
     · have dj : decide (j < r.length) = true := decide_eq_true hjr
       obtain ⟨g, p, rfl, hg, hcj0⟩ := hrs.out j hjr
       have hcj := (HW.out.cell (p := ⟨g, p + j, none⟩) hg).trans hcj0
       obtain ⟨n, hn⟩ : ∃ n, n = r.getD j 0 := ⟨_, rfl⟩
       have hstep := addCol_step U r (j := j) (x := n) (by rw [hn]; exact getD_some hjr) (by rcases HHI.out with h | h; exact .inl h.1; exact .inr h.1)
       have hlen : (addCol U (r.take j)).length ≤ 40 ∧ (∀ q, ((addCol U (r.take j)).getD q []).length ≤ 41) ∧ j ≤ (addCol U (r.take j)).length ∧ (j = (addCol U (r.take j)).length ↔ i = 0) := by
        have h1 := HSH.out
        refine ⟨?_, fun q => ?_, ?_, ?_⟩
        · rcases HHI.out with ⟨e, _⟩ | ⟨e, _⟩
          · rw [e, addCol_len, List.length_take]; omega
          · rw [addCol_keep _ _ (by rw [List.length_take]; omega)]; exact h1.1
        · rw [addCol_getD, List.length_append]
          have := h1.2 q
          have : ((r.take j)[q]?).toList.length ≤ 1 := by cases (r.take j)[q]? <;> simp
          omega
        · rcases HHI.out with ⟨e, _⟩ | ⟨e, _⟩
          · rw [e, addCol_len, List.length_take]; omega
          · rw [addCol_keep _ _ (by rw [List.length_take]; omega)]; omega
        · rcases HHI.out with ⟨e, e0⟩ | ⟨e, e0⟩
          · rw [e, addCol_len, List.length_take]; omega
          · rw [addCol_keep _ _ (by rw [List.length_take]; omega)]; omega
       obtain ⟨V, hV⟩ : ∃ V, V = addCol U (r.take j) := ⟨_, rfl⟩
       rw [← hV] at hstep hlen HM ⊢
       obtain ⟨hl1, hl2, hl3, hl4⟩ := hlen
       rw [← hn] at hcj
       have hqa := qpad_add n hl3
       have hql := Lib.hid (qpad_len (Q := V) (r := j) hl2)
       have HQA := Lib.hid hqa
       have HSTEP := Lib.hid hstep
       have HL4 := Lib.hid hl4
       have hprev : 0 < j → ∃ q : Int, w9.cell? ⟨g, p + (j - 1), none⟩ = some (.int .i64 q) ∧ q = r.getD (j - 1) 0 := fun h0 => by
        obtain ⟨g', p', e, _, hh⟩ := hrs.out (j - 1) (by omega)
        obtain ⟨rfl, rfl⟩ : g = g' ∧ p = p' := by simpa using e
        exact ⟨_, (HW.out.cell (p := ⟨g, p + (j - 1), none⟩) hg).trans hh, rfl⟩
       have HN := Lib.hid hn
       by_cases hrep : 0 < j ∧ n = r.getD (j - 1) 0
       · obtain ⟨q, hq, hqe⟩ := hprev hrep.1
         have d0 : decide ((0 : Int) < (j : Int)) = true := decide_eq_true (by have := hrep.1; omega)
         have dne : (n == q) = true := by simp [hqe, hrep.2]
         have hfin : Hid (TurOut T w.heap.size (.returned (.tuple #[.slice none 0 0, .int .i64 3])) w9) := by
          refine .inr ⟨HRN.out (fun hnd => ?_), rfl⟩
          have e := hrep.2
          rw [HN.out, getD_get hjr, getD_get (show j - 1 < r.length by omega)] at e
          have := (List.getElem_inj hnd).1 e
          have := hrep.1
          omega
         have hWf := HW.out
         have h0 := hrep.1
         clear hqe hrep hprev hqa hstep hl2 hl4 hV hn
         go_wp2
         go_ret2
         exact ⟨hfin.out, hWf⟩
       replace hprev : 0 < j → ∃ q : Int, w9.cell? ⟨g, p + (j - 1), none⟩ = some (.int .i64 q) ∧ n ≠ q := fun h0 => by
        obtain ⟨q, hq, hqe⟩ := hprev h0
        exact ⟨q, hq, fun e => hrep ⟨h0, by rw [e, hqe]⟩⟩
       have HNX : Hid (∀ q, q + 1 < j + 1 → r.getD q 0 ≠ r.getD (q + 1) 0) := fun q hq e => by
        by_cases hqj : q + 1 = j
        · refine hrep ⟨by omega, ?_⟩
          rw [HN.out, show j - 1 = q by omega, ← hqj]; exact e.symm
        · exact HNE.out q (by omega) e
       clear hrep HN
       have HPREV := Lib.hid hprev
       clear hqa hstep hl2 hl4 hV hn hprev hcj0
       go_upto_region 11 with fail
       go_cut [39] (fun bv wz => bv = .bool false ∧ w9 = wz)
       case first =>
        by_cases h0 : 0 < j
        · obtain ⟨q, hq, hne⟩ := HPREV.out h0
          have d0 : decide ((0 : Int) < (j : Int)) = true := decide_eq_true (by omega)
          have dne : (n == q) = false := by simpa using hne
          go_wp2
          go_meet
          exact ⟨rfl, rfl⟩
        · have d0 : decide ((0 : Int) < (j : Int)) = false := decide_eq_false (by omega)
          go_wp2
          go_meet
          exact ⟨rfl, rfl⟩
       case rest =>
        obtain ⟨rfl, rfl⟩ := hcut
        go_upto_if 41 with fail
        go_cut [5] (fun qv wz => ∃ (us5 : List Value) (A7 : Option Addr) (c7 : Nat), qv = .slice A7 (qpad V j).length c7 ∧ OwnM wz w.heap.size qv us5 (qpad V j) ∧ Below w.heap.size w wz)
        case first =>
         by_cases hi0 : i = 0
         · have dr : ((i : Int) == 0) = true := by simpa using hi0
           have hje := Lib.hid (HL4.out.2 hi0)
           have hqo := HM.out.out
           have HQO := Lib.hid hqo
           clear hqo hi0
           go_wp2_with (first | (at_builtin; refine wpList_push (v := .slice A6 V.length c6) rfl (.tmp 42) (.tmp 43) rfl rfl (.slice none 0 0) rfl HQO.out w9.heap.size rfl rfl (by omega) hsz (fun g2 c3 w5 hl5 hg5 hat5 => ?_)) | fail)
           have hpush := (HM.out.alloc (.cells #[.slice none 0 0] 65)).push (u := .slice none 0 0) (l := []) (World.ownsRow_nil _ _ _ _) (HM.out.far_new (u := .slice none 0 0) (fun k hk => by simp [Value.ownBlock] at hk)).1 (HM.out.far_new (u := .slice none 0 0) (fun k hk => by simp [Value.ownBlock] at hk)).2 rfl hl5 hg5 (by simpa using hat5)
           have hW5 := (HW.out.alloc hsz _).grown hg5 (by simp; omega) (fun k hk => (HQO.out.lt k hk).1)
           have hqn : (qpad V j).length = V.length + 1 := by rw [qpad_new hje.out]; simp
           rw [← qpad_new hje.out] at hpush
           have HP := Lib.hid hpush
           have HW5 := Lib.hid hW5
           have HQN := Lib.hid hqn
           clear hpush hW5 hl5 hg5 hat5 hqn
           go_wp2
           go_meet
           exact ⟨_, _, _, by rw [HQN.out], HP.out, HW5.out⟩
         · have dr : ((i : Int) == 0) = false := by simpa using hi0
           have hqn := Lib.hid (qpad_old (Q := V) (r := j) (fun e => hi0 (HL4.out.1 e)))
           go_wp2
           go_meet
           exact ⟨hs, A6, c6, by rw [hqn.out], by rw [hqn.out]; exact HM.out, HW.out⟩
        case rest =>
         obtain ⟨us5, A7, c7, rfl, hq5, hW5⟩ := hcut
         clear HM HW hsz
         have hrp := HQA.out.1
         obtain ⟨Gq, c7', e5, hG5, hG6⟩ := hq5.out.form (by omega)
         obtain ⟨rfl, rfl⟩ : A7 = some ⟨Gq, 0, none⟩ ∧ c7 = c7' := by injection e5 with e2 _ e3; exact ⟨e2, e3⟩
         have hin := hq5.inn j hrp
         obtain ⟨Aj, cj, hrv, _, _, _, _⟩ := own_sliceA hin
         have hqc := hq5.out.cellAt j (by omega)
         rw [hq5.get hrp, hrv] at hqc
         have hqf := hq5.out.frozenAt j
         have hnr := hql.out
         obtain ⟨R, hR⟩ : ∃ R, R = (qpad V j).getD j [] := ⟨_, rfl⟩
         rw [← hR] at hrv hin hqc hnr
         have hfar := (hq5.top j hrp).symm
         rw [hrv] at hin hfar
         have hsz5 := hW5.size
         have HIN := Lib.hid hin
         have HFAR := Lib.hid hfar.ne
         have HR := Lib.hid hR
         have HRV := Lib.hid hrv
         have HQ5 := Lib.hid hq5
         have HQO := Lib.hid hq5.out
         have HW5 := Lib.hid hW5
         have hrl2 : j < (qpad V j).length := hrp
         have hrl3 : (j : Int) < ((qpad V j).length : Int) := by omega
         clear hin hfar hR hrv hq5 hW5 e5
         go_wp2_with (first | (at_builtin; refine wpList_app1g rfl (.tmp 50) (.tmp 52) rfl rfl n HIN.out wc.heap.size rfl rfl (by omega) hsz5 (fun g2 c3 w6 hl6 hg6 hat6 => ?_); have ho6 := (HQO.out.alloc (.cells #[.int .i64 n] 3)).kept hg6 HFAR.out; have hc6 := (ho6.cellAt j (by omega)).trans ((HQ5.out.get hrl2).trans (congrArg some HRV.out)); have hf6 := ho6.frozenAt j; have HL6 := Lib.hid hl6; have HG6 := Lib.hid hg6; have HAT6 := Lib.hid hat6; clear ho6 hl6 hg6 hat6) | fail)
         have happ := HQ5.out.app (i := j) hrl2 (l := R ++ [n]) (by simp) HL6.out (by rw [HRV.out]; exact HG6.out) (by rw [HRV.out]; exact HAT6.out)
         have hset : (qpad V j).set j (R ++ [n]) = addCol U (r.take (j + 1)) := by rw [HR.out, HQA.out.2, HSTEP.out]
         rw [hset] at happ
         have hlq : (addCol U (r.take (j + 1))).length = (qpad V j).length := by rw [← hset, List.length_set]
         have hW6 := ((HW5.out.alloc hsz5 _).grown HG6.out (by simp; omega) (fun b hb => (HIN.out.lt b hb).1)).setCell (p := ⟨Gq, j, none⟩) hG5 (.slice (some ⟨g2, 0, none⟩) (R.length + 1) c3)
         have HA6 := Lib.hid happ
         have HLQ := Lib.hid hlq
         have HW6 := Lib.hid hW6
         clear happ hset hlq hW6
         go_wp2
         go_roundw
         case rel => exact ⟨j + 1, _, _, _, by omega, rfl, by rw [HLQ.out], HA6.out, HNX.out, HW6.out⟩
         case measure => simp [Go.RowKit.intOf]; omega
     · have dj : decide (j < r.length) = false := decide_eq_false hjr
       have hje : j = r.length := by omega
       have hm := HM.out
       have hfl : addCol U (r.take j) = fillC [] (T.take (i + 1)) := by rw [hje, List.take_length, HFT.out]
       rw [hfl] at hm ⊢
       have HM' := Lib.hid hm
       have HDN : Hid (∀ i', i' < i + 1 → (T.getD i' []).Nodup) := HRI.out (strict_nodup HUP.out (fun q hq => HNE.out q (by omega)))
       clear hm hfl HM hje
       go_wp2
       go_roundw
       case rel => exact ⟨i + 1, hs, A6, c6, by omega, rfl, rfl, HM'.out, HDN.out, HW.out⟩
       case measure => simp [Go.RowKit.intOf]; omega
  · have di : decide (i < T.length) = false := decide_eq_false hit
    have hm := HM.out
    rw [List.take_of_length_le (by omega)] at hm ⊢
    have HM' := Lib.hid hm
    have HAL : Hid (∀ r ∈ T, r.Nodup) := fun r hr => by
     obtain ⟨i', h', e⟩ := List.getElem_of_mem hr
     have := HDONE.out i' (by omega)
     rwa [getD_get h', e] at this
    clear hm HM
    go_wp2
    go_ret2
    exact ⟨.inl ⟨_, hs, rfl, HAL.out, HM'.out⟩, HW.out⟩
end
section
open Go.RowKit
def lets (r : List Int) : List Int := r.filter (fun x => decide (0 < x))
def sword (s : List (List Int)) : List Int := rword (s.map lets)
theorem lets_append (a b : List Int) : lets (a ++ b) = lets a ++ lets b := List.filter_append ..
theorem rword_append (a b : List (List Int)) : rword (a ++ b) = rword b ++ rword a := by
 induction a with
 | nil => simp [rword]
 | cons r t ih => simp only [List.cons_append, rword]; rw [ih]; simp
theorem sword_append (a b : List (List Int)) : sword (a ++ b) = sword b ++ sword a := by unfold sword; rw [List.map_append, rword_append]
theorem sword_cons (r : List Int) (t : List (List Int)) : sword (r :: t) = sword t ++ lets r := rfl
theorem pushW_Kn : ∀ (w : List Int) {s : List Int}, Up s → Kn (s ++ w) ((pushW s w).2 ++ (pushW s w).1)
 | [], s, _ => by simp only [pushW, List.append_nil, List.nil_append]; exact .refl _
 | x :: w, s, h => by
  have h1 := (push1_Kn (x := x) h).right w
  have h2 := (pushW_Kn w (push1_up (x := x) h)).left (push1 s x).2.toList
  simp only [pushW]
  have e1 : s ++ x :: w = s ++ [x] ++ w := by simp
  rw [e1, List.append_assoc]
  refine (by simpa using h1 : Kn (s ++ ([x] ++ w)) ((push1 s x).2.toList ++ ((push1 s x).1 ++ w))).trans ?_
  exact (by simpa using h2)
theorem rise {x : Int} {z y : List Int} (hz : Up (x :: z)) (hy : Up y) (hxy : ∀ b ∈ y, x ≤ b) (hd : Dom y z) : ∀ (v u : List Int), v.length = u.length → (∀ (i : Nat) a b, u[i]? = some a → v[i]? = some b → a < b) → Up (v ++ x :: z) → Kn (v ++ (x :: z ++ (u ++ y))) (v ++ (z ++ (u ++ x :: y)))
 | [], [], _, _, _ => by
  have h1 := pushW_Kn y (s := x :: z) hz
  rw [pushW_head y (s := z) hxy, push_dom hy hd] at h1
  simpa using h1
 | [], _ :: _, h, _, _ => by simp at h
 | _ :: _, [], h, _, _ => by simp at h
 | a :: v, b :: u, hl, hab, hv => by
  have hba : b < a := hab 0 b a rfl rfl
  have ih := rise hz hy hxy hd v u (by simpa using hl) (fun i p q hp hq => hab (i + 1) p q (by simpa using hp) (by simpa using hq)) hv.tail
  have s1 := (slip (h := a) (x := b) (s := v ++ x :: z) hv hba).right (u ++ y)
  have hv2 : Up (a :: (v ++ z)) := List.Pairwise.sublist (List.Sublist.cons_cons _ (List.Sublist.append_left (List.sublist_cons_self _ _) _)) hv
  have s2 := (slip (h := a) (x := b) (s := v ++ z) hv2 hba).right (u ++ x :: y)
  have ih2 := ih.left [a, b]
  refine (by simpa using s1 : Kn (a :: v ++ (x :: z ++ (b :: u ++ y))) (a :: b :: (v ++ (x :: z ++ (u ++ y))))).trans ?_
  refine (by simpa using ih2 : Kn (a :: b :: (v ++ (x :: z ++ (u ++ y)))) (a :: b :: (v ++ (z ++ (u ++ x :: y))))).trans ?_
  exact (by simpa using s2.symm : Kn (a :: b :: (v ++ (z ++ (u ++ x :: y)))) (a :: v ++ (z ++ (b :: u ++ x :: y))))
def cell (s : List (List Int)) (i j : Nat) : Int := (s.getD i []).getD j 0
def rl (s : List (List Int)) (i : Nat) : Nat := (s.getD i []).length
def put (s : List (List Int)) (i j : Nat) (x : Int) : List (List Int) := s.set i ((s.getD i []).set j x)
theorem put_length (s : List (List Int)) (i j : Nat) (x : Int) : (put s i j x).length = s.length := by simp [put]
theorem put_row (s : List (List Int)) (i j : Nat) (x : Int) (k : Nat) : (put s i j x).getD k [] = if k = i then (s.getD i []).set j x else s.getD k [] := by
 unfold put
 by_cases e : k = i
 · subst e
   rw [if_pos rfl]
   by_cases h : k < s.length
   · rw [List.getD_eq_getElem?_getD, List.getElem?_set_self h]; rfl
   · have h1 : (s.set k ((s.getD k []).set j x)).getD k [] = [] := by rw [List.getD_eq_getElem?_getD, List.getElem?_eq_none (by simp; omega)]; rfl
     have h2 : s.getD k [] = [] := by rw [List.getD_eq_getElem?_getD, List.getElem?_eq_none (by omega)]; rfl
     rw [h1, h2]; rfl
 · rw [if_neg e, List.getD_eq_getElem?_getD, List.getElem?_set_ne (Ne.symm e), ← List.getD_eq_getElem?_getD]
theorem put_rl (s : List (List Int)) (i j : Nat) (x : Int) (k : Nat) : rl (put s i j x) k = rl s k := by
 unfold rl
 rw [put_row]
 by_cases e : k = i
 · rw [if_pos e, List.length_set, e]
 · rw [if_neg e]
theorem put_cell {s : List (List Int)} {i j : Nat} {x : Int} (hj : j < rl s i) (k q : Nat) : cell (put s i j x) k q = if k = i ∧ q = j then x else cell s k q := by
 unfold cell
 rw [put_row]
 by_cases e : k = i
 · rw [if_pos e]
   by_cases e2 : q = j
   · rw [if_pos ⟨e, e2⟩, e2, List.getD_eq_getElem?_getD, List.getElem?_set_self (by unfold rl at hj; exact hj)]; rfl
   · rw [if_neg (fun h => e2 h.2), List.getD_eq_getElem?_getD, List.getElem?_set_ne (Ne.symm e2), ← List.getD_eq_getElem?_getD, e]
 · rw [if_neg e, if_neg (fun h => e h.1)]
structure Sk (s : List (List Int)) : Prop where
 ne : ∀ i, i < s.length → 0 < rl s i
 lens : ∀ i i', i ≤ i' → rl s i' ≤ rl s i
 row : ∀ i j k, j < k → k < rl s i → cell s i j ≤ cell s i k
 col : ∀ i i' j, i < i' → j < rl s i' → cell s i j < cell s i' j ∨ (cell s i j = 0 ∧ cell s i' j = 0)
 nn : ∀ i j, j < rl s i → 0 ≤ cell s i j
structure Cfg (s : List (List Int)) (I J : Nat) : Prop where
 at_ : J < rl s I
 ne : ∀ i, i < s.length → 0 < rl s i
 lens : ∀ i i', i ≤ i' → rl s i' ≤ rl s i
 row : ∀ i j k, j < k → k < rl s i → ¬ (i = I ∧ j = J) → ¬ (i = I ∧ k = J) → cell s i j ≤ cell s i k
 col : ∀ i i' j, i < i' → j < rl s i' → ¬ (i = I ∧ j = J) → ¬ (i' = I ∧ j = J) → cell s i j < cell s i' j ∨ (cell s i j = 0 ∧ cell s i' j = 0)
 nn : ∀ i j, j < rl s i → ¬ (i = I ∧ j = J) → 0 ≤ cell s i j
 dn : ∀ i', I < i' → J < rl s i' → 0 < cell s i' J
 rt : ∀ k, J < k → k < rl s I → 0 < cell s I k
def right (s : List (List Int)) (i j : Nat) : Int := if j + 1 < rl s i then cell s i (j + 1) else 0
def below (s : List (List Int)) (i j : Nat) : Int := if j < rl s (i + 1) then cell s (i + 1) j else 0
theorem Cfg.start {s : List (List Int)} (h : Sk s) {I J : Nat} (hJ : J < rl s I) (h0 : cell s I J = 0) (hr : ∀ k, J < k → k < rl s I → 0 < cell s I k) (hd : ∀ i', I < i' → J < rl s i' → 0 < cell s i' J) : Cfg s I J ∧ put s I J 0 = s := by
 refine ⟨⟨hJ, h.ne, h.lens, fun i j k h1 h2 _ _ => h.row i j k h1 h2, fun i i' j h1 h2 _ _ => h.col i i' j h1 h2, fun i j h1 _ => h.nn i j h1, hd, hr⟩, ?_⟩
 have hI : I < s.length := by
  apply Classical.byContradiction
  intro hn
  have : rl s I = 0 := by unfold rl; rw [List.getD_eq_getElem?_getD, List.getElem?_eq_none (by omega)]; rfl
  omega
 unfold put
 apply List.ext_getElem (by simp)
 intro i h1 h2
 rw [List.getElem_set]
 by_cases e : I = i
 · subst e
   rw [if_pos rfl, getD_get hI]
   unfold cell at h0
   rw [getD_get hI] at h0
   unfold rl at hJ
   rw [getD_get hI] at hJ
   rw [getD_get hJ] at h0
   apply List.ext_getElem (by simp)
   intro j g1 g2
   rw [List.getElem_set]
   by_cases e2 : J = j
   · subst e2; rw [if_pos rfl, h0]
   · rw [if_neg e2]
 · rw [if_neg e]
theorem Cfg.inI {s : List (List Int)} {I J : Nat} (h : Cfg s I J) : I < s.length := by
 apply Classical.byContradiction
 intro hn
 have h1 := h.at_
 have : rl s I = 0 := by unfold rl; rw [List.getD_eq_getElem?_getD, List.getElem?_eq_none (by omega)]; rfl
 omega
theorem rl_in {s : List (List Int)} {i j : Nat} (h : j < rl s i) : i < s.length := by
 apply Classical.byContradiction
 intro hn
 have : rl s i = 0 := by unfold rl; rw [List.getD_eq_getElem?_getD, List.getElem?_eq_none (by omega)]; rfl
 omega
theorem Cfg.goR {s : List (List Int)} {I J : Nat} (h : Cfg s I J) (hr : J + 1 < rl s I) (hb : ∀ c, J < rl s (I + 1) → c = cell s (I + 1) J → cell s I (J + 1) < c) : Cfg (put s I J (cell s I (J + 1))) I (J + 1) := by
 have pc := fun k q => put_cell (x := cell s I (J + 1)) h.at_ k q
 have pl := fun k => put_rl s I J (cell s I (J + 1)) k
 have hpos := h.rt (J + 1) (by omega) hr
 refine ⟨by rw [pl]; exact hr, fun i hi => by rw [pl]; exact h.ne i (by rw [put_length] at hi; exact hi), fun i i' hh => by rw [pl, pl]; exact h.lens i i' hh, fun i j k h1 h2 h3 h4 => ?_, fun i i' j h1 h2 h3 h4 => ?_, fun i j h1 h2 => ?_, fun i' h1 h2 => ?_, fun k h1 h2 => ?_⟩
 · rw [pl] at h2
   rw [pc, pc]
   by_cases e1 : i = I ∧ j = J
   · rw [if_pos e1, if_neg (by omega), e1.1]
     rw [e1.1] at h2
     exact h.row I (J + 1) k (by omega) h2 (by omega) (by omega)
   · rw [if_neg e1]
     by_cases e2 : i = I ∧ k = J
     · rw [if_pos e2, e2.1]
       exact h.row I j (J + 1) (by omega) hr (by omega) (by omega)
     · rw [if_neg e2]; exact h.row i j k h1 h2 e1 e2
 · rw [pl] at h2
   rw [pc, pc]
   by_cases e1 : i = I ∧ j = J
   · rw [if_pos e1, if_neg (by omega)]
     obtain ⟨e3, e4⟩ := e1
     subst e3 e4
     have hl := h.lens (i + 1) i' (by omega)
     have h5 := hb _ (by omega) rfl
     by_cases e5 : i' = i + 1
     · rw [e5]; exact .inl h5
     · rcases h.col (i + 1) i' j (by omega) h2 (by omega) (by omega) with h6 | h6
       · exact .inl (by omega)
       · have := h.dn (i + 1) (by omega) (by omega); omega
   · rw [if_neg e1]
     by_cases e2 : i' = I ∧ j = J
     · rw [if_pos e2]
       obtain ⟨e3, e4⟩ := e2
       subst e3 e4
       have hl := h.lens i i' (by omega)
       have h5 := h.row i j (j + 1) (by omega) (by omega) (by omega) (by omega)
       rcases h.col i i' (j + 1) h1 hr (by omega) (by omega) with h6 | h6
       · exact .inl (by omega)
       · omega
     · rw [if_neg e2]; exact h.col i i' j h1 h2 e1 e2
 · rw [pl] at h1
   rw [pc]
   by_cases e1 : i = I ∧ j = J
   · rw [if_pos e1]; omega
   · rw [if_neg e1]; exact h.nn i j h1 e1
 · rw [pl] at h2
   rw [pc, if_neg (by omega)]
   rcases h.col I i' (J + 1) h1 h2 (by omega) (by omega) with h6 | h6
   · omega
   · omega
 · rw [pl] at h2
   rw [pc, if_neg (by omega)]
   exact h.rt k (by omega) h2
theorem Cfg.goD {s : List (List Int)} {I J : Nat} (h : Cfg s I J) (hd : J < rl s (I + 1)) (hb : J + 1 < rl s I → cell s (I + 1) J ≤ cell s I (J + 1)) : Cfg (put s I J (cell s (I + 1) J)) (I + 1) J := by
 have pc := fun k q => put_cell (x := cell s (I + 1) J) h.at_ k q
 have pl := fun k => put_rl s I J (cell s (I + 1) J) k
 have hpos := h.dn (I + 1) (by omega) hd
 refine ⟨by rw [pl]; exact hd, fun i hi => by rw [pl]; exact h.ne i (by rw [put_length] at hi; exact hi), fun i i' hh => by rw [pl, pl]; exact h.lens i i' hh, fun i j k h1 h2 h3 h4 => ?_, fun i i' j h1 h2 h3 h4 => ?_, fun i j h1 h2 => ?_, fun i' h1 h2 => ?_, fun k h1 h2 => ?_⟩
 · rw [pl] at h2
   rw [pc, pc]
   by_cases e1 : i = I ∧ j = J
   · rw [if_pos e1, if_neg (by omega)]
     obtain ⟨e3, e4⟩ := e1
     subst e3 e4
     have h5 := hb (by omega)
     by_cases e5 : k = j + 1
     · rw [e5]; exact h5
     · have := h.row i (j + 1) k (by omega) h2 (by omega) (by omega); omega
   · rw [if_neg e1]
     by_cases e2 : i = I ∧ k = J
     · rw [if_pos e2]
       obtain ⟨e3, e4⟩ := e2
       subst e3 e4
       have h5 := h.row (i + 1) j k h1 hd (by omega) (by omega)
       rcases h.col i (i + 1) j (by omega) (by omega) (by omega) (by omega) with h6 | h6
       · omega
       · omega
     · rw [if_neg e2]; exact h.row i j k h1 h2 e1 e2
 · rw [pl] at h2
   rw [pc, pc]
   by_cases e1 : i = I ∧ j = J
   · rw [if_pos e1, if_neg (by omega)]
     obtain ⟨e3, e4⟩ := e1
     subst e3 e4
     rcases h.col (i + 1) i' j (by omega) h2 (by omega) (by omega) with h6 | h6
     · exact .inl h6
     · omega
   · rw [if_neg e1]
     by_cases e2 : i' = I ∧ j = J
     · rw [if_pos e2]
       obtain ⟨e3, e4⟩ := e2
       subst e3 e4
       rcases h.col i (i' + 1) j (by omega) hd (by omega) (by omega) with h6 | h6
       · exact .inl h6
       · omega
     · rw [if_neg e2]; exact h.col i i' j h1 h2 e1 e2
 · rw [pl] at h1
   rw [pc]
   by_cases e1 : i = I ∧ j = J
   · rw [if_pos e1]; omega
   · rw [if_neg e1]; exact h.nn i j h1 e1
 · rw [pl] at h2
   rw [pc, if_neg (by omega)]
   exact h.dn i' (by omega) h2
 · rw [pl] at h2
   rw [pc, if_neg (by omega)]
   have := h.row (I + 1) J k h1 h2 (by omega) (by omega)
   omega
end
end Go.Proofs.YtpmkdihencepnaaGreatDoor
