/-
  cubes.Paths: the edge of each level.
-/
import Derived.Test.YtdmpbbgcifodeaaCube4W
import Derived.Test.YtdmpbbgcifodeaaCubeP
import Derived.Test.YtdmpbbgcifodeaaStrL
namespace Go.Proofs.Ytdmpbbgcifodeaa
open Go.RowKit

/-- Words and an error. -/
def PathOut (e : Ending) (w : World) (k : Int) (words : List (List UInt8)) : Prop :=
  ∃ A c, e = .returned (.tuple #[.slice A words.length c, .int .i64 k]) ∧ Sl w w.heap.size A (strs words) ∧ words.length ≤ 9223372036854775807
theorem pathOut_own {w : World} {B n : Nat} {v : Value} {words : List (List UInt8)} (h : w.ownsRow B 9 1 v n (strs words)) (hn : n = words.length) (hs : n < 1000000) (k : Int) : PathOut (.returned (.tuple #[v, .int .i64 k])) w k words := by
  subst hn
  rcases h.2 with ⟨e1, e2⟩ | ⟨g, c, _, e1, _⟩
  · have e3 : v = .slice none words.length 0 := by rw [e2]; exact e1
    subst e3
    exact ⟨none, 0, rfl, Sl.of_own h, by omega⟩
  · subst e1
    exact ⟨_, c, rfl, Sl.of_own h, by omega⟩
def pathsOf (p : List (List Int)) (r c h : Nat) : List (List UInt8) := (List.range h).map (fun l => edge p r c (l + 1))
theorem pathsOf_length (p : List (List Int)) (r c h : Nat) : (pathsOf p r c h).length = h := by simp [pathsOf]
theorem pathsOf_take {p : List (List Int)} {r c h q : Nat} (hq : q < h) : (pathsOf p r c h).take q ++ [edge p r c (q + 1)] = (pathsOf p r c h).take (q + 1) := by
  unfold pathsOf
  rw [take_snoc (by simpa using hq)]; simp
theorem wbR_any {b : Nat} {l : List UInt8} {w : World} (h : Bld b l w) (hl : l.length < 1000000) :
    Calls Try.prog 83 #[.pointer (some ⟨b, 0, none⟩), .int .u8 82] w fun e w' => e = .returned .nilIface ∧ Bld b (l ++ [82]) w' ∧ Below b w w' := wb_any 82 h hl
theorem wbU_any {b : Nat} {l : List UInt8} {w : World} (h : Bld b l w) (hl : l.length < 1000000) :
    Calls Try.prog 83 #[.pointer (some ⟨b, 0, none⟩), .int .u8 85] w fun e w' => e = .returned .nilIface ∧ Bld b (l ++ [85]) w' ∧ Below b w w' := wb_any 85 h hl
theorem Bld.below {b : Nat} {l : List UInt8} {w w' : World} (h : Bld b l w) (hb : Below w.heap.size w w') : Bld b l w' := by
  have key : ∀ p, Lib.BuilderAt 115 5 b b p (Lib.byteCells l) w → Lib.BuilderAt 115 5 b b p (Lib.byteCells l) w' := fun p k => by
    have hlt := k.lt
    obtain ⟨h1, v, h2, h3, h4⟩ := k
    exact ⟨h1, v, (hb.block _ hlt).trans h2, own_below h3 hb, h4⟩
  exact h.elim (fun k => .inl (key _ k)) (fun k => .inr (key _ k))
theorem repR_any {c a : Nat} (ha : a ≤ c) (hc : c < 1000000) (w : World) :
    Calls Try.prog 91 #[.string ⟨#[82]⟩, .int .i64 ((c : Int) - (a : Int))] w fun e w' => e = .returned (.string ⟨(List.replicate (c - a) (82 : UInt8)).toArray⟩) ∧ Below w.heap.size w w' := by
  rw [show (c : Int) - (a : Int) = ((c - a : Nat) : Int) by omega]
  exact rep_any 82 (c - a) w (by omega)
/-- What is written and what is to come make the edge. -/
structure Wr (p : List (List Int)) (r c lev m a : Nat) (l : List UInt8) : Prop where
  eq : l ++ restW (lam p c lev) c m a = edge p r c lev
  le : ∀ k, m = k + 1 → a ≤ lam p c lev k
  ac : a ≤ c
theorem Wr.short {p : List (List Int)} {r c h lev m a : Nat} {l : List UInt8} (hp : Pile p r c h) (hw : Wr p r c lev m a l) : l.length < 1000 := by
  have h1 := congrArg List.length hw.eq
  rw [List.length_append, (edge_count (lev := lev) hp).2.2] at h1
  have := hp.r1; have := hp.c1
  omega
theorem Wr.stepR {p : List (List Int)} {r c lev m a : Nat} {l : List UInt8} (hw : Wr p r c lev (m + 1) a l) (h : a < lam p c lev m) : Wr p r c lev (m + 1) (a + 1) (l ++ [82]) := by
  refine ⟨?_, fun k e => ?_, by have := lam_le p c lev m; omega⟩
  · rw [← hw.eq, restW_R h]; simp
  · have : k = m := by omega
    rw [this]; omega
theorem Wr.stepU {p : List (List Int)} {r c h lev m a : Nat} {l : List UInt8} (hp : Pile p r c h) (hm : m < r) (hw : Wr p r c lev (m + 1) a l) (e : a = lam p c lev m) : Wr p r c lev m a (l ++ [85]) := by
  refine ⟨?_, fun k ek => ?_, hw.ac⟩
  · rw [← hw.eq, restW_U e]; simp
  · rw [e, ek]; rw [ek] at hm; exact lam_mono hp hm
theorem Wr.start {p : List (List Int)} {r c lev : Nat} : Wr p r c lev r 0 [] := ⟨rfl, fun _ _ => Nat.zero_le _, Nat.zero_le _⟩
theorem Wr.fin {p : List (List Int)} {r c lev a : Nat} {l : List UInt8} (hw : Wr p r c lev 0 a l) : l ++ List.replicate (c - a) 82 = edge p r c lev := hw.eq

set_option maxRecDepth 100000 in
set_option maxHeartbeats 4000000 in
theorem paths_any (A : Option Addr) (cap : Nat) (p : List (List Int)) (h : Int) (w : World) (hcl : p.length ≤ 9223372036854775807) (hr : SR w w.heap.size A p) :
    Calls Try.prog 48 #[.slice A p.length cap, .int .i64 h] w fun e w' => (∃ (k : Int) (words : List (List UInt8)), PathOut e w' k words ∧ ChkPile p h k ∧ (k ≠ 0 → words = []) ∧ (k = 0 → words = pathsOf p p.length (p.getD 0 []).length h.toNat)) ∧ Below w.heap.size w w' := by
  go_enter Try.func48, Try.ntmps48
  go_wp2_with fail
  refine (ccheck_any A cap p h w hcl hr).mono ?_
  rintro e w0 ⟨⟨k, rfl, hk⟩, rfl⟩
  rcases hk with ⟨hok, rfl⟩ | ⟨hok, rfl⟩
  · have HOK := Lib.hid hok
    obtain ⟨H, hH, hp⟩ := hok
    subst hH
    have hr8 := hp.r1
    have hc8 := hp.c1
    have hh8 := hp.h1
    obtain ⟨b, o, rfl, hb⟩ := hr.addr (by omega)
    obtain ⟨c, hc⟩ : ∃ c, c = (p.getD 0 []).length := ⟨_, rfl⟩
    rw [← hc] at hp hc8
    obtain ⟨A0, c0, hc0, hr0, hl0⟩ := hr.at_ (r := 0) (by omega)
    rw [Nat.add_zero, ← hc] at hc0
    have HC := Lib.hid hc
    have HP := Lib.hid hp
    have HC0 := Lib.hid hc0
    clear hc hp hc0 hr0 hl0
    go_wp2
    go_loopw [7, 8] (fun ov lv wr => ∃ (q : Nat), q ≤ H ∧ lv = .int .i64 (q + 1) ∧ wr.ownsRow w.heap.size 9 1 ov q (strs ((pathsOf p p.length c H).take q)) ∧ Below w.heap.size w wr) (fun _ lv _ => H + 1 - (intOf lv).toNat)
    case atStart => exact ⟨0, Nat.zero_le _, rfl, by rw [List.take_zero]; exact World.ownsRow_nil _ _ _ _, Below.refl _ _⟩
    case round =>
      obtain ⟨q, hq, rfl, hown, hW⟩ := hrel
      obtain ⟨w9, rfl⟩ : ∃ w9, w9 = wr := ⟨_, rfl⟩
      have HO := Lib.hid hown
      have hsz := hW.size
      clear hown
      by_cases hqh : q < H
      · have hd1 : decide ((q : Int) + 1 ≤ (H : Int)) = true := decide_eq_true (by omega)
        have hnew := bld_new w9
        have HN := Lib.hid hnew
        clear hnew
        go_wp2
        go_loopw [10, 11] (fun av iv wz => ∃ (m a : Nat) (l : List UInt8), m ≤ p.length ∧ av = .int .i64 a ∧ iv = .int .i64 ((m : Int) - 1) ∧ Wr p p.length c (q + 1) m a l ∧ Bld w9.heap.size l wz ∧ Below w9.heap.size w9 wz) (fun _ iv _ => (intOf iv + 1).toNat)
        case atStart => exact ⟨p.length, 0, [], Nat.le_refl _, rfl, rfl, Wr.start, HN.out, (Below.refl _ _).alloc (Nat.le_refl _) _⟩
        case round =>
          obtain ⟨m, a, l, hm0, rfl, rfl, hwr, hbl, hW2⟩ := hrel
          have HWR := Lib.hid hwr
          have HB := Lib.hid hbl
          have hac := hwr.ac
          clear hwr hbl
          cases m with
          | succ m =>
            have e1 : ((m + 1 : Nat) : Int) - 1 = (m : Int) := by omega
            rw [e1]
            have hd2 : decide ((0 : Int) ≤ (m : Int)) = true := decide_eq_true (by omega)
            have hml : m < p.length := by omega
            obtain ⟨Ai, ci, hci, hri, _⟩ := hr.at_ (r := m) hml
            have hli := HP.out.rowlen hml
            rw [hli] at hci
            obtain ⟨b1, o1, rfl, hb1⟩ := hri.addr (by rw [hli]; omega)
            have HCI := Lib.hid hci
            have HLI := Lib.hid hli
            clear hci hli e1
            go_wp2
            go_loopw [10] (fun av wy => ∃ (a : Nat) (l : List UInt8), av = .int .i64 a ∧ Wr p p.length c (q + 1) (m + 1) a l ∧ Bld w9.heap.size l wy ∧ Below w9.heap.size w9 wy) (fun av _ => c - (intOf av).toNat)
            case atStart => exact ⟨a, l, rfl, HWR.out, HB.out, hW2⟩
            case round =>
              clear HWR HB hac
              obtain ⟨a, l, rfl, hwr, hbl, hW3⟩ := hrel
              have HWR := Lib.hid hwr
              have HB := Lib.hid hbl
              have hac := hwr.ac
              have hal := hwr.le m rfl
              have hls := hwr.short HP.out
              have hWw := hW.trans (hW3.mono hsz)
              have hci := (hWw.cell (p := ⟨b, o + m, none⟩) hb).trans HCI.out
              clear hwr hbl
              by_cases hlt : a < lam p c (q + 1) m
              · have hac' : a < c := Nat.lt_of_lt_of_le hlt (lam_le _ _ _ _)
                have hge := (lam_iff HP.out hml hac').1 hlt
                have hcx := getD_cell (hri.below hWw) (k := a) (by rw [HLI.out]; exact hac')
                rw [show (p.getD m []).getD a 0 = ent p m a from rfl] at hcx
                have hd3 : decide ((a : Int) < (c : Int)) = true := decide_eq_true (by omega)
                have hd4 : decide ((q : Int) + 1 ≤ ent p m a) = true := decide_eq_true (by omega)
                have HLT := Lib.hid hlt
                clear hge hlt
                go_wp2_with (first | (go_at_call 83; refine (wbR_any HB.out (by omega)).mono ?_) | fail)
                rintro e w5 ⟨rfl, hb5, hbe5⟩
                have HB5 := Lib.hid hb5
                clear hb5
                go_wp2
                go_roundw
                case rel => exact ⟨a + 1, _, rfl, HWR.out.stepR HLT.out, HB5.out, hW3.trans hbe5⟩
                case measure => simp [intOf]; omega
              · have hae : a = lam p c (q + 1) m := by omega
                have HAE := Lib.hid hae
                clear hae hal hlt
                by_cases hac' : a < c
                · have hge : ¬ ((q : Int) + 1 ≤ ent p m a) := fun hh => by
                    have := (lam_iff (lev := q + 1) HP.out hml hac').2 (by omega)
                    have := HAE.out
                    omega
                  have hcx := getD_cell (hri.below hWw) (k := a) (by rw [HLI.out]; exact hac')
                  rw [show (p.getD m []).getD a 0 = ent p m a from rfl] at hcx
                  have hd3 : decide ((a : Int) < (c : Int)) = true := decide_eq_true (by omega)
                  have hd4 : decide ((q : Int) + 1 ≤ ent p m a) = false := decide_eq_false hge
                  clear hge
                  go_wp2_with (first | (go_at_call 83; refine (wbU_any HB.out (by omega)).mono ?_) | fail)
                  rintro e w5 ⟨rfl, hb5, hbe5⟩
                  have HB5 := Lib.hid hb5
                  clear hb5
                  go_wp2
                  go_roundw
                  case rel => exact ⟨m, a, _, by omega, rfl, rfl, HWR.out.stepU HP.out hml HAE.out, HB5.out, hW3.trans hbe5⟩
                  case measure => simp [intOf]
                · have hd3 : decide ((a : Int) < (c : Int)) = false := decide_eq_false (by omega)
                  go_wp2_with (first | (go_at_call 83; refine (wbU_any HB.out (by omega)).mono ?_) | fail)
                  rintro e w5 ⟨rfl, hb5, hbe5⟩
                  have HB5 := Lib.hid hb5
                  clear hb5
                  go_wp2
                  go_roundw
                  case rel => exact ⟨m, a, _, by omega, rfl, rfl, HWR.out.stepU HP.out hml HAE.out, HB5.out, hW3.trans hbe5⟩
                  case measure => simp [intOf]
          | zero =>
            have e1 : ((0 : Nat) : Int) - 1 = -1 := rfl
            rw [e1]
            have hls := HWR.out.short HP.out
            have hWw := hW.trans (hW2.mono hsz)
            have hc0 := (hWw.cell (p := ⟨b, o, none⟩) hb).trans HC0.out
            clear e1
            go_wp2_with (first | (go_at_call 91; refine (repR_any hac (by omega) _).mono ?_) | fail)
            rintro e w5 ⟨rfl, hbe5⟩
            have hb5 := HB.out.below hbe5
            have HB5 := Lib.hid hb5
            have hW5 := hW2.trans (hbe5.mono hW2.size)
            clear hb5
            go_wp2_with (first | (go_at_call 90; refine (ws_any HB5.out (by simp; omega)).mono ?_) | fail)
            rintro e w6 ⟨⟨v6, rfl⟩, hb6, hbe6⟩
            rw [HWR.out.fin] at hb6
            have HB6 := Lib.hid hb6
            have hW6 := hW5.trans hbe6
            clear hb6
            go_wp2_with (first | (go_at_call 84; refine (bs_any HB6.out).mono ?_) | fail)
            rintro e w7 ⟨rfl, hbe7⟩
            have hW7 := hW6.trans hbe7
            have hown7 := own_below HO.out hW7
            have HO7 := Lib.hid hown7
            have hsz7 := Nat.le_trans hsz hW7.size
            have hq8 : q < 1000000 := by omega
            clear hown7
            go_wp2_with (first | (at_builtin; refine wpList_appS rfl (.tmp 60) (.tmp 62) rfl rfl (edge p p.length c (q + 1)) HO7.out rfl hq8 hsz7 (fun g2 c2 w8 hl8 hb8 => ?_)) | fail)
            rw [pathsOf_take hqh] at hl8
            have HL8 := Lib.hid hl8
            have hW8 := (hW.trans (hW7.mono hsz)).trans hb8
            clear hl8
            go_wp2
            go_roundw
            case rel => exact ⟨q + 1, by omega, rfl, HL8.out, hW8⟩
            case measure => simp [intOf]; omega
      · have hqe : q = H := by omega
        subst hqe
        have hd1 : decide ((q : Int) + 1 ≤ (q : Int)) = false := decide_eq_false (by omega)
        have ho := HO.out
        rw [List.take_of_length_le (by rw [pathsOf_length]; exact Nat.le_refl _)] at ho
        have HO' := Lib.hid ho
        clear ho
        go_wp2
        go_ret2
        exact ⟨⟨0, _, pathOut_own HO'.out (pathsOf_length _ _ _ _).symm (by omega) 0, .inl ⟨HOK.out, rfl⟩, fun e => absurd rfl e, fun _ => by rw [← HC.out, Int.toNat_natCast]⟩, hW⟩
  · have HOK := Lib.hid hok
    clear hok
    go_wp2
    go_ret2
    exact ⟨⟨1, [], ⟨none, 0, rfl, Sl.nil _ _ _, by simp⟩, .inr ⟨HOK.out, rfl⟩, fun _ => rfl, fun e => (by cases e)⟩, Below.refl _ _⟩
end Go.Proofs.Ytdmpbbgcifodeaa
