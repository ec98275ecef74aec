/- Part of the proof. -/
import Derived.BigRegion
import Derived.BigQuiet
import Derived.Test.YtpmkdihencepnaaGreatDoorMk35
set_option maxHeartbeats 16000000
set_option maxRecDepth 100000
namespace Go.Proofs.YtpmkdihencepnaaGreatDoor
section
open Go.RowKit
def GyrOut (B : Nat) (m : List (List Int)) (e : Ending) (w' : World) : Prop :=
 (SignOk m ∧ ∃ A c, e = .returned (.tuple #[.slice A (gyrM m).length c, .int .i64 0]) ∧ OwnR w' B A c (gyrM m)) ∨ (¬ SignOk m ∧ e = .returned (.tuple #[.slice none 0 0, .int .i64 1]))
def Yp (n : Int) (X : Cf) : Nat → Cf
 | 0 => X
 | p + 1 => gy n p (Yp n X p)
theorem wears_self {K : LG} {Y : Cf} (hA : K.rA = fA Y K.n K.n) (hD : K.rD = fD Y K.n (K.n + 1)) : K.wears Y = K := by
 unfold LG.wears
 rw [← hA, ← hD]
theorem gyrate_any (A : Option Addr) (cap : Nat) (m : List (List Int)) (w : World) (hcl : m.length ≤ 9223372036854775807) (h : SR w w.heap.size A m) :
 Calls Tryz.prog 144 #[.slice A m.length cap] w fun e w' => GyrOut w.heap.size m e w' ∧ Below w.heap.size w w' := by
 go_enter Tryz.func144, Tryz.ntmps144
 go_wp2_with fail
 refine (gcheck_any A cap m w hcl h).mono ?_
 rintro e w1 ⟨⟨k, rfl, hk⟩, hb1⟩
 rcases hk with ⟨hok, rfl⟩ | ⟨hno, rfl⟩
 · have HOK := Lib.hid hok
   have h7 := hok.1
   have hp1 := hok.2.pos
   have HLO := Lib.hid (loops_any A cap m w1 hok (h.keep hb1))
   have HB1 := Lib.hid hb1
   clear hok hb1 h
   obtain ⟨n, hn⟩ : ∃ n, n = m.length := ⟨_, rfl⟩
   rw [← hn] at h7 hp1 HLO ⊢
   have HN := Lib.hid hn
   clear hn
   go_upto_region 5 with fail
   go_cut [6] (fun pv wz => ∃ G : LG, pv = .pointer (some ⟨G.L, 0, none⟩) ∧ G.n = n ∧ AllR wz w.heap.size (G.wears (lpC m)).reg ∧ Below w.heap.size w wz)
   case first =>
    go_wp2_with (first | (go_at_call 183; refine HLO.out.mono ?_) | fail)
    rintro e w2 hout
    obtain ⟨K, hKn, he, hA, hD, hall, hb2⟩ := hout
    have he2 : e = .returned (.agg #[.slice (some ⟨K.gA, 0, none⟩) K.n K.n, .slice (some ⟨K.gD, 0, none⟩) (K.n + 1) (K.n + 1)]) := he
    clear he
    subst he2
    have HALL := Lib.hid hall
    have HB2 := Lib.hid hb2
    clear hall hb2
    go_wp2
    go_meet
    have hsz := HB1.out.size
    have hW2 := below_call HB1.out (Nat.le_refl _) HB2.out
    have hnew := (HALL.out.newL).base hsz
    have eA : K.A = .slice (some ⟨K.gA, 0, none⟩) n n := by unfold LG.A; rw [hKn]
    have eD : K.D = .slice (some ⟨K.gD, 0, none⟩) (n + 1) (n + 1) := by unfold LG.D; rw [hKn]
    rw [eA, eD] at hnew
    refine ⟨{ K with L := w2.heap.size }, rfl, hKn, ?_, hW2.alloc hW2.size _⟩
    rw [wears_self (K := { K with L := w2.heap.size }) (by show K.rA = fA _ K.n K.n; rw [hKn]; exact hA) (by show K.rD = fD _ K.n (K.n + 1); rw [hKn]; exact hD)]
    exact hnew
   case rest =>
    obtain ⟨G, rfl, hGn, hall, hW⟩ := hcut
    have HST : Hid (AllR wc w.heap.size (G.wears (Yp n (lpC m) 0)).reg ∧ Below w.heap.size w wc) := ⟨hall, hW⟩
    have HGN := Lib.hid hGn
    clear hall hW HLO hGn
    obtain ⟨n1, hn1⟩ : ∃ k : Nat, (n : Int) - 1 = (k : Int) := ⟨n - 1, by omega⟩
    have hn1' : n1 + 1 = n := by omega
    go_wp2
    go_loopw [29] (fun pv wz => ∃ p : Nat, p ≤ 2 ∧ pv = .int .i64 p ∧ AllR wz w.heap.size (G.wears (Yp n (lpC m) p)).reg ∧ Below w.heap.size w wz) (fun pv _ => 2 - (intOf pv).toNat)
    case atStart => exact ⟨0, by omega, rfl, HST.out⟩
    case round =>
     clear HST
     obtain ⟨p, hp, rfl, hst⟩ := hrel
     have HST := Lib.hid hst
     clear hst
     by_cases hp2 : p < 2
     · have dp : decide (p < 2) = true := decide_eq_true hp2
       have dp2 : decide ((p : Int) < 2) = true := decide_eq_true (by omega)
       go_wp2
       go_loopw [34] (fun iv wz => ∃ i : Nat, i ≤ n1 ∧ iv = .int .i64 i ∧ AllR wz w.heap.size (G.wears (prog n p (Yp n (lpC m) p) i 0)).reg ∧ Below w.heap.size w wz) (fun iv _ => n1 - (intOf iv).toNat)
       case atStart => exact ⟨0, Nat.zero_le _, rfl, by rw [show (((0 : Nat) : Int)) = 0 from rfl, prog_start]; exact HST.out⟩
       case round =>
        obtain ⟨w9, rfl⟩ : ∃ w9, w9 = wr := ⟨_, rfl⟩
        clear HST
        obtain ⟨i, hi, rfl, hst⟩ := hrel
        have HST := Lib.hid hst
        clear hst
        by_cases hin : i < n1
        · have di : decide (i < n1) = true := decide_eq_true hin
          have di2 : decide ((i : Int) < (n1 : Int)) = true := decide_eq_true (by omega)
          go_wp2
          go_loopw [39] (fun jv wz => ∃ j : Nat, j ≤ n1 ∧ jv = .int .i64 j ∧ AllR wz w.heap.size (G.wears (prog n p (Yp n (lpC m) p) i j)).reg ∧ Below w.heap.size w wz) (fun jv _ => n1 - (intOf jv).toNat)
          case atStart => exact ⟨0, Nat.zero_le _, rfl, HST.out⟩
          case round =>
           obtain ⟨w8, rfl⟩ : ∃ w8, w8 = wr := ⟨_, rfl⟩
           clear HST
           obtain ⟨j, hj, rfl, hst⟩ := hrel
           have HST := Lib.hid hst
           clear hst
           have hpp : (p : Int) = 0 ∨ (p : Int) = 1 := by omega
           by_cases hjn : j < n1
           · have dj : decide (j < n1) = true := decide_eq_true hjn
             have dj2 : decide ((j : Int) < (n1 : Int)) = true := decide_eq_true (by omega)
             by_cases hpar : ((i : Int) + (j : Int)) % 2 = (p : Int)
             · have dne : (((i : Int) + (j : Int)) % 2 != (p : Int)) = false := by simpa using hpar
               obtain ⟨g1, k1, g2, k2, g3, k3, q1, q2, q3, b1, b2, b3, b4, d12, d13, d23, B1, B2, B3, z1, z2, z3, hflip⟩ := face_rows (i := i) (j := j) HST.out.1 (by rw [HGN.out]; omega) (by rw [HGN.out]; omega)
               rw [HGN.out] at q1 q2 q3
               have c0 : w8.cell? ⟨G.L, 0, none⟩ = some (.slice (some ⟨G.gA, 0, none⟩) n n) := by have := HST.out.1.cL.1; rw [← HGN.out]; exact this
               have c1 : w8.cell? ⟨G.L, 1, none⟩ = some (.slice (some ⟨G.gD, 0, none⟩) (n + 1) (n + 1)) := by have := HST.out.1.cL.2; rw [← HGN.out]; exact this
               have hstay := fun h => prog_stay (n := (n : Int)) (X := Yp n (lpC m) p) hpp hpar h
               have hturn := fun h => prog_turn (n := (n : Int)) (X := Yp n (lpC m) p) hpp hpar h
               have hfour := fun e he => prog_four (n := (n : Int)) (X := Yp n (lpC m) p) hpp hpar (e := e) he
               obtain ⟨u, hu⟩ : ∃ u, u = prog n p (Yp n (lpC m) p) i j (.h i (j + 1 : Nat)) := ⟨_, rfl⟩
               obtain ⟨l, hl⟩ : ∃ u, u = prog n p (Yp n (lpC m) p) i j (.h (i + 1 : Nat) (j + 1 : Nat)) := ⟨_, rfl⟩
               obtain ⟨f, hf⟩ : ∃ u, u = prog n p (Yp n (lpC m) p) i j (.v (i + 1 : Nat) j) := ⟨_, rfl⟩
               obtain ⟨r, hr⟩ : ∃ u, u = prog n p (Yp n (lpC m) p) i j (.v (i + 1 : Nat) (j + 1 : Nat)) := ⟨_, rfl⟩
               rw [← hu] at b1
               rw [← hl] at b2
               rw [← hf] at b3
               rw [← hr] at b4
               have f1 : prog n p (Yp n (lpC m) p) i j (.h i (j + 1 : Nat)) = Yp n (lpC m) p (.h i ((j : Int) + 1)) := hfour (.h i ((j : Int) + 1)) (.inl rfl)
               have f2 : prog n p (Yp n (lpC m) p) i j (.h (i + 1 : Nat) (j + 1 : Nat)) = Yp n (lpC m) p (.h ((i : Int) + 1) ((j : Int) + 1)) := hfour (.h ((i : Int) + 1) ((j : Int) + 1)) (.inr (.inl rfl))
               have f3 : prog n p (Yp n (lpC m) p) i j (.v (i + 1 : Nat) j) = Yp n (lpC m) p (.v ((i : Int) + 1) j) := hfour (.v ((i : Int) + 1) j) (.inr (.inr (.inl rfl)))
               have f4 : prog n p (Yp n (lpC m) p) i j (.v (i + 1 : Nat) (j + 1 : Nat)) = Yp n (lpC m) p (.v ((i : Int) + 1) ((j : Int) + 1)) := hfour (.v ((i : Int) + 1) ((j : Int) + 1)) (.inr (.inr (.inr rfl)))
               have halt : alt n (Yp n (lpC m) p) i j = (u == l && f == r && u != f) := by
                unfold alt
                rw [decide_eq_true (by omega), Bool.true_and, hu, hl, hf, hr, f1, f2, f3, f4]
               clear f1 f2 f3 f4
               have HU := Lib.hid hu
               have HL := Lib.hid hl
               have HF := Lib.hid hf
               have HRR := Lib.hid hr
               have HFL := Lib.hid hflip
               have HSTY := Lib.hid hstay
               have HTRN := Lib.hid hturn
               have HALT := Lib.hid halt
               have h1i : i + 1 < n := by omega
               have h1j : j + 1 < n := by omega
               have wa : IntKind.i64.wrap ((i : Int) + 1) = (i : Int) + 1 := IntWalk.i64_in _ (by omega)
               have wb : IntKind.i64.wrap ((j : Int) + 1) = (j : Int) + 1 := IntWalk.i64_in _ (by omega)
               clear hpar hu hl hf hr hflip hstay hturn hfour halt
               go_upto_region 16 with fail
               go_quiet (fail)
               obtain ⟨w7, hw7⟩ : ∃ w7, w7 = w8.drewN nq := ⟨_, rfl⟩
               rw [← hw7]
               have c0 : w7.cell? ⟨G.L, 0, none⟩ = some (.slice (some ⟨G.gA, 0, none⟩) n n) := by rw [hw7]; exact c0
               have c1 : w7.cell? ⟨G.L, 1, none⟩ = some (.slice (some ⟨G.gD, 0, none⟩) (n + 1) (n + 1)) := by rw [hw7]; exact c1
               have q1 : w7.cell? ⟨G.gA, i, none⟩ = some (.slice (some ⟨g1, 0, none⟩) (n + 1) k1) := by rw [hw7]; exact q1
               have q2 : w7.cell? ⟨G.gA, i + 1, none⟩ = some (.slice (some ⟨g2, 0, none⟩) (n + 1) k2) := by rw [hw7]; exact q2
               have q3 : w7.cell? ⟨G.gD, i + 1, none⟩ = some (.slice (some ⟨g3, 0, none⟩) n k3) := by rw [hw7]; exact q3
               have b1 : w7.cell? ⟨g1, j + 1, none⟩ = some (.bool u) := by rw [hw7]; exact b1
               have b2 : w7.cell? ⟨g2, j + 1, none⟩ = some (.bool l) := by rw [hw7]; exact b2
               have b3 : w7.cell? ⟨g3, j, none⟩ = some (.bool f) := by rw [hw7]; exact b3
               have b4 : w7.cell? ⟨g3, j + 1, none⟩ = some (.bool r) := by rw [hw7]; exact b4
               have HST7 : Hid (AllR w7 w.heap.size (G.wears (prog n p (Yp n (lpC m) p) i j)).reg ∧ Below w.heap.size w w7) := by rw [hw7]; exact ⟨HST.out.1.drewN _, below_drewN HST.out.2 _⟩
               have HFL7 : Hid (∀ (b1 b2 b3 b4 : Bool) (Y' : Cf), Y' (.h i (j + 1 : Nat)) = b1 → Y' (.h (i + 1 : Nat) (j + 1 : Nat)) = b2 → Y' (.v (i + 1 : Nat) j) = b3 → Y' (.v (i + 1 : Nat) (j + 1 : Nat)) = b4 → (∀ e, ¬ four i j e → Y' e = prog n p (Yp n (lpC m) p) i j e) →
                AllR ((((w7.setCell ⟨g1, j + 1, none⟩ (.bool b1)).setCell ⟨g2, j + 1, none⟩ (.bool b2)).setCell ⟨g3, j, none⟩ (.bool b3)).setCell ⟨g3, j + 1, none⟩ (.bool b4)) w.heap.size (G.wears Y').reg) := by
                rw [hw7]
                exact fun a1 a2 a3 a4 Y' y1 y2 y3 y4 y5 => (HFL.out a1 a2 a3 a4 Y' y1 y2 y3 y4 y5).drewN _
               have z1 : ∀ x, w7.frozen? ⟨g1, x, none⟩ = false := by rw [hw7]; exact z1
               have z2 : ∀ x, w7.frozen? ⟨g2, x, none⟩ = false := by rw [hw7]; exact z2
               have z3 : ∀ x, w7.frozen? ⟨g3, x, none⟩ = false := by rw [hw7]; exact z3
               clear hw7 HFL HST nq
               go_upto_region 17 with fail
               go_quiet (fail)
               obtain ⟨w6, hw6⟩ : ∃ w6, w6 = w7.drewN nq := ⟨_, rfl⟩
               rw [← hw6]
               have b1 : w6.cell? ⟨g1, j + 1, none⟩ = some (.bool u) := by rw [hw6]; exact b1
               have b2 : w6.cell? ⟨g2, j + 1, none⟩ = some (.bool l) := by rw [hw6]; exact b2
               have b3 : w6.cell? ⟨g3, j, none⟩ = some (.bool f) := by rw [hw6]; exact b3
               have b4 : w6.cell? ⟨g3, j + 1, none⟩ = some (.bool r) := by rw [hw6]; exact b4
               have HST6 : Hid (AllR w6 w.heap.size (G.wears (prog n p (Yp n (lpC m) p) i j)).reg ∧ Below w.heap.size w w6) := by rw [hw6]; exact ⟨HST7.out.1.drewN _, below_drewN HST7.out.2 _⟩
               have HFL6 : Hid (∀ (b1 b2 b3 b4 : Bool) (Y' : Cf), Y' (.h i (j + 1 : Nat)) = b1 → Y' (.h (i + 1 : Nat) (j + 1 : Nat)) = b2 → Y' (.v (i + 1 : Nat) j) = b3 → Y' (.v (i + 1 : Nat) (j + 1 : Nat)) = b4 → (∀ e, ¬ four i j e → Y' e = prog n p (Yp n (lpC m) p) i j e) →
                AllR ((((w6.setCell ⟨g1, j + 1, none⟩ (.bool b1)).setCell ⟨g2, j + 1, none⟩ (.bool b2)).setCell ⟨g3, j, none⟩ (.bool b3)).setCell ⟨g3, j + 1, none⟩ (.bool b4)) w.heap.size (G.wears Y').reg) := by
                rw [hw6]
                exact fun a1 a2 a3 a4 Y' y1 y2 y3 y4 y5 => (HFL7.out a1 a2 a3 a4 Y' y1 y2 y3 y4 y5).drewN _
               have z1 : ∀ x, w6.frozen? ⟨g1, x, none⟩ = false := by rw [hw6]; exact z1
               have z2 : ∀ x, w6.frozen? ⟨g2, x, none⟩ = false := by rw [hw6]; exact z2
               have z3 : ∀ x, w6.frozen? ⟨g3, x, none⟩ = false := by rw [hw6]; exact z3
               clear hw6 HFL7 HST7 nq c0 c1 q1 q2 q3
               go_upto_region 18 with fail
               by_cases e1 : (u == l) = true
               · by_cases e2 : (f == r) = true
                 · by_cases e3 : (u != f) = true
                   · have hal : alt n (Yp n (lpC m) p) i j = true := by rw [HALT.out, e1, e2, e3]; rfl
                     have hnx := HTRN.out hal
                     have HNX := Lib.hid hnx
                     have f1 : u = l := by revert e1; cases u <;> cases l <;> simp
                     have f2 : f = r := by revert e2; cases f <;> cases r <;> simp
                     have f3 : (!u) = f := by revert e3; cases u <;> cases f <;> simp
                     subst f1 f2 f3
                     clear e1 e2 e3 hal hnx
                     have hfin : Hid (AllR ((((w6.setCell ⟨g1, j + 1, none⟩ (.bool (!u))).setCell ⟨g2, j + 1, none⟩ (.bool (!u))).setCell ⟨g3, j, none⟩ (.bool u)).setCell ⟨g3, j + 1, none⟩ (.bool u)) w.heap.size (G.wears (prog n p (Yp n (lpC m) p) i ((j : Int) + 1))).reg) := by
                      refine HFL6.out _ _ _ _ _ ?_ ?_ ?_ ?_ ?_
                      · exact ((HNX.out (.h i ((j : Int) + 1))).1 (.inl rfl)).trans (congrArg Bool.not HU.out.symm)
                      · exact ((HNX.out (.h ((i : Int) + 1) ((j : Int) + 1))).1 (.inr (.inl rfl))).trans (congrArg Bool.not HL.out.symm)
                      · exact ((HNX.out (.v ((i : Int) + 1) j)).1 (.inr (.inr (.inl rfl)))).trans ((congrArg Bool.not HF.out.symm).trans (Bool.not_not u))
                      · exact ((HNX.out (.v ((i : Int) + 1) ((j : Int) + 1))).1 (.inr (.inr (.inr rfl)))).trans ((congrArg Bool.not HRR.out.symm).trans (Bool.not_not u))
                      · exact fun e he => (HNX.out e).2 he
                     clear HU HL HF HRR HFL6 HSTY HTRN HALT HNX
                     cases u
                     all_goals
                      go_quiet (fail)
                      go_upto_region 19 with fail
                      go_region
                      go_wp2
                      go_roundw
                      case rel => exact ⟨j + 1, by omega, by go_num, hfin.out.drewN (nq + 1), ((((below_drewN HST6.out.2 (nq + 1)).setCell (p := ⟨g1, j + 1, none⟩) B1 _).setCell (p := ⟨g2, j + 1, none⟩) B2 _).setCell (p := ⟨g3, j, none⟩) B3 _).setCell (p := ⟨g3, j + 1, none⟩) B3 _⟩
                      case measure => simp [intOf]; omega
                   · have e3 : (u != f) = false := by simpa using e3
                     have hal : alt n (Yp n (lpC m) p) i j = false := by rw [HALT.out, e3, Bool.and_false]
                     have hs := Lib.hid (HSTY.out hal)
                     clear hal
                     go_quiet (fail)
                     go_wp2
                     go_roundw
                     case rel => exact ⟨j + 1, by omega, by go_num, by rw [show ((j + 1 : Nat) : Int) = (j : Int) + 1 from rfl, hs.out]; exact ⟨HST6.out.1.drewN _, below_drewN HST6.out.2 _⟩⟩
                     case measure => simp [intOf]; omega
                 · have e2 : (f == r) = false := by simpa using e2
                   have hal : alt n (Yp n (lpC m) p) i j = false := by rw [HALT.out, e2, Bool.and_false, Bool.false_and]
                   have hs := Lib.hid (HSTY.out hal)
                   clear hal
                   go_quiet (fail)
                   go_wp2
                   go_roundw
                   case rel => exact ⟨j + 1, by omega, by go_num, by rw [show ((j + 1 : Nat) : Int) = (j : Int) + 1 from rfl, hs.out]; exact ⟨HST6.out.1.drewN _, below_drewN HST6.out.2 _⟩⟩
                   case measure => simp [intOf]; omega
               · have e1 : (u == l) = false := by simpa using e1
                 have hal : alt n (Yp n (lpC m) p) i j = false := by rw [HALT.out, e1, Bool.false_and, Bool.false_and]
                 have hs := Lib.hid (HSTY.out hal)
                 clear hal
                 go_quiet (fail)
                 go_wp2
                 go_roundw
                 case rel => exact ⟨j + 1, by omega, by go_num, by rw [show ((j + 1 : Nat) : Int) = (j : Int) + 1 from rfl, hs.out]; exact ⟨HST6.out.1.drewN _, below_drewN HST6.out.2 _⟩⟩
                 case measure => simp [intOf]; omega
             · have dne : (((i : Int) + (j : Int)) % 2 != (p : Int)) = true := by simpa using hpar
               have hsk : Hid (prog n p (Yp n (lpC m) p) i ((j : Int) + 1) = prog n p (Yp n (lpC m) p) i j) := prog_skip hpp hpar
               clear hpar
               go_wp2
               go_roundw
               case rel => exact ⟨j + 1, by omega, by go_num, by rw [show ((j + 1 : Nat) : Int) = (j : Int) + 1 from rfl, hsk.out]; exact HST.out⟩
               case measure => simp [intOf]; omega
           · have dj : decide (j < n1) = false := decide_eq_false hjn
             have dj2 : decide ((j : Int) < (n1 : Int)) = false := decide_eq_false (by omega)
             have hje : (j : Int) = (n : Int) - 1 := by omega
             have hst := HST.out
             rw [hje, prog_row] at hst
             have HS2 := Lib.hid hst
             clear hst hje HST
             go_wp2
             go_roundw
             case rel => exact ⟨i + 1, by omega, by go_num, HS2.out⟩
             case measure => simp [intOf]; omega
        · have di : decide (i < n1) = false := decide_eq_false hin
          have di2 : decide ((i : Int) < (n1 : Int)) = false := decide_eq_false (by omega)
          have hie : (i : Int) = (n : Int) - 1 := by omega
          have hst := HST.out
          rw [hie, prog_end] at hst
          have HS2 := Lib.hid hst
          clear hst hie HST
          go_wp2
          go_roundw
          case rel => exact ⟨p + 1, by omega, by go_num, HS2.out⟩
          case measure => simp [intOf]; omega
     · have dp : decide (p < 2) = false := decide_eq_false hp2
       have dp2 : decide ((p : Int) < 2) = false := decide_eq_false (by omega)
       have hpe : p = 2 := by omega
       obtain ⟨wL, rfl⟩ : ∃ w9, w9 = wr := ⟨_, rfl⟩
       obtain ⟨Y, hYe⟩ : ∃ Y, Y = gyr n (lpC m) := ⟨_, rfl⟩
       have hst : AllR wL w.heap.size (G.wears Y).reg ∧ Below w.heap.size w wL := by have h9 := HST.out; rw [hpe] at h9; rw [hYe]; exact h9
       have hY : GdL n Y 0 := by rw [hYe, HN.out]; exact gyr_gdl (by have := HOK.out.2; exact this)
       have hlr := hst.1.lr (X := Y) (by show 1 ≤ G.n; rw [HGN.out]; omega) rfl rfl
       have hlr2 : LR wL wL.heap.size G.gA G.gD n Y := by rw [← HGN.out]; exact hlr
       have c0 : wL.cell? ⟨G.L, 0, none⟩ = some (.slice (some ⟨G.gA, 0, none⟩) n n) := by have := hst.1.cL.1; rw [← HGN.out]; exact this
       have HC0 := Lib.hid c0
       have HLR := Lib.hid hlr2
       have HY := Lib.hid hY
       have HW := Lib.hid hst.2
       have HGY : Hid (gyrM m = matOf n Y) := by show _ = _; rw [hYe, HN.out]; rfl
       clear hst hlr hlr2 hY hYe c0 HST hpe hp hp2
       have hBL := Nat.le_refl wL.heap.size
       go_wp2
       go_loopw [14, 135] (fun ov iv wz => ∃ (i : Nat) (hs : List Value), i ≤ n ∧ iv = .int .i64 i ∧ OwnM wz wL.heap.size ov hs ((matOf n Y).take i) ∧ Below wL.heap.size wL wz) (fun _ iv _ => n - (intOf iv).toNat)
       case atStart => exact ⟨0, [], Nat.zero_le _, rfl, by rw [List.take_zero]; exact OwnM.nil _ _, Below.refl _ _⟩
       case round =>
        obtain ⟨w9, rfl⟩ : ∃ w9, w9 = wr := ⟨_, rfl⟩
        obtain ⟨i, hs, hi, rfl, hm, hW⟩ := hrel
        have HM := Lib.hid hm
        have HW9 := Lib.hid hW
        have hsz := hW.size
        clear hm hW
        by_cases hin : i < n
        · have di : decide (i < n) = true := decide_eq_true hin
          have di2 : decide ((i : Int) < (n : Int)) = true := decide_eq_true (by omega)
          go_wp2
          go_loopw [16, 17, 139] (fun rv sv jv wz => ∃ j : Nat, j ≤ n ∧ jv = .int .i64 j ∧ sv = .int .i64 (sOf Y i j) ∧ wz.ownsRow w9.heap.size 3 1 rv j (ints ((matRow n Y i).take j)) ∧ Below w9.heap.size w9 wz) (fun _ _ jv _ => n - (intOf jv).toNat)
          case atStart => exact ⟨0, Nat.zero_le _, rfl, by rw [sOf_zero HY.out hin], by rw [List.take_zero]; exact World.ownsRow_nil _ _ _ _, Below.refl _ _⟩
          case round =>
           obtain ⟨w8, rfl⟩ : ∃ w8, w8 = wr := ⟨_, rfl⟩
           obtain ⟨j, hj, rfl, rfl, hown, hW2⟩ := hrel
           have HO := Lib.hid hown
           have HW2 := Lib.hid hW2
           have hu9 := hW2.size
           clear hown hW2
           by_cases hjn : j < n
           · have dj : decide (j < n) = true := decide_eq_true hjn
             have dj2 : decide ((j : Int) < (n : Int)) = true := decide_eq_true (by omega)
             have hbl : Below wL.heap.size wL w8 := HW9.out.trans (HW2.out.mono hsz)
             have hlr := HLR.out.below hbl
             obtain ⟨g, c, hca, hbits, _⟩ := hlr.a i hin
             have hcb := hbits (j + 1) (by omega)
             have c0 := cell_stay hbl HC0.out
             have heq := sOf_eq Y i j
             have htk := fun y hy => matRow_take (n := n) (Y := Y) (i := i) hjn (y := y) hy
             have hb0 := sOf_bit Y i j
             have hb1 := sOf_bit Y i (j + 1)
             obtain ⟨x, hx⟩ : ∃ x, x = Y (.h i ((j + 1 : Nat) : Int)) := ⟨_, rfl⟩
             rw [← hx] at hcb heq
             obtain ⟨s0, hs0⟩ : ∃ x, x = sOf Y i j := ⟨_, rfl⟩
             obtain ⟨s1, hs1⟩ : ∃ x, x = sOf Y i (j + 1) := ⟨_, rfl⟩
             rw [← hs0] at hb0 htk ⊢
             rw [← hs1] at hb1 htk heq
             have HS1 := Lib.hid hs1
             have HTK := Lib.hid htk
             have wb : IntKind.i64.wrap ((j : Int) + 1) = (j : Int) + 1 := IntWalk.i64_in _ (by omega)
             clear hx hs0 hs1 hbits hlr hbl htk
             have hb0 : 0 ≤ s0 ∧ s0 ≤ 1 := by omega
             have w0 : IntKind.i64.wrap (0 - s0) = 0 - s0 := IntWalk.i64_in _ (by omega)
             have w1 : IntKind.i64.wrap (1 - s0) = 1 - s0 := IntWalk.i64_in _ (by omega)
             have w2 : IntKind.i64.wrap (-s0) = -s0 := IntWalk.i64_in _ (by omega)
             rcases hb1 with rfl | rfl
             · rw [decide_eq_false (by decide)] at heq
               go_wp2_with (first | (at_builtin; refine wpList_app1 (base := w9.heap.size) (v := u16) rfl (.tmp 157) (.tmp 161) rfl rfl _ HO.out rfl (by omega) hu9 (fun g2 c2 w5 hl5 hb5 => ?_)) | fail)
               rw [HTK.out _ (by omega)] at hl5
               go_wp2
               go_roundw
               case rel => exact ⟨j + 1, by omega, by go_num, by rw [HS1.out], hl5, HW2.out.trans hb5⟩
               case measure => simp [intOf]; omega
             · rw [decide_eq_true rfl] at heq
               go_wp2_with (first | (at_builtin; refine wpList_app1 (base := w9.heap.size) (v := u16) rfl (.tmp 157) (.tmp 161) rfl rfl _ HO.out rfl (by omega) hu9 (fun g2 c2 w5 hl5 hb5 => ?_)) | fail)
               rw [HTK.out _ (by omega)] at hl5
               go_wp2
               go_roundw
               case rel => exact ⟨j + 1, by omega, by go_num, by rw [HS1.out], hl5, HW2.out.trans hb5⟩
               case measure => simp [intOf]; omega
           · have dj : decide (j < n) = false := decide_eq_false hjn
             have dj2 : decide ((j : Int) < (n : Int)) = false := decide_eq_false (by omega)
             obtain rfl : j = n := by omega
             obtain ⟨gr, cr, hv, hgr1, hgr2⟩ := HO.out.form (by omega)
             subst hv
             have hO3 := HO.out
             rw [List.take_of_length_le (by rw [matRow_length]; omega)] at hO3
             have HO3 := Lib.hid hO3
             have hm2 := HM.out.below HW2.out
             have hmo := hm2.out
             rw [List.length_take, matOf_length, Nat.min_eq_left (by omega)] at hmo
             have HM2 := Lib.hid hm2
             have HMO := Lib.hid hmo
             have hB9 := Lib.hid (Nat.le_trans hsz hu9)
             clear hm2 hmo hO3
             go_wp2_with (first | (at_builtin; refine wpList_push (v := u14) rfl (.tmp 165) (.tmp 167) rfl rfl (.slice (some ⟨gr, 0, none⟩) j cr) rfl HMO.out w8.heap.size rfl rfl (by omega) hB9.out (fun g2 c2 w5 hl5 hg5 hat5 => ?_)) | fail)
             have hfar := HM.out.far_new (u := .slice (some ⟨gr, 0, none⟩) j cr) (fun k hk => by
              obtain rfl : gr = k := by simpa [Value.ownBlock] using hk
              exact hgr1)
             have hpush := (HM2.out.alloc (.cells #[.slice (some ⟨gr, 0, none⟩) j cr] 65)).push (u := .slice (some ⟨gr, 0, none⟩) j cr) (l := matRow j Y i)
              (by rw [matRow_length]; exact (HO3.out.mono hsz).alloc _) hfar.1 hfar.2 (by rw [List.length_take, matOf_length, Nat.min_eq_left (by omega)]) hl5 hg5 (by simpa using hat5)
             rw [matOf_take hin] at hpush
             have hW5 : Below wL.heap.size wL w5 := ((HW9.out.trans (HW2.out.mono hsz)).alloc hB9.out _).grown hg5 (by have := hB9.out; simp; omega) (fun k hk => (HMO.out.lt k hk).1)
             have HPU := Lib.hid hpush
             clear hpush hfar hl5 hg5 hat5
             go_wp2
             go_roundw
             case rel => exact ⟨i + 1, _, by omega, by go_num, HPU.out, hW5⟩
             case measure => simp [intOf]; omega
        · have di : decide (i < n) = false := decide_eq_false hin
          have di2 : decide ((i : Int) < (n : Int)) = false := decide_eq_false (by omega)
          have hie : i = n := by omega
          have hm := HM.out
          rw [hie, List.take_of_length_le (by rw [matOf_length]; omega), ← HGY.out] at hm
          obtain ⟨A9, c9, e9, hsr, _, _⟩ := hm.ownR
          have hgl : (gyrM m).length = n := by rw [HGY.out]; exact matOf_length _ _
          rw [hgl] at e9
          subst e9
          have hfin : Hid (GyrOut w.heap.size m (.returned (.tuple #[.slice A9 n c9, .int .i64 0])) w9 ∧ Below w.heap.size w w9) := by
           refine ⟨.inl ⟨HOK.out, A9, c9, by rw [hgl], hsr.low HW.out.size⟩, HW.out.trans (HW9.out.mono HW.out.size)⟩
          clear hm hsr hie
          go_wp2
          go_ret2
          exact hfin.out
 · have hfin : Hid (GyrOut w.heap.size m (.returned (.tuple #[.slice none 0 0, .int .i64 1])) w1) := .inr ⟨hno, rfl⟩
   clear hno h
   go_wp2
   go_ret2
   exact ⟨hfin.out, hb1⟩
end
end Go.Proofs.YtpmkdihencepnaaGreatDoor
