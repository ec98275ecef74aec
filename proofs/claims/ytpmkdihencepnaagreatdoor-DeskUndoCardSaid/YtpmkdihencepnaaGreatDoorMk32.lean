/- Part of the proof. -/
import Derived.Test.YtpmkdihencepnaaGreatDoorMk31
set_option maxHeartbeats 16000000
set_option maxRecDepth 100000
namespace Go.Proofs.YtpmkdihencepnaaGreatDoor
section
open Go.RowKit
def TriE (T : List (List Int)) (n a b : Nat) : Prop := 1 ≤ ent T a b ∧ ent T a b ≤ n ∧ (0 < b → ent T a (b - 1) < ent T a b ∧ ent T a (b - 1) ≤ ent T (a - 1) (b - 1) ∧ ent T (a - 1) (b - 1) ≤ ent T a b)
structure TriP (T : List (List Int)) (n i : Nat) : Prop where
 len : ∀ a, a < i → (T.getD a []).length = a + 1
 row : ∀ a b, a < i → b ≤ a → TriE T n a b
theorem TriP.start (T : List (List Int)) (n : Nat) : TriP T n 0 := ⟨fun a ha => by omega, fun a b ha => by omega⟩
theorem TriP.succ {T : List (List Int)} {n i : Nat} (h : TriP T n i) (h1 : (T.getD i []).length = i + 1) (h2 : ∀ b, b < i + 1 → TriE T n i b) : TriP T n (i + 1) := by
 refine ⟨fun a ha => ?_, fun a b ha hb => ?_⟩
 · by_cases e : a = i
   · rw [e]; exact h1
   · exact h.len a (by omega)
 · by_cases e : a = i
   · rw [e]; exact h2 b (by omega)
   · exact h.row a b (by omega) hb
theorem TriP.rng {T : List (List Int)} {n i a b : Nat} (h : TriP T n i) (ha : a < i) (hb : b ≤ a) : 1 ≤ (T.getD a []).getD b 0 ∧ (T.getD a []).getD b 0 ≤ n :=
 ⟨(h.row a b ha hb).1, (h.row a b ha hb).2.1⟩
theorem pairwise_adj {q : List Int} (h : ∀ k, k + 1 < q.length → q.getD k 0 < q.getD (k + 1) 0) : q.Pairwise (· < ·) := by
 have key : ∀ d k, k + (d + 1) < q.length → q.getD k 0 < q.getD (k + (d + 1)) 0 := by
  intro d
  induction d with
  | zero => exact fun k hk => h k hk
  | succ d ih =>
   intro k hk
   have h1 := ih k (by omega)
   have h2 := h (k + (d + 1)) (by omega)
   rw [show k + (d + 1 + 1) = k + (d + 1) + 1 by omega]
   omega
 refine List.pairwise_iff_getElem.2 (fun i j hi hj hij => ?_)
 have := key (j - i - 1) i (by omega)
 rw [show i + (j - i - 1 + 1) = j by omega, getD_get hi, getD_get hj] at this
 exact this
theorem TriP.pairwise {T : List (List Int)} {n i a : Nat} (h : TriP T n i) (ha : a < i) : (T.getD a []).Pairwise (· < ·) :=
 pairwise_adj (fun k hk => ((h.row a (k + 1) ha (by have := h.len a ha; omega)).2.2 (by omega)).1)
def urT (T : List (List Int)) (n i : Nat) : List Int := tab n (fun j => ind (T.getD i []) j - (if i = 0 then 0 else ind (T.getD (i - 1) []) j))
def unT (T : List (List Int)) (n : Nat) : List (List Int) := (List.range n).map (urT T n)
theorem unT_length (T : List (List Int)) (n : Nat) : (unT T n).length = n := by simp [unT]
theorem unT_getD {T : List (List Int)} {n i : Nat} (h : i < n) : (unT T n).getD i [] = urT T n i := by simp [unT, h]
theorem urT_zero (T : List (List Int)) (n : Nat) : tab n (fun j => ind (T.getD 0 []) j) = urT T n 0 := by
 unfold urT
 exact tab_congr (fun j _ => by rw [if_pos rfl]; omega)
theorem urT_succ (T : List (List Int)) (n i : Nat) : tab n (fun j => ind (T.getD (i + 1) []) j - ind (T.getD i []) j) = urT T n (i + 1) := by
 unfold urT
 exact tab_congr (fun j _ => by rw [if_neg (by omega), Nat.add_sub_cancel])
def TriIn (T : List (List Int)) : Prop := 1 ≤ T.length ∧ T.length ≤ 7 ∧ TriP T T.length T.length
def FromTTo (T rows : List (List Int)) : Prop := (TriIn T ∧ rows = unT T T.length) ∨ (¬ TriIn T ∧ rows = [])
def FTOut (T : List (List Int)) (B : Nat) (e : Ending) (w : World) : Prop := (TriIn T ∧ ∃ v hs, e = .returned (.tuple #[v, .int .i64 0]) ∧ OwnM w B v hs (unT T T.length)) ∨ (¬ TriIn T ∧ e = .returned (.tuple #[.slice none 0 0, .int .i64 1]))
theorem ftout_bad {T : List (List Int)} {B : Nat} {w : World} (h : FromTTo T []) : FTOut T B (.returned (.tuple #[.slice none 0 0, .int .i64 1])) w := by
 rcases h with ⟨a, e⟩ | ⟨a, _⟩
 · have := congrArg List.length e
   rw [unT_length] at this
   have := a.1
   simp at *
   omega
 · exact .inr ⟨a, rfl⟩
theorem fromtri_all (A : Option Addr) (cap n : Nat) (T : List (List Int)) (w : World) (hn : T.length = n) (hcl : n ≤ 9223372036854775807) (h : SR w w.heap.size A T) :
 Calls Tryz.prog 143 #[.slice A n cap] w fun e w' => FTOut T w.heap.size e w' ∧ Below w.heap.size w w' := by
 have HN := Lib.hid hn
 go_enter Tryz.func143, Tryz.ntmps143
 by_cases h1 : n < 1
 · have hd1 : decide (n < 1) = true := decide_eq_true h1
   have hfin : Hid (FromTTo T []) := .inr ⟨fun e => by have := e.1; omega, rfl⟩
   clear hn
   go_wp2
   go_ret2
   exact ⟨ftout_bad hfin.out, Below.refl _ _⟩
 have d1 : decide (n < 1) = false := decide_eq_false h1
 by_cases h8 : 7 < n
 · have hd2 : decide (7 < n) = true := decide_eq_true h8
   have hfin : Hid (FromTTo T []) := .inr ⟨fun e => by have := e.2.1; omega, rfl⟩
   clear hn
   go_wp2
   go_ret2
   exact ⟨ftout_bad hfin.out, Below.refl _ _⟩
 have d2 : decide (7 < n) = false := decide_eq_false h8
 obtain ⟨b, o, rfl, hb⟩ := h.addr (by omega)
 clear hn hcl
 go_wp2
 go_loopw [27] (fun iv wr => ∃ i d : Nat, i ≤ n ∧ iv = .int .i64 i ∧ wr = w.drewN d ∧ TriP T n i) (fun iv _ => n - (intOf iv).toNat)
 case atStart => exact ⟨0, 0, by omega, rfl, rfl, TriP.start T n⟩
 case round =>
  obtain ⟨i, d, hi, rfl, rfl, hok⟩ := hrel
  have HK := Lib.hid hok
  clear hok
  by_cases hlt : i < n
  · by_cases hi0 : i = 0
    · subst hi0
      have hd1 : decide ((0 : Int) < (n : Int)) = true := decide_eq_true (by omega)
      rw [show ((0 : Nat) : Int) = 0 from rfl]
      obtain ⟨Ai, ci, hci, hri, hrl⟩ := h.at_ (r := 0) (by rw [HN.out]; exact hlt)
      rw [Nat.add_zero] at hci
      obtain ⟨R, hR⟩ : ∃ R, R = T.getD 0 [] := ⟨_, rfl⟩
      rw [← hR] at hci hri hrl
      have HR := Lib.hid hR
      clear hR
      by_cases hRl : R.length = 1
      · rw [hRl] at hci
        have HLI := Lib.hid hRl
        have hd4 : ((1 : Int) != 1) = false := by simp
        obtain ⟨b3, o3, rfl, hb3⟩ := hri.addr (by omega)
        clear hRl hrl
        go_wp2
        go_loopw [39] (fun jv wr => ∃ j e : Nat, j ≤ 1 ∧ jv = .int .i64 j ∧ wr = w.drewN e ∧ ∀ b, b < j → TriE T n 0 b) (fun jv _ => 1 - (intOf jv).toNat)
        case atStart => exact ⟨0, d, by omega, rfl, rfl, fun b hb => by omega⟩
        case round =>
         obtain ⟨j, e, hj, rfl, rfl, hall⟩ := hrel
         have HALL := Lib.hid hall
         clear hall
         by_cases hlt2 : j < 1
         · have hd2 : decide ((j : Int) < (1 : Int)) = true := by simp; omega
           have x2 : (j : Int) < (1 : Int) := by omega
           have hcx := getD_cell hri (k := j) (by rw [HLI.out]; exact hlt2)
           have hno : Hid (¬ TriE T n 0 j → FromTTo T []) := fun hh => .inr ⟨fun e => hh (by have := e.2.2.row 0 j (by rw [HN.out]; exact hlt) (by omega); rwa [HN.out] at this), rfl⟩
           have hyes : Hid (TriE T n 0 j → ∀ b, b < j + 1 → TriE T n 0 b) := fun hh b hb => by
            by_cases e : b = j
            · rw [e]; exact hh
            · exact HALL.out b (by omega)
           by_cases hj0 : j = 0
           · subst hj0
             rw [Nat.add_zero] at hcx
             obtain ⟨x, hxx⟩ : ∃ x, x = R.getD 0 0 := ⟨_, rfl⟩
             rw [← hxx] at hcx
             have HX : Hid (x = ent T 0 0) := by show _ = _; rw [hxx, HR.out]; rfl
             clear hxx
             by_cases s1 : x < 1
             · have t1 : decide (x < 1) = true := decide_eq_true s1
               have hfin := Lib.hid (hno.out (fun hh => by have := hh.1; rw [← HX.out] at this; omega))
               go_wp2
               go_quiet (fail)
               go_wp2
               go_ret2
               exact ⟨ftout_bad hfin.out, by first | exact below_drewN (Below.refl _ _) _ | exact below_drewN (below_drewN (Below.refl _ _) _) _⟩
             · have t1 : decide (x < 1) = false := decide_eq_false s1
               by_cases s2 : (n : Int) < x
               · have t2 : decide ((n : Int) < x) = true := decide_eq_true s2
                 have hfin := Lib.hid (hno.out (fun hh => by have := hh.2.1; rw [← HX.out] at this; omega))
                 go_wp2
                 go_quiet (fail)
                 go_wp2
                 go_ret2
                 exact ⟨ftout_bad hfin.out, by first | exact below_drewN (Below.refl _ _) _ | exact below_drewN (below_drewN (Below.refl _ _) _) _⟩
               · have t2 : decide ((n : Int) < x) = false := decide_eq_false s2
                 have hnx := Lib.hid (hyes.out ⟨by rw [← HX.out]; omega, by rw [← HX.out]; omega, fun e => by omega⟩)
                 go_wp2
                 go_quiet (fail)
                 go_wp2
                 go_roundw
                 case rel => exact ⟨1, _, by omega, by go_num, rfl, hnx.out⟩
                 case measure => simp [intOf]
           · omega
         · have hd2 : decide ((j : Int) < (1 : Int)) = false := by simp; omega
           have hnx := Lib.hid (HK.out.succ (by rw [← HR.out]; exact HLI.out) (fun b hb => HALL.out b (by omega)))
           go_wp2
           go_roundw
           case rel => exact ⟨1, e, by omega, by go_num, rfl, hnx.out⟩
           case measure => simp [intOf]; omega
      · have hd4 : ((R.length : Int) != (1 : Int)) = true := by simp; omega
        have hfin : Hid (FromTTo T []) := .inr ⟨fun e => hRl (by rw [HR.out]; exact e.2.2.len 0 (by rw [HN.out]; exact hlt)), rfl⟩
        go_wp2
        go_ret2
        exact ⟨ftout_bad hfin.out, below_drewN (Below.refl _ _) _⟩
    · obtain ⟨i', rfl⟩ : ∃ i', i = i' + 1 := ⟨i - 1, by omega⟩
      have hd1 : decide ((i' : Int) + 1 < (n : Int)) = true := decide_eq_true (by omega)
      clear hi0
      rw [show ((i' + 1 : Nat) : Int) = (i' : Int) + 1 from rfl]
      obtain ⟨Ai, ci, hci, hri, hrl⟩ := h.at_ (r := (i' + 1)) (by rw [HN.out]; exact hlt)
      obtain ⟨R, hR⟩ : ∃ R, R = T.getD (i' + 1) [] := ⟨_, rfl⟩
      rw [← hR] at hci hri hrl
      have HR := Lib.hid hR
      clear hR
      by_cases hRl : R.length = i' + 1 + 1
      · rw [hRl] at hci
        have HLI := Lib.hid hRl
        have hd4 : ((i' : Int) + 1 + 1 != (i' : Int) + 1 + 1) = false := by simp
        obtain ⟨b3, o3, rfl, hb3⟩ := hri.addr (by omega)
        clear hRl hrl
        go_wp2
        go_loopw [39] (fun jv wr => ∃ j e : Nat, j ≤ i' + 1 + 1 ∧ jv = .int .i64 j ∧ wr = w.drewN e ∧ ∀ b, b < j → TriE T n (i' + 1) b) (fun jv _ => i' + 1 + 1 - (intOf jv).toNat)
        case atStart => exact ⟨0, d, by omega, rfl, rfl, fun b hb => by omega⟩
        case round =>
         obtain ⟨j, e, hj, rfl, rfl, hall⟩ := hrel
         have HALL := Lib.hid hall
         clear hall
         by_cases hlt2 : j < i' + 1 + 1
         · have hd2 : decide ((j : Int) < (i' : Int) + 1 + 1) = true := by simp; omega
           have x2 : (j : Int) < (i' : Int) + 1 + 1 := by omega
           have hcx := getD_cell hri (k := j) (by rw [HLI.out]; exact hlt2)
           have hno : Hid (¬ TriE T n (i' + 1) j → FromTTo T []) := fun hh => .inr ⟨fun e => hh (by have := e.2.2.row (i' + 1) j (by rw [HN.out]; exact hlt) (by omega); rwa [HN.out] at this), rfl⟩
           have hyes : Hid (TriE T n (i' + 1) j → ∀ b, b < j + 1 → TriE T n (i' + 1) b) := fun hh b hb => by
            by_cases e : b = j
            · rw [e]; exact hh
            · exact HALL.out b (by omega)
           by_cases hj0 : j = 0
           · subst hj0
             rw [Nat.add_zero] at hcx
             obtain ⟨x, hxx⟩ : ∃ x, x = R.getD 0 0 := ⟨_, rfl⟩
             rw [← hxx] at hcx
             have HX : Hid (x = ent T (i' + 1) 0) := by show _ = _; rw [hxx, HR.out]; rfl
             clear hxx
             by_cases s1 : x < 1
             · have t1 : decide (x < 1) = true := decide_eq_true s1
               have hfin := Lib.hid (hno.out (fun hh => by have := hh.1; rw [← HX.out] at this; omega))
               go_wp2
               go_quiet (fail)
               go_wp2
               go_ret2
               exact ⟨ftout_bad hfin.out, by first | exact below_drewN (Below.refl _ _) _ | exact below_drewN (below_drewN (Below.refl _ _) _) _⟩
             · have t1 : decide (x < 1) = false := decide_eq_false s1
               by_cases s2 : (n : Int) < x
               · have t2 : decide ((n : Int) < x) = true := decide_eq_true s2
                 have hfin := Lib.hid (hno.out (fun hh => by have := hh.2.1; rw [← HX.out] at this; omega))
                 go_wp2
                 go_quiet (fail)
                 go_wp2
                 go_ret2
                 exact ⟨ftout_bad hfin.out, by first | exact below_drewN (Below.refl _ _) _ | exact below_drewN (below_drewN (Below.refl _ _) _) _⟩
               · have t2 : decide ((n : Int) < x) = false := decide_eq_false s2
                 have hnx := Lib.hid (hyes.out ⟨by rw [← HX.out]; omega, by rw [← HX.out]; omega, fun e => by omega⟩)
                 go_wp2
                 go_quiet (fail)
                 go_wp2
                 go_roundw
                 case rel => exact ⟨1, _, by omega, by go_num, rfl, hnx.out⟩
                 case measure => simp [intOf]
           · obtain ⟨j', rfl⟩ : ∃ j', j = j' + 1 := ⟨j - 1, by omega⟩
             obtain ⟨Aj, cj, hcj, hrj, _⟩ := h.at_ (r := i') (by rw [HN.out]; omega)
             have hlj := HK.out.len i' (by omega)
             rw [hlj] at hcj
             obtain ⟨b4, o4, rfl, hb4⟩ := hrj.addr (by rw [hlj]; omega)
             have hcy := getD_cell hri (k := j') (by rw [HLI.out]; omega)
             have hcz := getD_cell hrj (k := j') (by rw [hlj]; omega)
             obtain ⟨x, hxx⟩ : ∃ x, x = R.getD (j' + 1) 0 := ⟨_, rfl⟩
             obtain ⟨y, hyy⟩ : ∃ x, x = R.getD j' 0 := ⟨_, rfl⟩
             obtain ⟨z, hzz⟩ : ∃ x, x = (T.getD i' []).getD j' 0 := ⟨_, rfl⟩
             rw [← hxx] at hcx
             rw [← hyy] at hcy
             rw [← hzz] at hcz
             have HX : Hid (x = ent T (i' + 1) (j' + 1)) := by show _ = _; rw [hxx, HR.out]; rfl
             have HY : Hid (y = ent T (i' + 1) j') := by show _ = _; rw [hyy, HR.out]; rfl
             have HZ : Hid (z = ent T i' j') := by show _ = _; rw [hzz]; rfl
             have HE : Hid (TriE T n (i' + 1) (j' + 1) ↔ 1 ≤ x ∧ x ≤ n ∧ y < x ∧ y ≤ z ∧ z ≤ x) := by
              show _ ↔ _
              unfold TriE
              rw [Nat.add_sub_cancel, Nat.add_sub_cancel, ← HX.out, ← HY.out, ← HZ.out]
              exact ⟨fun hh => ⟨hh.1, hh.2.1, hh.2.2 (by omega)⟩, fun hh => ⟨hh.1, hh.2.1, fun _ => hh.2.2⟩⟩
             clear hxx hyy hzz hlj hd2 x2
             have t0 : decide ((0 : Int) < (j' : Int) + 1) = true := decide_eq_true (by omega)
             have u1 : decide ((j' : Int) + 1 < (i' : Int) + 1 + 1) = true := decide_eq_true (by omega)
             have u1' : decide (j' < i' + 1) = true := decide_eq_true (by omega)
             have u2 : (j' : Int) + 1 < (i' : Int) + 1 + 1 := by omega
             have u3 : (j' : Int) < (i' : Int) + 1 + 1 := by omega
             have u4 : (j' : Int) < (i' : Int) + 1 := by omega
             have u5 : (i' : Int) < (n : Int) := by omega
             have u6 : i' < n := by omega
             have w4 : IntKind.i64.wrap (i' : Int) = i' := IntWalk.i64_in _ (by omega)
             have w5 : IntKind.i64.wrap (j' : Int) = j' := IntWalk.i64_in _ (by omega)
             by_cases s1 : x < 1
             · have t1 : decide (x < 1) = true := decide_eq_true s1
               have hfin := Lib.hid (hno.out (fun hh => by have := HE.out.1 hh; omega))
               go_wp2
               go_quiet (fail)
               go_wp2
               go_ret2
               exact ⟨ftout_bad hfin.out, by first | exact below_drewN (Below.refl _ _) _ | exact below_drewN (below_drewN (Below.refl _ _) _) _⟩
             have t1 : decide (x < 1) = false := decide_eq_false s1
             by_cases s2 : (n : Int) < x
             · have t2 : decide ((n : Int) < x) = true := decide_eq_true s2
               have hfin := Lib.hid (hno.out (fun hh => by have := HE.out.1 hh; omega))
               go_wp2
               go_quiet (fail)
               go_wp2
               go_ret2
               exact ⟨ftout_bad hfin.out, by first | exact below_drewN (Below.refl _ _) _ | exact below_drewN (below_drewN (Below.refl _ _) _) _⟩
             have t2 : decide ((n : Int) < x) = false := decide_eq_false s2
             by_cases s3 : x ≤ y
             · have t3 : decide (x ≤ y) = true := decide_eq_true s3
               have hfin := Lib.hid (hno.out (fun hh => by have := HE.out.1 hh; omega))
               go_wp2
               go_quiet (fail)
               go_wp2
               go_ret2
               exact ⟨ftout_bad hfin.out, by first | exact below_drewN (Below.refl _ _) _ | exact below_drewN (below_drewN (Below.refl _ _) _) _⟩
             have t3 : decide (x ≤ y) = false := decide_eq_false s3
             by_cases s4 : z < y
             · have t4 : decide (z < y) = true := decide_eq_true s4
               have hfin := Lib.hid (hno.out (fun hh => by have := HE.out.1 hh; omega))
               go_wp2
               go_quiet (fail)
               go_wp2
               go_ret2
               exact ⟨ftout_bad hfin.out, by first | exact below_drewN (Below.refl _ _) _ | exact below_drewN (below_drewN (Below.refl _ _) _) _⟩
             have t4 : decide (z < y) = false := decide_eq_false s4
             by_cases s5 : x < z
             · have t5 : decide (x < z) = true := decide_eq_true s5
               have hfin := Lib.hid (hno.out (fun hh => by have := HE.out.1 hh; omega))
               go_wp2
               go_quiet (fail)
               go_wp2
               go_ret2
               exact ⟨ftout_bad hfin.out, by first | exact below_drewN (Below.refl _ _) _ | exact below_drewN (below_drewN (Below.refl _ _) _) _⟩
             have t5 : decide (x < z) = false := decide_eq_false s5
             have hnx := Lib.hid (hyes.out (HE.out.2 ⟨by omega, by omega, by omega, by omega, by omega⟩))
             go_wp2
             go_quiet (fail)
             go_wp2
             go_roundw
             case rel => exact ⟨j' + 1 + 1, _, by omega, by go_num, rfl, hnx.out⟩
             case measure => simp [intOf]; omega
         · have hd2 : decide ((j : Int) < (i' : Int) + 1 + 1) = false := by simp; omega
           have hnx := Lib.hid (HK.out.succ (by rw [← HR.out]; exact HLI.out) (fun b hb => HALL.out b (by omega)))
           go_wp2
           go_roundw
           case rel => exact ⟨i' + 1 + 1, e, by omega, by go_num, rfl, hnx.out⟩
           case measure => simp [intOf]; omega
      · have hd4 : ((R.length : Int) != (i' : Int) + 1 + 1) = true := by simp; omega
        have hfin : Hid (FromTTo T []) := .inr ⟨fun e => hRl (by rw [HR.out]; exact e.2.2.len (i' + 1) (by rw [HN.out]; exact hlt)), rfl⟩
        go_wp2
        go_ret2
        exact ⟨ftout_bad hfin.out, below_drewN (Below.refl _ _) _⟩
  · have hd1 : decide (i < n) = false := decide_eq_false hlt
    have hie : i = n := by omega
    have hp := HK.out
    rw [hie] at hp
    have HP := Lib.hid hp
    have HFIN : Hid (TriIn T) := ⟨by rw [HN.out]; omega, by rw [HN.out]; omega, by rw [HN.out]; exact HP.out⟩
    clear HK hie hp
    have hW : Below w.heap.size w (w.drewN d) := below_drewN (Below.refl _ _) d
    obtain ⟨wd, hwd⟩ : ∃ wd, wd = w.drewN d := ⟨_, rfl⟩
    rw [← hwd] at hW ⊢
    clear hwd
    go_wp2
    go_loopw [9, 102] (fun ov iv wr => ∃ (i : Nat) (hs : List Value), i ≤ n ∧ iv = .int .i64 i ∧ OwnM wr w.heap.size ov hs ((unT T n).take i) ∧ Below w.heap.size w wr) (fun _ iv _ => n - (intOf iv).toNat)
    case atStart => exact ⟨0, [], by omega, rfl, by rw [List.take_zero]; exact OwnM.nil _ _, hW⟩
    case round =>
     clear hW hlt hd1 hi
     obtain ⟨i, hs, hi, rfl, hm, hW⟩ := hrel
     obtain ⟨w9, rfl⟩ : ∃ w9, w9 = wr := ⟨_, rfl⟩
     have HM := Lib.hid hm
     have hsz := hW.size
     have hmo := hm.out
     rw [List.length_take, unT_length, Nat.min_eq_left hi] at hmo
     have HMO := Lib.hid hmo
     clear hm hmo
     by_cases hlt : i < n
     · have hd1 : decide (i < n) = true := decide_eq_true hlt
       obtain ⟨Ai, ci, hci, hri, _⟩ := h.at_ (r := i) (by rw [HN.out]; exact hlt)
       have hli := HP.out.len i hlt
       rw [hli] at hci
       have HLI := Lib.hid hli
       obtain ⟨b3, o3, rfl, hb3⟩ := hri.addr (by rw [hli]; omega)
       have hci := (hW.cell (p := ⟨b, o + i, none⟩) hb).trans hci
       clear hli
       go_wp2_with (first | (refine wpList_mk rfl (.tmp 107) (.tmp 107) rfl n rfl rfl (by omega) (Nat.le_refl _) (fun w2 hown2 hb2 hz2 => ?_)) | fail)
       rw [tab_zero] at hown2
       have HO2 := Lib.hid hown2
       clear hown2
       go_wp2
       go_loopw [111] (fun kv wz => ∃ k : Nat, k ≤ i + 1 ∧ kv = .int .i64 k ∧ wz.ownsRow w9.heap.size 3 1 (.slice (some ⟨w9.heap.size, 0, none⟩) n n) n (ints (tab n (fun j => ind ((T.getD i []).take k) j))) ∧ Below w9.heap.size w9 wz) (fun kv _ => i + 1 - (intOf kv).toNat)
       case atStart => exact ⟨0, by omega, rfl, by rw [List.take_zero, tab_congr (g := fun _ => 0) (fun j _ => ind_nil j)]; exact HO2.out, hb2⟩
       case round =>
        clear HO2 hb2
        obtain ⟨k, hk, rfl, hown, hW2⟩ := hrel
        have HO := Lib.hid hown
        clear hown
        have hri2 := hri.below (hW.trans (hW2.mono hsz))
        by_cases hlt2 : k < i + 1
        · have hd2 : decide ((k : Int) < (i : Int) + 1) = true := decide_eq_true (by omega)
          have x2 : (k : Int) < (i : Int) + 1 := by omega
          have hcx := getD_cell hri2 (k := k) (by rw [HLI.out]; exact hlt2)
          have hrg := HP.out.rng (a := i) (b := k) hlt (by omega)
          obtain ⟨X, hX⟩ : ∃ X : Nat, (T.getD i []).getD k 0 = (X : Int) + 1 := ⟨((T.getD i []).getD k 0 - 1).toNat, by omega⟩
          have hXn : X < n := by omega
          have hit := ind_take (HP.out.pairwise hlt) (k := k) (X := X) (by rw [HLI.out]; exact hlt2) hX
          have HIT := Lib.hid hit
          rw [hX] at hcx
          have hcy := own_get HO.out (i := X) (tab_get hXn)
          have hle := ind_le ((T.getD i []).take k) X
          have hfr := HO.out.frozenAt X
          have hst := own_set HO.out X (ind ((T.getD i []).take k) X + 1)
          rw [tab_set, tab_congr (g := fun j => ind ((T.getD i []).take (k + 1)) j) (fun j _ => (HIT.out j).symm)] at hst
          have hWs := hW2.setCell (p := ⟨w9.heap.size, X, none⟩) (Nat.le_refl _) (.int .i64 (ind ((T.getD i []).take k) X + 1))
          obtain ⟨y, hy⟩ : ∃ y, y = ind ((T.getD i []).take k) X := ⟨_, rfl⟩
          rw [← hy] at hcy hle hst hWs
          have HST := Lib.hid hst
          have w5 : IntKind.i64.wrap (X : Int) = X := IntWalk.i64_in _ (by omega)
          have x3 : (X : Int) < (n : Int) := by omega
          clear hy hst hit hX hrg
          go_wp2
          go_roundw
          case rel => exact ⟨k + 1, by omega, by go_num, HST.out, hWs⟩
          case measure => simp [intOf]; omega
        · have hd2 : decide ((k : Int) < (i : Int) + 1) = false := decide_eq_false (by omega)
          have hO := HO.out
          rw [List.take_of_length_le (by rw [HLI.out]; omega)] at hO
          have HO1 := Lib.hid hO
          clear hO HO
          go_upto_if 124 with fail
          go_cut [] (fun wz => wz.ownsRow w9.heap.size 3 1 (.slice (some ⟨w9.heap.size, 0, none⟩) n n) n (ints (urT T n i)) ∧ Below w9.heap.size w9 wz)
          case first =>
           by_cases hi0 : i = 0
           · subst hi0
             have hfin := HO1.out
             rw [urT_zero] at hfin
             have HF := Lib.hid hfin
             clear hfin
             go_wp2
             go_meet
             exact ⟨HF.out, hW2⟩
           · obtain ⟨i', rfl⟩ : ∃ i', i = i' + 1 := ⟨i - 1, by omega⟩
             obtain ⟨Aj, cj, hcj, hrj, _⟩ := h.at_ (r := i') (by rw [HN.out]; omega)
             have hlj := HP.out.len i' (by omega)
             rw [hlj] at hcj
             obtain ⟨b4, o4, rfl, hb4⟩ := hrj.addr (by rw [hlj]; omega)
             have hWw := hW.trans (hW2.mono hsz)
             have hcj := (hWw.cell (p := ⟨b, o + i', none⟩) hb).trans hcj
             have HLJ := Lib.hid hlj
             have t0 : decide ((0 : Int) < (i' : Int) + 1) = true := decide_eq_true (by omega)
             have u5 : (i' : Int) < (n : Int) := by omega
             have u6 : i' < n := by omega
             have w4 : IntKind.i64.wrap (i' : Int) = i' := IntWalk.i64_in _ (by omega)
             clear hlj hi0
             go_wp2
             go_loopw [131] (fun kv wz => ∃ k : Nat, k ≤ i' + 1 ∧ kv = .int .i64 k ∧ wz.ownsRow w9.heap.size 3 1 (.slice (some ⟨w9.heap.size, 0, none⟩) n n) n (ints (tab n (fun j => ind (T.getD (i' + 1) []) j - ind ((T.getD i' []).take k) j))) ∧ Below w9.heap.size w9 wz) (fun kv _ => i' + 1 - (intOf kv).toNat)
             case atStart => exact ⟨0, by omega, rfl, by rw [List.take_zero, tab_congr (g := fun j => ind (T.getD (i' + 1) []) j) (fun j _ => by rw [ind_nil]; omega)]; exact HO1.out, hW2⟩
             case round =>
              clear HO1 hW2 hWw
              obtain ⟨k2, hk2, rfl, hown, hW2⟩ := hrel
              have HO := Lib.hid hown
              clear hown
              have hrj2 := hrj.below (hW.trans (hW2.mono hsz))
              by_cases hlt3 : k2 < i' + 1
              · have hd2 : decide ((k2 : Int) < (i' : Int) + 1) = true := decide_eq_true (by omega)
                have x2 : (k2 : Int) < (i' : Int) + 1 := by omega
                have hcx := getD_cell hrj2 (k := k2) (by rw [HLJ.out]; exact hlt3)
                have hrg := HP.out.rng (a := i') (b := k2) (by omega) (by omega)
                obtain ⟨X, hX⟩ : ∃ X : Nat, (T.getD i' []).getD k2 0 = (X : Int) + 1 := ⟨((T.getD i' []).getD k2 0 - 1).toNat, by omega⟩
                have hXn : X < n := by omega
                have hit := ind_take (HP.out.pairwise (a := i') (by omega)) (k := k2) (X := X) (by rw [HLJ.out]; exact hlt3) hX
                have HIT := Lib.hid hit
                rw [hX] at hcx
                have hcy := own_get HO.out (i := X) (tab_get hXn)
                have hle := ind_le ((T.getD i' []).take k2) X
                have hle2 := ind_le (T.getD (i' + 1) []) X
                have hfr := HO.out.frozenAt X
                have hst := own_set HO.out X (ind (T.getD (i' + 1) []) X - ind ((T.getD i' []).take k2) X - 1)
                rw [tab_set, tab_congr (g := fun j => ind (T.getD (i' + 1) []) j - ind ((T.getD i' []).take (k2 + 1)) j) (fun j _ => by
                 rw [HIT.out j]
                 by_cases e : j = X
                 · rw [if_pos e, if_pos e, e]; omega
                 · rw [if_neg e, if_neg e])] at hst
                have hWs := hW2.setCell (p := ⟨w9.heap.size, X, none⟩) (Nat.le_refl _) (.int .i64 (ind (T.getD (i' + 1) []) X - ind ((T.getD i' []).take k2) X - 1))
                obtain ⟨y, hy⟩ : ∃ y, y = ind (T.getD (i' + 1) []) X - ind ((T.getD i' []).take k2) X := ⟨_, rfl⟩
                have hy2 : -1 ≤ y ∧ y ≤ 1 := by omega
                rw [← hy] at hcy hst hWs
                have HST := Lib.hid hst
                have w5 : IntKind.i64.wrap (X : Int) = X := IntWalk.i64_in _ (by omega)
                have x3 : (X : Int) < (n : Int) := by omega
                clear hy hst hit hX hrg hle hle2
                go_wp2
                go_roundw
                case rel => exact ⟨k2 + 1, by omega, by go_num, HST.out, hWs⟩
                case measure => simp [intOf]; omega
              · have hd2 : decide ((k2 : Int) < (i' : Int) + 1) = false := decide_eq_false (by omega)
                have hfin := HO.out
                rw [List.take_of_length_le (by rw [HLJ.out]; omega)] at hfin
                rw [urT_succ] at hfin
                have HF := Lib.hid hfin
                clear hfin
                go_wp2
                go_meet
                exact ⟨HF.out, hW2⟩
          case rest =>
           obtain ⟨hown, hW2⟩ := hcut
           have HF := Lib.hid hown
           have hm2 := HM.out.below hW2
           have hmo := own_below HMO.out hW2
           have HM2 := Lib.hid hm2
           have HMO2 := Lib.hid hmo
           have hB9 := Lib.hid (Nat.le_trans hsz hW2.size)
           clear hown hm2 hmo HO1
           go_wp2_with (first | (at_builtin; refine wpList_push (v := u9) rfl (.tmp 143) (.tmp 145) rfl rfl (.slice (some ⟨w9.heap.size, 0, none⟩) n n) rfl HMO2.out wc.heap.size rfl rfl (by omega) hB9.out (fun g2 c2 w5 hl5 hg5 hat5 => ?_)) | fail)
           have hfar := HM.out.far_new (u := .slice (some ⟨w9.heap.size, 0, none⟩) n n) (fun k hk => by
            obtain rfl : w9.heap.size = k := by simpa [Value.ownBlock] using hk
            exact Nat.le_refl _)
           have hll : (urT T n i).length = n := tab_length _ _
           have hpush := (HM2.out.alloc (.cells #[.slice (some ⟨w9.heap.size, 0, none⟩) n n] 65)).push (u := .slice (some ⟨w9.heap.size, 0, none⟩) n n) (l := (urT T n i))
            (by rw [hll]; exact (HF.out.mono hsz).alloc _) hfar.1 hfar.2 (by rw [List.length_take, unT_length, Nat.min_eq_left hi]) hl5 hg5 (by simpa using hat5)
           have hts : (unT T n).take i ++ [urT T n i] = (unT T n).take (i + 1) := by rw [getD_take_succ (by rw [unT_length]; exact hlt), unT_getD hlt]
           rw [hts] at hpush
           have hW5 : Below w.heap.size w w5 := ((hW.trans (hW2.mono hsz)).alloc hB9.out _).grown hg5 (by have := hB9.out; simp; omega) (fun k hk => (HMO.out.lt k hk).1)
           have HPU := Lib.hid hpush
           clear hpush hfar hl5 hg5 hat5 hts hll
           go_wp2
           go_roundw
           case rel => exact ⟨i + 1, _, by omega, by go_num, HPU.out, hW5⟩
           case measure => simp [intOf]; omega
     · have hd1 : decide (i < n) = false := decide_eq_false hlt
       have hm := HM.out
       rw [List.take_of_length_le (by rw [unT_length]; omega)] at hm
       have HM' := Lib.hid hm
       clear hm
       go_wp2
       go_ret2
       exact ⟨.inl ⟨HFIN.out, _, _, rfl, by rw [HN.out]; exact HM'.out⟩, hW⟩
end
end Go.Proofs.YtpmkdihencepnaaGreatDoor
