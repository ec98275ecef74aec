/-
  parking.Check, Park: what they answer.
-/
import Derived.Test.YtpmkdihencepnaaGreatMg01
import Derived.Test.YtpmkdihencepnaaGreatMg04
import Derived.Test.YtpmkdihencepnaaGreatMg06
import Derived.Test.YtpmkdihencepnaaGreatMg09
import Derived.Test.YtpmkdihencepnaaGreatMg12
import Derived.Test.YtpmkdihencepnaaGreatMg13
import Derived.Test.YtpmkdihencepnaaGreatMg18
import Derived.Test.YtpmkdihencepnaaGreatMg19
import Derived.Test.YtpmkdihencepnaaGreatMg20
namespace Go.Proofs.YtpmkdihencepnaaGreat
open Go.RowKit

def pkOk (m : List Int) : Prop := m.length ≤ 20 ∧ ∀ x ∈ m, 1 ≤ x ∧ x ≤ (m.length : Int)
def pkChk (m : List Int) (k : Int) : Prop := k = 0 ↔ pkOk m

set_option maxHeartbeats 1000000 in
theorem pkcheck_any (A : Option Addr) (cap : Nat) (m : List Int) (w : World) (hcl : m.length ≤ 9223372036854775807) (h : Sl w w.heap.size A (ints m)) :
    Calls Tryz.prog 48 #[.slice A m.length cap] w fun e w' => (∃ k : Int, e = .returned (.int .i64 k) ∧ pkChk m k) ∧ w = w' := by
  go_enter Tryz.func48, Tryz.ntmps48
  by_cases hl : 20 < m.length
  · have hd : decide (20 < m.length) = true := decide_eq_true hl
    have hfin : Hid (pkChk m 2) := by
      show _ ↔ _
      constructor
      · intro e; cases e
      · intro e; have := e.1; omega
    go_wp2
    go_ret
    exact ⟨⟨2, rfl, hfin.out⟩, rfl⟩
  · have hd : decide (20 < m.length) = false := decide_eq_false hl
    go_wp2
    go_loop [10] (fun iv => ∃ i : Nat, i ≤ m.length ∧ iv = .int .i64 i ∧ ∀ j, j < i → 1 ≤ m.getD j 0 ∧ m.getD j 0 ≤ (m.length : Int)) (fun iv => m.length - (intOf iv).toNat)
    case atStart => exact ⟨0, by omega, rfl, fun j hj => by omega⟩
    case round =>
      obtain ⟨i, hi, rfl, hok⟩ := hrel
      have HK := Lib.hid hok
      clear hok
      by_cases hlt : i < m.length
      · have hd2 : decide (i < m.length) = true := decide_eq_true hlt
        obtain ⟨b, o, rfl, hb⟩ := h.addr (by omega)
        have hcx := getD_cell h hlt
        have hno : Hid (¬ (1 ≤ m.getD i 0 ∧ m.getD i 0 ≤ (m.length : Int)) → pkChk m 1) := fun hh => by
          constructor
          · intro e; cases e
          · intro e; exact absurd (e.2 (m.getD i 0) (by rw [getD_get hlt]; exact List.getElem_mem hlt)) hh
        have hyes : Hid (1 ≤ m.getD i 0 ∧ m.getD i 0 ≤ (m.length : Int) → ∀ j, j < i + 1 → 1 ≤ m.getD j 0 ∧ m.getD j 0 ≤ (m.length : Int)) := fun hh j hj => by
          by_cases e : j = i
          · rw [e]; exact hh
          · exact HK.out j (by omega)
        obtain ⟨x, hx⟩ : ∃ x, x = m.getD i 0 := ⟨_, rfl⟩
        rw [← hx] at hcx hno hyes
        clear hx
        by_cases h1 : x < 1
        · have hd3 : decide (x < 1) = true := decide_eq_true h1
          have hfin := Lib.hid (hno.out (by omega))
          go_wp2
          go_ret
          exact ⟨⟨1, rfl, hfin.out⟩, rfl⟩
        · have hd3 : decide (x < 1) = false := decide_eq_false h1
          by_cases h2 : (m.length : Int) < x
          · have hd4 : decide ((m.length : Int) < x) = true := decide_eq_true h2
            have hfin := Lib.hid (hno.out (by omega))
            go_wp2
            go_ret
            exact ⟨⟨1, rfl, hfin.out⟩, rfl⟩
          · have hd4 : decide ((m.length : Int) < x) = false := decide_eq_false h2
            have hy := Lib.hid (hyes.out (by omega))
            go_wp2
            go_round
            case rel => exact ⟨i + 1, by omega, by go_num, hy.out⟩
            case measure => simp [intOf]; omega
      · have hd2 : decide (i < m.length) = false := decide_eq_false hlt
        have hfin : Hid (pkChk m 0) := by
          show _ ↔ _
          refine ⟨fun _ => ⟨by omega, fun x hx => ?_⟩, fun _ => rfl⟩
          obtain ⟨j, hj, rfl⟩ := List.getElem_of_mem hx
          have := HK.out j (by omega)
          rwa [getD_get hj] at this
        go_wp2
        go_ret
        exact ⟨⟨0, rfl, hfin.out⟩, rfl⟩

/-- What Park answers. -/
def PkU (m q : List Int) : Prop := ∀ t, t < q.length → q.getD t 0 ∉ q.take t ∧ m.getD t 0 ≤ q.getD t 0 ∧ ∀ s : Int, m.getD t 0 ≤ s → s < q.getD t 0 → s ∈ q.take t
theorem PkU.nil (m : List Int) : PkU m [] := fun t ht => by simp at ht
theorem PkU.snoc {m q : List Int} {y : Int} (h : PkU m q) (hy : y ∉ q) (hm : m.getD q.length 0 ≤ y) (hs : ∀ s : Int, m.getD q.length 0 ≤ s → s < y → s ∈ q) : PkU m (q ++ [y]) := fun t ht => by
  rw [List.length_append] at ht
  by_cases c : t < q.length
  · rw [snoc_getD_low c, List.take_append_of_le_length (by omega)]; exact h t c
  · obtain rfl : t = q.length := by simp at ht; omega
    have e : (q ++ [y]).getD q.length 0 = y := by rw [List.getD_eq_getElem?_getD, List.getElem?_append_right (Nat.le_refl _)]; simp
    rw [e, List.take_left]
    exact ⟨hy, hm, hs⟩
theorem PkU.fn {m q r : List Int} (h : PkU m q) (h' : PkU m r) (hl : q.length = r.length) : q = r := by
  have key : ∀ t, t ≤ q.length → q.take t = r.take t := by
    intro t
    induction t with
    | zero => intro _; simp
    | succ t ih =>
      intro ht
      have e := ih (by omega)
      have h1 := h t (by omega)
      have h2 := h' t (by omega)
      have hv : q.getD t 0 = r.getD t 0 := by
        rw [← e] at h2
        by_cases c : q.getD t 0 < r.getD t 0
        · exact absurd (h2.2.2 _ h1.2.1 c) h1.1
        · by_cases c2 : r.getD t 0 < q.getD t 0
          · exact absurd (h1.2.2 _ h2.2.1 c2) h2.1
          · omega
      rw [getD_get (by omega), getD_get (by omega)] at hv
      rw [List.take_add_one, List.take_add_one, e, List.getElem?_eq_getElem (by omega), List.getElem?_eq_getElem (by omega), hv]
  have := key q.length (Nat.le_refl _)
  rwa [List.take_length, hl, List.take_length] at this
def ParkT (m q : List Int) : Prop := (m.length ≤ 20 ∧ Crit m ∧ PkU m q ∧ q.length = m.length) ∨ (¬ (m.length ≤ 20 ∧ Crit m) ∧ q = [])

set_option maxRecDepth 100000 in
set_option maxHeartbeats 2000000 in
theorem park_any (A : Option Addr) (cap : Nat) (m : List Int) (w : World) (hcl : m.length ≤ 9223372036854775807) (h : Sl w w.heap.size A (ints m)) :
    Calls Tryz.prog 21 #[.slice A m.length cap] w fun e w' => Tol (ParkT m) w.heap.size e w' ∧ Below w.heap.size w w' := by
  go_enter Tryz.func21, Tryz.ntmps21
  go_wp2_with fail
  refine (pkcheck_any _ _ _ _ hcl h).mono ?_
  rintro e w0 ⟨⟨k, rfl, hk⟩, rfl⟩
  by_cases hk0 : k = 0
  · obtain ⟨h20, hv⟩ := hk.1 hk0
    subst hk0
    have HV := Lib.hid hv
    clear hk hv
    go_wp2_with (first | (refine wpList_mkB rfl (.tmp 16) (.tmp 16) rfl (m.length + 1) rfl rfl (by omega) (Nat.le_refl _) (fun w1 hown1 hb1 hz1 => ?_)) | fail)
    rw [← marks_nil] at hown1
    have HO1 := Lib.hid hown1
    clear hown1
    go_wp2
    go_loopw [6, 20] (fun ov iv wr => ∃ q : List Int, q.length ≤ m.length ∧ iv = .int .i64 q.length ∧ ParkInv m q ∧ PkU m q ∧ wr.ownsRow w1.heap.size 3 1 ov q.length (ints q) ∧
      wr.ownsRow w.heap.size 4 1 (.slice (some ⟨w.heap.size, 0, none⟩) (m.length + 1) (m.length + 1)) (m.length + 1) (bools (marks (m.length + 1) q)) ∧ Below w.heap.size w wr ∧ w1.heap.size ≤ wr.heap.size) (fun _ iv _ => m.length - (intOf iv).toNat)
    case atStart => exact ⟨[], by simp, rfl, ParkInv.nil m, PkU.nil m, World.ownsRow_nil _ _ _ _, HO1.out, hb1, Nat.le_refl _⟩
    case round =>
      clear HO1 hb1
      obtain ⟨q, hq, rfl, hinv, hpk, hown, hmk, hW, hsz⟩ := hrel
      have HPK := Lib.hid hpk
      clear hpk
      have HI := Lib.hid hinv
      have HO := Lib.hid hown
      have HM := Lib.hid hmk
      clear hinv hown hmk
      obtain ⟨i, hi⟩ : ∃ i, i = q.length := ⟨_, rfl⟩
      have HIL := Lib.hid hi
      rw [← hi] at hq HO ⊢
      clear hi
      by_cases hlt : i < m.length
      · have hd1 : decide (i < m.length) = true := decide_eq_true hlt
        obtain ⟨b, o, rfl, hb⟩ := h.addr (by omega)
        have hcx := getD_cell (h.below hW) hlt
        have hx1 := HV.out (m.getD i 0) (by rw [getD_get hlt]; exact List.getElem_mem hlt)
        obtain ⟨M, hM⟩ : ∃ M : Nat, m.getD i 0 = M := ⟨(m.getD i 0).toNat, by omega⟩
        rw [hM] at hcx hx1
        have HMM := Lib.hid hM
        clear hM
        go_wp2
        go_loop [8] (fun nv => ∃ y : Nat, M ≤ y ∧ y ≤ m.length + 1 ∧ nv = .int .i64 y ∧ ∀ s : Int, (M : Int) ≤ s → s < y → s ∈ q) (fun nv => m.length + 1 - (intOf nv).toNat)
        case atStart => exact ⟨M, Nat.le_refl _, by omega, rfl, fun s a b => by omega⟩
        case round =>
          obtain ⟨y, hy1, hy2, rfl, hall⟩ := hrel
          have HALL := Lib.hid hall
          clear hall
          by_cases hyl : y ≤ m.length
          · have hd2 : decide (y ≤ m.length) = true := decide_eq_true hyl
            have hcy := ownB_get HM.out (i := y) (marks_get (by omega))
            by_cases hyq : (y : Int) ∈ q
            · rw [decide_eq_true hyq] at hcy
              have hnx : Hid (∀ s : Int, (M : Int) ≤ s → s < ((y + 1 : Nat) : Int) → s ∈ q) := fun s a b => by
                by_cases e : s = y
                · rw [e]; exact hyq
                · exact HALL.out s a (by omega)
              clear hyq
              go_wp2
              go_round
              case rel => exact ⟨y + 1, by omega, by omega, by go_num, hnx.out⟩
              case measure => simp [intOf]; omega
            · rw [decide_eq_false hyq] at hcy
              have hsn := HI.out.snoc (y := (y : Int)) hyq (by omega) (by omega) (by rw [← HIL.out, HMM.out]; omega) (by rw [← HIL.out, HMM.out]; exact HALL.out)
              have HSN := Lib.hid hsn
              have HPN := Lib.hid (HPK.out.snoc (y := (y : Int)) hyq (by rw [← HIL.out, HMM.out]; omega) (by rw [← HIL.out, HMM.out]; exact HALL.out))
              have hd3 : decide (m.length < y) = false := decide_eq_false (by omega)
              have hfr := HM.out.frozenAt y
              have hst := ownB_set HM.out y true
              rw [marks_snoc] at hst
              have HST := Lib.hid hst
              have hos := ownsRow_setCell_below HO.out (a := ⟨w.heap.size, y, none⟩) (by show w.heap.size < w1.heap.size; omega) (.bool true)
              have hszs : w1.heap.size ≤ (wr.setCell ⟨w.heap.size, y, none⟩ (.bool true)).heap.size := by simpa using hsz
              have HOS := Lib.hid hos
              have hszq : Hid (wr.heap.size = (wr.setCell ⟨w.heap.size, y, none⟩ (.bool true)).heap.size) := by show _ = _; simp
              clear hyq hsn hst hos
              go_wp2_with (first | (at_builtin; refine wpList_app1h rfl (.tmp 43) (.tmp 45) rfl rfl (y : Int) HOS.out wr.heap.size hszq.out rfl (by omega) hszs (fun g2 c2 w5 hl5 hb5 => ?_)) | fail)
              go_wp2
              go_roundw
              case rel =>
                refine ⟨q ++ [(y : Int)], by rw [List.length_append, ← HIL.out]; simp; omega, by rw [List.length_append, ← HIL.out]; go_num, HSN.out, HPN.out, by rw [List.length_append, ← HIL.out]; exact hl5, own_low HST.out (by omega) hb5, ?_, Nat.le_trans hszs hb5.size⟩
                exact (hW.setCell (p := ⟨w.heap.size, y, none⟩) (Nat.le_refl _) _).trans (hb5.mono (by omega))
              case measure => simp [intOf]; omega
          · have hd2 : decide (y ≤ m.length) = false := decide_eq_false hyl
            have hd3 : decide (m.length < y) = true := decide_eq_true (by omega)
            have hfin : Hid (¬ Crit m) := HI.out.fail (by rw [← HIL.out]; exact hlt) (fun x hx => (HV.out x hx).1) (by rw [← HIL.out, HMM.out]; exact fun s a b => HALL.out s a (by omega))
            go_wp2
            go_ret2
            exact ⟨tol_bad _ _ _ (.inr ⟨fun e => absurd e.2 hfin.out, rfl⟩), hW⟩
      · have hd1 : decide (i < m.length) = false := decide_eq_false hlt
        have him : Hid (q.length = m.length) := by show _ = _; rw [← HIL.out]; omega
        have hfin := Lib.hid (HI.out.crit him.out (fun x hx => (HV.out x hx).1))
        have him2 : Hid (i = m.length) := by show _ = _; omega
        go_wp2
        go_ret2
        exact ⟨tol_own (HO.out.mono (by omega)) 0 (.inl ⟨h20, hfin.out.2, HPK.out, him.out⟩), hW⟩
  · have hd : (k != 0) = true := by simpa using hk0
    have hfin : Hid (k = 0 ↔ m.length ≤ 20 ∧ Crit m) := ⟨fun e => absurd e hk0, fun e => absurd (hk.2 ⟨e.1, e.2.1⟩) hk0⟩
    have hne := Lib.hid hk0
    clear hk hk0
    go_wp2
    go_ret2
    exact ⟨tol_bad _ _ _ (.inr ⟨fun e => hne.out (hfin.out.2 e), rfl⟩), Below.refl _ _⟩

end Go.Proofs.YtpmkdihencepnaaGreat

/-
  Plain: EULER'S: odd parts and unlike ones.
-/
namespace Go.Proofs.YtpmkdihencepnaaGreat

/-- How often 2 goes into x; what is left then. -/
def v2 (x : Nat) : Nat := ((List.range 6).filter (fun j => x % 2 ^ (j + 1) = 0)).length
def od (x : Nat) : Nat := x / 2 ^ v2 x
set_option maxRecDepth 100000 in
theorem dec_all : ∀ x, x < 41 → 0 < x → x = od x * 2 ^ v2 x ∧ od x % 2 = 1 ∧ v2 x < 6 := by decide
set_option maxRecDepth 100000 in
theorem uni_all : ∀ n, n < 41 → ∀ j, j < 6 → n % 2 = 1 → n * 2 ^ j < 41 → od (n * 2 ^ j) = n ∧ v2 (n * 2 ^ j) = j := by decide
def bts (t : Nat) : List Nat := (List.range 6).filter (fun j => t.testBit j)
def split1 (x : Int) : List Int := List.replicate (2 ^ v2 x.toNat) ((od x.toNat : Nat) : Int)
def merge1 (p : List Int) (n : Nat) : List Int := (bts (p.count (n : Int))).map (fun j => ((n * 2 ^ j : Nat) : Int))
def odds : List Nat := (List.range 20).map (fun i => 2 * i + 1)
def mergeL (p : List Int) : List Int := odds.flatMap (merge1 p)
def sortD (l : List Int) : List Int := l.mergeSort (fun x y => decide (y ≤ x))
theorem perm_sum {a b : List Int} (h : a.Perm b) : a.sum = b.sum := by
  induction h with
  | nil => rfl
  | cons x _ ih => simp only [List.sum_cons]; omega
  | swap x y l => simp only [List.sum_cons]; omega
  | trans _ _ h1 h2 => omega
theorem sum_rep (k : Nat) (a : Int) : (List.replicate k a).sum = (k : Int) * a := by
  induction k with
  | zero => simp
  | succ k ih => rw [List.replicate_succ, List.sum_cons, ih]; rw [Int.natCast_add, Int.add_mul]; omega
theorem bind_sum (f : Int → List Int) : ∀ l : List Int, (∀ x ∈ l, (f x).sum = x) → (l.flatMap f).sum = l.sum
  | [], _ => rfl
  | x :: l, h => by
    rw [List.flatMap_cons, List.sum_append, h x (List.mem_cons_self ..), bind_sum f l (fun y hy => h y (List.mem_cons_of_mem _ hy)), List.sum_cons]
theorem split1_sum {x : Int} (h1 : 1 ≤ x) (h2 : x ≤ 40) : (split1 x).sum = x := by
  obtain ⟨k, rfl⟩ : ∃ k : Nat, x = k := ⟨x.toNat, by omega⟩
  have h := dec_all k (by omega) (by omega)
  unfold split1
  rw [sum_rep, Int.toNat_natCast]
  conv => rhs; rw [h.1]
  rw [Int.natCast_mul, Int.mul_comm]
theorem split1_mem {x y : Int} (h1 : 1 ≤ x) (h2 : x ≤ 40) (h : y ∈ split1 x) : 1 ≤ y ∧ y % 2 = 1 ∧ y ≤ 40 := by
  obtain ⟨k, rfl⟩ : ∃ k : Nat, x = k := ⟨x.toNat, by omega⟩
  have hd := dec_all k (by omega) (by omega)
  unfold split1 at h
  rw [Int.toNat_natCast] at h
  have e := List.eq_of_mem_replicate h
  have hp : od k ≤ od k * 2 ^ v2 k := Nat.le_mul_of_pos_right _ (Nat.two_pow_pos _)
  omega

/-! ### in order -/
/-! ### what is merged -/
theorem part_le {p : List Int} (h : IsPart p) (hs : p.sum ≤ 40) {x : Int} (hx : x ∈ p) : 1 ≤ x ∧ x ≤ 40 := by
  have h1 := h.mem
  refine ⟨h1 x hx, ?_⟩
  obtain ⟨a, b, rfl⟩ := List.append_of_mem hx
  have h2 := len_le_sum a (fun y hy => h1 y (List.mem_append_left _ hy))
  have h3 := len_le_sum b (fun y hy => h1 y (List.mem_append_right _ (List.mem_cons_of_mem _ hy)))
  rw [List.sum_append, List.sum_cons] at hs
  omega
theorem count_le {p : List Int} (h : IsPart p) (hs : p.sum ≤ 40) {n : Nat} (hn : 1 ≤ n) : n * p.count (n : Int) ≤ 40 ∧ p.count (n : Int) < 64 := by
  have h1 := List.filter_append_perm (fun x => x == (n : Int)) p
  have h2 := perm_sum h1
  rw [List.sum_append, List.filter_beq, sum_rep] at h2
  have h3 := len_le_sum (p.filter (fun x => !(x == (n : Int)))) (fun y hy => h.mem y (List.mem_filter.1 hy).1)
  have h4 : ((p.count (n : Int) * n : Nat) : Int) ≤ 40 := by rw [Int.natCast_mul]; omega
  have h5 : p.count (n : Int) * n ≤ 40 := by omega
  refine ⟨by rw [Nat.mul_comm]; exact h5, ?_⟩
  have h6 : p.count (n : Int) * 1 ≤ p.count (n : Int) * n := Nat.mul_le_mul_left _ hn
  omega
/-! ### what is split -/
end Go.Proofs.YtpmkdihencepnaaGreat

/-
  Plain: a word of unlike letters read from behind has the tableau turned over.
-/
namespace Go.Proofs.YtpmkdihencepnaaGreat

theorem Kn.perm {a b : List Int} (h : Kn a b) : a.Perm b := by
  induction h with
  | refl w => exact .refl _
  | step u v k =>
    refine List.Perm.append_right _ (List.Perm.append_left _ ?_)
    cases k with
    | a x y z _ _ => exact List.Perm.cons _ (List.Perm.swap _ _ _)
    | b x y z _ _ => exact List.Perm.swap _ _ _
  | symm _ ih => exact ih.symm
  | trans _ _ ih1 ih2 => exact ih1.trans ih2
end Go.Proofs.YtpmkdihencepnaaGreat

/-
  Plain: KNUTH's steps of a word, as insert.Moves finds them.
-/
namespace Go.Proofs.YtpmkdihencepnaaGreat

/-- At three letters: do the last two change places? the first two? -/
def StHi (a b c : Int) : Prop := (b < a ∧ a ≤ c) ∨ (c < a ∧ a ≤ b)
def StLo (a b c : Int) : Prop := (a ≤ c ∧ c < b) ∨ (b ≤ c ∧ c < a)
instance (a b c : Int) : Decidable (StHi a b c) := by unfold StHi; infer_instance
instance (a b c : Int) : Decidable (StLo a b c) := by unfold StLo; infer_instance
def KStep (w v : List Int) : Prop := ∃ u t a b c, w = u ++ ([a, b, c] ++ t) ∧ ((StHi a b c ∧ v = u ++ ([a, c, b] ++ t)) ∨ (StLo a b c ∧ v = u ++ ([b, a, c] ++ t)))
theorem KStep.symm {w v : List Int} (h : KStep w v) : KStep v w := by
  obtain ⟨u, t, a, b, c, rfl, h⟩ := h
  rcases h with ⟨h, rfl⟩ | ⟨h, rfl⟩
  · exact ⟨u, t, a, c, b, rfl, .inl ⟨h.elim .inr .inl, rfl⟩⟩
  · exact ⟨u, t, b, a, c, rfl, .inr ⟨h.elim .inr .inl, rfl⟩⟩
theorem Kn.mid {a b : List Int} (u t : List Int) (h : Kn a b) : Kn (u ++ (a ++ t)) (u ++ (b ++ t)) := by
  have := h.ctx u t
  simpa [List.append_assoc] using this
theorem KStep.kn {w v : List Int} (h : KStep w v) : Kn w v := by
  obtain ⟨u, t, a, b, c, rfl, h⟩ := h
  rcases h with ⟨h, rfl⟩ | ⟨h, rfl⟩
  · rcases h with ⟨h1, h2⟩ | ⟨h1, h2⟩
    · exact (Kn.one (K1.a b a c h1 h2)).symm.mid u t
    · exact (Kn.one (K1.a c a b h1 h2)).mid u t
  · rcases h with ⟨h1, h2⟩ | ⟨h1, h2⟩
    · exact (Kn.one (K1.b a c b h1 h2)).mid u t
    · exact (Kn.one (K1.b b c a h1 h2)).symm.mid u t
theorem KStep.ne {w v : List Int} (h : KStep w v) : v ≠ w := by
  obtain ⟨u, t, a, b, c, rfl, h⟩ := h
  intro e
  rcases h with ⟨h, rfl⟩ | ⟨h, rfl⟩
  · have e2 := List.append_cancel_left e
    simp at e2
    unfold StHi at h
    omega
  · have e2 := List.append_cancel_left e
    simp at e2
    unfold StLo at h
    omega
/-- Two beside each other change places. -/
def swpK (w : List Int) (i : Nat) : List Int := (w.set i (w.getD (i + 1) 0)).set (i + 1) (w.getD i 0)
theorem swpK_cons (x : Int) (w : List Int) (i : Nat) : swpK (x :: w) (i + 1) = x :: swpK w i := by simp [swpK]
theorem swpK_app : ∀ (u w : List Int) (i : Nat), swpK (u ++ w) (u.length + i) = u ++ swpK w i
  | [], w, i => by simp
  | x :: u, w, i => by
    have e : (x :: u).length + i = u.length + i + 1 := by simp; omega
    rw [e, List.cons_append, swpK_cons, swpK_app u w i, List.cons_append]
theorem swpK_len (w : List Int) (i : Nat) : (swpK w i).length = w.length := by simp [swpK]
theorem three {w : List Int} {i : Nat} (h : i + 2 < w.length) : w = w.take i ++ ([w.getD i 0, w.getD (i + 1) 0, w.getD (i + 2) 0] ++ w.drop (i + 3)) := by
  have e1 := List.take_append_drop i w
  have e2 : w.drop i = w[i] :: w[i + 1] :: w[i + 2] :: w.drop (i + 3) := by
    rw [List.drop_eq_getElem_cons (by omega), List.drop_eq_getElem_cons (by omega), List.drop_eq_getElem_cons (by omega)]
  rw [e2] at e1
  rw [getD_get (by omega), getD_get (by omega), getD_get h]
  exact e1.symm
/-- What is found at i; up to i. -/
def mvAt (w : List Int) (i : Nat) : List (List Int) :=
  (if StHi (w.getD i 0) (w.getD (i + 1) 0) (w.getD (i + 2) 0) then [swpK w (i + 1)] else []) ++ (if StLo (w.getD i 0) (w.getD (i + 1) 0) (w.getD (i + 2) 0) then [swpK w i] else [])
def mvs (w : List Int) (n : Nat) : List (List Int) := (List.range n).flatMap (mvAt w)
theorem mvs_succ (w : List Int) (n : Nat) : mvs w (n + 1) = mvs w n ++ mvAt w n := by simp [mvs, List.range_succ]
theorem mvAt_len (w : List Int) (i : Nat) : (mvAt w i).length ≤ 2 := by
  unfold mvAt
  split <;> split <;> simp
theorem mvs_len (w : List Int) : ∀ n, (mvs w n).length ≤ 2 * n
  | 0 => by simp [mvs]
  | n + 1 => by
    rw [mvs_succ, List.length_append]
    have := mvs_len w n
    have := mvAt_len w n
    omega
theorem mem_mvAt {w v : List Int} {i : Nat} (h : i + 2 < w.length) (hv : v ∈ mvAt w i) : KStep w v := by
  have h3 := three h
  have hl : (w.take i).length = i := by rw [List.length_take]; omega
  obtain ⟨a, ha⟩ : ∃ a, a = w.getD i 0 := ⟨_, rfl⟩
  obtain ⟨b, hb⟩ : ∃ b, b = w.getD (i + 1) 0 := ⟨_, rfl⟩
  obtain ⟨c, hc⟩ : ∃ c, c = w.getD (i + 2) 0 := ⟨_, rfl⟩
  unfold mvAt at hv
  rw [← ha, ← hb, ← hc] at hv h3
  obtain ⟨u, hu⟩ : ∃ u, u = w.take i := ⟨_, rfl⟩
  obtain ⟨t, ht⟩ : ∃ t, t = w.drop (i + 3) := ⟨_, rfl⟩
  rw [← hu, ← ht] at h3
  rw [← hu] at hl
  have e1 : swpK w (i + 1) = u ++ ([a, c, b] ++ t) := by
    rw [h3, ← hl, swpK_app]; rfl
  have e0 : swpK w i = u ++ ([b, a, c] ++ t) := by
    have := swpK_app u ([a, b, c] ++ t) 0
    rw [← h3, Nat.add_zero, hl] at this
    rw [this]; rfl
  refine ⟨u, t, a, b, c, h3, ?_⟩
  rcases List.mem_append.1 hv with g | g
  · split at g
    · rw [List.mem_singleton] at g
      exact .inl ⟨by assumption, by rw [g, e1]⟩
    · cases g
  · split at g
    · rw [List.mem_singleton] at g
      exact .inr ⟨by assumption, by rw [g, e0]⟩
    · cases g
theorem step_mvAt {w v : List Int} (h : KStep w v) : ∃ i, i + 2 < w.length ∧ v ∈ mvAt w i := by
  obtain ⟨u, t, a, b, c, rfl, h⟩ := h
  refine ⟨u.length, by simp, ?_⟩
  have ga : (u ++ ([a, b, c] ++ t)).getD u.length 0 = a := by
    rw [List.getD_eq_getElem?_getD, List.getElem?_append_right (Nat.le_refl _)]; simp
  have gb : (u ++ ([a, b, c] ++ t)).getD (u.length + 1) 0 = b := by
    rw [List.getD_eq_getElem?_getD, List.getElem?_append_right (by omega), show u.length + 1 - u.length = 1 by omega]; rfl
  have gc : (u ++ ([a, b, c] ++ t)).getD (u.length + 2) 0 = c := by
    rw [List.getD_eq_getElem?_getD, List.getElem?_append_right (by omega), show u.length + 2 - u.length = 2 by omega]; rfl
  unfold mvAt
  rw [ga, gb, gc]
  rcases h with ⟨h, rfl⟩ | ⟨h, rfl⟩
  · rw [if_pos h]
    refine List.mem_append.2 (.inl ?_)
    rw [List.mem_singleton, swpK_app]; rfl
  · rw [if_pos h]
    refine List.mem_append.2 (.inr ?_)
    have := swpK_app u ([a, b, c] ++ t) 0
    rw [Nat.add_zero] at this
    rw [List.mem_singleton, this]; rfl
/-- All that is found: KNUTH's steps. -/
theorem mem_mvs {w v : List Int} : v ∈ mvs w (w.length - 2) ↔ KStep w v := by
  unfold mvs
  rw [List.mem_flatMap]
  constructor
  · rintro ⟨i, hi, hv⟩
    have := List.mem_range.1 hi
    exact mem_mvAt (by omega) hv
  · intro h
    obtain ⟨i, hi, hv⟩ := step_mvAt h
    exact ⟨i, List.mem_range.2 (by omega), hv⟩

/-! ### the order of words; equal ones beside each other -/
def lexC : List Int → List Int → Int
  | [], [] => 0
  | [], _ :: _ => -1
  | _ :: _, [] => 1
  | x :: s, y :: t => if x < y then -1 else if y < x then 1 else lexC s t
theorem lexC_self : ∀ s, lexC s s = 0
  | [] => rfl
  | x :: s => by simp [lexC, lexC_self s]
theorem lexC_zero : ∀ {s t}, lexC s t = 0 → s = t
  | [], [], _ => rfl
  | [], _ :: _, h => by simp [lexC] at h
  | _ :: _, [], h => by simp [lexC] at h
  | x :: s, y :: t, h => by
    unfold lexC at h
    split at h
    · simp at h
    · split at h
      · simp at h
      · rw [lexC_zero h, show x = y by omega]
theorem lexC_flip : ∀ s t, lexC t s = - lexC s t
  | [], [] => rfl
  | [], _ :: _ => rfl
  | _ :: _, [] => rfl
  | x :: s, y :: t => by
    unfold lexC
    by_cases h1 : x < y
    · rw [if_neg (by omega), if_pos h1, if_pos h1]; rfl
    · by_cases h2 : y < x
      · rw [if_pos h2, if_neg h1, if_pos h2]
      · rw [if_neg h2, if_neg h1, if_neg h1, if_neg h2]; exact lexC_flip s t
theorem lexC_trans : ∀ {s t u}, lexC s t < 0 → lexC t u < 0 → lexC s u < 0
  | [], [], _, h, _ => by simp [lexC] at h
  | [], _ :: _, [], _, h => by simp [lexC] at h
  | [], _ :: _, _ :: _, _, _ => by simp [lexC]
  | _ :: _, [], _, h, _ => by simp [lexC] at h
  | _ :: _, _ :: _, [], _, h => by simp [lexC] at h
  | x :: s, y :: t, z :: u, h1, h2 => by
    unfold lexC at h1 h2 ⊢
    split at h1
    · split at h2
      · rw [if_pos (by omega)]; omega
      · split at h2
        · omega
        · rw [if_pos (by omega)]; omega
    · split at h1
      · omega
      · split at h2
        · rw [if_pos (by omega)]; omega
        · split at h2
          · omega
          · rw [if_neg (by omega), if_neg (by omega)]
            exact lexC_trans h1 h2
theorem lexC_le_trans {s t u : List Int} (h1 : ¬ lexC t s < 0) (h2 : ¬ lexC u t < 0) : ¬ lexC u s < 0 := by
  intro h
  have f1 := lexC_flip s t
  have f2 := lexC_flip t u
  by_cases a : lexC s t = 0
  · obtain rfl := lexC_zero a
    exact h2 h
  · by_cases b : lexC t u = 0
    · obtain rfl := lexC_zero b
      exact h1 h
    · have := lexC_trans (s := s) (t := t) (u := u) (by omega) (by omega)
      have f3 := lexC_flip s u
      omega
end Go.Proofs.YtpmkdihencepnaaGreat
