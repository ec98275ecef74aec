/-
  fill.Word, whatever comes in: its rows, the last one first.
-/
import Derived.Test.YtpmkdihencepnaaMg11
import Derived.Test.YtpmkdihencepnaaMg14
import Derived.Test.YtpmkdihencepnaaMg17
import Derived.Test.YtpmkdihencepnaaMg19
namespace Go.Proofs.Ytpmkdihencepnaa
open Go.RowKit

def WordTo (T : List (List Int)) (xs : List Int) : Prop := (FillOk T ∧ xs = T.reverse.flatten) ∨ (¬ FillOk T ∧ xs = [])
theorem WordTo.fn {T : List (List Int)} {r s : List Int} (h : WordTo T r) (h' : WordTo T s) : r = s := by
  rcases h with ⟨a, rfl⟩ | ⟨a, rfl⟩ <;> rcases h' with ⟨c, rfl⟩ | ⟨c, rfl⟩
  · rfl
  · exact absurd a c
  · exact absurd c a
  · rfl
/-- So far: the rows from m on. -/
def wordL (T : List (List Int)) (m : Nat) : List Int := (T.drop m).reverse.flatten
theorem wordL_step {T : List (List Int)} {m : Nat} (h : m < T.length) : wordL T (m + 1) ++ T.getD m [] = wordL T m := by
  unfold wordL
  have e : T.drop m = T[m] :: T.drop (m + 1) := List.drop_eq_getElem_cons h
  rw [e, getD_get h, List.reverse_cons, List.flatten_append]
  simp
theorem wordL_len {T : List (List Int)} (h : ∀ i, (T.getD i []).length ≤ 40) : ∀ d m, m + d = T.length → (wordL T m).length ≤ 40 * d
  | 0, m, e => by simp [wordL, List.drop_eq_nil_of_le (show T.length ≤ m by omega)]
  | d + 1, m, e => by
    rw [← wordL_step (by omega), List.length_append]
    have := wordL_len h d (m + 1) (by omega)
    have := h m
    omega
set_option maxRecDepth 100000 in
set_option maxHeartbeats 2000000 in
theorem word_all (A : Option Addr) (cap : Nat) (T : List (List Int)) (w : World) (hT : T.length ≤ 9223372036854775807) (h : SR w w.heap.size A T) :
    Calls Try.prog 30 #[.slice A T.length cap] w fun e w' => ToldL (WordTo T) w.heap.size e w' ∧ Below w.heap.size w w' := by
  go_enter Try.func30, Try.ntmps30
  go_wp2_with (first | (go_at_call 35; refine (fcheck_any A cap T _ hT h).mono ?_) | fail)
  rintro e w1 ⟨⟨k, rfl, hk1, hk2⟩, rfl⟩
  by_cases hk0 : k = 0
  · have hok := hk1 hk0
    subst hk0
    have hT40 := hok.small.1
    have HR := Lib.hid hok.small.2
    have HOK := Lib.hid hok
    clear hk1 hk2 hok
    go_wp2
    go_loopw [5, 6] (fun ov iv wr => ∃ (m : Nat) (z : Int), m ≤ T.length ∧ iv = .int .i64 z ∧ z + 1 = (m : Int) ∧ wr.ownsRow w.heap.size 3 1 ov (wordL T m).length (ints (wordL T m)) ∧ Below w.heap.size w wr) (fun _ iv _ => (intOf iv + 1).toNat)
    case atStart => exact ⟨T.length, (T.length : Int) - 1, Nat.le_refl _, rfl, by omega, by simp [wordL, ints]; exact World.ownsRow_nil _ _ _ _, Below.refl _ _⟩
    case round =>
      obtain ⟨m, z, hm, rfl, hz, ho, hW⟩ := hrel
      have HO := Lib.hid ho
      have hsz := hW.size
      clear ho
      by_cases hz0 : 0 ≤ z
      · obtain ⟨i, rfl⟩ : ∃ i : Nat, z = i := ⟨z.toNat, by omega⟩
        have him : m = i + 1 := by omega
        subst him
        have di : decide ((0 : Int) ≤ (i : Int)) = true := decide_eq_true hz0
        have hit : i < T.length := by omega
        have hil : (i : Int) < (T.length : Int) := by omega
        have h2 := h.below hW
        obtain ⟨b, o, rfl, hb⟩ := h2.addr (by omega)
        obtain ⟨Ar, cr, hcl, hr, hrl⟩ := h2.at_ hit
        have hst := wordL_step hit
        have hl := wordL_len HR.out (T.length - (i + 1)) (i + 1) (by omega)
        have hr40 := HR.out i
        obtain ⟨R, hR⟩ : ∃ R, R = T.getD i [] := ⟨_, rfl⟩
        obtain ⟨L, hL⟩ : ∃ L, L = wordL T (i + 1) := ⟨_, rfl⟩
        have ho := HO.out
        rw [← hR] at hcl hr hst hr40
        rw [← hL] at hst hl ho
        have HO2 := Lib.hid ho
        have HST := Lib.hid hst
        have HRR := Lib.hid hr
        have hLl : L.length + R.length < 1000000 := by omega
        clear hR hL hst hr ho HO hrl h2 hl
        go_wp2_with (first | (at_builtin; refine wpList_app rfl (.tmp 19) (.tmp 23) rfl rfl HO2.out _ rfl HRR.out hLl hsz (fun v' w2 h3 h4 => ?_)) | fail)
        rw [HST.out] at h3
        have HO3 := Lib.hid h3
        have hW2 := hW.trans h4
        clear h3 h4 hLl
        go_wp2
        go_roundw
        case rel => exact ⟨i, (i : Int) - 1, by omega, by go_num, by omega, HO3.out, hW2⟩
        case measure => simp [intOf]
      · have di : decide ((0 : Int) ≤ z) = false := decide_eq_false hz0
        have hm0 : m = 0 := by omega
        have ho := HO.out
        rw [hm0] at ho
        have HF : Hid (WordTo T (wordL T 0)) := .inl ⟨HOK.out, by simp [wordL]⟩
        obtain ⟨Ao, co, rfl, -, hso⟩ := own_sliceV ho
        have HSO := Lib.hid hso
        obtain ⟨L, hL⟩ : ∃ L, L = wordL T 0 := ⟨_, rfl⟩
        rw [← hL] at HF HSO ⊢
        clear ho hso HO hm0 hL
        go_wp2
        go_ret2
        exact ⟨⟨L, Ao, co, 0, rfl, HSO.out, HF.out⟩, hW⟩
  · have dk : (k != 0) = true := by simpa using hk0
    have hno : Hid (WordTo T []) := .inr ⟨fun hh => hk0 (hk2 hh), rfl⟩
    clear hk1 hk2
    go_wp2
    go_ret2
    exact ⟨⟨[], none, 0, k, rfl, World.ownsRow_nil _ _ _ _, hno.out⟩, Below.refl _ _⟩
end Go.Proofs.Ytpmkdihencepnaa

/-
  Plain: a letter taken out of a tableau again; rows of two letters that go in one behind the other.
-/
namespace Go.Proofs.Ytpmkdihencepnaa

/-- The greatest letter of a row that is less than z makes room for z. -/
def pull (r : List Int) (z : Int) : List Int × Int := (r.set (r.countP (· < z) - 1) z, r.getD (r.countP (· < z) - 1) 0)
/-- The letter that made row i one longer, taken out. -/
def unb : List (List Int) → Nat → List (List Int) × Int
  | [], _ => ([], 0)
  | r :: t, 0 => (if r.length = 1 then [] else r.dropLast :: t, r.getD (r.length - 1) 0)
  | r :: t, i + 1 => ((pull r (unb t i).2).1 :: (unb t i).1, (pull r (unb t i).2).2)
theorem push_split : ∀ {r : List Int} {x z : Int}, (push1 r x).2 = some z → ∃ u v, r = u ++ z :: v ∧ (push1 r x).1 = u ++ x :: v ∧ (∀ y ∈ u, y ≤ x) ∧ x < z
  | [], x, z, h => by simp [push1] at h
  | a :: s, x, z, h => by
    by_cases c : x < a
    · rw [push1_lt c] at h ⊢
      obtain rfl : a = z := by simpa using h
      exact ⟨[], s, rfl, rfl, by simp, c⟩
    · rw [push1_ge (by omega)] at h ⊢
      obtain ⟨u, v, e1, e2, e3, e4⟩ := push_split h
      refine ⟨a :: u, v, by rw [e1]; rfl, by rw [e2]; rfl, fun y hy => ?_, e4⟩
      rcases List.mem_cons.1 hy with rfl | hy
      · omega
      · exact e3 y hy
theorem push_none : ∀ {r : List Int} {x : Int}, (push1 r x).2 = none → (push1 r x).1 = r ++ [x] ∧ ∀ y ∈ r, y ≤ x
  | [], x, _ => ⟨rfl, by simp⟩
  | a :: s, x, h => by
    by_cases c : x < a
    · rw [push1_lt c] at h; simp at h
    · rw [push1_ge (by omega)] at h ⊢
      obtain ⟨e1, e2⟩ := push_none h
      refine ⟨by rw [e1]; rfl, fun y hy => ?_⟩
      rcases List.mem_cons.1 hy with rfl | hy
      · omega
      · exact e2 y hy
theorem push_join {v : List Int} {x z : Int} (hz : x < z) : ∀ {u : List Int}, (∀ y ∈ u, y ≤ x) → push1 (u ++ z :: v) x = (u ++ x :: v, some z)
  | [], _ => push1_lt hz
  | a :: u, h => by
    show push1 (a :: (u ++ z :: v)) x = _
    rw [push1_ge (h a (by simp)), push_join hz (fun y hy => h y (List.mem_cons_of_mem _ hy))]; rfl
theorem pull_at {u v : List Int} {x z : Int} (hu : ∀ y ∈ u, y < z) (hx : x < z) (hv : ∀ y ∈ v, z ≤ y) : pull (u ++ x :: v) z = (u ++ z :: v, x) := by
  have e1 : u.countP (· < z) = u.length := List.countP_eq_length.2 (fun y hy => by simpa using hu y hy)
  have e2 : v.countP (· < z) = 0 := List.countP_eq_zero.2 (fun y hy => by have := hv y hy; simp; omega)
  have e : (u ++ x :: v).countP (· < z) - 1 = u.length := by
    rw [List.countP_append, List.countP_cons_of_pos (by simpa using hx), e1, e2]; omega
  unfold pull
  rw [e]
  refine Prod.ext ?_ ?_
  · simp
  · simp
theorem pull_split : ∀ {r : List Int} {z : Int}, Up r → (∃ y ∈ r, y < z) → ∃ u x v, r = u ++ x :: v ∧ (∀ y ∈ u, y ≤ x) ∧ x < z ∧ ∀ y ∈ v, z ≤ y
  | [], z, _, h => by obtain ⟨y, hy, _⟩ := h; simp at hy
  | a :: s, z, hup, h => by
    by_cases c : ∃ y ∈ s, y < z
    · obtain ⟨u, x, v, e1, e2, e3, e4⟩ := pull_split hup.tail c
      refine ⟨a :: u, x, v, by rw [e1]; rfl, fun y hy => ?_, e3, e4⟩
      rcases List.mem_cons.1 hy with rfl | hy
      · exact hup.head x (by rw [e1]; simp)
      · exact e2 y hy
    · obtain ⟨y, hy, hlt⟩ := h
      refine ⟨[], a, s, rfl, by simp, ?_, fun y hy => ?_⟩
      · rcases List.mem_cons.1 hy with rfl | hy
        · exact hlt
        · exact absurd ⟨y, hy, hlt⟩ c
      · apply Int.not_lt.1
        intro h2
        exact c ⟨y, hy, h2⟩
/-- What has gone in comes out. -/
theorem unb_ins1 : ∀ {T : List (List Int)} {x : Int}, Tab T → unb (ins1 T x) (irow T x) = (T, x)
  | [], x, _ => by simp [ins1, irow, unb]
  | r :: t, x, h => by
    obtain ⟨h1, h2, h3, h4⟩ := h
    simp only [ins1, irow]
    cases e : (push1 r x).2 with
    | none =>
      obtain ⟨e1, e2⟩ := push_none e
      simp only [unb]
      rw [e1]
      have hl : 0 < r.length := List.length_pos_iff.2 h1
      rw [if_neg (by simp; omega)]
      refine Prod.ext ?_ ?_
      · simp
      · simp
    | some z =>
      have ih := unb_ins1 (x := z) h4
      simp only [unb]
      rw [ih]
      obtain ⟨u, v, e1, e2, e3, e4⟩ := push_split e
      have hv : ∀ y ∈ v, z ≤ y := fun y hy => by
        rw [e1] at h2
        exact (List.pairwise_cons.1 (List.pairwise_append.1 h2).2.1).1 y hy
      rw [e2, pull_at (fun y hy => by have := e3 y hy; omega) e4 hv, e1]
theorem push_pos : ∀ {s : List Int} {z : Int}, Up s → ∃ k : Nat, (push1 s z).1[k]? = some z ∧ ∀ (j : Nat) b, k ≤ j → s[j]? = some b → z < b
  | [], z, _ => ⟨0, rfl, fun j b _ h => by simp at h⟩
  | a :: s, z, h => by
    by_cases c : z < a
    · rw [push1_lt c]
      refine ⟨0, rfl, fun j b _ hb => ?_⟩
      cases j with
      | zero => obtain rfl : a = b := by simpa using hb
                exact c
      | succ j => have := h.head b (List.mem_of_getElem? (by simpa using hb)); omega
    · rw [push1_ge (by omega)]
      obtain ⟨k, h1, h2⟩ := push_pos (z := z) h.tail
      refine ⟨k + 1, by simpa using h1, fun j b hj hb => ?_⟩
      cases j with
      | zero => omega
      | succ j => exact h2 j b (by omega) (by simpa using hb)
theorem push_low : ∀ {s : List Int} {z : Int} {j : Nat} {b : Int}, s[j]? = some b → ∃ b', (push1 s z).1[j]? = some b' ∧ b' ≤ b
  | [], z, j, b, h => by simp at h
  | a :: s, z, j, b, h => by
    by_cases c : z < a
    · rw [push1_lt c]
      cases j with
      | zero => obtain rfl : a = b := by simpa using h
                exact ⟨z, rfl, by omega⟩
      | succ j => exact ⟨b, by simpa using h, Int.le_refl _⟩
    · rw [push1_ge (by omega)]
      cases j with
      | zero => exact ⟨b, by simpa using h, Int.le_refl _⟩
      | succ j => exact push_low (s := s) (j := j) (by simpa using h)
/-- What is taken out goes in again. -/
theorem ins1_unb : ∀ {T : List (List Int)} {i : Nat}, Tab T → i < T.length → (T.getD (i + 1) []).length < (T.getD i []).length → Tab (unb T i).1 ∧ ins1 (unb T i).1 (unb T i).2 = T ∧ irow (unb T i).1 (unb T i).2 = i
  | [], i, _, h, _ => by simp at h
  | r :: t, 0, h, _, hc => by
    obtain ⟨h1, h2, h3, h4⟩ := h
    have hhd : ((r :: t).getD 1 []) = t.headD [] := by cases t <;> rfl
    rw [hhd] at hc
    have hr : (r :: t).getD 0 [] = r := rfl
    rw [hr] at hc
    obtain ⟨d, x, rfl⟩ : ∃ d x, r = d ++ [x] := ⟨r.dropLast, r.getLast h1, (List.dropLast_concat_getLast h1).symm⟩
    have hx : ∀ y ∈ d, y ≤ x := fun y hy => (List.pairwise_append.1 h2).2.2 y hy x (by simp)
    have e2 : (unb ((d ++ [x]) :: t) 0).2 = x := by simp [unb]
    rw [e2]
    by_cases hd : d = []
    · subst hd
      have ht : t = [] := by
        cases t with
        | nil => rfl
        | cons s t' =>
          have := h4.1
          simp at hc
          exact absurd hc this
      subst ht
      exact ⟨by simp [unb, Tab], by simp [unb, ins1], by simp [unb, irow]⟩
    · have hl : 0 < d.length := List.length_pos_iff.2 hd
      have e1 : (unb ((d ++ [x]) :: t) 0).1 = d :: t := by
        simp only [unb]
        rw [if_neg (by simp; omega)]; simp
      rw [e1]
      have hp := push1_end hx
      refine ⟨⟨hd, (List.pairwise_append.1 h2).1, dom_of (fun j b hb => ?_), h4⟩, by simp [ins1, hp], by simp [irow, hp]⟩
      obtain ⟨a, ha, hab⟩ := dom_at h3 hb
      have hj := (List.getElem?_eq_some_iff.1 hb).1
      refine ⟨a, ?_, hab⟩
      rw [List.length_append] at hc
      rw [List.getElem?_append_left (by simp only [List.length_cons, List.length_nil] at hc; omega)] at ha
      exact ha
  | r :: t, i + 1, h, hi, hc => by
    obtain ⟨h1, h2, h3, h4⟩ := h
    obtain ⟨g1, g2, g3⟩ := ins1_unb (T := t) (i := i) h4 (by simpa using hi) hc
    obtain ⟨t', ht'⟩ : ∃ t', t' = (unb t i).1 := ⟨_, rfl⟩
    obtain ⟨z, hz⟩ : ∃ z, z = (unb t i).2 := ⟨_, rfl⟩
    simp only [unb]
    rw [← ht'] at g1 g2 g3 ⊢
    rw [← hz] at g2 g3 ⊢
    have hhd : t.headD [] = (push1 (t'.headD []) z).1 := by rw [← g2]; exact ins1_headD t' z
    have hup' : Up (t'.headD []) := by
      cases t' with
      | nil => exact List.Pairwise.nil
      | cons s _ => exact g1.2.1
    obtain ⟨k, hk1, hk2⟩ := push_pos (z := z) hup'
    rw [← hhd] at hk1
    obtain ⟨a, ha, haz⟩ := dom_at h3 hk1
    obtain ⟨u, x, v, e1, e2, e3, e4⟩ := pull_split (z := z) h2 ⟨a, List.mem_of_getElem? ha, haz⟩
    have hpl := pull_at (v := v) (z := z) (fun y hy => by have := e2 y hy; omega) e3 e4
    rw [← e1] at hpl
    rw [hpl]
    have hpj := push_join (v := v) e3 e2
    have hku : k ≤ u.length := by
      apply Classical.byContradiction
      intro hn
      rw [e1, List.getElem?_append_right (by omega)] at ha
      obtain ⟨m, hm⟩ : ∃ m, k - u.length = m + 1 := ⟨k - u.length - 1, by omega⟩
      rw [hm, List.getElem?_cons_succ] at ha
      have := e4 a (List.mem_of_getElem? ha)
      omega
    refine ⟨⟨by simp, ?_, dom_of (fun j b hb => ?_), g1⟩, ?_, ?_⟩
    · rw [e1] at h2
      obtain ⟨p1, p2, p3⟩ := List.pairwise_append.1 h2
      refine List.pairwise_append.2 ⟨p1, List.pairwise_cons.2 ⟨e4, (List.pairwise_cons.1 p2).2⟩, fun y hy y' hy' => ?_⟩
      rcases List.mem_cons.1 hy' with rfl | hy'
      · have := e2 y hy; omega
      · exact p3 y hy y' (List.mem_cons_of_mem _ hy')
    · by_cases e : j = u.length
      · refine ⟨z, by rw [e]; simp, hk2 j b (by omega) hb⟩
      · obtain ⟨b', hb', hle⟩ := push_low (z := z) hb
        rw [← hhd] at hb'
        obtain ⟨a2, ha2, hlt⟩ := dom_at h3 hb'
        refine ⟨a2, ?_, by omega⟩
        rw [e1] at ha2
        by_cases c : j < u.length
        · rw [List.getElem?_append_left c] at ha2 ⊢; exact ha2
        · rw [List.getElem?_append_right (by omega)] at ha2 ⊢
          obtain ⟨m, hm⟩ : ∃ m, j - u.length = m + 1 := ⟨j - u.length - 1, by omega⟩
          rw [hm, List.getElem?_cons_succ] at ha2 ⊢; exact ha2
    · simp only [ins1]; rw [hpj]; simp only []; rw [g2, e1]
    · simp only [irow]; rw [hpj]; simp only []; rw [g3]
/-- A letter not less goes in further right, in a row not lower. -/
theorem bump_right : ∀ {T : List (List Int)} {x y : Int}, (∀ r ∈ T, Up r) → x ≤ y → irow (ins1 T x) y ≤ irow T x
  | [], x, y, _, h => by simp only [ins1, irow, push1]; rw [if_neg (by omega)]; exact Nat.le_refl _
  | r :: t, x, y, hT, h => by
    obtain ⟨p1, p2⟩ := push_right (hT r (by simp)) h
    simp only [ins1]
    cases e : (push1 r x).2 with
    | none =>
      simp only [irow]
      rw [p1 e]; exact Nat.zero_le _
    | some z =>
      have ih := fun q (hq : z ≤ q) => bump_right (T := t) (x := z) (y := q) (fun r hr => hT r (List.mem_cons_of_mem _ hr)) hq
      simp only [irow, e]
      cases e2 : (push1 (push1 r x).1 y).2 with
      | none => exact Nat.zero_le _
      | some q => simp only []; have := ih q (p2 z q e e2); omega
end Go.Proofs.Ytpmkdihencepnaa

/-
  Plain: ROBINSON, SCHENSTED, KNUTH: pairs into two tableaux, and out of them again.
-/
namespace Go.Proofs.Ytpmkdihencepnaa

def lastOf (r : List Int) : Int := r.getD (r.length - 1) 0
theorem last_snoc (r : List Int) (c : Int) : lastOf (r ++ [c]) = c := by simp [lastOf]
theorem last_mem {r : List Int} (h : r ≠ []) : lastOf r ∈ r := by
  have := List.length_pos_iff.2 h
  unfold lastOf
  rw [getD_get (by omega)]
  exact List.getElem_mem _
theorem last_max {r : List Int} (h : Up r) {x : Int} (hx : x ∈ r) : x ≤ lastOf r := by
  obtain ⟨i, hi, rfl⟩ := List.getElem_of_mem hx
  unfold lastOf
  rw [getD_get (by omega)]
  by_cases e : i = r.length - 1
  · simp only [← e]; exact Int.le_refl _
  · exact List.pairwise_iff_getElem.1 h i (r.length - 1) hi (by omega) (by omega)
/-- The row with the greatest letter, of several the first. -/
structure Sel (q : List (List Int)) (row : Nat) (most : Int) : Prop where
  inn : row < q.length
  here : lastOf (q.getD row []) = most
  top : ∀ a, a < q.length → lastOf (q.getD a []) ≤ most
  first : ∀ a, a < row → lastOf (q.getD a []) < most
theorem Sel.uniq {q : List (List Int)} {r r' : Nat} {m m' : Int} (h : Sel q r m) (h' : Sel q r' m') : r = r' ∧ m = m' := by
  have e1 := h.top r' h'.inn
  have e2 := h'.top r h.inn
  rw [h'.here] at e1
  rw [h.here] at e2
  have em : m = m' := by omega
  subst em
  refine ⟨?_, rfl⟩
  apply Classical.byContradiction
  intro hn
  by_cases c : r < r'
  · have := h'.first r c; rw [h.here] at this; omega
  · have := h.first r' (by omega); rw [h'.here] at this; omega
def popRow (q : List (List Int)) (row : Nat) : List (List Int) := if (q.getD row []).length = 1 then q.take row else q.set row (q.getD row []).dropLast
/-- Pairs taken out, the greatest first. -/
inductive Und : List (List Int) → List (List Int) → List (Int × Int) → Prop
  | nil (p : List (List Int)) : Und p [] []
  | step {p q : List (List Int)} {row : Nat} {most : Int} {m : List (Int × Int)} : Sel q row most → Und (unb p row).1 (popRow q row) m → Und p q (m ++ [(most, (unb p row).2)])
theorem mem_getD {T : List (List Int)} {a : Nat} {x : Int} (h : x ∈ T.getD a []) : a < T.length ∧ T.getD a [] ∈ T := by
  have : a < T.length := by
    apply Classical.byContradiction
    intro hn
    rw [getD_far (by omega)] at h
    simp at h
  exact ⟨this, by rw [getD_get this]; exact List.getElem_mem _⟩
theorem Sel.all {q : List (List Int)} {row : Nat} {most : Int} (h : Sel q row most) (ht : Tab q) {a : Nat} {x : Int} (hx : x ∈ q.getD a []) : x ≤ most := by
  have h1 := last_max (ht.upD a) hx
  have h2 := h.top a (mem_getD hx).1
  omega
theorem Sel.corner {q : List (List Int)} {row : Nat} {most : Int} (h : Sel q row most) (ht : Tab q) : (q.getD (row + 1) []).length < (q.getD row []).length := by
  have hne : q.getD row [] ≠ [] := ht.ne _ (by rw [getD_get h.inn]; exact List.getElem_mem _)
  have hl := List.length_pos_iff.2 hne
  apply Classical.byContradiction
  intro hn
  have hb : (q.getD (row + 1) [])[(q.getD row []).length - 1]? = some ((q.getD (row + 1) [])[(q.getD row []).length - 1]'(by omega)) := List.getElem?_eq_getElem (by omega)
  obtain ⟨a, ha, hab⟩ := dom_at (ht.dom row) hb
  have h1 := h.all ht (List.mem_of_getElem? hb)
  have h2 : a = most := by
    rw [← h.here]
    unfold lastOf
    rw [List.getD_eq_getElem?_getD, ha]; rfl
  omega
theorem pop_getD {q : List (List Int)} {row : Nat} (hi : row < q.length) (hne : ∀ r ∈ q, r ≠ []) (hc : (q.getD (row + 1) []).length < (q.getD row []).length) (a : Nat) : (popRow q row).getD a [] = if a = row then (q.getD row []).dropLast else q.getD a [] := by
  unfold popRow
  by_cases e1 : (q.getD row []).length = 1
  · rw [if_pos e1]
    have hlast : row + 1 = q.length := by
      apply Classical.byContradiction
      intro hn
      have : row + 1 < q.length := by omega
      have h2 := hne (q.getD (row + 1) []) (by rw [getD_get this]; exact List.getElem_mem _)
      exact h2 (List.eq_nil_of_length_eq_zero (by omega))
    by_cases e : a = row
    · rw [if_pos e, getD_far (by rw [List.length_take]; omega)]
      exact (List.eq_nil_of_length_eq_zero (by rw [List.length_dropLast]; omega)).symm
    · rw [if_neg e]
      by_cases c : a < row
      · rw [List.getD_eq_getElem?_getD, List.getElem?_take_of_lt c, ← List.getD_eq_getElem?_getD]
      · rw [getD_far (by rw [List.length_take]; omega), getD_far (by omega)]
  · rw [if_neg e1]
    by_cases e : a = row
    · rw [if_pos e, e, List.getD_eq_getElem?_getD, List.getElem?_set_self hi]; rfl
    · rw [if_neg e, List.getD_eq_getElem?_getD, List.getElem?_set_ne (Ne.symm e), ← List.getD_eq_getElem?_getD]
theorem pop_ne {q : List (List Int)} {row : Nat} (hi : row < q.length) (hne : ∀ r ∈ q, r ≠ []) : ∀ r ∈ popRow q row, r ≠ [] := fun r hr => by
  unfold popRow at hr
  by_cases e1 : (q.getD row []).length = 1
  · rw [if_pos e1] at hr; exact hne r (List.mem_of_mem_take hr)
  · rw [if_neg e1] at hr
    rcases List.mem_or_eq_of_mem_set hr with h | h
    · exact hne r h
    · have h2 : 0 < (q.getD row []).length := List.length_pos_iff.2 (hne _ (by rw [getD_get hi]; exact List.getElem_mem _))
      rw [h]
      intro e
      have h3 : (q.getD row []).length - 1 = 0 := by rw [← List.length_dropLast, e]; rfl
      omega
theorem pop_len {q : List (List Int)} {row : Nat} (hi : row < q.length) : row ≤ (popRow q row).length := by
  unfold popRow
  by_cases e1 : (q.getD row []).length = 1
  · rw [if_pos e1, List.length_take]; omega
  · rw [if_neg e1, List.length_set]; omega
theorem drop_last (r : List Int) (h : r ≠ []) : r.dropLast ++ [lastOf r] = r := by
  conv => rhs; rw [← List.dropLast_concat_getLast h]
  congr 2
  have := List.length_pos_iff.2 h
  unfold lastOf
  rw [getD_get (by omega), List.getLast_eq_getElem]
theorem pop_qadd {q : List (List Int)} {row : Nat} {most : Int} (h : Sel q row most) (ht : Tab q) : qadd (popRow q row) row most = q := by
  refine rows_ext (qadd_ne (pop_ne h.inn ht.ne)) ht.ne (fun s => ?_)
  rw [qadd_getD (pop_len h.inn), pop_getD h.inn ht.ne (h.corner ht), pop_getD h.inn ht.ne (h.corner ht), if_pos rfl]
  by_cases e : s = row
  · rw [if_pos e, ← h.here, e]
    exact drop_last _ (ht.ne _ (by rw [getD_get h.inn]; exact List.getElem_mem _))
  · rw [if_neg e, if_neg e]
theorem pop_tab {q : List (List Int)} {row : Nat} {most : Int} (h : Sel q row most) (ht : Tab q) : Tab (popRow q row) := by
  have hg := pop_getD h.inn ht.ne (h.corner ht)
  have hc := h.corner ht
  refine tab_of (fun r hr => ⟨pop_ne h.inn ht.ne r hr, ?_⟩) (fun j => ?_)
  · obtain ⟨a, ha, rfl⟩ := List.getElem_of_mem hr
    rw [← getD_get (d := []) ha, hg]
    by_cases e : a = row
    · rw [if_pos e]; exact List.Pairwise.sublist (List.dropLast_sublist _) (ht.upD row)
    · rw [if_neg e]; exact ht.upD a
  · rw [hg, hg]
    have hd := ht.dom j
    by_cases e : j = row
    · rw [if_pos e, if_neg (by omega)]
      rw [e] at hd ⊢
      refine dom_of (fun i b hb => ?_)
      obtain ⟨a, ha, hab⟩ := dom_at hd hb
      have hi := (List.getElem?_eq_some_iff.1 hb).1
      refine ⟨a, ?_, hab⟩
      rw [List.getElem?_dropLast, if_pos (by omega)]; exact ha
    · rw [if_neg e]
      by_cases e2 : j + 1 = row
      · rw [if_pos e2]
        rw [e2] at hd
        refine dom_of (fun i b hb => ?_)
        rw [List.getElem?_dropLast] at hb
        split at hb
        · exact dom_at hd hb
        · simp at hb
      · rw [if_neg e2]; exact hd
/-- Rows alike long. -/
def SameSh (p q : List (List Int)) : Prop := ∀ a, (p.getD a []).length = (q.getD a []).length
theorem ins_len {T : List (List Int)} {x : Int} (a : Nat) : ((ins1 T x).getD a []).length = (T.getD a []).length + if a = irow T x then 1 else 0 := by
  obtain ⟨h1, h2⟩ := sh_ins1 T x
  rw [← sh_getD, h2, ← sh_getD T]
  unfold shadd
  rw [sh_length]
  by_cases e : irow T x = T.length
  · rw [if_pos e]
    by_cases e2 : a = irow T x
    · rw [if_pos e2, e2, e]
      rw [List.getD_eq_getElem?_getD, List.getElem?_append_right (by rw [sh_length]; omega), sh_length, getD_far (by rw [sh_length]; omega)]; simp
    · rw [if_neg e2]
      by_cases c : a < T.length
      · rw [List.getD_eq_getElem?_getD, List.getElem?_append_left (by rw [sh_length]; exact c), ← List.getD_eq_getElem?_getD]; rfl
      · rw [getD_far (by simp [sh_length]; omega), getD_far (by rw [sh_length]; omega)]
  · rw [if_neg e]
    by_cases e2 : a = irow T x
    · rw [if_pos e2, e2, List.getD_eq_getElem?_getD, List.getElem?_set_self (by rw [sh_length]; omega)]; rfl
    · rw [if_neg e2, List.getD_eq_getElem?_getD, List.getElem?_set_ne (Ne.symm e2), ← List.getD_eq_getElem?_getD]; rfl
theorem SameSh.len {p q : List (List Int)} (h : SameSh p q) (hp : ∀ r ∈ p, r ≠ []) (hq : ∀ r ∈ q, r ≠ []) : p.length = q.length := by
  have key : ∀ {A B : List (List Int)}, (∀ r ∈ A, r ≠ []) → SameSh A B → A.length ≤ B.length := fun {A B} hA hh => by
    apply Classical.byContradiction
    intro hn
    have h1 := hh B.length
    rw [getD_far (xs := B) (Nat.le_refl _), getD_get (show B.length < A.length by omega)] at h1
    exact hA _ (List.getElem_mem _) (List.eq_nil_of_length_eq_zero (by simpa using h1))
  exact Nat.le_antisymm (key hp h) (key hq (fun a => (h a).symm))
/-- What one step out does. -/
theorem out_step {p q : List (List Int)} {row : Nat} {most : Int} (hp : Tab p) (hq : Tab q) (hs : SameSh p q) (h : Sel q row most) : Tab (unb p row).1 ∧ ins1 (unb p row).1 (unb p row).2 = p ∧ irow (unb p row).1 (unb p row).2 = row ∧ SameSh (unb p row).1 (popRow q row) := by
  have hlen := hs.len hp.ne hq.ne
  have hc := h.corner hq
  rw [← hs, ← hs] at hc
  obtain ⟨h1, h2, h3⟩ := ins1_unb hp (by have := h.inn; omega) hc
  refine ⟨h1, h2, h3, fun a => ?_⟩
  have e1 := ins_len (T := (unb p row).1) (x := (unb p row).2) a
  rw [h2, h3, hs] at e1
  rw [pop_getD h.inn hq.ne (h.corner hq)]
  by_cases e : a = row
  · subst e
    rw [if_pos rfl] at e1 ⊢
    rw [List.length_dropLast]; omega
  · rw [if_neg e] at e1 ⊢
    omega
def LexLe (s t : Int × Int) : Prop := s.1 < t.1 ∨ (s.1 = t.1 ∧ s.2 ≤ t.2)
def Sorted (m : List (Int × Int)) : Prop := ∀ i, 0 < i → i < m.length → LexLe (m.getD (i - 1) (0, 0)) (m.getD i (0, 0))
theorem Sorted.snoc {m : List (Int × Int)} {s : Int × Int} (h : Sorted m) (hl : ∀ m' t, m = m' ++ [t] → LexLe t s) : Sorted (m ++ [s]) := fun i h0 hi => by
  rw [List.length_append, List.length_singleton] at hi
  have e1 : (m ++ [s]).getD (i - 1) (0, 0) = m.getD (i - 1) (0, 0) := by rw [List.getD_eq_getElem?_getD, List.getElem?_append_left (by omega), ← List.getD_eq_getElem?_getD]
  rw [e1]
  by_cases e : i = m.length
  · have e2 : (m ++ [s]).getD i (0, 0) = s := by rw [e]; simp
    rw [e2]
    have hne : m ≠ [] := fun e' => by rw [e'] at e; simp at e; omega
    have h3 := (List.dropLast_concat_getLast hne).symm
    have h4 := hl _ _ h3
    rw [getD_get (by omega)]
    have h5 : m.getLast hne = m[i - 1]'(by omega) := by rw [List.getLast_eq_getElem]; simp only [e]
    rwa [h5] at h4
  · have e2 : (m ++ [s]).getD i (0, 0) = m.getD i (0, 0) := by rw [List.getD_eq_getElem?_getD, List.getElem?_append_left (by omega), ← List.getD_eq_getElem?_getD]
    rw [e2]
    exact h i h0 (by omega)
def wB (m : List (Int × Int)) : List Int := m.map (·.2)
def wA (m : List (Int × Int)) : List Int := m.map (·.1)
theorem rec_app (xs cs xs' cs' : List Int) : ∀ i, i ≤ xs.length → i ≤ cs.length → recQ (xs ++ xs') (cs ++ cs') i = recQ xs cs i
  | 0, _, _ => rfl
  | i + 1, h, h2 => by
    simp only [recQ]
    rw [rec_app xs cs xs' cs' i (by omega) (by omega), List.take_append_of_le_length (by omega)]
    rw [List.getD_eq_getElem?_getD, List.getElem?_append_left (by omega), ← List.getD_eq_getElem?_getD, List.getD_eq_getElem?_getD (l := cs ++ cs'), List.getElem?_append_left (by omega), ← List.getD_eq_getElem?_getD]
theorem rec_snoc (m : List (Int × Int)) (s : Int × Int) : recQ (wB (m ++ [s])) (wA (m ++ [s])) (m.length + 1) = qadd (recQ (wB m) (wA m) m.length) (irow (insW [] (wB m)) s.2) s.1 := by
  have e1 : wB (m ++ [s]) = wB m ++ [s.2] := by simp [wB]
  have e2 : wA (m ++ [s]) = wA m ++ [s.1] := by simp [wA]
  have l1 : (wB m).length = m.length := by simp [wB]
  have l2 : (wA m).length = m.length := by simp [wA]
  rw [e1, e2]
  simp only [recQ]
  rw [rec_app _ _ _ _ m.length (by omega) (by omega), List.take_append_of_le_length (by omega), List.take_of_length_le (by omega)]
  congr 1
  · rw [← l1]; simp
  · rw [← l2]; simp
theorem ins_snoc (m : List (Int × Int)) (s : Int × Int) : insW [] (wB (m ++ [s])) = ins1 (insW [] (wB m)) s.2 := by
  have e1 : wB (m ++ [s]) = wB m ++ [s.2] := by simp [wB]
  rw [e1, insW_append]; rfl
end Go.Proofs.Ytpmkdihencepnaa

/-
  Plain: what pairs in order make comes back as they were.
-/
namespace Go.Proofs.Ytpmkdihencepnaa

theorem pop_of_qadd {Q : List (List Int)} {r : Nat} {c : Int} (hr : r ≤ Q.length) (hne : ∀ s ∈ Q, s ≠ []) : popRow (qadd Q r c) r = Q := by
  have hg := qadd_getD (Q := Q) (r := r) (s := r) (c := c) hr
  rw [if_pos rfl] at hg
  unfold popRow
  rw [hg]
  unfold qadd
  by_cases e : r = Q.length
  · have e0 : Q.getD r [] = [] := getD_far (by omega)
    rw [if_pos e, e0, if_pos (by rfl), List.take_append_of_le_length (by omega), List.take_of_length_le (by omega)]
  · have hr2 : r < Q.length := by omega
    have hl : 0 < (Q.getD r []).length := List.length_pos_iff.2 (hne _ (by rw [getD_get hr2]; exact List.getElem_mem _))
    rw [if_neg e, if_neg (by rw [List.length_append, List.length_singleton]; omega), List.set_set, List.dropLast_concat, getD_get hr2, List.set_getElem_self]
/-- Of the first i pairs. -/
structure Bk (m : List (Int × Int)) (i : Nat) : Prop where
  tab : Tab (recQ (wB (m.take i)) (wA (m.take i)) (m.take i).length)
  same : SameSh (insW [] (wB (m.take i))) (recQ (wB (m.take i)) (wA (m.take i)) (m.take i).length)
  und : Und (insW [] (wB (m.take i))) (recQ (wB (m.take i)) (wA (m.take i)) (m.take i).length) (m.take i)
  le : ∀ a x, x ∈ (recQ (wB (m.take i)) (wA (m.take i)) (m.take i).length).getD a [] → 0 < i ∧ x ≤ (m.getD (i - 1) (0, 0)).1
  low : 0 < i → ∀ a, a < (recQ (wB (m.take i)) (wA (m.take i)) (m.take i).length).length → lastOf ((recQ (wB (m.take i)) (wA (m.take i)) (m.take i).length).getD a []) = (m.getD (i - 1) (0, 0)).1 → irow (insW [] (wB (m.take (i - 1)))) (m.getD (i - 1) (0, 0)).2 ≤ a
  flat : (recQ (wB (m.take i)) (wA (m.take i)) (m.take i).length).flatten.Perm (wA (m.take i))
theorem Bk.zero (m : List (Int × Int)) : Bk m 0 := by
  have e : m.take 0 = [] := rfl
  refine ⟨?_, ?_, ?_, fun a x hx => ?_, fun h => by omega, ?_⟩
  · rw [e]; exact trivial
  · rw [e]; exact fun a => rfl
  · rw [e]; exact .nil _
  · rw [e] at hx; simp [wB, wA, recQ] at hx
  · rw [e]; exact .refl _
theorem Bk.step {m : List (Int × Int)} (hs : Sorted m) {i : Nat} (hi : i < m.length) (h : Bk m i) : Bk m (i + 1) := by
  obtain ⟨s, hsd⟩ : ∃ s, s = m.getD i (0, 0) := ⟨_, rfl⟩
  have hM : m.take (i + 1) = m.take i ++ [s] := by rw [hsd, List.take_add_one, List.getElem?_eq_getElem hi, getD_get hi]; rfl
  have hP : insW [] (wB (m.take (i + 1))) = ins1 (insW [] (wB (m.take i))) s.2 := by rw [hM, ins_snoc]
  have hQ : recQ (wB (m.take (i + 1))) (wA (m.take (i + 1))) (m.take (i + 1)).length = qadd (recQ (wB (m.take i)) (wA (m.take i)) (m.take i).length) (irow (insW [] (wB (m.take i))) s.2) s.1 := by
    rw [hM, List.length_append, List.length_singleton, rec_snoc]
  have hPt : Tab (insW [] (wB (m.take i))) := insW_tab _ trivial
  obtain ⟨h1, h2, h3, h4, h5, h6⟩ := h
  obtain ⟨P, hPd⟩ : ∃ P, P = insW [] (wB (m.take i)) := ⟨_, rfl⟩
  obtain ⟨Q, hQd⟩ : ∃ Q, Q = recQ (wB (m.take i)) (wA (m.take i)) (m.take i).length := ⟨_, rfl⟩
  have hi1 : i + 1 - 1 = i := by omega
  have hQe := hQ
  have hPe := hP
  rw [← hPd] at h2 h3 hPt hPe hQe
  rw [← hQd] at h1 h2 h3 h4 h5 h6 hQe
  have hlen := h2.len hPt.ne h1.ne
  obtain ⟨r, hr⟩ : ∃ r, r = irow P s.2 := ⟨_, rfl⟩
  have hrle : r ≤ Q.length := by have := (sh_ins1 P s.2).1; omega
  rw [← hr] at hQe
  -- all of it is no more than the new letter
  have hb : ∀ a x, x ∈ Q.getD a [] → x ≤ s.1 := fun a x hx => by
    obtain ⟨g1, g2⟩ := h4 a x hx
    have := hs i g1 hi
    rw [← hsd] at this
    rcases this with g | g <;> omega
  have hrow : ∀ a, a < Q.length → Q.getD a [] ≠ [] := fun a ha => h1.ne _ (by rw [getD_get ha]; exact List.getElem_mem _)
  have hfirst : ∀ a, a < Q.length → lastOf (Q.getD a []) = s.1 → r ≤ a := fun a ha e => by
    have hm := last_mem (hrow a ha)
    obtain ⟨g1, g2⟩ := h4 a _ hm
    have hlex := hs i g1 hi
    rw [← hsd] at hlex
    have ec : (m.getD (i - 1) (0, 0)).1 = s.1 := by rcases hlex with g | g <;> omega
    have hx : (m.getD (i - 1) (0, 0)).2 ≤ s.2 := by rcases hlex with g | g <;> omega
    have g3 := h5 g1 a ha (by rw [ec]; exact e)
    have hM0 : m.take i = m.take (i - 1) ++ [m.getD (i - 1) (0, 0)] := by
      have : i = i - 1 + 1 := by omega
      conv => lhs; rw [this]
      rw [List.take_add_one, List.getElem?_eq_getElem (by omega), getD_get (by omega)]; rfl
    have hb2 := bump_right (T := insW [] (wB (m.take (i - 1)))) (x := (m.getD (i - 1) (0, 0)).2) (y := s.2) (fun r hr => (insW_tab _ trivial : Tab (insW [] (wB (m.take (i - 1))))).up r hr) hx
    rw [← ins_snoc, ← hM0, ← hPd, ← hr] at hb2
    omega
  have hg := fun a => qadd_getD (Q := Q) (r := r) (s := a) (c := s.1) hrle
  have hsame : SameSh (ins1 P s.2) (qadd Q r s.1) := fun a => by
    rw [ins_len, hg, ← hr]
    by_cases e : a = r
    · rw [if_pos e, if_pos e, List.length_append, e, h2 r]; rfl
    · rw [if_neg e, if_neg e, h2 a]; rfl
  have hPt2 : Tab (ins1 P s.2) := ins1_tab hPt
  have htab : Tab (qadd Q r s.1) := by
    refine tab_of (fun t ht => ⟨qadd_ne h1.ne t ht, ?_⟩) (fun j => ?_)
    · obtain ⟨a, ha, rfl⟩ := List.getElem_of_mem ht
      rw [← getD_get (d := []) ha, hg]
      by_cases e : a = r
      · rw [if_pos e]
        refine List.pairwise_append.2 ⟨h1.upD r, List.pairwise_singleton _ _, fun x hx y hy => ?_⟩
        rw [List.mem_singleton] at hy
        rw [hy]; exact hb r x hx
      · rw [if_neg e]; exact h1.upD a
    · rw [hg, hg]
      have hd := h1.dom j
      by_cases e : j = r
      · rw [if_pos e, if_neg (by omega)]
        rw [e] at hd ⊢
        refine dom_of (fun k b hk => ?_)
        obtain ⟨a, ha, hab⟩ := dom_at hd hk
        exact ⟨a, by rw [List.getElem?_append_left (List.getElem?_eq_some_iff.1 ha).1]; exact ha, hab⟩
      · rw [if_neg e]
        by_cases e2 : j + 1 = r
        · rw [if_pos e2]
          rw [e2] at hd
          refine dom_of (fun k b hk => ?_)
          by_cases c : k < (Q.getD r []).length
          · rw [List.getElem?_append_left c] at hk
            exact dom_at hd hk
          · have hkl := (List.getElem?_eq_some_iff.1 hk).1
            rw [List.length_append, List.length_singleton] at hkl
            have hke : k = (Q.getD r []).length := by omega
            have hbe : b = s.1 := by
              rw [List.getElem?_append_right (by omega), hke, Nat.sub_self] at hk
              simpa using hk.symm
            have hll := dom_len (hPt2.dom j)
            rw [hsame, hsame, hg, hg, if_neg e, if_pos e2, List.length_append, List.length_singleton] at hll
            have hkj : k < (Q.getD j []).length := by omega
            refine ⟨(Q.getD j [])[k], List.getElem?_eq_getElem hkj, ?_⟩
            rw [hbe]
            have hmem := List.getElem_mem hkj
            have hle := last_max (h1.upD j) hmem
            have hjl : j < Q.length := by omega
            have h7 := hb j _ (last_mem (hrow j hjl))
            have h8 : lastOf (Q.getD j []) ≠ s.1 := fun e3 => by have := hfirst j hjl e3; omega
            omega
        · rw [if_neg e2]; exact hd
  have hrl : r < (qadd Q r s.1).length := by
    unfold qadd
    by_cases e : r = Q.length
    · rw [if_pos e]; simp; omega
    · rw [if_neg e, List.length_set]; omega
  have hql : ∀ a, a < (qadd Q r s.1).length → a ≠ r → a < Q.length := fun a ha hn => by
    unfold qadd at ha
    by_cases e : r = Q.length
    · rw [if_pos e] at ha; simp at ha; omega
    · rw [if_neg e, List.length_set] at ha; exact ha
  have hsel : Sel (qadd Q r s.1) r s.1 := by
    refine ⟨hrl, by rw [hg, if_pos rfl, last_snoc], fun a ha => ?_, fun a ha => ?_⟩
    · rw [hg]
      by_cases e : a = r
      · rw [if_pos e, last_snoc]; exact Int.le_refl _
      · rw [if_neg e]; exact hb a _ (last_mem (hrow a (hql a ha e)))
    · rw [hg, if_neg (by omega)]
      have hal : a < Q.length := by omega
      have h7 := hb a _ (last_mem (hrow a hal))
      have h8 : lastOf (Q.getD a []) ≠ s.1 := fun e3 => by have := hfirst a hal e3; omega
      omega
  refine ⟨by rw [hQe]; exact htab, by rw [hQe, hPe]; exact hsame, ?_, fun a x hx => ⟨by omega, ?_⟩, fun _ a ha e => ?_, ?_⟩
  · rw [hQe, hPe, hM]
    have hub := unb_ins1 (x := s.2) hPt
    rw [← hr] at hub
    have hst := Und.step (p := ins1 P s.2) (m := m.take i) hsel (by rw [hub, pop_of_qadd hrle h1.ne]; exact h3)
    rw [hub] at hst
    exact hst
  · rw [hi1, ← hsd]
    rw [hQe, hg] at hx
    by_cases e : a = r
    · rw [if_pos e] at hx
      rcases List.mem_append.1 hx with g | g
      · exact hb r x g
      · rw [List.mem_singleton] at g; omega
    · rw [if_neg e] at hx; exact hb a x hx
  · rw [hi1, ← hsd] at e ⊢
    rw [hQe] at ha e
    rw [← hPd, ← hr]
    rw [hg] at e
    by_cases e2 : a = r
    · omega
    · rw [if_neg e2] at e
      exact hfirst a (hql a ha e2) e
  · rw [hQe, hM]
    have e1 : wA (m.take i ++ [s]) = wA (m.take i) ++ [s.1] := by simp [wA]
    rw [e1]
    have h7 : (qadd Q r s.1).flatten.Perm (s.1 :: Q.flatten) := by
      unfold qadd
      by_cases e : r = Q.length
      · rw [if_pos e, List.flatten_append]
        show (Q.flatten ++ ([s.1] ++ [])).Perm _
        exact List.perm_append_comm
      · rw [if_neg e]; exact set_flat s.1 (by omega)
    exact h7.trans ((List.Perm.cons _ h6).trans (List.perm_append_singleton _ _).symm)
/-- A word, with its places. -/
def wm (w : List Int) : List (Int × Int) := (List.range w.length).map (fun (i : Nat) => ((i : Int) + 1, w.getD i 0))
end Go.Proofs.Ytpmkdihencepnaa
