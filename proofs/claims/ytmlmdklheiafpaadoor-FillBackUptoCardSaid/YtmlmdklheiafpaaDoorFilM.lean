/-
  Plain: tableaux as texts: what is written is read, and what is read is written so.
-/
import Derived.Test.YtmlmdklheiafpaaDoorPlacF
namespace Go.Proofs.YtmlmdklheiafpaaDoor.Fil
/-- The signs of a number from 1 to 99. -/
def dg (n : Int) : List UInt8 := if n < 10 then [UInt8.ofNat (48 + n.toNat)] else [UInt8.ofNat (48 + n.toNat / 10), UInt8.ofNat (48 + n.toNat % 10)]
def rowT : List Int → List UInt8
  | [] => []
  | x :: r => dg x ++ r.flatMap (fun y => 32 :: dg y)
def txt : List (List Int) → List UInt8
  | [] => []
  | r :: T => rowT r ++ T.flatMap (fun q => 47 :: rowT q)
theorem rowT_snoc {r : List Int} (x : Int) (h : r ≠ []) : rowT (r ++ [x]) = rowT r ++ 32 :: dg x := by
  cases r with
  | nil => exact absurd rfl h
  | cons y r => simp [rowT]
theorem txt_snoc {T : List (List Int)} (r : List Int) (h : T ≠ []) : txt (T ++ [r]) = txt T ++ 47 :: rowT r := by
  cases T with
  | nil => exact absurd rfl h
  | cons y T => simp [txt]
theorem txt_one (r : List Int) : txt [r] = rowT r := by simp [txt]
theorem txt_app {T : List (List Int)} {r : List Int} (x : Int) (h : r ≠ []) : txt (T ++ [r ++ [x]]) = txt (T ++ [r]) ++ 32 :: dg x := by
  cases T with
  | nil => simp [txt_one, rowT_snoc x h]
  | cons y T => rw [txt_snoc _ (by simp), txt_snoc _ (by simp), rowT_snoc x h]; simp
/-- The number at a text's head, and how many signs it has. -/
def num1 : List UInt8 → Int × Nat
  | [] => (0, 0)
  | a :: r => if 49 ≤ a.toNat ∧ a.toNat ≤ 57 then
      (match r with
        | [] => ((a.toNat : Int) - 48, 1)
        | b :: _ => if 48 ≤ b.toNat ∧ b.toNat ≤ 57 then (10 * ((a.toNat : Int) - 48) + ((b.toNat : Int) - 48), 2) else ((a.toNat : Int) - 48, 1))
      else (0, 0)
theorem ofNat_toNat {n : Nat} (h : n < 256) : (UInt8.ofNat n).toNat = n := by
  simp [UInt8.toNat_ofNat']; omega
theorem toNat_eq {a : UInt8} {n : Nat} (h : a.toNat = n) : a = UInt8.ofNat n := by
  rw [← h]; simp
theorem num1_dg {n : Int} (h1 : 1 ≤ n) (h2 : n ≤ 99) {rest : List UInt8} (hr : rest = [] ∨ ∃ c r, rest = c :: r ∧ (c = 32 ∨ c = 47)) : num1 (dg n ++ rest) = (n, (dg n).length) := by
  unfold dg
  by_cases h : n < 10
  · rw [if_pos h]
    have e := ofNat_toNat (n := 48 + n.toNat) (by omega)
    rcases hr with rfl | ⟨c, r, rfl, hc⟩
    · simp only [List.cons_append, List.nil_append, num1, e, List.length_cons, List.length_nil]
      rw [if_pos (by omega)]
      simp only [Prod.mk.injEq, and_true]; omega
    · simp only [List.cons_append, List.nil_append, num1, e, List.length_cons, List.length_nil]
      have hc' : ¬ (48 ≤ c.toNat ∧ c.toNat ≤ 57) := by rcases hc with rfl | rfl <;> decide
      rw [if_pos (by omega), if_neg hc']
      simp only [Prod.mk.injEq, and_true]; omega
  · rw [if_neg h]
    have e := ofNat_toNat (n := 48 + n.toNat / 10) (by omega)
    have e2 := ofNat_toNat (n := 48 + n.toNat % 10) (by omega)
    simp only [List.cons_append, List.nil_append, num1, e, e2, List.length_cons, List.length_nil]
    rw [if_pos (by omega), if_pos (by omega)]
    simp only [Prod.mk.injEq, and_true]; omega
theorem num1_take {l : List UInt8} {n : Int} {k : Nat} (h : num1 l = (n, k)) (hk : 0 < k) : l.take k = dg n ∧ 1 ≤ n ∧ n ≤ 99 ∧ k ≤ l.length ∧ k ≤ 2 := by
  cases l with
  | nil => simp [num1] at h; omega
  | cons a r =>
    simp only [num1] at h
    by_cases ha : 49 ≤ a.toNat ∧ a.toNat ≤ 57
    · rw [if_pos ha] at h
      have one : (n, k) = ((a.toNat : Int) - 48, 1) → (a :: r).take k = dg n ∧ 1 ≤ n ∧ n ≤ 99 ∧ k ≤ (a :: r).length ∧ k ≤ 2 := fun e => by
        simp only [Prod.mk.injEq] at e
        obtain ⟨rfl, rfl⟩ := e
        refine ⟨?_, by omega, by omega, by simp, by omega⟩
        unfold dg
        rw [if_pos (by omega)]
        show [a] = _
        rw [← toNat_eq (a := a) (n := 48 + ((a.toNat : Int) - 48).toNat) (by omega)]
      cases r with
      | nil => exact one h.symm
      | cons b r =>
        simp only at h
        by_cases hb : 48 ≤ b.toNat ∧ b.toNat ≤ 57
        · rw [if_pos hb] at h
          simp only [Prod.mk.injEq] at h
          obtain ⟨rfl, rfl⟩ := h
          refine ⟨?_, by omega, by omega, by simp, by omega⟩
          unfold dg
          rw [if_neg (by omega)]
          show [a, b] = _
          rw [← toNat_eq (a := a) (n := 48 + (10 * ((a.toNat : Int) - 48) + ((b.toNat : Int) - 48)).toNat / 10) (by omega), ← toNat_eq (a := b) (n := 48 + (10 * ((a.toNat : Int) - 48) + ((b.toNat : Int) - 48)).toNat % 10) (by omega)]
        · rw [if_neg hb] at h
          exact one h.symm
    · rw [if_neg ha] at h
      simp only [Prod.mk.injEq] at h
      omega
/-- A new row, where one begins. -/
def begR (out : List (List Int)) (new : Bool) : List (List Int) := if new then out ++ [[]] else out
def push (out : List (List Int)) (n : Int) : List (List Int) := out.dropLast ++ [out.getLastD [] ++ [n]]
theorem push_snoc (T : List (List Int)) (r : List Int) (n : Int) : push (T ++ [r]) n = T ++ [r ++ [n]] := by simp [push]
def newAt (s : List UInt8) (at_ : Nat) : Bool := decide (at_ = 0) || decide (s[at_ - 1]? = some 47)
/-- What has been read, up to where. -/
inductive Rd (s : List UInt8) : Nat → List (List Int) → Prop where
  | start : Rd s 0 []
  | next {p : Nat} {out : List (List Int)} {n : Int} {k : Nat} {c : UInt8} (h : Rd s p out) (hn : num1 (s.drop p) = (n, k)) (hk : 0 < k) (hc : s[p + k]? = some c) (hs : c = 32 ∨ c = 47) : Rd s (p + k + 1) (push (begR out (newAt s p)) n)
/-- All is read. -/
def Done (s : List UInt8) (a : List (List Int)) : Prop := (s = [] ∧ a = []) ∨ ∃ p out n k, Rd s p out ∧ num1 (s.drop p) = (n, k) ∧ 0 < k ∧ p + k = s.length ∧ a = push (begR out (newAt s p)) n
/-- One stands still. -/
def Stuck (s : List UInt8) : Prop := ∃ p out n k, Rd s p out ∧ s ≠ [] ∧ num1 (s.drop p) = (n, k) ∧ (k = 0 ∨ ∃ c, s[p + k]? = some c ∧ c ≠ 32 ∧ c ≠ 47)

def Full (T : List (List Int)) : Prop := ∀ r ∈ T, r ≠ []
/-- The text of what has been read. -/
theorem push_txt {s : List UInt8} {p : Nat} {out : List (List Int)} (h : (p = 0 ∧ out = []) ∨ (out ≠ [] ∧ Full out ∧ ∃ c, s.take p = txt out ++ [c] ∧ (c = 32 ∨ c = 47) ∧ 0 < p ∧ s[p - 1]? = some c)) {n : Int} {k : Nat} (hn : num1 (s.drop p) = (n, k)) (hk : 0 < k) :
    push (begR out (newAt s p)) n ≠ [] ∧ Full (push (begR out (newAt s p)) n) ∧ s.take (p + k) = txt (push (begR out (newAt s p)) n) := by
  obtain ⟨ht, _, _, _⟩ := num1_take hn hk
  have hsp : s.take (p + k) = s.take p ++ dg n := by rw [List.take_add, ht]
  rcases h with ⟨rfl, rfl⟩ | ⟨h1, h2, c, h3, h4, h5, h6⟩
  · have e : push (begR [] (newAt s 0)) n = [[n]] := by simp [newAt, begR, push]
    rw [e]
    refine ⟨by simp, fun r hr => ?_, ?_⟩
    · simp at hr; rw [hr]; simp
    · rw [hsp]; simp [txt, rowT]
  · by_cases hc : c = 47
    · subst hc
      have e : newAt s p = true := by simp [newAt, h6]
      rw [e, show begR out true = out ++ [[]] from rfl, push_snoc]
      refine ⟨by simp, fun r hr => ?_, ?_⟩
      · rcases List.mem_append.1 hr with hr | hr
        · exact h2 r hr
        · simp at hr; rw [hr]; simp
      · rw [hsp, h3, txt_snoc _ h1]; simp [rowT]
    · have hc32 : c = 32 := by rcases h4 with h | h; exact h; exact absurd h hc
      subst hc32
      have e : newAt s p = false := by
        simp only [newAt, h6, Bool.or_eq_false_iff, decide_eq_false_iff_not]
        exact ⟨by omega, by decide⟩
      rw [e, show begR out false = out from rfl]
      obtain ⟨T, r, rfl⟩ : ∃ T r, out = T ++ [r] := ⟨out.dropLast, out.getLast h1, (List.dropLast_concat_getLast h1).symm⟩
      have hr : r ≠ [] := h2 r (by simp)
      rw [push_snoc]
      refine ⟨by simp, fun q hq => ?_, ?_⟩
      · rcases List.mem_append.1 hq with hq | hq
        · exact h2 q (by simp [hq])
        · simp at hq; rw [hq]; simp
      · rw [hsp, h3, txt_app _ hr]; simp
theorem Rd.inv {s : List UInt8} {p : Nat} {out : List (List Int)} (h : Rd s p out) : (p = 0 ∧ out = []) ∨ (out ≠ [] ∧ Full out ∧ ∃ c, s.take p = txt out ++ [c] ∧ (c = 32 ∨ c = 47) ∧ 0 < p ∧ s[p - 1]? = some c) := by
  induction h with
  | start => exact .inl ⟨rfl, rfl⟩
  | @next p out n k c h hn hk hc hs ih =>
    right
    obtain ⟨h1, h2, h3⟩ := push_txt ih hn hk
    refine ⟨h1, h2, c, ?_, hs, by omega, by simpa using hc⟩
    rw [List.take_add_one, hc, h3]; rfl
/-- What is read is written so. -/
theorem Done.txt {s : List UInt8} {a : List (List Int)} (h : Done s a) : s = txt a := by
  rcases h with ⟨rfl, rfl⟩ | ⟨p, out, n, k, h, hn, hk, hl, rfl⟩
  · rfl
  · obtain ⟨_, _, h3⟩ := push_txt h.inv hn hk
    rw [← h3, hl, List.take_length]

/-- What is to come, in a text of T. -/
def Good (T : List (List Int)) : Prop := Full T ∧ ∀ r ∈ T, ∀ x ∈ r, 1 ≤ x ∧ x ≤ 99
def rest (r2 : List Int) (T2 : List (List Int)) : List UInt8 := r2.flatMap (fun y => 32 :: dg y) ++ T2.flatMap (fun q => 47 :: rowT q)
theorem rest_head (r2 : List Int) (T2 : List (List Int)) : rest r2 T2 = [] ∨ ∃ c r, rest r2 T2 = c :: r ∧ (c = 32 ∨ c = 47) := by
  cases r2 with
  | cons y r => exact .inr ⟨32, _, rfl, .inl rfl⟩
  | nil =>
    cases T2 with
    | nil => exact .inl rfl
    | cons q T => exact .inr ⟨47, _, rfl, .inr rfl⟩
/-- A place in the text of T: out is read, x is to come. -/
def At (T : List (List Int)) (s : List UInt8) (p : Nat) (out : List (List Int)) : Prop :=
  ∃ (I : List (List Int)) (r1 : List Int) (x : Int) (r2 : List Int) (T2 : List (List Int)), T = I ++ (r1 ++ x :: r2) :: T2 ∧ begR out (newAt s p) = I ++ [r1] ∧ s.drop p = dg x ++ rest r2 T2 ∧ p ≤ s.length
theorem At.start {T : List (List Int)} (hT : T ≠ []) (hg : Good T) : At T (txt T) 0 [] := by
  match T, hT with
  | q :: T2, _ =>
    match q, hg.1 q (by simp) with
    | x :: r2, _ =>
      refine ⟨[], [], x, r2, T2, rfl, rfl, ?_, Nat.zero_le _⟩
      simp [txt, rowT, rest]
theorem At.num {T : List (List Int)} {s : List UInt8} {p : Nat} (hg : Good T) {I : List (List Int)} {r1 : List Int} {x : Int} {r2 : List Int} {T2 : List (List Int)} (hT : T = I ++ (r1 ++ x :: r2) :: T2) (hd : s.drop p = dg x ++ rest r2 T2) : num1 (s.drop p) = (x, (dg x).length) := by
  have := hg.2 (r1 ++ x :: r2) (by rw [hT]; simp) x (by simp)
  rw [hd]
  exact num1_dg this.1 this.2 (rest_head r2 T2)
theorem dg_len (x : Int) : 0 < (dg x).length := by unfold dg; split <;> simp
theorem Rd.at_ {T : List (List Int)} (hT : T ≠ []) (hg : Good T) {p : Nat} {out : List (List Int)} (h : Rd (txt T) p out) : At T (txt T) p out := by
  obtain ⟨s, hs⟩ : ∃ s, s = txt T := ⟨_, rfl⟩
  rw [← hs] at h ⊢
  induction h with
  | start => rw [hs]; exact At.start hT hg
  | @next p out n k c h hn hk hc hsep ih =>
    obtain ⟨I, r1, x, r2, T2, e1, e2, e3, e4⟩ := ih
    have hnum := At.num hg e1 e3
    rw [hnum] at hn
    simp only [Prod.mk.injEq] at hn
    obtain ⟨rfl, rfl⟩ := hn
    rw [e2, push_snoc]
    have hdr : s.drop (p + (dg x).length) = rest r2 T2 := by rw [← List.drop_drop, e3, List.drop_left]
    have hpc : (rest r2 T2)[0]? = some c := by rw [← hdr, List.getElem?_drop]; simpa using hc
    have hlt : p + (dg x).length < s.length := (List.getElem?_eq_some_iff.1 hc).1
    have hnew : newAt s (p + (dg x).length + 1) = decide (c = 47) := by
      simp [newAt, hc]
    cases r2 with
    | cons y r2 =>
      simp [rest] at hpc
      subst hpc
      refine ⟨I, r1 ++ [x], y, r2, T2, by rw [e1]; simp, ?_, ?_, by omega⟩
      · rw [hnew]; rfl
      · rw [← List.drop_drop, hdr]; simp [rest]
    | nil =>
      cases T2 with
      | nil => simp [rest] at hpc
      | cons q T2 =>
        simp [rest] at hpc
        subst hpc
        match q, hg.1 q (by rw [e1]; simp) with
        | y :: q, _ =>
          refine ⟨I ++ [r1 ++ [x]], [], y, q, T2, by rw [e1]; simp, ?_, ?_, by omega⟩
          · rw [hnew]; rfl
          · rw [← List.drop_drop, hdr]; simp [rest, rowT]
/-- What is written is read. -/
theorem good_not_stuck {T : List (List Int)} (hg : Good T) : ¬ Stuck (txt T) := by
  rintro ⟨p, out, n, k, h, hne, hn, hk⟩
  have hT : T ≠ [] := fun e => hne (by rw [e]; rfl)
  obtain ⟨I, r1, x, r2, T2, e1, e2, e3, e4⟩ := h.at_ hT hg
  rw [At.num hg e1 e3] at hn
  simp only [Prod.mk.injEq] at hn
  obtain ⟨rfl, rfl⟩ := hn
  rcases hk with hk | ⟨c, hc, h1, h2⟩
  · have := dg_len x; omega
  · have hdr : (txt T).drop (p + (dg x).length) = rest r2 T2 := by rw [← List.drop_drop, e3, List.drop_left]
    have hpc : (rest r2 T2)[0]? = some c := by rw [← hdr, List.getElem?_drop]; simpa using hc
    rcases rest_head r2 T2 with h | ⟨c', r, h, hh⟩
    · rw [h] at hpc; simp at hpc
    · rw [h] at hpc
      simp at hpc
      subst hpc
      rcases hh with h | h
      · exact h1 h
      · exact h2 h
theorem good_done {T a : List (List Int)} (hg : Good T) (h : Done (txt T) a) : a = T := by
  by_cases hT : T = []
  · subst hT
    rcases h with ⟨_, rfl⟩ | ⟨p, out, n, k, h, hn, hk, hl, rfl⟩
    · rfl
    · have := num1_take hn hk
      simp [txt] at this hl
      omega
  · rcases h with ⟨h, _⟩ | ⟨p, out, n, k, h, hn, hk, hl, rfl⟩
    · match T, hT with
      | q :: T2, _ =>
        match q, hg.1 q (by simp) with
        | x :: r2, _ =>
          have h1 := dg_len x
          have h2 := congrArg List.length h
          simp only [txt, rowT, List.length_append, List.length_nil] at h2
          omega
    · obtain ⟨I, r1, x, r2, T2, e1, e2, e3, e4⟩ := h.at_ hT hg
      rw [At.num hg e1 e3] at hn
      simp only [Prod.mk.injEq] at hn
      obtain ⟨rfl, rfl⟩ := hn
      have hdr : (txt T).drop (p + (dg x).length) = rest r2 T2 := by rw [← List.drop_drop, e3, List.drop_left]
      rw [hl, List.drop_length] at hdr
      rw [e2, push_snoc, e1]
      cases r2 with
      | cons y r2 => simp [rest] at hdr
      | nil =>
        cases T2 with
        | cons q T2 => simp [rest] at hdr
        | nil => rfl
/-! What is written, step by step. -/
theorem rowT_take {r : List Int} {j : Nat} (h : j < r.length) : rowT (r.take (j + 1)) = rowT (r.take j) ++ ((if j = 0 then [] else [32]) ++ dg (r.getD j 0)) := by
  have e : r.take (j + 1) = r.take j ++ [r.getD j 0] := by
    rw [List.take_add_one, List.getElem?_eq_getElem h, List.getD_eq_getElem?_getD, List.getElem?_eq_getElem h]; rfl
  rw [e]
  by_cases hj : j = 0
  · subst hj; simp [rowT]
  · rw [if_neg hj, rowT_snoc _ (fun g => by have := congrArg List.length g; rw [List.length_take, List.length_nil] at this; omega)]; rfl
theorem txt_take {T : List (List Int)} {i : Nat} (h : i < T.length) : txt (T.take (i + 1)) = txt (T.take i) ++ ((if i = 0 then [] else [47]) ++ rowT (T.getD i [])) := by
  have e : T.take (i + 1) = T.take i ++ [T.getD i []] := by
    rw [List.take_add_one, List.getElem?_eq_getElem h, List.getD_eq_getElem?_getD, List.getElem?_eq_getElem h]; rfl
  rw [e]
  by_cases hi : i = 0
  · subst hi; simp [txt]
  · rw [if_neg hi, txt_snoc _ (fun g => by have := congrArg List.length g; rw [List.length_take, List.length_nil] at this; omega)]; rfl
theorem dg_le (x : Int) : (dg x).length ≤ 2 := by unfold dg; split <;> simp
theorem rowT_le : ∀ r : List Int, (rowT r).length ≤ 3 * r.length
  | [] => by simp [rowT]
  | x :: r => by
    have h : ∀ q : List Int, (q.flatMap (fun y => 32 :: dg y)).length ≤ 3 * q.length := fun q => by
      induction q with
      | nil => simp
      | cons y q ih =>
        rw [List.flatMap_cons, List.length_append, List.length_cons, List.length_cons]
        have := dg_le y
        omega
    have h1 := h r
    have h2 := dg_le x
    simp only [rowT, List.length_append, List.length_cons]
    omega
theorem txt_le {B : Nat} : ∀ T : List (List Int), (∀ r ∈ T, r.length ≤ B) → (txt T).length ≤ (3 * B + 1) * T.length
  | [], _ => by simp [txt]
  | r :: T, hB => by
    have h : ∀ Q : List (List Int), (∀ q ∈ Q, q.length ≤ B) → (Q.flatMap (fun q => 47 :: rowT q)).length ≤ (3 * B + 1) * Q.length := fun Q => by
      induction Q with
      | nil => intro _; simp
      | cons q Q ih =>
        intro hq
        rw [List.flatMap_cons, List.length_append, List.length_cons, List.length_cons]
        have h1 := ih (fun x hx => hq x (List.mem_cons_of_mem _ hx))
        have h2 := rowT_le q
        have h3 := hq q (by simp)
        rw [Nat.mul_add, Nat.mul_one]
        omega
    have h1 := h T (fun x hx => hB x (List.mem_cons_of_mem _ hx))
    have h2 := rowT_le r
    have h3 := hB r (by simp)
    simp only [txt, List.length_append, List.length_cons]
    rw [Nat.mul_add, Nat.mul_one]
    omega
/-! What is read of a number. -/
theorem num1_none {l : List UInt8} (h : ∀ a, l[0]? = some a → ¬ (49 ≤ a.toNat ∧ a.toNat ≤ 57)) : num1 l = (0, 0) := by
  cases l with
  | nil => rfl
  | cons a r => simp only [num1]; rw [if_neg (h a rfl)]
theorem num1_one {l : List UInt8} {a : UInt8} (h0 : l[0]? = some a) (ha : 49 ≤ a.toNat ∧ a.toNat ≤ 57) (h : ∀ b, l[1]? = some b → ¬ (48 ≤ b.toNat ∧ b.toNat ≤ 57)) : num1 l = ((a.toNat : Int) - 48, 1) := by
  cases l with
  | nil => simp at h0
  | cons a' r =>
    simp at h0
    subst h0
    simp only [num1]
    rw [if_pos ha]
    cases r with
    | nil => rfl
    | cons b r => simp only; rw [if_neg (h b rfl)]
theorem num1_two {l : List UInt8} {a b : UInt8} (h0 : l[0]? = some a) (ha : 49 ≤ a.toNat ∧ a.toNat ≤ 57) (h1 : l[1]? = some b) (hb : 48 ≤ b.toNat ∧ b.toNat ≤ 57) : num1 l = (10 * ((a.toNat : Int) - 48) + ((b.toNat : Int) - 48), 2) := by
  match l, h0, h1 with
  | a' :: b' :: r, h0, h1 =>
    simp at h0 h1
    subst h0; subst h1
    simp only [num1]
    rw [if_pos ha, if_pos hb]
end Go.Proofs.YtmlmdklheiafpaaDoor.Fil
