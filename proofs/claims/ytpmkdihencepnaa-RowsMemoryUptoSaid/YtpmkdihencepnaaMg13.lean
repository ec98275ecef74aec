/-
  cmp.Compare of ints, cmp.Or of two.
-/
import Derived.Deep.RegionHeld3
import Derived.BigQuiet
import Derived.BigRegion
import Derived.Deep.RegionWith
import Derived.Shelf.SlicesG.Cmp
import Derived.Shelf.Lay
import Derived.Ground.SlgcProg
import Derived.Shelf.SlSortCmp.NoneTotal
import Derived.Ground.SlsfProg
import Derived.Lib.OwnBridge
import Derived.Lib.AppendIntMem
import Derived.StillTailTactics
import Derived.Test.YtpmkdihencepnaaMg01
import Derived.Test.YtpmkdihencepnaaMg06
import Derived.Test.YtpmkdihencepnaaMg12
namespace Go.Proofs
open Go.Shelf
shelf_lay_g SlLaysC2.n5 Slgc 5 at Try 39 as Try.cmpI
end Go.Proofs
namespace Go.Proofs.Ytpmkdihencepnaa
open Go.RowKit Go.Proofs
open Go.Shelf

theorem cmp_any (x y : Int) (w : World) : Calls Try.prog 39 #[.int .i64 x, .int .i64 y] w fun e w' => e = .returned (.int .i64 (Lib.compareInt x y)) ∧ w = w' := by
  have h := AnyG.cmp_Compare_int Try.cmpI x y w
  change Calls Try.prog 39 _ _ _ at h
  exact h.mono (fun e w' hh => ⟨hh.1, hh.2.symm⟩)

def orP (x y : Int) : Int := if x ≠ 0 then x else y
set_option maxHeartbeats 1000000 in
/-- cmp.Or of two. -/
theorem or_any (g cap : Nat) (x y : Int) (w : World) (h0 : w.cell? ⟨g, 0, none⟩ = some (.int .i64 x)) (h1 : w.cell? ⟨g, 1, none⟩ = some (.int .i64 y)) :
    Calls Try.prog 38 #[.slice (some ⟨g, 0, none⟩) 2 cap] w fun e w' => e = .returned (.int .i64 (orP x y)) ∧ w = w' := by
  go_enter Try.func38, Try.ntmps38
  go_wp2
  go_loopw [8] (fun iv wr => ∃ i : Nat, i ≤ 2 ∧ iv = .int .i64 i ∧ (1 ≤ i → x = 0) ∧ (2 ≤ i → y = 0) ∧ w = wr) (fun iv _ => 2 - (intOf iv).toNat)
  case atStart => exact ⟨0, by omega, rfl, fun h => by omega, fun h => by omega, rfl⟩
  case round =>
    obtain ⟨i, hi, rfl, k1, k2, rfl⟩ := hrel
    by_cases hi2 : i < 2
    · have di : decide (i < 2) = true := decide_eq_true hi2
      have di2 : decide ((i : Int) < 2) = true := decide_eq_true (by omega)
      obtain ⟨z, hz, z0, z1⟩ : ∃ z : Int, w.cell? ⟨g, i, none⟩ = some (.int .i64 z) ∧ (i = 0 → z = x) ∧ (i = 1 → z = y) := by
        rcases Nat.lt_or_ge i 1 with c | c
        · obtain rfl : i = 0 := by omega
          exact ⟨x, h0, fun _ => rfl, fun h => by omega⟩
        · obtain rfl : i = 1 := by omega
          exact ⟨y, h1, fun h => by omega, fun _ => rfl⟩
      have hfin : Hid (z ≠ 0 → orP x y = z) := fun hne => by
        unfold orP
        rcases Nat.lt_or_ge i 1 with c | c
        · have := z0 (by omega); rw [← this, if_pos hne]
        · have e1 := z1 (by omega)
          have e2 := k1 c
          rw [if_neg (by omega), e1]
      have hnx : Hid (z = 0 → (1 ≤ i + 1 → x = 0) ∧ (2 ≤ i + 1 → y = 0)) := fun hz0 => by
        refine ⟨fun _ => ?_, fun h => ?_⟩
        · rcases Nat.lt_or_ge i 1 with c | c
          · rw [← z0 (by omega)]; exact hz0
          · exact k1 c
        · rw [← z1 (by omega)]; exact hz0
      clear z0 z1 k1 k2
      by_cases hz0 : z = 0
      · have dz : (z != 0) = false := by simpa using hz0
        have hn := Lib.hid (hnx.out hz0)
        clear hz0 hnx hfin
        go_wp2
        go_roundw
        case rel => exact ⟨i + 1, by omega, by go_num, hn.out.1, hn.out.2, by first | rfl | trivial⟩
        case measure => simp [intOf]; omega
      · have dz : (z != 0) = true := by simpa using hz0
        have hf := Lib.hid (hfin.out hz0)
        clear hz0 hnx hfin
        go_wp2
        go_ret
        exact ⟨by rw [hf.out]; rfl, by first | rfl | trivial⟩
    · have di : decide (i < 2) = false := decide_eq_false hi2
      have di2 : decide ((i : Int) < 2) = false := decide_eq_false (by omega)
      have hf : Hid (orP x y = 0) := by
        have e1 := k1 (by omega); have e2 := k2 (by omega)
        show (if x ≠ 0 then x else y) = _; rw [if_neg (by omega), e2]
      clear k1 k2
      go_wp2
      go_ret
      exact ⟨by rw [hf.out]; rfl, by first | rfl | trivial⟩

end Go.Proofs.Ytpmkdihencepnaa

/-
  Plain: tableaux as texts: what is written is read, and what is read is written so.
-/
namespace Go.Proofs.Ytpmkdihencepnaa.Fil
/-- The signs of a number from 1 to 99. -/
def dg (n : Int) : List UInt8 := if n < 10 then [UInt8.ofNat (48 + n.toNat)] else [UInt8.ofNat (48 + n.toNat / 10), UInt8.ofNat (48 + n.toNat % 10)]
def rowT : List Int → List UInt8
  | [] => []
  | x :: r => dg x ++ r.flatMap (fun y => 32 :: dg y)
def txt : List (List Int) → List UInt8
  | [] => []
  | r :: T => rowT r ++ T.flatMap (fun q => 47 :: rowT q)
theorem rowT_snoc {r : List Int} (x : Int) (h : r ≠ []) : rowT (r ++ [x]) = rowT r ++ 32 :: dg x := by
  cases r with
  | nil => exact absurd rfl h
  | cons y r => simp [rowT]
theorem txt_snoc {T : List (List Int)} (r : List Int) (h : T ≠ []) : txt (T ++ [r]) = txt T ++ 47 :: rowT r := by
  cases T with
  | nil => exact absurd rfl h
  | cons y T => simp [txt]
theorem txt_one (r : List Int) : txt [r] = rowT r := by simp [txt]
theorem txt_app {T : List (List Int)} {r : List Int} (x : Int) (h : r ≠ []) : txt (T ++ [r ++ [x]]) = txt (T ++ [r]) ++ 32 :: dg x := by
  cases T with
  | nil => simp [txt_one, rowT_snoc x h]
  | cons y T => rw [txt_snoc _ (by simp), txt_snoc _ (by simp), rowT_snoc x h]; simp
/-- The number at a text's head, and how many signs it has. -/
def num1 : List UInt8 → Int × Nat
  | [] => (0, 0)
  | a :: r => if 49 ≤ a.toNat ∧ a.toNat ≤ 57 then
      (match r with
        | [] => ((a.toNat : Int) - 48, 1)
        | b :: _ => if 48 ≤ b.toNat ∧ b.toNat ≤ 57 then (10 * ((a.toNat : Int) - 48) + ((b.toNat : Int) - 48), 2) else ((a.toNat : Int) - 48, 1))
      else (0, 0)
theorem ofNat_toNat {n : Nat} (h : n < 256) : (UInt8.ofNat n).toNat = n := by
  simp [UInt8.toNat_ofNat']; omega
theorem toNat_eq {a : UInt8} {n : Nat} (h : a.toNat = n) : a = UInt8.ofNat n := by
  rw [← h]; simp
theorem num1_dg {n : Int} (h1 : 1 ≤ n) (h2 : n ≤ 99) {rest : List UInt8} (hr : rest = [] ∨ ∃ c r, rest = c :: r ∧ (c = 32 ∨ c = 47)) : num1 (dg n ++ rest) = (n, (dg n).length) := by
  unfold dg
  by_cases h : n < 10
  · rw [if_pos h]
    have e := ofNat_toNat (n := 48 + n.toNat) (by omega)
    rcases hr with rfl | ⟨c, r, rfl, hc⟩
    · simp only [List.cons_append, List.nil_append, num1, e, List.length_cons, List.length_nil]
      rw [if_pos (by omega)]
      simp only [Prod.mk.injEq, and_true]; omega
    · simp only [List.cons_append, List.nil_append, num1, e, List.length_cons, List.length_nil]
      have hc' : ¬ (48 ≤ c.toNat ∧ c.toNat ≤ 57) := by rcases hc with rfl | rfl <;> decide
      rw [if_pos (by omega), if_neg hc']
      simp only [Prod.mk.injEq, and_true]; omega
  · rw [if_neg h]
    have e := ofNat_toNat (n := 48 + n.toNat / 10) (by omega)
    have e2 := ofNat_toNat (n := 48 + n.toNat % 10) (by omega)
    simp only [List.cons_append, List.nil_append, num1, e, e2, List.length_cons, List.length_nil]
    rw [if_pos (by omega), if_pos (by omega)]
    simp only [Prod.mk.injEq, and_true]; omega
theorem num1_take {l : List UInt8} {n : Int} {k : Nat} (h : num1 l = (n, k)) (hk : 0 < k) : l.take k = dg n ∧ 1 ≤ n ∧ n ≤ 99 ∧ k ≤ l.length ∧ k ≤ 2 := by
  cases l with
  | nil => simp [num1] at h; omega
  | cons a r =>
    simp only [num1] at h
    by_cases ha : 49 ≤ a.toNat ∧ a.toNat ≤ 57
    · rw [if_pos ha] at h
      have one : (n, k) = ((a.toNat : Int) - 48, 1) → (a :: r).take k = dg n ∧ 1 ≤ n ∧ n ≤ 99 ∧ k ≤ (a :: r).length ∧ k ≤ 2 := fun e => by
        simp only [Prod.mk.injEq] at e
        obtain ⟨rfl, rfl⟩ := e
        refine ⟨?_, by omega, by omega, by simp, by omega⟩
        unfold dg
        rw [if_pos (by omega)]
        show [a] = _
        rw [← toNat_eq (a := a) (n := 48 + ((a.toNat : Int) - 48).toNat) (by omega)]
      cases r with
      | nil => exact one h.symm
      | cons b r =>
        simp only at h
        by_cases hb : 48 ≤ b.toNat ∧ b.toNat ≤ 57
        · rw [if_pos hb] at h
          simp only [Prod.mk.injEq] at h
          obtain ⟨rfl, rfl⟩ := h
          refine ⟨?_, by omega, by omega, by simp, by omega⟩
          unfold dg
          rw [if_neg (by omega)]
          show [a, b] = _
          rw [← toNat_eq (a := a) (n := 48 + (10 * ((a.toNat : Int) - 48) + ((b.toNat : Int) - 48)).toNat / 10) (by omega), ← toNat_eq (a := b) (n := 48 + (10 * ((a.toNat : Int) - 48) + ((b.toNat : Int) - 48)).toNat % 10) (by omega)]
        · rw [if_neg hb] at h
          exact one h.symm
    · rw [if_neg ha] at h
      simp only [Prod.mk.injEq] at h
      omega
/-- A new row, where one begins. -/
def begR (out : List (List Int)) (new : Bool) : List (List Int) := if new then out ++ [[]] else out
def push (out : List (List Int)) (n : Int) : List (List Int) := out.dropLast ++ [out.getLastD [] ++ [n]]
theorem push_snoc (T : List (List Int)) (r : List Int) (n : Int) : push (T ++ [r]) n = T ++ [r ++ [n]] := by simp [push]
def newAt (s : List UInt8) (at_ : Nat) : Bool := decide (at_ = 0) || decide (s[at_ - 1]? = some 47)
/-- What has been read, up to where. -/
inductive Rd (s : List UInt8) : Nat → List (List Int) → Prop where
  | start : Rd s 0 []
  | next {p : Nat} {out : List (List Int)} {n : Int} {k : Nat} {c : UInt8} (h : Rd s p out) (hn : num1 (s.drop p) = (n, k)) (hk : 0 < k) (hc : s[p + k]? = some c) (hs : c = 32 ∨ c = 47) : Rd s (p + k + 1) (push (begR out (newAt s p)) n)
/-- All is read. -/
def Done (s : List UInt8) (a : List (List Int)) : Prop := (s = [] ∧ a = []) ∨ ∃ p out n k, Rd s p out ∧ num1 (s.drop p) = (n, k) ∧ 0 < k ∧ p + k = s.length ∧ a = push (begR out (newAt s p)) n
def Full (T : List (List Int)) : Prop := ∀ r ∈ T, r ≠ []
/-- The text of what has been read. -/
theorem push_txt {s : List UInt8} {p : Nat} {out : List (List Int)} (h : (p = 0 ∧ out = []) ∨ (out ≠ [] ∧ Full out ∧ ∃ c, s.take p = txt out ++ [c] ∧ (c = 32 ∨ c = 47) ∧ 0 < p ∧ s[p - 1]? = some c)) {n : Int} {k : Nat} (hn : num1 (s.drop p) = (n, k)) (hk : 0 < k) :
    push (begR out (newAt s p)) n ≠ [] ∧ Full (push (begR out (newAt s p)) n) ∧ s.take (p + k) = txt (push (begR out (newAt s p)) n) := by
  obtain ⟨ht, _, _, _⟩ := num1_take hn hk
  have hsp : s.take (p + k) = s.take p ++ dg n := by rw [List.take_add, ht]
  rcases h with ⟨rfl, rfl⟩ | ⟨h1, h2, c, h3, h4, h5, h6⟩
  · have e : push (begR [] (newAt s 0)) n = [[n]] := by simp [newAt, begR, push]
    rw [e]
    refine ⟨by simp, fun r hr => ?_, ?_⟩
    · simp at hr; rw [hr]; simp
    · rw [hsp]; simp [txt, rowT]
  · by_cases hc : c = 47
    · subst hc
      have e : newAt s p = true := by simp [newAt, h6]
      rw [e, show begR out true = out ++ [[]] from rfl, push_snoc]
      refine ⟨by simp, fun r hr => ?_, ?_⟩
      · rcases List.mem_append.1 hr with hr | hr
        · exact h2 r hr
        · simp at hr; rw [hr]; simp
      · rw [hsp, h3, txt_snoc _ h1]; simp [rowT]
    · have hc32 : c = 32 := by rcases h4 with h | h; exact h; exact absurd h hc
      subst hc32
      have e : newAt s p = false := by
        simp only [newAt, h6, Bool.or_eq_false_iff, decide_eq_false_iff_not]
        exact ⟨by omega, by decide⟩
      rw [e, show begR out false = out from rfl]
      obtain ⟨T, r, rfl⟩ : ∃ T r, out = T ++ [r] := ⟨out.dropLast, out.getLast h1, (List.dropLast_concat_getLast h1).symm⟩
      have hr : r ≠ [] := h2 r (by simp)
      rw [push_snoc]
      refine ⟨by simp, fun q hq => ?_, ?_⟩
      · rcases List.mem_append.1 hq with hq | hq
        · exact h2 q (by simp [hq])
        · simp at hq; rw [hq]; simp
      · rw [hsp, h3, txt_app _ hr]; simp
theorem Rd.inv {s : List UInt8} {p : Nat} {out : List (List Int)} (h : Rd s p out) : (p = 0 ∧ out = []) ∨ (out ≠ [] ∧ Full out ∧ ∃ c, s.take p = txt out ++ [c] ∧ (c = 32 ∨ c = 47) ∧ 0 < p ∧ s[p - 1]? = some c) := by
  induction h with
  | start => exact .inl ⟨rfl, rfl⟩
  | @next p out n k c h hn hk hc hs ih =>
    right
    obtain ⟨h1, h2, h3⟩ := push_txt ih hn hk
    refine ⟨h1, h2, c, ?_, hs, by omega, by simpa using hc⟩
    rw [List.take_add_one, hc, h3]; rfl
/-- What is read is written so. -/
theorem Done.txt {s : List UInt8} {a : List (List Int)} (h : Done s a) : s = txt a := by
  rcases h with ⟨rfl, rfl⟩ | ⟨p, out, n, k, h, hn, hk, hl, rfl⟩
  · rfl
  · obtain ⟨_, _, h3⟩ := push_txt h.inv hn hk
    rw [← h3, hl, List.take_length]

/-- What is to come, in a text of T. -/
def GoodD (T : List (List Int)) : Prop := Full T ∧ ∀ r ∈ T, ∀ x ∈ r, 1 ≤ x ∧ x ≤ 99
def rest (r2 : List Int) (T2 : List (List Int)) : List UInt8 := r2.flatMap (fun y => 32 :: dg y) ++ T2.flatMap (fun q => 47 :: rowT q)
theorem rest_head (r2 : List Int) (T2 : List (List Int)) : rest r2 T2 = [] ∨ ∃ c r, rest r2 T2 = c :: r ∧ (c = 32 ∨ c = 47) := by
  cases r2 with
  | cons y r => exact .inr ⟨32, _, rfl, .inl rfl⟩
  | nil =>
    cases T2 with
    | nil => exact .inl rfl
    | cons q T => exact .inr ⟨47, _, rfl, .inr rfl⟩
/-- A place in the text of T: out is read, x is to come. -/
def At (T : List (List Int)) (s : List UInt8) (p : Nat) (out : List (List Int)) : Prop :=
  ∃ (I : List (List Int)) (r1 : List Int) (x : Int) (r2 : List Int) (T2 : List (List Int)), T = I ++ (r1 ++ x :: r2) :: T2 ∧ begR out (newAt s p) = I ++ [r1] ∧ s.drop p = dg x ++ rest r2 T2 ∧ p ≤ s.length
theorem At.start {T : List (List Int)} (hT : T ≠ []) (hg : GoodD T) : At T (txt T) 0 [] := by
  match T, hT with
  | q :: T2, _ =>
    match q, hg.1 q (by simp) with
    | x :: r2, _ =>
      refine ⟨[], [], x, r2, T2, rfl, rfl, ?_, Nat.zero_le _⟩
      simp [txt, rowT, rest]
theorem At.num {T : List (List Int)} {s : List UInt8} {p : Nat} (hg : GoodD T) {I : List (List Int)} {r1 : List Int} {x : Int} {r2 : List Int} {T2 : List (List Int)} (hT : T = I ++ (r1 ++ x :: r2) :: T2) (hd : s.drop p = dg x ++ rest r2 T2) : num1 (s.drop p) = (x, (dg x).length) := by
  have := hg.2 (r1 ++ x :: r2) (by rw [hT]; simp) x (by simp)
  rw [hd]
  exact num1_dg this.1 this.2 (rest_head r2 T2)
theorem Rd.at_ {T : List (List Int)} (hT : T ≠ []) (hg : GoodD T) {p : Nat} {out : List (List Int)} (h : Rd (txt T) p out) : At T (txt T) p out := by
  obtain ⟨s, hs⟩ : ∃ s, s = txt T := ⟨_, rfl⟩
  rw [← hs] at h ⊢
  induction h with
  | start => rw [hs]; exact At.start hT hg
  | @next p out n k c h hn hk hc hsep ih =>
    obtain ⟨I, r1, x, r2, T2, e1, e2, e3, e4⟩ := ih
    have hnum := At.num hg e1 e3
    rw [hnum] at hn
    simp only [Prod.mk.injEq] at hn
    obtain ⟨rfl, rfl⟩ := hn
    rw [e2, push_snoc]
    have hdr : s.drop (p + (dg x).length) = rest r2 T2 := by rw [← List.drop_drop, e3, List.drop_left]
    have hpc : (rest r2 T2)[0]? = some c := by rw [← hdr, List.getElem?_drop]; simpa using hc
    have hlt : p + (dg x).length < s.length := (List.getElem?_eq_some_iff.1 hc).1
    have hnew : newAt s (p + (dg x).length + 1) = decide (c = 47) := by
      simp [newAt, hc]
    cases r2 with
    | cons y r2 =>
      simp [rest] at hpc
      subst hpc
      refine ⟨I, r1 ++ [x], y, r2, T2, by rw [e1]; simp, ?_, ?_, by omega⟩
      · rw [hnew]; rfl
      · rw [← List.drop_drop, hdr]; simp [rest]
    | nil =>
      cases T2 with
      | nil => simp [rest] at hpc
      | cons q T2 =>
        simp [rest] at hpc
        subst hpc
        match q, hg.1 q (by rw [e1]; simp) with
        | y :: q, _ =>
          refine ⟨I ++ [r1 ++ [x]], [], y, q, T2, by rw [e1]; simp, ?_, ?_, by omega⟩
          · rw [hnew]; rfl
          · rw [← List.drop_drop, hdr]; simp [rest, rowT]
/-! What is written, step by step. -/
/-! What is read of a number. -/
end Go.Proofs.Ytpmkdihencepnaa.Fil

/-
  Plain: what fill.Standard answers: ranks of boxes by letter and column.
-/
namespace Go.Proofs.Ytpmkdihencepnaa.Std1
def entD (T : List (List Int)) (i j : Nat) : Int := (T.getD i []).getD j 0
def len (T : List (List Int)) (i : Nat) : Nat := (T.getD i []).length
/-- All boxes, row by row. -/
def allB (T : List (List Int)) : List (Nat × Nat) := (List.range T.length).flatMap (fun i => (List.range (len T i)).map (fun j => (i, j)))
theorem mem_allB {T : List (List Int)} {b : Nat × Nat} : b ∈ allB T ↔ b.1 < T.length ∧ b.2 < len T b.1 := by
  obtain ⟨i, j⟩ := b
  simp only [allB, List.mem_flatMap, List.mem_range, List.mem_map, Prod.mk.injEq]
  constructor
  · rintro ⟨a, ha, c, hc, rfl, rfl⟩; exact ⟨ha, hc⟩
  · rintro ⟨h1, h2⟩; exact ⟨i, h1, j, h2, rfl, rfl⟩
theorem nodup_allB (T : List (List Int)) : (allB T).Nodup := by
  unfold allB List.Nodup
  rw [List.pairwise_flatMap]
  refine ⟨fun i _ => ?_, ?_⟩
  · rw [List.pairwise_map]
    exact List.nodup_range.imp (fun h e => h (by simpa using e))
  · refine List.nodup_range.imp (fun {a b} h x hx y hy e => ?_)
    obtain ⟨c, _, rfl⟩ := List.mem_map.1 hx
    obtain ⟨d, _, rfl⟩ := List.mem_map.1 hy
    exact h (by simpa using congrArg Prod.fst e)
/-- The order of boxes: by letter, then by column. -/
def less (T : List (List Int)) (b c : Nat × Nat) : Bool := decide (entD T b.1 b.2 < entD T c.1 c.2) || (decide (entD T b.1 b.2 = entD T c.1 c.2) && decide (b.2 < c.2))
theorem less_iff {T : List (List Int)} {b c : Nat × Nat} : less T b c = true ↔ entD T b.1 b.2 < entD T c.1 c.2 ∨ (entD T b.1 b.2 = entD T c.1 c.2 ∧ b.2 < c.2) := by simp [less]
def rkD (T : List (List Int)) (b : Nat × Nat) : Nat := (allB T).countP (fun c => less T c b)
def std (T : List (List Int)) : List (List Int) := (List.range T.length).map (fun i => (List.range (len T i)).map (fun j => ((rkD T (i, j) : Nat) : Int) + 1))
theorem std_length (T : List (List Int)) : (std T).length = T.length := by simp [std]
theorem std_len (T : List (List Int)) (i : Nat) : len (std T) i = len T i := by
  unfold len
  by_cases h : i < T.length
  · simp [std, h, len]
  · simp [std, h]
theorem std_ent {T : List (List Int)} {i j : Nat} (hi : i < T.length) (hj : j < len T i) : entD (std T) i j = ((rkD T (i, j) : Nat) : Int) + 1 := by
  simp [entD, std, hi, hj]
/-- In order. -/
structure TOk (T : List (List Int)) : Prop where
  row : ∀ i j, i < T.length → j + 1 < len T i → entD T i j ≤ entD T i (j + 1)
  col : ∀ i j, i + 1 < T.length → j < len T (i + 1) → j < len T i ∧ entD T i j < entD T (i + 1) j
theorem TOk.cols {T : List (List Int)} (h : TOk T) {i j : Nat} : ∀ {d : Nat}, i + d + 1 < T.length → j < len T (i + d + 1) → j < len T i ∧ entD T i j < entD T (i + d + 1) j
  | 0, h1, h2 => h.col i j h1 h2
  | d + 1, h1, h2 => by
    have e := h.col (i + (d + 1)) j (by omega) h2
    have ih := TOk.cols h (i := i) (j := j) (d := d) (by omega) (by rw [show i + d + 1 = i + (d + 1) by omega]; exact e.1)
    refine ⟨ih.1, ?_⟩
    rw [show i + d + 1 = i + (d + 1) by omega] at ih
    have := ih.2; have := e.2
    omega
theorem TOk.total {T : List (List Int)} (h : TOk T) {b c : Nat × Nat} (hb : b ∈ allB T) (hc : c ∈ allB T) (hne : b ≠ c) : less T b c = true ∨ less T c b = true := by
  rw [less_iff, less_iff]
  have hb := mem_allB.1 hb
  have hc := mem_allB.1 hc
  by_cases h1 : entD T b.1 b.2 = entD T c.1 c.2
  · by_cases h2 : b.2 = c.2
    · exfalso
      obtain ⟨i, j⟩ := b
      obtain ⟨i', j'⟩ := c
      simp only at h1 h2 hb hc
      subst h2
      rcases Nat.lt_trichotomy i i' with g | g | g
      · have := h.cols (i := i) (j := j) (d := i' - i - 1) (by omega) (by rw [show i + (i' - i - 1) + 1 = i' by omega]; exact hc.2)
        rw [show i + (i' - i - 1) + 1 = i' by omega] at this
        have := this.2
        omega
      · subst g; exact hne rfl
      · have := h.cols (i := i') (j := j) (d := i - i' - 1) (by omega) (by rw [show i' + (i - i' - 1) + 1 = i by omega]; exact hb.2)
        rw [show i' + (i - i' - 1) + 1 = i by omega] at this
        have := this.2
        omega
    · omega
  · omega
theorem less_trans {T : List (List Int)} {a b c : Nat × Nat} (h : less T a b = true) (h' : less T b c = true) : less T a c = true := by
  rw [less_iff] at *; omega
theorem less_irrefl {T : List (List Int)} {b : Nat × Nat} : less T b b = false := by
  cases h : less T b b with
  | false => rfl
  | true => rw [less_iff] at h; omega
theorem countP_lt {α : Type} {p q : α → Bool} : ∀ {l : List α} {a : α}, (∀ z, p z = true → q z = true) → a ∈ l → p a = false → q a = true → l.countP p < l.countP q
  | y :: l, a, hpq, ha, h1, h2 => by
    rw [List.countP_cons, List.countP_cons]
    have hle : l.countP p ≤ l.countP q := List.countP_mono_left (fun z _ => hpq z)
    rcases List.mem_cons.1 ha with e | ha
    · rw [← e, h1, h2]; simp; omega
    · have ih := countP_lt hpq ha h1 h2
      cases hp : p y with
      | false => simp; omega
      | true => rw [hpq y hp]; simp; omega
theorem rk_lt {T : List (List Int)} {b c : Nat × Nat} (hb : b ∈ allB T) (h : less T b c = true) : rkD T b < rkD T c :=
  countP_lt (fun _ hx => less_trans hx h) hb less_irrefl h
/-- What is standard is in order. -/
theorem TOk.std {T : List (List Int)} (h : TOk T) : TOk (std T) := by
  refine ⟨fun i j hi hj => ?_, fun i j hi hj => ?_⟩
  · rw [std_length] at hi
    rw [std_len] at hj
    rw [std_ent hi (by omega), std_ent hi hj]
    have := rk_lt (T := T) (b := (i, j)) (c := (i, j + 1)) (mem_allB.2 ⟨hi, by simp only; omega⟩) (less_iff.2 (by have := h.row i j hi hj; simp only; omega))
    omega
  · rw [std_length] at hi
    rw [std_len] at hj
    have hc := h.col i j hi hj
    rw [std_len]
    refine ⟨hc.1, ?_⟩
    rw [std_ent (by omega) hc.1, std_ent hi hj]
    have := rk_lt (T := T) (b := (i, j)) (c := (i + 1, j)) (mem_allB.2 ⟨by simp only; omega, hc.1⟩) (less_iff.2 (.inl hc.2))
    omega
/-- The i-th of a list in order has i before it. -/
theorem sorted_rank {T : List (List Int)} : ∀ {L : List (Nat × Nat)}, L.Pairwise (fun b c => less T b c = true) → ∀ i (hi : i < L.length), L.countP (fun c => less T c L[i]) = i
  | b :: L, h, 0, _ => by
    rw [List.countP_eq_zero]
    intro c hc
    rcases List.mem_cons.1 hc with e | hc
    · subst e; simp [less_irrefl]
    · have := (List.pairwise_cons.1 h).1 c hc
      intro g
      have := less_trans this g
      simp [less_irrefl] at this
  | b :: L, h, i + 1, hi => by
    have hi' : i < L.length := by simpa using hi
    rw [List.countP_cons, List.getElem_cons_succ, sorted_rank (List.pairwise_cons.1 h).2 i hi', if_pos ((List.pairwise_cons.1 h).1 _ (List.getElem_mem hi'))]
theorem rank_of_sorted {T : List (List Int)} {L : List (Nat × Nat)} (hp : L.Perm (allB T)) (h : L.Pairwise (fun b c => less T b c = true)) {i : Nat} (hi : i < L.length) : rkD T L[i] = i := by
  unfold rkD
  rw [← hp.countP_eq]
  exact sorted_rank h i hi
end Go.Proofs.Ytpmkdihencepnaa.Std1

/-
  Rows of things of k cells, sorted in place.
-/
namespace Go.Proofs.Ytpmkdihencepnaa
open Go.RowKit Go.Proofs
open Go.Shelf Go.Lib Go.Sort

section
variable {α : Type} {enc : α → List Value} {k : Nat}
def cellsK (enc : α → List Value) (m : List α) : List Value := m.flatMap enc
theorem cellsK_len (hk : ∀ x, (enc x).length = k) : ∀ m : List α, (cellsK enc m).length = m.length * k
  | [] => by simp [cellsK]
  | x :: m => by
    have ih := cellsK_len hk m
    simp only [cellsK, List.flatMap_cons, List.length_append, List.length_cons] at ih ⊢
    rw [hk, ih, Nat.add_mul]; omega
variable [Inhabited α]
theorem cellsK_get (hk : ∀ x, (enc x).length = k) (h0 : 0 < k) : ∀ {m : List α} {t : Nat}, t < m.length * k → (cellsK enc m)[t]? = (enc (m[t / k]!))[t % k]?
  | [], t, h => by simp at h
  | x :: m, t, h => by
    have e : cellsK enc (x :: m) = enc x ++ cellsK enc m := by simp [cellsK]
    rw [e]
    rcases Nat.lt_or_ge t k with c | c
    · rw [List.getElem?_append_left (by rw [hk]; exact c), Nat.div_eq_of_lt c, Nat.mod_eq_of_lt c]; rfl
    · obtain ⟨u, rfl⟩ : ∃ u, t = u + k := ⟨t - k, by omega⟩
      have hu : u < m.length * k := by
        rw [List.length_cons, Nat.add_mul, Nat.one_mul] at h; omega
      rw [List.getElem?_append_right (by rw [hk]; omega), hk, Nat.add_sub_cancel, Nat.add_div_right _ h0, Nat.add_mod_right, cellsK_get hk h0 hu]
      rfl
theorem flat_cellsK (hk : ∀ x, (enc x).length = k) (h0 : 0 < k) (m : List α) : flatK enc k m.toArray = (cellsK enc m).toArray := by
  have hl := cellsK_len hk m
  refine ext_get! (by simp [hl]) fun t ht => ?_
  have ht' : t < m.length * k := by simpa using ht
  rw [get_flatK _ _ _ _ (by simpa using ht')]
  have hg := cellsK_get hk h0 ht'
  have hd : t / k < m.length := (Nat.div_lt_iff_lt_mul h0).2 ht'
  have e0 : m.toArray[t / k]! = m[t / k]! := by simp
  rw [e0, getElem!_pos (cellsK enc m).toArray t (by simp [hl]; exact ht')]
  have hm : t % k < (enc (m[t / k]!)).length := by rw [hk]; exact Nat.mod_lt _ h0
  rw [List.getElem?_eq_getElem (by rw [hl]; exact ht'), List.getElem?_eq_getElem hm] at hg
  rw [getElem!_pos (enc (m[t / k]!)) (t % k) hm]
  simp only [List.getElem_toArray]
  exact (Option.some.inj hg).symm
theorem holdsKm {w : World} {base g cap n : Nat} {e : TypeId} {m : List α} (hk : ∀ x, (enc x).length = k) (h0 : 0 < k) (h : w.ownsRow base e k (.slice (some ⟨g, 0, none⟩) n cap) n (cellsK enc m)) : HoldsK enc k w g 0 m.toArray := by
  unfold HoldsK
  rw [flat_cellsK hk h0]
  intro j hj
  have hj' : j < (cellsK enc m).length := by simpa using hj
  refine ⟨?_, ?_⟩
  · rw [Nat.zero_add, h.cellAt j (by rw [← h.1]; exact hj'), List.getElem?_eq_getElem hj', getElem!_pos (cellsK enc m).toArray j hj]
    rfl
  · rw [Nat.zero_add]; exact h.frozenAt j
theorem ownKm {w : World} {base g cap n q : Nat} {e : TypeId} {m m' : List α} (hk : ∀ x, (enc x).length = k) (h0 : 0 < k) (h : w.ownsRow base e k (.slice (some ⟨g, 0, none⟩) n cap) n (cellsK enc m)) (hm : m'.length = m.length) :
    (putRowK enc k (Sort.ahead w q) g 0 m'.toArray).ownsRow base e k (.slice (some ⟨g, 0, none⟩) n cap) n (cellsK enc m') := by
  have hl := h.1
  have hl2 := cellsK_len hk m'
  have hl1 := cellsK_len hk m
  rw [hm, ← hl1, hl] at hl2
  unfold putRowK
  rw [flat_cellsK hk h0]
  rcases h.2 with ⟨e0, _⟩ | ⟨g', cap', cur, e0, hb, hg, hn, hmx, hs, ht⟩
  · cases e0
  · injection e0 with e1 _ e3
    injection e1 with e1
    injection e1 with e1
    subst e1; subst e3
    have hle : n * k ≤ cap * k := Nat.mul_le_mul_right _ hn
    refine ⟨hl2, .inr ⟨g, cap, putCells id 0 (cellsK enc m').toArray cur, rfl, hb, ?_, hn, hmx, by simpa [putCells] using hs, ?_⟩⟩
    · simp [putRow, mapBlock, Sort.ahead, Array.getElem?_modify, hg, onCells]
    · apply List.ext_getElem?
      intro j
      rw [List.getElem?_take, Array.getElem?_toList]
      by_cases hj : j < n * k
      · have hjc : j < cur.size := by omega
        rw [if_pos hj]
        simp only [putCells, Array.getElem?_mapIdx, Array.getElem?_eq_getElem hjc, Option.map_some]
        rw [if_pos (by simp; omega), List.getElem?_eq_getElem (by omega)]
        simp [getElem!_pos, show j < (cellsK enc m').length by omega]
      · rw [if_neg hj, List.getElem?_eq_none (by omega)]
end
theorem own_grow {w : World} {base size n : Nat} {e : TypeId} {v : Value} {cs : List Value} (h : w.ownsRow base e size v n cs) (os : Array Obj) : (grow w os).ownsRow base e size v n cs := by
  refine ⟨h.1, ?_⟩
  rcases h.2 with hn | ⟨g, cap, cur, rfl, hg, hh, rest⟩
  · exact .inl hn
  · refine .inr ⟨g, cap, cur, rfl, hg, ?_, rest⟩
    rw [heap_grow_old _ _ (Array.getElem?_eq_some_iff.1 hh).1]; exact hh
theorem below_growK {w : World} {B g q : Nat} {F : Array Value} {os : Array Obj} (hg : B ≤ g) (hB : B ≤ w.heap.size) : Below B w (grow (putRow id (Sort.ahead w q) g 0 F) os) := by
  have h1 : Below B w (putRow id (Sort.ahead w q) g 0 F) := below_putRow (Below.refl _ _) hg
  exact h1.trans (below_grow B _ (by have := h1.size; omega) 0 os)
end Go.Proofs.Ytpmkdihencepnaa

/-
  fill.Standard: its comparison of boxes, and boxes sorted by it.
-/
namespace Go.Proofs
open Go.Shelf
shelf_lay_g SlLaysF0.n6 Slsf 6 at Try 36 as Try.sortB
end Go.Proofs
namespace Go.Proofs.Ytpmkdihencepnaa
open Go.RowKit Go.Proofs
open Go.Shelf Go.Lib Go.Sort Std1

/-- A box' cells: row, column, letter. -/
def encB (T : List (List Int)) (b : Nat × Nat) : List Value := [.int .i64 b.1, .int .i64 b.2, .int .i64 (entD T b.1 b.2)]
def cfB (T : List (List Int)) (x y : Nat × Nat) : Int := orP (Lib.compareInt (entD T x.1 x.2) (entD T y.1 y.2)) (Lib.compareInt x.2 y.2)
theorem ltB (T : List (List Int)) (x y : Nat × Nat) : ltOf (cfB T) x y = less T x y := by
  unfold ltOf cfB less orP Lib.compareInt
  by_cases h1 : entD T x.1 x.2 < entD T y.1 y.2
  · simp [h1]
  · by_cases h2 : entD T y.1 y.2 < entD T x.1 x.2
    · have : ¬ entD T x.1 x.2 = entD T y.1 y.2 := by omega
      simp [h1, h2, this]
    · have h3 : entD T x.1 x.2 = entD T y.1 y.2 := by omega
      by_cases h4 : x.2 < y.2
      · have h4' : (x.2 : Int) < (y.2 : Int) := by omega
        simp [h3, h4, h4']
      · have h4' : ¬ (x.2 : Int) < (y.2 : Int) := by omega
        by_cases h5 : (y.2 : Int) < (x.2 : Int) <;> simp [h3, h4, h4', h5]
theorem less_fal {T : List (List Int)} {x y : Nat × Nat} : less T x y = false ↔ ¬ (entD T x.1 x.2 < entD T y.1 y.2 ∨ (entD T x.1 x.2 = entD T y.1 y.2 ∧ x.2 < y.2)) := by rw [← less_iff]; simp
theorem swoB (T : List (List Int)) : SWO (ltOf (cfB T)) where
  irrefl x := by rw [ltB]; exact less_irrefl
  trans x y z h1 h2 := by rw [ltB] at *; exact less_trans h1 h2
  ntrans x y z h1 h2 := by rw [ltB, less_fal] at *; omega

set_option maxRecDepth 100000 in
set_option maxHeartbeats 2000000 in
theorem bcmp_any (T : List (List Int)) (x y : Nat × Nat) (w : World) : Calls Try.prog 37 #[.agg (encB T x).toArray, .agg (encB T y).toArray] w fun e w' => e = .returned (.int .i64 (cfB T x y)) ∧ ∃ o1 o2 o3, w' = (((w.alloc o1).alloc o2).drewN 1).alloc o3 := by
  obtain ⟨x0, x1⟩ := x
  obtain ⟨y0, y1⟩ := y
  obtain ⟨x2, hx2'⟩ : ∃ z, z = entD T x0 x1 := ⟨_, rfl⟩
  obtain ⟨y2, hy2'⟩ : ∃ z, z = entD T y0 y1 := ⟨_, rfl⟩
  have hc : Hid (cfB T (x0, x1) (y0, y1) = orP (Lib.compareInt x2 y2) (Lib.compareInt x1 y1)) := by show _ = _; rw [hx2', hy2']; rfl
  rw [hc.out]
  unfold encB
  simp only
  rw [← hx2', ← hy2']
  obtain ⟨c1, hc1⟩ : ∃ c, c = Lib.compareInt x2 y2 := ⟨_, rfl⟩
  obtain ⟨c2, hc2⟩ : ∃ c, c = Lib.compareInt (x1 : Int) y1 := ⟨_, rfl⟩
  have H1 : Hid (∀ w, Calls Try.prog 39 #[.int .i64 x2, .int .i64 y2] w fun e w' => e = .returned (.int .i64 c1) ∧ w = w') := Lib.hid fun w => by rw [hc1]; exact cmp_any x2 y2 w
  have H2 : Hid (∀ w, Calls Try.prog 39 #[.int .i64 (x1 : Int), .int .i64 (y1 : Int)] w fun e w' => e = .returned (.int .i64 c2) ∧ w = w') := Lib.hid fun w => by rw [hc2]; exact cmp_any x1 y1 w
  rw [← hc1, ← hc2]
  clear hc hc1 hc2 hx2' hy2'
  obtain ⟨z0, hz0'⟩ : ∃ z : Int, z = x0 := ⟨_, rfl⟩
  obtain ⟨z1, hz1'⟩ : ∃ z : Int, z = x1 := ⟨_, rfl⟩
  obtain ⟨v0, hv0'⟩ : ∃ z : Int, z = y0 := ⟨_, rfl⟩
  obtain ⟨v1, hv1'⟩ : ∃ z : Int, z = y1 := ⟨_, rfl⟩
  rw [← hz1', ← hv1'] at H2
  rw [← hz0', ← hz1', ← hv0', ← hv1']
  clear hz0' hz1' hv0' hv1'
  show Calls Try.prog 37 #[.agg #[.int .i64 z0, .int .i64 z1, .int .i64 x2], .agg #[.int .i64 v0, .int .i64 v1, .int .i64 y2]] w _
  go_enter Try.func37, Try.ntmps37
  go_upto_region 1 with fail
  obtain ⟨w2, hw2⟩ : ∃ w2, w2 = (w.alloc (.cells #[.int .i64 z0, .int .i64 z1, .int .i64 x2] 48)).alloc (.cells #[.int .i64 v0, .int .i64 v1, .int .i64 y2] 48) := ⟨_, rfl⟩
  have s1 : (w.alloc (.cells #[.int .i64 z0, .int .i64 z1, .int .i64 x2] 48)).heap.size = w.heap.size + 1 := by simp
  have hx1 : w2.cell? ⟨w.heap.size, 1, none⟩ = some (.int .i64 z1) := by
    rw [hw2, World.cell?_of_block (a := ⟨w.heap.size, 1, none⟩) (heap_alloc_old _ _ (by simp)), World.cell?_alloc_at _ _ _ _ rfl]; rfl
  have hx2 : w2.cell? ⟨w.heap.size, 2, none⟩ = some (.int .i64 x2) := by
    rw [hw2, World.cell?_of_block (a := ⟨w.heap.size, 2, none⟩) (heap_alloc_old _ _ (by simp)), World.cell?_alloc_at _ _ _ _ rfl]; rfl
  have hy1 : w2.cell? ⟨w.heap.size + 1, 1, none⟩ = some (.int .i64 v1) := by rw [hw2, World.cell?_alloc_at _ _ _ _ s1.symm]; rfl
  have hy2 : w2.cell? ⟨w.heap.size + 1, 2, none⟩ = some (.int .i64 y2) := by rw [hw2, World.cell?_alloc_at _ _ _ _ s1.symm]; rfl
  obtain ⟨N, hN⟩ : ∃ N, N = w.heap.size := ⟨_, rfl⟩
  have hf : Hid (∃ o1 o2, w2 = (w.alloc o1).alloc o2) := ⟨_, _, hw2⟩
  rw [← hw2]
  rw [← hN] at hx1 hx2 hy1 hy2 ⊢
  clear hw2 hN s1
  have k1 : w2.drew.cell? ⟨N, 1, none⟩ = some (.int .i64 z1) := hx1
  have k2 : w2.drew.cell? ⟨N, 2, none⟩ = some (.int .i64 x2) := hx2
  have k3 : w2.drew.cell? ⟨N + 1, 1, none⟩ = some (.int .i64 v1) := hy1
  have k4 : w2.drew.cell? ⟨N + 1, 2, none⟩ = some (.int .i64 y2) := hy2
  have HOR : Hid (∀ o w3, w3 = w2.drew.alloc (.cells #[.int .i64 c1, .int .i64 c2] o) → Calls Try.prog 38 #[.slice (some ⟨w2.heap.size, 0, none⟩) 2 2] w3 fun e w' => e = .returned (.int .i64 (orP c1 c2)) ∧ w3 = w') := Lib.hid fun o w3 h3 => by
    subst h3
    refine or_any _ 2 c1 c2 _ ?_ ?_
    · show (w2.drew.alloc _).cell? ⟨w2.drew.heap.size, 0, none⟩ = _; rw [World.cell?_alloc_at _ _ _ _ rfl]; rfl
    · show (w2.drew.alloc _).cell? ⟨w2.drew.heap.size, 1, none⟩ = _; rw [World.cell?_alloc_at _ _ _ _ rfl]; rfl
  go_wp2
  go_region_held3 (fun w' => w'.cell? ⟨N, 1, none⟩ = some (.int .i64 z1) ∧ w'.cell? ⟨N, 2, none⟩ = some (.int .i64 x2) ∧ w'.cell? ⟨N + 1, 1, none⟩ = some (.int .i64 v1) ∧ w'.cell? ⟨N + 1, 2, none⟩ = some (.int .i64 y2)) (first | go_keep | exact ⟨hx1, hx2, hy1, hy2⟩)
    (first | (go_at_call_of 39 (Value.int .i64 x2); refine (H1.out _).mono ?_; rintro e w' ⟨rfl, rfl⟩) | (go_at_call_of 39 (Value.int .i64 z1); refine (H2.out _).mono ?_; rintro e w' ⟨rfl, rfl⟩) | (go_at_call 38; refine (HOR.out _ _ rfl).mono ?_; rintro e w' ⟨rfl, rfl⟩) | fail)
  all_goals
    go_wp2
    go_ret
    obtain ⟨o1, o2, h⟩ := hf.out
    refine ⟨rfl, o1, o2, .cells #[.int .i64 c1, .int .i64 c2] 3, ?_⟩
    rw [h]; rfl
theorem bcmp_lays (T : List (List Int)) (blk off size : Nat) (w : World) : CmpLays Try.prog 37 #[] (encB T) 3 (cfB T) blk off size w := fun m os dk _ x y => by
  refine (bcmp_any T x y _).mono ?_
  rintro e w' ⟨rfl, o1, o2, o3, rfl⟩
  refine ⟨rfl, 1, #[o1, o2, o3], ?_⟩
  obtain ⟨W, hW⟩ : ∃ W, W = sortWorldK (encB T) 3 w blk off m dk os := ⟨_, rfl⟩
  rw [← hW]
  show (((W.alloc o1).alloc o2).drewN 1).alloc o3 = { W.drewN 1 with heap := (W.drewN 1).heap ++ #[o1, o2, o3] }
  have : (W.drewN 1).heap ++ #[o1, o2, o3] = ((W.heap.push o1).push o2).push o3 := by
    show W.heap ++ #[o1, o2, o3] = _
    apply Array.ext'
    simp
  rw [this]; rfl
/-- Boxes sorted. -/
def SbxOut (T : List (List Int)) (base : Nat) (v : Value) (w' : World) : Prop := ∃ L : List (Nat × Nat), L.Perm (allB T) ∧ L.Pairwise (fun b c => less T b c = true) ∧ w'.ownsRow base 48 3 v L.length (cellsK (encB T) L)
theorem sortB_any {base : Nat} (v : Value) (T : List (List Int)) (hT : TOk T) (w : World) (hn : (allB T).length < 1000000) (hB : base ≤ w.heap.size) (h : w.ownsRow base 48 3 v (allB T).length (cellsK (encB T) (allB T))) :
    Calls Try.prog 36 #[v, .func (.func 37) #[] #[]] w fun e w' => (e = .returned (.tuple #[]) ∧ SbxOut T base v w') ∧ Below base w w' := by
  have hk : ∀ x, (encB T x).length = 3 := fun _ => rfl
  rcases h.2 with ⟨rfl, h0⟩ | ⟨g, cap, cur, rfl, hb, hh, hc⟩
  · have e : allB T = [] := List.eq_nil_of_length_eq_zero h0
    have hS := AnyF.slices_SortFunc_none (P := Try.prog) (ρ := Try.sortB_ren) { Try.sortB with } none 0 (.func (.func 37) #[] #[]) w
    refine (show Calls _ _ _ _ _ from hS).mono ?_
    rintro e' w' ⟨rfl, rfl⟩
    exact ⟨⟨rfl, [], by rw [e], List.Pairwise.nil, World.ownsRow_nil _ _ _ _⟩, Below.refl _ _⟩
  · have hlt : g < w.heap.size := (Array.getElem?_eq_some_iff.1 hh).1
    have eg : ∀ args w, (callFunc 37 args).run Try.prog w = .ok (.enter 37 args) w := enters_of Try.func37 (by kernel_rfl) rfl
    have hS := AnyQ.slices_SortFunc Try.sortB 3 Try.isAgg48 Try.sizeOf48 (encB T) hk (fun x v hv => by simp [encB] at hv; rcases hv with rfl | rfl | rfl <;> rfl) (cfB T) (swoB T) 37 #[] g 0 cap (allB T).toArray w eg (bcmp_lays T g 0 _ w) (holdsKm hk (by decide) h) hlt (by simp; omega)
    have hsz : (allB T).toArray.size = (allB T).length := by simp
    rw [hsz] at hS
    refine (show Calls _ _ _ _ _ from hS).mono ?_
    rintro e w' ⟨rfl, d', q, os, hp, hs, rfl⟩
    obtain ⟨hsz2, _, hperm⟩ := hp
    have hsd : d'.size = (allB T).length := by rw [hsz2]; simp
    have hp2 : d'.toList.Perm (allB T) := by
      have e1 : d'.extract 0 (allB T).length = d' := by rw [← hsd]; exact Array.extract_size
      have e2 : (allB T).toArray.extract 0 (allB T).length = (allB T).toArray := by
        rw [← hsz]; exact Array.extract_size
      rw [e1, e2] at hperm
      exact hperm
    refine ⟨⟨rfl, d'.toList, hp2, ?_, ?_⟩, below_growK hb hB⟩
    · rw [List.pairwise_iff_getElem]
      intro i j hi hj hij
      have hi' : i < d'.size := by simpa using hi
      have hj' : j < d'.size := by simpa using hj
      have h3 := hs i j (Nat.zero_le _) hij (by rw [← hsd]; exact hj')
      rw [getElem!_pos d' i hi', getElem!_pos d' j hj', ltB] at h3
      have hnd : d'.toList.Nodup := hp2.nodup_iff.2 (nodup_allB T)
      have hne : d'.toList[i] ≠ d'.toList[j] := fun e => by
        have := (List.getElem_inj hnd).1 e
        omega
      rcases hT.total (hp2.mem_iff.1 (List.getElem_mem hi)) (hp2.mem_iff.1 (List.getElem_mem hj)) hne with g | g
      · exact g
      · rw [show d'.toList[j] = d'[j] from by simp, show d'.toList[i] = d'[i] from by simp] at g
        rw [h3] at g
        cases g
    · rw [hp2.length_eq]
      have := own_grow (ownKm (q := q) (m' := d'.toList) hk (by decide) h hp2.length_eq) os
      rw [Array.toArray_toList] at this
      exact this
end Go.Proofs.Ytpmkdihencepnaa

/-
  Plain: boxes in the order in which they are met; ranks laid one by one.
-/
namespace Go.Proofs.Ytpmkdihencepnaa.Std1

theorem getD_ext {T U : List (List Int)} (h1 : T.length = U.length) (h2 : ∀ i, i < T.length → len T i = len U i) (h3 : ∀ i j, i < T.length → j < len T i → entD T i j = entD U i j) : T = U := by
  apply List.ext_getElem h1
  intro i a b
  have e1 : T.getD i [] = T[i] := by rw [List.getD_eq_getElem?_getD, List.getElem?_eq_getElem a]; rfl
  have e2 : U.getD i [] = U[i] := by rw [List.getD_eq_getElem?_getD, List.getElem?_eq_getElem b]; rfl
  have hl := h2 i a
  unfold len at hl
  rw [e1, e2] at hl
  apply List.ext_getElem hl
  intro j c d
  have hj : j < len T i := by unfold len; rw [e1]; exact c
  have := h3 i j a hj
  unfold entD at this
  rw [e1, e2, List.getD_eq_getElem?_getD, List.getD_eq_getElem?_getD, List.getElem?_eq_getElem c, List.getElem?_eq_getElem d] at this
  exact this
theorem TOk.of {T : List (List Int)} (h : FillOk T) : TOk T := by
  refine ⟨fun i j hi hj => ?_, fun i j hi hj => ?_⟩
  · have := ((h.row hi).2.2 (j + 1) hj).2.1 (by omega)
    rw [Nat.add_sub_cancel] at this
    exact this
  · have hr := h.row hi
    have h1 := hr.2.1 (by omega)
    have h2 := (hr.2.2 j hj).2.2 (by omega)
    rw [Nat.add_sub_cancel] at h1 h2
    exact ⟨Nat.lt_of_lt_of_le hj h1, h2⟩
/-- The boxes that come ahead of row i's box j. -/
def preB (T : List (List Int)) (i j : Nat) : List (Nat × Nat) := (List.range i).flatMap (fun i => (List.range (len T i)).map (fun j => (i, j))) ++ (List.range j).map (fun j => (i, j))
theorem preB_next (T : List (List Int)) (i j : Nat) : preB T i j ++ [(i, j)] = preB T i (j + 1) := by simp [preB, List.range_succ]
theorem preB_row (T : List (List Int)) (i : Nat) : preB T i (len T i) = preB T (i + 1) 0 := by simp [preB, List.range_succ]
theorem preB_all (T : List (List Int)) : preB T T.length 0 = allB T := by simp [preB, allB]
theorem preB_len {T : List (List Int)} (h : ∀ i, len T i ≤ 40) : ∀ i j, (preB T i j).length ≤ 40 * i + j
  | 0, j => by simp [preB]
  | i + 1, j => by
    have ih := preB_len h i (len T i)
    have e : (preB T (i + 1) j).length = (preB T i (len T i)).length + j := by simp [preB, List.range_succ, Nat.add_assoc]
    have := h i
    omega
/-- The first q boxes of L bear their ranks. -/
def mixS (T : List (List Int)) (L : List (Nat × Nat)) (q : Nat) : List (List Int) :=
  (List.range T.length).map (fun i => (List.range (len T i)).map (fun j => if (i, j) ∈ L.take q then ((rkD T (i, j) : Nat) : Int) + 1 else entD T i j))
theorem mixS_length (T : List (List Int)) (L : List (Nat × Nat)) (q : Nat) : (mixS T L q).length = T.length := by simp [mixS]
theorem mixS_len (T : List (List Int)) (L : List (Nat × Nat)) (q i : Nat) : len (mixS T L q) i = len T i := by
  unfold len
  by_cases h : i < T.length
  · simp [mixS, h, len]
  · simp [mixS, h]
theorem mixS_ent {T : List (List Int)} {L : List (Nat × Nat)} {q i j : Nat} (hi : i < T.length) (hj : j < len T i) : entD (mixS T L q) i j = if (i, j) ∈ L.take q then ((rkD T (i, j) : Nat) : Int) + 1 else entD T i j := by
  simp [entD, mixS, hi, hj]
theorem mixS_zero (T : List (List Int)) (L : List (Nat × Nat)) : mixS T L 0 = T := by
  refine getD_ext (mixS_length _ _ _) (fun i _ => mixS_len _ _ _ _) (fun i j hi hj => ?_)
  rw [mixS_length] at hi
  rw [mixS_len] at hj
  rw [mixS_ent hi hj]; simp
theorem mixS_all {T : List (List Int)} {L : List (Nat × Nat)} (h : L.Perm (allB T)) : mixS T L L.length = std T := by
  refine getD_ext (by rw [mixS_length, std_length]) (fun i _ => by rw [mixS_len, std_len]) (fun i j hi hj => ?_)
  rw [mixS_length] at hi
  rw [mixS_len] at hj
  rw [mixS_ent hi hj, std_ent hi hj, List.take_length, if_pos (h.mem_iff.2 (mem_allB.2 ⟨hi, hj⟩))]
theorem set2_len {T : List (List Int)} {i j : Nat} {x : Int} (k : Nat) : len (T.set i ((T.getD i []).set j x)) k = len T k := by
  unfold len
  by_cases h : i = k
  · subst h
    by_cases hl : i < T.length
    · rw [List.getD_eq_getElem?_getD, List.getElem?_set_self hl]; simp
    · rw [List.set_eq_of_length_le (by omega)]
  · rw [List.getD_eq_getElem?_getD, List.getElem?_set_ne h, ← List.getD_eq_getElem?_getD]
theorem set2_ent {T : List (List Int)} {i j : Nat} {x : Int} {a b : Nat} (hi : i < T.length) (hj : j < len T i) : entD (T.set i ((T.getD i []).set j x)) a b = if (a, b) = (i, j) then x else entD T a b := by
  unfold entD
  by_cases h : i = a
  · subst h
    rw [List.getD_eq_getElem?_getD (l := T.set i _), List.getElem?_set_self hi]
    show ((T.getD i []).set j x).getD b 0 = _
    by_cases h2 : j = b
    · subst h2
      rw [if_pos rfl, List.getD_eq_getElem?_getD, List.getElem?_set_self hj]; rfl
    · rw [if_neg (by simp; omega), List.getD_eq_getElem?_getD, List.getElem?_set_ne h2, ← List.getD_eq_getElem?_getD]
  · rw [if_neg (by simp; omega), List.getD_eq_getElem?_getD (l := T.set i _), List.getElem?_set_ne h, ← List.getD_eq_getElem?_getD]
theorem mixS_step {T : List (List Int)} {L : List (Nat × Nat)} (hp : L.Perm (allB T)) (hs : L.Pairwise (fun b c => less T b c = true)) {q : Nat} (hq : q < L.length) {i j : Nat} (he : L[q] = (i, j)) :
    i < T.length ∧ j < len T i ∧ (mixS T L q).set i (((mixS T L q).getD i []).set j ((q : Int) + 1)) = mixS T L (q + 1) := by
  have hm : (i, j) ∈ allB T := by rw [← he]; exact hp.mem_iff.1 (List.getElem_mem hq)
  obtain ⟨hi, hj⟩ := mem_allB.1 hm
  simp only at hi hj
  have hr := rank_of_sorted hp hs hq
  rw [he] at hr
  refine ⟨hi, hj, getD_ext (by rw [List.length_set, mixS_length, mixS_length]) (fun k _ => by rw [set2_len, mixS_len, mixS_len]) (fun a b ha hb => ?_)⟩
  rw [List.length_set, mixS_length] at ha
  rw [set2_len, mixS_len] at hb
  rw [set2_ent (by rw [mixS_length]; exact hi) (by rw [mixS_len]; exact hj), mixS_ent ha hb, mixS_ent ha hb, List.take_add_one, List.getElem?_eq_getElem hq, he]
  by_cases h : (a, b) = (i, j)
  · rw [if_pos h, if_pos (by rw [h]; simp), h, hr]
  · rw [if_neg h]
    have : ((a, b) ∈ L.take q ++ (some (i, j)).toList) ↔ (a, b) ∈ L.take q := by simp [h]
    simp only [this]
end Go.Proofs.Ytpmkdihencepnaa.Std1

/-
  fill.Standard: what it answers.
-/
namespace Go.Proofs.Ytpmkdihencepnaa
open Go.RowKit Go.Proofs Std1

theorem Try.infoBox : (Try.prog.info? 48).map (fun i => (i.zero, i.size, i.bytes)) = some (some (.agg #[.int .i64 0, .int .i64 0, .int .i64 0]), 3, 24) := by kernel_rfl
/-- 'append(v, x)' of one box. -/
theorem wpList_appB {w : World} {base : Nat} {U : List (List Int)} {l : List (Nat × Nat)} {v : Value} {ops : Array Oper} {rest : List Oper} {o : Oper} {a : Act} {Q : Exit → Act → World → Prop} (hgd : o.guard = none) (s x : Operand)
    (ho : o.op = .call { callee := .builtin .append, args := #[s, x], argTypes := #[46, 46] }) (hs : a.eval s = v) (y : Nat × Nat) {n : Nat}
    (hown : w.ownsRow base 48 3 v n (cellsK (encB U) l)) (g0 : Nat) (hg0 : g0 = w.heap.size) (hx : a.eval x = .slice (some ⟨g0, 0, none⟩) 1 1) (hlen : n < 1000000) (hbase : base ≤ w.heap.size)
    (h : ∀ g cap w', w'.ownsRow base 48 3 (.slice (some ⟨g, 0, none⟩) (n + 1) cap) (n + 1) (cellsK (encB U) (l ++ [y])) → Below base w w' →
      wpList Try.prog ops Q rest (a.put o.dst (.slice (some ⟨g, 0, none⟩) (n + 1) cap)) w') :
    wpList Try.prog ops Q (o :: rest) a (w.alloc (.cells #[.int .i64 y.1, .int .i64 y.2, .int .i64 (entD U y.1 y.2)] 48)) := by
  subst hg0
  obtain ⟨i0, hi, hz0, hz1, hz2⟩ := info_parts Try.infoBox
  refine wpList_append_lies _ hgd s x 46 ho base 48 i0 (.agg #[.int .i64 0, .int .i64 0, .int .i64 0]) 3 24 Try.underlying46 hi hz0 hz1 hz2 rfl (by decide) v n (cellsK (encB U) l) hs (hown.alloc _) ⟨w.heap.size, 0, none⟩ 1 1 [.int .i64 y.1, .int .i64 y.2, .int .i64 (entD U y.1 y.2)] hx rfl ?_ (by simp [Value.oneCell']) (by decide)
    (by unfold maxLen; omega) (by omega) (by simp; omega) _ rfl (fun g cap w' h1 h2 h3 _ => ?_)
  · intro j u hu
    match j, hu with
    | 0, hu => simp at hu; subst hu; simp [Addr.add]
    | 1, hu => simp at hu; subst hu; simp [Addr.add]
    | 2, hu => simp at hu; subst hu; simp [Addr.add]
  · refine h g cap w' ?_ (((Below.refl base w).alloc hbase _).grown h2 (by simp; omega) (fun b hb => (hown.lt b hb).1))
    have e : cellsK (encB U) (l ++ [y]) = cellsK (encB U) l ++ [.int .i64 y.1, .int .i64 y.2, .int .i64 (entD U y.1 y.2)] := by simp [cellsK, encB]
    rw [e]; exact h1
theorem OwnM.lower {w : World} {B B' : Nat} {v : Value} {hs : List Value} {rows : List (List Int)} (h : OwnM w B v hs rows) (hB : B' ≤ B) : OwnM w B' v hs rows :=
  ⟨h.len, h.out.mono hB, fun r hr => (h.inn r hr).mono hB, h.far, h.top⟩
theorem own_sliceK {w : World} {base n k : Nat} {e : TypeId} {v : Value} {cs : List Value} (h : w.ownsRow base e k v n cs) : ∃ A c, v = .slice A n c ∧ n ≤ c ∧ c ≤ 9223372036854775807 := by
  rcases h.2 with ⟨e1, e2⟩ | ⟨g, cap, cur, e1, _, _, h1, h2, _⟩
  · exact ⟨none, 0, by rw [e2]; exact e1, by omega, by omega⟩
  · exact ⟨_, cap, e1, h1, by simpa [maxLen] using h2⟩
theorem boxes_at {w : World} {base n g c : Nat} {T : List (List Int)} {L : List (Nat × Nat)} (h : w.ownsRow base 48 3 (.slice (some ⟨g, 0, none⟩) n c) n (cellsK (encB T) L)) (hn : n = L.length) {q : Nat} (hq : q < L.length) {i j : Nat} (he : L[q] = (i, j)) :
    w.cell? ⟨g, q * 3, none⟩ = some (.int .i64 i) ∧ w.cell? ⟨g, q * 3 + 1, none⟩ = some (.int .i64 j) ∧ w.cell? ⟨g, q * 3 + 2, none⟩ = some (.int .i64 (entD T i j)) := by
  have hk : ∀ x, (encB T x).length = 3 := fun _ => rfl
  have e0 : L[q]! = (i, j) := by rw [getElem!_pos L q hq, he]
  have key : ∀ r u, r < 3 → (encB T (i, j))[r]? = some u → w.cell? ⟨g, q * 3 + r, none⟩ = some u := fun r u hr hu => by
    rw [h.cellAt _ (by omega), cellsK_get hk (by decide) (by omega), show (q * 3 + r) / 3 = q by omega, show (q * 3 + r) % 3 = r by omega, e0]
    exact hu
  exact ⟨key 0 _ (by decide) rfl, key 1 _ (by decide) rfl, key 2 _ (by decide) rfl⟩
def StdR (T : List (List Int)) (B : Nat) (e : Ending) (w' : World) : Prop :=
  (FillOk T ∧ ∃ v hs, e = .returned (.tuple #[v, .int .i64 0]) ∧ OwnM w' B v hs (std T)) ∨ (¬ FillOk T ∧ ∃ k : Int, k ≠ 0 ∧ e = .returned (.tuple #[.slice none 0 0, .int .i64 k]))
set_option maxRecDepth 100000 in
set_option maxHeartbeats 8000000 in
theorem std_any (A : Option Addr) (cap : Nat) (T : List (List Int)) (w : World) (hT : T.length ≤ 9223372036854775807) (h : SR w w.heap.size A T) :
    Calls Try.prog 4 #[.slice A T.length cap] w fun e w' => StdR T w.heap.size e w' ∧ Below w.heap.size w w' := by
  go_enter Try.func4, Try.ntmps4
  go_wp2_with (first | (go_at_call 35; refine (fcheck_any A cap T _ hT h).mono ?_) | fail)
  rintro e w1 ⟨⟨k, rfl, hk1, hk2⟩, rfl⟩
  by_cases hk0 : k = 0
  · have hok := hk1 hk0
    have hT4 := hok.small.1
    have HOK := Lib.hid hok
    have HT5 := Lib.hid hok.small.2
    have HTO := Lib.hid (TOk.of hok)
    have HPL : Hid (∀ i j, (preB T i j).length ≤ 40 * i + j) := preB_len (fun i => HT5.out i)
    have HH := Lib.hid h
    subst hk0
    clear hk1 hk2 hok
    obtain ⟨N, hN⟩ : ∃ N, N = w.heap.size := ⟨_, rfl⟩
    have HNE := Lib.hid hN
    clear hN
    go_wp2
    go_loopw [5, 20] (fun lv iv wr => ∃ (vL : Value) (i m : Nat), vL = lv ∧ i ≤ T.length ∧ iv = .int .i64 i ∧ m = (preB T i 0).length ∧ wr.ownsRow N 48 3 vL m (cellsK (encB T) (preB T i 0)) ∧ Below N w wr) (fun _ iv _ => T.length - (Go.RowKit.intOf iv).toNat)
    case atStart => exact ⟨_, 0, 0, rfl, Nat.zero_le _, rfl, rfl, World.ownsRow_nil _ _ _ _, by rw [HNE.out]; exact Below.refl _ _⟩
    case round =>
      obtain ⟨w9, rfl⟩ : ∃ w9, w9 = wr := ⟨_, rfl⟩
      obtain ⟨vL, i, m, rfl, hi, rfl, hm, hown, hW⟩ := hrel
      by_cases hit : i < T.length
      · have di : decide (i < T.length) = true := decide_eq_true hit
        have di2 : decide ((i : Int) < (T.length : Int)) = true := decide_eq_true (by omega)
        obtain ⟨b, o, rfl, hb⟩ := HH.out.addr (by omega)
        have h2 := HH.out.below (by rw [← HNE.out]; exact hW)
        obtain ⟨Ar, cr, hc, hr, hrl⟩ := h2.at_ hit
        have hr40 := HT5.out i
        have HLEN : Hid ((T.getD i []).length = len T i) := rfl
        have HROW : Hid (∀ j, j < (T.getD i []).length → ∃ g p, Ar = some ⟨g, p, none⟩ ∧ g < w.heap.size ∧ w.cell? ⟨g, p + j, none⟩ = some (.int .i64 (entD T i j))) := fun j hj => by
          obtain ⟨Ar2, cr2, hc2, hr2, _⟩ := HH.out.at_ hit
          have e := (hW.cell (p := ⟨b, o + i, none⟩) (by rw [HNE.out]; exact hb)).trans hc2
          rw [hc] at e
          have e2 : Ar = Ar2 := by
            have := Option.some.inj e
            injection this
          rw [e2]
          obtain ⟨g, p, e3, hg⟩ := hr2.addr (by omega)
          rw [e3] at hr2
          exact ⟨g, p, e3, hg, getD_cell hr2 hj⟩
        obtain ⟨n, hn⟩ : ∃ n, n = (T.getD i []).length := ⟨_, rfl⟩
        rw [← hn] at hc hrl hr40 HLEN HROW
        have HO := Lib.hid hown
        have HM := Lib.hid hm
        have HW := Lib.hid hW
        clear hn hr h2 hown hm hW
        go_upto_region 9 with fail
        go_loopw [5, 27] (fun lv jv wz => ∃ (vL : Value) (j m : Nat), vL = lv ∧ j ≤ n ∧ jv = .int .i64 j ∧ m = (preB T i j).length ∧ wz.ownsRow N 48 3 vL m (cellsK (encB T) (preB T i j)) ∧ Below N w wz) (fun _ jv _ => n - (Go.RowKit.intOf jv).toNat)
        case atStart => exact ⟨_, 0, m, rfl, Nat.zero_le _, rfl, HM.out, HO.out, HW.out⟩
        case round =>
          obtain ⟨w8, rfl⟩ : ∃ w8, w8 = wr := ⟨_, rfl⟩
          clear HO HM HW hc m
          obtain ⟨vL, j, m, rfl, hj, rfl, hm, hown, hW⟩ := hrel
          by_cases hjn : j < n
          · have dj : decide (j < n) = true := decide_eq_true hjn
            have dj2 : decide ((j : Int) < (n : Int)) = true := decide_eq_true (by omega)
            obtain ⟨g, p, rfl, hg, hcx⟩ := HROW.out j hjn
            have hcx := (hW.cell (p := ⟨g, p + j, none⟩) (by rw [HNE.out]; exact hg)).trans hcx
            have hml : m < 1000000 := by have := HPL.out i j; omega
            have hnx : Hid (preB T i j ++ [(i, j)] = preB T i (j + 1)) := preB_next T i j
            have hmx : Hid (m + 1 = (preB T i (j + 1)).length) := by show _ = _; rw [← hnx.out, List.length_append, hm]; rfl
            have hNs : N ≤ w8.heap.size := by have := hW.size; have := HNE.out; omega
            obtain ⟨x, hx⟩ : ∃ x, x = entD T i j := ⟨_, rfl⟩
            rw [← hx] at hcx
            have HXE := Lib.hid hx
            have HO := Lib.hid hown
            have HW := Lib.hid hW
            clear hx hm hown hW
            go_upto_region 12 with (first | (at_builtin; rw [HXE.out]; refine wpList_appB (base := N) (U := T) (l := preB T i j) (v := vL) rfl (.tmp 32) (.tmp 37) rfl rfl (i, j) HO.out w8.heap.size rfl rfl hml hNs (fun g6 c6 w6 hown6 hb6 => ?_)) | fail)
            rw [hnx.out] at hown6
            have HO6 := Lib.hid hown6
            have HW6 := Lib.hid (HW.out.trans hb6)
            clear hown6 hb6 HO HW hcx
            go_wp2
            go_roundw
            case rel => exact ⟨_, j + 1, m + 1, rfl, by omega, by go_num, hmx.out, HO6.out, HW6.out⟩
            case measure => simp [Go.RowKit.intOf]; omega
          · have dj : decide (j < n) = false := decide_eq_false hjn
            have dj2 : decide ((j : Int) < (n : Int)) = false := decide_eq_false (by omega)
            have hjl : preB T i j = preB T (i + 1) 0 := by rw [show j = len T i by rw [← HLEN.out]; omega, preB_row]
            rw [hjl] at hm hown
            have HO := Lib.hid hown
            have HM := Lib.hid hm
            have HW := Lib.hid hW
            clear hjl hm hown hW
            go_wp2
            go_roundw
            case rel => exact ⟨_, i + 1, m, rfl, by omega, by go_num, HM.out, HO.out, HW.out⟩
            case measure => simp [Go.RowKit.intOf]; omega
      · have di : decide (i < T.length) = false := decide_eq_false hit
        have di2 : decide ((i : Int) < (T.length : Int)) = false := decide_eq_false (by omega)
        have hpa : preB T i 0 = allB T := by rw [show i = T.length by omega, preB_all]
        rw [hpa] at hm hown
        have hml : (allB T).length < 1000000 := by have := HPL.out i 0; rw [hpa] at this; omega
        have hNs : N ≤ w9.heap.size := by have := hW.size; have := HNE.out; omega
        rw [hm] at hown
        have HSB := Lib.hid (sortB_any (base := N) vL T HTO.out w9 hml hNs hown)
        have HW := Lib.hid hW
        clear hpa hown hW hml hm
        go_wp2_with (first | (go_at_call 36; refine HSB.out.mono ?_) | fail)
        rintro e w5 ⟨⟨rfl, hsb⟩, hb5⟩
        obtain ⟨L, hp, hs, hown⟩ := hsb
        have hW5 := HW.out.trans hb5
        have hTw := ftwin_any A cap T w5 (by omega) (fun i => by have := HT5.out i; omega) (HH.out.keep (by rw [← HNE.out]; exact hW5))
        have HTW := Lib.hid hTw
        have HW5 := Lib.hid hW5
        obtain ⟨AL, cL, rfl, hcl1, hcl2⟩ := own_sliceK hown
        have HO := Lib.hid hown
        have HPM := Lib.hid hp
        have HSO := Lib.hid hs
        clear hTw hW5 hown hp hs hb5 HSB HW
        go_upto_region 16 with (first | (go_at_call 40; refine HTW.out.mono ?_) | fail)
        rintro e w6 ⟨⟨v6, hs6, rfl, hm6⟩, hb6⟩
        have hm6' : OwnM w6 w5.heap.size v6 hs6 (mixS T L 0) := by rw [mixS_zero]; exact hm6
        obtain ⟨n, hn⟩ : ∃ n, n = L.length := ⟨_, rfl⟩
        have HN := Lib.hid hn
        rw [← hn] at HO hcl1 ⊢
        have HM6 := Lib.hid hm6'
        have HB6 := Lib.hid hb6
        clear hm6 hm6' hb6 hn HTW
        go_wp2
        go_loopw [47] (fun qv wz => ∃ q : Nat, q ≤ n ∧ qv = .int .i64 q ∧ OwnM wz w5.heap.size v6 hs6 (mixS T L q) ∧ Below w5.heap.size w5 wz) (fun qv _ => n - (Go.RowKit.intOf qv).toNat)
        case atStart => exact ⟨0, Nat.zero_le _, rfl, HM6.out, HB6.out⟩
        case round =>
          obtain ⟨w9, rfl⟩ : ∃ w9, w9 = wr := ⟨_, rfl⟩
          clear HM6 HB6
          obtain ⟨q, hq, rfl, hm, hW⟩ := hrel
          by_cases hqn : q < n
          · have dq : decide (q < n) = true := decide_eq_true hqn
            have dq2 : decide ((q : Int) < (n : Int)) = true := decide_eq_true (by omega)
            have hqL : q < L.length := by rw [← HN.out]; exact hqn
            obtain ⟨⟨i, j⟩, hij⟩ : ∃ b, b = L[q] := ⟨_, rfl⟩
            obtain ⟨hi, hj, hst⟩ := mixS_step HPM.out HSO.out hqL hij.symm
            obtain ⟨gL, rfl⟩ : ∃ g, AL = some ⟨g, 0, none⟩ := by
              obtain ⟨g, c, e1, _, _⟩ := HO.out.form (by omega)
              injection e1 with e2; exact ⟨g, e2⟩
            have hgL : gL < w5.heap.size := (HO.out.lt gL rfl).2
            obtain ⟨b1, b2, b3⟩ := boxes_at HO.out HN.out hqL hij.symm
            have b1 := (hW.cell (p := ⟨gL, q * 3, none⟩) hgL).trans b1
            have b2 := (hW.cell (p := ⟨gL, q * 3 + 1, none⟩) hgL).trans b2
            have b3 := (hW.cell (p := ⟨gL, q * 3 + 2, none⟩) hgL).trans b3
            obtain ⟨y, hy⟩ : ∃ y, y = entD T i j := ⟨_, rfl⟩
            rw [← hy] at b3
            have hjl : j < ((mixS T L q).getD i []).length := by have := mixS_len T L q i; unfold len at this; rw [this]; exact hj
            obtain ⟨R, hR⟩ : ∃ R, R = mixS T L q := ⟨_, rfl⟩
            have hRl : R.length = T.length := by rw [hR, mixS_length]
            rw [← hR] at hm hst hjl
            obtain ⟨G6, c6, e6, hG1, hG2⟩ := hm.out.form (by omega)
            rw [hRl] at e6
            subst e6
            have hNs : w5.heap.size ≤ w9.heap.size := hW.size
            obtain ⟨X, hX⟩ : ∃ X, X = w9.heap.size := ⟨_, rfl⟩
            obtain ⟨w8, hw8⟩ : ∃ w8, w8 = w9.alloc (.cells #[.int .i64 (i : Int), .int .i64 (j : Int), .int .i64 y] 48) := ⟨_, rfl⟩
            have hm8 : OwnM w8 w5.heap.size (.slice (some ⟨G6, 0, none⟩) T.length c6) hs6 R := by rw [hw8]; exact hm.alloc _
            have hW8 : Below w5.heap.size w5 w8 := by rw [hw8]; exact hW.alloc hNs _
            have x1 : w8.cell? ⟨X, 0, none⟩ = some (.int .i64 (i : Int)) := by rw [hw8, World.cell?_alloc_at _ _ _ _ hX]; rfl
            have x2 : w8.cell? ⟨X, 1, none⟩ = some (.int .i64 (j : Int)) := by rw [hw8, World.cell?_alloc_at _ _ _ _ hX]; rfl
            obtain ⟨gr, cr, hrv, hrc, hro, hr1, hr2⟩ := hm8.row (r := i) (by omega) (by omega)
            obtain ⟨RL, hRL⟩ : ∃ l, l = (R.getD i []).length := ⟨_, rfl⟩
            have hold := own_get hro (List.getElem?_eq_getElem hjl)
            obtain ⟨oldv, hov⟩ : ∃ z, z = (R.getD i [])[j] := ⟨_, rfl⟩
            rw [← hov] at hold
            have hfz := hro.frozenAt j
            have hset := (hm8.drewN 1).setIn (r := i) (by omega) hrv j ((q : Int) + 1)
            rw [hst] at hset
            have HSET := Lib.hid hset
            have HWS := Lib.hid ((below_drewN hW8 1).setCell (p := ⟨gr, j, none⟩) hr1 (.int .i64 ((q : Int) + 1)))
            have hjr : j < RL := by rw [hRL]; exact hjl
            have hil : i < T.length := by omega
            rw [← hRL] at hrc
            clear hm hst hrv hro hset hm8 hW8 hov hij hR hy hRL hjl hi hj hG1 hG2 hr1 hr2 hW hRl
            go_upto_region 19 with fail
            rw [← hX, ← hw8]
            clear hw8 hX b1 b2 b3
            go_still_tail 10, (by kernel_rfl)
            repeat still_step
            change wpList _ _ _ _ _ w8.drew
            go_wp2
            go_roundw
            case rel => exact ⟨q + 1, by omega, by go_num, HSET.out, HWS.out⟩
            case measure => simp [Go.RowKit.intOf]; omega
          · have dq : decide (q < n) = false := decide_eq_false hqn
            have dq2 : decide ((q : Int) < (n : Int)) = false := decide_eq_false (by omega)
            have hql : q = L.length := by rw [← HN.out]; omega
            rw [hql, mixS_all HPM.out] at hm
            have hf : Hid (StdR T w.heap.size (.returned (.tuple #[v6, .int .i64 0])) w9) := .inl ⟨HOK.out, v6, hs6, rfl, hm.lower (by have := HW5.out.size; have := HNE.out; omega)⟩
            have hbb : Hid (Below w.heap.size w w9) := by rw [← HNE.out]; exact HW5.out.trans (hW.mono (by have := HW5.out.size; have := HNE.out; omega))
            clear hm hW hql
            go_wp2
            go_ret2
            exact ⟨hf.out, hbb.out⟩
  · have dk : (k != 0) = true := by simpa using hk0
    have hf : Hid (StdR T w.heap.size (.returned (.tuple #[.slice none 0 0, .int .i64 k])) w) := .inr ⟨fun hh => hk0 (hk2 hh), k, hk0, rfl⟩
    clear hk1 hk2
    go_wp2
    go_ret2
    exact ⟨hf.out, Below.refl _ _⟩
end Go.Proofs.Ytpmkdihencepnaa
