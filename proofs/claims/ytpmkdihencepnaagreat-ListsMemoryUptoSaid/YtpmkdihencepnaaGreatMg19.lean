/-
  insert.Make, insert.Rising, insert.Falling: what they answer.
-/
import Derived.Test.YtpmkdihencepnaaGreatMg01
import Derived.Test.YtpmkdihencepnaaGreatMg04
import Derived.Test.YtpmkdihencepnaaGreatMg12
import Derived.Test.YtpmkdihencepnaaGreatMg13
import Derived.Test.YtpmkdihencepnaaGreatMg18
namespace Go.Proofs.YtpmkdihencepnaaGreat
open Go.RowKit

/-- 1 to n, as far as i. -/
def upTil (n i : Nat) : List Int := (List.range n).map (fun j => if j < i then (j : Int) + 1 else 0)
def upN (n : Nat) : List Int := upTil n n
theorem upTil_length (n i : Nat) : (upTil n i).length = n := by simp [upTil]
theorem upTil_zero (n : Nat) : upTil n 0 = List.replicate n 0 := by
  unfold upTil
  apply List.ext_getElem (by simp)
  intro j h1 h2
  rw [List.getElem_replicate, List.getElem_map, if_neg (by omega)]
theorem upTil_get {n i : Nat} (h : i < n) : (upTil n i)[i]? = some 0 := by simp [upTil, h]
theorem upTil_set {n i : Nat} : (upTil n i).set i ((i : Int) + 1) = upTil n (i + 1) := by
  unfold upTil
  apply List.ext_getElem (by simp)
  intro j h1 h2
  rw [List.getElem_set]
  by_cases e : i = j
  · subst e; simp
  · rw [if_neg e]
    have : (j < i) ↔ (j < i + 1) := by omega
    simp [this]
/-- What insert.Make answers. -/
def MakeOut (e : Ending) (w : World) (xs : List Int) : Prop :=
  ∃ (k : Int) (A1 A2 : Option Addr) (c1 c2 : Nat) (P Q : List (List Int)), e = .returned (.tuple #[.slice A1 P.length c1, .slice A2 Q.length c2, .int .i64 k]) ∧ SR w w.heap.size A1 P ∧ SR w w.heap.size A2 Q ∧ P.length ≤ 9223372036854775807 ∧ Q.length ≤ 9223372036854775807 ∧
    k = wordChk xs ∧ (k = 0 → P = insW [] xs ∧ Q = recQ xs (upN xs.length) xs.length) ∧ (k ≠ 0 → P = [] ∧ Q = [])

set_option maxRecDepth 100000 in
theorem make_any (A : Option Addr) (cap : Nat) (xs : List Int) (w : World) (hcl : xs.length ≤ 9223372036854775807) (h : Sl w w.heap.size A (ints xs)) :
    Calls Tryz.prog 34 #[.slice A xs.length cap] w fun e w' => MakeOut e w' xs ∧ Below w.heap.size w w' := by
  go_enter Tryz.func34, Tryz.ntmps34
  go_wp2_with (first | (go_at_call 47; refine (letters_any A cap xs _ hcl h).mono ?_) | fail)
  rintro e w1 ⟨rfl, rfl⟩
  obtain ⟨k, hk⟩ : ∃ k, k = wordChk xs := ⟨_, rfl⟩
  rw [← hk]
  have HK := Lib.hid hk
  by_cases hk0 : k = 0
  · have hw := wordChk_zero (xs := xs) (by rw [← hk]; exact hk0)
    have hl := hw.1
    have HX : Hid (∀ x ∈ xs, Lt x) := hw.2
    subst hk0
    clear hk hw
    go_wp2_with (first | (refine wpList_mk (base := w.heap.size) rfl (.tmp 14) (.tmp 14) rfl xs.length rfl rfl (by omega) (Nat.le_refl _) (fun w2 hown2 hb2 hz2 => ?_)) | fail)
    rw [← upTil_zero] at hown2
    have HO2 := Lib.hid hown2
    clear hown2
    go_wp2
    go_loopw [18] (fun iv wr => ∃ i : Nat, i ≤ xs.length ∧ iv = .int .i64 i ∧ wr.ownsRow w.heap.size 3 1 (.slice (some ⟨w.heap.size, 0, none⟩) xs.length xs.length) xs.length (ints (upTil xs.length i)) ∧ Below w.heap.size w wr) (fun iv _ => xs.length - (intOf iv).toNat)
    case atStart => exact ⟨0, Nat.zero_le _, rfl, HO2.out, hb2⟩
    case round =>
      clear HO2 hb2 hz2
      obtain ⟨i, hi, rfl, ho, hW⟩ := hrel
      have HO := Lib.hid ho
      by_cases hit : i < xs.length
      · have di : decide (i < xs.length) = true := decide_eq_true hit
        have hc := own_get ho (upTil_get hit)
        have hf := ho.frozenAt i
        have hst := own_set ho i ((i : Int) + 1)
        rw [upTil_set] at hst
        have HST := Lib.hid hst
        clear hst ho
        go_wp2
        go_roundw
        case rel => exact ⟨i + 1, by omega, rfl, HST.out, hW.setCell (p := ⟨w.heap.size, i, none⟩) (Nat.le_refl _) _⟩
        case measure => simp [intOf]; omega
      · have di : decide (i < xs.length) = false := decide_eq_false hit
        have hie : i = xs.length := by omega
        rw [hie] at ho
        have hsl := Sl.of_own ho
        have hmd := made_any A (some ⟨w.heap.size, 0, none⟩) cap xs.length xs (upN xs.length) wr hl (upTil_length _ _).symm HX.out (h.now hW (Nat.le_refl _)) hsl
        have hun : (upN xs.length).length = xs.length := upTil_length _ _
        rw [hun] at hmd
        have HMD := Lib.hid hmd
        clear hmd hsl ho HO hie hun
        go_wp2_with (first | (go_at_call 58; refine HMD.out.mono ?_) | fail)
        rintro e w3 ⟨⟨v, hs, u, us, rfl, hm, hq, _⟩, hb3⟩
        obtain ⟨A1, c1, rfl, hs1, hl1, hl1'⟩ := hm.sr
        obtain ⟨A2, c2, rfl, hs2, hl2, hl2'⟩ := hq.sr
        have HS1 := Lib.hid hs1
        have HS2 := Lib.hid hs2
        have hW3 := below_call hW (Nat.le_refl _) hb3
        clear hs1 hs2 hm hq hb3 HMD
        go_wp2
        go_ret3
        exact ⟨⟨0, A1, A2, c1, c2, _, _, rfl, HS1.out, HS2.out, by omega, by omega, HK.out, fun _ => ⟨rfl, rfl⟩, fun e => absurd rfl e⟩, hW3⟩
  · have dk : (k != 0) = true := by simpa using hk0
    have HK0 := Lib.hid hk0
    clear hk
    go_wp2
    go_ret3
    exact ⟨⟨k, none, none, 0, 0, [], [], rfl, SR.nil _ _ _, SR.nil _ _ _, by simp, by simp, HK.out, fun e => absurd e HK0.out, fun _ => ⟨rfl, rfl⟩⟩, Below.refl _ _⟩

end Go.Proofs.YtpmkdihencepnaaGreat

/-
  Plain: a longest subsequence that doesn't fall, as the house finds it; it has as many letters as the first row.
-/
namespace Go.Proofs.YtpmkdihencepnaaGreat

def mx : Int → List Int → List Nat → Nat
  | a, b :: t, f :: fs => max (if a ≤ b then f else 0) (mx a t fs)
  | _, _, _ => 0
/-- How long one is at most that begins at each place. -/
def frs : List Int → List Nat
  | [] => []
  | a :: t => (1 + mx a t (frs t)) :: frs t
theorem frs_length : ∀ xs : List Int, (frs xs).length = xs.length
  | [] => rfl
  | a :: t => by simp [frs, frs_length t]
theorem frs_drop : ∀ (xs : List Int) (i : Nat), (frs xs).drop i = frs (xs.drop i)
  | _, 0 => by simp
  | [], i + 1 => by simp [frs]
  | a :: t, i + 1 => by simp only [frs, List.drop_succ_cons]; exact frs_drop t i
def fr (xs : List Int) (i : Nat) : Nat := (frs xs).getD i 0
theorem mx_at {a : Int} : ∀ {t : List Int} {fs : List Nat}, 0 < mx a t fs → ∃ (k : Nat) (b : Int), t[k]? = some b ∧ fs[k]? = some (mx a t fs) ∧ a ≤ b
  | [], _, h => by simp [mx] at h
  | _ :: _, [], h => by simp [mx] at h
  | b :: t, f :: fs, h => by
    simp only [mx] at h ⊢
    by_cases c : mx a t fs ≤ (if a ≤ b then f else 0)
    · rw [Nat.max_eq_left c] at h ⊢
      by_cases d : a ≤ b
      · rw [if_pos d]; exact ⟨0, b, rfl, rfl, d⟩
      · rw [if_neg d] at h; omega
    · rw [Nat.max_eq_right (by omega)] at h ⊢
      obtain ⟨k, b', h1, h2, h3⟩ := mx_at h
      exact ⟨k + 1, b', by simpa using h1, by simpa using h2, h3⟩
theorem mx_snoc {a : Int} : ∀ {t : List Int} {fs : List Nat} {j : Nat} {b : Int} {f : Nat}, t[j]? = some b → fs[j]? = some f → mx a (t.take (j + 1)) (fs.take (j + 1)) = max (mx a (t.take j) (fs.take j)) (if a ≤ b then f else 0)
  | [], _, _, _, _, h, _ => by simp at h
  | _ :: _, [], _, _, _, _, h => by simp at h
  | b0 :: t, f0 :: fs, 0, b, f, h1, h2 => by
    have e1 : b0 = b := by simpa using h1
    have e2 : f0 = f := by simpa using h2
    subst e1 e2
    simp [mx]
  | b0 :: t, f0 :: fs, j + 1, b, f, h1, h2 => by
    have := mx_snoc (a := a) (t := t) (fs := fs) (j := j) (by simpa using h1) (by simpa using h2)
    simp only [List.take_succ_cons, mx]
    rw [this]; omega
/-- The greatest. -/
def mo : List Nat → Nat
  | [] => 0
  | f :: fs => max f (mo fs)
theorem mo_at : ∀ {fs : List Nat}, 0 < mo fs → ∃ k : Nat, fs[k]? = some (mo fs)
  | [], h => by simp [mo] at h
  | g :: fs, h => by
    simp only [mo] at h ⊢
    by_cases c : mo fs ≤ g
    · rw [Nat.max_eq_left c]; exact ⟨0, rfl⟩
    · rw [Nat.max_eq_right (by omega)] at h ⊢
      obtain ⟨k, hk⟩ := mo_at h
      exact ⟨k + 1, by simpa using hk⟩
theorem mo_drop {fs : List Nat} {i : Nat} (h : i < fs.length) : mo (fs.drop i) = max (mo (fs.drop (i + 1))) (fs.getD i 0) := by
  rw [List.drop_eq_getElem_cons h]
  simp only [mo]
  rw [show fs.getD i 0 = fs[i] by simp [h]]
  omega
theorem fr_at {xs : List Int} {i : Nat} (h : i < xs.length) : (frs xs)[i]? = some (fr xs i) := by
  unfold fr
  rw [List.getElem?_eq_getElem (by rw [frs_length]; exact h)]
  simp [frs_length, h]
theorem fr_head {xs : List Int} {i : Nat} (h : i < xs.length) : fr xs i = 1 + mx (xs.getD i 0) (xs.drop (i + 1)) (frs (xs.drop (i + 1))) := by
  have h1 := frs_drop xs i
  rw [List.drop_eq_getElem_cons (show i < (frs xs).length by rw [frs_length]; exact h), List.drop_eq_getElem_cons h] at h1
  simp only [frs] at h1
  have h2 := (List.cons.inj h1).1
  unfold fr
  rw [show (frs xs).getD i 0 = (frs xs)[i]'(by rw [frs_length]; exact h) by simp [frs_length, h], h2, getD_get h]
theorem fr_pos {xs : List Int} {i : Nat} (h : i < xs.length) : 1 ≤ fr xs i := by rw [fr_head h]; omega
theorem mx_bound {a : Int} : ∀ (t : List Int) (fs : List Nat) {n : Nat}, (∀ f ∈ fs, f ≤ n) → mx a t fs ≤ n
  | [], _, _, _ => by simp [mx]
  | _ :: _, [], _, _ => by simp [mx]
  | b :: t, f :: fs, n, h => by
    have h1 := mx_bound (a := a) t fs (fun g hg => h g (List.mem_cons_of_mem _ hg))
    have h2 := h f (by simp)
    simp only [mx]
    split <;> omega
theorem frs_bound : ∀ (xs : List Int), ∀ f ∈ frs xs, f ≤ xs.length
  | [], f, h => by simp [frs] at h
  | a :: t, f, h => by
    have ih := frs_bound t
    simp only [frs] at h
    rcases List.mem_cons.1 h with e | e
    · have := mx_bound (a := a) t (frs t) ih
      rw [List.length_cons]; omega
    · have := ih f e; rw [List.length_cons]; omega
theorem fr_le {xs : List Int} {i : Nat} : fr xs i ≤ xs.length := by
  unfold fr
  rw [List.getD_eq_getElem?_getD]
  cases e : (frs xs)[i]? with
  | none => exact Nat.zero_le _
  | some f => exact frs_bound xs f (List.mem_of_getElem? e)
theorem mo_bound : ∀ (fs : List Nat) {n : Nat}, (∀ f ∈ fs, f ≤ n) → mo fs ≤ n
  | [], _, _ => Nat.zero_le _
  | f :: fs, n, h => by
    have h1 := mo_bound fs (fun g hg => h g (List.mem_cons_of_mem _ hg))
    have h2 := h f (by simp)
    simp only [mo]; omega
/-- The length of the longest. -/
def most (xs : List Int) : Nat := mo (frs xs)
theorem most_le (xs : List Int) : most xs ≤ xs.length := mo_bound _ (frs_bound xs)
/-- What has been picked of the first i letters. -/
structure Grd (xs : List Int) (i : Nat) (l : List Int) (last : Int) : Prop where
  pos : ∀ q, q < l.length → 1 ≤ l.getD q 0 ∧ l.getD q 0 ≤ (i : Int)
  inc : ∀ q, q + 1 < l.length → l.getD q 0 < l.getD (q + 1) 0 ∧ xs.getD (l.getD q 0 - 1).toNat 0 ≤ xs.getD (l.getD (q + 1) 0 - 1).toNat 0
  top : ∀ q, q + 1 = l.length → last = xs.getD (l.getD q 0 - 1).toNat 0
  zero : l.length = 0 → last = 0
  le : l.length ≤ most xs
  need : l.length < most xs → ∃ j, i ≤ j ∧ j < xs.length ∧ fr xs j = most xs - l.length ∧ last ≤ xs.getD j 0
theorem Grd.start {xs : List Int} (h : ∀ x ∈ xs, Lt x) : Grd xs 0 [] 0 := by
  refine ⟨fun q hq => by simp at hq, fun q hq => by simp at hq, fun q hq => by simp at hq, fun _ => rfl, Nat.zero_le _, fun hm => ?_⟩
  have hm' : 0 < mo (frs xs) := by simpa [most] using hm
  obtain ⟨k, hk⟩ := mo_at hm'
  have hk1 := (List.getElem?_eq_some_iff.1 hk).1
  rw [frs_length] at hk1
  refine ⟨k, Nat.zero_le _, hk1, ?_, ?_⟩
  · unfold fr most; rw [List.getD_eq_getElem?_getD, hk]; simp
  · have := h _ (List.getElem_mem hk1)
    rw [getD_get hk1]; have := this.1; omega
theorem Grd.skip {xs l : List Int} {i : Nat} {last : Int} (h : Grd xs i l last) (hn : ¬ (fr xs i = most xs - l.length ∧ last ≤ xs.getD i 0)) : Grd xs (i + 1) l last := by
  refine ⟨fun q hq => by have := h.pos q hq; omega, h.inc, h.top, h.zero, h.le, fun hm => ?_⟩
  obtain ⟨j, h1, h2, h3, h4⟩ := h.need hm
  refine ⟨j, ?_, h2, h3, h4⟩
  by_cases e : j = i
  · subst e; exact absurd ⟨h3, h4⟩ hn
  · omega
theorem Grd.take {xs l : List Int} {i : Nat} {last : Int} (h : Grd xs i l last) (hi : i < xs.length) (h1 : fr xs i = most xs - l.length) (h2 : last ≤ xs.getD i 0) : Grd xs (i + 1) (l ++ [(i : Int) + 1]) (xs.getD i 0) := by
  have hp := fr_pos hi
  have low : ∀ q, q < l.length → (l ++ [(i : Int) + 1]).getD q 0 = l.getD q 0 := fun q hq => by
    rw [List.getD_eq_getElem?_getD, List.getD_eq_getElem?_getD, List.getElem?_append_left hq]
  have top : (l ++ [(i : Int) + 1]).getD l.length 0 = (i : Int) + 1 := by
    rw [List.getD_eq_getElem?_getD, List.getElem?_append_right (Nat.le_refl _)]; simp
  have hl : (l ++ [(i : Int) + 1]).length = l.length + 1 := by simp
  have hti : ((i : Int) + 1 - 1).toNat = i := by omega
  refine ⟨fun q hq => ?_, fun q hq => ?_, fun q hq => ?_, fun e => by rw [hl] at e; omega, by rw [hl]; omega, fun hm => ?_⟩
  · rw [hl] at hq
    by_cases c : q < l.length
    · rw [low q c]; have := h.pos q c; omega
    · obtain rfl : q = l.length := by omega
      rw [top]; omega
  · rw [hl] at hq
    by_cases c : q + 1 < l.length
    · rw [low q (by omega), low (q + 1) c]; exact h.inc q c
    · have e : q + 1 = l.length := by omega
      rw [low q (by omega), e, top, hti]
      have := h.pos q (by omega)
      have h3 := h.top q e
      exact ⟨by omega, by rw [← h3]; exact h2⟩
  · rw [hl] at hq
    obtain rfl : q = l.length := by omega
    rw [top, hti]
  · rw [hl] at hm ⊢
    have h4 := fr_head hi
    have h5 : 0 < mx (xs.getD i 0) (xs.drop (i + 1)) (frs (xs.drop (i + 1))) := by omega
    obtain ⟨k, b, h6, h7, h8⟩ := mx_at h5
    rw [← frs_drop, List.getElem?_drop] at h7
    rw [List.getElem?_drop] at h6
    obtain ⟨g1, g2⟩ := List.getElem?_eq_some_iff.1 h6
    refine ⟨i + 1 + k, by omega, g1, ?_, ?_⟩
    · unfold fr
      rw [List.getD_eq_getElem?_getD, h7]
      simp only [Option.getD_some]
      rw [frs_drop]; omega
    · rw [getD_get g1, g2]; exact h8
end Go.Proofs.YtpmkdihencepnaaGreat

/-
  insert.Longest: what it answers.
-/
namespace Go.Proofs.YtpmkdihencepnaaGreat
open Go.RowKit

/-- What has been reckoned from m on. -/
def arrF (xs : List Int) (m : Nat) : List Int := (List.range xs.length).map (fun j => if j < m then 0 else (fr xs j : Int))
theorem arrF_length (xs : List Int) (m : Nat) : (arrF xs m).length = xs.length := by simp [arrF]
theorem arrF_top (xs : List Int) : arrF xs xs.length = List.replicate xs.length 0 := by
  unfold arrF
  apply List.ext_getElem (by simp)
  intro j h1 h2
  have h3 : j < xs.length := by simpa using h1
  rw [List.getElem_replicate, List.getElem_map, List.getElem_range, if_pos h3]
theorem arrF_get {xs : List Int} {m j : Nat} (h : j < xs.length) : (arrF xs m)[j]? = some (if j < m then 0 else (fr xs j : Int)) := by
  unfold arrF; simp [h]
theorem arrF_set {xs : List Int} {m : Nat} : (arrF xs (m + 1)).set m (fr xs m : Int) = arrF xs m := by
  unfold arrF
  apply List.ext_getElem (by simp)
  intro j h1 h2
  rw [List.getElem_set]
  by_cases e : m = j
  · subst e; simp
  · rw [if_neg e]
    have : (j < m + 1) ↔ (j < m) := by omega
    simp [this]
/-- What has been reckoned at m, d letters on. -/
def mxD (xs : List Int) (m d : Nat) : Nat := 1 + mx (xs.getD m 0) ((xs.drop (m + 1)).take d) ((frs (xs.drop (m + 1))).take d)
theorem mxD_zero (xs : List Int) (m : Nat) : mxD xs m 0 = 1 := by simp [mxD, mx]
theorem mxD_succ {xs : List Int} {m d : Nat} (h : m + 1 + d < xs.length) : mxD xs m (d + 1) = if xs.getD m 0 ≤ xs.getD (m + 1 + d) 0 then max (mxD xs m d) (fr xs (m + 1 + d) + 1) else mxD xs m d := by
  unfold mxD
  have h1 : (xs.drop (m + 1))[d]? = some (xs.getD (m + 1 + d) 0) := by rw [List.getElem?_drop, List.getElem?_eq_getElem h, getD_get h]
  have h2 : (frs (xs.drop (m + 1)))[d]? = some (fr xs (m + 1 + d)) := by rw [← frs_drop, List.getElem?_drop]; exact fr_at h
  rw [mx_snoc h1 h2]
  by_cases c : xs.getD m 0 ≤ xs.getD (m + 1 + d) 0
  · rw [if_pos c, if_pos c]; omega
  · rw [if_neg c, if_neg c]; omega
theorem mxD_end {xs : List Int} {m d : Nat} (h : m + 1 + d = xs.length) : mxD xs m d = fr xs m := by
  unfold mxD
  rw [fr_head (by omega), List.take_of_length_le (by rw [List.length_drop]; omega), List.take_of_length_le (by rw [frs_length, List.length_drop]; omega)]
theorem mxD_le (xs : List Int) (m d : Nat) (hd : m + 1 + d ≤ xs.length) : mxD xs m d ≤ xs.length + 1 := by
  unfold mxD
  have : mx (xs.getD m 0) ((xs.drop (m + 1)).take d) ((frs (xs.drop (m + 1))).take d) ≤ xs.length := mx_bound _ _ (fun f hf => by
    have := frs_bound (xs.drop (m + 1)) f (List.mem_of_mem_take hf)
    rw [List.length_drop] at this; omega)
  omega
def moT (xs : List Int) (m : Nat) : Nat := mo ((frs xs).drop m)
theorem moT_step {xs : List Int} {m : Nat} (h : m < xs.length) : moT xs m = max (moT xs (m + 1)) (fr xs m) := mo_drop (by rw [frs_length]; exact h)
theorem moT_top (xs : List Int) : moT xs xs.length = 0 := by
  unfold moT
  rw [List.drop_of_length_le (by rw [frs_length]; exact Nat.le_refl _)]; rfl
theorem moT_le (xs : List Int) (m : Nat) : moT xs m ≤ xs.length := mo_bound _ (fun f hf => frs_bound xs f (List.mem_of_mem_drop hf))

/-- What insert.Longest answers. -/
def glT (xs : List Int) : Nat → List Int × Int
  | 0 => ([], 0)
  | i + 1 => if fr xs i = most xs - (glT xs i).1.length ∧ (glT xs i).2 ≤ xs.getD i 0 then ((glT xs i).1 ++ [(i : Int) + 1], xs.getD i 0) else glT xs i
theorem glT_take {xs l : List Int} {i : Nat} {last : Int} (h : glT xs i = (l, last)) (h1 : fr xs i = most xs - l.length) (h2 : last ≤ xs.getD i 0) : glT xs (i + 1) = (l ++ [(i : Int) + 1], xs.getD i 0) := by
  unfold glT
  rw [h, if_pos ⟨h1, h2⟩]
theorem glT_skip {xs l : List Int} {i : Nat} {last : Int} (h : glT xs i = (l, last)) (hn : ¬ (fr xs i = most xs - l.length ∧ last ≤ xs.getD i 0)) : glT xs (i + 1) = (l, last) := by
  unfold glT
  rw [h, if_neg hn]
theorem glT_len (xs : List Int) : ∀ i, (glT xs i).1.length ≤ i
  | 0 => Nat.le_refl _
  | i + 1 => by
    have := glT_len xs i
    unfold glT
    split
    · simp; exact this
    · omega
def LongT (xs l : List Int) : Prop := (wordChk xs = 0 ∧ l = (glT xs xs.length).1) ∨ (wordChk xs ≠ 0 ∧ l = [])

set_option maxRecDepth 100000 in
set_option maxHeartbeats 2000000 in
theorem longest_any (A : Option Addr) (cap : Nat) (xs : List Int) (w : World) (hcl : xs.length ≤ 9223372036854775807) (h : Sl w w.heap.size A (ints xs)) :
    Calls Tryz.prog 20 #[.slice A xs.length cap] w fun e w' => Tol (LongT xs) w.heap.size e w' ∧ Below w.heap.size w w' := by
  go_enter Tryz.func20, Tryz.ntmps20
  go_wp2_with (first | (go_at_call 47; refine (letters_any A cap xs _ hcl h).mono ?_) | fail)
  rintro e w1 ⟨rfl, rfl⟩
  obtain ⟨k, hk⟩ : ∃ k, k = wordChk xs := ⟨_, rfl⟩
  rw [← hk]
  have HK := Lib.hid hk
  by_cases hk0 : k = 0
  · have hw := wordChk_zero (xs := xs) (by rw [← hk]; exact hk0)
    have hl := hw.1
    have HX : Hid (∀ x ∈ xs, Lt x) := hw.2
    subst hk0
    clear hk hw
    go_wp2_with (first | (refine wpList_mk (base := w.heap.size) rfl (.tmp 18) (.tmp 18) rfl xs.length rfl rfl (by omega) (Nat.le_refl _) (fun w2 hown2 hb2 hz2 => ?_)) | fail)
    rw [← arrF_top] at hown2
    have HO2 := Lib.hid hown2
    clear hown2
    go_wp2
    go_loopw [6, 7] (fun ov iv wr => ∃ m : Nat, m ≤ xs.length ∧ iv = .int .i64 ((m : Int) - 1) ∧ ov = .int .i64 (moT xs m) ∧ wr.ownsRow w.heap.size 3 1 (.slice (some ⟨w.heap.size, 0, none⟩) xs.length xs.length) xs.length (ints (arrF xs m)) ∧ Below w.heap.size w wr) (fun _ iv _ => (intOf iv + 1).toNat)
    case atStart => exact ⟨xs.length, Nat.le_refl _, rfl, by rw [moT_top]; rfl, HO2.out, hb2⟩
    case round =>
      clear HO2 hb2 hz2
      obtain ⟨m, hm, rfl, rfl, ho, hW⟩ := hrel
      have HO := Lib.hid ho
      have HW := Lib.hid hW
      cases m with
      | succ m =>
        have e1 : ((m + 1 : Nat) : Int) - 1 = (m : Int) := by omega
        rw [e1]
        have hd2 : decide ((0 : Int) ≤ (m : Int)) = true := decide_eq_true (by omega)
        have hml : m < xs.length := by omega
        obtain ⟨b, o, rfl, hb⟩ := h.addr (by omega)
        have hxm0 := getD_cell h hml
        obtain ⟨a, ha⟩ : ∃ a, a = xs.getD m 0 := ⟨_, rfl⟩
        rw [← ha] at hxm0
        have HA := Lib.hid ha
        have hc0 := own_get ho (arrF_get (m := m + 1) hml)
        have hf0 := ho.frozenAt m
        have hst := own_set ho m 1
        have HST := Lib.hid hst
        have hmt := moT_step hml
        have hmb := moT_le xs (m + 1)
        obtain ⟨p0, hp0⟩ : ∃ p, p = moT xs (m + 1) := ⟨_, rfl⟩
        rw [← hp0] at hmt hmb ⊢
        have HMT := Lib.hid hmt
        clear hst ho e1 ha hp0 hmt HO
        go_wp2
        go_loopw [8] (fun kv wz => ∃ K : Nat, m + 1 ≤ K ∧ K ≤ xs.length ∧ kv = .int .i64 K ∧ wz.ownsRow w.heap.size 3 1 (.slice (some ⟨w.heap.size, 0, none⟩) xs.length xs.length) xs.length (ints ((arrF xs (m + 1)).set m (mxD xs m (K - (m + 1)) : Int))) ∧ Below w.heap.size w wz) (fun kv _ => xs.length - (intOf kv).toNat)
        case atStart => exact ⟨m + 1, Nat.le_refl _, hml, by go_num, by rw [Nat.sub_self, mxD_zero]; exact HST.out, HW.out.setCell (p := ⟨w.heap.size, m, none⟩) (Nat.le_refl _) _⟩
        case round =>
          obtain ⟨w9, rfl⟩ : ∃ w9, w9 = wr := ⟨_, rfl⟩
          clear HST HW hc0 hf0 hW
          obtain ⟨K, hmK, hKn, rfl, ho, hW⟩ := hrel
          have HW := Lib.hid hW
          have hKe : m + 1 + (K - (m + 1)) = K := by omega
          have hK1 : K + 1 - (m + 1) = K - (m + 1) + 1 := by omega
          by_cases hkn : K < xs.length
          · have dk : decide (K < xs.length) = true := decide_eq_true hkn
            have hcm := (hW.cell (p := ⟨b, o + m, none⟩) hb).trans hxm0
            have hck := (hW.cell (p := ⟨b, o + K, none⟩) hb).trans (getD_cell h hkn)
            have hsu := mxD_succ (xs := xs) (m := m) (d := K - (m + 1)) (by omega)
            rw [hKe, ← hK1] at hsu
            have hle := mxD_le xs m (K - (m + 1)) (by omega)
            have hfl := fr_le (xs := xs) (i := K)
            have hgm := own_get ho (i := m) (z := (mxD xs m (K - (m + 1)) : Int)) (List.getElem?_set_self (by rw [arrF_length]; exact hml))
            have hgk := own_get ho (i := K) (z := (fr xs K : Int)) (by rw [List.getElem?_set_ne (by omega), arrF_get hkn, if_neg (by omega)])
            have hfz := ho.frozenAt m
            obtain ⟨y, hy⟩ : ∃ y, y = xs.getD K 0 := ⟨_, rfl⟩
            obtain ⟨p, hp⟩ : ∃ p, p = mxD xs m (K - (m + 1)) := ⟨_, rfl⟩
            obtain ⟨f, hf⟩ : ∃ f, f = fr xs K := ⟨_, rfl⟩
            rw [← hy] at hck hsu
            rw [← HA.out] at hsu
            rw [← hp] at hsu hle hgm ho
            rw [← hf] at hsu hfl hgk
            by_cases hay : a ≤ y
            · have da : decide (a ≤ y) = true := decide_eq_true hay
              rw [if_pos hay] at hsu
              have HO := Lib.hid ho
              obtain ⟨N, hN⟩ : ∃ N, N = mxD xs m (K + 1 - (m + 1)) := ⟨_, rfl⟩
              rw [← hN] at hsu
              have HN := Lib.hid hN
              have HSU : Hid ((N : Int) = max (p : Int) ((f : Int) + 1)) := by show _ = _; rw [hsu]; omega
              have hwf : IntKind.i64.wrap ((f : Int) + 1) = (f : Int) + 1 := IntWalk.i64_in _ (by omega)
              clear hN hsu ho hy hp hf hKe hK1 hW
              go_wp2
              go_quiet (fail)
              go_wp2
              go_region
              have hst := own_set (own_drewN HO.out (nq + 1)) m (max (p : Int) ((f : Int) + 1))
              rw [List.set_set, ← HSU.out] at hst
              rw [← HSU.out]
              have HST := Lib.hid hst
              have hws := (below_drewN HW.out (nq + 1)).setCell (p := ⟨w.heap.size, m, none⟩) (Nat.le_refl _) (.int .i64 (N : Int))
              clear hst
              go_wp2
              go_roundw
              case rel => exact ⟨K + 1, by omega, by omega, by go_num, by rw [← HN.out]; exact HST.out, hws⟩
              case measure => simp [intOf]; omega
            · have da : decide (a ≤ y) = false := decide_eq_false hay
              rw [if_neg hay] at hsu
              have HO := Lib.hid ho
              have HSU := Lib.hid hsu
              clear hsu ho hy hp hf hKe hK1 hW
              go_wp2
              go_quiet (fail)
              go_wp2
              go_roundw
              case rel => exact ⟨K + 1, by omega, by omega, by go_num, by rw [HSU.out]; exact own_drewN HO.out nq, below_drewN HW.out nq⟩
              case measure => simp [intOf]; omega
          · have dk : decide (K < xs.length) = false := decide_eq_false hkn
            have hme := mxD_end (xs := xs) (m := m) (d := K - (m + 1)) (by omega)
            rw [hme, arrF_set] at ho
            have hgm := own_get ho (arrF_get (m := m) hml)
            rw [if_neg (by omega)] at hgm
            have hfl := fr_le (xs := xs) (i := m)
            obtain ⟨f, hf⟩ : ∃ f, f = fr xs m := ⟨_, rfl⟩
            rw [← hf] at hgm hfl
            have HO := Lib.hid ho
            have HF := Lib.hid hf
            clear ho hme hf hKe hK1 hW
            have hmo : Hid ((moT xs m : Int) = max (p0 : Int) (f : Int)) := by show _ = _; rw [HMT.out, ← HF.out]; omega
            go_wp2
            go_roundw
            case rel => exact ⟨m, by omega, rfl, by rw [hmo.out], HO.out, HW.out⟩
            case measure => simp [intOf]
      | zero =>
        have e1 : ((0 : Nat) : Int) - 1 = -1 := rfl
        rw [e1]
        have hmm : moT xs 0 = most xs := by unfold moT most; rw [List.drop_zero]
        rw [hmm]
        have hmb := most_le xs
        obtain ⟨M, hM⟩ : ∃ M, M = most xs := ⟨_, rfl⟩
        rw [← hM] at hmb ⊢
        have HM := Lib.hid hM
        clear hM hmm e1 ho hW
        have hsz := HW.out.size
        have hlow := (HO.out.lt w.heap.size rfl).2
        go_wp2
        go_loopw [9, 10, 11] (fun ov iv lv wz => ∃ (i : Nat) (l : List Int) (last : Int), i ≤ xs.length ∧ iv = .int .i64 i ∧ lv = .int .i64 last ∧ Grd xs i l last ∧ glT xs i = (l, last) ∧ wz.ownsRow wr.heap.size 3 1 ov l.length (ints l) ∧ Below wr.heap.size wr wz) (fun _ iv _ _ => xs.length - (intOf iv).toNat)
        case atStart => exact ⟨0, [], 0, Nat.zero_le _, rfl, rfl, Grd.start HX.out, rfl, World.ownsRow_nil _ _ _ _, Below.refl _ _⟩
        case round =>
          obtain ⟨w9, rfl⟩ : ∃ w9, w9 = wr := ⟨_, rfl⟩
          obtain ⟨i, l, last, hi, rfl, rfl, hg, hgl, ho2, hW2⟩ := hrel
          have HGL := Lib.hid hgl
          clear hgl
          have HG := Lib.hid hg
          have hlM := hg.le
          rw [← HM.out] at hlM
          obtain ⟨A9, c9, rfl, _, _, _, _⟩ := own_sliceA ho2
          have HO9 := Lib.hid ho2
          have HW9 := Lib.hid hW2
          have hsz9 := hW2.size
          by_cases hit : i < xs.length
          · have di : decide (i < xs.length) = true := decide_eq_true hit
            obtain ⟨b, o, rfl, hb⟩ := h.addr (by omega)
            have hWw := HW.out.trans (hW2.mono hsz)
            have hxc := (hWw.cell (p := ⟨b, o + i, none⟩) hb).trans (getD_cell h hit)
            have hfc := own_get (own_lowA HO.out hlow hW2) (arrF_get (m := 0) hit)
            rw [if_neg (by omega)] at hfc
            obtain ⟨f, hf⟩ : ∃ f, f = fr xs i := ⟨_, rfl⟩
            obtain ⟨x, hx⟩ : ∃ x, x = xs.getD i 0 := ⟨_, rfl⟩
            rw [← hf] at hfc
            rw [← hx] at hxc
            by_cases hc1 : f = M - l.length
            · have d1 : decide ((f : Int) = (M : Int) - (l.length : Int)) = true := decide_eq_true (by omega)
              have d1' : ((f : Int) == (M : Int) - (l.length : Int)) = true := by simp; omega
              by_cases hc2 : last ≤ x
              · have d2 : decide (last ≤ x) = true := decide_eq_true hc2
                have hnx := hg.take hit (by rw [← hf, ← HM.out]; exact hc1) (by rw [← hx]; exact hc2)
                rw [← hx] at hnx
                have HNX := Lib.hid hnx
                have hgx := glT_take HGL.out (by rw [← hf, ← HM.out]; exact hc1) (by rw [← hx]; exact hc2)
                rw [← hx] at hgx
                have HGX := Lib.hid hgx
                clear hgx
                have hbl : b < wr.heap.size := by omega
                have hb9 : b < w9.heap.size := by omega
                have hfb : some b ≠ (Value.slice A9 l.length c9).ownBlock := fun e => by have := (ho2.lt b e.symm).1; omega
                have hwi : IntKind.i64.wrap ((i : Int) + 1) = (i : Int) + 1 := IntWalk.i64_in _ (by omega)
                have HCH := Lib.hid hc1
                clear hnx hg ho2 hW2 hWw hf hx hc1
                go_wp2
                go_region_held3 (fun w' => w'.cell? ⟨b, o + i, none⟩ = some (.int .i64 x))
                  (first
                    | go_keep
                    | (refine hcf.trans ?_; assumption))
                  (first
                    | (refine step_app1 (base := wr.heap.size) (l := l) (v := .slice A9 l.length c9) ?_ (.tmp 89) (.tmp 92) ?_ ?_ ((i : Int) + 1) l.length w9.heap.size ?_ ?_ ?_ ?_ ?_ ?_; (· rfl); (· rfl); (· rfl); (· rfl); (· exact own_drew (HO9.out.alloc _)); (· exact heap_alloc_new _ _); (· omega); (· (show _ ≤ (World.drew _).heap.size; simp; omega)); intro g2 c2 w6 hl6 hg6 hat6 hlt6; have hcf := hg6.cell_far ⟨b, o + i, none⟩ (by show b < (World.drew _).heap.size; simp; omega) hfb)
                    | fail)
                have hW6 : Below wr.heap.size wr w6 := ((HW9.out.alloc hsz9 _).drew).grown hg6 (by show _ ≤ (World.drew _).heap.size; simp; omega) (fun k hk => (HO9.out.lt k hk).1)
                have HL6 := Lib.hid hl6
                clear hl6 hg6 hat6
                go_wp2
                go_roundw
                case rel => exact ⟨i + 1, l ++ [(i : Int) + 1], x, by omega, by go_num, rfl, HNX.out, HGX.out, by rw [List.length_append]; exact HL6.out, hW6⟩
                case measure => simp [intOf]; omega
              · have d2 : decide (last ≤ x) = false := decide_eq_false hc2
                have hnx := Lib.hid (hg.skip (fun hh => hc2 (by rw [hx]; exact hh.2)))
                have hgx := Lib.hid (glT_skip HGL.out (fun hh => hc2 (by rw [hx]; exact hh.2)))
                clear hg ho2 hW2 hWw hf hx
                go_wp2
                go_roundw
                case rel => exact ⟨i + 1, l, last, by omega, by go_num, rfl, hnx.out, hgx.out, HO9.out, HW9.out⟩
                case measure => simp [intOf]; omega
            · have d1' : ((f : Int) == (M : Int) - (l.length : Int)) = false := by simp; omega
              have hnx := Lib.hid (hg.skip (fun hh => hc1 (by rw [hf, HM.out]; exact hh.1)))
              have hgx := Lib.hid (glT_skip HGL.out (fun hh => hc1 (by rw [hf, HM.out]; exact hh.1)))
              clear hg ho2 hW2 hWw hf hx
              go_wp2
              go_roundw
              case rel => exact ⟨i + 1, l, last, by omega, by go_num, rfl, hnx.out, hgx.out, HO9.out, HW9.out⟩
              case measure => simp [intOf]; omega
          · have di : decide (i < xs.length) = false := decide_eq_false hit
            have hie : i = xs.length := by omega
            have hfin : Hid (LongT xs l) := Lib.hid (.inl ⟨HK.out.symm, by rw [← hie, HGL.out]⟩)
            have hWw := Lib.hid (HW.out.trans (hW2.mono hsz))
            have hsl := Lib.hid (ho2.mono hsz)
            clear hg ho2 hW2 hie
            go_wp2
            go_ret2
            exact ⟨tol_own hsl.out 0 hfin.out, hWw.out⟩
  · have dk : (k != 0) = true := by simpa using hk0
    have HK0 := Lib.hid hk0
    clear hk
    go_wp2
    go_ret2
    exact ⟨tol_bad _ _ _ (.inr ⟨by rw [← HK.out]; exact HK0.out, rfl⟩), Below.refl _ _⟩
end Go.Proofs.YtpmkdihencepnaaGreat
