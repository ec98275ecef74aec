/-
  paths.Catalan, paths.Rank: what they answer.
-/
import Derived.Test.YtdmpbbgcifodeaaPath1W
namespace Go.Proofs.Ytdmpbbgcifodeaa
open Go.RowKit

theorem byte_at {s : ByteArray} {e : List UInt8} {k : Nat} {x : UInt8} (hs : s = ⟨e.toArray⟩) (hx : e[k]? = some x) (hk : k < s.size) : s[k] = x := by
  subst hs
  obtain ⟨h1, h2⟩ := List.getElem?_eq_some_iff.1 hx
  show e.toArray[k] = x
  simpa using h2
/-- A number of the table, where it lies. -/
theorem balT_cell {w : World} {B b o : Nat} (h : SR w B (some ⟨b, o, none⟩) balT) {k : Nat} (hk : k < 61) :
    ∃ g p c, w.cell? ⟨b, o + k, none⟩ = some (.slice (some ⟨g, p, none⟩) 62 c) ∧ ∀ e, e < 62 → w.cell? ⟨g, p + e, none⟩ = some (.int .i64 (bal k e : Int)) := by
  obtain ⟨A, c, hc, hs, _⟩ := h.at_ (r := k) (by rw [balT_length]; exact hk)
  rw [balT_row hk, rowB_length] at hc
  rw [balT_row hk] at hs
  obtain ⟨g, p, rfl, hg⟩ := hs.addr (by rw [rowB_length]; omega)
  refine ⟨g, p, c, hc, fun e he => ?_⟩
  have := getD_cell hs (k := e) (by rw [rowB_length]; exact he)
  rwa [rowB_at he] at this

set_option maxRecDepth 100000 in
theorem catalan_any (n : Int) (w : World) :
    Calls Try.prog 82 #[.int .i64 n] w fun e w' => (∃ v k : Int, e = .returned (.tuple #[.int .i64 v, .int .i64 k]) ∧ ((¬ (0 ≤ n ∧ n ≤ 30) ∧ v = 0 ∧ k = 1) ∨ (0 ≤ n ∧ n ≤ 30 ∧ v = (bal (2 * n.toNat) 0 : Int) ∧ k = 0))) ∧ Below w.heap.size w w' := by
  go_enter Try.func82, Try.ntmps82
  by_cases h0 : n < 0
  · have d0 : decide (n < 0) = true := decide_eq_true h0
    have hf : Hid (¬ (0 ≤ n ∧ n ≤ 30)) := fun h => by omega
    clear h0
    go_wp2
    go_ret2
    exact ⟨⟨0, 1, rfl, .inl ⟨hf.out, rfl, rfl⟩⟩, Below.refl _ _⟩
  · by_cases h1 : 30 < n
    · have d0 : decide (n < 0) = false := decide_eq_false h0
      have d1 : decide (30 < n) = true := decide_eq_true h1
      have hf : Hid (¬ (0 ≤ n ∧ n ≤ 30)) := fun h => by omega
      clear h0 h1
      go_wp2
      go_ret2
      exact ⟨⟨0, 1, rfl, .inl ⟨hf.out, rfl, rfl⟩⟩, Below.refl _ _⟩
    · obtain ⟨m, rfl⟩ := Int.eq_ofNat_of_zero_le (show 0 ≤ n by omega)
      have d0 : decide ((m : Int) < 0) = false := decide_eq_false h0
      have d1 : decide (30 < (m : Int)) = false := decide_eq_false h1
      have hm : m ≤ 30 := by omega
      clear h0 h1
      go_wp2_with (first | (go_at_call 81; refine (ballots_any _).mono ?_) | fail)
      rintro e w1 ⟨⟨A, c, rfl, hr⟩, hb1⟩
      obtain ⟨b, o, rfl, hb⟩ := hr.addr (by rw [balT_length]; omega)
      obtain ⟨g, p, c1, hc, he⟩ := balT_cell hr (k := 2 * m) (by omega)
      have he0 := he 0 (by omega)
      rw [Nat.add_zero] at he0
      obtain ⟨x, hx⟩ : ∃ x : Int, x = (bal (2 * m) 0 : Int) := ⟨_, rfl⟩
      rw [← hx] at he0
      have HX := Lib.hid hx
      clear hx he hr
      go_wp2
      go_ret2
      exact ⟨⟨x, 0, rfl, .inr ⟨by omega, by omega, by rw [Int.toNat_natCast]; exact HX.out, rfl⟩⟩, hb1⟩

/-- What Rank answers. -/
def RankOut (l : List UInt8) (v k : Int) : Prop := (k = 0 ∧ l.length ≤ 60 ∧ ∃ r : Nat, v = (r : Int) ∧ rk l 0 = some r) ∨ (k ≠ 0 ∧ v = 0 ∧ (60 < l.length ∨ rk l 0 = none))
/-- What has been counted and what is to come make the rank. -/
structure Rk (l : List UInt8) (i e S : Nat) : Prop where
  eq : rk l 0 = (rk (l.drop i) e).map (S + ·)
  le : S + bal (l.length - i) e ≤ bal l.length 0
  ei : e ≤ i
theorem Rk.start (l : List UInt8) : Rk l 0 0 0 := by
  refine ⟨?_, by simp, Nat.le_refl _⟩
  rw [List.drop_zero]
  cases rk l 0 <;> simp
theorem drop_at {l : List UInt8} {i : Nat} {c : UInt8} (h : l[i]? = some c) : l.drop i = c :: l.drop (i + 1) := by
  obtain ⟨h1, h2⟩ := List.getElem?_eq_some_iff.1 h
  rw [List.drop_eq_getElem_cons h1, h2]
theorem Rk.up {l : List UInt8} {i e S : Nat} (h : Rk l i e S) (hc : l[i]? = some 40) : Rk l (i + 1) (e + 1) S := by
  have hlt := (List.getElem?_eq_some_iff.1 hc).1
  refine ⟨?_, ?_, by have := h.ei; omega⟩
  · rw [h.eq, drop_at hc]; simp only [rk]; rw [if_pos trivial]
  · have := h.le
    rw [show l.length - i = (l.length - (i + 1)) + 1 by omega] at this
    simp only [bal] at this
    omega
theorem Rk.down {l : List UInt8} {i e S : Nat} (h : Rk l i e S) (hc : l[i]? = some 41) (he : 0 < e) : Rk l (i + 1) (e - 1) (S + bal (l.length - 1 - i) (e + 1)) := by
  have hlt := (List.getElem?_eq_some_iff.1 hc).1
  have e1 : l.length - (i + 1) = l.length - 1 - i := by omega
  refine ⟨?_, ?_, by have := h.ei; omega⟩
  · rw [h.eq, drop_at hc]; simp only [rk]
    rw [if_neg (by decide), if_pos ⟨trivial, he⟩, Option.map_map, List.length_drop, e1]
    congr 1
    funext x
    simp only [Function.comp]; omega
  · have := h.le
    rw [show l.length - i = (l.length - 1 - i) + 1 by omega] at this
    simp only [bal] at this
    rw [if_neg (by omega)] at this
    rw [e1]; omega
theorem Rk.bad {l : List UInt8} {i e S : Nat} {c : UInt8} (h : Rk l i e S) (hc : l[i]? = some c) (h0 : c ≠ 40) (h1 : ¬ (c = 41 ∧ 0 < e)) : rk l 0 = none := by
  rw [h.eq, drop_at hc]; simp only [rk]; rw [if_neg h0, if_neg h1]; rfl
theorem Rk.fin {l : List UInt8} {i e S : Nat} (h : Rk l i e S) (hi : i = l.length) : rk l 0 = if e = 0 then some S else none := by
  rw [h.eq, List.drop_of_length_le (by omega)]; simp only [rk]; split <;> simp
theorem Rk.small {l : List UInt8} {i e S : Nat} (h : Rk l i e S) (hl : l.length ≤ 60) : (S : Int) + (bal (l.length - i) e : Int) ≤ 1152921504606846976 := by
  have := h.le
  have := bal_int (k := l.length) (e := 0) hl
  omega

set_option maxRecDepth 100000 in
set_option maxHeartbeats 1000000 in
theorem rank_any (s : ByteArray) (l : List UInt8) (hs : s = ⟨l.toArray⟩) (w : World) :
    Calls Try.prog 39 #[.string s] w fun e w' => (∃ v k : Int, e = .returned (.tuple #[.int .i64 v, .int .i64 k]) ∧ RankOut l v k) ∧ Below w.heap.size w w' := by
  have hss : s.size = l.length := by rw [hs]; simp [ByteArray.size]
  have HS := Lib.hid hs
  have HSS := Lib.hid hss
  clear hs
  go_enter Try.func39, Try.ntmps39
  by_cases hn : 60 < s.size
  · have d0 : decide ((60 : Int) < (s.size : Int)) = true := decide_eq_true (by omega)
    have hf : Hid (60 < l.length) := by show _ < _; omega
    clear hn hss
    go_wp2
    go_ret2
    exact ⟨⟨0, 2, rfl, .inr ⟨by decide, rfl, .inl hf.out⟩⟩, Below.refl _ _⟩
  · have d0 : decide ((60 : Int) < (s.size : Int)) = false := decide_eq_false (by omega)
    have hn60 : s.size ≤ 60 := by omega
    clear hn hss
    go_wp2_with (first | (go_at_call 81; refine (ballots_any _).mono ?_) | fail)
    rintro e w1 ⟨⟨A, c, rfl, hr⟩, hb1⟩
    obtain ⟨b, o, rfl, hb⟩ := hr.addr (by rw [balT_length]; omega)
    have HR := Lib.hid hr
    clear hr d0
    go_wp2
    go_loop [5, 6, 14] (fun sv ev iv => ∃ (i e S : Nat), i ≤ s.size ∧ sv = .int .i64 S ∧ ev = .int .i64 e ∧ iv = .int .i64 i ∧ Rk l i e S) (fun _ _ iv => s.size - (intOf iv).toNat)
    case atStart => exact ⟨0, 0, 0, Nat.zero_le _, rfl, rfl, rfl, Rk.start l⟩
    case round =>
      obtain ⟨i, e, S, hi, rfl, rfl, rfl, hk⟩ := hrel
      have HK := Lib.hid hk
      have hei := hk.ei
      clear hk
      by_cases hlt : i < s.size
      · have di : decide ((i : Int) < (s.size : Int)) = true := decide_eq_true (by omega)
        obtain ⟨x, hx⟩ : ∃ x, l[i]? = some x := by
          have := HSS.out
          exact ⟨l[i]'(by omega), List.getElem?_eq_getElem (by omega)⟩
        have HX := Lib.hid hx
        clear hx
        by_cases h40 : x = 40
        · subst h40
          have hbt : ∀ hh : i < s.size, (((s[i]'hh).toNat : Int) == 40) = true := fun hh => by rw [byte_at HS.out HX.out hh]; rfl
          have hnx := Lib.hid (HK.out.up HX.out)
          go_wp2
          go_round
          case rel => exact ⟨i + 1, e + 1, S, by omega, rfl, rfl, rfl, hnx.out⟩
          case measure => simp [intOf]; omega
        · have hb40 : ∀ hh : i < s.size, (((s[i]'hh).toNat : Int) == 40) = false := fun hh => by
            rw [byte_at HS.out HX.out hh]
            have : x.toNat ≠ 40 := fun e => h40 (UInt8.toNat_inj.1 e)
            simp; omega
          have H40 := Lib.hid h40
          clear h40
          by_cases h41 : x = 41
          · have hb41 : ∀ hh : i < s.size, (((s[i]'hh).toNat : Int) == 41) = true := fun hh => by rw [byte_at HS.out HX.out hh, h41]; rfl
            have H41 := Lib.hid h41
            clear h41
            by_cases he0 : 0 < e
            · have de : decide ((0 : Int) < (e : Int)) = true := decide_eq_true (by omega)
              have hx := HX.out
              rw [H41.out] at hx
              have hnx := HK.out.down hx he0
              have hsm := hnx.small (by have := HSS.out; omega)
              rw [← HSS.out] at hnx
              obtain ⟨g, p, c1, hc, hce⟩ := balT_cell HR.out (k := s.size - 1 - i) (by omega)
              have hce0 := hce (e + 1) (by omega)
              obtain ⟨y, hy⟩ : ∃ y : Nat, y = bal (s.size - 1 - i) (e + 1) := ⟨_, rfl⟩
              rw [HSS.out] at hy
              rw [← hy] at hsm
              rw [← HSS.out] at hy
              rw [← hy] at hce0 hnx
              have hwr : IntKind.i64.wrap ((S : Int) + (y : Int)) = (S : Int) + (y : Int) := IntWalk.i64_in _ (by omega)
              have HN := Lib.hid hnx
              clear hnx hce hx hy hsm

              go_wp2
              go_round
              case rel => exact ⟨i + 1, e - 1, S + y, by omega, rfl, by go_num, rfl, HN.out⟩
              case measure => simp [intOf]; omega
            · have de : decide ((0 : Int) < (e : Int)) = false := decide_eq_false (by omega)
              have hno := Lib.hid (HK.out.bad HX.out H40.out (fun h => he0 h.2))

              go_wp2
              go_ret2
              exact ⟨⟨0, 1, rfl, .inr ⟨by decide, rfl, .inr hno.out⟩⟩, hb1⟩
          · have hb41 : ∀ hh : i < s.size, (((s[i]'hh).toNat : Int) == 41) = false := fun hh => by
              rw [byte_at HS.out HX.out hh]
              have : x.toNat ≠ 41 := fun e => h41 (UInt8.toNat_inj.1 e)
              simp; omega
            have hno := Lib.hid (HK.out.bad HX.out H40.out (fun h => h41 h.1))
            clear h41
            go_wp2
            go_ret2
            exact ⟨⟨0, 1, rfl, .inr ⟨by decide, rfl, .inr hno.out⟩⟩, hb1⟩
      · have di : decide ((i : Int) < (s.size : Int)) = false := decide_eq_false (by omega)
        have hfin := HK.out.fin (by have := HSS.out; omega)
        by_cases he0 : 0 < e
        · have de : decide ((0 : Int) < (e : Int)) = true := decide_eq_true (by omega)
          rw [if_neg (by omega)] at hfin
          have HF := Lib.hid hfin
          clear hfin
          go_wp2
          go_ret2
          exact ⟨⟨0, 1, rfl, .inr ⟨by decide, rfl, .inr HF.out⟩⟩, hb1⟩
        · have de : decide ((0 : Int) < (e : Int)) = false := decide_eq_false (by omega)
          rw [if_pos (by omega)] at hfin
          have HF := Lib.hid hfin
          have hl60 : Hid (l.length ≤ 60) := by show _ ≤ _; have := HSS.out; omega
          clear hfin
          go_wp2
          go_ret2
          exact ⟨⟨S, 0, rfl, .inl ⟨rfl, hl60.out, S, rfl, HF.out⟩⟩, hb1⟩
end Go.Proofs.Ytdmpbbgcifodeaa
