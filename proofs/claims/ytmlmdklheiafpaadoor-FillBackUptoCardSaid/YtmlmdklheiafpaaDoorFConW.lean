/-
  fill.Content, fill.IsStandard: what they answer.
-/
import Derived.Test.YtmlmdklheiafpaaDoorFChkW
import Derived.Test.YtmlmdklheiafpaaDoorFCntM
import Derived.Deep.QuietTactic
import Derived.BigQuiet
namespace Go.Proofs.YtmlmdklheiafpaaDoor
open Go.RowKit

def lenV (v : Value) : Nat := match v with | .slice _ n _ => n | _ => 0
/-- What fill.Content answers. -/
def ContOut (e : Ending) (w : World) (T : List (List Int)) : Prop :=
  ∃ (k : Int) (A : Option Addr) (c : Nat) (xs : List Int), e = .returned (.tuple #[.slice A xs.length c, .int .i64 k]) ∧ Sl w w.heap.size A (ints xs) ∧ xs.length ≤ 99 ∧ (k = 0 → FillOk T ∧ Cnt T.flatten xs ∧ (xs.length = 0 ∨ (xs.length : Int) ∈ T.flatten)) ∧ (FillOk T → k = 0)
/-- The letters that have been counted. -/
def seenL (T : List (List Int)) (i j : Nat) : List Int := (T.take i).flatten ++ (T.getD i []).take j
theorem seenL_zero (T : List (List Int)) : seenL T 0 0 = [] := by simp [seenL]
theorem seenL_next {T : List (List Int)} {i j : Nat} (h : j < (T.getD i []).length) : seenL T i (j + 1) = seenL T i j ++ [(T.getD i []).getD j 0] := by
  unfold seenL
  rw [List.take_succ_eq_append_getElem h, getD_get h, List.append_assoc]
theorem seenL_row {T : List (List Int)} {i : Nat} (h : i < T.length) : seenL T i (T.getD i []).length = seenL T (i + 1) 0 := by
  unfold seenL
  rw [List.take_succ_eq_append_getElem h, List.flatten_append, List.take_of_length_le (Nat.le_refl _), getD_get h]; simp
theorem seenL_all (T : List (List Int)) : seenL T T.length 0 = T.flatten := by simp [seenL]
theorem seenL_sub {T : List (List Int)} {i j : Nat} : (seenL T i j).length ≤ boxes T := by
  unfold seenL
  rw [List.length_append, flatten_len, List.length_take]
  by_cases hi : i < T.length
  · have h1 := boxes_take hi
    have h2 := boxes_le (T := T) (i + 1)
    omega
  · rw [getD_far (by omega)]
    have := boxes_le (T := T) i
    simp; exact this

set_option maxRecDepth 100000 in
set_option maxHeartbeats 1000000 in
theorem content_any (A : Option Addr) (cap : Nat) (T : List (List Int)) (w : World) (hT : T.length ≤ 9223372036854775807) (h : SR w w.heap.size A T) :
    Calls Tryd.prog 19 #[.slice A T.length cap] w fun e w' => ContOut e w' T ∧ Below w.heap.size w w' := by
  go_enter Tryd.func19, Tryd.ntmps19
  go_wp2_with (first | (go_at_call 12; refine (fcheck_any A cap T _ hT h).mono ?_) | fail)
  rintro e w1 ⟨⟨k, rfl, hk1, hk2⟩, rfl⟩
  by_cases hk0 : k = 0
  · have hok := hk1 hk0
    have hT4 := hok.small.1
    have hT5 := hok.small.2
    have HOK := Lib.hid hok
    have HT5 := Lib.hid hT5
    subst hk0
    clear hk1 hk2 hok hT5
    go_wp2
    go_loopw [5, 17] (fun ov iv wr => ∃ (i m c5 : Nat) (A5 : Option Addr) (l : List Int), i ≤ T.length ∧ iv = .int .i64 i ∧ ov = .slice A5 m c5 ∧ l.length = m ∧ m ≤ 99 ∧ Cnt (seenL T i 0) l ∧ (l.length = 0 ∨ (l.length : Int) ∈ seenL T i 0) ∧ wr.ownsRow w.heap.size 3 1 (.slice A5 m c5) m (ints l) ∧ Below w.heap.size w wr) (fun _ iv _ => T.length - (intOf iv).toNat)
    case atStart => exact ⟨0, 0, 0, none, [], Nat.zero_le _, rfl, rfl, rfl, by omega, by rw [seenL_zero]; exact Cnt.nil, .inl rfl, World.ownsRow_nil _ _ _ _, Below.refl _ _⟩
    case round =>
      obtain ⟨i, m, c5, A5, l, hi, rfl, rfl, hlm, hm99, hcn, htp, ho, hW⟩ := hrel
      have HLM := Lib.hid hlm
      have HCN := Lib.hid hcn
      have HTP := Lib.hid htp
      have HO := Lib.hid ho
      clear hlm hcn htp ho
      by_cases hit : i < T.length
      · have di : decide (i < T.length) = true := decide_eq_true hit
        have h2 := h.below hW
        obtain ⟨b, o, rfl, hb⟩ := h.addr (by omega)
        obtain ⟨Ar, cr, hcl, hr, hrl⟩ := h2.at_ hit
        have hr40 := HT5.out i
        obtain ⟨q, hq⟩ : ∃ q, q = (T.getD i []).length := ⟨_, rfl⟩
        have hcells : Hid (∀ j, j < q → ∃ g p, Ar = some ⟨g, p, none⟩ ∧ g < w.heap.size ∧ w.cell? ⟨g, p + j, none⟩ = some (.int .i64 ((T.getD i []).getD j 0))) := fun j hj => by
          obtain ⟨g, p, e, hg⟩ := hr.addr (by omega)
          subst e
          have h3 := getD_cell hr (k := j) (by omega)
          rw [hW.cell (p := ⟨g, p + j, none⟩) hg] at h3
          exact ⟨g, p, rfl, hg, h3⟩
        rw [← hq] at hcl hr40 hrl
        have HQ := Lib.hid hq
        clear hr hq h2
        go_wp2
        go_loopw [5, 23] (fun ov jv wx => ∃ (j m c5 : Nat) (A5 : Option Addr) (l : List Int), j ≤ q ∧ jv = .int .i64 j ∧ ov = .slice A5 m c5 ∧ l.length = m ∧ m ≤ 99 ∧ Cnt (seenL T i j) l ∧ (l.length = 0 ∨ (l.length : Int) ∈ seenL T i j) ∧ wx.ownsRow w.heap.size 3 1 (.slice A5 m c5) m (ints l) ∧ Below w.heap.size w wx) (fun _ jv _ => q - (intOf jv).toNat)
        case atStart => exact ⟨0, m, c5, A5, l, Nat.zero_le _, rfl, rfl, HLM.out, hm99, HCN.out, HTP.out, HO.out, hW⟩
        case round =>
          clear HLM HCN HTP HO hW hm99 hcl
          obtain ⟨j, m, c5, A5, l, hj, rfl, rfl, hlm, hm99, hcn, htp, ho, hW⟩ := hrel
          by_cases hjq : j < q
          · have dj : decide (j < q) = true := decide_eq_true hjq
            obtain ⟨g, p, rfl, hg, hcx⟩ := hcells.out j hjq
            have hcx2 := hW.cell (p := ⟨g, p + j, none⟩) hg
            rw [hcx] at hcx2
            have hlt := ((HOK.out.row hit).2.2 j (by rw [← HQ.out]; exact hjq)).1
            have hsn := seenL_next (T := T) (i := i) (j := j) (by rw [← HQ.out]; exact hjq)
            obtain ⟨n, hn⟩ : ∃ n : Nat, (T.getD i []).getD j 0 = (n : Int) + 1 := ⟨((T.getD i []).getD j 0 - 1).toNat, by have := hlt.1; omega⟩
            rw [hn] at hcx2 hlt hsn
            have hn99 : n < 99 := by have := hlt.2; omega
            have HSN := Lib.hid hsn
            have HCN := Lib.hid hcn
            have HTP := Lib.hid htp
            have HLM := Lib.hid hlm
            have HO := Lib.hid ho
            have HW := Lib.hid hW
            have hcf := Lib.hid hcx
            clear hn hlt hsn hcx hcn htp hlm ho hW
            go_wp2
            go_loopw [5] (fun ov wy => ∃ (m c5 : Nat) (A5 : Option Addr) (l : List Int), ov = .slice A5 m c5 ∧ l.length = m ∧ m ≤ 99 ∧ Cnt (seenL T i j) l ∧ (l.length = 0 ∨ (l.length : Int) ∈ seenL T i j ∨ l.length ≤ n + 1) ∧ wy.ownsRow w.heap.size 3 1 (.slice A5 m c5) m (ints l) ∧ Below w.heap.size w wy) (fun ov _ => n + 1 - lenV ov)
            case atStart => exact ⟨m, c5, A5, l, rfl, HLM.out, hm99, HCN.out, by rcases HTP.out with e | e; exact .inl e; exact .inr (.inl e), HO.out, HW.out⟩
            case round =>
              clear HCN HTP HLM HO HW hcx2 hm99
              obtain ⟨m, c5, A5, l, rfl, hlm, hm99, hcn, htp, ho, hW⟩ := hrel
              have hsz := hW.size
              have HCN := Lib.hid hcn
              have HTP := Lib.hid htp
              have HLM := Lib.hid hlm
              have HO := Lib.hid ho
              have HW := Lib.hid hW
              clear hcn htp hlm ho hW
              by_cases hmn : m < n + 1
              · have dm : decide ((m : Int) < (n : Int) + 1) = true := decide_eq_true (by omega)
                go_wp2_with (first | (at_builtin; refine wpList_app1 rfl (.tmp 31) (.tmp 32) rfl rfl 0 HO.out rfl (by omega) hsz (fun g2 c2 w6 hl6 hb6 => ?_)) | fail)
                go_roundw
                case rel => exact ⟨m + 1, c2, _, l ++ [0], rfl, by rw [List.length_append, HLM.out]; rfl, by omega, HCN.out.zero, .inr (.inr (by rw [List.length_append, HLM.out]; simp; omega)), hl6, HW.out.trans hb6⟩
                case measure => simp [lenV]; omega
              · have dm : decide ((m : Int) < (n : Int) + 1) = false := decide_eq_false (by omega)
                obtain ⟨G, c', e1, hG, hGs⟩ := HO.out.form (by omega)
                obtain ⟨rfl, rfl⟩ : A5 = some ⟨G, 0, none⟩ ∧ c5 = c' := by injection e1 with e2 _ e3; exact ⟨e2, e3⟩
                have hck := own_get HO.out (getD_some (l := l) (j := n) (by rw [HLM.out]; omega))
                have hlv := HCN.out.at_ n (by rw [HLM.out]; omega)
                have hcnt : (seenL T i j).count ((n : Int) + 1) ≤ 40 := Nat.le_trans List.count_le_length (Nat.le_trans seenL_sub HOK.out.2.2)
                obtain ⟨y, hy⟩ : ∃ y : Nat, y = (seenL T i j).count ((n : Int) + 1) := ⟨_, rfl⟩
                rw [← hy] at hlv hcnt
                rw [hlv] at hck
                have hnx := HCN.out.add (n := n) (by rw [HLM.out]; omega)
                rw [hlv, ← HSN.out] at hnx
                have HNX := Lib.hid hnx
                have hfk := HO.out.frozenAt n
                have hst := Lib.hid (own_set HO.out n ((y : Int) + 1))
                have hws := Lib.hid (HW.out.setCell (p := ⟨G, n, none⟩) hG (.int .i64 ((y : Int) + 1)))
                have htp2 : Hid ((l.set n ((y : Int) + 1)).length = 0 ∨ ((l.set n ((y : Int) + 1)).length : Int) ∈ seenL T i (j + 1)) := by
                  show _ ∨ _
                  rw [List.length_set, HSN.out]
                  rcases HTP.out with e | e | e
                  · exact .inl e
                  · exact .inr (List.mem_append_left _ e)
                  · have : l.length = n + 1 := by have := HLM.out; omega
                    rw [this]
                    exact .inr (List.mem_append_right _ (by simp))
                clear hnx hy hlv
                go_wp2
                go_roundw
                case rel => exact ⟨j + 1, m, c5, _, l.set n ((y : Int) + 1), by omega, by go_num, rfl, by rw [List.length_set]; exact HLM.out, hm99, HNX.out, htp2.out, hst.out, hws.out⟩
                case measure => simp [intOf]; omega
          · have dj : decide (j < q) = false := decide_eq_false hjq
            have hjq2 : j = (T.getD i []).length := by have := HQ.out; omega
            rw [hjq2, seenL_row hit] at hcn htp
            have HLM := Lib.hid hlm
            have HCN := Lib.hid hcn
            have HTP := Lib.hid htp
            have HO := Lib.hid ho
            have HW := Lib.hid hW
            clear hlm hcn htp ho hjq2 hW
            go_wp2
            go_roundw
            case rel => exact ⟨i + 1, m, c5, A5, l, by omega, by go_num, rfl, HLM.out, hm99, HCN.out, HTP.out, HO.out, HW.out⟩
            case measure => simp [intOf]; omega
      · have di : decide (i < T.length) = false := decide_eq_false hit
        have hiT : i = T.length := by omega
        have hcn := HCN.out
        have htp := HTP.out
        rw [hiT, seenL_all] at hcn htp
        have HCN2 := Lib.hid hcn
        have HTP2 := Lib.hid htp
        obtain ⟨A6, c6, e6, hn6, hsl, _, _⟩ := own_sliceA HO.out
        have HSL := Lib.hid hsl
        subst hn6
        have e7 : A5 = A6 ∧ c5 = c6 := by injection e6 with g1 _ g3; exact ⟨g1, g3⟩
        obtain ⟨rfl, rfl⟩ := e7
        clear hcn htp hsl e6 HCN HTP hiT
        go_wp2
        go_ret2
        exact ⟨⟨0, A5, c5, l, rfl, HSL.out, hm99, fun _ => ⟨HOK.out, HCN2.out, HTP2.out⟩, fun _ => rfl⟩, hW⟩
  · have dk : (k != 0) = true := by simpa using hk0
    have hno : Hid (¬ FillOk T) := fun hh => hk0 (hk2 hh)
    have HK0 := Lib.hid hk0
    clear hk1 hk2
    go_wp2
    go_ret2
    exact ⟨⟨k, none, 0, [], rfl, Sl.nil _ _ _, by simp, fun e => absurd e HK0.out, fun e => absurd e hno.out⟩, Below.refl _ _⟩

/-- What fill.IsStandard answers. -/
def StdOut (e : Ending) (T : List (List Int)) : Prop := ∃ (b : Bool) (k : Int), e = .returned (.tuple #[.bool b, .int .i64 k]) ∧ (k = 0 → FillOk T ∧ (b = true ↔ IsPerm T.flatten)) ∧ (FillOk T → k = 0) ∧ (k ≠ 0 → b = false)
set_option maxRecDepth 100000 in
theorem standard_any (A : Option Addr) (cap : Nat) (T : List (List Int)) (w : World) (hT : T.length ≤ 9223372036854775807) (h : SR w w.heap.size A T) :
    Calls Tryd.prog 7 #[.slice A T.length cap] w fun e w' => StdOut e T ∧ Below w.heap.size w w' := by
  go_enter Tryd.func7, Tryd.ntmps7
  go_wp2_with (first | (go_at_call 19; refine (content_any A cap T _ hT h).mono ?_) | fail)
  rintro e w1 ⟨⟨k, A1, c1, xs, rfl, hsl, hx99, hk1, hk2⟩, hb1⟩
  by_cases hk0 : k = 0
  · obtain ⟨hok, hcn, htp⟩ := hk1 hk0
    have hpm := hcn.perm (fun x hx => by
      obtain ⟨r, hr, hx⟩ := List.mem_flatten.1 hx
      exact (hok.2.1 r hr x hx).1) htp
    have HOK := Lib.hid hok
    have HPM := Lib.hid hpm
    subst hk0
    clear hk1 hk2 hok hcn htp hpm h
    go_wp2
    go_loop [18] (fun nv => ∃ (n : Nat), n ≤ xs.length ∧ nv = .int .i64 n ∧ ∀ k, k < n → xs.getD k 0 = 1) (fun nv => xs.length - (intOf nv).toNat)
    case atStart => exact ⟨0, Nat.zero_le _, rfl, fun k hk => by omega⟩
    case round =>
      obtain ⟨n, hn, rfl, hz⟩ := hrel
      have HZ := Lib.hid hz
      clear hz
      by_cases hlt : n < xs.length
      · have dn : decide (n < xs.length) = true := decide_eq_true hlt
        obtain ⟨b, o, rfl, hb⟩ := hsl.addr (by omega)
        have hc := getD_cell hsl (k := n) hlt
        obtain ⟨y, hy⟩ : ∃ y, y = xs.getD n 0 := ⟨_, rfl⟩
        rw [← hy] at hc
        have HY := Lib.hid hy
        clear hy
        by_cases h0 : y = 1
        · have hnx : Hid (∀ k, k < n + 1 → xs.getD k 0 = 1) := fun k hk => by
            by_cases e : k = n
            · rw [e, ← HY.out, h0]
            · exact HZ.out k (by omega)
          subst h0
          go_wp2
          go_round
          case rel => exact ⟨n + 1, by omega, by go_num, hnx.out⟩
          case measure => simp [intOf]; omega
        · have dy : (y == 1) = false := by simpa using h0
          have hno : Hid (¬ IsPerm T.flatten) := fun hp => h0 (by rw [HY.out]; exact HPM.out.1 hp n hlt)
          go_wp2
          go_ret2
          exact ⟨⟨false, 0, rfl, fun _ => ⟨HOK.out, iff_of_false (by decide) hno.out⟩, fun _ => rfl, fun e => absurd rfl e⟩, hb1⟩
      · have dn : decide (n < xs.length) = false := decide_eq_false hlt
        have hyes : Hid (IsPerm T.flatten) := HPM.out.2 (fun k hk => HZ.out k (by omega))
        go_wp2
        go_ret2
        exact ⟨⟨true, 0, rfl, fun _ => ⟨HOK.out, fun _ => hyes.out, fun _ => rfl⟩, fun _ => rfl, fun e => absurd rfl e⟩, hb1⟩
  · have dk : (k != 0) = true := by simpa using hk0
    have hno : Hid (¬ FillOk T) := fun hh => hk0 (hk2 hh)
    have HK0 := Lib.hid hk0
    clear hk1 hk2
    go_wp2
    go_ret2
    exact ⟨⟨false, k, rfl, fun e => absurd e HK0.out, fun e => absurd e hno.out, fun _ => rfl⟩, hb1⟩
end Go.Proofs.YtmlmdklheiafpaaDoor
