/- Part of the proof. -/
import Derived.Deep.QuietTactic
import Derived.BigQuiet
import Derived.Test.YtpmkdihencepnaaGreatDoorMk04
import Derived.Test.YtpmkdihencepnaaGreatDoorMk07
import Derived.Test.YtpmkdihencepnaaGreatDoorMk09
set_option maxHeartbeats 16000000
set_option maxRecDepth 100000
namespace Go.Proofs.YtpmkdihencepnaaGreatDoor
section
open Go.RowKit
theorem equal_any (A C : Option Addr) (cap cap2 : Nat) (r s : List Int) (w : World) (hl : r.length ≤ 9223372036854775807) (_hl2 : s.length ≤ 9223372036854775807) (h : Sl w w.heap.size A (ints r)) (h2 : Sl w w.heap.size C (ints s)) :
 Calls Tryz.prog 184 #[.slice A r.length cap, .slice C s.length cap2] w fun e w' => e = .returned (.bool (decide (r = s))) ∧ Below w.heap.size w w' := by
 go_enter Tryz.func184, Tryz.ntmps184
 by_cases hln : r.length = s.length
 · have dl : decide ((r.length : Int) = (s.length : Int)) = true := decide_eq_true (by omega)
   have hLN := Lib.hid hln
   go_wp2
   go_loopw [13] (fun nv wr => ∃ (n : Nat), n ≤ r.length ∧ nv = .int .i64 n ∧ r.take n = s.take n ∧ Below w.heap.size w wr) (fun nv _ => r.length - (intOf nv).toNat)
   case atStart => exact ⟨0, Nat.zero_le _, rfl, by simp, Below.refl _ _⟩
   case round =>
    obtain ⟨n, hn, rfl, hz, hW⟩ := hrel
    have HZ := Lib.hid hz
    clear hz
    by_cases hlt : n < r.length
    · have dn : decide (n < r.length) = true := decide_eq_true hlt
      have hlt2 : n < s.length := by omega
      have hA := h.below hW
      have hC := h2.below hW
      obtain ⟨b, o, rfl, hb⟩ := h.addr (by omega)
      obtain ⟨b2, o2, rfl, hb2⟩ := h2.addr (by omega)
      have hc := getD_cell hA (k := n) hlt
      have hc2 := getD_cell hC (k := n) hlt2
      have hg := getD_some (l := r) (j := n) hlt
      have hg2 := getD_some (l := s) (j := n) hlt2
      obtain ⟨x, hx⟩ : ∃ x, x = r.getD n 0 := ⟨_, rfl⟩
      obtain ⟨y, hy⟩ : ∃ y, y = s.getD n 0 := ⟨_, rfl⟩
      rw [← hx] at hc hg
      rw [← hy] at hc2 hg2
      have HG := Lib.hid hg
      have HG2 := Lib.hid hg2
      clear hx hy hg hg2 hA hC
      by_cases h0 : x = y
      · subst h0
        have hnx : Hid (r.take (n + 1) = s.take (n + 1)) := by
         show _ = _
         obtain ⟨a1, a2⟩ := List.getElem?_eq_some_iff.1 HG.out
         obtain ⟨a3, a4⟩ := List.getElem?_eq_some_iff.1 HG2.out
         rw [List.take_succ_eq_append_getElem a1, List.take_succ_eq_append_getElem a3, HZ.out, a2, a4]
        go_wp2
        go_quiet (fail)
        go_wp2
        go_roundw
        case rel => exact ⟨n + 1, by omega, by go_num, hnx.out, below_drewN hW _⟩
        case measure => simp [intOf]; omega
      · have dx : (x == y) = false := by simpa using h0
        have hfin : Hid (decide (r = s) = false) := decide_eq_false (fun e => by
         have h5 := HG.out
         rw [e, HG2.out] at h5
         injection h5 with h6
         exact h0 h6.symm)
        go_wp2
        go_quiet (fail)
        go_wp2
        go_ret
        exact ⟨by rw [hfin.out]; rfl, below_drewN hW _⟩
    · have dn : decide (n < r.length) = false := decide_eq_false hlt
      have hfin : Hid (decide (r = s) = true) := decide_eq_true (by
       have := HZ.out
       rwa [List.take_of_length_le (by omega), List.take_of_length_le (by have := hLN.out; omega)] at this)
      go_wp2
      go_ret
      exact ⟨by rw [hfin.out]; rfl, hW⟩
 · have dl : ((r.length : Int) == (s.length : Int)) = false := by simp; omega
   have hfin : Hid (decide (r = s) = false) := decide_eq_false (fun e => hln (by rw [e]))
   go_wp2
   go_ret
   exact ⟨by rw [hfin.out]; rfl, Below.refl _ _⟩
def lensOf (T : List (List Int)) : List Int := T.map (fun r => (r.length : Int))
def ShapeOut (e : Ending) (w : World) (T : List (List Int)) : Prop :=
 ∃ (k : Int) (A : Option Addr) (c : Nat) (xs : List Int), e = .returned (.tuple #[.slice A xs.length c, .int .i64 k]) ∧ Sl w w.heap.size A (ints xs) ∧ (k = 0 → FillOk T ∧ xs = lensOf T) ∧ (FillOk T → k = 0)
theorem shape_any (A : Option Addr) (cap : Nat) (T : List (List Int)) (w : World) (hT : T.length ≤ 9223372036854775807) (h : SR w w.heap.size A T) :
 Calls Tryz.prog 134 #[.slice A T.length cap] w fun e w' => ShapeOut e w' T ∧ Below w.heap.size w w' := by
 go_enter Tryz.func134, Tryz.ntmps134
 go_wp2_with (first | (go_at_call 172; refine (fcheck_any A cap T _ hT h).mono ?_) | fail)
 rintro e w1 ⟨⟨k, rfl, hk1, hk2⟩, rfl⟩
 by_cases hk0 : k = 0
 · have hok := hk1 hk0
   have hT4 := hok.small.1
   have hT5 := hok.small.2
   have HOK := Lib.hid hok
   have HT5 := Lib.hid hT5
   subst hk0
   clear hk1 hk2 hok hT5
   go_wp2
   go_loopw [5, 15] (fun ov iv wr => ∃ (i : Nat) (l : List Int), i ≤ T.length ∧ iv = .int .i64 i ∧ l = lensOf (T.take i) ∧ wr.ownsRow w.heap.size 3 1 ov i (ints l) ∧ Below w.heap.size w wr) (fun _ iv _ => T.length - (intOf iv).toNat)
   case atStart => exact ⟨0, [], Nat.zero_le _, rfl, rfl, World.ownsRow_nil _ _ _ _, Below.refl _ _⟩
   case round =>
    obtain ⟨i, l, hi, rfl, hl, ho, hW⟩ := hrel
    have hsz := hW.size
    have HL := Lib.hid hl
    have HO := Lib.hid ho
    clear hl ho
    by_cases hit : i < T.length
    · have di : decide (i < T.length) = true := decide_eq_true hit
      have h2 := h.below hW
      obtain ⟨b, o, rfl, hb⟩ := h.addr (by omega)
      obtain ⟨Ar, cr, hcl, hr, hrl⟩ := h2.at_ hit
      have hr40 := HT5.out i
      have hnx : Hid (l ++ [((T.getD i []).length : Int)] = lensOf (T.take (i + 1))) := by
       show _ = _
       rw [HL.out]
       unfold lensOf
       rw [List.take_succ_eq_append_getElem hit, List.map_append, getD_get hit]; rfl
      obtain ⟨q, hq⟩ : ∃ q, q = (T.getD i []).length := ⟨_, rfl⟩
      rw [← hq] at hcl hr40 hnx
      clear hr hrl hq h2
      go_wp2_with (first | (at_builtin; refine wpList_app1 rfl (.tmp 19) (.tmp 22) rfl rfl (q : Int) HO.out rfl (by omega) hsz (fun g2 c2 w6 hl6 hb6 => ?_)) | fail)
      go_roundw
      case rel => exact ⟨i + 1, _, by omega, by go_num, hnx.out, hl6, hW.trans hb6⟩
      case measure => simp [intOf]; omega
    · have di : decide (i < T.length) = false := decide_eq_false hit
      have hfin : Hid (l = lensOf T) := by show _ = _; rw [HL.out, List.take_of_length_le (by omega)]
      obtain ⟨A6, c6, e6, hn6, hsl, _, _⟩ := own_sliceA HO.out
      have HSL := Lib.hid hsl
      subst e6
      clear hsl
      go_wp2
      go_ret2
      exact ⟨⟨0, A6, c6, l, rfl, HSL.out, fun _ => ⟨HOK.out, hfin.out⟩, fun _ => rfl⟩, hW⟩
 · have dk : (k != 0) = true := by simpa using hk0
   have hno : Hid (¬ FillOk T) := fun hh => hk0 (hk2 hh)
   have HK0 := Lib.hid hk0
   clear hk1 hk2
   go_wp2
   go_ret2
   exact ⟨⟨k, none, 0, [], rfl, Sl.nil _ _ _, fun e => absurd e HK0.out, fun e => absurd e hno.out⟩, Below.refl _ _⟩
def lenV (v : Value) : Nat := match v with | .slice _ n _ => n | _ => 0
def ContOut (e : Ending) (w : World) (T : List (List Int)) : Prop :=
 ∃ (k : Int) (A : Option Addr) (c : Nat) (xs : List Int), e = .returned (.tuple #[.slice A xs.length c, .int .i64 k]) ∧ Sl w w.heap.size A (ints xs) ∧ xs.length ≤ 99 ∧ (k = 0 → FillOk T ∧ Cnt T.flatten xs ∧ (xs.length = 0 ∨ (xs.length : Int) ∈ T.flatten)) ∧ (FillOk T → k = 0)
def ContR (B : Nat) (e : Ending) (w : World) (T : List (List Int)) : Prop :=
 ∃ (k : Int) (A : Option Addr) (c : Nat) (xs : List Int), e = .returned (.tuple #[.slice A xs.length c, .int .i64 k]) ∧ w.ownsRow B 3 1 (.slice A xs.length c) xs.length (ints xs) ∧ xs.length ≤ 99 ∧ (k = 0 → FillOk T ∧ Cnt T.flatten xs ∧ (xs.length = 0 ∨ (xs.length : Int) ∈ T.flatten)) ∧ (FillOk T → k = 0) ∧ (k ≠ 0 → xs = [])
def seenL (T : List (List Int)) (i j : Nat) : List Int := (T.take i).flatten ++ (T.getD i []).take j
theorem seenL_zero (T : List (List Int)) : seenL T 0 0 = [] := by simp [seenL]
theorem seenL_next {T : List (List Int)} {i j : Nat} (h : j < (T.getD i []).length) : seenL T i (j + 1) = seenL T i j ++ [(T.getD i []).getD j 0] := by
 unfold seenL
 rw [List.take_succ_eq_append_getElem h, getD_get h, List.append_assoc]
theorem seenL_row {T : List (List Int)} {i : Nat} (h : i < T.length) : seenL T i (T.getD i []).length = seenL T (i + 1) 0 := by
 unfold seenL
 rw [List.take_succ_eq_append_getElem h, List.flatten_append, List.take_of_length_le (Nat.le_refl _), getD_get h]; simp
theorem seenL_all (T : List (List Int)) : seenL T T.length 0 = T.flatten := by simp [seenL]
theorem seenL_sub {T : List (List Int)} {i j : Nat} : (seenL T i j).length ≤ boxes T := by
 unfold seenL
 rw [List.length_append, flatten_len, List.length_take]
 by_cases hi : i < T.length
 · have h1 := boxes_take hi
   have h2 := boxes_le (T := T) (i + 1)
   omega
 · rw [getD_far (by omega)]
   have := boxes_le (T := T) i
   simp; exact this
theorem content_all (A : Option Addr) (cap : Nat) (T : List (List Int)) (w : World) (hT : T.length ≤ 9223372036854775807) (h : SR w w.heap.size A T) :
 Calls Tryz.prog 185 #[.slice A T.length cap] w fun e w' => ContR w.heap.size e w' T ∧ Below w.heap.size w w' := by
 go_enter Tryz.func185, Tryz.ntmps185
 go_wp2_with (first | (go_at_call 172; refine (fcheck_any A cap T _ hT h).mono ?_) | fail)
 rintro e w1 ⟨⟨k, rfl, hk1, hk2⟩, rfl⟩
 by_cases hk0 : k = 0
 · have hok := hk1 hk0
   have hT4 := hok.small.1
   have hT5 := hok.small.2
   have HOK := Lib.hid hok
   have HT5 := Lib.hid hT5
   subst hk0
   clear hk1 hk2 hok hT5
   go_wp2
   go_loopw [5, 17] (fun ov iv wr => ∃ (i m c5 : Nat) (A5 : Option Addr) (l : List Int), i ≤ T.length ∧ iv = .int .i64 i ∧ ov = .slice A5 m c5 ∧ l.length = m ∧ m ≤ 99 ∧ Cnt (seenL T i 0) l ∧ (l.length = 0 ∨ (l.length : Int) ∈ seenL T i 0) ∧ wr.ownsRow w.heap.size 3 1 (.slice A5 m c5) m (ints l) ∧ Below w.heap.size w wr) (fun _ iv _ => T.length - (intOf iv).toNat)
   case atStart => exact ⟨0, 0, 0, none, [], Nat.zero_le _, rfl, rfl, rfl, by omega, by rw [seenL_zero]; exact Cnt.nil, .inl rfl, World.ownsRow_nil _ _ _ _, Below.refl _ _⟩
   case round =>
    obtain ⟨i, m, c5, A5, l, hi, rfl, rfl, hlm, hm99, hcn, htp, ho, hW⟩ := hrel
    have HLM := Lib.hid hlm
    have HCN := Lib.hid hcn
    have HTP := Lib.hid htp
    have HO := Lib.hid ho
    clear hlm hcn htp ho
    by_cases hit : i < T.length
    · have di : decide (i < T.length) = true := decide_eq_true hit
      have h2 := h.below hW
      obtain ⟨b, o, rfl, hb⟩ := h.addr (by omega)
      obtain ⟨Ar, cr, hcl, hr, hrl⟩ := h2.at_ hit
      have hr40 := HT5.out i
      obtain ⟨q, hq⟩ : ∃ q, q = (T.getD i []).length := ⟨_, rfl⟩
      have hcells : Hid (∀ j, j < q → ∃ g p, Ar = some ⟨g, p, none⟩ ∧ g < w.heap.size ∧ w.cell? ⟨g, p + j, none⟩ = some (.int .i64 ((T.getD i []).getD j 0))) := fun j hj => by
       obtain ⟨g, p, e, hg⟩ := hr.addr (by omega)
       subst e
       have h3 := getD_cell hr (k := j) (by omega)
       rw [hW.cell (p := ⟨g, p + j, none⟩) hg] at h3
       exact ⟨g, p, rfl, hg, h3⟩
      rw [← hq] at hcl hr40 hrl
      have HQ := Lib.hid hq
      clear hr hq h2
      go_wp2
      go_loopw [5, 23] (fun ov jv wx => ∃ (j m c5 : Nat) (A5 : Option Addr) (l : List Int), j ≤ q ∧ jv = .int .i64 j ∧ ov = .slice A5 m c5 ∧ l.length = m ∧ m ≤ 99 ∧ Cnt (seenL T i j) l ∧ (l.length = 0 ∨ (l.length : Int) ∈ seenL T i j) ∧ wx.ownsRow w.heap.size 3 1 (.slice A5 m c5) m (ints l) ∧ Below w.heap.size w wx) (fun _ jv _ => q - (intOf jv).toNat)
      case atStart => exact ⟨0, m, c5, A5, l, Nat.zero_le _, rfl, rfl, HLM.out, hm99, HCN.out, HTP.out, HO.out, hW⟩
      case round =>
       clear HLM HCN HTP HO hW hm99 hcl
       obtain ⟨j, m, c5, A5, l, hj, rfl, rfl, hlm, hm99, hcn, htp, ho, hW⟩ := hrel
       by_cases hjq : j < q
       · have dj : decide (j < q) = true := decide_eq_true hjq
         obtain ⟨g, p, rfl, hg, hcx⟩ := hcells.out j hjq
         have hcx2 := hW.cell (p := ⟨g, p + j, none⟩) hg
         rw [hcx] at hcx2
         have hlt := ((HOK.out.row hit).2.2 j (by rw [← HQ.out]; exact hjq)).1
         have hsn := seenL_next (T := T) (i := i) (j := j) (by rw [← HQ.out]; exact hjq)
         obtain ⟨n, hn⟩ : ∃ n : Nat, (T.getD i []).getD j 0 = (n : Int) + 1 := ⟨((T.getD i []).getD j 0 - 1).toNat, by have := hlt.1; omega⟩
         rw [hn] at hcx2 hlt hsn
         have hn99 : n < 99 := by have := hlt.2; omega
         have HSN := Lib.hid hsn
         have HCN := Lib.hid hcn
         have HTP := Lib.hid htp
         have HLM := Lib.hid hlm
         have HO := Lib.hid ho
         have HW := Lib.hid hW
         have hcf := Lib.hid hcx
         clear hn hlt hsn hcx hcn htp hlm ho hW
         go_wp2
         go_loopw [5] (fun ov wy => ∃ (m c5 : Nat) (A5 : Option Addr) (l : List Int), ov = .slice A5 m c5 ∧ l.length = m ∧ m ≤ 99 ∧ Cnt (seenL T i j) l ∧ (l.length = 0 ∨ (l.length : Int) ∈ seenL T i j ∨ l.length ≤ n + 1) ∧ wy.ownsRow w.heap.size 3 1 (.slice A5 m c5) m (ints l) ∧ Below w.heap.size w wy) (fun ov _ => n + 1 - lenV ov)
         case atStart => exact ⟨m, c5, A5, l, rfl, HLM.out, hm99, HCN.out, by rcases HTP.out with e | e; exact .inl e; exact .inr (.inl e), HO.out, HW.out⟩
         case round =>
          clear HCN HTP HLM HO HW hcx2 hm99
          obtain ⟨m, c5, A5, l, rfl, hlm, hm99, hcn, htp, ho, hW⟩ := hrel
          have hsz := hW.size
          have HCN := Lib.hid hcn
          have HTP := Lib.hid htp
          have HLM := Lib.hid hlm
          have HO := Lib.hid ho
          have HW := Lib.hid hW
          clear hcn htp hlm ho hW
          by_cases hmn : m < n + 1
          · have dm : decide ((m : Int) < (n : Int) + 1) = true := decide_eq_true (by omega)
            go_wp2_with (first | (at_builtin; refine wpList_app1 rfl (.tmp 31) (.tmp 32) rfl rfl 0 HO.out rfl (by omega) hsz (fun g2 c2 w6 hl6 hb6 => ?_)) | fail)
            go_roundw
            case rel => exact ⟨m + 1, c2, _, l ++ [0], rfl, by rw [List.length_append, HLM.out]; rfl, by omega, HCN.out.zero, .inr (.inr (by rw [List.length_append, HLM.out]; simp; omega)), hl6, HW.out.trans hb6⟩
            case measure => simp [lenV]; omega
          · have dm : decide ((m : Int) < (n : Int) + 1) = false := decide_eq_false (by omega)
            obtain ⟨G, c', e1, hG, hGs⟩ := HO.out.form (by omega)
            obtain ⟨rfl, rfl⟩ : A5 = some ⟨G, 0, none⟩ ∧ c5 = c' := by injection e1 with e2 _ e3; exact ⟨e2, e3⟩
            have hck := own_get HO.out (getD_some (l := l) (j := n) (by rw [HLM.out]; omega))
            have hlv := HCN.out.at_ n (by rw [HLM.out]; omega)
            have hcnt : (seenL T i j).count ((n : Int) + 1) ≤ 40 := Nat.le_trans List.count_le_length (Nat.le_trans seenL_sub HOK.out.2.2)
            obtain ⟨y, hy⟩ : ∃ y : Nat, y = (seenL T i j).count ((n : Int) + 1) := ⟨_, rfl⟩
            rw [← hy] at hlv hcnt
            rw [hlv] at hck
            have hnx := HCN.out.add (n := n) (by rw [HLM.out]; omega)
            rw [hlv, ← HSN.out] at hnx
            have HNX := Lib.hid hnx
            have hfk := HO.out.frozenAt n
            have hst := Lib.hid (own_set HO.out n ((y : Int) + 1))
            have hws := Lib.hid (HW.out.setCell (p := ⟨G, n, none⟩) hG (.int .i64 ((y : Int) + 1)))
            have htp2 : Hid ((l.set n ((y : Int) + 1)).length = 0 ∨ ((l.set n ((y : Int) + 1)).length : Int) ∈ seenL T i (j + 1)) := by
             show _ ∨ _
             rw [List.length_set, HSN.out]
             rcases HTP.out with e | e | e
             · exact .inl e
             · exact .inr (List.mem_append_left _ e)
             · have : l.length = n + 1 := by have := HLM.out; omega
               rw [this]
               exact .inr (List.mem_append_right _ (by simp))
            clear hnx hy hlv
            go_wp2
            go_roundw
            case rel => exact ⟨j + 1, m, c5, _, l.set n ((y : Int) + 1), by omega, by go_num, rfl, by rw [List.length_set]; exact HLM.out, hm99, HNX.out, htp2.out, hst.out, hws.out⟩
            case measure => simp [intOf]; omega
       · have dj : decide (j < q) = false := decide_eq_false hjq
         have hjq2 : j = (T.getD i []).length := by have := HQ.out; omega
         rw [hjq2, seenL_row hit] at hcn htp
         have HLM := Lib.hid hlm
         have HCN := Lib.hid hcn
         have HTP := Lib.hid htp
         have HO := Lib.hid ho
         have HW := Lib.hid hW
         clear hlm hcn htp ho hjq2 hW
         go_wp2
         go_roundw
         case rel => exact ⟨i + 1, m, c5, A5, l, by omega, by go_num, rfl, HLM.out, hm99, HCN.out, HTP.out, HO.out, HW.out⟩
         case measure => simp [intOf]; omega
    · have di : decide (i < T.length) = false := decide_eq_false hit
      have hiT : i = T.length := by omega
      have hcn := HCN.out
      have htp := HTP.out
      rw [hiT, seenL_all] at hcn htp
      have HCN2 := Lib.hid hcn
      have HTP2 := Lib.hid htp
      obtain ⟨A6, c6, e6, hn6, hsl, _, _⟩ := own_sliceA HO.out
      have HSL := Lib.hid hsl
      subst hn6
      have e7 : A5 = A6 ∧ c5 = c6 := by injection e6 with g1 _ g3; exact ⟨g1, g3⟩
      obtain ⟨rfl, rfl⟩ := e7
      have HSO := Lib.hid HO.out
      clear hcn htp hsl e6 HCN HTP hiT
      go_wp2
      go_ret2
      exact ⟨⟨0, A5, c5, l, rfl, HSO.out, hm99, fun _ => ⟨HOK.out, HCN2.out, HTP2.out⟩, fun _ => rfl, fun e => absurd rfl e⟩, hW⟩
 · have dk : (k != 0) = true := by simpa using hk0
   have hno : Hid (¬ FillOk T) := fun hh => hk0 (hk2 hh)
   have HK0 := Lib.hid hk0
   clear hk1 hk2
   go_wp2
   go_ret2
   exact ⟨⟨k, none, 0, [], rfl, World.ownsRow_nil _ _ _ _, by simp, fun e => absurd e HK0.out, fun e => absurd e hno.out, fun _ => rfl⟩, Below.refl _ _⟩
theorem content_any (A : Option Addr) (cap : Nat) (T : List (List Int)) (w : World) (hT : T.length ≤ 9223372036854775807) (h : SR w w.heap.size A T) :
 Calls Tryz.prog 185 #[.slice A T.length cap] w fun e w' => ContOut e w' T ∧ Below w.heap.size w w' :=
 (content_all A cap T w hT h).mono (fun _ _ ⟨⟨k, A', c, xs, he, ho, h1, h2, h3, _⟩, hb⟩ => ⟨⟨k, A', c, xs, he, Sl.of_own ho, h1, h2, h3⟩, hb⟩)
def StdOut (e : Ending) (T : List (List Int)) : Prop := ∃ (b : Bool) (k : Int), e = .returned (.tuple #[.bool b, .int .i64 k]) ∧ (k = 0 → FillOk T ∧ (b = true ↔ IsPerm T.flatten)) ∧ (FillOk T → k = 0) ∧ (k ≠ 0 → b = false)
theorem standard_any (A : Option Addr) (cap : Nat) (T : List (List Int)) (w : World) (hT : T.length ≤ 9223372036854775807) (h : SR w w.heap.size A T) :
 Calls Tryz.prog 147 #[.slice A T.length cap] w fun e w' => StdOut e T ∧ Below w.heap.size w w' := by
 go_enter Tryz.func147, Tryz.ntmps147
 go_wp2_with (first | (go_at_call 185; refine (content_any A cap T _ hT h).mono ?_) | fail)
 rintro e w1 ⟨⟨k, A1, c1, xs, rfl, hsl, hx99, hk1, hk2⟩, hb1⟩
 by_cases hk0 : k = 0
 · obtain ⟨hok, hcn, htp⟩ := hk1 hk0
   have hpm := hcn.perm (fun x hx => by
    obtain ⟨r, hr, hx⟩ := List.mem_flatten.1 hx
    exact (hok.2.1 r hr x hx).1) htp
   have HOK := Lib.hid hok
   have HPM := Lib.hid hpm
   subst hk0
   clear hk1 hk2 hok hcn htp hpm h
   go_wp2
   go_loop [18] (fun nv => ∃ (n : Nat), n ≤ xs.length ∧ nv = .int .i64 n ∧ ∀ k, k < n → xs.getD k 0 = 1) (fun nv => xs.length - (intOf nv).toNat)
   case atStart => exact ⟨0, Nat.zero_le _, rfl, fun k hk => by omega⟩
   case round =>
    obtain ⟨n, hn, rfl, hz⟩ := hrel
    have HZ := Lib.hid hz
    clear hz
    by_cases hlt : n < xs.length
    · have dn : decide (n < xs.length) = true := decide_eq_true hlt
      obtain ⟨b, o, rfl, hb⟩ := hsl.addr (by omega)
      have hc := getD_cell hsl (k := n) hlt
      obtain ⟨y, hy⟩ : ∃ y, y = xs.getD n 0 := ⟨_, rfl⟩
      rw [← hy] at hc
      have HY := Lib.hid hy
      clear hy
      by_cases h0 : y = 1
      · have hnx : Hid (∀ k, k < n + 1 → xs.getD k 0 = 1) := fun k hk => by
         by_cases e : k = n
         · rw [e, ← HY.out, h0]
         · exact HZ.out k (by omega)
        subst h0
        go_wp2
        go_round
        case rel => exact ⟨n + 1, by omega, by go_num, hnx.out⟩
        case measure => simp [intOf]; omega
      · have dy : (y == 1) = false := by simpa using h0
        have hno : Hid (¬ IsPerm T.flatten) := fun hp => h0 (by rw [HY.out]; exact HPM.out.1 hp n hlt)
        go_wp2
        go_ret2
        exact ⟨⟨false, 0, rfl, fun _ => ⟨HOK.out, iff_of_false (by decide) hno.out⟩, fun _ => rfl, fun e => absurd rfl e⟩, hb1⟩
    · have dn : decide (n < xs.length) = false := decide_eq_false hlt
      have hyes : Hid (IsPerm T.flatten) := HPM.out.2 (fun k hk => HZ.out k (by omega))
      go_wp2
      go_ret2
      exact ⟨⟨true, 0, rfl, fun _ => ⟨HOK.out, fun _ => hyes.out, fun _ => rfl⟩, fun _ => rfl, fun e => absurd rfl e⟩, hb1⟩
 · have dk : (k != 0) = true := by simpa using hk0
   have hno : Hid (¬ FillOk T) := fun hh => hk0 (hk2 hh)
   have HK0 := Lib.hid hk0
   clear hk1 hk2
   go_wp2
   go_ret2
   exact ⟨⟨false, k, rfl, fun e => absurd e HK0.out, fun e => absurd e hno.out, fun _ => rfl⟩, hb1⟩
def wordL (T : List (List Int)) (m : Nat) : List Int := (T.drop m).reverse.flatten
theorem wordL_step {T : List (List Int)} {m : Nat} (h : m < T.length) : wordL T (m + 1) ++ T.getD m [] = wordL T m := by
 unfold wordL
 have e : T.drop m = T[m] :: T.drop (m + 1) := List.drop_eq_getElem_cons h
 rw [e, getD_get h, List.reverse_cons, List.flatten_append]
 simp
theorem wordL_len {T : List (List Int)} (h : ∀ i, (T.getD i []).length ≤ 40) : ∀ d m, m + d = T.length → (wordL T m).length ≤ 40 * d
 | 0, m, e => by simp [wordL, List.drop_eq_nil_of_le (show T.length ≤ m by omega)]
 | d + 1, m, e => by
  rw [← wordL_step (by omega), List.length_append]
  have := wordL_len h d (m + 1) (by omega)
  have := h m
  omega
def WrdOut (T : List (List Int)) (B : Nat) (e : Ending) (w : World) : Prop := (FillOk T ∧ ∃ (A : Option Addr) (c : Nat), e = .returned (.tuple #[.slice A T.reverse.flatten.length c, .int .i64 0]) ∧ w.ownsRow B 3 1 (.slice A T.reverse.flatten.length c) T.reverse.flatten.length (ints T.reverse.flatten)) ∨ ¬ FillOk T
theorem word_all (A : Option Addr) (cap : Nat) (T : List (List Int)) (w : World) (hT : T.length ≤ 9223372036854775807) (h : SR w w.heap.size A T) :
 Calls Tryz.prog 135 #[.slice A T.length cap] w fun e w' => WrdOut T w.heap.size e w' ∧ Below w.heap.size w w' := by
 go_enter Tryz.func135, Tryz.ntmps135
 go_wp2_with (first | (go_at_call 172; refine (fcheck_any A cap T _ hT h).mono ?_) | fail)
 rintro e w1 ⟨⟨k, rfl, hk1, hk2⟩, rfl⟩
 by_cases hk0 : k = 0
 · have hok := hk1 hk0
   subst hk0
   have hT40 := hok.small.1
   have HR := Lib.hid hok.small.2
   have HOK := Lib.hid hok
   clear hk1 hk2 hok
   go_wp2
   go_loopw [5, 6] (fun ov iv wr => ∃ (m : Nat) (z : Int), m ≤ T.length ∧ iv = .int .i64 z ∧ z + 1 = (m : Int) ∧ wr.ownsRow w.heap.size 3 1 ov (wordL T m).length (ints (wordL T m)) ∧ Below w.heap.size w wr) (fun _ iv _ => (intOf iv + 1).toNat)
   case atStart => exact ⟨T.length, (T.length : Int) - 1, Nat.le_refl _, rfl, by omega, by simp [wordL, ints]; exact World.ownsRow_nil _ _ _ _, Below.refl _ _⟩
   case round =>
    obtain ⟨m, z, hm, rfl, hz, ho, hW⟩ := hrel
    have HO := Lib.hid ho
    have hsz := hW.size
    clear ho
    by_cases hz0 : 0 ≤ z
    · obtain ⟨i, rfl⟩ : ∃ i : Nat, z = i := ⟨z.toNat, by omega⟩
      have him : m = i + 1 := by omega
      subst him
      have di : decide ((0 : Int) ≤ (i : Int)) = true := decide_eq_true hz0
      have hit : i < T.length := by omega
      have hil : (i : Int) < (T.length : Int) := by omega
      have h2 := h.below hW
      obtain ⟨b, o, rfl, hb⟩ := h2.addr (by omega)
      obtain ⟨Ar, cr, hcl, hr, hrl⟩ := h2.at_ hit
      have hst := wordL_step hit
      have hl := wordL_len HR.out (T.length - (i + 1)) (i + 1) (by omega)
      have hr40 := HR.out i
      obtain ⟨R, hR⟩ : ∃ R, R = T.getD i [] := ⟨_, rfl⟩
      obtain ⟨L, hL⟩ : ∃ L, L = wordL T (i + 1) := ⟨_, rfl⟩
      have ho := HO.out
      rw [← hR] at hcl hr hst hr40
      rw [← hL] at hst hl ho
      have HO2 := Lib.hid ho
      have HST := Lib.hid hst
      have HRR := Lib.hid hr
      have hLl : L.length + R.length < 1000000 := by omega
      clear hR hL hst hr ho HO hrl h2 hl
      go_wp2_with (first | (at_builtin; refine wpList_app rfl (.tmp 19) (.tmp 23) rfl rfl HO2.out _ rfl HRR.out hLl hsz (fun v' w2 h3 h4 => ?_)) | fail)
      rw [HST.out] at h3
      have HO3 := Lib.hid h3
      have hW2 := hW.trans h4
      clear h3 h4 hLl
      go_wp2
      go_roundw
      case rel => exact ⟨i, (i : Int) - 1, by omega, by go_num, by omega, HO3.out, hW2⟩
      case measure => simp [intOf]
    · have di : decide ((0 : Int) ≤ z) = false := decide_eq_false hz0
      have hm0 : m = 0 := by omega
      have ho := HO.out
      rw [hm0] at ho
      have HF : Hid (wordL T 0 = T.reverse.flatten) := by show _ = _; simp [wordL]
      obtain ⟨Ao, co, rfl, -, hso⟩ := own_sliceV ho
      have HSO := Lib.hid hso
      obtain ⟨L, hL⟩ : ∃ L, L = wordL T 0 := ⟨_, rfl⟩
      rw [← hL] at HF HSO ⊢
      clear ho hso HO hm0 hL
      go_wp2
      go_ret2
      have hlf := HF.out
      subst hlf
      exact ⟨.inl ⟨HOK.out, Ao, co, rfl, HSO.out⟩, hW⟩
 · have dk : (k != 0) = true := by simpa using hk0
   have hno : Hid (¬ FillOk T) := fun hh => hk0 (hk2 hh)
   clear hk1 hk2
   go_wp2
   go_ret2
   exact ⟨.inr hno.out, Below.refl _ _⟩
theorem stwin_any (A : Option Addr) (cap : Nat) (T : List (List Int)) (w : World) (hT : T.length < 1000000) (hrl : ∀ i, (T.getD i []).length < 1000000) (h : SR w w.heap.size A T) :
 Calls Tryz.prog 178 #[.slice A T.length cap] w fun e w' => (∃ v hs, e = .returned v ∧ OwnM w' w.heap.size v hs T) ∧ Below w.heap.size w w' := by
 go_enter Tryz.func178, Tryz.ntmps178
 go_wp2
 go_loopw [3, 8] (fun ov iv wr => ∃ (i : Nat) (hs : List Value), i ≤ T.length ∧ iv = .int .i64 i ∧ OwnM wr w.heap.size ov hs (T.take i) ∧ Below w.heap.size w wr) (fun _ iv _ => T.length - (intOf iv).toNat)
 case atStart => exact ⟨0, [], Nat.zero_le _, rfl, OwnM.nil _ _, Below.refl _ _⟩
 case round =>
  obtain ⟨i, hs, hi, rfl, hm, hW⟩ := hrel
  have HM := Lib.hid hm
  have hsz := hW.size
  clear hm
  by_cases hlt : i < T.length
  · have di : decide (i < T.length) = true := decide_eq_true hlt
    obtain ⟨b, o, rfl, hb⟩ := h.addr (by omega)
    have h2 := h.below hW
    obtain ⟨Ar, cr, hc, hr, _⟩ := h2.at_ hlt
    have hrl2 := hrl i
    obtain ⟨r, hre⟩ : ∃ r, r = T.getD i [] := ⟨_, rfl⟩
    rw [← hre] at hc hr hrl2
    have HRE := Lib.hid hre
    clear hre h2
    go_wp2_with (first | (go_at_call 100; refine (clone_any Ar cr r _ hrl2 (hr.more hsz)).mono ?_) | fail)
    rintro e w4 ⟨v4, rfl, hv4, hb4⟩
    obtain ⟨A4, c4, rfl, _, _, hle, _⟩ := own_sliceA hv4
    have hu4 := hv4.mono hsz
    have hfar := HM.out.far_new (u := .slice A4 r.length c4) (fun k hk => by
     have := (hv4.lt k hk).1; exact this)
    have hm4 := HM.out.below hb4
    have hmo := hm4.out
    rw [List.length_take, Nat.min_eq_left (by omega)] at hmo
    have HM4 := Lib.hid hm4
    have HMO := Lib.hid hmo
    have HU4 := Lib.hid hu4
    have HF := Lib.hid hfar
    have hW4 := hW.trans (hb4.mono hsz)
    have hB9 := Lib.hid hW4.size
    clear hm4 hmo hu4 hfar hv4 hb4
    go_wp2_with (first | (at_builtin; refine wpList_push (v := u3) rfl (.tmp 12) (.tmp 15) rfl rfl (.slice A4 r.length c4) rfl HMO.out w4.heap.size rfl rfl (by omega) hB9.out (fun g2 c2 w5 hl5 hg5 hat5 => ?_)) | fail)
    have hpush := (HM4.out.alloc (.cells #[.slice A4 r.length c4] 65)).push (u := .slice A4 r.length c4) (l := r) (HU4.out.alloc _) HF.out.1 HF.out.2 (by rw [List.length_take, Nat.min_eq_left (by omega)]) hl5 hg5 (by simpa using hat5)
    have hts : T.take i ++ [r] = T.take (i + 1) := by rw [getD_take_succ hlt, HRE.out]
    rw [hts] at hpush
    have hW5 : Below w.heap.size w w5 := (hW4.alloc hB9.out _).grown hg5 (by have := hB9.out; simp; omega) (fun k hk => (HMO.out.lt k hk).1)
    have HPU := Lib.hid hpush
    clear hpush hl5 hg5 hat5 hts
    go_wp2
    go_roundw
    case rel => exact ⟨i + 1, _, by omega, by go_num, HPU.out, hW5⟩
    case measure => simp [intOf]; omega
  · have di : decide (i < T.length) = false := decide_eq_false hlt
    have hm := HM.out
    rw [List.take_of_length_le (by omega)] at hm
    have HM2 := Lib.hid hm
    clear hm
    go_wp2
    go_ret
    exact ⟨⟨_, _, rfl, HM2.out⟩, hW⟩
theorem holes_any {B : Nat} (A : Option Addr) (cap : Nat) (r : List Int) (w : World) (hl : r.length ≤ 9223372036854775807) (h : Sl w B A (ints r)) :
 Calls Tryz.prog 179 #[.slice A r.length cap] w fun e w' => e = .returned (.int .i64 (hol r)) ∧ w' = w := by
 go_enter Tryz.func179, Tryz.ntmps179
 go_wp2
 go_loop [3] (fun nv => ∃ (n : Nat), n ≤ r.length ∧ nv = .int .i64 n ∧ ∀ k, k < n → r[k]? = some 0) (fun nv => r.length - (intOf nv).toNat)
 case atStart => exact ⟨0, Nat.zero_le _, rfl, fun k hk => by omega⟩
 case round =>
  obtain ⟨n, hn, rfl, hz⟩ := hrel
  have HZ := Lib.hid hz
  clear hz
  by_cases hlt : n < r.length
  · have dn : decide (n < r.length) = true := decide_eq_true hlt
    obtain ⟨b, o, rfl, hb⟩ := h.addr (by simpa using (show 0 < r.length by omega))
    have hc := getD_cell h (k := n) hlt
    have hg := getD_some (l := r) (j := n) hlt
    obtain ⟨x, hx⟩ : ∃ x, x = r.getD n 0 := ⟨_, rfl⟩
    rw [← hx] at hc hg
    have HG := Lib.hid hg
    clear hx hg
    by_cases h0 : x = 0
    · subst h0
      go_wp2
      go_round
      case rel => exact ⟨n + 1, by omega, by go_num, fun k hk => by
       by_cases e : k = n
       · rw [e]; exact HG.out
       · exact HZ.out k (by omega)⟩
      case measure => simp [intOf]; omega
    · have dx : (x == 0) = false := by simpa using h0
      have hfin : Hid (hol r = n) := hol_at HZ.out (fun y hy => by rw [HG.out] at hy; cases hy; exact h0)
      go_wp2
      go_ret
      exact ⟨by rw [hfin.out]; rfl, rfl⟩
  · have dn : decide (n < r.length) = false := decide_eq_false hlt
    have hfin : Hid (hol r = n) := hol_at HZ.out (fun y hy => by rw [List.getElem?_eq_none (by omega)] at hy; cases hy)
    go_wp2
    go_ret
    exact ⟨by rw [hfin.out]; rfl, rfl⟩
end
end Go.Proofs.YtpmkdihencepnaaGreatDoor
