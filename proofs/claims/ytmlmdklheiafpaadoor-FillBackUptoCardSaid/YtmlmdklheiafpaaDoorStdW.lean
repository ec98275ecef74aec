/-
  fill.Standard: what it answers.
-/
import Derived.Test.YtmlmdklheiafpaaDoorSbxW
import Derived.Test.YtmlmdklheiafpaaDoorStdN
import Derived.StillTailTactics
namespace Go.Proofs.YtmlmdklheiafpaaDoor
open Go.RowKit Go.Proofs Std1

theorem Tryd.infoBox : (Tryd.prog.info? 44).map (fun i => (i.zero, i.size, i.bytes)) = some (some (.agg #[.int .i64 0, .int .i64 0, .int .i64 0]), 3, 24) := by kernel_rfl
/-- 'append(v, x)' of one box. -/
theorem wpList_appB {w : World} {base : Nat} {U : List (List Int)} {l : List (Nat × Nat)} {v : Value} {ops : Array Oper} {rest : List Oper} {o : Oper} {a : Act} {Q : Exit → Act → World → Prop} (hgd : o.guard = none) (s x : Operand)
    (ho : o.op = .call { callee := .builtin .append, args := #[s, x], argTypes := #[42, 42] }) (hs : a.eval s = v) (y : Nat × Nat) {n : Nat}
    (hown : w.ownsRow base 44 3 v n (cellsK (encB U) l)) (g0 : Nat) (hg0 : g0 = w.heap.size) (hx : a.eval x = .slice (some ⟨g0, 0, none⟩) 1 1) (hlen : n < 1000000) (hbase : base ≤ w.heap.size)
    (h : ∀ g cap w', w'.ownsRow base 44 3 (.slice (some ⟨g, 0, none⟩) (n + 1) cap) (n + 1) (cellsK (encB U) (l ++ [y])) → Below base w w' →
      wpList Tryd.prog ops Q rest (a.put o.dst (.slice (some ⟨g, 0, none⟩) (n + 1) cap)) w') :
    wpList Tryd.prog ops Q (o :: rest) a (w.alloc (.cells #[.int .i64 y.1, .int .i64 y.2, .int .i64 (ent U y.1 y.2)] 44)) := by
  subst hg0
  obtain ⟨i0, hi, hz0, hz1, hz2⟩ := info_parts Tryd.infoBox
  refine wpList_append_lies _ hgd s x 42 ho base 44 i0 (.agg #[.int .i64 0, .int .i64 0, .int .i64 0]) 3 24 Tryd.underlying42 hi hz0 hz1 hz2 rfl (by decide) v n (cellsK (encB U) l) hs (hown.alloc _) ⟨w.heap.size, 0, none⟩ 1 1 [.int .i64 y.1, .int .i64 y.2, .int .i64 (ent U y.1 y.2)] hx rfl ?_ (by simp [Value.oneCell']) (by decide)
    (by unfold maxLen; omega) (by omega) (by simp; omega) _ rfl (fun g cap w' h1 h2 h3 _ => ?_)
  · intro j u hu
    match j, hu with
    | 0, hu => simp at hu; subst hu; simp [Addr.add]
    | 1, hu => simp at hu; subst hu; simp [Addr.add]
    | 2, hu => simp at hu; subst hu; simp [Addr.add]
  · refine h g cap w' ?_ (((Below.refl base w).alloc hbase _).grown h2 (by simp; omega) (fun b hb => (hown.lt b hb).1))
    have e : cellsK (encB U) (l ++ [y]) = cellsK (encB U) l ++ [.int .i64 y.1, .int .i64 y.2, .int .i64 (ent U y.1 y.2)] := by simp [cellsK, encB]
    rw [e]; exact h1
theorem OwnM.lower {w : World} {B B' : Nat} {v : Value} {hs : List Value} {rows : List (List Int)} (h : OwnM w B v hs rows) (hB : B' ≤ B) : OwnM w B' v hs rows :=
  ⟨h.len, h.out.mono hB, fun r hr => (h.inn r hr).mono hB, h.far, h.top⟩
theorem own_sliceK {w : World} {base n k : Nat} {e : TypeId} {v : Value} {cs : List Value} (h : w.ownsRow base e k v n cs) : ∃ A c, v = .slice A n c ∧ n ≤ c ∧ c ≤ 9223372036854775807 := by
  rcases h.2 with ⟨e1, e2⟩ | ⟨g, cap, cur, e1, _, _, h1, h2, _⟩
  · exact ⟨none, 0, by rw [e2]; exact e1, by omega, by omega⟩
  · exact ⟨_, cap, e1, h1, by simpa [maxLen] using h2⟩
theorem boxes_at {w : World} {base n g c : Nat} {T : List (List Int)} {L : List (Nat × Nat)} (h : w.ownsRow base 44 3 (.slice (some ⟨g, 0, none⟩) n c) n (cellsK (encB T) L)) (hn : n = L.length) {q : Nat} (hq : q < L.length) {i j : Nat} (he : L[q] = (i, j)) :
    w.cell? ⟨g, q * 3, none⟩ = some (.int .i64 i) ∧ w.cell? ⟨g, q * 3 + 1, none⟩ = some (.int .i64 j) ∧ w.cell? ⟨g, q * 3 + 2, none⟩ = some (.int .i64 (ent T i j)) := by
  have hk : ∀ x, (encB T x).length = 3 := fun _ => rfl
  have e0 : L[q]! = (i, j) := by rw [getElem!_pos L q hq, he]
  have key : ∀ r u, r < 3 → (encB T (i, j))[r]? = some u → w.cell? ⟨g, q * 3 + r, none⟩ = some u := fun r u hr hu => by
    rw [h.cellAt _ (by omega), cellsK_get hk (by decide) (by omega), show (q * 3 + r) / 3 = q by omega, show (q * 3 + r) % 3 = r by omega, e0]
    exact hu
  exact ⟨key 0 _ (by decide) rfl, key 1 _ (by decide) rfl, key 2 _ (by decide) rfl⟩
def StdR (T : List (List Int)) (B : Nat) (e : Ending) (w' : World) : Prop :=
  (FillOk T ∧ ∃ v hs, e = .returned (.tuple #[v, .int .i64 0]) ∧ OwnM w' B v hs (std T)) ∨ (¬ FillOk T ∧ ∃ k : Int, k ≠ 0 ∧ e = .returned (.tuple #[.slice none 0 0, .int .i64 k]))
set_option maxRecDepth 100000 in
set_option maxHeartbeats 8000000 in
theorem std_any (A : Option Addr) (cap : Nat) (T : List (List Int)) (w : World) (hT : T.length ≤ 9223372036854775807) (h : SR w w.heap.size A T) :
    Calls Tryd.prog 6 #[.slice A T.length cap] w fun e w' => StdR T w.heap.size e w' ∧ Below w.heap.size w w' := by
  go_enter Tryd.func6, Tryd.ntmps6
  go_wp2_with (first | (go_at_call 12; refine (fcheck_any A cap T _ hT h).mono ?_) | fail)
  rintro e w1 ⟨⟨k, rfl, hk1, hk2⟩, rfl⟩
  by_cases hk0 : k = 0
  · have hok := hk1 hk0
    have hT4 := hok.small.1
    have HOK := Lib.hid hok
    have HT5 := Lib.hid hok.small.2
    have HTO := Lib.hid (TOk.of hok)
    have HPL : Hid (∀ i j, (preB T i j).length ≤ 40 * i + j) := preB_len (fun i => HT5.out i)
    have HH := Lib.hid h
    subst hk0
    clear hk1 hk2 hok
    obtain ⟨N, hN⟩ : ∃ N, N = w.heap.size := ⟨_, rfl⟩
    have HNE := Lib.hid hN
    clear hN
    go_wp2
    go_loopw [5, 20] (fun lv iv wr => ∃ (vL : Value) (i m : Nat), vL = lv ∧ i ≤ T.length ∧ iv = .int .i64 i ∧ m = (preB T i 0).length ∧ wr.ownsRow N 44 3 vL m (cellsK (encB T) (preB T i 0)) ∧ Below N w wr) (fun _ iv _ => T.length - (Go.RowKit.intOf iv).toNat)
    case atStart => exact ⟨_, 0, 0, rfl, Nat.zero_le _, rfl, rfl, World.ownsRow_nil _ _ _ _, by rw [HNE.out]; exact Below.refl _ _⟩
    case round =>
      obtain ⟨w9, rfl⟩ : ∃ w9, w9 = wr := ⟨_, rfl⟩
      obtain ⟨vL, i, m, rfl, hi, rfl, hm, hown, hW⟩ := hrel
      by_cases hit : i < T.length
      · have di : decide (i < T.length) = true := decide_eq_true hit
        have di2 : decide ((i : Int) < (T.length : Int)) = true := decide_eq_true (by omega)
        obtain ⟨b, o, rfl, hb⟩ := HH.out.addr (by omega)
        have h2 := HH.out.below (by rw [← HNE.out]; exact hW)
        obtain ⟨Ar, cr, hc, hr, hrl⟩ := h2.at_ hit
        have hr40 := HT5.out i
        have HLEN : Hid ((T.getD i []).length = len T i) := rfl
        have HROW : Hid (∀ j, j < (T.getD i []).length → ∃ g p, Ar = some ⟨g, p, none⟩ ∧ g < w.heap.size ∧ w.cell? ⟨g, p + j, none⟩ = some (.int .i64 (ent T i j))) := fun j hj => by
          obtain ⟨Ar2, cr2, hc2, hr2, _⟩ := HH.out.at_ hit
          have e := (hW.cell (p := ⟨b, o + i, none⟩) (by rw [HNE.out]; exact hb)).trans hc2
          rw [hc] at e
          have e2 : Ar = Ar2 := by
            have := Option.some.inj e
            injection this
          rw [e2]
          obtain ⟨g, p, e3, hg⟩ := hr2.addr (by omega)
          rw [e3] at hr2
          exact ⟨g, p, e3, hg, getD_cell hr2 hj⟩
        obtain ⟨n, hn⟩ : ∃ n, n = (T.getD i []).length := ⟨_, rfl⟩
        rw [← hn] at hc hrl hr40 HLEN HROW
        have HO := Lib.hid hown
        have HM := Lib.hid hm
        have HW := Lib.hid hW
        clear hn hr h2 hown hm hW
        go_upto_region 9 with fail
        go_loopw [5, 27] (fun lv jv wz => ∃ (vL : Value) (j m : Nat), vL = lv ∧ j ≤ n ∧ jv = .int .i64 j ∧ m = (preB T i j).length ∧ wz.ownsRow N 44 3 vL m (cellsK (encB T) (preB T i j)) ∧ Below N w wz) (fun _ jv _ => n - (Go.RowKit.intOf jv).toNat)
        case atStart => exact ⟨_, 0, m, rfl, Nat.zero_le _, rfl, HM.out, HO.out, HW.out⟩
        case round =>
          obtain ⟨w8, rfl⟩ : ∃ w8, w8 = wr := ⟨_, rfl⟩
          clear HO HM HW hc m
          obtain ⟨vL, j, m, rfl, hj, rfl, hm, hown, hW⟩ := hrel
          by_cases hjn : j < n
          · have dj : decide (j < n) = true := decide_eq_true hjn
            have dj2 : decide ((j : Int) < (n : Int)) = true := decide_eq_true (by omega)
            obtain ⟨g, p, rfl, hg, hcx⟩ := HROW.out j hjn
            have hcx := (hW.cell (p := ⟨g, p + j, none⟩) (by rw [HNE.out]; exact hg)).trans hcx
            have hml : m < 1000000 := by have := HPL.out i j; omega
            have hnx : Hid (preB T i j ++ [(i, j)] = preB T i (j + 1)) := preB_next T i j
            have hmx : Hid (m + 1 = (preB T i (j + 1)).length) := by show _ = _; rw [← hnx.out, List.length_append, hm]; rfl
            have hNs : N ≤ w8.heap.size := by have := hW.size; have := HNE.out; omega
            obtain ⟨x, hx⟩ : ∃ x, x = ent T i j := ⟨_, rfl⟩
            rw [← hx] at hcx
            have HXE := Lib.hid hx
            have HO := Lib.hid hown
            have HW := Lib.hid hW
            clear hx hm hown hW
            go_upto_region 12 with (first | (at_builtin; rw [HXE.out]; refine wpList_appB (base := N) (U := T) (l := preB T i j) (v := vL) rfl (.tmp 32) (.tmp 37) rfl rfl (i, j) HO.out w8.heap.size rfl rfl hml hNs (fun g6 c6 w6 hown6 hb6 => ?_)) | fail)
            rw [hnx.out] at hown6
            have HO6 := Lib.hid hown6
            have HW6 := Lib.hid (HW.out.trans hb6)
            clear hown6 hb6 HO HW hcx
            go_wp2
            go_roundw
            case rel => exact ⟨_, j + 1, m + 1, rfl, by omega, by go_num, hmx.out, HO6.out, HW6.out⟩
            case measure => simp [Go.RowKit.intOf]; omega
          · have dj : decide (j < n) = false := decide_eq_false hjn
            have dj2 : decide ((j : Int) < (n : Int)) = false := decide_eq_false (by omega)
            have hjl : preB T i j = preB T (i + 1) 0 := by rw [show j = len T i by rw [← HLEN.out]; omega, preB_row]
            rw [hjl] at hm hown
            have HO := Lib.hid hown
            have HM := Lib.hid hm
            have HW := Lib.hid hW
            clear hjl hm hown hW
            go_wp2
            go_roundw
            case rel => exact ⟨_, i + 1, m, rfl, by omega, by go_num, HM.out, HO.out, HW.out⟩
            case measure => simp [Go.RowKit.intOf]; omega
      · have di : decide (i < T.length) = false := decide_eq_false hit
        have di2 : decide ((i : Int) < (T.length : Int)) = false := decide_eq_false (by omega)
        have hpa : preB T i 0 = allB T := by rw [show i = T.length by omega, preB_all]
        rw [hpa] at hm hown
        have hml : (allB T).length < 1000000 := by have := HPL.out i 0; rw [hpa] at this; omega
        have hNs : N ≤ w9.heap.size := by have := hW.size; have := HNE.out; omega
        rw [hm] at hown
        have HSB := Lib.hid (sortB_any (base := N) vL T HTO.out w9 hml hNs hown)
        have HW := Lib.hid hW
        clear hpa hown hW hml hm
        go_wp2_with (first | (go_at_call 14; refine HSB.out.mono ?_) | fail)
        rintro e w5 ⟨⟨rfl, hsb⟩, hb5⟩
        obtain ⟨L, hp, hs, hown⟩ := hsb
        have hW5 := HW.out.trans hb5
        have hTw := ftwin_any A cap T w5 (by omega) (fun i => by have := HT5.out i; omega) (HH.out.keep (by rw [← HNE.out]; exact hW5))
        have HTW := Lib.hid hTw
        have HW5 := Lib.hid hW5
        obtain ⟨AL, cL, rfl, hcl1, hcl2⟩ := own_sliceK hown
        have HO := Lib.hid hown
        have HPM := Lib.hid hp
        have HSO := Lib.hid hs
        clear hTw hW5 hown hp hs hb5 HSB HW
        go_upto_region 16 with (first | (go_at_call 18; refine HTW.out.mono ?_) | fail)
        rintro e w6 ⟨⟨v6, hs6, rfl, hm6⟩, hb6⟩
        have hm6' : OwnM w6 w5.heap.size v6 hs6 (mixS T L 0) := by rw [mixS_zero]; exact hm6
        obtain ⟨n, hn⟩ : ∃ n, n = L.length := ⟨_, rfl⟩
        have HN := Lib.hid hn
        rw [← hn] at HO hcl1 ⊢
        have HM6 := Lib.hid hm6'
        have HB6 := Lib.hid hb6
        clear hm6 hm6' hb6 hn HTW
        go_wp2
        go_loopw [47] (fun qv wz => ∃ q : Nat, q ≤ n ∧ qv = .int .i64 q ∧ OwnM wz w5.heap.size v6 hs6 (mixS T L q) ∧ Below w5.heap.size w5 wz) (fun qv _ => n - (Go.RowKit.intOf qv).toNat)
        case atStart => exact ⟨0, Nat.zero_le _, rfl, HM6.out, HB6.out⟩
        case round =>
          obtain ⟨w9, rfl⟩ : ∃ w9, w9 = wr := ⟨_, rfl⟩
          clear HM6 HB6
          obtain ⟨q, hq, rfl, hm, hW⟩ := hrel
          by_cases hqn : q < n
          · have dq : decide (q < n) = true := decide_eq_true hqn
            have dq2 : decide ((q : Int) < (n : Int)) = true := decide_eq_true (by omega)
            have hqL : q < L.length := by rw [← HN.out]; exact hqn
            obtain ⟨⟨i, j⟩, hij⟩ : ∃ b, b = L[q] := ⟨_, rfl⟩
            obtain ⟨hi, hj, hst⟩ := mixS_step HPM.out HSO.out hqL hij.symm
            obtain ⟨gL, rfl⟩ : ∃ g, AL = some ⟨g, 0, none⟩ := by
              obtain ⟨g, c, e1, _, _⟩ := HO.out.form (by omega)
              injection e1 with e2; exact ⟨g, e2⟩
            have hgL : gL < w5.heap.size := (HO.out.lt gL rfl).2
            obtain ⟨b1, b2, b3⟩ := boxes_at HO.out HN.out hqL hij.symm
            have b1 := (hW.cell (p := ⟨gL, q * 3, none⟩) hgL).trans b1
            have b2 := (hW.cell (p := ⟨gL, q * 3 + 1, none⟩) hgL).trans b2
            have b3 := (hW.cell (p := ⟨gL, q * 3 + 2, none⟩) hgL).trans b3
            obtain ⟨y, hy⟩ : ∃ y, y = ent T i j := ⟨_, rfl⟩
            rw [← hy] at b3
            have hjl : j < ((mixS T L q).getD i []).length := by have := mixS_len T L q i; unfold len at this; rw [this]; exact hj
            obtain ⟨R, hR⟩ : ∃ R, R = mixS T L q := ⟨_, rfl⟩
            have hRl : R.length = T.length := by rw [hR, mixS_length]
            rw [← hR] at hm hst hjl
            obtain ⟨G6, c6, e6, hG1, hG2⟩ := hm.out.form (by omega)
            rw [hRl] at e6
            subst e6
            have hNs : w5.heap.size ≤ w9.heap.size := hW.size
            obtain ⟨X, hX⟩ : ∃ X, X = w9.heap.size := ⟨_, rfl⟩
            obtain ⟨w8, hw8⟩ : ∃ w8, w8 = w9.alloc (.cells #[.int .i64 (i : Int), .int .i64 (j : Int), .int .i64 y] 44) := ⟨_, rfl⟩
            have hm8 : OwnM w8 w5.heap.size (.slice (some ⟨G6, 0, none⟩) T.length c6) hs6 R := by rw [hw8]; exact hm.alloc _
            have hW8 : Below w5.heap.size w5 w8 := by rw [hw8]; exact hW.alloc hNs _
            have x1 : w8.cell? ⟨X, 0, none⟩ = some (.int .i64 (i : Int)) := by rw [hw8, World.cell?_alloc_at _ _ _ _ hX]; rfl
            have x2 : w8.cell? ⟨X, 1, none⟩ = some (.int .i64 (j : Int)) := by rw [hw8, World.cell?_alloc_at _ _ _ _ hX]; rfl
            obtain ⟨gr, cr, hrv, hrc, hro, hr1, hr2⟩ := hm8.row (r := i) (by omega) (by omega)
            obtain ⟨RL, hRL⟩ : ∃ l, l = (R.getD i []).length := ⟨_, rfl⟩
            have hold := own_get hro (List.getElem?_eq_getElem hjl)
            obtain ⟨oldv, hov⟩ : ∃ z, z = (R.getD i [])[j] := ⟨_, rfl⟩
            rw [← hov] at hold
            have hfz := hro.frozenAt j
            have hset := (hm8.drewN 1).setIn (r := i) (by omega) hrv j ((q : Int) + 1)
            rw [hst] at hset
            have HSET := Lib.hid hset
            have HWS := Lib.hid ((below_drewN hW8 1).setCell (p := ⟨gr, j, none⟩) hr1 (.int .i64 ((q : Int) + 1)))
            have hjr : j < RL := by rw [hRL]; exact hjl
            have hil : i < T.length := by omega
            rw [← hRL] at hrc
            clear hm hst hrv hro hset hm8 hW8 hov hij hR hy hRL hjl hi hj hG1 hG2 hr1 hr2 hW hRl
            go_upto_region 19 with fail
            rw [← hX, ← hw8]
            clear hw8 hX b1 b2 b3
            go_still_tail 10, (by kernel_rfl)
            repeat still_step
            change wpList _ _ _ _ _ w8.drew
            go_wp2
            go_roundw
            case rel => exact ⟨q + 1, by omega, by go_num, HSET.out, HWS.out⟩
            case measure => simp [Go.RowKit.intOf]; omega
          · have dq : decide (q < n) = false := decide_eq_false hqn
            have dq2 : decide ((q : Int) < (n : Int)) = false := decide_eq_false (by omega)
            have hql : q = L.length := by rw [← HN.out]; omega
            rw [hql, mixS_all HPM.out] at hm
            have hf : Hid (StdR T w.heap.size (.returned (.tuple #[v6, .int .i64 0])) w9) := .inl ⟨HOK.out, v6, hs6, rfl, hm.lower (by have := HW5.out.size; have := HNE.out; omega)⟩
            have hbb : Hid (Below w.heap.size w w9) := by rw [← HNE.out]; exact HW5.out.trans (hW.mono (by have := HW5.out.size; have := HNE.out; omega))
            clear hm hW hql
            go_wp2
            go_ret2
            exact ⟨hf.out, hbb.out⟩
  · have dk : (k != 0) = true := by simpa using hk0
    have hf : Hid (StdR T w.heap.size (.returned (.tuple #[.slice none 0 0, .int .i64 k])) w) := .inr ⟨fun hh => hk0 (hk2 hh), k, hk0, rfl⟩
    clear hk1 hk2
    go_wp2
    go_ret2
    exact ⟨hf.out, Below.refl _ _⟩
end Go.Proofs.YtmlmdklheiafpaaDoor
