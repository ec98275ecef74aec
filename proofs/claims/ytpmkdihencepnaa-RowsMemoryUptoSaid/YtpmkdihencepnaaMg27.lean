/-
  Plain: a letter on its way through the columns.
-/
import Derived.Test.YtpmkdihencepnaaMg06
import Derived.Test.YtpmkdihencepnaaMg07
namespace Go.Proofs.Ytpmkdihencepnaa

theorem cpush1_at : ∀ {c : List Int} {y : Int} {i : Nat}, (∀ k, k < i → ∃ a, c[k]? = some a ∧ a < y) → (c[i]? = none → cpush1 c y = (c ++ [y], none) ∧ c.length = i) ∧ ∀ a, c[i]? = some a → y ≤ a → cpush1 c y = (c.set i y, some a)
  | [], y, i, h => by
    refine ⟨fun _ => ⟨rfl, ?_⟩, fun a e => by simp at e⟩
    apply Classical.byContradiction
    intro hn
    obtain ⟨a, ha, _⟩ := h 0 (by simp at hn; omega)
    simp at ha
  | b :: c, y, 0, h => by
    refine ⟨fun e => by simp at e, fun a e hy => ?_⟩
    obtain rfl : b = a := by simpa using e
    rw [cpush1_le hy]; rfl
  | b :: c, y, i + 1, h => by
    obtain ⟨a0, e0, h0⟩ := h 0 (by omega)
    obtain rfl : b = a0 := by simpa using e0
    have ih := cpush1_at (c := c) (y := y) (i := i) (fun k hk => by simpa using h (k + 1) (by omega))
    rw [cpush1_gt h0]
    refine ⟨fun e => ?_, fun a e hy => ?_⟩
    · obtain ⟨e1, e2⟩ := ih.1 (by simpa using e)
      rw [e1]; exact ⟨rfl, by simp [e2]⟩
    · rw [ih.2 a (by simpa using e) hy]; rfl
theorem getD_off {T : List (List Int)} {i : Nat} (h : T.length ≤ i) : T.getD i [] = [] := by
  rw [List.getD_eq_getElem?_getD, List.getElem?_eq_none h]; rfl
theorem Rep.swap {T cs : List (List Int)} {i j : Nat} {a y : Int} (h : Rep T cs) (hc : (cs.getD j [])[i]? = some a) : Rep (T.set i ((T.getD i []).set j y)) (cs.set j ((cs.getD j []).set i y)) := by
  have hr := h.ent i j
  rw [hc] at hr
  have hil : i < T.length := by
    apply Classical.byContradiction
    intro hn
    rw [getD_off (by omega)] at hr
    simp at hr
  have hjl : j < cs.length := by
    apply Classical.byContradiction
    intro hn
    rw [getD_off (T := cs) (by omega)] at hc
    simp at hc
  have hj2 := (List.getElem?_eq_some_iff.1 hr).1
  have hi2 := (List.getElem?_eq_some_iff.1 hc).1
  have eT : ∀ r, (T.set i ((T.getD i []).set j y)).getD r [] = if r = i then (T.getD i []).set j y else T.getD r [] := fun r => by
    rw [List.getD_eq_getElem?_getD]
    by_cases e : r = i
    · subst e; rw [if_pos rfl, List.getElem?_set_self hil]; rfl
    · rw [if_neg e, List.getElem?_set_ne (Ne.symm e), ← List.getD_eq_getElem?_getD]
  have eC : ∀ r, (cs.set j ((cs.getD j []).set i y)).getD r [] = if r = j then (cs.getD j []).set i y else cs.getD r [] := fun r => by
    rw [List.getD_eq_getElem?_getD]
    by_cases e : r = j
    · subst e; rw [if_pos rfl, List.getElem?_set_self hjl]; rfl
    · rw [if_neg e, List.getElem?_set_ne (Ne.symm e), ← List.getD_eq_getElem?_getD]
  refine ⟨fun r q => ?_, fun r hr => ?_, fun r hr => ?_⟩
  · rw [eT, eC]
    by_cases e1 : r = i
    · subst e1
      rw [if_pos rfl]
      by_cases e2 : q = j
      · subst e2
        rw [if_pos rfl, List.getElem?_set_self hj2, List.getElem?_set_self hi2]
      · rw [if_neg e2, List.getElem?_set_ne (Ne.symm e2)]; exact h.ent r q
    · rw [if_neg e1]
      by_cases e2 : q = j
      · subst e2
        rw [if_pos rfl, List.getElem?_set_ne (Ne.symm e1)]; exact h.ent r q
      · rw [if_neg e2]; exact h.ent r q
  · obtain ⟨k, hk, e⟩ := List.getElem_of_mem hr
    rw [List.getElem_set] at e
    by_cases c : i = k
    · rw [if_pos c] at e
      rw [← e]
      intro e0
      have := congrArg List.length e0
      simp at this
      rw [List.getD_eq_getElem?_getD] at hj2
      rw [this] at hj2; simp at hj2
    · rw [if_neg c] at e
      rw [← e]; exact h.row _ (List.getElem_mem _)
  · obtain ⟨k, hk, e⟩ := List.getElem_of_mem hr
    rw [List.getElem_set] at e
    by_cases c : j = k
    · rw [if_pos c] at e
      rw [← e]
      intro e0
      have := congrArg List.length e0
      simp at this
      rw [List.getD_eq_getElem?_getD] at hi2
      rw [this] at hi2; simp at hi2
    · rw [if_neg c] at e
      rw [← e]; exact h.col _ (List.getElem_mem _)
theorem Rep.put {T cs T' cs' : List (List Int)} {i j : Nat} {y : Int} (h : Rep T cs) (hj : (T.getD i []).length = j) (hc : (cs.getD j []).length = i)
    (e1 : ∀ r, T'.getD r [] = if r = i then T.getD i [] ++ [y] else T.getD r []) (n1 : ∀ r ∈ T', r ≠ []) (e2 : ∀ q, cs'.getD q [] = if q = j then cs.getD j [] ++ [y] else cs.getD q []) (n2 : ∀ r ∈ cs', r ≠ []) : Rep T' cs' := by
  refine ⟨fun r q => ?_, n1, n2⟩
  rw [e1, e2]
  have he := h.ent r q
  by_cases c1 : r = i
  · subst c1
    rw [if_pos rfl]
    by_cases c2 : q = j
    · subst c2
      rw [if_pos rfl, ← hj]
      rw [List.getElem?_append_right (Nat.le_refl _), hj, List.getElem?_append_right (by omega), hc]
      simp
    · rw [if_neg c2]
      by_cases c3 : q < j
      · rw [List.getElem?_append_left (by omega)]; exact he
      · rw [List.getElem?_eq_none (l := T.getD r [] ++ [y]) (by rw [List.length_append]; simp only [List.length_singleton]; omega), ← he, List.getElem?_eq_none (l := T.getD r []) (by omega)]
  · rw [if_neg c1]
    by_cases c2 : q = j
    · subst c2
      rw [if_pos rfl]
      by_cases c3 : r < i
      · rw [List.getElem?_append_left (by omega)]; exact he
      · rw [List.getElem?_eq_none (l := cs.getD q [] ++ [y]) (by rw [List.length_append]; simp only [List.length_singleton]; omega), he, List.getElem?_eq_none (l := cs.getD q []) (by omega)]
    · rw [if_neg c2]; exact he

/-- A letter on its way: what is behind it, and what is ahead. -/
structure Lefting (cs : List (List Int)) (y0 : Int) (j : Nat) (y : Int) (dn rs cur : List (List Int)) : Prop where
  len : dn.length = j
  ins : cins1 cs y0 = dn ++ cins1 rs y
  rep : Rep cur (dn ++ rs)
  tab : CTab rs
  came : 0 < j → ∃ (i0 : Nat) (b : Int), (dn.getD (j - 1) [])[i0]? = some b ∧ ∀ a, (rs.headD [])[i0]? = some a → y ≤ a
theorem Lefting.start {T cs : List (List Int)} (h : Rep T cs) (hc : CTab cs) (y : Int) : Lefting cs y 0 y [] cs T := ⟨rfl, rfl, h, hc, fun h => by omega⟩
theorem Lefting.col {cs dn rs cur : List (List Int)} {y0 y : Int} {j : Nat} (h : Lefting cs y0 j y dn rs cur) : (dn ++ rs).getD j [] = rs.headD [] := by
  rw [List.getD_eq_getElem?_getD, List.getElem?_append_right (by rw [h.len]; omega), h.len]
  cases rs <;> simp
theorem Lefting.at_ {cs dn rs cur : List (List Int)} {y0 y : Int} {j : Nat} (h : Lefting cs y0 j y dn rs cur) (i : Nat) : (cur.getD i [])[j]? = (rs.headD [])[i]? := by rw [h.rep.ent, h.col]
/-- Where nothing stands the letter can be laid. -/
theorem Lefting.fit {cs dn rs cur : List (List Int)} {y0 y : Int} {j i : Nat} (h : Lefting cs y0 j y dn rs cur) (hk : ∀ k, k < i → ∃ a, (rs.headD [])[k]? = some a ∧ a < y) (hn : (rs.headD [])[i]? = none) :
    i ≤ cur.length ∧ (i = cur.length → j = 0) ∧ (cur.getD i []).length = j := by
  have hil : i ≤ cur.length := by
    apply Classical.byContradiction
    intro hc
    obtain ⟨a, ha, _⟩ := hk cur.length (by omega)
    rw [← h.at_, getD_off (Nat.le_refl _)] at ha
    simp at ha
  have hle : (cur.getD i []).length ≤ j := by
    have := h.at_ i
    rw [hn] at this
    exact List.getElem?_eq_none_iff.1 this
  by_cases hj : 0 < j
  · obtain ⟨i0, b, hb, hc⟩ := h.came hj
    have hi0 : i ≤ i0 := by
      apply Classical.byContradiction
      intro hlt
      obtain ⟨a, ha, hlt2⟩ := hk i0 (by omega)
      have := hc a ha
      omega
    have hjl : j - 1 < dn.length := by rw [h.len]; omega
    have e0 : (dn ++ rs).getD (j - 1) [] = dn.getD (j - 1) [] := by
      rw [List.getD_eq_getElem?_getD, List.getElem?_append_left hjl, ← List.getD_eq_getElem?_getD]
    have hbi : ∃ b', (dn.getD (j - 1) [])[i]? = some b' := ⟨_, List.getElem?_eq_getElem (by have := (List.getElem?_eq_some_iff.1 hb).1; omega)⟩
    obtain ⟨b', hb'⟩ := hbi
    have h1 := h.rep.ent i (j - 1)
    rw [e0, hb'] at h1
    have h2 := (List.getElem?_eq_some_iff.1 h1).1
    refine ⟨hil, fun e => ?_, by omega⟩
    rw [getD_off (by omega)] at h1
    simp at h1
  · exact ⟨hil, fun _ => by omega, by omega⟩
/-- The letter laid. -/
theorem Lefting.done {cs dn rs cur cur' : List (List Int)} {y0 y : Int} {j i : Nat} (h : Lefting cs y0 j y dn rs cur) (hk : ∀ k, k < i → ∃ a, (rs.headD [])[k]? = some a ∧ a < y) (hn : (rs.headD [])[i]? = none)
    (e1 : ∀ r, cur'.getD r [] = if r = i then cur.getD i [] ++ [y] else cur.getD r []) (n1 : ∀ r ∈ cur', r ≠ []) : Rep cur' (cins1 cs y0) := by
  obtain ⟨_, _, hl⟩ := h.fit hk hn
  obtain ⟨hp, hci⟩ := (cpush1_at hk).1 hn
  rw [h.ins]
  have hcol := h.col
  refine h.rep.put hl (by rw [hcol]; exact hci) e1 n1 (fun q => ?_) (fun r hr => ?_)
  · rw [hcol]
    cases rs with
    | nil =>
      simp only [List.headD, cins1, List.append_nil, List.nil_append]
      by_cases e : q = j
      · subst e
        rw [if_pos rfl, List.getD_eq_getElem?_getD, ← h.len, List.getElem?_append_right (Nat.le_refl _)]; simp
      · rw [if_neg e, List.getD_eq_getElem?_getD, List.getD_eq_getElem?_getD]
        by_cases c : q < dn.length
        · rw [List.getElem?_append_left c]
        · rw [List.getElem?_eq_none (l := dn ++ [[y]]) (by have := h.len; simp; omega), List.getElem?_eq_none (by omega)]
    | cons c rs =>
      simp only [List.headD] at hp ⊢
      simp only [cins1]
      rw [hp]
      by_cases e : q = j
      · subst e
        rw [if_pos rfl, List.getD_eq_getElem?_getD, ← h.len, List.getElem?_append_right (Nat.le_refl _)]; simp
      · rw [if_neg e, List.getD_eq_getElem?_getD, List.getD_eq_getElem?_getD]
        by_cases c2 : q < dn.length
        · rw [List.getElem?_append_left c2, List.getElem?_append_left c2]
        · rw [List.getElem?_append_right (by omega), List.getElem?_append_right (by omega)]
          obtain ⟨d, hd⟩ : ∃ d, q - dn.length = d + 1 := ⟨q - dn.length - 1, by have := h.len; omega⟩
          rw [hd]; simp
  · rcases List.mem_append.1 hr with e | e
    · exact h.rep.col r (List.mem_append_left _ e)
    · exact (cins1_tab h.tab).ne r e
/-- The letter takes another's place. -/
theorem Lefting.on {cs dn rs cur : List (List Int)} {y0 y a : Int} {j i : Nat} (h : Lefting cs y0 j y dn rs cur) (hk : ∀ k, k < i → ∃ a, (rs.headD [])[k]? = some a ∧ a < y) (ha : (rs.headD [])[i]? = some a) (hy : y ≤ a) :
    ∃ dn' rs', rs.length = rs'.length + 1 ∧ Lefting cs y0 (j + 1) a dn' rs' (cur.set i ((cur.getD i []).set j y)) := by
  cases rs with
  | nil => simp at ha
  | cons c rs =>
    simp only [List.headD] at hk ha
    have hp := (cpush1_at hk).2 a ha hy
    obtain ⟨_, _, h3, h4⟩ := h.tab
    have hcol := h.col
    simp only [List.headD] at hcol
    have hrep := h.rep.swap (i := i) (j := j) (a := a) (y := y) (by rw [hcol]; exact ha)
    rw [hcol] at hrep
    have hset : (dn ++ c :: rs).set j (c.set i y) = (dn ++ [c.set i y]) ++ rs := by rw [← h.len]; simp
    rw [hset] at hrep
    refine ⟨dn ++ [c.set i y], rs, rfl, by simp [h.len], ?_, hrep, h4, fun _ => ⟨i, y, ?_, fun b hb => ?_⟩⟩
    · rw [h.ins]; simp only [cins1]; rw [hp]; simp
    · rw [Nat.add_sub_cancel, List.getD_eq_getElem?_getD, ← h.len, List.getElem?_append_right (Nat.le_refl _)]
      simp only [Nat.sub_self, List.getElem?_cons_zero, Option.getD_some]
      exact List.getElem?_set_self (List.getElem?_eq_some_iff.1 ha).1
    · have : ∀ {p q : List Int} {i : Nat} {x y : Int}, CDom p q → p[i]? = some x → q[i]? = some y → x ≤ y := by
        intro p q
        induction p generalizing q with
        | nil => intro i x y _ e; simp at e
        | cons u p ih =>
          intro i x y hd e1 e2
          cases q with
          | nil => simp at e2
          | cons v q =>
            cases i with
            | zero =>
              obtain rfl : u = x := by simpa using e1
              obtain rfl : v = y := by simpa using e2
              exact hd.1
            | succ i => exact ih hd.2 (by simpa using e1) (by simpa using e2)
      exact this h3 ha hb
end Go.Proofs.Ytpmkdihencepnaa

/-
  insert.Insert, insert.InsertLeft: what they answer.
-/
namespace Go.Proofs.Ytpmkdihencepnaa
open Go.RowKit

/-- What insert.Insert answers. -/
def InsOut (B : Nat) (e : Ending) (w : World) (T : List (List Int)) (x : Int) : Prop :=
  ∃ (k row : Int) (rows : List (List Int)) (A' : Option Addr) (c' : Nat), e = .returned (.tuple #[.slice A' rows.length c', .int .i64 row, .int .i64 k]) ∧ OwnR w B A' c' rows ∧ rows.length ≤ 9223372036854775807 ∧ FitOut T x k ∧ (k = 0 → rows = ins1 T x ∧ row = irow T x) ∧ (k ≠ 0 → rows = [])
theorem FillOk.rows {T : List (List Int)} (h : FillOk T) : T.length < 1000000 ∧ (∀ i, (T.getD i []).length < 1000000) ∧ T.length ≤ 1000 ∧ ∀ i, (T.getD i []).length ≤ 1000 := by
  have h1 := h.small
  exact ⟨by omega, fun i => by have := h1.2 i; omega, by omega, fun i => by have := h1.2 i; omega⟩

set_option maxRecDepth 100000 in
theorem insert_any (A : Option Addr) (cap : Nat) (T : List (List Int)) (x : Int) (w : World) (hT : T.length ≤ 9223372036854775807) (h : SR w w.heap.size A T) :
    Calls Try.prog 23 #[.slice A T.length cap, .int .i64 x] w fun e w' => InsOut w.heap.size e w' T x ∧ Below w.heap.size w w' := by
  go_enter Try.func23, Try.ntmps23
  go_wp2_with (first | (go_at_call 56; refine (fits_any A cap T x _ hT h).mono ?_) | fail)
  rintro e w1 ⟨⟨k, rfl, hk⟩, rfl⟩
  have HK := Lib.hid hk
  by_cases hk0 : k = 0
  · obtain ⟨hok, hlx, hb⟩ := hk.2 hk0
    obtain ⟨h1, h2, h3, h4⟩ := hok.rows
    have HOK := Lib.hid hok
    subst hk0
    clear hk hb hok
    go_wp2_with (first | (go_at_call 58; refine (twin_any A cap T _ h1 h2 h).mono ?_) | fail)
    rintro e w2 ⟨⟨v, hs, rfl, hm⟩, hb2⟩
    have HM := Lib.hid hm
    clear hm
    go_wp2_with (first | (go_at_call 57; refine (put_any v hs T x _ hb2.size HM.out HOK.out.1 ⟨h3, h4⟩ HOK.out.2.1 hlx).mono ?_) | fail)
    rintro e w3 ⟨⟨v', hs', rfl, hm3⟩, hb3⟩
    obtain ⟨A', c', rfl, hsr, hl1, hl2⟩ := hm3.ownR
    have HS := Lib.hid hsr
    have hW := Lib.hid (hb2.trans hb3)
    clear hm3 hsr h h1 h2 h3 h4 hlx hb2 hb3
    go_wp2
    go_ret3
    exact ⟨⟨0, _, _, A', c', rfl, HS.out, by omega, HK.out, fun _ => ⟨rfl, rfl⟩, fun e => absurd rfl e⟩, hW.out⟩
  · have dk : (k != 0) = true := by simpa using hk0
    have HK0 := Lib.hid hk0
    clear hk
    go_wp2
    go_ret3
    exact ⟨⟨k, 0, [], none, 0, rfl, OwnR.nil _ _, by simp, HK.out, fun e => absurd e HK0.out, fun _ => rfl⟩, Below.refl _ _⟩

/-- What insert.InsertLeft answers. -/
def LeftOut (B : Nat) (e : Ending) (w : World) (T : List (List Int)) (y : Int) : Prop :=
  ∃ (k col : Int) (rows : List (List Int)) (A' : Option Addr) (c' : Nat), e = .returned (.tuple #[.slice A' rows.length c', .int .i64 col, .int .i64 k]) ∧ OwnR w B A' c' rows ∧ rows.length ≤ 9223372036854775807 ∧ FitOut T y k ∧ (k = 0 → rows = insW [] (y :: rword T)) ∧ (k ≠ 0 → rows = [])
theorem leftOut_own {w : World} {B : Nat} {v : Value} {hs : List Value} {rows T cs : List (List Int)} {y col : Int} (h : OwnM w B v hs rows) (hk : FitOut T y 0) (hr : Rep T cs) (hc : CTab cs) (hd : Rep rows (cins1 cs y)) : LeftOut B (.returned (.tuple #[v, .int .i64 col, .int .i64 0])) w T y := by
  obtain ⟨A, c, rfl, hs, h1, h2⟩ := h.ownR
  exact ⟨0, col, rows, A, c, rfl, hs, by omega, hk, fun _ => left_made hr hc hd, fun e => absurd rfl e⟩

set_option maxRecDepth 100000 in
set_option maxHeartbeats 2000000 in
theorem insleft_any (A : Option Addr) (cap : Nat) (T : List (List Int)) (y0 : Int) (w : World) (hT : T.length ≤ 9223372036854775807) (h : SR w w.heap.size A T) :
    Calls Try.prog 24 #[.slice A T.length cap, .int .i64 y0] w fun e w' => LeftOut w.heap.size e w' T y0 ∧ Below w.heap.size w w' := by
  go_enter Try.func24, Try.ntmps24
  go_wp2_with (first | (go_at_call 56; refine (fits_any A cap T y0 _ hT h).mono ?_) | fail)
  rintro e w1 ⟨⟨k, rfl, hk⟩, rfl⟩
  have HK := Lib.hid hk
  by_cases hk0 : k = 0
  · obtain ⟨hok, hlx, hb⟩ := hk.2 hk0
    obtain ⟨h1, h2, h3, h4⟩ := hok.rows
    obtain ⟨cs, hrep, hct⟩ := hok.1.cols
    have hcl : cs.length ≤ 40 := by rw [hrep.symm.height]; exact hok.small.2 0
    have hst := Lefting.start hrep hct y0
    have HST := Lib.hid hst
    have HREP := Lib.hid hrep
    have HCT := Lib.hid hct
    subst hk0
    clear hk hb hok hst hrep hct hlx
    go_wp2_with (first | (go_at_call 58; refine (twin_any A cap T _ h1 h2 h).mono ?_) | fail)
    rintro e w2 ⟨⟨v, hs, rfl, hm⟩, hb2⟩
    obtain ⟨A2, c2, rfl, -, -, -⟩ := hm.sr
    have HM0 := Lib.hid hm
    clear hm h h1 h2 h4
    go_wp2
    go_loopw [1, 8, 9] (fun yv ov jv wr => ∃ (j : Nat) (y : Int) (dn rs cur : List (List Int)) (hs : List Value), jv = .int .i64 j ∧ yv = .int .i64 y ∧ ov = .slice A2 T.length c2 ∧ j + rs.length = cs.length ∧ cur.length = T.length ∧ Lefting cs y0 j y dn rs cur ∧ OwnM wr w.heap.size (.slice A2 T.length c2) hs cur ∧ Below w.heap.size w wr) (fun _ _ jv _ => cs.length - (intOf jv).toNat)
    case atStart => exact ⟨0, y0, [], cs, T, hs, rfl, rfl, rfl, by omega, rfl, HST.out, HM0.out, hb2⟩
    case round =>
      clear HM0 HST hb2
      obtain ⟨j, y, dn, rs, cur, hs, rfl, rfl, rfl, hjl, hcur, hlf, hm, hW⟩ := hrel
      have HLF := Lib.hid hlf
      have HM := Lib.hid hm
      have HW := Lib.hid hW
      have hsz := hW.size
      clear hm hlf hW
      go_wp2
      go_loop [10] (fun iv => ∃ (i : Nat), i ≤ T.length ∧ iv = .int .i64 i ∧ ∀ k, k < i → ∃ a, (rs.headD [])[k]? = some a ∧ a < y) (fun iv => T.length - (intOf iv).toNat)
      case atStart => exact ⟨0, Nat.zero_le _, rfl, fun k hk => by omega⟩
      case round =>
        obtain ⟨i, hi, rfl, hbe⟩ := hrel
        have HBE := Lib.hid hbe
        clear hbe
        by_cases hit : i < T.length
        · have di : decide (i < T.length) = true := decide_eq_true hit
          have hmo := HM.out.out
          rw [hcur] at hmo
          obtain ⟨G, c', e1, hG, hGs⟩ := hmo.form (by omega)
          obtain ⟨rfl, rfl⟩ : A2 = some ⟨G, 0, none⟩ ∧ c2 = c' := by injection e1 with e2 _ e3; exact ⟨e2, e3⟩
          have hpos : 0 < (cur.getD i []).length := by
            apply Nat.pos_of_ne_zero
            intro e
            exact HLF.out.rep.row _ (by rw [getD_get (show i < cur.length by omega)]; exact List.getElem_mem _) (List.eq_nil_of_length_eq_zero e)
          obtain ⟨gr, cr, hhr, hcc, hor, hg1, hg2⟩ := HM.out.row (r := i) (by omega) hpos
          have hat := HLF.out.at_ i
          obtain ⟨r, hr⟩ : ∃ r, r = cur.getD i [] := ⟨_, rfl⟩
          rw [← hr] at hhr hcc hor hpos hat
          have HR := Lib.hid hr
          have HHR := Lib.hid hhr
          have HOR := Lib.hid hor
          have HAT := Lib.hid hat
          have HMO := Lib.hid hmo
          clear hmo e1 hhr hor hat hr
          by_cases hjr : j < r.length
          · have dj : decide ((j : Int) < (r.length : Int)) = true := decide_eq_true (by omega)
            obtain ⟨a, ha⟩ : ∃ a, r[j]? = some a := ⟨_, List.getElem?_eq_getElem hjr⟩
            have hca := own_get HOR.out ha
            have HA : Hid ((rs.headD [])[i]? = some a) := by show _ = _; rw [← HAT.out]; exact ha
            clear ha
            by_cases hay : a < y
            · have da : decide (a < y) = true := decide_eq_true hay
              have hnx : Hid (∀ k, k < i + 1 → ∃ a, (rs.headD [])[k]? = some a ∧ a < y) := fun k hk => by
                by_cases e : k = i
                · rw [e]; exact ⟨a, HA.out, hay⟩
                · exact HBE.out k (by omega)
              go_wp2
              go_round
              case rel => exact ⟨i + 1, by omega, rfl, hnx.out⟩
              case measure => simp [intOf]; omega
            · have da : decide (a < y) = false := decide_eq_false hay
              have dit : decide ((i : Int) = (T.length : Int)) = false := decide_eq_false (by omega)
              have drj : decide ((r.length : Int) = (j : Int)) = false := decide_eq_false (by omega)
              obtain ⟨dn', rs', hrl, hnl⟩ := HLF.out.on HBE.out HA.out (by omega)
              have hst := HM.out.setIn (r := i) (g := gr) (c := cr) (by omega) (by rw [← HR.out]; exact HHR.out) j y
              have hcur2 : (cur.set i ((cur.getD i []).set j y)).length = T.length := by rw [List.length_set]; exact hcur
              have hfz := HOR.out.frozenAt j
              have HNL := Lib.hid hnl
              have HST := Lib.hid hst
              have HCU := Lib.hid hcur2
              have hws := Lib.hid (HW.out.setCell (p := ⟨gr, j, none⟩) hg1 (.int .i64 y))
              clear hnl hst hcur2
              go_wp2
              go_region
              go_wp2
              go_roundw
              case rel => exact ⟨j + 1, a, dn', rs', _, hs, rfl, rfl, rfl, by omega, HCU.out, HNL.out, HST.out.drewN 1, below_drewN hws.out 1⟩
              case measure => simp [intOf]; omega
          · have dj : decide ((j : Int) < (r.length : Int)) = false := decide_eq_false (by omega)
            have hno : (rs.headD [])[i]? = none := by rw [← HAT.out]; exact List.getElem?_eq_none (by omega)
            have hrj := (HLF.out.fit HBE.out hno).2.2
            rw [← HR.out] at hrj
            subst hrj
            have dit : decide ((i : Int) = (T.length : Int)) = false := decide_eq_false (by omega)
            have hfar := Lib.hid ((HM.out.top i (by omega)).symm.ne)
            rw [HHR.out] at hfar
            have hrs := HCT.out.lens.2
            have hr40 : r.length ≤ 1000 := by omega
            have hdone := Lib.hid (HLF.out.done (i := i) (cur' := cur.set i (r ++ [y])) HBE.out hno (fun q => by
              rw [List.getD_eq_getElem?_getD]
              by_cases e : q = i
              · subst e; rw [if_pos rfl, List.getElem?_set_self (by omega), HR.out]; rfl
              · rw [if_neg e, List.getElem?_set_ne (Ne.symm e), ← List.getD_eq_getElem?_getD]) (fun q hq => by
              obtain ⟨k, hk, e⟩ := List.getElem_of_mem hq
              rw [List.getElem_set] at e
              by_cases c : i = k
              · rw [if_pos c] at e; rw [← e]; simp
              · rw [if_neg c] at e; rw [← e]; exact HLF.out.rep.row _ (List.getElem_mem _)))
            clear hno hrs
            go_wp2_with (first | (at_builtin; refine wpList_app1g rfl (.tmp 66) (.tmp 68) rfl rfl y HOR.out wr.heap.size rfl rfl (by omega) hsz (fun g2 c3 w6 hl6 hg6 hat6 => ?_); have ho6 := (HMO.out.alloc (.cells #[.int .i64 y] 3)).kept hg6 hfar.out; have hc6 := ho6.cellAt i (by omega); have hf6 := ho6.frozenAt i; rw [HM.out.get (by omega)] at hc6; have HL6 := Lib.hid hl6; have HG6 := Lib.hid hg6; have HAT6 := Lib.hid hat6; clear ho6 hl6 hg6 hat6) | fail)
            go_ret3
            have happ := HM.out.app (i := i) (by omega) (l := r ++ [y]) (by simp) HL6.out (by rw [HHR.out]; exact HG6.out) (by rw [HHR.out]; exact HAT6.out)
            exact ⟨leftOut_own happ HK.out HREP.out HCT.out hdone.out, ((HW.out.alloc hsz _).grown HG6.out (by simp; omega) (fun b hb => by
              have hb2 : (some gr : Option Nat) = some b := hb
              cases hb2
              exact hg1)).setCell (p := ⟨G, i, none⟩) hG _⟩
        · have di : decide (i < T.length) = false := decide_eq_false hit
          have hno : (rs.headD [])[i]? = none := by rw [← HLF.out.at_, getD_off (by omega)]; rfl
          have hj0 := (HLF.out.fit HBE.out hno).2.1 (by omega)
          have dit : decide ((i : Int) = (T.length : Int)) = true := decide_eq_true (by omega)
          have hm2 := HM.out
          have hmo := hm2.out
          rw [hcur] at hmo
          have HMO := Lib.hid hmo
          have hfar := Lib.hid (hm2.far_new (u := .slice none 0 0) (fun k hk => by simp [Value.ownBlock] at hk))
          have hdone := Lib.hid (HLF.out.done (i := i) (cur' := cur ++ [[y]]) HBE.out hno (fun q => by
            rw [List.getD_eq_getElem?_getD]
            by_cases e : q = i
            · subst e; rw [if_pos rfl, getD_off (T := cur) (by omega), List.getElem?_append_right (by omega)]
              rw [show q - cur.length = 0 by omega]; rfl
            · rw [if_neg e, List.getD_eq_getElem?_getD]
              by_cases c : q < cur.length
              · rw [List.getElem?_append_left c]
              · rw [List.getElem?_eq_none (l := cur ++ [[y]]) (by simp; omega), List.getElem?_eq_none (l := cur) (by omega)]) (fun q hq => by
            rcases List.mem_append.1 hq with e | e
            · exact HLF.out.rep.row _ e
            · simp at e; rw [e]; simp))
          subst hj0
          clear hno hm2 hmo
          go_wp2_with (first | (at_builtin; refine wpList_push (v := .slice A2 T.length c2) rfl (.tmp 51) (.tmp 52) rfl rfl (.slice none 0 0) rfl HMO.out wr.heap.size rfl rfl (by omega) hsz (fun g2 c3 w5 hl5 hg5 hat5 => ?_); have hc5 := hl5.cellAt i (by omega); rw [List.getElem?_append_right (by rw [HM.out.len]; omega), show i - hs.length = 0 by rw [HM.out.len]; omega, List.getElem?_cons_zero] at hc5; have hW5 := (HW.out.alloc hsz _).grown hg5 (by simp; omega) (fun k hk => (HMO.out.lt k hk).1); have hsz5 := hW5.size; have HW5 := Lib.hid hW5; have HL5 := Lib.hid hl5; have HG5 := Lib.hid hg5; have HAT5 := Lib.hid hat5; clear hl5 hg5 hat5 hW5) | (at_builtin; refine wpList_app1g (base := w.heap.size) (l := []) rfl (.tmp 66) (.tmp 68) rfl rfl y (World.ownsRow_nil _ _ _ _) w5.heap.size rfl rfl (by omega) hsz5 (fun g3 c4 w6 hl6 hg6 hat6 => ?_); have ho6 := (HL5.out.alloc (.cells #[.int .i64 y] 3)).kept hg6 (.inr (fun e => by cases (show (some g2 : Option Nat) = none from e))); have hc6 := ho6.cellAt i (by omega); have hf6 := ho6.frozenAt i; rw [List.getElem?_append_right (by rw [HM.out.len]; omega), show i - hs.length = 0 by rw [HM.out.len]; omega, List.getElem?_cons_zero] at hc6; have HL6 := Lib.hid hl6; have HG6 := Lib.hid hg6; have HAT6 := Lib.hid hat6; clear ho6 hl6 hg6 hat6) | fail)
          go_ret3
          have hpush := (HM.out.alloc (.cells #[.slice none 0 0] 26)).push (u := .slice none 0 0) (l := []) (World.ownsRow_nil _ _ _ _) hfar.out.1 hfar.out.2 (by rw [hcur]) HL5.out HG5.out (by simpa using HAT5.out)
          have hnil : (hs ++ [Value.slice none 0 0]).getD i undef = .slice none 0 0 := by
            rw [List.getD_eq_getElem?_getD, List.getElem?_append_right (by rw [HM.out.len]; omega), show i - hs.length = 0 by rw [HM.out.len]; omega]; rfl
          have happ := hpush.app (i := i) (by simp; omega) (l := [y]) rfl HL6.out (by rw [hnil]; exact HG6.out) (by rw [hnil]; exact HAT6.out)
          have hset : (cur ++ [[]]).set i [y] = cur ++ [[y]] := by
            have : i = cur.length := by omega
            rw [this]; simp
          rw [hset] at happ
          exact ⟨leftOut_own happ HK.out HREP.out HCT.out hdone.out, ((HW5.out.alloc hsz5 _).grown HG6.out (by simp; omega) (fun b hb => by
            have hb2 : (none : Option Nat) = some b := hb
            cases hb2)).setCell (p := ⟨g2, i, none⟩) (by
              have := HL5.out.lt g2 rfl
              exact this.1) _⟩
  · have dk : (k != 0) = true := by simpa using hk0
    have HK0 := Lib.hid hk0
    clear hk
    go_wp2
    go_ret3
    exact ⟨⟨k, 0, [], none, 0, rfl, OwnR.nil _ _, by simp, HK.out, fun e => absurd e HK0.out, fun _ => rfl⟩, Below.refl _ _⟩
end Go.Proofs.Ytpmkdihencepnaa
