/-
  What ferkeep.RowsMemory's closures keep: tables told so far, and two boxes.
-/
import Derived.Deep.RegionHeld3
import Derived.Test.YtpmkdihencepnaaGreatMg01
import Derived.Test.YtpmkdihencepnaaGreatMg03
import Derived.Test.YtpmkdihencepnaaGreatMg17
import Derived.Test.YtpmkdihencepnaaGreatMg20
import Derived.Test.YtpmkdihencepnaaGreatMg36
namespace Go.Proofs.YtpmkdihencepnaaGreat
open Go.RowKit

/-- A slice that reads as cells, in blocks of a kind. -/
def SlP (w : World) (P : Nat → Prop) (A : Option Addr) (cs : List Value) : Prop :=
  0 < cs.length → ∃ b o, A = some ⟨b, o, none⟩ ∧ P b ∧ b < w.heap.size ∧ ∀ k u, cs[k]? = some u → w.cell? ⟨b, o + k, none⟩ = some u
/-- A table that reads as rows, in blocks of a kind. -/
def SRP (w : World) (P : Nat → Prop) (u : Value) (rows : List (List Int)) : Prop :=
  ∃ A c hs, u = .slice A rows.length c ∧ hs.length = rows.length ∧ rows.length ≤ 9223372036854775807 ∧ SlP w P A hs ∧ ∀ r, r < rows.length → ∃ Ar cr, hs[r]? = some (.slice Ar (rows.getD r []).length cr) ∧ SlP w P Ar (ints (rows.getD r [])) ∧ (rows.getD r []).length ≤ 9223372036854775807
section
variable {w w' : World} {P P' : Nat → Prop} {B : Nat} {A : Option Addr} {cs : List Value} {u v : Value} {rows : List (List Int)} {hs : List Value}
theorem SlP.keep (h : SlP w P A cs) (hs : w.heap.size ≤ w'.heap.size) (hk : ∀ k, P k → k < w.heap.size → w'.heap[k]? = w.heap[k]? ∧ P' k) : SlP w' P' A cs := fun hn => by
  obtain ⟨b, o, e, hp, hl, hc⟩ := h hn
  exact ⟨b, o, e, (hk b hp hl).2, by omega, fun k u hu => (World.cell?_of_block (a := ⟨b, o + k, none⟩) (hk b hp hl).1).trans (hc k u hu)⟩
theorem SRP.keep (h : SRP w P u rows) (hs : w.heap.size ≤ w'.heap.size) (hk : ∀ k, P k → k < w.heap.size → w'.heap[k]? = w.heap[k]? ∧ P' k) : SRP w' P' u rows := by
  obtain ⟨A, c, hs', e, h1, h2, h3, h4⟩ := h
  exact ⟨A, c, hs', e, h1, h2, h3.keep hs hk, fun r hr => by obtain ⟨Ar, cr, a, b, d⟩ := h4 r hr; exact ⟨Ar, cr, a, b.keep hs hk, d⟩⟩
theorem SlP.sl (h : SlP w P A cs) : Sl w w.heap.size A cs := fun hn => by
  obtain ⟨b, o, e, hp, hl, hc⟩ := h hn
  exact ⟨b, o, e, hl, hc⟩
theorem SRP.sr (h : SRP w P u rows) : ∃ A c, u = .slice A rows.length c ∧ SR w w.heap.size A rows ∧ rows.length ≤ 9223372036854775807 := by
  obtain ⟨A, c, hs, e, h1, h2, h3, h4⟩ := h
  exact ⟨A, c, e, ⟨hs, h1, h3.sl, fun r hr => by obtain ⟨Ar, cr, a, b, d⟩ := h4 r hr; exact ⟨Ar, cr, a, b.sl, d⟩⟩, h2⟩
theorem SlP.of_own {base n : Nat} {e : TypeId} (h : w.ownsRow base e 1 v n cs) : ∃ A c, v = .slice A cs.length c ∧ cs.length ≤ 9223372036854775807 ∧ SlP w (fun k => v.ownBlock = some k) A cs := by
  have hl := h.1
  obtain rfl : n = cs.length := by omega
  rcases h.2 with ⟨e1, e2⟩ | ⟨g, c, _, e1, _⟩
  · exact ⟨none, 0, by rw [e2]; exact e1, by omega, fun hn => by omega⟩
  · subst e1
    refine ⟨_, c, rfl, by have := own_cap h; omega, fun hn => ⟨g, 0, rfl, rfl, (h.lt g rfl).2, fun k u hk => ?_⟩⟩
    have hkl := (List.getElem?_eq_some_iff.1 hk).1
    rw [Nat.zero_add, h.cellAt k (by omega)]; exact hk
theorem OwnM.srp (h : OwnM w B v hs rows) : SRP w (foot v hs) v rows := by
  obtain ⟨A, c, e, h1, h2⟩ := SlP.of_own h.out
  have h3 := h.len
  refine ⟨A, c, hs, by rw [e, h3], h3, by omega, fun hn => ?_, fun r hr => ?_⟩
  · obtain ⟨b, o, e1, e2, e3⟩ := h2 hn
    exact ⟨b, o, e1, .inl e2, e3⟩
  · obtain ⟨Ar, cr, f1, f2, f3⟩ := SlP.of_own (h.inn r hr)
    rw [ints_length] at f1 f2
    refine ⟨Ar, cr, by rw [h.get hr, f1], fun hn => ?_, f2⟩
    obtain ⟨b, o, e1, e2, e3⟩ := f3 hn
    exact ⟨b, o, e1, .inr ⟨r, by omega, e2⟩, e3⟩
end
/-- The tables' slice, in its box: in blocks of a kind. -/
def OutS (w : World) (Q : Nat → Prop) (base bo : Nat) (ts : List (List (List Int))) : Prop :=
  ∃ ov us, w.cell? ⟨bo, 0, none⟩ = some ov ∧ w.frozen? ⟨bo, 0, none⟩ = false ∧ w.ownsRow base 28 1 ov ts.length us ∧ (∀ k, ov.ownBlock = some k → Q k) ∧
    ∀ r u, us[r]? = some u → SRP w (fun k => base ≤ k ∧ Q k ∧ ov.ownBlock ≠ some k) u (ts.getD r []) ∧ u.oneCell' = true
/-- What the closures share: box bo holds the tables' slice, bm the mark, bk whether all is well. -/
structure Onc (w : World) (Q : Nat → Prop) (base bo bm bk : Nat) (mk : Bool) (ts : List (List (List Int))) : Prop where
  lo : bo < base ∧ bm < base ∧ bk < base ∧ base ≤ w.heap.size ∧ bo ≠ bm ∧ bo ≠ bk ∧ bm ≠ bk
  lt : ∀ k, Q k → k < w.heap.size
  cm : w.cell? ⟨bm, 0, none⟩ = some (.bool mk)
  ck : w.cell? ⟨bk, 0, none⟩ = some (.bool true)
  fk : w.frozen? ⟨bk, 0, none⟩ = false
  out : OutS w Q base bo ts
section
variable {w w' : World} {Q Q' : Nat → Prop} {base bo bm bk : Nat} {mk : Bool} {ts : List (List (List Int))}
theorem Onc.keep (h : Onc w Q base bo bm bk mk ts) (hs : w.heap.size ≤ w'.heap.size) (hk : ∀ k, k < base ∨ Q k → w'.heap[k]? = w.heap[k]?) : Onc w' Q base bo bm bk mk ts := by
  obtain ⟨l1, l2, l3, l4, l5⟩ := h.lo
  refine ⟨⟨l1, l2, l3, Nat.le_trans l4 hs, l5⟩, fun k hq => Nat.lt_of_lt_of_le (h.lt k hq) hs, (World.cell?_of_block (a := ⟨bm, 0, none⟩) (hk bm (.inl l2))).trans h.cm, (World.cell?_of_block (a := ⟨bk, 0, none⟩) (hk bk (.inl l3))).trans h.ck, (World.frozen?_of_block (hk bk (.inl l3))).trans h.fk, ?_⟩
  obtain ⟨ov, us, o1, o2, o3, o4, o5⟩ := h.out
  exact ⟨ov, us, (World.cell?_of_block (a := ⟨bo, 0, none⟩) (hk bo (.inl l1))).trans o1, (World.frozen?_of_block (hk bo (.inl l1))).trans o2, own_same o3 (fun k hk2 => hk k (.inr (o4 k hk2))), o4, fun r u hu => ⟨(o5 r u hu).1.keep hs (fun k hk2 _ => ⟨hk k (.inr hk2.2.1), hk2⟩), (o5 r u hu).2⟩⟩
theorem Onc.below {L : Nat} (h : Onc w (fun k => k < L) base bo bm bk mk ts) (hL : base ≤ L) (hb : Below L w w') : Onc w' (fun k => k < L) base bo bm bk mk ts :=
  h.keep hb.size (fun k hk => hb.block k (by
    rcases hk with e | e
    · omega
    · exact e))
end
end Go.Proofs.YtpmkdihencepnaaGreat

/-
  Strips that can be read; what chars.strips answers.
-/
namespace Go.Proofs.YtpmkdihencepnaaGreat
open Go.RowKit

/-- Strips that can be read. -/
def SpR (w : World) (B : Nat) (A : Option Addr) (n : Nat) : Prop :=
  n = 0 ∨ ∃ b o, A = some ⟨b, o, none⟩ ∧ b < B ∧ ∀ j, j < n → ∃ Ar cr, ∃ (q : List Int) (h : Int), q.length ≤ 1000 ∧ w.cell? ⟨b, o + j * 2, none⟩ = some (.slice Ar q.length cr) ∧ w.cell? ⟨b, o + j * 2 + 1, none⟩ = some (.int .i64 h) ∧ Sl w B Ar (ints q)
theorem SpR.below {w w' : World} {B : Nat} {A : Option Addr} {n : Nat} (h : SpR w B A n) (hb : Below B w w') : SpR w' B A n := by
  rcases h with h | ⟨b, o, e, hl, hc⟩
  · exact .inl h
  · refine .inr ⟨b, o, e, hl, fun j hj => ?_⟩
    obtain ⟨Ar, cr, q, h, h1, h2, h3, h4⟩ := hc j hj
    exact ⟨Ar, cr, q, h, h1, (hb.cell (p := ⟨b, o + j * 2, none⟩) hl).trans h2, (hb.cell (p := ⟨b, o + j * 2 + 1, none⟩) hl).trans h3, h4.below hb⟩
def SpOut (e : Ending) (w w' : World) : Prop := (∃ A n c, e = .returned (.slice A n c) ∧ n ≤ 1000 ∧ SpR w' w'.heap.size A n) ∧ Below w.heap.size w w'
def StripsC : Prop := ∀ (A : Option Addr) (cap : Nat) (p : List Int) (k : Int) (w : World), p.length ≤ 1000 → Sl w w.heap.size A (ints p) →
  Calls Tryz.prog 72 #[.slice A p.length cap, .int .i64 k] w fun e w' => SpOut e w w'
def ValOut (e : Ending) (w w' : World) : Prop := (∃ z : Int, e = .returned (.int .i64 z)) ∧ Below w.heap.size w w'
def ValueC : Prop := ∀ (A A' : Option Addr) (cap cap' : Nat) (p m : List Int) (w : World), p.length ≤ 1000 → m.length ≤ 1000 → m.length ≤ cap' → Sl w w.heap.size A (ints p) → Sl w w.heap.size A' (ints m) →
  Calls Tryz.prog 62 #[.slice A p.length cap, .slice A' m.length cap'] w fun e w' => ValOut e w w'
end Go.Proofs.YtpmkdihencepnaaGreat

/-
  chars.Table, where chars.value is known.
-/
namespace Go.Proofs.YtpmkdihencepnaaGreat
open Go.RowKit

theorem OwnM.atc {w : World} {B : Nat} {A : Option Addr} {n c : Nat} {hs : List Value} {rows : List (List Int)} (h : OwnM w B (.slice A n c) hs rows) {r : Nat} (hr : r < rows.length) :
    ∃ b o Ar cr, A = some ⟨b, o, none⟩ ∧ b < w.heap.size ∧ w.cell? ⟨b, o + r, none⟩ = some (.slice Ar (rows.getD r []).length cr) ∧ (rows.getD r []).length ≤ cr ∧ Sl w w.heap.size Ar (ints (rows.getD r [])) ∧ (rows.getD r []).length ≤ 9223372036854775807 := by
  have hl := h.len
  obtain ⟨Ar, cr, e, _, hsl, h1, h2⟩ := own_sliceA (h.inn r hr)
  obtain ⟨A2, c2, e2, _, h4⟩ := SlP.of_own h.out
  injection e2 with g1 _ _
  subst g1
  obtain ⟨b, o, e3, _, hb, hc⟩ := h4 (by omega)
  exact ⟨b, o, Ar, cr, e3, hb, by rw [hc r _ (h.get hr), e], h1, hsl, by omega⟩
set_option maxRecDepth 100000 in
set_option maxHeartbeats 4000000 in
theorem table_of (HV : ValueC) (k : Int) (w : World) :
    Calls Tryz.prog 37 #[.int .i64 k] w fun e w' => Told Sm w.heap.size e w' ∧ Below w.heap.size w w' := by
  by_cases h1 : k < 0
  · have d1 : decide (k < 0) = true := decide_eq_true h1
    go_enter Tryz.func37, Tryz.ntmps37
    go_wp2
    go_ret2
    exact ⟨told_bad _ _ _ Sm.nil, Below.refl _ _⟩
  · have d1 : decide (k < 0) = false := decide_eq_false h1
    by_cases h2 : 8 < k
    · have d2 : decide (8 < k) = true := decide_eq_true h2
      go_enter Tryz.func37, Tryz.ntmps37
      go_wp2
      go_ret2
      exact ⟨told_bad _ _ _ Sm.nil, Below.refl _ _⟩
    · have d2 : decide (8 < k) = false := decide_eq_false h2
      obtain ⟨n, rfl⟩ : ∃ n : Nat, k = n := ⟨k.toNat, by omega⟩
      have hn8 : n ≤ 8 := by omega
      have HALL := Lib.hid (all_any n w (by omega))
      have hf := allP_few n (by omega)
      have hrl : ∀ i, (((LR.allP n).map zs).getD i []).length ≤ 1000 := fun i => by
        by_cases hi : i < ((LR.allP n).map zs).length
        · rw [getD_get hi, List.getElem_map, zs_length]
          have := pts_row n n n _ (List.getElem_mem (show i < (LR.allP n).length by simpa using hi))
          exact Nat.le_trans this (by omega)
        · rw [List.getD_eq_getElem?_getD, List.getElem?_eq_none (by omega)]; simp
      have hfl : ((LR.allP n).map zs).length ≤ 1000 := by rw [List.length_map]; exact hf
      have HRL := Lib.hid hrl
      have HFL := Lib.hid hfl
      clear hf hrl hfl
      go_enter Tryz.func37, Tryz.ntmps37
      go_wp2_with (first | (go_at_call 38; refine (HALL.out).mono ?_) | fail)
      rintro e w1 ⟨v, hs, rfl, hm⟩ hb1
      obtain ⟨rows, hrows⟩ : ∃ rows, rows = (LR.allP n).map zs := ⟨_, rfl⟩
      rw [← hrows] at hm HRL HFL
      clear hrows
      obtain ⟨A1, c1, rfl, hsr, hl1, hl2⟩ := hm.sr
      have HSR := Lib.hid hsr
      have HOM := Lib.hid hm
      have HB1 := Lib.hid hb1
      have hfl := HFL.out
      have hsz1 := hb1.size
      clear hm hb1 hsr HALL
      go_wp2
      go_loopw [6, 25] (fun ov iv wr => ∃ (i : Nat) (hs2 : List Value) (out : List (List Int)), i ≤ rows.length ∧ iv = .int .i64 i ∧ out.length = i ∧ (∀ r, (out.getD r []).length ≤ 1000) ∧ OwnM wr w1.heap.size ov hs2 out ∧ Below w1.heap.size w1 wr) (fun _ iv _ => rows.length - (intOf iv).toNat)
      case atStart => exact ⟨0, [], [], Nat.zero_le _, rfl, rfl, fun r => by simp, OwnM.nil _ _, Below.refl _ _⟩
      case round =>
        obtain ⟨i, hs2, out, hi, rfl, hol, hsm, hm, hW⟩ := hrel
        have HM := Lib.hid hm
        have HSMO := Lib.hid hsm
        have HOL := Lib.hid hol
        have HW := Lib.hid hW
        have hsz := hW.size
        clear hm hsm hol hW
        by_cases hit : i < rows.length
        · have di : decide (i < rows.length) = true := decide_eq_true hit
          have h2 := HSR.out.below HW.out
          obtain ⟨b, o, rfl, hb⟩ := h2.addr (by omega)
          obtain ⟨Ar, cr, hcl, hr, hrl⟩ := h2.at_ hit
          have hR := HRL.out i
          obtain ⟨R, hRe⟩ : ∃ R, R = rows.getD i [] := ⟨_, rfl⟩
          rw [← hRe] at hcl hr hrl hR
          have HR := Lib.hid hr
          have hi6 : i < 1000000 := by omega
          obtain ⟨w9, rfl⟩ : ∃ w9, w9 = wr := ⟨_, rfl⟩
          clear hRe hr h2
          go_wp2
          go_loopw [9, 31] (fun rv jv wz => ∃ (j : Nat) (xs : List Int), j ≤ rows.length ∧ jv = .int .i64 j ∧ xs.length = j ∧ wz.ownsRow w9.heap.size 3 1 rv xs.length (ints xs) ∧ Below w9.heap.size w9 wz) (fun _ jv _ => rows.length - (intOf jv).toNat)
          case atStart => exact ⟨0, [], Nat.zero_le _, rfl, rfl, World.ownsRow_nil _ _ _ _, Below.refl _ _⟩
          case round =>
            obtain ⟨j, xs, hj, rfl, hxl, ho, hZ⟩ := hrel
            have HO := Lib.hid ho
            have HZ := Lib.hid hZ
            have HXL := Lib.hid hxl
            have hzs := hZ.size
            clear ho hZ hxl
            by_cases hjt : j < rows.length
            · have dj : decide (j < rows.length) = true := decide_eq_true hjt
              have h3 := (HSR.out.below (HW.out.trans (HZ.out.mono hsz)))
              obtain ⟨b', o', Aj, cj, eb, hbw, hcj0, hmc, hrj0, hlj⟩ := HOM.out.atc hjt
              obtain ⟨rfl, rfl⟩ : b = b' ∧ o = o' := by simpa using eb
              have hWZ := HW.out.trans (HZ.out.mono hsz)
              have hcj := (hWZ.cell (p := ⟨b, o + j, none⟩) hbw).trans hcj0
              have hrj := hrj0.below hWZ
              have hRj := HRL.out j
              obtain ⟨M, hMe⟩ : ∃ M, M = rows.getD j [] := ⟨_, rfl⟩
              rw [← hMe] at hcj hrj hlj hRj hmc
              have HCV := Lib.hid (HV Ar Aj cr cj R M wr hR hRj hmc ((HR.out.below (HZ.out.mono hsz)).more (by omega)) (hrj.more (by omega)))
              have hj6 : j < 1000000 := by omega
              clear hMe hrj h3 hcj0 hrj0 eb hWZ
              go_wp2_with (first | (go_at_call 62; refine (HCV.out).mono ?_) | fail)
              rintro e w5 ⟨⟨z, rfl⟩, hb5⟩
              have hmo := own_below HO.out hb5
              rw [HXL.out] at hmo
              have HMO := Lib.hid hmo
              have HB5 := Lib.hid hb5
              have hB5 : w9.heap.size ≤ w5.heap.size := Nat.le_trans hzs hb5.size
              clear hmo hb5 HCV hcj
              go_wp2_with (first | (at_builtin; refine wpList_app1h rfl (.tmp 35) (.tmp 39) rfl rfl (z : Int) HMO.out w5.heap.size rfl rfl (by omega) hB5 (fun g2 c2 w6 hl6 hb6 => ?_)) | fail)
              go_roundw
              case rel => exact ⟨j + 1, xs ++ [z], by omega, by go_num, by rw [List.length_append, HXL.out]; rfl, by rw [List.length_append, HXL.out]; exact hl6, (HZ.out.trans (HB5.out.mono hzs)).trans hb6⟩
              case measure => simp [intOf]; omega
            · have dj : decide (j < rows.length) = false := decide_eq_false hjt
              have hje : j = rows.length := by omega
              obtain ⟨Ax, cx, rfl, -, hox⟩ := own_sliceT HO.out
              have hmo := (HM.out.below HZ.out).out
              rw [HOL.out] at hmo
              have HMO := Lib.hid hmo
              have HOX := Lib.hid hox
              have hB5 : w1.heap.size ≤ wr.heap.size := by omega
              have hxs : xs.length ≤ 1000 := by rw [HXL.out]; omega
              clear hmo hox
              go_wp2_with (first | (at_builtin; refine wpList_push (v := u6) rfl (.tmp 42) (.tmp 44) rfl rfl (.slice Ax xs.length cx) rfl HMO.out wr.heap.size rfl rfl (by omega) hB5 (fun g2 c2 w6 hl6 hg6 hat6 => ?_)) | fail)
              have HPU := Lib.hid (HM.out.push1 HZ.out hsz HOX.out HOL.out.symm hl6 hg6 hat6)
              have HW6 := Lib.hid (((HW.out.trans (HZ.out.mono hsz)).alloc hB5 (.cells #[.slice Ax xs.length cx] 22)).grown hg6 (by simp; omega) (fun k hk => (HMO.out.lt k hk).1))
              clear hl6 hg6 hat6
              go_wp2
              go_roundw
              case rel =>
                refine ⟨i + 1, _, out ++ [xs], by omega, by go_num, by rw [List.length_append, HOL.out]; rfl, fun r => ?_, HPU.out, HW6.out⟩
                rw [List.getD_eq_getElem?_getD]
                by_cases e : r < out.length
                · rw [List.getElem?_append_left e, ← List.getD_eq_getElem?_getD]; exact HSMO.out r
                · by_cases e2 : r = out.length
                  · rw [e2, List.getElem?_append_right (Nat.le_refl _), Nat.sub_self]; exact hxs
                  · rw [List.getElem?_eq_none (by simp; omega)]; simp
              case measure => simp [intOf]; omega
        · have di : decide (i < rows.length) = false := decide_eq_false hit
          have HF := Lib.hid (told_own (R := Sm) (HM.out.lowr hsz1) 0 ⟨by have := HOL.out; omega, fun r => by have := HSMO.out r; omega⟩)
          have HWF := Lib.hid (HB1.out.trans (HW.out.mono hsz1))
          go_wp2
          go_ret2
          exact ⟨HF.out, HWF.out⟩
end Go.Proofs.YtpmkdihencepnaaGreat

/-
  chars.value, where chars.strips is known.
-/
namespace Go.Proofs.YtpmkdihencepnaaGreat
open Go.RowKit

set_option maxRecDepth 100000 in
set_option maxHeartbeats 4000000 in
theorem value_of (HST : StripsC) : ∀ (m p : List Int) (A A' : Option Addr) (cap cap' : Nat) (w : World), p.length ≤ 1000 → m.length ≤ 1000 → m.length ≤ cap' → Sl w w.heap.size A (ints p) → Sl w w.heap.size A' (ints m) →
    Calls Tryz.prog 62 #[.slice A p.length cap, .slice A' m.length cap'] w fun e w' => ValOut e w w' := by
  intro m
  induction m with
  | nil =>
    intro p A A' cap cap' w hp hm hmc h h'
    go_enter Tryz.func62, Tryz.ntmps62
    go_wp2
    go_ret
    exact ⟨⟨1, rfl⟩, Below.refl _ _⟩
  | cons y m IH =>
    intro p A A' cap cap' w hp hm hmc h h'
    obtain ⟨b, o, rfl, hb⟩ := h'.addr (by simp)
    have hc0 := getD_cell h' (k := 0) (by simp)
    have HIH := Lib.hid IH
    have HT : Hid (Sl w w.heap.size (some ⟨b, o + 1, none⟩) (ints m)) := Lib.hid (fun hn => by
      obtain ⟨b', o', e, hl, hc⟩ := h' (by simp [ints])
      obtain ⟨rfl, rfl⟩ : b = b' ∧ o = o' := by simpa using e
      exact ⟨b, o + 1, rfl, hl, fun k u hk => by rw [Nat.add_assoc, Nat.add_comm 1 k]; exact hc (k + 1) u (by simpa [ints] using hk)⟩)
    have HS := Lib.hid (HST A cap p y w hp h)
    obtain ⟨n, hn⟩ : ∃ n, n = (y :: m).length := ⟨_, rfl⟩
    rw [← hn] at hm hmc ⊢
    have hn1 : n = m.length + 1 := by rw [hn]; rfl
    have d0 : ((n : Int) == 0) = false := by simp; omega
    rw [show (y :: m).getD 0 0 = y from rfl, Nat.add_zero] at hc0
    clear IH h h' hn
    go_enter Tryz.func62, Tryz.ntmps62
    go_wp2_with (first | (go_at_call 72; refine (HS.out).mono ?_) | fail)
    rintro e w1 ⟨⟨A1, k1, c1, rfl, hk1, hsp⟩, hb1⟩
    have HSP := Lib.hid hsp
    have HB1 := Lib.hid hb1
    have hsz1 := hb1.size
    clear hsp hb1 hc0 HS
    go_wp2
    go_loopw [5, 18] (fun sv iv wr => ∃ (i : Nat) (z : Int), i ≤ k1 ∧ iv = .int .i64 i ∧ sv = .int .i64 z ∧ Below w1.heap.size w1 wr) (fun _ iv _ => k1 - (intOf iv).toNat)
    case atStart => exact ⟨0, 0, Nat.zero_le _, rfl, rfl, Below.refl _ _⟩
    case round =>
      obtain ⟨i, z, hi, rfl, rfl, hW⟩ := hrel
      have HW := Lib.hid hW
      have hsz := hW.size
      by_cases hit : i < k1
      · have di : decide (i < k1) = true := decide_eq_true hit
        obtain ⟨b1, o1, rfl, hl1, hcs⟩ : ∃ b1 o1, A1 = some ⟨b1, o1, none⟩ ∧ b1 < w1.heap.size ∧ ∀ j, j < k1 → ∃ Ar cr, ∃ (q : List Int) (h : Int), q.length ≤ 1000 ∧ wr.cell? ⟨b1, o1 + j * 2, none⟩ = some (.slice Ar q.length cr) ∧ wr.cell? ⟨b1, o1 + j * 2 + 1, none⟩ = some (.int .i64 h) ∧ Sl wr w1.heap.size Ar (ints q) := by
          rcases HSP.out.below hW with h | h
          · omega
          · exact h
        obtain ⟨Ar, cr, q, ht, hq, hcq, hch, hslq⟩ := hcs i hit
        have HSQ := Lib.hid hslq
        have hi6 : i < 1000 := by omega
        clear hcs hslq hW
        go_upto_region 7 with fail
        obtain ⟨wA, hwA⟩ : ∃ wA, wA = wr.alloc (.cells #[.slice Ar q.length cr, .int .i64 ht] 81) := ⟨_, rfl⟩
        have p0 : wA.cell? ⟨wr.heap.size, 0, none⟩ = some (.slice Ar q.length cr) := by rw [hwA, World.cell?_alloc_at _ _ _ _ rfl]; rfl
        have p1 : wA.cell? ⟨wr.heap.size, 1, none⟩ = some (.int .i64 ht) := by rw [hwA, World.cell?_alloc_at _ _ _ _ rfl]; rfl
        have hszA : wA.heap.size = wr.heap.size + 1 := by rw [hwA]; simp
        have hBA : Below wr.heap.size wr wA := by rw [hwA]; exact (Below.refl _ _).alloc (Nat.le_refl _) _
        rw [← hwA]
        clear hwA
        have hmc1 : m.length + 1 ≤ cap' := by omega
        have hzA : wA.heap.size = wr.heap.size + 1 := hszA
        have HQA : Hid (Sl wA wA.heap.size Ar (ints q)) := Lib.hid ((HSQ.out.below (hBA.mono hsz)).more (by omega))
        have HTA : Hid (Sl wA wA.heap.size (some ⟨b, o + 1, none⟩) (ints m)) := Lib.hid ((HT.out.keep HB1.out).keep (HW.out) |>.keep hBA)
        have HBA := Lib.hid hBA
        have HC0 : Hid (cap' = 1 → ∀ d, Calls Tryz.prog 62 #[.slice Ar q.length cr, .slice (some ⟨b, o, none⟩) 0 0] (wA.drewN d) fun e w' => ValOut e wA w') := Lib.hid (fun h1 d => by
          have e : m = [] := List.eq_nil_of_length_eq_zero (by omega)
          have := HIH.out q Ar (some ⟨b, o, none⟩) cr 0 (wA.drewN d) hq (by rw [e]; simp) (by rw [e]; simp) HQA.out (by rw [e]; exact Sl.nil _ _ _)
          rw [e] at this
          exact this.mono (fun e w' h => ⟨h.1, (below_drewN (Below.refl _ _) d).trans h.2⟩))
        have HC1 : Hid (∀ d, Calls Tryz.prog 62 #[.slice Ar q.length cr, .slice (some ⟨b, o + 1, none⟩) m.length (cap' - 1)] (wA.drewN d) fun e w' => ValOut e wA w') := Lib.hid (fun d =>
          (HIH.out q Ar (some ⟨b, o + 1, none⟩) cr (cap' - 1) (wA.drewN d) hq (by omega) (by omega) HQA.out HTA.out).mono (fun e w' h => ⟨h.1, (below_drewN (Below.refl _ _) d).trans h.2⟩))
        clear hBA hszA
        go_cut [8] (fun xv wz => ∃ x : Int, xv = .int .i64 x ∧ Below wA.heap.size wA wz)
        case first =>
          by_cases hc1 : cap' = 1
          · have HC := Lib.hid (HC0.out hc1)
            subst hc1
            clear HC0 HC1
            go_region_with (first | (go_at_call 62; refine (HC.out 1).mono ?_; rintro e w5 ⟨⟨x, rfl⟩, hb5⟩) | fail)
            all_goals
              go_wp2_with fail
              go_meet
              exact ⟨x, rfl, hb5⟩
          · clear HC0
            go_region_with (first | (go_at_call 62; refine (HC1.out 1).mono ?_; rintro e w5 ⟨⟨x, rfl⟩, hb5⟩) | fail)
            all_goals
              go_wp2_with fail
              go_meet
              exact ⟨x, rfl, hb5⟩
        case rest =>
          obtain ⟨x, rfl, hbc⟩ := hcut
          have p1c := (hbc.cell (p := ⟨wr.heap.size, 1, none⟩) (by show wr.heap.size < wA.heap.size; omega)).trans p1
          have HBC := Lib.hid ((HW.out.trans (HBA.out.mono hsz)).trans (hbc.mono (by omega)))
          clear HC0 HC1 HQA HTA p0 p1 hbc
          go_upto_region 8 with fail
          go_cut [30] (fun bv wz => ∃ bb : Bool, bv = .bool bb ∧ wc = wz)
          case first =>
            go_wp2
            go_meet
            exact ⟨_, rfl, rfl⟩
          case rest =>
            obtain ⟨bb, rfl, rfl⟩ := hcut
            cases bb
            · go_wp2
              go_roundw
              case rel => exact ⟨i + 1, _, by omega, by go_num, rfl, HBC.out⟩
              case measure => simp [intOf]; omega
            · go_wp2
              go_roundw
              case rel => exact ⟨i + 1, _, by omega, by go_num, rfl, HBC.out⟩
              case measure => simp [intOf]; omega
      · have di : decide (i < k1) = false := decide_eq_false hit
        have HWF := Lib.hid (HB1.out.trans (HW.out.mono hsz1))
        clear hW
        go_wp2
        go_ret
        exact ⟨⟨z, rfl⟩, HWF.out⟩
end Go.Proofs.YtpmkdihencepnaaGreat
