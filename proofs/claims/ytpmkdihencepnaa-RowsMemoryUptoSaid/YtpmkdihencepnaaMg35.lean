/-
  What ferkeep.RowsMemory's closure begins and ends with.
-/
import Derived.Laws.EntriesVeiled
import Derived.Test.YtpmkdihencepnaaMg33
import Derived.Test.YtpmkdihencepnaaMg34
namespace Go.Proofs.Ytpmkdihencepnaa
open Go.RowKit

/-- What the closure reads: boxes of two tables and a number. -/
structure Env (w : World) (B0 ba bb bx Ga Ca Gb Cb : Nat) (a b : List (List Int)) (x : Int) : Prop where
  lt : ba < B0 ∧ bb < B0 ∧ bx < B0
  ca : w.cell? ⟨ba, 0, none⟩ = some (.slice (some ⟨Ga, 0, none⟩) a.length Ca)
  cb : w.cell? ⟨bb, 0, none⟩ = some (.slice (some ⟨Gb, 0, none⟩) b.length Cb)
  cx : w.cell? ⟨bx, 0, none⟩ = some (.int .i64 x)
  ra : SR w B0 (some ⟨Ga, 0, none⟩) a
  rb : SR w B0 (some ⟨Gb, 0, none⟩) b
  la : a.length ≤ 9223372036854775807
  lb : b.length ≤ 9223372036854775807
def TabOut (e : Ending) (w' : World) (Rs : List Kd) : Prop := ∃ A c ts, e = .returned (.tuple #[.slice A ts.length c, .bool true]) ∧ TR w' w'.heap.size A ts ∧ ts.length ≤ 1000 ∧ Got Rs ts

/-- The boxes, and the first block of function values. -/
theorem Stt.start (w : World) (mk : Bool) (cs : Array Value) :
    Stt w ((((w.alloc (.cells #[.bool mk] 4)).alloc (.cells #[.slice none 0 0] 29)).alloc (.cells #[.bool true] 4)).alloc (.cells cs 25)) w.heap.size (w.heap.size + 1 + 1 + 1) (w.heap.size + 1) w.heap.size (w.heap.size + 1 + 1) mk (w.heap.size + 1 + 1 + 1) (.cells cs 25 (0, 0)) [] := by
  have hb : Below w.heap.size w ((((w.alloc (.cells #[.bool mk] 4)).alloc (.cells #[.slice none 0 0] 29)).alloc (.cells #[.bool true] 4)).alloc (.cells cs 25)) :=
    ((((Below.refl _ _).alloc (Nat.le_refl _) _).alloc (by simp) _).alloc (by simp; omega) _).alloc (by simp; omega) _
  have hh : ∀ (u : World) (o : Obj) (k : Nat), (u.alloc o).heap[k]? = if k = u.heap.size then some o else u.heap[k]? := fun u o k => by
    show (u.heap.push o)[k]? = _
    rw [Array.getElem?_push]
  have hs : ∀ (u : World) (o : Obj), (u.alloc o).heap.size = u.heap.size + 1 := fun u o => by simp
  have c0 : ∀ (u : World) (k : Nat) (v : Value) (t : TypeId), u.heap[k]? = some (.cells #[v] t) → u.cell? ⟨k, 0, none⟩ = some v := fun u k v t hu => by rw [cell_of_row u k 0 #[v] t (0, 0) hu]; rfl
  have f0 : ∀ (u : World) (k : Nat) (v : Value) (t : TypeId), u.heap[k]? = some (.cells #[v] t) → u.frozen? ⟨k, 0, none⟩ = false := fun u k v t hu => by unfold World.frozen?; rw [hu]; rfl
  have e0 : ((((w.alloc (.cells #[.bool mk] 4)).alloc (.cells #[.slice none 0 0] 29)).alloc (.cells #[.bool true] 4)).alloc (.cells cs 25)).heap[w.heap.size]? = some (.cells #[.bool mk] 4) := by
    rw [hh, if_neg (by rw [hs, hs, hs]; omega), hh, if_neg (by rw [hs, hs]; omega), hh, if_neg (by rw [hs]; omega), hh, if_pos rfl]
  have e1 : ((((w.alloc (.cells #[.bool mk] 4)).alloc (.cells #[.slice none 0 0] 29)).alloc (.cells #[.bool true] 4)).alloc (.cells cs 25)).heap[w.heap.size + 1]? = some (.cells #[.slice none 0 0] 29) := by
    rw [hh, if_neg (by rw [hs, hs, hs]; omega), hh, if_neg (by rw [hs, hs]; omega), hh, if_pos (by rw [hs])]
  have e2 : ((((w.alloc (.cells #[.bool mk] 4)).alloc (.cells #[.slice none 0 0] 29)).alloc (.cells #[.bool true] 4)).alloc (.cells cs 25)).heap[w.heap.size + 1 + 1]? = some (.cells #[.bool true] 4) := by
    rw [hh, if_neg (by rw [hs, hs, hs]; omega), hh, if_pos (by rw [hs, hs])]
  have e3 : ((((w.alloc (.cells #[.bool mk] 4)).alloc (.cells #[.slice none 0 0] 29)).alloc (.cells #[.bool true] 4)).alloc (.cells cs 25)).heap[w.heap.size + 1 + 1 + 1]? = some (.cells cs 25 (0, 0)) := by
    rw [hh, if_pos (by rw [hs, hs, hs])]
  refine ⟨⟨[], ⟨⟨by omega, by omega, by omega, by simp, by omega, by omega, by omega⟩, fun k hk => hk.1, c0 _ _ _ _ e0, c0 _ _ _ _ e2, f0 _ _ _ _ e2, ?_⟩, Got.nil⟩, e3, ⟨by omega, by omega⟩, hb, ⟨by omega, Nat.le_refl _, by omega⟩⟩
  exact ⟨.slice none 0 0, [], c0 _ _ _ _ e1, f0 _ _ _ _ e1, World.ownsRow_nil _ _ _ _, (fun k hk => by simp [Value.ownBlock] at hk), fun r u hu => by simp at hu⟩
/-- A list told, and added as a table. -/
theorem add_told1 {w0 w w1 : World} {B0 base bo bm bk : Nat} {mk : Bool} {g : Nat} {lit : Obj} {Rs : List Kd} (h : Stt w0 w B0 base bo bm bk mk g lit Rs) (hb : Below w.heap.size w w1) {A : Option Addr} {c : Nat} {xs : List Int} (ho : w1.ownsRow w.heap.size 3 1 (.slice A xs.length c) xs.length (ints xs)) (hsm : xs.length ≤ 1000) {R : List Int → Prop} (hR : R xs) (hn : Rs.length < 1000) (k : Int) :
    Calls Try.prog 8 #[.slice (some ⟨w1.heap.size, 0, none⟩) 1 1, .int .i64 k, .pointer (some ⟨bo, 0, none⟩), .pointer (some ⟨bm, 0, none⟩), .pointer (some ⟨bk, 0, none⟩)] (w1.alloc (.cells #[.slice A xs.length c] 26)) fun e w' => e = .returned (.tuple #[]) ∧ Stt w0 w' B0 base bo bm bk mk g lit (Rs ++ [OneL R]) :=
  add_told (R := OneL R) h (hb.alloc hb.size _) (rows := [xs]) ⟨_, OwnM.single rfl ho hb.size⟩ ⟨by simp, fun i => by
    cases i with
    | zero => simpa using hsm
    | succ i => simp⟩ ⟨xs, rfl, hR⟩ hn k
/-- What has been told, as it lies. -/
theorem Stt.tr {w0 w : World} {B0 base bo bm bk : Nat} {mk : Bool} {g : Nat} {lit : Obj} {Rs : List Kd} (h : Stt w0 w B0 base bo bm bk mk g lit Rs) :
    ∃ A c ts, w.cell? ⟨bo, 0, none⟩ = some (.slice A ts.length c) ∧ w.cell? ⟨bk, 0, none⟩ = some (.bool true) ∧ TR w w.heap.size A ts ∧ Got Rs ts := by
  obtain ⟨ts, hon, hgot⟩ := h.on
  obtain ⟨ov, us, o1, o2, o3, o4, o5⟩ := hon.out
  have hul : us.length = ts.length := by have := o3.1; omega
  obtain ⟨A, c, rfl, -, hsl⟩ := own_valS o3
  rw [hul] at o1
  refine ⟨A, c, ts, o1, hon.ck, ⟨us, hul, hsl, fun r hr => ?_⟩, hgot⟩
  have hg : us[r]? = some (us[r]'(by omega)) := List.getElem?_eq_getElem (by omega)
  obtain ⟨A', c', e1, e2, e3⟩ := (o5 r _ hg).1.sr
  exact ⟨A', c', by rw [hg, e1], e2, e3⟩
end Go.Proofs.Ytpmkdihencepnaa

/-
  ferkeep.RowsMemory's closure: what it tells.
-/
namespace Go.Proofs.Ytpmkdihencepnaa
open Go.RowKit

set_option maxRecDepth 100000 in
set_option maxHeartbeats 8000000 in
theorem once_any (mk : Bool) (ba bb bx Ga Ca Gb Cb : Nat) (a b : List (List Int)) (x : Int) (w : World) (h : Env w w.heap.size ba bb bx Ga Ca Gb Cb a b x) :
    Calls Try.prog 7 #[.bool mk, .pointer (some ⟨ba, 0, none⟩), .pointer (some ⟨bb, 0, none⟩), .pointer (some ⟨bx, 0, none⟩)] w fun e w' => TabOut e w' (relZ a b x) ∧ Below w.heap.size w w' := by
  have HE := Lib.hid h
  obtain ⟨lt1, lt2, lt3⟩ := h.lt
  have hla := h.la
  have hlb := h.lb
  clear h
  have HS0 := Lib.hid (Stt.start w mk #[.func (.func 4) #[] #[], .func (.func 10) #[] #[], .func (.func 11) #[] #[], .func (.func 12) #[] #[], .func (.func 13) #[] #[], .func (.func 14) #[] #[], .func (.func 15) #[] #[], .func (.func 16) #[] #[], .func (.func 17) #[] #[], .func (.func 18) #[] #[], .func (.func 19) #[] #[]])
  go_enter Try.func7, Try.ntmps7
  go_wp2
  obtain ⟨w1, hw1⟩ : ∃ w1, w1 = (((w.alloc (.cells #[.bool mk] 4)).alloc (.cells #[.slice none 0 0] 29)).alloc (.cells #[.bool true] 4)).alloc (.cells #[.func (.func 4) #[] #[], .func (.func 10) #[] #[], .func (.func 11) #[] #[], .func (.func 12) #[] #[], .func (.func 13) #[] #[], .func (.func 14) #[] #[], .func (.func 15) #[] #[], .func (.func 16) #[] #[], .func (.func 17) #[] #[], .func (.func 18) #[] #[], .func (.func 19) #[] #[]] 25) := ⟨_, rfl⟩
  obtain ⟨g, hg⟩ : ∃ g, g = w.heap.size + 1 + 1 + 1 := ⟨_, rfl⟩
  obtain ⟨bk, hbk⟩ : ∃ g, g = w.heap.size + 1 + 1 := ⟨_, rfl⟩
  obtain ⟨bo, hbo⟩ : ∃ g, g = w.heap.size + 1 := ⟨_, rfl⟩
  rw [← hw1, ← hg, ← hbk, ← hbo] at HS0 ⊢
  clear hw1 hg hbk hbo
  obtain ⟨B0, hB0⟩ : ∃ g, g = w.heap.size := ⟨_, rfl⟩
  rw [← hB0] at HS0 HE lt1 lt2 lt3 ⊢
  have HB0 := Lib.hid hB0
  clear hB0
  go_loopw [21] (fun iv wr => ∃ k : Nat, k ≤ 11 ∧ iv = .int .i64 k ∧ Stt w wr B0 g bo B0 bk mk g (.cells #[.func (.func 4) #[] #[], .func (.func 10) #[] #[], .func (.func 11) #[] #[], .func (.func 12) #[] #[], .func (.func 13) #[] #[], .func (.func 14) #[] #[], .func (.func 15) #[] #[], .func (.func 16) #[] #[], .func (.func 17) #[] #[], .func (.func 18) #[] #[], .func (.func 19) #[] #[]] 25 (0, 0)) (relU a b k)) (fun iv _ => 11 - (intOf iv).toNat)
  case atStart => exact ⟨0, by omega, rfl, HS0.out⟩
  case round =>
    clear HS0
    obtain ⟨k, hk, rfl, hS⟩ := hrel
    by_cases hk11 : k < 11
    · rcases (show k = 0 ∨ k = 1 ∨ k = 2 ∨ k = 3 ∨ k = 4 ∨ k = 5 ∨ k = 6 ∨ k = 7 ∨ k = 8 ∨ k = 9 ∨ k = 10 by omega) with rfl | rfl | rfl | rfl | rfl | rfl | rfl | rfl | rfl | rfl | rfl
      · as_aux_lemma =>
        have HS := Lib.hid hS
        have hcl := (HS.out.fun_ 0).trans (show _ = some (.func (.func 4) #[] #[]) from rfl)
        have hca := HS.out.cell (a := ⟨ba, 0, none⟩) lt1 HE.out.ca
        have HRA := Lib.hid (HS.out.sr HE.out.ra)
        clear hS hk hk11
        rw [show ((0 : Nat) : Int) = 0 from rfl]
        go_wp2_with (first | (go_at_call 4; refine (stdA.call _ _ a wr hla HRA.out).mono ?_) | fail)
        rintro e w2 ⟨⟨r1, A1, c1, k1, rfl, ho1, hR1⟩, hb1⟩
        have hsm1 := stdA.sm _ _ hR1
        clear hca hcl HRA
        have HAD := Lib.hid (add_told (R := opR 0 a) HS.out hb1 ho1 hsm1 hR1 (by rw [relU_length]; omega) k1)
        clear ho1 hR1 hb1 hsm1
        go_wp2_with (first | (go_at_call 8; refine (HAD.out).mono ?_) | fail)
        rintro e w3 ⟨rfl, hS2⟩
        have HS := Lib.hid hS2
        have hcb := HS.out.cell (a := ⟨bb, 0, none⟩) lt2 HE.out.cb
        have HRB := Lib.hid (HS.out.sr HE.out.rb)
        clear hS2 HAD
        go_wp2_with (first | (go_at_call 4; refine (stdA.call _ _ b w3 hlb HRB.out).mono ?_) | fail)
        rintro e w4 ⟨⟨r1, A1, c1, k1, rfl, ho1, hR1⟩, hb1⟩
        have hsm1 := stdA.sm _ _ hR1
        clear hcb HRB
        have HAD := Lib.hid (add_told (R := opR 0 b) HS.out hb1 ho1 hsm1 hR1 (by rw [List.length_append, relU_length]; simp) k1)
        clear ho1 hR1 hb1 hsm1
        go_wp2_with (first | (go_at_call 8; refine (HAD.out).mono ?_) | fail)
        rintro e w5 ⟨rfl, hS2⟩
        have HS := Lib.hid hS2
        clear hS2 HAD
        go_wp2
        go_roundw
        case rel => exact ⟨1, by omega, by go_num, HS.out⟩
        case measure => simp [intOf]
      · as_aux_lemma =>
        have HS := Lib.hid hS
        have hcl := (HS.out.fun_ 1).trans (show _ = some (.func (.func 10) #[] #[]) from rfl)
        have hca := HS.out.cell (a := ⟨ba, 0, none⟩) lt1 HE.out.ca
        have HRA := Lib.hid (HS.out.sr HE.out.ra)
        clear hS hk hk11
        rw [show ((1 : Nat) : Int) = 1 from rfl]
        go_wp2_with (first | (go_at_call 10; refine (turA.call _ _ a wr hla HRA.out).mono ?_) | fail)
        rintro e w2 ⟨⟨r1, A1, c1, k1, rfl, ho1, hR1⟩, hb1⟩
        have hsm1 := turA.sm _ _ hR1
        clear hca hcl HRA
        have HAD := Lib.hid (add_told (R := opR 1 a) HS.out hb1 ho1 hsm1 hR1 (by rw [relU_length]; omega) k1)
        clear ho1 hR1 hb1 hsm1
        go_wp2_with (first | (go_at_call 8; refine (HAD.out).mono ?_) | fail)
        rintro e w3 ⟨rfl, hS2⟩
        have HS := Lib.hid hS2
        have hcb := HS.out.cell (a := ⟨bb, 0, none⟩) lt2 HE.out.cb
        have HRB := Lib.hid (HS.out.sr HE.out.rb)
        clear hS2 HAD
        go_wp2_with (first | (go_at_call 10; refine (turA.call _ _ b w3 hlb HRB.out).mono ?_) | fail)
        rintro e w4 ⟨⟨r1, A1, c1, k1, rfl, ho1, hR1⟩, hb1⟩
        have hsm1 := turA.sm _ _ hR1
        clear hcb HRB
        have HAD := Lib.hid (add_told (R := opR 1 b) HS.out hb1 ho1 hsm1 hR1 (by rw [List.length_append, relU_length]; simp) k1)
        clear ho1 hR1 hb1 hsm1
        go_wp2_with (first | (go_at_call 8; refine (HAD.out).mono ?_) | fail)
        rintro e w5 ⟨rfl, hS2⟩
        have HS := Lib.hid hS2
        clear hS2 HAD
        go_wp2
        go_roundw
        case rel => exact ⟨2, by omega, by go_num, HS.out⟩
        case measure => simp [intOf]
      · as_aux_lemma =>
        have HS := Lib.hid hS
        have hcl := (HS.out.fun_ 2).trans (show _ = some (.func (.func 11) #[] #[]) from rfl)
        have hca := HS.out.cell (a := ⟨ba, 0, none⟩) lt1 HE.out.ca
        have HRA := Lib.hid (HS.out.sr HE.out.ra)
        clear hS hk hk11
        rw [show ((2 : Nat) : Int) = 2 from rfl]
        go_wp2_with (first | (go_at_call 11; refine (recA.call _ _ a wr hla HRA.out).mono ?_) | fail)
        rintro e w2 ⟨⟨r1, A1, c1, k1, rfl, ho1, hR1⟩, hb1⟩
        have hsm1 := recA.sm _ _ hR1
        clear hca hcl HRA
        have HAD := Lib.hid (add_told (R := opR 2 a) HS.out hb1 ho1 hsm1 hR1 (by rw [relU_length]; omega) k1)
        clear ho1 hR1 hb1 hsm1
        go_wp2_with (first | (go_at_call 8; refine (HAD.out).mono ?_) | fail)
        rintro e w3 ⟨rfl, hS2⟩
        have HS := Lib.hid hS2
        have hcb := HS.out.cell (a := ⟨bb, 0, none⟩) lt2 HE.out.cb
        have HRB := Lib.hid (HS.out.sr HE.out.rb)
        clear hS2 HAD
        go_wp2_with (first | (go_at_call 11; refine (recA.call _ _ b w3 hlb HRB.out).mono ?_) | fail)
        rintro e w4 ⟨⟨r1, A1, c1, k1, rfl, ho1, hR1⟩, hb1⟩
        have hsm1 := recA.sm _ _ hR1
        clear hcb HRB
        have HAD := Lib.hid (add_told (R := opR 2 b) HS.out hb1 ho1 hsm1 hR1 (by rw [List.length_append, relU_length]; simp) k1)
        clear ho1 hR1 hb1 hsm1
        go_wp2_with (first | (go_at_call 8; refine (HAD.out).mono ?_) | fail)
        rintro e w5 ⟨rfl, hS2⟩
        have HS := Lib.hid hS2
        clear hS2 HAD
        go_wp2
        go_roundw
        case rel => exact ⟨3, by omega, by go_num, HS.out⟩
        case measure => simp [intOf]
      · as_aux_lemma =>
        have HS := Lib.hid hS
        have hcl := (HS.out.fun_ 3).trans (show _ = some (.func (.func 12) #[] #[]) from rfl)
        have hca := HS.out.cell (a := ⟨ba, 0, none⟩) lt1 HE.out.ca
        have HRA := Lib.hid (HS.out.sr HE.out.ra)
        clear hS hk hk11
        rw [show ((3 : Nat) : Int) = 3 from rfl]
        go_wp2_with (first | (go_at_call 12; refine (evaA.call _ _ a wr hla HRA.out).mono ?_) | fail)
        rintro e w2 ⟨⟨r1, A1, c1, k1, rfl, ho1, hR1⟩, hb1⟩
        have hsm1 := evaA.sm _ _ hR1
        clear hca hcl HRA
        have HAD := Lib.hid (add_told (R := opR 3 a) HS.out hb1 ho1 hsm1 hR1 (by rw [relU_length]; omega) k1)
        clear ho1 hR1 hb1 hsm1
        go_wp2_with (first | (go_at_call 8; refine (HAD.out).mono ?_) | fail)
        rintro e w3 ⟨rfl, hS2⟩
        have HS := Lib.hid hS2
        have hcb := HS.out.cell (a := ⟨bb, 0, none⟩) lt2 HE.out.cb
        have HRB := Lib.hid (HS.out.sr HE.out.rb)
        clear hS2 HAD
        go_wp2_with (first | (go_at_call 12; refine (evaA.call _ _ b w3 hlb HRB.out).mono ?_) | fail)
        rintro e w4 ⟨⟨r1, A1, c1, k1, rfl, ho1, hR1⟩, hb1⟩
        have hsm1 := evaA.sm _ _ hR1
        clear hcb HRB
        have HAD := Lib.hid (add_told (R := opR 3 b) HS.out hb1 ho1 hsm1 hR1 (by rw [List.length_append, relU_length]; simp) k1)
        clear ho1 hR1 hb1 hsm1
        go_wp2_with (first | (go_at_call 8; refine (HAD.out).mono ?_) | fail)
        rintro e w5 ⟨rfl, hS2⟩
        have HS := Lib.hid hS2
        clear hS2 HAD
        go_wp2
        go_roundw
        case rel => exact ⟨4, by omega, by go_num, HS.out⟩
        case measure => simp [intOf]
      · as_aux_lemma =>
        have HS := Lib.hid hS
        have hcl := (HS.out.fun_ 4).trans (show _ = some (.func (.func 13) #[] #[]) from rfl)
        have hca := HS.out.cell (a := ⟨ba, 0, none⟩) lt1 HE.out.ca
        have HRA := Lib.hid (HS.out.sr HE.out.ra)
        clear hS hk hk11
        rw [show ((4 : Nat) : Int) = 4 from rfl]
        go_wp2_with (first | (go_at_call 13; refine (proA.call _ _ a wr hla HRA.out).mono ?_) | fail)
        rintro e w2 ⟨⟨r1, A1, c1, k1, rfl, ho1, hR1⟩, hb1⟩
        have hsm1 := proA.sm _ _ hR1
        clear hca hcl HRA
        have HAD := Lib.hid (add_told (R := opR 4 a) HS.out hb1 ho1 hsm1 hR1 (by rw [relU_length]; omega) k1)
        clear ho1 hR1 hb1 hsm1
        go_wp2_with (first | (go_at_call 8; refine (HAD.out).mono ?_) | fail)
        rintro e w3 ⟨rfl, hS2⟩
        have HS := Lib.hid hS2
        have hcb := HS.out.cell (a := ⟨bb, 0, none⟩) lt2 HE.out.cb
        have HRB := Lib.hid (HS.out.sr HE.out.rb)
        clear hS2 HAD
        go_wp2_with (first | (go_at_call 13; refine (proA.call _ _ b w3 hlb HRB.out).mono ?_) | fail)
        rintro e w4 ⟨⟨r1, A1, c1, k1, rfl, ho1, hR1⟩, hb1⟩
        have hsm1 := proA.sm _ _ hR1
        clear hcb HRB
        have HAD := Lib.hid (add_told (R := opR 4 b) HS.out hb1 ho1 hsm1 hR1 (by rw [List.length_append, relU_length]; simp) k1)
        clear ho1 hR1 hb1 hsm1
        go_wp2_with (first | (go_at_call 8; refine (HAD.out).mono ?_) | fail)
        rintro e w5 ⟨rfl, hS2⟩
        have HS := Lib.hid hS2
        clear hS2 HAD
        go_wp2
        go_roundw
        case rel => exact ⟨5, by omega, by go_num, HS.out⟩
        case measure => simp [intOf]
      · as_aux_lemma =>
        have HS := Lib.hid hS
        have hcl := (HS.out.fun_ 5).trans (show _ = some (.func (.func 14) #[] #[]) from rfl)
        have hca := HS.out.cell (a := ⟨ba, 0, none⟩) lt1 HE.out.ca
        have HRA := Lib.hid (HS.out.sr HE.out.ra)
        clear hS hk hk11
        rw [show ((5 : Nat) : Int) = 5 from rfl]
        go_wp2_with (first | (go_at_call 14; refine (demA.call _ _ a wr hla HRA.out).mono ?_) | fail)
        rintro e w2 ⟨⟨r1, A1, c1, k1, rfl, ho1, hR1⟩, hb1⟩
        have hsm1 := demA.sm _ _ hR1
        clear hca hcl HRA
        have HAD := Lib.hid (add_told (R := opR 5 a) HS.out hb1 ho1 hsm1 hR1 (by rw [relU_length]; omega) k1)
        clear ho1 hR1 hb1 hsm1
        go_wp2_with (first | (go_at_call 8; refine (HAD.out).mono ?_) | fail)
        rintro e w3 ⟨rfl, hS2⟩
        have HS := Lib.hid hS2
        have hcb := HS.out.cell (a := ⟨bb, 0, none⟩) lt2 HE.out.cb
        have HRB := Lib.hid (HS.out.sr HE.out.rb)
        clear hS2 HAD
        go_wp2_with (first | (go_at_call 14; refine (demA.call _ _ b w3 hlb HRB.out).mono ?_) | fail)
        rintro e w4 ⟨⟨r1, A1, c1, k1, rfl, ho1, hR1⟩, hb1⟩
        have hsm1 := demA.sm _ _ hR1
        clear hcb HRB
        have HAD := Lib.hid (add_told (R := opR 5 b) HS.out hb1 ho1 hsm1 hR1 (by rw [List.length_append, relU_length]; simp) k1)
        clear ho1 hR1 hb1 hsm1
        go_wp2_with (first | (go_at_call 8; refine (HAD.out).mono ?_) | fail)
        rintro e w5 ⟨rfl, hS2⟩
        have HS := Lib.hid hS2
        clear hS2 HAD
        go_wp2
        go_roundw
        case rel => exact ⟨6, by omega, by go_num, HS.out⟩
        case measure => simp [intOf]
      · as_aux_lemma =>
        have HS := Lib.hid hS
        have hcl := (HS.out.fun_ 6).trans (show _ = some (.func (.func 15) #[] #[]) from rfl)
        have hca := HS.out.cell (a := ⟨ba, 0, none⟩) lt1 HE.out.ca
        have HRA := Lib.hid (HS.out.sr HE.out.ra)
        clear hS hk hk11
        rw [show ((6 : Nat) : Int) = 6 from rfl]
        go_wp2_with (first | (go_at_call 15; refine (corA.call _ _ a wr hla HRA.out).mono ?_) | fail)
        rintro e w2 ⟨⟨r1, A1, c1, k1, rfl, ho1, hR1⟩, hb1⟩
        have hsm1 := corA.sm _ _ hR1
        clear hca hcl HRA
        have HAD := Lib.hid (add_told (R := opR 6 a) HS.out hb1 ho1 hsm1 hR1 (by rw [relU_length]; omega) k1)
        clear ho1 hR1 hb1 hsm1
        go_wp2_with (first | (go_at_call 8; refine (HAD.out).mono ?_) | fail)
        rintro e w3 ⟨rfl, hS2⟩
        have HS := Lib.hid hS2
        have hcb := HS.out.cell (a := ⟨bb, 0, none⟩) lt2 HE.out.cb
        have HRB := Lib.hid (HS.out.sr HE.out.rb)
        clear hS2 HAD
        go_wp2_with (first | (go_at_call 15; refine (corA.call _ _ b w3 hlb HRB.out).mono ?_) | fail)
        rintro e w4 ⟨⟨r1, A1, c1, k1, rfl, ho1, hR1⟩, hb1⟩
        have hsm1 := corA.sm _ _ hR1
        clear hcb HRB
        have HAD := Lib.hid (add_told (R := opR 6 b) HS.out hb1 ho1 hsm1 hR1 (by rw [List.length_append, relU_length]; simp) k1)
        clear ho1 hR1 hb1 hsm1
        go_wp2_with (first | (go_at_call 8; refine (HAD.out).mono ?_) | fail)
        rintro e w5 ⟨rfl, hS2⟩
        have HS := Lib.hid hS2
        clear hS2 HAD
        go_wp2
        go_roundw
        case rel => exact ⟨7, by omega, by go_num, HS.out⟩
        case measure => simp [intOf]
      · as_aux_lemma =>
        have HS := Lib.hid hS
        have hcl := (HS.out.fun_ 7).trans (show _ = some (.func (.func 16) #[] #[]) from rfl)
        have hca := HS.out.cell (a := ⟨ba, 0, none⟩) lt1 HE.out.ca
        have HRA := Lib.hid (HS.out.sr HE.out.ra)
        clear hS hk hk11
        rw [show ((7 : Nat) : Int) = 7 from rfl]
        go_wp2_with (first | (go_at_call 16; refine (fcoA.call _ _ a wr hla HRA.out).mono ?_) | fail)
        rintro e w2 ⟨⟨r1, A1, c1, k1, rfl, ho1, hR1⟩, hb1⟩
        have hsm1 := fcoA.sm _ _ hR1
        clear hca hcl HRA
        have HAD := Lib.hid (add_told (R := opR 7 a) HS.out hb1 ho1 hsm1 hR1 (by rw [relU_length]; omega) k1)
        clear ho1 hR1 hb1 hsm1
        go_wp2_with (first | (go_at_call 8; refine (HAD.out).mono ?_) | fail)
        rintro e w3 ⟨rfl, hS2⟩
        have HS := Lib.hid hS2
        have hcb := HS.out.cell (a := ⟨bb, 0, none⟩) lt2 HE.out.cb
        have HRB := Lib.hid (HS.out.sr HE.out.rb)
        clear hS2 HAD
        go_wp2_with (first | (go_at_call 16; refine (fcoA.call _ _ b w3 hlb HRB.out).mono ?_) | fail)
        rintro e w4 ⟨⟨r1, A1, c1, k1, rfl, ho1, hR1⟩, hb1⟩
        have hsm1 := fcoA.sm _ _ hR1
        clear hcb HRB
        have HAD := Lib.hid (add_told (R := opR 7 b) HS.out hb1 ho1 hsm1 hR1 (by rw [List.length_append, relU_length]; simp) k1)
        clear ho1 hR1 hb1 hsm1
        go_wp2_with (first | (go_at_call 8; refine (HAD.out).mono ?_) | fail)
        rintro e w5 ⟨rfl, hS2⟩
        have HS := Lib.hid hS2
        clear hS2 HAD
        go_wp2
        go_roundw
        case rel => exact ⟨8, by omega, by go_num, HS.out⟩
        case measure => simp [intOf]
      · as_aux_lemma =>
        have HS := Lib.hid hS
        have hcl := (HS.out.fun_ 8).trans (show _ = some (.func (.func 17) #[] #[]) from rfl)
        have hca := HS.out.cell (a := ⟨ba, 0, none⟩) lt1 HE.out.ca
        have HRA := Lib.hid (HS.out.sr HE.out.ra)
        clear hS hk hk11
        rw [show ((8 : Nat) : Int) = 8 from rfl]
        go_wp2_with (first | (go_at_call 17; refine (triA.call _ _ a wr hla HRA.out).mono ?_) | fail)
        rintro e w2 ⟨⟨r1, A1, c1, k1, rfl, ho1, hR1⟩, hb1⟩
        have hsm1 := triA.sm _ _ hR1
        clear hca hcl HRA
        have HAD := Lib.hid (add_told (R := opR 8 a) HS.out hb1 ho1 hsm1 hR1 (by rw [relU_length]; omega) k1)
        clear ho1 hR1 hb1 hsm1
        go_wp2_with (first | (go_at_call 8; refine (HAD.out).mono ?_) | fail)
        rintro e w3 ⟨rfl, hS2⟩
        have HS := Lib.hid hS2
        have hcb := HS.out.cell (a := ⟨bb, 0, none⟩) lt2 HE.out.cb
        have HRB := Lib.hid (HS.out.sr HE.out.rb)
        clear hS2 HAD
        go_wp2_with (first | (go_at_call 17; refine (triA.call _ _ b w3 hlb HRB.out).mono ?_) | fail)
        rintro e w4 ⟨⟨r1, A1, c1, k1, rfl, ho1, hR1⟩, hb1⟩
        have hsm1 := triA.sm _ _ hR1
        clear hcb HRB
        have HAD := Lib.hid (add_told (R := opR 8 b) HS.out hb1 ho1 hsm1 hR1 (by rw [List.length_append, relU_length]; simp) k1)
        clear ho1 hR1 hb1 hsm1
        go_wp2_with (first | (go_at_call 8; refine (HAD.out).mono ?_) | fail)
        rintro e w5 ⟨rfl, hS2⟩
        have HS := Lib.hid hS2
        clear hS2 HAD
        go_wp2
        go_roundw
        case rel => exact ⟨9, by omega, by go_num, HS.out⟩
        case measure => simp [intOf]
      · as_aux_lemma =>
        have HS := Lib.hid hS
        have hcl := (HS.out.fun_ 9).trans (show _ = some (.func (.func 18) #[] #[]) from rfl)
        have hca := HS.out.cell (a := ⟨ba, 0, none⟩) lt1 HE.out.ca
        have HRA := Lib.hid (HS.out.sr HE.out.ra)
        clear hS hk hk11
        rw [show ((9 : Nat) : Int) = 9 from rfl]
        go_wp2_with (first | (go_at_call 18; refine (ftrA.call _ _ a wr hla HRA.out).mono ?_) | fail)
        rintro e w2 ⟨⟨r1, A1, c1, k1, rfl, ho1, hR1⟩, hb1⟩
        have hsm1 := ftrA.sm _ _ hR1
        clear hca hcl HRA
        have HAD := Lib.hid (add_told (R := opR 9 a) HS.out hb1 ho1 hsm1 hR1 (by rw [relU_length]; omega) k1)
        clear ho1 hR1 hb1 hsm1
        go_wp2_with (first | (go_at_call 8; refine (HAD.out).mono ?_) | fail)
        rintro e w3 ⟨rfl, hS2⟩
        have HS := Lib.hid hS2
        have hcb := HS.out.cell (a := ⟨bb, 0, none⟩) lt2 HE.out.cb
        have HRB := Lib.hid (HS.out.sr HE.out.rb)
        clear hS2 HAD
        go_wp2_with (first | (go_at_call 18; refine (ftrA.call _ _ b w3 hlb HRB.out).mono ?_) | fail)
        rintro e w4 ⟨⟨r1, A1, c1, k1, rfl, ho1, hR1⟩, hb1⟩
        have hsm1 := ftrA.sm _ _ hR1
        clear hcb HRB
        have HAD := Lib.hid (add_told (R := opR 9 b) HS.out hb1 ho1 hsm1 hR1 (by rw [List.length_append, relU_length]; simp) k1)
        clear ho1 hR1 hb1 hsm1
        go_wp2_with (first | (go_at_call 8; refine (HAD.out).mono ?_) | fail)
        rintro e w5 ⟨rfl, hS2⟩
        have HS := Lib.hid hS2
        clear hS2 HAD
        go_wp2
        go_roundw
        case rel => exact ⟨10, by omega, by go_num, HS.out⟩
        case measure => simp [intOf]
      · as_aux_lemma =>
        have HS := Lib.hid hS
        have hcl := (HS.out.fun_ 10).trans (show _ = some (.func (.func 19) #[] #[]) from rfl)
        have hca := HS.out.cell (a := ⟨ba, 0, none⟩) lt1 HE.out.ca
        have HRA := Lib.hid (HS.out.sr HE.out.ra)
        clear hS hk hk11
        rw [show ((10 : Nat) : Int) = 10 from rfl]
        go_wp2_with (first | (go_at_call 19; refine (gyrA.call _ _ a wr hla HRA.out).mono ?_) | fail)
        rintro e w2 ⟨⟨r1, A1, c1, k1, rfl, ho1, hR1⟩, hb1⟩
        have hsm1 := gyrA.sm _ _ hR1
        clear hca hcl HRA
        have HAD := Lib.hid (add_told (R := opR 10 a) HS.out hb1 ho1 hsm1 hR1 (by rw [relU_length]; omega) k1)
        clear ho1 hR1 hb1 hsm1
        go_wp2_with (first | (go_at_call 8; refine (HAD.out).mono ?_) | fail)
        rintro e w3 ⟨rfl, hS2⟩
        have HS := Lib.hid hS2
        have hcb := HS.out.cell (a := ⟨bb, 0, none⟩) lt2 HE.out.cb
        have HRB := Lib.hid (HS.out.sr HE.out.rb)
        clear hS2 HAD
        go_wp2_with (first | (go_at_call 19; refine (gyrA.call _ _ b w3 hlb HRB.out).mono ?_) | fail)
        rintro e w4 ⟨⟨r1, A1, c1, k1, rfl, ho1, hR1⟩, hb1⟩
        have hsm1 := gyrA.sm _ _ hR1
        clear hcb HRB
        have HAD := Lib.hid (add_told (R := opR 10 b) HS.out hb1 ho1 hsm1 hR1 (by rw [List.length_append, relU_length]; simp) k1)
        clear ho1 hR1 hb1 hsm1
        go_wp2_with (first | (go_at_call 8; refine (HAD.out).mono ?_) | fail)
        rintro e w5 ⟨rfl, hS2⟩
        have HS := Lib.hid hS2
        clear hS2 HAD
        go_wp2
        go_roundw
        case rel => exact ⟨11, by omega, by go_num, HS.out⟩
        case measure => simp [intOf]
    · obtain rfl : k = 11 := by omega
      have HS3 := Lib.hid (hS.lay (.cells #[.func (.func 20) #[] #[], .func (.func 21) #[] #[], .func (.func 22) #[] #[]] 33))
      clear hS hk hk11
      rw [show ((11 : Nat) : Int) = 11 from rfl]
      go_wp2
      obtain ⟨w2, hw2⟩ : ∃ w2, w2 = wr.alloc (.cells #[.func (.func 20) #[] #[], .func (.func 21) #[] #[], .func (.func 22) #[] #[]] 33) := ⟨_, rfl⟩
      obtain ⟨g3, hg3⟩ : ∃ g3, g3 = wr.heap.size := ⟨_, rfl⟩
      rw [← hw2, ← hg3] at HS3 ⊢
      clear hw2 hg3
      go_loopw [42] (fun iv wr => ∃ k : Nat, k ≤ 3 ∧ iv = .int .i64 k ∧ Stt w wr B0 g bo B0 bk mk g3 (.cells #[.func (.func 20) #[] #[], .func (.func 21) #[] #[], .func (.func 22) #[] #[]] 33 (0, 0)) (relN a b x k)) (fun iv _ => 3 - (intOf iv).toNat)
      case atStart => exact ⟨0, by omega, rfl, HS3.out⟩
      case round =>
        clear HS3
        obtain ⟨k, hk, rfl, hS⟩ := hrel
        by_cases hk3 : k < 3
        · rcases (show k = 0 ∨ k = 1 ∨ k = 2 by omega) with rfl | rfl | rfl
          · as_aux_lemma =>
            have HS := Lib.hid hS
            have hcl := (HS.out.fun_ 0).trans (show _ = some (.func (.func 20) #[] #[]) from rfl)
            have hca := HS.out.cell (a := ⟨ba, 0, none⟩) lt1 HE.out.ca
            have hcx := HS.out.cell (a := ⟨bx, 0, none⟩) lt3 HE.out.cx
            have HRA := Lib.hid (HS.out.sr HE.out.ra)
            clear hS hk hk3
            rw [show ((0 : Nat) : Int) = 0 from rfl]
            go_wp2_with (first | (go_at_call 20; refine (cturA.call _ _ a x wr hla HRA.out).mono ?_) | fail)
            rintro e w2 ⟨⟨r1, A1, c1, k1, rfl, ho1, hR1⟩, hb1⟩
            have hsm1 := cturA.sm _ _ _ hR1
            clear hca hcl hcx HRA
            have HAD := Lib.hid (add_told (R := opN 0 a x) HS.out hb1 ho1 hsm1 hR1 (by rw [relN_length]; omega) k1)
            clear ho1 hR1 hb1 hsm1
            go_wp2_with (first | (go_at_call 8; refine (HAD.out).mono ?_) | fail)
            rintro e w3 ⟨rfl, hS2⟩
            have HS := Lib.hid hS2
            clear hS2 HAD
            go_wp2
            go_roundw
            case rel => exact ⟨1, by omega, by go_num, HS.out⟩
            case measure => simp [intOf]
          · as_aux_lemma =>
            have HS := Lib.hid hS
            have hcl := (HS.out.fun_ 1).trans (show _ = some (.func (.func 21) #[] #[]) from rfl)
            have hca := HS.out.cell (a := ⟨ba, 0, none⟩) lt1 HE.out.ca
            have hcx := HS.out.cell (a := ⟨bx, 0, none⟩) lt3 HE.out.cx
            have HRA := Lib.hid (HS.out.sr HE.out.ra)
            clear hS hk hk3
            rw [show ((1 : Nat) : Int) = 1 from rfl]
            go_wp2_with (first | (go_at_call 21; refine (cmirA.call _ _ a x wr hla HRA.out).mono ?_) | fail)
            rintro e w2 ⟨⟨r1, A1, c1, k1, rfl, ho1, hR1⟩, hb1⟩
            have hsm1 := cmirA.sm _ _ _ hR1
            clear hca hcl hcx HRA
            have HAD := Lib.hid (add_told (R := opN 1 a x) HS.out hb1 ho1 hsm1 hR1 (by rw [relN_length]; omega) k1)
            clear ho1 hR1 hb1 hsm1
            go_wp2_with (first | (go_at_call 8; refine (HAD.out).mono ?_) | fail)
            rintro e w3 ⟨rfl, hS2⟩
            have HS := Lib.hid hS2
            clear hS2 HAD
            go_wp2
            go_roundw
            case rel => exact ⟨2, by omega, by go_num, HS.out⟩
            case measure => simp [intOf]
          · as_aux_lemma =>
            have HS := Lib.hid hS
            have hcl := (HS.out.fun_ 2).trans (show _ = some (.func (.func 22) #[] #[]) from rfl)
            have hca := HS.out.cell (a := ⟨ba, 0, none⟩) lt1 HE.out.ca
            have hcx := HS.out.cell (a := ⟨bx, 0, none⟩) lt3 HE.out.cx
            have HRA := Lib.hid (HS.out.sr HE.out.ra)
            clear hS hk hk3
            rw [show ((2 : Nat) : Int) = 2 from rfl]
            go_wp2_with (first | (go_at_call 22; refine (cresA.call _ _ a x wr hla HRA.out).mono ?_) | fail)
            rintro e w2 ⟨⟨r1, A1, c1, k1, rfl, ho1, hR1⟩, hb1⟩
            have hsm1 := cresA.sm _ _ _ hR1
            clear hca hcl hcx HRA
            have HAD := Lib.hid (add_told (R := opN 2 a x) HS.out hb1 ho1 hsm1 hR1 (by rw [relN_length]; omega) k1)
            clear ho1 hR1 hb1 hsm1
            go_wp2_with (first | (go_at_call 8; refine (HAD.out).mono ?_) | fail)
            rintro e w3 ⟨rfl, hS2⟩
            have HS := Lib.hid hS2
            clear hS2 HAD
            go_wp2
            go_roundw
            case rel => exact ⟨3, by omega, by go_num, HS.out⟩
            case measure => simp [intOf]
        · obtain rfl : k = 3 := by omega
          have HS := Lib.hid hS
          clear hS hk hk3
          rw [show ((3 : Nat) : Int) = 3 from rfl]
          have hca := HS.out.cell (a := ⟨ba, 0, none⟩) lt1 HE.out.ca
          have HRA := Lib.hid (HS.out.sr HE.out.ra)
          have hcx := HS.out.cell (a := ⟨bx, 0, none⟩) lt3 HE.out.cx
          go_wp2_with (first | (go_at_call 23; refine (insA.call _ _ a x wr hla HRA.out).mono ?_) | fail)
          rintro e u1 ⟨⟨r1, A1, c1, i1, k1, rfl, ho1, hR1⟩, hb1⟩
          have hsm1 := insA.sm _ _ _ hR1
          have HAD := Lib.hid (add_told (R := insR a x) HS.out hb1 ho1 hsm1 hR1 (by simp [relN_length]) k1)
          clear ho1 hR1 hb1 hsm1 HS hca HRA hcx
          go_wp2_with (first | (go_at_call 8; refine (HAD.out).mono ?_) | fail)
          rintro e v1 ⟨rfl, hS2⟩
          have HS := Lib.hid hS2
          clear hS2 HAD
          have hca := HS.out.cell (a := ⟨ba, 0, none⟩) lt1 HE.out.ca
          have HRA := Lib.hid (HS.out.sr HE.out.ra)
          have hcx := HS.out.cell (a := ⟨bx, 0, none⟩) lt3 HE.out.cx
          go_wp2_with (first | (go_at_call 24; refine (lefA.call _ _ a x v1 hla HRA.out).mono ?_) | fail)
          rintro e u2 ⟨⟨r1, A1, c1, i1, k1, rfl, ho1, hR1⟩, hb1⟩
          have hsm1 := lefA.sm _ _ _ hR1
          have HAD := Lib.hid (add_told (R := lefR a x) HS.out hb1 ho1 hsm1 hR1 (by simp [relN_length]) k1)
          clear ho1 hR1 hb1 hsm1 HS hca HRA hcx
          go_wp2_with (first | (go_at_call 8; refine (HAD.out).mono ?_) | fail)
          rintro e v2 ⟨rfl, hS2⟩
          have HS := Lib.hid hS2
          clear hS2 HAD
          have hcb := HS.out.cell (a := ⟨bb, 0, none⟩) lt2 HE.out.cb
          have HRB := Lib.hid (HS.out.sr HE.out.rb)
          have hcx := HS.out.cell (a := ⟨bx, 0, none⟩) lt3 HE.out.cx
          go_wp2_with (first | (go_at_call 25; refine (sliA.call _ _ b x v2 hlb HRB.out).mono ?_) | fail)
          rintro e u3 ⟨⟨r1, A1, c1, i1, k1, rfl, ho1, hR1⟩, hb1⟩
          have hsm1 := sliA.sm _ _ _ hR1
          have HAD := Lib.hid (add_told (R := sliR b x) HS.out hb1 ho1 hsm1 hR1 (by simp [relN_length]) k1)
          clear ho1 hR1 hb1 hsm1 HS hcb HRB hcx
          go_wp2_with (first | (go_at_call 8; refine (HAD.out).mono ?_) | fail)
          rintro e v3 ⟨rfl, hS2⟩
          have HS := Lib.hid hS2
          clear hS2 HAD
          have hca := HS.out.cell (a := ⟨ba, 0, none⟩) lt1 HE.out.ca
          have HRA := Lib.hid (HS.out.sr HE.out.ra)
          have hcb := HS.out.cell (a := ⟨bb, 0, none⟩) lt2 HE.out.cb
          have HRB := Lib.hid (HS.out.sr HE.out.rb)
          go_wp2_with (first | (go_at_call 26; refine (rbyA.call _ _ _ _ b a v3 hlb hla HRB.out HRA.out).mono ?_) | fail)
          rintro e u4 ⟨⟨r1, A1, c1, k1, rfl, ho1, hR1⟩, hb1⟩
          have hsm1 := rbyA.sm _ _ _ hR1
          have HAD := Lib.hid (add_told (R := rbyR b a) HS.out hb1 ho1 hsm1 hR1 (by simp [relN_length]) k1)
          clear ho1 hR1 hb1 hsm1 HS hca HRA hcb HRB
          go_wp2_with (first | (go_at_call 8; refine (HAD.out).mono ?_) | fail)
          rintro e v4 ⟨rfl, hS2⟩
          have HS := Lib.hid hS2
          clear hS2 HAD
          have hca := HS.out.cell (a := ⟨ba, 0, none⟩) lt1 HE.out.ca
          have HRA := Lib.hid (HS.out.sr HE.out.ra)
          have hcb := HS.out.cell (a := ⟨bb, 0, none⟩) lt2 HE.out.cb
          have HRB := Lib.hid (HS.out.sr HE.out.rb)
          go_wp2_with (first | (go_at_call 27; refine (meeA.call _ _ _ _ a b v4 hla hlb HRA.out HRB.out).mono ?_) | fail)
          rintro e u5 ⟨⟨r1, A1, c1, k1, rfl, ho1, hR1⟩, hb1⟩
          have hsm1 := meeA.sm _ _ _ hR1
          have HAD := Lib.hid (add_told (R := meeR a b) HS.out hb1 ho1 hsm1 hR1 (by simp [relN_length]) k1)
          clear ho1 hR1 hb1 hsm1 HS hca HRA hcb HRB
          go_wp2_with (first | (go_at_call 8; refine (HAD.out).mono ?_) | fail)
          rintro e v5 ⟨rfl, hS2⟩
          have HS := Lib.hid hS2
          clear hS2 HAD
          have hca := HS.out.cell (a := ⟨ba, 0, none⟩) lt1 HE.out.ca
          have HRA := Lib.hid (HS.out.sr HE.out.ra)
          have hcb := HS.out.cell (a := ⟨bb, 0, none⟩) lt2 HE.out.cb
          have HRB := Lib.hid (HS.out.sr HE.out.rb)
          go_wp2_with (first | (go_at_call 28; refine (joiA.call _ _ _ _ a b v5 hla hlb HRA.out HRB.out).mono ?_) | fail)
          rintro e u6 ⟨⟨r1, A1, c1, k1, rfl, ho1, hR1⟩, hb1⟩
          have hsm1 := joiA.sm _ _ _ hR1
          have HAD := Lib.hid (add_told (R := joiR a b) HS.out hb1 ho1 hsm1 hR1 (by simp [relN_length]) k1)
          clear ho1 hR1 hb1 hsm1 HS hca HRA hcb HRB
          go_wp2_with (first | (go_at_call 8; refine (HAD.out).mono ?_) | fail)
          rintro e v6 ⟨rfl, hS2⟩
          have HS := Lib.hid hS2
          clear hS2 HAD
          have hca := HS.out.cell (a := ⟨ba, 0, none⟩) lt1 HE.out.ca
          have HRA := Lib.hid (HS.out.sr HE.out.ra)
          have hcb := HS.out.cell (a := ⟨bb, 0, none⟩) lt2 HE.out.cb
          have HRB := Lib.hid (HS.out.sr HE.out.rb)
          go_wp2_with (first | (go_at_call 29; refine (bacA.call _ _ _ _ a b v6 hla hlb HRA.out HRB.out).mono ?_) | fail)
          rintro e u7 ⟨⟨r1, A1, c1, k1, rfl, ho1, hR1⟩, hb1⟩
          have hsm1 := bacA.sm _ _ _ hR1
          have HAD := Lib.hid (add_told1 (R := BackTo a b) HS.out hb1 ho1 hsm1 hR1 (by simp [relN_length]) k1)
          clear ho1 hR1 hb1 hsm1 HS hca HRA hcb HRB
          go_wp2_with (first | (go_at_call 8; refine (HAD.out).mono ?_) | fail)
          rintro e v7 ⟨rfl, hS2⟩
          have HS := Lib.hid hS2
          clear hS2 HAD
          have hca := HS.out.cell (a := ⟨ba, 0, none⟩) lt1 HE.out.ca
          have HRA := Lib.hid (HS.out.sr HE.out.ra)
          go_wp2_with (first | (go_at_call 30; refine (worA.call _ _ a v7 hla HRA.out).mono ?_) | fail)
          rintro e u8 ⟨⟨r1, A1, c1, k1, rfl, ho1, hR1⟩, hb1⟩
          have hsm1 := worA.sm _ _ hR1
          have HAD := Lib.hid (add_told1 (R := WordTo a) HS.out hb1 ho1 hsm1 hR1 (by simp [relN_length]) k1)
          clear ho1 hR1 hb1 hsm1 HS hca HRA
          go_wp2_with (first | (go_at_call 8; refine (HAD.out).mono ?_) | fail)
          rintro e v8 ⟨rfl, hS2⟩
          have HS := Lib.hid hS2
          clear hS2 HAD
          have hca := HS.out.cell (a := ⟨ba, 0, none⟩) lt1 HE.out.ca
          have HRA := Lib.hid (HS.out.sr HE.out.ra)
          go_wp2_with (first | (go_at_call 31; refine (conA.call _ _ a v8 hla HRA.out).mono ?_) | fail)
          rintro e u9 ⟨⟨r1, A1, c1, k1, rfl, ho1, hR1⟩, hb1⟩
          have hsm1 := conA.sm _ _ hR1
          have HAD := Lib.hid (add_told1 (R := ContTo a) HS.out hb1 ho1 hsm1 hR1 (by simp [relN_length]) k1)
          clear ho1 hR1 hb1 hsm1 HS hca HRA
          go_wp2_with (first | (go_at_call 8; refine (HAD.out).mono ?_) | fail)
          rintro e v9 ⟨rfl, hS2⟩
          have HS := Lib.hid hS2
          clear hS2 HAD
          have hca := HS.out.cell (a := ⟨ba, 0, none⟩) lt1 HE.out.ca
          have HRA := Lib.hid (HS.out.sr HE.out.ra)
          go_wp2_with (first | (go_at_call 32; refine (linA.call _ _ a v9 hla HRA.out).mono ?_) | fail)
          rintro e u10 ⟨⟨r1, A1, c1, k1, rfl, ho1, hR1⟩, hb1⟩
          have hsm1 := linA.sm _ _ hR1
          have HAD := Lib.hid (add_told1 (R := LinksTo a) HS.out hb1 ho1 hsm1 hR1 (by simp [relN_length]) k1)
          clear ho1 hR1 hb1 hsm1 HS hca HRA
          go_wp2_with (first | (go_at_call 8; refine (HAD.out).mono ?_) | fail)
          rintro e v10 ⟨rfl, hS2⟩
          have HS := Lib.hid hS2
          clear hS2 HAD
          obtain ⟨A9, c9, ts, hco, hck, htr, hgot⟩ := HS.out.tr
          have hfin : Hid (TR v10 v10.heap.size A9 ts ∧ ts.length ≤ 1000 ∧ Got (relZ a b x) ts) := Lib.hid ⟨htr, by rw [hgot.1]; simp [relN_length], hgot⟩
          have HW := Lib.hid HS.out.bl
          clear htr hgot HS
          go_wp2
          go_quiet (fail)
          go_wp2
          go_ret2
          exact ⟨⟨A9, c9, ts, rfl, hfin.out.1.below (below_drewN (Below.refl _ _) _), hfin.out.2⟩, below_drewN (by rw [← HB0.out]; exact HW.out) _⟩
end Go.Proofs.Ytpmkdihencepnaa
