/- Part of the proof. -/
import Derived.OwnWalk
import Derived.Deep.RegionHeld3
import Derived.Deep.AppendLies
import Derived.BigRegion
import Derived.Test.YtpmkdihencepnaaGreatDoorMk01
import Derived.Test.YtpmkdihencepnaaGreatDoorMk02
import Derived.Test.YtpmkdihencepnaaGreatDoorMk03
import Derived.Test.YtpmkdihencepnaaGreatDoorMk04
import Derived.Test.YtpmkdihencepnaaGreatDoorMk05
import Derived.Test.YtpmkdihencepnaaGreatDoorMk06
import Derived.Test.YtpmkdihencepnaaGreatDoorMk07
import Derived.Test.YtpmkdihencepnaaGreatDoorMk08
import Derived.Test.YtpmkdihencepnaaGreatDoorMk10
import Derived.Test.YtpmkdihencepnaaGreatDoorMk12
import Derived.Test.YtpmkdihencepnaaGreatDoorMk16
set_option maxHeartbeats 16000000
set_option maxRecDepth 100000
namespace Go.Proofs.YtpmkdihencepnaaGreatDoor
section
open Go.RowKit
open Classical in
noncomputable def fcode (T : List (List Int)) : Int := if FillOk T then 0 else if boxes T ≤ 40 then 1 else 2
open Classical in
noncomputable def skcode (T : List (List Int)) : Int := if SkOk T then 0 else if boxes T ≤ 40 then 1 else 2
theorem fcode_ne {T : List (List Int)} (h : ¬ FillOk T) : fcode T ≠ 0 := by
 unfold fcode
 rw [if_neg h]
 by_cases b : boxes T ≤ 40
 · rw [if_pos b]; decide
 · rw [if_neg b]; decide
theorem fcode_ok {T : List (List Int)} (h : FillOk T) : fcode T = 0 := by unfold fcode; rw [if_pos h]
theorem skcode_ne {T : List (List Int)} (h : ¬ SkOk T) : skcode T ≠ 0 := by
 unfold skcode
 rw [if_neg h]
 by_cases b : boxes T ≤ 40
 · rw [if_pos b]; decide
 · rw [if_neg b]; decide
theorem skcode_ok {T : List (List Int)} (h : SkOk T) : skcode T = 0 := by unfold skcode; rw [if_pos h]
theorem fcheck_c (A : Option Addr) (cap : Nat) (T : List (List Int)) (w : World) (hT : T.length ≤ 9223372036854775807) (h : SR w w.heap.size A T) :
 Calls Tryz.prog 172 #[.slice A T.length cap] w fun e w' => e = .returned (.int .i64 (fcode T)) ∧ w = w' :=
 (fcheck_code A cap T w hT h).mono (by
  rintro e w' ⟨⟨k, rfl, h1, h2, h3⟩, rfl⟩
  refine ⟨?_, rfl⟩
  congr 2
  by_cases ok : FillOk T
  · rw [fcode_ok ok, h2 ok]
  · unfold fcode; rw [if_neg ok]; exact h3 (fun e => ok (h1 e)))
theorem scheck_c (A : Option Addr) (cap : Nat) (T : List (List Int)) (w : World) (hT : T.length ≤ 9223372036854775807) (h : SR w w.heap.size A T) :
 Calls Tryz.prog 177 #[.slice A T.length cap] w fun e w' => e = .returned (.int .i64 (skcode T)) ∧ Below w.heap.size w w' :=
 (scheck_code A cap T w hT h).mono (by
  rintro e w' ⟨⟨k, rfl, h1, h2, h3⟩, hb⟩
  refine ⟨?_, hb⟩
  congr 2
  by_cases ok : SkOk T
  · rw [skcode_ok ok, h2 ok]
  · unfold skcode; rw [if_neg ok]; exact h3 (fun e => ok (h1 e)))
open Classical in
noncomputable def stcode (T : List (List Int)) : Int := if FillOk T then if IsPerm T.flatten then 0 else 3 else fcode T
theorem stcode_ne {T : List (List Int)} (h : ¬ Std T) : stcode T ≠ 0 := by
 unfold stcode
 by_cases ok : FillOk T
 · rw [if_pos ok, if_neg (fun p => h ⟨ok, p⟩)]; decide
 · rw [if_neg ok]; exact fcode_ne ok
theorem shape_e (A : Option Addr) (cap : Nat) (T : List (List Int)) (w : World) (hT : T.length ≤ 9223372036854775807) (hno : ¬ FillOk T) (h : SR w w.heap.size A T) :
 Calls Tryz.prog 134 #[.slice A T.length cap] w fun e w' => e = .returned (.tuple #[.slice none 0 0, .int .i64 (fcode T)]) ∧ Below w.heap.size w w' := by
 have HC := Lib.hid (fcheck_c A cap T w hT h)
 have hk0 : fcode T ≠ 0 := fcode_ne hno
 obtain ⟨k, hk⟩ : ∃ k, k = fcode T := ⟨_, rfl⟩
 rw [← hk] at HC hk0 ⊢
 have dk : (k != 0) = true := by simpa using hk0
 clear hk hk0 h
 go_enter Tryz.func134, Tryz.ntmps134
 go_wp2_with (first | (go_at_call 172; refine (HC.out).mono ?_) | fail)
 rintro e w1 ⟨rfl, rfl⟩
 go_wp2
 go_ret2
 exact ⟨rfl, Below.refl _ _⟩
theorem fword_e (A : Option Addr) (cap : Nat) (T : List (List Int)) (w : World) (hT : T.length ≤ 9223372036854775807) (hno : ¬ FillOk T) (h : SR w w.heap.size A T) :
 Calls Tryz.prog 135 #[.slice A T.length cap] w fun e w' => e = .returned (.tuple #[.slice none 0 0, .int .i64 (fcode T)]) ∧ Below w.heap.size w w' := by
 have HC := Lib.hid (fcheck_c A cap T w hT h)
 have hk0 : fcode T ≠ 0 := fcode_ne hno
 obtain ⟨k, hk⟩ : ∃ k, k = fcode T := ⟨_, rfl⟩
 rw [← hk] at HC hk0 ⊢
 have dk : (k != 0) = true := by simpa using hk0
 clear hk hk0 h
 go_enter Tryz.func135, Tryz.ntmps135
 go_wp2_with (first | (go_at_call 172; refine (HC.out).mono ?_) | fail)
 rintro e w1 ⟨rfl, rfl⟩
 go_wp2
 go_ret2
 exact ⟨rfl, Below.refl _ _⟩
theorem content_e (A : Option Addr) (cap : Nat) (T : List (List Int)) (w : World) (hT : T.length ≤ 9223372036854775807) (hno : ¬ FillOk T) (h : SR w w.heap.size A T) :
 Calls Tryz.prog 185 #[.slice A T.length cap] w fun e w' => e = .returned (.tuple #[.slice none 0 0, .int .i64 (fcode T)]) ∧ Below w.heap.size w w' := by
 have HC := Lib.hid (fcheck_c A cap T w hT h)
 have hk0 : fcode T ≠ 0 := fcode_ne hno
 obtain ⟨k, hk⟩ : ∃ k, k = fcode T := ⟨_, rfl⟩
 rw [← hk] at HC hk0 ⊢
 have dk : (k != 0) = true := by simpa using hk0
 clear hk hk0 h
 go_enter Tryz.func185, Tryz.ntmps185
 go_wp2_with (first | (go_at_call 172; refine (HC.out).mono ?_) | fail)
 rintro e w1 ⟨rfl, rfl⟩
 go_wp2
 go_ret2
 exact ⟨rfl, Below.refl _ _⟩
theorem fstd_e (A : Option Addr) (cap : Nat) (T : List (List Int)) (w : World) (hT : T.length ≤ 9223372036854775807) (hno : ¬ FillOk T) (h : SR w w.heap.size A T) :
 Calls Tryz.prog 136 #[.slice A T.length cap] w fun e w' => e = .returned (.tuple #[.slice none 0 0, .int .i64 (fcode T)]) ∧ Below w.heap.size w w' := by
 have HC := Lib.hid (fcheck_c A cap T w hT h)
 have hk0 : fcode T ≠ 0 := fcode_ne hno
 obtain ⟨k, hk⟩ : ∃ k, k = fcode T := ⟨_, rfl⟩
 rw [← hk] at HC hk0 ⊢
 have dk : (k != 0) = true := by simpa using hk0
 clear hk hk0 h
 go_enter Tryz.func136, Tryz.ntmps136
 go_wp2_with (first | (go_at_call 172; refine (HC.out).mono ?_) | fail)
 rintro e w1 ⟨rfl, rfl⟩
 go_wp2
 go_ret2
 exact ⟨rfl, Below.refl _ _⟩
theorem turned_e (A : Option Addr) (cap : Nat) (T : List (List Int)) (w : World) (hT : T.length ≤ 9223372036854775807) (hno : ¬ FillOk T) (h : SR w w.heap.size A T) :
 Calls Tryz.prog 137 #[.slice A T.length cap] w fun e w' => e = .returned (.tuple #[.slice none 0 0, .int .i64 (fcode T)]) ∧ Below w.heap.size w w' := by
 have HC := Lib.hid (fcheck_c A cap T w hT h)
 have hk0 : fcode T ≠ 0 := fcode_ne hno
 obtain ⟨k, hk⟩ : ∃ k, k = fcode T := ⟨_, rfl⟩
 rw [← hk] at HC hk0 ⊢
 have dk : (k != 0) = true := by simpa using hk0
 clear hk hk0 h
 go_enter Tryz.func137, Tryz.ntmps137
 go_wp2_with (first | (go_at_call 172; refine (HC.out).mono ?_) | fail)
 rintro e w1 ⟨rfl, rfl⟩
 go_wp2
 go_ret2
 exact ⟨rfl, Below.refl _ _⟩
theorem isstd_e (A : Option Addr) (cap : Nat) (T : List (List Int)) (w : World) (hT : T.length ≤ 9223372036854775807) (hno : ¬ FillOk T) (h : SR w w.heap.size A T) :
 Calls Tryz.prog 147 #[.slice A T.length cap] w fun e w' => e = .returned (.tuple #[.bool false, .int .i64 (fcode T)]) ∧ Below w.heap.size w w' := by
 have HC := Lib.hid (content_e A cap T w hT hno h)
 have hk0 : fcode T ≠ 0 := fcode_ne hno
 obtain ⟨k, hk⟩ : ∃ k, k = fcode T := ⟨_, rfl⟩
 rw [← hk] at HC hk0 ⊢
 have dk : (k != 0) = true := by simpa using hk0
 clear hk hk0 h
 go_enter Tryz.func147, Tryz.ntmps147
 go_wp2_with (first | (go_at_call 185; refine (HC.out).mono ?_) | fail)
 rintro e w1 ⟨rfl, hb1⟩
 go_wp2
 go_ret2
 exact ⟨rfl, hb1⟩
theorem sstd_c (A : Option Addr) (cap : Nat) (T : List (List Int)) (w : World) (hT : T.length ≤ 9223372036854775807) (h : SR w w.heap.size A T) :
 Calls Tryz.prog 181 #[.slice A T.length cap] w fun e w' => e = .returned (.int .i64 (stcode T)) ∧ Below w.heap.size w w' := by
 by_cases ok : FillOk T
 · have HC := Lib.hid (standard_any A cap T w hT h)
   have HOK := Lib.hid ok
   clear h ok
   go_enter Tryz.func181, Tryz.ntmps181
   go_wp2_with (first | (go_at_call 147; refine (HC.out).mono ?_) | fail)
   rintro e w1 ⟨⟨b, k, rfl, h1, h2, h3⟩, hb1⟩
   obtain rfl : k = 0 := h2 HOK.out
   have hb := (h1 rfl).2
   have hc : Hid (b = true → stcode T = 0) := fun e => by unfold stcode; rw [if_pos HOK.out, if_pos (hb.1 e)]
   have hc2 : Hid (b = false → stcode T = 3) := fun e => by unfold stcode; rw [if_pos HOK.out, if_neg (fun p => by rw [hb.2 p] at e; cases e)]
   clear h1 h2 h3 hb
   cases b
   · go_wp2
     go_ret
     exact ⟨by rw [(by first | exact hc2.out rfl | exact hc2.out trivial : stcode T = 3)]; rfl, hb1⟩
   · go_wp2
     go_ret
     exact ⟨by rw [(by first | exact hc.out rfl | exact hc.out trivial : stcode T = 0)]; rfl, hb1⟩
 · have HC := Lib.hid (isstd_e A cap T w hT ok h)
   have hs : stcode T = fcode T := by unfold stcode; rw [if_neg ok]
   have hk0 : fcode T ≠ 0 := fcode_ne ok
   rw [hs]
   obtain ⟨k, hk⟩ : ∃ k, k = fcode T := ⟨_, rfl⟩
   rw [← hk] at HC hk0 ⊢
   have dk : (k == 0) = false := by simpa using hk0
   clear hk hs h ok
   go_enter Tryz.func181, Tryz.ntmps181
   go_wp2_with (first | (go_at_call 147; refine (HC.out).mono ?_) | fail)
   rintro e w1 ⟨rfl, hb1⟩
   go_wp2
   go_ret
   exact ⟨rfl, hb1⟩
theorem eva_e (A : Option Addr) (cap : Nat) (T : List (List Int)) (w : World) (hT : T.length ≤ 9223372036854775807) (hno : ¬ Std T) (h : SR w w.heap.size A T) :
 Calls Tryz.prog 139 #[.slice A T.length cap] w fun e w' => e = .returned (.tuple #[.slice none 0 0, .int .i64 (stcode T)]) ∧ Below w.heap.size w w' := by
 have HC := Lib.hid (sstd_c A cap T w hT h)
 have hk0 : stcode T ≠ 0 := stcode_ne hno
 obtain ⟨k, hk⟩ : ∃ k, k = stcode T := ⟨_, rfl⟩
 rw [← hk] at HC hk0 ⊢
 have dk : (k != 0) = true := by simpa using hk0
 clear hk hk0 h
 go_enter Tryz.func139, Tryz.ntmps139
 go_wp2_with (first | (go_at_call 181; refine (HC.out).mono ?_) | fail)
 rintro e w1 ⟨rfl, hb1⟩
 go_wp2
 go_ret2
 exact ⟨rfl, hb1⟩
theorem pro_e (A : Option Addr) (cap : Nat) (T : List (List Int)) (w : World) (hT : T.length ≤ 9223372036854775807) (hno : ¬ Std T) (h : SR w w.heap.size A T) :
 Calls Tryz.prog 140 #[.slice A T.length cap] w fun e w' => e = .returned (.tuple #[.slice none 0 0, .int .i64 (stcode T)]) ∧ Below w.heap.size w w' := by
 have HC := Lib.hid (sstd_c A cap T w hT h)
 have hk0 : stcode T ≠ 0 := stcode_ne hno
 obtain ⟨k, hk⟩ : ∃ k, k = stcode T := ⟨_, rfl⟩
 rw [← hk] at HC hk0 ⊢
 have dk : (k != 0) = true := by simpa using hk0
 clear hk hk0 h
 go_enter Tryz.func140, Tryz.ntmps140
 go_wp2_with (first | (go_at_call 181; refine (HC.out).mono ?_) | fail)
 rintro e w1 ⟨rfl, hb1⟩
 go_wp2
 go_ret2
 exact ⟨rfl, hb1⟩
theorem dem_e (A : Option Addr) (cap : Nat) (T : List (List Int)) (w : World) (hT : T.length ≤ 9223372036854775807) (hno : ¬ Std T) (h : SR w w.heap.size A T) :
 Calls Tryz.prog 141 #[.slice A T.length cap] w fun e w' => e = .returned (.tuple #[.slice none 0 0, .int .i64 (stcode T)]) ∧ Below w.heap.size w w' := by
 have HC := Lib.hid (sstd_c A cap T w hT h)
 have hk0 : stcode T ≠ 0 := stcode_ne hno
 obtain ⟨k, hk⟩ : ∃ k, k = stcode T := ⟨_, rfl⟩
 rw [← hk] at HC hk0 ⊢
 have dk : (k != 0) = true := by simpa using hk0
 clear hk hk0 h
 go_enter Tryz.func141, Tryz.ntmps141
 go_wp2_with (first | (go_at_call 181; refine (HC.out).mono ?_) | fail)
 rintro e w1 ⟨rfl, hb1⟩
 go_wp2
 go_ret2
 exact ⟨rfl, hb1⟩
theorem rect_e (A : Option Addr) (cap : Nat) (T : List (List Int)) (w : World) (hT : T.length ≤ 9223372036854775807) (hno : ¬ SkOk T) (h : SR w w.heap.size A T) :
 Calls Tryz.prog 138 #[.slice A T.length cap] w fun e w' => e = .returned (.tuple #[.slice none 0 0, .int .i64 (skcode T)]) ∧ Below w.heap.size w w' := by
 have HC := Lib.hid (scheck_c A cap T w hT h)
 have hk0 : skcode T ≠ 0 := skcode_ne hno
 obtain ⟨k, hk⟩ : ∃ k, k = skcode T := ⟨_, rfl⟩
 rw [← hk] at HC hk0 ⊢
 have dk : (k != 0) = true := by simpa using hk0
 clear hk hk0 h
 go_enter Tryz.func138, Tryz.ntmps138
 go_wp2_with (first | (go_at_call 177; refine (HC.out).mono ?_) | fail)
 rintro e w1 ⟨rfl, hb1⟩
 go_wp2
 go_ret2
 exact ⟨rfl, hb1⟩
def IsWord (xs : List Int) : Prop := ∀ x ∈ xs, 1 ≤ x ∧ x ≤ 99
instance (xs : List Int) : Decidable (IsWord xs) := by unfold IsWord; infer_instance
def wordChk (xs : List Int) : Int := if 40 < xs.length then 2 else if IsWord xs then 0 else 1
theorem wordChk_large {xs : List Int} (h : 40 < xs.length) : wordChk xs = 2 := by simp [wordChk, h]
theorem wordChk_ok {xs : List Int} (h : ¬ 40 < xs.length) (hp : IsWord xs) : wordChk xs = 0 := by simp [wordChk, h, hp]
theorem wordChk_bad {xs : List Int} (h : ¬ 40 < xs.length) (hp : ¬ IsWord xs) : wordChk xs = 1 := by simp [wordChk, h, hp]
theorem wordChk_zero {xs : List Int} (h : wordChk xs = 0) : xs.length ≤ 40 ∧ IsWord xs := by
 unfold wordChk at h
 split at h
 · cases h
 · split at h
   · exact ⟨by omega, by assumption⟩
   · cases h
theorem letters_any (A : Option Addr) (cap : Nat) (xs : List Int) (w : World) (hcl : xs.length ≤ 9223372036854775807) (h : Sl w w.heap.size A (ints xs)) :
 Calls Tryz.prog 130 #[.slice A xs.length cap] w fun e w' => e = .returned (.int .i64 (wordChk xs)) ∧ w = w' := by
 by_cases hn : 40 < xs.length
 · rw [wordChk_large hn]
   go_enter Tryz.func130, Tryz.ntmps130
   go_wp2
   go_ret
   exact ⟨rfl, rfl⟩
 have hn' : xs.length ≤ 40 := by omega
 have HN := Lib.hid hn
 clear hn
 go_enter Tryz.func130, Tryz.ntmps130
 go_wp2
 go_loop [10] (fun i => ∃ k : Nat, k ≤ xs.length ∧ i = .int .i64 k ∧ ∀ x ∈ xs.take k, 1 ≤ x ∧ x ≤ 99) (fun i => xs.length - (intOf i).toNat)
 case atStart => exact ⟨0, by omega, rfl, by simp⟩
 case round =>
  obtain ⟨k, hk, rfl, hrg⟩ := hrel
  have HRG := Lib.hid hrg
  clear hrg
  by_cases hlt : k < xs.length
  · obtain ⟨b, o, rfl, hb, hc0⟩ := h.at_ hlt
    have ht := take_snoc hlt
    obtain ⟨x, hx⟩ : ∃ x, x = xs[k] := ⟨_, rfl⟩
    rw [← hx] at hc0 ht
    have HT := Lib.hid ht
    have HX := Lib.hid hx
    clear ht hx
    have hxm : Hid (x ∈ xs) := by rw [HX.out]; exact List.getElem_mem hlt
    by_cases h1 : x < 1
    · have hfin : Hid (wordChk xs = 1) := wordChk_bad HN.out (fun hp => by have := (hp x hxm.out).1; omega)
      go_wp2
      go_ret
      exact ⟨by rw [hfin.out]; rfl, rfl⟩
    by_cases h2 : 99 < x
    · have hfin : Hid (wordChk xs = 1) := wordChk_bad HN.out (fun hp => by have := (hp x hxm.out).2; omega)
      go_wp2
      go_ret
      exact ⟨by rw [hfin.out]; rfl, rfl⟩
    go_wp2
    go_round
    case rel =>
     refine ⟨k + 1, by omega, by go_num, ?_⟩
     rw [HT.out]
     intro y hy
     rcases List.mem_append.1 hy with hy | hy
     · exact HRG.out y hy
     · simp at hy; omega
    case measure => simp [intOf]; omega
  · have hfin : Hid (wordChk xs = 0) := wordChk_ok HN.out (by have := HRG.out; rwa [List.take_of_length_le (by omega)] at this)
    go_wp2
    go_ret
    exact ⟨by rw [hfin.out]; rfl, rfl⟩
def sumTo (xs : List Int) (k : Nat) : Int := (xs.take k).sum
theorem sumTo_succ {xs : List Int} {k : Nat} (h : k < xs.length) : sumTo xs (k + 1) = sumTo xs k + xs[k] := by
 unfold sumTo
 rw [take_snoc h, List.sum_append]; simp
section
variable {w w' : World} {B B' : Nat} {A : Option Addr} {ts : List (List (List Int))}
end
end
section
open Go.RowKit
theorem own_lowA {w w' : World} {base g n c B : Nat} {e : TypeId} {cs : List Value} (h : w.ownsRow base e 1 (.slice (some ⟨g, 0, none⟩) n c) n cs) (hg : g < B) (hb : Below B w w') : w'.ownsRow base e 1 (.slice (some ⟨g, 0, none⟩) n c) n cs := by
 refine ⟨h.1, ?_⟩
 rcases h.2 with hn | ⟨g', cap, cur, e1, hg', hh, rest⟩
 · exact .inl hn
 · obtain rfl : g = g' := by
    have : g = g' ∧ c = cap := by simpa using e1
    exact this.1
   exact .inr ⟨g, cap, cur, e1, hg', (hb.block g hg).trans hh, rest⟩
theorem foot_set {v u : Value} {hs : List Value} {i N : Nat} (h : ∀ k, u.ownBlock = some k → foot v hs k ∨ N ≤ k) : ∀ k, foot v (hs.set i u) k → foot v hs k ∨ N ≤ k := fun k hk => by
 rcases hk with hk | ⟨r, hr, hk⟩
 · exact .inl (.inl hk)
 · rw [List.length_set] at hr
   by_cases e : i = r
   · subst e
     rw [List.getD_eq_getElem?_getD, List.getElem?_set_self hr] at hk
     exact h k hk
   · rw [List.getD_eq_getElem?_getD, List.getElem?_set_ne e, ← List.getD_eq_getElem?_getD] at hk
     exact .inl (.inr ⟨r, hr, hk⟩)
def PutFr (e : Ending) (w w' : World) (B : Nat) (v : Value) (hs : List Value) (T : List (List Int)) (x : Int) : Prop := ∃ v' hs', e = .returned (.tuple #[v', .int .i64 (irow T x)]) ∧ OwnM w' B v' hs' (ins1 T x) ∧ Fr w w' (foot v hs) ∧ ∀ k, foot v' hs' k → foot v hs k ∨ w.heap.size ≤ k
theorem put_fr {B : Nat} (v : Value) (hs0 : List Value) (T : List (List Int)) (x : Int) (w : World) (hB : B ≤ w.heap.size) (hm : OwnM w B v hs0 T) (ht : Tab T) (hsm : T.length ≤ 1000 ∧ ∀ i, (T.getD i []).length ≤ 1000) (hlt : ∀ r ∈ T, ∀ y ∈ r, Lt y) (hx : Lt x) :
 Calls Tryz.prog 200 #[v, .int .i64 x] w fun e w' => PutFr e w w' B v hs0 T x ∧ Below B w w' := by
 obtain ⟨A, c, rfl, -, -, -⟩ := hm.sr
 have HM0 := Lib.hid hm
 have HT := Lib.hid ht
 have HSM := Lib.hid hsm
 have HLT := Lib.hid hlt
 have hT1 := hsm.1
 have HX := Lib.hid hx
 clear hm ht hsm hlt hx
 go_enter Tryz.func200, Tryz.ntmps200
 go_wp2
 go_loopw [1, 12] (fun xv iv wr => ∃ (i : Nat) (x' : Int) (D : List (List Int)), i ≤ T.length ∧ iv = .int .i64 i ∧ xv = .int .i64 x' ∧ Lt x' ∧ Putting T x i x' D ∧ OwnM wr B (.slice A T.length c) hs0 (D ++ T.drop i) ∧ Below B w wr ∧ Fr w wr (foot (.slice A T.length c) hs0)) (fun _ iv _ => T.length - (intOf iv).toNat)
 case atStart => exact ⟨0, x, [], Nat.zero_le _, rfl, rfl, HX.out, Putting.start T x, by simpa using HM0.out, Below.refl _ _, Fr.refl _ _⟩
 case round =>
  clear HM0
  obtain ⟨i, x', D, hi, rfl, rfl, hlx, hpt, hm, hW, hfr⟩ := hrel
  have hwsz := hfr.size
  have HLX := Lib.hid hlx
  have HPT := Lib.hid hpt
  have HM := Lib.hid hm
  have hsz := Nat.le_trans hB hW.size
  by_cases hit : i < T.length
  · have di : decide (i < T.length) = true := decide_eq_true hit
    obtain ⟨hcl, hcr, hcs⟩ := hpt.cur hit
    have hmo := hm.out
    rw [hcl] at hmo
    obtain ⟨G, c', e1, hG, hGs⟩ := hmo.form (by omega)
    obtain ⟨rfl, rfl⟩ : A = some ⟨G, 0, none⟩ ∧ c = c' := by injection e1 with e2 _ e3; exact ⟨e2, e3⟩
    have hne : T.getD i [] ≠ [] := HT.out.ne _ (by rw [getD_get hit]; exact List.getElem_mem hit)
    have hpos : 0 < (T.getD i []).length := by
     apply Nat.pos_of_ne_zero
     intro e
     exact hne (List.eq_nil_of_length_eq_zero e)
    obtain ⟨gr, cr, hhr, hcc, hor, hg1, hg2⟩ := hm.row (r := i) (by rw [hcl]; exact hit) (by rw [hcr]; exact hpos)
    rw [hcr] at hhr hcc hor
    have hup := HT.out.upD i
    have hrl := HSM.out.2 i
    obtain ⟨r, hr⟩ : ∃ r, r = T.getD i [] := ⟨_, rfl⟩
    rw [← hr] at hhr hcc hor hup hrl hpos
    have HR := Lib.hid hr
    have hwr := lt_wrap hlx
    obtain ⟨k1, k2, k3⟩ := push1_at (x := x') hup
    have hbs := search_any (some ⟨gr, 0, none⟩) cr r (x' + 1) wr (by omega) hup (Sl.of_own hor)
    obtain ⟨k, hk⟩ : ∃ k, k = r.countP (· < x' + 1) := ⟨_, rfl⟩
    rw [← hk] at k1 k2 k3 hbs
    have HBS := Lib.hid hbs
    have K2 := Lib.hid k2
    have K3 := Lib.hid k3
    have HHR := Lib.hid hhr
    have HOR := Lib.hid hor
    have HCS := Lib.hid hcs
    clear hlx hpt hm hmo hne hup hbs k2 k3 hhr hor hcs hk hr e1
    go_wp2_with (first | (go_at_call 202; refine HBS.out.mono ?_) | fail)
    rintro e w4 ⟨⟨z, rfl⟩, q, rfl⟩
    have HM4 := Lib.hid (HM.out.drewN q)
    have HOR4 := Lib.hid (own_drewN HOR.out q)
    have hW4 := below_drewN hW q
    have hfr4 : Fr w (wr.drewN q) (foot (.slice (some ⟨G, 0, none⟩) T.length c) hs0) := hfr.drewN q
    have hws4 : w.heap.size ≤ (wr.drewN q).heap.size := hwsz
    have hcc4 : (wr.drewN q).cell? ⟨G, i, none⟩ = some (.slice (some ⟨gr, 0, none⟩) r.length cr) := hcc
    have hfz := HM4.out.out
    rw [hcl] at hfz
    have hfar := Lib.hid ((HM4.out.top i (by rw [hcl]; exact hit)).symm.ne)
    rw [HHR.out] at hfar
    have hsz4 : B ≤ (wr.drewN q).heap.size := hsz
    have hgr4 : gr < (wr.drewN q).heap.size := hg2
    obtain ⟨w5, hw5⟩ : ∃ w5, w5 = wr.drewN q := ⟨_, rfl⟩
    rw [← hw5] at hfr4 hws4 HM4 HOR4 hW4 hcc4 hfz hsz4 hgr4 ⊢
    have HFZ := Lib.hid hfz
    have HW4 := Lib.hid hW4
    have HFR4 := Lib.hid hfr4
    clear hw5 hfr hwsz hfr4 HBS HM HOR hW hcc hsz hg2 hGs hfz hW4 wr
    by_cases hkl : k = r.length
    · have dk : decide ((k : Int) = (r.length : Int)) = true := decide_eq_true (by omega)
      have hpu := K2.out hkl
      have HPU := Lib.hid hpu
      clear hpu
      go_wp2_with (first | (at_builtin; refine wpList_app1g rfl (.tmp 30) (.tmp 32) rfl rfl x' HOR4.out w5.heap.size rfl rfl (by omega) hsz4 (fun g2 c2 w6 hl6 hg6 hat6 => ?_); have ho6 := (HFZ.out.alloc (.cells #[.int .i64 x'] 3)).kept hg6 hfar.out; have hc6 := ho6.cellAt i (by omega); have hf6 := ho6.frozenAt i; rw [HM4.out.get (by rw [hcl]; exact hit)] at hc6; have HL6 := Lib.hid hl6; have HG6 := Lib.hid hg6; have HAT6 := Lib.hid hat6; clear ho6 hl6 hg6 hat6) | fail)
      go_ret2
      obtain ⟨e1, e2⟩ := HPT.out.stop hit (by rw [← HR.out, HPU.out])
      rw [← HR.out, HPU.out] at e1
      have happ := HM4.out.app (i := i) (by rw [hcl]; exact hit) (l := r ++ [x']) (by simp) HL6.out (by rw [HHR.out]; exact HG6.out) (by rw [HHR.out]; exact HAT6.out)
      rw [← e1] at happ
      have hin := foot_row (v := .slice (some ⟨G, 0, none⟩) T.length c) (hs := hs0) (i := i) (by rw [HM4.out.len, hcl]; exact hit) (k := gr) (by rw [HHR.out]; rfl)
      refine ⟨⟨_, _, by rw [e2]; rfl, happ, ((HFR4.out.alloc _).grown HG6.out (fun b hb => by
       have hb2 : (some gr : Option Nat) = some b := hb
       cases hb2
       exact hin)).setCell (foot_top rfl), foot_set (fun k hk => ?_)⟩, ((HW4.out.alloc hsz4 _).grown HG6.out (by simp; omega) (fun b hb => by
       have hb2 : (some gr : Option Nat) = some b := hb
       cases hb2
       exact hg1)).setCell (p := ⟨G, i, none⟩) hG _⟩
      obtain rfl : g2 = k := by simpa [Value.ownBlock] using hk
      rcases HAT6.out with e | e
      · have hb2 : (some gr : Option Nat) = some g2 := e
        cases hb2
        exact .inl hin
      · exact .inr (by omega)
    · have hkl2 : k < r.length := by omega
      have dk : decide ((k : Int) = (r.length : Int)) = false := decide_eq_false (by omega)
      obtain ⟨z2, hz2⟩ : ∃ z2, r[k]? = some z2 := ⟨_, List.getElem?_eq_getElem hkl2⟩
      have hpu := K3.out z2 hz2
      have hzl : Hid (Lt z2) := HLT.out r (by rw [HR.out, getD_get hit]; exact List.getElem_mem hit) z2 (List.mem_of_getElem? hz2)
      have hck := own_get HOR4.out hz2
      have hfk := HOR4.out.frozenAt k
      have hst := HM4.out.setIn (r := i) (g := gr) (c := cr) (by rw [hcl]; exact hit) (by rw [hcr, ← HR.out]; exact HHR.out) k x'
      rw [hcr, ← HR.out, HCS.out] at hst
      have hnx := HPT.out.on hit (by rw [← HR.out, hpu])
      rw [← HR.out, hpu] at hnx
      have HST := Lib.hid hst
      have HNX := Lib.hid hnx
      clear hpu hst hnx hz2
      go_wp2
      go_roundw
      case rel => exact ⟨i + 1, z2, _, by omega, rfl, rfl, hzl.out, HNX.out, HST.out, HW4.out.setCell (p := ⟨gr, k, none⟩) hg1 _, HFR4.out.setCell (foot_row (i := i) (by rw [HM4.out.len, hcl]; exact hit) (by rw [HHR.out]; rfl))⟩
      case measure => simp [intOf]; omega
  · have di : decide (i < T.length) = false := decide_eq_false hit
    obtain ⟨e1, e2, e3⟩ := hpt.end_ (by omega)
    have hDl : D.length = T.length := by rw [hpt.len]; omega
    rw [e3] at hm
    have hm2 := hm.alloc (.cells #[.int .i64 x'] 3)
    have hmo := hm2.out
    rw [hDl] at hmo
    have hlit := World.ownsRow_lit (e := 3) (size := 1) (base := B) wr #[.int .i64 x'] 1 hsz (by decide) rfl
    have hfar := hm.far_new (u := .slice (some ⟨wr.heap.size, 0, none⟩) 1 1) (fun k hk => by
     obtain rfl : wr.heap.size = k := by simpa [Value.ownBlock] using hk
     exact Nat.le_refl _)
    have HM2 := Lib.hid hm2
    have HMO := Lib.hid hmo
    have HLIT := Lib.hid hlit
    have HFAR := Lib.hid hfar
    have E1 := Lib.hid e1
    have E2 := Lib.hid e2
    clear hm hm2 hmo hlit hfar hpt e1 e2 e3 HM
    go_wp2_with (first | (at_builtin; refine wpList_push (v := .slice A T.length c) rfl (.tmp 46) (.tmp 49) rfl rfl (.slice (some ⟨wr.heap.size, 0, none⟩) 1 1) rfl HMO.out (wr.heap.size + 1) (by simp) rfl (by omega) (by simp; omega) (fun g2 c2 w5 hl5 hg5 hat5 => ?_)) | fail)
    have hpush := (HM2.out.alloc (.cells #[.slice (some ⟨wr.heap.size, 0, none⟩) 1 1] 65)).push (u := .slice (some ⟨wr.heap.size, 0, none⟩) 1 1) (l := [x']) (HLIT.out.alloc _) HFAR.out.1 HFAR.out.2 (by rw [hDl]) hl5 hg5 (by simpa using hat5)
    have hW5 : Below B w w5 := ((hW.alloc hsz _).alloc (by simp; omega) _).grown hg5 (by simp; omega) (fun k hk => (HMO.out.lt k hk).1)
    rw [← E1.out] at hpush
    have HPU := Lib.hid hpush
    have HG5 := Lib.hid hg5
    have HAT5 := Lib.hid hat5
    clear hpush hl5 hg5 hat5
    go_wp2
    go_ret2
    have hit2 : i = T.length := by omega
    refine ⟨⟨_, _, by rw [E2.out, hit2]; rfl, HPU.out, ((hfr.alloc _).alloc _).grown HG5.out (fun b hb => .inl hb), fun k hk => ?_⟩, hW5⟩
    rcases hk with hk | ⟨r, hr, hk⟩
    · obtain rfl : g2 = k := by simpa [Value.ownBlock] using hk
      rcases HAT5.out with e | e
      · exact .inl (.inl e)
      · simp at e; exact .inr (by omega)
    · rw [List.length_append] at hr
      by_cases c2 : r < hs0.length
      · rw [List.getD_eq_getElem?_getD, List.getElem?_append_left c2, ← List.getD_eq_getElem?_getD] at hk
        exact .inl (.inr ⟨r, c2, hk⟩)
      · obtain rfl : r = hs0.length := by simp at hr; omega
        rw [List.getD_eq_getElem?_getD, List.getElem?_append_right (Nat.le_refl _)] at hk
        simp [Value.ownBlock] at hk
        exact .inr (by omega)
end
section
theorem sh_qadd (Q : List (List Int)) (r : Nat) (c : Int) : sh (qadd Q r c) = shadd (sh Q) r := by
 unfold qadd shadd
 rw [sh_length]
 by_cases h : r = Q.length
 · rw [if_pos h, if_pos h]; simp [sh]
 · rw [if_neg h, if_neg h, sh_getD]
   unfold sh
   rw [List.map_set]; simp
theorem insW_take {xs : List Int} {i : Nat} (h : i < xs.length) : insW [] (xs.take (i + 1)) = ins1 (insW [] (xs.take i)) (xs.getD i 0) := by
 rw [take_snoc h, insW_append, getD_get h]; rfl
theorem sh_rec {xs cs : List Int} : ∀ i, i ≤ xs.length → sh (recQ xs cs i) = sh (insW [] (xs.take i))
 | 0, _ => rfl
 | i + 1, h => by
  have ih := sh_rec (xs := xs) (cs := cs) i (by omega)
  simp only [recQ]
  rw [sh_qadd, ih, insW_take (by omega), (sh_ins1 _ _).2]
theorem rec_length {xs cs : List Int} {i : Nat} (h : i ≤ xs.length) : (recQ xs cs i).length = (insW [] (xs.take i)).length := by
 rw [← sh_length, sh_rec i h, sh_length]
theorem rec_row {xs cs : List Int} {i r : Nat} (h : i ≤ xs.length) : ((recQ xs cs i).getD r []).length = ((insW [] (xs.take i)).getD r []).length := by
 rw [← sh_getD, sh_rec i h, sh_getD]
theorem take_ok {xs : List Int} (hl : xs.length ≤ 40) (h : ∀ x ∈ xs, Lt x) (i : Nat) : FillOk (insW [] (xs.take i)) :=
 (fill_word (by rw [List.length_take]; omega) (fun x hx => h x (List.mem_of_mem_take hx))).1
end
end Go.Proofs.YtpmkdihencepnaaGreatDoor
