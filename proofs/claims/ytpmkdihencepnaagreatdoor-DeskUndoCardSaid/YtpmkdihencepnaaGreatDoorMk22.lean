/- Part of the proof. -/
import Derived.Shelf.SlicesG.Cmp
import Derived.Shelf.Lay
import Derived.Ground.SlgcProg
import Derived.Shelf.SlSortCmp.NoneTotal
import Derived.Ground.SlsfProg
import Derived.Sort.OwnSortedInts
import Derived.Maps.OwnOps
import Derived.Maps.Views
import Derived.Test.YtpmkdihencepnaaGreatDoorMk01
import Derived.Test.YtpmkdihencepnaaGreatDoorMk02
import Derived.Test.YtpmkdihencepnaaGreatDoorMk03
import Derived.Test.YtpmkdihencepnaaGreatDoorMk07
import Derived.Test.YtpmkdihencepnaaGreatDoorMk17
import Derived.Test.YtpmkdihencepnaaGreatDoorMk18
import Derived.Test.YtpmkdihencepnaaGreatDoorMk20
import Derived.Test.YtpmkdihencepnaaGreatDoorMk21
set_option maxHeartbeats 16000000
set_option maxRecDepth 100000
namespace Go.Proofs.YtpmkdihencepnaaGreatDoor
section
def StHi (a b c : Int) : Prop := (b < a ∧ a ≤ c) ∨ (c < a ∧ a ≤ b)
def StLo (a b c : Int) : Prop := (a ≤ c ∧ c < b) ∨ (b ≤ c ∧ c < a)
instance (a b c : Int) : Decidable (StHi a b c) := by unfold StHi; infer_instance
instance (a b c : Int) : Decidable (StLo a b c) := by unfold StLo; infer_instance
end
end Go.Proofs.YtpmkdihencepnaaGreatDoor
namespace Go.Proofs
open Go.Shelf
shelf_lay_g SlLaysC2.n5 Slgc 5 at Tryz 169 as Tryz.cmpL
end Go.Proofs
namespace Go.Proofs.YtpmkdihencepnaaGreatDoor
open Go.RowKit Go.Proofs
open Go.Shelf
end Go.Proofs.YtpmkdihencepnaaGreatDoor
namespace Go.Proofs
open Go.Shelf
shelf_lay_g SlLaysF.n6 Slsf 6 at Tryz 167 as Tryz.sortL
end Go.Proofs
namespace Go.Proofs.YtpmkdihencepnaaGreatDoor
open Go.RowKit Go.Proofs
open Go.Shelf Go.Lib Go.Sort
def cfD (x y : Int) : Int := Lib.compareInt y x
theorem ltD (x y : Int) : ltOf cfD x y = decide (y < x) := by
 unfold ltOf cfD Lib.compareInt
 by_cases h1 : y < x
 · simp [h1]
 · by_cases h2 : x < y <;> simp [h1, h2]
theorem swoD : SWO (ltOf cfD) where
 irrefl x := by rw [ltD]; simp
 trans x y z h1 h2 := by rw [ltD] at *; simp at *; omega
 ntrans x y z h1 h2 := by rw [ltD] at *; simp at *; omega
theorem totD (x y : Int) (h1 : ltOf cfD x y = false) (h2 : ltOf cfD y x = false) : x = y := by rw [ltD] at *; simp at *; omega
theorem geD : (fun x y : Int => !ltOf cfD y x) = fun x y => decide (y ≤ x) := by
 funext x y
 rw [ltD]
 by_cases h : y ≤ x
 · have h' : ¬ x < y := by omega
   simp [h, h']
 · have h' : x < y := by omega
   simp [h, h']
theorem fcmp_any (x y : Int) (W : World) : Calls Tryz.prog 168 #[.int .i64 x, .int .i64 y] W fun e w' => e = .returned (.int .i64 (cfD x y)) ∧ ∃ q, w' = W.drewN q := by
 have hcon := AnyG.cmp_Compare_int Tryz.cmpL y x W
 change Calls Tryz.prog 169 _ _ _ at hcon
 unfold cfD
 generalize Lib.compareInt y x = r at hcon ⊢
 go_enter Tryz.func168, Tryz.ntmps168
 go_wp2_with (first | (go_at_call 169; refine hcon.mono ?_; rintro e w' ⟨rfl, rfl⟩) | fail)
 go_ret
 exact ⟨rfl, 0, rfl⟩
theorem fcmp_reads (blk off size : Nat) (w : World) : CmpReads Tryz.prog 168 #[] (Value.int .i64) cfD blk off size w := fun _ _ _ _ x y => fcmp_any x y _
theorem fallen_any {base n : Nat} {v : Value} {zs : List Int} (w : World) (h : w.ownsRow base 3 1 v n (ints zs)) (hn : n < 1000000) :
 Calls Tryz.prog 126 #[v] w fun e w' => e = .returned v ∧ w'.ownsRow base 3 1 v n (ints (sortD zs)) ∧ w.grownBy w' v.ownBlock := by
 rcases h.2 with ⟨e1, e2⟩ | ⟨g, cap, cur, e1, hg, hh, hc1, hc2, hc3, hc4⟩
 · subst e1 e2
   have hz : zs = [] := List.eq_nil_of_length_eq_zero (by have := h.1; rw [ints_length] at this; omega)
   subst hz
   have hS := fun W => AnyF.slices_SortFunc_none (P := Tryz.prog) (ρ := Tryz.sortL_ren) { Tryz.sortL with } none 0 (.func (.func 168) #[] #[]) W
   change ∀ W, Calls Tryz.prog 167 _ _ _ at hS
   go_enter Tryz.func126, Tryz.ntmps126
   go_wp2_with (first | (go_at_call 167; refine (hS _).mono ?_; rintro e w' ⟨rfl, rfl⟩) | fail)
   go_ret
   exact ⟨rfl, by simpa [sortD] using h, World.grownBy.refl _ _⟩
 · subst e1
   have hl : zs.length = n := by have := h.1; rw [ints_length] at this; omega
   subst hl
   have hlt : g < w.heap.size := (Array.getElem?_eq_some_iff.1 hh).1
   have eg : ∀ args w, (callFunc 168 args).run Tryz.prog w = .ok (.enter 168 args) w := enters_of Tryz.func168 (by kernel_rfl) rfl
   have hS := Any.slices_SortFunc_total Tryz.sortL (Value.int .i64) (fun _ => rfl) cfD swoD 168 #[] g 0 cap zs.toArray w eg (fcmp_reads g 0 zs.toArray.size w).lays (holds_of_blockI hh (by simpa [ints] using hc4)) hlt (by simp; omega) totD
   rw [geD] at hS
   change Calls Tryz.prog 167 _ _ _ at hS
   have hsz : zs.toArray.size = zs.length := by simp
   have htl : zs.toArray.toList = zs := by simp
   rw [hsz, htl] at hS
   have HS := Lib.hid hS
   have HO : Hid (∀ q os, (grow (putRow (Value.int .i64) (Sort.ahead w q) g 0 (sortD zs).toArray) os).ownsRow base 3 1 (.slice (some ⟨g, 0, none⟩) zs.length cap) zs.length (ints (sortD zs))) := fun q os => ownsRow_sortedI (by unfold sortD; simp) hg hh hc1 hc2 hc3
   clear hS hsz htl hh hc3 hc4
   go_enter Tryz.func126, Tryz.ntmps126
   go_wp2_with (first | (go_at_call 167; refine HS.out.mono ?_; rintro e w' ⟨rfl, q, os, rfl⟩) | fail)
   go_ret
   exact ⟨rfl, HO.out q os, grownBy_sortedI _⟩
end Go.Proofs.YtpmkdihencepnaaGreatDoor
namespace Go.Proofs.YtpmkdihencepnaaGreatDoor
section
open Go.RowKit
def EulOut (e : Ending) (w : World) (B : Nat) (ok : Prop) (ys p : List Int) : Prop := ∃ (k : Int) (xs : List Int) (A' : Option Addr) (c' : Nat), e = .returned (.tuple #[.slice A' xs.length c', .int .i64 k]) ∧ w.ownsRow B 3 1 (.slice A' xs.length c') xs.length (ints xs) ∧ xs.length ≤ 100000 ∧ (k = 0 → ok ∧ xs = ys) ∧ (ok → k = 0) ∧ (k ≠ 0 → xs = []) ∧ (k ≠ 0 → k = if partChk p = 0 then 3 else partChk p)
theorem eul_bad {w : World} {B : Nat} {ok : Prop} {ys p : List Int} {k : Int} (hk : k ≠ 0) (hn : ¬ ok) (hc : k = if partChk p = 0 then 3 else partChk p) : EulOut (.returned (.tuple #[.slice none 0 0, .int .i64 k])) w B ok ys p :=
 ⟨k, [], none, 0, rfl, World.ownsRow_nil _ _ _ _, by simp, fun e => absurd e hk, fun h => absurd h hn, fun _ => rfl, fun _ => hc⟩
theorem eul_own {w : World} {B n : Nat} {v : Value} {xs ys p : List Int} {ok : Prop} (h : w.ownsRow B 3 1 v n (ints xs)) (hn : n < 100000) (hok : ok) (e : xs = ys) : EulOut (.returned (.tuple #[v, .int .i64 0])) w B ok ys p := by
 obtain ⟨A, c, rfl, h1, h2⟩ := own_sliceT h
 exact ⟨0, xs, A, c, rfl, h2, by omega, fun _ => ⟨hok, e⟩, fun _ => rfl, fun h => absurd rfl h, fun h => absurd rfl h⟩
theorem split_take {p : List Int} {i : Nat} (h : i < p.length) : (p.take (i + 1)).flatMap split1 = (p.take i).flatMap split1 ++ split1 (p.getD i 0) := by
 rw [List.take_add_one, List.getElem?_eq_getElem h, List.flatMap_append, getD_get h]; simp
theorem split_len {p : List Int} (hb : ∀ x ∈ p, 1 ≤ x ∧ x ≤ 40) (hs : p.sum ≤ 40) (i : Nat) : ((p.take i).flatMap split1).length ≤ 40 := by
 have h1 := len_le_sum ((p.take i).flatMap split1) (fun y hy => by
  obtain ⟨x, hx, h2⟩ := List.mem_flatMap.1 hy
  have := hb x (List.mem_of_mem_take hx)
  exact (split1_mem this.1 this.2 h2).1)
 rw [bind_sum split1 _ (fun x hx => by have := hb x (List.mem_of_mem_take hx); exact split1_sum this.1 this.2)] at h1
 have h2 := len_le_sum (p.drop i) (fun y hy => (hb y (List.mem_of_mem_drop hy)).1)
 have h3 : p.sum = (p.take i).sum + (p.drop i).sum := by rw [← List.sum_append, List.take_append_drop]
 omega
theorem rep_snoc {l : List Int} {c : Nat} {n : Int} : l ++ List.replicate c n ++ [n] = l ++ List.replicate (c + 1) n := by
 rw [List.replicate_succ', List.append_assoc]
theorem split_any (A : Option Addr) (cap : Nat) (p : List Int) (w : World) (hcl : p.length ≤ 9223372036854775807) (h : Sl w w.heap.size A (ints p)) :
 Calls Tryz.prog 79 #[.slice A p.length cap] w fun e w' => EulOut e w' w.heap.size (IsPart p ∧ p.sum ≤ 40 ∧ IsUnlike p) (sortD (p.flatMap split1)) p ∧ Below w.heap.size w w' := by
 have hB := Nat.le_refl w.heap.size
 have H := Lib.hid h
 go_enter Tryz.func79, Tryz.ntmps79
 go_wp2_with (first | (go_at_call 124; refine (pcheck_any A cap p _ (by omega) h).mono ?_) | fail)
 rintro e w1 ⟨rfl, rfl⟩
 have hpc := partChk_zero (p := p)
 obtain ⟨k, hk⟩ : ∃ k, k = partChk p := ⟨_, rfl⟩
 rw [← hk] at hpc ⊢
 have HPC := Lib.hid hpc
 have HKE := Lib.hid hk
 clear hpc hk
 by_cases hk0 : k = 0
 · obtain ⟨hp, hs⟩ := HPC.out.1 hk0
   have HP := Lib.hid hp
   have HS := Lib.hid hs
   have hpl := hp.len hs
   subst hk0
   clear hp hs HPC
   go_wp2_with (first | (go_at_call 127; refine (unlike_any A cap p _ (by omega) h).mono ?_) | fail)
   rintro e w2 ⟨rfl, hb2⟩
   have HU2 := Lib.hid hb2
   clear hb2
   by_cases hu : IsUnlike p
   · have du : decide (IsUnlike p) = true := decide_eq_true hu
     have HU := Lib.hid hu
     rw [du]
     clear hu du
     go_wp2
     go_loopw [5, 19] (fun ov iv wr => ∃ (i : Nat), i ≤ p.length ∧ iv = .int .i64 i ∧ wr.ownsRow w.heap.size 3 1 ov ((p.take i).flatMap split1).length (ints ((p.take i).flatMap split1)) ∧ Below w.heap.size w wr) (fun _ iv _ => p.length - (intOf iv).toNat)
     case atStart => exact ⟨0, Nat.zero_le _, rfl, World.ownsRow_nil _ _ _ _, HU2.out⟩
     case round =>
      clear HU2
      obtain ⟨i, hi, rfl, ho, hW⟩ := hrel
      have hB1 := hW.size
      have HO := Lib.hid ho
      have HW := Lib.hid hW
      clear ho
      by_cases hip : i < p.length
      · have di : decide (i < p.length) = true := decide_eq_true hip
        have h2 := h.below hW
        obtain ⟨b, o, rfl, hb⟩ := h.addr (by omega)
        have hcx := getD_cell h2 hip
        have hxb := part_le HP.out HS.out (x := p.getD i 0) (by rw [getD_get hip]; exact List.getElem_mem hip)
        have hst := split_take hip
        have hln := split_len (fun x hx => part_le HP.out HS.out hx) HS.out (i + 1)
        obtain ⟨x, hx⟩ : ∃ x, x = p.getD i 0 := ⟨_, rfl⟩
        rw [← hx] at hcx hxb hst
        obtain ⟨X, rfl⟩ : ∃ X : Nat, x = X := ⟨x.toNat, by omega⟩
        obtain ⟨L, hL⟩ : ∃ L, L = (p.take i).flatMap split1 := ⟨_, rfl⟩
        rw [hst, ← hL] at hln
        rw [← hL] at hst HO
        have HST := Lib.hid hst
        have HLN := Lib.hid hln
        have hL40 : L.length ≤ 40 := by rw [List.length_append] at hln; omega
        have hX1 : 1 ≤ X := by omega
        have hX40 : X ≤ 40 := by omega
        clear hx hst hln hL hxb h2 hW
        go_wp2
        go_loop [7, 8] (fun nv kv => ∃ (n j : Nat), nv = .int .i64 n ∧ kv = .int .i64 ((2 ^ j : Nat) : Int) ∧ n * 2 ^ j = X ∧ 1 ≤ n) (fun nv _ => (intOf nv).toNat)
        case atStart => exact ⟨X, 0, rfl, rfl, by simp, hX1⟩
        case round =>
         obtain ⟨n, j, rfl, rfl, hnj, hn1⟩ := hrel
         have h2j : 2 ^ j ≤ n * 2 ^ j := Nat.le_mul_of_pos_left _ (by omega)
         have hn40 : n ≤ n * 2 ^ j := Nat.le_mul_of_pos_right _ (Nat.two_pow_pos _)
         have hj6 : j < 6 := by
          apply Classical.byContradiction
          intro hn
          have : 2 ^ 6 ≤ 2 ^ j := Nat.pow_le_pow_right (by omega) (by omega)
          omega
         rw [hnj] at h2j hn40
         have hpj : 0 < 2 ^ j := Nat.two_pow_pos _
         obtain ⟨K, hK⟩ : ∃ K, K = 2 ^ j := ⟨_, rfl⟩
         have HK := Lib.hid hK
         have HNJ := Lib.hid hnj
         rw [← hK] at h2j hpj ⊢
         clear hK hnj
         by_cases hn2 : n % 2 = 0
         · obtain ⟨m, hm⟩ : ∃ m, m = n / 2 := ⟨_, rfl⟩
           have d1 : ((n : Int).tmod 2) = 0 := by rw [Int.tmod_eq_emod_of_nonneg (by omega)]; omega
           have d2 : ((n : Int).tdiv 2) = (m : Int) := by rw [Int.tdiv_eq_ediv_of_nonneg (by omega)]; omega
           have d3 : Hid (n = 2 * m) := by show _ = _; omega
           have hm40 : m ≤ 40 := by omega
           have hm1 : 1 ≤ m := by omega
           clear hm hn2
           go_wp2
           go_round
           case rel => exact ⟨m, j + 1, rfl, by rw [Nat.pow_succ, ← HK.out]; congr 1; omega, by rw [Nat.pow_succ, ← HNJ.out, d3.out]; rw [Nat.mul_comm (2 ^ j) 2, ← Nat.mul_assoc, Nat.mul_comm m 2], hm1⟩
           case measure => simp [intOf]; have := d3.out; omega
         · have d1 : ((n : Int).tmod 2) = 1 := by rw [Int.tmod_eq_emod_of_nonneg (by omega)]; omega
           have hXe : Hid (split1 ((X : Nat) : Int) = List.replicate K (n : Int)) := by
            show _ = _
            have hu1 := uni_all n (by omega) j hj6 (by omega) (by rw [HNJ.out]; omega)
            rw [HNJ.out] at hu1
            unfold split1
            rw [Int.toNat_natCast, hu1.1, hu1.2, HK.out]
           have hK40 : L.length + K ≤ 40 := by
            have := HLN.out
            rw [hXe.out, List.length_append, List.length_replicate] at this
            exact this
           clear hn2 HNJ HK
           go_wp2
           go_loopw [5, 31] (fun ov cv wz => ∃ (c : Nat), c ≤ K ∧ cv = .int .i64 c ∧ wz.ownsRow w.heap.size 3 1 ov (L ++ List.replicate c (n : Int)).length (ints (L ++ List.replicate c (n : Int))) ∧ Below w.heap.size w wz) (fun _ cv _ => K - (intOf cv).toNat)
           case atStart => exact ⟨0, Nat.zero_le _, rfl, by simpa using HO.out, HW.out⟩
           case round =>
            obtain ⟨w9, rfl⟩ : ∃ w9, w9 = wr := ⟨_, rfl⟩
            clear HO HW
            obtain ⟨c, hcK, rfl, ho, hW⟩ := hrel
            have hB2 := hW.size
            have HO := Lib.hid ho
            have HW := Lib.hid hW
            have hlc : (L ++ List.replicate c (n : Int)).length ≤ 80 := by rw [List.length_append, List.length_replicate]; omega
            obtain ⟨M, hM⟩ : ∃ M, M = L ++ List.replicate c (n : Int) := ⟨_, rfl⟩
            rw [← hM] at HO hlc
            have HMM := Lib.hid hM
            clear ho hW hM
            by_cases hck : c < K
            · have dc : decide (c < K) = true := decide_eq_true hck
              have hnx : Hid (M ++ [(n : Int)] = L ++ List.replicate (c + 1) (n : Int)) := by show _ = _; rw [HMM.out, rep_snoc]
              go_wp2_with (first | (at_builtin; refine wpList_app1 rfl (.tmp 33) (.tmp 35) rfl rfl (n : Int) HO.out rfl (by omega) hB2 (fun g2 c2 w6 hl6 hb6 => ?_)) | fail)
              go_roundw
              case rel => exact ⟨c + 1, by omega, by go_num, by rw [← hnx.out, List.length_append]; exact hl6, HW.out.trans hb6⟩
              case measure => simp [intOf]; omega
            · have dc : decide (c < K) = false := decide_eq_false hck
              have hfin : Hid (M = (p.take (i + 1)).flatMap split1) := by show _ = _; rw [HMM.out, HST.out, hXe.out, show c = K by omega]
              go_wp2
              go_roundw
              case rel => exact ⟨i + 1, by omega, by go_num, by rw [← hfin.out]; exact HO.out, HW.out⟩
              case measure => simp [intOf]; omega
      · have di : decide (i < p.length) = false := decide_eq_false hip
        have hall : p.take i = p := List.take_of_length_le (by omega)
        have hln := split_len (fun x hx => part_le HP.out HS.out hx) HS.out p.length
        rw [List.take_length] at hln
        rw [hall] at HO
        obtain ⟨L, hL⟩ : ∃ L, L = p.flatMap split1 := ⟨_, rfl⟩
        rw [← hL] at HO hln
        have HL := Lib.hid hL
        clear hall hL
        go_wp2_with (first | (go_at_call 126; refine (fallen_any _ HO.out (by omega)).mono ?_) | fail)
        rintro e w7 ⟨rfl, ho7, hg7⟩
        have hW7 := HW.out.grown hg7 hB1 (fun k hk => (HO.out.lt k hk).1)
        have HFN := Lib.hid (eul_own (ok := IsPart p ∧ p.sum ≤ 40 ∧ IsUnlike p) (ys := sortD (p.flatMap split1)) (p := p) ho7 (by omega) ⟨HP.out, HS.out, HU.out⟩ (by rw [HL.out]))
        clear ho7 hg7
        go_wp2
        go_ret2
        exact ⟨HFN.out, hW7⟩
   · have du : decide (IsUnlike p) = false := decide_eq_false hu
     have HU := Lib.hid hu
     rw [du]
     clear hu du
     go_wp2
     go_ret2
     exact ⟨eul_bad (by decide) (fun hh => HU.out hh.2.2) (by rw [if_pos HKE.out.symm]), HU2.out⟩
 · have dk : (k != 0) = true := by simpa using hk0
   have HK0 := Lib.hid hk0
   go_wp2
   go_ret2
   exact ⟨eul_bad HK0.out (fun hh => HK0.out (HPC.out.2 ⟨hh.1, hh.2.1⟩)) (by rw [if_neg (by rw [← HKE.out]; exact HK0.out)]; exact HKE.out), Below.refl _ _⟩
end
section
open Go.RowKit Go.Maps
theorem law_int : Keyed Tryz.prog 3 := int_keyed Tryz.underlying3
theorem zero_int (w : World) : (zeroValue 3).run Tryz.prog w = .ok (.int .i64 0) w := by kernel_rfl
abbrev IMap := DataW Unit
structure TimesOf (D : IMap) (l : List Int) : Prop where
 m : IsMap D
 at_ : ∀ n : Int, D.atKey (.int .i64 n) (.lit (.int .i64 0)) = .lit (.int .i64 (l.count n))
theorem TimesOf.nil : TimesOf (.map []) [] := ⟨isMap_empty, fun _ => rfl⟩
theorem TimesOf.add {D : IMap} {l : List Int} (h : TimesOf D l) (x : Int) : TimesOf (D.put (.int .i64 x) (.lit (.int .i64 ((l.count x : Int) + 1)))) (l ++ [x]) := by
 refine ⟨h.m.put _ _, fun n => ?_⟩
 by_cases e : n = x
 · subst e
   rw [atKey_put_same h.m (show WideAt.IsKeyLit (.int .i64 n) from trivial), List.count_append]; simp
 · rw [atKey_put_other (by intro e2; injection e2 with _ e3; exact e e3), h.at_, List.count_append]
   have : ([x] : List Int).count n = 0 := by
    rw [List.count_eq_zero]; simpa using e
   rw [this]; rfl
theorem TimesOf.look {D : IMap} {l : List Int} (h : TimesOf D l) {n c : Int} (hc : D.atKey (.int .i64 n) (.lit (.int .i64 0)) = .lit (.int .i64 c)) : c = (l.count n : Int) := by
 rw [h.at_] at hc
 injection hc with e
 injection e with _ e2
 exact e2.symm
theorem merge_take (p : List Int) {i : Nat} (h : i < 20) : (odds.take (i + 1)).flatMap (merge1 p) = (odds.take i).flatMap (merge1 p) ++ merge1 p (2 * i + 1) := by
 have hl : odds.length = 20 := by decide
 rw [List.take_add_one, List.getElem?_eq_getElem (by omega), List.flatMap_append]
 have e : odds[i]'(by omega) = 2 * i + 1 := by unfold odds; simp
 rw [e]; simp
def low (t j : Nat) : List Nat := (List.range j).filter (fun i => t.testBit i)
theorem low_next (t j : Nat) : low t (j + 1) = low t j ++ (if t.testBit j then [j] else []) := by
 unfold low
 rw [List.range_succ, List.filter_append]
 congr 1
 rw [List.filter_cons]; rfl
theorem low_allB : ∀ t, t < 41 → ∀ j, j < 7 → t < 2 ^ j → low t j = bts t := by decide
theorem and_bits : ∀ t : Nat, t < 41 → ∀ j : Nat, j < 6 → bits BinOp.and IntKind.i64 (t : Int) ((2 ^ j : Nat) : Int) = if t.testBit j then ((2 ^ j : Nat) : Int) else 0 := by decide
theorem map_below {w w' : World} {B b n : Nat} {D : IMap} (h : w.ownsMap Tryz.prog 3 (plainElem Tryz.prog 3) b n D) (hb : Below B w w') (hlt : b < B) : w'.ownsMap Tryz.prog 3 (plainElem Tryz.prog 3) b n D := by
 obtain ⟨es, clock, h1, h2, h3, h4⟩ := h
 exact ⟨es, clock, (hb.block b hlt).trans h1, h2, h3, h4⟩
theorem merge_len (p : List Int) : ∀ l : List Nat, (l.flatMap (merge1 p)).length ≤ 6 * l.length
 | [] => by simp
 | n :: l => by
  have h1 := merge_len p l
  have h2 : (merge1 p n).length ≤ 6 := by
   unfold merge1 bts
   rw [List.length_map]
   exact Nat.le_trans (List.length_filter_le _ _) (by simp)
  rw [List.flatMap_cons, List.length_append, List.length_cons]
  omega
theorem merge_any (A : Option Addr) (cap : Nat) (p : List Int) (w : World) (hcl : p.length ≤ 9223372036854775807) (h : Sl w w.heap.size A (ints p)) :
 Calls Tryz.prog 78 #[.slice A p.length cap] w fun e w' => EulOut e w' w.heap.size (IsPart p ∧ p.sum ≤ 40 ∧ ∀ x ∈ p, x % 2 = 1) (sortD (mergeL p)) p ∧ Below w.heap.size w w' := by
 have hB := Nat.le_refl w.heap.size
 have H := Lib.hid h
 have hmm := @run_makeMap Tryz.prog
 go_enter Tryz.func78, Tryz.ntmps78
 go_wp2_with (first | (go_at_call 124; refine (pcheck_any A cap p _ (by omega) h).mono ?_) | fail)
 rintro e w1 ⟨rfl, rfl⟩
 have hpc := partChk_zero (p := p)
 obtain ⟨k, hk⟩ : ∃ k, k = partChk p := ⟨_, rfl⟩
 rw [← hk] at hpc ⊢
 have HPC := Lib.hid hpc
 have HKE := Lib.hid hk
 clear hpc hk
 by_cases hk0 : k = 0
 · obtain ⟨hp, hs⟩ := HPC.out.1 hk0
   have HP := Lib.hid hp
   have HS := Lib.hid hs
   have hpl := hp.len hs
   have HLE := Lib.hid (fun x (hx : x ∈ p) => part_le hp hs hx)
   have HCN := Lib.hid (fun n (hn : 1 ≤ n) => count_le hp hs (n := n) hn)
   subst hk0
   clear hp hs HPC
   go_wp2
   go_loopw [19] (fun iv wr => ∃ (i : Nat) (D : IMap), i ≤ p.length ∧ iv = .int .i64 i ∧ TimesOf D (p.take i) ∧ (∀ x ∈ p.take i, x % 2 = 1) ∧ wr.ownsMap Tryz.prog 3 (plainElem Tryz.prog 3) w.heap.size i D ∧ Below w.heap.size w wr) (fun iv _ => p.length - (intOf iv).toNat)
   case atStart => exact ⟨0, .map [], Nat.zero_le _, rfl, TimesOf.nil, by simp, World.ownsMap_made _ _ _ _, (Below.refl _ _).alloc (Nat.le_refl _) _⟩
   case round =>
    obtain ⟨i, D, hi, rfl, htm, hod, hown, hW⟩ := hrel
    have hB1 := hW.size
    have HTM := Lib.hid htm
    have HOD := Lib.hid hod
    have HOWN := Lib.hid hown
    have HW := Lib.hid hW
    have hmb := hown.lt
    clear htm hod hown
    by_cases hip : i < p.length
    · have di : decide (i < p.length) = true := decide_eq_true hip
      have h2 := h.below hW
      obtain ⟨b, o, rfl, hb⟩ := h.addr (by omega)
      have hcx := getD_cell h2 hip
      have hxb := HLE.out (p.getD i 0) (by rw [getD_get hip]; exact List.getElem_mem hip)
      have hgx : p[i]? = some (p.getD i 0) := by rw [getD_get hip]; exact List.getElem?_eq_getElem hip
      obtain ⟨x, hx⟩ : ∃ x, x = p.getD i 0 := ⟨_, rfl⟩
      rw [← hx] at hcx hxb hgx
      have htk : p.take (i + 1) = p.take i ++ [x] := by rw [List.take_add_one, hgx]; rfl
      obtain ⟨X, rfl⟩ : ∃ X : Nat, x = X := ⟨x.toNat, by omega⟩
      have HTK := Lib.hid htk
      have HGX := Lib.hid hgx
      have hX1 : 1 ≤ X := by omega
      have hX40 : X ≤ 40 := by omega
      clear hx htk hgx h2 hW hxb
      by_cases hx2 : X % 2 = 0
      · have d1 : ((X : Int).tmod 2) = 0 := by rw [Int.tmod_eq_emod_of_nonneg (by omega)]; omega
        have hno : Hid (¬ (IsPart p ∧ p.sum ≤ 40 ∧ ∀ x ∈ p, x % 2 = 1)) := fun hh => by
         have := hh.2.2 (X : Int) (List.mem_of_getElem? HGX.out)
         omega
        clear hx2
        go_wp2
        go_ret2
        exact ⟨eul_bad (by decide) hno.out (by rw [if_pos HKE.out.symm]), HW.out⟩
      · have d1 : ((X : Int).tmod 2) = 1 := by rw [Int.tmod_eq_emod_of_nonneg (by omega)]; omega
        have hkey : keyOf Tryz.prog 3 (.int .i64 (X : Int)) = some (.int .i64 (X : Int)) := keyOf_int_mk Tryz.underlying3 (WalkArith.wf_i64 (by omega))
        have HKEY := Lib.hid hkey
        have hc40 : (p.take i).count (X : Int) ≤ 40 := Nat.le_trans List.count_le_length (by rw [List.length_take]; omega)
        have HLOOK := Lib.hid (fun c hc => HTM.out.look (n := (X : Int)) (c := c) hc)
        have HADD := Lib.hid (HTM.out.add (X : Int))
        obtain ⟨C, hC⟩ : ∃ C, C = (p.take i).count (X : Int) := ⟨_, rfl⟩
        rw [← hC] at hc40 HLOOK HADD
        rw [← HTK.out] at HADD
        have hodd : Hid (∀ x ∈ p.take (i + 1), x % 2 = 1) := fun y hy => by
         rw [HTK.out] at hy
         rcases List.mem_append.1 hy with g | g
         · exact HOD.out y g
         · have : y = (X : Int) := by simpa using g
           rw [this]; omega
        have hwf : (Lit.int .i64 ((C : Int) + 1)).wf = true := WalkArith.wf_i64 (by omega)
        have HWF := Lib.hid hwf
        have hi40 : i ≤ 40 := by omega
        clear hx2 hC hkey hwf
        go_wp2_with (first | (at_lookup; refine wpList_lookup_own_int _ rfl _ _ 143 rfl 3 3 .i64 law_int Tryz.underlying143 Tryz.underlying3 (zero_int _) w.heap.size i _ rfl HOWN.out _ _ rfl HKEY.out ?_; intro c hat hwc; obtain rfl := HLOOK.out c hat; clear hat hwc) | (at_mapUpdate; refine wpList_mapUpdate_own _ rfl _ _ _ 143 rfl 3 3 law_int Tryz.underlying143 _ w.heap.size i _ rfl HOWN.out (by unfold maxLen; omega) _ _ _ rfl rfl HKEY.out _ [] (plainElem_int Tryz.underlying3 HWF.out) ?_; intro w6 hown6 hgrow6) | fail)
        have HOWN6 := Lib.hid hown6
        have HW6 := Lib.hid (HW.out.grown hgrow6 hB1 (fun j hj => by cases hj; exact Nat.le_refl _))
        clear hown6 hgrow6
        go_wp2
        go_roundw
        case rel => exact ⟨i + 1, _, by omega, by go_num, HADD.out, hodd.out, HOWN6.out, HW6.out⟩
        case measure => simp [intOf]; omega
    · have di : decide (i < p.length) = false := decide_eq_false hip
      have hall : p.take i = p := List.take_of_length_le (by omega)
      have htm := HTM.out
      have hod := HOD.out
      rw [hall] at htm hod
      have HTM2 := Lib.hid htm
      have HOD2 := Lib.hid hod
      have hmb2 : w.heap.size + 1 ≤ wr.heap.size := hmb
      obtain ⟨w8, hw8⟩ : ∃ w8, w8 = wr := ⟨_, rfl⟩
      subst hw8
      clear htm hod hall HTM HOD hW
      go_wp2
      go_loopw [8, 9] (fun ov nv wr => ∃ (i n : Nat), i ≤ 20 ∧ n = 2 * i + 1 ∧ nv = .int .i64 n ∧ wr.ownsRow (w.heap.size + 1) 3 1 ov ((odds.take i).flatMap (merge1 p)).length (ints ((odds.take i).flatMap (merge1 p))) ∧ wr.ownsMap Tryz.prog 3 (plainElem Tryz.prog 3) w.heap.size p.length D ∧ Below w.heap.size w wr) (fun _ nv _ => 41 - (intOf nv).toNat)
      case atStart => exact ⟨0, 1, by omega, rfl, rfl, World.ownsRow_nil _ _ _ _, HOWN.out.mono (by omega), HW.out⟩
      case round =>
       clear HOWN HW hB1 hmb hmb2
       obtain ⟨i, n, hi, hn, rfl, ho, hown, hW⟩ := hrel
       have hB1 := hW.size
       have HO := Lib.hid ho
       have HOWN := Lib.hid hown
       have HW := Lib.hid hW
       have HNI := Lib.hid hn
       have hmb : w.heap.size + 1 ≤ wr.heap.size := hown.lt
       have hn1 : 1 ≤ n := by omega
       have hn41 : n ≤ 41 := by omega
       clear ho hown hW hn
       by_cases hn40 : n ≤ 40
       · have dn : decide ((n : Int) ≤ 40) = true := decide_eq_true (by omega)
         obtain ⟨hnt, ht64⟩ := HCN.out n hn1
         have ht : p.count (n : Int) ≤ n * p.count (n : Int) := Nat.le_mul_of_pos_left _ hn1
         have hi20 : i < 20 := by have := HNI.out; omega
         have hmt := merge_take p hi20
         rw [← HNI.out] at hmt
         have hl6 := merge_len p (odds.take i)
         have hl20 : (odds.take i).length ≤ 20 := by rw [List.length_take, show odds.length = 20 by decide]; omega
         have HLOOK := Lib.hid (fun c hc => HTM2.out.look (n := (n : Int)) (c := c) hc)
         have HKEY : Hid (keyOf Tryz.prog 3 (.int .i64 (n : Int)) = some (.int .i64 (n : Int))) := Lib.hid (keyOf_int_mk Tryz.underlying3 (WalkArith.wf_i64 (by omega)))
         obtain ⟨t, htd⟩ : ∃ t, t = p.count (n : Int) := ⟨_, rfl⟩
         have hm1 : merge1 p n = (bts t).map (fun j => ((n * 2 ^ j : Nat) : Int)) := by unfold merge1; rw [htd]
         rw [← htd] at hnt ht HLOOK
         rw [hm1] at hmt
         obtain ⟨L, hL⟩ : ∃ L, L = (odds.take i).flatMap (merge1 p) := ⟨_, rfl⟩
         rw [← hL] at hmt HO hl6
         have HMT := Lib.hid hmt
         have ht40 : t ≤ 40 := by omega
         have HNT := Lib.hid hnt
         have hL40 : L.length ≤ 120 := by omega
         clear hmt htd hL hnt ht64 ht hm1 hl6 hl20
         obtain ⟨w8, hw8⟩ : ∃ w8, w8 = wr := ⟨_, rfl⟩
         subst hw8
         go_wp2
         go_loopw [8, 10] (fun ov bv wz => ∃ (j B : Nat), j ≤ 6 ∧ B = 2 ^ j ∧ bv = .int .i64 B ∧ wz.ownsRow (w.heap.size + 1) 3 1 ov (L ++ (low t j).map (fun j => ((n * 2 ^ j : Nat) : Int))).length (ints (L ++ (low t j).map (fun j => ((n * 2 ^ j : Nat) : Int)))) ∧ wz.ownsMap Tryz.prog 3 (plainElem Tryz.prog 3) w.heap.size p.length D ∧ Below w.heap.size w wz) (fun _ bv _ => 128 - (intOf bv).toNat)
         case atStart => exact ⟨0, 1, by omega, rfl, rfl, by simpa [low] using HO.out, HOWN.out, HW.out⟩
         case round =>
          clear HO HOWN HW hB1 hmb
          obtain ⟨j, B, hj, hBj, rfl, ho, hown, hW⟩ := hrel
          have hB1 := hW.size
          have HO := Lib.hid ho
          have HOWN := Lib.hid hown
          have HW := Lib.hid hW
          have HBJ := Lib.hid hBj
          have hmb : w.heap.size + 1 ≤ wr.heap.size := hown.lt
          have hB64 : B ≤ 64 := by
           rw [hBj]
           have : 2 ^ j ≤ 2 ^ 6 := Nat.pow_le_pow_right (by omega) hj
           omega
          have hB0 : 0 < B := by rw [hBj]; exact Nat.two_pow_pos _
          clear ho hown hW hBj
          by_cases hBt : B ≤ t
          · have dB : decide ((B : Int) ≤ (t : Int)) = true := decide_eq_true (by omega)
            have hj6 : j < 6 := by
             apply Classical.byContradiction
             intro hn
             have h6 : 2 ^ 6 ≤ 2 ^ j := Nat.pow_le_pow_right (by omega) (by omega)
             have := HBJ.out
             omega
            have hbb := and_bits t (by omega) j hj6
            have hln := low_next t j
            rw [← HBJ.out] at hbb
            have hM : (L ++ (low t j).map (fun j => ((n * 2 ^ j : Nat) : Int))).length ≤ 200 := by
             rw [List.length_append, List.length_map]
             have : (low t j).length ≤ j := by unfold low; exact Nat.le_trans (List.length_filter_le _ _) (by simp)
             omega
            have hnB : n * B ≤ 40 := Nat.le_trans (Nat.mul_le_mul_left _ hBt) HNT.out
            have hsn : L ++ (low t j).map (fun j => ((n * 2 ^ j : Nat) : Int)) ++ [(n : Int) * (B : Int)] = L ++ (low t j ++ [j]).map (fun j => ((n * 2 ^ j : Nat) : Int)) := by
             rw [List.map_append, HBJ.out]; simp [Int.natCast_mul]
            have HLN := Lib.hid hln
            have HSN := Lib.hid hsn
            obtain ⟨M, hMM⟩ : ∃ M, M = L ++ (low t j).map (fun j => ((n * 2 ^ j : Nat) : Int)) := ⟨_, rfl⟩
            rw [← hMM] at HO hM HSN
            have HMM := Lib.hid hMM
            clear hln hsn hMM
            by_cases htb : t.testBit j = true
            · rw [if_pos htb] at hbb
              have hne : (bits BinOp.and IntKind.i64 (t : Int) (B : Int) != 0) = true := by rw [hbb]; simp; omega
              have HTB := Lib.hid htb
              clear hbb htb
              go_wp2_with (first | (at_lookup; refine wpList_lookup_own_int _ rfl _ _ 143 rfl 3 3 .i64 law_int Tryz.underlying143 Tryz.underlying3 (zero_int _) w.heap.size p.length _ rfl HOWN.out _ _ rfl HKEY.out ?_; intro c hat hwc; obtain rfl := HLOOK.out c hat; clear hat hwc) | (at_builtin; refine wpList_app1 rfl (.tmp 48) (.tmp 52) rfl rfl ((n : Int) * (B : Int)) HO.out rfl (by omega) hmb (fun g2 c2 w6 hl6 hb6 => ?_); have HL6 := Lib.hid hl6; have HB6 := Lib.hid hb6; clear hl6 hb6) | fail)
              go_roundw
              case rel => exact ⟨j + 1, 2 * B, by omega, by rw [Nat.pow_succ, ← HBJ.out, Nat.mul_comm], by go_num, by rw [HLN.out, if_pos HTB.out, ← HSN.out, List.length_append]; exact HL6.out, map_below HOWN.out HB6.out (by omega), HW.out.trans (HB6.out.mono (by omega))⟩
              case measure => simp [intOf]; omega
            · rw [if_neg htb] at hbb
              have hne : (bits BinOp.and IntKind.i64 (t : Int) (B : Int) != 0) = false := by rw [hbb]; rfl
              have HTB := Lib.hid htb
              clear hbb htb
              go_wp2_with (first | (at_lookup; refine wpList_lookup_own_int _ rfl _ _ 143 rfl 3 3 .i64 law_int Tryz.underlying143 Tryz.underlying3 (zero_int _) w.heap.size p.length _ rfl HOWN.out _ _ rfl HKEY.out ?_; intro c hat hwc; obtain rfl := HLOOK.out c hat; clear hat hwc) | fail)
              go_roundw
              case rel => exact ⟨j + 1, 2 * B, by omega, by rw [Nat.pow_succ, ← HBJ.out, Nat.mul_comm], by go_num, by rw [HLN.out, if_neg HTB.out, List.append_nil, ← HMM.out]; exact HO.out, HOWN.out, HW.out⟩
              case measure => simp [intOf]; omega
          · have dB : decide ((B : Int) ≤ (t : Int)) = false := decide_eq_false (by omega)
            have hla := low_allB t (by omega) j (by omega) (by rw [← HBJ.out]; omega)
            have HLA := Lib.hid hla
            clear hla
            go_wp2_with (first | (at_lookup; refine wpList_lookup_own_int _ rfl _ _ 143 rfl 3 3 .i64 law_int Tryz.underlying143 Tryz.underlying3 (zero_int _) w.heap.size p.length _ rfl HOWN.out _ _ rfl HKEY.out ?_; intro c hat hwc; obtain rfl := HLOOK.out c hat; clear hat hwc) | fail)
            go_roundw
            case rel => exact ⟨i + 1, n + 2, by omega, by have := HNI.out; omega, by go_num, by rw [HMT.out, ← HLA.out]; exact HO.out, HOWN.out, HW.out⟩
            case measure => simp [intOf]; omega
       · have dn : decide ((n : Int) ≤ 40) = false := decide_eq_false (by omega)
         have hall : odds.take i = odds := List.take_of_length_le (by rw [show odds.length = 20 by decide]; have := HNI.out; omega)
         have hl6 := merge_len p odds
         rw [show odds.length = 20 by decide] at hl6
         rw [hall] at HO
         obtain ⟨L, hL⟩ : ∃ L, L = odds.flatMap (merge1 p) := ⟨_, rfl⟩
         rw [← hL] at HO hl6
         have HL := Lib.hid hL
         clear hall hL
         go_wp2_with (first | (go_at_call 126; refine (fallen_any _ HO.out (by omega)).mono ?_) | fail)
         rintro e w7 ⟨rfl, ho7, hg7⟩
         have hW7 := HW.out.grown hg7 hB1 (fun k hk => by have := (HO.out.lt k hk).1; omega)
         have HFN := Lib.hid (eul_own (B := w.heap.size) (ok := IsPart p ∧ p.sum ≤ 40 ∧ ∀ x ∈ p, x % 2 = 1) (ys := sortD (mergeL p)) (p := p) (ho7.mono (by omega)) (by omega) ⟨HP.out, HS.out, HOD2.out⟩ (by rw [HL.out]; rfl))
         clear ho7 hg7
         go_wp2
         go_ret2
         exact ⟨HFN.out, hW7⟩
 · have dk : (k != 0) = true := by simpa using hk0
   have HK0 := Lib.hid hk0
   go_wp2
   go_ret2
   exact ⟨eul_bad HK0.out (fun hh => HK0.out (HPC.out.2 ⟨hh.1, hh.2.1⟩)) (by rw [if_neg (by rw [← HKE.out]; exact HK0.out)]; exact HKE.out), Below.refl _ _⟩
end
end Go.Proofs.YtpmkdihencepnaaGreatDoor
