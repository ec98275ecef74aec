/- Part of the proof. -/
import Derived.Test.YtpmkdihencepnaaGreatDoorMk42
set_option maxHeartbeats 16000000
set_option maxRecDepth 100000
namespace Go.Proofs.YtpmkdihencepnaaGreatDoor
section
open Go.RowKit Go.Proofs
open Go.Shelf Go.Lib
attribute [local go_sem] Oper.semAt_some
def sepLeft (Bs : Nat) (W : World) : Nat := match W.cell? ⟨Bs, 0, none⟩ with
 | some (.string b) => b.size
 | _ => 0
theorem sepLeft_eq {Bs : Nat} {W : World} {s : Str} (h : W.cell? ⟨Bs, 0, none⟩ = some (sv s)) : sepLeft Bs W = s.length := by
 unfold sepLeft; rw [h]; simp [ByteArray.size]
theorem ex_take (r : Str) (i : Nat) : ((⟨r.toArray⟩ : ByteArray).extract 0 i) = ⟨(r.take i).toArray⟩ := by
 apply ByteArray.ext
 rw [ByteArray.data_extract]
 apply Array.toList_inj.1
 simp
theorem ex_drop (r : Str) (i : Nat) : ((⟨r.toArray⟩ : ByteArray).extract i r.length) = ⟨(r.drop i).toArray⟩ := by
 apply ByteArray.ext
 rw [ByteArray.data_extract]
 apply Array.toList_inj.1
 simp only [Array.toList_extract, List.extract_eq_take_drop]
 exact List.take_of_length_le (by simp)
theorem boxed_below {W W' : World} {B n₀ : Nat} {t : TypeId} {v : Value} (h : Boxed W B t v) (hB : B < n₀) (hb : Below n₀ W W') : Boxed W' B t v := (hb.block B hB).trans h
def Kept3 (lo : Nat) (W W' : World) : Prop := ∀ k, lo ≤ k → k < lo + 3 → W'.heap[k]? = W.heap[k]?
theorem Kept3.refl (lo : Nat) (W : World) : Kept3 lo W W := fun _ _ _ => rfl
theorem Kept3.trans {lo : Nat} {A B C : World} (h : Kept3 lo A B) (k : Kept3 lo B C) : Kept3 lo A C := fun i h1 h2 => (k i h1 h2).trans (h i h1 h2)
theorem Below.kept3 {lo n₀ : Nat} {A B : World} (h : Below n₀ A B) (hl : lo + 3 ≤ n₀) : Kept3 lo A B := fun i _ h2 => h.block i (by omega)
theorem kept3_b {lo m : Nat} (hlo : lo + 3 ≤ m) (W : World) (l : Nat) (o o' : Obj) (hl : m ≤ l) (_ : W.heap[l]? = some o) (_ : o.isCells = false) (_ : o.isWalk = false) : Kept3 lo W (W.putObj l o') := fun _ _ _ => World.putObj_heap_other (by omega)
theorem boxed_kept3 {W W' : World} {B lo : Nat} {t : TypeId} {v : Value} (h : Boxed W B t v) (hB : lo ≤ B) (hB2 : B < lo + 3) (hb : Kept3 lo W W') : Boxed W' B t v := (hb B hB hB2).trans h
abbrev SS := { x : Str // x.length ≤ 100000 }
abbrev strs (xs : List SS) : List Str := xs.map (·.1)
theorem sep1_in (n : Nat) (hn : 1 ≤ n) (l Bs Bc Bz lo : Nat) (c : UInt8) (s : Str) (hBs : lo ≤ Bs ∧ Bs < lo + 3) (hBc : lo ≤ Bc ∧ Bc < lo + 3) (hBz : lo ≤ Bz ∧ Bz < lo + 3) (hne : Bc ≠ Bs) (hne2 : Bz ≠ Bs) (hsl : s.length ≤ 100000) (J Jx : List SS → World → Prop) (hJ : Bears Bs J)
 (hY : ∀ pre x W, J pre W → pre.length < (spl c s).length → YieldAt Fence.wide (n - 1) Tryz.prog l #[sv x.1] W fun e W' => (e = .returned (.bool true) ∧ J (pre ++ [x]) W' ∧ Kept3 lo W W') ∨ (e = .returned (.bool false) ∧ Jx (pre ++ [x]) W'))
 (W : World) (hc : Boxed W Bc 9 (.string ⟨#[c]⟩)) (hs : Boxed W Bs 9 (sv s)) (hz : Boxed W Bz 3 (.int .i64 0)) (h0 : J [] W) :
 CallsIn Fence.wide n Tryz.prog 162 #[.func (.yield l) #[] #[], .pointer (some ⟨Bc, 0, none⟩), .pointer (some ⟨Bs, 0, none⟩), .pointer (some ⟨Bz, 0, none⟩)] W fun e W' => (∃ v, e = .returned v) ∧ ((∃ ys, strs ys = spl c s ∧ J ys W') ∨ (∃ pre, strs pre <+: spl c s ∧ Jx pre W')) := by
 refine callsIn_of_wp Tryz.func162 rfl trivial ?_ rfl
 simp only [Tryz.ntmps162, List.size_toArray, List.length_cons, List.length_nil, Nat.reduceAdd, Nat.reduceSub, Array.replicate_succ, Array.replicate_zero, List.push_toArray, List.append_toArray, List.nil_append, List.cons_append]
 have cC := hc.cell
 have cS := hs.cell
 have HY := Lib.hid hY
 have HJ := Lib.hid hJ
 clear hY hJ
 gi_wp2
 gi_loopw [] (fun wr => ∃ (pre : List SS) (r : Str), spl c s = strs pre ++ spl c r ∧ r.length ≤ s.length ∧ Boxed wr Bc 9 (.string ⟨#[c]⟩) ∧ Boxed wr Bs 9 (sv r) ∧ Boxed wr Bz 3 (.int .i64 0) ∧ J pre wr)
  (fun wr => sepLeft Bs wr)
 case atStart => exact ⟨[], s, rfl, Nat.le_refl _, hc, hs, hz, h0⟩
 case round =>
  obtain ⟨pre, r, hx, hrl, bC, bS, bZ, hJs⟩ := hrel
  have HX := Lib.hid hx
  have HJs := Lib.hid hJs
  have cC1 := bC.cell
  have cS1 := bS.cell
  have cZ1 := bZ.cell
  have fS1 := bS.frozen
  have hsn := spl_ne c r
  have hl0 : pre.length < (spl c s).length := by rw [hx, List.length_append, List.length_map]; have := List.length_pos_iff.2 hsn; omega
  clear cC cS
  by_cases hi : Lib.indexByte r c = -1
  · have e1 := spl_none c r hi
    have HI := Lib.hid (index_c r c wr)
    rw [hi] at HI
    obtain ⟨fn, tmps, assign, body, hy, hR⟩ := HY.out pre ⟨r, by omega⟩ wr HJs.out hl0
    clear hx hJs e1
    gi_wp2_with (refine ⟨trivial, ?_⟩; gi_at_call 122; refine (callsIn_wide.2 HI.out).mono ?_; rintro e w' ⟨rfl, rfl⟩)
    refine hR.mono ?_
    rintro e W3 (⟨rfl, hJ3, hk3⟩ | ⟨rfl, hJx3⟩)
    · gi_wp2
      go_end0
      exact ⟨⟨_, rfl⟩, .inl ⟨_, by rw [HX.out, spl_none c r hi, strs, List.map_append]; rfl, hJ3⟩⟩
    · gi_wp2
      go_end0
      exact ⟨⟨_, rfl⟩, .inr ⟨_, by rw [HX.out, spl_none c r hi, strs, List.map_append]; exact List.prefix_rfl, hJx3⟩⟩
  · have hge := Lib.indexByte_ge r c
    obtain ⟨i, hi2⟩ : ∃ i : Nat, Lib.indexByte r c = (i : Int) := ⟨(Lib.indexByte r c).toNat, by omega⟩
    obtain ⟨hil, e1⟩ := spl_some c r i hi2
    have HI := Lib.hid (index_c r c wr)
    rw [hi2] at HI
    have HE := Lib.hid e1
    obtain ⟨fn, tmps, assign, body, hy, hR⟩ := HY.out pre ⟨r.take i, by rw [List.length_take]; omega⟩ wr HJs.out hl0
    have di : decide ((i : Int) < 0) = false := decide_eq_false (by omega)
    dsimp only at hy
    rw [show sv (r.take i) = Value.string ((⟨r.toArray⟩ : ByteArray).extract 0 i) from congrArg Value.string (ex_take r i).symm] at hy
    clear hx hJs e1 hi hge hi2
    gi_wp2_with (refine ⟨trivial, ?_⟩; gi_at_call 122; refine (callsIn_wide.2 HI.out).mono ?_; rintro e w' ⟨rfl, rfl⟩)
    refine hR.mono ?_
    rintro e W3 (⟨rfl, hJ3, hk3⟩ | ⟨rfl, hJx3⟩)
    · have bC3 := boxed_kept3 bC hBc.1 hBc.2 hk3
      have bS3 := boxed_kept3 bS hBs.1 hBs.2 hk3
      have bZ3 := boxed_kept3 bZ hBz.1 hBz.2 hk3
      have cC3 := bC3.cell
      have cS3 := bS3.cell
      have fS3 := bS3.frozen
      have HJ3 := Lib.hid hJ3
      clear hJ3 cC1 cS1 cZ1 fS1
      gi_wp2
      go_roundw
      case rel =>
       rw [ex_drop]
       exact ⟨pre ++ [⟨r.take i, by rw [List.length_take]; omega⟩], r.drop (i + 1), by rw [HX.out, HE.out]; simp, by rw [List.length_drop]; omega, bC3.other hne _, bS3.set _, bZ3.other hne2 _, HJ.out _ _ _ HJ3.out⟩
      case measure =>
       rw [ex_drop, sepLeft_eq (bS3.set _).cell, sepLeft_eq bS.cell, List.length_drop]
       omega
    · gi_wp2
      refine bodyPost_ret (results_none rfl _ _ _) rfl ?_
      exact ⟨⟨_, rfl⟩, .inr ⟨_, by rw [HX.out, HE.out, strs, List.map_append]; exact List.prefix_append_right_inj _ |>.2 ⟨_, rfl⟩, hJx3⟩⟩
theorem sep_stops (n : Nat) (hn : 1 ≤ n) (lo : Nat) (c : UInt8) (s : Str) (hsl : s.length ≤ 100000) (w : World) (hlo : lo + 3 ≤ w.heap.size)
 (hc : Boxed w (lo + 1) 9 (.string ⟨#[c]⟩)) (hs : Boxed w lo 9 (sv s)) (hz : Boxed w (lo + 1 + 1) 3 (.int .i64 0)) :
 SeqStopsB lo Fence.wide n Tryz.prog 162 #[.pointer (some ⟨lo + 1, 0, none⟩), .pointer (some ⟨lo, 0, none⟩), .pointer (some ⟨lo + 1 + 1, 0, none⟩)] (fun x : SS => #[sv x.1]) (Kept3 lo) (fun ys => strs ys = spl c s) (fun pre => strs pre <+: spl c s) (spl c s).length w := fun l J Jx W hW _ _ hJ _ hY h0 =>
 sep1_in n hn l lo (lo + 1) (lo + 1 + 1) lo c s (by omega) (by omega) (by omega) (by omega) (by omega) hsl J Jx hJ hY W (boxed_below hc (by omega) hW) (boxed_below hs (by omega) hW) (boxed_below hz (by omega) hW) h0
def sepW (w : World) (s : Str) (c : UInt8) : World := ((w.alloc (.cells #[sv s] 9)).alloc (.cells #[.string ⟨#[c]⟩] 9)).alloc (.cells #[.int .i64 0] 3)
theorem sep_facts (w : World) (s : Str) (c : UInt8) : Boxed (sepW w s c) w.heap.size 9 (sv s) ∧ Boxed (sepW w s c) (w.heap.size + 1) 9 (.string ⟨#[c]⟩) ∧ Boxed (sepW w s c) (w.heap.size + 1 + 1) 3 (.int .i64 0) ∧ (sepW w s c).heap.size = w.heap.size + 1 + 1 + 1 ∧ Below w.heap.size w (sepW w s c) := by
 unfold sepW
 have b1 := ((Boxed.new w 9 (sv s)).alloc (.cells #[.string ⟨#[c]⟩] 9)).alloc (.cells #[.int .i64 0] 3)
 have b2 := (Boxed.new (w.alloc (.cells #[sv s] 9)) 9 (.string ⟨#[c]⟩)).alloc (.cells #[.int .i64 0] 3)
 have b3 := Boxed.new ((w.alloc (.cells #[sv s] 9)).alloc (.cells #[.string ⟨#[c]⟩] 9)) 3 (.int .i64 0)
 simp only [World.size_alloc] at b2 b3
 exact ⟨b1, b2, b3, by simp, (((Below.refl _ w).alloc (Nat.le_refl _) _).alloc (by simp) _).alloc (by simp; omega) _⟩
theorem splitseq0_in (n : Nat) (s : Str) (c : UInt8) (w : World) : CallsIn Fence.wide n Tryz.prog 118 #[sv s, .string ⟨#[c]⟩, .int .i64 0] w fun e w' => e = .returned (.func (.func 162) #[] #[.pointer (some ⟨w.heap.size + 1, 0, none⟩), .pointer (some ⟨w.heap.size, 0, none⟩), .pointer (some ⟨w.heap.size + 1 + 1, 0, none⟩)]) ∧ w' = sepW w s c := by
 refine callsIn_of_wp Tryz.func118 rfl trivial ?_ rfl
 simp only [Tryz.ntmps118, List.size_toArray, List.length_cons, List.length_nil, Nat.reduceAdd, Nat.reduceSub, Array.replicate_succ, Array.replicate_zero, List.push_toArray, List.append_toArray, List.nil_append, List.cons_append]
 gi_wp2
 go_ret
 exact ⟨rfl, rfl⟩
theorem splitseq_in (n : Nat) (hn : 1 ≤ n) (s : Str) (c : UInt8) (w : World) : CallsIn Fence.wide n Tryz.prog 73 #[sv s, .string ⟨#[c]⟩] w fun e w' => e = .returned (.func (.func 162) #[] #[.pointer (some ⟨w.heap.size + 1, 0, none⟩), .pointer (some ⟨w.heap.size, 0, none⟩), .pointer (some ⟨w.heap.size + 1 + 1, 0, none⟩)]) ∧ w' = sepW w s c := by
 refine callsIn_of_wp Tryz.func73 rfl trivial ?_ rfl
 simp only [Tryz.ntmps73, List.size_toArray, List.length_cons, List.length_nil, Nat.reduceAdd, Nat.reduceSub, Array.replicate_succ, Array.replicate_zero, List.push_toArray, List.append_toArray, List.nil_append, List.cons_append]
 have H := splitseq0_in (n - 1) s c w
 gi_wp2_with (refine ⟨trivial, ?_⟩; gi_at_call 118; refine (CallsIn.mono H ?_); rintro e w' ⟨rfl, rfl⟩)
 go_ret
 exact ⟨rfl, rfl⟩
end
end Go.Proofs.YtpmkdihencepnaaGreatDoor
