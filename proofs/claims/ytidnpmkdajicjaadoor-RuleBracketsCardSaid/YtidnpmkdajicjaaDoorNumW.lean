/-
  rule.Number: what it answers for partitions.
-/
import Derived.Test.YtidnpmkdajicjaaDoorWalW
import Derived.Test.YtidnpmkdajicjaaDoorRigW
namespace Go.Proofs.YtidnpmkdajicjaaDoor
open Go.RowKit LR

def litC (x : Option Addr × Nat × List Int) : Value := .slice x.1 x.2.2.length x.2.1
theorem sr_lit {w : World} {B : Nat} (items : List (Option Addr × Nat × List Int)) (h : ∀ x ∈ items, Sl w B x.1 (ints x.2.2) ∧ x.2.2.length ≤ 9223372036854775807) (hB : B ≤ w.heap.size) :
    SR (w.alloc (.cells (items.map litC).toArray 22)) (w.heap.size + 1) (some ⟨w.heap.size, 0, none⟩) (items.map (·.2.2)) := by
  have hb : Below w.heap.size w (w.alloc (.cells (items.map litC).toArray 22)) := (Below.refl _ _).alloc (Nat.le_refl _) _
  refine ⟨items.map litC, by simp, fun _ => ⟨w.heap.size, 0, rfl, by omega, fun k u hk => ?_⟩, fun r hr => ?_⟩
  · rw [World.cell?_alloc_at _ _ _ _ rfl]
    simpa using hk
  · have hr' : r < items.length := by simpa using hr
    refine ⟨items[r].1, items[r].2.1, ?_, ?_, ?_⟩
    · simp [hr', litC]
    · have := (h _ (List.getElem_mem hr')).1
      have e : (items.map (·.2.2)).getD r [] = items[r].2.2 := by simp [hr']
      rw [e]
      exact ((this.more hB).below hb).more (by omega)
    · have e : (items.map (·.2.2)).getD r [] = items[r].2.2 := by simp [hr']
      rw [e]
      exact (h _ (List.getElem_mem hr')).2
def NumOut (e : Ending) (a b c : List Nat) : Prop := e = .returned (.tuple #[.int .i64 (num3 a b c), .int .i64 0])

set_option maxRecDepth 100000 in
set_option maxHeartbeats 2000000 in
theorem num_any (a b c : List Nat) (ha : Pn a) (hb : Pn b) (hc : Pn c) (a16 : a.sum ≤ 16) (b16 : b.sum ≤ 16) (c16 : c.sum ≤ 16) (A1 A2 A3 : Option Addr) (c1 c2 c3 : Nat) (w : World)
    (h1 : Sl w w.heap.size A1 (ints (zs a))) (h2 : Sl w w.heap.size A2 (ints (zs b))) (h3 : Sl w w.heap.size A3 (ints (zs c))) :
    Calls Tryd.prog 9 #[.slice A1 a.length c1, .slice A2 b.length c2, .slice A3 c.length c3] w fun e w' => NumOut e a b c ∧ Below w.heap.size w w' := by
  have la := small_len ha a16
  have lb := small_len hb b16
  have lc := small_len hc c16
  have hsr := sr_lit (w := w) (B := w.heap.size) [(A1, c1, zs a), (A2, c2, zs b), (A3, c3, zs c)] (fun x hx => by
    simp only [List.mem_cons, List.not_mem_nil, or_false] at hx
    rcases hx with rfl | rfl | rfl
    · exact ⟨h1, by rw [zs_length]; omega⟩
    · exact ⟨h2, by rw [zs_length]; omega⟩
    · exact ⟨h3, by rw [zs_length]; omega⟩) (Nat.le_refl _)
  obtain ⟨w0, hw0⟩ : ∃ w0, w0 = w.alloc (.cells #[.slice A1 a.length c1, .slice A2 b.length c2, .slice A3 c.length c3] 22) := ⟨_, rfl⟩
  have e0 : w.alloc (.cells ([(A1, c1, zs a), (A2, c2, zs b), (A3, c3, zs c)].map litC).toArray 22) = w0 := by
    rw [hw0]; simp [litC, zs_length]
  rw [e0] at hsr
  have hz0 : w0.heap.size = w.heap.size + 1 := by rw [hw0]; simp
  have hb0 : Below w.heap.size w w0 := by rw [hw0]; exact (Below.refl _ _).alloc (Nat.le_refl _) _
  have hrig := right_any (some ⟨w.heap.size, 0, none⟩) 3 _ w0 (by simp) (hsr.more (by omega))
  have hok : RigOk ([(A1, c1, zs a), (A2, c2, zs b), (A3, c3, zs c)].map (·.2.2)) := by
    intro i hi
    have hi3 : i < 3 := by simpa using hi
    match i, hi3 with
    | 0, _ => exact ⟨zs_part ha, by show (zs a).sum ≤ 16; rw [zs_sum]; omega⟩
    | 1, _ => exact ⟨zs_part hb, by show (zs b).sum ≤ 16; rw [zs_sum]; omega⟩
    | 2, _ => exact ⟨zs_part hc, by show (zs c).sum ≤ 16; rw [zs_sum]; omega⟩
  have HRIG : Hid (Calls Tryd.prog 6 #[.slice (some ⟨w.heap.size, 0, none⟩) 3 3] w0 fun e w' => e = .returned (.int .i64 0) ∧ w0 = w') := Lib.hid (by
    refine Calls.mono hrig ?_
    rintro e w' ⟨⟨k, rfl, hk, _⟩, rfl⟩
    rw [hk.2 hok]
    exact ⟨rfl, rfl⟩)
  have H1 := Lib.hid h1
  have H2 := Lib.hid h2
  have H3 := Lib.hid h3
  have PA := Lib.hid ha
  have PB := Lib.hid hb
  have PC := Lib.hid hc
  have HB0 := Lib.hid hb0
  have HW0 := Lib.hid hw0
  have HZ0 := Lib.hid hz0
  clear h1 h2 h3 ha hb hc hsr hrig hok e0 hb0 hz0
  go_enter Tryd.func9, Tryd.ntmps9
  go_upto_region 1 with fail
  go_upto_region 2 with (first | (rw [← hw0]; go_at_call 6; refine (HRIG.out).mono ?_; rintro e w' ⟨rfl, rfl⟩) | fail)
  clear hw0
  go_upto_region 5 with fail
  rw [← HW0.out]
  obtain ⟨w1, hw1⟩ : ∃ w1, w1 = (w0.alloc (.cells #[.int .i64 0] 3)) := ⟨_, rfl⟩
  have hn := World.ownsRow_lit (e := 3) (size := 1) (base := w.heap.size) w0 #[.int .i64 0] 1 (by have := HZ0.out; omega) (by decide) rfl
  have hz1 : w1.heap.size = w.heap.size + 2 := by rw [hw1]; have := HZ0.out; simp; omega
  rw [HZ0.out, ← hw1] at hn
  have hb1 : Below w.heap.size w w1 := by rw [hw1]; exact HB0.out.alloc (by have := HZ0.out; omega) _
  have hwalk := walk_any a b c PA.out PB.out PC.out a16 b16 c16 A1 A2 A3 c1 c2 c3 (w.heap.size + 1) w1 w.heap.size (by omega) (by omega) (H1.out.below hb1) (H2.out.below hb1) (H3.out.below hb1) hn
  have HWALK := Lib.hid hwalk
  have HB1 := Lib.hid hb1
  rw [← hw1]
  clear hwalk hb1 hn hw1
  go_upto_region 6 with (first | (go_at_call 16; refine (HWALK.out).mono ?_; rintro e w7 ⟨⟨rfl, hc7⟩, hb7⟩) | fail)
  have hc8 : w7.cell? ⟨w.heap.size + 1, 0, none⟩ = some (.int .i64 (num3 a b c : Int)) := hc7
  have HB7 := Lib.hid hb7
  clear hb7 hc7
  go_wp2
  go_ret2
  exact ⟨rfl, HB1.out.trans HB7.out⟩
end Go.Proofs.YtidnpmkdajicjaaDoor
