/-
  perms.Measure: what it answers.
-/
import Derived.Test.YtmlmdklheiafpaaCodeW
import Derived.Test.YtmlmdklheiafpaaFallsW
import Derived.Test.YtmlmdklheiafpaaBruhatM
namespace Go.Proofs.Ytmlmdklheiafpaa
open Go.RowKit

theorem codeOf_cons (x : Int) (l : List Int) : codeOf (x :: l) = (l.countP (fun m => decide (m < x)) : Int) :: codeOf l := by
  unfold codeOf
  rw [List.length_cons, List.range_succ_eq_map, List.map_cons, List.map_map]
  congr 1

theorem codeOf_sum : ∀ l : List Int, (codeOf l).sum = (inv l : Int)
  | [] => rfl
  | x :: l => by
    rw [codeOf_cons, List.sum_cons, codeOf_sum l, show x :: l = [x] ++ l from rfl, inv_append, inv_one, cross_one]
    push_cast
    omega

theorem codeAt_le (p : List Int) (i : Nat) : codeAt p i ≤ p.length - (i + 1) := by
  have := List.countP_le_length (p := fun m => decide (m < p.getD i 0)) (l := p.drop (i + 1))
  rw [List.length_drop] at this
  unfold codeAt; omega

theorem codeOf_mem {p : List Int} {x : Int} (h : x ∈ codeOf p) : 0 ≤ x ∧ x ≤ p.length := by
  obtain ⟨i, _, rfl⟩ := List.mem_map.1 h
  have := codeAt_le p i
  omega

theorem results_tmp4 {fn : Func} {t u v x : Tmp} (h : fn.results = #[.tmp t, .tmp u, .tmp v, .tmp x]) (tmps : Array Value) (P : Program) (w : World) :
    (results fn tmps).run P w = .ok (.tuple #[tmps.getD t undef, tmps.getD u undef, tmps.getD v undef, tmps.getD x undef]) w := by simp [results, h]

set_option maxHeartbeats 400000 in
theorem measure_err (A : Option Addr) (cap : Nat) (xs : List Int) (w : World) (hcl : xs.length ≤ 9223372036854775807) (hp : permChk xs ≠ 0) (h : Sl w w.heap.size A (ints xs)) :
    Calls Try.prog 23 #[.slice A xs.length cap] w fun e w' => e = .returned (.tuple #[.int .i64 0, .int .i64 0, .slice none 0 0, .int .i64 (permChk xs)]) ∧ Below w.heap.size w w' := by
  obtain ⟨c, hc⟩ : ∃ c, c = permChk xs := ⟨_, rfl⟩
  have hd : (c != 0) = true := by rw [hc]; simpa using hp
  have HC := Lib.hid hc
  go_enter Try.func23, Try.ntmps23
  go_wp2_with fail
  refine (code_err _ _ _ _ hcl hp h).mono ?_
  rintro e w1 ⟨rfl, hb1⟩
  rw [← HC.out]
  clear hc hp
  go_wp2
  refine bodyPost_ret (results_tmp4 rfl _ _ _) rfl ?_
  exact ⟨by rw [← HC.out]; rfl, hb1⟩

def MeasSays (p : List Int) (e : Ending) : Prop := ∃ mj v, e = .returned (.tuple #[.int .i64 (inv p), mj, v, .int .i64 0])

set_option maxHeartbeats 1000000 in
theorem measure_ok (A : Option Addr) (cap : Nat) (p : List Int) (w : World) (hcap : p.length ≤ cap) (hn : p.length ≤ 40) (hp : permChk p = 0) (h : Sl w w.heap.size A (ints p)) :
    Calls Try.prog 23 #[.slice A p.length cap] w fun e w' => MeasSays p e ∧ Below w.heap.size w w' := by
  go_enter Try.func23, Try.ntmps23
  go_wp2_with fail
  refine (code_ok _ _ _ _ hcap hn hp h).mono ?_
  rintro e w1 ⟨A1, c1, rfl, hs1, hc1, hb1⟩
  have h1 := (h.below hb1)
  have hsum := codeOf_sum p
  have hmem : ∀ k, 0 ≤ sumTo (codeOf p) k ∧ sumTo (codeOf p) k ≤ 1600 := fun k => by
    have := sumTo_bound (xs := codeOf p) (m := p.length) (by omega) (fun x hx => codeOf_mem hx) k
    rw [codeOf_length] at this
    have : (p.length : Int) * p.length ≤ 40 * 40 := Int.mul_le_mul (by omega) (by omega) (by omega) (by omega)
    omega
  obtain ⟨cs, hcs⟩ : ∃ c, c = codeOf p := ⟨_, rfl⟩
  have hcl : cs.length = p.length := by rw [hcs, codeOf_length]
  rw [← hcs] at hs1 hc1 hsum hmem ⊢
  have HM := Lib.hid hmem
  have HSU := Lib.hid hsum
  have HCL := Lib.hid hcl
  have HCS := Lib.hid hcs
  clear hmem hsum hcl hcs hp
  go_wp2_with fail
  go_loopw [2, 3, 4, 20] (fun nv mv ov iv wr => ∃ (i : Nat) (ds : List Int) (mj : Int), i ≤ cs.length ∧ iv = .int .i64 i ∧ nv = .int .i64 (sumTo cs i) ∧ mv = .int .i64 mj ∧ 0 ≤ mj ∧ mj ≤ 40 * i ∧ ds.length ≤ i ∧
      wr.ownsRow w1.heap.size 3 1 ov ds.length (ints ds) ∧ Below w1.heap.size w1 wr) (fun _ _ _ iv _ => cs.length - (intOf iv).toNat)
  case atStart => exact ⟨0, [], 0, by omega, rfl, rfl, rfl, by omega, by omega, by simp, World.ownsRow_nil w1 w1.heap.size 3 1, Below.refl _ _⟩
  case round =>
    obtain ⟨i, ds, mj, hi, rfl, rfl, rfl, hmj, hmj', hdl, hown, hbl⟩ := hrel
    have HO := Lib.hid hown
    clear hown
    have hL := HCL.out
    by_cases hlt : i < cs.length
    · obtain ⟨b, o, rfl, hb⟩ := h1.addr (by omega)
      obtain ⟨b', o', rfl, hb'⟩ := hs1.addr (by omega)
      have hi40 : i < 40 := by omega
      obtain ⟨c, hc⟩ : ∃ x, x = cs.getD i 0 := ⟨_, rfl⟩
      obtain ⟨s, hs⟩ : ∃ x, x = sumTo cs i := ⟨_, rfl⟩
      have HS := Lib.hid hs
      have HC := Lib.hid hc
      have HSN : Hid (sumTo cs (i + 1) = s + c) := by show _ = _; rw [sumTo_succ hlt, ← getD_get hlt, hs, hc]
      have hcn : wr.cell? ⟨b', o' + i, none⟩ = some (.int .i64 c) := by rw [hc]; exact getD_cell (hs1.below hbl) hlt
      have hr1 : 0 ≤ s ∧ s ≤ 1600 := by rw [hs]; exact HM.out i
      have hr2 : 0 ≤ s + c ∧ s + c ≤ 1600 := by rw [← HSN.out]; exact HM.out (i + 1)
      rw [← hs]
      clear hc hs hL
      by_cases hlast : i + 1 < p.length
      · have hcx := getD_cell (h1.below (hbl.mono hb1.size)) (show i < p.length by omega)
        have hcy := getD_cell (h1.below (hbl.mono hb1.size)) hlast
        obtain ⟨x, hx⟩ : ∃ x, x = p.getD i 0 := ⟨_, rfl⟩
        obtain ⟨y, hy⟩ : ∃ x, x = p.getD (i + 1) 0 := ⟨_, rfl⟩
        rw [← hx] at hcx
        rw [← hy] at hcy
        have hd0 : decide (((i : Int) + 1) < (p.length : Int)) = true := by simp; omega
        clear hx hy
        by_cases hxy : y < x
        · have hd1 : decide (y < x) = true := by simpa using hxy
          go_wp2
          go_quiet (fail)
          go_wp2_with (at_builtin; refine wpList_app1 rfl (.tmp 49) (.tmp 52) rfl rfl ((i : Int) + 1) (own_drewN HO.out _) rfl (by omega) hbl.size (fun g2 c2 w2 hl2 hb2 => ?_))
          go_roundw
          case rel =>
            refine ⟨i + 1, ds ++ [(i : Int) + 1], mj + (i + 1), by omega, by go_num, by rw [HSN.out], rfl, by omega, by omega, by simp; omega, by simpa using hl2, (below_drewN hbl _).trans hb2⟩
          case measure => simp [intOf]; omega
        · have hd1 : decide (y < x) = false := by simpa using hxy
          go_wp2
          go_quiet (fail)
          go_wp2
          go_roundw
          case rel =>
            refine ⟨i + 1, ds, mj, by omega, by go_num, by rw [HSN.out], rfl, hmj, by omega, by omega, HO.out, below_drewN hbl _⟩
          case measure => simp [intOf]; omega
      · have hd0 : decide (((i : Int) + 1) < (p.length : Int)) = false := by simp; omega
        go_wp2
        go_quiet (fail)
        go_wp2
        go_roundw
        case rel =>
          refine ⟨i + 1, ds, mj, by omega, by go_num, by rw [HSN.out], rfl, hmj, by omega, by omega, HO.out, below_drewN hbl _⟩
        case measure => simp [intOf]; omega
    · obtain rfl : i = cs.length := by omega
      go_wp2
      refine bodyPost_ret (results_tmp4 rfl _ _ _) rfl ?_
      exact ⟨⟨_, _, by rw [← HSU.out]; simp only [sumTo, List.take_length]; rfl⟩, hb1.trans (hbl.mono hb1.size)⟩

end Go.Proofs.Ytmlmdklheiafpaa
