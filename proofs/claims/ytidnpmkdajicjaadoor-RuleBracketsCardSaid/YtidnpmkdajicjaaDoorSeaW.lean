/-
  rule.search: inner, from.
-/
import Derived.Test.YtidnpmkdajicjaaDoorSeaR
import Derived.Deep.RegionWith
namespace Go.Proofs.YtidnpmkdajicjaaDoor
open Go.RowKit LR

theorem sl_nat {w : World} {B n : Nat} {A : Option Addr} {f : Nat → Nat} (h : Sl w B A ((List.range n).map (fun x => iv (f x)))) {r : Nat} (hr : r < n) :
    ∃ b o, A = some ⟨b, o, none⟩ ∧ b < B ∧ w.cell? ⟨b, o + r, none⟩ = some (.int .i64 (f r)) := by
  obtain ⟨b, o, e, hb, hc⟩ := h (by simp; omega)
  exact ⟨b, o, e, hb, hc r _ (map_get hr)⟩

theorem inner_any {K : SK} {w : World} {B q : Nat} {F : Nat → Nat → Nat} {L Us : Nat → Nat} (h : AllR w B (K.reg F L Us q)) (ok : K.Ok w B) (r : Nat) :
    Calls Tryd.prog 30 #[.pointer (some ⟨K.b, 0, none⟩), .int .i64 r] w fun e w' => e = .returned (.int .i64 (K.fa r)) ∧ w = w' := by
  have c0 : w.cell? ⟨K.b, 0, none⟩ = some (.slice K.Aa K.na K.ca) := sea_cell h rfl
  by_cases hr : r < K.na
  · obtain ⟨b, o, e, hb, hc⟩ := sl_nat ok.sa hr
    rw [e] at c0
    have d : decide ((r : Int) < (K.na : Int)) = true := decide_eq_true (by omega)
    go_enter Tryd.func30, Tryd.ntmps30
    go_wp2
    go_ret
    exact ⟨rfl, rfl⟩
  · have z := Lib.hid (ok.az r (by omega))
    have d : decide ((r : Int) < (K.na : Int)) = false := decide_eq_false (by omega)
    go_enter Tryd.func30, Tryd.ntmps30
    go_wp2
    go_ret
    exact ⟨by rw [z.out]; rfl, rfl⟩

def EachOut (K : SK) (B q : Nat) (F : Nat → Nat → Nat) (L Us : Nat → Nat) (w : World) (e : Ending) (w' : World) : Prop :=
  e = .returned (.bool true) ∧ AllR w' B (K.reg F L Us q) ∧ Below B w w'
theorem each_any {K : SK} {w : World} {B q : Nat} {F : Nat → Nat → Nat} {L Us : Nat → Nat} (h : AllR w B (K.reg F L Us q)) (hq : q < 4611686018427387904) (v : Value) :
    Calls Tryd.prog 17 #[v, .pointer (some ⟨K.gN, 0, none⟩)] w fun e w' => EachOut K B (q + 1) F L Us w e w' := by
  have c : w.cell? ⟨K.gN, 0, none⟩ = some (.int .i64 (q : Int)) := sea_n h
  have f := sea_nf h
  have hB := h.lt (x := 4) (b := K.gN) rfl
  go_enter Tryd.func17, Tryd.ntmps17
  go_wp2
  go_ret
  have := sea_setN h (q + 1)
  have e : iv (q + 1) = .int .i64 ((q : Int) + 1) := by simp [iv]
  rw [e] at this
  exact ⟨rfl, this, (Below.refl _ _).setCell (p := ⟨K.gN, 0, none⟩) hB.1 _⟩
end Go.Proofs.YtidnpmkdajicjaaDoor
