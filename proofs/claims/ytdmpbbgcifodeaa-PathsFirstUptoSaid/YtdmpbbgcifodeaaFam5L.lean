/-
  What First finds is a family; the smallest of them; Same of one string.
-/
import Derived.Test.YtdmpbbgcifodeaaFam4W
namespace Go.Proofs.Ytdmpbbgcifodeaa
open Go.RowKit Go.Proofs

theorem res_fam {W H : Nat} {bar ss es : List Pt} {most : Nat} (h : SidesOk W H bar ss es) (hn : (res W H bar ss es most).n ≠ 0) : Fam ss es W H bar (res W H bar ss es most).first := by
  obtain ⟨⟨_, _, hb⟩, hs, he, hl, _⟩ := h
  have hP : Pre ss es W H bar (.next 0) [] (st0 W H bar) := by
    refine ⟨Nat.zero_le _, ⟨rfl, fun j hj => by omega, List.nodup_nil, fun p hp => (by cases hp), openF_len W H bar, fun p hp => ?_, fun e => absurd rfl e⟩, rfl⟩
    rw [show (st0 W H bar).free = openF W H bar from rfl, openF_is bar.length bar rfl (fun q hq => inG_of (hb q hq)) p hp]
    exact ⟨fun h => ⟨h, fun g => by cases g⟩, fun h => h.1⟩
  exact (run_ok (most := most) (fun p hp => inG_of (hs p hp)) (fun p hp => inG_of (he p hp)) hl 400 (.next 0) (st0 W H bar) [] hP).2.2 hn
/-- None at the first: none at all, and as many steps. -/
theorem res_none {W H : Nat} {bar ss es : List Pt} (h : (res W H bar ss es 1).n = 0) : res W H bar ss es 0 = res W H bar ss es 1 := by
  have := (run_both (W := W) (ss := ss) (es := es) 400 (.next 0) (st0 W H bar) rfl).1 h
  unfold res
  rw [this]
theorem res_some {W H : Nat} {bar ss es : List Pt} (h : (res W H bar ss es 1).n ≠ 0) : (res W H bar ss es 0).n ≠ 0 :=
  ((run_both (W := W) (ss := ss) (es := es) 400 (.next 0) (st0 W H bar) rfl).2 h).1
theorem lit_sides : SidesOk 2 1 [] [(0, 0)] [(1, 0)] := by
  refine ⟨⟨⟨by decide, by decide, by decide, by decide⟩, List.nodup_nil, fun p hp => (by cases hp)⟩, fun p hp => ?_, fun p hp => ?_, rfl, by decide⟩
  · rw [List.mem_singleton] at hp; subst hp; rfl
  · rw [List.mem_singleton] at hp; subst hp; rfl
theorem lit_res : (res 2 1 [] [(0, 0)] [(1, 0)] 1).n = 1 ∧ (res 2 1 [] [(0, 0)] [(1, 0)] 1).first = [[82]] := by
  constructor
  · decide +kernel
  · decide +kernel
set_option maxHeartbeats 400000 in
theorem same1_any (g q c c' : Nat) (w : World) (h1 : w.cell? ⟨g, 0, none⟩ = some (.string ⟨#[82]⟩)) (h2 : w.cell? ⟨q, 0, none⟩ = some (.string ⟨#[82]⟩)) :
    Calls Try.prog 23 #[.slice (some ⟨g, 0, none⟩) 1 c, .slice (some ⟨q, 0, none⟩) 1 c'] w fun e w' => e = .returned (.bool true) ∧ ∃ d, w' = w.drewN d := by
  go_enter Try.func23, Try.ntmps23
  go_wp2
  go_loopw [13] (fun iv wr => ∃ i : Nat, i ≤ 1 ∧ iv = .int .i64 i ∧ ∃ d, wr = w.drewN d) (fun iv _ => 1 - (intOf iv).toNat)
  case atStart => exact ⟨0, Nat.zero_le _, rfl, 0, rfl⟩
  case round =>
    obtain ⟨i, hi, rfl, d, rfl⟩ := hrel
    by_cases hlt : i < 1
    · obtain rfl : i = 0 := by omega
      go_wp2
      go_quiet (fail)
      go_wp2
      go_roundw
      case rel => exact ⟨1, by omega, by go_num, _, rfl⟩
      case measure => simp [intOf]
    · go_wp2
      go_ret
      exact ⟨rfl, _, rfl⟩
end Go.Proofs.Ytdmpbbgcifodeaa
