/-
  perms.Rounds: what it answers.
-/
import Derived.Test.YtmlmdklheiafpaaPerms1
namespace Go.Proofs.Ytmlmdklheiafpaa
open Go.RowKit

def lenOf : Value → Nat | .slice _ n _ => n | _ => 0

theorem cell_at1 {w : World} {B b o : Nat} {xs : List Int} (h : Sl w B (some ⟨b, o, none⟩) (ints xs)) {n : Int} (h1 : 1 ≤ n) (h2 : n ≤ xs.length) :
    w.cell? ⟨b, o + (n.toNat - 1), none⟩ = some (.int .i64 (at1 xs n)) := by
  have hk : n.toNat - 1 < xs.length := by omega
  obtain ⟨b', o', e1, _, hc'⟩ := h.at_ hk
  obtain ⟨rfl, rfl⟩ : b = b' ∧ o = o' := by simpa using e1
  rw [hc', ← at1_get hk]
  congr 3; omega

set_option maxHeartbeats 1000000 in
theorem rounds_ok (A : Option Addr) (cap : Nat) (xs : List Int) (w : World) (hn : xs.length ≤ 40) (hp : IsPerm xs) (h : Sl w w.heap.size A (ints xs)) :
    Calls Try.prog 14 #[.slice A xs.length cap] w fun e w' => ∃ A' c', e = .returned (.tuple #[.slice A' (roundsOf xs).length c', .int .i64 0]) ∧ Sl w' w'.heap.size A' (ints (roundsOf xs)) ∧ Below w.heap.size w w' := by
  have hk : Hid (permChk xs = 0) := permChk_ok (by omega) hp
  have HP := Lib.hid hp
  clear hp
  go_enter Try.func14, Try.ntmps14
  go_wp2_with fail
  refine (check_any _ _ _ _ (by omega) h).mono ?_
  rintro e w1 ⟨rfl, hb1⟩
  rw [hk.out]
  have h1 := (h.below hb1)
  go_wp2
  go_loopw [5, 6] (fun ov tv wr => ∃ t : Nat, t ≤ xs.length ∧ tv = .int .i64 ((t : Int) + 1) ∧ wr.ownsRow w.heap.size 3 1 ov (roundsTo xs t).length (ints (roundsTo xs t)) ∧ Below w.heap.size w wr) (fun _ tv _ => xs.length + 1 - (intOf tv).toNat)
  case atStart =>
    exact ⟨0, by omega, rfl, World.ownsRow_nil _ _ _ _, hb1⟩
  case round =>
    obtain ⟨t, ht, rfl, hown, hbl⟩ := hrel
    obtain ⟨wo, rfl⟩ : ∃ wo : World, wo = wr := ⟨_, rfl⟩
    have HO := Lib.hid hown
    clear hown
    have h2 := h.below hbl
    by_cases hlt : t < xs.length
    · obtain ⟨b, o, rfl, hb, hc0⟩ := h2.at_ hlt
      rw [← at1_get hlt] at hc0
      have hb' : b < wo.heap.size := by have := hbl.size; omega
      obtain ⟨x0, hx0⟩ : ∃ x, x = at1 xs ((t : Int) + 1) := ⟨_, rfl⟩
      rw [← hx0] at hc0
      have HX := Lib.hid hx0
      clear hx0
      have hd1 : decide ((t : Int) + 1 ≤ (xs.length : Int)) = true := by simp; omega
      go_wp2
      go_loopw [7, 8] (fun lv nv wr => ∃ (l : List Int) (n : Int), Path xs ((t : Int) + 1) l n ∧ nv = .int .i64 n ∧ wr.ownsRow wo.heap.size 3 1 lv l.length (ints l) ∧ Below wo.heap.size wo wr ∧
          l ++ chain xs ((t : Int) + 1) (xs.length + 1 - l.length) n = arc xs ((t : Int) + 1)) (fun lv _ _ => xs.length + 1 - lenOf lv)
      case atStart =>
        refine ⟨[(t : Int) + 1], x0, ?_, rfl, ?_, (Below.refl _ _).alloc (Nat.le_refl _) _, ?_⟩
        · rw [HX.out]; exact Path.start (by omega) (by omega)
        · have := World.ownsRow_lit (e := 3) (size := 1) (base := wo.heap.size) wo #[.int .i64 ((t : Int) + 1)] 1 (Nat.le_refl _) (by decide) rfl
          simpa [ints] using this
        · rw [HX.out]; simp [arc]
      case round =>
        obtain ⟨l, n, hpath, rfl, hl, hbi, harc⟩ := hrel
        have hll := hpath.length_le HP.out
        have hlp := hpath.pos
        have hnr := hpath.n_range HP.out
        have hlast := getLastD_get (d := 0) hlp
        obtain ⟨g, lc, rfl, hg1, hg2⟩ := hl.form hlp
        have hcl : wr.cell? ⟨g, l.length - 1, none⟩ = some (.int .i64 (l.getLastD 0)) := by
          rw [hl.cellAt _ (by omega), ints_get (show l.length - 1 < l.length by omega), hlast]
        have hlr := hpath.range _ (List.getElem_mem (show l.length - 1 < l.length by omega))
        rw [← hlast] at hlr
        have hnl := hpath.last
        obtain ⟨y, hy⟩ : ∃ y, y = l.getLastD 0 := ⟨_, rfl⟩
        rw [← hy] at hcl hlr hnl
        have HNL := Lib.hid hnl
        have HA := Lib.hid harc
        have HPA := Lib.hid hpath
        have HL := Lib.hid hl
        have HY := Lib.hid hy
        clear hnl harc hpath hl hy hlast
        by_cases hc : n ≠ (t : Int) + 1 ∧ n < (t : Int) + 1
        · obtain ⟨hc1, hc2⟩ := hc
          have hcn : Hid (wr.cell? ⟨b, o + (n.toNat - 1), none⟩ = some (.int .i64 (at1 xs n))) := cell_at1 (h2.below (hbi.mono (by have := hbl.size; omega))) hnr.1 hnr.2
          obtain ⟨x1, hx1⟩ : ∃ x, x = at1 xs n := ⟨_, rfl⟩
          rw [← hx1] at hcn
          have HX1 := Lib.hid hx1
          clear hx1
          go_wp2_with (at_builtin; refine wpList_app1 rfl (.tmp 40) (.tmp 42) rfl rfl n HL.out rfl (by omega) hbi.size (fun g2 c2 w2 hl2 hb2 => ?_); have hcn2 := (hb2.cell (p := ⟨b, o + (n.toNat - 1), none⟩) (by exact hb')).trans hcn.out)
          go_roundw
          case rel =>
            refine ⟨l ++ [n], x1, ?_, rfl, ?_, hbi.trans hb2, ?_⟩
            · rw [HX1.out]; exact HPA.out.next HP.out hc2
            · simpa using hl2
            · rw [HX1.out, ← HA.out, show xs.length + 1 - l.length = (xs.length + 1 - (l ++ [n]).length) + 1 by simp; omega, chain_go _ ⟨hc1, hc2⟩, List.append_assoc]
              rfl
          case measure => simp [lenOf]; omega
        · have hl' : Hid (l = arc xs ((t : Int) + 1)) := by
            have := HA.out; rwa [chain_stop _ hc, List.append_nil] at this
          have hcy := cell_at1 (h2.below (hbi.mono (by have := hbl.size; omega))) hlr.1 hlr.2
          rw [← HNL.out] at hcy
          have hfin : Hid (roundsTo xs (t + 1) = roundsTo xs t ++ (if n = (t : Int) + 1 then l else [])) := by
            show _ = _
            rw [roundsTo, ← hl'.out, HNL.out, HY.out]
          by_cases hc1 : n = (t : Int) + 1
          · have hrl := roundsTo_le HP.out t (by omega)
            have hrl2 : t * xs.length ≤ 40 * 40 := Nat.mul_le_mul (by omega) hn
            have hou := own_below HO.out hbi
            have HOU := Lib.hid hou
            clear hou
            have HC1 := Lib.hid hc1
            clear hc1
            have hc2 : (n == (t : Int) + 1) = true := by simpa using HC1.out
            go_wp2_with (at_builtin; refine wpList_app rfl (.tmp 56) (.tmp 57) rfl rfl HOU.out lc rfl (Sl.of_own HL.out) (by omega) (by have := hbl.size; have := hbi.size; omega) (fun v3 w3 hv3 hb3 => ?_))
            go_roundw
            case rel =>
              refine ⟨t + 1, by omega, by go_num, ?_, (hbl.trans (hbi.mono (by have := hbl.size; omega))).trans hb3⟩
              rw [hfin.out, if_pos HC1.out]
              exact hv3
            case measure => simp [intOf]; omega
          · go_wp2
            go_roundw
            case rel =>
              refine ⟨t + 1, by omega, by go_num, ?_, hbl.trans (hbi.mono (by have := hbl.size; omega))⟩
              rw [hfin.out, if_neg hc1, List.append_nil]
              exact own_below HO.out hbi
            case measure => simp [intOf]; omega
    · obtain rfl : t = xs.length := by omega
      obtain ⟨A', c', hv⟩ : ∃ A' c', u5 = .slice A' (roundsTo xs xs.length).length c' := by
        rcases HO.out.2 with ⟨h1, h2⟩ | ⟨g, c, _, h1, _⟩
        · exact ⟨none, 0, by rw [h2]; exact h1⟩
        · exact ⟨_, c, h1⟩
      rw [hv] at HO ⊢
      go_wp2
      go_ret2
      exact ⟨A', c', rfl, Sl.of_own HO.out, hbl⟩

end Go.Proofs.Ytmlmdklheiafpaa
