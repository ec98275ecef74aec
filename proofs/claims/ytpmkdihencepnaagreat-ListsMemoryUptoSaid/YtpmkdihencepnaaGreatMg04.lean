/-
  Plain lists: the cycles of a permutation, one behind the other, each from its greatest number on (no program in sight).
-/
import Derived.Deep.Onto
import Derived.Test.YtpmkdihencepnaaGreatMg01
import Derived.Test.YtpmkdihencepnaaGreatMg03
namespace Go.Proofs.YtpmkdihencepnaaGreat

theorem at1_get {xs : List Int} {k : Nat} (h : k < xs.length) : at1 xs ((k : Int) + 1) = xs[k] := by
  have e : ((k : Int) + 1 - 1).toNat = k := by omega
  simp only [at1, e]
  exact getD_get h

def chain (xs : List Int) (top : Int) : Nat → Int → List Int
  | 0, _ => []
  | f + 1, n => if n ≠ top ∧ n < top then n :: chain xs top f (at1 xs n) else []

def arc (xs : List Int) (top : Int) : List Int := top :: chain xs top xs.length (at1 xs top)

def roundsTo (xs : List Int) : Nat → List Int
  | 0 => []
  | t + 1 => roundsTo xs t ++ (if at1 xs ((arc xs (t + 1)).getLastD 0) = (t : Int) + 1 then arc xs (t + 1) else [])

def roundsOf (xs : List Int) : List Int := roundsTo xs xs.length

theorem chain_stop {xs : List Int} {top n : Int} (f : Nat) (h : ¬ (n ≠ top ∧ n < top)) : chain xs top f n = [] := by
  cases f with
  | zero => rfl
  | succ f => rw [chain, if_neg h]

theorem chain_go {xs : List Int} {top n : Int} (f : Nat) (h : n ≠ top ∧ n < top) : chain xs top (f + 1) n = n :: chain xs top f (at1 xs n) := by
  rw [chain, if_pos h]

theorem Path.length_le {xs : List Int} {top n : Int} {l : List Int} (hp : IsPerm xs) (h : Path xs top l n) : l.length ≤ xs.length :=
  nodup_bound (h.nodup hp) h.range

theorem Path.n_range {xs : List Int} {top n : Int} {l : List Int} (hp : IsPerm xs) (h : Path xs top l n) : 1 ≤ n ∧ n ≤ (xs.length : Int) := by
  have hpos := h.pos
  have hlast : l.getLastD 0 = l[l.length - 1] := getLastD_get hpos
  rw [h.last, hlast]
  have := h.range _ (List.getElem_mem (show l.length - 1 < l.length by omega))
  exact hp.at1_mem this.1 this.2

theorem Path.chain {xs : List Int} {top : Int} (hp : IsPerm xs) : ∀ (f : Nat) (l : List Int) (n : Int), Path xs top l n → ∃ n', Path xs top (l ++ chain xs top f n) n'
  | 0, l, n, h => ⟨n, by simpa [Proofs.YtpmkdihencepnaaGreat.chain] using h⟩
  | f + 1, l, n, h => by
    by_cases hc : n ≠ top ∧ n < top
    · rw [chain_go _ hc]
      obtain ⟨n', h'⟩ := Path.chain hp f (l ++ [n]) (at1 xs n) (h.next hp hc.2)
      exact ⟨n', by simpa using h'⟩
    · rw [chain_stop _ hc]
      exact ⟨n, by simpa using h⟩

theorem arc_path {xs : List Int} {top : Int} (hp : IsPerm xs) (h1 : 1 ≤ top) (h2 : top ≤ xs.length) : ∃ n, Path xs top (arc xs top) n :=
  Path.chain hp xs.length [top] _ (Path.start h1 h2)

theorem roundsTo_le {xs : List Int} (hp : IsPerm xs) : ∀ t, t ≤ xs.length → (roundsTo xs t).length ≤ t * xs.length
  | 0, _ => by simp [roundsTo]
  | t + 1, h => by
    have ih := roundsTo_le hp t (by omega)
    rw [roundsTo, List.length_append, Nat.add_mul]
    split
    · obtain ⟨n, hn⟩ := arc_path (top := (t : Int) + 1) hp (by omega) (by omega)
      have := hn.length_le hp
      omega
    · simp; omega

/-! The other way: a list, cut before each number that is above all ahead. -/

/-- What the number at place k goes to. -/
def nxt (q : List Int) (k : Nat) : Int := if q.getD (k + 1) 100 < topTo q k then q.getD (k + 1) 100 else topTo q k

theorem IsBlock.nxt {q : List Int} {i t : Nat} (h : IsBlock q i t) {k : Nat} (hik : i ≤ k) (hkt : k < t) :
    Proofs.YtpmkdihencepnaaGreat.nxt q k = if k + 1 < t then q.getD (k + 1) 0 else q.getD i 0 := by
  have ht := h.top hik hkt
  have hr := h.perm.getD_range h.lt
  have htl := h.tl
  have hn := h.n40
  unfold Proofs.YtpmkdihencepnaaGreat.nxt
  rw [ht]
  by_cases h1 : k + 1 < t
  · have hl : k + 1 < q.length := by omega
    have := h.low (k + 1) (by omega) h1
    rw [getD_get hl] at this
    rw [if_pos h1, getD_get hl, getD_get hl, if_pos this]
  · rw [if_neg h1]
    have e : k + 1 = t := by omega
    rw [e]
    by_cases hl : t < q.length
    · rcases h.stop with hs | hs
      · omega
      · rw [getD_get hl] at hs
        rw [getD_get hl, if_neg (by omega)]
    · rw [getD_far (by omega), if_neg (by omega)]

/-- One more number is told where it goes. -/
theorem done_step {q zs : List Int} (hp : IsPerm q) (hz : zs.length = q.length) {k : Nat} (hk : k < q.length) (hd : ∀ j, j < k → at1 zs (q.getD j 0) = nxt q j) {v : Int} (hv : v = nxt q k) :
    ∀ j, j < k + 1 → at1 (zs.set ((q.getD k 0).toNat - 1) v) (q.getD j 0) = nxt q j := by
  intro j hj
  have hjl : j < q.length := by omega
  have hrj : 1 ≤ q.getD j 0 ∧ q.getD j 0 ≤ q.length := by rw [getD_get hjl]; exact hp.2 _ (List.getElem_mem hjl)
  have hrk : 1 ≤ q.getD k 0 ∧ q.getD k 0 ≤ q.length := by rw [getD_get hk]; exact hp.2 _ (List.getElem_mem hk)
  have hl1 : (q.getD j 0 - 1).toNat < (zs.set ((q.getD k 0).toNat - 1) v).length := by simp only [List.length_set]; omega
  unfold at1
  rw [getD_get hl1, List.getElem_set]
  by_cases he : j = k
  · subst he
    rw [if_pos (by omega)]; exact hv
  · have hne : q.getD j 0 ≠ q.getD k 0 := fun e => he (by
      rw [getD_get hjl, getD_get hk] at e
      exact nodup_get hp.1 hjl hk e)
    rw [if_neg (by omega)]
    have := hd j (by omega)
    unfold at1 at this
    rw [getD_get (by omega)] at this
    exact this

end Go.Proofs.YtpmkdihencepnaaGreat

/-
  perms.Check, perms.Letters: what they answer.
-/
namespace Go.Proofs.YtpmkdihencepnaaGreat
open Go.RowKit

def permChk (xs : List Int) : Int := if 40 < xs.length then 2 else if IsPerm xs then 0 else 1

theorem permChk_large {xs : List Int} (h : 40 < xs.length) : permChk xs = 2 := by simp [permChk, h]
theorem permChk_ok {xs : List Int} (h : ¬ 40 < xs.length) (hp : IsPerm xs) : permChk xs = 0 := by simp [permChk, h, hp]
theorem permChk_bad {xs : List Int} (h : ¬ 40 < xs.length) (hp : ¬ IsPerm xs) : permChk xs = 1 := by simp [permChk, h, hp]

/-- The table of the numbers that were seen. -/
def SeenArr (w : World) (g : Nat) (xs : List Int) : Prop :=
  ∃ cs : Array Value, w.heap[g]? = some (.cells cs 71 (0, 0)) ∧ cs.size = 41 ∧ ∀ i : Nat, i < 41 → cs[i]? = some (.bool (decide ((i : Int) ∈ xs)))

theorem SeenArr.cell {w : World} {g : Nat} {xs : List Int} (h : SeenArr w g xs) {x : Int} (h0 : 0 ≤ x) (h1 : x ≤ 40) :
    w.cell? ⟨g, x.toNat, none⟩ = some (.bool (decide (x ∈ xs))) := by
  obtain ⟨cs, hg, hs, hc⟩ := h
  rw [cell_of_row _ _ _ _ _ _ hg, hc _ (by omega), Int.toNat_of_nonneg h0]
theorem SeenArr.frozen {w : World} {g : Nat} {xs : List Int} (h : SeenArr w g xs) (i : Nat) : w.frozen? ⟨g, i, none⟩ = false := by
  obtain ⟨cs, hg, hs, hc⟩ := h
  exact frozen_of_row w g i cs _ hg
theorem SeenArr.set_ {w : World} {g : Nat} {xs ys : List Int} (h : SeenArr w g xs) {x : Int} (h0 : 0 ≤ x) (h1 : x ≤ 40) (hy : ∀ y, y ∈ ys ↔ y ∈ xs ∨ y = x) :
    SeenArr (w.setCell ⟨g, x.toNat, none⟩ (.bool true)) g ys := by
  obtain ⟨cs, hg, hs, hc⟩ := h
  refine ⟨cs.setIfInBounds x.toNat (.bool true), heap_setCell_same w g _ cs _ _ hg, by simpa using hs, fun i hi => ?_⟩
  rw [Array.getElem?_setIfInBounds]
  split
  · subst_vars
    rw [if_pos (by omega)]
    simp only [Option.some.injEq, Value.bool.injEq]
    refine (decide_eq_true ?_).symm
    rw [hy]; right; omega
  · rw [hc i hi]
    simp only [Option.some.injEq, Value.bool.injEq, decide_eq_decide]
    rw [hy]
    constructor
    · exact Or.inl
    · rintro (h | h)
      · exact h
      · omega

theorem seen_new (w : World) : SeenArr (w.alloc (.cells #[.bool false, .bool false, .bool false, .bool false, .bool false, .bool false, .bool false, .bool false, .bool false, .bool false, .bool false, .bool false, .bool false, .bool false, .bool false, .bool false, .bool false, .bool false, .bool false, .bool false, .bool false, .bool false, .bool false, .bool false, .bool false, .bool false, .bool false, .bool false, .bool false, .bool false, .bool false, .bool false, .bool false, .bool false, .bool false, .bool false, .bool false, .bool false, .bool false, .bool false, .bool false] 71)) w.heap.size [] := by
  refine ⟨Array.replicate 41 (.bool false), heap_alloc_new _ _, by simp, fun i hi => ?_⟩
  simp [hi]

set_option maxHeartbeats 800000 in
theorem check_any (A : Option Addr) (cap : Nat) (xs : List Int) (w : World) (hcl : xs.length ≤ 9223372036854775807) (h : Sl w w.heap.size A (ints xs)) :
    Calls Tryz.prog 44 #[.slice A xs.length cap] w fun e w' => e = .returned (.int .i64 (permChk xs)) ∧ Below w.heap.size w w' := by
  by_cases hn : 40 < xs.length
  · rw [permChk_large hn]
    go_enter Tryz.func44, Tryz.ntmps44
    go_wp2
    go_ret
    exact ⟨rfl, Below.refl _ _⟩
  have hn' : xs.length ≤ 40 := by omega
  have HN := Lib.hid hn
  clear hn
  go_enter Tryz.func44, Tryz.ntmps44
  go_wp2
  go_loopw [11] (fun i wr => ∃ k : Nat, k ≤ xs.length ∧ i = .int .i64 k ∧ SeenArr wr w.heap.size (xs.take k) ∧ Below w.heap.size w wr ∧ (xs.take k).Nodup ∧ ∀ x ∈ xs.take k, 1 ≤ x ∧ x ≤ (xs.length : Int)) (fun i _ => xs.length - (intOf i).toNat)
  case atStart =>
    exact ⟨0, by omega, rfl, seen_new w, (Below.refl _ _).alloc (Nat.le_refl _) _, by simp, by simp⟩
  case round =>
    obtain ⟨k, hk, rfl, hseen, hbl, hnd, hrg⟩ := hrel
    have HND := Lib.hid hnd
    have HRG := Lib.hid hrg
    have HS := Lib.hid hseen
    clear hnd hrg hseen
    by_cases hlt : k < xs.length
    · obtain ⟨b, o, rfl, hb, hc0⟩ := h.at_ hlt
      have hcx := (hbl.cell (p := ⟨b, o + k, none⟩) (by exact hb)).trans hc0
      have ht := take_snoc hlt
      obtain ⟨x, hx⟩ : ∃ x, x = xs[k] := ⟨_, rfl⟩
      rw [← hx] at hcx ht
      have HT := Lib.hid ht
      have HX := Lib.hid hx
      clear hc0 ht hx
      have hxm : Hid (x ∈ xs) := by rw [HX.out]; exact List.getElem_mem hlt
      by_cases h1 : x < 1
      · have hfin : Hid (permChk xs = 1) := permChk_bad HN.out (fun hp => by have := (hp.2 x hxm.out).1; omega)
        go_wp2
        go_ret
        exact ⟨by rw [hfin.out]; rfl, hbl⟩
      by_cases h2 : (xs.length : Int) < x
      · have hfin : Hid (permChk xs = 1) := permChk_bad HN.out (fun hp => by have := (hp.2 x hxm.out).2; omega)
        go_wp2
        go_ret
        exact ⟨by rw [hfin.out]; rfl, hbl⟩
      have hcs := HS.out.cell (x := x) (by omega) (by omega)
      by_cases h3 : x ∈ xs.take k
      · have hfin : Hid (permChk xs = 1) := permChk_bad HN.out (fun hp => by
          have := hp.1
          rw [← List.take_append_drop (k + 1) xs, List.nodup_append, HT.out, nodup_snoc] at this
          exact this.1.2 h3)
        rw [decide_eq_true h3] at hcs
        go_wp2
        go_ret
        exact ⟨by rw [hfin.out]; rfl, hbl⟩
      · rw [decide_eq_false h3] at hcs
        have hfr := HS.out.frozen x.toNat
        have H3 := Lib.hid h3
        clear h3
        go_wp2
        go_roundw
        case rel =>
          refine ⟨k + 1, by omega, by go_num, HS.out.set_ (by omega) (by omega) (fun y => ?_), hbl.setCell (by exact Nat.le_refl _) _, ?_, ?_⟩
          · rw [HT.out]; simp
          · rw [HT.out]; exact nodup_snoc.2 ⟨HND.out, H3.out⟩
          · rw [HT.out]
            intro y hy
            rcases List.mem_append.1 hy with hy | hy
            · exact HRG.out y hy
            · simp at hy; omega
        case measure => simp [intOf]; omega
    · have hfin : Hid (permChk xs = 0) := permChk_ok HN.out ⟨by have := HND.out; rwa [List.take_of_length_le (by omega)] at this, by have := HRG.out; rwa [List.take_of_length_le (by omega)] at this⟩
      go_wp2
      go_ret
      exact ⟨by rw [hfin.out]; rfl, hbl⟩

end Go.Proofs.YtpmkdihencepnaaGreat

/-
  A list of a call's own.
-/
namespace Go.Proofs.YtpmkdihencepnaaGreat
open Go.RowKit

/-- What a call that tells a list leaves: a list of its own, of a given kind. -/
def Tol (R : List Int → Prop) (B : Nat) (e : Ending) (w : World) : Prop :=
  ∃ (xs : List Int) (A : Option Addr) (c : Nat) (k : Int), e = .returned (.tuple #[.slice A xs.length c, .int .i64 k]) ∧ w.ownsRow B 3 1 (.slice A xs.length c) xs.length (ints xs) ∧ R xs
theorem own_sliceT {w : World} {base n : Nat} {v : Value} {xs : List Int} (h : w.ownsRow base 3 1 v n (ints xs)) : ∃ A c, v = .slice A xs.length c ∧ n = xs.length ∧ w.ownsRow base 3 1 (.slice A xs.length c) xs.length (ints xs) := by
  have hl : xs.length = n := by have := h.1; rw [ints_length] at this; omega
  subst hl
  rcases h.2 with ⟨e1, e2⟩ | ⟨g, c, _, e1, _⟩
  · rw [e1] at h
    exact ⟨none, 0, by rw [e2]; exact e1, rfl, by rw [e2] at h ⊢; exact h⟩
  · rw [e1] at h
    exact ⟨_, c, e1, rfl, h⟩
theorem tol_own {R : List Int → Prop} {w : World} {B n : Nat} {v : Value} {xs : List Int} (h : w.ownsRow B 3 1 v n (ints xs)) (k : Int) (hR : R xs) : Tol R B (.returned (.tuple #[v, .int .i64 k])) w := by
  obtain ⟨A, c, rfl, _, h1⟩ := own_sliceT h
  exact ⟨xs, A, c, k, rfl, h1, hR⟩
theorem tol_bad {R : List Int → Prop} (B : Nat) (w : World) (k : Int) (h : R []) : Tol R B (.returned (.tuple #[.slice none 0 0, .int .i64 k])) w := ⟨[], none, 0, k, rfl, World.ownsRow_nil _ _ _ _, h⟩
theorem Tol.mono {R R' : List Int → Prop} {B : Nat} {e : Ending} {w : World} (h : Tol R B e w) (hR : ∀ xs, R xs → R' xs) : Tol R' B e w := by
  obtain ⟨xs, A, c, k, h1, h2, h3⟩ := h
  exact ⟨xs, A, c, k, h1, h2, hR xs h3⟩
theorem Tol.low {R : List Int → Prop} {B B' : Nat} {e : Ending} {w : World} (h : Tol R B e w) (hB : B' ≤ B) : Tol R B' e w := by
  obtain ⟨xs, A, c, k, h1, h2, h3⟩ := h
  exact ⟨xs, A, c, k, h1, h2.mono hB, h3⟩
end Go.Proofs.YtpmkdihencepnaaGreat

/-
  perms.Rounds: what it answers.
-/
namespace Go.Proofs.YtpmkdihencepnaaGreat
open Go.RowKit

def lenOf : Value → Nat | .slice _ n _ => n | _ => 0

theorem cell_at1 {w : World} {B b o : Nat} {xs : List Int} (h : Sl w B (some ⟨b, o, none⟩) (ints xs)) {n : Int} (h1 : 1 ≤ n) (h2 : n ≤ xs.length) :
    w.cell? ⟨b, o + (n.toNat - 1), none⟩ = some (.int .i64 (at1 xs n)) := by
  have hk : n.toNat - 1 < xs.length := by omega
  obtain ⟨b', o', e1, _, hc'⟩ := h.at_ hk
  obtain ⟨rfl, rfl⟩ : b = b' ∧ o = o' := by simpa using e1
  rw [hc', ← at1_get hk]
  congr 3; omega

set_option maxHeartbeats 1000000 in
theorem rounds_ok (A : Option Addr) (cap : Nat) (xs : List Int) (w : World) (hn : xs.length ≤ 40) (hp : IsPerm xs) (h : Sl w w.heap.size A (ints xs)) :
    Calls Tryz.prog 18 #[.slice A xs.length cap] w fun e w' => Tol (fun ys => ys = roundsOf xs) w.heap.size e w' ∧ Below w.heap.size w w' := by
  have hk : Hid (permChk xs = 0) := permChk_ok (by omega) hp
  have HP := Lib.hid hp
  clear hp
  go_enter Tryz.func18, Tryz.ntmps18
  go_wp2_with fail
  refine (check_any _ _ _ _ (by omega) h).mono ?_
  rintro e w1 ⟨rfl, hb1⟩
  rw [hk.out]
  have h1 := (h.below hb1)
  go_wp2
  go_loopw [5, 6] (fun ov tv wr => ∃ t : Nat, t ≤ xs.length ∧ tv = .int .i64 ((t : Int) + 1) ∧ wr.ownsRow w.heap.size 3 1 ov (roundsTo xs t).length (ints (roundsTo xs t)) ∧ Below w.heap.size w wr) (fun _ tv _ => xs.length + 1 - (intOf tv).toNat)
  case atStart =>
    exact ⟨0, by omega, rfl, World.ownsRow_nil _ _ _ _, hb1⟩
  case round =>
    obtain ⟨t, ht, rfl, hown, hbl⟩ := hrel
    obtain ⟨wo, rfl⟩ : ∃ wo : World, wo = wr := ⟨_, rfl⟩
    have HO := Lib.hid hown
    clear hown
    have h2 := h.below hbl
    by_cases hlt : t < xs.length
    · obtain ⟨b, o, rfl, hb, hc0⟩ := h2.at_ hlt
      rw [← at1_get hlt] at hc0
      have hb' : b < wo.heap.size := by have := hbl.size; omega
      obtain ⟨x0, hx0⟩ : ∃ x, x = at1 xs ((t : Int) + 1) := ⟨_, rfl⟩
      rw [← hx0] at hc0
      have HX := Lib.hid hx0
      clear hx0
      have hd1 : decide ((t : Int) + 1 ≤ (xs.length : Int)) = true := by simp; omega
      go_wp2
      go_loopw [7, 8] (fun lv nv wr => ∃ (l : List Int) (n : Int), Path xs ((t : Int) + 1) l n ∧ nv = .int .i64 n ∧ wr.ownsRow wo.heap.size 3 1 lv l.length (ints l) ∧ Below wo.heap.size wo wr ∧
          l ++ chain xs ((t : Int) + 1) (xs.length + 1 - l.length) n = arc xs ((t : Int) + 1)) (fun lv _ _ => xs.length + 1 - lenOf lv)
      case atStart =>
        refine ⟨[(t : Int) + 1], x0, ?_, rfl, ?_, (Below.refl _ _).alloc (Nat.le_refl _) _, ?_⟩
        · rw [HX.out]; exact Path.start (by omega) (by omega)
        · have := World.ownsRow_lit (e := 3) (size := 1) (base := wo.heap.size) wo #[.int .i64 ((t : Int) + 1)] 1 (Nat.le_refl _) (by decide) rfl
          simpa [ints] using this
        · rw [HX.out]; simp [arc]
      case round =>
        obtain ⟨l, n, hpath, rfl, hl, hbi, harc⟩ := hrel
        have hll := hpath.length_le HP.out
        have hlp := hpath.pos
        have hnr := hpath.n_range HP.out
        have hlast := getLastD_get (d := 0) hlp
        obtain ⟨g, lc, rfl, hg1, hg2⟩ := hl.form hlp
        have hcl : wr.cell? ⟨g, l.length - 1, none⟩ = some (.int .i64 (l.getLastD 0)) := by
          rw [hl.cellAt _ (by omega), ints_get (show l.length - 1 < l.length by omega), hlast]
        have hlr := hpath.range _ (List.getElem_mem (show l.length - 1 < l.length by omega))
        rw [← hlast] at hlr
        have hnl := hpath.last
        obtain ⟨y, hy⟩ : ∃ y, y = l.getLastD 0 := ⟨_, rfl⟩
        rw [← hy] at hcl hlr hnl
        have HNL := Lib.hid hnl
        have HA := Lib.hid harc
        have HPA := Lib.hid hpath
        have HL := Lib.hid hl
        have HY := Lib.hid hy
        clear hnl harc hpath hl hy hlast
        by_cases hc : n ≠ (t : Int) + 1 ∧ n < (t : Int) + 1
        · obtain ⟨hc1, hc2⟩ := hc
          have hcn : Hid (wr.cell? ⟨b, o + (n.toNat - 1), none⟩ = some (.int .i64 (at1 xs n))) := cell_at1 (h2.below (hbi.mono (by have := hbl.size; omega))) hnr.1 hnr.2
          obtain ⟨x1, hx1⟩ : ∃ x, x = at1 xs n := ⟨_, rfl⟩
          rw [← hx1] at hcn
          have HX1 := Lib.hid hx1
          clear hx1
          go_wp2_with (at_builtin; refine wpList_app1 rfl (.tmp 40) (.tmp 42) rfl rfl n HL.out rfl (by omega) hbi.size (fun g2 c2 w2 hl2 hb2 => ?_); have hcn2 := (hb2.cell (p := ⟨b, o + (n.toNat - 1), none⟩) (by exact hb')).trans hcn.out)
          go_roundw
          case rel =>
            refine ⟨l ++ [n], x1, ?_, rfl, ?_, hbi.trans hb2, ?_⟩
            · rw [HX1.out]; exact HPA.out.next HP.out hc2
            · simpa using hl2
            · rw [HX1.out, ← HA.out, show xs.length + 1 - l.length = (xs.length + 1 - (l ++ [n]).length) + 1 by simp; omega, chain_go _ ⟨hc1, hc2⟩, List.append_assoc]
              rfl
          case measure => simp [lenOf]; omega
        · have hl' : Hid (l = arc xs ((t : Int) + 1)) := by
            have := HA.out; rwa [chain_stop _ hc, List.append_nil] at this
          have hcy := cell_at1 (h2.below (hbi.mono (by have := hbl.size; omega))) hlr.1 hlr.2
          rw [← HNL.out] at hcy
          have hfin : Hid (roundsTo xs (t + 1) = roundsTo xs t ++ (if n = (t : Int) + 1 then l else [])) := by
            show _ = _
            rw [roundsTo, ← hl'.out, HNL.out, HY.out]
          by_cases hc1 : n = (t : Int) + 1
          · have hrl := roundsTo_le HP.out t (by omega)
            have hrl2 : t * xs.length ≤ 40 * 40 := Nat.mul_le_mul (by omega) hn
            have hou := own_below HO.out hbi
            have HOU := Lib.hid hou
            clear hou
            have HC1 := Lib.hid hc1
            clear hc1
            have hc2 : (n == (t : Int) + 1) = true := by simpa using HC1.out
            go_wp2_with (at_builtin; refine wpList_app rfl (.tmp 56) (.tmp 57) rfl rfl HOU.out lc rfl (Sl.of_own HL.out) (by omega) (by have := hbl.size; have := hbi.size; omega) (fun v3 w3 hv3 hb3 => ?_))
            go_roundw
            case rel =>
              refine ⟨t + 1, by omega, by go_num, ?_, (hbl.trans (hbi.mono (by have := hbl.size; omega))).trans hb3⟩
              rw [hfin.out, if_pos HC1.out]
              exact hv3
            case measure => simp [intOf]; omega
          · go_wp2
            go_roundw
            case rel =>
              refine ⟨t + 1, by omega, by go_num, ?_, hbl.trans (hbi.mono (by have := hbl.size; omega))⟩
              rw [hfin.out, if_neg hc1, List.append_nil]
              exact own_below HO.out hbi
            case measure => simp [intOf]; omega
    · obtain rfl : t = xs.length := by omega
      obtain ⟨A', c', hv⟩ : ∃ A' c', u5 = .slice A' (roundsTo xs xs.length).length c' := by
        rcases HO.out.2 with ⟨h1, h2⟩ | ⟨g, c, _, h1, _⟩
        · exact ⟨none, 0, by rw [h2]; exact h1⟩
        · exact ⟨_, c, h1⟩
      rw [hv] at HO ⊢
      go_wp2
      go_ret2
      exact ⟨tol_own (xs := roundsOf xs) HO.out 0 rfl, hbl⟩

end Go.Proofs.YtpmkdihencepnaaGreat

/-
  perms.Unrounds: what it answers.
-/
namespace Go.Proofs.YtpmkdihencepnaaGreat
open Go.RowKit

set_option maxHeartbeats 1000000 in
theorem unrounds_ok (A : Option Addr) (cap : Nat) (q : List Int) (w : World) (hn : q.length ≤ 40) (hp : IsPerm q) (h : Sl w w.heap.size A (ints q)) :
    Calls Tryz.prog 19 #[.slice A q.length cap] w fun e w' => Tol (fun ys => ys.length = q.length ∧ ∀ k, k < q.length → at1 ys (q.getD k 0) = nxt q k) w.heap.size e w' ∧ Below w.heap.size w w' := by
  have hk : Hid (permChk q = 0) := permChk_ok (by omega) hp
  have HP := Lib.hid hp
  clear hp
  go_enter Tryz.func19, Tryz.ntmps19
  go_wp2_with fail
  refine (check_any _ _ _ _ (by omega) h).mono ?_
  rintro e w1 ⟨rfl, hb1⟩
  rw [hk.out]
  have h1 := (h.below hb1)
  go_wp2_with (at_make; refine wpList_mk rfl (.tmp 15) (.tmp 15) rfl q.length rfl rfl (by omega) (Nat.le_refl _) (fun w2 hown2 hb2 hz2 => ?_))
  have HO2 := Lib.hid hown2
  clear hown2
  go_loopw [6] (fun iv wr => ∃ (i : Nat) (ys : List Int), i ≤ q.length ∧ iv = .int .i64 i ∧ ys.length = q.length ∧ wr.ownsRow w1.heap.size 3 1 (.slice (some ⟨w1.heap.size, 0, none⟩) q.length q.length) q.length (ints ys) ∧ Below w1.heap.size w1 wr ∧
      (∀ k, k < i → at1 ys (q.getD k 0) = nxt q k) ∧ (∀ (j : Nat), j < i → q.getD j 0 < q.getD i 100)) (fun iv _ => q.length - (intOf iv).toNat)
  case atStart =>
    exact ⟨0, _, by omega, rfl, by simp, HO2.out, hb2, fun k hk => by omega, fun j hj => by omega⟩
  case round =>
    obtain ⟨i, ys, hi, rfl, hyl, hown, hbl, hdone, hrec⟩ := hrel
    obtain ⟨wo, rfl⟩ : ∃ wo : World, wo = wr := ⟨_, rfl⟩
    have HO := Lib.hid hown
    have HD := Lib.hid hdone
    have HR := Lib.hid hrec
    have HY := Lib.hid hyl
    clear hown hdone hrec hyl
    have h2 := h1.below (hbl.mono hb1.size)
    by_cases hlt : i < q.length
    · obtain ⟨b, o, rfl, hb, hc0⟩ := h2.at_ hlt
      have hd1 : decide (i < q.length) = true := by simpa using hlt
      have hb' : b < wo.heap.size := by have := hbl.size; have := hb1.size; omega
      go_upto_block 2 with fail
      go_cut [7] (fun tv wr => ∃ (t : Nat), i < t ∧ t ≤ q.length ∧ tv = .int .i64 t ∧ (∀ j, i < j → j < t → q.getD j 0 < q.getD i 0) ∧ (t = q.length ∨ q.getD i 0 ≤ q.getD t 0) ∧ ∃ d, wr = wo.drewN d)
      case first =>
        go_wp2
        go_loopw [7] (fun tv wr => ∃ (t : Nat), i < t ∧ t ≤ q.length ∧ tv = .int .i64 t ∧ (∀ j, i < j → j < t → q.getD j 0 < q.getD i 0) ∧ ∃ d, wr = wo.drewN d) (fun tv _ => q.length - (intOf tv).toNat)
        case atStart => exact ⟨i + 1, by omega, by omega, by go_num, fun j h1 h2 => by omega, 0, rfl⟩
        case round =>
          obtain ⟨t, hit, htl, rfl, hlow, d, rfl⟩ := hrel
          have HLOW := Lib.hid hlow
          clear hlow
          have hci : wo.cell? ⟨b, o + i, none⟩ = some (.int .i64 (q.getD i 0)) := by rw [getD_get hlt]; exact hc0
          by_cases hc1 : t < q.length
          · have hct : wo.cell? ⟨b, o + t, none⟩ = some (.int .i64 (q.getD t 0)) := by
              obtain ⟨b', o', e1, _, hc'⟩ := h2.at_ hc1
              obtain ⟨rfl, rfl⟩ : b = b' ∧ o = o' := by simpa using e1
              rw [getD_get hc1]; exact hc'
            have hd2 : decide (t < q.length) = true := by simpa using hc1
            obtain ⟨x, hx⟩ : ∃ x, x = q.getD i 0 := ⟨_, rfl⟩
            obtain ⟨y, hy⟩ : ∃ x, x = q.getD t 0 := ⟨_, rfl⟩
            rw [← hx] at hci
            rw [← hy] at hct
            have HX := Lib.hid hx
            have HYY := Lib.hid hy
            clear hx hy hc0
            by_cases hc2 : y < x
            · have hd3 : decide (y < x) = true := by simpa using hc2
              go_wp2
              go_quiet (fail)
              go_wp2
              go_roundw
              case rel =>
                refine ⟨t + 1, by omega, by omega, by go_num, fun j h1 h2 => ?_, _, rfl⟩
                by_cases hj : j < t
                · exact HLOW.out j h1 hj
                · obtain rfl : j = t := by omega
                  rw [← HX.out, ← HYY.out]; exact hc2
              case measure => simp [intOf]; omega
            · have hd3 : decide (y < x) = false := by simpa using hc2
              go_wp2
              go_quiet (fail)
              go_wp2
              go_meet
              case rel => exact ⟨t, hit, htl, rfl, HLOW.out, .inr (by rw [← HX.out, ← HYY.out]; omega), _, World.drewN_drewN ..⟩
          · have hd2 : decide (t < q.length) = false := by simpa using hc1
            go_wp2
            go_quiet (fail)
            go_wp2
            go_meet
            case rel => exact ⟨t, hit, htl, rfl, HLOW.out, .inl (by omega), _, World.drewN_drewN ..⟩
      case rest =>
        obtain ⟨t, hit, htl, rfl, hlow, hstop, d, rfl⟩ := hcut
        have HB : Hid (IsBlock q i t) := ⟨HP.out, hn, hlt, hit, htl, HR.out, hlow, hstop⟩
        clear hlow hstop
        go_wp2
        go_loopw [8] (fun kv wr => ∃ (k : Nat) (zs : List Int), i ≤ k ∧ k ≤ t ∧ kv = .int .i64 k ∧ zs.length = q.length ∧ wr.ownsRow w1.heap.size 3 1 (.slice (some ⟨w1.heap.size, 0, none⟩) q.length q.length) q.length (ints zs) ∧ Below w1.heap.size w1 wr ∧
            (∀ j, j < k → at1 zs (q.getD j 0) = nxt q j)) (fun kv _ => q.length - (intOf kv).toNat)
        case atStart => exact ⟨i, ys, by omega, by omega, rfl, HY.out, HO.out, below_drewN hbl _, HD.out⟩
        case round =>
          obtain ⟨k, zs, hik, hkt, rfl, hzl, hown, hbk, hdone⟩ := hrel
          have HZ := Lib.hid hzl
          have HOK := Lib.hid hown
          have HDK := Lib.hid hdone
          clear hzl hown hdone
          by_cases hk : k < t
          · have hdk : decide (k < t) = true := by simpa using hk
            have hd2 : k < q.length := by omega
            have h3 := h1.below (hbk.mono hb1.size)
            have hx : 1 ≤ q.getD k 0 ∧ q.getD k 0 ≤ q.length := by rw [getD_get hd2]; exact HP.out.2 _ (List.getElem_mem hd2)
            have hck : wr.cell? ⟨b, o + k, none⟩ = some (.int .i64 (q.getD k 0)) := by
              obtain ⟨b', o', e1, _, hc'⟩ := h3.at_ hd2
              obtain ⟨rfl, rfl⟩ : b = b' ∧ o = o' := by simpa using e1
              rw [getD_get hd2]; exact hc'
            have hci : wr.cell? ⟨b, o + i, none⟩ = some (.int .i64 (q.getD i 0)) := by
              obtain ⟨b', o', e1, _, hc'⟩ := h3.at_ hlt
              obtain ⟨rfl, rfl⟩ : b = b' ∧ o = o' := by simpa using e1
              rw [getD_get hlt]; exact hc'
            obtain ⟨x, hx0⟩ : ∃ x, x = q.getD k 0 := ⟨_, rfl⟩
            obtain ⟨y, hy⟩ : ∃ x, x = q.getD i 0 := ⟨_, rfl⟩
            rw [← hx0] at hck hx
            rw [← hy] at hci
            have HX := Lib.hid hx0
            have HYY := Lib.hid hy
            clear hx0 hy hc0
            have hox := HOK.out.cellAt (x.toNat - 1) (by have := HZ.out; omega)
            rw [ints_get (by have := HZ.out; omega)] at hox
            have hfx := HOK.out.frozenAt (x.toNat - 1)
            have hne : b ≠ w1.heap.size := by have := hb1.size; omega
            by_cases hk1 : k + 1 < t
            · have hd3 : decide ((k : Int) + 1 < (t : Int)) = true := by simp; omega
              have hck1 : wr.cell? ⟨b, o + (k + 1), none⟩ = some (.int .i64 (q.getD (k + 1) 0)) := by
                obtain ⟨b', o', e1, _, hc'⟩ := h3.at_ (show k + 1 < q.length by omega)
                obtain ⟨rfl, rfl⟩ : b = b' ∧ o = o' := by simpa using e1
                rw [getD_get (show k + 1 < q.length by omega)]; exact hc'
              go_wp2
              go_region
              go_wp2
              go_region
              all_goals (try go_wp2)
              go_roundw
              case rel =>
                refine ⟨k + 1, (zs.set (x.toNat - 1) y).set (x.toNat - 1) (q.getD (k + 1) 0), by omega, by omega, by go_num, ?_, ?_, ?_, ?_⟩
                · simp [HZ.out]
                · exact own_set (own_set HOK.out _ _) _ _
                · exact ((hbk.setCell (by exact Nat.le_refl _) _).drew.setCell (by exact Nat.le_refl _) _).drew
                · have hd := done_step HP.out HZ.out (v := q.getD (k + 1) 0) hd2 HDK.out (by rw [HB.out.nxt hik hk, if_pos hk1])
                  rw [List.set_set, HX.out]
                  exact hd
              case measure => simp [intOf]; omega
            · have hd3 : decide ((k : Int) + 1 < (t : Int)) = false := by simp; omega
              go_wp2
              go_region
              all_goals (try go_wp2)
              go_roundw
              case rel =>
                refine ⟨k + 1, zs.set (x.toNat - 1) y, by omega, by omega, by go_num, ?_, ?_, ?_, ?_⟩
                · simp [HZ.out]
                · exact own_set HOK.out _ _
                · exact (hbk.setCell (by exact Nat.le_refl _) _).drew
                · have hd := done_step HP.out HZ.out (v := y) hd2 HDK.out (by rw [HB.out.nxt hik hk, if_neg hk1, HYY.out])
                  rw [HX.out]
                  rw [HYY.out] at hd ⊢
                  exact hd
              case measure => simp [intOf]; omega
          · obtain rfl : k = t := by omega
            go_wp2
            go_roundw
            case rel => exact ⟨k, zs, htl, rfl, HZ.out, HOK.out, hbk, HDK.out, HB.out.next⟩
            case measure => simp [intOf]; omega
    · obtain rfl : i = q.length := by omega
      go_wp2
      go_ret2
      exact ⟨tol_own (HO.out.mono hb1.size) 0 ⟨HY.out, HD.out⟩, hb1.trans (hbl.mono hb1.size)⟩

end Go.Proofs.YtpmkdihencepnaaGreat
