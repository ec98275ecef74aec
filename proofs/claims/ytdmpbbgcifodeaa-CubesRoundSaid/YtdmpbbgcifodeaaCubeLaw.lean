/-
  CubesRound: the law, walked.
-/
import Derived.Test.YtdmpbbgcifodeaaCube7W
namespace Go.Proofs.Ytdmpbbgcifodeaa
open Go.RowKit

theorem cube_sr_heap {W : World} {B g g1 g2 : Nat} (r1 r2 : List Int) (h : W.heap[g]? = some (.cells #[.slice (some ⟨g1, 0, none⟩) r1.length r1.length, .slice (some ⟨g2, 0, none⟩) r2.length r2.length] 22))
    (h1 : W.heap[g1]? = some (.cells (ints r1).toArray 3)) (h2 : W.heap[g2]? = some (.cells (ints r2).toArray 3)) (hg : g < B) (hg1 : g1 < B) (hg2 : g2 < B) (l1 : r1.length ≤ 1000) (l2 : r2.length ≤ 1000) : SR W B (some ⟨g, 0, none⟩) [r1, r2] := by
  have row : ∀ (k : Nat) (r : List Int), W.heap[k]? = some (.cells (ints r).toArray 3) → k < B → Sl W B (some ⟨k, 0, none⟩) (ints r) := fun k r hk hkB _ => ⟨k, 0, rfl, hkB, fun j u hu => by
    rw [Nat.zero_add, cell_of_row W k j _ _ _ hk]; simpa using hu⟩
  refine ⟨[.slice (some ⟨g1, 0, none⟩) r1.length r1.length, .slice (some ⟨g2, 0, none⟩) r2.length r2.length], rfl, fun _ => ⟨g, 0, rfl, hg, fun j u hu => ?_⟩, fun r hr => ?_⟩
  · rw [Nat.zero_add, cell_of_row W g j _ _ _ h]; simpa using hu
  · match r, hr with
    | 0, _ => exact ⟨_, _, rfl, row g1 r1 h1 hg1, by simp; omega⟩
    | 1, _ => exact ⟨_, _, rfl, row g2 r2 h2 hg2, by simp; omega⟩

/-- '[][]int{r1, r2}' laid. -/
def cubeLit (w : World) (r1 r2 : List Int) (N : Nat) : World :=
  ((w.alloc (.cells (ints r1).toArray 3)).alloc (.cells (ints r2).toArray 3)).alloc (.cells #[.slice (some ⟨N, 0, none⟩) r1.length r1.length, .slice (some ⟨N + 1, 0, none⟩) r2.length r2.length] 22)
theorem cubeLit_size (w : World) (r1 r2 : List Int) (N : Nat) : (cubeLit w r1 r2 N).heap.size = w.heap.size + 3 := by simp [cubeLit]
theorem cubeLit_sr (w : World) (r1 r2 : List Int) (N : Nat) (hN : N = w.heap.size) (l1 : r1.length ≤ 1000) (l2 : r2.length ≤ 1000) : SR (cubeLit w r1 r2 N) (cubeLit w r1 r2 N).heap.size (some ⟨N + 2, 0, none⟩) [r1, r2] := by
  subst hN
  have hs := cubeLit_size w r1 r2 w.heap.size
  have a1 : (w.alloc (.cells (ints r1).toArray 3)).heap.size = w.heap.size + 1 := by simp
  have a2 : ((w.alloc (.cells (ints r1).toArray 3)).alloc (.cells (ints r2).toArray 3)).heap.size = w.heap.size + 2 := by simp
  have h0 := heap_alloc_new w (.cells (ints r1).toArray 3)
  have h1 := heap_alloc_new (w.alloc (.cells (ints r1).toArray 3)) (.cells (ints r2).toArray 3)
  have h2 := heap_alloc_new ((w.alloc (.cells (ints r1).toArray 3)).alloc (.cells (ints r2).toArray 3)) (.cells #[.slice (some ⟨w.heap.size, 0, none⟩) r1.length r1.length, .slice (some ⟨w.heap.size + 1, 0, none⟩) r2.length r2.length] 22)
  rw [a1] at h1
  rw [a2] at h2
  refine cube_sr_heap r1 r2 h2 ?_ ?_ (by omega) (by omega) (by omega) l1 l2
  · exact (heap_alloc_old _ _ (by omega)).trans ((heap_alloc_old _ _ (by omega)).trans h0)
  · exact (heap_alloc_old _ _ (by omega)).trans h1
theorem cubeLit_below {B : Nat} {w0 w : World} (h : Below B w0 w) (hB : B ≤ w.heap.size) (r1 r2 : List Int) (N : Nat) : Below B w0 (cubeLit w r1 r2 N) :=
  ((h.alloc hB _).alloc (by simp; omega) _).alloc (by simp; omega) _


theorem lit1_sr (w : World) (r : List Int) (N : Nat) (hN : N = w.heap.size) (l1 : r.length ≤ 1000) : SR ((w.alloc (.cells (ints r).toArray 3)).alloc (.cells #[.slice (some ⟨N, 0, none⟩) r.length r.length] 22)) (w.heap.size + 2) (some ⟨N + 1, 0, none⟩) [r] := by
  subst hN
  have a1 : (w.alloc (.cells (ints r).toArray 3)).heap.size = w.heap.size + 1 := by simp
  have h0 := heap_alloc_new w (.cells (ints r).toArray 3)
  have h1 := heap_alloc_new (w.alloc (.cells (ints r).toArray 3)) (.cells #[.slice (some ⟨w.heap.size, 0, none⟩) r.length r.length] 22)
  rw [a1] at h1
  have h0' : ((w.alloc (.cells (ints r).toArray 3)).alloc (.cells #[.slice (some ⟨w.heap.size, 0, none⟩) r.length r.length] 22)).heap[w.heap.size]? = _ := (heap_alloc_old _ _ (by omega)).trans h0
  refine ⟨[.slice (some ⟨w.heap.size, 0, none⟩) r.length r.length], rfl, fun _ => ⟨w.heap.size + 1, 0, rfl, by omega, fun j u hu => ?_⟩, fun k hk => ?_⟩
  · rw [Nat.zero_add, cell_of_row _ _ j _ _ _ h1]; simpa using hu
  · match k, hk with
    | 0, _ => exact ⟨_, _, rfl, fun _ => ⟨w.heap.size, 0, rfl, by omega, fun j u hu => by rw [Nat.zero_add, cell_of_row _ _ j _ _ _ h0']; simpa using hu⟩, by simp; omega⟩

theorem ChkPile.zero {p : List (List Int)} {h k : Int} (hc : ChkPile p h k) (ho : PileOk p h) : k = 0 := by
  rcases hc with ⟨_, e⟩ | ⟨e, _⟩
  · exact e
  · exact absurd ho e
theorem Pile.ok {p : List (List Int)} {r c h : Nat} (hp : Pile p r c h) : PileOk p (h : Int) ∧ p.length = r ∧ (p.getD 0 []).length = c := by
  have h1 := hp.len
  have h2 := hp.rowlen (i := 0) (by have := hp.r1; omega)
  refine ⟨⟨h, rfl, ?_⟩, h1, h2⟩
  rw [h1, h2]; exact hp
theorem turn_ok {q : List (List Int)} {r c h n : Nat} (A : Option Addr) (cap : Nat) (hp : Pile q r c h) (hn : n = q.length) (w : World) (hr : SR w w.heap.size A q) :
    Calls Try.prog 45 #[.slice A n cap, .int .i64 h] w fun e w' => (∃ A' c', e = .returned (.tuple #[.slice A' c c', .int .i64 0]) ∧ SR w' w'.heap.size A' (turnOf q r c h)) ∧ Below w.heap.size w w' := by
  obtain ⟨h1, h2, h3⟩ := hp.ok
  subst hn
  refine (turn_any A cap q h w (by have := hp.r1; omega) hr).mono ?_
  rintro e w' ⟨⟨k, rows, ho, hk, _, hz⟩, hb⟩
  have hk0 := hk.zero h1
  subst hk0
  have := hz rfl
  rw [h2, h3] at this
  rw [Int.toNat_natCast] at this
  subst this
  obtain ⟨A', c', e1, e2, _⟩ := ho
  have e3 : (turnOf q r c h).length = c := gmat_length _ _ _
  rw [e3] at e1
  exact ⟨⟨A', c', e1, e2⟩, hb⟩
theorem rest_ok {q : List (List Int)} {r c h n : Nat} (A : Option Addr) (cap : Nat) (hp : Pile q r c h) (hn : n = q.length) (w : World) (hr : SR w w.heap.size A q) :
    Calls Try.prog 46 #[.slice A n cap, .int .i64 h] w fun e w' => (∃ A' c', e = .returned (.tuple #[.slice A' r c', .int .i64 0]) ∧ SR w' w'.heap.size A' (restOf q r c h)) ∧ Below w.heap.size w w' := by
  obtain ⟨h1, h2, h3⟩ := hp.ok
  subst hn
  refine (rest_any A cap q h w (by have := hp.r1; omega) hr).mono ?_
  rintro e w' ⟨⟨k, rows, ho, hk, _, hz⟩, hb⟩
  have hk0 := hk.zero h1
  subst hk0
  have := hz rfl
  rw [h2, h3] at this
  rw [Int.toNat_natCast] at this
  subst this
  obtain ⟨A', c', e1, e2, _⟩ := ho
  have e3 : (restOf q r c h).length = r := gmat_length _ _ _
  rw [e3] at e1
  exact ⟨⟨A', c', e1, e2⟩, hb⟩
theorem mir_ok {q : List (List Int)} {r c h n : Nat} (A : Option Addr) (cap : Nat) (hp : Pile q r c h) (hn : n = q.length) (w : World) (hr : SR w w.heap.size A q) :
    Calls Try.prog 47 #[.slice A n cap, .int .i64 h] w fun e w' => (∃ A' c', e = .returned (.tuple #[.slice A' c c', .int .i64 0]) ∧ SR w' w'.heap.size A' (mirOf q r c)) ∧ Below w.heap.size w w' := by
  obtain ⟨h1, h2, h3⟩ := hp.ok
  subst hn
  refine (mir_any A cap q h w (by have := hp.r1; omega) hr).mono ?_
  rintro e w' ⟨⟨k, rows, ho, hk, _, hz⟩, hb⟩
  have hk0 := hk.zero h1
  subst hk0
  have := hz rfl
  rw [h2, h3] at this
  skip
  subst this
  obtain ⟨A', c', e1, e2, _⟩ := ho
  have e3 : (mirOf q r c).length = c := gmat_length _ _ _
  rw [e3] at e1
  exact ⟨⟨A', c', e1, e2⟩, hb⟩
theorem paths_ok {q : List (List Int)} {r c h n : Nat} (A : Option Addr) (cap : Nat) (hp : Pile q r c h) (hn : n = q.length) (w : World) (hr : SR w w.heap.size A q) :
    Calls Try.prog 48 #[.slice A n cap, .int .i64 h] w fun e w' => (∃ A' c', e = .returned (.tuple #[.slice A' h c', .int .i64 0]) ∧ Sl w' w'.heap.size A' (strs (pathsOf q r c h))) ∧ Below w.heap.size w w' := by
  obtain ⟨h1, h2, h3⟩ := hp.ok
  subst hn
  refine (paths_any A cap q h w (by have := hp.r1; omega) hr).mono ?_
  rintro e w' ⟨⟨k, rows, ⟨A', c', rfl, hs, _⟩, hk, _, hz⟩, hb⟩
  have hk0 := hk.zero h1
  subst hk0
  have := hz rfl
  rw [h2, h3, Int.toNat_natCast] at this
  subst this
  exact ⟨⟨A', c', by rw [pathsOf_length], hs⟩, hb⟩
theorem vol_ok {q : List (List Int)} {r c h n : Nat} (A : Option Addr) (cap : Nat) (hp : Pile q r c h) (hn : n = q.length) (w : World) (hr : SR w w.heap.size A q) :
    Calls Try.prog 50 #[.slice A n cap, .int .i64 h] w fun e w' => e = .returned (.tuple #[.int .i64 (volOf q r c), .int .i64 0]) ∧ w = w' := by
  obtain ⟨h1, h2, h3⟩ := hp.ok
  subst hn
  refine (vol_any A cap q h w (by have := hp.r1; omega) hr).mono ?_
  rintro e w' ⟨⟨k, v, rfl, hk, hz⟩, hw⟩
  have hk0 := hk.zero h1
  subst hk0
  have := hz rfl
  rw [h2, h3] at this
  subst this
  exact ⟨rfl, hw⟩
theorem from_ok {p : List (List Int)} {r c h : Nat} (A : Option Addr) (cap : Nat) (hp : Pile p r c h) (w : World) (hs : Sl w w.heap.size A (strs (pathsOf p r c h))) :
    Calls Try.prog 49 #[.slice A h cap] w fun e w' => (∃ A' c', e = .returned (.tuple #[.slice A' r c', .int .i64 0]) ∧ SR w' w'.heap.size A' p) ∧ Below w.heap.size w w' := by
  refine (fromPaths_ok A cap p r c h hp w hs).mono ?_
  rintro e w' ⟨⟨A', c', rfl, hs', _⟩, hb⟩
  exact ⟨⟨A', c', by rw [hp.len], hs'⟩, hb⟩
theorem rows_ok {p : List (List Int)} {n : Nat} (A A' : Option Addr) (cap cap' : Nat) (hn : n = p.length) (hl : n ≤ 8) (w : World) (h : SR w w.heap.size A p) (h' : SR w w.heap.size A' p) :
    Calls Try.prog 29 #[.slice A n cap, .slice A' n cap'] w fun e w' => e = .returned (.bool true) ∧ Below w.heap.size w w' := by
  subst hn
  refine (rows_any A A' cap cap' p p w (by omega) (by omega) h h').mono ?_
  rintro e w' ⟨rfl, hb⟩
  exact ⟨by simp, hb⟩
theorem vol_bound {p : List (List Int)} {r c h : Nat} (hp : Pile p r c h) : 0 ≤ volOf p r c ∧ volOf p r c ≤ 512 := by
  have hr := hp.r1
  have hc := hp.c1
  have hh := hp.h1
  have h1 : ∀ i, i < r → 0 ≤ psum (fun j => ent p i j) c ∧ psum (fun j => ent p i j) c ≤ 64 := fun i hi => by
    have := psum_bound (f := fun j => ent p i j) (m := 8) c (fun j hj => by have := hp.bd i j hi hj; omega)
    omega
  have h2 := psum_bound (f := fun i => psum (fun j => ent p i j) c) (m := 64) r h1
  show 0 ≤ psum (fun i => psum (fun j => ent p i j) c) r ∧ psum (fun i => psum (fun j => ent p i j) c) r ≤ 512
  omega
theorem pile_two : Pile [[2, 1]] 1 2 2 := by
  refine ⟨rfl, by decide, by decide, by decide, by decide, fun i j hi hj => ?_, fun i j hi hj => ?_, fun i j hi hj => by omega⟩
  · match i, j, hi, hj with
    | 0, 0, _, _ => decide
    | 0, 1, _, _ => decide
    | i + 1, _, hi, _ => omega
    | 0, j + 2, _, hj => omega
  · match i, j, hi, hj with
    | 0, 0, _, _ => decide
    | i + 1, _, hi, _ => omega
    | 0, j + 1, _, hj => omega
theorem turn_two : turnOf [[2, 1]] 1 2 2 = [[1, 1], [1, 0]] := by decide

set_option maxRecDepth 100000 in
set_option maxHeartbeats 4000000 in
theorem cubes_law (A : Option Addr) (cap : Nat) (p : List (List Int)) (h : Int) (w : World) (hcl : p.length ≤ 9223372036854775807) (hr : SR w w.heap.size A p) :
    Calls Try.prog 10 #[.slice A p.length cap, .int .i64 h] w fun e w' => e = .returned (.bool true) ∧ Below w.heap.size w w' := by
  have hB := Nat.le_refl w.heap.size
  have s0 := lit1_sr w [2, 1] w.heap.size rfl (by decide)
  have hb0 : Below w.heap.size w ((w.alloc (.cells (ints [2, 1]).toArray 3)).alloc (.cells #[.slice (some ⟨w.heap.size, 0, none⟩) [2, 1].length [2, 1].length] 22)) := ((Below.refl _ _).alloc hB _).alloc (by simp) _
  have hz0 : ((w.alloc (.cells (ints [2, 1]).toArray 3)).alloc (.cells #[.slice (some ⟨w.heap.size, 0, none⟩) [2, 1].length [2, 1].length] 22)).heap.size = w.heap.size + 2 := by simp
  rw [← hz0] at s0
  have c0 := turn_ok (some ⟨w.heap.size + 1, 0, none⟩) 1 pile_two (n := 1) rfl _ s0
  have C0 := Lib.hid c0
  have HB0 := Lib.hid hb0
  clear s0 c0 hb0 hz0
  go_enter Try.func10, Try.ntmps10
  go_wp2_with fail
  refine C0.out.mono ?_
  rintro e w1 ⟨⟨A1, c1, rfl, hs1⟩, hb1⟩
  rw [turn_two] at hs1
  have hW1 : Below w.heap.size w w1 := below_call HB0.out hB hb1
  have g1 := cubeLit_sr w1 [1, 1] [1, 0] w1.heap.size rfl (by decide) (by decide)
  have hs1' := hs1.keep (cubeLit_below (Below.refl _ _) (Nat.le_refl _) [1, 1] [1, 0] w1.heap.size)
  have c1' := rows_any A1 (some ⟨w1.heap.size + 2, 0, none⟩) c1 2 [[1, 1], [1, 0]] [[1, 1], [1, 0]] _ (by simp) (by simp) hs1' g1
  have C1 := Lib.hid c1'
  have HW1 := Lib.hid (cubeLit_below hW1 hW1.size [1, 1] [1, 0] w1.heap.size)
  clear C0 HB0 hb1 hs1 hs1' g1 c1' hW1
  go_wp2_with fail
  refine C1.out.mono ?_
  rintro e w2 ⟨rfl, hb2⟩
  have hW2 : Below w.heap.size w w2 := below_call HW1.out hB hb2
  clear C1 HW1 hb2
  have hr2 := hr.keep hW2
  go_wp2_with fail
  refine (turn_any A cap p h w2 hcl hr2).mono ?_
  rintro e w3 ⟨⟨k, rows, ⟨A3, c3, rfl, hs3, hl3⟩, hk, hne, hz⟩, hb3⟩
  have hW3 := below_call hW2 hB hb3
  rcases hk with ⟨hok, rfl⟩ | ⟨hok, rfl⟩
  · have := hz rfl
    obtain ⟨H, rfl, hp⟩ := hok
    obtain ⟨r, hrr⟩ : ∃ r, r = p.length := ⟨_, rfl⟩
    obtain ⟨c, hcc⟩ : ∃ c, c = (p.getD 0 []).length := ⟨_, rfl⟩
    rw [Int.toNat_natCast, ← hrr, ← hcc] at this
    rw [← hrr, ← hcc] at hp
    have hl : rows.length = c := by rw [this]; exact gmat_length _ _ _
    rw [hl, ← hrr]
    subst this
    have sp := hr2.keep hb3
    have hr8 := hp.r1
    have hc8 := hp.c1
    obtain ⟨b, o, rfl, hb⟩ := sp.addr (by omega)
    obtain ⟨A0, c0, hc0, _, _⟩ := sp.at_ (r := 0) (by omega)
    rw [Nat.add_zero, ← hcc] at hc0
    have pa := turn_pile hp
    have pb := turn_pile pa
    have pd := rest_pile hp
    have py := mir_pile hp
    have HP := Lib.hid hp
    have PA := Lib.hid pa
    have PB := Lib.hid pb
    have PD := Lib.hid pd
    have PY := Lib.hid py
    have HRR := Lib.hid hrr
    clear hr hr2 hz hne hW2 hb3 hl3 hl pa pb pd py hp hcc hrr
    go_wp2
    go_quiet (fail)
    have hWq := below_drewN hW3 nq
    have sa : SR (w3.drewN nq) (w3.drewN nq).heap.size A3 (turnOf p r c H) := hs3
    have sp : SR (w3.drewN nq) (w3.drewN nq).heap.size (some ⟨b, o, none⟩) p := sp
    obtain ⟨w4, hw4⟩ : ∃ w4, w4 = w3.drewN nq := ⟨_, rfl⟩
    rw [← hw4] at hWq sa sp ⊢
    clear hw4 hW3 hs3 hc0
    go_wp2_with fail
    refine (turn_ok A3 c3 PA.out (n := c) (gmat_length _ _ _).symm _ sa).mono ?_
    rintro e w5 ⟨⟨Ab, cb, rfl, sb⟩, hb5⟩
    have hW5 := below_call hWq hB hb5
    replace sa := sa.keep hb5
    replace sp := sp.keep hb5
    clear hb5 hWq
    go_wp2_with fail
    refine (turn_ok Ab cb PB.out (n := H) (gmat_length _ _ _).symm _ sb).mono ?_
    rintro e w6 ⟨⟨Ac, cc, rfl, sc⟩, hb6⟩
    have hW6 := below_call hW5 hB hb6
    replace sa := sa.keep hb6
    replace sp := sp.keep hb6
    replace sb := sb.keep hb6
    rw [turn_three HP.out] at sc
    clear sb
    clear hb6 hW5
    go_wp2_with fail
    refine (rest_ok (some ⟨b, o, none⟩) cap HP.out (n := r) HRR.out _ sp).mono ?_
    rintro e w7 ⟨⟨Ad, cd, rfl, sd⟩, hb7⟩
    have hW7 := below_call hW6 hB hb7
    replace sa := sa.keep hb7
    replace sp := sp.keep hb7
    replace sc := sc.keep hb7
    clear hb7 hW6
    go_wp2_with fail
    refine (rest_ok Ad cd PD.out (n := r) (gmat_length _ _ _).symm _ sd).mono ?_
    rintro e w8 ⟨⟨Ax, cx, rfl, sx⟩, hb8⟩
    have hW8 := below_call hW7 hB hb8
    replace sa := sa.keep hb8
    replace sp := sp.keep hb8
    replace sc := sc.keep hb8
    replace sd := sd.keep hb8
    rw [rest_two HP.out] at sx
    clear hb8 hW7
    go_wp2_with fail
    refine (mir_ok (some ⟨b, o, none⟩) cap HP.out (n := r) HRR.out _ sp).mono ?_
    rintro e w9 ⟨⟨Ay, cy, rfl, sy⟩, hb9⟩
    have hW9 := below_call hW8 hB hb9
    replace sa := sa.keep hb9
    replace sp := sp.keep hb9
    replace sc := sc.keep hb9
    replace sd := sd.keep hb9
    replace sx := sx.keep hb9
    clear hb9 hW8
    go_wp2_with fail
    refine (mir_ok Ay cy PY.out (n := c) (gmat_length _ _ _).symm _ sy).mono ?_
    rintro e w10 ⟨⟨Az, cz, rfl, sz⟩, hb10⟩
    have hW10 := below_call hW9 hB hb10
    replace sa := sa.keep hb10
    replace sp := sp.keep hb10
    replace sc := sc.keep hb10
    replace sd := sd.keep hb10
    replace sx := sx.keep hb10
    replace sy := sy.keep hb10
    rw [mir_two HP.out] at sz
    clear sy
    clear hb10 hW9
    go_wp2_with fail
    refine (paths_ok (some ⟨b, o, none⟩) cap HP.out (n := r) HRR.out _ sp).mono ?_
    rintro e w11 ⟨⟨Al, cl, rfl, sl⟩, hb11⟩
    have hW11 := below_call hW10 hB hb11
    replace sa := sa.keep hb11
    replace sp := sp.keep hb11
    replace sc := sc.keep hb11
    replace sd := sd.keep hb11
    replace sx := sx.keep hb11
    replace sz := sz.keep hb11
    clear hb11 hW10
    go_wp2_with fail
    refine (from_ok Al cl HP.out _ sl).mono ?_
    rintro e w12 ⟨⟨Aq, cq, rfl, sq⟩, hb12⟩
    have hW12 := below_call hW11 hB hb12
    replace sa := sa.keep hb12
    replace sp := sp.keep hb12
    replace sc := sc.keep hb12
    replace sd := sd.keep hb12
    replace sx := sx.keep hb12
    replace sz := sz.keep hb12
    replace sl := sl.keep hb12
    clear sl
    clear hb12 hW11
    have vb := vol_bound HP.out
    have vd := vol_bound PD.out
    have va := turn_vol HP.out
    have vr := rest_vol (p := p) (r := r) (c := c) (h := H)
    have ca := vol_ok A3 c3 PA.out (n := c) (gmat_length _ _ _).symm w12 sa
    have cd' := vol_ok Ad cd PD.out (n := r) (gmat_length _ _ _).symm w12 sd
    have cp := vol_ok (some ⟨b, o, none⟩) cap HP.out (n := r) HRR.out w12 sp
    have hh8 := HP.out.h1
    have m1 : r * c ≤ 8 * 8 := Nat.mul_le_mul hr8.2 hc8.2
    have m2 : r * c * H ≤ 64 * 8 := Nat.mul_le_mul m1 hh8.2
    have n1 : ((r * c : Nat) : Int) = (r : Int) * (c : Int) := by simp
    have n2 : ((r * c * H : Nat) : Int) = (r : Int) * (c : Int) * (H : Int) := by simp
    have n3 : (r : Int) * ((c : Int) * (H : Int)) = (r : Int) * (c : Int) * (H : Int) := (Int.mul_assoc _ _ _).symm
    rw [va] at ca
    rw [vr, n3] at cd' vd
    obtain ⟨V, hV⟩ : ∃ V, V = volOf p r c := ⟨_, rfl⟩
    obtain ⟨M, hM⟩ : ∃ M : Int, M = (r : Int) * (c : Int) := ⟨_, rfl⟩
    obtain ⟨M3, hM3⟩ : ∃ M3 : Int, M3 = M * (H : Int) := ⟨_, rfl⟩
    rw [← hM, ← hM3, ← hV] at cd' vd
    rw [← hV] at ca cp vb
    have x1 : IntKind.i64.wrap ((r : Int) * (c : Int)) = M := by rw [← hM]; exact IntWalk.i64_in _ (by omega)
    have x2 : IntKind.i64.wrap (M * (H : Int)) = M3 := by rw [← hM3]; exact IntWalk.i64_in _ (by rw [← hM] at n2; omega)
    have x3 : IntKind.i64.wrap (V + (M3 - V)) = M3 := by rw [show V + (M3 - V) = M3 by omega]; exact IntWalk.i64_in _ (by rw [← hM] at n2; omega)
    have CA := Lib.hid ca
    have CD := Lib.hid cd'
    have CP := Lib.hid cp
    clear ca cd' cp va vr m1 m2 n1 n2 n3 hV hM hM3 vb vd sd sa
    go_wp2_with fail
    refine CP.out.mono ?_
    rintro e w13 ⟨rfl, rfl⟩
    go_wp2_with fail
    refine CA.out.mono ?_
    rintro e w13 ⟨rfl, rfl⟩
    go_wp2_with fail
    refine CD.out.mono ?_
    rintro e w13 ⟨rfl, rfl⟩
    clear CP CA CD
    go_wp2_with fail
    refine (rows_ok _ _ _ _ HRR.out (by omega) _ sc sp).mono ?_
    rintro e w13 ⟨rfl, hb13⟩
    replace sp := sp.keep hb13
    replace sx := sx.keep hb13
    replace sz := sz.keep hb13
    replace sq := sq.keep hb13
    have hW13 := below_call hW12 hB hb13
    go_wp2_with fail
    refine (rows_ok _ _ _ _ HRR.out (by omega) _ sx sp).mono ?_
    rintro e w14 ⟨rfl, hb14⟩
    replace sp := sp.keep hb14
    replace sz := sz.keep hb14
    replace sq := sq.keep hb14
    have hW14 := below_call hW13 hB hb14
    go_wp2_with fail
    refine (rows_ok _ _ _ _ HRR.out (by omega) _ sz sp).mono ?_
    rintro e w15 ⟨rfl, hb15⟩
    replace sp := sp.keep hb15
    replace sq := sq.keep hb15
    have hW15 := below_call hW14 hB hb15
    go_wp2_with fail
    refine (rows_ok _ _ _ _ HRR.out (by omega) _ sq sp).mono ?_
    rintro e w16 ⟨rfl, hb16⟩
    have hW16 := below_call hW15 hB hb16
    go_wp2
    go_ret
    exact ⟨rfl, hW16⟩
  · have := hne (by decide)
    subst this
    clear hz hne hok hs3 hl3 hb3 hr2
    go_wp2
    go_ret
    exact ⟨rfl, hW3⟩
end Go.Proofs.Ytdmpbbgcifodeaa
