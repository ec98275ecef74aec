/-
  ferkeep.ListsMemory's closure: what it tells.
-/
import Derived.Laws.EntriesVeiled
import Derived.Test.YtpmkdihencepnaaGreatMg26
namespace Go.Proofs.YtpmkdihencepnaaGreat
open Go.RowKit

/-- The calls of one list. -/
def opL : Nat → List Int → List Int → Prop
  | 0, p => Eit (partChk p = 0) (flipOf p)
  | 1, p => (fun xs => Eit (IsPart p ∧ p.sum ≤ 40 ∧ ∀ x ∈ p, x % 2 = 1) (sortD (mergeL p)) xs ∧ xs.length ≤ 100000)
  | 2, p => (fun xs => Eit (IsPart p ∧ p.sum ≤ 40 ∧ IsUnlike p) (sortD (p.flatMap split1)) xs ∧ xs.length ≤ 100000)
  | 3, p => Chk (permChk p) (IsInv p)
  | 4, p => Chk (permChk p) (fun xs => xs = codeOf p)
  | 5, p => FromT p
  | 6, p => Chk (permChk p) (fun ys => WordT p ys ∧ ys.length ≤ 2000)
  | 7, p => Chk (wordChk p) (fun ys => ys = foldOf p)
  | 8, p => Chk (wordChk p) (fun ys => ys = unfoldOf p ∧ ys.length ≤ 100000)
  | 9, p => Chk (permChk p) (fun ys => ys = roundsOf p)
  | 10, p => Chk (permChk p) (fun ys => ys.length = p.length ∧ ∀ k, k < p.length → at1 ys (p.getD k 0) = nxt p k)
  | 11, p => LongT p
  | 12, p => ParkT p
  | _, _ => fun xs => xs = []
theorem opL_fn : ∀ (k : Nat) (p : List Int), FnL (opL k p)
  | 0, p => conjI.fn p
  | 1, p => mergeI.fn p
  | 2, p => splitI.fn p
  | 3, p => invI.fn p
  | 4, p => codeI.fn p
  | 5, p => fromI.fn p
  | 6, p => wordI.fn p
  | 7, p => foldI.fn p
  | 8, p => unfoldI.fn p
  | 9, p => roundsI.fn p
  | 10, p => unroundsI.fn p
  | 11, p => longI.fn p
  | 12, p => parkI.fn p
  | _ + 13, _ => fun r s h h' => by rw [show r = [] from h, show s = [] from h']
def relO (p : List Int) : Nat → List (List Int → Prop)
  | 0 => []
  | k + 1 => relO p k ++ [opL k p]
theorem relO_length (p : List Int) : ∀ k, (relO p k).length = k
  | 0 => rfl
  | k + 1 => by rw [relO, List.length_append, relO_length p k]; rfl
theorem relO_fn (p : List Int) : ∀ k, ∀ R ∈ relO p k, FnL R
  | 0, R, h => by cases h
  | k + 1, R, h => by
    rcases List.mem_append.1 h with h | h
    · exact relO_fn p k R h
    · rw [List.mem_singleton] at h; rw [h]; exact opL_fn k p
def relL (p q : List Int) (x : Int) : List (List Int → Prop) :=
  relO p 13 ++ [fun xs => ∃ ys, FrobT p xs ys] ++ [fun ys => ∃ xs, FrobT p xs ys] ++ [FrT p] ++ [Chk (permChk p) (fun xs => xs = desT p p.length)] ++ [TimT p q] ++ [ProT x q] ++ [UnfT p q]
theorem relL_fn (p q : List Int) (x : Int) : ∀ R ∈ relL p q x, FnL R := by
  intro R h
  simp only [relL, List.mem_append, List.mem_singleton] at h
  rcases h with ((((((h | rfl) | rfl) | rfl) | rfl) | rfl) | rfl) | rfl
  · exact relO_fn p 13 R h
  · rintro r s ⟨_, h1⟩ ⟨_, h2⟩; exact (h1.fn h2).1
  · rintro r s ⟨_, h1⟩ ⟨_, h2⟩; exact (h1.fn h2).2
  · exact fun r s h1 h2 => h1.fn h2
  · exact fun r s h1 h2 => meas_fn h1 h2
  · exact fun r s h1 h2 => h1.fn h2
  · exact fun r s h1 h2 => Eit.fn h1 h2
  · exact fun r s h1 h2 => h1.fn h2
/-- What the closure reads: boxes of two lists and a number. -/
structure EnvL (w : World) (B0 ba bb bx Ga Ca Gb Cb : Nat) (p q : List Int) (x : Int) : Prop where
  lt : ba < B0 ∧ bb < B0 ∧ bx < B0
  ca : w.cell? ⟨ba, 0, none⟩ = some (.slice (some ⟨Ga, 0, none⟩) p.length Ca)
  cb : w.cell? ⟨bb, 0, none⟩ = some (.slice (some ⟨Gb, 0, none⟩) q.length Cb)
  cx : w.cell? ⟨bx, 0, none⟩ = some (.int .i64 x)
  ra : Sl w B0 (some ⟨Ga, 0, none⟩) (ints p)
  rb : Sl w B0 (some ⟨Gb, 0, none⟩) (ints q)
  la : p.length ≤ Ca ∧ p.length < 2000000
  lb : q.length ≤ Cb ∧ q.length < 2000000
def RowOut (e : Ending) (w' : World) (Rs : List (List Int → Prop)) : Prop := ∃ A c rows, e = .returned (.slice A rows.length c) ∧ SR w' w'.heap.size A rows ∧ rows.length ≤ 1000 ∧ Gl Rs rows
/-- The boxes, and the block of function values. -/
theorem Ltt.start (w : World) (mk : Bool) (cs : Array Value) :
    Ltt w (((w.alloc (.cells #[.bool mk] 4)).alloc (.cells #[.slice none 0 0] 28)).alloc (.cells cs 25)) w.heap.size (w.heap.size + 1 + 1) (w.heap.size + 1) w.heap.size mk (w.heap.size + 1 + 1) (.cells cs 25 (0, 0)) (fun k => k = w.heap.size + 1 + 1) [] := by
  have hb : Below w.heap.size w (((w.alloc (.cells #[.bool mk] 4)).alloc (.cells #[.slice none 0 0] 28)).alloc (.cells cs 25)) :=
    (((Below.refl _ _).alloc (Nat.le_refl _) _).alloc (by simp) _).alloc (by simp; omega) _
  have hh : ∀ (u : World) (o : Obj) (k : Nat), (u.alloc o).heap[k]? = if k = u.heap.size then some o else u.heap[k]? := fun u o k => by
    show (u.heap.push o)[k]? = _
    rw [Array.getElem?_push]
  have hs : ∀ (u : World) (o : Obj), (u.alloc o).heap.size = u.heap.size + 1 := fun u o => by simp
  have c0 : ∀ (u : World) (k : Nat) (v : Value) (t : TypeId), u.heap[k]? = some (.cells #[v] t) → u.cell? ⟨k, 0, none⟩ = some v := fun u k v t hu => by rw [cell_of_row u k 0 #[v] t (0, 0) hu]; rfl
  have f0 : ∀ (u : World) (k : Nat) (v : Value) (t : TypeId), u.heap[k]? = some (.cells #[v] t) → u.frozen? ⟨k, 0, none⟩ = false := fun u k v t hu => by unfold World.frozen?; rw [hu]; rfl
  have e0 : (((w.alloc (.cells #[.bool mk] 4)).alloc (.cells #[.slice none 0 0] 28)).alloc (.cells cs 25)).heap[w.heap.size]? = some (.cells #[.bool mk] 4) := by
    rw [hh, if_neg (by rw [hs, hs]; omega), hh, if_neg (by rw [hs]; omega), hh, if_pos rfl]
  have e1 : (((w.alloc (.cells #[.bool mk] 4)).alloc (.cells #[.slice none 0 0] 28)).alloc (.cells cs 25)).heap[w.heap.size + 1]? = some (.cells #[.slice none 0 0] 28) := by
    rw [hh, if_neg (by rw [hs, hs]; omega), hh, if_pos (by rw [hs])]
  have e3 : (((w.alloc (.cells #[.bool mk] 4)).alloc (.cells #[.slice none 0 0] 28)).alloc (.cells cs 25)).heap[w.heap.size + 1 + 1]? = some (.cells cs 25 (0, 0)) := by
    rw [hh, if_pos (by rw [hs, hs])]
  refine ⟨⟨[], ⟨⟨by omega, by omega, by simp, by omega⟩, fun k hk => hk.1, c0 _ _ _ _ e0, ?_⟩, Gl.nil⟩, e3, rfl, fun k hk => by rw [hk]; simp, by omega, hb, by omega, Nat.le_refl _⟩
  refine ⟨.slice none 0 0, [], c0 _ _ _ _ e1, f0 _ _ _ _ e1, OwnM.nil _ _, fun k hk => ?_⟩
  rcases hk with hk | ⟨r, hr, _⟩
  · simp [Value.ownBlock] at hk
  · simp at hr
/-- What has been told, as it lies. -/
theorem Ltt.sr {w0 w : World} {B0 base bo bm : Nat} {mk : Bool} {g : Nat} {lit : Obj} {F : Nat → Prop} {Rs : List (List Int → Prop)} (h : Ltt w0 w B0 base bo bm mk g lit F Rs) :
    ∃ A c rows, w.cell? ⟨bo, 0, none⟩ = some (.slice A rows.length c) ∧ SR w w.heap.size A rows ∧ Gl Rs rows := by
  obtain ⟨rows, hon, hgot⟩ := h.on
  obtain ⟨ov, us, o1, o2, o3, o4⟩ := hon.out
  obtain ⟨A, c, rfl, hsr, _, _⟩ := o3.sr
  exact ⟨A, c, rows, o1, hsr, hgot⟩

set_option maxRecDepth 100000 in
set_option maxHeartbeats 8000000 in
theorem lonce_any (mk : Bool) (ba bb bx Ga Ca Gb Cb : Nat) (p q : List Int) (x : Int) (w : World) (h : EnvL w w.heap.size ba bb bx Ga Ca Gb Cb p q x) :
    Calls Tryz.prog 7 #[.bool mk, .pointer (some ⟨ba, 0, none⟩), .pointer (some ⟨bb, 0, none⟩), .pointer (some ⟨bx, 0, none⟩)] w fun e w' => RowOut e w' (relL p q x) ∧ Below w.heap.size w w' := by
  have HE := Lib.hid h
  obtain ⟨lt1, lt2, lt3⟩ := h.lt
  obtain ⟨hca1, hla⟩ := h.la
  obtain ⟨hcb1, hlb⟩ := h.lb
  clear h
  have HS0 := Lib.hid (Ltt.start w mk #[.func (.func 4) #[] #[], .func (.func 10) #[] #[], .func (.func 11) #[] #[], .func (.func 12) #[] #[], .func (.func 13) #[] #[], .func (.func 14) #[] #[], .func (.func 15) #[] #[], .func (.func 16) #[] #[], .func (.func 17) #[] #[], .func (.func 18) #[] #[], .func (.func 19) #[] #[], .func (.func 20) #[] #[], .func (.func 21) #[] #[]])
  go_enter Tryz.func7, Tryz.ntmps7
  go_wp2
  obtain ⟨w1, hw1⟩ : ∃ w1, w1 = ((w.alloc (.cells #[.bool mk] 4)).alloc (.cells #[.slice none 0 0] 28)).alloc (.cells #[.func (.func 4) #[] #[], .func (.func 10) #[] #[], .func (.func 11) #[] #[], .func (.func 12) #[] #[], .func (.func 13) #[] #[], .func (.func 14) #[] #[], .func (.func 15) #[] #[], .func (.func 16) #[] #[], .func (.func 17) #[] #[], .func (.func 18) #[] #[], .func (.func 19) #[] #[], .func (.func 20) #[] #[], .func (.func 21) #[] #[]] 25) := ⟨_, rfl⟩
  obtain ⟨g, hg⟩ : ∃ g, g = w.heap.size + 1 + 1 := ⟨_, rfl⟩
  obtain ⟨bo, hbo⟩ : ∃ g, g = w.heap.size + 1 := ⟨_, rfl⟩
  rw [← hw1, ← hg, ← hbo] at HS0 ⊢
  clear hw1 hg hbo
  obtain ⟨B0, hB0⟩ : ∃ g, g = w.heap.size := ⟨_, rfl⟩
  rw [← hB0] at HS0 HE lt1 lt2 lt3 ⊢
  have HB0 := Lib.hid hB0
  clear hB0
  go_loopw [23] (fun iv wr => ∃ k : Nat, k ≤ 13 ∧ iv = .int .i64 k ∧ Ltt w wr B0 g bo B0 mk g (.cells #[.func (.func 4) #[] #[], .func (.func 10) #[] #[], .func (.func 11) #[] #[], .func (.func 12) #[] #[], .func (.func 13) #[] #[], .func (.func 14) #[] #[], .func (.func 15) #[] #[], .func (.func 16) #[] #[], .func (.func 17) #[] #[], .func (.func 18) #[] #[], .func (.func 19) #[] #[], .func (.func 20) #[] #[], .func (.func 21) #[] #[]] 25 (0, 0)) (fun k => k = g) (relO p k)) (fun iv _ => 13 - (intOf iv).toNat)
  case atStart => exact ⟨0, by omega, rfl, HS0.out⟩
  case round =>
    clear HS0
    obtain ⟨k, hk, rfl, hS⟩ := hrel
    by_cases hk13 : k < 13
    · rcases (show k = 0 ∨ k = 1 ∨ k = 2 ∨ k = 3 ∨ k = 4 ∨ k = 5 ∨ k = 6 ∨ k = 7 ∨ k = 8 ∨ k = 9 ∨ k = 10 ∨ k = 11 ∨ k = 12 by omega) with rfl | rfl | rfl | rfl | rfl | rfl | rfl | rfl | rfl | rfl | rfl | rfl | rfl
      · as_aux_lemma =>
        have HS := Lib.hid hS
        have hcl := (HS.out.fun_ 0).trans (show _ = some (.func (.func 4) #[] #[]) from rfl)
        have hca := HS.out.cell (a := ⟨ba, 0, none⟩) lt1 HE.out.ca
        have HRA := Lib.hid (HS.out.sl HE.out.ra)
        clear hS hk hk13
        rw [show ((0 : Nat) : Int) = 0 from rfl]
        go_wp2_with (first | (go_at_call 4; refine (conjI.call _ _ p wr hca1 (by omega) HRA.out).mono ?_) | fail)
        rintro e w2 ⟨⟨r1, A1, c1, k1, rfl, ho1, hR1⟩, hb1⟩
        have hsm1 := conjI.sm _ _ hR1
        clear hca hcl HRA
        have HAD := Lib.hid (add_tol (R := opL 0 p) HS.out hb1 ho1 hsm1 hR1 (by rw [relO_length]; omega) k1)
        clear ho1 hR1 hb1 hsm1
        go_wp2_with (first | (go_at_call 8; refine (HAD.out).mono ?_) | fail)
        rintro e w3 ⟨rfl, hS2⟩
        have HS := Lib.hid hS2
        clear hS2 HAD
        go_wp2
        go_roundw
        case rel => exact ⟨1, by omega, by go_num, HS.out⟩
        case measure => simp [intOf]
      · as_aux_lemma =>
        have HS := Lib.hid hS
        have hcl := (HS.out.fun_ 1).trans (show _ = some (.func (.func 10) #[] #[]) from rfl)
        have hca := HS.out.cell (a := ⟨ba, 0, none⟩) lt1 HE.out.ca
        have HRA := Lib.hid (HS.out.sl HE.out.ra)
        clear hS hk hk13
        rw [show ((1 : Nat) : Int) = 1 from rfl]
        go_wp2_with (first | (go_at_call 10; refine (mergeI.call _ _ p wr hca1 (by omega) HRA.out).mono ?_) | fail)
        rintro e w2 ⟨⟨r1, A1, c1, k1, rfl, ho1, hR1⟩, hb1⟩
        have hsm1 := mergeI.sm _ _ hR1
        clear hca hcl HRA
        have HAD := Lib.hid (add_tol (R := opL 1 p) HS.out hb1 ho1 hsm1 hR1 (by rw [relO_length]; omega) k1)
        clear ho1 hR1 hb1 hsm1
        go_wp2_with (first | (go_at_call 8; refine (HAD.out).mono ?_) | fail)
        rintro e w3 ⟨rfl, hS2⟩
        have HS := Lib.hid hS2
        clear hS2 HAD
        go_wp2
        go_roundw
        case rel => exact ⟨2, by omega, by go_num, HS.out⟩
        case measure => simp [intOf]
      · as_aux_lemma =>
        have HS := Lib.hid hS
        have hcl := (HS.out.fun_ 2).trans (show _ = some (.func (.func 11) #[] #[]) from rfl)
        have hca := HS.out.cell (a := ⟨ba, 0, none⟩) lt1 HE.out.ca
        have HRA := Lib.hid (HS.out.sl HE.out.ra)
        clear hS hk hk13
        rw [show ((2 : Nat) : Int) = 2 from rfl]
        go_wp2_with (first | (go_at_call 11; refine (splitI.call _ _ p wr hca1 (by omega) HRA.out).mono ?_) | fail)
        rintro e w2 ⟨⟨r1, A1, c1, k1, rfl, ho1, hR1⟩, hb1⟩
        have hsm1 := splitI.sm _ _ hR1
        clear hca hcl HRA
        have HAD := Lib.hid (add_tol (R := opL 2 p) HS.out hb1 ho1 hsm1 hR1 (by rw [relO_length]; omega) k1)
        clear ho1 hR1 hb1 hsm1
        go_wp2_with (first | (go_at_call 8; refine (HAD.out).mono ?_) | fail)
        rintro e w3 ⟨rfl, hS2⟩
        have HS := Lib.hid hS2
        clear hS2 HAD
        go_wp2
        go_roundw
        case rel => exact ⟨3, by omega, by go_num, HS.out⟩
        case measure => simp [intOf]
      · as_aux_lemma =>
        have HS := Lib.hid hS
        have hcl := (HS.out.fun_ 3).trans (show _ = some (.func (.func 12) #[] #[]) from rfl)
        have hca := HS.out.cell (a := ⟨ba, 0, none⟩) lt1 HE.out.ca
        have HRA := Lib.hid (HS.out.sl HE.out.ra)
        clear hS hk hk13
        rw [show ((3 : Nat) : Int) = 3 from rfl]
        go_wp2_with (first | (go_at_call 12; refine (invI.call _ _ p wr hca1 (by omega) HRA.out).mono ?_) | fail)
        rintro e w2 ⟨⟨r1, A1, c1, k1, rfl, ho1, hR1⟩, hb1⟩
        have hsm1 := invI.sm _ _ hR1
        clear hca hcl HRA
        have HAD := Lib.hid (add_tol (R := opL 3 p) HS.out hb1 ho1 hsm1 hR1 (by rw [relO_length]; omega) k1)
        clear ho1 hR1 hb1 hsm1
        go_wp2_with (first | (go_at_call 8; refine (HAD.out).mono ?_) | fail)
        rintro e w3 ⟨rfl, hS2⟩
        have HS := Lib.hid hS2
        clear hS2 HAD
        go_wp2
        go_roundw
        case rel => exact ⟨4, by omega, by go_num, HS.out⟩
        case measure => simp [intOf]
      · as_aux_lemma =>
        have HS := Lib.hid hS
        have hcl := (HS.out.fun_ 4).trans (show _ = some (.func (.func 13) #[] #[]) from rfl)
        have hca := HS.out.cell (a := ⟨ba, 0, none⟩) lt1 HE.out.ca
        have HRA := Lib.hid (HS.out.sl HE.out.ra)
        clear hS hk hk13
        rw [show ((4 : Nat) : Int) = 4 from rfl]
        go_wp2_with (first | (go_at_call 13; refine (codeI.call _ _ p wr hca1 (by omega) HRA.out).mono ?_) | fail)
        rintro e w2 ⟨⟨r1, A1, c1, k1, rfl, ho1, hR1⟩, hb1⟩
        have hsm1 := codeI.sm _ _ hR1
        clear hca hcl HRA
        have HAD := Lib.hid (add_tol (R := opL 4 p) HS.out hb1 ho1 hsm1 hR1 (by rw [relO_length]; omega) k1)
        clear ho1 hR1 hb1 hsm1
        go_wp2_with (first | (go_at_call 8; refine (HAD.out).mono ?_) | fail)
        rintro e w3 ⟨rfl, hS2⟩
        have HS := Lib.hid hS2
        clear hS2 HAD
        go_wp2
        go_roundw
        case rel => exact ⟨5, by omega, by go_num, HS.out⟩
        case measure => simp [intOf]
      · as_aux_lemma =>
        have HS := Lib.hid hS
        have hcl := (HS.out.fun_ 5).trans (show _ = some (.func (.func 14) #[] #[]) from rfl)
        have hca := HS.out.cell (a := ⟨ba, 0, none⟩) lt1 HE.out.ca
        have HRA := Lib.hid (HS.out.sl HE.out.ra)
        clear hS hk hk13
        rw [show ((5 : Nat) : Int) = 5 from rfl]
        go_wp2_with (first | (go_at_call 14; refine (fromI.call _ _ p wr hca1 (by omega) HRA.out).mono ?_) | fail)
        rintro e w2 ⟨⟨r1, A1, c1, k1, rfl, ho1, hR1⟩, hb1⟩
        have hsm1 := fromI.sm _ _ hR1
        clear hca hcl HRA
        have HAD := Lib.hid (add_tol (R := opL 5 p) HS.out hb1 ho1 hsm1 hR1 (by rw [relO_length]; omega) k1)
        clear ho1 hR1 hb1 hsm1
        go_wp2_with (first | (go_at_call 8; refine (HAD.out).mono ?_) | fail)
        rintro e w3 ⟨rfl, hS2⟩
        have HS := Lib.hid hS2
        clear hS2 HAD
        go_wp2
        go_roundw
        case rel => exact ⟨6, by omega, by go_num, HS.out⟩
        case measure => simp [intOf]
      · as_aux_lemma =>
        have HS := Lib.hid hS
        have hcl := (HS.out.fun_ 6).trans (show _ = some (.func (.func 15) #[] #[]) from rfl)
        have hca := HS.out.cell (a := ⟨ba, 0, none⟩) lt1 HE.out.ca
        have HRA := Lib.hid (HS.out.sl HE.out.ra)
        clear hS hk hk13
        rw [show ((6 : Nat) : Int) = 6 from rfl]
        go_wp2_with (first | (go_at_call 15; refine (wordI.call _ _ p wr hca1 (by omega) HRA.out).mono ?_) | fail)
        rintro e w2 ⟨⟨r1, A1, c1, k1, rfl, ho1, hR1⟩, hb1⟩
        have hsm1 := wordI.sm _ _ hR1
        clear hca hcl HRA
        have HAD := Lib.hid (add_tol (R := opL 6 p) HS.out hb1 ho1 hsm1 hR1 (by rw [relO_length]; omega) k1)
        clear ho1 hR1 hb1 hsm1
        go_wp2_with (first | (go_at_call 8; refine (HAD.out).mono ?_) | fail)
        rintro e w3 ⟨rfl, hS2⟩
        have HS := Lib.hid hS2
        clear hS2 HAD
        go_wp2
        go_roundw
        case rel => exact ⟨7, by omega, by go_num, HS.out⟩
        case measure => simp [intOf]
      · as_aux_lemma =>
        have HS := Lib.hid hS
        have hcl := (HS.out.fun_ 7).trans (show _ = some (.func (.func 16) #[] #[]) from rfl)
        have hca := HS.out.cell (a := ⟨ba, 0, none⟩) lt1 HE.out.ca
        have HRA := Lib.hid (HS.out.sl HE.out.ra)
        clear hS hk hk13
        rw [show ((7 : Nat) : Int) = 7 from rfl]
        go_wp2_with (first | (go_at_call 16; refine (foldI.call _ _ p wr hca1 (by omega) HRA.out).mono ?_) | fail)
        rintro e w2 ⟨⟨r1, A1, c1, k1, rfl, ho1, hR1⟩, hb1⟩
        have hsm1 := foldI.sm _ _ hR1
        clear hca hcl HRA
        have HAD := Lib.hid (add_tol (R := opL 7 p) HS.out hb1 ho1 hsm1 hR1 (by rw [relO_length]; omega) k1)
        clear ho1 hR1 hb1 hsm1
        go_wp2_with (first | (go_at_call 8; refine (HAD.out).mono ?_) | fail)
        rintro e w3 ⟨rfl, hS2⟩
        have HS := Lib.hid hS2
        clear hS2 HAD
        go_wp2
        go_roundw
        case rel => exact ⟨8, by omega, by go_num, HS.out⟩
        case measure => simp [intOf]
      · as_aux_lemma =>
        have HS := Lib.hid hS
        have hcl := (HS.out.fun_ 8).trans (show _ = some (.func (.func 17) #[] #[]) from rfl)
        have hca := HS.out.cell (a := ⟨ba, 0, none⟩) lt1 HE.out.ca
        have HRA := Lib.hid (HS.out.sl HE.out.ra)
        clear hS hk hk13
        rw [show ((8 : Nat) : Int) = 8 from rfl]
        go_wp2_with (first | (go_at_call 17; refine (unfoldI.call _ _ p wr hca1 (by omega) HRA.out).mono ?_) | fail)
        rintro e w2 ⟨⟨r1, A1, c1, k1, rfl, ho1, hR1⟩, hb1⟩
        have hsm1 := unfoldI.sm _ _ hR1
        clear hca hcl HRA
        have HAD := Lib.hid (add_tol (R := opL 8 p) HS.out hb1 ho1 hsm1 hR1 (by rw [relO_length]; omega) k1)
        clear ho1 hR1 hb1 hsm1
        go_wp2_with (first | (go_at_call 8; refine (HAD.out).mono ?_) | fail)
        rintro e w3 ⟨rfl, hS2⟩
        have HS := Lib.hid hS2
        clear hS2 HAD
        go_wp2
        go_roundw
        case rel => exact ⟨9, by omega, by go_num, HS.out⟩
        case measure => simp [intOf]
      · as_aux_lemma =>
        have HS := Lib.hid hS
        have hcl := (HS.out.fun_ 9).trans (show _ = some (.func (.func 18) #[] #[]) from rfl)
        have hca := HS.out.cell (a := ⟨ba, 0, none⟩) lt1 HE.out.ca
        have HRA := Lib.hid (HS.out.sl HE.out.ra)
        clear hS hk hk13
        rw [show ((9 : Nat) : Int) = 9 from rfl]
        go_wp2_with (first | (go_at_call 18; refine (roundsI.call _ _ p wr hca1 (by omega) HRA.out).mono ?_) | fail)
        rintro e w2 ⟨⟨r1, A1, c1, k1, rfl, ho1, hR1⟩, hb1⟩
        have hsm1 := roundsI.sm _ _ hR1
        clear hca hcl HRA
        have HAD := Lib.hid (add_tol (R := opL 9 p) HS.out hb1 ho1 hsm1 hR1 (by rw [relO_length]; omega) k1)
        clear ho1 hR1 hb1 hsm1
        go_wp2_with (first | (go_at_call 8; refine (HAD.out).mono ?_) | fail)
        rintro e w3 ⟨rfl, hS2⟩
        have HS := Lib.hid hS2
        clear hS2 HAD
        go_wp2
        go_roundw
        case rel => exact ⟨10, by omega, by go_num, HS.out⟩
        case measure => simp [intOf]
      · as_aux_lemma =>
        have HS := Lib.hid hS
        have hcl := (HS.out.fun_ 10).trans (show _ = some (.func (.func 19) #[] #[]) from rfl)
        have hca := HS.out.cell (a := ⟨ba, 0, none⟩) lt1 HE.out.ca
        have HRA := Lib.hid (HS.out.sl HE.out.ra)
        clear hS hk hk13
        rw [show ((10 : Nat) : Int) = 10 from rfl]
        go_wp2_with (first | (go_at_call 19; refine (unroundsI.call _ _ p wr hca1 (by omega) HRA.out).mono ?_) | fail)
        rintro e w2 ⟨⟨r1, A1, c1, k1, rfl, ho1, hR1⟩, hb1⟩
        have hsm1 := unroundsI.sm _ _ hR1
        clear hca hcl HRA
        have HAD := Lib.hid (add_tol (R := opL 10 p) HS.out hb1 ho1 hsm1 hR1 (by rw [relO_length]; omega) k1)
        clear ho1 hR1 hb1 hsm1
        go_wp2_with (first | (go_at_call 8; refine (HAD.out).mono ?_) | fail)
        rintro e w3 ⟨rfl, hS2⟩
        have HS := Lib.hid hS2
        clear hS2 HAD
        go_wp2
        go_roundw
        case rel => exact ⟨11, by omega, by go_num, HS.out⟩
        case measure => simp [intOf]
      · as_aux_lemma =>
        have HS := Lib.hid hS
        have hcl := (HS.out.fun_ 11).trans (show _ = some (.func (.func 20) #[] #[]) from rfl)
        have hca := HS.out.cell (a := ⟨ba, 0, none⟩) lt1 HE.out.ca
        have HRA := Lib.hid (HS.out.sl HE.out.ra)
        clear hS hk hk13
        rw [show ((11 : Nat) : Int) = 11 from rfl]
        go_wp2_with (first | (go_at_call 20; refine (longI.call _ _ p wr hca1 (by omega) HRA.out).mono ?_) | fail)
        rintro e w2 ⟨⟨r1, A1, c1, k1, rfl, ho1, hR1⟩, hb1⟩
        have hsm1 := longI.sm _ _ hR1
        clear hca hcl HRA
        have HAD := Lib.hid (add_tol (R := opL 11 p) HS.out hb1 ho1 hsm1 hR1 (by rw [relO_length]; omega) k1)
        clear ho1 hR1 hb1 hsm1
        go_wp2_with (first | (go_at_call 8; refine (HAD.out).mono ?_) | fail)
        rintro e w3 ⟨rfl, hS2⟩
        have HS := Lib.hid hS2
        clear hS2 HAD
        go_wp2
        go_roundw
        case rel => exact ⟨12, by omega, by go_num, HS.out⟩
        case measure => simp [intOf]
      · as_aux_lemma =>
        have HS := Lib.hid hS
        have hcl := (HS.out.fun_ 12).trans (show _ = some (.func (.func 21) #[] #[]) from rfl)
        have hca := HS.out.cell (a := ⟨ba, 0, none⟩) lt1 HE.out.ca
        have HRA := Lib.hid (HS.out.sl HE.out.ra)
        clear hS hk hk13
        rw [show ((12 : Nat) : Int) = 12 from rfl]
        go_wp2_with (first | (go_at_call 21; refine (parkI.call _ _ p wr hca1 (by omega) HRA.out).mono ?_) | fail)
        rintro e w2 ⟨⟨r1, A1, c1, k1, rfl, ho1, hR1⟩, hb1⟩
        have hsm1 := parkI.sm _ _ hR1
        clear hca hcl HRA
        have HAD := Lib.hid (add_tol (R := opL 12 p) HS.out hb1 ho1 hsm1 hR1 (by rw [relO_length]; omega) k1)
        clear ho1 hR1 hb1 hsm1
        go_wp2_with (first | (go_at_call 8; refine (HAD.out).mono ?_) | fail)
        rintro e w3 ⟨rfl, hS2⟩
        have HS := Lib.hid hS2
        clear hS2 HAD
        go_wp2
        go_roundw
        case rel => exact ⟨13, by omega, by go_num, HS.out⟩
        case measure => simp [intOf]
    · obtain rfl : k = 13 := by omega
      have HS := Lib.hid hS
      clear hS hk hk13
      rw [show ((13 : Nat) : Int) = 13 from rfl]
      have hca := HS.out.cell (a := ⟨ba, 0, none⟩) lt1 HE.out.ca
      have HRA := Lib.hid (HS.out.sl HE.out.ra)
      go_wp2_with (first | (go_at_call 22; refine (frob_all _ _ p wr (by omega) HRA.out).mono ?_) | fail)
      rintro e u1 ⟨⟨r1, r2, A1, A2, c1, c2, k1, rfl, ho1, ho2, hap, hR1⟩, hb1⟩
      have hsm1 := hR1.sm
      have HAD := Lib.hid (add_fst (R := fun xs => ∃ ys, FrobT p xs ys) HS.out hb1 ho1 ho2 hap hsm1.1 ⟨_, hR1⟩ (by simp [relO_length]) 0)
      have HR1 := Lib.hid hR1
      have HSM := Lib.hid hsm1
      clear ho1 ho2 hap hR1 hsm1 hb1 HS hca HRA
      go_wp2_with (first | (go_at_call 8; refine (HAD.out).mono ?_) | fail)
      rintro e v1 ⟨rfl, hS2⟩
      have HAD := Lib.hid (add_snd (R := fun ys => ∃ xs, FrobT p xs ys) hS2 HSM.out.2 ⟨_, HR1.out⟩ (by simp [relO_length]) 0)
      clear hS2 HR1 HSM
      go_wp2_with (first | (go_at_call 8; refine (HAD.out).mono ?_) | fail)
      rintro e v2 ⟨rfl, hS2⟩
      have HS := Lib.hid hS2
      clear hS2 HAD
      have hca := HS.out.cell (a := ⟨ba, 0, none⟩) lt1 HE.out.ca
      have HRA := Lib.hid (HS.out.sl HE.out.ra)
      go_wp2_with (first | (go_at_call 23; refine (frank_all _ _ p v2 (by omega) HRA.out).mono ?_) | fail)
      rintro e u2 ⟨⟨r1, A1, c1, d1, k1, rfl, ho1, hR1⟩, hb1⟩
      have HAD := Lib.hid (add_tol (R := FrT p) HS.out hb1 ho1 hR1.sm hR1 (by simp [relO_length]) 0)
      clear ho1 hR1 hb1 HS hca HRA
      go_wp2_with (first | (go_at_call 8; refine (HAD.out).mono ?_) | fail)
      rintro e v3 ⟨rfl, hS2⟩
      have HS := Lib.hid hS2
      clear hS2 HAD
      have hca := HS.out.cell (a := ⟨ba, 0, none⟩) lt1 HE.out.ca
      have HRA := Lib.hid (HS.out.sl HE.out.ra)
      go_wp2_with (first | (go_at_call 24; refine (meas_all _ _ p v3 hca1 (by omega) HRA.out).mono ?_) | fail)
      rintro e u3 ⟨⟨r1, A1, c1, d1, d2, k1, rfl, ho1, hR1⟩, hb1⟩
      have HAD := Lib.hid (add_tol (R := Chk (permChk p) (fun xs => xs = desT p p.length)) HS.out hb1 ho1 (meas_sm hR1) hR1 (by simp [relO_length]) 0)
      clear ho1 hR1 hb1 HS hca HRA
      go_wp2_with (first | (go_at_call 8; refine (HAD.out).mono ?_) | fail)
      rintro e v4 ⟨rfl, hS2⟩
      have HS := Lib.hid hS2
      clear hS2 HAD
      have hca := HS.out.cell (a := ⟨ba, 0, none⟩) lt1 HE.out.ca
      have HRA := Lib.hid (HS.out.sl HE.out.ra)
      have hcb := HS.out.cell (a := ⟨bb, 0, none⟩) lt2 HE.out.cb
      have HRB := Lib.hid (HS.out.sl HE.out.rb)
      go_wp2_with (first | (go_at_call 25; refine (times_all _ _ _ _ p q v4 (by omega) (by omega) HRA.out HRB.out).mono ?_) | fail)
      rintro e u4 ⟨⟨r1, A1, c1, k1, rfl, ho1, hR1⟩, hb1⟩
      have HAD := Lib.hid (add_tol (R := TimT p q) HS.out hb1 ho1 hR1.sm hR1 (by simp [relO_length]) k1)
      clear ho1 hR1 hb1 HS hca HRA hcb HRB
      go_wp2_with (first | (go_at_call 8; refine (HAD.out).mono ?_) | fail)
      rintro e v5 ⟨rfl, hS2⟩
      have HS := Lib.hid hS2
      clear hS2 HAD
      have hcb := HS.out.cell (a := ⟨bb, 0, none⟩) lt2 HE.out.cb
      have HRB := Lib.hid (HS.out.sl HE.out.rb)
      have hcx := HS.out.cell (a := ⟨bx, 0, none⟩) lt3 HE.out.cx
      go_wp2_with (first | (go_at_call 26; refine (product_all _ _ x q v5 (by omega) HRB.out).mono ?_) | fail)
      rintro e u5 ⟨⟨r1, A1, c1, k1, rfl, ho1, hR1⟩, hb1⟩
      have HAD := Lib.hid (add_tol (R := ProT x q) HS.out hb1 ho1 hR1.sm hR1 (by simp [relO_length]) k1)
      clear ho1 hR1 hb1 HS hcb HRB hcx
      go_wp2_with (first | (go_at_call 8; refine (HAD.out).mono ?_) | fail)
      rintro e v6 ⟨rfl, hS2⟩
      have HS := Lib.hid hS2
      clear hS2 HAD
      have hca := HS.out.cell (a := ⟨ba, 0, none⟩) lt1 HE.out.ca
      have HRA := Lib.hid (HS.out.sl HE.out.ra)
      have hcb := HS.out.cell (a := ⟨bb, 0, none⟩) lt2 HE.out.cb
      have HRB := Lib.hid (HS.out.sl HE.out.rb)
      go_wp2_with (first | (go_at_call 27; refine (unfrob_all _ _ _ _ p q v6 (by omega) (by omega) HRA.out HRB.out).mono ?_) | fail)
      rintro e u6 ⟨⟨r1, A1, c1, k1, rfl, ho1, hR1⟩, hb1⟩
      have HAD := Lib.hid (add_tol (R := UnfT p q) HS.out hb1 ho1 (Nat.le_trans hR1.len (by decide)) hR1 (by simp [relO_length]) k1)
      clear ho1 hR1 hb1 HS hca HRA hcb HRB
      go_wp2_with (first | (go_at_call 8; refine (HAD.out).mono ?_) | fail)
      rintro e v7 ⟨rfl, hS2⟩
      have HS := Lib.hid hS2
      clear hS2 HAD
      obtain ⟨A9, c9, rows, hco, hsr, hgot⟩ := HS.out.sr
      have hfin : Hid (SR v7 v7.heap.size A9 rows ∧ rows.length ≤ 1000 ∧ Gl (relL p q x) rows) := Lib.hid ⟨hsr, by rw [hgot.1]; simp [relO_length], hgot⟩
      have HW := Lib.hid HS.out.bl
      clear hsr hgot HS
      go_wp2
      go_ret
      exact ⟨⟨A9, c9, rows, rfl, hfin.out⟩, by rw [← HB0.out]; exact HW.out⟩
end Go.Proofs.YtpmkdihencepnaaGreat
