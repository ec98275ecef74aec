/- Part of the proof. -/
import Derived.OwnWalk
import Derived.Deep.Onto
import Derived.Test.YtpmkdihencepnaaGreatDoorMk01
import Derived.Test.YtpmkdihencepnaaGreatDoorMk03
import Derived.Test.YtpmkdihencepnaaGreatDoorMk04
import Derived.Test.YtpmkdihencepnaaGreatDoorMk10
import Derived.Test.YtpmkdihencepnaaGreatDoorMk23
import Derived.Test.YtpmkdihencepnaaGreatDoorMk27
set_option maxHeartbeats 16000000
set_option maxRecDepth 100000
namespace Go.Proofs.YtpmkdihencepnaaGreatDoor
section
open Go.RowKit
theorem wB_len (m : List (Int × Int)) : (wB m).length = m.length := by simp [wB]
theorem wB_take {m : List (Int × Int)} {i : Nat} (h : i < m.length) : (wB m).take i ++ [(m.getD i (0, 0)).2] = (wB m).take (i + 1) := by
 rw [List.take_add_one, List.getElem?_eq_getElem (by rw [wB_len]; exact h), getD_get h]
 simp [wB]
theorem own_alloc1 {w : World} {base n : Nat} {v : Value} {l : List Int} (h : w.ownsRow base 3 1 v n (ints l)) (o : Obj) : (w.alloc o).ownsRow base 3 1 v n (ints l) := h.alloc o
def BackOut (B : Nat) (e : Ending) (w : World) (p q : List (List Int)) : Prop := ∃ (k : Int) (A : Option Addr) (c : Nat) (xs : List Int), e = .returned (.tuple #[.slice A xs.length c, .int .i64 k]) ∧ w.ownsRow B 3 1 (.slice A xs.length c) xs.length (ints xs) ∧ xs.length ≤ 40 ∧
 (k = 0 → (FillOk p ∧ FillOk q ∧ SameSh p q ∧ IsPerm q.flatten) ∧ ∃ m, Und p q m ∧ xs = wB m) ∧ (FillOk p ∧ FillOk q ∧ SameSh p q ∧ IsPerm q.flatten → k = 0) ∧ (k ≠ 0 → xs = [])
theorem back_any (A C : Option Addr) (cap cap2 : Nat) (p q : List (List Int)) (w : World) (hp : p.length ≤ 9223372036854775807) (hq : q.length ≤ 9223372036854775807) (h : SR w w.heap.size A p) (h2 : SR w w.heap.size C q) :
 Calls Tryz.prog 97 #[.slice A p.length cap, .slice C q.length cap2] w fun e w' => BackOut w.heap.size e w' p q ∧ Below w.heap.size w w' := by
 go_enter Tryz.func97, Tryz.ntmps97
 go_wp2_with (first | (go_at_call 146; refine (shapes_any A C cap cap2 p q _ hp hq h h2).mono ?_) | fail)
 rintro e w1 ⟨⟨k1, rfl, hk1, hk2⟩, hb1⟩
 have h3 := h.keep hb1
 have h4 := h2.keep hb1
 have HB1 := Lib.hid hb1
 have HK1 := Lib.hid hk1
 have HK2 := Lib.hid hk2
 clear hk1 hk2 h h2 hb1
 by_cases hk0 : k1 = 0
 · obtain ⟨ok1, ok2, hs⟩ := HK1.out hk0
   have OK1 := Lib.hid ok1
   have OK2 := Lib.hid ok2
   have HS := Lib.hid hs
   subst hk0
   clear ok1 ok2 hs HK1 HK2
   go_wp2_with (first | (go_at_call 147; refine (standard_any C cap2 q _ hq h4).mono ?_) | fail)
   rintro e w2 ⟨⟨b, k, rfl, hk1, hk2, hk3⟩, hb2⟩
   obtain rfl : k = 0 := hk2 OK2.out
   have hbi := (hk1 rfl).2
   have HBI := Lib.hid hbi
   have h5 := h3.keep hb2
   have h6 := h4.keep hb2
   have HB2 := Lib.hid (below_call HB1.out (Nat.le_refl _) hb2)
   clear hk1 hk2 hk3 hbi hb2 h3 h4 HB1
   cases b with
   | false =>
    have HNO : Hid (¬ IsPerm q.flatten) := Lib.hid fun hh => by have := HBI.out.2 hh; cases this
    clear HBI
    go_wp2
    go_ret2
    exact ⟨⟨3, none, 0, [], rfl, World.ownsRow_nil _ _ _ _, by simp, fun e => absurd e (by decide), fun hh => absurd hh.2.2.2 HNO.out, fun _ => rfl⟩, HB2.out⟩
   | true =>
    have HPM := Lib.hid (HBI.out.1 rfl)
    clear HBI
    go_wp2_with (first | (go_at_call 148; refine (undone_any A C cap cap2 p q _ OK1.out OK2.out HS.out h5 h6).mono ?_) | fail)
    rintro e w3 ⟨⟨v, m, rfl, ho, hu, hm40⟩, hb3⟩
    have HW3 := Lib.hid (below_call HB2.out (Nat.le_refl _) hb3)
    obtain ⟨Am, cm, rfl, -, hsl, -, -⟩ := psl_of_own ho
    have HU := Lib.hid hu
    have HSL := Lib.hid hsl
    clear ho hu hsl hb3 h5 h6 HB2
    go_wp2
    go_loopw [9, 29] (fun ov iv wr => ∃ (i : Nat), i ≤ m.length ∧ iv = .int .i64 i ∧ wr.ownsRow w3.heap.size 3 1 ov i (ints ((wB m).take i)) ∧ Below w3.heap.size w3 wr) (fun _ iv _ => m.length - (intOf iv).toNat)
    case atStart => exact ⟨0, Nat.zero_le _, rfl, World.ownsRow_nil _ _ _ _, Below.refl _ _⟩
    case round =>
     obtain ⟨i, hi, rfl, ho, hW⟩ := hrel
     have HO := Lib.hid ho
     have hsz := hW.size
     clear ho
     by_cases hit : i < m.length
     · have di : decide (i < m.length) = true := decide_eq_true hit
       have hsl := HSL.out.below hW
       obtain ⟨b, o, rfl, hb⟩ := psl_addr hsl (by omega)
       obtain ⟨hc1, hc2⟩ := psl_at hsl hit
       have htk := wB_take hit
       obtain ⟨y, hy⟩ : ∃ y, y = (m.getD i (0, 0)).1 := ⟨_, rfl⟩
       obtain ⟨z, hz⟩ : ∃ z, z = (m.getD i (0, 0)).2 := ⟨_, rfl⟩
       rw [← hy] at hc1
       rw [← hz] at hc2 htk
       have HTK := Lib.hid htk
       clear hy hz htk hsl
       go_wp2_with (first | (at_builtin; refine wpList_app1g (base := w3.heap.size) (l := (wB m).take i) rfl (.tmp 33) (.tmp 36) rfl rfl z (own_alloc1 HO.out _) (wr.heap.size + 1) (by simp) rfl (by omega) (by simp; omega) (fun g2 c2 w5 hl5 hg5 hat5 => ?_)) | fail)
       have hW5 := ((hW.alloc hsz (.cells #[.int .i64 y, .int .i64 z] 156)).alloc (by simp; omega) _).grown hg5 (by simp; omega) (fun k hk => (HO.out.lt k hk).1)
       rw [HTK.out] at hl5
       have HL5 := Lib.hid hl5
       have HW5 := Lib.hid hW5
       clear hl5 hW5 hg5 hat5
       go_wp2
       go_roundw
       case rel => exact ⟨i + 1, by omega, by go_num, HL5.out, HW5.out⟩
       case measure => simp [intOf]; omega
     · have di : decide (i < m.length) = false := decide_eq_false hit
       have hie : i = m.length := by omega
       have ho := HO.out
       rw [hie, List.take_of_length_le (by rw [wB_len]; omega)] at ho
       obtain ⟨L, hL⟩ : ∃ L, L = wB m := ⟨_, rfl⟩
       have hlm : L.length ≤ 40 := by rw [hL, wB_len]; exact hm40
       rw [← hL] at ho
       have HL := Lib.hid hL
       obtain ⟨Ao, co, rfl, -, hso⟩ := own_sliceV (ho.mono HW3.out.size)
       have HSO := Lib.hid hso
       have hW9 := HW3.out.trans (hW.mono HW3.out.size)
       clear ho hso hie hL
       go_wp2
       go_ret2
       exact ⟨⟨0, Ao, co, L, rfl, HSO.out, hlm, fun _ => ⟨⟨OK1.out, OK2.out, HS.out, HPM.out⟩, m, HU.out, HL.out⟩, fun _ => rfl, fun e => absurd rfl e⟩, hW9⟩
 · have dk : (k1 != 0) = true := by simpa using hk0
   have HN := Lib.hid hk0
   go_wp2
   go_ret2
   exact ⟨⟨k1, none, 0, [], rfl, World.ownsRow_nil _ _ _ _, by simp, fun e => absurd e HN.out, fun hh => HK2.out ⟨hh.1, hh.2.1, hh.2.2.1⟩, fun _ => rfl⟩, HB1.out⟩
theorem own_low {w w' : World} {base g n c B : Nat} {e : TypeId} {cs : List Value} (h : w.ownsRow base e 1 (.slice (some ⟨g, 0, none⟩) n c) n cs) (hg : g < B) (hb : Below B w w') : w'.ownsRow base e 1 (.slice (some ⟨g, 0, none⟩) n c) n cs := by
 refine ⟨h.1, ?_⟩
 rcases h.2 with hn | ⟨g', cap, cur, e1, hg', hh, rest⟩
 · exact .inl hn
 · obtain rfl : g = g' := by
    have : g = g' ∧ c = cap := by simpa using e1
    exact this.1
   exact .inr ⟨g, cap, cur, e1, hg', (hb.block g hg).trans hh, rest⟩
end
section
def ent (m : List (List Int)) (i j : Nat) : Int := (m.getD i []).getD j 0
def rsum (m : List (List Int)) (i j : Nat) : Int := psum (fun b => ent m i b) j
def dsum (m : List (List Int)) (i j : Nat) : Int := psum (fun a => ent m a j) i
def csum (m : List (List Int)) (i j : Nat) : Int := psum (fun a => rsum m a j) i
theorem psum_add (f g : Nat → Int) : ∀ k, psum (fun i => f i + g i) k = psum f k + psum g k
 | 0 => rfl
 | k + 1 => by simp only [psum]; rw [psum_add f g k]; omega
theorem csum_down (m : List (List Int)) (i j : Nat) : csum m (i + 1) j = csum m i j + rsum m i j := rfl
theorem csum_side (m : List (List Int)) (i j : Nat) : csum m i (j + 1) = csum m i j + dsum m i j := by
 unfold csum dsum rsum
 rw [← psum_add]
 rfl
theorem csum_top (m : List (List Int)) (j : Nat) : csum m 0 j = 0 := rfl
theorem csum_left (m : List (List Int)) : ∀ i, csum m i 0 = 0
 | 0 => rfl
 | i + 1 => by rw [csum_down, csum_left m i]; rfl
def IsSq (m : List (List Int)) (n : Nat) : Prop := m.length = n ∧ ∀ r ∈ m, r.length = n
structure IsSign (m : List (List Int)) (n : Nat) : Prop where
 sq : IsSq m n
 pos : 1 ≤ n
 row : ∀ i j, i < n → j ≤ n → 0 ≤ rsum m i j ∧ rsum m i j ≤ 1
 row1 : ∀ i, i < n → rsum m i n = 1
 col : ∀ i j, i ≤ n → j < n → 0 ≤ dsum m i j ∧ dsum m i j ≤ 1
 col1 : ∀ j, j < n → dsum m n j = 1
structure Cor (c : Nat → Nat → Int) (n : Nat) : Prop where
 top : ∀ j, j ≤ n → c 0 j = 0
 left : ∀ i, i ≤ n → c i 0 = 0
 down : ∀ i j, i < n → j ≤ n → 0 ≤ c (i + 1) j - c i j ∧ c (i + 1) j - c i j ≤ 1
 side : ∀ i j, i ≤ n → j < n → 0 ≤ c i (j + 1) - c i j ∧ c i (j + 1) - c i j ≤ 1
 bot : ∀ j, j ≤ n → c n j = j
 right : ∀ i, i ≤ n → c i n = i
theorem IsSign.cor {m : List (List Int)} {n : Nat} (h : IsSign m n) : Cor (csum m) n := by
 refine ⟨fun j _ => rfl, fun i _ => csum_left m i, fun i j hi hj => ?_, fun i j hi hj => ?_, ?_, ?_⟩
 · rw [csum_down]; have := h.row i j hi hj; omega
 · rw [csum_side]; have := h.col i j hi hj; omega
 · intro j
   induction j with
   | zero => intro _; rw [csum_left]; rfl
   | succ j ih => intro hj; rw [csum_side, ih (by omega), h.col1 j (by omega)]; omega
 · intro i
   induction i with
   | zero => intro _; rfl
   | succ i ih => intro hi; rw [csum_down, ih (by omega), h.row1 i (by omega)]; omega
def unc (n : Nat) (c : Nat → Nat → Int) : List (List Int) := (List.range n).map (fun i => (List.range n).map (fun j => c (i + 1) (j + 1) - c i (j + 1) - c (i + 1) j + c i j))
def meetOf (n : Nat) (a b : List (List Int)) : List (List Int) := unc n (fun i j => max (csum a i j) (csum b i j))
def joinOf (n : Nat) (a b : List (List Int)) : List (List Int) := unc n (fun i j => min (csum a i j) (csum b i j))
section
variable {a b c : List (List Int)} {n : Nat}
end
def triRow (m : List (List Int)) (n i : Nat) : List Int := ((List.range n).filter (fun j => decide (dsum m i j = 1))).map (fun j : Nat => (j : Int) + 1)
def triOf (m : List (List Int)) (n : Nat) : List (List Int) := (List.range n).map (fun i => triRow m n (i + 1))
def triTo (m : List (List Int)) (i k : Nat) : List Int := ((List.range k).filter (fun j => decide (dsum m i j = 1))).map (fun j : Nat => (j : Int) + 1)
theorem triTo_succ (m : List (List Int)) (i k : Nat) : triTo m i (k + 1) = triTo m i k ++ if dsum m i k = 1 then [(k : Int) + 1] else [] := by
 unfold triTo
 rw [List.range_succ, List.filter_append, List.map_append]
 congr 1
 by_cases h : dsum m i k = 1 <;> simp [h]
theorem triTo_mem {m : List (List Int)} {i k : Nat} {x : Int} : x ∈ triTo m i k ↔ ∃ j : Nat, j < k ∧ dsum m i j = 1 ∧ x = (j : Int) + 1 := by
 unfold triTo
 simp only [List.mem_map, List.mem_filter, List.mem_range, decide_eq_true_eq]
 constructor
 · rintro ⟨j, ⟨h1, h2⟩, rfl⟩; exact ⟨j, h1, h2, rfl⟩
 · rintro ⟨j, h1, h2, rfl⟩; exact ⟨j, ⟨h1, h2⟩, rfl⟩
theorem tri_count {m : List (List Int)} {n i : Nat} (h : IsSign m n) (hi : i ≤ n) : ∀ k, k ≤ n → ((triTo m i n).countP (fun y => decide (y ≤ (k : Int))) : Int) = csum m i k := by
 have hall : ∀ k, k ≤ n → ((triTo m i k).length : Int) = csum m i k := by
  intro k
  induction k with
  | zero => intro _; rw [csum_left]; simp [triTo]
  | succ k ih =>
   intro hk
   have := h.col i k hi (by omega)
   rw [triTo_succ, List.length_append, csum_side]
   have := ih (by omega)
   split
   · simp; omega
   · simp; omega
 intro k hk
 have e : (triTo m i n).filter (fun y => decide (y ≤ (k : Int))) = triTo m i k := by
  unfold triTo
  rw [List.filter_map, List.filter_filter]
  congr 1
  have : List.range n = List.range k ++ (List.range (n - k)).map (k + ·) := by rw [← List.range_add]; congr 1; omega
  rw [this, List.filter_append]
  have e2 : ((List.range (n - k)).map (k + ·)).filter (fun a => ((fun y => decide (y ≤ (k : Int))) ∘ fun j : Nat => (j : Int) + 1) a && decide (dsum m i a = 1)) = [] := by
   rw [List.filter_eq_nil_iff]
   intro a ha
   obtain ⟨b, _, rfl⟩ := List.mem_map.1 ha
   simp; omega
  rw [e2, List.append_nil]
  refine List.filter_congr (fun a ha => ?_)
  have := List.mem_range.1 ha
  have : (((fun y => decide (y ≤ (k : Int))) ∘ fun j : Nat => (j : Int) + 1) a) = true := by simp; omega
  rw [this, Bool.true_and]
 rw [List.countP_eq_length_filter, e, hall k hk]
theorem tri_length {m : List (List Int)} {n i : Nat} (h : IsSign m n) (hi : i ≤ n) : (triTo m i n).length = i := by
 have h1 := tri_count h hi n (Nat.le_refl _)
 have h2 : (triTo m i n).countP (fun y => decide (y ≤ (n : Int))) = (triTo m i n).length := by
  rw [List.countP_eq_length]
  intro x hx
  obtain ⟨j, hj, _, rfl⟩ := triTo_mem.1 hx
  simp; omega
 rw [h2, h.cor.right i hi] at h1
 omega
theorem dsum_top (m : List (List Int)) (j : Nat) : dsum m 0 j = 0 := rfl
theorem dsum_succ (m : List (List Int)) (i j : Nat) : dsum m (i + 1) j = dsum m i j + ent m i j := rfl
end
section
open Go.RowKit
def tab (n : Nat) (f : Nat → Int) : List Int := (List.range n).map f
theorem tab_length (n : Nat) (f : Nat → Int) : (tab n f).length = n := by simp [tab]
theorem tab_get {n i : Nat} {f : Nat → Int} (h : i < n) : (tab n f)[i]? = some (f i) := by simp [tab, h]
theorem tab_getD {n i : Nat} {f : Nat → Int} (h : i < n) : (tab n f).getD i 0 = f i := by simp [tab, h]
theorem tab_congr {n : Nat} {f g : Nat → Int} (h : ∀ i, i < n → f i = g i) : tab n f = tab n g := by
 unfold tab
 exact List.map_congr_left (fun i hi => h i (List.mem_range.1 hi))
theorem tab_set {n i : Nat} {f : Nat → Int} {y : Int} : (tab n f).set i y = tab n (fun b => if b = i then y else f b) := by
 apply ext_getD (by rw [List.length_set, tab_length, tab_length])
 intro j hj
 rw [List.length_set, tab_length] at hj
 rw [tab_getD hj, getD_get (by rw [List.length_set, tab_length]; exact hj), List.getElem_set]
 by_cases e : i = j
 · subst e; rw [if_pos rfl, if_pos rfl]
 · rw [if_neg e, if_neg (fun h => e h.symm), ← getD_get (d := 0), tab_getD hj]
theorem tab_zero (n : Nat) : List.replicate n (0 : Int) = tab n (fun _ => 0) := by
 unfold tab
 apply List.ext_getElem (by simp)
 intro i h1 h2
 simp
def SignOk (m : List (List Int)) : Prop := m.length ≤ 7 ∧ IsSign m m.length
structure RowsOk (m : List (List Int)) (i : Nat) : Prop where
 len : ∀ a, a < i → (m.getD a []).length = m.length
 row : ∀ a j, a < i → j ≤ m.length → 0 ≤ rsum m a j ∧ rsum m a j ≤ 1
 row1 : ∀ a, a < i → rsum m a m.length = 1
 col : ∀ a j, a ≤ i → j < m.length → 0 ≤ dsum m a j ∧ dsum m a j ≤ 1
theorem RowsOk.zero (m : List (List Int)) : RowsOk m 0 :=
 ⟨fun a ha => by omega, fun a j ha => by omega, fun a ha => by omega, fun a j ha _ => by rw [show a = 0 by omega, dsum_top]; omega⟩
theorem RowsOk.succ {m : List (List Int)} {i : Nat} (h : RowsOk m i) (h1 : (m.getD i []).length = m.length) (h2 : ∀ j, j ≤ m.length → 0 ≤ rsum m i j ∧ rsum m i j ≤ 1) (h3 : rsum m i m.length = 1)
 (h4 : ∀ j, j < m.length → 0 ≤ dsum m (i + 1) j ∧ dsum m (i + 1) j ≤ 1) : RowsOk m (i + 1) := by
 refine ⟨fun a ha => ?_, fun a j ha hj => ?_, fun a ha => ?_, fun a j ha hj => ?_⟩
 · by_cases e : a = i
   · rw [e]; exact h1
   · exact h.len a (by omega)
 · by_cases e : a = i
   · rw [e]; exact h2 j hj
   · exact h.row a j (by omega) hj
 · by_cases e : a = i
   · rw [e]; exact h3
   · exact h.row1 a (by omega)
 · by_cases e : a = i + 1
   · rw [e]; exact h4 j hj
   · exact h.col a j (by omega) hj
theorem RowsOk.sign {m : List (List Int)} (h : RowsOk m m.length) (h1 : 1 ≤ m.length) (h7 : m.length ≤ 7) (h2 : ∀ j, j < m.length → dsum m m.length j = 1) : SignOk m :=
 ⟨h7, ⟨⟨rfl, fun r hr => by obtain ⟨a, ha, rfl⟩ := List.getElem_of_mem hr; have := h.len a ha; rwa [getD_get ha] at this⟩, h1, h.row, h.row1, h.col, h2⟩⟩
theorem SignOk.len {m : List (List Int)} (h : SignOk m) {i : Nat} (hi : i < m.length) : (m.getD i []).length = m.length := by
 rw [getD_get hi]; exact h.2.sq.2 _ (List.getElem_mem hi)
theorem rsum_succ (m : List (List Int)) (i j : Nat) : rsum m i (j + 1) = rsum m i j + ent m i j := rfl
theorem rsum_zero (m : List (List Int)) (i : Nat) : rsum m i 0 = 0 := rfl
def ChkSign (m : List (List Int)) (k : Int) : Prop := (SignOk m ∧ k = 0) ∨ (¬ SignOk m ∧ k = 1)
theorem gcheck_any (A : Option Addr) (cap : Nat) (m : List (List Int)) (w : World) (hcl : m.length ≤ 9223372036854775807) (h : SR w w.heap.size A m) :
 Calls Tryz.prog 182 #[.slice A m.length cap] w fun e w' => (∃ k : Int, e = .returned (.int .i64 k) ∧ ChkSign m k) ∧ Below w.heap.size w w' := by
 go_enter Tryz.func182, Tryz.ntmps182
 by_cases h1 : m.length < 1
 · have hd1 : decide (m.length < 1) = true := decide_eq_true h1
   have hfin : Hid (ChkSign m 1) := .inr ⟨fun e => by have := e.2.pos; omega, rfl⟩
   go_wp2
   go_ret
   exact ⟨⟨1, rfl, hfin.out⟩, Below.refl _ _⟩
 · have hd1 : decide (m.length < 1) = false := decide_eq_false h1
   by_cases h7 : 7 < m.length
   · have hd2 : decide (7 < m.length) = true := decide_eq_true h7
     have hfin : Hid (ChkSign m 1) := .inr ⟨fun e => by have := e.1; omega, rfl⟩
     go_wp2
     go_ret
     exact ⟨⟨1, rfl, hfin.out⟩, Below.refl _ _⟩
   · have hd2 : decide (7 < m.length) = false := decide_eq_false h7
     go_wp2_with (first | (refine wpList_mk rfl (.tmp 20) (.tmp 20) rfl m.length rfl rfl (by omega) (Nat.le_refl _) (fun w1 hown1 hb1 hz1 => ?_)) | fail)
     rw [tab_zero] at hown1
     have HO1 := Lib.hid hown1
     clear hown1
     go_wp2
     go_loopw [24] (fun iv wr => ∃ i : Nat, i ≤ m.length ∧ iv = .int .i64 i ∧ RowsOk m i ∧ wr.ownsRow w.heap.size 3 1 (.slice (some ⟨w.heap.size, 0, none⟩) m.length m.length) m.length (ints (tab m.length (fun b => dsum m i b))) ∧ Below w.heap.size w wr) (fun iv _ => m.length - (intOf iv).toNat)
     case atStart => exact ⟨0, by omega, rfl, RowsOk.zero m, HO1.out, hb1⟩
     case round =>
      clear HO1 hb1
      obtain ⟨i, hi, rfl, hok, hown, hW⟩ := hrel
      have HK := Lib.hid hok
      have HO := Lib.hid hown
      clear hok hown
      by_cases hlt : i < m.length
      · have hd3 : decide (i < m.length) = true := decide_eq_true hlt
        obtain ⟨b, o, rfl, hb⟩ := h.addr (by omega)
        obtain ⟨Ar, cr, hcell, hrow, hrl⟩ := h.at_ hlt
        have hcell := (hW.cell (p := ⟨b, o + i, none⟩) hb).trans hcell
        obtain ⟨R, hR⟩ : ∃ R, R = m.getD i [] := ⟨_, rfl⟩
        rw [← hR] at hcell hrow hrl
        have HR := Lib.hid hR
        clear hR
        by_cases hRl : R.length = m.length
        · have hd4 : ((R.length : Int) != (m.length : Int)) = false := by simp; omega
          have HRL := Lib.hid hRl
          clear hRl
          go_wp2
          go_loopw [7, 34] (fun sv iv wz => ∃ j : Nat, j ≤ m.length ∧ iv = .int .i64 j ∧ sv = .int .i64 (rsum m i j) ∧ (∀ a, a ≤ j → 0 ≤ rsum m i a ∧ rsum m i a ≤ 1) ∧ (∀ a, a < j → 0 ≤ dsum m (i + 1) a ∧ dsum m (i + 1) a ≤ 1) ∧
           wz.ownsRow w.heap.size 3 1 (.slice (some ⟨w.heap.size, 0, none⟩) m.length m.length) m.length (ints (tab m.length (fun b => if b < j then dsum m (i + 1) b else dsum m i b))) ∧ Below w.heap.size w wz) (fun _ iv _ => m.length - (intOf iv).toNat)
          case atStart => exact ⟨0, by omega, rfl, rfl, fun a ha => by rw [show a = 0 by omega, rsum_zero]; omega, fun a ha => by omega, by simpa using HO.out, hW⟩
          case round =>
           obtain ⟨j, hj, rfl, rfl, hall, hcol, hown, hW2⟩ := hrel
           have HALL := Lib.hid hall
           have HCOL := Lib.hid hcol
           have HO2 := Lib.hid hown
           have hrow2 := hrow.below hW2
           clear hall hcol hown
           by_cases hlt2 : j < m.length
           · have hRj : j < R.length := by have := HRL.out; omega
             have hd5 : decide (j < R.length) = true := decide_eq_true hRj
             obtain ⟨b1, o1, rfl, hb1⟩ := hrow2.addr (by omega)
             have hcx := getD_cell hrow2 hRj
             have hent : R.getD j 0 = ent m i j := by rw [HR.out]; rfl
             rw [hent] at hcx
             have hcd := own_get HO2.out (i := j) (tab_get hlt2)
             rw [if_neg (by omega)] at hcd
             have hs1 := HALL.out j (Nat.le_refl _)
             have hd1' := HK.out.col i j (Nat.le_refl _) hlt2
             have hno : Hid (¬ (0 ≤ rsum m i j + ent m i j ∧ rsum m i j + ent m i j ≤ 1 ∧ 0 ≤ dsum m i j + ent m i j ∧ dsum m i j + ent m i j ≤ 1) → ChkSign m 1) := fun hh => .inr ⟨fun e => hh (by
              have a1 := e.2.row i (j + 1) hlt (by omega)
              have a2 := e.2.col (i + 1) j (by omega) hlt2
              rw [rsum_succ] at a1
              rw [dsum_succ] at a2
              omega), rfl⟩
             have hst := own_set HO2.out j (dsum m i j + ent m i j)
             rw [tab_set, tab_congr (g := fun b => if b < j + 1 then dsum m (i + 1) b else dsum m i b) (fun a _ => by
              by_cases e : a = j
              · subst e; rw [if_pos rfl, if_pos (by omega), dsum_succ]
              · rw [if_neg e]
                by_cases e2 : a < j
                · rw [if_pos e2, if_pos (by omega)]
                · rw [if_neg e2, if_neg (by omega)])] at hst
             have hyes : Hid (0 ≤ rsum m i j + ent m i j ∧ rsum m i j + ent m i j ≤ 1 ∧ 0 ≤ dsum m i j + ent m i j ∧ dsum m i j + ent m i j ≤ 1 → (∀ a, a ≤ j + 1 → 0 ≤ rsum m i a ∧ rsum m i a ≤ 1) ∧ (∀ a, a < j + 1 → 0 ≤ dsum m (i + 1) a ∧ dsum m (i + 1) a ≤ 1)) := fun hh => by
              refine ⟨fun a ha => ?_, fun a ha => ?_⟩
              · by_cases e : a = j + 1
                · rw [e, rsum_succ]; omega
                · exact HALL.out a (by omega)
              · by_cases e : a = j
                · rw [e, dsum_succ]; omega
                · exact HCOL.out a (by omega)
             have hrs := rsum_succ m i j
             have hWs := hW2.setCell (p := ⟨w.heap.size, j, none⟩) (Nat.le_refl _) (.int .i64 (dsum m i j + ent m i j))
             have hfr := HO2.out.frozenAt j
             obtain ⟨x, hx⟩ : ∃ x, x = ent m i j := ⟨_, rfl⟩
             obtain ⟨s, hs⟩ : ∃ x, x = rsum m i j := ⟨_, rfl⟩
             obtain ⟨d, hd⟩ : ∃ x, x = dsum m i j := ⟨_, rfl⟩
             rw [← hx] at hcx hno hst hyes hrs hWs
             rw [← hs] at hs1 hno hyes hrs ⊢
             rw [← hd] at hcd hd1' hno hst hyes hWs
             have HST := Lib.hid hst
             have HRS := Lib.hid hrs
             clear hx hs hd hst hrs hent
             by_cases t1 : x < -1
             · have e1 : decide (x < -1) = true := decide_eq_true t1
               have hfin := Lib.hid (hno.out (by omega))
               go_wp2
               go_ret
               exact ⟨⟨1, rfl, hfin.out⟩, hW2⟩
             · have e1 : decide (x < -1) = false := decide_eq_false t1
               by_cases t2 : 1 < x
               · have e2 : decide (1 < x) = true := decide_eq_true t2
                 have hfin := Lib.hid (hno.out (by omega))
                 go_wp2
                 go_ret
                 exact ⟨⟨1, rfl, hfin.out⟩, hW2⟩
               · have e2 : decide (1 < x) = false := decide_eq_false t2
                 by_cases t3 : s + x < 0
                 · have e3 : decide (s + x < 0) = true := decide_eq_true t3
                   have hfin := Lib.hid (hno.out (by omega))
                   go_wp2
                   go_ret
                   exact ⟨⟨1, rfl, hfin.out⟩, hWs⟩
                 · have e3 : decide (s + x < 0) = false := decide_eq_false t3
                   by_cases t4 : 1 < s + x
                   · have e4 : decide (1 < s + x) = true := decide_eq_true t4
                     have hfin := Lib.hid (hno.out (by omega))
                     go_wp2
                     go_ret
                     exact ⟨⟨1, rfl, hfin.out⟩, hWs⟩
                   · have e4 : decide (1 < s + x) = false := decide_eq_false t4
                     by_cases t5 : d + x < 0
                     · have e5 : decide (d + x < 0) = true := decide_eq_true t5
                       have hfin := Lib.hid (hno.out (by omega))
                       go_wp2
                       go_ret
                       exact ⟨⟨1, rfl, hfin.out⟩, hWs⟩
                     · have e5 : decide (d + x < 0) = false := decide_eq_false t5
                       by_cases t6 : 1 < d + x
                       · have e6 : decide (1 < d + x) = true := decide_eq_true t6
                         have hfin := Lib.hid (hno.out (by omega))
                         go_wp2
                         go_ret
                         exact ⟨⟨1, rfl, hfin.out⟩, hWs⟩
                       · have e6 : decide (1 < d + x) = false := decide_eq_false t6
                         have hy := Lib.hid (hyes.out (by omega))
                         clear hyes hno
                         go_wp2
                         go_roundw
                         case rel => exact ⟨j + 1, by omega, by go_num, by rw [HRS.out], hy.out.1, hy.out.2, HST.out, hWs⟩
                         case measure => simp [intOf]; omega
           · have hRj : ¬ j < R.length := by have := HRL.out; omega
             have hd5 : decide (j < R.length) = false := decide_eq_false hRj
             have hjm : j = m.length := by omega
             have HJ := Lib.hid hjm
             have hs1 := HALL.out j (Nat.le_refl _)
             have hno : Hid (rsum m i j ≠ 1 → ChkSign m 1) := fun hh => .inr ⟨fun e => hh (by rw [HJ.out]; exact e.2.row1 i hlt), rfl⟩
             have hyes : Hid (rsum m i j = 1 → RowsOk m (i + 1)) := fun hh => HK.out.succ (by rw [← HR.out]; exact HRL.out) (fun a ha => HALL.out a (by rw [HJ.out]; exact ha)) (by rw [← HJ.out]; exact hh) (fun a ha => HCOL.out a (by rw [HJ.out]; exact ha))
             have hO3 := HO2.out
             rw [tab_congr (g := fun b => dsum m (i + 1) b) (fun a ha => by rw [if_pos (by omega)])] at hO3
             have HO3 := Lib.hid hO3
             obtain ⟨s, hs⟩ : ∃ x, x = rsum m i j := ⟨_, rfl⟩
             rw [← hs] at hno hyes hs1 ⊢
             clear hs hjm hO3
             by_cases hs0 : s = 1
             · have hd6 : (s != 1) = false := by simpa using hs0
               have hy := Lib.hid (hyes.out hs0)
               clear hyes hno hs0
               go_wp2
               go_roundw
               case rel => exact ⟨i + 1, by omega, by go_num, hy.out, HO3.out, hW2⟩
               case measure => simp [intOf]; omega
             · have hd6 : (s != 1) = true := by simpa using hs0
               have hfin := Lib.hid (hno.out hs0)
               clear hyes hno hs0
               go_wp2
               go_ret
               exact ⟨⟨1, rfl, hfin.out⟩, hW2⟩
        · have hd4 : ((R.length : Int) != (m.length : Int)) = true := by simp; omega
          have hfin : Hid (ChkSign m 1) := .inr ⟨fun e => hRl (by rw [HR.out]; exact e.len hlt), rfl⟩
          clear hRl
          go_wp2
          go_ret
          exact ⟨⟨1, rfl, hfin.out⟩, hW⟩
      · have hd3 : decide (i < m.length) = false := decide_eq_false hlt
        obtain rfl : i = m.length := by omega
        go_wp2
        go_loopw [81] (fun iv wz => ∃ j : Nat, j ≤ m.length ∧ iv = .int .i64 j ∧ (∀ a, a < j → dsum m m.length a = 1) ∧ wz = wr) (fun iv _ => m.length - (intOf iv).toNat)
        case atStart => exact ⟨0, by omega, rfl, fun a ha => by omega, rfl⟩
        case round =>
         obtain ⟨j, hj, rfl, hall, rfl⟩ := hrel
         have HALL := Lib.hid hall
         clear hall
         by_cases hlt2 : j < m.length
         · have hd5 : decide (j < m.length) = true := decide_eq_true hlt2
           have hcx := own_get HO.out (i := j) (tab_get hlt2)
           have hx1 := HK.out.col m.length j (Nat.le_refl _) hlt2
           have hyes : Hid (dsum m m.length j = 1 → ∀ a, a < j + 1 → dsum m m.length a = 1) := fun hh a ha => by
            by_cases e : a = j
            · rw [e]; exact hh
            · exact HALL.out a (by omega)
           have hno : Hid (dsum m m.length j ≠ 1 → ChkSign m 1) := fun hh => .inr ⟨fun e => hh (e.2.col1 j hlt2), rfl⟩
           obtain ⟨x, hx⟩ : ∃ x, x = dsum m m.length j := ⟨_, rfl⟩
           rw [← hx] at hcx hx1 hyes hno
           clear hx
           by_cases hx : x = 1
           · have hd6 : (x != 1) = false := by simpa using hx
             have hy := Lib.hid (hyes.out hx)
             clear hyes hno hx
             go_wp2
             go_roundw
             case rel => exact ⟨j + 1, by omega, by go_num, hy.out, trivial⟩
             case measure => simp [intOf]; omega
           · have hd6 : (x != 1) = true := by simpa using hx
             have hfin := Lib.hid (hno.out hx)
             clear hyes hno hx
             go_wp2
             go_ret
             exact ⟨⟨1, rfl, hfin.out⟩, hW⟩
         · have hd5 : decide (j < m.length) = false := decide_eq_false hlt2
           have hfin : Hid (ChkSign m 0) := .inl ⟨HK.out.sign (by omega) (by omega) (fun a ha => HALL.out a (by omega)), rfl⟩
           go_wp2
           go_ret
           exact ⟨⟨0, rfl, hfin.out⟩, hW⟩
theorem Tryz.infoBool : (Tryz.prog.info? 4).map (fun i => (i.zero, i.size, i.bytes)) = some (some (.bool false), 1, 1) := by kernel_rfl
def bools (bs : List Bool) : List Value := bs.map Value.bool
theorem bools_length (bs : List Bool) : (bools bs).length = bs.length := by simp [bools]
section
variable {w w' : World} {base n g c : Nat} {bs : List Bool}
theorem ownB_get {e : TypeId} (h : w.ownsRow base e 1 (.slice (some ⟨g, 0, none⟩) n c) n (bools bs)) {i : Nat} {z : Bool} (hz : bs[i]? = some z) : w.cell? ⟨g, i, none⟩ = some (.bool z) := by
 obtain ⟨hi, e1⟩ := List.getElem?_eq_some_iff.1 hz
 have hl := h.1
 rw [bools_length] at hl
 rw [h.cellAt i (by omega)]
 simp [bools, hi, e1]
end
theorem wpList_app1h {w : World} {base : Nat} {l : List Int} {v : Value} {ops : Array Oper} {rest : List Oper} {o : Oper} {a : Act} {Q : Exit → Act → World → Prop} (hgd : o.guard = none) (s x : Operand)
 (ho : o.op = .call { callee := .builtin .append, args := #[s, x], argTypes := #[65, 65] }) (hs : a.eval s = v) (y : Int) {n : Nat}
 (hown : w.ownsRow base 3 1 v n (ints l)) (g0 : Nat) (hg0 : g0 = w.heap.size) (hx : a.eval x = .slice (some ⟨g0, 0, none⟩) 1 1) (hlen : n < 1000000) (hbase : base ≤ w.heap.size)
 (h : ∀ g cap w', w'.ownsRow base 3 1 (.slice (some ⟨g, 0, none⟩) (n + 1) cap) (n + 1) (ints (l ++ [y])) → Below base w w' →
  wpList Tryz.prog ops Q rest (a.put o.dst (.slice (some ⟨g, 0, none⟩) (n + 1) cap)) w') :
 wpList Tryz.prog ops Q (o :: rest) a (w.alloc (.cells #[.int .i64 y] 3)) := by
 subst hg0
 exact wpList_app1 hgd s x ho hs y hown hx hlen hbase h
end
end Go.Proofs.YtpmkdihencepnaaGreatDoor
