/- Part of the proof. -/
import Derived.Test.YtpmkdihencepnaaGreatDoorMk01
import Derived.Test.YtpmkdihencepnaaGreatDoorMk02
import Derived.Test.YtpmkdihencepnaaGreatDoorMk03
import Derived.Test.YtpmkdihencepnaaGreatDoorMk04
import Derived.Test.YtpmkdihencepnaaGreatDoorMk07
import Derived.Test.YtpmkdihencepnaaGreatDoorMk10
import Derived.Test.YtpmkdihencepnaaGreatDoorMk17
import Derived.Test.YtpmkdihencepnaaGreatDoorMk18
import Derived.Test.YtpmkdihencepnaaGreatDoorMk24
import Derived.Test.YtpmkdihencepnaaGreatDoorMk25
import Derived.Test.YtpmkdihencepnaaGreatDoorMk28
import Derived.Test.YtpmkdihencepnaaGreatDoorMk30
import Derived.Test.YtpmkdihencepnaaGreatDoorMk31
import Derived.Test.YtpmkdihencepnaaGreatDoorMk32
import Derived.Test.YtpmkdihencepnaaGreatDoorMk36
set_option maxRecDepth 100000
namespace Go.Proofs.YtpmkdihencepnaaGreatDoor
section
open Go.RowKit
abbrev Rws := List (List Int)
def FewT (T : Rws) : Prop := T.length ≤ 1000 ∧ ∀ r ∈ T, Few r
theorem FewT.nil : FewT [] := ⟨by simp, by simp⟩
theorem few_small {r : List Int} (h : r.length ≤ 1000) (h2 : ∀ x ∈ r, -1000000 ≤ x ∧ x ≤ 1000000) : Few r := ⟨by omega, h2⟩
def DOut (r : Rws × Int) (B : Nat) (e : Ending) (w : World) : Prop :=
 ∃ (A : Option Addr) (c : Nat), e = .returned (.tuple #[.slice A r.1.length c, .int .i64 r.2]) ∧ OwnR w B A c r.1
theorem dout_bad (B : Nat) (w : World) (k : Int) : DOut ([], k) B (.returned (.tuple #[.slice none 0 0, .int .i64 k])) w := ⟨none, 0, rfl, OwnR.nil _ _⟩
theorem dout_own {w : World} {B : Nat} {v : Value} {hs : List Value} {rows : Rws} (h : OwnM w B v hs rows) (k : Int) : DOut (rows, k) B (.returned (.tuple #[v, .int .i64 k])) w := by
 obtain ⟨A, c, rfl, ho, _, _⟩ := h.ownR
 exact ⟨A, c, rfl, ho⟩
structure OpT (f : FuncId) (F : Rws → Rws × Int) : Prop where
 few : ∀ T, FewT (F T).1
 bad : ∀ T, (F T).2 ≠ 0 → (F T).1 = []
 call : ∀ (A : Option Addr) (cap : Nat) (T : Rws) (w : World), T.length ≤ 9223372036854775807 → SR w w.heap.size A T →
  Calls Tryz.prog f #[.slice A T.length cap] w fun e w' => DOut (F T) w.heap.size e w' ∧ Below w.heap.size w w'
open Classical in
noncomputable def FT (c : Rws → Int) (R : Rws → Rws → Prop) (T : Rws) : Rws × Int := if h : c T = 0 ∧ ∃ r, R T r then (h.2.choose, 0) else ([], c T)
theorem FT_ok {c : Rws → Int} {R : Rws → Rws → Prop} {p r : Rws} (hc : c p = 0) (hfn : ∀ r s, R p r → R p s → r = s) (h : R p r) : FT c R p = (r, 0) := by
 unfold FT
 rw [_root_.dif_pos ⟨hc, r, h⟩]
 have hx : ∃ r, R p r := ⟨r, h⟩
 show (hx.choose, (0 : Int)) = (r, 0)
 rw [hfn _ r hx.choose_spec h]
theorem FT_bad {c : Rws → Int} {R : Rws → Rws → Prop} {p : Rws} (hc : c p ≠ 0) : FT c R p = ([], c p) := by
 unfold FT
 rw [_root_.dif_neg (fun h => hc h.1)]
theorem opT {f : FuncId} {c : Rws → Int} {R : Rws → Rws → Prop} (hfn : ∀ p, c p = 0 → ∀ r s, R p r → R p s → r = s) (hfew : ∀ p, c p = 0 → ∀ r, R p r → FewT r)
 (hok : ∀ (A : Option Addr) (cap : Nat) (T : Rws) (w : World), T.length ≤ 9223372036854775807 → SR w w.heap.size A T → c T = 0 → Calls Tryz.prog f #[.slice A T.length cap] w fun e w' => (∃ rows, DOut (rows, 0) w.heap.size e w' ∧ R T rows) ∧ Below w.heap.size w w')
 (herr : ∀ (A : Option Addr) (cap : Nat) (T : Rws) (w : World), T.length ≤ 9223372036854775807 → SR w w.heap.size A T → c T ≠ 0 → Calls Tryz.prog f #[.slice A T.length cap] w fun e w' => DOut ([], c T) w.heap.size e w' ∧ Below w.heap.size w w') :
 OpT f (FT c R) := by
 refine ⟨fun p => ?_, fun p hp => ?_, fun A cap p w hcl h => ?_⟩
 · by_cases hx : c p = 0 ∧ ∃ r, R p r
   · obtain ⟨h0, r, hr⟩ := hx
     rw [FT_ok h0 (hfn p h0) hr]; exact hfew p h0 r hr
   · unfold FT; rw [_root_.dif_neg hx]; exact FewT.nil
 · by_cases hx : c p = 0 ∧ ∃ r, R p r
   · obtain ⟨h0, r, hr⟩ := hx
     rw [FT_ok h0 (hfn p h0) hr] at hp; exact absurd rfl hp
   · unfold FT; rw [_root_.dif_neg hx]
 · by_cases h0 : c p = 0
   · refine (hok A cap p w hcl h h0).mono ?_
     rintro e w' ⟨⟨rows, hd, hR⟩, hb⟩
     rw [FT_ok h0 (hfn p h0) hR]
     exact ⟨hd, hb⟩
   · refine (herr A cap p w hcl h h0).mono ?_
     rintro e w' ⟨hd, hb⟩
     rw [FT_bad h0]
     exact ⟨hd, hb⟩
theorem bad_d {f : FuncId} {args : Array Value} {w : World} {k : Int} (h : Calls Tryz.prog f args w fun e w' => e = .returned (.tuple #[.slice none 0 0, .int .i64 k]) ∧ Below w.heap.size w w') :
 Calls Tryz.prog f args w fun e w' => DOut ([], k) w.heap.size e w' ∧ Below w.heap.size w w' :=
 h.mono (by rintro e w' ⟨rfl, hb⟩; exact ⟨dout_bad _ _ _, hb⟩)
theorem few_fill {T : Rws} (h : FillOk T) : FewT T :=
 ⟨by have := h.small.1; omega, fun r hr => by
  refine few_small ?_ (fun x hx => by have := h.2.1 r hr x hx; unfold Lt at this; omega)
  obtain ⟨i, hi, rfl⟩ := List.getElem_of_mem hr
  have := h.small.2 i
  rw [getD_get hi] at this; omega⟩
theorem few_rows {n m : Nat} {F : Nat → List Int} (hn : n ≤ 1000) (hm : m ≤ 1000) (hl : ∀ i, i < n → (F i).length ≤ m) (hx : ∀ i, i < n → ∀ x ∈ F i, -1000000 ≤ x ∧ x ≤ 1000000) : FewT ((List.range n).map F) :=
 ⟨by simpa using hn, fun r hr => by
  obtain ⟨i, hi, rfl⟩ := List.mem_map.1 hr
  have hi := List.mem_range.1 hi
  exact few_small (Nat.le_trans (hl i hi) hm) (hx i hi)⟩
theorem fcode_zero {T : Rws} (h : fcode T = 0) : FillOk T := Classical.byContradiction fun hn => fcode_ne hn h
theorem skcode_zero {T : Rws} (h : skcode T = 0) : SkOk T := Classical.byContradiction fun hn => skcode_ne hn h
theorem stcode_zero {T : Rws} (h : stcode T = 0) : Std T := Classical.byContradiction fun hn => stcode_ne hn h
noncomputable def stdF : Rws → Rws × Int := FT fcode (fun T rows => rows = Std1.std T)
theorem stdT : OpT 136 stdF :=
 opT (fun p h0 r s h h' => by rw [h, h']) (fun p h0 r h => by
  have hp := fcode_zero h0
  have h1 := hp.small.1
  rw [h]
  unfold Std1.std
  refine few_rows (m := 40) (by omega) (by omega) (fun i _ => by have := hp.small.2 i; simpa [Std1.len] using this) (fun i hi x hx => ?_)
  obtain ⟨j, _, rfl⟩ := List.mem_map.1 hx
  have h2 : Std1.rkD p (i, j) ≤ (Std1.allB p).length := List.countP_le_length
  have h3 : ∀ n, ((List.range n).flatMap (fun i => (List.range (Std1.len p i)).map (fun j => (i, j)))).length ≤ 40 * n := fun n => by
   induction n with
   | zero => simp
   | succ n ih =>
    rw [List.range_succ, List.flatMap_append, List.length_append]
    have := hp.small.2 n
    simp [Std1.len] at *
    omega
  have h4 := h3 p.length
  unfold Std1.allB at h2
  omega)
  (fun A cap T w hT h h0 => (std_any A cap T w hT h).mono (by
   rintro e w' ⟨hs, hb⟩
   rcases hs with ⟨hok, v, hs, rfl, hm⟩ | ⟨hno, _⟩
   · exact ⟨⟨_, dout_own hm 0, rfl⟩, hb⟩
   · exact absurd (fcode_zero h0) hno))
  (fun A cap T w hT h h0 => bad_d (fstd_e A cap T w hT (fun ok => h0 (fcode_ok ok)) h))
open Classical in
noncomputable def tucode (T : Rws) : Int := if FillOk T then if ∀ r ∈ T, r.Nodup then 0 else 3 else fcode T
theorem tucode_zero {T : Rws} (h : tucode T = 0) : FillOk T ∧ ∀ r ∈ T, r.Nodup := by
 unfold tucode at h
 by_cases ok : FillOk T
 · rw [if_pos ok] at h
   by_cases hn : ∀ r ∈ T, r.Nodup
   · exact ⟨ok, hn⟩
   · rw [if_neg hn] at h; cases h
 · rw [if_neg ok] at h; exact absurd h (fcode_ne ok)
theorem mem_addCol : ∀ (U : Rws) (c : List Int), ∀ r ∈ addCol U c, ∀ x ∈ r, (∃ r' ∈ U, x ∈ r') ∨ x ∈ c
 | U, [], r, hr, x, hx => by
  have : addCol U [] = U := by cases U <;> rfl
  rw [this] at hr
  exact .inl ⟨r, hr, hx⟩
 | [], b :: c, r, hr, x, hx => by
  simp only [addCol] at hr
  rcases List.mem_cons.1 hr with rfl | hr
  · simp at hx; subst hx; simp
  · rcases mem_addCol [] c r hr x hx with ⟨r', h1, _⟩ | h
    · cases h1
    · exact .inr (List.mem_cons_of_mem _ h)
 | s :: U, b :: c, r, hr, x, hx => by
  simp only [addCol] at hr
  rcases List.mem_cons.1 hr with rfl | hr
  · rcases List.mem_append.1 hx with hx | hx
    · exact .inl ⟨s, by simp, hx⟩
    · simp at hx; subst hx; simp
  · rcases mem_addCol U c r hr x hx with ⟨r', h1, h2⟩ | h
    · exact .inl ⟨r', List.mem_cons_of_mem _ h1, h2⟩
    · exact .inr (List.mem_cons_of_mem _ h)
theorem mem_fillC : ∀ (cs U : Rws), ∀ r ∈ fillC U cs, ∀ x ∈ r, (∃ r' ∈ U, x ∈ r') ∨ ∃ c ∈ cs, x ∈ c
 | [], U, r, hr, x, hx => .inl ⟨r, hr, hx⟩
 | c :: cs, U, r, hr, x, hx => by
  rcases mem_fillC cs (addCol U c) r hr x hx with ⟨r', h1, h2⟩ | ⟨c', h1, h2⟩
  · rcases mem_addCol U c r' h1 x h2 with h | h
    · exact .inl h
    · exact .inr ⟨c, by simp, h⟩
  · exact .inr ⟨c', List.mem_cons_of_mem _ h1, h2⟩
theorem boxes_addColK : ∀ (U : Rws) (c : List Int), boxes (addCol U c) = boxes U + c.length
 | U, [] => by cases U <;> simp [addCol]
 | [], b :: c => by simp only [addCol]; rw [boxes_cons, boxes_addColK [] c]; simp [boxes_nil]; omega
 | s :: U, b :: c => by simp only [addCol]; rw [boxes_cons, boxes_cons, boxes_addColK U c]; simp; omega
theorem boxes_fillCK : ∀ (cs U : Rws), boxes (fillC U cs) = boxes U + boxes cs
 | [], U => by simp [fillC, boxes_nil]
 | c :: cs, U => by
  show boxes (fillC (addCol U c) cs) = _
  rw [boxes_fillCK cs, boxes_addColK, boxes_cons]; omega
theorem fillC_neK : ∀ (cs U : Rws), (∀ r ∈ U, r ≠ []) → ∀ r ∈ fillC U cs, r ≠ []
 | [], _, h => h
 | c :: cs, U, h => fillC_neK cs (addCol U c) (addCol_ne U c h)
theorem few_boxes {U : Rws} (hu : ∀ r ∈ U, r ≠ []) (hb : boxes U ≤ 1000) (hx : ∀ r ∈ U, ∀ x ∈ r, -1000000 ≤ x ∧ x ≤ 1000000) : FewT U := by
 have h1 : ∀ (U : Rws), (∀ r ∈ U, r ≠ []) → U.length ≤ boxes U := fun U => by
  induction U with
  | nil => intro _; simp
  | cons r t ih =>
   intro hu
   have := ih (fun s hs => hu s (List.mem_cons_of_mem _ hs))
   have h2 : r.length ≠ 0 := fun e => hu r (by simp) (List.eq_nil_of_length_eq_zero e)
   rw [boxes_cons]; simp; omega
 have h2 : ∀ (U : Rws), ∀ r ∈ U, r.length ≤ boxes U := fun U => by
  induction U with
  | nil => intro r hr; cases hr
  | cons s t ih =>
   intro r hr
   rw [boxes_cons]
   rcases List.mem_cons.1 hr with rfl | hr
   · omega
   · have := ih r hr; omega
 exact ⟨by have := h1 U hu; omega, fun r hr => few_small (by have := h2 U r hr; omega) (hx r hr)⟩
noncomputable def turF : Rws → Rws × Int := FT tucode (fun T rows => rows = fillC [] T)
theorem turT : OpT 137 turF :=
 opT (fun p h0 r s h h' => by rw [h, h']) (fun p h0 r h => by
  have hp := (tucode_zero h0).1
  rw [h]
  refine few_boxes (fillC_neK p [] (by simp)) (by rw [boxes_fillCK]; have := hp.2.2; simp [boxes_nil]; omega) (fun r hr x hx => ?_)
  rcases mem_fillC p [] r hr x hx with ⟨_, h1, _⟩ | ⟨c, h1, h2⟩
  · cases h1
  · have := hp.2.1 c h1 x h2; unfold Lt at this; omega)
  (fun A cap T w hT h h0 => (turned_any A cap T w hT (tucode_zero h0).1 h).mono (by
   rintro e w' ⟨hs, hb⟩
   rcases hs with ⟨v, hs, rfl, _, hm⟩ | ⟨hno, _⟩
   · exact ⟨⟨_, dout_own hm 0, rfl⟩, hb⟩
   · exact absurd (tucode_zero h0).2 hno))
  (fun A cap T w hT h h0 => by
   by_cases ok : FillOk T
   · have hn : ¬ ∀ r ∈ T, r.Nodup := fun hn => h0 (by unfold tucode; rw [if_pos ok, if_pos hn])
     have hc : tucode T = 3 := by unfold tucode; rw [if_pos ok, if_neg hn]
     rw [hc]
     refine (turned_any A cap T w hT ok h).mono ?_
     rintro e w' ⟨hs, hb⟩
     rcases hs with ⟨v, hs, _, h2, _⟩ | ⟨_, rfl⟩
     · exact absurd h2 hn
     · exact ⟨dout_bad _ _ _, hb⟩
   · have hc : tucode T = fcode T := by unfold tucode; rw [if_neg ok]
     rw [hc]
     exact bad_d (turned_e A cap T w hT ok h))
theorem rword_len_leK : ∀ (T : Rws), (sword T).length ≤ boxes T
 | [] => by simp [sword, rword, boxes_nil]
 | r :: t => by
  have h1 := rword_len_leK t
  rw [sword_cons, List.length_append, boxes_cons]
  have : (lets r).length ≤ r.length := List.length_filter_le _ _
  omega
theorem SkOk.rectOkK {T : Rws} (h : SkOk T) : FillOk (insW [] (sword T)) :=
 (fill_word (by have := rword_len_leK T; have := h.2; omega) (fun x hx => by
  obtain ⟨i, j, h1, h2, h3⟩ := mem_sword hx
  have := h.sk.2 i j h1
  unfold Lt
  omega)).1
noncomputable def recF : Rws → Rws × Int := FT skcode (fun T rows => rows = insW [] (sword T))
theorem recT : OpT 138 recF :=
 opT (fun p h0 r s h h' => by rw [h, h']) (fun p h0 r h => by rw [h]; exact few_fill (skcode_zero h0).rectOkK)
  (fun A cap T w hT h h0 => (rectify_any A cap T w hT h).mono (by
   rintro e w' ⟨⟨k, rows, A', c', rfl, ho, _, h1, h2, h3⟩, hb⟩
   obtain rfl := h2 (skcode_zero h0)
   exact ⟨⟨rows, ⟨A', c', rfl, ho⟩, (h1 rfl).2⟩, hb⟩))
  (fun A cap T w hT h h0 => bad_d (rect_e A cap T w hT (fun ok => h0 (skcode_ok ok)) h))
theorem stcode_ok {T : Rws} (h : Std T) : stcode T = 0 := by unfold stcode; rw [if_pos h.1, if_pos h.2]
theorem opOut_ok {B : Nat} {e : Ending} {w : World} {T : Rws} {F : Rws → Prop} (h : OpOut B e w T F) (ok : Std T) : ∃ rows, DOut (rows, 0) B e w ∧ F rows := by
 obtain ⟨k, rows, A', c', rfl, ho, _, h1, h2, h3⟩ := h
 obtain rfl := h2 ok
 exact ⟨rows, ⟨A', c', rfl, ho⟩, (h1 rfl).2⟩
noncomputable def evaF : Rws → Rws × Int := FT stcode (fun T rows => rows = eva T)
theorem evaT : OpT 139 evaF :=
 opT (fun p h0 r s h h' => by rw [h, h']) (fun p h0 r h => by rw [h]; exact few_fill (stcode_zero h0).eva.1.1)
  (fun A cap T w hT h h0 => (evacuate_any A cap T w hT h).mono (fun _ _ hh => ⟨opOut_ok hh.1 (stcode_zero h0), hh.2⟩))
  (fun A cap T w hT h h0 => bad_d (eva_e A cap T w hT (fun ok => h0 (stcode_ok ok)) h))
noncomputable def proF : Rws → Rws × Int := FT stcode (fun T rows => Pro T rows)
theorem proT : OpT 140 proF :=
 opT (fun _ _ _ _ h h' => h.fn h') (fun _ _ _ h => few_fill h.u.1)
  (fun A cap T w hT h h0 => (promote_any A cap T w hT h).mono (fun _ _ hh => ⟨opOut_ok hh.1 (stcode_zero h0), hh.2⟩))
  (fun A cap T w hT h h0 => bad_d (pro_e A cap T w hT (fun ok => h0 (stcode_ok ok)) h))
noncomputable def demF : Rws → Rws × Int := FT stcode (fun T rows => Pro rows T)
theorem demT : OpT 141 demF :=
 opT (fun _ _ _ _ h h' => h.inj h') (fun _ _ _ h => few_fill h.t.1)
  (fun A cap T w hT h h0 => (demote_any A cap T w hT h).mono (fun _ _ hh => ⟨opOut_ok hh.1 (stcode_zero h0), hh.2⟩))
  (fun A cap T w hT h h0 => bad_d (dem_e A cap T w hT (fun ok => h0 (stcode_ok ok)) h))
open Classical in
noncomputable def sgcode (T : Rws) : Int := if SignOk T then 0 else 1
theorem sgcode_zero {T : Rws} (h : sgcode T = 0) : SignOk T := by
 unfold sgcode at h
 by_cases ok : SignOk T
 · exact ok
 · rw [if_neg ok] at h; cases h
theorem chk_code {T : Rws} {k : Int} (h : ChkSign T k) : k = sgcode T := by
 unfold sgcode
 rcases h with ⟨a, rfl⟩ | ⟨a, rfl⟩
 · rw [if_pos a]
 · rw [if_neg a]
def only (v : Value) (k : Nat) : Prop := v.ownBlock = some k
theorem IsPart.el {p : List Int} (h : IsPart p) (hs : p.sum ≤ 40) {i : Nat} (hi : i < p.length) : 1 ≤ p.getD i 0 ∧ p.getD i 0 ≤ 40 := by
 have h1 := h.1 i hi
 have h2 := mem_le_sum (p := p) (fun x hx => by
  obtain ⟨j, hj, rfl⟩ := List.getElem_of_mem hx
  have := h.1 j hj
  rw [getD_get hj] at this; exact this) (p.getD i 0) (by rw [getD_get hi]; exact List.getElem_mem hi)
 omega
theorem OwnM.push1 {w w2 w5 : World} {B : Nat} {v u : Value} {hs : List Value} {rows : List (List Int)} {l : List Int} (h : OwnM w B v hs rows) (hb2 : Below w.heap.size w w2) (hB : B ≤ w.heap.size) (hu : w2.ownsRow w.heap.size 3 1 u l.length (ints l)) {g c n : Nat} (hn : n = rows.length)
 (ho : w5.ownsRow B 65 1 (.slice (some ⟨g, 0, none⟩) (n + 1) c) (n + 1) (hs ++ [u])) (hg : (w2.alloc (.cells #[u] 65)).grownBy w5 v.ownBlock) (hat : v.ownBlock = some g ∨ g = w2.heap.size + 1) :
 OwnM w5 B (.slice (some ⟨g, 0, none⟩) (n + 1) c) (hs ++ [u]) (rows ++ [l]) := by
 have hf := h.far_new (u := u) (fun k hk => (hu.lt k hk).1)
 exact ((h.below hb2).alloc (.cells #[u] 65)).push (u := u) (l := l) ((hu.mono hB).alloc _) hf.1 hf.2 (by rw [hn]) ho hg (by simpa using hat)
noncomputable def triF : Rws → Rws × Int := FT sgcode (fun m rows => rows = triOf m m.length)
theorem triT : OpT 142 triF :=
 opT (fun p h0 r s h h' => by rw [h, h']) (fun p h0 r h => by
  have h7 := (sgcode_zero h0).1
  rw [h]
  unfold triOf
  refine few_rows (m := 7) (by omega) (by omega) (fun i _ => ?_) (fun i hi x hx => ?_)
  · unfold triRow
    rw [List.length_map]
    exact Nat.le_trans (List.length_filter_le _ _) (by simp; omega)
  · unfold triRow at hx
    obtain ⟨j, hj, rfl⟩ := List.mem_map.1 hx
    have := List.mem_range.1 (List.mem_filter.1 hj).1
    omega)
  (fun A cap T w hT h h0 => (tri_any A cap T w hT h).mono (by
   rintro e w' ⟨⟨k, rows, ⟨A', c', rfl, ho, _⟩, hk, _, h1⟩, hb⟩
   obtain rfl : k = 0 := by rw [chk_code hk]; exact h0
   exact ⟨⟨rows, ⟨A', c', rfl, ho⟩, h1 rfl⟩, hb⟩))
  (fun A cap T w hT h h0 => (tri_any A cap T w hT h).mono (by
   rintro e w' ⟨⟨k, rows, ⟨A', c', rfl, ho, _⟩, hk, h1, _⟩, hb⟩
   have e := chk_code hk
   obtain rfl := h1 (by rw [e]; exact h0)
   rw [← e]
   exact ⟨⟨A', c', rfl, ho⟩, hb⟩))
open Classical in
noncomputable def ttcode (T : Rws) : Int := if TriIn T then 0 else 1
theorem ttcode_zero {T : Rws} (h : ttcode T = 0) : TriIn T := by
 unfold ttcode at h
 by_cases ok : TriIn T
 · exact ok
 · rw [if_neg ok] at h; cases h
theorem ind_rng (q : List Int) (j : Nat) : 0 ≤ ind q j ∧ ind q j ≤ 1 := by unfold ind; split <;> decide
noncomputable def ftrF : Rws → Rws × Int := FT ttcode (fun T rows => rows = unT T T.length)
theorem ftrT : OpT 143 ftrF :=
 opT (fun p h0 r s h h' => by rw [h, h']) (fun p h0 r h => by
  have h7 := (ttcode_zero h0).2.1
  rw [h]
  unfold unT
  refine few_rows (m := 7) (by omega) (by omega) (fun i _ => by unfold urT; rw [tab_length]; exact h7) (fun i hi x hx => ?_)
  unfold urT tab at hx
  obtain ⟨j, _, rfl⟩ := List.mem_map.1 hx
  have h1 := ind_rng (p.getD i []) j
  have h2 := ind_rng (p.getD (i - 1) []) j
  split <;> omega)
  (fun A cap T w hT h h0 => (fromtri_all A cap T.length T w rfl hT h).mono (by
   rintro e w' ⟨hs, hb⟩
   rcases hs with ⟨_, v, hs, rfl, hm⟩ | ⟨hn, _⟩
   · exact ⟨⟨_, dout_own hm 0, rfl⟩, hb⟩
   · exact absurd (ttcode_zero h0) hn))
  (fun A cap T w hT h h0 => (fromtri_all A cap T.length T w rfl hT h).mono (by
   rintro e w' ⟨hs, hb⟩
   rcases hs with ⟨ok, _⟩ | ⟨hn, rfl⟩
   · exact absurd (by unfold ttcode; rw [if_pos ok]) h0
   · have e : ttcode T = 1 := by unfold ttcode; rw [if_neg hn]
     rw [e]; exact ⟨dout_bad _ _ _, hb⟩))
theorem sOf_rng (Y : Cf) (i j : Nat) : 0 ≤ sOf Y i j ∧ sOf Y i j ≤ 1 := by unfold sOf; split <;> decide
noncomputable def gyrF : Rws → Rws × Int := FT sgcode (fun m rows => rows = gyrM m)
theorem gyrT : OpT 144 gyrF :=
 opT (fun p h0 r s h h' => by rw [h, h']) (fun p h0 r h => by
  have h7 := (sgcode_zero h0).1
  rw [h]
  unfold gyrM matOf
  refine few_rows (m := 7) (by omega) (by omega) (fun i _ => by unfold matRow; simp; exact h7) (fun i hi x hx => ?_)
  unfold matRow at hx
  obtain ⟨j, _, rfl⟩ := List.mem_map.1 hx
  have h1 := sOf_rng (gyr p.length (lpC p)) i j
  have h2 := sOf_rng (gyr p.length (lpC p)) i (j + 1)
  omega)
  (fun A cap T w hT h h0 => (gyrate_any A cap T w hT h).mono (by
   rintro e w' ⟨hs, hb⟩
   rcases hs with ⟨_, A', c', rfl, ho⟩ | ⟨hn, _⟩
   · exact ⟨⟨_, ⟨A', c', rfl, ho⟩, rfl⟩, hb⟩
   · exact absurd (sgcode_zero h0) hn))
  (fun A cap T w hT h h0 => (gyrate_any A cap T w hT h).mono (by
   rintro e w' ⟨hs, hb⟩
   rcases hs with ⟨ok, _⟩ | ⟨hn, rfl⟩
   · exact absurd (by unfold sgcode; rw [if_pos ok]) h0
   · have e : sgcode T = 1 := by unfold sgcode; rw [if_neg hn]
     rw [e]; exact ⟨dout_bad _ _ _, hb⟩))
structure OpW (f : FuncId) (F : Rws → List Int × Int) : Prop where
 few : ∀ T, Few (F T).1
 bad : ∀ T, (F T).2 ≠ 0 → (F T).1 = []
 call : ∀ (A : Option Addr) (cap : Nat) (T : Rws) (w : World), T.length ≤ 9223372036854775807 → SR w w.heap.size A T →
  Calls Tryz.prog f #[.slice A T.length cap] w fun e w' => LsOut (F T) w.heap.size e w' ∧ Below w.heap.size w w'
theorem shape_ok (A : Option Addr) (cap : Nat) (T : Rws) (w : World) (hT : T.length ≤ 9223372036854775807) (hok : FillOk T) (h : SR w w.heap.size A T) :
 Calls Tryz.prog 134 #[.slice A T.length cap] w fun e w' => LsOut (lensOf T, 0) w.heap.size e w' ∧ Below w.heap.size w w' := by
 have HC := Lib.hid (fcheck_c A cap T w hT h)
 rw [fcode_ok hok] at HC
 have hT4 := hok.small.1
 have HOK := Lib.hid hok
 have HT5 := Lib.hid hok.small.2
 clear hok
 go_enter Tryz.func134, Tryz.ntmps134
 go_wp2_with (first | (go_at_call 172; refine (HC.out).mono ?_) | fail)
 rintro e w1 ⟨rfl, rfl⟩
 go_wp2
 go_loopw [5, 15] (fun ov iv wr => ∃ (i : Nat) (l : List Int), i ≤ T.length ∧ iv = .int .i64 i ∧ l = lensOf (T.take i) ∧ wr.ownsRow w.heap.size 3 1 ov i (ints l) ∧ Below w.heap.size w wr) (fun _ iv _ => T.length - (Go.RowKit.intOf iv).toNat)
 case atStart => exact ⟨0, [], Nat.zero_le _, rfl, rfl, World.ownsRow_nil _ _ _ _, Below.refl _ _⟩
 case round =>
  obtain ⟨i, l, hi, rfl, hl, ho, hW⟩ := hrel
  have hsz := hW.size
  have HL := Lib.hid hl
  have HO := Lib.hid ho
  clear hl ho
  by_cases hit : i < T.length
  · have di : decide (i < T.length) = true := decide_eq_true hit
    have h2 := h.below hW
    obtain ⟨b, o, rfl, hb⟩ := h.addr (by omega)
    obtain ⟨Ar, cr, hcl, hr, hrl⟩ := h2.at_ hit
    have hr40 := HT5.out i
    have hnx : Hid (l ++ [((T.getD i []).length : Int)] = lensOf (T.take (i + 1))) := by
     show _ = _
     rw [HL.out]
     unfold lensOf
     rw [List.take_succ_eq_append_getElem hit, List.map_append, getD_get hit]; rfl
    obtain ⟨q, hq⟩ : ∃ q, q = (T.getD i []).length := ⟨_, rfl⟩
    rw [← hq] at hcl hr40 hnx
    clear hr hrl hq h2
    go_wp2_with (first | (at_builtin; refine wpList_app1 rfl (.tmp 19) (.tmp 22) rfl rfl (q : Int) HO.out rfl (by omega) hsz (fun g2 c2 w6 hl6 hb6 => ?_)) | fail)
    go_roundw
    case rel => exact ⟨i + 1, _, by omega, by go_num, hnx.out, hl6, hW.trans hb6⟩
    case measure => simp [Go.RowKit.intOf]; omega
  · have di : decide (i < T.length) = false := decide_eq_false hit
    have hfin : Hid (l = lensOf T) := by show _ = _; rw [HL.out, List.take_of_length_le (by omega)]
    obtain ⟨A6, c6, rfl, -, hso⟩ := own_sliceT HO.out
    have HSO := Lib.hid hso
    clear hso HO
    go_wp2
    go_ret2
    have hf := hfin.out
    subst hf
    exact ⟨⟨A6, c6, rfl, HSO.out⟩, hW⟩
open Classical in
noncomputable def shpF (T : Rws) : List Int × Int := if FillOk T then (lensOf T, 0) else ([], fcode T)
theorem bad_l {f : FuncId} {args : Array Value} {w : World} {k : Int} (h : Calls Tryz.prog f args w fun e w' => e = .returned (.tuple #[.slice none 0 0, .int .i64 k]) ∧ Below w.heap.size w w') :
 Calls Tryz.prog f args w fun e w' => LsOut ([], k) w.heap.size e w' ∧ Below w.heap.size w w' :=
 h.mono (by rintro e w' ⟨rfl, hb⟩; exact ⟨lout_bad _ _ _, hb⟩)
theorem shpW : OpW 134 shpF := by
 refine ⟨fun T => ?_, fun T h => ?_, fun A cap T w hT h => ?_⟩
 · unfold shpF
   by_cases ok : FillOk T
   · rw [if_pos ok]
     refine ⟨by unfold lensOf; have := ok.small.1; simp; omega, fun x hx => ?_⟩
     unfold lensOf at hx
     obtain ⟨r, hr, rfl⟩ := List.mem_map.1 hx
     have := ((few_fill ok).2 r hr).1; omega
   · rw [if_neg ok]; exact Few.nil
 · unfold shpF at h ⊢
   by_cases ok : FillOk T
   · rw [if_pos ok] at h; exact absurd rfl h
   · rw [if_neg ok]
 · unfold shpF
   by_cases ok : FillOk T
   · rw [if_pos ok]; exact shape_ok A cap T w hT ok h
   · rw [if_neg ok]; exact bad_l (shape_e A cap T w hT ok h)
open Classical in
noncomputable def wrdF (T : Rws) : List Int × Int := if FillOk T then (T.reverse.flatten, 0) else ([], fcode T)
theorem flat_rev_boxes (T : Rws) : T.reverse.flatten.length = boxes T := by
 unfold boxes
 rw [List.length_flatten, List.map_reverse, List.sum_reverse]
theorem wrdW : OpW 135 wrdF := by
 refine ⟨fun T => ?_, fun T h => ?_, fun A cap T w hT h => ?_⟩
 · unfold wrdF
   by_cases ok : FillOk T
   · rw [if_pos ok]
     refine ⟨?_, fun x hx => ?_⟩
     · have h1 : T.reverse.flatten.length = boxes T := flat_rev_boxes T
       have := ok.2.2
       show T.reverse.flatten.length ≤ _
       omega
     · obtain ⟨r, hr, hx⟩ := List.mem_flatten.1 hx
       have := ok.2.1 r (List.mem_reverse.1 hr) x hx
       unfold Lt at this; omega
   · rw [if_neg ok]; exact Few.nil
 · unfold wrdF at h ⊢
   by_cases ok : FillOk T
   · rw [if_pos ok] at h; exact absurd rfl h
   · rw [if_neg ok]
 · unfold wrdF
   by_cases ok : FillOk T
   · rw [if_pos ok]
     refine (word_all A cap T w hT h).mono ?_
     rintro e w' ⟨hs, hb⟩
     rcases hs with ⟨_, A', c', rfl, ho⟩ | hn
     · exact ⟨⟨A', c', rfl, ho⟩, hb⟩
     · exact absurd ok hn
   · rw [if_neg ok]; exact bad_l (fword_e A cap T w hT ok h)
structure OpP (f : FuncId) (F : Rws → Rws → Rws × Int) : Prop where
 few : ∀ T U, FewT (F T U).1
 bad : ∀ T U, (F T U).2 ≠ 0 → (F T U).1 = []
 call : ∀ (A C : Option Addr) (cap cap2 : Nat) (T U : Rws) (w : World), T.length ≤ 9223372036854775807 → U.length ≤ 9223372036854775807 → SR w w.heap.size A T → SR w w.heap.size C U →
  Calls Tryz.prog f #[.slice A T.length cap, .slice C U.length cap2] w fun e w' => DOut (F T U) w.heap.size e w' ∧ Below w.heap.size w w'
open Classical in
noncomputable def pcode (a b : Rws) : Int := if SignOk a ∧ SignOk b then if a.length = b.length then 0 else 3 else 1
theorem pair_code {a b : Rws} {k : Int} (h : PairChk a b k) : k = pcode a b := by
 unfold pcode
 by_cases c : SignOk a ∧ SignOk b
 · rw [if_pos c]
   by_cases l : a.length = b.length
   · rw [if_pos l]; exact h.1.2 ⟨c.1, c.2, l⟩
   · rw [if_neg l]; exact h.2.2.2 c.1 c.2 l
 · rw [if_neg c]
   by_cases ha : SignOk a
   · exact h.2.2.1 (fun hb => c ⟨ha, hb⟩)
   · exact h.2.1 ha
theorem pcode_zero {a b : Rws} (h : pcode a b = 0) : SignOk a ∧ SignOk b ∧ a.length = b.length := by
 unfold pcode at h
 by_cases c : SignOk a ∧ SignOk b
 · rw [if_pos c] at h
   by_cases l : a.length = b.length
   · exact ⟨c.1, c.2, l⟩
   · rw [if_neg l] at h; cases h
 · rw [if_neg c] at h; cases h
theorem few_unc {n : Nat} {c : Nat → Nat → Int} (hn : n ≤ 7) (h : ∀ i j, i ≤ n → j ≤ n → 0 ≤ c i j ∧ c i j ≤ 7) : FewT (unc n c) := by
 unfold unc
 refine few_rows (m := 7) (by omega) (by omega) (fun i _ => by simp; exact hn) (fun i hi x hx => ?_)
 obtain ⟨j, hj, rfl⟩ := List.mem_map.1 hx
 have hj := List.mem_range.1 hj
 have h1 := h (i + 1) (j + 1) (by omega) (by omega)
 have h2 := h i (j + 1) (by omega) (by omega)
 have h3 := h (i + 1) j (by omega) (by omega)
 have h4 := h i j (by omega) (by omega)
 omega
noncomputable def PF (G : Nat → Rws → Rws → Rws) (a b : Rws) : Rws × Int := if pcode a b = 0 then (G a.length a b, 0) else ([], pcode a b)
theorem opP {f : FuncId} {G : Nat → Rws → Rws → Rws} (hfew : ∀ a b, SignOk a → SignOk b → a.length = b.length → FewT (G a.length a b))
 (hcall : ∀ (A A' : Option Addr) (cap cap' : Nat) (a b : Rws) (w : World), a.length ≤ 9223372036854775807 → b.length ≤ 9223372036854775807 → SR w w.heap.size A a → SR w w.heap.size A' b →
  Calls Tryz.prog f #[.slice A a.length cap, .slice A' b.length cap'] w fun e w' => (∃ (k : Int) (rows : Rws), RowsOut w.heap.size e w' k rows ∧ PairChk a b k ∧ (k ≠ 0 → rows = []) ∧ (k = 0 → rows = G a.length a b)) ∧ Below w.heap.size w w') : OpP f (PF G) := by
 refine ⟨fun a b => ?_, fun a b h => ?_, fun A C cap cap2 a b w ha hb h h2 => (hcall A C cap cap2 a b w ha hb h h2).mono ?_⟩
 · unfold PF
   by_cases c : pcode a b = 0
   · rw [if_pos c]
     obtain ⟨h1, h2, h3⟩ := pcode_zero c
     exact hfew a b h1 h2 h3
   · rw [if_neg c]; exact FewT.nil
 · unfold PF at h ⊢
   by_cases c : pcode a b = 0
   · rw [if_pos c] at h; exact absurd rfl h
   · rw [if_neg c]
 · rintro e w' ⟨⟨k, rows, ⟨A', c', rfl, ho, _⟩, hk, h1, h2⟩, hb⟩
   have e := pair_code hk
   refine ⟨?_, hb⟩
   unfold PF
   by_cases c : pcode a b = 0
   · rw [if_pos c]
     rw [c] at e
     subst e
     obtain rfl := h2 rfl
     exact ⟨A', c', rfl, ho⟩
   · rw [if_neg c]
     obtain rfl := h1 (by rw [e]; exact c)
     rw [← e]
     exact ⟨A', c', rfl, ho⟩
noncomputable def meeF : Rws → Rws → Rws × Int := PF meetOf
theorem meeP : OpP 98 meeF :=
 opP (fun a b ha hb hl => by
  unfold meetOf
  refine few_unc ha.1 (fun i j hi hj => ?_)
  have h1 := IsSign.fun_le ha hi hj
  have h2 := IsSign.fun_le hb (i := i) (j := j) (by omega) (by omega)
  omega) (fun A A' cap cap' a b w h1 h2 h3 h4 => meet_any A A' cap cap' a b w h1 h2 h3 h4)
noncomputable def joiF : Rws → Rws → Rws × Int := PF joinOf
theorem joiP : OpP 99 joiF :=
 opP (fun a b ha hb hl => by
  unfold joinOf
  refine few_unc ha.1 (fun i j hi hj => ?_)
  have h1 := IsSign.fun_le ha hi hj
  have h2 := IsSign.fun_le hb (i := i) (j := j) (by omega) (by omega)
  omega) (fun A A' cap cap' a b w h1 h2 h3 h4 => join_any A A' cap cap' a b w h1 h2 h3 h4)
end
end Go.Proofs.YtpmkdihencepnaaGreatDoor
