/- Part of the proof. -/
import Derived.Shelf.Abstract
import Derived.Test.YtpmkdihencepnaaGreatDoorMk17
import Derived.Test.YtpmkdihencepnaaGreatDoorMk37
set_option maxHeartbeats 16000000
set_option maxRecDepth 100000
namespace Go.Proofs.YtpmkdihencepnaaGreatDoor
section
open Go.RowKit
open Classical in
noncomputable def shcode (p q : Rws) : Int := if FillOk p then if FillOk q then if SameSh p q then 0 else 3 else fcode q else fcode p
theorem shpF_code (T : Rws) : (shpF T).2 = fcode T := by
 unfold shpF
 by_cases ok : FillOk T
 · rw [if_pos ok, fcode_ok ok]
 · rw [if_neg ok]
theorem shpF_ok {T : Rws} (h : fcode T = 0) : (shpF T).1 = lensOf T := by unfold shpF; rw [if_pos (fcode_zero h)]
theorem shapes_c (A C : Option Addr) (cap cap2 : Nat) (p q : Rws) (w : World) (hp : p.length ≤ 9223372036854775807) (hq : q.length ≤ 9223372036854775807) (h : SR w w.heap.size A p) (h2 : SR w w.heap.size C q) :
 Calls Tryz.prog 146 #[.slice A p.length cap, .slice C q.length cap2] w fun e w' => e = .returned (.int .i64 (shcode p q)) ∧ Below w.heap.size w w' := by
 have HC1 := Lib.hid (shpW.call A cap p w hp h)
 have HC2 : Hid (∀ w1, Below w.heap.size w w1 → Calls Tryz.prog 134 #[.slice C q.length cap2] w1 fun e w' => LsOut (shpF q) w1.heap.size e w' ∧ Below w1.heap.size w1 w') := Lib.hid fun w1 hb => shpW.call C cap2 q w1 hq (h2.keep hb)
 have hs1 : Hid (fcode p ≠ 0 → shcode p q = fcode p) := fun h => by unfold shcode; rw [if_neg (fun ok => h (fcode_ok ok))]
 have hs2 : Hid (fcode p = 0 → fcode q ≠ 0 → shcode p q = fcode q) := fun h h' => by unfold shcode; rw [if_pos (fcode_zero h), if_neg (fun ok => h' (fcode_ok ok))]
 have hs3 : Hid (fcode p = 0 → fcode q = 0 → (shpF p).1 = (shpF q).1 → shcode p q = 0) := fun h h' e => by
  rw [shpF_ok h, shpF_ok h'] at e
  unfold shcode; rw [if_pos (fcode_zero h), if_pos (fcode_zero h'), if_pos ((lens_same (fcode_zero h) (fcode_zero h')).1 e)]
 have hs4 : Hid (fcode p = 0 → fcode q = 0 → (shpF p).1 ≠ (shpF q).1 → shcode p q = 3) := fun h h' e => by
  rw [shpF_ok h, shpF_ok h'] at e
  unfold shcode; rw [if_pos (fcode_zero h), if_pos (fcode_zero h'), if_neg (fun s => e ((lens_same (fcode_zero h) (fcode_zero h')).2 s))]
 have f1 := (shpW.few p).1
 have f2 := (shpW.few q).1
 have e1 := shpF_code p
 have e2 := shpF_code q
 obtain ⟨xs, hxs⟩ : ∃ xs, xs = (shpF p).1 := ⟨_, rfl⟩
 obtain ⟨ys, hys⟩ : ∃ ys, ys = (shpF q).1 := ⟨_, rfl⟩
 obtain ⟨k1, hk1⟩ : ∃ k, k = fcode p := ⟨_, rfl⟩
 obtain ⟨k2, hk2⟩ : ∃ k, k = fcode q := ⟨_, rfl⟩
 have hp1 : shpF p = (xs, k1) := by rw [hxs, hk1, ← e1]
 have hp2 : shpF q = (ys, k2) := by rw [hys, hk2, ← e2]
 rw [hp1] at HC1
 rw [hp2] at HC2
 rw [← hxs] at f1 hs3 hs4
 rw [← hys] at f2 hs3 hs4
 rw [← hk1] at hs1 hs2 hs3 hs4
 rw [← hk2] at hs2 hs3 hs4
 clear hp1 hp2 hxs hys hk1 hk2 e1 e2 h h2
 go_enter Tryz.func146, Tryz.ntmps146
 go_wp2_with (first | (go_at_call 134; refine (HC1.out).mono ?_) | fail)
 rintro e w1 ⟨⟨A1, c1, rfl, ho1⟩, hb1⟩
 have HC3 := Lib.hid (HC2.out w1 hb1)
 have HS1 := Lib.hid (Sl.of_own ho1)
 have HB1 := Lib.hid hb1
 clear ho1 hb1 HC1 HC2
 go_wp2_with (first | (go_at_call 134; refine (HC3.out).mono ?_) | fail)
 rintro e w2 ⟨⟨A2, c2, rfl, ho2⟩, hb2⟩
 have HS2 := Lib.hid (Sl.of_own ho2)
 have HS1' := Lib.hid (HS1.out.keep hb2)
 have HB2 := Lib.hid (below_call HB1.out (Nat.le_refl _) hb2)
 clear ho2 hb2 HC3 HS1 HB1
 by_cases hk1 : k1 = 0
 · subst hk1
   by_cases hk2 : k2 = 0
   · subst hk2
     go_wp2_with (first | (go_at_call 184; refine (equal_any A1 A2 c1 c2 xs ys _ (by omega) (by omega) HS1'.out HS2.out).mono ?_) | fail)
     rintro e w3 ⟨rfl, hb3⟩
     have hW3 := below_call HB2.out (Nat.le_refl _) hb3
     by_cases hxy : xs = ys
     · have dx : decide (xs = ys) = true := decide_eq_true hxy
       have HF : Hid (shcode p q = 0) := by first | exact hs3.out rfl rfl hxy | exact hs3.out trivial trivial hxy
       rw [dx]
       clear hxy dx hs1 hs2 hs3 hs4
       go_wp2
       go_ret
       exact ⟨by rw [HF.out]; rfl, hW3⟩
     · have dx : decide (xs = ys) = false := decide_eq_false hxy
       have HF : Hid (shcode p q = 3) := by first | exact hs4.out rfl rfl hxy | exact hs4.out trivial trivial hxy
       rw [dx]
       clear hxy dx hs1 hs2 hs3 hs4
       go_wp2
       go_ret
       exact ⟨by rw [HF.out]; rfl, hW3⟩
   · have dk : (k2 != 0) = true := by simpa using hk2
     have HF : Hid (shcode p q = k2) := by first | exact hs2.out rfl hk2 | exact hs2.out trivial hk2
     clear hs1 hs2 hs3 hs4 hk2
     go_wp2
     go_ret
     exact ⟨by rw [HF.out]; rfl, HB2.out⟩
 · have dk : (k1 != 0) = true := by simpa using hk1
   have HF : Hid (shcode p q = k1) := hs1.out hk1
   clear hs1 hs2 hs3 hs4 hk1
   go_wp2
   go_ret
   exact ⟨by rw [HF.out]; rfl, HB2.out⟩
open Classical in
noncomputable def bkcode (p q : Rws) : Int := if shcode p q = 0 then if IsPerm q.flatten then 0 else 3 else shcode p q
theorem shcode_zero {p q : Rws} (h : shcode p q = 0) : FillOk p ∧ FillOk q ∧ SameSh p q := by
 unfold shcode at h
 by_cases a : FillOk p
 · rw [if_pos a] at h
   by_cases b : FillOk q
   · rw [if_pos b] at h
     by_cases c : SameSh p q
     · exact ⟨a, b, c⟩
     · rw [if_neg c] at h; cases h
   · rw [if_neg b] at h; exact absurd h (fcode_ne b)
 · rw [if_neg a] at h; exact absurd h (fcode_ne a)
theorem bkcode_zero {p q : Rws} (h : bkcode p q = 0) : FillOk p ∧ FillOk q ∧ SameSh p q ∧ IsPerm q.flatten := by
 unfold bkcode at h
 by_cases s : shcode p q = 0
 · rw [if_pos s] at h
   by_cases c : IsPerm q.flatten
   · obtain ⟨h1, h2, h3⟩ := shcode_zero s; exact ⟨h1, h2, h3, c⟩
   · rw [if_neg c] at h; cases h
 · rw [if_neg s] at h; exact absurd h s
theorem back_e (A C : Option Addr) (cap cap2 : Nat) (p q : Rws) (w : World) (hp : p.length ≤ 9223372036854775807) (hq : q.length ≤ 9223372036854775807) (h : SR w w.heap.size A p) (h2 : SR w w.heap.size C q) (hne : bkcode p q ≠ 0) :
 Calls Tryz.prog 97 #[.slice A p.length cap, .slice C q.length cap2] w fun e w' => e = .returned (.tuple #[.slice none 0 0, .int .i64 (bkcode p q)]) ∧ Below w.heap.size w w' := by
 have HC := Lib.hid (shapes_c A C cap cap2 p q w hp hq h h2)
 by_cases s : shcode p q = 0
 · have hnp : ¬ IsPerm q.flatten := fun c => hne (by unfold bkcode; rw [if_pos s, if_pos c])
   have hok := (shcode_zero s).2.1
   have hc : Hid (bkcode p q = 3) := by show _ = _; unfold bkcode; rw [if_pos s, if_neg hnp]
   have HST : Hid (∀ w1, Below w.heap.size w w1 → Calls Tryz.prog 147 #[.slice C q.length cap2] w1 fun e w' => (∃ k : Int, e = .returned (.tuple #[.bool false, .int .i64 k])) ∧ Below w1.heap.size w1 w') := Lib.hid fun w1 hb =>
    (standard_any C cap2 q w1 hq (h2.keep hb)).mono (by
     rintro e w' ⟨⟨b, k, rfl, h1, h2, _⟩, hb⟩
     obtain rfl := h2 hok
     have := (h1 rfl).2
     have hbf : b = false := by
      cases b
      · rfl
      · exact absurd (this.1 rfl) hnp
     subst hbf
     exact ⟨⟨_, rfl⟩, hb⟩)
   rw [s] at HC
   clear s hnp hok hne h h2
   go_enter Tryz.func97, Tryz.ntmps97
   go_wp2_with (first | (go_at_call 146; refine (HC.out).mono ?_) | fail)
   rintro e w1 ⟨rfl, hb1⟩
   have HS1 := Lib.hid (HST.out w1 hb1)
   go_wp2_with (first | (go_at_call 147; refine (HS1.out).mono ?_) | fail)
   rintro e w2 ⟨⟨k, rfl⟩, hb2⟩
   have hW := below_call hb1 (Nat.le_refl _) hb2
   go_wp2
   go_ret2
   exact ⟨by rw [hc.out]; rfl, hW⟩
 · have hc : Hid (bkcode p q = shcode p q) := by show _ = _; unfold bkcode; rw [if_neg s]
   obtain ⟨k, hk⟩ : ∃ k, k = shcode p q := ⟨_, rfl⟩
   rw [← hk] at HC s hc
   have dk : (k != 0) = true := by simpa using s
   clear hk s hne h h2
   go_enter Tryz.func97, Tryz.ntmps97
   go_wp2_with (first | (go_at_call 146; refine (HC.out).mono ?_) | fail)
   rintro e w1 ⟨rfl, hb1⟩
   go_wp2
   go_ret2
   exact ⟨by rw [hc.out]; rfl, hb1⟩
def Bd (T : Rws) : Prop := ∀ r ∈ T, ∀ x ∈ r, -1000000 ≤ x ∧ x ≤ 1000000
theorem bd_getD {r : List Int} (h : ∀ x ∈ r, -1000000 ≤ x ∧ x ≤ 1000000) (i : Nat) : -1000000 ≤ r.getD i 0 ∧ r.getD i 0 ≤ 1000000 := by
 by_cases hi : i < r.length
 · rw [getD_get hi]; exact h _ (List.getElem_mem hi)
 · rw [List.getD_eq_getElem?_getD, List.getElem?_eq_none (by omega)]; simp
theorem bd_unb : ∀ (T : Rws) (i : Nat), Bd T → Bd (unb T i).1 ∧ (-1000000 ≤ (unb T i).2 ∧ (unb T i).2 ≤ 1000000)
 | [], i, h => by cases i <;> exact ⟨fun r hr => by simp [unb] at hr, by simp [unb]⟩
 | r :: t, 0, h => by
  have hr := h r (by simp)
  refine ⟨fun s hs x hx => ?_, by simp only [unb]; exact bd_getD hr _⟩
  simp only [unb] at hs
  split at hs
  · cases hs
  · rcases List.mem_cons.1 hs with rfl | hs
    · exact hr x (List.dropLast_subset _ hx)
    · exact h s (List.mem_cons_of_mem _ hs) x hx
 | r :: t, i + 1, h => by
  have hr := h r (by simp)
  have ih := bd_unb t i (fun s hs => h s (List.mem_cons_of_mem _ hs))
  refine ⟨fun s hs x hx => ?_, by simp only [unb, pull]; exact bd_getD hr _⟩
  simp only [unb] at hs
  rcases List.mem_cons.1 hs with rfl | hs
  · simp only [pull] at hx
    rcases List.mem_or_eq_of_mem_set hx with hx | rfl
    · exact hr x hx
    · exact ih.2
  · exact ih.1 s hs x hx
theorem bd_und {p q : Rws} {m : List (Int × Int)} (h : Und p q m) (hp : Bd p) : ∀ x ∈ wB m, -1000000 ≤ x ∧ x ≤ 1000000 := by
 induction h with
 | nil p => intro x hx; simp [wB] at hx
 | @step p q row most m hs _ ih =>
  intro x hx
  have hb := bd_unb p row hp
  unfold wB at hx
  rw [List.map_append] at hx
  rcases List.mem_append.1 hx with hx | hx
  · exact ih hb.1 x hx
  · simp at hx; rw [hx]; exact hb.2
theorem Und.fnK {p q : Rws} {m m' : List (Int × Int)} (h : Und p q m) (h' : Und p q m') : m = m' := by
 induction h generalizing m' with
 | nil p =>
  cases h' with
  | nil => rfl
  | step hs _ => exact absurd hs.inn (by simp)
 | step hs _ ih =>
  cases h' with
  | nil => exact absurd hs.inn (by simp)
  | step hs' hu' =>
   obtain ⟨rfl, rfl⟩ := hs.uniq hs'
   rw [ih hu']
open Classical in
noncomputable def bakF (p q : Rws) : List Int × Int := if h : bkcode p q = 0 ∧ ∃ m, Und p q m ∧ m.length ≤ 40 then (wB h.2.choose, 0) else ([], bkcode p q)
theorem bakF_ok {p q : Rws} {m : List (Int × Int)} (h0 : bkcode p q = 0) (h : Und p q m) (hl : m.length ≤ 40) : bakF p q = (wB m, 0) := by
 unfold bakF
 rw [_root_.dif_pos ⟨h0, m, h, hl⟩]
 have hx : ∃ m, Und p q m ∧ m.length ≤ 40 := ⟨m, h, hl⟩
 show (wB hx.choose, (0 : Int)) = (wB m, 0)
 rw [hx.choose_spec.1.fnK h]
theorem bakF_few (p q : Rws) : Few (bakF p q).1 := by
 by_cases c : bkcode p q = 0 ∧ ∃ m, Und p q m ∧ m.length ≤ 40
 · obtain ⟨h0, m, h, hl⟩ := c
   rw [bakF_ok h0 h hl]
   have hp : Bd p := fun r hr x hx => ((few_fill (bkcode_zero h0).1).2 r hr).2 x hx
   exact ⟨by show (wB m).length ≤ _; rw [wB_len]; omega, bd_und h hp⟩
 · unfold bakF; rw [_root_.dif_neg c]; exact Few.nil
theorem bakF_call (A C : Option Addr) (cap cap2 : Nat) (p q : Rws) (w : World) (hp : p.length ≤ 9223372036854775807) (hq : q.length ≤ 9223372036854775807) (h : SR w w.heap.size A p) (h2 : SR w w.heap.size C q) :
 Calls Tryz.prog 97 #[.slice A p.length cap, .slice C q.length cap2] w fun e w' => LsOut (bakF p q) w.heap.size e w' ∧ Below w.heap.size w w' := by
 by_cases h0 : bkcode p q = 0
 · refine (back_any A C cap cap2 p q w hp hq h h2).mono ?_
   rintro e w' ⟨⟨k, A', c', xs, rfl, ho, hl, h1, h2, _⟩, hb⟩
   obtain rfl := h2 (bkcode_zero h0)
   obtain ⟨_, m, hm, rfl⟩ := h1 rfl
   rw [bakF_ok h0 hm (by rw [← wB_len]; exact hl)]
   exact ⟨⟨A', c', rfl, ho⟩, hb⟩
 · have e : bakF p q = ([], bkcode p q) := by unfold bakF; rw [_root_.dif_neg (fun c => h0 c.1)]
   rw [e]
   exact bad_l (back_e A C cap cap2 p q w hp hq h h2 h0)
def hkR (p : List Int) (i : Nat) : List Int := (List.range (p.getD i 0).toNat).map (fun j : Nat => p.getD i 0 - (j : Int) + (flipOf p).getD j 0 - (i : Int) - 1)
def hkT (p : List Int) (n : Nat) : Rws := (List.range n).map (hkR p)
theorem hkT_succ (p : List Int) (i : Nat) : hkT p i ++ [hkR p i] = hkT p (i + 1) := by simp [hkT, List.range_succ]
theorem getD_someX {l : List Int} {j : Nat} (h : j < l.length) : l[j]? = some (l.getD j 0) := by simp [h]
theorem set_getDX {l : List Int} {j : Nat} {v : Int} (h : j < l.length) (k : Nat) : (l.set j v).getD k 0 = if k = j then v else l.getD k 0 := by
 rw [List.getD_eq_getElem?_getD, List.getD_eq_getElem?_getD, List.getElem?_set]
 by_cases e : k = j
 · subst e; simp [h]
 · rw [if_neg (fun c => e c.symm), if_neg e]
theorem hkR_eq {p l : List Int} {i n : Nat} (hn : p.getD i 0 = (n : Int)) (hl : l.length = n) (h : ∀ k, k < n → l.getD k 0 = (n : Int) - (k : Int) + (flipOf p).getD k 0 - (i : Int) - 1) : l = hkR p i := by
 unfold hkR
 rw [hn]
 apply List.ext_getElem (by simp [hl])
 intro k h1 h2
 have := h k (by omega)
 rw [getD_get h1] at this
 rw [this]
 simp
theorem hooks_ok (A : Option Addr) (cap : Nat) (p : List Int) (w : World) (hcl : p.length ≤ 9223372036854775807) (h : Sl w w.heap.size A (ints p)) (hc : partChk p = 0) :
 Calls Tryz.prog 91 #[.slice A p.length cap] w fun e w' => DOut (hkT p p.length, 0) w.heap.size e w' ∧ Below w.heap.size w w' := by
 have HCJ := Lib.hid (conj_ok A cap p w hcl h hc)
 obtain ⟨hp, hs⟩ := partChk_zero.1 hc
 have hl40 := hp.len hs
 have HP := Lib.hid hp
 have HS := Lib.hid hs
 have HFP : Hid (∀ j, 0 ≤ (flipOf p).getD j 0 ∧ (flipOf p).getD j 0 ≤ 40) := fun j => by
  have hf : ∀ x ∈ flipOf p, 1 ≤ x ∧ x ≤ 40 := fun x hx => part_le (flip_part hp) (by rw [flip_sum hp]; exact hs) hx
  by_cases hj : j < (flipOf p).length
  · rw [getD_get hj]; have := hf _ (List.getElem_mem hj); omega
  · rw [List.getD_eq_getElem?_getD, List.getElem?_eq_none (by omega)]; simp
 have hql : Hid (∀ i, i < p.length → (p.getD i 0).toNat ≤ (flipOf p).length) := fun i hi => by
  rw [flipOf_length]
  have := hp.mono i hi 0 (by omega)
  omega
 have H := Lib.hid h
 obtain ⟨q, hqq⟩ : ∃ q, q = flipOf p := ⟨_, rfl⟩
 rw [← hqq] at HCJ HFP hql
 have HQQ := Lib.hid hqq
 clear hp hs h hc hqq
 go_enter Tryz.func91, Tryz.ntmps91
 go_wp2_with (first | (go_at_call 77; refine (HCJ.out).mono ?_) | fail)
 rintro e w1 ⟨⟨q, A1, c1, rfl, hqo, rfl⟩, hb1⟩
 have HQ := Lib.hid (Sl.of_own hqo)
 have hpp := Lib.hid (H.out.now hb1 (Nat.le_refl _))
 have HB1 := Lib.hid hb1
 clear hqo hb1 HCJ
 go_wp2
 go_loopw [6, 21] (fun ov iv wr => ∃ (i : Nat) (hs : List Value), i ≤ p.length ∧ iv = .int .i64 i ∧ OwnM wr w1.heap.size ov hs (hkT p i) ∧ Below w1.heap.size w1 wr) (fun _ iv _ => p.length - (Go.RowKit.intOf iv).toNat)
 case atStart => exact ⟨0, [], Nat.zero_le _, rfl, OwnM.nil _ _, Below.refl _ _⟩
 case round =>
  obtain ⟨i, hs, hi, rfl, hm, hW⟩ := hrel
  have HM := Lib.hid hm
  have HW := Lib.hid hW
  have hsz := hW.size
  obtain ⟨w9, rfl⟩ : ∃ w9, w9 = wr := ⟨_, rfl⟩
  have hrl : (hkT p i).length = i := by simp [hkT]
  by_cases hit : i < p.length
  · have di : decide (i < p.length) = true := decide_eq_true hit
    have hp2 := hpp.out.below hW
    obtain ⟨b, o, rfl, hb⟩ := hp2.addr (by omega)
    have hcx := getD_cell hp2 hit
    have hel := HP.out.el HS.out hit
    have hqi := hql.out i hit
    obtain ⟨n, hn⟩ : ∃ n : Nat, p.getD i 0 = (n : Int) := ⟨(p.getD i 0).toNat, by omega⟩
    rw [hn] at hcx hel hqi
    have HNN := Lib.hid hn
    have hnq : n ≤ q.length := by omega
    have hmo := hm.out
    rw [hrl] at hmo
    have HMO := Lib.hid hmo
    have HRL := Lib.hid hrl
    clear hp2 hn hqi hm hW hmo hrl
    go_wp2_with (first | (refine wpList_mk (base := w9.heap.size) rfl (.tmp 26) (.tmp 26) rfl n rfl rfl (by omega) (Nat.le_refl _) (fun w2 hown2 hb2 hz2 => ?_)) | fail)
    have HO2 := Lib.hid hown2
    have HB2 := Lib.hid hb2
    clear hown2 hb2 hz2
    go_wp2
    go_loopw [30] (fun jv wz => ∃ (j : Nat) (l : List Int), j ≤ n ∧ jv = .int .i64 j ∧ l.length = n ∧ (∀ k, k < j → l.getD k 0 = (n : Int) - (k : Int) + q.getD k 0 - (i : Int) - 1) ∧ wz.ownsRow w9.heap.size 3 1 (.slice (some ⟨w9.heap.size, 0, none⟩) n n) n (ints l) ∧ Below w9.heap.size w9 wz) (fun jv _ => n - (Go.RowKit.intOf jv).toNat)
    case atStart => exact ⟨0, List.replicate n 0, by omega, rfl, by simp, fun k hk => by omega, HO2.out, HB2.out⟩
    case round =>
     clear HO2 HB2
     obtain ⟨j, l, hj, rfl, hll, hlv, hown, hW2⟩ := hrel
     have HO := Lib.hid hown
     have HW2 := Lib.hid hW2
     have HLL := Lib.hid hll
     have HLV := Lib.hid hlv
     clear hlv
     by_cases hjn : j < n
     · have dj : decide (j < n) = true := decide_eq_true hjn
       have hq := (HQ.out.below HW.out).below (hW2.mono hsz)
       obtain ⟨b2, o2, rfl, hb2⟩ := hq.addr (by omega)
       have hcq := getD_cell hq (k := j) (by omega)
       have hzr := HFP.out j
       obtain ⟨z, hze⟩ : ∃ z, z = q.getD j 0 := ⟨_, rfl⟩
       rw [← hze] at hcq hzr
       have HZE := Lib.hid hze
       have hz1 := hzr.1
       have hz2 := hzr.2
       have hjq : j < q.length := by omega
       have hco := own_get hown (getD_someX (l := l) (j := j) (by omega))
       obtain ⟨y, hy⟩ : ∃ y, y = l.getD j 0 := ⟨_, rfl⟩
       rw [← hy] at hco
       have hfr := hown.frozenAt j
       have HST : Hid (∀ y : Int, (wr.setCell ⟨w9.heap.size, j, none⟩ (.int .i64 y)).ownsRow w9.heap.size 3 1 (.slice (some ⟨w9.heap.size, 0, none⟩) n n) n (ints (l.set j y))) := Lib.hid (fun y => own_set hown j y)
       have HSW : Hid (∀ y : Int, Below w9.heap.size w9 (wr.setCell ⟨w9.heap.size, j, none⟩ (.int .i64 y))) := Lib.hid (fun y => hW2.setCell (p := ⟨w9.heap.size, j, none⟩) (Nat.le_refl _) _)
       clear hze hy hq hown hW2 hll hzr
       go_wp2
       go_roundw
       case rel =>
        refine ⟨j + 1, l.set j ((n : Int) - (j : Int) + z - (i : Int) - 1), by omega, by go_num, by rw [List.length_set]; exact HLL.out, fun k hk => ?_, HST.out _, HSW.out _⟩
        rw [set_getDX (by rw [HLL.out]; exact hjn)]
        by_cases e : k = j
        · rw [if_pos e, e, HZE.out]
        · rw [if_neg e]; exact HLV.out k (by omega)
       case measure => simp [Go.RowKit.intOf]; omega
     · have dj : decide (j < n) = false := decide_eq_false hjn
       have hbz := hW2.size
       have HM2 := Lib.hid (HM.out.below hW2)
       have HMO2 := Lib.hid (own_below HMO.out hW2)
       have hB9 : w1.heap.size ≤ wr.heap.size := Nat.le_trans hsz hbz
       have hle : Hid (l = hkR p i) := hkR_eq HNN.out HLL.out (fun k hk => by rw [← HQQ.out]; exact HLV.out k (by omega))
       clear hown hW2 hll
       go_wp2_with (first | (at_builtin; refine wpList_push (v := u6) rfl (.tmp 48) (.tmp 50) rfl rfl (.slice (some ⟨w9.heap.size, 0, none⟩) n n) rfl HMO2.out wr.heap.size rfl rfl (by omega) hB9 (fun g2 c2 w5 hl5 hg5 hat5 => ?_)) | fail)
       have hpu := HM.out.push1 HW2.out hsz (u := .slice (some ⟨w9.heap.size, 0, none⟩) n n) (l := l) (by rw [HLL.out]; exact HO.out) HRL.out.symm hl5 hg5 hat5
       rw [hle.out, hkT_succ] at hpu
       have HPU := Lib.hid hpu
       have HW5 := Lib.hid (((HW.out.trans (HW2.out.mono hsz)).alloc hB9 (.cells #[.slice (some ⟨w9.heap.size, 0, none⟩) n n] 65)).grown hg5 (by simp; omega) (fun k hk => (HMO2.out.lt k hk).1))
       clear hl5 hg5 hat5 hpu
       go_wp2
       go_roundw
       case rel => exact ⟨i + 1, _, by omega, by go_num, HPU.out, HW5.out⟩
       case measure => simp [Go.RowKit.intOf]; omega
  · have di : decide (i < p.length) = false := decide_eq_false hit
    obtain rfl : i = p.length := by omega
    have HF := Lib.hid (dout_own (hm.lowr HB1.out.size) 0)
    have HWF := Lib.hid (HB1.out.trans (hW.mono HB1.out.size))
    clear hm hW hrl
    go_wp2
    go_ret2
    exact ⟨HF.out, HWF.out⟩
theorem hooks_e (A : Option Addr) (cap : Nat) (p : List Int) (w : World) (hcl : p.length ≤ 9223372036854775807) (hc : partChk p ≠ 0) (h : Sl w w.heap.size A (ints p)) :
 Calls Tryz.prog 91 #[.slice A p.length cap] w fun e w' => e = .returned (.tuple #[.slice none 0 0, .int .i64 (partChk p)]) ∧ Below w.heap.size w w' := by
 have HC := Lib.hid (conj_e A cap p w hcl hc h)
 obtain ⟨k, hk⟩ : ∃ k, k = partChk p := ⟨_, rfl⟩
 rw [← hk] at HC hc ⊢
 have dk : (k != 0) = true := by simpa using hc
 clear hk hc h
 go_enter Tryz.func91, Tryz.ntmps91
 go_wp2_with (first | (go_at_call 77; refine (HC.out).mono ?_) | fail)
 rintro e w1 ⟨rfl, hb1⟩
 go_wp2
 go_ret2
 exact ⟨rfl, hb1⟩
structure OpH (f : FuncId) (F : List Int → Rws × Int) : Prop where
 few : ∀ p, FewT (F p).1
 bad : ∀ p, (F p).2 ≠ 0 → (F p).1 = []
 call : ∀ (A : Option Addr) (cap : Nat) (p : List Int) (w : World), p.length ≤ 9223372036854775807 → Sl w w.heap.size A (ints p) →
  Calls Tryz.prog f #[.slice A p.length cap] w fun e w' => DOut (F p) w.heap.size e w' ∧ Below w.heap.size w w'
def hokF (p : List Int) : Rws × Int := if partChk p = 0 then (hkT p p.length, 0) else ([], partChk p)
theorem hokH : OpH 91 hokF := by
 refine ⟨fun p => ?_, fun p h => ?_, fun A cap p w hcl h => ?_⟩
 · unfold hokF
   by_cases c : partChk p = 0
   · rw [if_pos c]
     obtain ⟨hp, hs⟩ := partChk_zero.1 c
     have hl := hp.len hs
     have hf : ∀ j, 0 ≤ (flipOf p).getD j 0 ∧ (flipOf p).getD j 0 ≤ 40 := fun j => by
      have hf : ∀ x ∈ flipOf p, 1 ≤ x ∧ x ≤ 40 := fun x hx => part_le (flip_part hp) (by rw [flip_sum hp]; exact hs) hx
      by_cases hj : j < (flipOf p).length
      · rw [getD_get hj]; have := hf _ (List.getElem_mem hj); omega
      · rw [List.getD_eq_getElem?_getD, List.getElem?_eq_none (by omega)]; simp
     unfold hkT
     refine few_rows (m := 40) (by omega) (by omega) (fun i hi => ?_) (fun i hi x hx => ?_)
     · have := hp.el hs hi
       unfold hkR; simp only [List.length_map, List.length_range]; omega
     · unfold hkR at hx
       obtain ⟨j, hj, rfl⟩ := List.mem_map.1 hx
       have hj := List.mem_range.1 hj
       have := hp.el hs hi
       have := hf j
       omega
   · rw [if_neg c]; exact FewT.nil
 · unfold hokF at h ⊢
   by_cases c : partChk p = 0
   · rw [if_pos c] at h; exact absurd rfl h
   · rw [if_neg c]
 · unfold hokF
   by_cases c : partChk p = 0
   · rw [if_pos c]; exact hooks_ok A cap p w hcl h c
   · rw [if_neg c]; exact bad_d (hooks_e A cap p w hcl c h)
def makP (xs : List Int) : Rws × Int := if wordChk xs = 0 then (insW [] xs, 0) else ([], wordChk xs)
def makQ (xs : List Int) : Rws × Int := if wordChk xs = 0 then (recQ xs (upN xs.length) xs.length, 0) else ([], wordChk xs)
def MkOut (xs : List Int) (B : Nat) (e : Ending) (w : World) : Prop :=
 ∃ (A1 A2 : Option Addr) (c1 c2 : Nat), e = .returned (.tuple #[.slice A1 (makP xs).1.length c1, .slice A2 (makQ xs).1.length c2, .int .i64 (wordChk xs)]) ∧ OwnR w B A1 c1 (makP xs).1 ∧ OwnR w B A2 c2 (makQ xs).1
theorem mak_call (A : Option Addr) (cap : Nat) (xs : List Int) (w : World) (hcl : xs.length ≤ 9223372036854775807) (h : Sl w w.heap.size A (ints xs)) :
 Calls Tryz.prog 132 #[.slice A xs.length cap] w fun e w' => MkOut xs w.heap.size e w' ∧ Below w.heap.size w w' := by
 refine (make_any A cap xs w hcl h).mono ?_
 rintro e w' ⟨⟨k, A1, A2, c1, c2, P, Q, rfl, h1, h2, _, _, hk, h3, h4⟩, hb⟩
 refine ⟨?_, hb⟩
 by_cases c : wordChk xs = 0
 · obtain ⟨rfl, rfl⟩ := h3 (by rw [hk]; exact c)
   have e1 : (makP xs).1 = insW [] xs := by unfold makP; rw [if_pos c]
   have e2 : (makQ xs).1 = recQ xs (upN xs.length) xs.length := by unfold makQ; rw [if_pos c]
   refine ⟨A1, A2, c1, c2, ?_, ?_, ?_⟩
   · rw [e1, e2, hk]
   · rw [e1]; exact h1
   · rw [e2]; exact h2
 · obtain ⟨rfl, rfl⟩ := h4 (by rw [hk]; exact c)
   have e1 : (makP xs).1 = [] := by unfold makP; rw [if_neg c]
   have e2 : (makQ xs).1 = [] := by unfold makQ; rw [if_neg c]
   refine ⟨A1, A2, c1, c2, ?_, ?_, ?_⟩
   · rw [e1, e2, hk]
   · rw [e1]; exact h1
   · rw [e2]; exact h2
theorem makP_few (xs : List Int) : FewT (makP xs).1 := by
 unfold makP
 by_cases c : wordChk xs = 0
 · rw [if_pos c]
   have h := take_ok (wordChk_zero c).1 (wordChk_zero c).2 xs.length
   rw [List.take_length] at h
   exact few_fill h
 · rw [if_neg c]; exact FewT.nil
theorem mem_qadd {Q : Rws} {r : Nat} {c x : Int} {s : List Int} (hs : s ∈ qadd Q r c) (hx : x ∈ s) : (∃ s' ∈ Q, x ∈ s') ∨ x = c := by
 unfold qadd at hs
 split at hs
 · rcases List.mem_append.1 hs with hs | hs
   · exact .inl ⟨s, hs, hx⟩
   · simp at hs; subst hs; simp at hx; exact .inr hx
 · rcases List.mem_or_eq_of_mem_set hs with hs | rfl
   · exact .inl ⟨s, hs, hx⟩
   · rcases List.mem_append.1 hx with hx | hx
     · exact .inl ⟨_, (mem_getD hx).2, hx⟩
     · simp at hx; exact .inr hx
theorem mem_recQ {xs cs : List Int} : ∀ (i : Nat) {x : Int} {s : List Int}, s ∈ recQ xs cs i → x ∈ s → ∃ j, x = cs.getD j 0
 | 0, x, s, hs, _ => by cases hs
 | i + 1, x, s, hs, hx => by
  rcases mem_qadd hs hx with ⟨s', h1, h2⟩ | h
  · exact mem_recQ i h1 h2
  · exact ⟨i, h⟩
theorem makQ_few (xs : List Int) : FewT (makQ xs).1 := by
 unfold makQ
 by_cases c : wordChk xs = 0
 · rw [if_pos c]
   obtain ⟨hl, hw⟩ := wordChk_zero c
   have hok := take_ok hl hw xs.length
   have h1 := rec_length (xs := xs) (cs := upN xs.length) (Nat.le_refl _)
   refine ⟨by rw [h1]; have := hok.small.1; omega, fun r hr => ?_⟩
   obtain ⟨i, hi, rfl⟩ := List.getElem_of_mem hr
   have h2 := rec_row (xs := xs) (cs := upN xs.length) (r := i) (Nat.le_refl _)
   rw [getD_get hi] at h2
   refine few_small (by rw [h2]; have := hok.small.2 i; omega) (fun x hx => ?_)
   obtain ⟨j, rfl⟩ := mem_recQ _ hr hx
   refine bd_getD (fun y hy => ?_) j
   have : 0 ≤ y ∧ y ≤ 40 := by
    unfold upN upTil at hy
    obtain ⟨t, ht, rfl⟩ := List.mem_map.1 hy
    have := List.mem_range.1 ht
    split <;> omega
   omega
 · rw [if_neg c]; exact FewT.nil
def SlP (w : World) (P : Nat → Prop) (A : Option Addr) (cs : List Value) : Prop :=
 0 < cs.length → ∃ b o, A = some ⟨b, o, none⟩ ∧ P b ∧ b < w.heap.size ∧ ∀ k u, cs[k]? = some u → w.cell? ⟨b, o + k, none⟩ = some u
section
variable {w w' : World} {P P' : Nat → Prop} {B : Nat} {A : Option Addr} {cs : List Value} {u v : Value} {rows : List (List Int)} {hs : List Value}
theorem SlP.of_own {base n : Nat} {e : TypeId} (h : w.ownsRow base e 1 v n cs) : ∃ A c, v = .slice A cs.length c ∧ cs.length ≤ 9223372036854775807 ∧ SlP w (fun k => v.ownBlock = some k) A cs := by
 have hl := h.1
 obtain rfl : n = cs.length := by omega
 rcases h.2 with ⟨e1, e2⟩ | ⟨g, c, _, e1, _⟩
 · exact ⟨none, 0, by rw [e2]; exact e1, by omega, fun hn => by omega⟩
 · subst e1
   refine ⟨_, c, rfl, by have := own_cap h; omega, fun hn => ⟨g, 0, rfl, rfl, (h.lt g rfl).2, fun k u hk => ?_⟩⟩
   have hkl := (List.getElem?_eq_some_iff.1 hk).1
   rw [Nat.zero_add, h.cellAt k (by omega)]; exact hk
end
section
variable {w w' : World} {Q Q' : Nat → Prop} {base bo bm bk : Nat} {mk : Bool} {ts : List (List (List Int))}
end
end
section
open Go.RowKit Go.Shelf
def TC (w : World) (A : Option Addr) (T : Rws) : Prop :=
 SR w w.heap.size A T ∧ T.length ≤ 9223372036854775807 ∧ ∀ r, r < T.length → ∃ b o Ar cr, A = some ⟨b, o, none⟩ ∧ b < w.heap.size ∧ w.cell? ⟨b, o + r, none⟩ = some (.slice Ar (T.getD r []).length cr) ∧ (T.getD r []).length ≤ cr ∧ Sl w w.heap.size Ar (ints (T.getD r [])) ∧ (T.getD r []).length ≤ 9223372036854775807
theorem TC.below {w w' : World} {A : Option Addr} {T : Rws} (h : TC w A T) (hb : Below w.heap.size w w') : TC w' A T :=
 ⟨h.1.keep hb, h.2.1, fun r hr => by
  obtain ⟨b, o, Ar, cr, e, hlt, hc, hl, hs, hm⟩ := h.2.2 r hr
  have := hb.size
  exact ⟨b, o, Ar, cr, e, by omega, (hb.cell (p := ⟨b, o + r, none⟩) hlt).trans hc, hl, hs.keep hb, hm⟩⟩
theorem OwnM.tc {w : World} {B : Nat} {A : Option Addr} {n c : Nat} {hs : List Value} {rows : Rws} (h : OwnM w B (.slice A n c) hs rows) : TC w A rows ∧ n = rows.length := by
 have hl := h.len
 obtain ⟨A', c', e, hsr, hlc, hc⟩ := h.sr
 injection e with e1 e2 e3
 subst e1; subst e2; subst e3
 refine ⟨⟨hsr, by omega, fun r hr => ?_⟩, rfl⟩
 obtain ⟨Ar, cr, e, _, hsl, h1, h2⟩ := own_sliceA (h.inn r hr)
 obtain ⟨A2, c2, e2, _, h4⟩ := SlP.of_own h.out
 injection e2 with g1 _ _
 subst g1
 obtain ⟨b, o, e3, _, hb, hc⟩ := h4 (by omega)
 exact ⟨b, o, Ar, cr, e3, hb, by rw [hc r _ (h.get hr), e], h1, hsl, by omega⟩
theorem OwnR.tc {w : World} {B : Nat} {A : Option Addr} {c : Nat} {rows : Rws} (h : OwnR w B A c rows) : TC w A rows := by
 obtain ⟨hs, hm⟩ := h
 exact hm.tc.1
theorem row_nil (A : Option Addr) (c : Nat) (w : World) : Calls Tryz.prog 90 #[.slice A 0 c] w fun e w' => e = .returned (.tuple #[.slice none 0 0, .int .i64 0]) ∧ w = w' := by
 go_enter Tryz.func90, Tryz.ntmps90
 go_wp2
 go_ret2
 exact ⟨rfl, rfl⟩
theorem row_one (A : Option Addr) (c : Nat) (b o : Nat) (v : Value) (w : World) (hA : A = some ⟨b, o, none⟩) (hc : w.cell? ⟨b, o, none⟩ = some v) : Calls Tryz.prog 90 #[.slice A 1 c] w fun e w' => e = .returned (.tuple #[v, .int .i64 0]) ∧ w = w' := by
 subst hA
 go_enter Tryz.func90, Tryz.ntmps90
 go_wp2
 go_ret2
 exact ⟨rfl, rfl⟩
theorem row_many (A : Option Addr) (c n : Nat) (w : World) (hn : 2 ≤ n) : Calls Tryz.prog 90 #[.slice A n c] w fun e w' => e = .returned (.tuple #[.slice none 0 0, .int .i64 3]) ∧ w = w' := by
 have d0 : ((n : Int) == 0) = false := by simp; omega
 have d1 : ((n : Int) == 1) = false := by simp; omega
 go_enter Tryz.func90, Tryz.ntmps90
 go_wp2
 go_ret2
 exact ⟨rfl, rfl⟩
def oneF (r : List Int × Int) : Rws × Int := if r.2 ≠ 0 then ([], r.2) else if r.1 = [] then ([], 0) else ([r.1], 0)
theorem one_any (r : List Int × Int) (A : Option Addr) (c : Nat) (w : World) (B : Nat) (hB : B ≤ w.heap.size) (hl : r.1.length ≤ 100000) (ho : w.ownsRow B 3 1 (.slice A r.1.length c) r.1.length (ints r.1)) :
 Calls Tryz.prog 94 #[.slice A r.1.length c, .int .i64 r.2] w fun e w' => DOut (oneF r) B e w' ∧ Below w.heap.size w w' := by
 obtain ⟨l, k⟩ := r
 simp only at hl ho ⊢
 by_cases hk : k = 0
 · subst hk
   by_cases hl0 : l = []
   · have e : oneF (l, 0) = ([], 0) := by simp [oneF, hl0]
     rw [e]
     subst hl0
     clear ho hl e
     go_enter Tryz.func94, Tryz.ntmps94
     go_wp2
     go_ret2
     exact ⟨dout_bad _ _ _, Below.refl _ _⟩
   · have e : oneF (l, 0) = ([l], 0) := by simp [oneF, hl0]
     rw [e]
     have hn : 0 < l.length := List.length_pos_iff.2 hl0
     have d0 : ((l.length : Int) == 0) = false := by simpa using hl0
     have HM := Lib.hid (OwnM.single rfl ho hB)
     clear ho e hl0
     go_enter Tryz.func94, Tryz.ntmps94
     go_wp2
     go_ret2
     exact ⟨dout_own HM.out 0, (Below.refl _ _).alloc (Nat.le_refl _) _⟩
 · have e : oneF (l, k) = ([], k) := by simp [oneF, hk]
   rw [e]
   have dk : (k != 0) = true := by simpa using hk
   clear ho e hk
   go_enter Tryz.func94, Tryz.ntmps94
   go_wp2
   go_ret2
   exact ⟨dout_bad _ _ _, Below.refl _ _⟩
end
end Go.Proofs.YtpmkdihencepnaaGreatDoor
