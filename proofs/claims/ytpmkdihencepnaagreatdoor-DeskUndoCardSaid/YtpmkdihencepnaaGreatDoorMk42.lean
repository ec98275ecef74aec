/- Part of the proof. -/
import Derived.RangeFuncNested
import Derived.RangeFuncBound
import Derived.RangeFuncCalls
import Derived.RangeFuncLeaves
import Derived.Shelf.Abstract
import Derived.OwnWalkIn
import Derived.TacticsInMore
import Derived.LoopNIn
import Derived.LoopIn
import Derived.Test.YtpmkdihencepnaaGreatDoorMk41
set_option maxHeartbeats 16000000
set_option maxRecDepth 100000
namespace Go.Proofs.YtpmkdihencepnaaGreatDoor
section
open Go.RowKit Go.Proofs
open Go.Shelf Go.Lib
theorem decDigits_le : ∀ n : Nat, (Lib.decDigits n).length ≤ n + 1 := fun n => by
 rw [Lib.decDigits_length]
 induction n using Nat.strongRecOn with
 | _ n ih =>
  unfold Lib.nDigits
  split
  · omega
  · have := ih (n / 10) (by omega)
    omega
theorem itoa_len {n : Int} (h : -1000000 ≤ n ∧ n ≤ 1000000) : (Lib.itoa n).length ≤ 1000002 := by
 unfold Lib.itoa
 split
 · have := decDigits_le n.natAbs
   simp only [List.length_cons]; omega
 · have := decDigits_le n.toNat; omega
theorem join_len (sep : Str) (m : Nat) : ∀ xs : List Str, (∀ x ∈ xs, x.length ≤ m) → (Lib.join xs sep).length ≤ xs.length * (m + sep.length)
 | [], _ => by simp [Lib.join]
 | [x], h => by
  have := h x (by simp)
  have e : Lib.join [x] sep = x := by simp [Lib.join, List.intercalate]
  rw [e]; simp; omega
 | x :: y :: r, h => by
  have ih := join_len sep m (y :: r) (fun z hz => h z (List.mem_cons_of_mem _ hz))
  have h1 := h x (by simp)
  have e : Lib.join (x :: y :: r) sep = x ++ (sep ++ Lib.join (y :: r) sep) := by simp [Lib.join, List.intercalate]
  rw [e, List.length_append, List.length_append, List.length_cons (a := x), Nat.add_mul]
  omega
theorem Tryz.infoStr : (Tryz.prog.info? 9).map (fun i => (i.zero, i.size, i.bytes)) = some (some (.string ⟨#[]⟩), 1, 16) := by kernel_rfl
theorem wpList_appStr {w : World} {base : Nat} {l : List Str} {v : Value} {ops : Array Oper} {rest : List Oper} {o : Oper} {a : Act} {Q : Exit → Act → World → Prop} (hgd : o.guard = none) (s x : Operand)
 (ho : o.op = .call { callee := .builtin .append, args := #[s, x], argTypes := #[22, 22] }) (hs : a.eval s = v) (y : Str) {n : Nat}
 (hown : w.ownsRow base 9 1 v n (l.map sv)) (g0 : Nat) (hg0 : g0 = w.heap.size) (hx : a.eval x = .slice (some ⟨g0, 0, none⟩) 1 1) (hlen : n < 1000000) (hbase : base ≤ w.heap.size)
 (h : ∀ g cap w', w'.ownsRow base 9 1 (.slice (some ⟨g, 0, none⟩) (n + 1) cap) (n + 1) ((l ++ [y]).map sv) → Below base w w' → (w.alloc (.cells #[sv y] 9)).grownBy w' v.ownBlock → (v.ownBlock = some g ∨ g = w.heap.size + 1) →
  wpList Tryz.prog ops Q rest (a.put o.dst (.slice (some ⟨g, 0, none⟩) (n + 1) cap)) w') :
 wpList Tryz.prog ops Q (o :: rest) a (w.alloc (.cells #[sv y] 9)) := by
 subst hg0
 obtain ⟨i0, hi, hz0, hz1, hz2⟩ := info_parts Tryz.infoStr
 refine wpList_append_lies _ hgd s x 22 ho base 9 i0 (.string ⟨#[]⟩) 1 16 Tryz.underlying22 hi hz0 hz1 hz2 rfl (by decide) v n (l.map sv) hs (hown.alloc _) ⟨w.heap.size, 0, none⟩ 1 1 [sv y] hx rfl ?_ (by simp [Value.oneCell']) (by decide)
  (by unfold maxLen; omega) (by omega) (by simp; omega) _ rfl (fun g cap w' h1 h2 h3 _ => ?_)
 · intro j u hu
   match j, hu with
   | 0, hu => simp at hu; subst hu; simp [Addr.add]
 · exact h g cap w' (by simpa using h1) (((Below.refl _ _).alloc hbase _).grown h2 (by simp; omega) (own_ge hown (Nat.le_refl _))) h2 (by simpa using h3)
theorem own_str {w : World} {base n : Nat} {v : Value} {xs : List Str} (h : w.ownsRow base 9 1 v n (xs.map sv)) : ∃ A c, v = .slice A xs.length c ∧ n = xs.length ∧ xs.length ≤ c ∧ Sl w w.heap.size A (xs.map sv) := by
 have hl : xs.length = n := by have := h.1; rw [List.length_map] at this; omega
 subst hl
 rcases h.2 with ⟨e1, e2⟩ | ⟨g, c, cur, e1, _, _, e2, _⟩
 · rw [e1] at h
   refine ⟨none, 0, by rw [e2]; exact e1, rfl, by omega, ?_⟩
   have : xs = [] := List.eq_nil_of_length_eq_zero e2
   subst this
   exact Sl.nil _ _ _
 · rw [e1] at h
   exact ⟨_, c, e1, rfl, e2, Sl.of_own h⟩
theorem own_belowK {w w' : World} {base size n : Nat} {e : TypeId} {v : Value} {cs : List Value} (h : w.ownsRow base e size v n cs) (hb : Below w.heap.size w w') : w'.ownsRow base e size v n cs := by
 refine ⟨h.1, ?_⟩
 rcases h.2 with hn | ⟨g, cap, cur, rfl, hg, hh, rest⟩
 · exact .inl hn
 · exact .inr ⟨g, cap, cur, rfl, hg, (hb.block g (Array.getElem?_eq_some_iff.1 hh).1).trans hh, rest⟩
def rowS (r : List Int) : Str := Lib.join (r.map Lib.itoa) [32]
theorem rowS_len {r : List Int} (h : Few r) : (rowS r).length ≤ 100000 * 1000003 := by
 unfold rowS
 refine Nat.le_trans (join_len [32] 1000002 _ (fun x hx => ?_)) ?_
 · obtain ⟨n, hn, rfl⟩ := List.mem_map.1 hx
   exact itoa_len (h.2 n hn)
 · rw [List.length_map]
   exact Nat.mul_le_mul h.1 (by simp)
theorem texF_len {T : Rws} (h : FewT T) : (texF T).length ≤ 1000 * (100000 * 1000003 + 1) := by
 unfold texF
 refine Nat.le_trans (join_len [47] (100000 * 1000003) _ (fun x hx => ?_)) ?_
 · obtain ⟨r, hr, rfl⟩ := List.mem_map.1 hx
   exact rowS_len (h.2 r hr)
 · rw [List.length_map]
   exact Nat.mul_le_mul h.1 (by simp)
theorem text_c (A : Option Addr) (c : Nat) (T : Rws) (w : World) (hf : FewT T) (he : Env w) (hT : TC w A T) :
 Calls Tryz.prog 17 #[.slice A T.length c] w fun e w' => e = .returned (sv (texF T)) ∧ Below w.heap.size w w' := by
 have hT1 := hf.1
 have HF := Lib.hid hf
 have HE := Lib.hid he
 have h := hT.1
 have H := Lib.hid h
 clear hf he hT
 go_enter Tryz.func17, Tryz.ntmps17
 go_wp2
 go_loopw [3, 11] (fun ov iv wr => ∃ (i : Nat) (xs : List Str), i ≤ T.length ∧ iv = .int .i64 i ∧ xs = (T.take i).map rowS ∧ wr.ownsRow w.heap.size 9 1 ov i (xs.map sv) ∧ Below w.heap.size w wr) (fun _ iv _ => T.length - (Go.RowKit.intOf iv).toNat)
 case atStart => exact ⟨0, [], Nat.zero_le _, rfl, rfl, World.ownsRow_nil _ _ _ _, Below.refl _ _⟩
 case round =>
  obtain ⟨i, xs, hi, rfl, hxs, ho, hW⟩ := hrel
  have HXS := Lib.hid hxs
  have HO := Lib.hid ho
  have HW := Lib.hid hW
  have hsz := hW.size
  obtain ⟨w9, rfl⟩ : ∃ w9, w9 = wr := ⟨_, rfl⟩
  clear hxs ho
  by_cases hit : i < T.length
  · have di : decide (i < T.length) = true := decide_eq_true hit
    obtain ⟨b, o, rfl, hb⟩ := h.addr (by omega)
    have h2 := h.below hW
    obtain ⟨Ar, cr, hcl, hr, hrl⟩ := h2.at_ hit
    have hfr : Few (T.getD i []) := by rw [getD_get hit]; exact HF.out.2 _ (List.getElem_mem hit)
    have hnx : Hid (xs ++ [rowS (T.getD i [])] = (T.take (i + 1)).map rowS) := by
     show _ = _
     rw [HXS.out, List.take_succ_eq_append_getElem hit, List.map_append, getD_get hit]; rfl
    have hrs := rowS_len hfr
    obtain ⟨r, hre⟩ : ∃ r, r = T.getD i [] := ⟨_, rfl⟩
    rw [← hre] at hcl hr hfr hnx hrs hrl
    have HFR := Lib.hid hfr
    have HR := Lib.hid hr
    have hr1 := hfr.1
    clear hre h2 hfr hr hW
    go_wp2
    go_loopw [6, 17] (fun ov jv wz => ∃ (j : Nat) (ys : List Str), j ≤ r.length ∧ jv = .int .i64 j ∧ ys = (r.take j).map Lib.itoa ∧ wz.ownsRow w9.heap.size 9 1 ov j (ys.map sv) ∧ Below w9.heap.size w9 wz) (fun _ jv _ => r.length - (Go.RowKit.intOf jv).toNat)
    case atStart => exact ⟨0, [], Nat.zero_le _, rfl, rfl, World.ownsRow_nil _ _ _ _, Below.refl _ _⟩
    case round =>
     obtain ⟨j, ys, hj, rfl, hys, hoj, hZ⟩ := hrel
     obtain ⟨w8, rfl⟩ : ∃ w8, w8 = wr := ⟨_, rfl⟩
     have HYS := Lib.hid hys
     have HOJ := Lib.hid hoj
     have HZ := Lib.hid hZ
     have hzs := hZ.size
     clear hys hoj
     by_cases hjt : j < r.length
     · have dj : decide (j < r.length) = true := decide_eq_true hjt
       have hr2 := HR.out.below (hZ.mono hsz)
       obtain ⟨b2, o2, rfl, hb2⟩ := hr2.addr (by omega)
       have hcn := getD_cell hr2 hjt
       have hnb : -1000000 ≤ r.getD j 0 ∧ r.getD j 0 ≤ 1000000 := by rw [getD_get hjt]; exact HFR.out.2 _ (List.getElem_mem hjt)
       have hny : Hid (ys ++ [Lib.itoa (r.getD j 0)] = (r.take (j + 1)).map Lib.itoa) := by
        show _ = _
        rw [HYS.out, List.take_succ_eq_append_getElem hjt, List.map_append, getD_get hjt]; rfl
       obtain ⟨n, hn⟩ : ∃ n, n = r.getD j 0 := ⟨_, rfl⟩
       rw [← hn] at hcn hnb hny
       have HI := Lib.hid (itoa_c n hnb w8 (HE.out.below (HW.out.trans (hZ.mono hsz))))
       obtain ⟨t, ht⟩ : ∃ t, t = Lib.itoa n := ⟨_, rfl⟩
       rw [← ht] at HI hny
       clear hn hnb hr2 hZ ht
       go_wp2_with (first | (go_at_call 29; refine (HI.out).mono ?_; rintro e w7 ⟨rfl, hb7⟩; have HB7 := Lib.hid hb7; have hz7 : w9.heap.size ≤ w7.heap.size := Nat.le_trans hzs hb7.size; have HO7 := Lib.hid (own_belowK HOJ.out hb7); clear hb7) | (at_builtin; refine wpList_appStr (v := u6) rfl (.tmp 21) (.tmp 24) rfl rfl t HO7.out w7.heap.size rfl rfl (by omega) hz7 (fun g8 c8 w6 hl6 hb6 _ _ => ?_)) | fail)
       go_roundw
       case rel => exact ⟨j + 1, _, by omega, by go_num, hny.out, hl6, (HZ.out.trans (HB7.out.mono hzs)).trans hb6⟩
       case measure => simp [Go.RowKit.intOf]; omega
     · have dj : decide (j < r.length) = false := decide_eq_false hjt
       have hys : Hid (ys = r.map Lib.itoa) := by show _ = _; rw [HYS.out, List.take_of_length_le (by omega)]
       obtain ⟨Ay, cy, rfl, hnj, hyc, hsy⟩ := own_str HOJ.out
       have hyl : ys.length ≤ 100000 := by omega
       have HJ := Lib.hid (join_c Ay cy ys [32] w8 hyc (by omega) (by
        have : Lib.join ys [32] = rowS r := by unfold rowS; rw [hys.out]
        rw [this]; omega) hsy)
       have hje : Hid (Lib.join ys [32] = rowS r) := by show _ = _; unfold rowS; rw [hys.out]
       rw [hje.out] at HJ
       have hmo := own_belowK HO.out HZ.out
       have HMO := Lib.hid hmo
       obtain ⟨t, ht⟩ : ∃ t, t = rowS r := ⟨_, rfl⟩
       rw [← ht] at HJ hnx
       clear hsy hmo ht hZ hrs
       go_wp2_with (first | (go_at_call 12; refine (HJ.out).mono ?_; rintro e w7 ⟨rfl, hb7⟩; have HB7 := Lib.hid hb7; have hz7 : w.heap.size ≤ w7.heap.size := Nat.le_trans (Nat.le_trans hsz hzs) hb7.size; have HO7 := Lib.hid (own_belowK HMO.out hb7); clear hb7) | (at_builtin; refine wpList_appStr (v := u3) rfl (.tmp 27) (.tmp 30) rfl rfl t HO7.out w7.heap.size rfl rfl (by omega) hz7 (fun g8 c8 w6 hl6 hb6 _ _ => ?_)) | fail)
       go_roundw
       case rel => exact ⟨i + 1, _, by omega, by go_num, hnx.out, hl6, ((HW.out.trans (HZ.out.mono hsz)).trans (HB7.out.mono (by omega))).trans hb6⟩
       case measure => simp [Go.RowKit.intOf]; omega
  · have di : decide (i < T.length) = false := decide_eq_false hit
    have hxs : Hid (xs = T.map rowS) := by show _ = _; rw [HXS.out, List.take_of_length_le (by omega)]
    obtain ⟨Ay, cy, rfl, hnj, hyc, hsy⟩ := own_str HO.out
    have hje : Hid (Lib.join xs [47] = texF T) := by show _ = _; unfold texF; rw [hxs.out]; rfl
    have hlt := texF_len HF.out
    have HJ := Lib.hid (join_c Ay cy xs [47] w9 hyc (by omega) (by rw [hje.out]; omega) hsy)
    rw [hje.out] at HJ
    obtain ⟨t, ht⟩ : ∃ t, t = texF T := ⟨_, rfl⟩
    rw [← ht] at HJ
    have HTT := Lib.hid ht
    clear hsy ht hW hlt
    go_wp2_with (first | (go_at_call 12; refine (HJ.out).mono ?_; rintro e w7 ⟨rfl, hb7⟩; have HB7 := Lib.hid hb7; clear hb7) | fail)
    go_ret
    exact ⟨by rw [← HTT.out]; rfl, below_of HW.out HB7.out⟩
end
section
open Go Go.RowKit Go.Proofs
def Bears {β : Type} (Bs : Nat) (I : β → World → Prop) : Prop := ∀ s W v, I s W → I s (W.setCell ⟨Bs, 0, none⟩ v)
def SeqStopsB {α : Type} (Bs : Nat) (F : Fence) (n : Nat) (P : Program) (g : Nat) (lb : Array Value) (encs : α → Array Value) (Kp : World → World → Prop) (S Sp : List α → Prop) (N : Nat) (w : World) : Prop :=
 ∀ (l : Nat) (J Jx : List α → World → Prop) (W : World), Below w.heap.size w W → AbidesFrom W.heap.size J → AbidesFrom W.heap.size Jx → Bears Bs J → Bears Bs Jx →
  (∀ pre x W1, J pre W1 → pre.length < N → YieldAt F (n - 1) P l (encs x) W1 fun e W' =>
   (e = .returned (.bool true) ∧ J (pre ++ [x]) W' ∧ Kp W1 W') ∨ (e = .returned (.bool false) ∧ Jx (pre ++ [x]) W')) →
  J [] W →
  CallsIn F n P g (#[.func (.yield l) #[] #[]] ++ lb) W fun e W' => (∃ v, e = .returned v) ∧ ((∃ xs, S xs ∧ J xs W') ∨ (∃ pre, Sp pre ∧ Jx pre W'))
variable {F : Fence} {n : Nat} {P : Program}
theorem SeqStopsB.inRound {α : Type} {Bs : Nat} {g : Nat} {lb : Array Value} {encs : α → Array Value} {Kp : World → World → Prop} {S Sp : List α → Prop} {N : Nat} {w₀ : World} (l : Nat)
 (h : SeqStopsB Bs F n P g lb encs Kp S Sp N w₀) : SeqStopsB Bs (F.inRound l) n P g lb encs Kp S Sp N w₀ := h
theorem rangeFunc_H {α : Type} {g : Operand} {ps : Array Tmp} {assign body : Code} {Q : Exit → Act → World → Prop} {a : Act} {w : World}
 (hro : F.round = none) (h1 : 1 ≤ n) {gf : Nat} {lb : Array Value} (hg : a.eval g = .func (.func gf) #[] lb) (hFg : F.fn gf) (eg : ∀ args w, (callFunc gf args).run P w = .ok (.enter gf args) w)
 {encs : α → Array Value} {Kp : World → World → Prop} {S Sp : List α → Prop} {N : Nat} {w0 : World} {Bs : Nat} (hseq : SeqStopsB Bs F (n - 1) P gf lb encs Kp S Sp N w0)
 (hKt : ∀ {A B C : World}, Kp A B → Kp B C → Kp A C) (hKb : ∀ (W : World) (l : Nat) (o o' : Obj), w.heap.size ≤ l → W.heap[l]? = some o → o.isCells = false → o.isWalk = false → Kp W (W.putObj l o')) (hb0 : Below w0.heap.size w0 w) (hps : ∀ x, (encs x).size = ps.size)
 (I : List α → World → Prop) (Ix : Code → List α → World → Prop) (hI : OwnFrom w.heap.size I) (hIx : ∀ c, OwnFrom w.heap.size (Ix c)) (hI2 : Bears Bs I) (hIx2 : ∀ c, Bears Bs (Ix c)) (h0 : I [] w) (Ax : α → Act → World → Prop) (hAx : ∀ x a', OwnFrom w.heap.size (fun (_ : Unit) W => Ax x a' W))
 (hassign : ∀ (l : Nat) (pre : List α) (x : α) (W : World) (K : Act → World → Prop), I pre W → (∀ a' W', KeepsFrom w.heap.size W W' → Kp W W' → I pre W' → Ax x a' W' → K a' W') →
  assign.wpIn (F.inRound l) (n - 1 - 1) P (Exit.then K (fun _ _ _ => False)) { tmps := (ps.zip (encs x)).foldl (fun t (p, v) => t.setIfInBounds p v) a.tmps, defers := [] } W)
 (hbody : ∀ (l : Nat) (pre : List α) (x : α) (a' : Act) (W : World), w.heap.size ≤ l → (∃ r, W.heap[l]? = some (.loop r)) → I pre W → Ax x a' W → pre.length < N → body.wpIn (F.inRound l) (n - 1 - 1) P (ownPostG w.heap.size Kp I Ix (pre ++ [x]) W) a' W)
 (hdone : ∀ (D : Nat) (xs : List α) (W : World), w.heap.size ≤ D → S xs → I xs W → W.heap[D]? = some (.deferred (some [])) → Q .normal { a with defers := { target := .collected D, args := #[] } :: a.defers } W)
 (hstop : ∀ (D : Nat) (c : Code) (pre : List α) (W : World), w.heap.size ≤ D → Sp pre → Ix c pre W → W.heap[D]? = some (.deferred (some [])) → c.wpIn F n P Q { a with defers := { target := .collected D, args := #[] } :: a.defers } W) :
 (Code.rangeFunc g ps assign body).wpIn F n P Q a w := by
 refine wpIn_rangeFunc ?_
 intro fn hfn
 rw [hro]
 obtain ⟨rec, hrec⟩ : ∃ rec : LoopState → Option Code → Loop, rec = fun st pe => { state := st, pending := pe, fn, tmps := a.tmps, params := ps, assign, body, defers := w.heap.size } := ⟨_, rfl⟩
 obtain ⟨W1, hW1⟩ : ∃ W1, (w.alloc (.deferred (some []))).alloc (.loop (rec .ready none)) = W1 := ⟨_, rfl⟩
 have hL1 : W1.heap[w.heap.size + 1]? = some (.loop (rec .ready none)) := by
  rw [← hW1]; have := World.alloc_heap_new (w.alloc (.deferred (some []))) (.loop (rec .ready none)); rwa [World.size_alloc] at this
 have hK1 : W1.heap[w.heap.size]? = some (.deferred (some [])) := by
  rw [← hW1]; exact (Below.heap_alloc _ _ _ (by simp)).trans (World.alloc_heap_new w _)
 have hI1 : I [] W1 := by rw [← hW1]; exact hI.alloc _ (hI.alloc _ h0)
 have hb1 : Below w0.heap.size w0 W1 := by
  rw [← hW1]; exact hb0.trans ((((Below.refl _ w).alloc (Nat.le_refl _) _).alloc (by simp) _).mono hb0.size)
 refine ⟨w.heap.size + 1, [{ target := .collected w.heap.size, args := #[] }], W1, { target := .fn (.func gf) lb, args := #[.func (.yield (w.heap.size + 1)) #[] #[]] }, W1, gf,
  #[.func (.yield (w.heap.size + 1)) #[] #[]] ++ lb, W1, ?_, ?_, ?_, ?_, fun _ => h1, ?_⟩
 · rw [← hW1, hrec]; exact run_enterLoop_outer _ _ _ _ _
 · simp only [resolve, hg]
   simp [go_sem]
 · intro f' hf'; simp [Target.leads] at hf'; subst hf'; exact hFg
 · simp [invoke, go_sem, eg]
 · -- THE ITERATOR's CONTRACT, AT THE CALLER's INVARIANT WITH THE TWO FACTS OF BOOK-KEEPING BESIDE IT
   have hnw : ∀ {A B : World} {row : Option Nat}, (∀ r, row = some r → W1.heap.size ≤ r ∧ ∃ o : Obj, A.heap[r]? = some o ∧ o.isWalk = true) → (∀ r, row = some r → w.heap.size ≤ r ∧ ∃ o : Obj, A.heap[r]? = some o ∧ o.isCells = false) :=
    fun hr r e => by obtain ⟨hB, o, ho, hw⟩ := hr r e; exact ⟨by rw [← hW1] at hB; simp at hB; omega, o, ho, Obj.not_cells_of_walk hw⟩
   refine (hseq (w.heap.size + 1)
    (fun pre W => I pre W ∧ W.heap[w.heap.size + 1]? = some (.loop (rec .ready none)) ∧ W.heap[w.heap.size]? = some (.deferred (some [])))
    (fun pre W => ∃ c, Ix c pre W ∧ W.heap[w.heap.size + 1]? = some (.loop (rec .done (some c))) ∧ W.heap[w.heap.size]? = some (.deferred (some [])))
    W1 hb1
    (fun s A B row hs hg' hr => ⟨hI s A B row hs.1 hg' (hnw (B := B) hr), (grownBy_keeps hg' (fun r e => (hr r e).2) hs.2.1 rfl).trans hs.2.1, (grownBy_keeps hg' (fun r e => (hr r e).2) hs.2.2 rfl).trans hs.2.2⟩)
    (fun s A B row hs hg' hr => by
     obtain ⟨c, hc, hl, hk⟩ := hs
     exact ⟨c, hIx c s A B row hc hg' (hnw (B := B) hr), (grownBy_keeps hg' (fun r e => (hr r e).2) hl rfl).trans hl, (grownBy_keeps hg' (fun r e => (hr r e).2) hk rfl).trans hk⟩)
    (fun s A v hs => ⟨hI2 s A v hs.1, (KeepsOthers.setCell A _ v).same _ _ hs.2.1 rfl, (KeepsOthers.setCell A _ v).same _ _ hs.2.2 rfl⟩)
    (fun s A v hs => by
     obtain ⟨c, hc, hl, hk⟩ := hs
     exact ⟨c, hIx2 c s A v hc, (KeepsOthers.setCell A _ v).same _ _ hl rfl, (KeepsOthers.setCell A _ v).same _ _ hk rfl⟩)
    ?_ ⟨hI1, hL1, hK1⟩).mono ?_
   · -- ONE ROUND
     rintro pre x W ⟨hi, hl, hk⟩ hlen
     have hlt : w.heap.size + 1 < W.heap.size := (Array.getElem?_eq_some_iff.1 hl).1
     have hy := run_yield (P := P) (args := encs x) hl (by rw [hrec]; exact hps x)
     rw [hrec] at hy
     refine ⟨fn, _, assign, body, hy, roundIn_of_wpIn hfn (hassign _ pre x W _ hi ?_)⟩
     clear hy
     intro a' Wa hkfa hkpa hia hax
     replace hl := hkfa.same _ _ (by omega) hl rfl
     replace hk := hkfa.same _ _ (Nat.le_refl _) hk rfl
     replace hlt : w.heap.size + 1 < Wa.heap.size := (Array.getElem?_eq_some_iff.1 hl).1
     replace hi := hia
     clear hia
     revert hkpa hkfa
     generalize W = Wb
     intro hkfa hkpa
     obtain ⟨W, rfl⟩ : ∃ W, W = Wa := ⟨_, rfl⟩
     refine ⟨_, run_beginRound hl (by rw [hrec]), ?_⟩
     have hl2 : (W.putObj (w.heap.size + 1) (.loop { rec .ready none with state := .busy })).heap[w.heap.size + 1]? = some (.loop { rec .ready none with state := .busy }) := World.putObj_heap_same hlt
     have hk2 : (W.putObj (w.heap.size + 1) (.loop { rec .ready none with state := .busy })).heap[w.heap.size]? = some (.deferred (some [])) := (World.putObj_heap_other (by omega)).trans hk
     have hw2 : Kp W (W.putObj (w.heap.size + 1) (.loop { rec .ready none with state := .busy })) := hKb _ _ _ _ (by omega) hl rfl rfl
     refine wpIn_mono (hbody _ pre x a' _ (by omega) ⟨_, hl2⟩ (hI.putObj _ hi (by omega) hl rfl) ((hAx x a').putObj (s := ()) _ hax (by omega) hl rfl) hlen) ?_
     have fin : ∀ (jump : Option Code) (W3 : World), KeepsFrom w.heap.size (W.putObj (w.heap.size + 1) (.loop { rec .ready none with state := .busy })) W3 →
      (Instr.endRound (w.heap.size + 1) jump).run P W3 = .ok (.bool jump.isNone) (W3.putObj (w.heap.size + 1) (.loop (rec (if jump.isNone then .ready else .done) jump))) ∧
      W3.heap[w.heap.size + 1]? = some (.loop { rec .ready none with state := .busy }) ∧
      (W3.putObj (w.heap.size + 1) (.loop (rec (if jump.isNone then .ready else .done) jump))).heap[w.heap.size + 1]? = some (.loop (rec (if jump.isNone then .ready else .done) jump)) ∧
      (W3.putObj (w.heap.size + 1) (.loop (rec (if jump.isNone then .ready else .done) jump))).heap[w.heap.size]? = some (.deferred (some [])) := fun jump W3 hk3 => by
      have hl3 := hk3.same _ _ (by omega) hl2 rfl
      have := run_endRound (P := P) jump hl3
      rw [hrec] at this ⊢
      exact ⟨this, by rw [hrec] at hl3; exact hl3, World.putObj_heap_same (Array.getElem?_eq_some_iff.1 hl3).1, (World.putObj_heap_other (by omega)).trans (hk3.same _ _ (Nat.le_refl _) hk2 rfl)⟩
     rintro e a3 W3 hp
     cases e with
     | normal =>
      obtain ⟨hk3, hkp3, hi3⟩ := hp
      obtain ⟨hr, hl3, hl4, hk4⟩ := fin none W3 hk3
      exact ⟨_, _, hr, .inl ⟨rfl, ⟨hI.putObj _ hi3 (by omega) hl3 rfl, hl4, hk4⟩, hKt hkpa (hKt (hKt hw2 hkp3) (hKb _ _ _ _ (by omega) hl3 rfl rfl))⟩⟩
     | ret =>
      obtain ⟨hk3, hi3⟩ := hp
      obtain ⟨hr, hl3, hl4, hk4⟩ := fin (some .ret) W3 hk3
      exact ⟨_, _, hr, .inr ⟨rfl, .ret, (hIx _).putObj _ hi3 (by omega) hl3 rfl, hl4, hk4⟩⟩
     | exit id =>
      obtain ⟨hk3, hi3⟩ := hp
      obtain ⟨hr, hl3, hl4, hk4⟩ := fin (some (.exit id)) W3 hk3
      exact ⟨_, _, hr, .inr ⟨rfl, .exit id, (hIx _).putObj _ hi3 (by omega) hl3 rfl, hl4, hk4⟩⟩
     | goto t =>
      obtain ⟨hk3, hi3⟩ := hp
      obtain ⟨hr, hl3, hl4, hk4⟩ := fin (some (.goto t)) W3 hk3
      exact ⟨_, _, hr, .inr ⟨rfl, .goto t, (hIx _).putObj _ hi3 (by omega) hl3 rfl, hl4, hk4⟩⟩
     | panic ch => exact hp.elim
     | outgrown => exact hp.elim
   · -- BEHIND THE ITERATOR
     rintro e W2 ⟨⟨v, rfl⟩, (⟨xs, hS, hi, hl, hk⟩ | ⟨pre, hSp, c, hi, hl, hk⟩)⟩
     · exact ⟨none, _, by have := run_endLoop (P := P) hl (by rw [hrec]; simp); rw [hrec] at this; exact this, hdone _ xs _ (Nat.le_refl _) hS (hI.putObj _ hi (by omega) hl rfl) ((World.putObj_heap_other (by omega)).trans hk)⟩
     · exact ⟨some c, _, by have := run_endLoop (P := P) hl (by rw [hrec]; simp); rw [hrec] at this; exact this, hstop _ c pre _ (Nat.le_refl _) hSp ((hIx c).putObj _ hi (by omega) hl rfl) ((World.putObj_heap_other (by omega)).trans hk)⟩
theorem rangeFunc_N {α : Type} {g : Operand} {ps : Array Tmp} {assign body : Code} {Q : Exit → Act → World → Prop} {a : Act} {w : World}
 {l₀ : Nat} {r₀ : Loop} (hro : F.round = some l₀) (hl₀ : w.heap[l₀]? = some (.loop r₀)) (h1 : 1 ≤ n) {gf : Nat} {lb : Array Value} (hg : a.eval g = .func (.func gf) #[] lb) (hFg : F.fn gf) (eg : ∀ args w, (callFunc gf args).run P w = .ok (.enter gf args) w)
 {encs : α → Array Value} {Kp : World → World → Prop} {S Sp : List α → Prop} {N : Nat} {w0 : World} {Bs : Nat} (hseq : SeqStopsB Bs F (n - 1) P gf lb encs Kp S Sp N w0)
 (hKt : ∀ {A B C : World}, Kp A B → Kp B C → Kp A C) (hKb : ∀ (W : World) (l : Nat) (o o' : Obj), w.heap.size ≤ l → W.heap[l]? = some o → o.isCells = false → o.isWalk = false → Kp W (W.putObj l o')) (hb0 : Below w0.heap.size w0 w) (hps : ∀ x, (encs x).size = ps.size)
 (I : List α → World → Prop) (Ix : Code → List α → World → Prop) (hI : OwnFrom w.heap.size I) (hIx : ∀ c, OwnFrom w.heap.size (Ix c)) (hI2 : Bears Bs I) (hIx2 : ∀ c, Bears Bs (Ix c)) (h0 : I [] w) (Ax : α → Act → World → Prop) (hAx : ∀ x a', OwnFrom w.heap.size (fun (_ : Unit) W => Ax x a' W))
 (hassign : ∀ (l : Nat) (pre : List α) (x : α) (W : World) (K : Act → World → Prop), I pre W → (∀ a' W', KeepsFrom w.heap.size W W' → Kp W W' → I pre W' → Ax x a' W' → K a' W') →
  assign.wpIn (F.inRound l) (n - 1 - 1) P (Exit.then K (fun _ _ _ => False)) { tmps := (ps.zip (encs x)).foldl (fun t (p, v) => t.setIfInBounds p v) a.tmps, defers := [] } W)
 (hbody : ∀ (l : Nat) (pre : List α) (x : α) (a' : Act) (W : World), w.heap.size ≤ l → (∃ r, W.heap[l]? = some (.loop r)) → I pre W → Ax x a' W → pre.length < N → body.wpIn (F.inRound l) (n - 1 - 1) P (ownPostG w.heap.size Kp I Ix (pre ++ [x]) W) a' W)
 (hdone : ∀ (xs : List α) (W : World), S xs → I xs W → Q .normal a W)
 (hstop : ∀ (c : Code) (pre : List α) (W : World), Sp pre → Ix c pre W → c.wpIn F n P Q a W) :
 (Code.rangeFunc g ps assign body).wpIn F n P Q a w := by
 refine wpIn_rangeFunc ?_
 intro fn hfn
 rw [hro]
 obtain ⟨rec, hrec⟩ : ∃ rec : LoopState → Option Code → Loop, rec = fun st pe => { state := st, pending := pe, fn, tmps := a.tmps, params := ps, assign, body, defers := r₀.defers } := ⟨_, rfl⟩
 obtain ⟨W1, hW1⟩ : ∃ W1, w.alloc (.loop (rec .ready none)) = W1 := ⟨_, rfl⟩
 have hL1 : W1.heap[w.heap.size]? = some (.loop (rec .ready none)) := by rw [← hW1]; exact World.alloc_heap_new w _
 have hI1 : I [] W1 := by rw [← hW1]; exact hI.alloc _ h0
 have hb1 : Below w0.heap.size w0 W1 := by
  rw [← hW1]; exact hb0.trans (((Below.refl _ w).alloc (Nat.le_refl _) _).mono hb0.size)
 refine ⟨w.heap.size, [], W1, { target := .fn (.func gf) lb, args := #[.func (.yield w.heap.size) #[] #[]] }, W1, gf,
  #[.func (.yield w.heap.size) #[] #[]] ++ lb, W1, ?_, ?_, ?_, ?_, fun _ => h1, ?_⟩
 · rw [← hW1, hrec]; exact run_enterLoop_inner hl₀ _ _ _ _ _
 · simp only [resolve, hg]
   simp [go_sem]
 · intro f' hf'; simp [Target.leads] at hf'; subst hf'; exact hFg
 · simp [invoke, go_sem, eg]
 · have hnw : ∀ {A B : World} {row : Option Nat}, (∀ r, row = some r → W1.heap.size ≤ r ∧ ∃ o : Obj, A.heap[r]? = some o ∧ o.isWalk = true) → (∀ r, row = some r → w.heap.size ≤ r ∧ ∃ o : Obj, A.heap[r]? = some o ∧ o.isCells = false) :=
    fun hr r e => by obtain ⟨hB, o, ho, hw⟩ := hr r e; exact ⟨by rw [← hW1] at hB; simp at hB; omega, o, ho, Obj.not_cells_of_walk hw⟩
   refine (hseq w.heap.size
    (fun pre W => I pre W ∧ W.heap[w.heap.size]? = some (.loop (rec .ready none)))
    (fun pre W => ∃ c, Ix c pre W ∧ W.heap[w.heap.size]? = some (.loop (rec .done (some c))))
    W1 hb1
    (fun s A B row hs hg' hr => ⟨hI s A B row hs.1 hg' (hnw (B := B) hr), (grownBy_keeps hg' (fun r e => (hr r e).2) hs.2 rfl).trans hs.2⟩)
    (fun s A B row hs hg' hr => by
     obtain ⟨c, hc, hl⟩ := hs
     exact ⟨c, hIx c s A B row hc hg' (hnw (B := B) hr), (grownBy_keeps hg' (fun r e => (hr r e).2) hl rfl).trans hl⟩)
    (fun s A v hs => ⟨hI2 s A v hs.1, (KeepsOthers.setCell A _ v).same _ _ hs.2 rfl⟩)
    (fun s A v hs => by
     obtain ⟨c, hc, hl⟩ := hs
     exact ⟨c, hIx2 c s A v hc, (KeepsOthers.setCell A _ v).same _ _ hl rfl⟩)
    ?_ ⟨hI1, hL1⟩).mono ?_
   · -- ONE ROUND
     rintro pre x W ⟨hi, hl⟩ hlen
     have hlt : w.heap.size < W.heap.size := (Array.getElem?_eq_some_iff.1 hl).1
     have hy := run_yield (P := P) (args := encs x) hl (by rw [hrec]; exact hps x)
     rw [hrec] at hy
     refine ⟨fn, _, assign, body, hy, roundIn_of_wpIn hfn (hassign _ pre x W _ hi ?_)⟩
     clear hy
     intro a' Wa hkfa hkpa hia hax
     replace hl := hkfa.same _ _ (Nat.le_refl _) hl rfl
     replace hlt : w.heap.size < Wa.heap.size := (Array.getElem?_eq_some_iff.1 hl).1
     replace hi := hia
     clear hia
     revert hkpa hkfa
     generalize W = Wb
     intro hkfa hkpa
     obtain ⟨W, rfl⟩ : ∃ W, W = Wa := ⟨_, rfl⟩
     refine ⟨_, run_beginRound hl (by rw [hrec]), ?_⟩
     have hl2 : (W.putObj w.heap.size (.loop { rec .ready none with state := .busy })).heap[w.heap.size]? = some (.loop { rec .ready none with state := .busy }) := World.putObj_heap_same hlt
     have hw2 : Kp W (W.putObj w.heap.size (.loop { rec .ready none with state := .busy })) := hKb _ _ _ _ (Nat.le_refl _) hl rfl rfl
     refine wpIn_mono (hbody _ pre x a' _ (Nat.le_refl _) ⟨_, hl2⟩ (hI.putObj _ hi (Nat.le_refl _) hl rfl) ((hAx x a').putObj (s := ()) _ hax (Nat.le_refl _) hl rfl) hlen) ?_
     have fin : ∀ (jump : Option Code) (W3 : World), KeepsFrom w.heap.size (W.putObj w.heap.size (.loop { rec .ready none with state := .busy })) W3 →
      (Instr.endRound w.heap.size jump).run P W3 = .ok (.bool jump.isNone) (W3.putObj w.heap.size (.loop (rec (if jump.isNone then .ready else .done) jump))) ∧
      W3.heap[w.heap.size]? = some (.loop { rec .ready none with state := .busy }) ∧
      (W3.putObj w.heap.size (.loop (rec (if jump.isNone then .ready else .done) jump))).heap[w.heap.size]? = some (.loop (rec (if jump.isNone then .ready else .done) jump)) := fun jump W3 hk3 => by
      have hl3 := hk3.same _ _ (Nat.le_refl _) hl2 rfl
      have := run_endRound (P := P) jump hl3
      rw [hrec] at this ⊢
      exact ⟨this, by rw [hrec] at hl3; exact hl3, World.putObj_heap_same (Array.getElem?_eq_some_iff.1 hl3).1⟩
     rintro e a3 W3 hp
     cases e with
     | normal =>
      obtain ⟨hk3, hkp3, hi3⟩ := hp
      obtain ⟨hr, hl3, hl4⟩ := fin none W3 hk3
      exact ⟨_, _, hr, .inl ⟨rfl, ⟨hI.putObj _ hi3 (Nat.le_refl _) hl3 rfl, hl4⟩, hKt hkpa (hKt (hKt hw2 hkp3) (hKb _ _ _ _ (Nat.le_refl _) hl3 rfl rfl))⟩⟩
     | ret =>
      obtain ⟨hk3, hi3⟩ := hp
      obtain ⟨hr, hl3, hl4⟩ := fin (some .ret) W3 hk3
      exact ⟨_, _, hr, .inr ⟨rfl, .ret, (hIx _).putObj _ hi3 (Nat.le_refl _) hl3 rfl, hl4⟩⟩
     | exit id =>
      obtain ⟨hk3, hi3⟩ := hp
      obtain ⟨hr, hl3, hl4⟩ := fin (some (.exit id)) W3 hk3
      exact ⟨_, _, hr, .inr ⟨rfl, .exit id, (hIx _).putObj _ hi3 (Nat.le_refl _) hl3 rfl, hl4⟩⟩
     | goto t =>
      obtain ⟨hk3, hi3⟩ := hp
      obtain ⟨hr, hl3, hl4⟩ := fin (some (.goto t)) W3 hk3
      exact ⟨_, _, hr, .inr ⟨rfl, .goto t, (hIx _).putObj _ hi3 (Nat.le_refl _) hl3 rfl, hl4⟩⟩
     | panic ch => exact hp.elim
     | outgrown => exact hp.elim
   · -- BEHIND THE ITERATOR
     rintro e W2 ⟨⟨v, rfl⟩, (⟨xs, hS, hi, hl⟩ | ⟨pre, hSp, c, hi, hl⟩)⟩
     · exact ⟨none, _, by have := run_endLoop (P := P) hl (by rw [hrec]; simp); rw [hrec] at this; exact this, hdone xs _ hS (hI.putObj _ hi (Nat.le_refl _) hl rfl)⟩
     · exact ⟨some c, _, by have := run_endLoop (P := P) hl (by rw [hrec]; simp); rw [hrec] at this; exact this, hstop c pre _ hSp ((hIx c).putObj _ hi (Nat.le_refl _) hl rfl)⟩
end
end Go.Proofs.YtpmkdihencepnaaGreatDoor
