/- Part of the proof. -/
import Derived.Laws.CopyOwn
import Derived.Test.YtpmkdihencepnaaGreatDoorMk01
import Derived.Test.YtpmkdihencepnaaGreatDoorMk07
import Derived.Test.YtpmkdihencepnaaGreatDoorMk17
import Derived.Test.YtpmkdihencepnaaGreatDoorMk18
import Derived.Test.YtpmkdihencepnaaGreatDoorMk20
import Derived.Test.YtpmkdihencepnaaGreatDoorMk21
set_option maxHeartbeats 16000000
namespace Go.Proofs.YtpmkdihencepnaaGreatDoor
section
open Go.RowKit
theorem splice_map {α β : Type} (f : α → β) (l : List α) (off : Nat) (cs : List α) : (splice l off cs).map f = splice (l.map f) off (cs.map f) := by
 simp [splice]
theorem take_splice {α : Type} (L : List α) (off n : Nat) (cs : List α) (h : off + cs.length ≤ n) (hn : n ≤ L.length) : (splice L off cs).take n = splice (L.take n) off cs := by
 unfold splice
 have e1 : (L.take off).length = off := by simp; omega
 have e2 : (L.take n).take off = L.take off := by rw [List.take_take, Nat.min_eq_left (by omega)]
 have e3 : (L.take n).drop (off + cs.length) = (L.drop (off + cs.length)).take (n - (off + cs.length)) := List.drop_take ..
 rw [List.take_append, e1, List.take_of_length_le (show (L.take off).length ≤ n by omega), List.take_append, List.take_of_length_le (show cs.length ≤ n - off by omega), e2, e3,
  show n - off - cs.length = n - (off + cs.length) by omega]
theorem step_copy_own {ops : Array Oper} {o : Oper} {a : Act} {w : World} {K : Act → World → Prop} {Q : Exit → Act → World → Prop} {E : Prop} {base : Nat} (hgd : o.guard = none) (d s : Operand)
 (ho : o.op = .call { callee := .builtin .copy, args := #[d, s], argTypes := #[65, 65] })
 (g n cap : Nat) (l : List Int) (hown : w.ownsRow base 3 1 (.slice (some ⟨g, 0, none⟩) n cap) n (ints l)) (off src m : Nat) (dp sp : Option Addr) (dLen dCap sLen sCap : Nat)
 (hd : a.eval d = .slice dp dLen dCap) (hs : a.eval s = .slice sp sLen sCap) (hm : Nat.min sLen dLen = m) (hdp : 0 < m → dp = some ⟨g, off, none⟩) (hsp : 0 < m → sp = some ⟨g, src, none⟩)
 (ho1 : off + m ≤ n) (hs1 : src + m ≤ n)
 (h : ∀ w', Hid (w'.ownsRow base 3 1 (.slice (some ⟨g, 0, none⟩) n cap) n (ints (splice l off ((l.drop src).take m)))) → Hid (Below base w w') → K (a.put o.dst (goInt m)) w') :
 if Region.wanted o (yielded ops a.tmps) = true then Oper.wp Tryz.prog o a w K Q else E := by
 obtain ⟨i0, hi, hz0, hz1, hz2⟩ := info_parts Tryz.infoInt
 have hl := hown.1
 rw [ints_length] at hl
 have hl' : l.length = n := by omega
 rcases hown.2 with ⟨hv, _⟩ | ⟨g', cap', cur, hv, hb, hg, hnc, hcm, hcs, htake⟩
 · cases hv
 obtain ⟨rfl, rfl⟩ : g = g' ∧ cap = cap' := by simpa using hv
 have hcl : (ints ((l.drop src).take m)).length = m := by simp [ints]; omega
 have hcur : n ≤ cur.toList.length := by simp; omega
 refine step_copy_splice hgd d s 65 65 ho 3 Tryz.underlying65 (by rw [hi]; simp [hz1]) dp sp dLen dCap sLen sCap hd hs g off cur.toList 3 (by simpa using hg) (ints ((l.drop src).take m)) (by rw [hcl]; exact hm.symm)
  (fun hp => ?_) (by rw [hcl]; omega) ints_one base w (Below.refl _ _) hb (fun w' hg' hb' => ?_)
 · rw [hcl] at hp
   refine ⟨hdp hp, _, hsp hp, fun j v hj => ?_⟩
   have hjl : j < ((l.drop src).take m).length := by
    have := (List.getElem?_eq_some_iff.1 hj).1
    simpa [ints] using this
   have hjm : j < m := by simp at hjl; omega
   rw [Addr.add_lit, hown.cellAt _ (by omega), ints_get (show src + j < l.length by omega)]
   rw [ints_get hjl] at hj
   rw [← hj]
   simp
 · rw [hcl]
   refine h w' ?_ hb'
   show World.ownsRow _ _ _ _ _ _ _
   have hsl : (splice l off ((l.drop src).take m)).length = l.length := length_splice _ _ _ (by simp; omega)
   refine ⟨by rw [ints_length, hsl]; omega, .inr ⟨g, cap, _, rfl, hb, hg'.out, hnc, hcm, ?_, ?_⟩⟩
   · have := length_splice cur.toList off (ints ((l.drop src).take m)) (by rw [hcl]; omega)
     simp only [List.size_toArray]
     rw [this]; simpa using hcs
   · have e1 : (splice cur.toList off (ints ((l.drop src).take m))).take (n * 1) = splice (cur.toList.take (n * 1)) off (ints ((l.drop src).take m)) :=
      take_splice _ _ _ _ (by rw [hcl]; omega) (by omega)
     show (splice cur.toList off (ints ((l.drop src).take m))).take (n * 1) = _
     rw [e1, htake]
     exact (splice_map (Value.int .i64) l off ((l.drop src).take m)).symm
theorem fold_piece (dn blk rest : List Int) (y : Int) :
 (splice (dn ++ (blk ++ y :: rest)) (dn.length + 1) (((dn ++ (blk ++ y :: rest)).drop dn.length).take blk.length)).set dn.length y = (dn ++ (y :: blk)) ++ ([] ++ rest) := by
 have e1 : (dn ++ (blk ++ y :: rest)).drop dn.length = blk ++ y :: rest := List.drop_left ..
 rw [e1, List.take_left]
 unfold splice
 have e2 : ∃ h, (dn ++ (blk ++ y :: rest)).take (dn.length + 1) = dn ++ [h] := by
  have e0 : dn.take (dn.length + 1) = dn := List.take_of_length_le (by omega)
  cases blk with
  | nil => exact ⟨y, by rw [List.take_append, e0]; simp⟩
  | cons b bs => exact ⟨b, by rw [List.take_append, e0]; simp⟩
 obtain ⟨h, e2⟩ := e2
 have e3 : (dn ++ (blk ++ y :: rest)).drop (dn.length + 1 + blk.length) = rest := by
  rw [show dn ++ (blk ++ y :: rest) = (dn ++ (blk ++ [y])) ++ rest by simp]
  exact List.drop_left' (by simp; omega)
 rw [e2, e3, List.append_assoc, List.set_append, if_neg (by omega)]
 simp
theorem fold_ok (A : Option Addr) (cap : Nat) (xs : List Int) (w : World) (hn : xs.length ≤ 40) (hp : IsWord xs) (h : Sl w w.heap.size A (ints xs)) :
 Calls Tryz.prog 83 #[.slice A xs.length cap] w fun e w' => Tol0 (fun ys => ys = foldOf xs) w.heap.size e w' ∧ Below w.heap.size w w' := by
 have hk : Hid (wordChk xs = 0) := wordChk_ok (by omega) hp
 have HP := Lib.hid hp
 clear hp
 go_enter Tryz.func83, Tryz.ntmps83
 go_wp2_with fail
 refine (letters_any _ _ _ _ (by omega) h).mono ?_
 rintro e w1 ⟨rfl, rfl⟩
 rw [hk.out]
 go_wp2
 go_loopw [5, 19] (fun vv iv wr => ∃ k : Nat, k ≤ xs.length ∧ iv = .int .i64 k ∧ wr.ownsRow w.heap.size 3 1 vv (foldOf (xs.take k)).length (ints (foldOf (xs.take k))) ∧ Below w.heap.size w wr) (fun _ iv _ => xs.length - (intOf iv).toNat)
 case atStart => exact ⟨0, by omega, rfl, World.ownsRow_nil _ _ _ _, Below.refl _ _⟩
 case round =>
  obtain ⟨k, hk, rfl, hown, hbl⟩ := hrel
  have hfl := foldOf_length (xs.take k)
  rw [List.length_take] at hfl
  by_cases hlt : k < xs.length
  · obtain ⟨b, o, rfl, hb⟩ := h.addr (by omega)
    have hcx := getD_cell (h.below hbl) hlt
    have hd0 : decide (k < xs.length) = true := by simpa using hlt
    have HF : Hid (foldOf (xs.take (k + 1)) = foldStep (foldOf (xs.take k)) (xs.getD k 0)) := by
     show _ = _
     rw [take_snoc hlt, foldOf_snoc, getD_get hlt]
    obtain ⟨x, hx⟩ : ∃ x, x = xs.getD k 0 := ⟨_, rfl⟩
    obtain ⟨l, hl⟩ : ∃ l, l = foldOf (xs.take k) := ⟨_, rfl⟩
    rw [← hx] at hcx HF
    rw [← hl] at hown HF hfl
    have hll : l.length = k := by omega
    have HLL := Lib.hid hll
    have HX := Lib.hid hx
    have HL := Lib.hid hl
    clear hx hl hll hfl
    by_cases hk0 : k = 0
    · have hl0 : l = [] := List.eq_nil_of_length_eq_zero (by rw [HLL.out]; exact hk0)
      subst hl0
      have hv : u5 = .slice none 0 0 ∨ ∃ g c, u5 = .slice (some ⟨g, 0, none⟩) 0 c := by
       rcases hown.2 with ⟨e1, _⟩ | ⟨g, c, _, e1, _⟩
       · exact .inl e1
       · exact .inr ⟨g, c, by simpa using e1⟩
      have HO := Lib.hid hown
      have HK0 := Lib.hid hk0
      clear hown hk0
      have hlen : ∃ A0 c0, u5 = .slice A0 0 c0 := by
       rcases hv with e | ⟨g, c, e⟩
       · exact ⟨_, _, e⟩
       · exact ⟨_, _, e⟩
      obtain ⟨A0, c0, hv0⟩ := hlen
      rw [hv0] at HO ⊢
      clear hv hv0
      go_wp2_with (at_builtin; refine wpList_app1 (l := []) rfl (.tmp 64) (.tmp 66) rfl rfl x HO.out rfl (by simp) hbl.size (fun g2 c2 w2 hl2 hb2 => ?_))
      go_roundw
      case rel => exact ⟨k + 1, by omega, by go_num, by rw [HF.out]; simpa [foldStep] using hl2, hbl.trans hb2⟩
      case measure => simp [intOf]; omega
    · have hlp : 0 < l.length := by rw [HLL.out]; omega
      obtain ⟨g, c, rfl, hg1, hg2⟩ := hown.form hlp
      have hlast := hown.cellAt (l.length - 1) (by omega)
      rw [ints_get (show l.length - 1 < l.length by omega), ← getLastD_get (d := 0) hlp] at hlast
      have hcap := own_cap hown
      have HO := Lib.hid hown
      clear hown
      obtain ⟨e, he⟩ : ∃ e, e = l.getLastD 0 := ⟨_, rfl⟩
      rw [← he] at hlast
      obtain ⟨lw, hlw⟩ : ∃ lw, lw = decide (e ≤ x) := ⟨_, rfl⟩
      have hlk : l.length ≤ 40 := by rw [HLL.out]; omega
      have HE := Lib.hid he
      have HLW := Lib.hid hlw
      clear he
      have hlw2 : decide (e ≤ x) = lw := hlw.symm
      clear hlw
      go_wp2
      go_loopw [9, 36] (fun fv iv wy => ∃ (f i : Nat) (dn blk rest : List Int), dn ++ rot (side x e) blk rest = rot (side x e) [] l ∧ (∀ z ∈ blk, side x e z = false) ∧ fv = .int .i64 f ∧ iv = .int .i64 i ∧ dn.length = f ∧ f + blk.length = i ∧ i + rest.length = l.length ∧
       wy.ownsRow w.heap.size 3 1 (.slice (some ⟨g, 0, none⟩) l.length c) l.length (ints (dn ++ (blk ++ rest))) ∧ Below w.heap.size w wy) (fun _ iv _ => l.length - (intOf iv).toNat)
      case atStart => exact ⟨0, 0, [], [], l, by simp, by simp, rfl, rfl, rfl, rfl, by simp, by simpa using HO.out, hbl⟩
      case round =>
       obtain ⟨f, i, dn, blk, rest, hrot, hblk, rfl, rfl, hdf, hbf, hlen, hown, hby⟩ := hrel
       have HRT := Lib.hid hrot
       have HB := Lib.hid hblk
       have HOY := Lib.hid hown
       have HLN := Lib.hid hlen
       have HDF := Lib.hid hdf
       have HBF := Lib.hid hbf
       clear hrot hblk hown hlast hg2
       have hfi : f ≤ i := by omega
       have hil : i ≤ l.length := by omega
       by_cases hr : 0 < rest.length
       · have hil2 : i < l.length := by omega
         clear hlen hdf hbf
         obtain ⟨y, rest, rfl⟩ : ∃ y r, rest = y :: r := by
          cases rest with
          | nil => simp at hr
          | cons y r => exact ⟨y, r, rfl⟩
         clear hr
         have hcy := HOY.out.cellAt i (by omega)
         have hgy : (ints (dn ++ (blk ++ y :: rest)))[i]? = some (.int .i64 y) := by
          have h1 := HDF.out
          have h2 := HBF.out
          rw [ints_get (by simp; omega), List.getElem_append_right (by omega), List.getElem_append_right (by omega)]
          simp only [show i - dn.length - blk.length = 0 by omega, List.getElem_cons_zero]
         rw [hgy] at hcy
         clear hgy
         have hd2 : decide (i < l.length) = true := by simpa using hil2
         obtain ⟨ly, hly⟩ : ∃ ly, ly = decide (y ≤ x) := ⟨_, rfl⟩
         have hly2 : decide (y ≤ x) = ly := hly.symm
         have HS : Hid (side x e y = (ly == lw)) := by show _ = _; unfold side; rw [← hly, ← HLW.out]
         clear hly
         by_cases hs : ly = lw
         · subst hs
           have HS2 : Hid (side x e y = true) := by show _ = _; rw [HS.out]; simp
           have hcb : f < c := by omega
           go_upto_region 15 with fail
           go_cut [] (fun wz => wz.ownsRow w.heap.size 3 1 (.slice (some ⟨g, 0, none⟩) l.length c) l.length (ints (splice (dn ++ (blk ++ y :: rest)) (f + 1) (((dn ++ (blk ++ y :: rest)).drop f).take (i - f)))) ∧ Below w.heap.size w wz)
           case first =>
            have w1 : IntKind.i64.wrap ((f : Int) + 1) = (f : Int) + 1 := IntWalk.i64_in _ (by omega)
            have w2 : IntKind.i64.wrap ((i : Int) + 1) = (i : Int) + 1 := IntWalk.i64_in _ (by omega)
            have w3 : (0 : Int) ≤ (f : Int) + 1 := by omega
            have w4 : (0 : Int) ≤ (i : Int) + 1 := by omega
            have w5 : ((f : Int) + 1).toNat = f + 1 := by omega
            have w6 : ((i : Int) + 1).toNat = i + 1 := by omega
            have w7 : (i : Int) + 1 ≤ (c : Int) := by omega
            have w8 : (f : Int) + 1 ≤ (i : Int) + 1 := by omega
            have w9 : (f : Int) ≤ (i : Int) := by omega
            have w10 : (i : Int) ≤ (c : Int) := by omega
            go_region_law (refine step_copy_own rfl (.tmp 51) (.tmp 55) rfl g l.length c (dn ++ (blk ++ y :: rest)) (own_drew HOY.out) (f + 1) f (i - f) (if c = f + 1 then some ⟨g, 0, none⟩ else some ⟨g, f + 1, none⟩) (if c = f then some ⟨g, 0, none⟩ else some ⟨g, f, none⟩) (i - f) (c - (f + 1)) (i - f) (c - f) (by simp [Act.eval, Act.put]) (by simp [Act.eval, Act.put]) (Nat.min_self _) (by intro hm; rw [if_neg (by omega)]) (by intro hm; rw [if_neg (by omega)]) (by omega) (by omega) ?_; intro wz5 ho5 hb5)
            simp only [Exit.then]
            go_step
            go_meet
            case rel => exact ⟨ho5.out, hby.drew.trans hb5.out⟩
           case rest =>
            obtain ⟨hoz, hbz⟩ := hcut
            have hfr := hoz.frozenAt f
            have hcf := hoz.cellAt f (by omega)
            rw [List.getElem?_eq_getElem (by rw [ints_length, length_splice _ _ _ (by have := HDF.out; have := HBF.out; have := HLN.out; simp at this ⊢; omega)]; have := HDF.out; have := HLN.out; simp at this ⊢; omega)] at hcf
            have HOZ := Lib.hid hoz
            clear hoz
            generalize (ints (splice (dn ++ (blk ++ y :: rest)) (f + 1) (((dn ++ (blk ++ y :: rest)).drop f).take (i - f))))[f]'_ = vf at hcf
            go_wp2
            go_roundw
            case rel =>
             refine ⟨i + 1, i + 1, dn ++ (y :: blk), [], rest, ?_, by simp, by go_num, by go_num, ?_, by simp, ?_, ?_, hbz.setCell (by exact hg1) _⟩
             · rw [← HRT.out, rot, if_pos (by rw [HS2.out])]; simp
             · have := HDF.out; have := HBF.out; simp; omega
             · have := HLN.out; simp at this; omega
             · have := own_set HOZ.out f y
               rw [← HDF.out, show i - dn.length = blk.length by have := HDF.out; have := HBF.out; omega, fold_piece] at this
               rw [← HDF.out]
               exact this
            case measure => simp [intOf]; omega
         · have HS2 : Hid (side x e y = false) := by show _ = _; rw [HS.out]; simpa using hs
           have hsb : (ly == lw) = false := by simpa using hs
           clear hs
           go_wp2
           go_roundw
           case rel =>
            refine ⟨f, i + 1, dn, blk ++ [y], rest, ?_, ?_, rfl, by go_num, HDF.out, ?_, ?_, ?_, hby⟩
            · rw [← HRT.out, rot, if_neg (by rw [HS2.out]; simp)]
            · intro z hz
              rcases List.mem_append.1 hz with hz | hz
              · exact HB.out z hz
              · simp at hz; rw [hz]; exact HS2.out
            · have := HBF.out; simp; omega
            · have := HLN.out; simp at this; omega
            · have := HOY.out; simpa using this
           case measure => simp [intOf]; omega
       · have hr0 : rest = [] := List.eq_nil_of_length_eq_zero (by omega)
         subst hr0
         have hil2 : i = l.length := by simpa using HLN.out
         have hne : Hid (l ≠ []) := by show _ ≠ _; intro e; rw [e] at hlp; simp at hlp
         have hdl : Hid (dn ++ (blk ++ []) = rot (side x e) [] l) := by
          show _ = _
          rw [← HRT.out]; simp [rot]
         have hoo := HOY.out
         rw [hdl.out] at hoo
         have HOO := Lib.hid hoo
         have hrl : (rot (side x e) [] l).length = l.length := by rw [rot_length]; simp
         have HRL := Lib.hid hrl
         have hd2 : decide (i < l.length) = false := by simp; omega
         clear hoo hrl hil2 hlen hdf hbf
         go_wp2_with (at_builtin; refine wpList_app1 rfl (.tmp 64) (.tmp 66) rfl rfl x HOO.out rfl (by omega) hby.size (fun g2 c2 w2 hl2 hb2 => ?_))
         go_roundw
         case rel =>
          refine ⟨k + 1, by omega, by go_num, ?_, hby.trans hb2⟩
          have e1 : foldStep l x = rot (side x e) [] l ++ [x] := by unfold foldStep; rw [if_neg hne.out, ← HE.out]
          rw [HF.out, e1, show (rot (side x e) [] l ++ [x]).length = l.length + 1 by simp [HRL.out]]
          exact hl2
         case measure => simp [intOf]; omega
  · obtain rfl : k = xs.length := by omega
    obtain ⟨A', c', hv⟩ : ∃ A' c', u5 = .slice A' (foldOf xs).length c' := by
     rw [List.take_length] at hown
     rcases hown.2 with ⟨h1, h2⟩ | ⟨g, c, _, h1, _⟩
     · exact ⟨none, 0, by rw [h2]; exact h1⟩
     · exact ⟨_, c, h1⟩
    rw [List.take_length] at hown
    have HO := Lib.hid hown
    clear hown
    rw [hv] at HO ⊢
    have hd0 : decide (xs.length < xs.length) = false := by simp
    go_wp2
    go_ret2
    exact ⟨tol0_own (xs := foldOf xs) HO.out rfl, hbl⟩
theorem unfold_piece (dn blk rest : List Int) (y : Int) :
 (splice (dn ++ (y :: (blk ++ rest))) dn.length (((dn ++ (y :: (blk ++ rest))).drop (dn.length + 1)).take blk.length)).set (dn.length + blk.length) y = (dn ++ (blk ++ [y])) ++ rest := by
 have e1 : (dn ++ (y :: (blk ++ rest))).drop (dn.length + 1) = blk ++ rest := by
  rw [show dn ++ (y :: (blk ++ rest)) = (dn ++ [y]) ++ (blk ++ rest) by simp]
  exact List.drop_left' (by simp)
 rw [e1, List.take_left]
 unfold splice
 rw [List.take_left]
 have e3 : ∃ h, (dn ++ (y :: (blk ++ rest))).drop (dn.length + blk.length) = h :: rest := by
  rcases List.eq_nil_or_concat blk with rfl | ⟨b, z, hbz⟩
  · exact ⟨y, by simp⟩
  · rw [List.concat_eq_append] at hbz
    subst hbz
    refine ⟨z, ?_⟩
    rw [show dn ++ (y :: (b ++ [z] ++ rest)) = (dn ++ (y :: b)) ++ (z :: rest) by simp]
    exact List.drop_left' (by simp)
 obtain ⟨h, e3⟩ := e3
 rw [e3, ← List.append_assoc, List.set_append, if_neg (by simp), List.length_append, Nat.sub_self]
 simp
theorem unrot_stop (p : Int → Bool) (y : Int) (blk rest : List Int) (h : rest = [] ∨ ∃ z r, rest = z :: r ∧ p z = true) : unrot p y blk rest = (blk ++ [y]) ++ unrotAll p rest := by
 rcases h with rfl | ⟨z, r, rfl, hz⟩
 · simp [unrot, unrotAll]
 · rw [unrot, if_pos hz]; rfl
theorem unfold_ok (A : Option Addr) (cap : Nat) (xs : List Int) (w : World) (hn : xs.length ≤ 40) (hp : IsWord xs) (h : Sl w w.heap.size A (ints xs)) :
 Calls Tryz.prog 84 #[.slice A xs.length cap] w fun e w' => Tol0 (fun ys => ys = unfoldOf xs ∧ ys.length = xs.length) w.heap.size e w' ∧ Below w.heap.size w w' := by
 have hk : Hid (wordChk xs = 0) := wordChk_ok (by omega) hp
 have HP := Lib.hid hp
 clear hp
 go_enter Tryz.func84, Tryz.ntmps84
 go_wp2_with fail
 refine (letters_any _ _ _ _ (by omega) h).mono ?_
 rintro e w1 ⟨rfl, rfl⟩
 rw [hk.out]
 go_wp2_with fail
 refine (clone_any _ _ _ _ (by omega) h).mono ?_
 rintro e w2 ⟨v, rfl, hown, hb2⟩
 have hsh : ∃ A' c', v = .slice A' xs.length c' := by
  rcases hown.2 with ⟨h1, h2⟩ | ⟨g, c, _, h1, _⟩
  · exact ⟨none, 0, by rw [h2]; exact h1⟩
  · exact ⟨_, c, h1⟩
 obtain ⟨A', c', rfl⟩ := hsh
 have HO2 := Lib.hid hown
 clear hown
 by_cases hx0 : xs.length = 0
 · have hxe : xs = [] := List.eq_nil_of_length_eq_zero hx0
   subst hxe
   clear hx0
   go_wp2
   refine wp_loop_rounds 1 ?_
   rw [rounds_succ]
   go_wp2
   go_ret2
   exact ⟨tol0_own (xs := unfoldOf []) HO2.out ⟨rfl, rfl⟩, hb2⟩
 have hxp : 0 < xs.length := by omega
 clear hx0
 obtain ⟨g, c, hv, hg1, hg2⟩ := HO2.out.form hxp
 obtain ⟨rfl, rfl⟩ : A' = some ⟨g, 0, none⟩ ∧ c' = c := by simpa using hv
 have hcap := own_cap HO2.out
 clear hv hg2
 go_wp2
 go_loopw [6] (fun nv wr => ∃ (j : Nat) (l : List Int), j < xs.length ∧ nv = .int .i64 j ∧ l.length = xs.length ∧ unfoldN j l = unfoldOf xs ∧ wr.ownsRow w.heap.size 3 1 (.slice (some ⟨g, 0, none⟩) xs.length c') xs.length (ints l) ∧ Below w.heap.size w wr) (fun nv _ => (intOf nv).toNat)
 case atStart => exact ⟨xs.length - 1, xs, by omega, by go_num, rfl, rfl, HO2.out, hb2⟩
 case round =>
  obtain ⟨j, l, hj, rfl, hll, hun, hown, hbl⟩ := hrel
  have HLL := Lib.hid hll
  have HUN := Lib.hid hun
  have HO := Lib.hid hown
  by_cases hj0 : 0 < j
  · have hcx := hown.cellAt j (by omega)
    have hc0 := hown.cellAt 0 (by omega)
    rw [ints_get (by omega), ← getD_getI (by omega)] at hcx hc0
    clear hown hun hll
    obtain ⟨x, hx⟩ : ∃ x, x = l.getD j 0 := ⟨_, rfl⟩
    obtain ⟨e, he⟩ : ∃ e, e = l.getD 0 0 := ⟨_, rfl⟩
    rw [← hx] at hcx
    rw [← he] at hc0
    have HX := Lib.hid hx
    have HE := Lib.hid he
    obtain ⟨lw, hlw⟩ : ∃ lw, lw = decide (e ≤ x) := ⟨_, rfl⟩
    have HLW := Lib.hid hlw
    have hlw2 : decide (e ≤ x) = lw := hlw.symm
    clear hlw hx he
    go_wp2
    go_loopw [9] (fun fv wy => ∃ (f : Nat) (dn rest : List Int), fv = .int .i64 f ∧ dn.length = f ∧ f + rest.length = j ∧ dn ++ unrotAll (side x e) rest = unrotAll (side x e) (l.take j) ∧ (rest = [] ∨ ∃ z r, rest = z :: r ∧ side x e z = true) ∧
     wy.ownsRow w.heap.size 3 1 (.slice (some ⟨g, 0, none⟩) xs.length c') xs.length (ints (dn ++ (rest ++ l.drop j))) ∧ Below w.heap.size w wy) (fun fv _ => xs.length - (intOf fv).toNat)
    case atStart =>
     refine ⟨0, [], l.take j, rfl, rfl, by have := HLL.out; simp; omega, by simp, .inr ?_, by simpa using HO.out, hbl⟩
     have h0 : 0 < l.length := by have := HLL.out; omega
     obtain ⟨z, r, hz⟩ : ∃ z r, l = z :: r := by
      cases l with
      | nil => simp at h0
      | cons z r => exact ⟨z, r, rfl⟩
     obtain ⟨m, rfl⟩ : ∃ m, j = m + 1 := ⟨j - 1, by omega⟩
     refine ⟨z, r.take m, by rw [hz]; rfl, ?_⟩
     have : e = z := by rw [HE.out, hz]; rfl
     rw [this]; exact side_self _ _
    case round =>
     obtain ⟨f, dn, rest, rfl, hdf, hfr, hrot, hhd, hown, hby⟩ := hrel
     have HDF := Lib.hid hdf
     have HFR := Lib.hid hfr
     have HRT := Lib.hid hrot
     have HHD := Lib.hid hhd
     have HOY := Lib.hid hown
     have hfj : f ≤ j := by omega
     clear hdf hrot hhd hown hcx hc0
     by_cases hlt : f < j
     · obtain ⟨y, r, hyr, hpy⟩ : ∃ y r, rest = y :: r ∧ side x e y = true := by
        rcases HHD.out with h1 | h1
        · have := HFR.out; rw [h1] at this; simp at this; omega
        · exact h1
       subst hyr
       have HPY := Lib.hid hpy
       have hrl : f + 1 + r.length = j := by have := HFR.out; simp at this; omega
       have HRL := Lib.hid hrl
       clear hpy hfr hrl
       have hd1 : decide (f < j) = true := by simpa using hlt
       go_upto_block 4 with fail
       go_cut [10] (fun tv wz => ∃ (t : Nat) (blk r2 : List Int), tv = .int .i64 t ∧ r = blk ++ r2 ∧ f + 1 + blk.length = t ∧ (∀ z ∈ blk, side x e z = false) ∧ (r2 = [] ∨ ∃ z r3, r2 = z :: r3 ∧ side x e z = true) ∧ wz = wr)
       case first =>
        go_wp2
        go_loopw [10] (fun tv wz => ∃ (t : Nat) (blk r2 : List Int), tv = .int .i64 t ∧ r = blk ++ r2 ∧ f + 1 + blk.length = t ∧ (∀ z ∈ blk, side x e z = false) ∧ wz = wr) (fun tv _ => xs.length - (intOf tv).toNat)
        case atStart => exact ⟨f + 1, [], r, by go_num, rfl, rfl, by simp, rfl⟩
        case round =>
         obtain ⟨t, blk, r2, rfl, hr2, htb, hblk, rfl⟩ := hrel
         have HR2 := Lib.hid hr2
         have HTB := Lib.hid htb
         have HB := Lib.hid hblk
         have htj : t ≤ j := by have := HRL.out; rw [hr2] at this; simp at this; omega
         have hft : f < t := by omega
         clear hr2 htb hblk
         by_cases htl : t < j
         · obtain ⟨z, r3, hz⟩ : ∃ z r3, r2 = z :: r3 := by
            cases r2 with
            | nil => have := HRL.out; rw [HR2.out] at this; have := HTB.out; simp at *; omega
            | cons z r3 => exact ⟨z, r3, rfl⟩
           subst hz
           have hcz := own_get (i := t) (z := z) HOY.out (mid_get (pre := dn ++ (y :: blk)) (post := r3 ++ l.drop j) (by rw [HR2.out]; simp) (by have := HDF.out; have := HTB.out; simp; omega))
           have hd2 : decide (t < j) = true := by simpa using htl
           obtain ⟨lz, hlz⟩ : ∃ lz, lz = decide (z ≤ x) := ⟨_, rfl⟩
           have hlz2 : decide (z ≤ x) = lz := hlz.symm
           have HS : Hid (side x e z = (lz == lw)) := by show _ = _; unfold side; rw [← hlz, ← HLW.out]
           clear hlz
           by_cases hs : lz = lw
           · subst hs
             have hsb : (lz == lz) = true := by simp
             go_wp2
             go_meet
             case rel => exact ⟨t, blk, z :: r3, rfl, HR2.out, HTB.out, HB.out, .inr ⟨z, r3, rfl, by rw [HS.out]; simp⟩, rfl⟩
           · have HS2 : Hid (side x e z = false) := by show _ = _; rw [HS.out]; simpa using hs
             have hsb : (lz == lw) = false := by simpa using hs
             clear hs
             go_wp2
             go_roundw
             case rel =>
              refine ⟨t + 1, blk ++ [z], r3, by go_num, by rw [HR2.out]; simp, by have := HTB.out; simp; omega, fun u hu => ?_, trivial⟩
              rcases List.mem_append.1 hu with hu | hu
              · exact HB.out u hu
              · simp at hu; rw [hu]; exact HS2.out
             case measure => simp [intOf]; omega
         · have hd2 : decide (t < j) = false := by simpa using htl
           go_wp2
           go_meet
           case rel =>
            refine ⟨t, blk, r2, rfl, HR2.out, HTB.out, HB.out, .inl ?_, rfl⟩
            apply List.eq_nil_of_length_eq_zero
            have h1 := HRL.out; rw [HR2.out] at h1; have h2 := HTB.out; simp at h1; omega
       case rest =>
        obtain ⟨t, blk, r2, rfl, hr2, htb, hblk, hstop, hwc⟩ := hcut
        obtain rfl : wc = wr := hwc
        have HR2 := Lib.hid hr2
        have HTB := Lib.hid htb
        have HB := Lib.hid hblk
        have HST := Lib.hid hstop
        have htj : t ≤ j := by have := HRL.out; rw [hr2] at this; simp at this; omega
        have hft : f < t := by omega
        have hcy := own_get (i := f) (z := y) HOY.out (mid_get (pre := dn) (post := r ++ l.drop j) (by simp) HDF.out)
        have HOO : Hid (wc.ownsRow w.heap.size 3 1 (.slice (some ⟨g, 0, none⟩) xs.length c') xs.length (ints (dn ++ (y :: (blk ++ (r2 ++ l.drop j)))))) := by
         show World.ownsRow _ _ _ _ _ _ _
         have := HOY.out; rw [HR2.out] at this; simpa using this
        have hLL : (dn ++ (y :: (blk ++ (r2 ++ l.drop j)))).length = xs.length := by have := HOO.out.1; rwa [ints_length, Nat.mul_one] at this
        have HLEN := Lib.hid hLL
        clear hr2 htb hblk hstop hLL
        go_upto_region 16 with fail
        go_cut [] (fun wz => wz.ownsRow w.heap.size 3 1 (.slice (some ⟨g, 0, none⟩) xs.length c') xs.length (ints (splice (dn ++ (y :: (blk ++ (r2 ++ l.drop j)))) f (((dn ++ (y :: (blk ++ (r2 ++ l.drop j)))).drop (f + 1)).take (t - 1 - f)))) ∧ Below w.heap.size w wz)
        case first =>
         have w1 : IntKind.i64.wrap ((f : Int) + 1) = (f : Int) + 1 := IntWalk.i64_in _ (by omega)
         have w2 : IntKind.i64.wrap ((t : Int) - 1) = (t : Int) - 1 := IntWalk.i64_in _ (by omega)
         have w3 : (0 : Int) ≤ (f : Int) + 1 := by omega
         have w4 : (0 : Int) ≤ (t : Int) - 1 := by omega
         have w5 : ((f : Int) + 1).toNat = f + 1 := by omega
         have w6 : ((t : Int) - 1).toNat = t - 1 := by omega
         have w7 : (t : Int) ≤ (c' : Int) := by omega
         have w8 : (f : Int) ≤ (t : Int) - 1 := by omega
         have w9 : (f : Int) + 1 ≤ (t : Int) := by omega
         have w10 : (t : Int) - 1 ≤ (c' : Int) := by omega
         go_region_law (refine step_copy_own rfl (.tmp 63) (.tmp 68) rfl g xs.length c' (dn ++ (y :: (blk ++ (r2 ++ l.drop j)))) (own_drew HOO.out) f (f + 1) (t - 1 - f) (if c' = f then some ⟨g, 0, none⟩ else some ⟨g, f, none⟩) (if c' = f + 1 then some ⟨g, 0, none⟩ else some ⟨g, f + 1, none⟩) (t - 1 - f) (c' - f) (t - (f + 1)) (c' - (f + 1)) (by simp [Act.eval, Act.put]) (by simp [Act.eval, Act.put]) (by rw [show t - (f + 1) = t - 1 - f by omega]; exact Nat.min_self _) (by intro hm; rw [if_neg (by omega)]) (by intro hm; rw [if_neg (by omega)]) (by omega) (by omega) ?_; intro wz5 ho5 hb5)
         simp only [Exit.then]
         go_step
         go_meet
         case rel => exact ⟨ho5.out, hby.drew.trans hb5.out⟩
        case rest =>
         obtain ⟨hoz, hbz⟩ := hcut
         have hfr := hoz.frozenAt (t - 1)
         have hcf := hoz.cellAt (t - 1) (by omega)
         have hsl : (ints (splice (dn ++ (y :: (blk ++ (r2 ++ l.drop j)))) f (((dn ++ (y :: (blk ++ (r2 ++ l.drop j)))).drop (f + 1)).take (t - 1 - f)))).length = xs.length := by have := hoz.1; rwa [Nat.mul_one] at this
         rw [List.getElem?_eq_getElem (by omega)] at hcf
         have HOZ := Lib.hid hoz
         clear hoz
         generalize (ints (splice (dn ++ (y :: (blk ++ (r2 ++ l.drop j)))) f (((dn ++ (y :: (blk ++ (r2 ++ l.drop j)))).drop (f + 1)).take (t - 1 - f))))[t - 1]'_ = vf at hcf
         go_wp2
         go_roundw
         case rel =>
          refine ⟨t, dn ++ (blk ++ [y]), r2, rfl, ?_, ?_, ?_, HST.out, ?_, hbz.setCell (by exact hg1) _⟩
          · have := HDF.out; have := HTB.out; simp; omega
          · have h1 := HRL.out; rw [HR2.out] at h1; have := HTB.out; simp at h1; omega
          · have h1 := HRT.out
            rw [unrotAll, HR2.out] at h1
            have h2 : unrot (side x e) y [] (blk ++ r2) = (blk ++ [y]) ++ unrotAll (side x e) r2 := by
             rw [unrot_pass (side x e) y r2 blk [] HB.out, List.nil_append, unrot_stop _ _ _ _ HST.out]
            rw [h2] at h1
            rw [← h1]; simp
          · have h1 := own_set HOZ.out (t - 1) y
            have hd := HDF.out
            have ht := HTB.out
            rw [← hd, show t - 1 - dn.length = blk.length by omega, show t - 1 = dn.length + blk.length by omega, unfold_piece] at h1
            rw [show t - 1 = dn.length + blk.length by omega]
            simpa using h1
         case measure => simp [intOf]; omega
     · have hr0 : rest = [] := List.eq_nil_of_length_eq_zero (by omega)
       subst hr0
       have hfj2 : f = j := by have := HFR.out; simpa using this
       subst hfj2
       clear hfr
       have hd1 : decide (f < f) = false := by simp
       obtain ⟨m, rfl⟩ : ∃ m, f = m + 1 := ⟨f - 1, by omega⟩
       go_wp2
       go_roundw
       case rel =>
        refine ⟨m, dn ++ ([] ++ l.drop (m + 1)), by omega, by go_num, ?_, ?_, HOY.out, hby⟩
        · have h1 := HOY.out.1; rwa [ints_length, Nat.mul_one] at h1
        · rw [← HUN.out, unfoldN, ← HX.out, ← HE.out, ← HRT.out]; simp [unrotAll]
       case measure => simp [intOf]
  · obtain rfl : j = 0 := by omega
    have hd0 : decide ((0 : Int) < 0) = false := by simp
    have HU2 : Hid (l = unfoldOf xs) := HUN.out
    clear hown hun hll
    go_wp2
    go_ret2
    exact ⟨tol0_own (xs := unfoldOf xs) (by rw [← HU2.out]; exact HO.out) ⟨rfl, by rw [← HU2.out]; have := HO.out.1; rw [ints_length] at this; omega⟩, hbl⟩
end
section
theorem getD_out {p : List Int} {i : Nat} (h : p.length ≤ i) : p.getD i 0 = 0 := by simp [h]
def psum (f : Nat → Int) : Nat → Int
 | 0 => 0
 | k + 1 => psum f k + f k
end
end Go.Proofs.YtpmkdihencepnaaGreatDoor
