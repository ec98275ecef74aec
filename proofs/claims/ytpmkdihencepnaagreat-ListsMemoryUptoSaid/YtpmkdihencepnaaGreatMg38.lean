/-
  Rows of strips (a list and a height): cells of two; the append of one; slices.Contains of ints.
-/
import Derived.Deep.AppendLies
import Derived.BigQuiet
import Derived.Deep.DeepCutAuto
import Derived.Test.YtpmkdihencepnaaGreatMg01
import Derived.Test.YtpmkdihencepnaaGreatMg20
import Derived.Test.YtpmkdihencepnaaGreatMg37
namespace Go.Proofs.YtpmkdihencepnaaGreat
open Go.RowKit Go.Proofs

abbrev Stp := Value × List Int × Int
def scl (z : Stp) : List Value := [z.1, .int .i64 z.2.2]
def scells (m : List Stp) : List Value := m.flatMap scl
theorem scells_app (m m' : List Stp) : scells (m ++ m') = scells m ++ scells m' := by simp [scells]
theorem scells_len : ∀ (m : List Stp), (scells m).length = m.length * 2
  | [] => rfl
  | x :: m => by
    have := scells_len m
    simp only [scells, List.flatMap_cons, List.length_append, List.length_cons, List.length_nil, scl] at this ⊢
    omega
theorem scells_get : ∀ {m : List Stp} {i : Nat} {z : Stp}, m[i]? = some z → (scells m)[i * 2]? = some z.1 ∧ (scells m)[i * 2 + 1]? = some (.int .i64 z.2.2)
  | x :: m, 0, z, h => by simp at h; subst h; simp [scells, scl]
  | x :: m, i + 1, z, h => by
    have := scells_get (m := m) (i := i) (z := z) (by simpa using h)
    simp only [scells, List.flatMap_cons] at this ⊢
    rw [show (i + 1) * 2 = i * 2 + 2 by omega, show i * 2 + 2 + 1 = (i * 2 + 1) + 2 by omega]
    simpa [scl] using this

/-- The strips so far: their row, which the call owns, and their lists, beside it. -/
def StpO (w : World) (B : Nat) (v : Value) (zs : List Stp) : Prop :=
  w.ownsRow B 81 2 v zs.length (scells zs) ∧ ∀ z ∈ zs, ∃ A c, z.1 = .slice A z.2.1.length c ∧ z.2.1.length ≤ 1000 ∧ Sl w w.heap.size A (ints z.2.1) ∧ ∀ b o, A = some ⟨b, o, none⟩ → v.ownBlock ≠ some b ∧ b < w.heap.size
theorem own_belowK {w w' : World} {base size n : Nat} {e : TypeId} {v : Value} {cs : List Value} (h : w.ownsRow base e size v n cs) (hb : Below w.heap.size w w') : w'.ownsRow base e size v n cs := by
  refine ⟨h.1, ?_⟩
  rcases h.2 with hn | ⟨g, cap, cur, rfl, hg, hh, rest⟩
  · exact .inl hn
  · exact .inr ⟨g, cap, cur, rfl, hg, (hb.block g (Array.getElem?_eq_some_iff.1 hh).1).trans hh, rest⟩
theorem StpO.nil (w : World) (B : Nat) : StpO w B (.slice none 0 0) [] := ⟨World.ownsRow_nil _ _ _ _, fun z hz => by simp at hz⟩
theorem StpO.below {w w' : World} {B : Nat} {v : Value} {zs : List Stp} (h : StpO w B v zs) (hb : Below w.heap.size w w') : StpO w' B v zs :=
  ⟨own_belowK h.1 hb, fun z hz => by
    obtain ⟨A, c, e, hl, hs, hn⟩ := h.2 z hz
    exact ⟨A, c, e, hl, hs.keep hb, fun b o hA => ⟨(hn b o hA).1, by have := (hn b o hA).2; have := hb.size; omega⟩⟩⟩
/-- One strip more: w the world behind its list, w6 the one behind the append. -/
theorem StpO.push {w w6 : World} {B L : Nat} {v : Value} {zs : List Stp} (h : StpO w B v zs) (hv : ∀ k, v.ownBlock = some k → k < L) {Aq : Option Addr} {cq : Nat} {ys : List Int} {ht : Int} (hy : ys.length ≤ 1000)
    (hq : w.ownsRow L 3 1 (.slice Aq ys.length cq) ys.length (ints ys)) {g c n : Nat} (hn : n = zs.length)
    (h6 : w6.ownsRow B 81 2 (.slice (some ⟨g, 0, none⟩) (n + 1) c) (n + 1) (scells (zs ++ [(.slice Aq ys.length cq, ys, ht)])))
    (hg : (w.alloc (.cells #[.slice Aq ys.length cq, .int .i64 ht] 81)).grownBy w6 v.ownBlock) (hat : v.ownBlock = some g ∨ g = w.heap.size + 1) :
    StpO w6 B (.slice (some ⟨g, 0, none⟩) (n + 1) c) (zs ++ [(.slice Aq ys.length cq, ys, ht)]) := by
  subst hn
  have hsz : w.heap.size + 1 ≤ w6.heap.size := by have := hg.size; simpa using this
  have key : ∀ A (l : List Int), Sl w w.heap.size A (ints l) → (∀ b o, A = some ⟨b, o, none⟩ → v.ownBlock ≠ some b) → Sl w6 w6.heap.size A (ints l) ∧ ∀ b o, A = some ⟨b, o, none⟩ → b < w.heap.size → g ≠ b := fun A l hs hne => by
    refine ⟨fun hp => ?_, fun b o e hb => ?_⟩
    · obtain ⟨b, o, hA, hb, hc⟩ := hs hp
      refine ⟨b, o, hA, by omega, fun k u hk => ?_⟩
      rw [World.cell?_of_block ((hg.block b (by simp; omega) (fun e => hne b o hA e.symm)).trans (Below.heap_alloc w _ b hb))]
      exact hc k u hk
    · rcases hat with h1 | h1
      · intro h2; exact hne b o e (by rw [h1, h2])
      · omega
  refine ⟨by rw [List.length_append]; exact h6, fun z hz => ?_⟩
  rcases List.mem_append.1 hz with hz | hz
  · obtain ⟨A, c', e, hl, hs, hne⟩ := h.2 z hz
    obtain ⟨k1, k2⟩ := key A _ hs (fun b o hA => (hne b o hA).1)
    refine ⟨A, c', e, hl, k1, fun b o hA => ⟨fun hh => ?_, by have := (hne b o hA).2; omega⟩⟩
    have hgb : g = b := by simpa [Value.ownBlock] using hh
    exact k2 b o hA (hne b o hA).2 hgb
  · simp only [List.mem_cons, List.not_mem_nil, or_false] at hz
    subst hz
    have hbq : ∀ b o, Aq = some ⟨b, o, none⟩ → L ≤ b ∧ b < w.heap.size := fun b o e => hq.lt b (by rw [e]; rfl)
    obtain ⟨k1, k2⟩ := key Aq ys (Sl.of_own hq) (fun b o e hh => by have := hv b hh; have := (hbq b o e).1; omega)
    exact ⟨Aq, cq, rfl, hy, k1, fun b o e => ⟨fun hh => by
      have hgb : g = b := by simpa [Value.ownBlock] using hh
      exact k2 b o e (hbq b o e).2 hgb, by have := (hbq b o e).2; omega⟩⟩
def SsOut (v : Value) (n base : Nat) (e : Ending) (w w' : World) : Prop := (e = .returned (.tuple #[]) ∧ ∃ A c, v = .slice A n c ∧ SpR w' w'.heap.size A n) ∧ Below base w w'
/-- What slices.SortFunc of strips must do. -/
def SortC : Prop := ∀ (base : Nat) (v : Value) (zs : List Stp) (w : World), base ≤ w.heap.size → zs.length ≤ 1000 → StpO w base v zs →
  Calls Tryz.prog 87 #[v, .func (.func 88) #[] #[]] w fun e w' => SsOut v zs.length base e w w'
theorem Tryz.infoStrip : (Tryz.prog.info? 81).map (fun i => (i.zero, i.size, i.bytes)) = some (some (.agg #[.slice none 0 0, .int .i64 0]), 2, 32) := by kernel_rfl
/-- 'append(v, Strip{..})': it was laid in a block of its own. -/
theorem wpList_appS {w : World} {base : Nat} {l : List Stp} {v : Value} {ops : Array Oper} {rest : List Oper} {o : Oper} {a : Act} {Q : Exit → Act → World → Prop} (hgd : o.guard = none) (s x : Operand)
    (ho : o.op = .call { callee := .builtin .append, args := #[s, x], argTypes := #[78, 78] }) (hs : a.eval s = v) (y : Value) (hy : y.oneCell' = true) (q : List Int) (ht : Int) {n : Nat}
    (hown : w.ownsRow base 81 2 v n (scells l)) (g0 : Nat) (hg0 : g0 = w.heap.size) (hx : a.eval x = .slice (some ⟨g0, 0, none⟩) 1 1) (hlen : n < 1000000) (hbase : base ≤ w.heap.size)
    (h : ∀ g cap w', w'.ownsRow base 81 2 (.slice (some ⟨g, 0, none⟩) (n + 1) cap) (n + 1) (scells (l ++ [(y, q, ht)])) → (w.alloc (.cells #[y, .int .i64 ht] 81)).grownBy w' v.ownBlock → (v.ownBlock = some g ∨ g = w.heap.size + 1) →
      wpList Tryz.prog ops Q rest (a.put o.dst (.slice (some ⟨g, 0, none⟩) (n + 1) cap)) w') :
    wpList Tryz.prog ops Q (o :: rest) a (w.alloc (.cells #[y, .int .i64 ht] 81)) := by
  subst hg0
  obtain ⟨i0, hi, hz0, hz1, hz2⟩ := info_parts Tryz.infoStrip
  refine wpList_append_lies _ hgd s x 78 ho base 81 i0 (.agg #[.slice none 0 0, .int .i64 0]) 2 32 Tryz.underlying78 hi hz0 hz1 hz2 rfl (by decide) v n (scells l) hs (hown.alloc _) ⟨w.heap.size, 0, none⟩ 1 1 [y, .int .i64 ht] hx rfl ?_ (fun u hu => by simp only [List.mem_cons, List.not_mem_nil, or_false] at hu; rcases hu with rfl | rfl; exact hy; rfl) (by decide)
    (by unfold maxLen; omega) (by omega) (by simp; omega) _ rfl (fun g cap w' h1 h2 h3 _ => ?_)
  · intro j u hu
    match j, hu with
    | 0, hu => simp at hu; subst hu; simp [Addr.add]
    | 1, hu => simp at hu; subst hu; simp [Addr.add]
  · exact h g cap w' (by rw [scells_app]; exact h1) h2 (by simpa using h3)

set_option maxHeartbeats 1000000 in
theorem idx_any (b o cap : Nat) (xs : List Int) (y : Int) (w : World) (hl : xs.length ≤ 1000) (h : Sl w w.heap.size (some ⟨b, o, none⟩) (ints xs)) :
    Calls Tryz.prog 104 #[.slice (some ⟨b, o, none⟩) xs.length cap, .int .i64 y] w fun e w' => (∃ z : Int, e = .returned (.int .i64 z)) ∧ w = w' := by
  have H := Lib.hid h
  clear h
  go_enter Tryz.func104, Tryz.ntmps104
  go_wp2
  go_loopw [8] (fun iv wr => ∃ i : Nat, i ≤ xs.length ∧ iv = .int .i64 i ∧ w = wr) (fun iv _ => xs.length - (intOf iv).toNat)
  case atStart => exact ⟨0, Nat.zero_le _, rfl, rfl⟩
  case round =>
    obtain ⟨i, hi, rfl, rfl⟩ := hrel
    have hi6 : i ≤ 1000 := by omega
    by_cases hlt : i < xs.length
    · have di : decide (i < xs.length) = true := decide_eq_true hlt
      have hc := getD_cell H.out hlt
      obtain ⟨x, hx⟩ : ∃ x, x = xs.getD i 0 := ⟨_, rfl⟩
      rw [← hx] at hc
      clear hx
      by_cases hxy : y = x
      · have d0 : (y == x) = true := by simpa using hxy
        clear hxy
        go_wp2
        go_ret
        exact ⟨⟨_, rfl⟩, rfl⟩
      · have d0 : (y == x) = false := by simpa using hxy
        clear hxy
        go_wp2
        go_roundw
        case rel => exact ⟨i + 1, by omega, by go_num, by first | rfl | trivial⟩
        case measure => simp [intOf]; omega
    · have di : decide (i < xs.length) = false := decide_eq_false hlt
      go_wp2
      go_ret
      exact ⟨⟨_, rfl⟩, rfl⟩
theorem cont_any (b o cap : Nat) (xs : List Int) (y : Int) (w : World) (hl : xs.length ≤ 1000) (h : Sl w w.heap.size (some ⟨b, o, none⟩) (ints xs)) :
    Calls Tryz.prog 86 #[.slice (some ⟨b, o, none⟩) xs.length cap, .int .i64 y] w fun e w' => (∃ z : Bool, e = .returned (.bool z)) ∧ w = w' := by
  have HX := Lib.hid (idx_any b o cap xs y w hl h)
  clear h
  go_enter Tryz.func86, Tryz.ntmps86
  go_wp2_with (first | (go_at_call 104; refine (HX.out).mono ?_; rintro e w2 ⟨⟨z, rfl⟩, rfl⟩) | fail)
  go_ret
  exact ⟨⟨_, rfl⟩, rfl⟩
end Go.Proofs.YtpmkdihencepnaaGreat

/-
  chars.strips, where the sort of its strips is known.
-/
namespace Go.Proofs.YtpmkdihencepnaaGreat
open Go.RowKit Go.Proofs

theorem getD_someS {l : List Int} {j : Nat} (h : j < l.length) : l[j]? = some (l.getD j 0) := by simp [h]
set_option maxRecDepth 100000 in
set_option maxHeartbeats 4000000 in
theorem strips_of (HSO : SortC) : StripsC := by
  intro A cap p k w hp h
  have HP := Lib.hid h
  have HSORT := Lib.hid HSO
  clear h HSO
  go_enter Tryz.func72, Tryz.ntmps72
  go_wp2_with (first | (at_make; refine wpList_mk (base := w.heap.size) rfl (.tmp 21) (.tmp 21) rfl p.length rfl rfl (by omega) (Nat.le_refl _) (fun w2 hown2 hb2 hz2 => ?_)) | fail)
  have HO2 := Lib.hid hown2
  have HB2 := Lib.hid hb2
  obtain ⟨n, hn⟩ : ∃ n, n = p.length := ⟨_, rfl⟩
  have HN := Lib.hid hn
  clear hown2 hb2 hz2 hn
  go_wp2
  go_loopw [25] (fun iv wr => ∃ (i : Nat) (bs : List Int), i ≤ p.length ∧ iv = .int .i64 i ∧ bs.length = p.length ∧ wr.ownsRow w.heap.size 3 1 (.slice (some ⟨w.heap.size, 0, none⟩) p.length p.length) p.length (ints bs) ∧ Below w.heap.size w wr ∧ w.heap.size < wr.heap.size) (fun iv _ => p.length - (intOf iv).toNat)
  case atStart => exact ⟨0, List.replicate p.length 0, Nat.zero_le _, rfl, by simp, HO2.out, HB2.out, (HO2.out.lt _ rfl).2⟩
  case round =>
    clear HO2 HB2
    obtain ⟨i, bs, hi, rfl, hbl, hown, hW, hlt⟩ := hrel
    by_cases hit : i < p.length
    · have di : decide (i < p.length) = true := decide_eq_true hit
      have hp2 := HP.out.below hW
      obtain ⟨b, o, rfl, hb⟩ := hp2.addr (by omega)
      have hcx := getD_cell hp2 hit
      obtain ⟨x, hx⟩ : ∃ x, x = p.getD i 0 := ⟨_, rfl⟩
      rw [← hx] at hcx
      have hco := own_get hown (getD_someS (l := bs) (j := i) (by omega))
      obtain ⟨y, hy⟩ : ∃ y, y = bs.getD i 0 := ⟨_, rfl⟩
      rw [← hy] at hco
      have hfr := hown.frozenAt i
      have HST : Hid (∀ y : Int, (wr.setCell ⟨w.heap.size, i, none⟩ (.int .i64 y)).ownsRow w.heap.size 3 1 (.slice (some ⟨w.heap.size, 0, none⟩) p.length p.length) p.length (ints (bs.set i y))) := Lib.hid (fun y => own_set hown i y)
      have HSW : Hid (∀ y : Int, Below w.heap.size w (wr.setCell ⟨w.heap.size, i, none⟩ (.int .i64 y))) := Lib.hid (fun y => hW.setCell (p := ⟨w.heap.size, i, none⟩) (Nat.le_refl _) _)
      have HLL := Lib.hid hbl
      have HLT := Lib.hid hlt
      have hi6 : i < 1000 := by omega
      clear hx hy hp2 hown hW hbl hlt
      go_wp2
      go_roundw
      case rel => exact ⟨i + 1, bs.set i _, by omega, by go_num, by rw [List.length_set]; exact HLL.out, HST.out _, HSW.out _, by have := HLT.out; simpa using this⟩
      case measure => simp [intOf]; omega
    · have di : decide (i < p.length) = false := decide_eq_false hit
      obtain ⟨w2, rfl⟩ : ∃ w2, w2 = wr := ⟨_, rfl⟩
      have HO := Lib.hid hown
      have HW := Lib.hid hW
      have HLL := Lib.hid hbl
      have HLT := Lib.hid hlt
      clear hown hW hbl hlt
      go_upto_region 10 with fail
      go_loopw [9, 10] (fun ov iv wr => ∃ (m : Nat) (z : Int) (zs : List Stp), m ≤ p.length ∧ iv = .int .i64 z ∧ z + 1 = (m : Int) ∧ zs.length + m ≤ p.length ∧ StpO wr w2.heap.size ov zs ∧ Below w2.heap.size w2 wr) (fun _ iv _ => (intOf iv + 1).toNat)
      case atStart => exact ⟨p.length, (p.length : Int) - 1, [], Nat.le_refl _, rfl, by omega, by simp, StpO.nil _ _, Below.refl _ _⟩
      case round =>
        obtain ⟨m, z, zs, hm, rfl, hz, hzl, hst, hW3⟩ := hrel
        obtain ⟨w9, rfl⟩ : ∃ w9, w9 = wr := ⟨_, rfl⟩
        have HST := Lib.hid hst
        have HW3 := Lib.hid hW3
        have hsz3 := hW3.size
        by_cases hz0 : 0 ≤ z
        · obtain ⟨j, rfl⟩ : ∃ j : Nat, z = j := ⟨z.toNat, by omega⟩
          have hjm : m = j + 1 := by omega
          subst hjm
          have dj : decide ((0 : Int) ≤ (j : Int)) = true := decide_eq_true hz0
          have hjp : j < p.length := by omega
          have hsl := (Sl.of_own HO.out).below hW3
          have hcj := getD_cell hsl (k := j) (by rw [HLL.out]; exact hjp)
          obtain ⟨y, hy⟩ : ∃ y, y = bs.getD j 0 := ⟨_, rfl⟩
          rw [← hy, Nat.zero_add] at hcj
          have HSL : Hid (Sl w9 w9.heap.size (some ⟨w.heap.size, 0, none⟩) (ints bs)) := Lib.hid (hsl.more hsz3)
          clear hy hst hW3 hsl hz
          go_upto_region 13 with fail
          obtain ⟨T, hT⟩ : ∃ T, T = wrap64 (y - k) := ⟨_, rfl⟩
          rw [← hT]
          clear hT
          by_cases hT0 : T < 0
          · have dT : decide (T < 0) = true := decide_eq_true hT0
            clear hT0
            go_wp2
            go_roundw
            case rel => exact ⟨j, (j : Int) - 1, zs, by omega, by go_num, by omega, by omega, HST.out, HW3.out⟩
            case measure => simp [intOf]
          · have dT : decide (T < 0) = false := decide_eq_false hT0
            have hlc := HLL.out
            have HCON := Lib.hid (cont_any w.heap.size 0 p.length bs T w9 (by omega) HSL.out)
            rw [hlc] at HCON
            clear hT0 hlc
            go_upto_region 14 with (first | (go_at_call 86; refine (HCON.out).mono ?_; first | rintro e w' ⟨bb, rfl⟩ rfl | rintro e w' ⟨⟨bb, rfl⟩, rfl⟩) | fail)
            case roundEnd =>
              go_roundw
              case rel => exact ⟨j, (j : Int) - 1, zs, by omega, by go_num, by omega, by omega, HST.out, HW3.out⟩
              case measure => simp [intOf]
            have hcl := clone_any (some ⟨w.heap.size, 0, none⟩) p.length bs w9 (by rw [HLL.out]; omega) HSL.out
            rw [HLL.out] at hcl
            have HCL := Lib.hid hcl
            clear hcl HCON
            go_upto_region 15 with (first | (go_at_call 46; refine (HCL.out).mono ?_; rintro e w4 ⟨v4, rfl, ho4, hb4⟩; obtain ⟨g, c, rfl, hg1, hg2⟩ := ho4.form (by omega); have HO4 := Lib.hid ho4; have HB4 := Lib.hid hb4; clear ho4 hb4) | fail)
            have hcc := own_cap HO4.out
            clear HCL
            go_wp2
            go_loopw [13, 14] (fun hv jv wz => ∃ (a : Nat) (ht : Int) (l : List Int), j ≤ a ∧ a < p.length ∧ jv = .int .i64 a ∧ hv = .int .i64 ht ∧ l.length = p.length ∧ wz.ownsRow w9.heap.size 3 1 (.slice (some ⟨g, 0, none⟩) p.length c) p.length (ints l) ∧ Below w9.heap.size w9 wz) (fun _ jv _ => p.length - (intOf jv).toNat)
            case atStart => exact ⟨j, 0, bs, Nat.le_refl _, hjp, rfl, rfl, HLL.out, HO4.out, HB4.out⟩
            case round =>
              clear HO4 HB4
              obtain ⟨a, ht, l, hja, hap, rfl, rfl, hll, hown, hWz⟩ := hrel
              obtain ⟨w5, rfl⟩ : ∃ w5, w5 = wr := ⟨_, rfl⟩
              have ha6 : a < 1000 := by omega
              have hca := own_get hown (getD_someS (l := l) (j := a) (by omega))
              obtain ⟨x0, hx0⟩ : ∃ x, x = l.getD a 0 := ⟨_, rfl⟩
              rw [← hx0] at hca
              have hfr := hown.frozenAt a
              have HST5 : Hid (∀ y : Int, (w5.setCell ⟨g, a, none⟩ (.int .i64 y)).ownsRow w9.heap.size 3 1 (.slice (some ⟨g, 0, none⟩) p.length c) p.length (ints (l.set a y))) := Lib.hid (fun y => own_set hown a y)
              have HSW5 : Hid (∀ y : Int, Below w9.heap.size w9 (w5.setCell ⟨g, a, none⟩ (.int .i64 y))) := Lib.hid (fun y => hWz.setCell (p := ⟨g, a, none⟩) hg1 _)
              have HO5 := Lib.hid hown
              have HW5 := Lib.hid hWz
              have HL5 := Lib.hid hll
              clear hx0 hown hWz hll
              go_upto_region 17 with fail
              go_cut [74] (fun bv wz => ∃ bb : Bool, bv = .bool bb ∧ (bb = true → a + 1 < p.length) ∧ w5 = wz)
              case first =>
                by_cases ha1 : a + 1 < p.length
                · have da : decide ((a : Int) + 1 < (p.length : Int)) = true := decide_eq_true (by omega)
                  have hcb := own_get HO5.out (getD_someS (l := l) (j := a + 1) (by rw [HL5.out]; exact ha1))
                  obtain ⟨x1, hx1⟩ : ∃ x, x = l.getD (a + 1) 0 := ⟨_, rfl⟩
                  rw [← hx1] at hcb
                  clear hx1
                  go_wp2
                  go_meet
                  exact ⟨_, rfl, fun _ => ha1, rfl⟩
                · have da : decide ((a : Int) + 1 < (p.length : Int)) = false := decide_eq_false (by omega)
                  go_wp2
                  go_meet
                  exact ⟨_, rfl, (fun h => by cases h), rfl⟩
              case rest =>
                obtain ⟨bb, rfl, hbb, rfl⟩ := hcut
                cases bb
                · clear hbb
                  go_upto_region 22 with fail
                  obtain ⟨w6, hw6⟩ : ∃ w6, w6 = w5.setCell ⟨g, a, none⟩ (.int .i64 T) := ⟨_, rfl⟩
                  obtain ⟨l6, hl6⟩ : ∃ l6, l6 = l.set a T := ⟨_, rfl⟩
                  have ho6 := HST5.out T
                  have hW6 := HSW5.out T
                  rw [← hw6] at ho6 hW6 ⊢
                  rw [← hl6] at ho6
                  have HO6 := Lib.hid ho6
                  have HW6 := Lib.hid hW6
                  have HL6 : Hid (l6.length = p.length) := Lib.hid (by rw [hl6, List.length_set]; exact HL5.out)
                  have hz6 : w9.heap.size ≤ w6.heap.size := hW6.size
                  have hg6 : g < w6.heap.size := (ho6.lt g rfl).2
                  clear hw6 hl6 ho6 hW6 HST5 HSW5 HO5 HW5 HL5
                  go_wp2
                  go_loopw [15, 93] (fun qv rv wz => ∃ (r : Nat) (ys : List Int), r ≤ p.length ∧ rv = .int .i64 r ∧ ys.length ≤ r ∧ wz.ownsRow w6.heap.size 3 1 qv ys.length (ints ys) ∧ Below w6.heap.size w6 wz) (fun _ rv _ => p.length - (intOf rv).toNat)
                  case atStart => exact ⟨0, [], Nat.zero_le _, rfl, Nat.le_refl _, World.ownsRow_nil _ _ _ _, Below.refl _ _⟩
                  case round =>
                    obtain ⟨r, ys, hr, rfl, hyr, hoq, hWq⟩ := hrel
                    obtain ⟨w7, rfl⟩ : ∃ w7, w7 = wr := ⟨_, rfl⟩
                    have HOQ := Lib.hid hoq
                    have HWQ := Lib.hid hWq
                    have hz7 := hWq.size
                    clear hoq hWq
                    by_cases hrt : r < p.length
                    · have dr : decide (r < p.length) = true := decide_eq_true hrt
                      have hcr := (HWQ.out.cell (p := ⟨g, r, none⟩) hg6).trans (own_get HO6.out (getD_someS (l := l6) (j := r) (by rw [HL6.out]; exact hrt)))
                      obtain ⟨b6, hb6⟩ : ∃ x, x = l6.getD r 0 := ⟨_, rfl⟩
                      rw [← hb6] at hcr
                      have hr6 : r < 1000 := by omega
                      clear hb6
                      go_upto_region 26 with fail
                      go_cut [18] (fun bv wz => ∃ x : Int, bv = .int .i64 x ∧ w7 = wz)
                      case first =>
                        go_wp2
                        go_meet
                        exact ⟨_, rfl, rfl⟩
                      case rest =>
                        obtain ⟨x, rfl, rfl⟩ := hcut
                        by_cases hx : 0 < x
                        · have dx : decide (0 < x) = true := decide_eq_true hx
                          clear hx hcr
                          go_wp2_with (first | (at_builtin; refine wpList_app1h rfl (.tmp 106) (.tmp 108) rfl rfl (x : Int) HOQ.out w7.heap.size rfl rfl (by omega) hz7 (fun g8 c8 w8 hl8 hb8 => ?_)) | fail)
                          go_roundw
                          case rel => exact ⟨r + 1, ys ++ [x], by omega, by go_num, by rw [List.length_append]; simp; omega, by rw [List.length_append]; exact hl8, HWQ.out.trans hb8⟩
                          case measure => simp [intOf]; omega
                        · have dx : decide (0 < x) = false := decide_eq_false hx
                          clear hx hcr
                          go_wp2
                          go_roundw
                          case rel => exact ⟨r + 1, ys, by omega, by go_num, by omega, HOQ.out, HWQ.out⟩
                          case measure => simp [intOf]; omega
                    · have dr : decide (r < p.length) = false := decide_eq_false hrt
                      obtain ⟨Aq, cq, rfl, -, hoq⟩ := own_sliceT HOQ.out
                      have HOQ2 := Lib.hid hoq
                      have hst7 := HST.out.below (HW6.out.trans (HWQ.out.mono hz6))
                      have HST7 := Lib.hid hst7
                      have hs7 := hst7.1
                      have HS7 := Lib.hid hs7
                      clear hoq hst7 hs7 HOQ
                      go_wp2_with (first | (at_builtin; refine wpList_appS (v := u9) rfl (.tmp 111) (.tmp 115) rfl rfl (.slice Aq ys.length cq) rfl ys ht HS7.out w7.heap.size rfl rfl (by omega) (by omega) (fun g8 c8 w8 hl8 hg8 hat8 => ?_)) | fail)
                      have HPU := Lib.hid (HST7.out.push (L := w6.heap.size) (fun k hk => by have := (HST.out.1.lt k hk).2; omega) (by omega) HOQ2.out rfl hl8 hg8 hat8)
                      have HW8 := Lib.hid ((((HW3.out.trans (HW6.out.mono hsz3)).trans (HWQ.out.mono (by omega))).alloc (by omega) (.cells #[.slice Aq ys.length cq, .int .i64 ht] 81)).grown hg8 (by simp; omega) (fun k hk => (HS7.out.lt k hk).1))
                      clear hl8 hg8 hat8
                      go_wp2
                      go_roundw
                      case rel => exact ⟨j, (j : Int) - 1, _, by omega, by go_num, by omega, by rw [List.length_append]; simp; omega, HPU.out, HW8.out⟩
                      case measure => simp [intOf]
                · have ha1 := hbb rfl
                  have hcb := own_get HO5.out (getD_someS (l := l) (j := a + 1) (by rw [HL5.out]; exact ha1))
                  obtain ⟨x1, hx1⟩ : ∃ x, x = l.getD (a + 1) 0 := ⟨_, rfl⟩
                  rw [← hx1] at hcb
                  clear hx1 hbb
                  go_wp2
                  go_roundw
                  case rel => exact ⟨a + 1, _, l.set a x1, by omega, by omega, by go_num, rfl, by rw [List.length_set]; exact HL5.out, HST5.out _, HSW5.out _⟩
                  case measure => simp [intOf]; omega
        · have dj : decide ((0 : Int) ≤ z) = false := decide_eq_false hz0
          have HS := Lib.hid (HSORT.out w2.heap.size u9 zs w9 hsz3 (by omega) hst)
          have HWF := Lib.hid (HW.out.trans (hW3.mono (by have := HLT.out; omega)))
          have hz9 : w.heap.size ≤ w2.heap.size := by have := HLT.out; omega
          clear hst hW3 hz
          go_wp2_with (first | (go_at_call 87; refine (HS.out).mono ?_) | fail)
          rintro e w5 ⟨⟨rfl, A5, c5, rfl, hsp⟩, hb5⟩
          have HSP := Lib.hid hsp
          have HB5 := Lib.hid hb5
          clear hsp hb5 HS
          go_wp2
          go_ret
          exact ⟨⟨A5, zs.length, c5, rfl, by omega, HSP.out⟩, HWF.out.trans (HB5.out.mono hz9)⟩
end Go.Proofs.YtpmkdihencepnaaGreat
