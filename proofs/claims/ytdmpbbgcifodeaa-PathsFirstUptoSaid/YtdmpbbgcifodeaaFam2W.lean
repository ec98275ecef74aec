/-
  slices.Clone of strings; (*family).next; both, whatever the fuel.
-/
import Derived.Test.YtdmpbbgcifodeaaFam1W
import Derived.Laws.StructEq
namespace Go.Proofs.Ytdmpbbgcifodeaa
open Go.RowKit Go.Proofs

theorem strs_one (m : List (List UInt8)) : ∀ x ∈ strs m, x.oneCell' = true := by
  intro x hx
  obtain ⟨l, _, rfl⟩ := List.mem_map.1 hx
  rfl
theorem ssl_of_own {w : World} {base : Nat} {v : Value} {m : List (List UInt8)} {n : Nat} (h : w.ownsRow base 9 1 v n (strs m)) : ∃ A c, v = .slice A m.length c ∧ n = m.length ∧ Sl w w.heap.size A (strs m) ∧ (A = none → m = []) := by
  have hl := h.1
  rw [strs_length] at hl
  obtain rfl : n = m.length := by omega
  rcases h.2 with ⟨rfl, h0⟩ | ⟨g, cap, cur, rfl, _, hh, hn, hm, _⟩
  · refine ⟨none, 0, by rw [h0], rfl, fun hp => ?_, fun _ => List.eq_nil_of_length_eq_zero h0⟩
    rw [strs_length, h0] at hp
    simp at hp
  · refine ⟨some ⟨g, 0, none⟩, cap, rfl, rfl, fun _ => ⟨g, 0, rfl, (Array.getElem?_eq_some_iff.1 hh).1, fun k u hk => ?_⟩, fun e => by cases e⟩
    have := h.cells (g := g) rfl k u hk
    rwa [Addr.add_lit] at this
/-- 'append(v, xs...)' of strings. -/
theorem wpList_appSs {w : World} {base B : Nat} {v : Value} {l m : List (List UInt8)} {A : Option Addr} {ops : Array Oper} {rest : List Oper} {o : Oper} {a : Act} {Q : Exit → Act → World → Prop} (hgd : o.guard = none) (s x : Operand)
    (ho : o.op = .call { callee := .builtin .append, args := #[s, x], argTypes := #[44, 44] }) (hs : a.eval s = v) (n : Nat)
    (hown : w.ownsRow base 9 1 v n (strs l)) (c : Nat) (hx : a.eval x = .slice A m.length c) (hr : Sl w B A (strs m)) (hlen : n + m.length ≤ 2000000) (hbase : base ≤ w.heap.size) (hA : A ≠ none)
    (h : ∀ v' w', w'.ownsRow base 9 1 v' (n + m.length) (strs (l ++ m)) → w.grownBy w' v.ownBlock → Below base w w' → wpList Try.prog ops Q rest (a.put o.dst v') w') :
    wpList Try.prog ops Q (o :: rest) a w := by
  obtain ⟨i0, hi, hz0, hz1, hz2⟩ := info_parts Try.infoStr
  have key : ∃ v' w', (Builtin.append_ #[44, 44] o.type #[v, .slice A m.length c]).run Try.prog w = .ok v' w' ∧ w'.ownsRow base 9 1 v' (n + m.length) (strs (l ++ m)) ∧ w.grownBy w' v.ownBlock := by
    have hap : strs (l ++ m) = strs l ++ strs m := by simp [strs]
    obtain ⟨ad, rfl⟩ : ∃ ad, A = some ad := by
      cases A with
      | none => exact absurd rfl hA
      | some ad => exact ⟨ad, rfl⟩
    have hcl : ∀ j u, (strs m)[j]? = some u → w.cell? (ad.add j) = some u := fun j u hu => by
      have hlt := (List.getElem?_eq_some_iff.1 hu).1
      obtain ⟨b, o', e1, _, hc⟩ := hr (by omega)
      have e2 : ad = ⟨b, o', none⟩ := Option.some.inj e1
      rw [e2, Addr.add_lit]; exact hc j u hu
    obtain ⟨v', w', h2, h3, h4, _⟩ := run_append_own (P := Try.prog) w base 44 o.type 9 i0 (.string ⟨#[]⟩) 1 16 Try.underlying44 hi hz0 hz1 hz2 rfl (by decide) v n (strs l) hown ad m.length c (strs m) (by rw [strs_length]; omega) hcl (strs_one m) (by unfold maxLen; omega) (by omega) hbase
    exact ⟨v', w', h2, by rw [hap]; exact h3, h4⟩
  obtain ⟨v', w', hrun, h2, h3⟩ := key
  refine wpList_plain hgd fun K hK => ?_
  unfold Oper.wp execOp
  simp only [ho, resolve, invoke, builtin, Sem.run_bind, Sem.run_pure, Result.andThen_ok, List.map_toArray, List.map_cons, List.map_nil, hs, hx, hrun]
  exact hK _ _ (h v' w' h2 h3 ((Below.refl _ _).grown h3 hbase (fun k hk => (hown.lt k hk).1)))
set_option maxHeartbeats 400000 in
theorem sclone_any {B : Nat} {v : Value} {n : Nat} (m : List (List UInt8)) (w : World) (hl : m.length ≤ 1000000) (h : w.ownsRow B 9 1 v n (strs m)) :
    Calls Try.prog 106 #[v] w fun e w' => ∃ z, e = .returned z ∧ w'.ownsRow w.heap.size 9 1 z n (strs m) ∧ Below w.heap.size w w' := by
  obtain ⟨A, cap, rfl, rfl, hs, hA⟩ := ssl_of_own h
  clear h
  rcases A with _ | ad
  · obtain rfl := hA rfl
    have he := fun w => Lib.run_eql_slice_nil (P := Try.prog) w 44 9 none 0 cap 0 0 Try.underlying44
    go_enter Try.func106, Try.ntmps106
    go_wp2
    go_ret
    exact ⟨_, rfl, World.ownsRow_nil _ _ _ _, Below.refl _ _⟩
  · have he := fun w => Lib.run_eql_slice_nil (P := Try.prog) w 44 9 (some ad) m.length cap 0 0 Try.underlying44
    go_enter Try.func106, Try.ntmps106
    go_wp2_with (at_builtin; refine wpList_appSs (l := []) rfl (.tmp 5) (.tmp 6) rfl rfl 0 (World.ownsRow_lit w #[] 0 (Nat.le_refl _) (by decide) rfl) cap rfl (hs.below ((Below.refl _ _).alloc (Nat.le_refl _) _)) (by omega) (by simp) (by simp) (fun v3 w3 hv3 _ hb3 => ?_))
    go_ret
    exact ⟨_, rfl, by simpa using hv3, ((Below.refl _ _).alloc (Nat.le_refl _) _).trans hb3⟩

set_option maxRecDepth 100000 in
set_option maxHeartbeats 2000000 in
theorem next_step {K : FK} {B f : Nat} (hK : KOk K) (hE : EachOk K B f) : NextOk K B (f + 1) := by
  intro k s v u w hF hN hfl hk hks hmu
  have hk4 : k ≤ 4 := by have := hK.l4; omega
  have p3 : w.cell? ⟨K.b, 3, none⟩ = some (.slice K.sa K.ss.length K.sc) := hF.cell (k := 3) rfl
  by_cases hlt : k < K.ss.length
  · have dk : decide (k < K.ss.length) = true := decide_eq_true hlt
    have hst := hF.starts
    obtain ⟨sb, so, he1, he2⟩ := psl_addr hst (by omega)
    rw [he1] at p3 hst
    obtain ⟨q7, q8⟩ := psl_at hst hlt
    have hin : InG K.W K.H (K.ss.getD k (0, 0)) := by rw [getD_get hlt]; exact hK.ss _ (List.getElem_mem hlt)
    have hine : InG K.W K.H (K.es.getD k (0, 0)) := by
      have hke : k < K.es.length := by have := hK.le; omega
      rw [getD_get hke]; exact hK.es _ (List.getElem_mem hke)
    have hrun : run K.env (f + 1) (.next k) s = run K.env f (.each k (K.ss.getD k (0, 0)) []) s := by
      conv => lhs; unfold run
      exact if_pos hlt
    rw [hrun]
    obtain ⟨p, hp⟩ : ∃ p, p = K.ss.getD k (0, 0) := ⟨_, rfl⟩
    rw [← hp] at q7 q8 hin ⊢
    obtain ⟨x, y⟩ := p
    have q7' : w.cell? ⟨sb, so + k * 2, none⟩ = some (.int .i64 x) := q7
    have q8' : w.cell? ⟨sb, so + k * 2 + 1, none⟩ = some (.int .i64 y) := q8
    have hW := hK.W8
    have hH := hK.H8
    have hb1 : ((K.es.getD k (0, 0)).1 - x).toNat ≤ 8 ∧ ((K.es.getD k (0, 0)).2 - y).toNat ≤ 8 := by
      obtain ⟨h1, h2, h3, h4⟩ := hin
      obtain ⟨g1, g2, g3, g4⟩ := hine
      simp only at h1 h2
      exact ⟨by omega, by omega⟩
    have hcall : Calls Try.prog 105 #[.pointer (some ⟨K.b, 0, none⟩), .int .i64 k, .agg #[.int .i64 x, .int .i64 y], .string { data := #[] }] w fun e w' => Post K B v w (run K.env f (.each k (x, y) []) s) e w' := by
      refine hE k x y [] s v u w hF ⟨hN.1, by have := hN.2; show s.n ≤ s.steps + 1; omega⟩ hfl hk hlt hin (by show 0 + _ + _ ≤ 30; omega) ?_
      unfold mu FK.env at hmu ⊢
      simp only at hmu ⊢
      omega
    have HCALL := Lib.hid hcall
    clear hcall q7 q8 hp hin hine hb1 hst he1 he2 hF hN hK hE hmu hrun
    go_enter Try.func69, Try.ntmps69
    go_wp2_with (first | (go_at_call 105; refine (HCALL.out).mono ?_; rintro e w8 ⟨rfl, vv, uu, hF9, hB9⟩) | fail)
    go_ret
    exact ⟨rfl, vv, uu, hF9, hB9⟩
  · have dk : decide (k < K.ss.length) = false := decide_eq_false hlt
    have p10 : w.cell? ⟨K.b, 10, none⟩ = some (.int .i64 s.n) := hF.cell (k := 10) rfl
    have hn := hN
    have hnb : s.n ≤ 1000000 := by have := hN.1; have := hN.2; omega
    have HF := Lib.hid hF
    have HN := Lib.hid hN
    have HK := Lib.hid hK
    have hrun : run K.env (f + 1) (.next k) s = (decide (K.most = 0 ∨ s.n + 1 < K.most), { s with first := if s.n = 0 then s.now else s.first, n := s.n + 1 }) := by
      conv => lhs; unfold run
      exact if_neg hlt
    rw [hrun]
    obtain ⟨R, hR⟩ : ∃ R, R = (decide (K.most = 0 ∨ s.n + 1 < K.most), ({ s with first := if s.n = 0 then s.now else s.first, n := s.n + 1 } : St)) := ⟨_, rfl⟩
    rw [← hR]
    have HR := Lib.hid hR
    clear hF hN hK hE hmu hrun hn hR
    go_enter Try.func69, Try.ntmps69
    go_upto_region 3 with fail
    go_upto_if 26 with fail
    go_cut [] (fun wz => ∃ u', FamR wz B K v u' { s with first := if s.n = 0 then s.now else s.first } ∧ Fr B K v v w wz)
    case first =>
      by_cases hn0 : s.n = 0
      · have hcl := sclone_any s.now w (by have := HK.out.l4; omega) HF.out.now
        have HCL := Lib.hid hcl
        have p7 : w.cell? ⟨K.b, 7, none⟩ = some v := HF.out.cell (k := 7) rfl
        clear hcl
        go_wp2_with (first | (go_at_call 106; refine (HCL.out).mono ?_; rintro e w8 ⟨z, rfl, ho8, hb8⟩; obtain ⟨A8, c8, rfl, _, _, _⟩ := ssl_of_own ho8; have hF8 := HF.out.below hb8; have p8 : w8.cell? ⟨K.b, 8, none⟩ = some u := hF8.cell (k := 8) rfl; have f8 := hF8.fz 8; have HO8 := Lib.hid ho8; have HB8 := Lib.hid hb8; clear hF8 ho8 hb8) | fail)
        go_meet
        refine ⟨.slice A8 k c8, ?_, (Fr.of v (by have := HF.out.blt; omega) HB8.out).trans (Fr.set v v HF.out.blt.1 rfl)⟩
        rw [if_pos hn0]
        have h9 := HF.out.keep1 HB8.out HO8.out
        rw [hk] at h9
        exact h9
      · go_wp2
        go_meet
        exact ⟨u, by rw [if_neg hn0]; exact HF.out, Fr.of v (by have := HF.out.blt; omega) (Below.refl _ _)⟩
    case rest =>
    obtain ⟨u', hF3, hB3⟩ := hcut
    have p10 : wc.cell? ⟨K.b, 10, none⟩ = some (.int .i64 s.n) := hF3.cell (k := 10) rfl
    have f10 := hF3.fz 10
    have hF5 := hF3.put (k := 10) (y := .int .i64 ((s.n : Int) + 1)) (s' := { s with first := if s.n = 0 then s.now else s.first, n := s.n + 1 }) rfl rfl rfl rfl
    have hB5 := hB3.trans (Fr.set (k := 10) (y := .int .i64 ((s.n : Int) + 1)) v v hF3.blt.1 rfl)
    have HF5 := Lib.hid hF5
    have HB5 := Lib.hid hB5
    clear hF3 hB3 hF5 hB5 HF
    go_upto_region 6 with fail
    obtain ⟨w5, hw5⟩ : ∃ w5, w5 = wc.setCell ⟨K.b, 10, none⟩ (.int .i64 ((s.n : Int) + 1)) := ⟨_, rfl⟩
    rw [← hw5] at HF5 HB5
    rw [← hw5]
    clear hw5 p10 f10 p3
    have p10 : w5.cell? ⟨K.b, 10, none⟩ = some (.int .i64 ((s.n : Int) + 1)) := HF5.out.cell (k := 10) rfl
    have p9 : w5.cell? ⟨K.b, 9, none⟩ = some (.int .i64 K.most) := HF5.out.cell (k := 9) rfl
    go_cut [4] (fun bv wz => bv = .bool (decide (K.most = 0 ∨ s.n + 1 < K.most)) ∧ ∃ d, wz = w5.drewN d)
    case first =>
      by_cases hm : K.most = 0
      · rw [hm] at p9
        have HD : Hid (decide (K.most = 0 ∨ s.n + 1 < K.most) = true) := Lib.hid (decide_eq_true (.inl hm))
        clear hm
        go_wp2
        go_quiet (fail)
        go_wp2
        go_meet
        exact ⟨by rw [HD.out], _, rfl⟩
      · have dm : ((K.most : Int) == 0) = false := by simpa using hm
        by_cases hl : s.n + 1 < K.most
        · have HD : Hid (decide (K.most = 0 ∨ s.n + 1 < K.most) = true) := Lib.hid (decide_eq_true (.inr hl))
          have dl : decide ((s.n : Int) + 1 < (K.most : Int)) = true := decide_eq_true (by omega)
          go_wp2
          go_quiet (fail)
          go_wp2
          go_meet
          exact ⟨by rw [HD.out], _, rfl⟩
        · have HD : Hid (decide (K.most = 0 ∨ s.n + 1 < K.most) = false) := Lib.hid (decide_eq_false fun h => h.elim hm hl)
          have dl : decide ((s.n : Int) + 1 < (K.most : Int)) = false := decide_eq_false (by omega)
          go_wp2
          go_quiet (fail)
          go_wp2
          go_meet
          exact ⟨by rw [HD.out], _, rfl⟩
    case rest =>
    obtain ⟨rfl, d, rfl⟩ := hcut
    go_wp2
    go_ret
    exact ⟨by rw [HR.out]; rfl, v, u', by rw [HR.out]; exact HF5.out.drewN d, HB5.out.trans (Fr.of v (by have := HF5.out.blt; omega) (below_drewN (Below.refl _ _) d))⟩
theorem both_any {K : FK} {B : Nat} (hK : KOk K) : ∀ f, EachOk K B f ∧ NextOk K B f
  | 0 => ⟨fun k x y path s v u w _ _ _ _ _ _ _ hmu => by unfold mu at hmu; simp only at hmu; omega, fun k s v u w _ _ _ _ _ hmu => by unfold mu at hmu; simp only at hmu; omega⟩
  | f + 1 => ⟨each_step hK (both_any hK f).2 (both_any hK f).1, next_step hK (both_any hK f).1⟩
end Go.Proofs.Ytdmpbbgcifodeaa
