/- Part of the proof. -/
import Derived.Lib.AtoiAll
import Derived.Lib.IndexMore
import Derived.Lib.Join
import Derived.Lib.Strings
import Derived.Shelf.Lay
import Derived.Shelf.LaysM
import Derived.Shelf.LaysC
import Derived.Ground.NamesProg
import Derived.Shelf.Strconv.Itoa3
import Derived.Shelf.Strconv.ErrVarAll
import Derived.Shelf.Strings.Cut
import Derived.Shelf.Strings.Search3
import Derived.Shelf.Strings.Split
import Derived.Shelf.Small.Wraps
import Derived.Shelf.Strings.Prefix
import Derived.Shelf.Strings.SlTrimAscii
import Derived.Shelf.Strings.OnBuilder
import Derived.Lib.AppendIntMem
import Derived.Lib.SmallJoins
import Derived.Test.YtpmkdihencepnaaGreatDoorCards
import Derived.Test.YtpmkdihencepnaaGreatDoorTie
import Derived.WalkKit
import Derived.ProofKit
import Derived.ChangeOld
import Derived.Deep.DeepHandedRow
import Derived.Lib.LaidTab
import Derived.Stop.LaidErr
import Derived.SliceStrings
import Derived.OpenShut
import Derived.Test.YtpmkdihencepnaaGreatDoorMk40
set_option maxHeartbeats 16000000
set_option maxRecDepth 100000
namespace Go.Proofs.YtpmkdihencepnaaGreatDoor
section
open Go.RowKit
abbrev Str := List UInt8
def spl (c : UInt8) : Str → List Str
 | [] => [[]]
 | x :: r => if x = c then [] :: spl c r else match spl c r with
  | [] => [[x]]
  | p :: ps => (x :: p) :: ps
theorem spl_ne (c : UInt8) : ∀ s, spl c s ≠ []
 | [] => by simp [spl]
 | x :: r => by
  unfold spl
  split
  · simp
  · split <;> simp
theorem spl_mem (c : UInt8) : ∀ (s : Str) (x : UInt8), x ∈ s → x = c ∨ ∃ p ∈ spl c s, x ∈ p
 | y :: r, x, h => by
  have hn := spl_ne c r
  unfold spl
  by_cases e : y = c
  · rw [if_pos e]
    rcases List.mem_cons.1 h with rfl | h
    · exact .inl e
    · rcases spl_mem c r x h with h | ⟨p, h1, h2⟩
      · exact .inl h
      · exact .inr ⟨p, List.mem_cons_of_mem _ h1, h2⟩
  · rw [if_neg e]
    cases hs : spl c r with
    | nil => exact absurd hs hn
    | cons p ps =>
     rcases List.mem_cons.1 h with rfl | h
     · exact .inr ⟨x :: p, by simp, by simp⟩
     · rcases spl_mem c r x h with h | ⟨q, h1, h2⟩
       · exact .inl h
       · rw [hs] at h1
         rcases List.mem_cons.1 h1 with rfl | h1
         · exact .inr ⟨y :: q, by simp, by simp [h2]⟩
         · exact .inr ⟨q, List.mem_cons_of_mem _ h1, h2⟩
theorem spl_none (c : UInt8) : ∀ s, Lib.indexByte s c = -1 → spl c s = [s]
 | [], _ => rfl
 | x :: r, h => by
  unfold Lib.indexByte at h
  by_cases e : x = c
  · subst e; simp at h
  · have e2 : (x == c) = false := by simpa using e
    rw [e2] at h
    by_cases h2 : Lib.indexByte r c = -1
    · rw [spl, if_neg e, spl_none c r h2]
    · have := Lib.indexByte_ge r c
      have h3 : (Lib.indexByte r c == -1) = false := by simpa using h2
      rw [h3] at h
      simp at h
      omega
theorem spl_some (c : UInt8) : ∀ (s : Str) (i : Nat), Lib.indexByte s c = (i : Int) → i < s.length ∧ spl c s = s.take i :: spl c (s.drop (i + 1))
 | [], i, h => by unfold Lib.indexByte at h; omega
 | x :: r, i, h => by
  unfold Lib.indexByte at h
  by_cases e : x = c
  · subst e
    simp at h
    obtain rfl : i = 0 := by omega
    refine ⟨by simp, ?_⟩
    rw [spl, if_pos rfl]; simp
  · have e2 : (x == c) = false := by simpa using e
    rw [e2] at h
    by_cases h2 : Lib.indexByte r c = -1
    · rw [h2] at h; simp at h
    · have hg := Lib.indexByte_ge r c
      have h3 : (Lib.indexByte r c == -1) = false := by simpa using h2
      rw [h3] at h
      simp at h
      obtain ⟨j, rfl⟩ : ∃ j, i = j + 1 := ⟨i - 1, by omega⟩
      obtain ⟨h4, h5⟩ := spl_some c r j (by omega)
      refine ⟨by simp; omega, ?_⟩
      rw [spl, if_neg e, h5]
      simp
def numF (s : Str) : Option Int := match Lib.atoiAll s with
 | .ok n => if (-9999 ≤ n ∧ n ≤ 9999) ∧ Lib.itoa n = s then some n else none
 | _ => none
def rowF (s : Str) : Option (List Int) := if (spl 32 s).length ≤ 40 then (spl 32 s).mapM numF else none
def thgF (s : Str) : Option Rws := if s = [] then some [] else if (spl 47 s).length ≤ 40 then (spl 47 s).mapM rowF else none
def namF (s : Str) : Bool := decide (0 < s.length ∧ s.length ≤ 10 ∧ ∀ x ∈ s, 97 ≤ x ∧ x ≤ 122)
def texF (T : Rws) : Str := Lib.join (T.map (fun r => Lib.join (r.map Lib.itoa) [32])) [47]
abbrev Thg := Str → Option Rws
open Classical in
noncomputable def worF (th : Thg) (s : Str) : Rws × Int :=
 match thgF s with
 | some t => (t, 0)
 | none =>
  match prOf ⟨((spl 32 s).headD []).toArray⟩, wayOf ⟨((spl 32 s).headD []).toArray⟩ with
  | none, none => ([], 4)
  | some F, _ => if (spl 32 s).length ≠ 3 ∨ ¬ ∀ w ∈ (spl 32 s).tail, namF w = true then ([], 4) else
   match th ((spl 32 s).getD 1 []), th ((spl 32 s).getD 2 []) with
   | some T, some U => F T U
   | _, _ => ([], 6)
  | none, some F => if (spl 32 s).length ≠ 2 ∨ ¬ ∀ w ∈ (spl 32 s).tail, namF w = true then ([], 4) else
   match th ((spl 32 s).getD 1 []) with
   | some T => F T
   | _ => ([], 6)
structure St where
 th : Thg
 log : List Str
 done : List Thg
def St.new : St := ⟨fun _ => none, [], []⟩
def keepF (S : St) (line : Str) (next : Thg) : Int × St := if S.log.length = 200 then (2, S) else (0, ⟨next, S.log ++ [line], S.done ++ [S.th]⟩)
open Classical in
noncomputable def cntT (th : Thg) : Nat := if h : ∃ l : List Str, l.Nodup ∧ ∀ k, k ∈ l ↔ th k ≠ none then h.choose.length else 0
open Classical in
noncomputable def keysT (th : Thg) : List Str := if h : ∃ l : List Str, l.Nodup ∧ ∀ k, k ∈ l ↔ th k ≠ none then h.choose.mergeSort (fun x y => decide (x ≤ y)) else []
def updT (th : Thg) (k : Str) (v : Option Rws) : Thg := fun x => if x = k then v else th x
def sDrop : Str := [100, 114, 111, 112, 32]
def sShow : Str := [115, 104, 111, 119, 32]
def sEq : Str := [32, 61, 32]
def sNames : Str := [110, 97, 109, 101, 115]
def sUndo : Str := [117, 110, 100, 111]
noncomputable def chgF (S : St) (line : Str) : (Str × Int) × St :=
 if Lib.hasPrefix line sDrop = true ∧ namF (Lib.trimPrefix line sDrop) = true then
  match S.th (Lib.trimPrefix line sDrop) with
  | none => (([], 6), S)
  | some _ => (([], (keepF S line (updT S.th (Lib.trimPrefix line sDrop) none)).1), (keepF S line (updT S.th (Lib.trimPrefix line sDrop) none)).2)
 else if (Lib.cut line sEq).2.2 = false ∨ namF (Lib.cut line sEq).1 = false then (([], 4), S)
 else if (worF S.th (Lib.cut line sEq).2.1).2 ≠ 0 then (([], (worF S.th (Lib.cut line sEq).2.1).2), S)
 else if S.th (Lib.cut line sEq).1 = none ∧ cntT S.th = 50 then (([], 2), S)
 else if (keepF S line (updT S.th (Lib.cut line sEq).1 (some (worF S.th (Lib.cut line sEq).2.1).1))).1 ≠ 0 then (([], (keepF S line (updT S.th (Lib.cut line sEq).1 (some (worF S.th (Lib.cut line sEq).2.1).1))).1), S)
 else ((texF (worF S.th (Lib.cut line sEq).2.1).1, 0), (keepF S line (updT S.th (Lib.cut line sEq).1 (some (worF S.th (Lib.cut line sEq).2.1).1))).2)
def undoF (S : St) : St := ⟨S.done.getLastD (fun _ => none), S.log.dropLast, S.done.dropLast⟩
noncomputable def doF (S : St) (line : Str) : (Str × Int) × St :=
 if 400 < line.length then (([], 2), S)
 else if line = sNames then ((Lib.join (keysT S.th) [32], 0), S)
 else if line = sUndo then if S.log = [] then (([], 5), S) else (([], 0), undoF S)
 else if Lib.hasPrefix line sShow = true ∧ namF (Lib.trimPrefix line sShow) = true then
  match S.th (Lib.trimPrefix line sShow) with
  | none => (([], 6), S)
  | some t => ((texF t, 0), S)
 else chgF S line
structure Chg (S : St) (line : Str) (S' : St) : Prop where
 code : (doF S line).1.2 = 0
 st : (doF S line).2 = S'
 plain : line ≠ sNames ∧ line ≠ sUndo ∧ ¬ (Lib.hasPrefix line sShow = true ∧ namF (Lib.trimPrefix line sShow) = true) ∧ line.length ≤ 400
 th : ∃ th, S' = ⟨th, S.log ++ [line], S.done ++ [S.th]⟩ ∧ S.log.length < 200
theorem keep_cases (S : St) (line : Str) (next : Thg) : ((keepF S line next).1 = 2 ∧ (keepF S line next).2 = S) ∨ ((keepF S line next).1 = 0 ∧ S.log.length ≠ 200 ∧ (keepF S line next).2 = ⟨next, S.log ++ [line], S.done ++ [S.th]⟩) := by
 unfold keepF
 by_cases h : S.log.length = 200
 · rw [if_pos h]; exact .inl ⟨rfl, rfl⟩
 · rw [if_neg h]; exact .inr ⟨rfl, h, rfl⟩
theorem chg_cases (S : St) (line : Str) : ((chgF S line).1.2 ≠ 0 ∧ (chgF S line).2 = S) ∨ ((chgF S line).1.2 = 0 ∧ S.log.length ≠ 200 ∧ ∃ th, (chgF S line).2 = ⟨th, S.log ++ [line], S.done ++ [S.th]⟩) := by
 unfold chgF
 split
 · split
   · exact .inl ⟨by simp, rfl⟩
   · rcases keep_cases S line (updT S.th (Lib.trimPrefix line sDrop) none) with ⟨h1, h2⟩ | ⟨h1, h2, h3⟩
     · exact .inl ⟨by simp [h1], h2⟩
     · exact .inr ⟨h1, h2, _, h3⟩
 · split
   · exact .inl ⟨by simp, rfl⟩
   · split
     · rename_i h; exact .inl ⟨h, rfl⟩
     · split
       · exact .inl ⟨by simp, rfl⟩
       · split
         · rename_i h; exact .inl ⟨h, rfl⟩
         · rename_i h
           rcases keep_cases S line (updT S.th (Lib.cut line sEq).1 (some (worF S.th (Lib.cut line sEq).2.1).1)) with ⟨h1, h2⟩ | ⟨h1, h2, h3⟩
           · rw [h1] at h; exact absurd (by decide) h
           · exact .inr ⟨rfl, h2, _, h3⟩
theorem do_cases (S : St) (line : Str) (hl : S.log.length ≤ 200) : (doF S line).2 = S ∨ (line = sUndo ∧ S.log ≠ [] ∧ doF S line = (([], 0), undoF S)) ∨ ∃ S', Chg S line S' := by
 by_cases h1 : 400 < line.length
 · exact .inl (by unfold doF; rw [if_pos h1])
 · by_cases h2 : line = sNames
   · exact .inl (by unfold doF; rw [if_neg h1, if_pos h2])
   · by_cases h3 : line = sUndo
     · by_cases h4 : S.log = []
       · exact .inl (by unfold doF; rw [if_neg h1, if_neg h2, if_pos h3, if_pos h4])
       · exact .inr (.inl ⟨h3, h4, by unfold doF; rw [if_neg h1, if_neg h2, if_pos h3, if_neg h4]⟩)
     · by_cases h5 : Lib.hasPrefix line sShow = true ∧ namF (Lib.trimPrefix line sShow) = true
       · refine .inl ?_
         unfold doF
         rw [if_neg h1, if_neg h2, if_neg h3, if_pos h5]
         cases S.th (Lib.trimPrefix line sShow) <;> rfl
       · have e : doF S line = chgF S line := by unfold doF; rw [if_neg h1, if_neg h2, if_neg h3, if_neg h5]
         rcases chg_cases S line with ⟨c1, c2⟩ | ⟨c1, c2, th, c3⟩
         · exact .inl (by rw [e]; exact c2)
         · exact .inr (.inr ⟨_, by rw [e]; exact c1, rfl, ⟨h2, h3, h5, by omega⟩, th, by rw [e]; exact c3, by omega⟩)
inductive RepD : St → Prop
 | new : RepD St.new
 | step {S S' : St} {line : Str} : RepD S → Chg S line S' → RepD S'
theorem RepD.len {S : St} (h : RepD S) : S.log.length ≤ 200 ∧ S.done.length = S.log.length := by
 induction h with
 | new => simp [St.new]
 | step _ hc ih =>
  obtain ⟨th, rfl, h2⟩ := hc.th
  simp; omega
theorem Chg.undo {S S' : St} {line : Str} (h : Chg S line S') : undoF S' = S := by
 obtain ⟨th, rfl, _⟩ := h.th
 unfold undoF
 simp
theorem RepD.next {S : St} (h : RepD S) (line : Str) : RepD (doF S line).2 := by
 rcases do_cases S line h.len.1 with e | ⟨_, h4, e⟩ | ⟨S', hc⟩
 · rw [e]; exact h
 · rw [e]
   cases h with
   | new => exact absurd rfl h4
   | step hr hc => rw [hc.undo]; exact hr
 · rw [hc.st]; exact .step h hc
end
end Go.Proofs.YtpmkdihencepnaaGreatDoor
namespace Go.Proofs
open Go.Shelf
shelf_lay LaysM.n171 Nm 171 at Tryz as Tryz.laysM171
shelf_lay LaysC.n172 Nm 172 at Tryz as Tryz.laysC172
shelf_lay Lays.n145 Nm 145 at Tryz as Tryz.lays145
shelf_lay Lays.n146 Nm 146 at Tryz as Tryz.lays146
shelf_lay Lays.n143 Nm 143 at Tryz as Tryz.lays143
shelf_lay Lays.n103 Nm 103 at Tryz as Tryz.lays103
shelf_lay Lays.n101 Nm 101 at Tryz as Tryz.lays101
shelf_lay Lays.n160 Nm 160 at Tryz as Tryz.lays160
shelf_lay Lays.n156 Nm 156 at Tryz as Tryz.lays156
end Go.Proofs
namespace Go.Proofs.YtpmkdihencepnaaGreatDoor
open Go.RowKit Go.Proofs
open Go.Shelf Go.Lib
theorem extraJ : Builder.Extra Tryz.prog Tryz.lays156_ren where
 sizeBuilder := by kernel_rfl
 liesBuilder := by kernel_rfl
 t5 := Tryz.underlying5
 a5 := Tryz.isAgg5
 z5 := Tryz.sizeOf5
 v5 := Tryz.zeroValue5
 infoByte := by kernel_rfl
 cellsByte := by kernel_rfl
 sizeByte := by kernel_rfl
 neB5 := by decide
structure Env (w : World) : Prop where
 tab : Lib.TabIs Tryz.prog w "internal/strconv.uint64pow10" .u64 Lib.pow10Tab
 ml : ∃ m, w.cell? ⟨Tryz.lays145_ren.g 1, 0, none⟩ = some (.int .i64 m)
 es : ∃ tp p, w.var? Tryz.prog "strconv.ErrSyntax" = some #[.iface tp p]
 er : ∃ tp p, w.var? Tryz.prog "strconv.ErrRange" = some #[.iface tp p]
end Go.Proofs.YtpmkdihencepnaaGreatDoor
namespace Go.Proofs.YtpmkdihencepnaaGreatDoor
section
open Go.ChangeShapes Go.WideShapes Go.ChangeAt Go.ChangeMaps Go.RowKit
theorem gTab : Tryz.prog.globalNamed "internal/strconv.uint64pow10" = some 3 := by kernel_rfl
theorem gTabType : (Tryz.prog.globals[3]?).map (·.type) = some 169 := by kernel_rfl
theorem cellsTab : Tryz.prog.cellsOf 169 = 20 := by kernel_rfl
theorem cellsU64 : Tryz.prog.cellsOf 108 = 1 := by kernel_rfl
theorem gEs : Tryz.prog.globalNamed "strconv.ErrSyntax" = some 6 := by kernel_rfl
theorem gEr : Tryz.prog.globalNamed "strconv.ErrRange" = some 7 := by kernel_rfl
theorem gEsType : (Tryz.prog.globals[6]?).map (·.type) = some 58 := by kernel_rfl
theorem gErType : (Tryz.prog.globals[7]?).map (·.type) = some 58 := by kernel_rfl
theorem cellsES : Tryz.prog.cellsOf 229 = 1 := by kernel_rfl
theorem cellsStr : Tryz.prog.cellsOf 9 = 1 := by kernel_rfl
theorem starES : "*" ++ "errors.errorString" = "*errors.errorString" := by decide
theorem rowES (u : TypeId) (h : Tryz.prog.typeName? 3 u = some "*errors.errorString") : u = 227 :=
 typeName_ptr_named (nm := "errors.errorString") (by rw [starES]; kernel_rfl) (by kernel_rfl) (by decide) u (by rw [starES]; exact h)
theorem env_of {W : World} (h : laidMet Tryz.prog Rows.deskUndoRow.laid W) (hsh : W.ShapedOpen Tryz.prog) : Env W := by
 refine ⟨?_, Go.Proofs.cell_of_shapedOpen_int (P := Tryz.prog) (g := 0) (t := 3) (zero := #[.int .i64 0]) hsh (of_decide_eq_true (by kernel_rfl)) (by kernel_rfl) rfl (by kernel_rfl) (by kernel_rfl) Tryz.underlying3, ?_, ?_⟩
 · exact Lib.tabIs_of_head (rest := [("unicode/utf8.acceptRanges", Rows.laid_unicode_utf8_acceptRanges), ("strconv.ErrRange", Rows.laid_strconv_ErrRange), ("strconv.ErrSyntax", Rows.laid_strconv_ErrSyntax), ("unicode/utf8.first", Rows.laid_unicode_utf8_first)]) gTab gTabType Tryz.underlying169 Tryz.underlying108 cellsU64 cellsTab h.tail.tail
 · obtain ⟨a, s, hv, _, _, _⟩ := laid_sentinel h.tail.tail.tail.tail.tail gEs gEsType Tryz.underlying58 rowES Tryz.underlying227 Tryz.underlying229 rfl rfl Tryz.underlying9 cellsES cellsStr
   exact ⟨_, _, hv⟩
 · obtain ⟨a, s, hv, _, _, _⟩ := laid_sentinel h.tail.tail.tail.tail gEr gErType Tryz.underlying58 rowES Tryz.underlying227 Tryz.underlying229 rfl rfl Tryz.underlying9 cellsES cellsStr
   exact ⟨_, _, hv⟩
def cells1 : DataW Unit → List Value
 | .agg l => l.filterMap (fun | .lit (.int k n) => some (.int k n) | _ => none)
 | _ => []
def cells2 : DataW Unit → List Value
 | .agg l => l.flatMap cells1
 | _ => []
def layAt (h : Array Obj) (k : Nat) (l : List Value) : Array Obj :=
 h.modify k fun
  | .cells _ t frozen => .cells l.toArray t frozen
  | o => o
noncomputable def lowW : Nat := (World.holding Tryz.prog default ⟨#[], #[], []⟩).heap.size
abbrev rangeS : ByteArray := { data := #[118, 97, 108, 117, 101, 32, 111, 117, 116, 32, 111, 102, 32, 114, 97, 110, 103, 101] }
abbrev syntaxS : ByteArray := { data := #[105, 110, 118, 97, 108, 105, 100, 32, 115, 121, 110, 116, 97, 120] }
noncomputable def laidWorld (os : Os) : World :=
 let w0 := World.holding Tryz.prog os ⟨#[.cells #[.string syntaxS] 229, .cells #[.string rangeS] 229], #[], []⟩
 { w0 with
  heap := layAt (layAt (layAt (layAt (layAt (layAt (layAt w0.heap 6 [.iface 227 (.pointer (some ⟨lowW, 0, none⟩))]) 7 [.iface 227 (.pointer (some ⟨lowW + 1, 0, none⟩))])
   3 (cells1 Rows.laid_internal_strconv_uint64pow10)) 4 (cells1 Rows.laid_math_bits_deBruijn32tab)) 5 (cells1 Rows.laid_math_bits_deBruijn64tab)) 2 (cells2 Rows.laid_unicode_utf8_acceptRanges)) 1 (cells1 Rows.laid_unicode_utf8_first) }
end
section
open Go.RowKit Go.Proofs
open Go.Shelf Go.Lib
abbrev sv (s : Str) : Value := .string ⟨s.toArray⟩
theorem var_below {w w' : World} {name : String} {c : Array Value} (h : w.var? Tryz.prog name = some c) (hb : Below w.heap.size w w') : w'.var? Tryz.prog name = some c := by
 unfold World.var? at h ⊢
 cases hg : Tryz.prog.globalNamed name with
 | none => rw [hg] at h; simp at h
 | some g =>
  rw [hg] at h
  simp only [Option.bind_some] at h ⊢
  have hlt : g < w.heap.size := by
   rcases Nat.lt_or_ge g w.heap.size with h' | h'
   · exact h'
   · rw [Array.getElem?_eq_none h'] at h; cases h
  rw [hb.block g hlt]
  exact h
theorem Env.below {w w' : World} (h : Env w) (hb : Below w.heap.size w w') : Env w' := by
 obtain ⟨h1, ⟨m, h2⟩, ⟨t3, p3, h3⟩, ⟨t4, p4, h4⟩⟩ := h
 refine ⟨?_, ⟨m, ?_⟩, ⟨t3, p3, var_below h3 hb⟩, ⟨t4, p4, var_below h4 hb⟩⟩
 · unfold Lib.TabIs at h1 ⊢
   exact var_below h1 hb
 · exact (hb.cell (World.block_lt_of_cell? w _ h2)).trans h2
theorem itoa_c (n : Int) (h : -1000000 ≤ n ∧ n ≤ 1000000) (w : World) (he : Env w) :
 Calls Tryz.prog 29 #[.int .i64 n] w fun e w' => e = .returned (sv (Lib.itoa n)) ∧ Below w.heap.size w w' := by
 refine (Any.strconv_Itoa Tryz.laysM171 n (by omega) (by omega) w he.tab).mono ?_
 rintro e w' ⟨rfl, k, os, rfl⟩
 exact ⟨rfl, Lib.below_grow _ w (Nat.le_refl _) k os⟩
theorem cut_c (s sep : Str) (w : World) (hs : s.length < 4294967281) (he : Env w) :
 Calls Tryz.prog 22 #[sv s, sv sep] w fun e w' => e = .returned (.tuple #[sv (Lib.cut s sep).1, sv (Lib.cut s sep).2.1, .bool (Lib.cut s sep).2.2]) ∧ Below w.heap.size w w' := by
 obtain ⟨m, hm⟩ := he.ml
 refine (Any.strings_Cut Tryz.lays145 ⟨s.toArray⟩ ⟨sep.toArray⟩ m w (by simpa [ByteArray.size] using hs) hm).mono ?_
 rintro e w' ⟨rfl, n, rfl⟩
 exact ⟨by simp, below_drewN (Below.refl _ _) n⟩
theorem cutprefix_c (s p : Str) (w : World) :
 Calls Tryz.prog 15 #[sv s, sv p] w fun e w' => e = .returned (.tuple #[sv (Lib.trimPrefix s p), .bool (Lib.hasPrefix s p)]) ∧ w = w' := by
 refine (Any.strings_CutPrefix Tryz.lays103 ⟨s.toArray⟩ ⟨p.toArray⟩ w).mono ?_
 rintro e w' ⟨rfl, rfl⟩
 exact ⟨by simp, rfl⟩
theorem trimprefix_c (s p : Str) (w : World) :
 Calls Tryz.prog 9 #[sv s, sv p] w fun e w' => e = .returned (sv (Lib.trimPrefix s p)) ∧ w = w' := by
 refine (Any.strings_TrimPrefix Tryz.lays101 ⟨s.toArray⟩ ⟨p.toArray⟩ w).mono ?_
 rintro e w' ⟨rfl, rfl⟩
 exact ⟨by simp, rfl⟩
theorem index_c (s : Str) (c : UInt8) (w : World) :
 Calls Tryz.prog 122 #[sv s, .string ⟨#[c]⟩] w fun e w' => e = .returned (.int .i64 (Lib.indexByte s c)) ∧ w = w' := by
 refine (Any.strings_Index_one Tryz.lays143 ⟨s.toArray⟩ c w).mono ?_
 rintro e w' ⟨rfl, rfl⟩
 exact ⟨by simp, rfl⟩
theorem join_c (A : Option Addr) (c : Nat) (xs : List Str) (sep : Str) (w : World) (hc : xs.length ≤ c) (hN : xs.length ≤ 140737488355328) (hl : (Lib.join xs sep).length ≤ 140737488355328) (h : Sl w w.heap.size A (xs.map sv)) :
 Calls Tryz.prog 12 #[.slice A xs.length c, sv sep] w fun e w' => e = .returned (sv (Lib.join xs sep)) ∧ Below w.heap.size w w' := by
 by_cases h0 : xs = []
 · subst h0
   refine (Any.strings_Join_none Tryz.lays156 extraJ A c ⟨sep.toArray⟩ w).mono ?_
   rintro e w' ⟨rfl, rfl⟩
   exact ⟨rfl, Below.refl _ _⟩
 · obtain ⟨b, o, rfl, hb, hcl⟩ := h (by simpa using List.length_pos_iff.2 h0)
   have hx : (xs.map (fun s : Str => (⟨s.toArray⟩ : ByteArray))).map (·.data.toList) = xs := by
    rw [List.map_map]
    conv => rhs; rw [← List.map_id xs]
    exact List.map_congr_left (fun s _ => by simp)
   have := Any.strings_Join Tryz.lays156 extraJ b o c (xs.map (fun s : Str => (⟨s.toArray⟩ : ByteArray))) ⟨sep.toArray⟩ w (fun j x hj => by
    rw [List.getElem?_map] at hj
    obtain ⟨s, h1, rfl⟩ := Option.map_eq_some_iff.1 hj
    exact hcl j _ (by rw [List.getElem?_map, h1]; rfl)) hb (by simpa using hN) (by simpa using hc) (by rw [hx]; simpa using hl)
   rw [hx] at this
   simp only [List.length_map] at this
   refine (show Calls _ _ _ _ _ from this).mono ?_
   rintro e w' ⟨rfl, hb⟩
   exact ⟨by simp, hb⟩
def abc : Str := [97, 98, 99, 100, 101, 102, 103, 104, 105, 106, 107, 108, 109, 110, 111, 112, 113, 114, 115, 116, 117, 118, 119, 120, 121, 122]
theorem abc_nat : ∀ n, n < 256 → abc.contains (UInt8.ofNat n) = decide (97 ≤ UInt8.ofNat n ∧ UInt8.ofNat n ≤ 122) := by decide
theorem abc_all (x : UInt8) : abc.contains x = decide (97 ≤ x ∧ x ≤ 122) := by
 have := abc_nat x.toNat x.toNat_lt
 rwa [UInt8.ofNat_toNat] at this
theorem trim_nil (s : Str) : (Lib.trimS s abc = []) ↔ ∀ x ∈ s, 97 ≤ x ∧ x ≤ 122 := by
 have hd : ∀ l : Str, l.dropWhile (abc.contains ·) = [] ↔ ∀ x ∈ l, 97 ≤ x ∧ x ≤ 122 := fun l => by
  induction l with
  | nil => simp
  | cons a l ih =>
   by_cases h : abc.contains a = true
   · rw [List.dropWhile_cons_of_pos h, ih]
     have h2 := h
     rw [abc_all] at h2
     have := of_decide_eq_true h2
     constructor
     · intro h3 x hx
       rcases List.mem_cons.1 hx with rfl | hx
       · exact this
       · exact h3 x hx
     · intro h3 x hx; exact h3 x (List.mem_cons_of_mem _ hx)
   · rw [List.dropWhile_cons_of_neg h]
     constructor
     · intro h3; cases h3
     · intro h3
       refine absurd ?_ h
       rw [abc_all]; exact decide_eq_true (h3 a (by simp))
 unfold Lib.trimS Lib.trimLeftS Lib.trimRightS
 rw [hd]
 constructor
 · intro h
   by_cases hn : s.reverse.dropWhile (abc.contains ·) = []
   · intro x hx
     exact (hd s.reverse).1 hn x (List.mem_reverse.2 hx)
   · exfalso
     obtain ⟨a, l, e⟩ : ∃ a l, s.reverse.dropWhile (abc.contains ·) = a :: l := by
      cases hh : s.reverse.dropWhile (abc.contains ·) with
      | nil => exact absurd hh hn
      | cons a l => exact ⟨a, l, rfl⟩
     have h1 := List.head?_dropWhile_not (abc.contains ·) s.reverse
     rw [e] at h1 h
     simp only [List.head?_cons] at h1
     have h2 := h a (by simp)
     rw [abc_all, decide_eq_true h2] at h1
     simp at h1
 · intro h x hx
   have := List.mem_reverse.1 hx
   exact h x (List.mem_reverse.1 (List.dropWhile_sublist _ |>.mem this))
theorem namF_iff (s : Str) : namF s = true ↔ s ≠ [] ∧ s.length ≤ 10 ∧ Lib.trimS s abc = [] := by
 unfold namF
 rw [decide_eq_true_iff, trim_nil, List.length_pos_iff]
end
section
open Go.RowKit Go.ChangeShapes
theorem strs_open {H : Type} {enc : TypeId × Value → H} {W : World} {a : Option Addr} {len cap : Nat} {fuel : Nat} {x : DataW H × List MemPlace} (hf : DataW.trod enc Tryz.prog W 0 (fun _ => true) true fuel 22 (Value.cells (.slice a len cap)).toList = some x) :
 ∃ ls : List Str, ls.length = len ∧ ls.length ≤ 9223372036854775807 ∧ Sl W W.heap.size a (ls.map sv) ∧ ∀ s ∈ ls, s.length ≤ 9223372036854775807 := by
 rcases open_strings Tryz.underlying22 Tryz.underlying9 (by kernel_rfl) hf with ⟨hcs, _⟩ | ⟨y, l, c, ss, hcs, _, hl, hm, hz, _, hcell, hsz⟩
 · simp [Value.cells] at hcs
   obtain ⟨rfl, rfl, rfl⟩ := hcs
   exact ⟨[], rfl, by simp, Sl.nil _ _ _, by simp⟩
 · simp [Value.cells] at hcs
   obtain ⟨rfl, rfl, rfl⟩ := hcs
   have hm' : cap ≤ 9223372036854775807 := by simpa [maxLen] using hm
   have hz : ss.length = cap := by simpa using hz
   refine ⟨(ss.take len).map (fun s => s.data.toList), by simp; omega, by simp; omega, fun hpos => ?_, fun s hs => ?_⟩
   · have hp : 0 < ss.length := by simp at hpos; omega
     obtain ⟨b, off, spot⟩ := y
     have hspot : spot = none := by simpa [Addr.add] using World.cell?_spot (hcell 0 hp)
     subst hspot
     have hc : ∀ j, j < ss.length → W.cell? ⟨b, off + j, none⟩ = some (.string (ss.getD j ByteArray.empty)) := fun j hj => by rw [← Go.WideShapes.add_plain]; exact hcell j hj
     refine ⟨b, off, rfl, World.block_lt_of_cell? W _ (hc 0 hp), fun k u hk => ?_⟩
     have hkl : k < len ∧ k < ss.length := by
      have := (List.getElem?_eq_some_iff.1 hk).1
      simp at this; omega
     rw [hc k hkl.2, ← hk, List.getElem?_map, List.getElem?_map, List.getElem?_take_of_lt hkl.1, List.getElem?_eq_getElem hkl.2, List.getD_eq_getElem?_getD, List.getElem?_eq_getElem hkl.2]
     simp [sv]
   · obtain ⟨t, ht, rfl⟩ := List.mem_map.1 hs
     have h : t.data.size ≤ maxLen := hsz t (List.mem_of_mem_take ht)
     rw [Array.length_toList]
     exact Nat.le_trans h (by unfold maxLen; omega)
end
section
open Go.RowKit Go.Proofs
open Go.Shelf Go.Lib
theorem trim_c (s : Str) (w : World) (hs : s.length ≤ 9223372036854775807) :
 Calls Tryz.prog 28 #[sv s, sv abc] w fun e w' => e = .returned (sv (Lib.trimS s abc)) ∧ Below w.heap.size w w' := by
 refine (Any.strings_Trim_ascii Tryz.lays160 (by intro w; kernel_rfl) (by kernel_rfl) ⟨s.toArray⟩ ⟨abc.toArray⟩ w (by simpa [ByteArray.size] using hs) (by decide) (fun j b hb => ?_)).mono ?_
 · have hm : b ∈ abc := by
    have := List.mem_of_getElem? hb
    simpa using this
   have := abc_all b
   rw [List.contains_iff_mem.2 hm] at this
   have := of_decide_eq_true this.symm
   have h2 : b.toNat ≤ 122 := this.2
   omega
 · rintro e w' ⟨rfl, hb⟩
   exact ⟨by simp, hb⟩
theorem named_c (s : Str) (w : World) (hs : s.length ≤ 9223372036854775807) :
 Calls Tryz.prog 16 #[sv s] w fun e w' => e = .returned (.bool (namF s)) ∧ Below w.heap.size w w' := by
 have HT := Lib.hid (trim_c s w hs)
 have hi := namF_iff s
 by_cases h0 : s = []
 · have hn : namF s = false := Bool.eq_false_iff.2 fun h => (hi.1 h).1 h0
   rw [hn]
   subst h0
   clear hi hn HT
   go_enter Tryz.func16, Tryz.ntmps16
   go_wp2
   go_ret
   exact ⟨rfl, Below.refl _ _⟩
 · have d0 : s.isEmpty = false := by simpa using h0
   by_cases h1 : 10 < s.length
   · have hn : namF s = false := Bool.eq_false_iff.2 fun h => by have := (hi.1 h).2.1; omega
     have d1 : decide ((10 : Int) < (s.length : Int)) = true := decide_eq_true (by omega)
     rw [hn]
     clear hi hn HT h0 h1
     go_enter Tryz.func16, Tryz.ntmps16
     go_wp2
     go_ret
     exact ⟨rfl, Below.refl _ _⟩
   · have d1 : decide ((10 : Int) < (s.length : Int)) = false := decide_eq_false (by omega)
     obtain ⟨t, ht⟩ : ∃ t, t = Lib.trimS s abc := ⟨_, rfl⟩
     rw [← ht] at hi HT
     have hn : namF s = t.isEmpty := by
      rw [Bool.eq_iff_iff, hi]
      constructor
      · intro h; simp [h.2.2]
      · intro h; exact ⟨h0, by omega, by simpa using h⟩
     rw [hn]
     clear hi hn h0 h1 ht
     go_enter Tryz.func16, Tryz.ntmps16
     go_wp2_with (first | (go_at_call 28; refine (HT.out).mono ?_; rintro e w1 ⟨rfl, hb1⟩) | fail)
     go_ret
     exact ⟨rfl, hb1⟩
def NumOut (s : Str) (e : Ending) : Prop := ∃ (n : Int) (b : Bool), e = .returned (.tuple #[.int .i64 n, .bool b]) ∧ (∀ m, numF s = some m → b = true ∧ n = m) ∧ (numF s = none → b = false)
theorem atoi_ok (s : Str) (w : World) (hs : s.length ≤ 281474976710656) (n : Int) (h : Lib.atoiAll s = .ok n) :
 Calls Tryz.prog 119 #[sv s] w fun e w' => e = .returned (.tuple #[.int .i64 n, .nilIface]) ∧ Below w.heap.size w w' := by
 have hd : (⟨s.toArray⟩ : ByteArray).data.toList = s := by simp
 have hz : (⟨s.toArray⟩ : ByteArray).size = s.length := by simp [ByteArray.size]
 refine (Any.strconv_Atoi_ok Tryz.laysC172 ⟨s.toArray⟩ (by rw [hz]; omega) n (by rw [hd]; exact h) w).mono ?_
 rintro e w' ⟨rfl, hw⟩
 refine ⟨rfl, ?_⟩
 rcases hw with rfl | ⟨t, rfl⟩
 · exact Below.refl _ _
 · exact Joins.below_bytesWorld _ w _ _ (Nat.le_refl _)
theorem atoi_bad (s : Str) (w : World) (hs : s.length ≤ 281474976710656) (he : Env w) (h : ∀ n, Lib.atoiAll s ≠ .ok n) :
 Calls Tryz.prog 119 #[sv s] w fun e w' => (∃ n t p, e = .returned (.tuple #[.int .i64 n, .iface t (.pointer (some ⟨p, 0, none⟩))])) ∧ Below w.heap.size w w' := by
 have hd : (⟨s.toArray⟩ : ByteArray).data.toList = s := by simp
 have hz : (⟨s.toArray⟩ : ByteArray).size = s.length := by simp [ByteArray.size]
 cases h2 : Lib.atoiAll s
 · rename_i n
   exact absurd h2 (h n)
 · obtain ⟨tp, p, hv⟩ := he.es
   refine (Any.strconv_Atoi_syntax_var Tryz.laysC172 ⟨s.toArray⟩ (by rw [hz]; exact hs) (by rw [hd]; exact h2) tp p w hv).mono ?_
   rintro e w' ⟨N, rfl, _, _, hb⟩
   exact ⟨⟨_, _, _, rfl⟩, hb⟩
 · obtain ⟨tp, p, hv⟩ := he.er
   refine (Any.strconv_Atoi_range_var Tryz.laysC172 ⟨s.toArray⟩ (by rw [hz]; exact hs) (by rw [hd]; exact h2) tp p w hv).mono ?_
   rintro e w' ⟨N, rfl, _, _, hb⟩
   exact ⟨⟨_, _, _, rfl⟩, hb⟩
theorem number_c (s : Str) (w : World) (hs : s.length ≤ 281474976710656) (he : Env w) :
 Calls Tryz.prog 74 #[sv s] w fun e w' => NumOut s e ∧ Below w.heap.size w w' := by
 by_cases hok : ∃ n, Lib.atoiAll s = .ok n
 · obtain ⟨n, hn⟩ := hok
   have HA := Lib.hid (atoi_ok s w hs n hn)
   have hf : numF s = if (-9999 ≤ n ∧ n ≤ 9999) ∧ Lib.itoa n = s then some n else none := by unfold numF; rw [hn]
   have HE := Lib.hid he
   clear he
   by_cases h1 : -9999 ≤ n
   · have d1 : decide (-9999 ≤ n) = true := decide_eq_true h1
     by_cases h2 : n ≤ 9999
     · have d2 : decide (n ≤ 9999) = true := decide_eq_true h2
       have HI : Hid (∀ w1, Below w.heap.size w w1 → Calls Tryz.prog 29 #[.int .i64 n] w1 fun e w' => e = .returned (sv (Lib.itoa n)) ∧ Below w1.heap.size w1 w') := Lib.hid fun w1 hb => itoa_c n (by omega) w1 (HE.out.below hb)
       obtain ⟨t, ht⟩ : ∃ t, t = Lib.itoa n := ⟨_, rfl⟩
       rw [← ht] at HI hf
       have hfin : Hid (NumOut s (.returned (.tuple #[.int .i64 n, .bool (t == s)]))) := by
        by_cases e : t = s
        · rw [if_pos ⟨⟨h1, h2⟩, e⟩] at hf
          exact ⟨n, true, by rw [e]; simp, fun m hm => ⟨rfl, (by rw [hf] at hm; injection hm)⟩, (fun h => by rw [hf] at h; cases h)⟩
        · rw [if_neg (fun h => e h.2)] at hf
          exact ⟨n, false, by rw [show (t == s) = false by simpa using e], (fun m hm => by rw [hf] at hm; cases hm), fun _ => rfl⟩
       clear hf ht hn h1 h2
       go_enter Tryz.func74, Tryz.ntmps74
       go_wp2_with (first | (go_at_call 119; refine (HA.out).mono ?_; rintro e w1 ⟨rfl, hb1⟩; have HI1 := Lib.hid (HI.out w1 hb1); have HB1 := Lib.hid hb1; clear hb1) | (go_at_call 29; refine (HI1.out).mono ?_; first | (rintro e w2 rfl hb2; have HB2 := Lib.hid hb2; clear hb2) | (rintro e w2 ⟨rfl, hb2⟩; have HB2 := Lib.hid hb2; clear hb2)) | fail)
       go_ret2
       exact ⟨hfin.out, below_of HB1.out HB2.out⟩
     · have d2 : decide (n ≤ 9999) = false := decide_eq_false h2
       rw [if_neg (fun h => h2 h.1.2)] at hf
       have hfin : Hid (NumOut s (.returned (.tuple #[.int .i64 n, .bool false]))) := ⟨n, false, rfl, (fun m hm => by rw [hf] at hm; cases hm), fun _ => rfl⟩
       clear hf hn h1 h2
       go_enter Tryz.func74, Tryz.ntmps74
       go_wp2_with (first | (go_at_call 119; refine (HA.out).mono ?_; rintro e w1 ⟨rfl, hb1⟩; have HB1 := Lib.hid hb1; clear hb1) | fail)
       go_ret2
       exact ⟨hfin.out, HB1.out⟩
   · have d1 : decide (-9999 ≤ n) = false := decide_eq_false h1
     rw [if_neg (fun h => h1 h.1.1)] at hf
     have hfin : Hid (NumOut s (.returned (.tuple #[.int .i64 n, .bool false]))) := ⟨n, false, rfl, (fun m hm => by rw [hf] at hm; cases hm), fun _ => rfl⟩
     clear hf hn h1
     go_enter Tryz.func74, Tryz.ntmps74
     go_wp2_with (first | (go_at_call 119; refine (HA.out).mono ?_; rintro e w1 ⟨rfl, hb1⟩; have HB1 := Lib.hid hb1; clear hb1) | fail)
     go_ret2
     exact ⟨hfin.out, HB1.out⟩
 · have hall : ∀ n, Lib.atoiAll s ≠ .ok n := fun n h => hok ⟨n, h⟩
   have HA := Lib.hid (atoi_bad s w hs he hall)
   have hf : numF s = none := by
    unfold numF
    cases h : Lib.atoiAll s
    · rename_i n
      exact absurd h (hall n)
    · rfl
    · rfl
   have hfin : Hid (∀ n, NumOut s (.returned (.tuple #[.int .i64 n, .bool false]))) := fun n => ⟨n, false, rfl, (fun m hm => by rw [hf] at hm; cases hm), fun _ => rfl⟩
   clear hf hall hok he
   go_enter Tryz.func74, Tryz.ntmps74
   go_wp2_with (first | (go_at_call 119; refine (HA.out).mono ?_; rintro e w1 ⟨⟨n, t, p, rfl⟩, hb1⟩; have HB1 := Lib.hid hb1; clear hb1) | fail)
   go_ret2
   exact ⟨hfin.out _, HB1.out⟩
end
end Go.Proofs.YtpmkdihencepnaaGreatDoor
