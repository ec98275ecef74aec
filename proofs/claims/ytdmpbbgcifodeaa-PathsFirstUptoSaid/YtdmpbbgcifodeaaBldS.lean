/-
  The library's builder, Repeat and Count at this program: laid, no walk.
-/
import Derived.Test.YtdmpbbgcifodeaaShared
import Derived.Ground.NamesProg
import Derived.Shelf.Lay
import Derived.Shelf.Strings.Builder1
import Derived.Shelf.Strings.BuilderK
import Derived.Shelf.Strings.Count
import Derived.Shelf.Strings.Repeat
namespace Go.Proofs.Ytdmpbbgcifodeaa
open Go.RowKit Go.Proofs
open Go.Shelf Go.Lib

shelf_lay Lays.n105 Nm 105 at Try as Try.lays105
shelf_lay Lays.n138 Nm 138 at Try as Try.lays138
theorem lays166 : Lays.n166 Try.prog Try.lays105_ren := { Try.lays105 with }
theorem lays169 : Lays.n169 Try.prog Try.lays105_ren := { Try.lays105 with }
/-- WriteByte's number besides. -/
def bren : Ren := ⟨fun k => if k = 167 then 83 else Try.lays105_ren.f k, Try.lays105_ren.t, Try.lays105_ren.g⟩
theorem lays167 : Lays.n167 Try.prog bren where
  mixed := Try.lays105.mixed
  f167 := Try.func83.trans (congrArg some (by kernel_rfl))
  f240 := Try.lays105.f240.trans (congrArg some (by kernel_rfl))
  f276 := Try.lays105.f276.trans (congrArg some (by kernel_rfl))
  t0 := Try.lays105.t0
  a0 := Try.lays105.a0
  z0 := Try.lays105.z0
  v0 := Try.lays105.v0
  t4 := Try.lays105.t4
  a4 := Try.lays105.a4
  z4 := Try.lays105.z4
  v4 := Try.lays105.v4
  t5 := Try.lays105.t5
  a5 := Try.lays105.a5
  z5 := Try.lays105.z5
  v5 := Try.lays105.v5
  t9 := Try.lays105.t9
  a9 := Try.lays105.a9
  z9 := Try.lays105.z9
  v9 := Try.lays105.v9
  t20 := Try.lays105.t20
  a20 := Try.lays105.a20
  z20 := Try.lays105.z20
  v20 := Try.lays105.v20
  t37 := Try.lays105.t37
  a37 := Try.lays105.a37
  z37 := Try.lays105.z37
  v37 := Try.lays105.v37
  t70 := Try.lays105.t70
  a70 := Try.lays105.a70
  z70 := Try.lays105.z70
  v70 := Try.lays105.v70
  t72 := Try.lays105.t72
  a72 := Try.lays105.a72
  z72 := Try.lays105.z72
  v72 := Try.lays105.v72
  t75 := Try.lays105.t75
  a75 := Try.lays105.a75
  z75 := Try.lays105.z75
  v75 := Try.lays105.v75
  t164 := Try.lays105.t164
  a164 := Try.lays105.a164
  z164 := Try.lays105.z164
  v164 := Try.lays105.v164

theorem extra : Builder.Extra Try.prog Try.lays105_ren where
  sizeBuilder := by kernel_rfl
  liesBuilder := by kernel_rfl
  t5 := Try.lays105.t5
  a5 := Try.lays105.a5
  z5 := Try.lays105.z5
  v5 := Try.lays105.v5
  infoByte := by kernel_rfl
  cellsByte := by kernel_rfl
  sizeByte := by kernel_rfl
  neB5 := by decide
theorem extraB : Builder.Extra Try.prog bren where
  sizeBuilder := by kernel_rfl
  liesBuilder := by kernel_rfl
  t5 := Try.lays105.t5
  a5 := Try.lays105.a5
  z5 := Try.lays105.z5
  v5 := Try.lays105.v5
  infoByte := by kernel_rfl
  cellsByte := by kernel_rfl
  sizeByte := by kernel_rfl
  neB5 := by decide

/-- The builder that the call made. -/
abbrev Bld (b : Nat) (l : List UInt8) (w : World) : Prop := Lib.IsBuilder 115 5 b b (Lib.byteCells l) w
end Go.Proofs.Ytdmpbbgcifodeaa
