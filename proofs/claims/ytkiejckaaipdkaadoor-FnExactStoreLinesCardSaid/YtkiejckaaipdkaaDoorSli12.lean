/- Rf, part Ys: strconv.Itoa and strings.Join as they lie in the program. -/
import Derived.Test.YtkiejckaaipdkaaDoorSli4
import Derived.Test.YtkiejckaaipdkaaDoorProg
import Derived.Ground.NamesProg
import Derived.Shelf.Lay
set_option linter.unusedVariables false
set_option linter.unusedSimpArgs false
namespace Go.Proofs
open Go.Shelf Go.RowKit
shelf_lay LaysM.n171 Nm 171 at Tryd as Tryd.laysItoa
shelf_lay Lays.n156 Nm 156 at Tryd as Tryd.laysJoin
theorem Tryd.extra : Builder.Extra Tryd.prog Tryd.laysJoin_ren where
  sizeBuilder := by kernel_rfl
  liesBuilder := by kernel_rfl
  t5 := Tryd.laysItoa.t5
  a5 := Tryd.laysItoa.a5
  z5 := Tryd.laysItoa.z5
  v5 := Tryd.laysItoa.v5
  infoByte := by kernel_rfl
  cellsByte := by kernel_rfl
  sizeByte := by kernel_rfl
  neB5 := by decide
end Go.Proofs
