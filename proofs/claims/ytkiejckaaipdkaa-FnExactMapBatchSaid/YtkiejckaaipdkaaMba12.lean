/- Rf, part Ym: slices.Delete and slices.Insert as they lie in the program. -/
import Derived.Test.YtkiejckaaipdkaaMba3
import Derived.Test.YtkiejckaaipdkaaProg
set_option linter.unusedVariables false
set_option linter.unusedSimpArgs false
namespace Go.Rf
open Go.Shelf Go.RowKit Go.Lib Go.Proofs
def rD : Ren := ⟨fun _ => 64, fun | 22 => 26 | 23 => 49 | n => n, fun n => n⟩
theorem layD : SlLaysE0.n45 Try.prog rD where
  mixed := by kernel_rfl
  f45 := ⟨Try.f64.name, by kernel_rfl, Try.func64.trans (congrArg some (by kernel_rfl))⟩
  t0 := Try.underlying0
  a0 := Try.isAgg0
  z0 := Try.sizeOf0
  v0 := Try.zeroValue0
  t3 := Try.underlying3
  a3 := Try.isAgg3
  z3 := Try.sizeOf3
  v3 := Try.zeroValue3
  t4 := Try.underlying4
  a4 := Try.isAgg4
  z4 := Try.sizeOf4
  v4 := Try.zeroValue4
  t22 := Try.underlying26
  a22 := Try.isAgg26
  z22 := Try.sizeOf26
  v22 := Try.zeroValue26
def rI : Ren := ⟨fun | 22 => 71 | 29 => 72 | 30 => 73 | 36 => 74 | n => n, fun | 24 => 26 | 9 => 49 | n => n, fun n => n⟩
theorem layI : InsL Try.prog rI (Try.prog.info? 49).get! ((Try.prog.info? 49).get!.zero.get!) 2 where
  mixed := by kernel_rfl
  f22 := ⟨Try.f71.name, by kernel_rfl, Try.func71.trans (congrArg some (by kernel_rfl))⟩
  t0 := Try.underlying0
  a0 := Try.isAgg0
  z0 := Try.sizeOf0
  v0 := Try.zeroValue0
  t3 := Try.underlying3
  a3 := Try.isAgg3
  z3 := Try.sizeOf3
  v3 := Try.zeroValue3
  t4 := Try.underlying4
  a4 := Try.isAgg4
  z4 := Try.sizeOf4
  v4 := Try.zeroValue4
  t24 := Try.underlying26
  a24 := Try.isAgg26
  z24 := Try.sizeOf26
  v24 := Try.zeroValue26
  z9 := Try.sizeOf49
  info := by kernel_rfl
  size := by kernel_rfl
  zero := by kernel_rfl
  zs := by kernel_rfl
  bytes := by decide
  pos := by decide
theorem ovI : OvL Try.prog rI := ⟨_, Try.func72, by kernel_rfl, by kernel_rfl, by kernel_rfl, by kernel_rfl⟩
end Go.Rf
