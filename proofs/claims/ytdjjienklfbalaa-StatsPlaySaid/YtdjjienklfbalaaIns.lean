/-
  slices.Insert at []int: the library's contracts at this program.
-/
import Derived.Shelf.Spec.SlicesInsertGrow
import Derived.Shelf.Spec.SlicesInsert
import Derived.Test.YtdjjienklfbalaaSeg
namespace Go.Proofs.Ytdjjienklfbalaa
open Go.RowKit
set_option linter.unusedVariables false
set_option maxRecDepth 100000
set_option maxHeartbeats 1000000
def insRen : Go.Shelf.Ren := ⟨fun | 21 => 106 | 27 => 138 | 28 => 139 | 35 => 148 | 39 => 155 | n => n, fun | 22 => 29 | n => n, fun | n => n⟩
theorem insLays : Go.Proofs.Lays2.n21 Try.prog insRen := {
  mixed := by kernel_rfl
  f21 := Try.func106.trans (congrArg some (by kernel_rfl))
  f27 := Try.func138.trans (congrArg some (by kernel_rfl))
  f28 := Try.func139.trans (congrArg some (by kernel_rfl))
  f35 := Try.func148.trans (congrArg some (by kernel_rfl))
  f39 := Try.func155.trans (congrArg some (by kernel_rfl))
  t0 := Try.underlying0
  a0 := Try.isAgg0
  z0 := Try.sizeOf0
  v0 := Try.zeroValue0
  t3 := Try.underlying3
  a3 := Try.isAgg3
  z3 := Try.sizeOf3
  v3 := Try.zeroValue3
  t4 := Try.underlying4
  a4 := Try.isAgg4
  z4 := Try.sizeOf4
  v4 := Try.zeroValue4
  t22 := Try.underlying29
  a22 := Try.isAgg29
  z22 := Try.sizeOf29
  v22 := Try.zeroValue29
  i3 := by kernel_rfl }
end Go.Proofs.Ytdjjienklfbalaa
