/- Closed facts on the program that every row's step wants. Conditions: none. -/
import Derived.Test.YtdaaamdighojdaaDoorRows
import Derived.Test.YtdaaamdighojdaaDoorOpen
set_option linter.unusedSimpArgs false
set_option linter.unusedVariables false
namespace Go.Proofs.YtdaaamdighojdaaDoor
theorem Tryd.own : ownKnob Tryd.prog.godebug = none := by kernel_rfl
theorem Tryd.laidOut : laidOutB Tryd.prog = true := by kernel_rfl
theorem Tryd.cells_int : Tryd.prog.cellsOf 3 = 1 := by kernel_rfl
theorem Tryd.cells_ints : Tryd.prog.cellsOf 33 = 1 := by kernel_rfl
end Go.Proofs.YtdaaamdighojdaaDoor
