/- Closed facts on the program that every row's step wants. Conditions: none. -/
import Derived.Test.YtdaaamdighojdaaRows
import Derived.Test.YtdaaamdighojdaaOpen
set_option linter.unusedSimpArgs false
set_option linter.unusedVariables false
namespace Go.Proofs.Ytdaaamdighojdaa
theorem Try.own : ownKnob Try.prog.godebug = none := by kernel_rfl
theorem Try.laidOut : laidOutB Try.prog = true := by kernel_rfl
theorem Try.cells_int : Try.prog.cellsOf 3 = 1 := by kernel_rfl
theorem Try.cells_ints : Try.prog.cellsOf 24 = 1 := by kernel_rfl
end Go.Proofs.Ytdaaamdighojdaa
