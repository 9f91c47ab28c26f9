/- Two facts of the program that every row asks for. -/
import Derived.Test.YtflolafbblohnaaEnv
namespace Go.Proofs.Ytflolafbblohnaa
open Go.Sim Go.ChangeShapes Go.WideShapes Go.ChangeAt Go.RowKit
theorem own : ownKnob Try.prog.godebug = none := by kernel_rfl
theorem laidOut : laidOutB Try.prog = true := by kernel_rfl
end Go.Proofs.Ytflolafbblohnaa
