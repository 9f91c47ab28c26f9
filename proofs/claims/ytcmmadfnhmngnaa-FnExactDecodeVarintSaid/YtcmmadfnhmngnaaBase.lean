/- Two facts of the program that every row asks for. -/
import Derived.Test.YtcmmadfnhmngnaaEnv
namespace Go.Proofs.Ytcmmadfnhmngnaa
open Go.Sim Go.ChangeShapes Go.WideShapes Go.ChangeAt Go.RowKit
theorem own : ownKnob Try.prog.godebug = none := by kernel_rfl
theorem laidOut : laidOutB Try.prog = true := by kernel_rfl
theorem i64_le {n : Int} (h : (Lit.int .i64 n).wf = true) : n ≤ 9223372036854775807 := by
  simp [Lit.wf] at h
  exact h.2
theorem i64_ge {n : Int} (h : (Lit.int .i64 n).wf = true) : -9223372036854775808 ≤ n := by
  simp [Lit.wf] at h
  exact h.1
end Go.Proofs.Ytcmmadfnhmngnaa
