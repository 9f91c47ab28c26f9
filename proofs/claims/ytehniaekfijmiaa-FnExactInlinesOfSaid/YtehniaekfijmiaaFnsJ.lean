/- Rules: the contracts in both texts. -/
import Derived.Test.YtehniaekfijmiaaTyB
import Derived.Test.YtehniaekfijmiaaFnsE
namespace Go.Proofs.Ytehniaekfijmiaa
open Go.Sim
set_option maxRecDepth 100000
set_option maxHeartbeats 4000000
def ruleOkAt (last : Int) (r : TRule) : Prop := last ≤ r.fStart ∧ r.fStart < r.fEnd ∧ r.fEnd ≤ 1000000 ∧ 0 ≤ r.fDepth ∧ r.fDepth ≤ 1200 ∧ (r.fFrame = true → r.fDepth = 0)
instance (last : Int) (r : TRule) : Decidable (ruleOkAt last r) := by unfold ruleOkAt; infer_instance
end Go.Proofs.Ytehniaekfijmiaa
