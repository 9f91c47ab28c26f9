/- DecodeRows, DecodeRules in both texts. -/
import Derived.Test.YtehniaekfijmiaaFnsR
import Derived.Test.YtehniaekfijmiaaFnsJ
import Derived.Test.YtehniaekfijmiaaMkB
import Derived.Test.YtehniaekfijmiaaFnsE
namespace Go.Proofs.Ytehniaekfijmiaa
open Go.Sim
set_option maxRecDepth 100000
set_option maxHeartbeats 4000000
def oL {α : Type} (o : Option (List α)) : List α := match o with | some l => l | none => []
end Go.Proofs.Ytehniaekfijmiaa
