/- DecodeRows, DecodeRules in both texts. -/
import Derived.Test.YtflolafbblohnaaFnsR
import Derived.Test.YtflolafbblohnaaFnsJ
import Derived.Test.YtflolafbblohnaaMkB
import Derived.Test.YtflolafbblohnaaFnsE
namespace Go.Proofs.Ytflolafbblohnaa
open Go.Sim
set_option maxRecDepth 100000
set_option maxHeartbeats 4000000
def oL {α : Type} (o : Option (List α)) : List α := match o with | some l => l | none => []
end Go.Proofs.Ytflolafbblohnaa
