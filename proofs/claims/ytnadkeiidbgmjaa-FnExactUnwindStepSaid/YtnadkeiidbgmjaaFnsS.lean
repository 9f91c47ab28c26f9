/- DecodeRows, DecodeRules in both texts. -/
import Derived.Test.YtnadkeiidbgmjaaFnsR
import Derived.Test.YtnadkeiidbgmjaaFnsJ
import Derived.Test.YtnadkeiidbgmjaaMkB
import Derived.Test.YtnadkeiidbgmjaaFnsE
namespace Go.Proofs.Ytnadkeiidbgmjaa
open Go.Sim
set_option maxRecDepth 100000
set_option maxHeartbeats 4000000
def oL {α : Type} (o : Option (List α)) : List α := match o with | some l => l | none => []
end Go.Proofs.Ytnadkeiidbgmjaa
