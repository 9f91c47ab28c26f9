import Derived.Test.YtnadkeiidbgmjaaEnv
namespace Go.Proofs.Ytnadkeiidbgmjaa
open Go.Sim
abbrev tvI (n : Int) : TV := .c (.int .i64 n)
abbrev rI (n : Int) : Res := .r (.c (.t (.int .i64 n)))
abbrev rB (b : Bool) : Res := .r (.c (.t (.bool b)))
def within (n lo hi : Int) : Bool := decide (lo ≤ n) && decide (n ≤ hi)
set_option maxRecDepth 100000
end Go.Proofs.Ytnadkeiidbgmjaa
