/- Names and inline records: the contracts in both texts. -/
import Derived.Test.YtnadkeiidbgmjaaFnsJ
namespace Go.Proofs.Ytnadkeiidbgmjaa
open Go.Sim
set_option maxRecDepth 100000
set_option maxHeartbeats 4000000
def behind (p : Option TInline) (x : TInline) : Prop := match p with
  | none => True
  | some p => p.fLevel ≤ x.fLevel ∧ (p.fLevel = x.fLevel → p.fEnd ≤ x.fStart)
instance (p : Option TInline) (x : TInline) : Decidable (behind p x) := by unfold behind; cases p <;> infer_instance
end Go.Proofs.Ytnadkeiidbgmjaa
