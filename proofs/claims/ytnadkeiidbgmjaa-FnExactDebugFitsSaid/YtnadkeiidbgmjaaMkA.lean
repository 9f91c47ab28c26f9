/- Marks: what the laws' helpers write into slices, cell by cell, counting. No program in sight. -/
import Derived.Test.YtnadkeiidbgmjaaTyA
namespace Go.Proofs.Ytnadkeiidbgmjaa
open Go.Sim
set_option maxRecDepth 100000
theorem undeep (a : List (List Tr)) : (deepRows a).map (·.map DC.tr) = a := by
  rw [deepRows, List.map_map]
  conv => rhs; rw [← List.map_id a]
  apply List.map_congr_left
  intro r _
  simp only [Function.comp, List.map_map, id]
  conv => rhs; rw [← List.map_id r]
  apply List.map_congr_left
  intro x _
  rfl
end Go.Proofs.Ytnadkeiidbgmjaa
