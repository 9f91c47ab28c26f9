/-
  No cell of these rows narrows 'for every input' (looked for: loops, veiled, ifaces, maps, wideKeys, modest, calm, conditions, laid).
  DERIVED. THE GIVEN ROWS OF THIS SEAT. 4 by the template 'for every input the law returns true; each argument reads behind the call as it read before'; 0 by the template 'total and deterministic' (their statements: YtjmplnfiabmalaaTotals.lean).
  GIVEN WITH THE SEED: the statements are not yours to turn. If you find one false, say at which input.
  Laid BY PROGRAM, IN A SANDBOX (cutbox-rows.mjs): the forced cells as the released guide's own fill.sh prints them over the translation 7991a851b10149dd… (all of the seat's roots in one cut). By AI agents, Wed Nov 11 2026. No macro, syntax, notation, axiom, sorry.
-/
import Derived.Test.YtjmplnfiabmalaaChecked
import GoSem.Claim
import GoSem.ClaimJoined
import GoSem.ClaimMapViews
import Derived.JoinedTies
import Derived.KernelRfl
namespace Go.Proofs.Ytjmplnfiabmalaa
/- THE CELL 'sum', in the pinned program and in every row, IS THE sha256 OF THE DUMP (.gsa) THAT YtjmplnfiabmalaaProg.lean LOADS. Nothing in Lean hashes anything: it is a label: what it is worth is what the hold of that sum in a sandbox is worth. -/
noncomputable def Try.pinned : Pinned := { name := "ytjmplnfiabmalaa", sum := "7991a851b10149ddca24d63c6850c8d23e644e8dad38f77cd1752760daaa20c8", checked := Try.checked }
namespace Rows
def none {H : Type} : Left H := { results := [], args := [] }

/-- 'laws.FnExactInterpret': WHATEVER THE INPUT: true; the input reads as it did. -/
def fnExactInterpretSpec : ChangeSpec := { name := "fnExactInterpret", fn := fun _ => fun
  | [d1, d2] => { results := [.lit (.bool true)], args := [d1, d2] }
  | _ => none }
def fnExactInterpretRow : OpenClaim := { program := "ytjmplnfiabmalaa", sum := "7991a851b10149ddca24d63c6850c8d23e644e8dad38f77cd1752760daaa20c8", func := "loop.example/g03314/laws.FnExactInterpret", spec := "fnExactInterpret", unfollowed := true, recurses := true, apart := false }
def FnExactInterpretSaid : Prop := fnExactInterpretRow.holds Try.pinned (OpenSpec.ofChange fnExactInterpretSpec)

/-- ITS FALSE NEIGHBOUR: 'it returns false'. Refute it at one input. -/
def fnExactInterpretWrong : ChangeSpec := { name := "fnExactInterpret", fn := fun _ => fun
  | [d1, d2] => { results := [.lit (.bool false)], args := [d1, d2] }
  | _ => none }
def FnExactInterpretWrongFalsely : Prop := fnExactInterpretRow.holds Try.pinned (OpenSpec.ofChange fnExactInterpretWrong)

/-- 'laws.FnFolded': WHATEVER THE INPUT: true; the input reads as it did. -/
def fnFoldedSpec : ChangeSpec := { name := "fnFolded", fn := fun _ => fun
  | [d] => { results := [.lit (.bool true)], args := [d] }
  | _ => none }
def fnFoldedRow : OpenClaim := { program := "ytjmplnfiabmalaa", sum := "7991a851b10149ddca24d63c6850c8d23e644e8dad38f77cd1752760daaa20c8", func := "loop.example/g03314/laws.FnFolded", spec := "fnFolded", recurses := true, apart := false }
def FnFoldedSaid : Prop := fnFoldedRow.holds Try.pinned (OpenSpec.ofChange fnFoldedSpec)

/-- ITS FALSE NEIGHBOUR: 'it returns false'. Refute it at one input. -/
def fnFoldedWrong : ChangeSpec := { name := "fnFolded", fn := fun _ => fun
  | [d] => { results := [.lit (.bool false)], args := [d] }
  | _ => none }
def FnFoldedWrongFalsely : Prop := fnFoldedRow.holds Try.pinned (OpenSpec.ofChange fnFoldedWrong)

/-- 'laws.FnLimits': WHATEVER THE INPUT: true; the input reads as it did. -/
def fnLimitsSpec : ChangeSpec := { name := "fnLimits", fn := fun _ => fun
  | [d] => { results := [.lit (.bool true)], args := [d] }
  | _ => none }
def fnLimitsRow : OpenClaim := { program := "ytjmplnfiabmalaa", sum := "7991a851b10149ddca24d63c6850c8d23e644e8dad38f77cd1752760daaa20c8", func := "loop.example/g03314/laws.FnLimits", spec := "fnLimits", unfollowed := true, recurses := true, apart := false }
def FnLimitsSaid : Prop := fnLimitsRow.holds Try.pinned (OpenSpec.ofChange fnLimitsSpec)

/-- ITS FALSE NEIGHBOUR: 'it returns false'. Refute it at one input. -/
def fnLimitsWrong : ChangeSpec := { name := "fnLimits", fn := fun _ => fun
  | [d] => { results := [.lit (.bool false)], args := [d] }
  | _ => none }
def FnLimitsWrongFalsely : Prop := fnLimitsRow.holds Try.pinned (OpenSpec.ofChange fnLimitsWrong)

/-- 'laws.FnVisitShapes': WHATEVER THE INPUT: true; the input reads as it did. -/
def fnVisitShapesSpec : ChangeSpec := { name := "fnVisitShapes", fn := fun _ => fun
  | [d] => { results := [.lit (.bool true)], args := [d] }
  | _ => none }
def fnVisitShapesRow : OpenClaim := { program := "ytjmplnfiabmalaa", sum := "7991a851b10149ddca24d63c6850c8d23e644e8dad38f77cd1752760daaa20c8", func := "loop.example/g03314/laws.FnVisitShapes", spec := "fnVisitShapes", unfollowed := true, recurses := true, apart := false }
def FnVisitShapesSaid : Prop := fnVisitShapesRow.holds Try.pinned (OpenSpec.ofChange fnVisitShapesSpec)

/-- ITS FALSE NEIGHBOUR: 'it returns false'. Refute it at one input. -/
def fnVisitShapesWrong : ChangeSpec := { name := "fnVisitShapes", fn := fun _ => fun
  | [d] => { results := [.lit (.bool false)], args := [d] }
  | _ => none }
def FnVisitShapesWrongFalsely : Prop := fnVisitShapesRow.holds Try.pinned (OpenSpec.ofChange fnVisitShapesWrong)

/- THE SECOND FORM. 'bulk': how many values and letters a reading holds, each counted each time it is reached (what is shared counts as often as it is met; a slice's spare places count too). A statement '..UptoSaid' is the law's where the arguments, and the package variables that the reading takes, are together of bulk at most 1048576: NARROWER than '..Said'. Prove '..Said' where nothing that the law and all that it calls make is longer than what came in: it says more and counts as full. Else prove '..UptoSaid'. A law counts once. -/
mutual
def uptoBulk {H : Type} : DataW H → Nat
  | .lit (.string bytes) => bytes.length + 1
  | .lit _ => 1
  | .nil => 1
  | .ptr d => uptoBulk d + 1
  | .slice elems spare => uptoBulkAll elems + uptoBulkAll spare + 1
  | .agg parts => uptoBulkAll parts + 1
  | .iface _ d => uptoBulk d + 1
  | .map entries => uptoBulkEntries entries + 1
  | .held _ => 1
def uptoBulkAll {H : Type} : List (DataW H) → Nat
  | [] => 0
  | d :: r => uptoBulk d + uptoBulkAll r
def uptoBulkEntries {H : Type} : List (Lit × DataW H) → Nat
  | [] => 0
  | x :: r => uptoBulkEntry x + uptoBulkEntries r
def uptoBulkEntry {H : Type} : Lit × DataW H → Nat
  | (.string bytes, d) => bytes.length + uptoBulk d + 1
  | (_, d) => uptoBulk d + 1
 end
def uptoSmall : (H : Type) → List (DataW H) → Bool := fun _ ds => decide (uptoBulkAll ds ≤ 1048576)
def OpenSpec.upto (s : _root_.Go.ChangeSpec) : _root_.Go.OpenSpec := { _root_.Go.OpenSpec.ofChange s with cond := some uptoSmall }

/-- 'laws.FnExactInterpret', WHERE WHAT IT READS IS OF BULK AT MOST 1048576: true; the input reads as it did. -/
def fnExactInterpretUptoRow : OpenClaim := { program := "ytjmplnfiabmalaa", sum := "7991a851b10149ddca24d63c6850c8d23e644e8dad38f77cd1752760daaa20c8", func := "loop.example/g03314/laws.FnExactInterpret", spec := "fnExactInterpret", unfollowed := true, recurses := true, apart := false, narrowed := true }
def FnExactInterpretUptoSaid : Prop := fnExactInterpretUptoRow.holds Try.pinned (OpenSpec.upto fnExactInterpretSpec)

/-- 'laws.FnFolded', WHERE WHAT IT READS IS OF BULK AT MOST 1048576: true; the input reads as it did. -/
def fnFoldedUptoRow : OpenClaim := { program := "ytjmplnfiabmalaa", sum := "7991a851b10149ddca24d63c6850c8d23e644e8dad38f77cd1752760daaa20c8", func := "loop.example/g03314/laws.FnFolded", spec := "fnFolded", recurses := true, apart := false, narrowed := true }
def FnFoldedUptoSaid : Prop := fnFoldedUptoRow.holds Try.pinned (OpenSpec.upto fnFoldedSpec)

/-- 'laws.FnLimits', WHERE WHAT IT READS IS OF BULK AT MOST 1048576: true; the input reads as it did. -/
def fnLimitsUptoRow : OpenClaim := { program := "ytjmplnfiabmalaa", sum := "7991a851b10149ddca24d63c6850c8d23e644e8dad38f77cd1752760daaa20c8", func := "loop.example/g03314/laws.FnLimits", spec := "fnLimits", unfollowed := true, recurses := true, apart := false, narrowed := true }
def FnLimitsUptoSaid : Prop := fnLimitsUptoRow.holds Try.pinned (OpenSpec.upto fnLimitsSpec)

/-- 'laws.FnVisitShapes', WHERE WHAT IT READS IS OF BULK AT MOST 1048576: true; the input reads as it did. -/
def fnVisitShapesUptoRow : OpenClaim := { program := "ytjmplnfiabmalaa", sum := "7991a851b10149ddca24d63c6850c8d23e644e8dad38f77cd1752760daaa20c8", func := "loop.example/g03314/laws.FnVisitShapes", spec := "fnVisitShapes", unfollowed := true, recurses := true, apart := false, narrowed := true }
def FnVisitShapesUptoSaid : Prop := fnVisitShapesUptoRow.holds Try.pinned (OpenSpec.upto fnVisitShapesSpec)

end Rows
end Go.Proofs.Ytjmplnfiabmalaa
