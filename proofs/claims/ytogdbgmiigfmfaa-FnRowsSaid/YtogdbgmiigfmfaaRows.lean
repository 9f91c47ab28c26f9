/-
  No cell of these rows narrows 'for every input' (looked for: loops, veiled, ifaces, maps, wideKeys, modest, calm, conditions, laid).
  DERIVED. THE GIVEN ROWS OF THIS SEAT. 7 by the template 'for every input the law returns true; each argument reads behind the call as it read before'; 0 by the template 'total and deterministic' (their statements: YtogdbgmiigfmfaaTotals.lean).
  GIVEN WITH THE SEED: the statements are not yours to turn. If you find one false, say at which input.
  Laid BY PROGRAM, IN A SANDBOX (cutbox-rows.mjs): the forced cells as the released guide's own fill.sh prints them over the translation 7897a00729cc295f… (all of the seat's roots in one cut). By AI agents, Wed Nov 11 2026. No macro, syntax, notation, axiom, sorry.
-/
import Derived.Test.YtogdbgmiigfmfaaChecked
import GoSem.Claim
import GoSem.ClaimJoined
import GoSem.ClaimMapViews
import Derived.JoinedTies
import Derived.KernelRfl
namespace Go.Proofs.Ytogdbgmiigfmfaa
/- THE CELL 'sum', in the pinned program and in every row, IS THE sha256 OF THE DUMP (.gsa) THAT YtogdbgmiigfmfaaProg.lean LOADS. Nothing in Lean hashes anything: it is a label: what it is worth is what the hold of that sum in a sandbox is worth. -/
noncomputable def Try.pinned : Pinned := { name := "ytogdbgmiigfmfaa", sum := "7897a00729cc295f573e97b582be1f91c0153a90dcaa5b4d0b97112b1e2d051b", checked := Try.checked }
namespace Rows
def none {H : Type} : Left H := { results := [], args := [] }

/-- 'laws.FnExactInterpret': WHATEVER THE INPUT: true; the input reads as it did. -/
def fnExactInterpretSpec : ChangeSpec := { name := "fnExactInterpret", fn := fun _ => fun
  | [d1, d2] => { results := [.lit (.bool true)], args := [d1, d2] }
  | _ => none }
def fnExactInterpretRow : OpenClaim := { program := "ytogdbgmiigfmfaa", sum := "7897a00729cc295f573e97b582be1f91c0153a90dcaa5b4d0b97112b1e2d051b", func := "loop.example/g03314/laws.FnExactInterpret", spec := "fnExactInterpret", unfollowed := true, recurses := true, apart := false }
def FnExactInterpretSaid : Prop := fnExactInterpretRow.holds Try.pinned (OpenSpec.ofChange fnExactInterpretSpec)

/-- ITS FALSE NEIGHBOUR: 'it returns false'. Refute it at one input. -/
def fnExactInterpretWrong : ChangeSpec := { name := "fnExactInterpret", fn := fun _ => fun
  | [d1, d2] => { results := [.lit (.bool false)], args := [d1, d2] }
  | _ => none }
def FnExactInterpretWrongFalsely : Prop := fnExactInterpretRow.holds Try.pinned (OpenSpec.ofChange fnExactInterpretWrong)

/-- 'laws.FnFolded': WHATEVER THE INPUT: true; the input reads as it did. -/
def fnFoldedSpec : ChangeSpec := { name := "fnFolded", fn := fun _ => fun
  | [d] => { results := [.lit (.bool true)], args := [d] }
  | _ => none }
def fnFoldedRow : OpenClaim := { program := "ytogdbgmiigfmfaa", sum := "7897a00729cc295f573e97b582be1f91c0153a90dcaa5b4d0b97112b1e2d051b", func := "loop.example/g03314/laws.FnFolded", spec := "fnFolded", recurses := true, apart := false }
def FnFoldedSaid : Prop := fnFoldedRow.holds Try.pinned (OpenSpec.ofChange fnFoldedSpec)

/-- ITS FALSE NEIGHBOUR: 'it returns false'. Refute it at one input. -/
def fnFoldedWrong : ChangeSpec := { name := "fnFolded", fn := fun _ => fun
  | [d] => { results := [.lit (.bool false)], args := [d] }
  | _ => none }
def FnFoldedWrongFalsely : Prop := fnFoldedRow.holds Try.pinned (OpenSpec.ofChange fnFoldedWrong)

/-- 'laws.FnVisitShapes': WHATEVER THE INPUT: true; the input reads as it did. -/
def fnVisitShapesSpec : ChangeSpec := { name := "fnVisitShapes", fn := fun _ => fun
  | [d] => { results := [.lit (.bool true)], args := [d] }
  | _ => none }
def fnVisitShapesRow : OpenClaim := { program := "ytogdbgmiigfmfaa", sum := "7897a00729cc295f573e97b582be1f91c0153a90dcaa5b4d0b97112b1e2d051b", func := "loop.example/g03314/laws.FnVisitShapes", spec := "fnVisitShapes", unfollowed := true, recurses := true, apart := false }
def FnVisitShapesSaid : Prop := fnVisitShapesRow.holds Try.pinned (OpenSpec.ofChange fnVisitShapesSpec)

/-- ITS FALSE NEIGHBOUR: 'it returns false'. Refute it at one input. -/
def fnVisitShapesWrong : ChangeSpec := { name := "fnVisitShapes", fn := fun _ => fun
  | [d] => { results := [.lit (.bool false)], args := [d] }
  | _ => none }
def FnVisitShapesWrongFalsely : Prop := fnVisitShapesRow.holds Try.pinned (OpenSpec.ofChange fnVisitShapesWrong)

/-- 'laws.FnLimits': WHATEVER THE INPUT: true; the input reads as it did. -/
def fnLimitsSpec : ChangeSpec := { name := "fnLimits", fn := fun _ => fun
  | [d] => { results := [.lit (.bool true)], args := [d] }
  | _ => none }
def fnLimitsRow : OpenClaim := { program := "ytogdbgmiigfmfaa", sum := "7897a00729cc295f573e97b582be1f91c0153a90dcaa5b4d0b97112b1e2d051b", func := "loop.example/g03314/laws.FnLimits", spec := "fnLimits", unfollowed := true, recurses := true, apart := false }
def FnLimitsSaid : Prop := fnLimitsRow.holds Try.pinned (OpenSpec.ofChange fnLimitsSpec)

/-- ITS FALSE NEIGHBOUR: 'it returns false'. Refute it at one input. -/
def fnLimitsWrong : ChangeSpec := { name := "fnLimits", fn := fun _ => fun
  | [d] => { results := [.lit (.bool false)], args := [d] }
  | _ => none }
def FnLimitsWrongFalsely : Prop := fnLimitsRow.holds Try.pinned (OpenSpec.ofChange fnLimitsWrong)

/-- 'laws.FnRules': WHATEVER THE INPUT: true; the input reads as it did. -/
def fnRulesSpec : ChangeSpec := { name := "fnRules", fn := fun _ => fun
  | [d] => { results := [.lit (.bool true)], args := [d] }
  | _ => none }
def fnRulesRow : OpenClaim := { program := "ytogdbgmiigfmfaa", sum := "7897a00729cc295f573e97b582be1f91c0153a90dcaa5b4d0b97112b1e2d051b", func := "loop.example/g03314/laws.FnRules", spec := "fnRules", recurses := true, apart := false }
def FnRulesSaid : Prop := fnRulesRow.holds Try.pinned (OpenSpec.ofChange fnRulesSpec)

/-- ITS FALSE NEIGHBOUR: 'it returns false'. Refute it at one input. -/
def fnRulesWrong : ChangeSpec := { name := "fnRules", fn := fun _ => fun
  | [d] => { results := [.lit (.bool false)], args := [d] }
  | _ => none }
def FnRulesWrongFalsely : Prop := fnRulesRow.holds Try.pinned (OpenSpec.ofChange fnRulesWrong)

/-- 'laws.FnRuleBytes': WHATEVER THE INPUT: true; the input reads as it did. -/
def fnRuleBytesSpec : ChangeSpec := { name := "fnRuleBytes", fn := fun _ => fun
  | [d] => { results := [.lit (.bool true)], args := [d] }
  | _ => none }
def fnRuleBytesRow : OpenClaim := { program := "ytogdbgmiigfmfaa", sum := "7897a00729cc295f573e97b582be1f91c0153a90dcaa5b4d0b97112b1e2d051b", func := "loop.example/g03314/laws.FnRuleBytes", spec := "fnRuleBytes", recurses := true, apart := false }
def FnRuleBytesSaid : Prop := fnRuleBytesRow.holds Try.pinned (OpenSpec.ofChange fnRuleBytesSpec)

/-- ITS FALSE NEIGHBOUR: 'it returns false'. Refute it at one input. -/
def fnRuleBytesWrong : ChangeSpec := { name := "fnRuleBytes", fn := fun _ => fun
  | [d] => { results := [.lit (.bool false)], args := [d] }
  | _ => none }
def FnRuleBytesWrongFalsely : Prop := fnRuleBytesRow.holds Try.pinned (OpenSpec.ofChange fnRuleBytesWrong)

/-- 'laws.FnRows': WHATEVER THE INPUT: true; the input reads as it did. -/
def fnRowsSpec : ChangeSpec := { name := "fnRows", fn := fun _ => fun
  | [d] => { results := [.lit (.bool true)], args := [d] }
  | _ => none }
def fnRowsRow : OpenClaim := { program := "ytogdbgmiigfmfaa", sum := "7897a00729cc295f573e97b582be1f91c0153a90dcaa5b4d0b97112b1e2d051b", func := "loop.example/g03314/laws.FnRows", spec := "fnRows", recurses := true, apart := false }
def FnRowsSaid : Prop := fnRowsRow.holds Try.pinned (OpenSpec.ofChange fnRowsSpec)

/-- ITS FALSE NEIGHBOUR: 'it returns false'. Refute it at one input. -/
def fnRowsWrong : ChangeSpec := { name := "fnRows", fn := fun _ => fun
  | [d] => { results := [.lit (.bool false)], args := [d] }
  | _ => none }
def FnRowsWrongFalsely : Prop := fnRowsRow.holds Try.pinned (OpenSpec.ofChange fnRowsWrong)

/- THE SECOND FORM. 'bulk': how many values and letters a reading holds, each counted each time it is reached (what is shared counts as often as it is met; a slice's spare places count too). A statement '..UptoSaid' is the law's where the arguments, and the package variables that the reading takes, are together of bulk at most 1048576: NARROWER than '..Said'. Prove '..Said' where nothing that the law and all that it calls make is longer than what came in: it says more and counts as full. Else prove '..UptoSaid'. A law counts once. -/
mutual
def uptoBulk {H : Type} : DataW H → Nat
  | .lit (.string bytes) => bytes.length + 1
  | .lit _ => 1
  | .nil => 1
  | .ptr d => uptoBulk d + 1
  | .slice elems spare => uptoBulkAll elems + uptoBulkAll spare + 1
  | .agg parts => uptoBulkAll parts + 1
  | .iface _ d => uptoBulk d + 1
  | .map entries => uptoBulkEntries entries + 1
  | .held _ => 1
def uptoBulkAll {H : Type} : List (DataW H) → Nat
  | [] => 0
  | d :: r => uptoBulk d + uptoBulkAll r
def uptoBulkEntries {H : Type} : List (Lit × DataW H) → Nat
  | [] => 0
  | x :: r => uptoBulkEntry x + uptoBulkEntries r
def uptoBulkEntry {H : Type} : Lit × DataW H → Nat
  | (.string bytes, d) => bytes.length + uptoBulk d + 1
  | (_, d) => uptoBulk d + 1
 end
def uptoSmall : (H : Type) → List (DataW H) → Bool := fun _ ds => decide (uptoBulkAll ds ≤ 1048576)
def OpenSpec.upto (s : _root_.Go.ChangeSpec) : _root_.Go.OpenSpec := { _root_.Go.OpenSpec.ofChange s with cond := some uptoSmall }

/-- 'laws.FnExactInterpret', WHERE WHAT IT READS IS OF BULK AT MOST 1048576: true; the input reads as it did. -/
def fnExactInterpretUptoRow : OpenClaim := { program := "ytogdbgmiigfmfaa", sum := "7897a00729cc295f573e97b582be1f91c0153a90dcaa5b4d0b97112b1e2d051b", func := "loop.example/g03314/laws.FnExactInterpret", spec := "fnExactInterpret", unfollowed := true, recurses := true, apart := false, narrowed := true }
def FnExactInterpretUptoSaid : Prop := fnExactInterpretUptoRow.holds Try.pinned (OpenSpec.upto fnExactInterpretSpec)

/-- 'laws.FnFolded', WHERE WHAT IT READS IS OF BULK AT MOST 1048576: true; the input reads as it did. -/
def fnFoldedUptoRow : OpenClaim := { program := "ytogdbgmiigfmfaa", sum := "7897a00729cc295f573e97b582be1f91c0153a90dcaa5b4d0b97112b1e2d051b", func := "loop.example/g03314/laws.FnFolded", spec := "fnFolded", recurses := true, apart := false, narrowed := true }
def FnFoldedUptoSaid : Prop := fnFoldedUptoRow.holds Try.pinned (OpenSpec.upto fnFoldedSpec)

/-- 'laws.FnVisitShapes', WHERE WHAT IT READS IS OF BULK AT MOST 1048576: true; the input reads as it did. -/
def fnVisitShapesUptoRow : OpenClaim := { program := "ytogdbgmiigfmfaa", sum := "7897a00729cc295f573e97b582be1f91c0153a90dcaa5b4d0b97112b1e2d051b", func := "loop.example/g03314/laws.FnVisitShapes", spec := "fnVisitShapes", unfollowed := true, recurses := true, apart := false, narrowed := true }
def FnVisitShapesUptoSaid : Prop := fnVisitShapesUptoRow.holds Try.pinned (OpenSpec.upto fnVisitShapesSpec)

/-- 'laws.FnLimits', WHERE WHAT IT READS IS OF BULK AT MOST 1048576: true; the input reads as it did. -/
def fnLimitsUptoRow : OpenClaim := { program := "ytogdbgmiigfmfaa", sum := "7897a00729cc295f573e97b582be1f91c0153a90dcaa5b4d0b97112b1e2d051b", func := "loop.example/g03314/laws.FnLimits", spec := "fnLimits", unfollowed := true, recurses := true, apart := false, narrowed := true }
def FnLimitsUptoSaid : Prop := fnLimitsUptoRow.holds Try.pinned (OpenSpec.upto fnLimitsSpec)

/-- 'laws.FnRules', WHERE WHAT IT READS IS OF BULK AT MOST 1048576: true; the input reads as it did. -/
def fnRulesUptoRow : OpenClaim := { program := "ytogdbgmiigfmfaa", sum := "7897a00729cc295f573e97b582be1f91c0153a90dcaa5b4d0b97112b1e2d051b", func := "loop.example/g03314/laws.FnRules", spec := "fnRules", recurses := true, apart := false, narrowed := true }
def FnRulesUptoSaid : Prop := fnRulesUptoRow.holds Try.pinned (OpenSpec.upto fnRulesSpec)

/-- 'laws.FnRuleBytes', WHERE WHAT IT READS IS OF BULK AT MOST 1048576: true; the input reads as it did. -/
def fnRuleBytesUptoRow : OpenClaim := { program := "ytogdbgmiigfmfaa", sum := "7897a00729cc295f573e97b582be1f91c0153a90dcaa5b4d0b97112b1e2d051b", func := "loop.example/g03314/laws.FnRuleBytes", spec := "fnRuleBytes", recurses := true, apart := false, narrowed := true }
def FnRuleBytesUptoSaid : Prop := fnRuleBytesUptoRow.holds Try.pinned (OpenSpec.upto fnRuleBytesSpec)

/-- 'laws.FnRows', WHERE WHAT IT READS IS OF BULK AT MOST 1048576: true; the input reads as it did. -/
def fnRowsUptoRow : OpenClaim := { program := "ytogdbgmiigfmfaa", sum := "7897a00729cc295f573e97b582be1f91c0153a90dcaa5b4d0b97112b1e2d051b", func := "loop.example/g03314/laws.FnRows", spec := "fnRows", recurses := true, apart := false, narrowed := true }
def FnRowsUptoSaid : Prop := fnRowsUptoRow.holds Try.pinned (OpenSpec.upto fnRowsSpec)

end Rows
end Go.Proofs.Ytogdbgmiigfmfaa
