/-
  No cell of these rows narrows 'for every input' (looked for: loops, veiled, ifaces, maps, wideKeys, modest, calm, conditions, laid).
  DERIVED. THE GIVEN ROWS OF THIS SEAT. 8 by the template 'for every input the law returns true; each argument reads behind the call as it read before'; 0 by the template 'total and deterministic' (their statements: YtehniaekfijmiaaTotals.lean).
  GIVEN WITH THE SEED: the statements are not yours to turn. If you find one false, say at which input.
  Laid BY PROGRAM, IN A SANDBOX (cutbox-rows.mjs): the forced cells as the released guide's own fill.sh prints them over the translation 8f9461df2eadab83… (all of the seat's roots in one cut). By AI agents, Wed Nov 11 2026. No macro, syntax, notation, axiom, sorry.
-/
import Derived.Test.YtehniaekfijmiaaChecked
import GoSem.Claim
import GoSem.ClaimJoined
import GoSem.ClaimMapViews
import Derived.JoinedTies
import Derived.KernelRfl
namespace Go.Proofs.Ytehniaekfijmiaa
/- THE CELL 'sum', in the pinned program and in every row, IS THE sha256 OF THE DUMP (.gsa) THAT YtehniaekfijmiaaProg.lean LOADS. Nothing in Lean hashes anything: it is a label: what it is worth is what the hold of that sum in a sandbox is worth. -/
noncomputable def Try.pinned : Pinned := { name := "ytehniaekfijmiaa", sum := "8f9461df2eadab838cf842bacdaa418a29c2c5b9245879d477c63927b37001dd", checked := Try.checked }
namespace Rows
def none {H : Type} : Left H := { results := [], args := [] }

/-- 'laws.FnExactRunMachine': WHATEVER THE INPUT: true; the input reads as it did. -/
def fnExactRunMachineSpec : ChangeSpec := { name := "fnExactRunMachine", fn := fun _ => fun
  | [d1, d2, d3] => { results := [.lit (.bool true)], args := [d1, d2, d3] }
  | _ => none }
def fnExactRunMachineRow : OpenClaim := { program := "ytehniaekfijmiaa", sum := "8f9461df2eadab838cf842bacdaa418a29c2c5b9245879d477c63927b37001dd", func := "loop.example/g03314/laws.FnExactRunMachine", spec := "fnExactRunMachine", apart := false }
def FnExactRunMachineSaid : Prop := fnExactRunMachineRow.holds Try.pinned (OpenSpec.ofChange fnExactRunMachineSpec)

/-- ITS FALSE NEIGHBOUR: 'it returns false'. Refute it at one input. -/
def fnExactRunMachineWrong : ChangeSpec := { name := "fnExactRunMachine", fn := fun _ => fun
  | [d1, d2, d3] => { results := [.lit (.bool false)], args := [d1, d2, d3] }
  | _ => none }
def FnExactRunMachineWrongFalsely : Prop := fnExactRunMachineRow.holds Try.pinned (OpenSpec.ofChange fnExactRunMachineWrong)

/-- 'laws.FnExactInterpret': WHATEVER THE INPUT: true; the input reads as it did. -/
def fnExactInterpretSpec : ChangeSpec := { name := "fnExactInterpret", fn := fun _ => fun
  | [d1, d2] => { results := [.lit (.bool true)], args := [d1, d2] }
  | _ => none }
def fnExactInterpretRow : OpenClaim := { program := "ytehniaekfijmiaa", sum := "8f9461df2eadab838cf842bacdaa418a29c2c5b9245879d477c63927b37001dd", func := "loop.example/g03314/laws.FnExactInterpret", spec := "fnExactInterpret", unfollowed := true, recurses := true, apart := false }
def FnExactInterpretSaid : Prop := fnExactInterpretRow.holds Try.pinned (OpenSpec.ofChange fnExactInterpretSpec)

/-- ITS FALSE NEIGHBOUR: 'it returns false'. Refute it at one input. -/
def fnExactInterpretWrong : ChangeSpec := { name := "fnExactInterpret", fn := fun _ => fun
  | [d1, d2] => { results := [.lit (.bool false)], args := [d1, d2] }
  | _ => none }
def FnExactInterpretWrongFalsely : Prop := fnExactInterpretRow.holds Try.pinned (OpenSpec.ofChange fnExactInterpretWrong)

/-- 'laws.FnExactInlinesOf': WHATEVER THE INPUT: true; the input reads as it did. -/
def fnExactInlinesOfSpec : ChangeSpec := { name := "fnExactInlinesOf", fn := fun _ => fun
  | [d1, d2] => { results := [.lit (.bool true)], args := [d1, d2] }
  | _ => none }
def fnExactInlinesOfRow : OpenClaim := { program := "ytehniaekfijmiaa", sum := "8f9461df2eadab838cf842bacdaa418a29c2c5b9245879d477c63927b37001dd", func := "loop.example/g03314/laws.FnExactInlinesOf", spec := "fnExactInlinesOf", apart := false }
def FnExactInlinesOfSaid : Prop := fnExactInlinesOfRow.holds Try.pinned (OpenSpec.ofChange fnExactInlinesOfSpec)

/-- ITS FALSE NEIGHBOUR: 'it returns false'. Refute it at one input. -/
def fnExactInlinesOfWrong : ChangeSpec := { name := "fnExactInlinesOf", fn := fun _ => fun
  | [d1, d2] => { results := [.lit (.bool false)], args := [d1, d2] }
  | _ => none }
def FnExactInlinesOfWrongFalsely : Prop := fnExactInlinesOfRow.holds Try.pinned (OpenSpec.ofChange fnExactInlinesOfWrong)

/-- 'laws.FnRuleBytes': WHATEVER THE INPUT: true; the input reads as it did. -/
def fnRuleBytesSpec : ChangeSpec := { name := "fnRuleBytes", fn := fun _ => fun
  | [d] => { results := [.lit (.bool true)], args := [d] }
  | _ => none }
def fnRuleBytesRow : OpenClaim := { program := "ytehniaekfijmiaa", sum := "8f9461df2eadab838cf842bacdaa418a29c2c5b9245879d477c63927b37001dd", func := "loop.example/g03314/laws.FnRuleBytes", spec := "fnRuleBytes", recurses := true, apart := false }
def FnRuleBytesSaid : Prop := fnRuleBytesRow.holds Try.pinned (OpenSpec.ofChange fnRuleBytesSpec)

/-- ITS FALSE NEIGHBOUR: 'it returns false'. Refute it at one input. -/
def fnRuleBytesWrong : ChangeSpec := { name := "fnRuleBytes", fn := fun _ => fun
  | [d] => { results := [.lit (.bool false)], args := [d] }
  | _ => none }
def FnRuleBytesWrongFalsely : Prop := fnRuleBytesRow.holds Try.pinned (OpenSpec.ofChange fnRuleBytesWrong)

/-- 'laws.FnRules': WHATEVER THE INPUT: true; the input reads as it did. -/
def fnRulesSpec : ChangeSpec := { name := "fnRules", fn := fun _ => fun
  | [d] => { results := [.lit (.bool true)], args := [d] }
  | _ => none }
def fnRulesRow : OpenClaim := { program := "ytehniaekfijmiaa", sum := "8f9461df2eadab838cf842bacdaa418a29c2c5b9245879d477c63927b37001dd", func := "loop.example/g03314/laws.FnRules", spec := "fnRules", recurses := true, apart := false }
def FnRulesSaid : Prop := fnRulesRow.holds Try.pinned (OpenSpec.ofChange fnRulesSpec)

/-- ITS FALSE NEIGHBOUR: 'it returns false'. Refute it at one input. -/
def fnRulesWrong : ChangeSpec := { name := "fnRules", fn := fun _ => fun
  | [d] => { results := [.lit (.bool false)], args := [d] }
  | _ => none }
def FnRulesWrongFalsely : Prop := fnRulesRow.holds Try.pinned (OpenSpec.ofChange fnRulesWrong)

/-- 'laws.FnRows': WHATEVER THE INPUT: true; the input reads as it did. -/
def fnRowsSpec : ChangeSpec := { name := "fnRows", fn := fun _ => fun
  | [d] => { results := [.lit (.bool true)], args := [d] }
  | _ => none }
def fnRowsRow : OpenClaim := { program := "ytehniaekfijmiaa", sum := "8f9461df2eadab838cf842bacdaa418a29c2c5b9245879d477c63927b37001dd", func := "loop.example/g03314/laws.FnRows", spec := "fnRows", recurses := true, apart := false }
def FnRowsSaid : Prop := fnRowsRow.holds Try.pinned (OpenSpec.ofChange fnRowsSpec)

/-- ITS FALSE NEIGHBOUR: 'it returns false'. Refute it at one input. -/
def fnRowsWrong : ChangeSpec := { name := "fnRows", fn := fun _ => fun
  | [d] => { results := [.lit (.bool false)], args := [d] }
  | _ => none }
def FnRowsWrongFalsely : Prop := fnRowsRow.holds Try.pinned (OpenSpec.ofChange fnRowsWrong)

/-- 'laws.FnLimits': WHATEVER THE INPUT: true; the input reads as it did. -/
def fnLimitsSpec : ChangeSpec := { name := "fnLimits", fn := fun _ => fun
  | [d] => { results := [.lit (.bool true)], args := [d] }
  | _ => none }
def fnLimitsRow : OpenClaim := { program := "ytehniaekfijmiaa", sum := "8f9461df2eadab838cf842bacdaa418a29c2c5b9245879d477c63927b37001dd", func := "loop.example/g03314/laws.FnLimits", spec := "fnLimits", unfollowed := true, recurses := true, apart := false }
def FnLimitsSaid : Prop := fnLimitsRow.holds Try.pinned (OpenSpec.ofChange fnLimitsSpec)

/-- ITS FALSE NEIGHBOUR: 'it returns false'. Refute it at one input. -/
def fnLimitsWrong : ChangeSpec := { name := "fnLimits", fn := fun _ => fun
  | [d] => { results := [.lit (.bool false)], args := [d] }
  | _ => none }
def FnLimitsWrongFalsely : Prop := fnLimitsRow.holds Try.pinned (OpenSpec.ofChange fnLimitsWrong)

/-- 'laws.FnVisitShapes': WHATEVER THE INPUT: true; the input reads as it did. -/
def fnVisitShapesSpec : ChangeSpec := { name := "fnVisitShapes", fn := fun _ => fun
  | [d] => { results := [.lit (.bool true)], args := [d] }
  | _ => none }
def fnVisitShapesRow : OpenClaim := { program := "ytehniaekfijmiaa", sum := "8f9461df2eadab838cf842bacdaa418a29c2c5b9245879d477c63927b37001dd", func := "loop.example/g03314/laws.FnVisitShapes", spec := "fnVisitShapes", unfollowed := true, recurses := true, apart := false }
def FnVisitShapesSaid : Prop := fnVisitShapesRow.holds Try.pinned (OpenSpec.ofChange fnVisitShapesSpec)

/-- ITS FALSE NEIGHBOUR: 'it returns false'. Refute it at one input. -/
def fnVisitShapesWrong : ChangeSpec := { name := "fnVisitShapes", fn := fun _ => fun
  | [d] => { results := [.lit (.bool false)], args := [d] }
  | _ => none }
def FnVisitShapesWrongFalsely : Prop := fnVisitShapesRow.holds Try.pinned (OpenSpec.ofChange fnVisitShapesWrong)

/- THE SECOND FORM. 'bulk': how many values and letters a reading holds, each counted each time it is reached (what is shared counts as often as it is met; a slice's spare places count too). A statement '..UptoSaid' is the law's where the arguments, and the package variables that the reading takes, are together of bulk at most 1048576: NARROWER than '..Said'. Prove '..Said' where nothing that the law and all that it calls make is longer than what came in: it says more and counts as full. Else prove '..UptoSaid'. A law counts once. -/
mutual
def uptoBulk {H : Type} : DataW H → Nat
  | .lit (.string bytes) => bytes.length + 1
  | .lit _ => 1
  | .nil => 1
  | .ptr d => uptoBulk d + 1
  | .slice elems spare => uptoBulkAll elems + uptoBulkAll spare + 1
  | .agg parts => uptoBulkAll parts + 1
  | .iface _ d => uptoBulk d + 1
  | .map entries => uptoBulkEntries entries + 1
  | .held _ => 1
def uptoBulkAll {H : Type} : List (DataW H) → Nat
  | [] => 0
  | d :: r => uptoBulk d + uptoBulkAll r
def uptoBulkEntries {H : Type} : List (Lit × DataW H) → Nat
  | [] => 0
  | x :: r => uptoBulkEntry x + uptoBulkEntries r
def uptoBulkEntry {H : Type} : Lit × DataW H → Nat
  | (.string bytes, d) => bytes.length + uptoBulk d + 1
  | (_, d) => uptoBulk d + 1
 end
def uptoSmall : (H : Type) → List (DataW H) → Bool := fun _ ds => decide (uptoBulkAll ds ≤ 1048576)
def OpenSpec.upto (s : _root_.Go.ChangeSpec) : _root_.Go.OpenSpec := { _root_.Go.OpenSpec.ofChange s with cond := some uptoSmall }

/-- 'laws.FnExactRunMachine', WHERE WHAT IT READS IS OF BULK AT MOST 1048576: true; the input reads as it did. -/
def fnExactRunMachineUptoRow : OpenClaim := { program := "ytehniaekfijmiaa", sum := "8f9461df2eadab838cf842bacdaa418a29c2c5b9245879d477c63927b37001dd", func := "loop.example/g03314/laws.FnExactRunMachine", spec := "fnExactRunMachine", apart := false, narrowed := true }
def FnExactRunMachineUptoSaid : Prop := fnExactRunMachineUptoRow.holds Try.pinned (OpenSpec.upto fnExactRunMachineSpec)

/-- 'laws.FnExactInterpret', WHERE WHAT IT READS IS OF BULK AT MOST 1048576: true; the input reads as it did. -/
def fnExactInterpretUptoRow : OpenClaim := { program := "ytehniaekfijmiaa", sum := "8f9461df2eadab838cf842bacdaa418a29c2c5b9245879d477c63927b37001dd", func := "loop.example/g03314/laws.FnExactInterpret", spec := "fnExactInterpret", unfollowed := true, recurses := true, apart := false, narrowed := true }
def FnExactInterpretUptoSaid : Prop := fnExactInterpretUptoRow.holds Try.pinned (OpenSpec.upto fnExactInterpretSpec)

/-- 'laws.FnExactInlinesOf', WHERE WHAT IT READS IS OF BULK AT MOST 1048576: true; the input reads as it did. -/
def fnExactInlinesOfUptoRow : OpenClaim := { program := "ytehniaekfijmiaa", sum := "8f9461df2eadab838cf842bacdaa418a29c2c5b9245879d477c63927b37001dd", func := "loop.example/g03314/laws.FnExactInlinesOf", spec := "fnExactInlinesOf", apart := false, narrowed := true }
def FnExactInlinesOfUptoSaid : Prop := fnExactInlinesOfUptoRow.holds Try.pinned (OpenSpec.upto fnExactInlinesOfSpec)

/-- 'laws.FnRuleBytes', WHERE WHAT IT READS IS OF BULK AT MOST 1048576: true; the input reads as it did. -/
def fnRuleBytesUptoRow : OpenClaim := { program := "ytehniaekfijmiaa", sum := "8f9461df2eadab838cf842bacdaa418a29c2c5b9245879d477c63927b37001dd", func := "loop.example/g03314/laws.FnRuleBytes", spec := "fnRuleBytes", recurses := true, apart := false, narrowed := true }
def FnRuleBytesUptoSaid : Prop := fnRuleBytesUptoRow.holds Try.pinned (OpenSpec.upto fnRuleBytesSpec)

/-- 'laws.FnRules', WHERE WHAT IT READS IS OF BULK AT MOST 1048576: true; the input reads as it did. -/
def fnRulesUptoRow : OpenClaim := { program := "ytehniaekfijmiaa", sum := "8f9461df2eadab838cf842bacdaa418a29c2c5b9245879d477c63927b37001dd", func := "loop.example/g03314/laws.FnRules", spec := "fnRules", recurses := true, apart := false, narrowed := true }
def FnRulesUptoSaid : Prop := fnRulesUptoRow.holds Try.pinned (OpenSpec.upto fnRulesSpec)

/-- 'laws.FnRows', WHERE WHAT IT READS IS OF BULK AT MOST 1048576: true; the input reads as it did. -/
def fnRowsUptoRow : OpenClaim := { program := "ytehniaekfijmiaa", sum := "8f9461df2eadab838cf842bacdaa418a29c2c5b9245879d477c63927b37001dd", func := "loop.example/g03314/laws.FnRows", spec := "fnRows", recurses := true, apart := false, narrowed := true }
def FnRowsUptoSaid : Prop := fnRowsUptoRow.holds Try.pinned (OpenSpec.upto fnRowsSpec)

/-- 'laws.FnLimits', WHERE WHAT IT READS IS OF BULK AT MOST 1048576: true; the input reads as it did. -/
def fnLimitsUptoRow : OpenClaim := { program := "ytehniaekfijmiaa", sum := "8f9461df2eadab838cf842bacdaa418a29c2c5b9245879d477c63927b37001dd", func := "loop.example/g03314/laws.FnLimits", spec := "fnLimits", unfollowed := true, recurses := true, apart := false, narrowed := true }
def FnLimitsUptoSaid : Prop := fnLimitsUptoRow.holds Try.pinned (OpenSpec.upto fnLimitsSpec)

/-- 'laws.FnVisitShapes', WHERE WHAT IT READS IS OF BULK AT MOST 1048576: true; the input reads as it did. -/
def fnVisitShapesUptoRow : OpenClaim := { program := "ytehniaekfijmiaa", sum := "8f9461df2eadab838cf842bacdaa418a29c2c5b9245879d477c63927b37001dd", func := "loop.example/g03314/laws.FnVisitShapes", spec := "fnVisitShapes", unfollowed := true, recurses := true, apart := false, narrowed := true }
def FnVisitShapesUptoSaid : Prop := fnVisitShapesUptoRow.holds Try.pinned (OpenSpec.upto fnVisitShapesSpec)

end Rows
end Go.Proofs.Ytehniaekfijmiaa
