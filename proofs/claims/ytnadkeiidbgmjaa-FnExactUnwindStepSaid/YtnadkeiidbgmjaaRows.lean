/-
  No cell of these rows narrows 'for every input' (looked for: loops, veiled, ifaces, maps, wideKeys, modest, calm, conditions, laid).
  DERIVED. THE GIVEN ROWS OF THIS SEAT. 12 by the template 'for every input the law returns true; each argument reads behind the call as it read before'; 0 by the template 'total and deterministic' (their statements: YtnadkeiidbgmjaaTotals.lean).
  GIVEN WITH THE SEED: the statements are not yours to turn. If you find one false, say at which input.
  Laid BY PROGRAM, IN A SANDBOX (cutbox-rows.mjs): the forced cells as the released guide's own fill.sh prints them over the translation 62cdf043f31fd9c4… (all of the seat's roots in one cut). By AI agents, Wed Nov 11 2026. No macro, syntax, notation, axiom, sorry.
-/
import Derived.Test.YtnadkeiidbgmjaaChecked
import GoSem.Claim
import GoSem.ClaimJoined
import GoSem.ClaimMapViews
import Derived.JoinedTies
import Derived.KernelRfl
namespace Go.Proofs.Ytnadkeiidbgmjaa
/- THE CELL 'sum', in the pinned program and in every row, IS THE sha256 OF THE DUMP (.gsa) THAT YtnadkeiidbgmjaaProg.lean LOADS. Nothing in Lean hashes anything: it is a label: what it is worth is what the hold of that sum in a sandbox is worth. -/
noncomputable def Try.pinned : Pinned := { name := "ytnadkeiidbgmjaa", sum := "62cdf043f31fd9c4789f0ca53bfc18bf407c53e312259472d79177bd0537af92", checked := Try.checked }
namespace Rows
def none {H : Type} : Left H := { results := [], args := [] }

/-- 'laws.FnExactUnpackInts': WHATEVER THE INPUT: true; the input reads as it did. -/
def fnExactUnpackIntsSpec : ChangeSpec := { name := "fnExactUnpackInts", fn := fun _ => fun
  | [d1, d2] => { results := [.lit (.bool true)], args := [d1, d2] }
  | _ => none }
def fnExactUnpackIntsRow : OpenClaim := { program := "ytnadkeiidbgmjaa", sum := "62cdf043f31fd9c4789f0ca53bfc18bf407c53e312259472d79177bd0537af92", func := "loop.example/g03314/laws.FnExactUnpackInts", spec := "fnExactUnpackInts", apart := false }
def FnExactUnpackIntsSaid : Prop := fnExactUnpackIntsRow.holds Try.pinned (OpenSpec.ofChange fnExactUnpackIntsSpec)

/-- ITS FALSE NEIGHBOUR: 'it returns false'. Refute it at one input. -/
def fnExactUnpackIntsWrong : ChangeSpec := { name := "fnExactUnpackInts", fn := fun _ => fun
  | [d1, d2] => { results := [.lit (.bool false)], args := [d1, d2] }
  | _ => none }
def FnExactUnpackIntsWrongFalsely : Prop := fnExactUnpackIntsRow.holds Try.pinned (OpenSpec.ofChange fnExactUnpackIntsWrong)

/-- 'laws.FnExactViewOf': WHATEVER THE INPUT: true; the input reads as it did. -/
def fnExactViewOfSpec : ChangeSpec := { name := "fnExactViewOf", fn := fun _ => fun
  | [d1, d2] => { results := [.lit (.bool true)], args := [d1, d2] }
  | _ => none }
def fnExactViewOfRow : OpenClaim := { program := "ytnadkeiidbgmjaa", sum := "62cdf043f31fd9c4789f0ca53bfc18bf407c53e312259472d79177bd0537af92", func := "loop.example/g03314/laws.FnExactViewOf", spec := "fnExactViewOf", apart := false }
def FnExactViewOfSaid : Prop := fnExactViewOfRow.holds Try.pinned (OpenSpec.ofChange fnExactViewOfSpec)

/-- ITS FALSE NEIGHBOUR: 'it returns false'. Refute it at one input. -/
def fnExactViewOfWrong : ChangeSpec := { name := "fnExactViewOf", fn := fun _ => fun
  | [d1, d2] => { results := [.lit (.bool false)], args := [d1, d2] }
  | _ => none }
def FnExactViewOfWrongFalsely : Prop := fnExactViewOfRow.holds Try.pinned (OpenSpec.ofChange fnExactViewOfWrong)

/-- 'laws.FnExactInlinesAt': WHATEVER THE INPUT: true; the input reads as it did. -/
def fnExactInlinesAtSpec : ChangeSpec := { name := "fnExactInlinesAt", fn := fun _ => fun
  | [d1, d2] => { results := [.lit (.bool true)], args := [d1, d2] }
  | _ => none }
def fnExactInlinesAtRow : OpenClaim := { program := "ytnadkeiidbgmjaa", sum := "62cdf043f31fd9c4789f0ca53bfc18bf407c53e312259472d79177bd0537af92", func := "loop.example/g03314/laws.FnExactInlinesAt", spec := "fnExactInlinesAt", apart := false }
def FnExactInlinesAtSaid : Prop := fnExactInlinesAtRow.holds Try.pinned (OpenSpec.ofChange fnExactInlinesAtSpec)

/-- ITS FALSE NEIGHBOUR: 'it returns false'. Refute it at one input. -/
def fnExactInlinesAtWrong : ChangeSpec := { name := "fnExactInlinesAt", fn := fun _ => fun
  | [d1, d2] => { results := [.lit (.bool false)], args := [d1, d2] }
  | _ => none }
def FnExactInlinesAtWrongFalsely : Prop := fnExactInlinesAtRow.holds Try.pinned (OpenSpec.ofChange fnExactInlinesAtWrong)

/-- 'laws.FnExactRowsOf': WHATEVER THE INPUT: true; the input reads as it did. -/
def fnExactRowsOfSpec : ChangeSpec := { name := "fnExactRowsOf", fn := fun _ => fun
  | [d] => { results := [.lit (.bool true)], args := [d] }
  | _ => none }
def fnExactRowsOfRow : OpenClaim := { program := "ytnadkeiidbgmjaa", sum := "62cdf043f31fd9c4789f0ca53bfc18bf407c53e312259472d79177bd0537af92", func := "loop.example/g03314/laws.FnExactRowsOf", spec := "fnExactRowsOf", apart := false }
def FnExactRowsOfSaid : Prop := fnExactRowsOfRow.holds Try.pinned (OpenSpec.ofChange fnExactRowsOfSpec)

/-- ITS FALSE NEIGHBOUR: 'it returns false'. Refute it at one input. -/
def fnExactRowsOfWrong : ChangeSpec := { name := "fnExactRowsOf", fn := fun _ => fun
  | [d] => { results := [.lit (.bool false)], args := [d] }
  | _ => none }
def FnExactRowsOfWrongFalsely : Prop := fnExactRowsOfRow.holds Try.pinned (OpenSpec.ofChange fnExactRowsOfWrong)

/-- 'laws.FnExactDecodeRows': WHATEVER THE INPUT: true; the input reads as it did. -/
def fnExactDecodeRowsSpec : ChangeSpec := { name := "fnExactDecodeRows", fn := fun _ => fun
  | [d] => { results := [.lit (.bool true)], args := [d] }
  | _ => none }
def fnExactDecodeRowsRow : OpenClaim := { program := "ytnadkeiidbgmjaa", sum := "62cdf043f31fd9c4789f0ca53bfc18bf407c53e312259472d79177bd0537af92", func := "loop.example/g03314/laws.FnExactDecodeRows", spec := "fnExactDecodeRows", apart := false }
def FnExactDecodeRowsSaid : Prop := fnExactDecodeRowsRow.holds Try.pinned (OpenSpec.ofChange fnExactDecodeRowsSpec)

/-- ITS FALSE NEIGHBOUR: 'it returns false'. Refute it at one input. -/
def fnExactDecodeRowsWrong : ChangeSpec := { name := "fnExactDecodeRows", fn := fun _ => fun
  | [d] => { results := [.lit (.bool false)], args := [d] }
  | _ => none }
def FnExactDecodeRowsWrongFalsely : Prop := fnExactDecodeRowsRow.holds Try.pinned (OpenSpec.ofChange fnExactDecodeRowsWrong)

/-- 'laws.FnExactDecodeRules': WHATEVER THE INPUT: true; the input reads as it did. -/
def fnExactDecodeRulesSpec : ChangeSpec := { name := "fnExactDecodeRules", fn := fun _ => fun
  | [d] => { results := [.lit (.bool true)], args := [d] }
  | _ => none }
def fnExactDecodeRulesRow : OpenClaim := { program := "ytnadkeiidbgmjaa", sum := "62cdf043f31fd9c4789f0ca53bfc18bf407c53e312259472d79177bd0537af92", func := "loop.example/g03314/laws.FnExactDecodeRules", spec := "fnExactDecodeRules", apart := false }
def FnExactDecodeRulesSaid : Prop := fnExactDecodeRulesRow.holds Try.pinned (OpenSpec.ofChange fnExactDecodeRulesSpec)

/-- ITS FALSE NEIGHBOUR: 'it returns false'. Refute it at one input. -/
def fnExactDecodeRulesWrong : ChangeSpec := { name := "fnExactDecodeRules", fn := fun _ => fun
  | [d] => { results := [.lit (.bool false)], args := [d] }
  | _ => none }
def FnExactDecodeRulesWrongFalsely : Prop := fnExactDecodeRulesRow.holds Try.pinned (OpenSpec.ofChange fnExactDecodeRulesWrong)

/-- 'laws.FnExactRulesOf': WHATEVER THE INPUT: true; the input reads as it did. -/
def fnExactRulesOfSpec : ChangeSpec := { name := "fnExactRulesOf", fn := fun _ => fun
  | [d] => { results := [.lit (.bool true)], args := [d] }
  | _ => none }
def fnExactRulesOfRow : OpenClaim := { program := "ytnadkeiidbgmjaa", sum := "62cdf043f31fd9c4789f0ca53bfc18bf407c53e312259472d79177bd0537af92", func := "loop.example/g03314/laws.FnExactRulesOf", spec := "fnExactRulesOf", apart := false }
def FnExactRulesOfSaid : Prop := fnExactRulesOfRow.holds Try.pinned (OpenSpec.ofChange fnExactRulesOfSpec)

/-- ITS FALSE NEIGHBOUR: 'it returns false'. Refute it at one input. -/
def fnExactRulesOfWrong : ChangeSpec := { name := "fnExactRulesOf", fn := fun _ => fun
  | [d] => { results := [.lit (.bool false)], args := [d] }
  | _ => none }
def FnExactRulesOfWrongFalsely : Prop := fnExactRulesOfRow.holds Try.pinned (OpenSpec.ofChange fnExactRulesOfWrong)

/-- 'laws.FnExactDebugFits': WHATEVER THE INPUT: true; the input reads as it did. -/
def fnExactDebugFitsSpec : ChangeSpec := { name := "fnExactDebugFits", fn := fun _ => fun
  | [d1, d2] => { results := [.lit (.bool true)], args := [d1, d2] }
  | _ => none }
def fnExactDebugFitsRow : OpenClaim := { program := "ytnadkeiidbgmjaa", sum := "62cdf043f31fd9c4789f0ca53bfc18bf407c53e312259472d79177bd0537af92", func := "loop.example/g03314/laws.FnExactDebugFits", spec := "fnExactDebugFits", apart := false }
def FnExactDebugFitsSaid : Prop := fnExactDebugFitsRow.holds Try.pinned (OpenSpec.ofChange fnExactDebugFitsSpec)

/-- ITS FALSE NEIGHBOUR: 'it returns false'. Refute it at one input. -/
def fnExactDebugFitsWrong : ChangeSpec := { name := "fnExactDebugFits", fn := fun _ => fun
  | [d1, d2] => { results := [.lit (.bool false)], args := [d1, d2] }
  | _ => none }
def FnExactDebugFitsWrongFalsely : Prop := fnExactDebugFitsRow.holds Try.pinned (OpenSpec.ofChange fnExactDebugFitsWrong)

/-- 'laws.FnExactDecodeInlines': WHATEVER THE INPUT: true; the input reads as it did. -/
def fnExactDecodeInlinesSpec : ChangeSpec := { name := "fnExactDecodeInlines", fn := fun _ => fun
  | [d] => { results := [.lit (.bool true)], args := [d] }
  | _ => none }
def fnExactDecodeInlinesRow : OpenClaim := { program := "ytnadkeiidbgmjaa", sum := "62cdf043f31fd9c4789f0ca53bfc18bf407c53e312259472d79177bd0537af92", func := "loop.example/g03314/laws.FnExactDecodeInlines", spec := "fnExactDecodeInlines", apart := false }
def FnExactDecodeInlinesSaid : Prop := fnExactDecodeInlinesRow.holds Try.pinned (OpenSpec.ofChange fnExactDecodeInlinesSpec)

/-- ITS FALSE NEIGHBOUR: 'it returns false'. Refute it at one input. -/
def fnExactDecodeInlinesWrong : ChangeSpec := { name := "fnExactDecodeInlines", fn := fun _ => fun
  | [d] => { results := [.lit (.bool false)], args := [d] }
  | _ => none }
def FnExactDecodeInlinesWrongFalsely : Prop := fnExactDecodeInlinesRow.holds Try.pinned (OpenSpec.ofChange fnExactDecodeInlinesWrong)

/-- 'laws.FnExactNewMachine': WHATEVER THE INPUT: true; the input reads as it did. -/
def fnExactNewMachineSpec : ChangeSpec := { name := "fnExactNewMachine", fn := fun _ => fun
  | [d] => { results := [.lit (.bool true)], args := [d] }
  | _ => none }
def fnExactNewMachineRow : OpenClaim := { program := "ytnadkeiidbgmjaa", sum := "62cdf043f31fd9c4789f0ca53bfc18bf407c53e312259472d79177bd0537af92", func := "loop.example/g03314/laws.FnExactNewMachine", spec := "fnExactNewMachine", apart := false }
def FnExactNewMachineSaid : Prop := fnExactNewMachineRow.holds Try.pinned (OpenSpec.ofChange fnExactNewMachineSpec)

/-- ITS FALSE NEIGHBOUR: 'it returns false'. Refute it at one input. -/
def fnExactNewMachineWrong : ChangeSpec := { name := "fnExactNewMachine", fn := fun _ => fun
  | [d] => { results := [.lit (.bool false)], args := [d] }
  | _ => none }
def FnExactNewMachineWrongFalsely : Prop := fnExactNewMachineRow.holds Try.pinned (OpenSpec.ofChange fnExactNewMachineWrong)

/-- 'laws.FnExactFramesAt': WHATEVER THE INPUT: true; the input reads as it did. -/
def fnExactFramesAtSpec : ChangeSpec := { name := "fnExactFramesAt", fn := fun _ => fun
  | [d1, d2, d3] => { results := [.lit (.bool true)], args := [d1, d2, d3] }
  | _ => none }
def fnExactFramesAtRow : OpenClaim := { program := "ytnadkeiidbgmjaa", sum := "62cdf043f31fd9c4789f0ca53bfc18bf407c53e312259472d79177bd0537af92", func := "loop.example/g03314/laws.FnExactFramesAt", spec := "fnExactFramesAt", apart := false }
def FnExactFramesAtSaid : Prop := fnExactFramesAtRow.holds Try.pinned (OpenSpec.ofChange fnExactFramesAtSpec)

/-- ITS FALSE NEIGHBOUR: 'it returns false'. Refute it at one input. -/
def fnExactFramesAtWrong : ChangeSpec := { name := "fnExactFramesAt", fn := fun _ => fun
  | [d1, d2, d3] => { results := [.lit (.bool false)], args := [d1, d2, d3] }
  | _ => none }
def FnExactFramesAtWrongFalsely : Prop := fnExactFramesAtRow.holds Try.pinned (OpenSpec.ofChange fnExactFramesAtWrong)

/-- 'laws.FnExactUnwindStep': WHATEVER THE INPUT: true; the input reads as it did. -/
def fnExactUnwindStepSpec : ChangeSpec := { name := "fnExactUnwindStep", fn := fun _ => fun
  | [d1, d2, d3, d4] => { results := [.lit (.bool true)], args := [d1, d2, d3, d4] }
  | _ => none }
def fnExactUnwindStepRow : OpenClaim := { program := "ytnadkeiidbgmjaa", sum := "62cdf043f31fd9c4789f0ca53bfc18bf407c53e312259472d79177bd0537af92", func := "loop.example/g03314/laws.FnExactUnwindStep", spec := "fnExactUnwindStep", apart := false }
def FnExactUnwindStepSaid : Prop := fnExactUnwindStepRow.holds Try.pinned (OpenSpec.ofChange fnExactUnwindStepSpec)

/-- ITS FALSE NEIGHBOUR: 'it returns false'. Refute it at one input. -/
def fnExactUnwindStepWrong : ChangeSpec := { name := "fnExactUnwindStep", fn := fun _ => fun
  | [d1, d2, d3, d4] => { results := [.lit (.bool false)], args := [d1, d2, d3, d4] }
  | _ => none }
def FnExactUnwindStepWrongFalsely : Prop := fnExactUnwindStepRow.holds Try.pinned (OpenSpec.ofChange fnExactUnwindStepWrong)

/- THE SECOND FORM. 'bulk': how many values and letters a reading holds, each counted each time it is reached (what is shared counts as often as it is met; a slice's spare places count too). A statement '..UptoSaid' is the law's where the arguments, and the package variables that the reading takes, are together of bulk at most 1048576: NARROWER than '..Said'. Prove '..Said' where nothing that the law and all that it calls make is longer than what came in: it says more and counts as full. Else prove '..UptoSaid'. A law counts once. -/
mutual
def uptoBulk {H : Type} : DataW H → Nat
  | .lit (.string bytes) => bytes.length + 1
  | .lit _ => 1
  | .nil => 1
  | .ptr d => uptoBulk d + 1
  | .slice elems spare => uptoBulkAll elems + uptoBulkAll spare + 1
  | .agg parts => uptoBulkAll parts + 1
  | .iface _ d => uptoBulk d + 1
  | .map entries => uptoBulkEntries entries + 1
  | .held _ => 1
def uptoBulkAll {H : Type} : List (DataW H) → Nat
  | [] => 0
  | d :: r => uptoBulk d + uptoBulkAll r
def uptoBulkEntries {H : Type} : List (Lit × DataW H) → Nat
  | [] => 0
  | x :: r => uptoBulkEntry x + uptoBulkEntries r
def uptoBulkEntry {H : Type} : Lit × DataW H → Nat
  | (.string bytes, d) => bytes.length + uptoBulk d + 1
  | (_, d) => uptoBulk d + 1
 end
def uptoSmall : (H : Type) → List (DataW H) → Bool := fun _ ds => decide (uptoBulkAll ds ≤ 1048576)
def OpenSpec.upto (s : _root_.Go.ChangeSpec) : _root_.Go.OpenSpec := { _root_.Go.OpenSpec.ofChange s with cond := some uptoSmall }

/-- 'laws.FnExactUnpackInts', WHERE WHAT IT READS IS OF BULK AT MOST 1048576: true; the input reads as it did. -/
def fnExactUnpackIntsUptoRow : OpenClaim := { program := "ytnadkeiidbgmjaa", sum := "62cdf043f31fd9c4789f0ca53bfc18bf407c53e312259472d79177bd0537af92", func := "loop.example/g03314/laws.FnExactUnpackInts", spec := "fnExactUnpackInts", apart := false, narrowed := true }
def FnExactUnpackIntsUptoSaid : Prop := fnExactUnpackIntsUptoRow.holds Try.pinned (OpenSpec.upto fnExactUnpackIntsSpec)

/-- 'laws.FnExactViewOf', WHERE WHAT IT READS IS OF BULK AT MOST 1048576: true; the input reads as it did. -/
def fnExactViewOfUptoRow : OpenClaim := { program := "ytnadkeiidbgmjaa", sum := "62cdf043f31fd9c4789f0ca53bfc18bf407c53e312259472d79177bd0537af92", func := "loop.example/g03314/laws.FnExactViewOf", spec := "fnExactViewOf", apart := false, narrowed := true }
def FnExactViewOfUptoSaid : Prop := fnExactViewOfUptoRow.holds Try.pinned (OpenSpec.upto fnExactViewOfSpec)

/-- 'laws.FnExactInlinesAt', WHERE WHAT IT READS IS OF BULK AT MOST 1048576: true; the input reads as it did. -/
def fnExactInlinesAtUptoRow : OpenClaim := { program := "ytnadkeiidbgmjaa", sum := "62cdf043f31fd9c4789f0ca53bfc18bf407c53e312259472d79177bd0537af92", func := "loop.example/g03314/laws.FnExactInlinesAt", spec := "fnExactInlinesAt", apart := false, narrowed := true }
def FnExactInlinesAtUptoSaid : Prop := fnExactInlinesAtUptoRow.holds Try.pinned (OpenSpec.upto fnExactInlinesAtSpec)

/-- 'laws.FnExactRowsOf', WHERE WHAT IT READS IS OF BULK AT MOST 1048576: true; the input reads as it did. -/
def fnExactRowsOfUptoRow : OpenClaim := { program := "ytnadkeiidbgmjaa", sum := "62cdf043f31fd9c4789f0ca53bfc18bf407c53e312259472d79177bd0537af92", func := "loop.example/g03314/laws.FnExactRowsOf", spec := "fnExactRowsOf", apart := false, narrowed := true }
def FnExactRowsOfUptoSaid : Prop := fnExactRowsOfUptoRow.holds Try.pinned (OpenSpec.upto fnExactRowsOfSpec)

/-- 'laws.FnExactDecodeRows', WHERE WHAT IT READS IS OF BULK AT MOST 1048576: true; the input reads as it did. -/
def fnExactDecodeRowsUptoRow : OpenClaim := { program := "ytnadkeiidbgmjaa", sum := "62cdf043f31fd9c4789f0ca53bfc18bf407c53e312259472d79177bd0537af92", func := "loop.example/g03314/laws.FnExactDecodeRows", spec := "fnExactDecodeRows", apart := false, narrowed := true }
def FnExactDecodeRowsUptoSaid : Prop := fnExactDecodeRowsUptoRow.holds Try.pinned (OpenSpec.upto fnExactDecodeRowsSpec)

/-- 'laws.FnExactDecodeRules', WHERE WHAT IT READS IS OF BULK AT MOST 1048576: true; the input reads as it did. -/
def fnExactDecodeRulesUptoRow : OpenClaim := { program := "ytnadkeiidbgmjaa", sum := "62cdf043f31fd9c4789f0ca53bfc18bf407c53e312259472d79177bd0537af92", func := "loop.example/g03314/laws.FnExactDecodeRules", spec := "fnExactDecodeRules", apart := false, narrowed := true }
def FnExactDecodeRulesUptoSaid : Prop := fnExactDecodeRulesUptoRow.holds Try.pinned (OpenSpec.upto fnExactDecodeRulesSpec)

/-- 'laws.FnExactRulesOf', WHERE WHAT IT READS IS OF BULK AT MOST 1048576: true; the input reads as it did. -/
def fnExactRulesOfUptoRow : OpenClaim := { program := "ytnadkeiidbgmjaa", sum := "62cdf043f31fd9c4789f0ca53bfc18bf407c53e312259472d79177bd0537af92", func := "loop.example/g03314/laws.FnExactRulesOf", spec := "fnExactRulesOf", apart := false, narrowed := true }
def FnExactRulesOfUptoSaid : Prop := fnExactRulesOfUptoRow.holds Try.pinned (OpenSpec.upto fnExactRulesOfSpec)

/-- 'laws.FnExactDebugFits', WHERE WHAT IT READS IS OF BULK AT MOST 1048576: true; the input reads as it did. -/
def fnExactDebugFitsUptoRow : OpenClaim := { program := "ytnadkeiidbgmjaa", sum := "62cdf043f31fd9c4789f0ca53bfc18bf407c53e312259472d79177bd0537af92", func := "loop.example/g03314/laws.FnExactDebugFits", spec := "fnExactDebugFits", apart := false, narrowed := true }
def FnExactDebugFitsUptoSaid : Prop := fnExactDebugFitsUptoRow.holds Try.pinned (OpenSpec.upto fnExactDebugFitsSpec)

/-- 'laws.FnExactDecodeInlines', WHERE WHAT IT READS IS OF BULK AT MOST 1048576: true; the input reads as it did. -/
def fnExactDecodeInlinesUptoRow : OpenClaim := { program := "ytnadkeiidbgmjaa", sum := "62cdf043f31fd9c4789f0ca53bfc18bf407c53e312259472d79177bd0537af92", func := "loop.example/g03314/laws.FnExactDecodeInlines", spec := "fnExactDecodeInlines", apart := false, narrowed := true }
def FnExactDecodeInlinesUptoSaid : Prop := fnExactDecodeInlinesUptoRow.holds Try.pinned (OpenSpec.upto fnExactDecodeInlinesSpec)

/-- 'laws.FnExactNewMachine', WHERE WHAT IT READS IS OF BULK AT MOST 1048576: true; the input reads as it did. -/
def fnExactNewMachineUptoRow : OpenClaim := { program := "ytnadkeiidbgmjaa", sum := "62cdf043f31fd9c4789f0ca53bfc18bf407c53e312259472d79177bd0537af92", func := "loop.example/g03314/laws.FnExactNewMachine", spec := "fnExactNewMachine", apart := false, narrowed := true }
def FnExactNewMachineUptoSaid : Prop := fnExactNewMachineUptoRow.holds Try.pinned (OpenSpec.upto fnExactNewMachineSpec)

/-- 'laws.FnExactFramesAt', WHERE WHAT IT READS IS OF BULK AT MOST 1048576: true; the input reads as it did. -/
def fnExactFramesAtUptoRow : OpenClaim := { program := "ytnadkeiidbgmjaa", sum := "62cdf043f31fd9c4789f0ca53bfc18bf407c53e312259472d79177bd0537af92", func := "loop.example/g03314/laws.FnExactFramesAt", spec := "fnExactFramesAt", apart := false, narrowed := true }
def FnExactFramesAtUptoSaid : Prop := fnExactFramesAtUptoRow.holds Try.pinned (OpenSpec.upto fnExactFramesAtSpec)

/-- 'laws.FnExactUnwindStep', WHERE WHAT IT READS IS OF BULK AT MOST 1048576: true; the input reads as it did. -/
def fnExactUnwindStepUptoRow : OpenClaim := { program := "ytnadkeiidbgmjaa", sum := "62cdf043f31fd9c4789f0ca53bfc18bf407c53e312259472d79177bd0537af92", func := "loop.example/g03314/laws.FnExactUnwindStep", spec := "fnExactUnwindStep", apart := false, narrowed := true }
def FnExactUnwindStepUptoSaid : Prop := fnExactUnwindStepUptoRow.holds Try.pinned (OpenSpec.upto fnExactUnwindStepSpec)

end Rows
end Go.Proofs.Ytnadkeiidbgmjaa
