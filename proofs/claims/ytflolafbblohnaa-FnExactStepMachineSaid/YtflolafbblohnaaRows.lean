/-
  No cell of these rows narrows 'for every input' (looked for: loops, veiled, ifaces, maps, wideKeys, modest, calm, conditions, laid).
  DERIVED. THE GIVEN ROWS OF THIS SEAT. 8 by the template 'for every input the law returns true; each argument reads behind the call as it read before'; 0 by the template 'total and deterministic' (their statements: YtflolafbblohnaaTotals.lean).
  GIVEN WITH THE SEED: the statements are not yours to turn. If you find one false, say at which input.
  Laid BY PROGRAM, IN A SANDBOX (cutbox-rows.mjs): the forced cells as the released guide's own fill.sh prints them over the translation 6c538243235e936b… (all of the seat's roots in one cut). By AI agents, Wed Nov 11 2026. No macro, syntax, notation, axiom, sorry.
-/
import Derived.Test.YtflolafbblohnaaChecked
import GoSem.Claim
import GoSem.ClaimJoined
import GoSem.ClaimMapViews
import Derived.JoinedTies
import Derived.KernelRfl
namespace Go.Proofs.Ytflolafbblohnaa
/- THE CELL 'sum', in the pinned program and in every row, IS THE sha256 OF THE DUMP (.gsa) THAT YtflolafbblohnaaProg.lean LOADS. Nothing in Lean hashes anything: it is a label: what it is worth is what the hold of that sum in a sandbox is worth. -/
noncomputable def Try.pinned : Pinned := { name := "ytflolafbblohnaa", sum := "6c538243235e936b6ef9232255bb95ca2fcc3d40a93ec69cc116ba7e1b972f71", checked := Try.checked }
namespace Rows
def none {H : Type} : Left H := { results := [], args := [] }

/-- 'laws.FnExactUnwind': WHATEVER THE INPUT: true; the input reads as it did. -/
def fnExactUnwindSpec : ChangeSpec := { name := "fnExactUnwind", fn := fun _ => fun
  | [d1, d2, d3] => { results := [.lit (.bool true)], args := [d1, d2, d3] }
  | _ => none }
def fnExactUnwindRow : OpenClaim := { program := "ytflolafbblohnaa", sum := "6c538243235e936b6ef9232255bb95ca2fcc3d40a93ec69cc116ba7e1b972f71", func := "loop.example/g03314/laws.FnExactUnwind", spec := "fnExactUnwind", apart := false }
def FnExactUnwindSaid : Prop := fnExactUnwindRow.holds Try.pinned (OpenSpec.ofChange fnExactUnwindSpec)

/-- ITS FALSE NEIGHBOUR: 'it returns false'. Refute it at one input. -/
def fnExactUnwindWrong : ChangeSpec := { name := "fnExactUnwind", fn := fun _ => fun
  | [d1, d2, d3] => { results := [.lit (.bool false)], args := [d1, d2, d3] }
  | _ => none }
def FnExactUnwindWrongFalsely : Prop := fnExactUnwindRow.holds Try.pinned (OpenSpec.ofChange fnExactUnwindWrong)

/-- 'laws.FnExactDecodeDebug': WHATEVER THE INPUT: true; the input reads as it did. -/
def fnExactDecodeDebugSpec : ChangeSpec := { name := "fnExactDecodeDebug", fn := fun _ => fun
  | [d] => { results := [.lit (.bool true)], args := [d] }
  | _ => none }
def fnExactDecodeDebugRow : OpenClaim := { program := "ytflolafbblohnaa", sum := "6c538243235e936b6ef9232255bb95ca2fcc3d40a93ec69cc116ba7e1b972f71", func := "loop.example/g03314/laws.FnExactDecodeDebug", spec := "fnExactDecodeDebug", apart := false }
def FnExactDecodeDebugSaid : Prop := fnExactDecodeDebugRow.holds Try.pinned (OpenSpec.ofChange fnExactDecodeDebugSpec)

/-- ITS FALSE NEIGHBOUR: 'it returns false'. Refute it at one input. -/
def fnExactDecodeDebugWrong : ChangeSpec := { name := "fnExactDecodeDebug", fn := fun _ => fun
  | [d] => { results := [.lit (.bool false)], args := [d] }
  | _ => none }
def FnExactDecodeDebugWrongFalsely : Prop := fnExactDecodeDebugRow.holds Try.pinned (OpenSpec.ofChange fnExactDecodeDebugWrong)

/-- 'laws.FnExactStepMachine': WHATEVER THE INPUT: true; the input reads as it did. -/
def fnExactStepMachineSpec : ChangeSpec := { name := "fnExactStepMachine", fn := fun _ => fun
  | [d1, d2] => { results := [.lit (.bool true)], args := [d1, d2] }
  | _ => none }
def fnExactStepMachineRow : OpenClaim := { program := "ytflolafbblohnaa", sum := "6c538243235e936b6ef9232255bb95ca2fcc3d40a93ec69cc116ba7e1b972f71", func := "loop.example/g03314/laws.FnExactStepMachine", spec := "fnExactStepMachine", apart := false }
def FnExactStepMachineSaid : Prop := fnExactStepMachineRow.holds Try.pinned (OpenSpec.ofChange fnExactStepMachineSpec)

/-- ITS FALSE NEIGHBOUR: 'it returns false'. Refute it at one input. -/
def fnExactStepMachineWrong : ChangeSpec := { name := "fnExactStepMachine", fn := fun _ => fun
  | [d1, d2] => { results := [.lit (.bool false)], args := [d1, d2] }
  | _ => none }
def FnExactStepMachineWrongFalsely : Prop := fnExactStepMachineRow.holds Try.pinned (OpenSpec.ofChange fnExactStepMachineWrong)

/-- 'laws.FnExactRunMachine': WHATEVER THE INPUT: true; the input reads as it did. -/
def fnExactRunMachineSpec : ChangeSpec := { name := "fnExactRunMachine", fn := fun _ => fun
  | [d1, d2, d3] => { results := [.lit (.bool true)], args := [d1, d2, d3] }
  | _ => none }
def fnExactRunMachineRow : OpenClaim := { program := "ytflolafbblohnaa", sum := "6c538243235e936b6ef9232255bb95ca2fcc3d40a93ec69cc116ba7e1b972f71", func := "loop.example/g03314/laws.FnExactRunMachine", spec := "fnExactRunMachine", apart := false }
def FnExactRunMachineSaid : Prop := fnExactRunMachineRow.holds Try.pinned (OpenSpec.ofChange fnExactRunMachineSpec)

/-- ITS FALSE NEIGHBOUR: 'it returns false'. Refute it at one input. -/
def fnExactRunMachineWrong : ChangeSpec := { name := "fnExactRunMachine", fn := fun _ => fun
  | [d1, d2, d3] => { results := [.lit (.bool false)], args := [d1, d2, d3] }
  | _ => none }
def FnExactRunMachineWrongFalsely : Prop := fnExactRunMachineRow.holds Try.pinned (OpenSpec.ofChange fnExactRunMachineWrong)

/-- 'laws.FnExactInterpret': WHATEVER THE INPUT: true; the input reads as it did. -/
def fnExactInterpretSpec : ChangeSpec := { name := "fnExactInterpret", fn := fun _ => fun
  | [d1, d2] => { results := [.lit (.bool true)], args := [d1, d2] }
  | _ => none }
def fnExactInterpretRow : OpenClaim := { program := "ytflolafbblohnaa", sum := "6c538243235e936b6ef9232255bb95ca2fcc3d40a93ec69cc116ba7e1b972f71", func := "loop.example/g03314/laws.FnExactInterpret", spec := "fnExactInterpret", unfollowed := true, recurses := true, apart := false }
def FnExactInterpretSaid : Prop := fnExactInterpretRow.holds Try.pinned (OpenSpec.ofChange fnExactInterpretSpec)

/-- ITS FALSE NEIGHBOUR: 'it returns false'. Refute it at one input. -/
def fnExactInterpretWrong : ChangeSpec := { name := "fnExactInterpret", fn := fun _ => fun
  | [d1, d2] => { results := [.lit (.bool false)], args := [d1, d2] }
  | _ => none }
def FnExactInterpretWrongFalsely : Prop := fnExactInterpretRow.holds Try.pinned (OpenSpec.ofChange fnExactInterpretWrong)

/-- 'laws.FnExactInlinesOf': WHATEVER THE INPUT: true; the input reads as it did. -/
def fnExactInlinesOfSpec : ChangeSpec := { name := "fnExactInlinesOf", fn := fun _ => fun
  | [d1, d2] => { results := [.lit (.bool true)], args := [d1, d2] }
  | _ => none }
def fnExactInlinesOfRow : OpenClaim := { program := "ytflolafbblohnaa", sum := "6c538243235e936b6ef9232255bb95ca2fcc3d40a93ec69cc116ba7e1b972f71", func := "loop.example/g03314/laws.FnExactInlinesOf", spec := "fnExactInlinesOf", apart := false }
def FnExactInlinesOfSaid : Prop := fnExactInlinesOfRow.holds Try.pinned (OpenSpec.ofChange fnExactInlinesOfSpec)

/-- ITS FALSE NEIGHBOUR: 'it returns false'. Refute it at one input. -/
def fnExactInlinesOfWrong : ChangeSpec := { name := "fnExactInlinesOf", fn := fun _ => fun
  | [d1, d2] => { results := [.lit (.bool false)], args := [d1, d2] }
  | _ => none }
def FnExactInlinesOfWrongFalsely : Prop := fnExactInlinesOfRow.holds Try.pinned (OpenSpec.ofChange fnExactInlinesOfWrong)

/-- 'laws.FnExactUnwindStep': WHATEVER THE INPUT: true; the input reads as it did. -/
def fnExactUnwindStepSpec : ChangeSpec := { name := "fnExactUnwindStep", fn := fun _ => fun
  | [d1, d2, d3, d4] => { results := [.lit (.bool true)], args := [d1, d2, d3, d4] }
  | _ => none }
def fnExactUnwindStepRow : OpenClaim := { program := "ytflolafbblohnaa", sum := "6c538243235e936b6ef9232255bb95ca2fcc3d40a93ec69cc116ba7e1b972f71", func := "loop.example/g03314/laws.FnExactUnwindStep", spec := "fnExactUnwindStep", apart := false }
def FnExactUnwindStepSaid : Prop := fnExactUnwindStepRow.holds Try.pinned (OpenSpec.ofChange fnExactUnwindStepSpec)

/-- ITS FALSE NEIGHBOUR: 'it returns false'. Refute it at one input. -/
def fnExactUnwindStepWrong : ChangeSpec := { name := "fnExactUnwindStep", fn := fun _ => fun
  | [d1, d2, d3, d4] => { results := [.lit (.bool false)], args := [d1, d2, d3, d4] }
  | _ => none }
def FnExactUnwindStepWrongFalsely : Prop := fnExactUnwindStepRow.holds Try.pinned (OpenSpec.ofChange fnExactUnwindStepWrong)

/-- 'laws.FnExactDebugFits': WHATEVER THE INPUT: true; the input reads as it did. -/
def fnExactDebugFitsSpec : ChangeSpec := { name := "fnExactDebugFits", fn := fun _ => fun
  | [d1, d2] => { results := [.lit (.bool true)], args := [d1, d2] }
  | _ => none }
def fnExactDebugFitsRow : OpenClaim := { program := "ytflolafbblohnaa", sum := "6c538243235e936b6ef9232255bb95ca2fcc3d40a93ec69cc116ba7e1b972f71", func := "loop.example/g03314/laws.FnExactDebugFits", spec := "fnExactDebugFits", apart := false }
def FnExactDebugFitsSaid : Prop := fnExactDebugFitsRow.holds Try.pinned (OpenSpec.ofChange fnExactDebugFitsSpec)

/-- ITS FALSE NEIGHBOUR: 'it returns false'. Refute it at one input. -/
def fnExactDebugFitsWrong : ChangeSpec := { name := "fnExactDebugFits", fn := fun _ => fun
  | [d1, d2] => { results := [.lit (.bool false)], args := [d1, d2] }
  | _ => none }
def FnExactDebugFitsWrongFalsely : Prop := fnExactDebugFitsRow.holds Try.pinned (OpenSpec.ofChange fnExactDebugFitsWrong)

/- THE SECOND FORM. 'bulk': how many values and letters a reading holds, each counted each time it is reached (what is shared counts as often as it is met; a slice's spare places count too). A statement '..UptoSaid' is the law's where the arguments, and the package variables that the reading takes, are together of bulk at most 1048576: NARROWER than '..Said'. Prove '..Said' where nothing that the law and all that it calls make is longer than what came in: it says more and counts as full. Else prove '..UptoSaid'. A law counts once. -/
mutual
def uptoBulk {H : Type} : DataW H → Nat
  | .lit (.string bytes) => bytes.length + 1
  | .lit _ => 1
  | .nil => 1
  | .ptr d => uptoBulk d + 1
  | .slice elems spare => uptoBulkAll elems + uptoBulkAll spare + 1
  | .agg parts => uptoBulkAll parts + 1
  | .iface _ d => uptoBulk d + 1
  | .map entries => uptoBulkEntries entries + 1
  | .held _ => 1
def uptoBulkAll {H : Type} : List (DataW H) → Nat
  | [] => 0
  | d :: r => uptoBulk d + uptoBulkAll r
def uptoBulkEntries {H : Type} : List (Lit × DataW H) → Nat
  | [] => 0
  | x :: r => uptoBulkEntry x + uptoBulkEntries r
def uptoBulkEntry {H : Type} : Lit × DataW H → Nat
  | (.string bytes, d) => bytes.length + uptoBulk d + 1
  | (_, d) => uptoBulk d + 1
 end
def uptoSmall : (H : Type) → List (DataW H) → Bool := fun _ ds => decide (uptoBulkAll ds ≤ 1048576)
def OpenSpec.upto (s : _root_.Go.ChangeSpec) : _root_.Go.OpenSpec := { _root_.Go.OpenSpec.ofChange s with cond := some uptoSmall }

/-- 'laws.FnExactUnwind', WHERE WHAT IT READS IS OF BULK AT MOST 1048576: true; the input reads as it did. -/
def fnExactUnwindUptoRow : OpenClaim := { program := "ytflolafbblohnaa", sum := "6c538243235e936b6ef9232255bb95ca2fcc3d40a93ec69cc116ba7e1b972f71", func := "loop.example/g03314/laws.FnExactUnwind", spec := "fnExactUnwind", apart := false, narrowed := true }
def FnExactUnwindUptoSaid : Prop := fnExactUnwindUptoRow.holds Try.pinned (OpenSpec.upto fnExactUnwindSpec)

/-- 'laws.FnExactDecodeDebug', WHERE WHAT IT READS IS OF BULK AT MOST 1048576: true; the input reads as it did. -/
def fnExactDecodeDebugUptoRow : OpenClaim := { program := "ytflolafbblohnaa", sum := "6c538243235e936b6ef9232255bb95ca2fcc3d40a93ec69cc116ba7e1b972f71", func := "loop.example/g03314/laws.FnExactDecodeDebug", spec := "fnExactDecodeDebug", apart := false, narrowed := true }
def FnExactDecodeDebugUptoSaid : Prop := fnExactDecodeDebugUptoRow.holds Try.pinned (OpenSpec.upto fnExactDecodeDebugSpec)

/-- 'laws.FnExactStepMachine', WHERE WHAT IT READS IS OF BULK AT MOST 1048576: true; the input reads as it did. -/
def fnExactStepMachineUptoRow : OpenClaim := { program := "ytflolafbblohnaa", sum := "6c538243235e936b6ef9232255bb95ca2fcc3d40a93ec69cc116ba7e1b972f71", func := "loop.example/g03314/laws.FnExactStepMachine", spec := "fnExactStepMachine", apart := false, narrowed := true }
def FnExactStepMachineUptoSaid : Prop := fnExactStepMachineUptoRow.holds Try.pinned (OpenSpec.upto fnExactStepMachineSpec)

/-- 'laws.FnExactRunMachine', WHERE WHAT IT READS IS OF BULK AT MOST 1048576: true; the input reads as it did. -/
def fnExactRunMachineUptoRow : OpenClaim := { program := "ytflolafbblohnaa", sum := "6c538243235e936b6ef9232255bb95ca2fcc3d40a93ec69cc116ba7e1b972f71", func := "loop.example/g03314/laws.FnExactRunMachine", spec := "fnExactRunMachine", apart := false, narrowed := true }
def FnExactRunMachineUptoSaid : Prop := fnExactRunMachineUptoRow.holds Try.pinned (OpenSpec.upto fnExactRunMachineSpec)

/-- 'laws.FnExactInterpret', WHERE WHAT IT READS IS OF BULK AT MOST 1048576: true; the input reads as it did. -/
def fnExactInterpretUptoRow : OpenClaim := { program := "ytflolafbblohnaa", sum := "6c538243235e936b6ef9232255bb95ca2fcc3d40a93ec69cc116ba7e1b972f71", func := "loop.example/g03314/laws.FnExactInterpret", spec := "fnExactInterpret", unfollowed := true, recurses := true, apart := false, narrowed := true }
def FnExactInterpretUptoSaid : Prop := fnExactInterpretUptoRow.holds Try.pinned (OpenSpec.upto fnExactInterpretSpec)

/-- 'laws.FnExactInlinesOf', WHERE WHAT IT READS IS OF BULK AT MOST 1048576: true; the input reads as it did. -/
def fnExactInlinesOfUptoRow : OpenClaim := { program := "ytflolafbblohnaa", sum := "6c538243235e936b6ef9232255bb95ca2fcc3d40a93ec69cc116ba7e1b972f71", func := "loop.example/g03314/laws.FnExactInlinesOf", spec := "fnExactInlinesOf", apart := false, narrowed := true }
def FnExactInlinesOfUptoSaid : Prop := fnExactInlinesOfUptoRow.holds Try.pinned (OpenSpec.upto fnExactInlinesOfSpec)

/-- 'laws.FnExactUnwindStep', WHERE WHAT IT READS IS OF BULK AT MOST 1048576: true; the input reads as it did. -/
def fnExactUnwindStepUptoRow : OpenClaim := { program := "ytflolafbblohnaa", sum := "6c538243235e936b6ef9232255bb95ca2fcc3d40a93ec69cc116ba7e1b972f71", func := "loop.example/g03314/laws.FnExactUnwindStep", spec := "fnExactUnwindStep", apart := false, narrowed := true }
def FnExactUnwindStepUptoSaid : Prop := fnExactUnwindStepUptoRow.holds Try.pinned (OpenSpec.upto fnExactUnwindStepSpec)

/-- 'laws.FnExactDebugFits', WHERE WHAT IT READS IS OF BULK AT MOST 1048576: true; the input reads as it did. -/
def fnExactDebugFitsUptoRow : OpenClaim := { program := "ytflolafbblohnaa", sum := "6c538243235e936b6ef9232255bb95ca2fcc3d40a93ec69cc116ba7e1b972f71", func := "loop.example/g03314/laws.FnExactDebugFits", spec := "fnExactDebugFits", apart := false, narrowed := true }
def FnExactDebugFitsUptoSaid : Prop := fnExactDebugFitsUptoRow.holds Try.pinned (OpenSpec.upto fnExactDebugFitsSpec)

end Rows
end Go.Proofs.Ytflolafbblohnaa
