/-
  No cell of these rows narrows 'for every input' (looked for: loops, veiled, ifaces, maps, wideKeys, modest, calm, conditions, laid).
  DERIVED. THE GIVEN ROWS OF THIS SEAT. 5 by the template 'for every input the law returns true; each argument reads behind the call as it read before'; 0 by the template 'total and deterministic' (their statements: YtogdbgmiigfmfaaGreatTotals.lean).
  GIVEN WITH THE SEED: the statements are not yours to turn. If you find one false, say at which input.
  Laid BY PROGRAM, IN A SANDBOX (cutbox-rows.mjs): the forced cells as the released guide's own fill.sh prints them over the translation 9371dd23a4a704d5… (all of the seat's roots in one cut). By AI agents, Wed Nov 11 2026. No macro, syntax, notation, axiom, sorry.
-/
import Derived.Test.YtogdbgmiigfmfaaGreatChecked
import GoSem.Claim
import GoSem.ClaimJoined
import GoSem.ClaimMapViews
import Derived.JoinedTies
import Derived.KernelRfl
namespace Go.Proofs.YtogdbgmiigfmfaaGreat
/- THE CELL 'sum', in the pinned program and in every row, IS THE sha256 OF THE DUMP (.gsa) THAT YtogdbgmiigfmfaaGreatProg.lean LOADS. Nothing in Lean hashes anything: it is a label: what it is worth is what the hold of that sum in a sandbox is worth. -/
noncomputable def Tryz.pinned : Pinned := { name := "ytogdbgmiigfmfaagreat", sum := "9371dd23a4a704d58ba9ad6967719ab124a18c90e1e9be2bceaabb28fc5be426", checked := Tryz.checked }
namespace Rows
def none {H : Type} : Left H := { results := [], args := [] }

/-- 'laws.FnExactCompileFunction': WHATEVER THE INPUT: true; the input reads as it did. -/
def fnExactCompileFunctionSpec : ChangeSpec := { name := "fnExactCompileFunction", fn := fun _ => fun
  | [d1, d2, d3] => { results := [.lit (.bool true)], args := [d1, d2, d3] }
  | _ => none }
def fnExactCompileFunctionRow : OpenClaim := { program := "ytogdbgmiigfmfaagreat", sum := "9371dd23a4a704d58ba9ad6967719ab124a18c90e1e9be2bceaabb28fc5be426", func := "loop.example/g03314/laws.FnExactCompileFunction", spec := "fnExactCompileFunction", recurses := true, apart := false }
def FnExactCompileFunctionSaid : Prop := fnExactCompileFunctionRow.holds Tryz.pinned (OpenSpec.ofChange fnExactCompileFunctionSpec)

/-- ITS FALSE NEIGHBOUR: 'it returns false'. Refute it at one input. -/
def fnExactCompileFunctionWrong : ChangeSpec := { name := "fnExactCompileFunction", fn := fun _ => fun
  | [d1, d2, d3] => { results := [.lit (.bool false)], args := [d1, d2, d3] }
  | _ => none }
def FnExactCompileFunctionWrongFalsely : Prop := fnExactCompileFunctionRow.holds Tryz.pinned (OpenSpec.ofChange fnExactCompileFunctionWrong)

/-- 'laws.FnExactPlacesOf': WHATEVER THE INPUT: true; the input reads as it did. -/
def fnExactPlacesOfSpec : ChangeSpec := { name := "fnExactPlacesOf", fn := fun _ => fun
  | [d1, d2, d3] => { results := [.lit (.bool true)], args := [d1, d2, d3] }
  | _ => none }
def fnExactPlacesOfRow : OpenClaim := { program := "ytogdbgmiigfmfaagreat", sum := "9371dd23a4a704d58ba9ad6967719ab124a18c90e1e9be2bceaabb28fc5be426", func := "loop.example/g03314/laws.FnExactPlacesOf", spec := "fnExactPlacesOf", recurses := true, apart := false }
def FnExactPlacesOfSaid : Prop := fnExactPlacesOfRow.holds Tryz.pinned (OpenSpec.ofChange fnExactPlacesOfSpec)

/-- ITS FALSE NEIGHBOUR: 'it returns false'. Refute it at one input. -/
def fnExactPlacesOfWrong : ChangeSpec := { name := "fnExactPlacesOf", fn := fun _ => fun
  | [d1, d2, d3] => { results := [.lit (.bool false)], args := [d1, d2, d3] }
  | _ => none }
def FnExactPlacesOfWrongFalsely : Prop := fnExactPlacesOfRow.holds Tryz.pinned (OpenSpec.ofChange fnExactPlacesOfWrong)

/-- 'laws.FnExactAssembleImage': WHATEVER THE INPUT: true; the input reads as it did. -/
def fnExactAssembleImageSpec : ChangeSpec := { name := "fnExactAssembleImage", fn := fun _ => fun
  | [d1, d2, d3] => { results := [.lit (.bool true)], args := [d1, d2, d3] }
  | _ => none }
def fnExactAssembleImageRow : OpenClaim := { program := "ytogdbgmiigfmfaagreat", sum := "9371dd23a4a704d58ba9ad6967719ab124a18c90e1e9be2bceaabb28fc5be426", func := "loop.example/g03314/laws.FnExactAssembleImage", spec := "fnExactAssembleImage", recurses := true, apart := false }
def FnExactAssembleImageSaid : Prop := fnExactAssembleImageRow.holds Tryz.pinned (OpenSpec.ofChange fnExactAssembleImageSpec)

/-- ITS FALSE NEIGHBOUR: 'it returns false'. Refute it at one input. -/
def fnExactAssembleImageWrong : ChangeSpec := { name := "fnExactAssembleImage", fn := fun _ => fun
  | [d1, d2, d3] => { results := [.lit (.bool false)], args := [d1, d2, d3] }
  | _ => none }
def FnExactAssembleImageWrongFalsely : Prop := fnExactAssembleImageRow.holds Tryz.pinned (OpenSpec.ofChange fnExactAssembleImageWrong)

/-- 'laws.FnExactLoadSpace': WHATEVER THE INPUT: true; the input reads as it did. -/
def fnExactLoadSpaceSpec : ChangeSpec := { name := "fnExactLoadSpace", fn := fun _ => fun
  | [d1, d2, d3, d4] => { results := [.lit (.bool true)], args := [d1, d2, d3, d4] }
  | _ => none }
def fnExactLoadSpaceRow : OpenClaim := { program := "ytogdbgmiigfmfaagreat", sum := "9371dd23a4a704d58ba9ad6967719ab124a18c90e1e9be2bceaabb28fc5be426", func := "loop.example/g03314/laws.FnExactLoadSpace", spec := "fnExactLoadSpace", recurses := true, apart := false }
def FnExactLoadSpaceSaid : Prop := fnExactLoadSpaceRow.holds Tryz.pinned (OpenSpec.ofChange fnExactLoadSpaceSpec)

/-- ITS FALSE NEIGHBOUR: 'it returns false'. Refute it at one input. -/
def fnExactLoadSpaceWrong : ChangeSpec := { name := "fnExactLoadSpace", fn := fun _ => fun
  | [d1, d2, d3, d4] => { results := [.lit (.bool false)], args := [d1, d2, d3, d4] }
  | _ => none }
def FnExactLoadSpaceWrongFalsely : Prop := fnExactLoadSpaceRow.holds Tryz.pinned (OpenSpec.ofChange fnExactLoadSpaceWrong)

/-- 'laws.FnUnwound': WHATEVER THE INPUT: true; the input reads as it did. -/
def fnUnwoundSpec : ChangeSpec := { name := "fnUnwound", fn := fun _ => fun
  | [d] => { results := [.lit (.bool true)], args := [d] }
  | _ => none }
def fnUnwoundRow : OpenClaim := { program := "ytogdbgmiigfmfaagreat", sum := "9371dd23a4a704d58ba9ad6967719ab124a18c90e1e9be2bceaabb28fc5be426", func := "loop.example/g03314/laws.FnUnwound", spec := "fnUnwound", recurses := true, apart := false }
def FnUnwoundSaid : Prop := fnUnwoundRow.holds Tryz.pinned (OpenSpec.ofChange fnUnwoundSpec)

/-- ITS FALSE NEIGHBOUR: 'it returns false'. Refute it at one input. -/
def fnUnwoundWrong : ChangeSpec := { name := "fnUnwound", fn := fun _ => fun
  | [d] => { results := [.lit (.bool false)], args := [d] }
  | _ => none }
def FnUnwoundWrongFalsely : Prop := fnUnwoundRow.holds Tryz.pinned (OpenSpec.ofChange fnUnwoundWrong)

/- THE SECOND FORM. 'bulk': how many values and letters a reading holds, each counted each time it is reached (what is shared counts as often as it is met; a slice's spare places count too). A statement '..UptoSaid' is the law's where the arguments, and the package variables that the reading takes, are together of bulk at most 1048576: NARROWER than '..Said'. Prove '..Said' where nothing that the law and all that it calls make is longer than what came in: it says more and counts as full. Else prove '..UptoSaid'. A law counts once. -/
mutual
def uptoBulk {H : Type} : DataW H → Nat
  | .lit (.string bytes) => bytes.length + 1
  | .lit _ => 1
  | .nil => 1
  | .ptr d => uptoBulk d + 1
  | .slice elems spare => uptoBulkAll elems + uptoBulkAll spare + 1
  | .agg parts => uptoBulkAll parts + 1
  | .iface _ d => uptoBulk d + 1
  | .map entries => uptoBulkEntries entries + 1
  | .held _ => 1
def uptoBulkAll {H : Type} : List (DataW H) → Nat
  | [] => 0
  | d :: r => uptoBulk d + uptoBulkAll r
def uptoBulkEntries {H : Type} : List (Lit × DataW H) → Nat
  | [] => 0
  | x :: r => uptoBulkEntry x + uptoBulkEntries r
def uptoBulkEntry {H : Type} : Lit × DataW H → Nat
  | (.string bytes, d) => bytes.length + uptoBulk d + 1
  | (_, d) => uptoBulk d + 1
 end
def uptoSmall : (H : Type) → List (DataW H) → Bool := fun _ ds => decide (uptoBulkAll ds ≤ 1048576)
def OpenSpec.upto (s : _root_.Go.ChangeSpec) : _root_.Go.OpenSpec := { _root_.Go.OpenSpec.ofChange s with cond := some uptoSmall }

/-- 'laws.FnExactCompileFunction', WHERE WHAT IT READS IS OF BULK AT MOST 1048576: true; the input reads as it did. -/
def fnExactCompileFunctionUptoRow : OpenClaim := { program := "ytogdbgmiigfmfaagreat", sum := "9371dd23a4a704d58ba9ad6967719ab124a18c90e1e9be2bceaabb28fc5be426", func := "loop.example/g03314/laws.FnExactCompileFunction", spec := "fnExactCompileFunction", recurses := true, apart := false, narrowed := true }
def FnExactCompileFunctionUptoSaid : Prop := fnExactCompileFunctionUptoRow.holds Tryz.pinned (OpenSpec.upto fnExactCompileFunctionSpec)

/-- 'laws.FnExactPlacesOf', WHERE WHAT IT READS IS OF BULK AT MOST 1048576: true; the input reads as it did. -/
def fnExactPlacesOfUptoRow : OpenClaim := { program := "ytogdbgmiigfmfaagreat", sum := "9371dd23a4a704d58ba9ad6967719ab124a18c90e1e9be2bceaabb28fc5be426", func := "loop.example/g03314/laws.FnExactPlacesOf", spec := "fnExactPlacesOf", recurses := true, apart := false, narrowed := true }
def FnExactPlacesOfUptoSaid : Prop := fnExactPlacesOfUptoRow.holds Tryz.pinned (OpenSpec.upto fnExactPlacesOfSpec)

/-- 'laws.FnExactAssembleImage', WHERE WHAT IT READS IS OF BULK AT MOST 1048576: true; the input reads as it did. -/
def fnExactAssembleImageUptoRow : OpenClaim := { program := "ytogdbgmiigfmfaagreat", sum := "9371dd23a4a704d58ba9ad6967719ab124a18c90e1e9be2bceaabb28fc5be426", func := "loop.example/g03314/laws.FnExactAssembleImage", spec := "fnExactAssembleImage", recurses := true, apart := false, narrowed := true }
def FnExactAssembleImageUptoSaid : Prop := fnExactAssembleImageUptoRow.holds Tryz.pinned (OpenSpec.upto fnExactAssembleImageSpec)

/-- 'laws.FnExactLoadSpace', WHERE WHAT IT READS IS OF BULK AT MOST 1048576: true; the input reads as it did. -/
def fnExactLoadSpaceUptoRow : OpenClaim := { program := "ytogdbgmiigfmfaagreat", sum := "9371dd23a4a704d58ba9ad6967719ab124a18c90e1e9be2bceaabb28fc5be426", func := "loop.example/g03314/laws.FnExactLoadSpace", spec := "fnExactLoadSpace", recurses := true, apart := false, narrowed := true }
def FnExactLoadSpaceUptoSaid : Prop := fnExactLoadSpaceUptoRow.holds Tryz.pinned (OpenSpec.upto fnExactLoadSpaceSpec)

/-- 'laws.FnUnwound', WHERE WHAT IT READS IS OF BULK AT MOST 1048576: true; the input reads as it did. -/
def fnUnwoundUptoRow : OpenClaim := { program := "ytogdbgmiigfmfaagreat", sum := "9371dd23a4a704d58ba9ad6967719ab124a18c90e1e9be2bceaabb28fc5be426", func := "loop.example/g03314/laws.FnUnwound", spec := "fnUnwound", recurses := true, apart := false, narrowed := true }
def FnUnwoundUptoSaid : Prop := fnUnwoundUptoRow.holds Tryz.pinned (OpenSpec.upto fnUnwoundSpec)

end Rows
end Go.Proofs.YtogdbgmiigfmfaaGreat
