/-
  No cell of these rows narrows 'for every input' (looked for: loops, veiled, ifaces, maps, wideKeys, modest, calm, conditions, laid).
  DERIVED. THE GIVEN ROWS OF THIS SEAT. 6 by the template 'for every input the law returns true; each argument reads behind the call as it read before'; 0 by the template 'total and deterministic' (their statements: YtoglejgmjeojoaaGreatTotals.lean).
  GIVEN WITH THE SEED: the statements are not yours to turn. If you find one false, say at which input.
  Laid BY PROGRAM, IN A SANDBOX (cutbox-rows.mjs): the forced cells as the released guide's own fill.sh prints them over the translation f6c282784cbb9c88… (all of the seat's roots in one cut). By AI agents, Wed Nov 11 2026. No macro, syntax, notation, axiom, sorry.
-/
import Derived.Test.YtoglejgmjeojoaaGreatChecked
import GoSem.Claim
import GoSem.ClaimJoined
import GoSem.ClaimMapViews
import Derived.JoinedTies
import Derived.KernelRfl
namespace Go.Proofs.YtoglejgmjeojoaaGreat
/- THE CELL 'sum', in the pinned program and in every row, IS THE sha256 OF THE DUMP (.gsa) THAT YtoglejgmjeojoaaGreatProg.lean LOADS. Nothing in Lean hashes anything: it is a label: what it is worth is what the hold of that sum in a sandbox is worth. -/
noncomputable def Tryz.pinned : Pinned := { name := "ytoglejgmjeojoaagreat", sum := "f6c282784cbb9c885cdd4d39147342e0f2f83bae7f82fb32cb60be3eae299870", checked := Tryz.checked }
namespace Rows
def none {H : Type} : Left H := { results := [], args := [] }

/-- 'laws.FnUnwound': WHATEVER THE INPUT: true; the input reads as it did. -/
def fnUnwoundSpec : ChangeSpec := { name := "fnUnwound", fn := fun _ => fun
  | [d] => { results := [.lit (.bool true)], args := [d] }
  | _ => none }
def fnUnwoundRow : OpenClaim := { program := "ytoglejgmjeojoaagreat", sum := "f6c282784cbb9c885cdd4d39147342e0f2f83bae7f82fb32cb60be3eae299870", func := "loop.example/g03314/laws.FnUnwound", spec := "fnUnwound", recurses := true, apart := false }
def FnUnwoundSaid : Prop := fnUnwoundRow.holds Tryz.pinned (OpenSpec.ofChange fnUnwoundSpec)

/-- ITS FALSE NEIGHBOUR: 'it returns false'. Refute it at one input. -/
def fnUnwoundWrong : ChangeSpec := { name := "fnUnwound", fn := fun _ => fun
  | [d] => { results := [.lit (.bool false)], args := [d] }
  | _ => none }
def FnUnwoundWrongFalsely : Prop := fnUnwoundRow.holds Tryz.pinned (OpenSpec.ofChange fnUnwoundWrong)

/-- 'laws.FnPartialViews': WHATEVER THE INPUT: true; the input reads as it did. -/
def fnPartialViewsSpec : ChangeSpec := { name := "fnPartialViews", fn := fun _ => fun
  | [d] => { results := [.lit (.bool true)], args := [d] }
  | _ => none }
def fnPartialViewsRow : OpenClaim := { program := "ytoglejgmjeojoaagreat", sum := "f6c282784cbb9c885cdd4d39147342e0f2f83bae7f82fb32cb60be3eae299870", func := "loop.example/g03314/laws.FnPartialViews", spec := "fnPartialViews", recurses := true, apart := false }
def FnPartialViewsSaid : Prop := fnPartialViewsRow.holds Tryz.pinned (OpenSpec.ofChange fnPartialViewsSpec)

/-- ITS FALSE NEIGHBOUR: 'it returns false'. Refute it at one input. -/
def fnPartialViewsWrong : ChangeSpec := { name := "fnPartialViews", fn := fun _ => fun
  | [d] => { results := [.lit (.bool false)], args := [d] }
  | _ => none }
def FnPartialViewsWrongFalsely : Prop := fnPartialViewsRow.holds Tryz.pinned (OpenSpec.ofChange fnPartialViewsWrong)

/-- 'laws.FnExactPlacesOf': WHATEVER THE INPUT: true; the input reads as it did. -/
def fnExactPlacesOfSpec : ChangeSpec := { name := "fnExactPlacesOf", fn := fun _ => fun
  | [d1, d2, d3] => { results := [.lit (.bool true)], args := [d1, d2, d3] }
  | _ => none }
def fnExactPlacesOfRow : OpenClaim := { program := "ytoglejgmjeojoaagreat", sum := "f6c282784cbb9c885cdd4d39147342e0f2f83bae7f82fb32cb60be3eae299870", func := "loop.example/g03314/laws.FnExactPlacesOf", spec := "fnExactPlacesOf", recurses := true, apart := false }
def FnExactPlacesOfSaid : Prop := fnExactPlacesOfRow.holds Tryz.pinned (OpenSpec.ofChange fnExactPlacesOfSpec)

/-- ITS FALSE NEIGHBOUR: 'it returns false'. Refute it at one input. -/
def fnExactPlacesOfWrong : ChangeSpec := { name := "fnExactPlacesOf", fn := fun _ => fun
  | [d1, d2, d3] => { results := [.lit (.bool false)], args := [d1, d2, d3] }
  | _ => none }
def FnExactPlacesOfWrongFalsely : Prop := fnExactPlacesOfRow.holds Tryz.pinned (OpenSpec.ofChange fnExactPlacesOfWrong)

/-- 'laws.FnExactLoadSpace': WHATEVER THE INPUT: true; the input reads as it did. -/
def fnExactLoadSpaceSpec : ChangeSpec := { name := "fnExactLoadSpace", fn := fun _ => fun
  | [d1, d2, d3, d4] => { results := [.lit (.bool true)], args := [d1, d2, d3, d4] }
  | _ => none }
def fnExactLoadSpaceRow : OpenClaim := { program := "ytoglejgmjeojoaagreat", sum := "f6c282784cbb9c885cdd4d39147342e0f2f83bae7f82fb32cb60be3eae299870", func := "loop.example/g03314/laws.FnExactLoadSpace", spec := "fnExactLoadSpace", recurses := true, apart := false }
def FnExactLoadSpaceSaid : Prop := fnExactLoadSpaceRow.holds Tryz.pinned (OpenSpec.ofChange fnExactLoadSpaceSpec)

/-- ITS FALSE NEIGHBOUR: 'it returns false'. Refute it at one input. -/
def fnExactLoadSpaceWrong : ChangeSpec := { name := "fnExactLoadSpace", fn := fun _ => fun
  | [d1, d2, d3, d4] => { results := [.lit (.bool false)], args := [d1, d2, d3, d4] }
  | _ => none }
def FnExactLoadSpaceWrongFalsely : Prop := fnExactLoadSpaceRow.holds Tryz.pinned (OpenSpec.ofChange fnExactLoadSpaceWrong)

/-- 'laws.FnBuildsAlike': WHATEVER THE INPUT: true; the input reads as it did. -/
def fnBuildsAlikeSpec : ChangeSpec := { name := "fnBuildsAlike", fn := fun _ => fun
  | [d] => { results := [.lit (.bool true)], args := [d] }
  | _ => none }
def fnBuildsAlikeRow : OpenClaim := { program := "ytoglejgmjeojoaagreat", sum := "f6c282784cbb9c885cdd4d39147342e0f2f83bae7f82fb32cb60be3eae299870", func := "loop.example/g03314/laws.FnBuildsAlike", spec := "fnBuildsAlike", recurses := true, apart := false }
def FnBuildsAlikeSaid : Prop := fnBuildsAlikeRow.holds Tryz.pinned (OpenSpec.ofChange fnBuildsAlikeSpec)

/-- ITS FALSE NEIGHBOUR: 'it returns false'. Refute it at one input. -/
def fnBuildsAlikeWrong : ChangeSpec := { name := "fnBuildsAlike", fn := fun _ => fun
  | [d] => { results := [.lit (.bool false)], args := [d] }
  | _ => none }
def FnBuildsAlikeWrongFalsely : Prop := fnBuildsAlikeRow.holds Tryz.pinned (OpenSpec.ofChange fnBuildsAlikeWrong)

/-- 'laws.FnDebugFiles': WHATEVER THE INPUT: true; the input reads as it did. -/
def fnDebugFilesSpec : ChangeSpec := { name := "fnDebugFiles", fn := fun _ => fun
  | [d] => { results := [.lit (.bool true)], args := [d] }
  | _ => none }
def fnDebugFilesRow : OpenClaim := { program := "ytoglejgmjeojoaagreat", sum := "f6c282784cbb9c885cdd4d39147342e0f2f83bae7f82fb32cb60be3eae299870", func := "loop.example/g03314/laws.FnDebugFiles", spec := "fnDebugFiles", recurses := true, apart := false }
def FnDebugFilesSaid : Prop := fnDebugFilesRow.holds Tryz.pinned (OpenSpec.ofChange fnDebugFilesSpec)

/-- ITS FALSE NEIGHBOUR: 'it returns false'. Refute it at one input. -/
def fnDebugFilesWrong : ChangeSpec := { name := "fnDebugFiles", fn := fun _ => fun
  | [d] => { results := [.lit (.bool false)], args := [d] }
  | _ => none }
def FnDebugFilesWrongFalsely : Prop := fnDebugFilesRow.holds Tryz.pinned (OpenSpec.ofChange fnDebugFilesWrong)

/- THE SECOND FORM. 'bulk': how many values and letters a reading holds, each counted each time it is reached (what is shared counts as often as it is met; a slice's spare places count too). A statement '..UptoSaid' is the law's where the arguments, and the package variables that the reading takes, are together of bulk at most 1048576: NARROWER than '..Said'. Prove '..Said' where nothing that the law and all that it calls make is longer than what came in: it says more and counts as full. Else prove '..UptoSaid'. A law counts once. -/
mutual
def uptoBulk {H : Type} : DataW H → Nat
  | .lit (.string bytes) => bytes.length + 1
  | .lit _ => 1
  | .nil => 1
  | .ptr d => uptoBulk d + 1
  | .slice elems spare => uptoBulkAll elems + uptoBulkAll spare + 1
  | .agg parts => uptoBulkAll parts + 1
  | .iface _ d => uptoBulk d + 1
  | .map entries => uptoBulkEntries entries + 1
  | .held _ => 1
def uptoBulkAll {H : Type} : List (DataW H) → Nat
  | [] => 0
  | d :: r => uptoBulk d + uptoBulkAll r
def uptoBulkEntries {H : Type} : List (Lit × DataW H) → Nat
  | [] => 0
  | x :: r => uptoBulkEntry x + uptoBulkEntries r
def uptoBulkEntry {H : Type} : Lit × DataW H → Nat
  | (.string bytes, d) => bytes.length + uptoBulk d + 1
  | (_, d) => uptoBulk d + 1
 end
def uptoSmall : (H : Type) → List (DataW H) → Bool := fun _ ds => decide (uptoBulkAll ds ≤ 1048576)
def OpenSpec.upto (s : _root_.Go.ChangeSpec) : _root_.Go.OpenSpec := { _root_.Go.OpenSpec.ofChange s with cond := some uptoSmall }

/-- 'laws.FnUnwound', WHERE WHAT IT READS IS OF BULK AT MOST 1048576: true; the input reads as it did. -/
def fnUnwoundUptoRow : OpenClaim := { program := "ytoglejgmjeojoaagreat", sum := "f6c282784cbb9c885cdd4d39147342e0f2f83bae7f82fb32cb60be3eae299870", func := "loop.example/g03314/laws.FnUnwound", spec := "fnUnwound", recurses := true, apart := false, narrowed := true }
def FnUnwoundUptoSaid : Prop := fnUnwoundUptoRow.holds Tryz.pinned (OpenSpec.upto fnUnwoundSpec)

/-- 'laws.FnPartialViews', WHERE WHAT IT READS IS OF BULK AT MOST 1048576: true; the input reads as it did. -/
def fnPartialViewsUptoRow : OpenClaim := { program := "ytoglejgmjeojoaagreat", sum := "f6c282784cbb9c885cdd4d39147342e0f2f83bae7f82fb32cb60be3eae299870", func := "loop.example/g03314/laws.FnPartialViews", spec := "fnPartialViews", recurses := true, apart := false, narrowed := true }
def FnPartialViewsUptoSaid : Prop := fnPartialViewsUptoRow.holds Tryz.pinned (OpenSpec.upto fnPartialViewsSpec)

/-- 'laws.FnExactPlacesOf', WHERE WHAT IT READS IS OF BULK AT MOST 1048576: true; the input reads as it did. -/
def fnExactPlacesOfUptoRow : OpenClaim := { program := "ytoglejgmjeojoaagreat", sum := "f6c282784cbb9c885cdd4d39147342e0f2f83bae7f82fb32cb60be3eae299870", func := "loop.example/g03314/laws.FnExactPlacesOf", spec := "fnExactPlacesOf", recurses := true, apart := false, narrowed := true }
def FnExactPlacesOfUptoSaid : Prop := fnExactPlacesOfUptoRow.holds Tryz.pinned (OpenSpec.upto fnExactPlacesOfSpec)

/-- 'laws.FnExactLoadSpace', WHERE WHAT IT READS IS OF BULK AT MOST 1048576: true; the input reads as it did. -/
def fnExactLoadSpaceUptoRow : OpenClaim := { program := "ytoglejgmjeojoaagreat", sum := "f6c282784cbb9c885cdd4d39147342e0f2f83bae7f82fb32cb60be3eae299870", func := "loop.example/g03314/laws.FnExactLoadSpace", spec := "fnExactLoadSpace", recurses := true, apart := false, narrowed := true }
def FnExactLoadSpaceUptoSaid : Prop := fnExactLoadSpaceUptoRow.holds Tryz.pinned (OpenSpec.upto fnExactLoadSpaceSpec)

/-- 'laws.FnBuildsAlike', WHERE WHAT IT READS IS OF BULK AT MOST 1048576: true; the input reads as it did. -/
def fnBuildsAlikeUptoRow : OpenClaim := { program := "ytoglejgmjeojoaagreat", sum := "f6c282784cbb9c885cdd4d39147342e0f2f83bae7f82fb32cb60be3eae299870", func := "loop.example/g03314/laws.FnBuildsAlike", spec := "fnBuildsAlike", recurses := true, apart := false, narrowed := true }
def FnBuildsAlikeUptoSaid : Prop := fnBuildsAlikeUptoRow.holds Tryz.pinned (OpenSpec.upto fnBuildsAlikeSpec)

/-- 'laws.FnDebugFiles', WHERE WHAT IT READS IS OF BULK AT MOST 1048576: true; the input reads as it did. -/
def fnDebugFilesUptoRow : OpenClaim := { program := "ytoglejgmjeojoaagreat", sum := "f6c282784cbb9c885cdd4d39147342e0f2f83bae7f82fb32cb60be3eae299870", func := "loop.example/g03314/laws.FnDebugFiles", spec := "fnDebugFiles", recurses := true, apart := false, narrowed := true }
def FnDebugFilesUptoSaid : Prop := fnDebugFilesUptoRow.holds Tryz.pinned (OpenSpec.upto fnDebugFilesSpec)

end Rows
end Go.Proofs.YtoglejgmjeojoaaGreat
