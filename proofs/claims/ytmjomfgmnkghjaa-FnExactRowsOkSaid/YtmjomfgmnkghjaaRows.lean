/-
  No cell of these rows narrows 'for every input' (looked for: loops, veiled, ifaces, maps, wideKeys, modest, calm, conditions, laid).
  DERIVED. THE GIVEN ROWS OF THIS SEAT. 12 by the template 'for every input the law returns true; each argument reads behind the call as it read before'; 0 by the template 'total and deterministic' (their statements: YtmjomfgmnkghjaaTotals.lean).
  GIVEN WITH THE SEED: the statements are not yours to turn. If you find one false, say at which input.
  Laid BY PROGRAM, IN A SANDBOX (cutbox-rows.mjs): the forced cells as the released guide's own fill.sh prints them over the translation a4119d2ac955f17d… (all of the seat's roots in one cut). By AI agents, Wed Nov 11 2026. No macro, syntax, notation, axiom, sorry.
-/
import Derived.Test.YtmjomfgmnkghjaaChecked
import GoSem.Claim
import GoSem.ClaimJoined
import GoSem.ClaimMapViews
import Derived.JoinedTies
import Derived.KernelRfl
namespace Go.Proofs.Ytmjomfgmnkghjaa
/- THE CELL 'sum', in the pinned program and in every row, IS THE sha256 OF THE DUMP (.gsa) THAT YtmjomfgmnkghjaaProg.lean LOADS. Nothing in Lean hashes anything: it is a label: what it is worth is what the hold of that sum in a sandbox is worth. -/
noncomputable def Try.pinned : Pinned := { name := "ytmjomfgmnkghjaa", sum := "a4119d2ac955f17d3ce9a8cff07aae6a8bccd8aeda327212e167fe40d0338d73", checked := Try.checked }
namespace Rows
def none {H : Type} : Left H := { results := [], args := [] }

/-- 'laws.FnExactRowsOk': WHATEVER THE INPUT: true; the input reads as it did. -/
def fnExactRowsOkSpec : ChangeSpec := { name := "fnExactRowsOk", fn := fun _ => fun
  | [d] => { results := [.lit (.bool true)], args := [d] }
  | _ => none }
def fnExactRowsOkRow : OpenClaim := { program := "ytmjomfgmnkghjaa", sum := "a4119d2ac955f17d3ce9a8cff07aae6a8bccd8aeda327212e167fe40d0338d73", func := "loop.example/g03314/laws.FnExactRowsOk", spec := "fnExactRowsOk", apart := false }
def FnExactRowsOkSaid : Prop := fnExactRowsOkRow.holds Try.pinned (OpenSpec.ofChange fnExactRowsOkSpec)

/-- ITS FALSE NEIGHBOUR: 'it returns false'. Refute it at one input. -/
def fnExactRowsOkWrong : ChangeSpec := { name := "fnExactRowsOk", fn := fun _ => fun
  | [d] => { results := [.lit (.bool false)], args := [d] }
  | _ => none }
def FnExactRowsOkWrongFalsely : Prop := fnExactRowsOkRow.holds Try.pinned (OpenSpec.ofChange fnExactRowsOkWrong)

/-- 'laws.FnExactViewOk': WHATEVER THE INPUT: true; the input reads as it did. -/
def fnExactViewOkSpec : ChangeSpec := { name := "fnExactViewOk", fn := fun _ => fun
  | [d] => { results := [.lit (.bool true)], args := [d] }
  | _ => none }
def fnExactViewOkRow : OpenClaim := { program := "ytmjomfgmnkghjaa", sum := "a4119d2ac955f17d3ce9a8cff07aae6a8bccd8aeda327212e167fe40d0338d73", func := "loop.example/g03314/laws.FnExactViewOk", spec := "fnExactViewOk", apart := false }
def FnExactViewOkSaid : Prop := fnExactViewOkRow.holds Try.pinned (OpenSpec.ofChange fnExactViewOkSpec)

/-- ITS FALSE NEIGHBOUR: 'it returns false'. Refute it at one input. -/
def fnExactViewOkWrong : ChangeSpec := { name := "fnExactViewOk", fn := fun _ => fun
  | [d] => { results := [.lit (.bool false)], args := [d] }
  | _ => none }
def FnExactViewOkWrongFalsely : Prop := fnExactViewOkRow.holds Try.pinned (OpenSpec.ofChange fnExactViewOkWrong)

/-- 'laws.FnExactRulesOk': WHATEVER THE INPUT: true; the input reads as it did. -/
def fnExactRulesOkSpec : ChangeSpec := { name := "fnExactRulesOk", fn := fun _ => fun
  | [d] => { results := [.lit (.bool true)], args := [d] }
  | _ => none }
def fnExactRulesOkRow : OpenClaim := { program := "ytmjomfgmnkghjaa", sum := "a4119d2ac955f17d3ce9a8cff07aae6a8bccd8aeda327212e167fe40d0338d73", func := "loop.example/g03314/laws.FnExactRulesOk", spec := "fnExactRulesOk", apart := false }
def FnExactRulesOkSaid : Prop := fnExactRulesOkRow.holds Try.pinned (OpenSpec.ofChange fnExactRulesOkSpec)

/-- ITS FALSE NEIGHBOUR: 'it returns false'. Refute it at one input. -/
def fnExactRulesOkWrong : ChangeSpec := { name := "fnExactRulesOk", fn := fun _ => fun
  | [d] => { results := [.lit (.bool false)], args := [d] }
  | _ => none }
def FnExactRulesOkWrongFalsely : Prop := fnExactRulesOkRow.holds Try.pinned (OpenSpec.ofChange fnExactRulesOkWrong)

/-- 'laws.FnExactWordOf': WHATEVER THE INPUT: true; the input reads as it did. -/
def fnExactWordOfSpec : ChangeSpec := { name := "fnExactWordOf", fn := fun _ => fun
  | [d1, d2] => { results := [.lit (.bool true)], args := [d1, d2] }
  | _ => none }
def fnExactWordOfRow : OpenClaim := { program := "ytmjomfgmnkghjaa", sum := "a4119d2ac955f17d3ce9a8cff07aae6a8bccd8aeda327212e167fe40d0338d73", func := "loop.example/g03314/laws.FnExactWordOf", spec := "fnExactWordOf", apart := false }
def FnExactWordOfSaid : Prop := fnExactWordOfRow.holds Try.pinned (OpenSpec.ofChange fnExactWordOfSpec)

/-- ITS FALSE NEIGHBOUR: 'it returns false'. Refute it at one input. -/
def fnExactWordOfWrong : ChangeSpec := { name := "fnExactWordOf", fn := fun _ => fun
  | [d1, d2] => { results := [.lit (.bool false)], args := [d1, d2] }
  | _ => none }
def FnExactWordOfWrongFalsely : Prop := fnExactWordOfRow.holds Try.pinned (OpenSpec.ofChange fnExactWordOfWrong)

/-- 'laws.FnExactMachineOk': WHATEVER THE INPUT: true; the input reads as it did. -/
def fnExactMachineOkSpec : ChangeSpec := { name := "fnExactMachineOk", fn := fun _ => fun
  | [d] => { results := [.lit (.bool true)], args := [d] }
  | _ => none }
def fnExactMachineOkRow : OpenClaim := { program := "ytmjomfgmnkghjaa", sum := "a4119d2ac955f17d3ce9a8cff07aae6a8bccd8aeda327212e167fe40d0338d73", func := "loop.example/g03314/laws.FnExactMachineOk", spec := "fnExactMachineOk", apart := false }
def FnExactMachineOkSaid : Prop := fnExactMachineOkRow.holds Try.pinned (OpenSpec.ofChange fnExactMachineOkSpec)

/-- ITS FALSE NEIGHBOUR: 'it returns false'. Refute it at one input. -/
def fnExactMachineOkWrong : ChangeSpec := { name := "fnExactMachineOk", fn := fun _ => fun
  | [d] => { results := [.lit (.bool false)], args := [d] }
  | _ => none }
def FnExactMachineOkWrongFalsely : Prop := fnExactMachineOkRow.holds Try.pinned (OpenSpec.ofChange fnExactMachineOkWrong)

/-- 'laws.FnExactFindRow': WHATEVER THE INPUT: true; the input reads as it did. -/
def fnExactFindRowSpec : ChangeSpec := { name := "fnExactFindRow", fn := fun _ => fun
  | [d1, d2] => { results := [.lit (.bool true)], args := [d1, d2] }
  | _ => none }
def fnExactFindRowRow : OpenClaim := { program := "ytmjomfgmnkghjaa", sum := "a4119d2ac955f17d3ce9a8cff07aae6a8bccd8aeda327212e167fe40d0338d73", func := "loop.example/g03314/laws.FnExactFindRow", spec := "fnExactFindRow", apart := false }
def FnExactFindRowSaid : Prop := fnExactFindRowRow.holds Try.pinned (OpenSpec.ofChange fnExactFindRowSpec)

/-- ITS FALSE NEIGHBOUR: 'it returns false'. Refute it at one input. -/
def fnExactFindRowWrong : ChangeSpec := { name := "fnExactFindRow", fn := fun _ => fun
  | [d1, d2] => { results := [.lit (.bool false)], args := [d1, d2] }
  | _ => none }
def FnExactFindRowWrongFalsely : Prop := fnExactFindRowRow.holds Try.pinned (OpenSpec.ofChange fnExactFindRowWrong)

/-- 'laws.FnExactFindRule': WHATEVER THE INPUT: true; the input reads as it did. -/
def fnExactFindRuleSpec : ChangeSpec := { name := "fnExactFindRule", fn := fun _ => fun
  | [d1, d2] => { results := [.lit (.bool true)], args := [d1, d2] }
  | _ => none }
def fnExactFindRuleRow : OpenClaim := { program := "ytmjomfgmnkghjaa", sum := "a4119d2ac955f17d3ce9a8cff07aae6a8bccd8aeda327212e167fe40d0338d73", func := "loop.example/g03314/laws.FnExactFindRule", spec := "fnExactFindRule", apart := false }
def FnExactFindRuleSaid : Prop := fnExactFindRuleRow.holds Try.pinned (OpenSpec.ofChange fnExactFindRuleSpec)

/-- ITS FALSE NEIGHBOUR: 'it returns false'. Refute it at one input. -/
def fnExactFindRuleWrong : ChangeSpec := { name := "fnExactFindRule", fn := fun _ => fun
  | [d1, d2] => { results := [.lit (.bool false)], args := [d1, d2] }
  | _ => none }
def FnExactFindRuleWrongFalsely : Prop := fnExactFindRuleRow.holds Try.pinned (OpenSpec.ofChange fnExactFindRuleWrong)

/-- 'laws.FnExactIsStart': WHATEVER THE INPUT: true; the input reads as it did. -/
def fnExactIsStartSpec : ChangeSpec := { name := "fnExactIsStart", fn := fun _ => fun
  | [d1, d2] => { results := [.lit (.bool true)], args := [d1, d2] }
  | _ => none }
def fnExactIsStartRow : OpenClaim := { program := "ytmjomfgmnkghjaa", sum := "a4119d2ac955f17d3ce9a8cff07aae6a8bccd8aeda327212e167fe40d0338d73", func := "loop.example/g03314/laws.FnExactIsStart", spec := "fnExactIsStart", apart := false }
def FnExactIsStartSaid : Prop := fnExactIsStartRow.holds Try.pinned (OpenSpec.ofChange fnExactIsStartSpec)

/-- ITS FALSE NEIGHBOUR: 'it returns false'. Refute it at one input. -/
def fnExactIsStartWrong : ChangeSpec := { name := "fnExactIsStart", fn := fun _ => fun
  | [d1, d2] => { results := [.lit (.bool false)], args := [d1, d2] }
  | _ => none }
def FnExactIsStartWrongFalsely : Prop := fnExactIsStartRow.holds Try.pinned (OpenSpec.ofChange fnExactIsStartWrong)

/-- 'laws.FnExactInlinesOk': WHATEVER THE INPUT: true; the input reads as it did. -/
def fnExactInlinesOkSpec : ChangeSpec := { name := "fnExactInlinesOk", fn := fun _ => fun
  | [d] => { results := [.lit (.bool true)], args := [d] }
  | _ => none }
def fnExactInlinesOkRow : OpenClaim := { program := "ytmjomfgmnkghjaa", sum := "a4119d2ac955f17d3ce9a8cff07aae6a8bccd8aeda327212e167fe40d0338d73", func := "loop.example/g03314/laws.FnExactInlinesOk", spec := "fnExactInlinesOk", apart := false }
def FnExactInlinesOkSaid : Prop := fnExactInlinesOkRow.holds Try.pinned (OpenSpec.ofChange fnExactInlinesOkSpec)

/-- ITS FALSE NEIGHBOUR: 'it returns false'. Refute it at one input. -/
def fnExactInlinesOkWrong : ChangeSpec := { name := "fnExactInlinesOk", fn := fun _ => fun
  | [d] => { results := [.lit (.bool false)], args := [d] }
  | _ => none }
def FnExactInlinesOkWrongFalsely : Prop := fnExactInlinesOkRow.holds Try.pinned (OpenSpec.ofChange fnExactInlinesOkWrong)

/-- 'laws.FnExactEncodeRows': WHATEVER THE INPUT: true; the input reads as it did. -/
def fnExactEncodeRowsSpec : ChangeSpec := { name := "fnExactEncodeRows", fn := fun _ => fun
  | [d] => { results := [.lit (.bool true)], args := [d] }
  | _ => none }
def fnExactEncodeRowsRow : OpenClaim := { program := "ytmjomfgmnkghjaa", sum := "a4119d2ac955f17d3ce9a8cff07aae6a8bccd8aeda327212e167fe40d0338d73", func := "loop.example/g03314/laws.FnExactEncodeRows", spec := "fnExactEncodeRows", apart := false }
def FnExactEncodeRowsSaid : Prop := fnExactEncodeRowsRow.holds Try.pinned (OpenSpec.ofChange fnExactEncodeRowsSpec)

/-- ITS FALSE NEIGHBOUR: 'it returns false'. Refute it at one input. -/
def fnExactEncodeRowsWrong : ChangeSpec := { name := "fnExactEncodeRows", fn := fun _ => fun
  | [d] => { results := [.lit (.bool false)], args := [d] }
  | _ => none }
def FnExactEncodeRowsWrongFalsely : Prop := fnExactEncodeRowsRow.holds Try.pinned (OpenSpec.ofChange fnExactEncodeRowsWrong)

/-- 'laws.FnExactEncodeRules': WHATEVER THE INPUT: true; the input reads as it did. -/
def fnExactEncodeRulesSpec : ChangeSpec := { name := "fnExactEncodeRules", fn := fun _ => fun
  | [d] => { results := [.lit (.bool true)], args := [d] }
  | _ => none }
def fnExactEncodeRulesRow : OpenClaim := { program := "ytmjomfgmnkghjaa", sum := "a4119d2ac955f17d3ce9a8cff07aae6a8bccd8aeda327212e167fe40d0338d73", func := "loop.example/g03314/laws.FnExactEncodeRules", spec := "fnExactEncodeRules", apart := false }
def FnExactEncodeRulesSaid : Prop := fnExactEncodeRulesRow.holds Try.pinned (OpenSpec.ofChange fnExactEncodeRulesSpec)

/-- ITS FALSE NEIGHBOUR: 'it returns false'. Refute it at one input. -/
def fnExactEncodeRulesWrong : ChangeSpec := { name := "fnExactEncodeRules", fn := fun _ => fun
  | [d] => { results := [.lit (.bool false)], args := [d] }
  | _ => none }
def FnExactEncodeRulesWrongFalsely : Prop := fnExactEncodeRulesRow.holds Try.pinned (OpenSpec.ofChange fnExactEncodeRulesWrong)

/-- 'laws.FnExactEncodeInlines': WHATEVER THE INPUT: true; the input reads as it did. -/
def fnExactEncodeInlinesSpec : ChangeSpec := { name := "fnExactEncodeInlines", fn := fun _ => fun
  | [d] => { results := [.lit (.bool true)], args := [d] }
  | _ => none }
def fnExactEncodeInlinesRow : OpenClaim := { program := "ytmjomfgmnkghjaa", sum := "a4119d2ac955f17d3ce9a8cff07aae6a8bccd8aeda327212e167fe40d0338d73", func := "loop.example/g03314/laws.FnExactEncodeInlines", spec := "fnExactEncodeInlines", apart := false }
def FnExactEncodeInlinesSaid : Prop := fnExactEncodeInlinesRow.holds Try.pinned (OpenSpec.ofChange fnExactEncodeInlinesSpec)

/-- ITS FALSE NEIGHBOUR: 'it returns false'. Refute it at one input. -/
def fnExactEncodeInlinesWrong : ChangeSpec := { name := "fnExactEncodeInlines", fn := fun _ => fun
  | [d] => { results := [.lit (.bool false)], args := [d] }
  | _ => none }
def FnExactEncodeInlinesWrongFalsely : Prop := fnExactEncodeInlinesRow.holds Try.pinned (OpenSpec.ofChange fnExactEncodeInlinesWrong)

/- THE SECOND FORM. 'bulk': how many values and letters a reading holds, each counted each time it is reached (what is shared counts as often as it is met; a slice's spare places count too). A statement '..UptoSaid' is the law's where the arguments, and the package variables that the reading takes, are together of bulk at most 1048576: NARROWER than '..Said'. Prove '..Said' where nothing that the law and all that it calls make is longer than what came in: it says more and counts as full. Else prove '..UptoSaid'. A law counts once. -/
mutual
def uptoBulk {H : Type} : DataW H → Nat
  | .lit (.string bytes) => bytes.length + 1
  | .lit _ => 1
  | .nil => 1
  | .ptr d => uptoBulk d + 1
  | .slice elems spare => uptoBulkAll elems + uptoBulkAll spare + 1
  | .agg parts => uptoBulkAll parts + 1
  | .iface _ d => uptoBulk d + 1
  | .map entries => uptoBulkEntries entries + 1
  | .held _ => 1
def uptoBulkAll {H : Type} : List (DataW H) → Nat
  | [] => 0
  | d :: r => uptoBulk d + uptoBulkAll r
def uptoBulkEntries {H : Type} : List (Lit × DataW H) → Nat
  | [] => 0
  | x :: r => uptoBulkEntry x + uptoBulkEntries r
def uptoBulkEntry {H : Type} : Lit × DataW H → Nat
  | (.string bytes, d) => bytes.length + uptoBulk d + 1
  | (_, d) => uptoBulk d + 1
 end
def uptoSmall : (H : Type) → List (DataW H) → Bool := fun _ ds => decide (uptoBulkAll ds ≤ 1048576)
def OpenSpec.upto (s : _root_.Go.ChangeSpec) : _root_.Go.OpenSpec := { _root_.Go.OpenSpec.ofChange s with cond := some uptoSmall }

/-- 'laws.FnExactRowsOk', WHERE WHAT IT READS IS OF BULK AT MOST 1048576: true; the input reads as it did. -/
def fnExactRowsOkUptoRow : OpenClaim := { program := "ytmjomfgmnkghjaa", sum := "a4119d2ac955f17d3ce9a8cff07aae6a8bccd8aeda327212e167fe40d0338d73", func := "loop.example/g03314/laws.FnExactRowsOk", spec := "fnExactRowsOk", apart := false, narrowed := true }
def FnExactRowsOkUptoSaid : Prop := fnExactRowsOkUptoRow.holds Try.pinned (OpenSpec.upto fnExactRowsOkSpec)

/-- 'laws.FnExactViewOk', WHERE WHAT IT READS IS OF BULK AT MOST 1048576: true; the input reads as it did. -/
def fnExactViewOkUptoRow : OpenClaim := { program := "ytmjomfgmnkghjaa", sum := "a4119d2ac955f17d3ce9a8cff07aae6a8bccd8aeda327212e167fe40d0338d73", func := "loop.example/g03314/laws.FnExactViewOk", spec := "fnExactViewOk", apart := false, narrowed := true }
def FnExactViewOkUptoSaid : Prop := fnExactViewOkUptoRow.holds Try.pinned (OpenSpec.upto fnExactViewOkSpec)

/-- 'laws.FnExactRulesOk', WHERE WHAT IT READS IS OF BULK AT MOST 1048576: true; the input reads as it did. -/
def fnExactRulesOkUptoRow : OpenClaim := { program := "ytmjomfgmnkghjaa", sum := "a4119d2ac955f17d3ce9a8cff07aae6a8bccd8aeda327212e167fe40d0338d73", func := "loop.example/g03314/laws.FnExactRulesOk", spec := "fnExactRulesOk", apart := false, narrowed := true }
def FnExactRulesOkUptoSaid : Prop := fnExactRulesOkUptoRow.holds Try.pinned (OpenSpec.upto fnExactRulesOkSpec)

/-- 'laws.FnExactWordOf', WHERE WHAT IT READS IS OF BULK AT MOST 1048576: true; the input reads as it did. -/
def fnExactWordOfUptoRow : OpenClaim := { program := "ytmjomfgmnkghjaa", sum := "a4119d2ac955f17d3ce9a8cff07aae6a8bccd8aeda327212e167fe40d0338d73", func := "loop.example/g03314/laws.FnExactWordOf", spec := "fnExactWordOf", apart := false, narrowed := true }
def FnExactWordOfUptoSaid : Prop := fnExactWordOfUptoRow.holds Try.pinned (OpenSpec.upto fnExactWordOfSpec)

/-- 'laws.FnExactMachineOk', WHERE WHAT IT READS IS OF BULK AT MOST 1048576: true; the input reads as it did. -/
def fnExactMachineOkUptoRow : OpenClaim := { program := "ytmjomfgmnkghjaa", sum := "a4119d2ac955f17d3ce9a8cff07aae6a8bccd8aeda327212e167fe40d0338d73", func := "loop.example/g03314/laws.FnExactMachineOk", spec := "fnExactMachineOk", apart := false, narrowed := true }
def FnExactMachineOkUptoSaid : Prop := fnExactMachineOkUptoRow.holds Try.pinned (OpenSpec.upto fnExactMachineOkSpec)

/-- 'laws.FnExactFindRow', WHERE WHAT IT READS IS OF BULK AT MOST 1048576: true; the input reads as it did. -/
def fnExactFindRowUptoRow : OpenClaim := { program := "ytmjomfgmnkghjaa", sum := "a4119d2ac955f17d3ce9a8cff07aae6a8bccd8aeda327212e167fe40d0338d73", func := "loop.example/g03314/laws.FnExactFindRow", spec := "fnExactFindRow", apart := false, narrowed := true }
def FnExactFindRowUptoSaid : Prop := fnExactFindRowUptoRow.holds Try.pinned (OpenSpec.upto fnExactFindRowSpec)

/-- 'laws.FnExactFindRule', WHERE WHAT IT READS IS OF BULK AT MOST 1048576: true; the input reads as it did. -/
def fnExactFindRuleUptoRow : OpenClaim := { program := "ytmjomfgmnkghjaa", sum := "a4119d2ac955f17d3ce9a8cff07aae6a8bccd8aeda327212e167fe40d0338d73", func := "loop.example/g03314/laws.FnExactFindRule", spec := "fnExactFindRule", apart := false, narrowed := true }
def FnExactFindRuleUptoSaid : Prop := fnExactFindRuleUptoRow.holds Try.pinned (OpenSpec.upto fnExactFindRuleSpec)

/-- 'laws.FnExactIsStart', WHERE WHAT IT READS IS OF BULK AT MOST 1048576: true; the input reads as it did. -/
def fnExactIsStartUptoRow : OpenClaim := { program := "ytmjomfgmnkghjaa", sum := "a4119d2ac955f17d3ce9a8cff07aae6a8bccd8aeda327212e167fe40d0338d73", func := "loop.example/g03314/laws.FnExactIsStart", spec := "fnExactIsStart", apart := false, narrowed := true }
def FnExactIsStartUptoSaid : Prop := fnExactIsStartUptoRow.holds Try.pinned (OpenSpec.upto fnExactIsStartSpec)

/-- 'laws.FnExactInlinesOk', WHERE WHAT IT READS IS OF BULK AT MOST 1048576: true; the input reads as it did. -/
def fnExactInlinesOkUptoRow : OpenClaim := { program := "ytmjomfgmnkghjaa", sum := "a4119d2ac955f17d3ce9a8cff07aae6a8bccd8aeda327212e167fe40d0338d73", func := "loop.example/g03314/laws.FnExactInlinesOk", spec := "fnExactInlinesOk", apart := false, narrowed := true }
def FnExactInlinesOkUptoSaid : Prop := fnExactInlinesOkUptoRow.holds Try.pinned (OpenSpec.upto fnExactInlinesOkSpec)

/-- 'laws.FnExactEncodeRows', WHERE WHAT IT READS IS OF BULK AT MOST 1048576: true; the input reads as it did. -/
def fnExactEncodeRowsUptoRow : OpenClaim := { program := "ytmjomfgmnkghjaa", sum := "a4119d2ac955f17d3ce9a8cff07aae6a8bccd8aeda327212e167fe40d0338d73", func := "loop.example/g03314/laws.FnExactEncodeRows", spec := "fnExactEncodeRows", apart := false, narrowed := true }
def FnExactEncodeRowsUptoSaid : Prop := fnExactEncodeRowsUptoRow.holds Try.pinned (OpenSpec.upto fnExactEncodeRowsSpec)

/-- 'laws.FnExactEncodeRules', WHERE WHAT IT READS IS OF BULK AT MOST 1048576: true; the input reads as it did. -/
def fnExactEncodeRulesUptoRow : OpenClaim := { program := "ytmjomfgmnkghjaa", sum := "a4119d2ac955f17d3ce9a8cff07aae6a8bccd8aeda327212e167fe40d0338d73", func := "loop.example/g03314/laws.FnExactEncodeRules", spec := "fnExactEncodeRules", apart := false, narrowed := true }
def FnExactEncodeRulesUptoSaid : Prop := fnExactEncodeRulesUptoRow.holds Try.pinned (OpenSpec.upto fnExactEncodeRulesSpec)

/-- 'laws.FnExactEncodeInlines', WHERE WHAT IT READS IS OF BULK AT MOST 1048576: true; the input reads as it did. -/
def fnExactEncodeInlinesUptoRow : OpenClaim := { program := "ytmjomfgmnkghjaa", sum := "a4119d2ac955f17d3ce9a8cff07aae6a8bccd8aeda327212e167fe40d0338d73", func := "loop.example/g03314/laws.FnExactEncodeInlines", spec := "fnExactEncodeInlines", apart := false, narrowed := true }
def FnExactEncodeInlinesUptoSaid : Prop := fnExactEncodeInlinesUptoRow.holds Try.pinned (OpenSpec.upto fnExactEncodeInlinesSpec)

end Rows
end Go.Proofs.Ytmjomfgmnkghjaa
