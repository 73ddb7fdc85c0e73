/-
  No cell of these rows narrows 'for every input' (looked for: loops, veiled, ifaces, maps, wideKeys, modest, calm, conditions, laid).
  DERIVED. THE GIVEN ROWS OF THIS SEAT. 12 by the template 'for every input the law returns true; each argument reads behind the call as it read before'; 0 by the template 'total and deterministic' (their statements: YtcamdgkjijepeaaTotals.lean).
  GIVEN WITH THE SEED: the statements are not yours to turn. If you find one false, say at which input.
  Laid BY PROGRAM, IN A SANDBOX (cutbox-rows.mjs): the forced cells as the released guide's own fill.sh prints them over the translation 65977bb7fe7390ab… (all of the seat's roots in one cut). By AI agents, Wed Nov 11 2026. No macro, syntax, notation, axiom, sorry.
-/
import Derived.Test.YtcamdgkjijepeaaChecked
import GoSem.Claim
import GoSem.ClaimJoined
import GoSem.ClaimMapViews
import Derived.JoinedTies
import Derived.KernelRfl
namespace Go.Proofs.Ytcamdgkjijepeaa
/- THE CELL 'sum', in the pinned program and in every row, IS THE sha256 OF THE DUMP (.gsa) THAT YtcamdgkjijepeaaProg.lean LOADS. Nothing in Lean hashes anything: it is a label: what it is worth is what the hold of that sum in a sandbox is worth. -/
noncomputable def Try.pinned : Pinned := { name := "ytcamdgkjijepeaa", sum := "65977bb7fe7390ab010b84f1d21429ecafa90d5083e0835d7e5e7359512bd580", checked := Try.checked }
namespace Rows
def none {H : Type} : Left H := { results := [], args := [] }

/-- 'laws.FnExactFixedNumbers': WHATEVER THE INPUT: true; the input reads as it did. -/
def fnExactFixedNumbersSpec : ChangeSpec := { name := "fnExactFixedNumbers", fn := fun _ => fun
  | [d1, d2] => { results := [.lit (.bool true)], args := [d1, d2] }
  | _ => none }
def fnExactFixedNumbersRow : OpenClaim := { program := "ytcamdgkjijepeaa", sum := "65977bb7fe7390ab010b84f1d21429ecafa90d5083e0835d7e5e7359512bd580", func := "loop.example/g01363/laws.FnExactFixedNumbers", spec := "fnExactFixedNumbers", unfollowed := true, recurses := true, apart := false }
def FnExactFixedNumbersSaid : Prop := fnExactFixedNumbersRow.holds Try.pinned (OpenSpec.ofChange fnExactFixedNumbersSpec)

/-- ITS FALSE NEIGHBOUR: 'it returns false'. Refute it at one input. -/
def fnExactFixedNumbersWrong : ChangeSpec := { name := "fnExactFixedNumbers", fn := fun _ => fun
  | [d1, d2] => { results := [.lit (.bool false)], args := [d1, d2] }
  | _ => none }
def FnExactFixedNumbersWrongFalsely : Prop := fnExactFixedNumbersRow.holds Try.pinned (OpenSpec.ofChange fnExactFixedNumbersWrong)

/-- 'laws.FnExactDifferenceNumbers': WHATEVER THE INPUT: true; the input reads as it did. -/
def fnExactDifferenceNumbersSpec : ChangeSpec := { name := "fnExactDifferenceNumbers", fn := fun _ => fun
  | [d1, d2] => { results := [.lit (.bool true)], args := [d1, d2] }
  | _ => none }
def fnExactDifferenceNumbersRow : OpenClaim := { program := "ytcamdgkjijepeaa", sum := "65977bb7fe7390ab010b84f1d21429ecafa90d5083e0835d7e5e7359512bd580", func := "loop.example/g01363/laws.FnExactDifferenceNumbers", spec := "fnExactDifferenceNumbers", unfollowed := true, recurses := true, apart := false }
def FnExactDifferenceNumbersSaid : Prop := fnExactDifferenceNumbersRow.holds Try.pinned (OpenSpec.ofChange fnExactDifferenceNumbersSpec)

/-- ITS FALSE NEIGHBOUR: 'it returns false'. Refute it at one input. -/
def fnExactDifferenceNumbersWrong : ChangeSpec := { name := "fnExactDifferenceNumbers", fn := fun _ => fun
  | [d1, d2] => { results := [.lit (.bool false)], args := [d1, d2] }
  | _ => none }
def FnExactDifferenceNumbersWrongFalsely : Prop := fnExactDifferenceNumbersRow.holds Try.pinned (OpenSpec.ofChange fnExactDifferenceNumbersWrong)

/-- 'laws.FnExactNormOf': WHATEVER THE INPUT: true; the input reads as it did. -/
def fnExactNormOfSpec : ChangeSpec := { name := "fnExactNormOf", fn := fun _ => fun
  | [d1, d2] => { results := [.lit (.bool true)], args := [d1, d2] }
  | _ => none }
def fnExactNormOfRow : OpenClaim := { program := "ytcamdgkjijepeaa", sum := "65977bb7fe7390ab010b84f1d21429ecafa90d5083e0835d7e5e7359512bd580", func := "loop.example/g01363/laws.FnExactNormOf", spec := "fnExactNormOf", apart := false }
def FnExactNormOfSaid : Prop := fnExactNormOfRow.holds Try.pinned (OpenSpec.ofChange fnExactNormOfSpec)

/-- ITS FALSE NEIGHBOUR: 'it returns false'. Refute it at one input. -/
def fnExactNormOfWrong : ChangeSpec := { name := "fnExactNormOf", fn := fun _ => fun
  | [d1, d2] => { results := [.lit (.bool false)], args := [d1, d2] }
  | _ => none }
def FnExactNormOfWrongFalsely : Prop := fnExactNormOfRow.holds Try.pinned (OpenSpec.ofChange fnExactNormOfWrong)

/-- 'laws.FnExactKernelOf': WHATEVER THE INPUT: true; the input reads as it did. -/
def fnExactKernelOfSpec : ChangeSpec := { name := "fnExactKernelOf", fn := fun _ => fun
  | [d1, d2] => { results := [.lit (.bool true)], args := [d1, d2] }
  | _ => none }
def fnExactKernelOfRow : OpenClaim := { program := "ytcamdgkjijepeaa", sum := "65977bb7fe7390ab010b84f1d21429ecafa90d5083e0835d7e5e7359512bd580", func := "loop.example/g01363/laws.FnExactKernelOf", spec := "fnExactKernelOf", unfollowed := true, recurses := true, apart := false }
def FnExactKernelOfSaid : Prop := fnExactKernelOfRow.holds Try.pinned (OpenSpec.ofChange fnExactKernelOfSpec)

/-- ITS FALSE NEIGHBOUR: 'it returns false'. Refute it at one input. -/
def fnExactKernelOfWrong : ChangeSpec := { name := "fnExactKernelOf", fn := fun _ => fun
  | [d1, d2] => { results := [.lit (.bool false)], args := [d1, d2] }
  | _ => none }
def FnExactKernelOfWrongFalsely : Prop := fnExactKernelOfRow.holds Try.pinned (OpenSpec.ofChange fnExactKernelOfWrong)

/-- 'laws.FnExactLeadNumber': WHATEVER THE INPUT: true; the input reads as it did. -/
def fnExactLeadNumberSpec : ChangeSpec := { name := "fnExactLeadNumber", fn := fun _ => fun
  | [d1, d2, d3, d4] => { results := [.lit (.bool true)], args := [d1, d2, d3, d4] }
  | _ => none }
def fnExactLeadNumberRow : OpenClaim := { program := "ytcamdgkjijepeaa", sum := "65977bb7fe7390ab010b84f1d21429ecafa90d5083e0835d7e5e7359512bd580", func := "loop.example/g01363/laws.FnExactLeadNumber", spec := "fnExactLeadNumber", apart := false }
def FnExactLeadNumberSaid : Prop := fnExactLeadNumberRow.holds Try.pinned (OpenSpec.ofChange fnExactLeadNumberSpec)

/-- ITS FALSE NEIGHBOUR: 'it returns false'. Refute it at one input. -/
def fnExactLeadNumberWrong : ChangeSpec := { name := "fnExactLeadNumber", fn := fun _ => fun
  | [d1, d2, d3, d4] => { results := [.lit (.bool false)], args := [d1, d2, d3, d4] }
  | _ => none }
def FnExactLeadNumberWrongFalsely : Prop := fnExactLeadNumberRow.holds Try.pinned (OpenSpec.ofChange fnExactLeadNumberWrong)

/-- 'laws.FnExactTrivialModule': WHATEVER THE INPUT: true; the input reads as it did. -/
def fnExactTrivialModuleSpec : ChangeSpec := { name := "fnExactTrivialModule", fn := fun _ => fun
  | [d1, d2] => { results := [.lit (.bool true)], args := [d1, d2] }
  | _ => none }
def fnExactTrivialModuleRow : OpenClaim := { program := "ytcamdgkjijepeaa", sum := "65977bb7fe7390ab010b84f1d21429ecafa90d5083e0835d7e5e7359512bd580", func := "loop.example/g01363/laws.FnExactTrivialModule", spec := "fnExactTrivialModule", apart := false }
def FnExactTrivialModuleSaid : Prop := fnExactTrivialModuleRow.holds Try.pinned (OpenSpec.ofChange fnExactTrivialModuleSpec)

/-- ITS FALSE NEIGHBOUR: 'it returns false'. Refute it at one input. -/
def fnExactTrivialModuleWrong : ChangeSpec := { name := "fnExactTrivialModule", fn := fun _ => fun
  | [d1, d2] => { results := [.lit (.bool false)], args := [d1, d2] }
  | _ => none }
def FnExactTrivialModuleWrongFalsely : Prop := fnExactTrivialModuleRow.holds Try.pinned (OpenSpec.ofChange fnExactTrivialModuleWrong)

/-- 'laws.FnExactDualModule': WHATEVER THE INPUT: true; the input reads as it did. -/
def fnExactDualModuleSpec : ChangeSpec := { name := "fnExactDualModule", fn := fun _ => fun
  | [d1, d2] => { results := [.lit (.bool true)], args := [d1, d2] }
  | _ => none }
def fnExactDualModuleRow : OpenClaim := { program := "ytcamdgkjijepeaa", sum := "65977bb7fe7390ab010b84f1d21429ecafa90d5083e0835d7e5e7359512bd580", func := "loop.example/g01363/laws.FnExactDualModule", spec := "fnExactDualModule", unfollowed := true, recurses := true, apart := false }
def FnExactDualModuleSaid : Prop := fnExactDualModuleRow.holds Try.pinned (OpenSpec.ofChange fnExactDualModuleSpec)

/-- ITS FALSE NEIGHBOUR: 'it returns false'. Refute it at one input. -/
def fnExactDualModuleWrong : ChangeSpec := { name := "fnExactDualModule", fn := fun _ => fun
  | [d1, d2] => { results := [.lit (.bool false)], args := [d1, d2] }
  | _ => none }
def FnExactDualModuleWrongFalsely : Prop := fnExactDualModuleRow.holds Try.pinned (OpenSpec.ofChange fnExactDualModuleWrong)

/-- 'laws.FnExactProductModule': WHATEVER THE INPUT: true; the input reads as it did. -/
def fnExactProductModuleSpec : ChangeSpec := { name := "fnExactProductModule", fn := fun _ => fun
  | [d1, d2, d3] => { results := [.lit (.bool true)], args := [d1, d2, d3] }
  | _ => none }
def fnExactProductModuleRow : OpenClaim := { program := "ytcamdgkjijepeaa", sum := "65977bb7fe7390ab010b84f1d21429ecafa90d5083e0835d7e5e7359512bd580", func := "loop.example/g01363/laws.FnExactProductModule", spec := "fnExactProductModule", unfollowed := true, recurses := true, apart := false }
def FnExactProductModuleSaid : Prop := fnExactProductModuleRow.holds Try.pinned (OpenSpec.ofChange fnExactProductModuleSpec)

/-- ITS FALSE NEIGHBOUR: 'it returns false'. Refute it at one input. -/
def fnExactProductModuleWrong : ChangeSpec := { name := "fnExactProductModule", fn := fun _ => fun
  | [d1, d2, d3] => { results := [.lit (.bool false)], args := [d1, d2, d3] }
  | _ => none }
def FnExactProductModuleWrongFalsely : Prop := fnExactProductModuleRow.holds Try.pinned (OpenSpec.ofChange fnExactProductModuleWrong)

/-- 'laws.FnExactReduceModule': WHATEVER THE INPUT: true; the input reads as it did. -/
def fnExactReduceModuleSpec : ChangeSpec := { name := "fnExactReduceModule", fn := fun _ => fun
  | [d1, d2, d3] => { results := [.lit (.bool true)], args := [d1, d2, d3] }
  | _ => none }
def fnExactReduceModuleRow : OpenClaim := { program := "ytcamdgkjijepeaa", sum := "65977bb7fe7390ab010b84f1d21429ecafa90d5083e0835d7e5e7359512bd580", func := "loop.example/g01363/laws.FnExactReduceModule", spec := "fnExactReduceModule", unfollowed := true, recurses := true, apart := false }
def FnExactReduceModuleSaid : Prop := fnExactReduceModuleRow.holds Try.pinned (OpenSpec.ofChange fnExactReduceModuleSpec)

/-- ITS FALSE NEIGHBOUR: 'it returns false'. Refute it at one input. -/
def fnExactReduceModuleWrong : ChangeSpec := { name := "fnExactReduceModule", fn := fun _ => fun
  | [d1, d2, d3] => { results := [.lit (.bool false)], args := [d1, d2, d3] }
  | _ => none }
def FnExactReduceModuleWrongFalsely : Prop := fnExactReduceModuleRow.holds Try.pinned (OpenSpec.ofChange fnExactReduceModuleWrong)

/-- 'laws.FnExactRestrictModule': WHATEVER THE INPUT: true; the input reads as it did. -/
def fnExactRestrictModuleSpec : ChangeSpec := { name := "fnExactRestrictModule", fn := fun _ => fun
  | [d1, d2, d3, d4] => { results := [.lit (.bool true)], args := [d1, d2, d3, d4] }
  | _ => none }
def fnExactRestrictModuleRow : OpenClaim := { program := "ytcamdgkjijepeaa", sum := "65977bb7fe7390ab010b84f1d21429ecafa90d5083e0835d7e5e7359512bd580", func := "loop.example/g01363/laws.FnExactRestrictModule", spec := "fnExactRestrictModule", unfollowed := true, recurses := true, apart := false }
def FnExactRestrictModuleSaid : Prop := fnExactRestrictModuleRow.holds Try.pinned (OpenSpec.ofChange fnExactRestrictModuleSpec)

/-- ITS FALSE NEIGHBOUR: 'it returns false'. Refute it at one input. -/
def fnExactRestrictModuleWrong : ChangeSpec := { name := "fnExactRestrictModule", fn := fun _ => fun
  | [d1, d2, d3, d4] => { results := [.lit (.bool false)], args := [d1, d2, d3, d4] }
  | _ => none }
def FnExactRestrictModuleWrongFalsely : Prop := fnExactRestrictModuleRow.holds Try.pinned (OpenSpec.ofChange fnExactRestrictModuleWrong)

/-- 'laws.FnExactMapsOfModules': WHATEVER THE INPUT: true; the input reads as it did. -/
def fnExactMapsOfModulesSpec : ChangeSpec := { name := "fnExactMapsOfModules", fn := fun _ => fun
  | [d1, d2, d3] => { results := [.lit (.bool true)], args := [d1, d2, d3] }
  | _ => none }
def fnExactMapsOfModulesRow : OpenClaim := { program := "ytcamdgkjijepeaa", sum := "65977bb7fe7390ab010b84f1d21429ecafa90d5083e0835d7e5e7359512bd580", func := "loop.example/g01363/laws.FnExactMapsOfModules", spec := "fnExactMapsOfModules", unfollowed := true, recurses := true, apart := false }
def FnExactMapsOfModulesSaid : Prop := fnExactMapsOfModulesRow.holds Try.pinned (OpenSpec.ofChange fnExactMapsOfModulesSpec)

/-- ITS FALSE NEIGHBOUR: 'it returns false'. Refute it at one input. -/
def fnExactMapsOfModulesWrong : ChangeSpec := { name := "fnExactMapsOfModules", fn := fun _ => fun
  | [d1, d2, d3] => { results := [.lit (.bool false)], args := [d1, d2, d3] }
  | _ => none }
def FnExactMapsOfModulesWrongFalsely : Prop := fnExactMapsOfModulesRow.holds Try.pinned (OpenSpec.ofChange fnExactMapsOfModulesWrong)

/-- 'laws.FnExactDirectProduct': WHATEVER THE INPUT: true; the input reads as it did. -/
def fnExactDirectProductSpec : ChangeSpec := { name := "fnExactDirectProduct", fn := fun _ => fun
  | [d1, d2] => { results := [.lit (.bool true)], args := [d1, d2] }
  | _ => none }
def fnExactDirectProductRow : OpenClaim := { program := "ytcamdgkjijepeaa", sum := "65977bb7fe7390ab010b84f1d21429ecafa90d5083e0835d7e5e7359512bd580", func := "loop.example/g01363/laws.FnExactDirectProduct", spec := "fnExactDirectProduct", unfollowed := true, recurses := true, apart := false }
def FnExactDirectProductSaid : Prop := fnExactDirectProductRow.holds Try.pinned (OpenSpec.ofChange fnExactDirectProductSpec)

/-- ITS FALSE NEIGHBOUR: 'it returns false'. Refute it at one input. -/
def fnExactDirectProductWrong : ChangeSpec := { name := "fnExactDirectProduct", fn := fun _ => fun
  | [d1, d2] => { results := [.lit (.bool false)], args := [d1, d2] }
  | _ => none }
def FnExactDirectProductWrongFalsely : Prop := fnExactDirectProductRow.holds Try.pinned (OpenSpec.ofChange fnExactDirectProductWrong)

/- THE SECOND FORM. 'bulk': how many values and letters a reading holds, each counted each time it is reached (what is shared counts as often as it is met; a slice's spare places count too). A statement '..UptoSaid' is the law's where the arguments, and the package variables that the reading takes, are together of bulk at most 1048576: NARROWER than '..Said'. Prove '..Said' where nothing that the law and all that it calls make is longer than what came in: it says more and counts as full. Else prove '..UptoSaid'. A law counts once. -/
mutual
def uptoBulk {H : Type} : DataW H → Nat
  | .lit (.string bytes) => bytes.length + 1
  | .lit _ => 1
  | .nil => 1
  | .ptr d => uptoBulk d + 1
  | .slice elems spare => uptoBulkAll elems + uptoBulkAll spare + 1
  | .agg parts => uptoBulkAll parts + 1
  | .iface _ d => uptoBulk d + 1
  | .map entries => uptoBulkEntries entries + 1
  | .held _ => 1
def uptoBulkAll {H : Type} : List (DataW H) → Nat
  | [] => 0
  | d :: r => uptoBulk d + uptoBulkAll r
def uptoBulkEntries {H : Type} : List (Lit × DataW H) → Nat
  | [] => 0
  | x :: r => uptoBulkEntry x + uptoBulkEntries r
def uptoBulkEntry {H : Type} : Lit × DataW H → Nat
  | (.string bytes, d) => bytes.length + uptoBulk d + 1
  | (_, d) => uptoBulk d + 1
 end
def uptoSmall : (H : Type) → List (DataW H) → Bool := fun _ ds => decide (uptoBulkAll ds ≤ 1048576)
def OpenSpec.upto (s : _root_.Go.ChangeSpec) : _root_.Go.OpenSpec := { _root_.Go.OpenSpec.ofChange s with cond := some uptoSmall }

/-- 'laws.FnExactFixedNumbers', WHERE WHAT IT READS IS OF BULK AT MOST 1048576: true; the input reads as it did. -/
def fnExactFixedNumbersUptoRow : OpenClaim := { program := "ytcamdgkjijepeaa", sum := "65977bb7fe7390ab010b84f1d21429ecafa90d5083e0835d7e5e7359512bd580", func := "loop.example/g01363/laws.FnExactFixedNumbers", spec := "fnExactFixedNumbers", unfollowed := true, recurses := true, apart := false, narrowed := true }
def FnExactFixedNumbersUptoSaid : Prop := fnExactFixedNumbersUptoRow.holds Try.pinned (OpenSpec.upto fnExactFixedNumbersSpec)

/-- 'laws.FnExactDifferenceNumbers', WHERE WHAT IT READS IS OF BULK AT MOST 1048576: true; the input reads as it did. -/
def fnExactDifferenceNumbersUptoRow : OpenClaim := { program := "ytcamdgkjijepeaa", sum := "65977bb7fe7390ab010b84f1d21429ecafa90d5083e0835d7e5e7359512bd580", func := "loop.example/g01363/laws.FnExactDifferenceNumbers", spec := "fnExactDifferenceNumbers", unfollowed := true, recurses := true, apart := false, narrowed := true }
def FnExactDifferenceNumbersUptoSaid : Prop := fnExactDifferenceNumbersUptoRow.holds Try.pinned (OpenSpec.upto fnExactDifferenceNumbersSpec)

/-- 'laws.FnExactNormOf', WHERE WHAT IT READS IS OF BULK AT MOST 1048576: true; the input reads as it did. -/
def fnExactNormOfUptoRow : OpenClaim := { program := "ytcamdgkjijepeaa", sum := "65977bb7fe7390ab010b84f1d21429ecafa90d5083e0835d7e5e7359512bd580", func := "loop.example/g01363/laws.FnExactNormOf", spec := "fnExactNormOf", apart := false, narrowed := true }
def FnExactNormOfUptoSaid : Prop := fnExactNormOfUptoRow.holds Try.pinned (OpenSpec.upto fnExactNormOfSpec)

/-- 'laws.FnExactKernelOf', WHERE WHAT IT READS IS OF BULK AT MOST 1048576: true; the input reads as it did. -/
def fnExactKernelOfUptoRow : OpenClaim := { program := "ytcamdgkjijepeaa", sum := "65977bb7fe7390ab010b84f1d21429ecafa90d5083e0835d7e5e7359512bd580", func := "loop.example/g01363/laws.FnExactKernelOf", spec := "fnExactKernelOf", unfollowed := true, recurses := true, apart := false, narrowed := true }
def FnExactKernelOfUptoSaid : Prop := fnExactKernelOfUptoRow.holds Try.pinned (OpenSpec.upto fnExactKernelOfSpec)

/-- 'laws.FnExactLeadNumber', WHERE WHAT IT READS IS OF BULK AT MOST 1048576: true; the input reads as it did. -/
def fnExactLeadNumberUptoRow : OpenClaim := { program := "ytcamdgkjijepeaa", sum := "65977bb7fe7390ab010b84f1d21429ecafa90d5083e0835d7e5e7359512bd580", func := "loop.example/g01363/laws.FnExactLeadNumber", spec := "fnExactLeadNumber", apart := false, narrowed := true }
def FnExactLeadNumberUptoSaid : Prop := fnExactLeadNumberUptoRow.holds Try.pinned (OpenSpec.upto fnExactLeadNumberSpec)

/-- 'laws.FnExactTrivialModule', WHERE WHAT IT READS IS OF BULK AT MOST 1048576: true; the input reads as it did. -/
def fnExactTrivialModuleUptoRow : OpenClaim := { program := "ytcamdgkjijepeaa", sum := "65977bb7fe7390ab010b84f1d21429ecafa90d5083e0835d7e5e7359512bd580", func := "loop.example/g01363/laws.FnExactTrivialModule", spec := "fnExactTrivialModule", apart := false, narrowed := true }
def FnExactTrivialModuleUptoSaid : Prop := fnExactTrivialModuleUptoRow.holds Try.pinned (OpenSpec.upto fnExactTrivialModuleSpec)

/-- 'laws.FnExactDualModule', WHERE WHAT IT READS IS OF BULK AT MOST 1048576: true; the input reads as it did. -/
def fnExactDualModuleUptoRow : OpenClaim := { program := "ytcamdgkjijepeaa", sum := "65977bb7fe7390ab010b84f1d21429ecafa90d5083e0835d7e5e7359512bd580", func := "loop.example/g01363/laws.FnExactDualModule", spec := "fnExactDualModule", unfollowed := true, recurses := true, apart := false, narrowed := true }
def FnExactDualModuleUptoSaid : Prop := fnExactDualModuleUptoRow.holds Try.pinned (OpenSpec.upto fnExactDualModuleSpec)

/-- 'laws.FnExactProductModule', WHERE WHAT IT READS IS OF BULK AT MOST 1048576: true; the input reads as it did. -/
def fnExactProductModuleUptoRow : OpenClaim := { program := "ytcamdgkjijepeaa", sum := "65977bb7fe7390ab010b84f1d21429ecafa90d5083e0835d7e5e7359512bd580", func := "loop.example/g01363/laws.FnExactProductModule", spec := "fnExactProductModule", unfollowed := true, recurses := true, apart := false, narrowed := true }
def FnExactProductModuleUptoSaid : Prop := fnExactProductModuleUptoRow.holds Try.pinned (OpenSpec.upto fnExactProductModuleSpec)

/-- 'laws.FnExactReduceModule', WHERE WHAT IT READS IS OF BULK AT MOST 1048576: true; the input reads as it did. -/
def fnExactReduceModuleUptoRow : OpenClaim := { program := "ytcamdgkjijepeaa", sum := "65977bb7fe7390ab010b84f1d21429ecafa90d5083e0835d7e5e7359512bd580", func := "loop.example/g01363/laws.FnExactReduceModule", spec := "fnExactReduceModule", unfollowed := true, recurses := true, apart := false, narrowed := true }
def FnExactReduceModuleUptoSaid : Prop := fnExactReduceModuleUptoRow.holds Try.pinned (OpenSpec.upto fnExactReduceModuleSpec)

/-- 'laws.FnExactRestrictModule', WHERE WHAT IT READS IS OF BULK AT MOST 1048576: true; the input reads as it did. -/
def fnExactRestrictModuleUptoRow : OpenClaim := { program := "ytcamdgkjijepeaa", sum := "65977bb7fe7390ab010b84f1d21429ecafa90d5083e0835d7e5e7359512bd580", func := "loop.example/g01363/laws.FnExactRestrictModule", spec := "fnExactRestrictModule", unfollowed := true, recurses := true, apart := false, narrowed := true }
def FnExactRestrictModuleUptoSaid : Prop := fnExactRestrictModuleUptoRow.holds Try.pinned (OpenSpec.upto fnExactRestrictModuleSpec)

/-- 'laws.FnExactMapsOfModules', WHERE WHAT IT READS IS OF BULK AT MOST 1048576: true; the input reads as it did. -/
def fnExactMapsOfModulesUptoRow : OpenClaim := { program := "ytcamdgkjijepeaa", sum := "65977bb7fe7390ab010b84f1d21429ecafa90d5083e0835d7e5e7359512bd580", func := "loop.example/g01363/laws.FnExactMapsOfModules", spec := "fnExactMapsOfModules", unfollowed := true, recurses := true, apart := false, narrowed := true }
def FnExactMapsOfModulesUptoSaid : Prop := fnExactMapsOfModulesUptoRow.holds Try.pinned (OpenSpec.upto fnExactMapsOfModulesSpec)

/-- 'laws.FnExactDirectProduct', WHERE WHAT IT READS IS OF BULK AT MOST 1048576: true; the input reads as it did. -/
def fnExactDirectProductUptoRow : OpenClaim := { program := "ytcamdgkjijepeaa", sum := "65977bb7fe7390ab010b84f1d21429ecafa90d5083e0835d7e5e7359512bd580", func := "loop.example/g01363/laws.FnExactDirectProduct", spec := "fnExactDirectProduct", unfollowed := true, recurses := true, apart := false, narrowed := true }
def FnExactDirectProductUptoSaid : Prop := fnExactDirectProductUptoRow.holds Try.pinned (OpenSpec.upto fnExactDirectProductSpec)

end Rows
end Go.Proofs.Ytcamdgkjijepeaa
