/-
  No cell of these rows narrows 'for every input' (looked for: loops, veiled, ifaces, maps, wideKeys, modest, calm, conditions, laid).
  DERIVED. THE GIVEN ROWS OF THIS SEAT. 12 by the template 'for every input the law returns true; each argument reads behind the call as it read before'; 0 by the template 'total and deterministic' (their statements: YtapgffobnodieaaTotals.lean).
  GIVEN WITH THE SEED: the statements are not yours to turn. If you find one false, say at which input.
  Laid BY PROGRAM, IN A SANDBOX (cutbox-rows.mjs): the forced cells as the released guide's own fill.sh prints them over the translation e8b7a8be6fd6a36a… (all of the seat's roots in one cut). By AI agents, Wed Nov 11 2026. No macro, syntax, notation, axiom, sorry.
-/
import Derived.Test.YtapgffobnodieaaChecked
import GoSem.Claim
import GoSem.ClaimJoined
import GoSem.ClaimMapViews
import Derived.JoinedTies
import Derived.KernelRfl
namespace Go.Proofs.Ytapgffobnodieaa
/- THE CELL 'sum', in the pinned program and in every row, IS THE sha256 OF THE DUMP (.gsa) THAT YtapgffobnodieaaProg.lean LOADS. Nothing in Lean hashes anything: it is a label: what it is worth is what the hold of that sum in a sandbox is worth. -/
noncomputable def Try.pinned : Pinned := { name := "ytapgffobnodieaa", sum := "e8b7a8be6fd6a36a291389578991f268c3cdea42dd4e66fb4123f561a5ef155d", checked := Try.checked }
namespace Rows
def none {H : Type} : Left H := { results := [], args := [] }

/-- 'laws.FnExactConstants': WHATEVER THE INPUT: true; the input reads as it did. -/
def fnExactConstantsSpec : ChangeSpec := { name := "fnExactConstants", fn := fun _ => fun
  | [] => { results := [.lit (.bool true)], args := [] }
  | _ => none }
def fnExactConstantsRow : OpenClaim := { program := "ytapgffobnodieaa", sum := "e8b7a8be6fd6a36a291389578991f268c3cdea42dd4e66fb4123f561a5ef155d", func := "loop.example/g01363/laws.FnExactConstants", spec := "fnExactConstants", apart := false }
def FnExactConstantsSaid : Prop := fnExactConstantsRow.holds Try.pinned (OpenSpec.ofChange fnExactConstantsSpec)

/-- ITS FALSE NEIGHBOUR: 'it returns false'. Refute it at one input. -/
def fnExactConstantsWrong : ChangeSpec := { name := "fnExactConstants", fn := fun _ => fun
  | [] => { results := [.lit (.bool false)], args := [] }
  | _ => none }
def FnExactConstantsWrongFalsely : Prop := fnExactConstantsRow.holds Try.pinned (OpenSpec.ofChange fnExactConstantsWrong)

/-- 'laws.FnExactIsGroup': WHATEVER THE INPUT: true; the input reads as it did. -/
def fnExactIsGroupSpec : ChangeSpec := { name := "fnExactIsGroup", fn := fun _ => fun
  | [d] => { results := [.lit (.bool true)], args := [d] }
  | _ => none }
def fnExactIsGroupRow : OpenClaim := { program := "ytapgffobnodieaa", sum := "e8b7a8be6fd6a36a291389578991f268c3cdea42dd4e66fb4123f561a5ef155d", func := "loop.example/g01363/laws.FnExactIsGroup", spec := "fnExactIsGroup", apart := false }
def FnExactIsGroupSaid : Prop := fnExactIsGroupRow.holds Try.pinned (OpenSpec.ofChange fnExactIsGroupSpec)

/-- ITS FALSE NEIGHBOUR: 'it returns false'. Refute it at one input. -/
def fnExactIsGroupWrong : ChangeSpec := { name := "fnExactIsGroup", fn := fun _ => fun
  | [d] => { results := [.lit (.bool false)], args := [d] }
  | _ => none }
def FnExactIsGroupWrongFalsely : Prop := fnExactIsGroupRow.holds Try.pinned (OpenSpec.ofChange fnExactIsGroupWrong)

/-- 'laws.FnExactNamedGroup': WHATEVER THE INPUT: true; the input reads as it did. -/
def fnExactNamedGroupSpec : ChangeSpec := { name := "fnExactNamedGroup", fn := fun _ => fun
  | [d] => { results := [.lit (.bool true)], args := [d] }
  | _ => none }
def fnExactNamedGroupRow : OpenClaim := { program := "ytapgffobnodieaa", sum := "e8b7a8be6fd6a36a291389578991f268c3cdea42dd4e66fb4123f561a5ef155d", func := "loop.example/g01363/laws.FnExactNamedGroup", spec := "fnExactNamedGroup", unfollowed := true, recurses := true, apart := false }
def FnExactNamedGroupSaid : Prop := fnExactNamedGroupRow.holds Try.pinned (OpenSpec.ofChange fnExactNamedGroupSpec)

/-- ITS FALSE NEIGHBOUR: 'it returns false'. Refute it at one input. -/
def fnExactNamedGroupWrong : ChangeSpec := { name := "fnExactNamedGroup", fn := fun _ => fun
  | [d] => { results := [.lit (.bool false)], args := [d] }
  | _ => none }
def FnExactNamedGroupWrongFalsely : Prop := fnExactNamedGroupRow.holds Try.pinned (OpenSpec.ofChange fnExactNamedGroupWrong)

/-- 'laws.FnExactCountCells': WHATEVER THE INPUT: true; the input reads as it did. -/
def fnExactCountCellsSpec : ChangeSpec := { name := "fnExactCountCells", fn := fun _ => fun
  | [d1, d2] => { results := [.lit (.bool true)], args := [d1, d2] }
  | _ => none }
def fnExactCountCellsRow : OpenClaim := { program := "ytapgffobnodieaa", sum := "e8b7a8be6fd6a36a291389578991f268c3cdea42dd4e66fb4123f561a5ef155d", func := "loop.example/g01363/laws.FnExactCountCells", spec := "fnExactCountCells", apart := false }
def FnExactCountCellsSaid : Prop := fnExactCountCellsRow.holds Try.pinned (OpenSpec.ofChange fnExactCountCellsSpec)

/-- ITS FALSE NEIGHBOUR: 'it returns false'. Refute it at one input. -/
def fnExactCountCellsWrong : ChangeSpec := { name := "fnExactCountCells", fn := fun _ => fun
  | [d1, d2] => { results := [.lit (.bool false)], args := [d1, d2] }
  | _ => none }
def FnExactCountCellsWrongFalsely : Prop := fnExactCountCellsRow.holds Try.pinned (OpenSpec.ofChange fnExactCountCellsWrong)

/-- 'laws.FnExactProductOf': WHATEVER THE INPUT: true; the input reads as it did. -/
def fnExactProductOfSpec : ChangeSpec := { name := "fnExactProductOf", fn := fun _ => fun
  | [d1, d2, d3] => { results := [.lit (.bool true)], args := [d1, d2, d3] }
  | _ => none }
def fnExactProductOfRow : OpenClaim := { program := "ytapgffobnodieaa", sum := "e8b7a8be6fd6a36a291389578991f268c3cdea42dd4e66fb4123f561a5ef155d", func := "loop.example/g01363/laws.FnExactProductOf", spec := "fnExactProductOf", apart := false }
def FnExactProductOfSaid : Prop := fnExactProductOfRow.holds Try.pinned (OpenSpec.ofChange fnExactProductOfSpec)

/-- ITS FALSE NEIGHBOUR: 'it returns false'. Refute it at one input. -/
def fnExactProductOfWrong : ChangeSpec := { name := "fnExactProductOf", fn := fun _ => fun
  | [d1, d2, d3] => { results := [.lit (.bool false)], args := [d1, d2, d3] }
  | _ => none }
def FnExactProductOfWrongFalsely : Prop := fnExactProductOfRow.holds Try.pinned (OpenSpec.ofChange fnExactProductOfWrong)

/-- 'laws.FnExactOrdersOf': WHATEVER THE INPUT: true; the input reads as it did. -/
def fnExactOrdersOfSpec : ChangeSpec := { name := "fnExactOrdersOf", fn := fun _ => fun
  | [d] => { results := [.lit (.bool true)], args := [d] }
  | _ => none }
def fnExactOrdersOfRow : OpenClaim := { program := "ytapgffobnodieaa", sum := "e8b7a8be6fd6a36a291389578991f268c3cdea42dd4e66fb4123f561a5ef155d", func := "loop.example/g01363/laws.FnExactOrdersOf", spec := "fnExactOrdersOf", apart := false }
def FnExactOrdersOfSaid : Prop := fnExactOrdersOfRow.holds Try.pinned (OpenSpec.ofChange fnExactOrdersOfSpec)

/-- ITS FALSE NEIGHBOUR: 'it returns false'. Refute it at one input. -/
def fnExactOrdersOfWrong : ChangeSpec := { name := "fnExactOrdersOf", fn := fun _ => fun
  | [d] => { results := [.lit (.bool false)], args := [d] }
  | _ => none }
def FnExactOrdersOfWrongFalsely : Prop := fnExactOrdersOfRow.holds Try.pinned (OpenSpec.ofChange fnExactOrdersOfWrong)

/-- 'laws.FnExactIsHomomorphism': WHATEVER THE INPUT: true; the input reads as it did. -/
def fnExactIsHomomorphismSpec : ChangeSpec := { name := "fnExactIsHomomorphism", fn := fun _ => fun
  | [d1, d2, d3] => { results := [.lit (.bool true)], args := [d1, d2, d3] }
  | _ => none }
def fnExactIsHomomorphismRow : OpenClaim := { program := "ytapgffobnodieaa", sum := "e8b7a8be6fd6a36a291389578991f268c3cdea42dd4e66fb4123f561a5ef155d", func := "loop.example/g01363/laws.FnExactIsHomomorphism", spec := "fnExactIsHomomorphism", apart := false }
def FnExactIsHomomorphismSaid : Prop := fnExactIsHomomorphismRow.holds Try.pinned (OpenSpec.ofChange fnExactIsHomomorphismSpec)

/-- ITS FALSE NEIGHBOUR: 'it returns false'. Refute it at one input. -/
def fnExactIsHomomorphismWrong : ChangeSpec := { name := "fnExactIsHomomorphism", fn := fun _ => fun
  | [d1, d2, d3] => { results := [.lit (.bool false)], args := [d1, d2, d3] }
  | _ => none }
def FnExactIsHomomorphismWrongFalsely : Prop := fnExactIsHomomorphismRow.holds Try.pinned (OpenSpec.ofChange fnExactIsHomomorphismWrong)

/-- 'laws.FnExactIsAbelian': WHATEVER THE INPUT: true; the input reads as it did. -/
def fnExactIsAbelianSpec : ChangeSpec := { name := "fnExactIsAbelian", fn := fun _ => fun
  | [d] => { results := [.lit (.bool true)], args := [d] }
  | _ => none }
def fnExactIsAbelianRow : OpenClaim := { program := "ytapgffobnodieaa", sum := "e8b7a8be6fd6a36a291389578991f268c3cdea42dd4e66fb4123f561a5ef155d", func := "loop.example/g01363/laws.FnExactIsAbelian", spec := "fnExactIsAbelian", unfollowed := true, recurses := true, apart := false }
def FnExactIsAbelianSaid : Prop := fnExactIsAbelianRow.holds Try.pinned (OpenSpec.ofChange fnExactIsAbelianSpec)

/-- ITS FALSE NEIGHBOUR: 'it returns false'. Refute it at one input. -/
def fnExactIsAbelianWrong : ChangeSpec := { name := "fnExactIsAbelian", fn := fun _ => fun
  | [d] => { results := [.lit (.bool false)], args := [d] }
  | _ => none }
def FnExactIsAbelianWrongFalsely : Prop := fnExactIsAbelianRow.holds Try.pinned (OpenSpec.ofChange fnExactIsAbelianWrong)

/-- 'laws.FnExactListOf': WHATEVER THE INPUT: true; the input reads as it did. -/
def fnExactListOfSpec : ChangeSpec := { name := "fnExactListOf", fn := fun _ => fun
  | [d1, d2, d3] => { results := [.lit (.bool true)], args := [d1, d2, d3] }
  | _ => none }
def fnExactListOfRow : OpenClaim := { program := "ytapgffobnodieaa", sum := "e8b7a8be6fd6a36a291389578991f268c3cdea42dd4e66fb4123f561a5ef155d", func := "loop.example/g01363/laws.FnExactListOf", spec := "fnExactListOf", apart := false }
def FnExactListOfSaid : Prop := fnExactListOfRow.holds Try.pinned (OpenSpec.ofChange fnExactListOfSpec)

/-- ITS FALSE NEIGHBOUR: 'it returns false'. Refute it at one input. -/
def fnExactListOfWrong : ChangeSpec := { name := "fnExactListOf", fn := fun _ => fun
  | [d1, d2, d3] => { results := [.lit (.bool false)], args := [d1, d2, d3] }
  | _ => none }
def FnExactListOfWrongFalsely : Prop := fnExactListOfRow.holds Try.pinned (OpenSpec.ofChange fnExactListOfWrong)

/-- 'laws.FnExactPowerOf': WHATEVER THE INPUT: true; the input reads as it did. -/
def fnExactPowerOfSpec : ChangeSpec := { name := "fnExactPowerOf", fn := fun _ => fun
  | [d1, d2, d3] => { results := [.lit (.bool true)], args := [d1, d2, d3] }
  | _ => none }
def fnExactPowerOfRow : OpenClaim := { program := "ytapgffobnodieaa", sum := "e8b7a8be6fd6a36a291389578991f268c3cdea42dd4e66fb4123f561a5ef155d", func := "loop.example/g01363/laws.FnExactPowerOf", spec := "fnExactPowerOf", apart := false }
def FnExactPowerOfSaid : Prop := fnExactPowerOfRow.holds Try.pinned (OpenSpec.ofChange fnExactPowerOfSpec)

/-- ITS FALSE NEIGHBOUR: 'it returns false'. Refute it at one input. -/
def fnExactPowerOfWrong : ChangeSpec := { name := "fnExactPowerOf", fn := fun _ => fun
  | [d1, d2, d3] => { results := [.lit (.bool false)], args := [d1, d2, d3] }
  | _ => none }
def FnExactPowerOfWrongFalsely : Prop := fnExactPowerOfRow.holds Try.pinned (OpenSpec.ofChange fnExactPowerOfWrong)

/-- 'laws.FnExactCentreOf': WHATEVER THE INPUT: true; the input reads as it did. -/
def fnExactCentreOfSpec : ChangeSpec := { name := "fnExactCentreOf", fn := fun _ => fun
  | [d] => { results := [.lit (.bool true)], args := [d] }
  | _ => none }
def fnExactCentreOfRow : OpenClaim := { program := "ytapgffobnodieaa", sum := "e8b7a8be6fd6a36a291389578991f268c3cdea42dd4e66fb4123f561a5ef155d", func := "loop.example/g01363/laws.FnExactCentreOf", spec := "fnExactCentreOf", unfollowed := true, recurses := true, apart := false }
def FnExactCentreOfSaid : Prop := fnExactCentreOfRow.holds Try.pinned (OpenSpec.ofChange fnExactCentreOfSpec)

/-- ITS FALSE NEIGHBOUR: 'it returns false'. Refute it at one input. -/
def fnExactCentreOfWrong : ChangeSpec := { name := "fnExactCentreOf", fn := fun _ => fun
  | [d] => { results := [.lit (.bool false)], args := [d] }
  | _ => none }
def FnExactCentreOfWrongFalsely : Prop := fnExactCentreOfRow.holds Try.pinned (OpenSpec.ofChange fnExactCentreOfWrong)

/-- 'laws.FnExactIsModule': WHATEVER THE INPUT: true; the input reads as it did. -/
def fnExactIsModuleSpec : ChangeSpec := { name := "fnExactIsModule", fn := fun _ => fun
  | [d1, d2] => { results := [.lit (.bool true)], args := [d1, d2] }
  | _ => none }
def fnExactIsModuleRow : OpenClaim := { program := "ytapgffobnodieaa", sum := "e8b7a8be6fd6a36a291389578991f268c3cdea42dd4e66fb4123f561a5ef155d", func := "loop.example/g01363/laws.FnExactIsModule", spec := "fnExactIsModule", apart := false }
def FnExactIsModuleSaid : Prop := fnExactIsModuleRow.holds Try.pinned (OpenSpec.ofChange fnExactIsModuleSpec)

/-- ITS FALSE NEIGHBOUR: 'it returns false'. Refute it at one input. -/
def fnExactIsModuleWrong : ChangeSpec := { name := "fnExactIsModule", fn := fun _ => fun
  | [d1, d2] => { results := [.lit (.bool false)], args := [d1, d2] }
  | _ => none }
def FnExactIsModuleWrongFalsely : Prop := fnExactIsModuleRow.holds Try.pinned (OpenSpec.ofChange fnExactIsModuleWrong)

/- THE SECOND FORM. 'bulk': how many values and letters a reading holds, each counted each time it is reached (what is shared counts as often as it is met; a slice's spare places count too). A statement '..UptoSaid' is the law's where the arguments, and the package variables that the reading takes, are together of bulk at most 1048576: NARROWER than '..Said'. Prove '..Said' where nothing that the law and all that it calls make is longer than what came in: it says more and counts as full. Else prove '..UptoSaid'. A law counts once. -/
mutual
def uptoBulk {H : Type} : DataW H → Nat
  | .lit (.string bytes) => bytes.length + 1
  | .lit _ => 1
  | .nil => 1
  | .ptr d => uptoBulk d + 1
  | .slice elems spare => uptoBulkAll elems + uptoBulkAll spare + 1
  | .agg parts => uptoBulkAll parts + 1
  | .iface _ d => uptoBulk d + 1
  | .map entries => uptoBulkEntries entries + 1
  | .held _ => 1
def uptoBulkAll {H : Type} : List (DataW H) → Nat
  | [] => 0
  | d :: r => uptoBulk d + uptoBulkAll r
def uptoBulkEntries {H : Type} : List (Lit × DataW H) → Nat
  | [] => 0
  | x :: r => uptoBulkEntry x + uptoBulkEntries r
def uptoBulkEntry {H : Type} : Lit × DataW H → Nat
  | (.string bytes, d) => bytes.length + uptoBulk d + 1
  | (_, d) => uptoBulk d + 1
 end
def uptoSmall : (H : Type) → List (DataW H) → Bool := fun _ ds => decide (uptoBulkAll ds ≤ 1048576)
def OpenSpec.upto (s : _root_.Go.ChangeSpec) : _root_.Go.OpenSpec := { _root_.Go.OpenSpec.ofChange s with cond := some uptoSmall }

/-- 'laws.FnExactConstants', WHERE WHAT IT READS IS OF BULK AT MOST 1048576: true; the input reads as it did. -/
def fnExactConstantsUptoRow : OpenClaim := { program := "ytapgffobnodieaa", sum := "e8b7a8be6fd6a36a291389578991f268c3cdea42dd4e66fb4123f561a5ef155d", func := "loop.example/g01363/laws.FnExactConstants", spec := "fnExactConstants", apart := false, narrowed := true }
def FnExactConstantsUptoSaid : Prop := fnExactConstantsUptoRow.holds Try.pinned (OpenSpec.upto fnExactConstantsSpec)

/-- 'laws.FnExactIsGroup', WHERE WHAT IT READS IS OF BULK AT MOST 1048576: true; the input reads as it did. -/
def fnExactIsGroupUptoRow : OpenClaim := { program := "ytapgffobnodieaa", sum := "e8b7a8be6fd6a36a291389578991f268c3cdea42dd4e66fb4123f561a5ef155d", func := "loop.example/g01363/laws.FnExactIsGroup", spec := "fnExactIsGroup", apart := false, narrowed := true }
def FnExactIsGroupUptoSaid : Prop := fnExactIsGroupUptoRow.holds Try.pinned (OpenSpec.upto fnExactIsGroupSpec)

/-- 'laws.FnExactNamedGroup', WHERE WHAT IT READS IS OF BULK AT MOST 1048576: true; the input reads as it did. -/
def fnExactNamedGroupUptoRow : OpenClaim := { program := "ytapgffobnodieaa", sum := "e8b7a8be6fd6a36a291389578991f268c3cdea42dd4e66fb4123f561a5ef155d", func := "loop.example/g01363/laws.FnExactNamedGroup", spec := "fnExactNamedGroup", unfollowed := true, recurses := true, apart := false, narrowed := true }
def FnExactNamedGroupUptoSaid : Prop := fnExactNamedGroupUptoRow.holds Try.pinned (OpenSpec.upto fnExactNamedGroupSpec)

/-- 'laws.FnExactCountCells', WHERE WHAT IT READS IS OF BULK AT MOST 1048576: true; the input reads as it did. -/
def fnExactCountCellsUptoRow : OpenClaim := { program := "ytapgffobnodieaa", sum := "e8b7a8be6fd6a36a291389578991f268c3cdea42dd4e66fb4123f561a5ef155d", func := "loop.example/g01363/laws.FnExactCountCells", spec := "fnExactCountCells", apart := false, narrowed := true }
def FnExactCountCellsUptoSaid : Prop := fnExactCountCellsUptoRow.holds Try.pinned (OpenSpec.upto fnExactCountCellsSpec)

/-- 'laws.FnExactProductOf', WHERE WHAT IT READS IS OF BULK AT MOST 1048576: true; the input reads as it did. -/
def fnExactProductOfUptoRow : OpenClaim := { program := "ytapgffobnodieaa", sum := "e8b7a8be6fd6a36a291389578991f268c3cdea42dd4e66fb4123f561a5ef155d", func := "loop.example/g01363/laws.FnExactProductOf", spec := "fnExactProductOf", apart := false, narrowed := true }
def FnExactProductOfUptoSaid : Prop := fnExactProductOfUptoRow.holds Try.pinned (OpenSpec.upto fnExactProductOfSpec)

/-- 'laws.FnExactOrdersOf', WHERE WHAT IT READS IS OF BULK AT MOST 1048576: true; the input reads as it did. -/
def fnExactOrdersOfUptoRow : OpenClaim := { program := "ytapgffobnodieaa", sum := "e8b7a8be6fd6a36a291389578991f268c3cdea42dd4e66fb4123f561a5ef155d", func := "loop.example/g01363/laws.FnExactOrdersOf", spec := "fnExactOrdersOf", apart := false, narrowed := true }
def FnExactOrdersOfUptoSaid : Prop := fnExactOrdersOfUptoRow.holds Try.pinned (OpenSpec.upto fnExactOrdersOfSpec)

/-- 'laws.FnExactIsHomomorphism', WHERE WHAT IT READS IS OF BULK AT MOST 1048576: true; the input reads as it did. -/
def fnExactIsHomomorphismUptoRow : OpenClaim := { program := "ytapgffobnodieaa", sum := "e8b7a8be6fd6a36a291389578991f268c3cdea42dd4e66fb4123f561a5ef155d", func := "loop.example/g01363/laws.FnExactIsHomomorphism", spec := "fnExactIsHomomorphism", apart := false, narrowed := true }
def FnExactIsHomomorphismUptoSaid : Prop := fnExactIsHomomorphismUptoRow.holds Try.pinned (OpenSpec.upto fnExactIsHomomorphismSpec)

/-- 'laws.FnExactIsAbelian', WHERE WHAT IT READS IS OF BULK AT MOST 1048576: true; the input reads as it did. -/
def fnExactIsAbelianUptoRow : OpenClaim := { program := "ytapgffobnodieaa", sum := "e8b7a8be6fd6a36a291389578991f268c3cdea42dd4e66fb4123f561a5ef155d", func := "loop.example/g01363/laws.FnExactIsAbelian", spec := "fnExactIsAbelian", unfollowed := true, recurses := true, apart := false, narrowed := true }
def FnExactIsAbelianUptoSaid : Prop := fnExactIsAbelianUptoRow.holds Try.pinned (OpenSpec.upto fnExactIsAbelianSpec)

/-- 'laws.FnExactListOf', WHERE WHAT IT READS IS OF BULK AT MOST 1048576: true; the input reads as it did. -/
def fnExactListOfUptoRow : OpenClaim := { program := "ytapgffobnodieaa", sum := "e8b7a8be6fd6a36a291389578991f268c3cdea42dd4e66fb4123f561a5ef155d", func := "loop.example/g01363/laws.FnExactListOf", spec := "fnExactListOf", apart := false, narrowed := true }
def FnExactListOfUptoSaid : Prop := fnExactListOfUptoRow.holds Try.pinned (OpenSpec.upto fnExactListOfSpec)

/-- 'laws.FnExactPowerOf', WHERE WHAT IT READS IS OF BULK AT MOST 1048576: true; the input reads as it did. -/
def fnExactPowerOfUptoRow : OpenClaim := { program := "ytapgffobnodieaa", sum := "e8b7a8be6fd6a36a291389578991f268c3cdea42dd4e66fb4123f561a5ef155d", func := "loop.example/g01363/laws.FnExactPowerOf", spec := "fnExactPowerOf", apart := false, narrowed := true }
def FnExactPowerOfUptoSaid : Prop := fnExactPowerOfUptoRow.holds Try.pinned (OpenSpec.upto fnExactPowerOfSpec)

/-- 'laws.FnExactCentreOf', WHERE WHAT IT READS IS OF BULK AT MOST 1048576: true; the input reads as it did. -/
def fnExactCentreOfUptoRow : OpenClaim := { program := "ytapgffobnodieaa", sum := "e8b7a8be6fd6a36a291389578991f268c3cdea42dd4e66fb4123f561a5ef155d", func := "loop.example/g01363/laws.FnExactCentreOf", spec := "fnExactCentreOf", unfollowed := true, recurses := true, apart := false, narrowed := true }
def FnExactCentreOfUptoSaid : Prop := fnExactCentreOfUptoRow.holds Try.pinned (OpenSpec.upto fnExactCentreOfSpec)

/-- 'laws.FnExactIsModule', WHERE WHAT IT READS IS OF BULK AT MOST 1048576: true; the input reads as it did. -/
def fnExactIsModuleUptoRow : OpenClaim := { program := "ytapgffobnodieaa", sum := "e8b7a8be6fd6a36a291389578991f268c3cdea42dd4e66fb4123f561a5ef155d", func := "loop.example/g01363/laws.FnExactIsModule", spec := "fnExactIsModule", apart := false, narrowed := true }
def FnExactIsModuleUptoSaid : Prop := fnExactIsModuleUptoRow.holds Try.pinned (OpenSpec.upto fnExactIsModuleSpec)

end Rows
end Go.Proofs.Ytapgffobnodieaa
