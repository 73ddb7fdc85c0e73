/-
  No cell of these rows narrows 'for every input' (looked for: loops, veiled, ifaces, maps, wideKeys, modest, calm, conditions, laid).
  DERIVED. THE GIVEN ROWS OF THIS SEAT. 8 by the template 'for every input the law returns true; each argument reads behind the call as it read before'; 0 by the template 'total and deterministic' (their statements: YtifpnficdjbljaaTotals.lean).
  GIVEN WITH THE SEED: the statements are not yours to turn. If you find one false, say at which input.
  Laid BY PROGRAM, IN A SANDBOX (cutbox-rows.mjs): the forced cells as the released guide's own fill.sh prints them over the translation d2afe63c6edc913e… (all of the seat's roots in one cut). By AI agents, Wed Nov 11 2026. No macro, syntax, notation, axiom, sorry.
-/
import Derived.Test.YtifpnficdjbljaaChecked
import GoSem.Claim
import GoSem.ClaimJoined
import GoSem.ClaimMapViews
import Derived.JoinedTies
import Derived.KernelRfl
namespace Go.Proofs.Ytifpnficdjbljaa
/- THE CELL 'sum', in the pinned program and in every row, IS THE sha256 OF THE DUMP (.gsa) THAT YtifpnficdjbljaaProg.lean LOADS. Nothing in Lean hashes anything: it is a label: what it is worth is what the hold of that sum in a sandbox is worth. -/
noncomputable def Try.pinned : Pinned := { name := "ytifpnficdjbljaa", sum := "d2afe63c6edc913ed8022a1681e213cf6043539311753ed517916f85b9cd8aab", checked := Try.checked }
namespace Rows
def none {H : Type} : Left H := { results := [], args := [] }

/-- 'laws.FnExactNamedGroup': WHATEVER THE INPUT: true; the input reads as it did. -/
def fnExactNamedGroupSpec : ChangeSpec := { name := "fnExactNamedGroup", fn := fun _ => fun
  | [d] => { results := [.lit (.bool true)], args := [d] }
  | _ => none }
def fnExactNamedGroupRow : OpenClaim := { program := "ytifpnficdjbljaa", sum := "d2afe63c6edc913ed8022a1681e213cf6043539311753ed517916f85b9cd8aab", func := "loop.example/g01363/laws.FnExactNamedGroup", spec := "fnExactNamedGroup", unfollowed := true, recurses := true, apart := false }
def FnExactNamedGroupSaid : Prop := fnExactNamedGroupRow.holds Try.pinned (OpenSpec.ofChange fnExactNamedGroupSpec)

/-- ITS FALSE NEIGHBOUR: 'it returns false'. Refute it at one input. -/
def fnExactNamedGroupWrong : ChangeSpec := { name := "fnExactNamedGroup", fn := fun _ => fun
  | [d] => { results := [.lit (.bool false)], args := [d] }
  | _ => none }
def FnExactNamedGroupWrongFalsely : Prop := fnExactNamedGroupRow.holds Try.pinned (OpenSpec.ofChange fnExactNamedGroupWrong)

/-- 'laws.FnExactIsCochain': WHATEVER THE INPUT: true; the input reads as it did. -/
def fnExactIsCochainSpec : ChangeSpec := { name := "fnExactIsCochain", fn := fun _ => fun
  | [d1, d2, d3] => { results := [.lit (.bool true)], args := [d1, d2, d3] }
  | _ => none }
def fnExactIsCochainRow : OpenClaim := { program := "ytifpnficdjbljaa", sum := "d2afe63c6edc913ed8022a1681e213cf6043539311753ed517916f85b9cd8aab", func := "loop.example/g01363/laws.FnExactIsCochain", spec := "fnExactIsCochain", apart := false }
def FnExactIsCochainSaid : Prop := fnExactIsCochainRow.holds Try.pinned (OpenSpec.ofChange fnExactIsCochainSpec)

/-- ITS FALSE NEIGHBOUR: 'it returns false'. Refute it at one input. -/
def fnExactIsCochainWrong : ChangeSpec := { name := "fnExactIsCochain", fn := fun _ => fun
  | [d1, d2, d3] => { results := [.lit (.bool false)], args := [d1, d2, d3] }
  | _ => none }
def FnExactIsCochainWrongFalsely : Prop := fnExactIsCochainRow.holds Try.pinned (OpenSpec.ofChange fnExactIsCochainWrong)

/-- 'laws.FnExactZeroCochain': WHATEVER THE INPUT: true; the input reads as it did. -/
def fnExactZeroCochainSpec : ChangeSpec := { name := "fnExactZeroCochain", fn := fun _ => fun
  | [d1, d2, d3] => { results := [.lit (.bool true)], args := [d1, d2, d3] }
  | _ => none }
def fnExactZeroCochainRow : OpenClaim := { program := "ytifpnficdjbljaa", sum := "d2afe63c6edc913ed8022a1681e213cf6043539311753ed517916f85b9cd8aab", func := "loop.example/g01363/laws.FnExactZeroCochain", spec := "fnExactZeroCochain", apart := false }
def FnExactZeroCochainSaid : Prop := fnExactZeroCochainRow.holds Try.pinned (OpenSpec.ofChange fnExactZeroCochainSpec)

/-- ITS FALSE NEIGHBOUR: 'it returns false'. Refute it at one input. -/
def fnExactZeroCochainWrong : ChangeSpec := { name := "fnExactZeroCochain", fn := fun _ => fun
  | [d1, d2, d3] => { results := [.lit (.bool false)], args := [d1, d2, d3] }
  | _ => none }
def FnExactZeroCochainWrongFalsely : Prop := fnExactZeroCochainRow.holds Try.pinned (OpenSpec.ofChange fnExactZeroCochainWrong)

/-- 'laws.FnExactValueOf': WHATEVER THE INPUT: true; the input reads as it did. -/
def fnExactValueOfSpec : ChangeSpec := { name := "fnExactValueOf", fn := fun _ => fun
  | [d1, d2, d3, d4] => { results := [.lit (.bool true)], args := [d1, d2, d3, d4] }
  | _ => none }
def fnExactValueOfRow : OpenClaim := { program := "ytifpnficdjbljaa", sum := "d2afe63c6edc913ed8022a1681e213cf6043539311753ed517916f85b9cd8aab", func := "loop.example/g01363/laws.FnExactValueOf", spec := "fnExactValueOf", apart := false }
def FnExactValueOfSaid : Prop := fnExactValueOfRow.holds Try.pinned (OpenSpec.ofChange fnExactValueOfSpec)

/-- ITS FALSE NEIGHBOUR: 'it returns false'. Refute it at one input. -/
def fnExactValueOfWrong : ChangeSpec := { name := "fnExactValueOf", fn := fun _ => fun
  | [d1, d2, d3, d4] => { results := [.lit (.bool false)], args := [d1, d2, d3, d4] }
  | _ => none }
def FnExactValueOfWrongFalsely : Prop := fnExactValueOfRow.holds Try.pinned (OpenSpec.ofChange fnExactValueOfWrong)

/-- 'laws.FnExactAddCochains': WHATEVER THE INPUT: true; the input reads as it did. -/
def fnExactAddCochainsSpec : ChangeSpec := { name := "fnExactAddCochains", fn := fun _ => fun
  | [d1, d2, d3, d4, d5] => { results := [.lit (.bool true)], args := [d1, d2, d3, d4, d5] }
  | _ => none }
def fnExactAddCochainsRow : OpenClaim := { program := "ytifpnficdjbljaa", sum := "d2afe63c6edc913ed8022a1681e213cf6043539311753ed517916f85b9cd8aab", func := "loop.example/g01363/laws.FnExactAddCochains", spec := "fnExactAddCochains", apart := false }
def FnExactAddCochainsSaid : Prop := fnExactAddCochainsRow.holds Try.pinned (OpenSpec.ofChange fnExactAddCochainsSpec)

/-- ITS FALSE NEIGHBOUR: 'it returns false'. Refute it at one input. -/
def fnExactAddCochainsWrong : ChangeSpec := { name := "fnExactAddCochains", fn := fun _ => fun
  | [d1, d2, d3, d4, d5] => { results := [.lit (.bool false)], args := [d1, d2, d3, d4, d5] }
  | _ => none }
def FnExactAddCochainsWrongFalsely : Prop := fnExactAddCochainsRow.holds Try.pinned (OpenSpec.ofChange fnExactAddCochainsWrong)

/-- 'laws.FnExactBoundaryOf': WHATEVER THE INPUT: true; the input reads as it did. -/
def fnExactBoundaryOfSpec : ChangeSpec := { name := "fnExactBoundaryOf", fn := fun _ => fun
  | [d1, d2, d3] => { results := [.lit (.bool true)], args := [d1, d2, d3] }
  | _ => none }
def fnExactBoundaryOfRow : OpenClaim := { program := "ytifpnficdjbljaa", sum := "d2afe63c6edc913ed8022a1681e213cf6043539311753ed517916f85b9cd8aab", func := "loop.example/g01363/laws.FnExactBoundaryOf", spec := "fnExactBoundaryOf", unfollowed := true, recurses := true, apart := false }
def FnExactBoundaryOfSaid : Prop := fnExactBoundaryOfRow.holds Try.pinned (OpenSpec.ofChange fnExactBoundaryOfSpec)

/-- ITS FALSE NEIGHBOUR: 'it returns false'. Refute it at one input. -/
def fnExactBoundaryOfWrong : ChangeSpec := { name := "fnExactBoundaryOf", fn := fun _ => fun
  | [d1, d2, d3] => { results := [.lit (.bool false)], args := [d1, d2, d3] }
  | _ => none }
def FnExactBoundaryOfWrongFalsely : Prop := fnExactBoundaryOfRow.holds Try.pinned (OpenSpec.ofChange fnExactBoundaryOfWrong)

/-- 'laws.FnExactIsCocycle': WHATEVER THE INPUT: true; the input reads as it did. -/
def fnExactIsCocycleSpec : ChangeSpec := { name := "fnExactIsCocycle", fn := fun _ => fun
  | [d1, d2, d3] => { results := [.lit (.bool true)], args := [d1, d2, d3] }
  | _ => none }
def fnExactIsCocycleRow : OpenClaim := { program := "ytifpnficdjbljaa", sum := "d2afe63c6edc913ed8022a1681e213cf6043539311753ed517916f85b9cd8aab", func := "loop.example/g01363/laws.FnExactIsCocycle", spec := "fnExactIsCocycle", unfollowed := true, recurses := true, apart := false }
def FnExactIsCocycleSaid : Prop := fnExactIsCocycleRow.holds Try.pinned (OpenSpec.ofChange fnExactIsCocycleSpec)

/-- ITS FALSE NEIGHBOUR: 'it returns false'. Refute it at one input. -/
def fnExactIsCocycleWrong : ChangeSpec := { name := "fnExactIsCocycle", fn := fun _ => fun
  | [d1, d2, d3] => { results := [.lit (.bool false)], args := [d1, d2, d3] }
  | _ => none }
def FnExactIsCocycleWrongFalsely : Prop := fnExactIsCocycleRow.holds Try.pinned (OpenSpec.ofChange fnExactIsCocycleWrong)

/-- 'laws.FnExactProductOfCochains': WHATEVER THE INPUT: true; the input reads as it did. -/
def fnExactProductOfCochainsSpec : ChangeSpec := { name := "fnExactProductOfCochains", fn := fun _ => fun
  | [d1, d2, d3, d4, d5] => { results := [.lit (.bool true)], args := [d1, d2, d3, d4, d5] }
  | _ => none }
def fnExactProductOfCochainsRow : OpenClaim := { program := "ytifpnficdjbljaa", sum := "d2afe63c6edc913ed8022a1681e213cf6043539311753ed517916f85b9cd8aab", func := "loop.example/g01363/laws.FnExactProductOfCochains", spec := "fnExactProductOfCochains", unfollowed := true, recurses := true, apart := false }
def FnExactProductOfCochainsSaid : Prop := fnExactProductOfCochainsRow.holds Try.pinned (OpenSpec.ofChange fnExactProductOfCochainsSpec)

/-- ITS FALSE NEIGHBOUR: 'it returns false'. Refute it at one input. -/
def fnExactProductOfCochainsWrong : ChangeSpec := { name := "fnExactProductOfCochains", fn := fun _ => fun
  | [d1, d2, d3, d4, d5] => { results := [.lit (.bool false)], args := [d1, d2, d3, d4, d5] }
  | _ => none }
def FnExactProductOfCochainsWrongFalsely : Prop := fnExactProductOfCochainsRow.holds Try.pinned (OpenSpec.ofChange fnExactProductOfCochainsWrong)

/- THE SECOND FORM. 'bulk': how many values and letters a reading holds, each counted each time it is reached (what is shared counts as often as it is met; a slice's spare places count too). A statement '..UptoSaid' is the law's where the arguments, and the package variables that the reading takes, are together of bulk at most 1048576: NARROWER than '..Said'. Prove '..Said' where nothing that the law and all that it calls make is longer than what came in: it says more and counts as full. Else prove '..UptoSaid'. A law counts once. -/
mutual
def uptoBulk {H : Type} : DataW H → Nat
  | .lit (.string bytes) => bytes.length + 1
  | .lit _ => 1
  | .nil => 1
  | .ptr d => uptoBulk d + 1
  | .slice elems spare => uptoBulkAll elems + uptoBulkAll spare + 1
  | .agg parts => uptoBulkAll parts + 1
  | .iface _ d => uptoBulk d + 1
  | .map entries => uptoBulkEntries entries + 1
  | .held _ => 1
def uptoBulkAll {H : Type} : List (DataW H) → Nat
  | [] => 0
  | d :: r => uptoBulk d + uptoBulkAll r
def uptoBulkEntries {H : Type} : List (Lit × DataW H) → Nat
  | [] => 0
  | x :: r => uptoBulkEntry x + uptoBulkEntries r
def uptoBulkEntry {H : Type} : Lit × DataW H → Nat
  | (.string bytes, d) => bytes.length + uptoBulk d + 1
  | (_, d) => uptoBulk d + 1
 end
def uptoSmall : (H : Type) → List (DataW H) → Bool := fun _ ds => decide (uptoBulkAll ds ≤ 1048576)
def OpenSpec.upto (s : _root_.Go.ChangeSpec) : _root_.Go.OpenSpec := { _root_.Go.OpenSpec.ofChange s with cond := some uptoSmall }

/-- 'laws.FnExactNamedGroup', WHERE WHAT IT READS IS OF BULK AT MOST 1048576: true; the input reads as it did. -/
def fnExactNamedGroupUptoRow : OpenClaim := { program := "ytifpnficdjbljaa", sum := "d2afe63c6edc913ed8022a1681e213cf6043539311753ed517916f85b9cd8aab", func := "loop.example/g01363/laws.FnExactNamedGroup", spec := "fnExactNamedGroup", unfollowed := true, recurses := true, apart := false, narrowed := true }
def FnExactNamedGroupUptoSaid : Prop := fnExactNamedGroupUptoRow.holds Try.pinned (OpenSpec.upto fnExactNamedGroupSpec)

/-- 'laws.FnExactIsCochain', WHERE WHAT IT READS IS OF BULK AT MOST 1048576: true; the input reads as it did. -/
def fnExactIsCochainUptoRow : OpenClaim := { program := "ytifpnficdjbljaa", sum := "d2afe63c6edc913ed8022a1681e213cf6043539311753ed517916f85b9cd8aab", func := "loop.example/g01363/laws.FnExactIsCochain", spec := "fnExactIsCochain", apart := false, narrowed := true }
def FnExactIsCochainUptoSaid : Prop := fnExactIsCochainUptoRow.holds Try.pinned (OpenSpec.upto fnExactIsCochainSpec)

/-- 'laws.FnExactZeroCochain', WHERE WHAT IT READS IS OF BULK AT MOST 1048576: true; the input reads as it did. -/
def fnExactZeroCochainUptoRow : OpenClaim := { program := "ytifpnficdjbljaa", sum := "d2afe63c6edc913ed8022a1681e213cf6043539311753ed517916f85b9cd8aab", func := "loop.example/g01363/laws.FnExactZeroCochain", spec := "fnExactZeroCochain", apart := false, narrowed := true }
def FnExactZeroCochainUptoSaid : Prop := fnExactZeroCochainUptoRow.holds Try.pinned (OpenSpec.upto fnExactZeroCochainSpec)

/-- 'laws.FnExactValueOf', WHERE WHAT IT READS IS OF BULK AT MOST 1048576: true; the input reads as it did. -/
def fnExactValueOfUptoRow : OpenClaim := { program := "ytifpnficdjbljaa", sum := "d2afe63c6edc913ed8022a1681e213cf6043539311753ed517916f85b9cd8aab", func := "loop.example/g01363/laws.FnExactValueOf", spec := "fnExactValueOf", apart := false, narrowed := true }
def FnExactValueOfUptoSaid : Prop := fnExactValueOfUptoRow.holds Try.pinned (OpenSpec.upto fnExactValueOfSpec)

/-- 'laws.FnExactAddCochains', WHERE WHAT IT READS IS OF BULK AT MOST 1048576: true; the input reads as it did. -/
def fnExactAddCochainsUptoRow : OpenClaim := { program := "ytifpnficdjbljaa", sum := "d2afe63c6edc913ed8022a1681e213cf6043539311753ed517916f85b9cd8aab", func := "loop.example/g01363/laws.FnExactAddCochains", spec := "fnExactAddCochains", apart := false, narrowed := true }
def FnExactAddCochainsUptoSaid : Prop := fnExactAddCochainsUptoRow.holds Try.pinned (OpenSpec.upto fnExactAddCochainsSpec)

/-- 'laws.FnExactBoundaryOf', WHERE WHAT IT READS IS OF BULK AT MOST 1048576: true; the input reads as it did. -/
def fnExactBoundaryOfUptoRow : OpenClaim := { program := "ytifpnficdjbljaa", sum := "d2afe63c6edc913ed8022a1681e213cf6043539311753ed517916f85b9cd8aab", func := "loop.example/g01363/laws.FnExactBoundaryOf", spec := "fnExactBoundaryOf", unfollowed := true, recurses := true, apart := false, narrowed := true }
def FnExactBoundaryOfUptoSaid : Prop := fnExactBoundaryOfUptoRow.holds Try.pinned (OpenSpec.upto fnExactBoundaryOfSpec)

/-- 'laws.FnExactIsCocycle', WHERE WHAT IT READS IS OF BULK AT MOST 1048576: true; the input reads as it did. -/
def fnExactIsCocycleUptoRow : OpenClaim := { program := "ytifpnficdjbljaa", sum := "d2afe63c6edc913ed8022a1681e213cf6043539311753ed517916f85b9cd8aab", func := "loop.example/g01363/laws.FnExactIsCocycle", spec := "fnExactIsCocycle", unfollowed := true, recurses := true, apart := false, narrowed := true }
def FnExactIsCocycleUptoSaid : Prop := fnExactIsCocycleUptoRow.holds Try.pinned (OpenSpec.upto fnExactIsCocycleSpec)

/-- 'laws.FnExactProductOfCochains', WHERE WHAT IT READS IS OF BULK AT MOST 1048576: true; the input reads as it did. -/
def fnExactProductOfCochainsUptoRow : OpenClaim := { program := "ytifpnficdjbljaa", sum := "d2afe63c6edc913ed8022a1681e213cf6043539311753ed517916f85b9cd8aab", func := "loop.example/g01363/laws.FnExactProductOfCochains", spec := "fnExactProductOfCochains", unfollowed := true, recurses := true, apart := false, narrowed := true }
def FnExactProductOfCochainsUptoSaid : Prop := fnExactProductOfCochainsUptoRow.holds Try.pinned (OpenSpec.upto fnExactProductOfCochainsSpec)

end Rows
end Go.Proofs.Ytifpnficdjbljaa
