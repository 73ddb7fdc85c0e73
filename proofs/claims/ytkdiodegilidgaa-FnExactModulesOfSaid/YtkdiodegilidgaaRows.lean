/-
  No cell of these rows narrows 'for every input' (looked for: loops, veiled, ifaces, maps, wideKeys, modest, calm, conditions, laid).
  DERIVED. THE GIVEN ROWS OF THIS SEAT. 2 by the template 'for every input the law returns true; each argument reads behind the call as it read before'; 0 by the template 'total and deterministic' (their statements: YtkdiodegilidgaaTotals.lean).
  GIVEN WITH THE SEED: the statements are not yours to turn. If you find one false, say at which input.
  Laid BY PROGRAM, IN A SANDBOX (cutbox-rows.mjs): the forced cells as the released guide's own fill.sh prints them over the translation d08e4498874bd350… (all of the seat's roots in one cut). By AI agents, Wed Nov 11 2026. No macro, syntax, notation, axiom, sorry.
-/
import Derived.Test.YtkdiodegilidgaaChecked
import GoSem.Claim
import GoSem.ClaimJoined
import GoSem.ClaimMapViews
import Derived.JoinedTies
import Derived.KernelRfl
namespace Go.Proofs.Ytkdiodegilidgaa
/- THE CELL 'sum', in the pinned program and in every row, IS THE sha256 OF THE DUMP (.gsa) THAT YtkdiodegilidgaaProg.lean LOADS. Nothing in Lean hashes anything: it is a label: what it is worth is what the hold of that sum in a sandbox is worth. -/
noncomputable def Try.pinned : Pinned := { name := "ytkdiodegilidgaa", sum := "d08e4498874bd350940b40bdae7190b9c70c219a68b57d2532b0c1d9b405b713", checked := Try.checked }
namespace Rows
def none {H : Type} : Left H := { results := [], args := [] }

/-- 'laws.FnExactGroupText': WHATEVER THE INPUT: true; the input reads as it did. -/
def fnExactGroupTextSpec : ChangeSpec := { name := "fnExactGroupText", fn := fun _ => fun
  | [d] => { results := [.lit (.bool true)], args := [d] }
  | _ => none }
def fnExactGroupTextRow : OpenClaim := { program := "ytkdiodegilidgaa", sum := "d08e4498874bd350940b40bdae7190b9c70c219a68b57d2532b0c1d9b405b713", func := "loop.example/g01363/laws.FnExactGroupText", spec := "fnExactGroupText", inPlace := ["internal/abi.NoEscape", "internal/bytealg.MakeNoZero"], recurses := true, apart := false }
def FnExactGroupTextSaid : Prop := fnExactGroupTextRow.holds Try.pinned (OpenSpec.ofChange fnExactGroupTextSpec)

/-- ITS FALSE NEIGHBOUR: 'it returns false'. Refute it at one input. -/
def fnExactGroupTextWrong : ChangeSpec := { name := "fnExactGroupText", fn := fun _ => fun
  | [d] => { results := [.lit (.bool false)], args := [d] }
  | _ => none }
def FnExactGroupTextWrongFalsely : Prop := fnExactGroupTextRow.holds Try.pinned (OpenSpec.ofChange fnExactGroupTextWrong)

/-- 'laws.FnExactModulesOf': WHATEVER THE INPUT: true; the input reads as it did. -/
def fnExactModulesOfSpec : ChangeSpec := { name := "fnExactModulesOf", fn := fun _ => fun
  | [d1, d2] => { results := [.lit (.bool true)], args := [d1, d2] }
  | _ => none }
def fnExactModulesOfRow : OpenClaim := { program := "ytkdiodegilidgaa", sum := "d08e4498874bd350940b40bdae7190b9c70c219a68b57d2532b0c1d9b405b713", func := "loop.example/g01363/laws.FnExactModulesOf", spec := "fnExactModulesOf", unfollowed := true, recurses := true, apart := false }
def FnExactModulesOfSaid : Prop := fnExactModulesOfRow.holds Try.pinned (OpenSpec.ofChange fnExactModulesOfSpec)

/-- ITS FALSE NEIGHBOUR: 'it returns false'. Refute it at one input. -/
def fnExactModulesOfWrong : ChangeSpec := { name := "fnExactModulesOf", fn := fun _ => fun
  | [d1, d2] => { results := [.lit (.bool false)], args := [d1, d2] }
  | _ => none }
def FnExactModulesOfWrongFalsely : Prop := fnExactModulesOfRow.holds Try.pinned (OpenSpec.ofChange fnExactModulesOfWrong)

/- THE SECOND FORM. 'bulk': how many values and letters a reading holds, each counted each time it is reached (what is shared counts as often as it is met; a slice's spare places count too). A statement '..UptoSaid' is the law's where the arguments, and the package variables that the reading takes, are together of bulk at most 1048576: NARROWER than '..Said'. Prove '..Said' where nothing that the law and all that it calls make is longer than what came in: it says more and counts as full. Else prove '..UptoSaid'. A law counts once. -/
mutual
def uptoBulk {H : Type} : DataW H → Nat
  | .lit (.string bytes) => bytes.length + 1
  | .lit _ => 1
  | .nil => 1
  | .ptr d => uptoBulk d + 1
  | .slice elems spare => uptoBulkAll elems + uptoBulkAll spare + 1
  | .agg parts => uptoBulkAll parts + 1
  | .iface _ d => uptoBulk d + 1
  | .map entries => uptoBulkEntries entries + 1
  | .held _ => 1
def uptoBulkAll {H : Type} : List (DataW H) → Nat
  | [] => 0
  | d :: r => uptoBulk d + uptoBulkAll r
def uptoBulkEntries {H : Type} : List (Lit × DataW H) → Nat
  | [] => 0
  | x :: r => uptoBulkEntry x + uptoBulkEntries r
def uptoBulkEntry {H : Type} : Lit × DataW H → Nat
  | (.string bytes, d) => bytes.length + uptoBulk d + 1
  | (_, d) => uptoBulk d + 1
 end
def uptoSmall : (H : Type) → List (DataW H) → Bool := fun _ ds => decide (uptoBulkAll ds ≤ 1048576)
def OpenSpec.upto (s : _root_.Go.ChangeSpec) : _root_.Go.OpenSpec := { _root_.Go.OpenSpec.ofChange s with cond := some uptoSmall }

/-- 'laws.FnExactGroupText', WHERE WHAT IT READS IS OF BULK AT MOST 1048576: true; the input reads as it did. -/
def fnExactGroupTextUptoRow : OpenClaim := { program := "ytkdiodegilidgaa", sum := "d08e4498874bd350940b40bdae7190b9c70c219a68b57d2532b0c1d9b405b713", func := "loop.example/g01363/laws.FnExactGroupText", spec := "fnExactGroupText", inPlace := ["internal/abi.NoEscape", "internal/bytealg.MakeNoZero"], recurses := true, apart := false, narrowed := true }
def FnExactGroupTextUptoSaid : Prop := fnExactGroupTextUptoRow.holds Try.pinned (OpenSpec.upto fnExactGroupTextSpec)

/-- 'laws.FnExactModulesOf', WHERE WHAT IT READS IS OF BULK AT MOST 1048576: true; the input reads as it did. -/
def fnExactModulesOfUptoRow : OpenClaim := { program := "ytkdiodegilidgaa", sum := "d08e4498874bd350940b40bdae7190b9c70c219a68b57d2532b0c1d9b405b713", func := "loop.example/g01363/laws.FnExactModulesOf", spec := "fnExactModulesOf", unfollowed := true, recurses := true, apart := false, narrowed := true }
def FnExactModulesOfUptoSaid : Prop := fnExactModulesOfUptoRow.holds Try.pinned (OpenSpec.upto fnExactModulesOfSpec)

end Rows
end Go.Proofs.Ytkdiodegilidgaa
