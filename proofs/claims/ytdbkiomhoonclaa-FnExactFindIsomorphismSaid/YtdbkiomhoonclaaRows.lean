/-
  No cell of these rows narrows 'for every input' (looked for: loops, veiled, ifaces, maps, wideKeys, modest, calm, conditions, laid).
  DERIVED. THE GIVEN ROWS OF THIS SEAT. 8 by the template 'for every input the law returns true; each argument reads behind the call as it read before'; 0 by the template 'total and deterministic' (their statements: YtdbkiomhoonclaaTotals.lean).
  GIVEN WITH THE SEED: the statements are not yours to turn. If you find one false, say at which input.
  Laid BY PROGRAM, IN A SANDBOX (cutbox-rows.mjs): the forced cells as the released guide's own fill.sh prints them over the translation 243270986f56ab64… (all of the seat's roots in one cut). By AI agents, Wed Nov 11 2026. No macro, syntax, notation, axiom, sorry.
-/
import Derived.Test.YtdbkiomhoonclaaChecked
import GoSem.Claim
import GoSem.ClaimJoined
import GoSem.ClaimMapViews
import Derived.JoinedTies
import Derived.KernelRfl
namespace Go.Proofs.Ytdbkiomhoonclaa
/- THE CELL 'sum', in the pinned program and in every row, IS THE sha256 OF THE DUMP (.gsa) THAT YtdbkiomhoonclaaProg.lean LOADS. Nothing in Lean hashes anything: it is a label: what it is worth is what the hold of that sum in a sandbox is worth. -/
noncomputable def Try.pinned : Pinned := { name := "ytdbkiomhoonclaa", sum := "243270986f56ab647e7955cb59450593273eb6259f306b23a9e2e21343cca77e", checked := Try.checked }
namespace Rows
def none {H : Type} : Left H := { results := [], args := [] }

/-- 'laws.FnExactSubgroupOf': WHATEVER THE INPUT: true; the input reads as it did. -/
def fnExactSubgroupOfSpec : ChangeSpec := { name := "fnExactSubgroupOf", fn := fun _ => fun
  | [d1, d2] => { results := [.lit (.bool true)], args := [d1, d2] }
  | _ => none }
def fnExactSubgroupOfRow : OpenClaim := { program := "ytdbkiomhoonclaa", sum := "243270986f56ab647e7955cb59450593273eb6259f306b23a9e2e21343cca77e", func := "loop.example/g01363/laws.FnExactSubgroupOf", spec := "fnExactSubgroupOf", recurses := true, apart := false }
def FnExactSubgroupOfSaid : Prop := fnExactSubgroupOfRow.holds Try.pinned (OpenSpec.ofChange fnExactSubgroupOfSpec)

/-- ITS FALSE NEIGHBOUR: 'it returns false'. Refute it at one input. -/
def fnExactSubgroupOfWrong : ChangeSpec := { name := "fnExactSubgroupOf", fn := fun _ => fun
  | [d1, d2] => { results := [.lit (.bool false)], args := [d1, d2] }
  | _ => none }
def FnExactSubgroupOfWrongFalsely : Prop := fnExactSubgroupOfRow.holds Try.pinned (OpenSpec.ofChange fnExactSubgroupOfWrong)

/-- 'laws.FnExactDerivedOf': WHATEVER THE INPUT: true; the input reads as it did. -/
def fnExactDerivedOfSpec : ChangeSpec := { name := "fnExactDerivedOf", fn := fun _ => fun
  | [d] => { results := [.lit (.bool true)], args := [d] }
  | _ => none }
def fnExactDerivedOfRow : OpenClaim := { program := "ytdbkiomhoonclaa", sum := "243270986f56ab647e7955cb59450593273eb6259f306b23a9e2e21343cca77e", func := "loop.example/g01363/laws.FnExactDerivedOf", spec := "fnExactDerivedOf", recurses := true, apart := false }
def FnExactDerivedOfSaid : Prop := fnExactDerivedOfRow.holds Try.pinned (OpenSpec.ofChange fnExactDerivedOfSpec)

/-- ITS FALSE NEIGHBOUR: 'it returns false'. Refute it at one input. -/
def fnExactDerivedOfWrong : ChangeSpec := { name := "fnExactDerivedOf", fn := fun _ => fun
  | [d] => { results := [.lit (.bool false)], args := [d] }
  | _ => none }
def FnExactDerivedOfWrongFalsely : Prop := fnExactDerivedOfRow.holds Try.pinned (OpenSpec.ofChange fnExactDerivedOfWrong)

/-- 'laws.FnExactIsNormal': WHATEVER THE INPUT: true; the input reads as it did. -/
def fnExactIsNormalSpec : ChangeSpec := { name := "fnExactIsNormal", fn := fun _ => fun
  | [d1, d2] => { results := [.lit (.bool true)], args := [d1, d2] }
  | _ => none }
def fnExactIsNormalRow : OpenClaim := { program := "ytdbkiomhoonclaa", sum := "243270986f56ab647e7955cb59450593273eb6259f306b23a9e2e21343cca77e", func := "loop.example/g01363/laws.FnExactIsNormal", spec := "fnExactIsNormal", recurses := true, apart := false }
def FnExactIsNormalSaid : Prop := fnExactIsNormalRow.holds Try.pinned (OpenSpec.ofChange fnExactIsNormalSpec)

/-- ITS FALSE NEIGHBOUR: 'it returns false'. Refute it at one input. -/
def fnExactIsNormalWrong : ChangeSpec := { name := "fnExactIsNormal", fn := fun _ => fun
  | [d1, d2] => { results := [.lit (.bool false)], args := [d1, d2] }
  | _ => none }
def FnExactIsNormalWrongFalsely : Prop := fnExactIsNormalRow.holds Try.pinned (OpenSpec.ofChange fnExactIsNormalWrong)

/-- 'laws.FnExactQuotientOf': WHATEVER THE INPUT: true; the input reads as it did. -/
def fnExactQuotientOfSpec : ChangeSpec := { name := "fnExactQuotientOf", fn := fun _ => fun
  | [d1, d2] => { results := [.lit (.bool true)], args := [d1, d2] }
  | _ => none }
def fnExactQuotientOfRow : OpenClaim := { program := "ytdbkiomhoonclaa", sum := "243270986f56ab647e7955cb59450593273eb6259f306b23a9e2e21343cca77e", func := "loop.example/g01363/laws.FnExactQuotientOf", spec := "fnExactQuotientOf", unfollowed := true, recurses := true, apart := false }
def FnExactQuotientOfSaid : Prop := fnExactQuotientOfRow.holds Try.pinned (OpenSpec.ofChange fnExactQuotientOfSpec)

/-- ITS FALSE NEIGHBOUR: 'it returns false'. Refute it at one input. -/
def fnExactQuotientOfWrong : ChangeSpec := { name := "fnExactQuotientOf", fn := fun _ => fun
  | [d1, d2] => { results := [.lit (.bool false)], args := [d1, d2] }
  | _ => none }
def FnExactQuotientOfWrongFalsely : Prop := fnExactQuotientOfRow.holds Try.pinned (OpenSpec.ofChange fnExactQuotientOfWrong)

/-- 'laws.FnExactRenumberGroup': WHATEVER THE INPUT: true; the input reads as it did. -/
def fnExactRenumberGroupSpec : ChangeSpec := { name := "fnExactRenumberGroup", fn := fun _ => fun
  | [d1, d2] => { results := [.lit (.bool true)], args := [d1, d2] }
  | _ => none }
def fnExactRenumberGroupRow : OpenClaim := { program := "ytdbkiomhoonclaa", sum := "243270986f56ab647e7955cb59450593273eb6259f306b23a9e2e21343cca77e", func := "loop.example/g01363/laws.FnExactRenumberGroup", spec := "fnExactRenumberGroup", unfollowed := true, recurses := true, apart := false }
def FnExactRenumberGroupSaid : Prop := fnExactRenumberGroupRow.holds Try.pinned (OpenSpec.ofChange fnExactRenumberGroupSpec)

/-- ITS FALSE NEIGHBOUR: 'it returns false'. Refute it at one input. -/
def fnExactRenumberGroupWrong : ChangeSpec := { name := "fnExactRenumberGroup", fn := fun _ => fun
  | [d1, d2] => { results := [.lit (.bool false)], args := [d1, d2] }
  | _ => none }
def FnExactRenumberGroupWrongFalsely : Prop := fnExactRenumberGroupRow.holds Try.pinned (OpenSpec.ofChange fnExactRenumberGroupWrong)

/-- 'laws.FnExactSubgroupsOf': WHATEVER THE INPUT: true; the input reads as it did. -/
def fnExactSubgroupsOfSpec : ChangeSpec := { name := "fnExactSubgroupsOf", fn := fun _ => fun
  | [d] => { results := [.lit (.bool true)], args := [d] }
  | _ => none }
def fnExactSubgroupsOfRow : OpenClaim := { program := "ytdbkiomhoonclaa", sum := "243270986f56ab647e7955cb59450593273eb6259f306b23a9e2e21343cca77e", func := "loop.example/g01363/laws.FnExactSubgroupsOf", spec := "fnExactSubgroupsOf", unfollowed := true, recurses := true, apart := false }
def FnExactSubgroupsOfSaid : Prop := fnExactSubgroupsOfRow.holds Try.pinned (OpenSpec.ofChange fnExactSubgroupsOfSpec)

/-- ITS FALSE NEIGHBOUR: 'it returns false'. Refute it at one input. -/
def fnExactSubgroupsOfWrong : ChangeSpec := { name := "fnExactSubgroupsOf", fn := fun _ => fun
  | [d] => { results := [.lit (.bool false)], args := [d] }
  | _ => none }
def FnExactSubgroupsOfWrongFalsely : Prop := fnExactSubgroupsOfRow.holds Try.pinned (OpenSpec.ofChange fnExactSubgroupsOfWrong)

/-- 'laws.FnExactFindIsomorphism': WHATEVER THE INPUT: true; the input reads as it did. -/
def fnExactFindIsomorphismSpec : ChangeSpec := { name := "fnExactFindIsomorphism", fn := fun _ => fun
  | [d1, d2] => { results := [.lit (.bool true)], args := [d1, d2] }
  | _ => none }
def fnExactFindIsomorphismRow : OpenClaim := { program := "ytdbkiomhoonclaa", sum := "243270986f56ab647e7955cb59450593273eb6259f306b23a9e2e21343cca77e", func := "loop.example/g01363/laws.FnExactFindIsomorphism", spec := "fnExactFindIsomorphism", unfollowed := true, recurses := true, apart := false }
def FnExactFindIsomorphismSaid : Prop := fnExactFindIsomorphismRow.holds Try.pinned (OpenSpec.ofChange fnExactFindIsomorphismSpec)

/-- ITS FALSE NEIGHBOUR: 'it returns false'. Refute it at one input. -/
def fnExactFindIsomorphismWrong : ChangeSpec := { name := "fnExactFindIsomorphism", fn := fun _ => fun
  | [d1, d2] => { results := [.lit (.bool false)], args := [d1, d2] }
  | _ => none }
def FnExactFindIsomorphismWrongFalsely : Prop := fnExactFindIsomorphismRow.holds Try.pinned (OpenSpec.ofChange fnExactFindIsomorphismWrong)

/-- 'laws.FnExactHomomorphismsOf': WHATEVER THE INPUT: true; the input reads as it did. -/
def fnExactHomomorphismsOfSpec : ChangeSpec := { name := "fnExactHomomorphismsOf", fn := fun _ => fun
  | [d1, d2] => { results := [.lit (.bool true)], args := [d1, d2] }
  | _ => none }
def fnExactHomomorphismsOfRow : OpenClaim := { program := "ytdbkiomhoonclaa", sum := "243270986f56ab647e7955cb59450593273eb6259f306b23a9e2e21343cca77e", func := "loop.example/g01363/laws.FnExactHomomorphismsOf", spec := "fnExactHomomorphismsOf", unfollowed := true, recurses := true, apart := false }
def FnExactHomomorphismsOfSaid : Prop := fnExactHomomorphismsOfRow.holds Try.pinned (OpenSpec.ofChange fnExactHomomorphismsOfSpec)

/-- ITS FALSE NEIGHBOUR: 'it returns false'. Refute it at one input. -/
def fnExactHomomorphismsOfWrong : ChangeSpec := { name := "fnExactHomomorphismsOf", fn := fun _ => fun
  | [d1, d2] => { results := [.lit (.bool false)], args := [d1, d2] }
  | _ => none }
def FnExactHomomorphismsOfWrongFalsely : Prop := fnExactHomomorphismsOfRow.holds Try.pinned (OpenSpec.ofChange fnExactHomomorphismsOfWrong)

/- THE SECOND FORM. 'bulk': how many values and letters a reading holds, each counted each time it is reached (what is shared counts as often as it is met; a slice's spare places count too). A statement '..UptoSaid' is the law's where the arguments, and the package variables that the reading takes, are together of bulk at most 1048576: NARROWER than '..Said'. Prove '..Said' where nothing that the law and all that it calls make is longer than what came in: it says more and counts as full. Else prove '..UptoSaid'. A law counts once. -/
mutual
def uptoBulk {H : Type} : DataW H → Nat
  | .lit (.string bytes) => bytes.length + 1
  | .lit _ => 1
  | .nil => 1
  | .ptr d => uptoBulk d + 1
  | .slice elems spare => uptoBulkAll elems + uptoBulkAll spare + 1
  | .agg parts => uptoBulkAll parts + 1
  | .iface _ d => uptoBulk d + 1
  | .map entries => uptoBulkEntries entries + 1
  | .held _ => 1
def uptoBulkAll {H : Type} : List (DataW H) → Nat
  | [] => 0
  | d :: r => uptoBulk d + uptoBulkAll r
def uptoBulkEntries {H : Type} : List (Lit × DataW H) → Nat
  | [] => 0
  | x :: r => uptoBulkEntry x + uptoBulkEntries r
def uptoBulkEntry {H : Type} : Lit × DataW H → Nat
  | (.string bytes, d) => bytes.length + uptoBulk d + 1
  | (_, d) => uptoBulk d + 1
 end
def uptoSmall : (H : Type) → List (DataW H) → Bool := fun _ ds => decide (uptoBulkAll ds ≤ 1048576)
def OpenSpec.upto (s : _root_.Go.ChangeSpec) : _root_.Go.OpenSpec := { _root_.Go.OpenSpec.ofChange s with cond := some uptoSmall }

/-- 'laws.FnExactSubgroupOf', WHERE WHAT IT READS IS OF BULK AT MOST 1048576: true; the input reads as it did. -/
def fnExactSubgroupOfUptoRow : OpenClaim := { program := "ytdbkiomhoonclaa", sum := "243270986f56ab647e7955cb59450593273eb6259f306b23a9e2e21343cca77e", func := "loop.example/g01363/laws.FnExactSubgroupOf", spec := "fnExactSubgroupOf", recurses := true, apart := false, narrowed := true }
def FnExactSubgroupOfUptoSaid : Prop := fnExactSubgroupOfUptoRow.holds Try.pinned (OpenSpec.upto fnExactSubgroupOfSpec)

/-- 'laws.FnExactDerivedOf', WHERE WHAT IT READS IS OF BULK AT MOST 1048576: true; the input reads as it did. -/
def fnExactDerivedOfUptoRow : OpenClaim := { program := "ytdbkiomhoonclaa", sum := "243270986f56ab647e7955cb59450593273eb6259f306b23a9e2e21343cca77e", func := "loop.example/g01363/laws.FnExactDerivedOf", spec := "fnExactDerivedOf", recurses := true, apart := false, narrowed := true }
def FnExactDerivedOfUptoSaid : Prop := fnExactDerivedOfUptoRow.holds Try.pinned (OpenSpec.upto fnExactDerivedOfSpec)

/-- 'laws.FnExactIsNormal', WHERE WHAT IT READS IS OF BULK AT MOST 1048576: true; the input reads as it did. -/
def fnExactIsNormalUptoRow : OpenClaim := { program := "ytdbkiomhoonclaa", sum := "243270986f56ab647e7955cb59450593273eb6259f306b23a9e2e21343cca77e", func := "loop.example/g01363/laws.FnExactIsNormal", spec := "fnExactIsNormal", recurses := true, apart := false, narrowed := true }
def FnExactIsNormalUptoSaid : Prop := fnExactIsNormalUptoRow.holds Try.pinned (OpenSpec.upto fnExactIsNormalSpec)

/-- 'laws.FnExactQuotientOf', WHERE WHAT IT READS IS OF BULK AT MOST 1048576: true; the input reads as it did. -/
def fnExactQuotientOfUptoRow : OpenClaim := { program := "ytdbkiomhoonclaa", sum := "243270986f56ab647e7955cb59450593273eb6259f306b23a9e2e21343cca77e", func := "loop.example/g01363/laws.FnExactQuotientOf", spec := "fnExactQuotientOf", unfollowed := true, recurses := true, apart := false, narrowed := true }
def FnExactQuotientOfUptoSaid : Prop := fnExactQuotientOfUptoRow.holds Try.pinned (OpenSpec.upto fnExactQuotientOfSpec)

/-- 'laws.FnExactRenumberGroup', WHERE WHAT IT READS IS OF BULK AT MOST 1048576: true; the input reads as it did. -/
def fnExactRenumberGroupUptoRow : OpenClaim := { program := "ytdbkiomhoonclaa", sum := "243270986f56ab647e7955cb59450593273eb6259f306b23a9e2e21343cca77e", func := "loop.example/g01363/laws.FnExactRenumberGroup", spec := "fnExactRenumberGroup", unfollowed := true, recurses := true, apart := false, narrowed := true }
def FnExactRenumberGroupUptoSaid : Prop := fnExactRenumberGroupUptoRow.holds Try.pinned (OpenSpec.upto fnExactRenumberGroupSpec)

/-- 'laws.FnExactSubgroupsOf', WHERE WHAT IT READS IS OF BULK AT MOST 1048576: true; the input reads as it did. -/
def fnExactSubgroupsOfUptoRow : OpenClaim := { program := "ytdbkiomhoonclaa", sum := "243270986f56ab647e7955cb59450593273eb6259f306b23a9e2e21343cca77e", func := "loop.example/g01363/laws.FnExactSubgroupsOf", spec := "fnExactSubgroupsOf", unfollowed := true, recurses := true, apart := false, narrowed := true }
def FnExactSubgroupsOfUptoSaid : Prop := fnExactSubgroupsOfUptoRow.holds Try.pinned (OpenSpec.upto fnExactSubgroupsOfSpec)

/-- 'laws.FnExactFindIsomorphism', WHERE WHAT IT READS IS OF BULK AT MOST 1048576: true; the input reads as it did. -/
def fnExactFindIsomorphismUptoRow : OpenClaim := { program := "ytdbkiomhoonclaa", sum := "243270986f56ab647e7955cb59450593273eb6259f306b23a9e2e21343cca77e", func := "loop.example/g01363/laws.FnExactFindIsomorphism", spec := "fnExactFindIsomorphism", unfollowed := true, recurses := true, apart := false, narrowed := true }
def FnExactFindIsomorphismUptoSaid : Prop := fnExactFindIsomorphismUptoRow.holds Try.pinned (OpenSpec.upto fnExactFindIsomorphismSpec)

/-- 'laws.FnExactHomomorphismsOf', WHERE WHAT IT READS IS OF BULK AT MOST 1048576: true; the input reads as it did. -/
def fnExactHomomorphismsOfUptoRow : OpenClaim := { program := "ytdbkiomhoonclaa", sum := "243270986f56ab647e7955cb59450593273eb6259f306b23a9e2e21343cca77e", func := "loop.example/g01363/laws.FnExactHomomorphismsOf", spec := "fnExactHomomorphismsOf", unfollowed := true, recurses := true, apart := false, narrowed := true }
def FnExactHomomorphismsOfUptoSaid : Prop := fnExactHomomorphismsOfUptoRow.holds Try.pinned (OpenSpec.upto fnExactHomomorphismsOfSpec)

end Rows
end Go.Proofs.Ytdbkiomhoonclaa
