/-
  DERIVED. GIVEN WITH THE SEED: THE CARDS: each row of YtcjhojdlfnpgjaaGreatDoorRows.lean that lists a variable, with what it lists TIED to the program's text (the seventh form; the later family's looks); each row that meets fmt, with fmt's text TOLD by the authors' own Lean function (tested against real Go, not proved from fmt's source: count such statements apart). THE CARD IS WHAT COUNTS. Prove the row's statement (the work); the ties are given (YtcjhojdlfnpgjaaGreatDoorTie.lean); close each card by the builder's one call (the guide's Derived/Test/ToyasCard.lean, 'card_holds'). Laid BY PROGRAM, IN A SANDBOX (cutbox-door.mjs). By AI agents, Wed Nov 11 2026. No macro, syntax, notation, axiom, sorry.
-/
import Derived.Test.YtcjhojdlfnpgjaaGreatDoorRows
import GoSem.ClaimSeven
namespace Go.Proofs.YtcjhojdlfnpgjaaGreatDoor
namespace Rows

/-- THE TIED CARD OF 'laws.FnModules'. -/
def fnModulesCard : Claim7 := { stood := { row := fnModulesRow, standIns := [], harness := (true, "f9769dd281f1d488c6bf59130aa7e871d5f5f5093f529c9e1f4b7b3e97671c2e"), looks := false }, kinds := [], alts := [], laidByText := true, laidKinds := [.data, .data, .data, .data, .pinned], laidTests := true, laidLooks := .later }
def FnModulesCardSaid : Prop := Claim7.holds Tryz.pinned (.plain (OpenSpec.ofChange fnModulesSpec)) fnModulesCard

/-- THE SECOND FORM's CARD OF 'laws.FnModules'. -/
def fnModulesUptoCard : Claim7 := { stood := { row := fnModulesUptoRow, standIns := [], harness := (true, "f9769dd281f1d488c6bf59130aa7e871d5f5f5093f529c9e1f4b7b3e97671c2e"), looks := false }, kinds := [], alts := [], laidByText := true, laidKinds := [.data, .data, .data, .data, .pinned], laidTests := true, laidLooks := .later }
def FnModulesUptoCardSaid : Prop := Claim7.holds Tryz.pinned (.plain (OpenSpec.upto fnModulesSpec)) fnModulesUptoCard
end Rows
end Go.Proofs.YtcjhojdlfnpgjaaGreatDoor
