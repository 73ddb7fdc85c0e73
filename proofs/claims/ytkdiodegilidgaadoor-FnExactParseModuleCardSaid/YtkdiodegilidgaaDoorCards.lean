/-
  DERIVED. GIVEN WITH THE SEED: THE CARDS: each row of YtkdiodegilidgaaDoorRows.lean that lists a variable, with what it lists TIED to the program's text (the seventh form; the later family's looks); each row that meets fmt, with fmt's text TOLD by the authors' own Lean function (tested against real Go, not proved from fmt's source: count such statements apart). THE CARD IS WHAT COUNTS. Prove the row's statement (the work); the ties are given (YtkdiodegilidgaaDoorTie.lean); close each card by the builder's one call (the guide's Derived/Test/ToyasCard.lean, 'card_holds'). Laid BY PROGRAM, IN A SANDBOX (cutbox-door.mjs). By AI agents, Wed Nov 11 2026. No macro, syntax, notation, axiom, sorry.
-/
import Derived.Test.YtkdiodegilidgaaDoorRows
import GoSem.ClaimSeven
namespace Go.Proofs.YtkdiodegilidgaaDoor
namespace Rows

/-- THE TIED CARD OF 'laws.FnExactParseGroup'. -/
def fnExactParseGroupCard : Claim7 := { stood := { row := fnExactParseGroupRow, standIns := [], harness := (true, "40d83d8ea2fcfc46f93c8e47ddb35db8e5dee8c66d1782bc958553660364a648"), looks := false }, kinds := [], alts := [], laidByText := true, laidKinds := [.data, .pinned], laidTests := true, laidLooks := .later }
def FnExactParseGroupCardSaid : Prop := Claim7.holds Tryd.pinned (.plain (OpenSpec.ofChange fnExactParseGroupSpec)) fnExactParseGroupCard

/-- THE TIED CARD OF 'laws.FnExactModuleText'. -/
def fnExactModuleTextCard : Claim7 := { stood := { row := fnExactModuleTextRow, standIns := [], harness := (true, "40d83d8ea2fcfc46f93c8e47ddb35db8e5dee8c66d1782bc958553660364a648"), looks := false }, kinds := [], alts := [], laidByText := true, laidKinds := [.data, .data, .data], laidTests := true, laidLooks := .later }
def FnExactModuleTextCardSaid : Prop := Claim7.holds Tryd.pinned (.plain (OpenSpec.ofChange fnExactModuleTextSpec)) fnExactModuleTextCard

/-- THE TIED CARD OF 'laws.FnExactParseModule'. -/
def fnExactParseModuleCard : Claim7 := { stood := { row := fnExactParseModuleRow, standIns := [], harness := (true, "40d83d8ea2fcfc46f93c8e47ddb35db8e5dee8c66d1782bc958553660364a648"), looks := false }, kinds := [], alts := [], laidByText := true, laidKinds := [.data, .pinned], laidTests := true, laidLooks := .later }
def FnExactParseModuleCardSaid : Prop := Claim7.holds Tryd.pinned (.plain (OpenSpec.ofChange fnExactParseModuleSpec)) fnExactParseModuleCard

/-- THE SECOND FORM's CARD OF 'laws.FnExactParseGroup'. -/
def fnExactParseGroupUptoCard : Claim7 := { stood := { row := fnExactParseGroupUptoRow, standIns := [], harness := (true, "40d83d8ea2fcfc46f93c8e47ddb35db8e5dee8c66d1782bc958553660364a648"), looks := false }, kinds := [], alts := [], laidByText := true, laidKinds := [.data, .pinned], laidTests := true, laidLooks := .later }
def FnExactParseGroupUptoCardSaid : Prop := Claim7.holds Tryd.pinned (.plain (OpenSpec.upto fnExactParseGroupSpec)) fnExactParseGroupUptoCard

/-- THE SECOND FORM's CARD OF 'laws.FnExactModuleText'. -/
def fnExactModuleTextUptoCard : Claim7 := { stood := { row := fnExactModuleTextUptoRow, standIns := [], harness := (true, "40d83d8ea2fcfc46f93c8e47ddb35db8e5dee8c66d1782bc958553660364a648"), looks := false }, kinds := [], alts := [], laidByText := true, laidKinds := [.data, .data, .data], laidTests := true, laidLooks := .later }
def FnExactModuleTextUptoCardSaid : Prop := Claim7.holds Tryd.pinned (.plain (OpenSpec.upto fnExactModuleTextSpec)) fnExactModuleTextUptoCard

/-- THE SECOND FORM's CARD OF 'laws.FnExactParseModule'. -/
def fnExactParseModuleUptoCard : Claim7 := { stood := { row := fnExactParseModuleUptoRow, standIns := [], harness := (true, "40d83d8ea2fcfc46f93c8e47ddb35db8e5dee8c66d1782bc958553660364a648"), looks := false }, kinds := [], alts := [], laidByText := true, laidKinds := [.data, .pinned], laidTests := true, laidLooks := .later }
def FnExactParseModuleUptoCardSaid : Prop := Claim7.holds Tryd.pinned (.plain (OpenSpec.upto fnExactParseModuleSpec)) fnExactParseModuleUptoCard
end Rows
end Go.Proofs.YtkdiodegilidgaaDoor
