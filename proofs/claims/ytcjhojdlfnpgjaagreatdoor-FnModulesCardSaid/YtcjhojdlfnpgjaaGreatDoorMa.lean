/- Contracts: what the laws use to tell memory apart: marks that are written into rows, and looked for. -/
import Derived.Test.YtcjhojdlfnpgjaaGreatDoorWe
import Derived.Test.YtcjhojdlfnpgjaaGreatDoorFb
namespace Go.Proofs.YtcjhojdlfnpgjaaGreatDoor
open Go.RowKit
set_option linter.unusedVariables false
set_option linter.unusedSimpArgs false
set_option maxRecDepth 100000

def marks (k : Int) : Nat → List Int
  | 0 => []
  | n + 1 => marks k n ++ [k + n]
/-- Where marks are looked for. -/
def heldS : List Int → Int → Int
  | [], k => k
  | x :: xs, k => if x = k then heldS xs (k + 1) else -1
def marksS (k : Int) : List (List Int) → List (List Int)
  | [] => []
  | r :: t => marks k r.length :: marksS (k + r.length) t
def cellsOf : List (List Int) → Nat
  | [] => 0
  | r :: t => r.length + cellsOf t
/-- What is asked of rows that a law returns. -/
def OkRows (t : List (List Int)) : Prop := t.length ≤ 1048576 ∧ (∀ a, a < t.length → (t.getD a []).length ≤ 1048576) ∧ (cellsOf t : Int) ≤ 1099511627776
end Go.Proofs.YtcjhojdlfnpgjaaGreatDoor
