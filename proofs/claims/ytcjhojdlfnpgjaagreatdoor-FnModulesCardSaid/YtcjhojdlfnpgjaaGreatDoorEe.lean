/- Contracts: DirectProduct. -/
import Derived.Test.YtcjhojdlfnpgjaaGreatDoorEb
import Derived.Test.YtcjhojdlfnpgjaaGreatDoorGe
import Derived.Test.YtcjhojdlfnpgjaaGreatDoorGc
namespace Go.Proofs.YtcjhojdlfnpgjaaGreatDoor
open Go.RowKit
set_option linter.unusedVariables false
set_option linter.unusedSimpArgs false
set_option maxRecDepth 100000

def codeDP (t u : List (List Int)) : Int := if Grp t ∧ Grp u then (if t.length * u.length ≤ 8 then 0 else 3) else 1
def dpL (t u : List (List Int)) : List (List Int) := if codeDP t u = 0 then tab (prodF t u) (t.length * u.length) (t.length * u.length) else []
theorem tab_row {f : Nat → Nat → Int} {n m a : Nat} (h : a < m) : (tab f n m).getD a [] = upTo (f a) n := by
  rw [List.getD_eq_getElem?_getD, tab, List.getElem?_map, List.getElem?_range h]
  rfl
end Go.Proofs.YtcjhojdlfnpgjaaGreatDoor
