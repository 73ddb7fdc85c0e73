/- Contracts: OrdersOf. -/
import Derived.Test.YtkdiodegilidgaaDoorGe
import Derived.Test.YtkdiodegilidgaaDoorMa
namespace Go.Proofs.YtkdiodegilidgaaDoor
open Go.RowKit
set_option linter.unusedVariables false
set_option linter.unusedSimpArgs false
set_option maxRecDepth 100000

def upTo (f : Nat → Int) (n : Nat) : List Int := (List.range n).map f
theorem upTo_succ (f : Nat → Int) (n : Nat) : upTo f (n + 1) = upTo f n ++ [f n] := by simp [upTo, List.range_succ]
theorem upTo_len (f : Nat → Int) (n : Nat) : (upTo f n).length = n := by simp [upTo]
theorem upTo_get (f : Nat → Int) {n i : Nat} (h : i < n) : (upTo f n).getD i 0 = f i := by
  rw [List.getD_eq_getElem?_getD, upTo, List.getElem?_map, List.getElem?_range h]
  rfl

def ordersL (t : List (List Int)) : List Int := if Grp t then upTo (fun a => (ordN t a : Int)) t.length else []
end Go.Proofs.YtkdiodegilidgaaDoor
