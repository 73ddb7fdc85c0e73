/- Contracts: groups made of functions. -/
import Derived.Test.YtipdgkohfmpilaaHa
namespace Go.Proofs.Ytipdgkohfmpilaa
open Go.RowKit
set_option linter.unusedVariables false
set_option linter.unusedSimpArgs false
set_option maxRecDepth 100000



def tab (f : Nat → Nat → Int) (n m : Nat) : List (List Int) := (List.range m).map fun a => upTo (f a) n
theorem tab_succ (f : Nat → Nat → Int) (n m : Nat) : tab f n (m + 1) = tab f n m ++ [upTo (f m) n] := by simp [tab, List.range_succ]
theorem tab_len (f : Nat → Nat → Int) (n m : Nat) : (tab f n m).length = m := by simp [tab]
end Go.Proofs.Ytipdgkohfmpilaa
