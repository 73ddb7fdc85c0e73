/- Contracts: NormOf by the specification, KernelOf. -/
import Derived.Test.YtcjhojdlfnpgjaaDa
namespace Go.Proofs.Ytcjhojdlfnpgjaa
open Go.RowKit
set_option linter.unusedVariables false
set_option linter.unusedSimpArgs false
set_option maxRecDepth 100000

theorem tmod_nn {a m : Int} (h : 0 ≤ a) : a.tmod m = a % m := Int.tmod_eq_emod_of_nonneg h
theorem norm_step {a u m : Int} (ha : 0 ≤ a) (hu : 0 ≤ u) (hm : 0 < m) : (a.tmod m + u).tmod m = (a + u).tmod m := by
  rw [tmod_nn ha, tmod_nn (by have := Int.emod_nonneg a (show m ≠ 0 by omega); omega), tmod_nn (by omega), Int.emod_add_emod]
def isOne (l : List Int) (x : Int) : Bool := l.getD x.toNat 0 == 1
def kernL (t : List (List Int)) (m : Int) (l : List Int) : List Int := if codeM t [(m, l)] = 0 then (cnt t.length).filter (isOne l) else []
theorem kernL_ok (t : List (List Int)) (m : Int) (l : List Int) : (kernL t m l).length ≤ 1048576 := by
  unfold kernL
  split
  · rename_i h
    have h8 := (codeM1_ok h).1.2.1
    have := List.length_filter_le (isOne l) (cnt t.length)
    rw [cnt_len] at this
    omega
  · simp
theorem cnt_succ (k : Nat) : cnt (k + 1) = cnt k ++ [(k : Int)] := upTo_succ _ _
theorem filter_cnt (p : Int → Bool) (k : Nat) : (cnt (k + 1)).filter p = (cnt k).filter p ++ (if p k then [(k : Int)] else []) := by
  rw [cnt_succ, List.filter_append, List.filter_cons]
  split <;> rfl
theorem filter_cnt_le (p : Int → Bool) (k : Nat) : ((cnt k).filter p).length ≤ k := by
  have := List.length_filter_le p (cnt k)
  rwa [cnt_len] at this
end Go.Proofs.Ytcjhojdlfnpgjaa
