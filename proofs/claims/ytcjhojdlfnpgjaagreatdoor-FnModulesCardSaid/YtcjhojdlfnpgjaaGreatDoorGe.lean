/- Contracts: orders and powers of elements. -/
import Derived.Test.YtcjhojdlfnpgjaaGreatDoorGa
import Derived.Test.YtcjhojdlfnpgjaaGreatDoorVp
import Derived.Test.YtcjhojdlfnpgjaaGreatDoorPa
namespace Go.Proofs.YtcjhojdlfnpgjaaGreatDoor
open Go.RowKit
set_option linter.unusedVariables false
set_option linter.unusedSimpArgs false
set_option maxRecDepth 100000

/-- The inverse of an element. -/
def invN (t : List (List Int)) (a : Nat) : Nat := (ix (t.getD a []) 0).toNat
theorem tmod_as (x m : Int) : x.tmod m = if 0 ≤ x then x % m else -((-x) % m) := by
  split
  · rename_i h; exact Int.tmod_eq_emod_of_nonneg h
  · rename_i h
    have e : x.tmod m = -((-x).tmod m) := by rw [Int.neg_tmod, Int.neg_neg]
    rw [e, Int.tmod_eq_emod_of_nonneg (by omega)]
theorem mod_eq {x m : Int} (h0 : 1 ≤ m) (h1 : m ≤ 8) : (x.tmod m + m).tmod m = x % m ∧ -m < x.tmod m ∧ x.tmod m < m := by
  rw [tmod_as (x.tmod m + m), tmod_as x]
  have hm : m = 1 ∨ m = 2 ∨ m = 3 ∨ m = 4 ∨ m = 5 ∨ m = 6 ∨ m = 7 ∨ m = 8 := by omega
  rcases hm with rfl | rfl | rfl | rfl | rfl | rfl | rfl | rfl <;> split <;> split <;> omega
theorem l01Mod_spec (x m : Int) (h0 : 1 ≤ m) (h1 : m ≤ 8) (hx : -1000000 ≤ x ∧ x ≤ 1000000) : Spec Tryz.prog 100 [.v (.int .i64 x), .v (.int .i64 m)] (.v (.int .i64 (x % m))) [] := by
  refine Spec.of_code T_ok Tryz.func100 rfl Tryz.ntmps100 Tryz.call100 (Nat.le_of_ble_eq_true rfl) rfl rfl (CodeV_sound T_ok (by kernel_rfl) rfl ?_)
  simp only [Tryz.results100, go_sem, Nat.reduceMul, Nat.reduceLeDiff, Nat.reduceLT, reduceIte, reduceCtorEq, Nat.reduceEqDiff, Nat.reduceSub, Nat.reduceAdd]
  obtain ⟨h2, h3, h4⟩ := mod_eq (x := x) h0 h1
  exact ⟨by omega, by unfold InR; omega, by omega, h2⟩

end Go.Proofs.YtcjhojdlfnpgjaaGreatDoor
