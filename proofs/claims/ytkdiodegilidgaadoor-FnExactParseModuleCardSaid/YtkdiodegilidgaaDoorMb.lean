/- Contracts: marks in modules. -/
import Derived.Test.YtkdiodegilidgaaDoorMa
import Derived.Test.YtkdiodegilidgaaDoorGd
namespace Go.Proofs.YtkdiodegilidgaaDoor
open Go.RowKit
set_option linter.unusedVariables false
set_option linter.unusedSimpArgs false
set_option maxRecDepth 100000

theorem markModule_spec (m : Int) (l : List Int) (k : Int) (h0 : 0 ≤ k) (h1 : k + l.length ≤ 9223372036854775807) : SpecM Tryd.prog 20 [.agg [.v (.int .i64 m), .own 0], .v (.int .i64 k)] [.row 2 (I l)] (.v (.int .i64 (k + l.length))) [some (.row 2 (I (marks k l.length)))] := by
  refine SpecM.of_code' T_ok Tryd.func20 rfl Tryd.ntmps20 Tryd.call20 (Nat.le_of_ble_eq_true rfl) (Nat.le_of_ble_eq_true rfl) (Nat.le_of_ble_eq_true rfl) rfl rfl (CodeV_sound T_ok (by kernel_rfl) rfl ?_)
  simp only [Tryd.results20, go_sem, Nat.reduceMul, Nat.reduceLeDiff, Nat.reduceLT, reduceIte, reduceCtorEq, Nat.reduceEqDiff, Nat.reduceSub, Nat.reduceAdd]
  refine HereO.opP T_ok (OpP.boxP rfl rfl) ?_
  simp only [Tryd.results20, go_sem, Nat.reduceMul, Nat.reduceLeDiff, Nat.reduceLT, reduceIte, reduceCtorEq, Nat.reduceEqDiff, Nat.reduceSub, Nat.reduceAdd]
  refine HereO.callM T_ok 30 [0] rfl rfl (markS_spec l k 2 h0 h1) (by simp only [go_sem, Nat.reduceMul, Nat.reduceLeDiff, Nat.reduceLT, reduceIte, reduceCtorEq, Nat.reduceEqDiff, Nat.reduceSub, Nat.reduceAdd, List.toList_toArray, ↓reduceIte]) rfl (by decide) (by decide) rfl rfl rfl (Nat.le_of_ble_eq_true rfl) ?_
  simp only [Tryd.results20, go_sem, Nat.reduceMul, Nat.reduceLeDiff, Nat.reduceLT, reduceIte, reduceCtorEq, Nat.reduceEqDiff, Nat.reduceSub, Nat.reduceAdd]
  refine RetM.one0 (by simp only [Tryd.results20, go_sem, Nat.reduceMul, Nat.reduceLeDiff, Nat.reduceLT, reduceIte, reduceCtorEq, Nat.reduceEqDiff, Nat.reduceSub, Nat.reduceAdd]; rfl) (by simp [tupL, ren]) ?_
  simp only [Tryd.results20, go_sem, Nat.reduceMul, Nat.reduceLeDiff, Nat.reduceLT, reduceIte, reduceCtorEq, Nat.reduceEqDiff, Nat.reduceSub, Nat.reduceAdd]
theorem heldModule_spec (m : Int) (l : List Int) (k : Int) (h0 : 0 ≤ k) (h1 : k + l.length ≤ 9223372036854775807) : Spec Tryd.prog 21 [.agg [.v (.int .i64 m), .rd (I (marks k l.length))], .v (.int .i64 k)] (.v (.int .i64 (k + l.length))) [] := by
  have hh := heldS_spec (marks k l.length) k h0 (by rw [marks_len]; exact h1)
  rw [heldS_marks] at hh
  refine Spec.of_code T_ok Tryd.func21 rfl Tryd.ntmps21 Tryd.call21 (Nat.le_of_ble_eq_true rfl) rfl rfl (CodeV_sound T_ok (by kernel_rfl) rfl ?_)
  simp only [Tryd.results21, go_sem, Nat.reduceMul, Nat.reduceLeDiff, Nat.reduceLT, reduceIte, reduceCtorEq, Nat.reduceEqDiff, Nat.reduceSub, Nat.reduceAdd]
  refine HereO.call T_ok rfl rfl hh (by simp only [go_sem, Nat.reduceMul, Nat.reduceLeDiff, Nat.reduceLT, reduceIte, reduceCtorEq, Nat.reduceEqDiff, Nat.reduceSub, Nat.reduceAdd, List.toList_toArray] <;> first | rfl | exact ⟨rfl, rfl⟩) rfl ?_
  simp only [Tryd.results21, go_sem, Nat.reduceMul, Nat.reduceLeDiff, Nat.reduceLT, reduceIte, reduceCtorEq, Nat.reduceEqDiff, Nat.reduceSub, Nat.reduceAdd]
  exact ⟨fun h => absurd h (by omega), fun _ => trivial⟩
end Go.Proofs.YtkdiodegilidgaaDoor
