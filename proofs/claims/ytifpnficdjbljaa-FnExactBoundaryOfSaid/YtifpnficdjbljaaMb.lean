/- Contracts: marks in modules. -/
import Derived.Test.YtifpnficdjbljaaMa
import Derived.Test.YtifpnficdjbljaaGd
namespace Go.Proofs.Ytifpnficdjbljaa
open Go.RowKit
set_option linter.unusedVariables false
set_option linter.unusedSimpArgs false
set_option maxRecDepth 100000

theorem markModule_spec (m : Int) (l : List Int) (k : Int) (h0 : 0 ≤ k) (h1 : k + l.length ≤ 9223372036854775807) : SpecM Try.prog 28 [.agg [.v (.int .i64 m), .own 0], .v (.int .i64 k)] [.row 2 (I l)] (.v (.int .i64 (k + l.length))) [some (.row 2 (I (marks k l.length)))] := by
  refine SpecM.of_code' T_ok Try.func28 rfl Try.ntmps28 Try.call28 (Nat.le_of_ble_eq_true rfl) (Nat.le_of_ble_eq_true rfl) (Nat.le_of_ble_eq_true rfl) rfl rfl (CodeV_sound T_ok (by kernel_rfl) rfl ?_)
  simp only [Try.results28, go_sem, Nat.reduceMul, Nat.reduceLeDiff, Nat.reduceLT, reduceIte, reduceCtorEq, Nat.reduceEqDiff, Nat.reduceSub, Nat.reduceAdd]
  refine HereO.callM T_ok 30 [0] rfl rfl (markS_spec l k 2 h0 h1) (by simp only [go_sem, Nat.reduceMul, Nat.reduceLeDiff, Nat.reduceLT, reduceIte, reduceCtorEq, Nat.reduceEqDiff, Nat.reduceSub, Nat.reduceAdd, List.toList_toArray, ↓reduceIte]) rfl (by decide) (by decide) rfl rfl rfl (Nat.le_of_ble_eq_true rfl) ?_
  simp only [Try.results28, go_sem, Nat.reduceMul, Nat.reduceLeDiff, Nat.reduceLT, reduceIte, reduceCtorEq, Nat.reduceEqDiff, Nat.reduceSub, Nat.reduceAdd]
  refine RetM.one0 (by simp only [Try.results28, go_sem, Nat.reduceMul, Nat.reduceLeDiff, Nat.reduceLT, reduceIte, reduceCtorEq, Nat.reduceEqDiff, Nat.reduceSub, Nat.reduceAdd]; rfl) (by simp [tupL, ren]) ?_
  simp only [Try.results28, go_sem, Nat.reduceMul, Nat.reduceLeDiff, Nat.reduceLT, reduceIte, reduceCtorEq, Nat.reduceEqDiff, Nat.reduceSub, Nat.reduceAdd]
end Go.Proofs.Ytifpnficdjbljaa
