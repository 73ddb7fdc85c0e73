/- Contracts: what the laws of changes read. -/
import Derived.Test.YtcjhojdlfnpgjaaGreatDoorBa
import Derived.Test.YtcjhojdlfnpgjaaGreatDoorFb
namespace Go.Proofs.YtcjhojdlfnpgjaaGreatDoor
open Go.RowKit
set_option linter.unusedVariables false
set_option linter.unusedSimpArgs false
set_option maxRecDepth 100000

theorem big_spec (bs : List Int) (hl : (bs.length : Int) ≤ 9223372036854775807) : Spec Tryz.prog 4 [.rd (BY bs)] (.v (.bool (decide (4096 < bs.length)))) [] := by
  refine Spec.of_code T_ok Tryz.func4 rfl Tryz.ntmps4 Tryz.call4 (Nat.le_of_ble_eq_true rfl) rfl rfl (CodeV_sound T_ok (by kernel_rfl) rfl ?_)
  simp only [Tryz.results4, go_sem, Nat.reduceMul, Nat.reduceLeDiff, Nat.reduceLT, reduceIte, reduceCtorEq, Nat.reduceEqDiff, Nat.reduceSub, Nat.reduceAdd]
  exact decide_eq_decide.2 (by omega)
theorem likeInts_spec (l m : List Int) (hl : l.length ≤ 1048576) : Spec Tryz.prog 41 [.rd (I l), .rd (I m)] (.v (.bool (decide (l = m)))) [] := by
  refine Spec.of_code T_ok Tryz.func41 rfl Tryz.ntmps41 Tryz.call41 (Nat.le_of_ble_eq_true rfl) rfl rfl (CodeV_sound T_ok (by kernel_rfl) rfl ?_)
  simp only [Tryz.results41, go_sem, Nat.reduceMul, Nat.reduceLeDiff, Nat.reduceLT, reduceIte, reduceCtorEq, Nat.reduceEqDiff, Nat.reduceSub, Nat.reduceAdd]
  refine ⟨fun h => (decide_eq_false fun e => h (by rw [e])).symm, fun h => ?_⟩
  refine Here.loopV T_ok (fun k => k ≤ l.length ∧ ∀ j, j < k → l.getD j 0 = m.getD j 0) (fun k => l.length - k) (fun k => [(0, .rd (I l)), (1, .rd (I m)), (5, .v (.int .i64 k))]) (fun _ => []) 0 (by simp) (by simp only [Tryz.results41, go_sem, Nat.reduceMul, Nat.reduceLeDiff, Nat.reduceLT, reduceIte, reduceCtorEq, Nat.reduceEqDiff, Nat.reduceSub, Nat.reduceAdd]; rfl) trivial ?_
  rintro k ⟨hk, hj⟩
  simp only [Tryz.results41, go_sem, Nat.reduceMul, Nat.reduceLeDiff, Nat.reduceLT, reduceIte, reduceCtorEq, Nat.reduceEqDiff, Nat.reduceSub, Nat.reduceAdd]
  refine ⟨fun h2 => ?_, fun h2 => (decide_eq_true (getD_eq (d := 0) (by omega) fun j h => hj j (by omega))).symm⟩
  refine Here.draw T_ok mixed_ok (by kernel_rfl) ?_
  simp only [Tryz.results41, go_sem, Nat.reduceMul, Nat.reduceLeDiff, Nat.reduceLT, reduceIte, reduceCtorEq, Nat.reduceEqDiff, Nat.reduceSub, Nat.reduceAdd]
  refine ⟨by omega, by omega, fun h3 => (decide_eq_false fun e => h3 (by rw [e])).symm, fun h3 => ⟨by unfold InR; omega, k + 1, ⟨by omega, fun j h => ?_⟩, by omega, rfl⟩⟩
  by_cases e : j = k
  · subst e; exact h3
  · exact hj j (by omega)
theorem module9_spec (m : Int) (l : List Int) (m' : Int) (l' : List Int) (hl : l.length ≤ 1048576) : Spec Tryz.prog 17 [.agg [.v (.int .i64 m), .rd (I l)], .agg [.v (.int .i64 m'), .rd (I l')]] (.v (.bool (decide (m = m' ∧ l = l')))) [] := by
  refine Spec.of_code T_ok Tryz.func17 rfl Tryz.ntmps17 Tryz.call17 (Nat.le_of_ble_eq_true rfl) rfl rfl (CodeV_sound T_ok (by kernel_rfl) rfl ?_)
  simp only [Tryz.results17, go_sem, Nat.reduceMul, Nat.reduceLeDiff, Nat.reduceLT, reduceIte, reduceCtorEq, Nat.reduceEqDiff, Nat.reduceSub, Nat.reduceAdd]
  refine ⟨fun h => ?_, fun h => ?_⟩
  · refine HereO.call T_ok rfl rfl (likeInts_spec l l' hl) (by simp only [go_sem, Nat.reduceMul, Nat.reduceLeDiff, Nat.reduceLT, reduceIte, reduceCtorEq, Nat.reduceEqDiff, Nat.reduceSub, Nat.reduceAdd, List.toList_toArray] <;> first | rfl | exact ⟨rfl, rfl⟩) rfl ?_
    simp only [Tryz.results17, go_sem, Nat.reduceMul, Nat.reduceLeDiff, Nat.reduceLT, reduceIte, reduceCtorEq, Nat.reduceEqDiff, Nat.reduceSub, Nat.reduceAdd]
    exact decide_eq_decide.2 ⟨fun q => ⟨h, q⟩, fun q => q.2⟩
  · exact (decide_eq_false fun q => h q.1).symm
end Go.Proofs.YtcjhojdlfnpgjaaGreatDoor
