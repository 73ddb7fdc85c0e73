/- FnModules: the walk of the law. -/
import Derived.Test.YtcjhojdlfnpgjaaGreatDoorOh
import Derived.Test.YtcjhojdlfnpgjaaGreatDoorDi
namespace Go.Proofs.YtcjhojdlfnpgjaaGreatDoor
open Go.RowKit
set_option linter.unusedVariables false
set_option linter.unusedSimpArgs false
set_option maxRecDepth 100000

set_option maxHeartbeats 16000000 in
theorem lawModules (bs : List Int) (hl : (bs.length : Int) ≤ 9223372036854775807) (hb : ∀ j, j < bs.length → 0 ≤ bs.getD j 0 ∧ bs.getD j 0 ≤ 255) : Spec Tryz.prog 3 [.rd (BY bs)] (.v (.bool true)) [] := by
  refine Spec.of_code T_ok Tryz.func3 rfl Tryz.ntmps3 Tryz.call3 (Nat.le_of_ble_eq_true rfl) rfl rfl (CodeV_sound T_ok (by kernel_rfl) rfl ?_)
  simp only [Tryz.results3, go_sem, Nat.reduceMul, Nat.reduceLeDiff, Nat.reduceLT, reduceIte, reduceCtorEq, Nat.reduceEqDiff, Nat.reduceSub, Nat.reduceAdd]
  refine HereO.call T_ok rfl rfl (big_spec bs hl) (by simp only [go_sem, Nat.reduceMul, Nat.reduceLeDiff, Nat.reduceLT, reduceIte, reduceCtorEq, Nat.reduceEqDiff, Nat.reduceSub, Nat.reduceAdd, List.toList_toArray] <;> first | rfl | exact ⟨rfl, rfl⟩) rfl ?_
  simp only [Tryz.results3, go_sem, Nat.reduceMul, Nat.reduceLeDiff, Nat.reduceLT, reduceIte, reduceCtorEq, Nat.reduceEqDiff, Nat.reduceSub, Nat.reduceAdd]
  refine ⟨fun _ => trivial, fun h => ?_⟩
  have hB : Bytes bs := ⟨by omega, hb⟩
  refine HereO.callF T_ok rfl rfl (DrawModulesOf_spec bs hB) (by simp only [go_sem, Nat.reduceMul, Nat.reduceLeDiff, Nat.reduceLT, reduceIte, reduceCtorEq, Nat.reduceEqDiff, Nat.reduceSub, Nat.reduceAdd, List.toList_toArray] <;> first | rfl | exact ⟨rfl, rfl⟩) ?_
  rintro ⟨g, m⟩ hm9
  dsimp only [gnR] at hm9 ⊢
  simp only [Tryz.results3, go_sem, Nat.reduceMul, Nat.reduceLeDiff, Nat.reduceLT, reduceIte, reduceCtorEq, Nat.reduceEqDiff, Nat.reduceSub, Nat.reduceAdd]
  refine HereO.alloc T_ok 103 rfl rfl (by decide) ?_
  simp only [Tryz.results3, go_sem, Nat.reduceMul, Nat.reduceLeDiff, Nat.reduceLT, reduceIte, reduceCtorEq, Nat.reduceEqDiff, Nat.reduceSub, Nat.reduceAdd]
  refine HereO.storeAgg T_ok rfl (by simp only [go_sem, Nat.reduceMul, Nat.reduceLeDiff, Nat.reduceLT, reduceIte, reduceCtorEq, Nat.reduceEqDiff, Nat.reduceSub, Nat.reduceAdd] <;> rfl) (by simp only [go_sem, Nat.reduceMul, Nat.reduceLeDiff, Nat.reduceLT, reduceIte, reduceCtorEq, Nat.reduceEqDiff, Nat.reduceSub, Nat.reduceAdd] <;> rfl) rfl (by simp only [go_sem, Nat.reduceMul, Nat.reduceLeDiff, Nat.reduceLT, reduceIte, reduceCtorEq, Nat.reduceEqDiff, Nat.reduceSub, Nat.reduceAdd] <;> rfl) (by first | rfl | (simp only [go_sem, Nat.reduceMul, Nat.reduceLeDiff, Nat.reduceLT, reduceIte, reduceCtorEq, Nat.reduceEqDiff, Nat.reduceSub, Nat.reduceAdd] <;> rfl)) rfl rfl ?_
  simp only [Tryz.results3, go_sem, Nat.reduceMul, Nat.reduceLeDiff, Nat.reduceLT, reduceIte, reduceCtorEq, Nat.reduceEqDiff, Nat.reduceSub, Nat.reduceAdd]
  obtain ⟨ok1, ok2, ok3⟩ := modsR_ok g m
  refine HereO.call T_ok rfl rfl (implModulesOf g m) (by simp only [go_sem, Nat.reduceMul, Nat.reduceLeDiff, Nat.reduceLT, reduceIte, reduceCtorEq, Nat.reduceEqDiff, Nat.reduceSub, Nat.reduceAdd, List.toList_toArray] <;> first | rfl | exact ⟨rfl, rfl⟩) rfl ?_
  simp only [Tryz.results3, go_sem, Nat.reduceMul, Nat.reduceLeDiff, Nat.reduceLT, reduceIte, reduceCtorEq, Nat.reduceEqDiff, Nat.reduceSub, Nat.reduceAdd]
  refine HereO.call T_ok rfl rfl (specModulesOf g m) (by simp only [go_sem, Nat.reduceMul, Nat.reduceLeDiff, Nat.reduceLT, reduceIte, reduceCtorEq, Nat.reduceEqDiff, Nat.reduceSub, Nat.reduceAdd, List.toList_toArray] <;> first | rfl | exact ⟨rfl, rfl⟩) rfl ?_
  simp only [Tryz.results3, go_sem, Nat.reduceMul, Nat.reduceLeDiff, Nat.reduceLT, reduceIte, reduceCtorEq, Nat.reduceEqDiff, Nat.reduceSub, Nat.reduceAdd]
  refine HereO.cutS (ε := Unit) (fun _ => True) (fun _ => [(0, .rd (BY bs)), (3, .ptr 103 0), (4, .v (.int .i64 m)), (5, .rdA 2 (flat (lvq (mq (modsR g m))))), (6, .v (.int .i64 (codeMs g m))), (74, .v (.bool false))])
    (fun _ => [(103, .cells 26 [.rds (II g)])]) ?_ ?_
  · refine HereO.call T_ok rfl rfl (modules9_spec (modsR g m) ok1 ok2) (by simp only [go_sem, Nat.reduceMul, Nat.reduceLeDiff, Nat.reduceLT, reduceIte, reduceCtorEq, Nat.reduceEqDiff, Nat.reduceSub, Nat.reduceAdd, List.toList_toArray] <;> first | rfl | exact ⟨rfl, rfl⟩) rfl ?_
    simp only [Tryz.results3, go_sem, Nat.reduceMul, Nat.reduceLeDiff, Nat.reduceLT, reduceIte, reduceCtorEq, Nat.reduceEqDiff, Nat.reduceSub, Nat.reduceAdd]
    exact ⟨(), trivial⟩
  intro _ _
  refine HereV.of T_ok ?_
  simp only [Tryz.results3, go_sem, Nat.reduceMul, Nat.reduceLeDiff, Nat.reduceLT, reduceIte, reduceCtorEq, Nat.reduceEqDiff, Nat.reduceSub, Nat.reduceAdd]
  refine HereO.callF T_ok rfl rfl (DrawLeadNumber_spec bs hB) (by simp only [go_sem, Nat.reduceMul, Nat.reduceLeDiff, Nat.reduceLT, reduceIte, reduceCtorEq, Nat.reduceEqDiff, Nat.reduceSub, Nat.reduceAdd, List.toList_toArray] <;> first | rfl | exact ⟨rfl, rfl⟩) ?_
  rintro ⟨h', m', l, e, x⟩ ⟨hl9, hmI, heI, hxI⟩
  dsimp only [gmnnR] at hl9 hmI heI hxI ⊢
  simp only [Tryz.results3, go_sem, Nat.reduceMul, Nat.reduceLeDiff, Nat.reduceLT, reduceIte, reduceCtorEq, Nat.reduceEqDiff, Nat.reduceSub, Nat.reduceAdd]
  refine HereO.alloc T_ok 109 rfl rfl (by decide) ?_
  simp only [Tryz.results3, go_sem, Nat.reduceMul, Nat.reduceLeDiff, Nat.reduceLT, reduceIte, reduceCtorEq, Nat.reduceEqDiff, Nat.reduceSub, Nat.reduceAdd]
  refine HereO.alloc T_ok 110 rfl rfl (by decide) ?_
  simp only [Tryz.results3, go_sem, Nat.reduceMul, Nat.reduceLeDiff, Nat.reduceLT, reduceIte, reduceCtorEq, Nat.reduceEqDiff, Nat.reduceSub, Nat.reduceAdd]
  refine HereO.storeAgg T_ok rfl (by simp only [go_sem, Nat.reduceMul, Nat.reduceLeDiff, Nat.reduceLT, reduceIte, reduceCtorEq, Nat.reduceEqDiff, Nat.reduceSub, Nat.reduceAdd] <;> rfl) (by simp only [go_sem, Nat.reduceMul, Nat.reduceLeDiff, Nat.reduceLT, reduceIte, reduceCtorEq, Nat.reduceEqDiff, Nat.reduceSub, Nat.reduceAdd] <;> rfl) rfl (by simp only [go_sem, Nat.reduceMul, Nat.reduceLeDiff, Nat.reduceLT, reduceIte, reduceCtorEq, Nat.reduceEqDiff, Nat.reduceSub, Nat.reduceAdd] <;> rfl) (by first | rfl | (simp only [go_sem, Nat.reduceMul, Nat.reduceLeDiff, Nat.reduceLT, reduceIte, reduceCtorEq, Nat.reduceEqDiff, Nat.reduceSub, Nat.reduceAdd] <;> rfl)) rfl rfl ?_
  simp only [Tryz.results3, go_sem, Nat.reduceMul, Nat.reduceLeDiff, Nat.reduceLT, reduceIte, reduceCtorEq, Nat.reduceEqDiff, Nat.reduceSub, Nat.reduceAdd]
  refine HereO.storeAgg T_ok rfl (by simp only [go_sem, Nat.reduceMul, Nat.reduceLeDiff, Nat.reduceLT, reduceIte, reduceCtorEq, Nat.reduceEqDiff, Nat.reduceSub, Nat.reduceAdd] <;> rfl) (by simp only [go_sem, Nat.reduceMul, Nat.reduceLeDiff, Nat.reduceLT, reduceIte, reduceCtorEq, Nat.reduceEqDiff, Nat.reduceSub, Nat.reduceAdd] <;> rfl) rfl (by simp only [go_sem, Nat.reduceMul, Nat.reduceLeDiff, Nat.reduceLT, reduceIte, reduceCtorEq, Nat.reduceEqDiff, Nat.reduceSub, Nat.reduceAdd] <;> rfl) (by first | rfl | (simp only [go_sem, Nat.reduceMul, Nat.reduceLeDiff, Nat.reduceLT, reduceIte, reduceCtorEq, Nat.reduceEqDiff, Nat.reduceSub, Nat.reduceAdd] <;> rfl)) rfl rfl ?_
  simp only [Tryz.results3, go_sem, Nat.reduceMul, Nat.reduceLeDiff, Nat.reduceLT, reduceIte, reduceCtorEq, Nat.reduceEqDiff, Nat.reduceSub, Nat.reduceAdd]
  refine HereO.call T_ok rfl rfl (implLeadNumber h' m' l e x) (by simp only [go_sem, Nat.reduceMul, Nat.reduceLeDiff, Nat.reduceLT, reduceIte, reduceCtorEq, Nat.reduceEqDiff, Nat.reduceSub, Nat.reduceAdd, List.toList_toArray] <;> first | rfl | exact ⟨rfl, rfl⟩) rfl ?_
  simp only [Tryz.results3, go_sem, Nat.reduceMul, Nat.reduceLeDiff, Nat.reduceLT, reduceIte, reduceCtorEq, Nat.reduceEqDiff, Nat.reduceSub, Nat.reduceAdd]
  refine HereO.call T_ok rfl rfl (specLeadNumber h' m' l e x) (by simp only [go_sem, Nat.reduceMul, Nat.reduceLeDiff, Nat.reduceLT, reduceIte, reduceCtorEq, Nat.reduceEqDiff, Nat.reduceSub, Nat.reduceAdd, List.toList_toArray] <;> first | rfl | exact ⟨rfl, rfl⟩) rfl ?_
  simp only [Tryz.results3, go_sem, Nat.reduceMul, Nat.reduceLeDiff, Nat.reduceLT, reduceIte, reduceCtorEq, Nat.reduceEqDiff, Nat.reduceSub, Nat.reduceAdd]
  refine HereO.call T_ok rfl rfl (implIsModule h' m' l) (by simp only [go_sem, Nat.reduceMul, Nat.reduceLeDiff, Nat.reduceLT, reduceIte, reduceCtorEq, Nat.reduceEqDiff, Nat.reduceSub, Nat.reduceAdd, List.toList_toArray] <;> first | rfl | exact ⟨rfl, rfl⟩) rfl ?_
  simp only [Tryz.results3, go_sem, Nat.reduceMul, Nat.reduceLeDiff, Nat.reduceLT, reduceIte, reduceCtorEq, Nat.reduceEqDiff, Nat.reduceSub, Nat.reduceAdd]
  refine HereO.call T_ok rfl rfl (specIsModule h' m' l) (by simp only [go_sem, Nat.reduceMul, Nat.reduceLeDiff, Nat.reduceLT, reduceIte, reduceCtorEq, Nat.reduceEqDiff, Nat.reduceSub, Nat.reduceAdd, List.toList_toArray] <;> first | rfl | exact ⟨rfl, rfl⟩) rfl ?_
  simp only [Tryz.results3, go_sem, Nat.reduceMul, Nat.reduceLeDiff, Nat.reduceLT, reduceIte, reduceCtorEq, Nat.reduceEqDiff, Nat.reduceSub, Nat.reduceAdd]
  refine HereO.callF T_ok rfl rfl (DrawTrivialModule_spec bs hB) (by simp only [go_sem, Nat.reduceMul, Nat.reduceLeDiff, Nat.reduceLT, reduceIte, reduceCtorEq, Nat.reduceEqDiff, Nat.reduceSub, Nat.reduceAdd, List.toList_toArray] <;> first | rfl | exact ⟨rfl, rfl⟩) ?_
  rintro ⟨k, o⟩ ho
  dsimp only [gnR] at ho ⊢
  simp only [Tryz.results3, go_sem, Nat.reduceMul, Nat.reduceLeDiff, Nat.reduceLT, reduceIte, reduceCtorEq, Nat.reduceEqDiff, Nat.reduceSub, Nat.reduceAdd]
  refine HereO.alloc T_ok 121 rfl rfl (by decide) ?_
  simp only [Tryz.results3, go_sem, Nat.reduceMul, Nat.reduceLeDiff, Nat.reduceLT, reduceIte, reduceCtorEq, Nat.reduceEqDiff, Nat.reduceSub, Nat.reduceAdd]
  refine HereO.storeAgg T_ok rfl (by simp only [go_sem, Nat.reduceMul, Nat.reduceLeDiff, Nat.reduceLT, reduceIte, reduceCtorEq, Nat.reduceEqDiff, Nat.reduceSub, Nat.reduceAdd] <;> rfl) (by simp only [go_sem, Nat.reduceMul, Nat.reduceLeDiff, Nat.reduceLT, reduceIte, reduceCtorEq, Nat.reduceEqDiff, Nat.reduceSub, Nat.reduceAdd] <;> rfl) rfl (by simp only [go_sem, Nat.reduceMul, Nat.reduceLeDiff, Nat.reduceLT, reduceIte, reduceCtorEq, Nat.reduceEqDiff, Nat.reduceSub, Nat.reduceAdd] <;> rfl) (by first | rfl | (simp only [go_sem, Nat.reduceMul, Nat.reduceLeDiff, Nat.reduceLT, reduceIte, reduceCtorEq, Nat.reduceEqDiff, Nat.reduceSub, Nat.reduceAdd] <;> rfl)) rfl rfl ?_
  simp only [Tryz.results3, go_sem, Nat.reduceMul, Nat.reduceLeDiff, Nat.reduceLT, reduceIte, reduceCtorEq, Nat.reduceEqDiff, Nat.reduceSub, Nat.reduceAdd]
  refine HereO.call T_ok rfl rfl (implTrivialModule k o) (by simp only [go_sem, Nat.reduceMul, Nat.reduceLeDiff, Nat.reduceLT, reduceIte, reduceCtorEq, Nat.reduceEqDiff, Nat.reduceSub, Nat.reduceAdd, List.toList_toArray] <;> first | rfl | exact ⟨rfl, rfl⟩) rfl ?_
  simp only [Tryz.results3, go_sem, Nat.reduceMul, Nat.reduceLeDiff, Nat.reduceLT, reduceIte, reduceCtorEq, Nat.reduceEqDiff, Nat.reduceSub, Nat.reduceAdd]
  refine HereO.alloc T_ok 123 rfl rfl (by decide) ?_
  simp only [Tryz.results3, go_sem, Nat.reduceMul, Nat.reduceLeDiff, Nat.reduceLT, reduceIte, reduceCtorEq, Nat.reduceEqDiff, Nat.reduceSub, Nat.reduceAdd]
  refine HereO.storeAgg T_ok rfl (by simp only [go_sem, Nat.reduceMul, Nat.reduceLeDiff, Nat.reduceLT, reduceIte, reduceCtorEq, Nat.reduceEqDiff, Nat.reduceSub, Nat.reduceAdd] <;> rfl) (by simp only [go_sem, Nat.reduceMul, Nat.reduceLeDiff, Nat.reduceLT, reduceIte, reduceCtorEq, Nat.reduceEqDiff, Nat.reduceSub, Nat.reduceAdd] <;> rfl) rfl (by simp only [go_sem, Nat.reduceMul, Nat.reduceLeDiff, Nat.reduceLT, reduceIte, reduceCtorEq, Nat.reduceEqDiff, Nat.reduceSub, Nat.reduceAdd] <;> rfl) (by first | rfl | (simp only [go_sem, Nat.reduceMul, Nat.reduceLeDiff, Nat.reduceLT, reduceIte, reduceCtorEq, Nat.reduceEqDiff, Nat.reduceSub, Nat.reduceAdd] <;> rfl)) rfl rfl ?_
  simp only [Tryz.results3, go_sem, Nat.reduceMul, Nat.reduceLeDiff, Nat.reduceLT, reduceIte, reduceCtorEq, Nat.reduceEqDiff, Nat.reduceSub, Nat.reduceAdd]
  refine HereO.call T_ok rfl rfl (specTrivialModule k o) (by simp only [go_sem, Nat.reduceMul, Nat.reduceLeDiff, Nat.reduceLT, reduceIte, reduceCtorEq, Nat.reduceEqDiff, Nat.reduceSub, Nat.reduceAdd, List.toList_toArray] <;> first | rfl | exact ⟨rfl, rfl⟩) rfl ?_
  simp only [Tryz.results3, go_sem, Nat.reduceMul, Nat.reduceLeDiff, Nat.reduceLT, reduceIte, reduceCtorEq, Nat.reduceEqDiff, Nat.reduceSub, Nat.reduceAdd]
  refine HereO.alloc T_ok 125 rfl rfl (by decide) ?_
  simp only [Tryz.results3, go_sem, Nat.reduceMul, Nat.reduceLeDiff, Nat.reduceLT, reduceIte, reduceCtorEq, Nat.reduceEqDiff, Nat.reduceSub, Nat.reduceAdd]
  refine HereO.storeAgg T_ok rfl (by simp only [go_sem, Nat.reduceMul, Nat.reduceLeDiff, Nat.reduceLT, reduceIte, reduceCtorEq, Nat.reduceEqDiff, Nat.reduceSub, Nat.reduceAdd] <;> rfl) (by simp only [go_sem, Nat.reduceMul, Nat.reduceLeDiff, Nat.reduceLT, reduceIte, reduceCtorEq, Nat.reduceEqDiff, Nat.reduceSub, Nat.reduceAdd] <;> rfl) rfl (by simp only [go_sem, Nat.reduceMul, Nat.reduceLeDiff, Nat.reduceLT, reduceIte, reduceCtorEq, Nat.reduceEqDiff, Nat.reduceSub, Nat.reduceAdd] <;> rfl) (by first | rfl | (simp only [go_sem, Nat.reduceMul, Nat.reduceLeDiff, Nat.reduceLT, reduceIte, reduceCtorEq, Nat.reduceEqDiff, Nat.reduceSub, Nat.reduceAdd] <;> rfl)) rfl rfl ?_
  simp only [Tryz.results3, go_sem, Nat.reduceMul, Nat.reduceLeDiff, Nat.reduceLT, reduceIte, reduceCtorEq, Nat.reduceEqDiff, Nat.reduceSub, Nat.reduceAdd]
  refine HereO.cutS (ε := Unit) (fun _ => True) (fun _ => [(0, .rd (BY bs)), (3, .ptr 103 0), (4, .v (.int .i64 m)), (5, .rdA 2 (flat (lvq (mq (modsR g m))))), (6, .v (.int .i64 (codeMs g m))), (9, .ptr 109 0), (10, .ptr 110 0), (11, .v (.int .i64 e)), (12, .v (.int .i64 x)), (13, .v (.int .i64 (leadV h' m' l e x))), (14, .v (.int .i64 (codeL h' m' l e x))), (151, .v (.bool false))])
    (fun _ => [(103, .cells 26 [.rds (II g)]), (109, .cells 26 [.rds (II h')]), (110, .cells 35 [.v (.int .i64 m'), .rd (I l)])]) ?_ ?_
  · refine HereO.call T_ok rfl rfl (module9_spec (trivM k o) (trivL k o) (trivM k o) (trivL k o) (trivL_ok k o)) (by simp only [go_sem, Nat.reduceMul, Nat.reduceLeDiff, Nat.reduceLT, reduceIte, reduceCtorEq, Nat.reduceEqDiff, Nat.reduceSub, Nat.reduceAdd, List.toList_toArray] <;> first | rfl | exact ⟨rfl, rfl⟩) rfl ?_
    simp only [Tryz.results3, go_sem, Nat.reduceMul, Nat.reduceLeDiff, Nat.reduceLT, reduceIte, reduceCtorEq, Nat.reduceEqDiff, Nat.reduceSub, Nat.reduceAdd]
    exact ⟨(), trivial⟩
  intro _ _
  refine HereV.of T_ok ?_
  simp only [Tryz.results3, go_sem, Nat.reduceMul, Nat.reduceLeDiff, Nat.reduceLT, reduceIte, reduceCtorEq, Nat.reduceEqDiff, Nat.reduceSub, Nat.reduceAdd]
  refine HereO.call T_ok rfl rfl (implModuleText h' m' l) (by simp only [go_sem, Nat.reduceMul, Nat.reduceLeDiff, Nat.reduceLT, reduceIte, reduceCtorEq, Nat.reduceEqDiff, Nat.reduceSub, Nat.reduceAdd, List.toList_toArray] <;> first | rfl | exact ⟨rfl, rfl⟩) rfl ?_
  simp only [Tryz.results3, go_sem, Nat.reduceMul, Nat.reduceLeDiff, Nat.reduceLT, reduceIte, reduceCtorEq, Nat.reduceEqDiff, Nat.reduceSub, Nat.reduceAdd]
  refine HereO.call T_ok rfl rfl (specModuleText h' m' l) (by simp only [go_sem, Nat.reduceMul, Nat.reduceLeDiff, Nat.reduceLT, reduceIte, reduceCtorEq, Nat.reduceEqDiff, Nat.reduceSub, Nat.reduceAdd, List.toList_toArray] <;> first | rfl | exact ⟨rfl, rfl⟩) rfl ?_
  simp only [Tryz.results3, go_sem, Nat.reduceMul, Nat.reduceLeDiff, Nat.reduceLT, reduceIte, reduceCtorEq, Nat.reduceEqDiff, Nat.reduceSub, Nat.reduceAdd]
  refine HereO.callF T_ok rfl rfl (DrawParseModule_spec bs hB) (by simp only [go_sem, Nat.reduceMul, Nat.reduceLeDiff, Nat.reduceLT, reduceIte, reduceCtorEq, Nat.reduceEqDiff, Nat.reduceSub, Nat.reduceAdd, List.toList_toArray] <;> first | rfl | exact ⟨rfl, rfl⟩) ?_
  rintro ⟨n, word⟩ hw
  dsimp only [gsR] at hw ⊢
  simp only [Tryz.results3, go_sem, Nat.reduceMul, Nat.reduceLeDiff, Nat.reduceLT, reduceIte, reduceCtorEq, Nat.reduceEqDiff, Nat.reduceSub, Nat.reduceAdd]
  refine HereO.alloc T_ok 131 rfl rfl (by decide) ?_
  simp only [Tryz.results3, go_sem, Nat.reduceMul, Nat.reduceLeDiff, Nat.reduceLT, reduceIte, reduceCtorEq, Nat.reduceEqDiff, Nat.reduceSub, Nat.reduceAdd]
  refine HereO.storeAgg T_ok rfl (by simp only [go_sem, Nat.reduceMul, Nat.reduceLeDiff, Nat.reduceLT, reduceIte, reduceCtorEq, Nat.reduceEqDiff, Nat.reduceSub, Nat.reduceAdd] <;> rfl) (by simp only [go_sem, Nat.reduceMul, Nat.reduceLeDiff, Nat.reduceLT, reduceIte, reduceCtorEq, Nat.reduceEqDiff, Nat.reduceSub, Nat.reduceAdd] <;> rfl) rfl (by simp only [go_sem, Nat.reduceMul, Nat.reduceLeDiff, Nat.reduceLT, reduceIte, reduceCtorEq, Nat.reduceEqDiff, Nat.reduceSub, Nat.reduceAdd] <;> rfl) (by first | rfl | (simp only [go_sem, Nat.reduceMul, Nat.reduceLeDiff, Nat.reduceLT, reduceIte, reduceCtorEq, Nat.reduceEqDiff, Nat.reduceSub, Nat.reduceAdd] <;> rfl)) rfl rfl ?_
  simp only [Tryz.results3, go_sem, Nat.reduceMul, Nat.reduceLeDiff, Nat.reduceLT, reduceIte, reduceCtorEq, Nat.reduceEqDiff, Nat.reduceSub, Nat.reduceAdd]
  refine HereO.call T_ok rfl rfl (implParseModule n word hw) (by simp only [go_sem, Nat.reduceMul, Nat.reduceLeDiff, Nat.reduceLT, reduceIte, reduceCtorEq, Nat.reduceEqDiff, Nat.reduceSub, Nat.reduceAdd, List.toList_toArray] <;> first | rfl | exact ⟨rfl, rfl⟩) rfl ?_
  simp only [Tryz.results3, go_sem, Nat.reduceMul, Nat.reduceLeDiff, Nat.reduceLT, reduceIte, reduceCtorEq, Nat.reduceEqDiff, Nat.reduceSub, Nat.reduceAdd]
  refine HereO.alloc T_ok 133 rfl rfl (by decide) ?_
  simp only [Tryz.results3, go_sem, Nat.reduceMul, Nat.reduceLeDiff, Nat.reduceLT, reduceIte, reduceCtorEq, Nat.reduceEqDiff, Nat.reduceSub, Nat.reduceAdd]
  refine HereO.storeAgg T_ok rfl (by simp only [go_sem, Nat.reduceMul, Nat.reduceLeDiff, Nat.reduceLT, reduceIte, reduceCtorEq, Nat.reduceEqDiff, Nat.reduceSub, Nat.reduceAdd] <;> rfl) (by simp only [go_sem, Nat.reduceMul, Nat.reduceLeDiff, Nat.reduceLT, reduceIte, reduceCtorEq, Nat.reduceEqDiff, Nat.reduceSub, Nat.reduceAdd] <;> rfl) rfl (by simp only [go_sem, Nat.reduceMul, Nat.reduceLeDiff, Nat.reduceLT, reduceIte, reduceCtorEq, Nat.reduceEqDiff, Nat.reduceSub, Nat.reduceAdd] <;> rfl) (by first | rfl | (simp only [go_sem, Nat.reduceMul, Nat.reduceLeDiff, Nat.reduceLT, reduceIte, reduceCtorEq, Nat.reduceEqDiff, Nat.reduceSub, Nat.reduceAdd] <;> rfl)) rfl rfl ?_
  simp only [Tryz.results3, go_sem, Nat.reduceMul, Nat.reduceLeDiff, Nat.reduceLT, reduceIte, reduceCtorEq, Nat.reduceEqDiff, Nat.reduceSub, Nat.reduceAdd]
  refine HereO.call T_ok rfl rfl (specParseModule n word hw) (by simp only [go_sem, Nat.reduceMul, Nat.reduceLeDiff, Nat.reduceLT, reduceIte, reduceCtorEq, Nat.reduceEqDiff, Nat.reduceSub, Nat.reduceAdd, List.toList_toArray] <;> first | rfl | exact ⟨rfl, rfl⟩) rfl ?_
  simp only [Tryz.results3, go_sem, Nat.reduceMul, Nat.reduceLeDiff, Nat.reduceLT, reduceIte, reduceCtorEq, Nat.reduceEqDiff, Nat.reduceSub, Nat.reduceAdd]
  refine HereO.alloc T_ok 135 rfl rfl (by decide) ?_
  simp only [Tryz.results3, go_sem, Nat.reduceMul, Nat.reduceLeDiff, Nat.reduceLT, reduceIte, reduceCtorEq, Nat.reduceEqDiff, Nat.reduceSub, Nat.reduceAdd]
  refine HereO.storeAgg T_ok rfl (by simp only [go_sem, Nat.reduceMul, Nat.reduceLeDiff, Nat.reduceLT, reduceIte, reduceCtorEq, Nat.reduceEqDiff, Nat.reduceSub, Nat.reduceAdd] <;> rfl) (by simp only [go_sem, Nat.reduceMul, Nat.reduceLeDiff, Nat.reduceLT, reduceIte, reduceCtorEq, Nat.reduceEqDiff, Nat.reduceSub, Nat.reduceAdd] <;> rfl) rfl (by simp only [go_sem, Nat.reduceMul, Nat.reduceLeDiff, Nat.reduceLT, reduceIte, reduceCtorEq, Nat.reduceEqDiff, Nat.reduceSub, Nat.reduceAdd] <;> rfl) (by first | rfl | (simp only [go_sem, Nat.reduceMul, Nat.reduceLeDiff, Nat.reduceLT, reduceIte, reduceCtorEq, Nat.reduceEqDiff, Nat.reduceSub, Nat.reduceAdd] <;> rfl)) rfl rfl ?_
  simp only [Tryz.results3, go_sem, Nat.reduceMul, Nat.reduceLeDiff, Nat.reduceLT, reduceIte, reduceCtorEq, Nat.reduceEqDiff, Nat.reduceSub, Nat.reduceAdd]
  refine HereO.cutS (ε := Unit) (fun _ => True) (fun _ => [(3, .ptr 103 0), (4, .v (.int .i64 m)), (5, .rdA 2 (flat (lvq (mq (modsR g m))))), (6, .v (.int .i64 (codeMs g m))), (9, .ptr 109 0), (10, .ptr 110 0), (11, .v (.int .i64 e)), (12, .v (.int .i64 x)), (13, .v (.int .i64 (leadV h' m' l e x))), (14, .v (.int .i64 (codeL h' m' l e x))), (27, .v (.string (mtR h' m' l))), (28, .v (.int .i64 (codeM h' [(m', l)]))), (197, .v (.bool false))])
    (fun _ => [(103, .cells 26 [.rds (II g)]), (109, .cells 26 [.rds (II h')]), (110, .cells 35 [.v (.int .i64 m'), .rd (I l)])]) ?_ ?_
  · refine HereO.call T_ok rfl rfl (module9_spec (pmM n word) (pmU n word) (pmM n word) (pmU n word) (pmU_ok n word hw)) (by simp only [go_sem, Nat.reduceMul, Nat.reduceLeDiff, Nat.reduceLT, reduceIte, reduceCtorEq, Nat.reduceEqDiff, Nat.reduceSub, Nat.reduceAdd, List.toList_toArray] <;> first | rfl | exact ⟨rfl, rfl⟩) rfl ?_
    simp only [Tryz.results3, go_sem, Nat.reduceMul, Nat.reduceLeDiff, Nat.reduceLT, reduceIte, reduceCtorEq, Nat.reduceEqDiff, Nat.reduceSub, Nat.reduceAdd]
    exact ⟨(), trivial⟩
  intro _ _
  refine HereV.cutK (ε := Unit) (fun _ => True) (fun _ => [(3, .ptr 103 0), (4, .v (.int .i64 m)), (5, .rdA 2 (flat (lvq (mq (modsR g m))))), (6, .v (.int .i64 (codeMs g m))), (9, .ptr 109 0), (10, .ptr 110 0), (11, .v (.int .i64 e)), (12, .v (.int .i64 x)), (13, .v (.int .i64 (leadV h' m' l e x))), (14, .v (.int .i64 (codeL h' m' l e x))), (27, .v (.string (mtR h' m' l))), (28, .v (.int .i64 (codeM h' [(m', l)])))]) (fun _ => [(103, .cells 26 [.rds (II g)]), (109, .cells 26 [.rds (II h')]), (110, .cells 35 [.v (.int .i64 m'), .rd (I l)])]) (HereV.of T_ok ?_) ?_
  · simp only [Tryz.results3, go_sem, Nat.reduceMul, Nat.reduceLeDiff, Nat.reduceLT, reduceIte, reduceCtorEq, Nat.reduceEqDiff, Nat.reduceSub, Nat.reduceAdd]
    exact ⟨(), trivial⟩
  intro _ _
  refine HereV.cutSeq (ε := Unit) (fun _ => True) (fun _ => [(3, .ptr 103 0), (4, .v (.int .i64 m)), (5, .rdA 2 (flat (lvq (mq (modsR g m))))), (6, .v (.int .i64 (codeMs g m))), (9, .ptr 109 0), (10, .ptr 110 0), (11, .v (.int .i64 e)), (12, .v (.int .i64 x)), (13, .v (.int .i64 (leadV h' m' l e x))), (14, .v (.int .i64 (codeL h' m' l e x)))]) (fun _ => [(103, .cells 26 [.rds (II g)]), (109, .cells 26 [.rds (II h')]), (110, .cells 35 [.v (.int .i64 m'), .rd (I l)])]) (HereV.of T_ok ?_) ?_
  · simp only [Tryz.results3, go_sem, Nat.reduceMul, Nat.reduceLeDiff, Nat.reduceLT, reduceIte, reduceCtorEq, Nat.reduceEqDiff, Nat.reduceSub, Nat.reduceAdd]
    refine ⟨fun hc => ?_, fun hc => ?_⟩
    · obtain ⟨hg, hm⟩ := codeM1_ok hc
      have hm12 := hm.1
      obtain ⟨r1, r2, r3⟩ := pm_round hg hm
      have emt : mtR h' m' l = strB (txtM m' l) := if_pos hc
      have hsz : (strB (txtM m' l)).size ≤ 1048576 := by
        have hj := decs_join l fun x hx => by have := hm.unit_mem x hx; omega
        have hk := itoa_len m' (by omega)
        rw [strB_size]
        unfold txtM
        unfold decs at hj
        simp only [List.length_append, List.length_cons, List.length_nil]
        omega
      have hpr := implParseModule h' (strB (txtM m' l)) hsz
      have q1 : Grp h' ∧ pmOk h' (strB (txtM m' l)).data.toList := by rw [strB_of]; exact ⟨hg, r1⟩
      have e1 : pmM h' (strB (txtM m' l)) = m' := by unfold pmM; rw [if_pos q1, strB_of, r2]
      have e2 : pmU h' (strB (txtM m' l)) = l := by unfold pmU; rw [if_pos q1, strB_of, r3]
      have e3 : pmC h' (strB (txtM m' l)) = 0 := by unfold pmC; rw [if_pos hg, if_pos q1.2]
      rw [e1, e2, e3] at hpr
      rw [emt]
      refine HereO.call T_ok rfl rfl (hpr) (by simp only [go_sem, Nat.reduceMul, Nat.reduceLeDiff, Nat.reduceLT, reduceIte, reduceCtorEq, Nat.reduceEqDiff, Nat.reduceSub, Nat.reduceAdd, List.toList_toArray] <;> first | rfl | exact ⟨rfl, rfl⟩) rfl ?_
      simp only [Tryz.results3, go_sem, Nat.reduceMul, Nat.reduceLeDiff, Nat.reduceLT, reduceIte, reduceCtorEq, Nat.reduceEqDiff, Nat.reduceSub, Nat.reduceAdd]
      refine HereO.alloc T_ok 137 rfl rfl (by decide) ?_
      simp only [Tryz.results3, go_sem, Nat.reduceMul, Nat.reduceLeDiff, Nat.reduceLT, reduceIte, reduceCtorEq, Nat.reduceEqDiff, Nat.reduceSub, Nat.reduceAdd]
      refine HereO.storeAgg T_ok rfl (by simp only [go_sem, Nat.reduceMul, Nat.reduceLeDiff, Nat.reduceLT, reduceIte, reduceCtorEq, Nat.reduceEqDiff, Nat.reduceSub, Nat.reduceAdd] <;> rfl) (by simp only [go_sem, Nat.reduceMul, Nat.reduceLeDiff, Nat.reduceLT, reduceIte, reduceCtorEq, Nat.reduceEqDiff, Nat.reduceSub, Nat.reduceAdd] <;> rfl) rfl (by simp only [go_sem, Nat.reduceMul, Nat.reduceLeDiff, Nat.reduceLT, reduceIte, reduceCtorEq, Nat.reduceEqDiff, Nat.reduceSub, Nat.reduceAdd] <;> rfl) (by first | rfl | (simp only [go_sem, Nat.reduceMul, Nat.reduceLeDiff, Nat.reduceLT, reduceIte, reduceCtorEq, Nat.reduceEqDiff, Nat.reduceSub, Nat.reduceAdd] <;> rfl)) rfl rfl ?_
      simp only [Tryz.results3, go_sem, Nat.reduceMul, Nat.reduceLeDiff, Nat.reduceLT, reduceIte, reduceCtorEq, Nat.reduceEqDiff, Nat.reduceSub, Nat.reduceAdd]
      refine HereO.call T_ok rfl rfl (module9_spec m' l m' l (by omega)) (by simp only [go_sem, Nat.reduceMul, Nat.reduceLeDiff, Nat.reduceLT, reduceIte, reduceCtorEq, Nat.reduceEqDiff, Nat.reduceSub, Nat.reduceAdd, List.toList_toArray] <;> first | rfl | exact ⟨rfl, rfl⟩) rfl ?_
      simp only [Tryz.results3, go_sem, Nat.reduceMul, Nat.reduceLeDiff, Nat.reduceLT, reduceIte, reduceCtorEq, Nat.reduceEqDiff, Nat.reduceSub, Nat.reduceAdd]
      exact ⟨(), trivial⟩
    · exact ⟨(), trivial⟩
  intro _ _
  refine HereV.cutSeq (ε := Unit) (fun _ => True) (fun _ => [(3, .ptr 103 0), (4, .v (.int .i64 m)), (5, .rdA 2 (flat (lvq (mq (modsR g m))))), (6, .v (.int .i64 (codeMs g m)))]) (fun _ => [(103, .cells 26 [.rds (II g)])]) (HereV.of T_ok ?_) ?_
  · simp only [Tryz.results3, go_sem, Nat.reduceMul, Nat.reduceLeDiff, Nat.reduceLT, reduceIte, reduceCtorEq, Nat.reduceEqDiff, Nat.reduceSub, Nat.reduceAdd]
    refine ⟨fun hc => ?_, fun hc => ?_⟩
    · obtain ⟨hg, hm, he, hx⟩ := codeL_ok hc
      have h8 := hg.2.1
      obtain ⟨a, rfl⟩ := Int.eq_ofNat_of_zero_le he.1
      have lead := lead_lead hc
      rw [Int.toNat_natCast] at lead
      refine Here.loopV T_ok (κ := Nat) (fun y => y ≤ h'.length) (fun y => h'.length - y) (fun y => [(3, .ptr 103 0), (4, .v (.int .i64 m)), (5, .rdA 2 (flat (lvq (mq (modsR g m))))), (6, .v (.int .i64 (codeMs g m))), (9, .ptr 109 0), (10, .ptr 110 0), (11, .v (.int .i64 a)), (12, .v (.int .i64 x)), (13, .v (.int .i64 (leadV h' m' l a x))), (39, .v (.int .i64 y))]) (fun _ => [(103, .cells 26 [.rds (II g)]), (109, .cells 26 [.rds (II h')]), (110, .cells 35 [.v (.int .i64 m'), .rd (I l)])]) 0 (by simp) (by simp only [Tryz.results3, go_sem, Nat.reduceMul, Nat.reduceLeDiff, Nat.reduceLT, reduceIte, reduceCtorEq, Nat.reduceEqDiff, Nat.reduceSub, Nat.reduceAdd]; simp) (by simp only [Tryz.results3, go_sem, Nat.reduceMul, Nat.reduceLeDiff, Nat.reduceLT, reduceIte, reduceCtorEq, Nat.reduceEqDiff, Nat.reduceSub, Nat.reduceAdd]) ?_
      intro y hy
      simp only [Tryz.results3, go_sem, Nat.reduceMul, Nat.reduceLeDiff, Nat.reduceLT, reduceIte, reduceCtorEq, Nat.reduceEqDiff, Nat.reduceSub, Nat.reduceAdd]
      refine ⟨fun h2 => ?_, fun h2 => ⟨(), trivial⟩⟩
      obtain ⟨c1, c2, c3⟩ := lead y (by omega)
      simp only [ee] at c2 c3
      have hrow := (hg.2.2.1 y (by omega)).1
      have s1 := implLeadNumber h' m' l y (leadV h' m' l a x)
      rw [c1, c3] at s1
      refine HereO.call T_ok rfl rfl (s1) (by simp only [go_sem, Nat.reduceMul, Nat.reduceLeDiff, Nat.reduceLT, reduceIte, reduceCtorEq, Nat.reduceEqDiff, Nat.reduceSub, Nat.reduceAdd, List.toList_toArray] <;> first | rfl | exact ⟨rfl, rfl⟩) rfl ?_
      simp only [Tryz.results3, go_sem, Nat.reduceMul, Nat.reduceLeDiff, Nat.reduceLT, reduceIte, reduceCtorEq, Nat.reduceEqDiff, Nat.reduceSub, Nat.reduceAdd]
      refine Here.draw T_ok mixed_ok (by kernel_rfl) ?_
      simp only [Tryz.results3, go_sem, Nat.reduceMul, Nat.reduceLeDiff, Nat.reduceLT, reduceIte, reduceCtorEq, Nat.reduceEqDiff, Nat.reduceSub, Nat.reduceAdd]
      have s2 := implLeadNumber h' m' l ((h'.getD y []).getD a 0) x
      rw [c2] at s2
      refine ⟨⟨by omega, by omega⟩, ⟨by omega, by omega⟩, ?_⟩
      refine ⟨_, OpP.call' rfl rfl (s2) (by simp only [go_sem, Nat.reduceMul, Nat.reduceLeDiff, Nat.reduceLT, reduceIte, reduceCtorEq, Nat.reduceEqDiff, Nat.reduceSub, Nat.reduceAdd, List.toList_toArray] <;> first | rfl | exact ⟨rfl, rfl⟩) rfl, ?_⟩
      simp only [Tryz.results3, go_sem, Nat.reduceMul, Nat.reduceLeDiff, Nat.reduceLT, reduceIte, reduceCtorEq, Nat.reduceEqDiff, Nat.reduceSub, Nat.reduceAdd]
      exact ⟨by unfold InR; omega, y + 1, by omega, by omega, by push_cast; rfl⟩
    · exact ⟨(), trivial⟩
  intro _ _
  refine HereV.of T_ok ?_
  simp only [Tryz.results3, go_sem, Nat.reduceMul, Nat.reduceLeDiff, Nat.reduceLT, reduceIte, reduceCtorEq, Nat.reduceEqDiff, Nat.reduceSub, Nat.reduceAdd]
  refine ⟨fun hc => ?_, fun hc => ?_⟩
  · refine HereO.opP T_ok (OpP.lenA sl2_mods rfl rfl) ?_
    simp only [Tryz.results3, go_sem, Nat.reduceMul, Nat.reduceLeDiff, Nat.reduceLT, reduceIte, reduceCtorEq, Nat.reduceEqDiff, Nat.reduceSub, Nat.reduceAdd]
    rw [lvq_mq_len, modsR_zero hc]
    rfl
  · obtain ⟨hg, hpos⟩ := modsR_pos hc
    refine Here.loopV T_ok (κ := Nat) (fun i => i ≤ (modsR g m).length) (fun i => (modsR g m).length - i) (fun i => [(3, .ptr 103 0), (4, .v (.int .i64 m)), (5, .rdA 2 (flat (lvq (mq (modsR g m))))), (44, .v (.int .i64 i))]) (fun _ => [(103, .cells 26 [.rds (II g)])]) 0 (by simp) (by simp only [Tryz.results3, go_sem, Nat.reduceMul, Nat.reduceLeDiff, Nat.reduceLT, reduceIte, reduceCtorEq, Nat.reduceEqDiff, Nat.reduceSub, Nat.reduceAdd]; simp) (by simp only [Tryz.results3, go_sem, Nat.reduceMul, Nat.reduceLeDiff, Nat.reduceLT, reduceIte, reduceCtorEq, Nat.reduceEqDiff, Nat.reduceSub, Nat.reduceAdd]) ?_
    intro i hi
    simp only [Tryz.results3, go_sem, Nat.reduceMul, Nat.reduceLeDiff, Nat.reduceLT, reduceIte, reduceCtorEq, Nat.reduceEqDiff, Nat.reduceSub, Nat.reduceAdd]
    refine HereO.opP T_ok (OpP.lenA sl2_mods rfl rfl) ?_
    simp only [Tryz.results3, go_sem, Nat.reduceMul, Nat.reduceLeDiff, Nat.reduceLT, reduceIte, reduceCtorEq, Nat.reduceEqDiff, Nat.reduceSub, Nat.reduceAdd]
    rw [lvq_mq_len]
    refine ⟨fun h2 => ⟨fun h3 => ?_, fun h3 => ?_⟩, fun h2 => ?_⟩
    · have hil : i < (modsR g m).length := by omega
      obtain ⟨p1, p2⟩ := modsR_all (modsR g m)[i] (List.getElem_mem hil)
      have hm1 := implIsModule g (modsR g m)[i].1 (modsR g m)[i].2
      have hv : modV g (modsR g m)[i].1 (modsR g m)[i].2 = true := by unfold modV; exact decide_eq_true ⟨hg, p1⟩
      have hcg : codeG g = 0 := by unfold codeG; rw [if_pos hg]
      rw [hv, hcg] at hm1
      refine Here.draw T_ok mixed_ok (by kernel_rfl) ?_
      simp only [Tryz.results3, go_sem, Nat.reduceMul, Nat.reduceLeDiff, Nat.reduceLT, reduceIte, reduceCtorEq, Nat.reduceEqDiff, Nat.reduceSub, Nat.reduceAdd]
      refine ⟨_, OpP.indexA sl2_mods rfl rfl rfl (lvq_at hil), ?_⟩
      simp only [Tryz.results3, go_sem, Nat.reduceMul, Nat.reduceLeDiff, Nat.reduceLT, reduceIte, reduceCtorEq, Nat.reduceEqDiff, Nat.reduceSub, Nat.reduceAdd]
      refine ⟨_, OpP.call' rfl rfl (hm1) (by simp only [go_sem, Nat.reduceMul, Nat.reduceLeDiff, Nat.reduceLT, reduceIte, reduceCtorEq, Nat.reduceEqDiff, Nat.reduceSub, Nat.reduceAdd, List.toList_toArray] <;> first | rfl | exact ⟨rfl, rfl⟩) rfl, ?_⟩
      simp only [Tryz.results3, go_sem, Nat.reduceMul, Nat.reduceLeDiff, Nat.reduceLT, reduceIte, reduceCtorEq, Nat.reduceEqDiff, Nat.reduceSub, Nat.reduceAdd]
      refine HereO.opP T_ok (OpP.indexA sl2_mods rfl rfl rfl (lvq_at hil)) ?_
      simp only [Tryz.results3, go_sem, Nat.reduceMul, Nat.reduceLeDiff, Nat.reduceLT, reduceIte, reduceCtorEq, Nat.reduceEqDiff, Nat.reduceSub, Nat.reduceAdd]
      exact ⟨fun q => q p2, fun _ => ⟨by unfold InR; omega, i + 1, by omega, by omega, by push_cast; rfl⟩⟩
    · refine HereO.opP T_ok (OpP.lenA sl2_mods rfl rfl) ?_
      simp only [Tryz.results3, go_sem, Nat.reduceMul, Nat.reduceLeDiff, Nat.reduceLT, reduceIte, reduceCtorEq, Nat.reduceEqDiff, Nat.reduceSub, Nat.reduceAdd]
      rw [lvq_mq_len]
      omega
    · refine HereO.opP T_ok (OpP.lenA sl2_mods rfl rfl) ?_
      simp only [Tryz.results3, go_sem, Nat.reduceMul, Nat.reduceLeDiff, Nat.reduceLT, reduceIte, reduceCtorEq, Nat.reduceEqDiff, Nat.reduceSub, Nat.reduceAdd]
      rw [lvq_mq_len]
      omega
end Go.Proofs.YtcjhojdlfnpgjaaGreatDoor
