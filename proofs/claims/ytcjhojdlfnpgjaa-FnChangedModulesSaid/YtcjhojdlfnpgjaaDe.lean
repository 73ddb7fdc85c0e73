/- Contracts: modules whose units a function tells; DualModule. -/
import Derived.Test.YtcjhojdlfnpgjaaDd
import Derived.Test.YtcjhojdlfnpgjaaGe
namespace Go.Proofs.Ytcjhojdlfnpgjaa
open Go.RowKit
set_option linter.unusedVariables false
set_option linter.unusedSimpArgs false
set_option maxRecDepth 100000

theorem unitsOf_spec (t : List (List Int)) (hn : t.length ≤ 4096) (m : Int) (g : Nat) (caps : List LV) (hc : Fix caps) (f : Nat → Int) (hp : ∀ a : Nat, a < t.length → Spec Try.prog g (.v (.int .i64 a) :: caps) (.v (.int .i64 (f a))) []) :
    Spec Try.prog 46 [.agg [.rds (II t)], .v (.int .i64 m), .fn g caps] (.agg [.v (.int .i64 m), .own 0]) [.row 2 (I (upTo f t.length))] := by
  refine Spec.of_code T_ok Try.func46 rfl Try.ntmps46 Try.call46 (Nat.le_of_ble_eq_true rfl) rfl rfl (CodeV_sound T_ok (by kernel_rfl) rfl ?_)
  simp only [Try.results46, go_sem, Nat.reduceMul, Nat.reduceLeDiff, Nat.reduceLT, reduceIte, reduceCtorEq, Nat.reduceEqDiff, Nat.reduceSub, Nat.reduceAdd]
  refine HereO.alloc T_ok 106 rfl rfl (by decide) ?_
  simp only [Try.results46, go_sem, Nat.reduceMul, Nat.reduceLeDiff, Nat.reduceLT, reduceIte, reduceCtorEq, Nat.reduceEqDiff, Nat.reduceSub, Nat.reduceAdd]
  refine HereO.opP T_ok (OpP.build built_29 rfl rfl rfl rfl) ?_
  simp only [Try.results46, go_sem, Nat.reduceMul, Nat.reduceLeDiff, Nat.reduceLT, reduceIte, reduceCtorEq, Nat.reduceEqDiff, Nat.reduceSub, Nat.reduceAdd]
  refine HereO.alloc T_ok 107 rfl rfl (by decide) ?_
  simp only [Try.results46, go_sem, Nat.reduceMul, Nat.reduceLeDiff, Nat.reduceLT, reduceIte, reduceCtorEq, Nat.reduceEqDiff, Nat.reduceSub, Nat.reduceAdd]
  refine HereO.storeAgg T_ok rfl (by simp only [go_sem, Nat.reduceMul, Nat.reduceLeDiff, Nat.reduceLT, reduceIte, reduceCtorEq, Nat.reduceEqDiff, Nat.reduceSub, Nat.reduceAdd] <;> rfl) (by simp only [go_sem, Nat.reduceMul, Nat.reduceLeDiff, Nat.reduceLT, reduceIte, reduceCtorEq, Nat.reduceEqDiff, Nat.reduceSub, Nat.reduceAdd] <;> rfl) rfl (by simp only [go_sem, Nat.reduceMul, Nat.reduceLeDiff, Nat.reduceLT, reduceIte, reduceCtorEq, Nat.reduceEqDiff, Nat.reduceSub, Nat.reduceAdd] <;> rfl) rfl rfl rfl ?_
  simp only [Try.results46, go_sem, Nat.reduceMul, Nat.reduceLeDiff, Nat.reduceLT, reduceIte, reduceCtorEq, Nat.reduceEqDiff, Nat.reduceSub, Nat.reduceAdd]
  refine HereO.conv (Conv.nilIn (c := 107) (tt := 29) (l := [.v (.int .i64 m), .v nilV]) 1 120 (.row 2 []) rfl (by decide) (by decide) (by rfl) rfl) ?_
  refine HereO.call T_ok rfl rfl (order_spec t) (by simp only [go_sem, Nat.reduceMul, Nat.reduceLeDiff, Nat.reduceLT, reduceIte, reduceCtorEq, Nat.reduceEqDiff, Nat.reduceSub, Nat.reduceAdd, List.toList_toArray] <;> first | rfl | exact ⟨rfl, rfl⟩) rfl ?_
  simp only [Try.results46, go_sem, Nat.reduceMul, Nat.reduceLeDiff, Nat.reduceLT, reduceIte, reduceCtorEq, Nat.reduceEqDiff, Nat.reduceSub, Nat.reduceAdd]
  refine Here.loopV T_ok (fun k => k ≤ t.length) (fun k => t.length - k) (fun k => [(2, .fn g caps), (3, .box [.rds (II t)]), (1, .v (.int .i64 m)), (6, .ptr 106 0), (7, .ptr 107 0), (12, .v (.int .i64 t.length)), (13, .v (.int .i64 k))]) (fun k => [(106, .cells 29 [.v (.int .i64 0), .v nilV]), (107, .cells 29 [.v (.int .i64 m), .own 120]), (120, .row 2 (I (upTo f k)))]) 0 (by simp) (by simp only [Try.results46, go_sem, Nat.reduceMul, Nat.reduceLeDiff, Nat.reduceLT, reduceIte, reduceCtorEq, Nat.reduceEqDiff, Nat.reduceSub, Nat.reduceAdd]; simp [hc.k]) (by simp only [Try.results46, go_sem, Nat.reduceMul, Nat.reduceLeDiff, Nat.reduceLT, reduceIte, reduceCtorEq, Nat.reduceEqDiff, Nat.reduceSub, Nat.reduceAdd]; simp [upTo, I, nilV]) ?_
  intro k hk
  simp only [Try.results46, go_sem, Nat.reduceMul, Nat.reduceLeDiff, Nat.reduceLT, reduceIte, reduceCtorEq, Nat.reduceEqDiff, Nat.reduceSub, Nat.reduceAdd]
  refine ⟨fun h2 => ?_, fun h2 => ?_⟩
  · refine Here.drawS T_ok 6 (Nat.le_of_ble_eq_true rfl) mixed_ok (by kernel_rfl) (by kernel_rfl) ?_
    simp only [Try.results46, go_sem, Nat.reduceMul, Nat.reduceLeDiff, Nat.reduceLT, reduceIte, reduceCtorEq, Nat.reduceEqDiff, Nat.reduceSub, Nat.reduceAdd]
    refine ⟨_, OpP.call' rfl rfl (hp k (by omega)) (by simp only [go_sem, Nat.reduceMul, Nat.reduceLeDiff, Nat.reduceLT, reduceIte, reduceCtorEq, Nat.reduceEqDiff, Nat.reduceSub, Nat.reduceAdd, List.toList_toArray, hc.b]) rfl, ?_⟩
    simp only [Try.results46, go_sem, Nat.reduceMul, Nat.reduceLeDiff, Nat.reduceLT, reduceIte, reduceCtorEq, Nat.reduceEqDiff, Nat.reduceSub, Nat.reduceAdd]
    refine ⟨_, OpP.buildRd T_ok (I [f k]) rfl rfl rfl (by decide) rfl (by simp only [go_sem, Nat.reduceMul, Nat.reduceLeDiff, Nat.reduceLT, reduceIte, reduceCtorEq, Nat.reduceEqDiff, Nat.reduceSub, Nat.reduceAdd] <;> rfl) rfl, ?_⟩
    simp only [Try.results46, go_sem, Nat.reduceMul, Nat.reduceLeDiff, Nat.reduceLT, reduceIte, reduceCtorEq, Nat.reduceEqDiff, Nat.reduceSub, Nat.reduceAdd]
    refine HereO.append T_ok (I [f k]) rfl rfl (by decide) (by simp only [go_sem, Nat.reduceMul, Nat.reduceLeDiff, Nat.reduceLT, reduceIte, reduceCtorEq, Nat.reduceEqDiff, Nat.reduceSub, Nat.reduceAdd] <;> rfl) (by decide) (by simp only [go_sem, Nat.reduceMul, Nat.reduceLeDiff, Nat.reduceLT, reduceIte, reduceCtorEq, Nat.reduceEqDiff, Nat.reduceSub, Nat.reduceAdd] <;> rfl) (by simp only [go_sem, Nat.reduceMul, Nat.reduceLeDiff, Nat.reduceLT, reduceIte, reduceCtorEq, Nat.reduceEqDiff, Nat.reduceSub, Nat.reduceAdd] <;> rfl) (.rd _) (I_one _) (by rw [I_len, I_len, upTo_len]; simp; omega) ?_
    simp only [Try.results46, go_sem, Nat.reduceMul, Nat.reduceLeDiff, Nat.reduceLT, reduceIte, reduceCtorEq, Nat.reduceEqDiff, Nat.reduceSub, Nat.reduceAdd]
    refine HereO.store T_ok rfl (by simp only [go_sem, Nat.reduceMul, Nat.reduceLeDiff, Nat.reduceLT, reduceIte, reduceCtorEq, Nat.reduceEqDiff, Nat.reduceSub, Nat.reduceAdd] <;> rfl) (by simp only [go_sem, Nat.reduceMul, Nat.reduceLeDiff, Nat.reduceLT, reduceIte, reduceCtorEq, Nat.reduceEqDiff, Nat.reduceSub, Nat.reduceAdd] <;> rfl) rfl (by simp only [go_sem, Nat.reduceMul, Nat.reduceLeDiff, Nat.reduceLT, reduceIte, reduceCtorEq, Nat.reduceEqDiff, Nat.reduceSub, Nat.reduceAdd] <;> rfl) rfl (by simp only [go_sem, Nat.reduceMul, Nat.reduceLeDiff, Nat.reduceLT, reduceIte, reduceCtorEq, Nat.reduceEqDiff, Nat.reduceSub, Nat.reduceAdd] <;> rfl) (Nat.le_of_ble_eq_true rfl) ?_
    simp only [Try.results46, go_sem, Nat.reduceMul, Nat.reduceLeDiff, Nat.reduceLT, reduceIte, reduceCtorEq, Nat.reduceEqDiff, Nat.reduceSub, Nat.reduceAdd]
    exact ⟨by unfold InR; omega, k + 1, by omega, by omega, by simp [hc.k], by simp [I_append, upTo_succ]⟩
  · have : k = t.length := by omega
    subst this
    refine HereO.storeAgg T_ok rfl (by simp only [go_sem, Nat.reduceMul, Nat.reduceLeDiff, Nat.reduceLT, reduceIte, reduceCtorEq, Nat.reduceEqDiff, Nat.reduceSub, Nat.reduceAdd] <;> rfl) (by simp only [go_sem, Nat.reduceMul, Nat.reduceLeDiff, Nat.reduceLT, reduceIte, reduceCtorEq, Nat.reduceEqDiff, Nat.reduceSub, Nat.reduceAdd] <;> rfl) rfl (by simp only [go_sem, Nat.reduceMul, Nat.reduceLeDiff, Nat.reduceLT, reduceIte, reduceCtorEq, Nat.reduceEqDiff, Nat.reduceSub, Nat.reduceAdd] <;> rfl) (by simp only [go_sem, Nat.reduceMul, Nat.reduceLeDiff, Nat.reduceLT, reduceIte, reduceCtorEq, Nat.reduceEqDiff, Nat.reduceSub, Nat.reduceAdd] <;> rfl) rfl rfl ?_
    simp only [Try.results46, go_sem, Nat.reduceMul, Nat.reduceLeDiff, Nat.reduceLT, reduceIte, reduceCtorEq, Nat.reduceEqDiff, Nat.reduceSub, Nat.reduceAdd]
    refine RetT.one 120 (by simp only [Try.results46, go_sem, Nat.reduceMul, Nat.reduceLeDiff, Nat.reduceLT, reduceIte, reduceCtorEq, Nat.reduceEqDiff, Nat.reduceSub, Nat.reduceAdd]; rfl) rfl ?_
    simp only [Try.results46, go_sem, Nat.reduceMul, Nat.reduceLeDiff, Nat.reduceLT, reduceIte, reduceCtorEq, Nat.reduceEqDiff, Nat.reduceSub, Nat.reduceAdd]

def dualU (t : List (List Int)) (l : List Int) (x : Nat) : Int := l.getD (invN t x) 0
def dualM (t : List (List Int)) (m : Int) (l : List Int) : Int := if codeM t [(m, l)] = 0 then m else 0
def dualL (t : List (List Int)) (m : Int) (l : List Int) : List Int := if codeM t [(m, l)] = 0 then upTo (dualU t l) t.length else []
theorem dualL_ok (t : List (List Int)) (m : Int) (l : List Int) : (dualL t m l).length ≤ 1048576 := by
  unfold dualL
  split
  · rename_i h
    have := (codeM1_ok h).1.2.1
    rw [upTo_len]; omega
  · simp
end Go.Proofs.Ytcjhojdlfnpgjaa
