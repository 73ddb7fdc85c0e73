/- Contracts: modules whose units a function tells; DualModule. -/
import Derived.Test.YtdbkiomhoonclaaDd
import Derived.Test.YtdbkiomhoonclaaGe
namespace Go.Proofs.Ytdbkiomhoonclaa
open Go.RowKit
set_option linter.unusedVariables false
set_option linter.unusedSimpArgs false
set_option maxRecDepth 100000

theorem l01Inverse_spec (t : List (List Int)) (hg : Grp t) (a : Nat) (ha : a < t.length) : Spec Try.prog 50 [.agg [.rds (II t)], .v (.int .i64 a)] (.v (.int .i64 (invN t a))) [] := by
  have h8 := hg.2.1
  have hr := (hg.2.2.1 a ha).1
  obtain ⟨_, hi, hz⟩ := invN_is hg ha
  refine Spec.of_code T_ok Try.func50 rfl Try.ntmps50 Try.call50 (Nat.le_of_ble_eq_true rfl) rfl rfl (CodeV_sound T_ok (by kernel_rfl) rfl ?_)
  simp only [Try.results50, go_sem, Nat.reduceMul, Nat.reduceLeDiff, Nat.reduceLT, reduceIte, reduceCtorEq, Nat.reduceEqDiff, Nat.reduceSub, Nat.reduceAdd]
  refine Here.loopV T_ok (fun k => k ≤ invN t a) (fun k => invN t a + 1 - k) (fun k => [(1, .v (.int .i64 a)), (2, .box [.rds (II t)]), (4, .v (.int .i64 0)), (5, .v (.int .i64 k))]) (fun _ => []) 0 (by simp) (by simp only [Try.results50, go_sem, Nat.reduceMul, Nat.reduceLeDiff, Nat.reduceLT, reduceIte, reduceCtorEq, Nat.reduceEqDiff, Nat.reduceSub, Nat.reduceAdd]; simp) trivial ?_
  intro k hk
  simp only [Try.results50, go_sem, Nat.reduceMul, Nat.reduceLeDiff, Nat.reduceLT, reduceIte, reduceCtorEq, Nat.reduceEqDiff, Nat.reduceSub, Nat.reduceAdd]
  refine HereO.call T_ok rfl rfl (l01N_spec t) (by simp only [go_sem, Nat.reduceMul, Nat.reduceLeDiff, Nat.reduceLT, reduceIte, reduceCtorEq, Nat.reduceEqDiff, Nat.reduceSub, Nat.reduceAdd, List.toList_toArray] <;> first | rfl | exact ⟨rfl, rfl⟩) rfl ?_
  simp only [Try.results50, go_sem, Nat.reduceMul, Nat.reduceLeDiff, Nat.reduceLT, reduceIte, reduceCtorEq, Nat.reduceEqDiff, Nat.reduceSub, Nat.reduceAdd]
  refine ⟨fun h2 => ⟨by omega, by omega, fun h3 => ?_, fun h3 => ?_⟩, fun h2 => by omega⟩
  · have : k = invN t a := inv_unique hg ha (by omega) hi (by unfold em ee; rw [h3]; rfl) hz
    rw [this]
  · have : k ≠ invN t a := fun e => h3 (by
      have := em_ee hg ha hi
      rw [hz] at this
      rw [e]
      exact this)
    exact ⟨by unfold InR; omega, k + 1, by omega, by omega, rfl⟩

def dualU (t : List (List Int)) (l : List Int) (x : Nat) : Int := l.getD (invN t x) 0
def dualM (t : List (List Int)) (m : Int) (l : List Int) : Int := if codeM t [(m, l)] = 0 then m else 0
def dualL (t : List (List Int)) (m : Int) (l : List Int) : List Int := if codeM t [(m, l)] = 0 then upTo (dualU t l) t.length else []
theorem dualL_ok (t : List (List Int)) (m : Int) (l : List Int) : (dualL t m l).length ≤ 1048576 := by
  unfold dualL
  split
  · rename_i h
    have := (codeM1_ok h).1.2.1
    rw [upTo_len]; omega
  · simp
end Go.Proofs.Ytdbkiomhoonclaa
