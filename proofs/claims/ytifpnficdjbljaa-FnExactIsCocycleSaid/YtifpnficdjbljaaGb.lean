/- Contracts: the number of the values of cochains. -/
import Derived.Test.YtifpnficdjbljaaGa
namespace Go.Proofs.Ytifpnficdjbljaa
open Go.RowKit
set_option linter.unusedVariables false
set_option linter.unusedSimpArgs false
set_option maxRecDepth 100000

theorem pow_small {b : Int} (h0 : -8 ≤ b) (h1 : b ≤ 8) (k : Nat) (hk : k ≤ 3) : -512 ≤ b ^ k ∧ b ^ k ≤ 512 := by
  have hb : b = -8 ∨ b = -7 ∨ b = -6 ∨ b = -5 ∨ b = -4 ∨ b = -3 ∨ b = -2 ∨ b = -1 ∨ b = 0 ∨ b = 1 ∨ b = 2 ∨ b = 3 ∨ b = 4 ∨ b = 5 ∨ b = 6 ∨ b = 7 ∨ b = 8 := by omega
  have hk : k = 0 ∨ k = 1 ∨ k = 2 ∨ k = 3 := by omega
  rcases hb with rfl | rfl | rfl | rfl | rfl | rfl | rfl | rfl | rfl | rfl | rfl | rfl | rfl | rfl | rfl | rfl | rfl <;> rcases hk with rfl | rfl | rfl | rfl <;> decide

theorem power_spec (b : Int) (n : Int) (h0 : -8 ≤ b) (h1 : b ≤ 8) (h2 : 0 ≤ n) (h3 : n ≤ 3) : Spec Try.prog 103 [.v (.int .i64 b), .v (.int .i64 n)] (.v (.int .i64 (b ^ n.toNat))) [] := by
  refine Spec.of_code T_ok Try.func103 rfl Try.ntmps103 Try.call103 (Nat.le_of_ble_eq_true rfl) rfl rfl (CodeV_sound T_ok (by kernel_rfl) rfl ?_)
  simp only [Try.results103, go_sem, Nat.reduceMul, Nat.reduceLeDiff, Nat.reduceLT, reduceIte, reduceCtorEq, Nat.reduceEqDiff, Nat.reduceSub, Nat.reduceAdd]
  refine Here.loopV T_ok (fun k => k ≤ n.toNat) (fun k => n.toNat - k) (fun k => [(0, .v (.int .i64 b)), (5, .v (.int .i64 (b ^ k))), (6, .v (.int .i64 n)), (7, .v (.int .i64 k))]) (fun _ => []) 0 (by simp) (by simp only [Try.results103, go_sem, Nat.reduceMul, Nat.reduceLeDiff, Nat.reduceLT, reduceIte, reduceCtorEq, Nat.reduceEqDiff, Nat.reduceSub, Nat.reduceAdd]; simp) trivial ?_
  intro k hk
  simp only [Try.results103, go_sem, Nat.reduceMul, Nat.reduceLeDiff, Nat.reduceLT, reduceIte, reduceCtorEq, Nat.reduceEqDiff, Nat.reduceSub, Nat.reduceAdd]
  refine ⟨fun h => ?_, fun h => by rw [show n.toNat = k by omega]⟩
  have hp := pow_small h0 h1 (k + 1) (by omega)
  rw [Int.pow_succ] at hp
  exact ⟨by unfold InR; omega, by unfold InR; omega, k + 1, by omega, by omega, by rw [Int.pow_succ], rfl⟩

theorem isDegree_spec (n : Int) : Spec Try.prog 89 [.v (.int .i64 n)] (.v (.bool (decide (0 ≤ n ∧ n ≤ 3)))) [] := by
  refine Spec.of_code T_ok Try.func89 rfl Try.ntmps89 Try.call89 (Nat.le_of_ble_eq_true rfl) rfl rfl (CodeV_sound T_ok (by kernel_rfl) rfl ?_)
  simp only [Try.results89, go_sem, Nat.reduceMul, Nat.reduceLeDiff, Nat.reduceLT, reduceIte, reduceCtorEq, Nat.reduceEqDiff, Nat.reduceSub, Nat.reduceAdd]
  exact ⟨fun h => by simp [h], fun h => by simp [h]⟩

theorem l03Cells_spec (t : List (List Int)) (n : Int) (h1 : 1 ≤ t.length) (h8 : t.length ≤ 8) (h2 : 0 ≤ n) (h3 : n ≤ 3) : Spec Try.prog 88 [.agg [.rds (II t)], .v (.int .i64 n)] (.v (.int .i64 (((t.length : Int) - 1) ^ n.toNat))) [] := by
  refine Spec.of_code T_ok Try.func88 rfl Try.ntmps88 Try.call88 (Nat.le_of_ble_eq_true rfl) rfl rfl (CodeV_sound T_ok (by kernel_rfl) rfl ?_)
  simp only [Try.results88, go_sem, Nat.reduceMul, Nat.reduceLeDiff, Nat.reduceLT, reduceIte, reduceCtorEq, Nat.reduceEqDiff, Nat.reduceSub, Nat.reduceAdd]
  refine Here.loopV T_ok (fun k => k ≤ n.toNat) (fun k => n.toNat - k) (fun k => [(1, .v (.int .i64 (n - k))), (2, .box [.rds (II t)]), (5, .v (.int .i64 (((t.length : Int) - 1) ^ k)))]) (fun _ => []) 0 (by simp) (by simp only [Try.results88, go_sem, Nat.reduceMul, Nat.reduceLeDiff, Nat.reduceLT, reduceIte, reduceCtorEq, Nat.reduceEqDiff, Nat.reduceSub, Nat.reduceAdd]; simp) trivial ?_
  intro k hk
  simp only [Try.results88, go_sem, Nat.reduceMul, Nat.reduceLeDiff, Nat.reduceLT, reduceIte, reduceCtorEq, Nat.reduceEqDiff, Nat.reduceSub, Nat.reduceAdd]
  refine ⟨fun h => ?_, fun h => by rw [show n.toNat = k by omega]⟩
  refine HereO.call T_ok rfl rfl (l01N_spec t) (by simp only [go_sem, Nat.reduceMul, Nat.reduceLeDiff, Nat.reduceLT, reduceIte, reduceCtorEq, Nat.reduceEqDiff, Nat.reduceSub, Nat.reduceAdd, List.toList_toArray]) rfl ?_
  simp only [Try.results88, go_sem, Nat.reduceMul, Nat.reduceLeDiff, Nat.reduceLT, reduceIte, reduceCtorEq, Nat.reduceEqDiff, Nat.reduceSub, Nat.reduceAdd]
  have hp := pow_small (b := (t.length : Int) - 1) (by omega) (by omega) (k + 1) (by omega)
  rw [Int.pow_succ] at hp
  exact ⟨by unfold InR; omega, by unfold InR; omega, by unfold InR; omega, k + 1, by omega, by omega, by omega, by rw [Int.pow_succ]⟩

theorem cells_spec (t : List (List Int)) (n : Int) (h1 : 1 ≤ t.length) (h8 : t.length ≤ 8) (h2 : 0 ≤ n) (h3 : n ≤ 3) : Spec Try.prog 90 [.agg [.rds (II t)], .v (.int .i64 n)] (.v (.int .i64 (((t.length : Int) - 1) ^ n.toNat))) [] := by
  refine Spec.of_code T_ok Try.func90 rfl Try.ntmps90 Try.call90 (Nat.le_of_ble_eq_true rfl) rfl rfl (CodeV_sound T_ok (by kernel_rfl) rfl ?_)
  simp only [Try.results90, go_sem, Nat.reduceMul, Nat.reduceLeDiff, Nat.reduceLT, reduceIte, reduceCtorEq, Nat.reduceEqDiff, Nat.reduceSub, Nat.reduceAdd]
  refine HereO.call T_ok rfl rfl (order_spec t) (by simp only [go_sem, Nat.reduceMul, Nat.reduceLeDiff, Nat.reduceLT, reduceIte, reduceCtorEq, Nat.reduceEqDiff, Nat.reduceSub, Nat.reduceAdd, List.toList_toArray]) rfl ?_
  simp only [Try.results90, go_sem, Nat.reduceMul, Nat.reduceLeDiff, Nat.reduceLT, reduceIte, reduceCtorEq, Nat.reduceEqDiff, Nat.reduceSub, Nat.reduceAdd]
  refine ⟨by unfold InR; omega, ?_⟩
  refine HereO.call T_ok rfl rfl (power_spec ((t.length : Int) - 1) n (by omega) (by omega) h2 h3) (by simp only [go_sem, Nat.reduceMul, Nat.reduceLeDiff, Nat.reduceLT, reduceIte, reduceCtorEq, Nat.reduceEqDiff, Nat.reduceSub, Nat.reduceAdd, List.toList_toArray]) rfl ?_
  simp only [Try.results90, go_sem, Nat.reduceMul, Nat.reduceLeDiff, Nat.reduceLT, reduceIte, reduceCtorEq, Nat.reduceEqDiff, Nat.reduceSub, Nat.reduceAdd]

def codeD (t : List (List Int)) (n : Int) : Int := if Grp t then (if 0 ≤ n ∧ n ≤ 3 then 0 else 2) else 1
def cellsV (t : List (List Int)) (n : Int) : Int := if codeD t n = 0 then ((t.length : Int) - 1) ^ n.toNat else 0
end Go.Proofs.Ytifpnficdjbljaa
