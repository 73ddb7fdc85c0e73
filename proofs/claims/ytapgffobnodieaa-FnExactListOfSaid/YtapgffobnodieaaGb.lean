/- Contracts: the number of the values of cochains. -/
import Derived.Test.YtapgffobnodieaaGa
namespace Go.Proofs.Ytapgffobnodieaa
open Go.RowKit
set_option linter.unusedVariables false
set_option linter.unusedSimpArgs false
set_option maxRecDepth 100000

theorem pow_small {b : Int} (h0 : -8 ≤ b) (h1 : b ≤ 8) (k : Nat) (hk : k ≤ 3) : -512 ≤ b ^ k ∧ b ^ k ≤ 512 := by
  have hb : b = -8 ∨ b = -7 ∨ b = -6 ∨ b = -5 ∨ b = -4 ∨ b = -3 ∨ b = -2 ∨ b = -1 ∨ b = 0 ∨ b = 1 ∨ b = 2 ∨ b = 3 ∨ b = 4 ∨ b = 5 ∨ b = 6 ∨ b = 7 ∨ b = 8 := by omega
  have hk : k = 0 ∨ k = 1 ∨ k = 2 ∨ k = 3 := by omega
  rcases hb with rfl | rfl | rfl | rfl | rfl | rfl | rfl | rfl | rfl | rfl | rfl | rfl | rfl | rfl | rfl | rfl | rfl <;> rcases hk with rfl | rfl | rfl | rfl <;> decide

theorem power_spec (b : Int) (n : Int) (h0 : -8 ≤ b) (h1 : b ≤ 8) (h2 : 0 ≤ n) (h3 : n ≤ 3) : Spec Try.prog 92 [.v (.int .i64 b), .v (.int .i64 n)] (.v (.int .i64 (b ^ n.toNat))) [] := by
  refine Spec.of_code T_ok Try.func92 rfl Try.ntmps92 Try.call92 (Nat.le_of_ble_eq_true rfl) rfl rfl (CodeV_sound T_ok (by kernel_rfl) rfl ?_)
  simp only [Try.results92, go_sem, Nat.reduceMul, Nat.reduceLeDiff, Nat.reduceLT, reduceIte, reduceCtorEq, Nat.reduceEqDiff, Nat.reduceSub, Nat.reduceAdd]
  refine Here.loopV T_ok (fun k => k ≤ n.toNat) (fun k => n.toNat - k) (fun k => [(0, .v (.int .i64 b)), (5, .v (.int .i64 (b ^ k))), (6, .v (.int .i64 n)), (7, .v (.int .i64 k))]) (fun _ => []) 0 (by simp) (by simp only [Try.results92, go_sem, Nat.reduceMul, Nat.reduceLeDiff, Nat.reduceLT, reduceIte, reduceCtorEq, Nat.reduceEqDiff, Nat.reduceSub, Nat.reduceAdd]; simp) trivial ?_
  intro k hk
  simp only [Try.results92, go_sem, Nat.reduceMul, Nat.reduceLeDiff, Nat.reduceLT, reduceIte, reduceCtorEq, Nat.reduceEqDiff, Nat.reduceSub, Nat.reduceAdd]
  refine ⟨fun h => ?_, fun h => by rw [show n.toNat = k by omega]⟩
  have hp := pow_small h0 h1 (k + 1) (by omega)
  rw [Int.pow_succ] at hp
  exact ⟨by unfold InR; omega, by unfold InR; omega, k + 1, by omega, by omega, by rw [Int.pow_succ], rfl⟩

theorem isDegree_spec (n : Int) : Spec Try.prog 66 [.v (.int .i64 n)] (.v (.bool (decide (0 ≤ n ∧ n ≤ 3)))) [] := by
  refine Spec.of_code T_ok Try.func66 rfl Try.ntmps66 Try.call66 (Nat.le_of_ble_eq_true rfl) rfl rfl (CodeV_sound T_ok (by kernel_rfl) rfl ?_)
  simp only [Try.results66, go_sem, Nat.reduceMul, Nat.reduceLeDiff, Nat.reduceLT, reduceIte, reduceCtorEq, Nat.reduceEqDiff, Nat.reduceSub, Nat.reduceAdd]
  exact ⟨fun h => by simp [h], fun h => by simp [h]⟩

theorem l03Cells_spec (t : List (List Int)) (n : Int) (h1 : 1 ≤ t.length) (h8 : t.length ≤ 8) (h2 : 0 ≤ n) (h3 : n ≤ 3) : Spec Try.prog 65 [.agg [.rds (II t)], .v (.int .i64 n)] (.v (.int .i64 (((t.length : Int) - 1) ^ n.toNat))) [] := by
  refine Spec.of_code T_ok Try.func65 rfl Try.ntmps65 Try.call65 (Nat.le_of_ble_eq_true rfl) rfl rfl (CodeV_sound T_ok (by kernel_rfl) rfl ?_)
  simp only [Try.results65, go_sem, Nat.reduceMul, Nat.reduceLeDiff, Nat.reduceLT, reduceIte, reduceCtorEq, Nat.reduceEqDiff, Nat.reduceSub, Nat.reduceAdd]
  refine Here.loopV T_ok (fun k => k ≤ n.toNat) (fun k => n.toNat - k) (fun k => [(1, .v (.int .i64 (n - k))), (2, .box [.rds (II t)]), (5, .v (.int .i64 (((t.length : Int) - 1) ^ k)))]) (fun _ => []) 0 (by simp) (by simp only [Try.results65, go_sem, Nat.reduceMul, Nat.reduceLeDiff, Nat.reduceLT, reduceIte, reduceCtorEq, Nat.reduceEqDiff, Nat.reduceSub, Nat.reduceAdd]; simp) trivial ?_
  intro k hk
  simp only [Try.results65, go_sem, Nat.reduceMul, Nat.reduceLeDiff, Nat.reduceLT, reduceIte, reduceCtorEq, Nat.reduceEqDiff, Nat.reduceSub, Nat.reduceAdd]
  refine ⟨fun h => ?_, fun h => by rw [show n.toNat = k by omega]⟩
  refine HereO.call T_ok rfl rfl (l01N_spec t) (by simp only [go_sem, Nat.reduceMul, Nat.reduceLeDiff, Nat.reduceLT, reduceIte, reduceCtorEq, Nat.reduceEqDiff, Nat.reduceSub, Nat.reduceAdd, List.toList_toArray]) rfl ?_
  simp only [Try.results65, go_sem, Nat.reduceMul, Nat.reduceLeDiff, Nat.reduceLT, reduceIte, reduceCtorEq, Nat.reduceEqDiff, Nat.reduceSub, Nat.reduceAdd]
  have hp := pow_small (b := (t.length : Int) - 1) (by omega) (by omega) (k + 1) (by omega)
  rw [Int.pow_succ] at hp
  exact ⟨by unfold InR; omega, by unfold InR; omega, by unfold InR; omega, k + 1, by omega, by omega, by omega, by rw [Int.pow_succ]⟩

theorem cells_spec (t : List (List Int)) (n : Int) (h1 : 1 ≤ t.length) (h8 : t.length ≤ 8) (h2 : 0 ≤ n) (h3 : n ≤ 3) : Spec Try.prog 67 [.agg [.rds (II t)], .v (.int .i64 n)] (.v (.int .i64 (((t.length : Int) - 1) ^ n.toNat))) [] := by
  refine Spec.of_code T_ok Try.func67 rfl Try.ntmps67 Try.call67 (Nat.le_of_ble_eq_true rfl) rfl rfl (CodeV_sound T_ok (by kernel_rfl) rfl ?_)
  simp only [Try.results67, go_sem, Nat.reduceMul, Nat.reduceLeDiff, Nat.reduceLT, reduceIte, reduceCtorEq, Nat.reduceEqDiff, Nat.reduceSub, Nat.reduceAdd]
  refine HereO.call T_ok rfl rfl (order_spec t) (by simp only [go_sem, Nat.reduceMul, Nat.reduceLeDiff, Nat.reduceLT, reduceIte, reduceCtorEq, Nat.reduceEqDiff, Nat.reduceSub, Nat.reduceAdd, List.toList_toArray]) rfl ?_
  simp only [Try.results67, go_sem, Nat.reduceMul, Nat.reduceLeDiff, Nat.reduceLT, reduceIte, reduceCtorEq, Nat.reduceEqDiff, Nat.reduceSub, Nat.reduceAdd]
  refine ⟨by unfold InR; omega, ?_⟩
  refine HereO.call T_ok rfl rfl (power_spec ((t.length : Int) - 1) n (by omega) (by omega) h2 h3) (by simp only [go_sem, Nat.reduceMul, Nat.reduceLeDiff, Nat.reduceLT, reduceIte, reduceCtorEq, Nat.reduceEqDiff, Nat.reduceSub, Nat.reduceAdd, List.toList_toArray]) rfl ?_
  simp only [Try.results67, go_sem, Nat.reduceMul, Nat.reduceLeDiff, Nat.reduceLT, reduceIte, reduceCtorEq, Nat.reduceEqDiff, Nat.reduceSub, Nat.reduceAdd]

def codeD (t : List (List Int)) (n : Int) : Int := if Grp t then (if 0 ≤ n ∧ n ≤ 3 then 0 else 2) else 1
def cellsV (t : List (List Int)) (n : Int) : Int := if codeD t n = 0 then ((t.length : Int) - 1) ^ n.toNat else 0
theorem implCountCells (t : List (List Int)) (n : Int) : Spec Try.prog 25 [.agg [.rds (II t)], .v (.int .i64 n)] (.tup [.v (.int .i64 (cellsV t n)), .v (.int .i64 (codeD t n))]) [] := by
  refine Spec.of_code T_ok Try.func25 rfl Try.ntmps25 Try.call25 (Nat.le_of_ble_eq_true rfl) rfl rfl (CodeV_sound T_ok (by kernel_rfl) rfl ?_)
  simp only [Try.results25, go_sem, Nat.reduceMul, Nat.reduceLeDiff, Nat.reduceLT, reduceIte, reduceCtorEq, Nat.reduceEqDiff, Nat.reduceSub, Nat.reduceAdd]
  refine HereO.call T_ok rfl rfl (IsGroup_spec t) (by simp only [go_sem, Nat.reduceMul, Nat.reduceLeDiff, Nat.reduceLT, reduceIte, reduceCtorEq, Nat.reduceEqDiff, Nat.reduceSub, Nat.reduceAdd, List.toList_toArray]) rfl ?_
  simp only [Try.results25, go_sem, Nat.reduceMul, Nat.reduceLeDiff, Nat.reduceLT, reduceIte, reduceCtorEq, Nat.reduceEqDiff, Nat.reduceSub, Nat.reduceAdd]
  refine ⟨fun h => by simp [cellsV, codeD, h], fun h => ?_⟩
  refine HereO.call T_ok rfl rfl (isDegree_spec n) (by simp only [go_sem, Nat.reduceMul, Nat.reduceLeDiff, Nat.reduceLT, reduceIte, reduceCtorEq, Nat.reduceEqDiff, Nat.reduceSub, Nat.reduceAdd, List.toList_toArray]) rfl ?_
  simp only [Try.results25, go_sem, Nat.reduceMul, Nat.reduceLeDiff, Nat.reduceLT, reduceIte, reduceCtorEq, Nat.reduceEqDiff, Nat.reduceSub, Nat.reduceAdd]
  refine ⟨fun h2 => by simp only [cellsV, codeD, if_pos h, if_neg h2]; simp, fun h2 => ?_⟩
  have hc : codeD t n = 0 := by simp only [codeD, if_pos h, if_pos h2]
  refine HereO.call T_ok rfl rfl (cells_spec t n h.1 h.2.1 h2.1 h2.2) (by simp only [go_sem, Nat.reduceMul, Nat.reduceLeDiff, Nat.reduceLT, reduceIte, reduceCtorEq, Nat.reduceEqDiff, Nat.reduceSub, Nat.reduceAdd, List.toList_toArray]) rfl ?_
  simp only [Try.results25, go_sem, Nat.reduceMul, Nat.reduceLeDiff, Nat.reduceLT, reduceIte, reduceCtorEq, Nat.reduceEqDiff, Nat.reduceSub, Nat.reduceAdd]
  exact ⟨by simp only [cellsV, if_pos hc], hc.symm⟩
theorem specCountCells (t : List (List Int)) (n : Int) : Spec Try.prog 24 [.agg [.rds (II t)], .v (.int .i64 n)] (.tup [.v (.int .i64 (cellsV t n)), .v (.int .i64 (codeD t n))]) [] := by
  refine Spec.of_code T_ok Try.func24 rfl Try.ntmps24 Try.call24 (Nat.le_of_ble_eq_true rfl) rfl rfl (CodeV_sound T_ok (by kernel_rfl) rfl ?_)
  simp only [Try.results24, go_sem, Nat.reduceMul, Nat.reduceLeDiff, Nat.reduceLT, reduceIte, reduceCtorEq, Nat.reduceEqDiff, Nat.reduceSub, Nat.reduceAdd]
  refine HereO.call T_ok rfl rfl (l01Is_spec t) (by simp only [go_sem, Nat.reduceMul, Nat.reduceLeDiff, Nat.reduceLT, reduceIte, reduceCtorEq, Nat.reduceEqDiff, Nat.reduceSub, Nat.reduceAdd, List.toList_toArray]) rfl ?_
  simp only [Try.results24, go_sem, Nat.reduceMul, Nat.reduceLeDiff, Nat.reduceLT, reduceIte, reduceCtorEq, Nat.reduceEqDiff, Nat.reduceSub, Nat.reduceAdd]
  refine ⟨fun h => by simp [cellsV, codeD, h], fun h => ?_⟩
  refine HereO.call T_ok rfl rfl (l01In_spec n 0 3) (by simp only [go_sem, Nat.reduceMul, Nat.reduceLeDiff, Nat.reduceLT, reduceIte, reduceCtorEq, Nat.reduceEqDiff, Nat.reduceSub, Nat.reduceAdd, List.toList_toArray]) rfl ?_
  simp only [Try.results24, go_sem, Nat.reduceMul, Nat.reduceLeDiff, Nat.reduceLT, reduceIte, reduceCtorEq, Nat.reduceEqDiff, Nat.reduceSub, Nat.reduceAdd]
  refine ⟨fun h2 => by simp only [cellsV, codeD, if_pos h, if_neg h2]; simp, fun h2 => ?_⟩
  have hc : codeD t n = 0 := by simp only [codeD, if_pos h, if_pos h2]
  refine HereO.call T_ok rfl rfl (l03Cells_spec t n h.1 h.2.1 h2.1 h2.2) (by simp only [go_sem, Nat.reduceMul, Nat.reduceLeDiff, Nat.reduceLT, reduceIte, reduceCtorEq, Nat.reduceEqDiff, Nat.reduceSub, Nat.reduceAdd, List.toList_toArray]) rfl ?_
  simp only [Try.results24, go_sem, Nat.reduceMul, Nat.reduceLeDiff, Nat.reduceLT, reduceIte, reduceCtorEq, Nat.reduceEqDiff, Nat.reduceSub, Nat.reduceAdd]
  exact ⟨by simp only [cellsV, if_pos hc], hc.symm⟩
end Go.Proofs.Ytapgffobnodieaa
