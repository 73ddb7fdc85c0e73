/- Contracts: Repeat, TrivialModule. -/
import Derived.Test.YtdbkiomhoonclaaDg
import Derived.Test.YtdbkiomhoonclaaVz
namespace Go.Proofs.Ytdbkiomhoonclaa
open Go.RowKit
set_option linter.unusedVariables false
set_option linter.unusedSimpArgs false
set_option maxRecDepth 100000

theorem Mul64_spec (n : Nat) (h : n ≤ 8) : Spec Try.prog 136 [.v (.int .u64 1), .v (.int .u64 n)] (.tup [.v (.int .u64 0), .v (.int .u64 n)]) [] := by
  refine Spec.of_code T_ok Try.func136 rfl Try.ntmps136 Try.call136 (Nat.le_of_ble_eq_true rfl) rfl rfl (CodeV_sound T_ok (by kernel_rfl) rfl ?_)
  simp only [Try.results136, go_sem, Nat.reduceMul, Nat.reduceLeDiff, Nat.reduceLT, reduceIte, reduceCtorEq, Nat.reduceEqDiff, Nat.reduceSub, Nat.reduceAdd]
  have h9 : n = 0 ∨ n = 1 ∨ n = 2 ∨ n = 3 ∨ n = 4 ∨ n = 5 ∨ n = 6 ∨ n = 7 ∨ n = 8 := by omega
  rcases h9 with rfl | rfl | rfl | rfl | rfl | rfl | rfl | rfl | rfl <;> exact ⟨by decide, by decide, by decide, by decide, by decide, by decide +kernel, by decide +kernel⟩
theorem Mul_spec (n : Nat) (h : n ≤ 8) : Spec Try.prog 126 [.v (.int .u64 1), .v (.int .u64 n)] (.tup [.v (.int .u64 0), .v (.int .u64 n)]) [] := by
  refine Spec.of_code T_ok Try.func126 rfl Try.ntmps126 Try.call126 (Nat.le_of_ble_eq_true rfl) rfl rfl (CodeV_sound T_ok (by kernel_rfl) rfl ?_)
  simp only [Try.results126, go_sem, Nat.reduceMul, Nat.reduceLeDiff, Nat.reduceLT, reduceIte, reduceCtorEq, Nat.reduceEqDiff, Nat.reduceSub, Nat.reduceAdd]
  refine HereO.call T_ok rfl rfl (Mul64_spec n h) (by simp only [go_sem, Nat.reduceMul, Nat.reduceLeDiff, Nat.reduceLT, reduceIte, reduceCtorEq, Nat.reduceEqDiff, Nat.reduceSub, Nat.reduceAdd, List.toList_toArray] <;> first | rfl | exact ⟨rfl, rfl⟩) rfl ?_
  simp only [Try.results126, go_sem, Nat.reduceMul, Nat.reduceLeDiff, Nat.reduceLT, reduceIte, reduceCtorEq, Nat.reduceEqDiff, Nat.reduceSub, Nat.reduceAdd]
def repR (x : Int) (n k : Nat) : List Int := List.replicate k x ++ List.replicate (n - k) 0
theorem repR_len {x : Int} {n k : Nat} (h : k ≤ n) : (repR x n k).length = n := by unfold repR; simp; omega
theorem repR_copy {x : Int} {n k m : Nat} (h : k ≤ n) (hm : m ≤ k) (hm2 : k + m ≤ n) : (I (repR x n k)).take k ++ ((((I (repR x n k)).drop 0).take k).take m) ++ (I (repR x n k)).drop (k + m) = I (repR x n (k + m)) := by
  unfold repR I
  simp only [List.map_append, List.map_replicate, List.drop_zero]
  have e1 : (List.replicate k (Value.int .i64 x) ++ List.replicate (n - k) (Value.int .i64 0)).take k = List.replicate k (Value.int .i64 x) := by
    rw [List.take_append_of_le_length (by simp), List.take_of_length_le (by simp)]
  have e2 : (List.replicate k (Value.int .i64 x) ++ List.replicate (n - k) (Value.int .i64 0)).drop (k + m) = List.replicate (n - (k + m)) (Value.int .i64 0) := by
    rw [List.drop_append, List.drop_of_length_le (by simp), List.nil_append, List.length_replicate, List.drop_replicate]
    congr 1; omega
  rw [e1, e2, List.take_replicate, Nat.min_eq_left hm, List.replicate_append_replicate]
theorem repR_first {x : Int} {n : Nat} (h : 1 ≤ n) : ([] : List Value) ++ (I [x]).take 1 ++ (I (List.replicate n 0)).drop (0 + 1) = I (repR x n 1) := by
  unfold repR I
  simp
theorem Repeat_spec (x : Int) (n : Nat) (h1 : 1 ≤ n) (h : n ≤ 8) : Spec Try.prog 104 [.rd (I [x]), .v (.int .i64 n)] (.own 0) [.row 2 (I (List.replicate n x))] := by
  have hw : IntKind.u64.wrap ((1 : Nat) : Int) = 1 := by decide
  have hn : IntKind.u64.wrap (n : Int) = n := by
    have h9 : n = 1 ∨ n = 2 ∨ n = 3 ∨ n = 4 ∨ n = 5 ∨ n = 6 ∨ n = 7 ∨ n = 8 := by omega
    rcases h9 with rfl | rfl | rfl | rfl | rfl | rfl | rfl | rfl <;> decide
  refine Spec.of_code T_ok Try.func104 rfl Try.ntmps104 Try.call104 (Nat.le_of_ble_eq_true rfl) rfl rfl (CodeV_sound T_ok (by kernel_rfl) rfl ?_)
  simp only [Try.results104, go_sem, Nat.reduceMul, Nat.reduceLeDiff, Nat.reduceLT, reduceIte, reduceCtorEq, Nat.reduceEqDiff, Nat.reduceSub, Nat.reduceAdd]
  refine ⟨fun q => absurd q (by omega), fun _ => ?_⟩
  rw [hw, hn]
  refine HereO.call T_ok rfl rfl (Mul_spec n h) (by simp only [go_sem, Nat.reduceMul, Nat.reduceLeDiff, Nat.reduceLT, reduceIte, reduceCtorEq, Nat.reduceEqDiff, Nat.reduceSub, Nat.reduceAdd, List.toList_toArray] <;> first | rfl | exact ⟨rfl, rfl⟩) rfl ?_
  simp only [Try.results104, go_sem, Nat.reduceMul, Nat.reduceLeDiff, Nat.reduceLT, reduceIte, reduceCtorEq, Nat.reduceEqDiff, Nat.reduceSub, Nat.reduceAdd]
  refine ⟨fun _ => ⟨fun q => absurd q (by omega), fun _ => ⟨by unfold InR; omega, ?_⟩⟩, fun q => absurd q (by omega)⟩
  refine HereO.makeSlice T_ok (kk := .i64) (m := (n : Int)) 130 rfl rfl (by simp only [go_sem, Nat.reduceMul, Nat.reduceLeDiff, Nat.reduceLT, reduceIte, reduceCtorEq, Nat.reduceEqDiff, Nat.reduceSub, Nat.reduceAdd] <;> rfl) (by omega) (by omega) (by decide) (by decide) ?_
  simp only [Try.results104, go_sem, Nat.reduceMul, Nat.reduceLeDiff, Nat.reduceLT, reduceIte, reduceCtorEq, Nat.reduceEqDiff, Nat.reduceSub, Nat.reduceAdd]
  refine HereO.copy T_ok (vs := List.replicate n (.int .i64 0)) 130 0 n (I [x]) rfl rfl (.inl ⟨by simp only [Try.results104, go_sem, Nat.reduceMul, Nat.reduceLeDiff, Nat.reduceLT, reduceIte, reduceCtorEq, Nat.reduceEqDiff, Nat.reduceSub, Nat.reduceAdd], rfl, by simp⟩) (by simp only [go_sem, Nat.reduceMul, Nat.reduceLeDiff, Nat.reduceLT, reduceIte, reduceCtorEq, Nat.reduceEqDiff, Nat.reduceSub, Nat.reduceAdd] <;> rfl) (.rd _) (I_one _) ?_
  simp only [Try.results104, go_sem, Nat.reduceMul, Nat.reduceLeDiff, Nat.reduceLT, reduceIte, reduceCtorEq, Nat.reduceEqDiff, Nat.reduceSub, Nat.reduceAdd]
  have hm : min 1 n = 1 := by omega
  rw [hm]
  refine Here.loopV T_ok (fun k => 1 ≤ k ∧ k ≤ n) (fun k => n - k) (fun k => [(7, .own 130), (8, .v (.int .i64 k))]) (fun k => [(130, .row 2 (I (repR x n k)))]) 1 ⟨by omega, h1⟩ (by simp only [Try.results104, go_sem, Nat.reduceMul, Nat.reduceLeDiff, Nat.reduceLT, reduceIte, reduceCtorEq, Nat.reduceEqDiff, Nat.reduceSub, Nat.reduceAdd]) (by simp only [Try.results104, go_sem, Nat.reduceMul, Nat.reduceLeDiff, Nat.reduceLT, reduceIte, reduceCtorEq, Nat.reduceEqDiff, Nat.reduceSub, Nat.reduceAdd]; simp [repR, I]) ?_
  rintro k ⟨hk1, hk⟩
  have hlen : (I (repR x n k)).length = n := by rw [I_len, repR_len hk]
  have hlen2 : (repR x n k).length = n := repR_len hk
  simp only [Try.results104, go_sem, Nat.reduceMul, Nat.reduceLeDiff, Nat.reduceLT, reduceIte, reduceCtorEq, Nat.reduceEqDiff, Nat.reduceSub, Nat.reduceAdd]
  rw [hlen2]
  refine ⟨fun h2 => ?_, fun h2 => ?_⟩
  · refine Here.drawSJ T_ok 7 [0] (by decide) (Nat.le_of_ble_eq_true rfl) mixed_ok (by kernel_rfl) (by kernel_rfl) (by kernel_rfl) ?_
    simp only [Try.results104, go_sem, Nat.reduceMul, Nat.reduceLeDiff, Nat.reduceLT, reduceIte, reduceCtorEq, Nat.reduceEqDiff, Nat.reduceSub, Nat.reduceAdd]
    refine ⟨_, OpP.sliceOwn T_ok (vs := I (repR x n k)) k n rfl rfl (by simp only [go_sem, Nat.reduceMul, Nat.reduceLeDiff, Nat.reduceLT, reduceIte, reduceCtorEq, Nat.reduceEqDiff, Nat.reduceSub, Nat.reduceAdd] <;> rfl) (by simp only [go_sem, Nat.reduceMul, Nat.reduceLeDiff, Nat.reduceLT, reduceIte, reduceCtorEq, Nat.reduceEqDiff, Nat.reduceSub, Nat.reduceAdd] <;> rfl) ⟨_, (by simp only [go_sem, Nat.reduceMul, Nat.reduceLeDiff, Nat.reduceLT, reduceIte, reduceCtorEq, Nat.reduceEqDiff, Nat.reduceSub, Nat.reduceAdd] <;> rfl)⟩ hlen.symm (by omega) (by omega), ?_⟩
    simp only [Try.results104, go_sem, Nat.reduceMul, Nat.reduceLeDiff, Nat.reduceLT, reduceIte, reduceCtorEq, Nat.reduceEqDiff, Nat.reduceSub, Nat.reduceAdd]
    refine ⟨_, OpP.sliceOwn T_ok (vs := I (repR x n k)) 0 k rfl rfl (by simp only [go_sem, Nat.reduceMul, Nat.reduceLeDiff, Nat.reduceLT, reduceIte, reduceCtorEq, Nat.reduceEqDiff, Nat.reduceSub, Nat.reduceAdd] <;> rfl) (by simp only [go_sem, Nat.reduceMul, Nat.reduceLeDiff, Nat.reduceLT, reduceIte, reduceCtorEq, Nat.reduceEqDiff, Nat.reduceSub, Nat.reduceAdd] <;> rfl) rfl ⟨_, (by simp only [go_sem, Nat.reduceMul, Nat.reduceLeDiff, Nat.reduceLT, reduceIte, reduceCtorEq, Nat.reduceEqDiff, Nat.reduceSub, Nat.reduceAdd] <;> rfl)⟩ (by omega) (by omega), ?_⟩
    simp only [Try.results104, go_sem, Nat.reduceMul, Nat.reduceLeDiff, Nat.reduceLT, reduceIte, reduceCtorEq, Nat.reduceEqDiff, Nat.reduceSub, Nat.reduceAdd]
    refine HereO.copy T_ok (vs := I (repR x n k)) 130 k (n - k) ((((I (repR x n k)).drop 0).take k)) rfl rfl (.inr ⟨by simp only [Try.results104, go_sem, Nat.reduceMul, Nat.reduceLeDiff, Nat.reduceLT, reduceIte, reduceCtorEq, Nat.reduceEqDiff, Nat.reduceSub, Nat.reduceAdd], by rw [hlen]; omega⟩) (by simp only [go_sem, Nat.reduceMul, Nat.reduceLeDiff, Nat.reduceLT, reduceIte, reduceCtorEq, Nat.reduceEqDiff, Nat.reduceSub, Nat.reduceAdd] <;> rfl) (.sub 130 0 k 2 _ (by simp only [Try.results104, go_sem, Nat.reduceMul, Nat.reduceLeDiff, Nat.reduceLT, reduceIte, reduceCtorEq, Nat.reduceEqDiff, Nat.reduceSub, Nat.reduceAdd]) (by rw [hlen]; omega)) (fun u hu => I_one _ u (List.mem_of_mem_drop (List.mem_of_mem_take hu))) ?_
    simp only [Try.results104, go_sem, Nat.reduceMul, Nat.reduceLeDiff, Nat.reduceLT, reduceIte, reduceCtorEq, Nat.reduceEqDiff, Nat.reduceSub, Nat.reduceAdd]
    have hl2 : (List.take k (I (repR x n k))).length = k := by rw [List.length_take, hlen]; omega
    rw [hl2]
    have e := repR_copy (x := x) hk (m := min k (n - k)) (by omega) (by omega)
    rw [List.drop_zero] at e
    rw [e]
    exact ⟨by unfold InR; omega, k + min k (n - k), ⟨by omega, by omega⟩, by omega, by push_cast; rfl, rfl⟩
  · have : k = n := by omega
    subst this
    have e : repR x k k = List.replicate k x := by unfold repR; simp
    rw [e]
    refine RetT.one 130 (by simp only [Try.results104, go_sem, Nat.reduceMul, Nat.reduceLeDiff, Nat.reduceLT, reduceIte, reduceCtorEq, Nat.reduceEqDiff, Nat.reduceSub, Nat.reduceAdd]; rfl) rfl ?_
    simp only [Try.results104, go_sem, Nat.reduceMul, Nat.reduceLeDiff, Nat.reduceLT, reduceIte, reduceCtorEq, Nat.reduceEqDiff, Nat.reduceSub, Nat.reduceAdd]
def codeT (t : List (List Int)) (m : Int) : Int := if Grp t then (if 2 ≤ m ∧ m ≤ 12 then 0 else 2) else 1
def trivM (t : List (List Int)) (m : Int) : Int := if codeT t m = 0 then m else 0
def trivL (t : List (List Int)) (m : Int) : List Int := if codeT t m = 0 then List.replicate t.length 1 else []
theorem codeT_ok {t : List (List Int)} {m : Int} (h : codeT t m = 0) : Grp t := by
  unfold codeT at h
  split at h
  · assumption
  · omega
theorem trivL_ok (t : List (List Int)) (m : Int) : (trivL t m).length ≤ 1048576 := by
  unfold trivL
  split
  · rename_i h
    have := (codeT_ok h).2.1
    simp; omega
  · simp
end Go.Proofs.Ytdbkiomhoonclaa
