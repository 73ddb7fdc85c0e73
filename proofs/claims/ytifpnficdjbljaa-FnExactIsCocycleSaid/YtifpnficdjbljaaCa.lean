/- Contracts: lists of elements by their number, ListOf. -/
import Derived.Test.YtifpnficdjbljaaHa
import Derived.Test.YtifpnficdjbljaaGb
namespace Go.Proofs.Ytifpnficdjbljaa
open Go.RowKit
set_option linter.unusedVariables false
set_option linter.unusedSimpArgs false
set_option maxRecDepth 100000

/-- The list of n elements with the number i. -/
def lst (b : Nat) : Nat → Nat → List Int
  | 0, _ => []
  | n + 1, i => lst b n (i / b) ++ [((1 + i % b : Nat) : Int)]
theorem lst_len (b : Nat) : ∀ n i, (lst b n i).length = n
  | 0, _ => rfl
  | n + 1, i => by simp [lst, lst_len b n]
theorem put_last (k : Nat) (x : Int) (suf : List Int) : (List.replicate (k + 1) (0 : Int) ++ suf).set k x = List.replicate k 0 ++ (x :: suf) := by
  rw [List.set_append_left _ _ (by simp), List.replicate_succ']
  rw [List.set_append_right _ _ (by simp)]
  simp

theorem listOf_spec (t : List (List Int)) (h1 : 1 ≤ t.length) (h8 : t.length ≤ 8) (n i : Nat) (hn : n ≤ 64) (hb : 0 < n → 2 ≤ t.length) (hi : i ≤ 1000000000) : Spec Try.prog 101 [.agg [.rds (II t)], .v (.int .i64 n), .v (.int .i64 i)] (.own 0) [.row 2 (I (lst (t.length - 1) n i))] := by
  have hb1 : ((t.length : Int) - 1) = ((t.length - 1 : Nat) : Int) := by omega
  refine Spec.of_code T_ok Try.func101 rfl Try.ntmps101 Try.call101 (Nat.le_of_ble_eq_true rfl) rfl rfl (CodeV_sound T_ok (by kernel_rfl) rfl ?_)
  simp only [Try.results101, go_sem, Nat.reduceMul, Nat.reduceLeDiff, Nat.reduceLT, reduceIte, reduceCtorEq, Nat.reduceEqDiff, Nat.reduceSub, Nat.reduceAdd]
  refine Here.drawB T_ok [⟨1, 107, 2, List.replicate n (.int .i64 0), [5], false⟩] mixed_ok (by kernel_rfl) (by kernel_rfl) (by simp) (by simp) ?_
  simp only [Try.results101, go_sem, Nat.reduceMul, Nat.reduceLeDiff, Nat.reduceLT, reduceIte, reduceCtorEq, Nat.reduceEqDiff, Nat.reduceSub, Nat.reduceAdd]
  refine HereN.birth (List.mem_cons_self ..) rfl rfl (OpN.makeSlice (m := (n : Int)) T_ok rfl rfl rfl (by omega) (by omega) (by omega)) (by simp only [Try.results101, go_sem, Nat.reduceMul, Nat.reduceLeDiff, Nat.reduceLT, reduceIte, reduceCtorEq, Nat.reduceEqDiff, Nat.reduceSub, Nat.reduceAdd]) ?_
  simp only [Try.results101, go_sem, Nat.reduceMul, Nat.reduceLeDiff, Nat.reduceLT, reduceIte, reduceCtorEq, Nat.reduceEqDiff, Nat.reduceSub, Nat.reduceAdd]
  refine HereN.op (OpP.call' rfl rfl (order_spec t) (by simp only [go_sem, Nat.reduceMul, Nat.reduceLeDiff, Nat.reduceLT, reduceIte, reduceCtorEq, Nat.reduceEqDiff, Nat.reduceSub, Nat.reduceAdd, List.toList_toArray]) rfl) (by simp only [Try.results101, go_sem, Nat.reduceMul, Nat.reduceLeDiff, Nat.reduceLT, reduceIte, reduceCtorEq, Nat.reduceEqDiff, Nat.reduceSub, Nat.reduceAdd]) ?_
  simp only [Try.results101, go_sem, Nat.reduceMul, Nat.reduceLeDiff, Nat.reduceLT, reduceIte, reduceCtorEq, Nat.reduceEqDiff, Nat.reduceSub, Nat.reduceAdd]
  refine ⟨by unfold InR; omega, HereE.of (Conv.born 7 (id := 107) (e := 2) (vs := List.replicate n (.int .i64 0)) rfl rfl) ?_⟩
  simp only [Try.results101, go_sem, Nat.reduceMul, Nat.reduceLeDiff, Nat.reduceLT, reduceIte, reduceCtorEq, Nat.reduceEqDiff, Nat.reduceSub, Nat.reduceAdd]
  refine ⟨by unfold InR; omega, ?_⟩
  refine Here.loopV T_ok (κ := Nat × Nat × List Int) (fun k => k.1 ≤ n ∧ k.2.1 ≤ 1000000000 ∧ k.2.2.length = n - k.1 ∧ lst (t.length - 1) n i = lst (t.length - 1) k.1 k.2.1 ++ k.2.2) (fun k => k.1)
    (fun k => [(2, .v (.int .i64 k.2.1)), (7, .own 107), (8, .v (.int .i64 ((t.length - 1 : Nat) : Int))), (9, .v (.int .i64 ((k.1 : Int) - 1)))]) (fun k => [(107, .row 2 (I (List.replicate k.1 0 ++ k.2.2)))]) (n, i, []) ⟨by simp, hi, by simp, by simp⟩ (by simp only [Try.results101, go_sem, Nat.reduceMul, Nat.reduceLeDiff, Nat.reduceLT, reduceIte, reduceCtorEq, Nat.reduceEqDiff, Nat.reduceSub, Nat.reduceAdd]; simp [hb1]) (by simp only [Try.results101, go_sem, Nat.reduceMul, Nat.reduceLeDiff, Nat.reduceLT, reduceIte, reduceCtorEq, Nat.reduceEqDiff, Nat.reduceSub, Nat.reduceAdd]; simp [I_rep]) ?_
  rintro ⟨k, j, suf⟩ ⟨hk, hj, hl, hs⟩
  simp only at hk hj hl hs
  have hrow : (List.replicate k 0 ++ suf).length = n := by simp; omega
  simp only [Try.results101, go_sem, Nat.reduceMul, Nat.reduceLeDiff, Nat.reduceLT, reduceIte, reduceCtorEq, Nat.reduceEqDiff, Nat.reduceSub, Nat.reduceAdd]
  refine ⟨fun h2 => ?_, fun h2 => ?_⟩
  · obtain ⟨m, rfl⟩ : ∃ m, k = m + 1 := ⟨k - 1, by omega⟩
    have hb2 := hb (by omega)
    have e1 : (j : Int).tmod ((t.length - 1 : Nat) : Int) = ((j % (t.length - 1) : Nat) : Int) := rfl
    have e2 : (j : Int).tdiv ((t.length - 1 : Nat) : Int) = ((j / (t.length - 1) : Nat) : Int) := rfl
    have e3 : (((m + 1 : Nat) : Int) - 1) = (m : Int) := by omega
    have hmod : j % (t.length - 1) < t.length - 1 := Nat.mod_lt _ (by omega)
    have hdiv : j / (t.length - 1) ≤ j := Nat.div_le_self _ _
    have e4 : InR ((j / (t.length - 1) : Nat) : Int) := by unfold InR; generalize j / (t.length - 1) = q at hdiv; omega
    rw [e1, e3, hrow]
    refine ⟨by omega, by unfold InR; omega, ⟨by omega, by omega⟩, ?_⟩
    refine HereO.storeRow T_ok rfl rfl rfl rfl rfl rfl (by rw [I_len, hrow, Int.toNat_natCast]; omega) ?_
    simp only [Try.results101, go_sem, Nat.reduceMul, Nat.reduceLeDiff, Nat.reduceLT, reduceIte, reduceCtorEq, Nat.reduceEqDiff, Nat.reduceSub, Nat.reduceAdd]
    refine ⟨⟨by omega, by rw [e2]; exact e4⟩, by unfold InR; omega, (m, j / (t.length - 1), ((1 + j % (t.length - 1) : Nat) : Int) :: suf), ⟨by simp only; omega, by simp only; omega, by simp only [List.length_cons]; omega, ?_⟩, by simp only; omega, ⟨by rw [e2], rfl⟩, ?_⟩
    · simp only
      rw [hs, lst, List.append_assoc]
      rfl
    · simp only
      rw [I_set, ← put_last]
      rfl
  · have : k = 0 := by omega
    subst this
    refine RetT.one 107 (by simp only [Try.results101, go_sem, Nat.reduceMul, Nat.reduceLeDiff, Nat.reduceLT, reduceIte, reduceCtorEq, Nat.reduceEqDiff, Nat.reduceSub, Nat.reduceAdd]; rfl) rfl ?_
    simp only [Try.results101, go_sem, Nat.reduceMul, Nat.reduceLeDiff, Nat.reduceLT, reduceIte, reduceCtorEq, Nat.reduceEqDiff, Nat.reduceSub, Nat.reduceAdd]
    rw [hs]
    simp [lst]
theorem l03List_spec (t : List (List Int)) (h1 : 1 ≤ t.length) (h8 : t.length ≤ 8) (n i : Nat) (hn : n ≤ 64) (hb : 0 < n → 2 ≤ t.length) (hi : i ≤ 1000000000) : Spec Try.prog 96 [.agg [.rds (II t)], .v (.int .i64 n), .v (.int .i64 i)] (.own 0) [.row 2 (I (lst (t.length - 1) n i))] := by
  have hb1 : ((t.length : Int) - 1) = ((t.length - 1 : Nat) : Int) := by omega
  refine Spec.of_code T_ok Try.func96 rfl Try.ntmps96 Try.call96 (Nat.le_of_ble_eq_true rfl) rfl rfl (CodeV_sound T_ok (by kernel_rfl) rfl ?_)
  simp only [Try.results96, go_sem, Nat.reduceMul, Nat.reduceLeDiff, Nat.reduceLT, reduceIte, reduceCtorEq, Nat.reduceEqDiff, Nat.reduceSub, Nat.reduceAdd]
  refine Here.drawB T_ok [⟨1, 107, 2, List.replicate n (.int .i64 0), [5], false⟩] mixed_ok (by kernel_rfl) (by kernel_rfl) (by simp) (by simp) ?_
  simp only [Try.results96, go_sem, Nat.reduceMul, Nat.reduceLeDiff, Nat.reduceLT, reduceIte, reduceCtorEq, Nat.reduceEqDiff, Nat.reduceSub, Nat.reduceAdd]
  refine HereN.birth (List.mem_cons_self ..) rfl rfl (OpN.makeSlice (m := (n : Int)) T_ok rfl rfl rfl (by omega) (by omega) (by omega)) (by simp only [Try.results96, go_sem, Nat.reduceMul, Nat.reduceLeDiff, Nat.reduceLT, reduceIte, reduceCtorEq, Nat.reduceEqDiff, Nat.reduceSub, Nat.reduceAdd]) ?_
  simp only [Try.results96, go_sem, Nat.reduceMul, Nat.reduceLeDiff, Nat.reduceLT, reduceIte, reduceCtorEq, Nat.reduceEqDiff, Nat.reduceSub, Nat.reduceAdd]
  refine HereN.op (OpP.call' rfl rfl (l01N_spec t) (by simp only [go_sem, Nat.reduceMul, Nat.reduceLeDiff, Nat.reduceLT, reduceIte, reduceCtorEq, Nat.reduceEqDiff, Nat.reduceSub, Nat.reduceAdd, List.toList_toArray]) rfl) (by simp only [Try.results96, go_sem, Nat.reduceMul, Nat.reduceLeDiff, Nat.reduceLT, reduceIte, reduceCtorEq, Nat.reduceEqDiff, Nat.reduceSub, Nat.reduceAdd]) ?_
  simp only [Try.results96, go_sem, Nat.reduceMul, Nat.reduceLeDiff, Nat.reduceLT, reduceIte, reduceCtorEq, Nat.reduceEqDiff, Nat.reduceSub, Nat.reduceAdd]
  refine ⟨by unfold InR; omega, HereE.of (Conv.born 7 (id := 107) (e := 2) (vs := List.replicate n (.int .i64 0)) rfl rfl) ?_⟩
  simp only [Try.results96, go_sem, Nat.reduceMul, Nat.reduceLeDiff, Nat.reduceLT, reduceIte, reduceCtorEq, Nat.reduceEqDiff, Nat.reduceSub, Nat.reduceAdd]
  refine ⟨by unfold InR; omega, ?_⟩
  refine Here.loopV T_ok (κ := Nat × Nat × List Int) (fun k => k.1 ≤ n ∧ k.2.1 ≤ 1000000000 ∧ k.2.2.length = n - k.1 ∧ lst (t.length - 1) n i = lst (t.length - 1) k.1 k.2.1 ++ k.2.2) (fun k => k.1)
    (fun k => [(2, .v (.int .i64 k.2.1)), (7, .own 107), (8, .v (.int .i64 ((t.length - 1 : Nat) : Int))), (9, .v (.int .i64 ((k.1 : Int) - 1)))]) (fun k => [(107, .row 2 (I (List.replicate k.1 0 ++ k.2.2)))]) (n, i, []) ⟨by simp, hi, by simp, by simp⟩ (by simp only [Try.results96, go_sem, Nat.reduceMul, Nat.reduceLeDiff, Nat.reduceLT, reduceIte, reduceCtorEq, Nat.reduceEqDiff, Nat.reduceSub, Nat.reduceAdd]; simp [hb1]) (by simp only [Try.results96, go_sem, Nat.reduceMul, Nat.reduceLeDiff, Nat.reduceLT, reduceIte, reduceCtorEq, Nat.reduceEqDiff, Nat.reduceSub, Nat.reduceAdd]; simp [I_rep]) ?_
  rintro ⟨k, j, suf⟩ ⟨hk, hj, hl, hs⟩
  simp only at hk hj hl hs
  have hrow : (List.replicate k 0 ++ suf).length = n := by simp; omega
  simp only [Try.results96, go_sem, Nat.reduceMul, Nat.reduceLeDiff, Nat.reduceLT, reduceIte, reduceCtorEq, Nat.reduceEqDiff, Nat.reduceSub, Nat.reduceAdd]
  refine ⟨fun h2 => ?_, fun h2 => ?_⟩
  · obtain ⟨m, rfl⟩ : ∃ m, k = m + 1 := ⟨k - 1, by omega⟩
    have hb2 := hb (by omega)
    have e1 : (j : Int).tmod ((t.length - 1 : Nat) : Int) = ((j % (t.length - 1) : Nat) : Int) := rfl
    have e2 : (j : Int).tdiv ((t.length - 1 : Nat) : Int) = ((j / (t.length - 1) : Nat) : Int) := rfl
    have e3 : (((m + 1 : Nat) : Int) - 1) = (m : Int) := by omega
    have hmod : j % (t.length - 1) < t.length - 1 := Nat.mod_lt _ (by omega)
    have hdiv : j / (t.length - 1) ≤ j := Nat.div_le_self _ _
    have e4 : InR ((j / (t.length - 1) : Nat) : Int) := by unfold InR; generalize j / (t.length - 1) = q at hdiv; omega
    rw [e1, e3, hrow]
    refine ⟨by omega, by unfold InR; omega, ⟨by omega, by omega⟩, ?_⟩
    refine HereO.storeRow T_ok rfl rfl rfl rfl rfl rfl (by rw [I_len, hrow, Int.toNat_natCast]; omega) ?_
    simp only [Try.results96, go_sem, Nat.reduceMul, Nat.reduceLeDiff, Nat.reduceLT, reduceIte, reduceCtorEq, Nat.reduceEqDiff, Nat.reduceSub, Nat.reduceAdd]
    refine ⟨⟨by omega, by rw [e2]; exact e4⟩, by unfold InR; omega, (m, j / (t.length - 1), ((1 + j % (t.length - 1) : Nat) : Int) :: suf), ⟨by simp only; omega, by simp only; omega, by simp only [List.length_cons]; omega, ?_⟩, by simp only; omega, ⟨by rw [e2], rfl⟩, ?_⟩
    · simp only
      rw [hs, lst, List.append_assoc]
      rfl
    · simp only
      rw [I_set, ← put_last, Int.add_comm]
      rfl
  · have : k = 0 := by omega
    subst this
    refine RetT.one 107 (by simp only [Try.results96, go_sem, Nat.reduceMul, Nat.reduceLeDiff, Nat.reduceLT, reduceIte, reduceCtorEq, Nat.reduceEqDiff, Nat.reduceSub, Nat.reduceAdd]; rfl) rfl ?_
    simp only [Try.results96, go_sem, Nat.reduceMul, Nat.reduceLeDiff, Nat.reduceLT, reduceIte, reduceCtorEq, Nat.reduceEqDiff, Nat.reduceSub, Nat.reduceAdd]
    rw [hs]
    simp [lst]

def listC (t : List (List Int)) (n i : Int) : Int := if Grp t then (if (0 ≤ n ∧ n ≤ 3) ∧ 0 ≤ i ∧ i < ((t.length : Int) - 1) ^ n.toNat then 0 else 2) else 1
def listL (t : List (List Int)) (n i : Int) : List Int := if listC t n i = 0 then lst (t.length - 1) n.toNat i.toNat else []
theorem listL_ok (t : List (List Int)) (n i : Int) : (listL t n i).length ≤ 1048576 := by
  unfold listL
  split
  · rename_i h
    rw [lst_len]
    unfold listC at h
    split at h
    · split at h
      · omega
      · cases h
    · cases h
  · simp
theorem list_ok {t : List (List Int)} (h : Grp t) {n i : Int} (h2 : 0 ≤ n ∧ n ≤ 3) (h3 : 0 ≤ i) (h4 : i < ((t.length : Int) - 1) ^ n.toNat) : ∃ m j : Nat, n = m ∧ i = j ∧ m ≤ 3 ∧ j ≤ 1000 ∧ (0 < m → 2 ≤ t.length) ∧ listC t n i = 0 := by
  have h0 := h.1
  have h8 := h.2.1
  obtain ⟨m, rfl⟩ := Int.eq_ofNat_of_zero_le h2.1
  obtain ⟨j, rfl⟩ := Int.eq_ofNat_of_zero_le h3
  have hc : listC t m j = 0 := by simp only [listC, if_pos h]; rw [if_pos ⟨h2, h3, h4⟩]
  rw [Int.toNat_natCast] at h4
  have hp := pow_small (b := (t.length : Int) - 1) (by omega) (by omega) m (by omega)
  refine ⟨m, j, rfl, rfl, by omega, by omega, fun hm => ?_, hc⟩
  apply Classical.byContradiction
  intro hn
  have h1 : ((t.length : Int) - 1) = 0 := by omega
  rw [h1, Int.zero_pow (by omega)] at h4
  omega
end Go.Proofs.Ytifpnficdjbljaa
