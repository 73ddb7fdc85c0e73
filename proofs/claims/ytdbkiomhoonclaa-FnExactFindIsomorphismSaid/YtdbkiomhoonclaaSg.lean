/- Contracts: subgroups told, IsNormal. -/
import Derived.Test.YtdbkiomhoonclaaSf
namespace Go.Proofs.Ytdbkiomhoonclaa
open Go.RowKit
set_option linter.unusedVariables false
set_option linter.unusedSimpArgs false
set_option maxRecDepth 100000

theorem Equal_spec (l m : List Int) (hl : l.length ≤ 1048576) (hm : m.length ≤ 1048576) : Spec Try.prog 65 [.rd (I l), .rd (I m)] (.v (.bool (decide (l = m)))) [] := by
  refine Spec.of_code T_ok Try.func65 rfl Try.ntmps65 Try.call65 (Nat.le_of_ble_eq_true rfl) rfl rfl (CodeV_sound T_ok (by kernel_rfl) rfl ?_)
  simp only [Try.results65, go_sem, Nat.reduceMul, Nat.reduceLeDiff, Nat.reduceLT, reduceIte, reduceCtorEq, Nat.reduceEqDiff, Nat.reduceSub, Nat.reduceAdd]
  refine ⟨fun h => ?_, fun h => ?_⟩
  · symm
    exact decide_eq_false fun q => h (by rw [q])
  · have hlen : l.length = m.length := by omega
    refine Here.loopV T_ok (fun k => k ≤ l.length ∧ ∀ j, j < k → l.getD j 0 = m.getD j 0) (fun k => l.length - k) (fun k => [(0, .rd (I l)), (1, .rd (I m)), (12, .v (.int .i64 l.length)), (13, .v (.int .i64 k))]) (fun _ => []) 0 (by simp) (by simp only [Try.results65, go_sem, Nat.reduceMul, Nat.reduceLeDiff, Nat.reduceLT, reduceIte, reduceCtorEq, Nat.reduceEqDiff, Nat.reduceSub, Nat.reduceAdd]; simp) trivial ?_
    rintro k ⟨hk, hj⟩
    simp only [Try.results65, go_sem, Nat.reduceMul, Nat.reduceLeDiff, Nat.reduceLT, reduceIte, reduceCtorEq, Nat.reduceEqDiff, Nat.reduceSub, Nat.reduceAdd]
    refine ⟨fun h2 => ?_, fun h2 => ?_⟩
    · refine Here.draw T_ok mixed_ok (by kernel_rfl) ?_
      simp only [Try.results65, go_sem, Nat.reduceMul, Nat.reduceLeDiff, Nat.reduceLT, reduceIte, reduceCtorEq, Nat.reduceEqDiff, Nat.reduceSub, Nat.reduceAdd]
      refine ⟨⟨by omega, by omega⟩, ⟨by omega, by omega⟩, fun h3 => ?_, fun h3 => ⟨by unfold InR; omega, k + 1, ⟨by omega, fun j hj' => ?_⟩, by omega, by push_cast; rfl⟩⟩
      · symm
        exact decide_eq_false fun q => h3 (by rw [q])
      · by_cases e : j = k
        · subst e; exact h3
        · exact hj j (by omega)
    · symm
      exact decide_eq_true (getD_eq' (d := 0) hlen fun j hj' => hj j (by omega))
theorem isSubgroup_spec (t : List (List Int)) (hg : Grp t) (l : List Int) (hS : AreIn t.length l) (hl : l.length ≤ 1048576) : Spec Try.prog 73 [.agg [.rds (II t)], .rd (I l)] (.v (.bool (decide (genL t l = l)))) [] := by
  have h8 := hg.2.1
  have := genL_len t l
  refine Spec.of_code T_ok Try.func73 rfl Try.ntmps73 Try.call73 (Nat.le_of_ble_eq_true rfl) rfl rfl (CodeV_sound T_ok (by kernel_rfl) rfl ?_)
  simp only [Try.results73, go_sem, Nat.reduceMul, Nat.reduceLeDiff, Nat.reduceLT, reduceIte, reduceCtorEq, Nat.reduceEqDiff, Nat.reduceSub, Nat.reduceAdd]
  refine HereO.call T_ok rfl rfl (subgroup_spec t hg l hS hl) (by simp only [go_sem, Nat.reduceMul, Nat.reduceLeDiff, Nat.reduceLT, reduceIte, reduceCtorEq, Nat.reduceEqDiff, Nat.reduceSub, Nat.reduceAdd, List.toList_toArray] <;> first | rfl | exact ⟨rfl, rfl⟩) rfl ?_
  simp only [Try.results73, go_sem, Nat.reduceMul, Nat.reduceLeDiff, Nat.reduceLT, reduceIte, reduceCtorEq, Nat.reduceEqDiff, Nat.reduceSub, Nat.reduceAdd]
  refine HereO.call T_ok rfl rfl (Equal_spec (genL t l) l (by omega) hl) (by simp only [go_sem, Nat.reduceMul, Nat.reduceLeDiff, Nat.reduceLT, reduceIte, reduceCtorEq, Nat.reduceEqDiff, Nat.reduceSub, Nat.reduceAdd, List.toList_toArray] <;> first | rfl | exact ⟨rfl, rfl⟩) rfl ?_
  simp only [Try.results73, go_sem, Nat.reduceMul, Nat.reduceLeDiff, Nat.reduceLT, reduceIte, reduceCtorEq, Nat.reduceEqDiff, Nat.reduceSub, Nat.reduceAdd]
noncomputable def subC (t : List (List Int)) (l : List Int) : Int := if setE t l = 0 then (if genL t l = l then 0 else 5) else setE t l
theorem subgroupCode_spec (t : List (List Int)) (l : List Int) (hl : l.length ≤ 1048576) : Spec Try.prog 57 [.agg [.rds (II t)], .rd (I l)] (.v (.int .i64 (subC t l))) [] := by
  refine Spec.of_code T_ok Try.func57 rfl Try.ntmps57 Try.call57 (Nat.le_of_ble_eq_true rfl) rfl rfl (CodeV_sound T_ok (by kernel_rfl) rfl ?_)
  simp only [Try.results57, go_sem, Nat.reduceMul, Nat.reduceLeDiff, Nat.reduceLT, reduceIte, reduceCtorEq, Nat.reduceEqDiff, Nat.reduceSub, Nat.reduceAdd]
  refine HereO.call T_ok rfl rfl (setCode_spec t l hl) (by simp only [go_sem, Nat.reduceMul, Nat.reduceLeDiff, Nat.reduceLT, reduceIte, reduceCtorEq, Nat.reduceEqDiff, Nat.reduceSub, Nat.reduceAdd, List.toList_toArray] <;> first | rfl | exact ⟨rfl, rfl⟩) rfl ?_
  simp only [Try.results57, go_sem, Nat.reduceMul, Nat.reduceLeDiff, Nat.reduceLT, reduceIte, reduceCtorEq, Nat.reduceEqDiff, Nat.reduceSub, Nat.reduceAdd]
  refine ⟨fun h => ?_, fun h => ?_⟩
  · rw [subC, if_neg h]
  · obtain ⟨hg, ha, hi⟩ := setE_ok h
    refine HereO.call T_ok rfl rfl (isSubgroup_spec t hg l hi hl) (by simp only [go_sem, Nat.reduceMul, Nat.reduceLeDiff, Nat.reduceLT, reduceIte, reduceCtorEq, Nat.reduceEqDiff, Nat.reduceSub, Nat.reduceAdd, List.toList_toArray] <;> first | rfl | exact ⟨rfl, rfl⟩) rfl ?_
    simp only [Try.results57, go_sem, Nat.reduceMul, Nat.reduceLeDiff, Nat.reduceLT, reduceIte, reduceCtorEq, Nat.reduceEqDiff, Nat.reduceSub, Nat.reduceAdd]
    exact ⟨fun h2 => by rw [subC, if_pos h, if_neg h2], fun h2 => by rw [subC, if_pos h, if_pos h2]⟩
theorem subC_ok {t : List (List Int)} {l : List Int} (h : subC t l = 0) : Grp t ∧ AscD l ∧ AreIn t.length l ∧ genL t l = l := by
  unfold subC at h
  split at h
  · rename_i q
    obtain ⟨hg, ha, hi⟩ := setE_ok q
    split at h
    · rename_i e; exact ⟨hg, ha, hi, e⟩
    · omega
  · rename_i q; exact absurd h q
open Classical in
noncomputable def nrmB (t : List (List Int)) (l : List Int) : Bool := decide (∀ j a, j < l.length → a < t.length → ((cjN t a (l.getD j 0).toNat : Nat) : Int) ∈ l)
theorem nrm_false {t : List (List Int)} {l : List Int} {j a : Nat} (hj : j < l.length) (ha : a < t.length) (h : ((cjN t a (l.getD j 0).toNat : Nat) : Int) ∉ l) : nrmB t l = false := by unfold nrmB; simp only [decide_eq_false_iff_not]; exact fun q => h (q j a hj ha)
theorem nrm_true {t : List (List Int)} {l : List Int} (h : ∀ j a, j < l.length → a < t.length → ((cjN t a (l.getD j 0).toNat : Nat) : Int) ∈ l) : nrmB t l = true := by unfold nrmB; simp only [decide_eq_true_eq]; exact h
theorem isNormal_spec (t : List (List Int)) (hg : Grp t) (l : List Int) (hi : AreIn t.length l) (hl : l.length ≤ 1048576) : Spec Try.prog 58 [.agg [.rds (II t)], .rd (I l)] (.v (.bool (nrmB t l))) [] := by
  have h8 := hg.2.1
  refine Spec.of_code T_ok Try.func58 rfl Try.ntmps58 Try.call58 (Nat.le_of_ble_eq_true rfl) rfl rfl (CodeV_sound T_ok (by kernel_rfl) rfl ?_)
  simp only [Try.results58, go_sem, Nat.reduceMul, Nat.reduceLeDiff, Nat.reduceLT, reduceIte, reduceCtorEq, Nat.reduceEqDiff, Nat.reduceSub, Nat.reduceAdd]
  refine Here.loopV T_ok (fun i => i ≤ l.length ∧ ∀ j a, j < i → a < t.length → ((cjN t a (l.getD j 0).toNat : Nat) : Int) ∈ l) (fun i => l.length - i) (fun i => [(1, .rd (I l)), (2, .box [.rds (II t)]), (8, .rd (I l)), (9, .v (.int .i64 l.length)), (10, .v (.int .i64 i))]) (fun _ => []) 0 (by simp) (by simp only [Try.results58, go_sem, Nat.reduceMul, Nat.reduceLeDiff, Nat.reduceLT, reduceIte, reduceCtorEq, Nat.reduceEqDiff, Nat.reduceSub, Nat.reduceAdd]; simp) trivial ?_
  rintro i ⟨hil, hj⟩
  simp only [Try.results58, go_sem, Nat.reduceMul, Nat.reduceLeDiff, Nat.reduceLT, reduceIte, reduceCtorEq, Nat.reduceEqDiff, Nat.reduceSub, Nat.reduceAdd]
  refine ⟨fun h2 => ?_, fun h2 => ?_⟩
  · have hx := hi i (by omega)
    obtain ⟨x, hxe⟩ := Int.eq_ofNat_of_zero_le hx.1
    have hxl : x < t.length := by omega
    refine ⟨⟨by omega, by omega⟩, ?_⟩
    refine HereO.call T_ok rfl rfl (order_spec t) (by simp only [go_sem, Nat.reduceMul, Nat.reduceLeDiff, Nat.reduceLT, reduceIte, reduceCtorEq, Nat.reduceEqDiff, Nat.reduceSub, Nat.reduceAdd, List.toList_toArray] <;> first | rfl | exact ⟨rfl, rfl⟩) rfl ?_
    simp only [Try.results58, go_sem, Nat.reduceMul, Nat.reduceLeDiff, Nat.reduceLT, reduceIte, reduceCtorEq, Nat.reduceEqDiff, Nat.reduceSub, Nat.reduceAdd]
    rw [hxe]
    refine Here.loopV T_ok (fun a => a ≤ t.length ∧ ∀ b, b < a → ((cjN t b x : Nat) : Int) ∈ l) (fun a => t.length - a) (fun a => [(1, .rd (I l)), (2, .box [.rds (II t)]), (6, .v (.int .i64 x)), (8, .rd (I l)), (9, .v (.int .i64 l.length)), (10, .v (.int .i64 i)), (15, .v (.int .i64 t.length)), (16, .v (.int .i64 a))]) (fun _ => []) 0 (by simp) (by simp only [Try.results58, go_sem, Nat.reduceMul, Nat.reduceLeDiff, Nat.reduceLT, reduceIte, reduceCtorEq, Nat.reduceEqDiff, Nat.reduceSub, Nat.reduceAdd]; simp) trivial ?_
    rintro a ⟨hal, hb⟩
    simp only [Try.results58, go_sem, Nat.reduceMul, Nat.reduceLeDiff, Nat.reduceLT, reduceIte, reduceCtorEq, Nat.reduceEqDiff, Nat.reduceSub, Nat.reduceAdd]
    refine ⟨fun h3 => ?_, fun h3 => ?_⟩
    · refine HereO.call T_ok rfl rfl (conjugate_spec t hg a x (by omega) hxl) (by simp only [go_sem, Nat.reduceMul, Nat.reduceLeDiff, Nat.reduceLT, reduceIte, reduceCtorEq, Nat.reduceEqDiff, Nat.reduceSub, Nat.reduceAdd, List.toList_toArray] <;> first | rfl | exact ⟨rfl, rfl⟩) rfl ?_
      simp only [Try.results58, go_sem, Nat.reduceMul, Nat.reduceLeDiff, Nat.reduceLT, reduceIte, reduceCtorEq, Nat.reduceEqDiff, Nat.reduceSub, Nat.reduceAdd]
      refine HereO.call T_ok rfl rfl (Contains_spec l (cjN t a x) hl) (by simp only [go_sem, Nat.reduceMul, Nat.reduceLeDiff, Nat.reduceLT, reduceIte, reduceCtorEq, Nat.reduceEqDiff, Nat.reduceSub, Nat.reduceAdd, List.toList_toArray] <;> first | rfl | exact ⟨rfl, rfl⟩) rfl ?_
      simp only [Try.results58, go_sem, Nat.reduceMul, Nat.reduceLeDiff, Nat.reduceLT, reduceIte, reduceCtorEq, Nat.reduceEqDiff, Nat.reduceSub, Nat.reduceAdd]
      refine ⟨fun h4 => ?_, fun h4 => ⟨by unfold InR; omega, a + 1, ⟨by omega, fun b hb' => ?_⟩, by omega, by push_cast; rfl⟩⟩
      · rw [nrm_false (j := i) (a := a) (by omega) (by omega) (by rw [hxe]; exact fun q => h4 (has_mem.2 q))]
      · by_cases e : b = a
        · subst e; exact has_mem.1 h4
        · exact hb b (by omega)
    · refine ⟨by unfold InR; omega, i + 1, ⟨by omega, fun j a hj' ha => ?_⟩, by omega, by push_cast; rfl⟩
      by_cases e : j = i
      · subst e; rw [hxe]; exact hb a (by omega)
      · exact hj j a (by omega) ha
  · rw [nrm_true fun j a hj' ha => hj j a (by omega) ha]
theorem l01Normal_spec (t : List (List Int)) (hg : Grp t) (l : List Int) (hi : AreIn t.length l) (hl : l.length ≤ 1048576) : Spec Try.prog 56 [.agg [.rds (II t)], .rd (I l)] (.v (.bool (nrmB t l))) [] := by
  have h8 := hg.2.1
  have hm8 := bitsM_lt8 h8 hi
  refine Spec.of_code T_ok Try.func56 rfl Try.ntmps56 Try.call56 (Nat.le_of_ble_eq_true rfl) rfl rfl (CodeV_sound T_ok (by kernel_rfl) rfl ?_)
  simp only [Try.results56, go_sem, Nat.reduceMul, Nat.reduceLeDiff, Nat.reduceLT, reduceIte, reduceCtorEq, Nat.reduceEqDiff, Nat.reduceSub, Nat.reduceAdd]
  refine HereO.call T_ok rfl rfl (l01Bits_spec t.length l h8 hi hl) (by simp only [go_sem, Nat.reduceMul, Nat.reduceLeDiff, Nat.reduceLT, reduceIte, reduceCtorEq, Nat.reduceEqDiff, Nat.reduceSub, Nat.reduceAdd, List.toList_toArray] <;> first | rfl | exact ⟨rfl, rfl⟩) rfl ?_
  simp only [Try.results56, go_sem, Nat.reduceMul, Nat.reduceLeDiff, Nat.reduceLT, reduceIte, reduceCtorEq, Nat.reduceEqDiff, Nat.reduceSub, Nat.reduceAdd]
  refine Here.loopV T_ok (fun a => a ≤ t.length ∧ ∀ j b, j < l.length → b < a → ((cjN t b (l.getD j 0).toNat : Nat) : Int) ∈ l) (fun a => t.length - a) (fun a => [(1, .rd (I l)), (2, .box [.rds (II t)]), (5, .v (.int .i64 (bitsM l))), (6, .v (.int .i64 a))]) (fun _ => []) 0 ⟨by simp, fun j b _ h => by omega⟩ (by simp only [Try.results56, go_sem, Nat.reduceMul, Nat.reduceLeDiff, Nat.reduceLT, reduceIte, reduceCtorEq, Nat.reduceEqDiff, Nat.reduceSub, Nat.reduceAdd]; simp) trivial ?_
  rintro a ⟨hal, hj⟩
  simp only [Try.results56, go_sem, Nat.reduceMul, Nat.reduceLeDiff, Nat.reduceLT, reduceIte, reduceCtorEq, Nat.reduceEqDiff, Nat.reduceSub, Nat.reduceAdd]
  refine HereO.call T_ok rfl rfl (l01N_spec t) (by simp only [go_sem, Nat.reduceMul, Nat.reduceLeDiff, Nat.reduceLT, reduceIte, reduceCtorEq, Nat.reduceEqDiff, Nat.reduceSub, Nat.reduceAdd, List.toList_toArray] <;> first | rfl | exact ⟨rfl, rfl⟩) rfl ?_
  simp only [Try.results56, go_sem, Nat.reduceMul, Nat.reduceLeDiff, Nat.reduceLT, reduceIte, reduceCtorEq, Nat.reduceEqDiff, Nat.reduceSub, Nat.reduceAdd]
  refine ⟨fun h2 => ?_, fun h2 => ?_⟩
  · refine Here.loopV T_ok (fun i => i ≤ l.length ∧ ∀ j, j < i → ((cjN t a (l.getD j 0).toNat : Nat) : Int) ∈ l) (fun i => l.length - i) (fun i => [(1, .rd (I l)), (2, .box [.rds (II t)]), (5, .v (.int .i64 (bitsM l))), (6, .v (.int .i64 a)), (7, .v (.int .i64 i))]) (fun _ => []) 0 (by simp) (by simp only [Try.results56, go_sem, Nat.reduceMul, Nat.reduceLeDiff, Nat.reduceLT, reduceIte, reduceCtorEq, Nat.reduceEqDiff, Nat.reduceSub, Nat.reduceAdd]; simp) trivial ?_
    rintro i ⟨hil, hb⟩
    simp only [Try.results56, go_sem, Nat.reduceMul, Nat.reduceLeDiff, Nat.reduceLT, reduceIte, reduceCtorEq, Nat.reduceEqDiff, Nat.reduceSub, Nat.reduceAdd]
    refine ⟨fun h3 => ?_, fun h3 => ?_⟩
    · have hx := hi i (by omega)
      obtain ⟨x, hxe⟩ := Int.eq_ofNat_of_zero_le hx.1
      have hxl : x < t.length := by omega
      have hcl := cj_lt hg (c := a) (a := x) (by omega) hxl
      refine Here.draw T_ok mixed_ok (by kernel_rfl) ?_
      simp only [Try.results56, go_sem, Nat.reduceMul, Nat.reduceLeDiff, Nat.reduceLT, reduceIte, reduceCtorEq, Nat.reduceEqDiff, Nat.reduceSub, Nat.reduceAdd]
      rw [hxe]
      refine ⟨⟨by omega, by omega⟩, ?_⟩
      refine ⟨_, OpP.call' rfl rfl (l01Conjugate_spec t hg x a hxl (by omega)) (by simp only [go_sem, Nat.reduceMul, Nat.reduceLeDiff, Nat.reduceLT, reduceIte, reduceCtorEq, Nat.reduceEqDiff, Nat.reduceSub, Nat.reduceAdd, List.toList_toArray] <;> first | rfl | exact ⟨rfl, rfl⟩) rfl, ?_⟩
      simp only [Try.results56, go_sem, Nat.reduceMul, Nat.reduceLeDiff, Nat.reduceLT, reduceIte, reduceCtorEq, Nat.reduceEqDiff, Nat.reduceSub, Nat.reduceAdd]
      rw [(shl_fact (cjN t a x) (by omega)).2, bit_fact (bitsM l) hm8 (cjN t a x) (by omega), bitsM_bit h8 hi]
      refine ⟨fun h4 => ?_, fun h4 => ⟨by unfold InR; omega, i + 1, ⟨by omega, fun j hj' => ?_⟩, by omega, by push_cast; rfl⟩⟩
      · rw [nrm_false (j := i) (a := a) (by omega) (by omega) (by rw [hxe, Int.toNat_natCast]; intro q; rw [decide_eq_true q] at h4; exact absurd h4 (by decide))]
      · by_cases e : j = i
        · subst e
          rw [hxe]
          apply Classical.byContradiction
          intro q
          exact h4 (by simp only [Int.toNat_natCast] at q; rw [decide_eq_false q]; rfl)
        · exact hb j (by omega)
    · refine ⟨by unfold InR; omega, a + 1, ⟨by omega, fun j b hj' hb' => ?_⟩, by omega, by push_cast; rfl⟩
      by_cases e : b = a
      · subst e; exact hb j (by omega)
      · exact hj j b hj' (by omega)
  · rw [nrm_true fun j b hj' hb' => hj j b hj' (by omega)]
theorem l01Subgroup_spec (t : List (List Int)) (hg : Grp t) (l : List Int) (ha : AscD l) (hi : AreIn t.length l) (hl : l.length ≤ 1048576) : Spec Try.prog 55 [.agg [.rds (II t)], .rd (I l)] (.v (.bool (decide (genL t l = l)))) [] := by
  have h8 := hg.2.1
  refine Spec.of_code T_ok Try.func55 rfl Try.ntmps55 Try.call55 (Nat.le_of_ble_eq_true rfl) rfl rfl (CodeV_sound T_ok (by kernel_rfl) rfl ?_)
  simp only [Try.results55, go_sem, Nat.reduceMul, Nat.reduceLeDiff, Nat.reduceLT, reduceIte, reduceCtorEq, Nat.reduceEqDiff, Nat.reduceSub, Nat.reduceAdd]
  refine Here.draw T_ok mixed_ok (by kernel_rfl) ?_
  simp only [Try.results55, go_sem, Nat.reduceMul, Nat.reduceLeDiff, Nat.reduceLT, reduceIte, reduceCtorEq, Nat.reduceEqDiff, Nat.reduceSub, Nat.reduceAdd]
  refine ⟨fun h1 => ⟨⟨by omega, by omega⟩, fun h2 => ?_, fun h2 => ?_⟩, fun h1 => ?_⟩
  · refine ⟨_, OpP.call' rfl rfl (l01Bits_spec t.length l h8 hi hl) (by simp only [go_sem, Nat.reduceMul, Nat.reduceLeDiff, Nat.reduceLT, reduceIte, reduceCtorEq, Nat.reduceEqDiff, Nat.reduceSub, Nat.reduceAdd, List.toList_toArray] <;> first | rfl | exact ⟨rfl, rfl⟩) rfl, ?_⟩
    simp only [Try.results55, go_sem, Nat.reduceMul, Nat.reduceLeDiff, Nat.reduceLT, reduceIte, reduceCtorEq, Nat.reduceEqDiff, Nat.reduceSub, Nat.reduceAdd]
    refine ⟨_, OpP.call' rfl rfl (l01Closed_spec t hg (bitsM l) (bitsM_lt h8 hi)) (by simp only [go_sem, Nat.reduceMul, Nat.reduceLeDiff, Nat.reduceLT, reduceIte, reduceCtorEq, Nat.reduceEqDiff, Nat.reduceSub, Nat.reduceAdd, List.toList_toArray] <;> first | rfl | exact ⟨rfl, rfl⟩) rfl, ?_⟩
    simp only [Try.results55, go_sem, Nat.reduceMul, Nat.reduceLeDiff, Nat.reduceLT, reduceIte, reduceCtorEq, Nat.reduceEqDiff, Nat.reduceSub, Nat.reduceAdd]
    refine ⟨_, OpP.call' rfl rfl (l01Bits_spec t.length l h8 hi hl) (by simp only [go_sem, Nat.reduceMul, Nat.reduceLeDiff, Nat.reduceLT, reduceIte, reduceCtorEq, Nat.reduceEqDiff, Nat.reduceSub, Nat.reduceAdd, List.toList_toArray] <;> first | rfl | exact ⟨rfl, rfl⟩) rfl, ?_⟩
    simp only [Try.results55, go_sem, Nat.reduceMul, Nat.reduceLeDiff, Nat.reduceLT, reduceIte, reduceCtorEq, Nat.reduceEqDiff, Nat.reduceSub, Nat.reduceAdd]
    rw [Bool.eq_iff_iff]
    simp only [beq_iff_eq, decide_eq_true_eq]
    rw [← sub_iff hg hi (ascD_asc ha)]
    omega
  · symm
    refine decide_eq_false fun e => h2 (asc_head (ascD_asc ha) (sub_zero hg e) fun x hx => (areIn_mem hi hx).1).2
  · symm
    refine decide_eq_false fun e => ?_
    have := List.length_pos_of_mem (sub_zero hg e)
    omega
noncomputable def isnV (t : List (List Int)) (l : List Int) : Bool := if subC t l = 0 then nrmB t l else false
theorem implIsNormal (t : List (List Int)) (l : List Int) (hl : l.length ≤ 1048576) : Spec Try.prog 24 [.agg [.rds (II t)], .rd (I l)] (.tup [.v (.bool (isnV t l)), .v (.int .i64 (subC t l))]) [] := by
  refine Spec.of_code T_ok Try.func24 rfl Try.ntmps24 Try.call24 (Nat.le_of_ble_eq_true rfl) rfl rfl (CodeV_sound T_ok (by kernel_rfl) rfl ?_)
  simp only [Try.results24, go_sem, Nat.reduceMul, Nat.reduceLeDiff, Nat.reduceLT, reduceIte, reduceCtorEq, Nat.reduceEqDiff, Nat.reduceSub, Nat.reduceAdd]
  refine HereO.call T_ok rfl rfl (subgroupCode_spec t l hl) (by simp only [go_sem, Nat.reduceMul, Nat.reduceLeDiff, Nat.reduceLT, reduceIte, reduceCtorEq, Nat.reduceEqDiff, Nat.reduceSub, Nat.reduceAdd, List.toList_toArray] <;> first | rfl | exact ⟨rfl, rfl⟩) rfl ?_
  simp only [Try.results24, go_sem, Nat.reduceMul, Nat.reduceLeDiff, Nat.reduceLT, reduceIte, reduceCtorEq, Nat.reduceEqDiff, Nat.reduceSub, Nat.reduceAdd]
  refine ⟨fun h => ?_, fun h => ?_⟩
  · simp [isnV, h]
  · obtain ⟨hg, ha, hi, _⟩ := subC_ok h
    refine HereO.call T_ok rfl rfl (isNormal_spec t hg l hi hl) (by simp only [go_sem, Nat.reduceMul, Nat.reduceLeDiff, Nat.reduceLT, reduceIte, reduceCtorEq, Nat.reduceEqDiff, Nat.reduceSub, Nat.reduceAdd, List.toList_toArray] <;> first | rfl | exact ⟨rfl, rfl⟩) rfl ?_
    simp only [Try.results24, go_sem, Nat.reduceMul, Nat.reduceLeDiff, Nat.reduceLT, reduceIte, reduceCtorEq, Nat.reduceEqDiff, Nat.reduceSub, Nat.reduceAdd]
    simp [isnV, h]
theorem specIsNormal (t : List (List Int)) (l : List Int) (hl : l.length ≤ 1048576) : Spec Try.prog 23 [.agg [.rds (II t)], .rd (I l)] (.tup [.v (.bool (isnV t l)), .v (.int .i64 (subC t l))]) [] := by
  refine Spec.of_code T_ok Try.func23 rfl Try.ntmps23 Try.call23 (Nat.le_of_ble_eq_true rfl) rfl rfl (CodeV_sound T_ok (by kernel_rfl) rfl ?_)
  simp only [Try.results23, go_sem, Nat.reduceMul, Nat.reduceLeDiff, Nat.reduceLT, reduceIte, reduceCtorEq, Nat.reduceEqDiff, Nat.reduceSub, Nat.reduceAdd]
  refine HereO.call T_ok rfl rfl (l01Set_spec t l hl) (by simp only [go_sem, Nat.reduceMul, Nat.reduceLeDiff, Nat.reduceLT, reduceIte, reduceCtorEq, Nat.reduceEqDiff, Nat.reduceSub, Nat.reduceAdd, List.toList_toArray] <;> first | rfl | exact ⟨rfl, rfl⟩) rfl ?_
  simp only [Try.results23, go_sem, Nat.reduceMul, Nat.reduceLeDiff, Nat.reduceLT, reduceIte, reduceCtorEq, Nat.reduceEqDiff, Nat.reduceSub, Nat.reduceAdd]
  refine ⟨fun h => ?_, fun h => ?_⟩
  · simp [isnV, subC, h]
  · obtain ⟨hg, ha, hi⟩ := setE_ok h
    refine HereO.call T_ok rfl rfl (l01Subgroup_spec t hg l ha hi hl) (by simp only [go_sem, Nat.reduceMul, Nat.reduceLeDiff, Nat.reduceLT, reduceIte, reduceCtorEq, Nat.reduceEqDiff, Nat.reduceSub, Nat.reduceAdd, List.toList_toArray] <;> first | rfl | exact ⟨rfl, rfl⟩) rfl ?_
    simp only [Try.results23, go_sem, Nat.reduceMul, Nat.reduceLeDiff, Nat.reduceLT, reduceIte, reduceCtorEq, Nat.reduceEqDiff, Nat.reduceSub, Nat.reduceAdd]
    refine ⟨fun h2 => ?_, fun h2 => ?_⟩
    · simp [isnV, subC, h, h2]
    · refine HereO.call T_ok rfl rfl (l01Normal_spec t hg l hi hl) (by simp only [go_sem, Nat.reduceMul, Nat.reduceLeDiff, Nat.reduceLT, reduceIte, reduceCtorEq, Nat.reduceEqDiff, Nat.reduceSub, Nat.reduceAdd, List.toList_toArray] <;> first | rfl | exact ⟨rfl, rfl⟩) rfl ?_
      simp only [Try.results23, go_sem, Nat.reduceMul, Nat.reduceLeDiff, Nat.reduceLT, reduceIte, reduceCtorEq, Nat.reduceEqDiff, Nat.reduceSub, Nat.reduceAdd]
      simp [isnV, subC, h, h2]
end Go.Proofs.Ytdbkiomhoonclaa
