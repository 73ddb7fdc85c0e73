/- Contracts: subgroups told, IsNormal; Contracts: Repeat, TrivialModule; Contracts: cosets, quotients, QuotientOf. -/
import Derived.Test.YtcjhojdlfnpgjaaGreatK31
import Derived.Test.YtcjhojdlfnpgjaaGreatK08
import Derived.Test.YtcjhojdlfnpgjaaGreatK16
set_option linter.unusedVariables false
set_option linter.unusedSimpArgs false
set_option maxRecDepth 100000
namespace Go.Proofs.YtcjhojdlfnpgjaaGreat
open Go.RowKit
theorem Equal_spec (l m : List Int) (hl : l.length ≤ 1048576) (hm : m.length ≤ 1048576) : Spec Tryz.prog 65 [.rd (I l), .rd (I m)] (.v (.bool (decide (l = m)))) [] := by
  refine Spec.of_code T_ok Tryz.func65 rfl Tryz.ntmps65 Tryz.call65 (Nat.le_of_ble_eq_true rfl) rfl rfl (CodeV_sound T_ok (by kernel_rfl) rfl ?_)
  refine WW ?_
  refine ⟨fun h => ?_, fun h => ?_⟩
  · symm
    exact decide_eq_false fun q => h (by rw [q])
  · have hlen : l.length = m.length := by omega
    refine Here.loopV T_ok (fun k => k ≤ l.length ∧ ∀ j, j < k → l.getD j 0 = m.getD j 0) (fun k => l.length - k) (fun k => [(0, .rd (I l)), (1, .rd (I m)), (12, .v (.int .i64 l.length)), (13, .v (.int .i64 k))]) (fun _ => []) 0 (by simp) (by simp only [go_sem, Nat.reduceMul, Nat.reduceLeDiff, Nat.reduceLT, reduceIte, reduceCtorEq, Nat.reduceEqDiff, Nat.reduceSub, Nat.reduceAdd]; simp) trivial ?_
    rintro k ⟨hk, hj⟩
    refine WW ?_
    refine ⟨fun h2 => ?_, fun h2 => ?_⟩
    · refine Here.draw T_ok mixed_ok (by kernel_rfl) ?_
      refine WW ?_
      refine ⟨⟨by omega, by omega⟩, ⟨by omega, by omega⟩, fun h3 => ?_, fun h3 => ⟨by unfold InR; omega, k + 1, ⟨by omega, fun j hj' => ?_⟩, by omega, by push_cast; rfl⟩⟩
      · symm
        exact decide_eq_false fun q => h3 (by rw [q])
      · by_cases e : j = k
        · subst e; exact h3
        · exact hj j (by omega)
    · symm
      exact decide_eq_true (getD_eq' (d := 0) hlen fun j hj' => hj j (by omega))
theorem isSubgroup_spec (t : List (List Int)) (hg : Grp t) (l : List Int) (hS : AreIn t.length l) (hl : l.length ≤ 1048576) : Spec Tryz.prog 87 [.agg [.rds (II t)], .rd (I l)] (.v (.bool (decide (genL t l = l)))) [] := by
  have h8 := hg.2.1
  have := genL_len t l
  refine Spec.of_code T_ok Tryz.func87 rfl Tryz.ntmps87 Tryz.call87 (Nat.le_of_ble_eq_true rfl) rfl rfl (CodeV_sound T_ok (by kernel_rfl) rfl ?_)
  refine WW ?_
  refine HereO.call T_ok rfl rfl (subgroup_spec t hg l hS hl) SA rfl ?_
  refine WW ?_
  refine HereO.call T_ok rfl rfl (Equal_spec (genL t l) l (by omega) hl) SA rfl ?_
  exact WW trivial
noncomputable def subC (t : List (List Int)) (l : List Int) : Int := if setE t l = 0 then (if genL t l = l then 0 else 5) else setE t l
theorem subgroupCode_spec (t : List (List Int)) (l : List Int) (hl : l.length ≤ 1048576) : Spec Tryz.prog 34 [.agg [.rds (II t)], .rd (I l)] (.v (.int .i64 (subC t l))) [] := by
  refine Spec.of_code T_ok Tryz.func34 rfl Tryz.ntmps34 Tryz.call34 (Nat.le_of_ble_eq_true rfl) rfl rfl (CodeV_sound T_ok (by kernel_rfl) rfl ?_)
  refine WW ?_
  refine HereO.call T_ok rfl rfl (setCode_spec t l hl) SA rfl ?_
  refine WW ?_
  refine ⟨fun h => ?_, fun h => ?_⟩
  · rw [subC, if_neg h]
  · obtain ⟨hg, ha, hi⟩ := setE_ok h
    refine HereO.call T_ok rfl rfl (isSubgroup_spec t hg l hi hl) SA rfl ?_
    refine WW ?_
    exact ⟨fun h2 => by rw [subC, if_pos h, if_neg h2], fun h2 => by rw [subC, if_pos h, if_pos h2]⟩
theorem subC_ok {t : List (List Int)} {l : List Int} (h : subC t l = 0) : Grp t ∧ AscD l ∧ AreIn t.length l ∧ genL t l = l := by
  unfold subC at h
  split at h
  · rename_i q
    obtain ⟨hg, ha, hi⟩ := setE_ok q
    split at h
    · rename_i e; exact ⟨hg, ha, hi, e⟩
    · omega
  · rename_i q; exact absurd h q
open Classical in
noncomputable def nrmB (t : List (List Int)) (l : List Int) : Bool := decide (∀ j a, j < l.length → a < t.length → ((cjN t a (l.getD j 0).toNat : Nat) : Int) ∈ l)
theorem nrm_false {t : List (List Int)} {l : List Int} {j a : Nat} (hj : j < l.length) (ha : a < t.length) (h : ((cjN t a (l.getD j 0).toNat : Nat) : Int) ∉ l) : nrmB t l = false := by unfold nrmB; simp only [decide_eq_false_iff_not]; exact fun q => h (q j a hj ha)
theorem nrm_true {t : List (List Int)} {l : List Int} (h : ∀ j a, j < l.length → a < t.length → ((cjN t a (l.getD j 0).toNat : Nat) : Int) ∈ l) : nrmB t l = true := by unfold nrmB; simp only [decide_eq_true_eq]; exact h
theorem isNormal_spec (t : List (List Int)) (hg : Grp t) (l : List Int) (hi : AreIn t.length l) (hl : l.length ≤ 1048576) : Spec Tryz.prog 35 [.agg [.rds (II t)], .rd (I l)] (.v (.bool (nrmB t l))) [] := by
  have h8 := hg.2.1
  refine Spec.of_code T_ok Tryz.func35 rfl Tryz.ntmps35 Tryz.call35 (Nat.le_of_ble_eq_true rfl) rfl rfl (CodeV_sound T_ok (by kernel_rfl) rfl ?_)
  refine WW ?_
  refine Here.loopV T_ok (fun i => i ≤ l.length ∧ ∀ j a, j < i → a < t.length → ((cjN t a (l.getD j 0).toNat : Nat) : Int) ∈ l) (fun i => l.length - i) (fun i => [(1, .rd (I l)), (2, .box [.rds (II t)]), (8, .rd (I l)), (9, .v (.int .i64 l.length)), (10, .v (.int .i64 i))]) (fun _ => []) 0 (by simp) (by simp only [go_sem, Nat.reduceMul, Nat.reduceLeDiff, Nat.reduceLT, reduceIte, reduceCtorEq, Nat.reduceEqDiff, Nat.reduceSub, Nat.reduceAdd]; simp) trivial ?_
  rintro i ⟨hil, hj⟩
  refine WW ?_
  refine ⟨fun h2 => ?_, fun h2 => ?_⟩
  · have hx := hi i (by omega)
    obtain ⟨x, hxe⟩ := Int.eq_ofNat_of_zero_le hx.1
    have hxl : x < t.length := by omega
    refine ⟨⟨by omega, by omega⟩, ?_⟩
    refine HereO.call T_ok rfl rfl (order_spec t) SA rfl ?_
    refine WW ?_
    rw [hxe]
    refine Here.loopV T_ok (fun a => a ≤ t.length ∧ ∀ b, b < a → ((cjN t b x : Nat) : Int) ∈ l) (fun a => t.length - a) (fun a => [(1, .rd (I l)), (2, .box [.rds (II t)]), (6, .v (.int .i64 x)), (8, .rd (I l)), (9, .v (.int .i64 l.length)), (10, .v (.int .i64 i)), (15, .v (.int .i64 t.length)), (16, .v (.int .i64 a))]) (fun _ => []) 0 (by simp) (by simp only [go_sem, Nat.reduceMul, Nat.reduceLeDiff, Nat.reduceLT, reduceIte, reduceCtorEq, Nat.reduceEqDiff, Nat.reduceSub, Nat.reduceAdd]; simp) trivial ?_
    rintro a ⟨hal, hb⟩
    refine WW ?_
    refine ⟨fun h3 => ?_, fun h3 => ?_⟩
    · refine HereO.call T_ok rfl rfl (conjugate_spec t hg a x (by omega) hxl) SA rfl ?_
      refine WW ?_
      refine HereO.call T_ok rfl rfl (Contains_spec l (cjN t a x) hl) SA rfl ?_
      refine WW ?_
      refine ⟨fun h4 => ?_, fun h4 => ⟨by unfold InR; omega, a + 1, ⟨by omega, fun b hb' => ?_⟩, by omega, by push_cast; rfl⟩⟩
      · rw [nrm_false (j := i) (a := a) (by omega) (by omega) (by rw [hxe]; exact fun q => h4 (has_mem.2 q))]
      · by_cases e : b = a
        · subst e; exact has_mem.1 h4
        · exact hb b (by omega)
    · refine ⟨by unfold InR; omega, i + 1, ⟨by omega, fun j a hj' ha => ?_⟩, by omega, by push_cast; rfl⟩
      by_cases e : j = i
      · subst e; rw [hxe]; exact hb a (by omega)
      · exact hj j a (by omega) ha
  · rw [nrm_true fun j a hj' ha => hj j a (by omega) ha]
theorem l01Normal_spec (t : List (List Int)) (hg : Grp t) (l : List Int) (hi : AreIn t.length l) (hl : l.length ≤ 1048576) : Spec Tryz.prog 39 [.agg [.rds (II t)], .rd (I l)] (.v (.bool (nrmB t l))) [] := by
  have h8 := hg.2.1
  have hm8 := bitsM_lt8 h8 hi
  refine Spec.of_code T_ok Tryz.func39 rfl Tryz.ntmps39 Tryz.call39 (Nat.le_of_ble_eq_true rfl) rfl rfl (CodeV_sound T_ok (by kernel_rfl) rfl ?_)
  refine WW ?_
  refine HereO.call T_ok rfl rfl (l01Bits_spec t.length l h8 hi hl) SA rfl ?_
  refine WW ?_
  refine Here.loopV T_ok (fun a => a ≤ t.length ∧ ∀ j b, j < l.length → b < a → ((cjN t b (l.getD j 0).toNat : Nat) : Int) ∈ l) (fun a => t.length - a) (fun a => [(1, .rd (I l)), (2, .box [.rds (II t)]), (5, .v (.int .i64 (bitsM l))), (6, .v (.int .i64 a))]) (fun _ => []) 0 ⟨by simp, fun j b _ h => by omega⟩ (by simp only [go_sem, Nat.reduceMul, Nat.reduceLeDiff, Nat.reduceLT, reduceIte, reduceCtorEq, Nat.reduceEqDiff, Nat.reduceSub, Nat.reduceAdd]; simp) trivial ?_
  rintro a ⟨hal, hj⟩
  refine WW ?_
  refine HereO.call T_ok rfl rfl (l01N_spec t) SA rfl ?_
  refine WW ?_
  refine ⟨fun h2 => ?_, fun h2 => ?_⟩
  · refine Here.loopV T_ok (fun i => i ≤ l.length ∧ ∀ j, j < i → ((cjN t a (l.getD j 0).toNat : Nat) : Int) ∈ l) (fun i => l.length - i) (fun i => [(1, .rd (I l)), (2, .box [.rds (II t)]), (5, .v (.int .i64 (bitsM l))), (6, .v (.int .i64 a)), (7, .v (.int .i64 i))]) (fun _ => []) 0 (by simp) (by simp only [go_sem, Nat.reduceMul, Nat.reduceLeDiff, Nat.reduceLT, reduceIte, reduceCtorEq, Nat.reduceEqDiff, Nat.reduceSub, Nat.reduceAdd]; simp) trivial ?_
    rintro i ⟨hil, hb⟩
    refine WW ?_
    refine ⟨fun h3 => ?_, fun h3 => ?_⟩
    · have hx := hi i (by omega)
      obtain ⟨x, hxe⟩ := Int.eq_ofNat_of_zero_le hx.1
      have hxl : x < t.length := by omega
      have hcl := cj_lt hg (c := a) (a := x) (by omega) hxl
      refine Here.draw T_ok mixed_ok (by kernel_rfl) ?_
      refine WW ?_
      rw [hxe]
      refine ⟨⟨by omega, by omega⟩, ?_⟩
      refine ⟨_, OpP.call' rfl rfl (l01Conjugate_spec t hg x a hxl (by omega)) SA rfl, ?_⟩
      refine WW ?_
      rw [(shl_fact (cjN t a x) (by omega)).2, bit_fact (bitsM l) hm8 (cjN t a x) (by omega), bitsM_bit h8 hi]
      refine ⟨fun h4 => ?_, fun h4 => ⟨by unfold InR; omega, i + 1, ⟨by omega, fun j hj' => ?_⟩, by omega, by push_cast; rfl⟩⟩
      · rw [nrm_false (j := i) (a := a) (by omega) (by omega) (by rw [hxe, Int.toNat_natCast]; intro q; rw [decide_eq_true q] at h4; exact absurd h4 (by decide))]
      · by_cases e : j = i
        · subst e
          rw [hxe]
          apply Classical.byContradiction
          intro q
          exact h4 (by simp only [Int.toNat_natCast] at q; rw [decide_eq_false q]; rfl)
        · exact hb j (by omega)
    · refine ⟨by unfold InR; omega, a + 1, ⟨by omega, fun j b hj' hb' => ?_⟩, by omega, by push_cast; rfl⟩
      by_cases e : b = a
      · subst e; exact hb j (by omega)
      · exact hj j b hj' (by omega)
  · rw [nrm_true fun j b hj' hb' => hj j b hj' (by omega)]
theorem l01Subgroup_spec (t : List (List Int)) (hg : Grp t) (l : List Int) (ha : AscD l) (hi : AreIn t.length l) (hl : l.length ≤ 1048576) : Spec Tryz.prog 38 [.agg [.rds (II t)], .rd (I l)] (.v (.bool (decide (genL t l = l)))) [] := by
  have h8 := hg.2.1
  refine Spec.of_code T_ok Tryz.func38 rfl Tryz.ntmps38 Tryz.call38 (Nat.le_of_ble_eq_true rfl) rfl rfl (CodeV_sound T_ok (by kernel_rfl) rfl ?_)
  refine WW ?_
  refine Here.draw T_ok mixed_ok (by kernel_rfl) ?_
  refine WW ?_
  refine ⟨fun h1 => ⟨⟨by omega, by omega⟩, fun h2 => ?_, fun h2 => ?_⟩, fun h1 => ?_⟩
  · refine ⟨_, OpP.call' rfl rfl (l01Bits_spec t.length l h8 hi hl) SA rfl, ?_⟩
    refine WW ?_
    refine ⟨_, OpP.call' rfl rfl (l01Closed_spec t hg (bitsM l) (bitsM_lt h8 hi)) SA rfl, ?_⟩
    refine WW ?_
    refine ⟨_, OpP.call' rfl rfl (l01Bits_spec t.length l h8 hi hl) SA rfl, ?_⟩
    refine WW ?_
    rw [Bool.eq_iff_iff]
    simp only [beq_iff_eq, decide_eq_true_eq]
    rw [← sub_iff hg hi (ascD_asc ha)]
    omega
  · symm
    refine decide_eq_false fun e => h2 (asc_head (ascD_asc ha) (sub_zero hg e) fun x hx => (areIn_mem hi hx).1).2
  · symm
    refine decide_eq_false fun e => ?_
    have := List.length_pos_of_mem (sub_zero hg e)
    omega
noncomputable def isnV (t : List (List Int)) (l : List Int) : Bool := if subC t l = 0 then nrmB t l else false
theorem implIsNormal (t : List (List Int)) (l : List Int) (hl : l.length ≤ 1048576) : Spec Tryz.prog 8 [.agg [.rds (II t)], .rd (I l)] (.tup [.v (.bool (isnV t l)), .v (.int .i64 (subC t l))]) [] := by
  refine Spec.of_code T_ok Tryz.func8 rfl Tryz.ntmps8 Tryz.call8 (Nat.le_of_ble_eq_true rfl) rfl rfl (CodeV_sound T_ok (by kernel_rfl) rfl ?_)
  refine WW ?_
  refine HereO.call T_ok rfl rfl (subgroupCode_spec t l hl) SA rfl ?_
  refine WW ?_
  refine ⟨fun h => ?_, fun h => ?_⟩
  · simp [isnV, h]
  · obtain ⟨hg, ha, hi, _⟩ := subC_ok h
    refine HereO.call T_ok rfl rfl (isNormal_spec t hg l hi hl) SA rfl ?_
    refine WW ?_
    simp [isnV, h]
theorem specIsNormal (t : List (List Int)) (l : List Int) (hl : l.length ≤ 1048576) : Spec Tryz.prog 9 [.agg [.rds (II t)], .rd (I l)] (.tup [.v (.bool (isnV t l)), .v (.int .i64 (subC t l))]) [] := by
  refine Spec.of_code T_ok Tryz.func9 rfl Tryz.ntmps9 Tryz.call9 (Nat.le_of_ble_eq_true rfl) rfl rfl (CodeV_sound T_ok (by kernel_rfl) rfl ?_)
  refine WW ?_
  refine HereO.call T_ok rfl rfl (l01Set_spec t l hl) SA rfl ?_
  refine WW ?_
  refine ⟨fun h => ?_, fun h => ?_⟩
  · simp [isnV, subC, h]
  · obtain ⟨hg, ha, hi⟩ := setE_ok h
    refine HereO.call T_ok rfl rfl (l01Subgroup_spec t hg l ha hi hl) SA rfl ?_
    refine WW ?_
    refine ⟨fun h2 => ?_, fun h2 => ?_⟩
    · simp [isnV, subC, h, h2]
    · refine HereO.call T_ok rfl rfl (l01Normal_spec t hg l hi hl) SA rfl ?_
      refine WW ?_
      simp [isnV, subC, h, h2]
end Go.Proofs.YtcjhojdlfnpgjaaGreat
namespace Go.Proofs.YtcjhojdlfnpgjaaGreat
open Go.RowKit
theorem Mul64_spec (n : Nat) (h : n ≤ 8) : Spec Tryz.prog 135 [.v (.int .u64 1), .v (.int .u64 n)] (.tup [.v (.int .u64 0), .v (.int .u64 n)]) [] := by
  refine Spec.of_code T_ok Tryz.func135 rfl Tryz.ntmps135 Tryz.call135 (Nat.le_of_ble_eq_true rfl) rfl rfl (CodeV_sound T_ok (by kernel_rfl) rfl ?_)
  refine WW ?_
  have h9 : n = 0 ∨ n = 1 ∨ n = 2 ∨ n = 3 ∨ n = 4 ∨ n = 5 ∨ n = 6 ∨ n = 7 ∨ n = 8 := by omega
  rcases h9 with rfl | rfl | rfl | rfl | rfl | rfl | rfl | rfl | rfl <;> exact ⟨by decide, by decide, by decide, by decide, by decide, by decide +kernel, by decide +kernel⟩
theorem Mul_spec (n : Nat) (h : n ≤ 8) : Spec Tryz.prog 123 [.v (.int .u64 1), .v (.int .u64 n)] (.tup [.v (.int .u64 0), .v (.int .u64 n)]) [] := by
  refine Spec.of_code T_ok Tryz.func123 rfl Tryz.ntmps123 Tryz.call123 (Nat.le_of_ble_eq_true rfl) rfl rfl (CodeV_sound T_ok (by kernel_rfl) rfl ?_)
  refine WW ?_
  refine HereO.call T_ok rfl rfl (Mul64_spec n h) SA rfl ?_
  exact WW trivial
def repR (x : Int) (n k : Nat) : List Int := List.replicate k x ++ List.replicate (n - k) 0
theorem repR_len {x : Int} {n k : Nat} (h : k ≤ n) : (repR x n k).length = n := by unfold repR; simp; omega
theorem repR_copy {x : Int} {n k m : Nat} (h : k ≤ n) (hm : m ≤ k) (hm2 : k + m ≤ n) : (I (repR x n k)).take k ++ ((((I (repR x n k)).drop 0).take k).take m) ++ (I (repR x n k)).drop (k + m) = I (repR x n (k + m)) := by
  unfold repR I
  simp only [List.map_append, List.map_replicate, List.drop_zero]
  have e1 : (List.replicate k (Value.int .i64 x) ++ List.replicate (n - k) (Value.int .i64 0)).take k = List.replicate k (Value.int .i64 x) := by
    rw [List.take_append_of_le_length (by simp), List.take_of_length_le (by simp)]
  have e2 : (List.replicate k (Value.int .i64 x) ++ List.replicate (n - k) (Value.int .i64 0)).drop (k + m) = List.replicate (n - (k + m)) (Value.int .i64 0) := by
    rw [List.drop_append, List.drop_of_length_le (by simp), List.nil_append, List.length_replicate, List.drop_replicate]
    congr 1; omega
  rw [e1, e2, List.take_replicate, Nat.min_eq_left hm, List.replicate_append_replicate]
theorem Repeat_spec (x : Int) (n : Nat) (h1 : 1 ≤ n) (h : n ≤ 8) : Spec Tryz.prog 105 [.rd (I [x]), .v (.int .i64 n)] (.own 0) [.row 2 (I (List.replicate n x))] := by
  have hw : IntKind.u64.wrap ((1 : Nat) : Int) = 1 := by decide
  have hn : IntKind.u64.wrap (n : Int) = n := by
    have h9 : n = 1 ∨ n = 2 ∨ n = 3 ∨ n = 4 ∨ n = 5 ∨ n = 6 ∨ n = 7 ∨ n = 8 := by omega
    rcases h9 with rfl | rfl | rfl | rfl | rfl | rfl | rfl | rfl <;> decide
  refine Spec.of_code T_ok Tryz.func105 rfl Tryz.ntmps105 Tryz.call105 (Nat.le_of_ble_eq_true rfl) rfl rfl (CodeV_sound T_ok (by kernel_rfl) rfl ?_)
  refine WW ?_
  refine ⟨fun q => absurd q (by omega), fun _ => ?_⟩
  rw [hw, hn]
  refine HereO.call T_ok rfl rfl (Mul_spec n h) SA rfl ?_
  refine WW ?_
  refine ⟨fun _ => ⟨fun q => absurd q (by omega), fun _ => ⟨by unfold InR; omega, ?_⟩⟩, fun q => absurd q (by omega)⟩
  refine HereO.makeSlice T_ok (kk := .i64) (m := (n : Int)) 130 rfl rfl SS (by omega) (by omega) (by decide) (by decide) ?_
  refine WW ?_
  refine HereO.copy T_ok (vs := List.replicate n (.int .i64 0)) 130 0 n (I [x]) rfl rfl (.inl ⟨by simp only [go_sem, Nat.reduceMul, Nat.reduceLeDiff, Nat.reduceLT, reduceIte, reduceCtorEq, Nat.reduceEqDiff, Nat.reduceSub, Nat.reduceAdd], rfl, by simp⟩) SS (.rd _) (I_one _) ?_
  refine WW ?_
  have hm : min 1 n = 1 := by omega
  rw [hm]
  refine Here.loopV T_ok (fun k => 1 ≤ k ∧ k ≤ n) (fun k => n - k) (fun k => [(7, .own 130), (8, .v (.int .i64 k))]) (fun k => [(130, .row 2 (I (repR x n k)))]) 1 ⟨by omega, h1⟩ SW (by simp only [go_sem, Nat.reduceMul, Nat.reduceLeDiff, Nat.reduceLT, reduceIte, reduceCtorEq, Nat.reduceEqDiff, Nat.reduceSub, Nat.reduceAdd]; simp [repR, I]) ?_
  rintro k ⟨hk1, hk⟩
  have hlen : (I (repR x n k)).length = n := by rw [I_len, repR_len hk]
  have hlen2 : (repR x n k).length = n := repR_len hk
  refine WW ?_
  rw [hlen2]
  refine ⟨fun h2 => ?_, fun h2 => ?_⟩
  · refine Here.drawSJ T_ok 7 [0] (by decide) (Nat.le_of_ble_eq_true rfl) mixed_ok (by kernel_rfl) (by kernel_rfl) (by kernel_rfl) ?_
    refine WW ?_
    refine ⟨_, OpP.sliceOwn T_ok (vs := I (repR x n k)) k n rfl rfl SS SS ⟨_, SS⟩ hlen.symm (by omega) (by omega), ?_⟩
    refine WW ?_
    refine ⟨_, OpP.sliceOwn T_ok (vs := I (repR x n k)) 0 k rfl rfl SS SS rfl ⟨_, SS⟩ (by omega) (by omega), ?_⟩
    refine WW ?_
    refine HereO.copy T_ok (vs := I (repR x n k)) 130 k (n - k) ((((I (repR x n k)).drop 0).take k)) rfl rfl (.inr ⟨by simp only [go_sem, Nat.reduceMul, Nat.reduceLeDiff, Nat.reduceLT, reduceIte, reduceCtorEq, Nat.reduceEqDiff, Nat.reduceSub, Nat.reduceAdd], by rw [hlen]; omega⟩) SS (.sub 130 0 k 2 _ SW (by rw [hlen]; omega)) (fun u hu => I_one _ u (List.mem_of_mem_drop (List.mem_of_mem_take hu))) ?_
    refine WW ?_
    have hl2 : (List.take k (I (repR x n k))).length = k := by rw [List.length_take, hlen]; omega
    rw [hl2]
    have e := repR_copy (x := x) hk (m := min k (n - k)) (by omega) (by omega)
    rw [List.drop_zero] at e
    rw [e]
    exact ⟨by unfold InR; omega, k + min k (n - k), ⟨by omega, by omega⟩, by omega, by push_cast; rfl, rfl⟩
  · have : k = n := by omega
    subst this
    have e : repR x k k = List.replicate k x := by unfold repR; simp
    rw [e]
    refine RetT.one 130 SE rfl ?_
    exact WW trivial
def codeT (t : List (List Int)) (m : Int) : Int := if Grp t then (if 2 ≤ m ∧ m ≤ 12 then 0 else 2) else 1
def trivM (t : List (List Int)) (m : Int) : Int := if codeT t m = 0 then m else 0
def trivL (t : List (List Int)) (m : Int) : List Int := if codeT t m = 0 then List.replicate t.length 1 else []
end Go.Proofs.YtcjhojdlfnpgjaaGreat
namespace Go.Proofs.YtcjhojdlfnpgjaaGreat
open Go.RowKit
theorem cosN_pass {t : List (List Int)} {h : List Int} {a : Nat} (q : 0 ≤ (cosN t h a).2.getD a 0) : cosN t h (a + 1) = cosN t h a := by rw [cosN, cosStep, if_pos q]
theorem cosN_new {t : List (List Int)} {h : List Int} {a : Nat} (q : ¬ 0 ≤ (cosN t h a).2.getD a 0) : cosN t h (a + 1) = ((cosN t h a).1 ++ [(a : Int)], cosIn t h a (cosN t h a).1.length (cosN t h a).2) := by rw [cosN, cosStep, if_neg q]
theorem cosets_spec (t : List (List Int)) (hg : Grp t) (h : List Int) (hh : AreIn t.length h) (h0 : (0 : Int) ∈ h) (hl : h.length ≤ 1048576) : Spec Tryz.prog 89 [.agg [.rds (II t)], .rd (I h)] (.tup [.own 0, .own 1]) [.row 2 (I (cosN t h t.length).1), .row 2 (I (cosN t h t.length).2)] := by
  have h8 := hg.2.1
  have h1 := hg.1
  refine Spec.of_code T_ok Tryz.func89 rfl Tryz.ntmps89 Tryz.call89 (Nat.le_of_ble_eq_true rfl) rfl rfl (CodeV_sound T_ok (by kernel_rfl) rfl ?_)
  refine WW ?_
  refine HereO.buildRow T_ok 111 (I []) rfl rfl rfl (by decide) rfl SR rfl (by decide) ?_
  refine WW ?_
  refine HereO.buildRow T_ok 112 (I [(-1 : Int)]) rfl rfl rfl (by decide) rfl SR rfl (by decide) ?_
  refine WW ?_
  refine HereO.callOwn T_ok 16 rfl rfl (Repeat_spec (-1) t.length h1 h8) SA rfl (by simp) rfl ?_
  refine WW ?_
  refine HereO.call T_ok rfl rfl (order_spec t) SA rfl ?_
  refine WW ?_
  refine Here.loopV T_ok (fun a => a ≤ t.length) (fun a => t.length - a) (fun a => [(1, .rd (I h)), (2, .box [.rds (II t)]), (6, .own 111), (7, .own 1256), (18, .v (.int .i64 t.length)), (19, .v (.int .i64 a))]) (fun a => [(111, .row 2 (I (cosN t h a).1)), (1256, .row 2 (I (cosN t h a).2))]) 0 (by simp) (by simp only [go_sem, Nat.reduceMul, Nat.reduceLeDiff, Nat.reduceLT, reduceIte, reduceCtorEq, Nat.reduceEqDiff, Nat.reduceSub, Nat.reduceAdd]; simp) (by simp only [go_sem, Nat.reduceMul, Nat.reduceLeDiff, Nat.reduceLT, reduceIte, reduceCtorEq, Nat.reduceEqDiff, Nat.reduceSub, Nat.reduceAdd]; simp [cosN, I]) ?_
  intro a ha
  have hlen := cosN_len t h a
  obtain ⟨c1, c2, c3, c4⟩ := cosN_ok hg hh h0 a ha
  refine WW ?_
  refine ⟨fun h2 => ?_, fun h2 => ?_⟩
  · refine ⟨⟨by omega, by omega⟩, by omega, fun h3 => ⟨by unfold InR; omega, a + 1, by omega, by omega, by push_cast; rfl, by rw [cosN_pass h3], by rw [cosN_pass h3]⟩, fun h3 => ?_⟩
    refine Here.loopV T_ok (fun i => i ≤ h.length) (fun i => h.length - i) (fun i => [(1, .rd (I h)), (2, .box [.rds (II t)]), (6, .own 111), (7, .own 1256), (8, .v (.int .i64 a)), (18, .v (.int .i64 t.length)), (19, .v (.int .i64 a)), (27, .rd (I h)), (28, .v (.int .i64 h.length)), (29, .v (.int .i64 i))]) (fun i => [(111, .row 2 (I (cosN t h a).1)), (1256, .row 2 (I (cosIn t (h.take i) a (cosN t h a).1.length (cosN t h a).2)))]) 0 (by simp) (by simp only [go_sem, Nat.reduceMul, Nat.reduceLeDiff, Nat.reduceLT, reduceIte, reduceCtorEq, Nat.reduceEqDiff, Nat.reduceSub, Nat.reduceAdd]; simp) (by simp only [go_sem, Nat.reduceMul, Nat.reduceLeDiff, Nat.reduceLT, reduceIte, reduceCtorEq, Nat.reduceEqDiff, Nat.reduceSub, Nat.reduceAdd]; simp [cosIn]) ?_
    intro i hi
    have hlen2 : (cosIn t (h.take i) a (cosN t h a).1.length (cosN t h a).2).length = t.length := by rw [cosIn_len, hlen]
    refine WW ?_
    refine ⟨fun h4 => ?_, fun h4 => ?_⟩
    · have hx := hh i (by omega)
      obtain ⟨x, hxe⟩ := Int.eq_ofNat_of_zero_le hx.1
      have hxl : x < t.length := by omega
      have hem := em_lt hg (a := a) (b := x) (by omega) hxl
      refine ⟨⟨by omega, by omega⟩, ?_⟩
      rw [hxe]
      refine HereO.buildRow T_ok 137 (I [(a : Int), (x : Int)]) rfl rfl rfl (by decide) rfl SR rfl (by decide) ?_
      refine WW ?_
      refine HereO.call T_ok rfl rfl (times2_spec t hg a x (by omega) hxl) SA rfl ?_
      refine WW ?_
      refine ⟨⟨by omega, by omega⟩, ?_⟩
      refine HereO.storeRow T_ok (vs := I (cosIn t (h.take i) a (cosN t h a).1.length (cosN t h a).2)) (u := .int .i64 (cosN t h a).1.length) rfl SS SS rfl SS rfl (by rw [I_len]; omega) ?_
      refine WW ?_
      rw [I_set]
      refine ⟨by unfold InR; omega, i + 1, by omega, by omega, by push_cast; rfl, ?_⟩
      rw [cosIn_snoc (by omega), hxe]
      rfl
    · obtain rfl : i = h.length := by omega
      rw [List.take_length]
      refine HereO.buildRow T_ok 145 (I [(a : Int)]) rfl rfl rfl (by decide) rfl SR rfl (by decide) ?_
      refine WW ?_
      refine HereO.append T_ok (I [(a : Int)]) rfl rfl (by decide) SS (by decide) SS SS (.own 145 _ _ (by decide) SS) (I_one _) SL ?_
      refine WW ?_
      rw [I_append]
      exact ⟨by unfold InR; omega, a + 1, by omega, by omega, by push_cast; rfl, by rw [cosN_new h3], by rw [cosN_new h3]⟩
  · obtain rfl : a = t.length := by omega
    refine RetT.two 111 1256 (by decide) SE rfl ?_ ?_
    · exact WW trivial
    · exact WW trivial
theorem metM_0 {n : Nat} (h : n ≤ 8) : metM (List.replicate n (-1)) = 0 := by
  refine mask_ext (metM_lt _) (by decide) fun a ha => ?_
  rw [metM_bit (by simpa using h), Nat.zero_testBit]
  refine decide_eq_false ?_
  rw [List.getD_eq_getElem?_getD, List.getElem?_replicate]
  split <;> simp
theorem getD_any {l : List Int} {a : Nat} (h : a < l.length) (d e : Int) : l.getD a d = l.getD a e := by
  rw [List.getD_eq_getElem?_getD, List.getD_eq_getElem?_getD, List.getElem?_eq_getElem h]; rfl
theorem l01Cosets_spec (t : List (List Int)) (hg : Grp t) (h : List Int) (hh : AreIn t.length h) (h0 : (0 : Int) ∈ h) (hl : h.length ≤ 1048576) : Spec Tryz.prog 92 [.agg [.rds (II t)], .rd (I h)] (.tup [.own 0, .own 1]) [.row 2 (I (cosN t h t.length).2), .row 2 (I (cosN t h t.length).1)] := by
  have h8 := hg.2.1
  have hr : ∀ a, a < t.length → (t.getD a []).length = t.length := fun a ha => (hg.2.2.1 a ha).1
  have he : ∀ a b, a < t.length → b < t.length → (t.getD a []).getD b 0 = em t a b := fun a b ha hb => by have := em_ee hg ha hb; unfold ee at this; exact this
  refine Spec.of_code T_ok Tryz.func92 rfl Tryz.ntmps92 Tryz.call92 (Nat.le_of_ble_eq_true rfl) rfl rfl (CodeV_sound T_ok (by kernel_rfl) rfl ?_)
  refine WW ?_
  refine HereO.call T_ok rfl rfl (l01N_spec t) SA rfl ?_
  refine WW ?_
  refine HereO.makeSlice T_ok (kk := .i64) (m := (t.length : Int)) 114 rfl rfl SS (by omega) (by omega) (by decide) (by decide) ?_
  refine WW ?_
  refine HereO.buildRow T_ok 115 (I []) rfl rfl rfl (by decide) rfl SR rfl (by decide) ?_
  refine WW ?_
  refine Here.loopV T_ok (fun a => a ≤ t.length) (fun a => t.length - a) (fun a => [(1, .rd (I h)), (2, .box [.rds (II t)]), (6, .own 114), (7, .own 115), (8, .v (.int .i64 (metM (cosN t h a).2))), (9, .v (.int .i64 a))]) (fun a => [(114, .row 2 (I (pos (cosN t h a).2))), (115, .row 2 (I (cosN t h a).1))]) 0 (by simp) (by simp only [go_sem, Nat.reduceMul, Nat.reduceLeDiff, Nat.reduceLT, reduceIte, reduceCtorEq, Nat.reduceEqDiff, Nat.reduceSub, Nat.reduceAdd]; simp [cosN, metM_0 h8]) (by simp only [go_sem, Nat.reduceMul, Nat.reduceLeDiff, Nat.reduceLT, reduceIte, reduceCtorEq, Nat.reduceEqDiff, Nat.reduceSub, Nat.reduceAdd]; simp [cosN, I, pos]; exact .inr (by decide)) ?_
  intro a ha
  have hlen := cosN_len t h a
  obtain ⟨c1, c2, c3, c4⟩ := cosN_ok hg hh h0 a ha
  refine WW ?_
  refine HereO.call T_ok rfl rfl (l01N_spec t) SA rfl ?_
  refine WW ?_
  refine ⟨fun h2 => ?_, fun h2 => ?_⟩
  · rw [(shl_fact a (by omega)).2, bit_fact _ (metM_lt _) a (by omega), metM_bit (by omega), getD_any (e := 0) (by omega)]
    refine ⟨fun h3 => ?_, fun h3 => ?_⟩
    · have q : 0 ≤ (cosN t h a).2.getD a 0 := by
        by_cases q : 0 ≤ (cosN t h a).2.getD a 0
        · exact q
        · rw [decide_eq_false q] at h3; exact absurd h3 (by decide)
      exact ⟨by unfold InR; omega, a + 1, by omega, by omega, ⟨by rw [cosN_pass q], by push_cast; rfl⟩, by rw [cosN_pass q], by rw [cosN_pass q]⟩
    · have q : ¬ 0 ≤ (cosN t h a).2.getD a 0 := fun q => by rw [decide_eq_true q] at h3; exact absurd rfl h3
      refine Here.loopV T_ok (fun i => i ≤ h.length) (fun i => h.length - i) (fun i => [(1, .rd (I h)), (2, .box [.rds (II t)]), (6, .own 114), (7, .own 115), (8, .v (.int .i64 (metM (cosIn t (h.take i) a (cosN t h a).1.length (cosN t h a).2)))), (9, .v (.int .i64 a)), (10, .v (.int .i64 i))]) (fun i => [(114, .row 2 (I (pos (cosIn t (h.take i) a (cosN t h a).1.length (cosN t h a).2)))), (115, .row 2 (I (cosN t h a).1))]) 0 (by simp) (by simp only [go_sem, Nat.reduceMul, Nat.reduceLeDiff, Nat.reduceLT, reduceIte, reduceCtorEq, Nat.reduceEqDiff, Nat.reduceSub, Nat.reduceAdd]; simp [cosIn]) (by simp only [go_sem, Nat.reduceMul, Nat.reduceLeDiff, Nat.reduceLT, reduceIte, reduceCtorEq, Nat.reduceEqDiff, Nat.reduceSub, Nat.reduceAdd]; simp [cosIn]) ?_
      intro i hi
      have hlen2 : (cosIn t (h.take i) a (cosN t h a).1.length (cosN t h a).2).length = t.length := by rw [cosIn_len, hlen]
      have hlen3 : (pos (cosIn t (h.take i) a (cosN t h a).1.length (cosN t h a).2)).length = t.length := by rw [pos_len, hlen2]
      refine WW ?_
      refine ⟨fun h4 => ?_, fun h4 => ?_⟩
      · have hx := hh i (by omega)
        obtain ⟨x, hxe⟩ := Int.eq_ofNat_of_zero_le hx.1
        have hxl : x < t.length := by omega
        have hem := em_lt hg (a := a) (b := x) (by omega) hxl
        have hs := shl_fact (em t a x) (by omega)
        refine Here.draw T_ok mixed_ok (by kernel_rfl) ?_
        refine WW ?_
        rw [hxe]
        simp only [Int.toNat_natCast]
        rw [hr a (by omega), he a x (by omega) hxl, hs.1, or_fact _ (metM_lt _) (em t a x) (by omega)]
        simp only [Int.toNat_natCast]
        refine ⟨⟨by omega, by omega⟩, ⟨by omega, by omega⟩, ⟨by omega, by omega⟩, ⟨by omega, by omega⟩, ?_⟩
        refine HereO.storeRow T_ok (vs := I (pos (cosIn t (h.take i) a (cosN t h a).1.length (cosN t h a).2))) (u := .int .i64 (cosN t h a).1.length) rfl SS SS rfl SS rfl (by rw [I_len]; omega) ?_
        refine WW ?_
        have hsn := cosIn_snoc (t := t) (h := h) (a := a) (k := ((cosN t h a).1.length : Int)) (num := (cosN t h a).2) (i := i) (by omega)
        rw [hxe, Int.toNat_natCast] at hsn
        rw [I_set, ← pos_set _ _ (by omega), ← metM_set (x := ((cosN t h a).1.length : Int)) (by omega) (by omega) (by omega), ← hsn]
        exact ⟨by unfold InR; omega, i + 1, by omega, by omega, ⟨rfl, by push_cast; rfl⟩, rfl⟩
      · obtain rfl : i = h.length := by omega
        rw [List.take_length]
        refine HereO.buildRow T_ok 157 (I [(a : Int)]) rfl rfl rfl (by decide) rfl SR rfl (by decide) ?_
        refine WW ?_
        refine HereO.append T_ok (I [(a : Int)]) rfl rfl (by decide) SS (by decide) SS SS (.own 157 _ _ (by decide) SS) (I_one _) SL ?_
        refine WW ?_
        rw [I_append]
        exact ⟨by unfold InR; omega, a + 1, by omega, by omega, ⟨by rw [cosN_new q], by push_cast; rfl⟩, by rw [cosN_new q], by rw [cosN_new q]⟩
  · obtain rfl : a = t.length := by omega
    refine RetT.two 114 115 (by decide) SE rfl ?_ ?_
    · refine WW ?_
      rw [pos_end fun x hx => c4 x (by omega)]
    · exact WW trivial
def quotF (t : List (List Int)) (lst num : List Int) (a b : Nat) : Int := num.getD (em t (lst.getD a 0).toNat (lst.getD b 0).toNat) 0
theorem quotient1_spec (t : List (List Int)) (hg : Grp t) (lst num : List Int) (hl : ∀ x ∈ lst, 0 ≤ x ∧ x < t.length) (hn : num.length = t.length) (a b : Nat) (ha : a < lst.length) (hb : b < lst.length) : Spec Tryz.prog 90 [.v (.int .i64 a), .v (.int .i64 b), .box [.rd (I num)], .box [.rds (II t)], .box [.rd (I lst)]] (.v (.int .i64 (quotF t lst num a b))) [] := by
  have h1 := hl _ (getD_mem ha 0)
  have h2 := hl _ (getD_mem hb 0)
  obtain ⟨x, hx⟩ := Int.eq_ofNat_of_zero_le h1.1
  obtain ⟨y, hy⟩ := Int.eq_ofNat_of_zero_le h2.1
  have hem := em_lt hg (a := x) (b := y) (by omega) (by omega)
  have hq : quotF t lst num a b = num.getD (em t x y) 0 := by unfold quotF; rw [hx, hy]; rfl
  refine Spec.of_code T_ok Tryz.func90 rfl Tryz.ntmps90 Tryz.call90 (Nat.le_of_ble_eq_true rfl) rfl rfl (CodeV_sound T_ok (by kernel_rfl) rfl ?_)
  refine WW ?_
  refine Here.draw T_ok mixed_ok (by kernel_rfl) ?_
  refine WW ?_
  rw [hx, hy, hq]
  refine ⟨⟨by omega, by omega⟩, ⟨by omega, by omega⟩, ?_⟩
  refine ⟨_, OpP.buildRd T_ok (I [(x : Int), (y : Int)]) rfl rfl rfl (by decide) rfl SR rfl, ?_⟩
  refine WW ?_
  refine ⟨_, OpP.call' rfl rfl (times2_spec t hg x y (by omega) (by omega)) SA rfl, ?_⟩
  refine WW ?_
  exact ⟨by omega, by omega⟩
theorem quotient_spec (t : List (List Int)) (hg : Grp t) (h : List Int) (hh : AreIn t.length h) (h0 : (0 : Int) ∈ h) (hl : h.length ≤ 1048576) : Spec Tryz.prog 36 [.agg [.rds (II t)], .rd (I h)] (.tup [.agg [.own 0], .own 1]) [.rows 27 2 (II (tab (quotF t (cosN t h t.length).1 (cosN t h t.length).2) (cosN t h t.length).1.length (cosN t h t.length).1.length)), .row 2 (I (cosN t h t.length).2)] := by
  have h8 := hg.2.1
  have hlen := cosN_len t h t.length
  obtain ⟨c1, c2, c3, c4⟩ := cosN_ok hg hh h0 t.length (Nat.le_refl _)
  refine Spec.of_code T_ok Tryz.func36 rfl Tryz.ntmps36 Tryz.call36 (Nat.le_of_ble_eq_true rfl) rfl rfl (CodeV_sound T_ok (by kernel_rfl) rfl ?_)
  refine WW ?_
  refine HereO.alloc T_ok 104 rfl rfl (by decide) ?_
  refine WW ?_
  refine HereO.callOwn T_ok 11 rfl rfl (cosets_spec t hg h hh h0 hl) SA rfl (by simp) rfl ?_
  refine WW ?_
  refine HereO.alloc T_ok 106 rfl rfl (by decide) ?_
  refine WW ?_
  refine HereO.alloc T_ok 107 rfl rfl (by decide) ?_
  refine WW ?_
  refine HereO.store T_ok rfl SS SS rfl SS rfl SR (Nat.le_of_ble_eq_true rfl) ?_
  refine WW ?_
  refine HereO.store T_ok rfl SS SS rfl SS rfl SR (Nat.le_of_ble_eq_true rfl) ?_
  refine WW ?_
  refine Here.drawC T_ok [.p, .p, .p, .c, .f, .c] [7] [1272, 1273, 1274, 1275, 1276, 1277, 1278, 1279, 1280, 1281, 1282, 1283, 1284, 1285, 1286, 1287] [107] (Nat.le_of_ble_eq_true rfl) mixed_ok (by kernel_rfl) (by kernel_rfl) (by kernel_rfl) (by simp only [List.mem_cons, List.not_mem_nil, or_false, forall_eq_or_imp, forall_eq, go_sem, Nat.reduceMul, Nat.reduceLeDiff, Nat.reduceLT, reduceIte, reduceCtorEq, Nat.reduceEqDiff, Nat.reduceSub, Nat.reduceAdd] <;> first | exact calm_ptr_ne rfl | exact calm_ne rfl | exact ⟨calm_ptr_ne rfl, calm_ptr_ne rfl⟩ | exact ⟨calm_ptr_ne rfl, calm_ptr_ne rfl, calm_ptr_ne rfl⟩ | exact ⟨calm_ptr_ne rfl, calm_knot (by simp only [go_sem, Nat.reduceMul, Nat.reduceLeDiff, Nat.reduceLT, reduceIte, reduceCtorEq, Nat.reduceEqDiff, Nat.reduceSub, Nat.reduceAdd] <;> exact calm_ptr_ne rfl)⟩ | ((repeat' apply And.intro) <;> first | exact calm_ptr_ne rfl | exact calm_ne rfl)) ?_
  refine WW ?_
  refine HereC.callOwn 17 rfl rfl (made_spec (cosN t h t.length).1.length (by omega) 90 [.box [.rd (I (cosN t h t.length).2)], .box [.rds (II t)], .box [.rd (I (cosN t h t.length).1)]] (Fix.cons (Fix.box (Fix.rd _)) (Fix.cons (Fix.box (Fix.rds _)) (Fix.box (Fix.rd _)))) (quotF t (cosN t h t.length).1 (cosN t h t.length).2) (fun a b ha hb => quotient1_spec t hg _ _ c2 hlen a b ha hb)) SA rfl (by simp) rfl (inK_shift (by decide)) SK ?_
  refine WW ?_
  refine HereF.load T_ok (id := 107) (tt := 27) (c := [.own 1177]) (off := 0) (y := .own 1177) rfl SS (by kernel_rfl) rfl (by decide) SS rfl (by first | exact calm_ne rfl | simp only [go_sem, Nat.reduceMul, Nat.reduceLeDiff, Nat.reduceLT, reduceIte, reduceCtorEq, Nat.reduceEqDiff, Nat.reduceSub, Nat.reduceAdd]) ?_
  refine WW ?_
  refine HereC.storeAgg T_ok rfl SS SS rfl SS SR rfl rfl SK ?_
  refine WW ?_
  refine RetT.two 1272 1177 (by decide) SE rfl ?_ ?_
  · exact WW trivial
  · exact WW trivial
end Go.Proofs.YtcjhojdlfnpgjaaGreat
