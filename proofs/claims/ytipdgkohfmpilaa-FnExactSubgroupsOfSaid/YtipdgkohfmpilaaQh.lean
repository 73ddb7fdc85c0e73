/- SubgroupsOf: the reference and the implementation. -/
import Derived.Test.YtipdgkohfmpilaaQg
import Derived.Test.YtipdgkohfmpilaaMa
namespace Go.Proofs.Ytipdgkohfmpilaa
open Go.RowKit
set_option linter.unusedVariables false
set_option linter.unusedSimpArgs false
set_option maxRecDepth 100000

theorem EqualQ_spec (l m : List Int) (hl : l.length ≤ 1048576) (hm : m.length ≤ 1048576) : Spec Try.prog 40 [.rd (I l), .rd (I m)] (.v (.bool (decide (l = m)))) [] := by
  refine Spec.of_code T_ok Try.func40 rfl Try.ntmps40 Try.call40 (Nat.le_of_ble_eq_true rfl) rfl rfl (CodeV_sound T_ok (by kernel_rfl) rfl ?_)
  simp only [Try.results40, go_sem, Nat.reduceMul, Nat.reduceLeDiff, Nat.reduceLT, reduceIte, reduceCtorEq, Nat.reduceEqDiff, Nat.reduceSub, Nat.reduceAdd]
  refine ⟨fun h => ?_, fun h => ?_⟩
  · symm
    exact decide_eq_false fun q => h (by rw [q])
  · have hlen : l.length = m.length := by omega
    refine Here.loopV T_ok (fun k => k ≤ l.length ∧ ∀ j, j < k → l.getD j 0 = m.getD j 0) (fun k => l.length - k) (fun k => [(0, .rd (I l)), (1, .rd (I m)), (12, .v (.int .i64 l.length)), (13, .v (.int .i64 k))]) (fun _ => []) 0 (by simp) (by simp only [Try.results40, go_sem, Nat.reduceMul, Nat.reduceLeDiff, Nat.reduceLT, reduceIte, reduceCtorEq, Nat.reduceEqDiff, Nat.reduceSub, Nat.reduceAdd]; simp) trivial ?_
    rintro k ⟨hk, hj⟩
    simp only [Try.results40, go_sem, Nat.reduceMul, Nat.reduceLeDiff, Nat.reduceLT, reduceIte, reduceCtorEq, Nat.reduceEqDiff, Nat.reduceSub, Nat.reduceAdd]
    refine ⟨fun h2 => ?_, fun h2 => ?_⟩
    · refine Here.draw T_ok mixed_ok (by kernel_rfl) ?_
      simp only [Try.results40, go_sem, Nat.reduceMul, Nat.reduceLeDiff, Nat.reduceLT, reduceIte, reduceCtorEq, Nat.reduceEqDiff, Nat.reduceSub, Nat.reduceAdd]
      refine ⟨⟨by omega, by omega⟩, ⟨by omega, by omega⟩, fun h3 => ?_, fun h3 => ⟨by unfold InR; omega, k + 1, ⟨by omega, fun j hj' => ?_⟩, by omega, by push_cast; rfl⟩⟩
      · symm
        exact decide_eq_false fun q => h3 (by rw [q])
      · by_cases e : j = k
        · subst e; exact h3
        · exact hj j (by omega)
    · symm
      exact decide_eq_true (getD_eq' (d := 0) hlen fun j hj' => hj j (by omega))
theorem isSubQ_spec (t : List (List Int)) (hg : Grp t) (l : List Int) (hS : AreIn t.length l) (hl : l.length ≤ 1048576) : Spec Try.prog 21 [.agg [.rds (II t)], .rd (I l)] (.v (.bool (decide (genL t l = l)))) [] := by
  have h8 := hg.2.1
  have := genL_len t l
  refine Spec.of_code T_ok Try.func21 rfl Try.ntmps21 Try.call21 (Nat.le_of_ble_eq_true rfl) rfl rfl (CodeV_sound T_ok (by kernel_rfl) rfl ?_)
  simp only [Try.results21, go_sem, Nat.reduceMul, Nat.reduceLeDiff, Nat.reduceLT, reduceIte, reduceCtorEq, Nat.reduceEqDiff, Nat.reduceSub, Nat.reduceAdd]
  refine HereO.call T_ok rfl rfl (subgroup_spec t hg l hS hl) (by simp only [go_sem, Nat.reduceMul, Nat.reduceLeDiff, Nat.reduceLT, reduceIte, reduceCtorEq, Nat.reduceEqDiff, Nat.reduceSub, Nat.reduceAdd, List.toList_toArray] <;> first | rfl | exact ⟨rfl, rfl⟩) rfl ?_
  simp only [Try.results21, go_sem, Nat.reduceMul, Nat.reduceLeDiff, Nat.reduceLT, reduceIte, reduceCtorEq, Nat.reduceEqDiff, Nat.reduceSub, Nat.reduceAdd]
  refine HereO.call T_ok rfl rfl (EqualQ_spec (genL t l) l (by omega) hl) (by simp only [go_sem, Nat.reduceMul, Nat.reduceLeDiff, Nat.reduceLT, reduceIte, reduceCtorEq, Nat.reduceEqDiff, Nat.reduceSub, Nat.reduceAdd, List.toList_toArray] <;> first | rfl | exact ⟨rfl, rfl⟩) rfl ?_
  simp only [Try.results21, go_sem, Nat.reduceMul, Nat.reduceLeDiff, Nat.reduceLT, reduceIte, reduceCtorEq, Nat.reduceEqDiff, Nat.reduceSub, Nat.reduceAdd]
theorem Subs1_spec (m j : Nat) (hm : m < 256) (hj : j < 8) : Spec Try.prog 20 [.v (.int .i64 j), .box [.v (.int .i64 m)]] (.v (.bool (m.testBit j))) [] := by
  have hb := bit_fact m hm j hj
  refine Spec.of_code T_ok Try.func20 rfl Try.ntmps20 Try.call20 (Nat.le_of_ble_eq_true rfl) rfl rfl (CodeV_sound T_ok (by kernel_rfl) rfl ?_)
  simp only [Try.results20, go_sem, Nat.reduceMul, Nat.reduceLeDiff, Nat.reduceLT, reduceIte, reduceCtorEq, Nat.reduceEqDiff, Nat.reduceSub, Nat.reduceAdd]
  rw [hb]
  cases m.testBit j <;> simp
theorem bitsL_cnt {n m : Nat} (hn : n ≤ 8) (hm : m < 2 ^ n) : (cnt n).filter (fun x => m.testBit x.toNat) = bitsL m := by
  refine asc_ext ((cnt_asc n).filter _) ((cnt_asc 8).filter _) fun x => ?_
  show x ∈ (cnt n).filter (fun x => m.testBit x.toNat) ↔ x ∈ bitsL m
  rw [List.mem_filter, mem_bitsL, mem_cnt]
  constructor
  · rintro ⟨h1, h2⟩
    exact ⟨by omega, h2⟩
  · rintro ⟨h1, h2⟩
    refine ⟨⟨h1.1, ?_⟩, h2⟩
    apply Classical.byContradiction
    intro q
    have : m.testBit x.toNat = false := Nat.testBit_lt_two_pow (Nat.lt_of_lt_of_le hm (Nat.pow_le_pow_right (by decide) (by omega)))
    rw [this] at h2
    cases h2
theorem bitsL_inj {a b : Nat} (ha : a < 256) (hb : b < 256) (h : bitsL a = bitsL b) : a = b := by
  refine Nat.eq_of_testBit_eq fun i => ?_
  by_cases hi : i < 8
  · have h1 := mem_bitsL (m := a) (x := (i : Int))
    have h2 := mem_bitsL (m := b) (x := (i : Int))
    rw [h, h2] at h1
    simp only [Int.toNat_natCast] at h1
    have h3 : (b.testBit i = true) ↔ (a.testBit i = true) := ⟨fun q => (h1.1 ⟨⟨by omega, by omega⟩, q⟩).2, fun q => (h1.2 ⟨⟨by omega, by omega⟩, q⟩).2⟩
    cases q1 : a.testBit i <;> cases q2 : b.testBit i <;> simp_all
  · have hp : (256 : Nat) ≤ 2 ^ i := by have := Nat.pow_le_pow_right (n := 2) (by decide) (show 8 ≤ i by omega); exact this
    rw [Nat.testBit_lt_two_pow (Nat.lt_of_lt_of_le ha hp), Nat.testBit_lt_two_pow (Nat.lt_of_lt_of_le hb hp)]
theorem closed_iff {t : List (List Int)} (hg : Grp t) {m : Nat} (hm : m < 2 ^ t.length) : genL t (bitsL m) = bitsL m ↔ closeN t m = m := by
  have h8 : m < 256 := Nat.lt_of_lt_of_le hm (by have := Nat.pow_le_pow_right (n := 2) (by decide) hg.2.1; exact this)
  rw [← bitsL_close hg hm]
  exact ⟨fun h => bitsL_inj (closeN_lt t m) h8 h, fun h => by rw [h]⟩
theorem subsA_succ (t : List (List Int)) (m : Nat) : subsA t (m + 1) = subsA t m ++ (if closeN t m = m then [bitsL m] else []) := by
  unfold subsA
  rw [List.range_succ, List.filter_append, List.map_append]
  by_cases h : closeN t m = m
  · simp [h]
  · simp [h]
theorem gen_one {t : List (List Int)} (hg : Grp t) {a : Nat} (h : Gen t (bitsL 1) a) : a = 0 := by
  induction h with
  | zero => rfl
  | step hx a ha ih =>
    subst ih
    have h1 := mem_bitsL.1 ha
    have h2 : a.toNat = 0 := by
      apply Classical.byContradiction
      intro q
      have : (1 : Nat).testBit a.toNat = false := Nat.testBit_lt_two_pow (Nat.lt_of_lt_of_le (by decide : 1 < 2 ^ 1) (Nat.pow_le_pow_right (by decide) (by omega)))
      rw [this] at h1
      cases h1.2
    rw [h2]
    exact em_zl hg (by have := hg.1; omega)
theorem subsA_pos {t : List (List Int)} (hg : Grp t) : 0 < (subsA t (2 ^ t.length)).length := by
  have h1 : closeN t 1 = 1 := by
    refine Nat.eq_of_testBit_eq fun i => ?_
    rw [closeN, maskN_bit]
    by_cases e : i = 0
    · subst e
      rw [show genP t (bitsL 1) 0 = true from genP_iff.2 .zero]
      rfl
    · have h2 : genP t (bitsL 1) i = false := by
        cases q : genP t (bitsL 1) i with
        | false => rfl
        | true => exact absurd (gen_one hg (genP_iff.1 q)) e
      rw [h2, Bool.and_false]
      exact (Nat.testBit_lt_two_pow (Nat.lt_of_lt_of_le (by decide : 1 < 2 ^ 1) (Nat.pow_le_pow_right (by decide) (by omega)))).symm
  have h2 : (1 : Nat) ∈ (List.range (2 ^ t.length)).filter fun m => decide (closeN t m = m) := by
    rw [List.mem_filter, List.mem_range]
    exact ⟨by rw [show t.length = (t.length - 1) + 1 by have := hg.1; omega, Nat.pow_succ]; have := Nat.two_pow_pos (t.length - 1); omega, decide_eq_true h1⟩
  unfold subsA
  rw [List.length_map]
  exact List.length_pos_of_mem h2
theorem subsA_row0 {t : List (List Int)} {N : Nat} {r : List Int} (h : r ∈ subsA t N) : 0 < r.length := by
  unfold subsA at h
  obtain ⟨m, hm, rfl⟩ := List.mem_map.1 h
  have h1 := closed_odd (of_decide_eq_true (List.mem_filter.1 hm).2)
  refine List.length_pos_of_mem (a := (0 : Int)) (mem_bitsL.2 ⟨by omega, ?_⟩)
  show m.testBit 0 = true
  rw [Nat.testBit_zero]
  simpa using h1
noncomputable def sgsL (t : List (List Int)) : List (List Int) := if Grp t then subsL t else []
theorem cellsQ : ∀ {t : List (List Int)} {B : Nat}, (∀ r ∈ t, r.length ≤ B) → cellsOf t ≤ t.length * B
  | [], B, _ => by simp [cellsOf]
  | r :: t, B, h => by
    have h1 := h r (List.mem_cons_self ..)
    have h2 := cellsQ (t := t) (B := B) fun r hr => h r (List.mem_cons_of_mem _ hr)
    simp only [cellsOf, List.length_cons, Nat.succ_mul]
    omega
theorem sgsL_ok (t : List (List Int)) : OkRows (sgsL t) := by
  unfold sgsL
  split
  · rename_i h
    have h8 := h.2.1
    have hpw : 2 ^ t.length ≤ 256 := by have := Nat.pow_le_pow_right (n := 2) (by decide) h8; exact this
    have hp : (subsL t).Perm (subsA t (2 ^ t.length)) := List.mergeSort_perm _ _
    have h1 : (subsL t).length ≤ 256 := by have := hp.length_eq; have := subsA_len t (2 ^ t.length); omega
    have h2 : ∀ r ∈ subsL t, r.length ≤ 8 := fun r hr => subsA_row (hp.mem_iff.1 hr)
    have h3 := cellsQ h2
    refine ⟨by omega, fun a ha => ?_, by omega⟩
    have := h2 _ (by rw [List.getD_eq_getElem?_getD, List.getElem?_eq_getElem ha, Option.getD_some]; exact List.getElem_mem _ : (subsL t).getD a [] ∈ subsL t)
    omega
  · exact ⟨by simp, fun a ha => by simp at ha, by simp [cellsOf]⟩
theorem specSubgroupsOf (t : List (List Int)) : Spec Try.prog 5 [.agg [.rds (II t)]] (.tup [.own 0, .v (.int .i64 (codeG t))]) [.rows 39 2 (II (sgsL t))] := by
  refine Spec.of_codeC T_ok Try.func5 rfl Try.ntmps5 Try.call5 (Nat.le_of_ble_eq_true rfl) rfl rfl (CodeV_sound T_ok (by kernel_rfl) rfl ?_)
  simp only [Try.results5, go_sem, Nat.reduceMul, Nat.reduceLeDiff, Nat.reduceLT, reduceIte, reduceCtorEq, Nat.reduceEqDiff, Nat.reduceSub, Nat.reduceAdd]
  refine HereO.call T_ok rfl rfl (l01Is_spec t) (by simp only [go_sem, Nat.reduceMul, Nat.reduceLeDiff, Nat.reduceLT, reduceIte, reduceCtorEq, Nat.reduceEqDiff, Nat.reduceSub, Nat.reduceAdd, List.toList_toArray] <;> first | rfl | exact ⟨rfl, rfl⟩) rfl ?_
  simp only [Try.results5, go_sem, Nat.reduceMul, Nat.reduceLeDiff, Nat.reduceLT, reduceIte, reduceCtorEq, Nat.reduceEqDiff, Nat.reduceSub, Nat.reduceAdd]
  refine ⟨fun h => ?_, fun h => ?_⟩
  · exact RetC.conv (Conv.nilAt 2 150 (.rows 39 2 []) (by decide) rfl) (RetC.of (RetT.one 150 (by simp only [Try.results5, go_sem, Nat.reduceMul, Nat.reduceLeDiff, Nat.reduceLT, reduceIte, reduceCtorEq, Nat.reduceEqDiff, Nat.reduceSub, Nat.reduceAdd]; rfl) (by simp only [Try.results5, go_sem, Nat.reduceMul, Nat.reduceLeDiff, Nat.reduceLT, reduceIte, reduceCtorEq, Nat.reduceEqDiff, Nat.reduceSub, Nat.reduceAdd] <;> simp [sgsL, codeG, h, II]) (by simp only [Try.results5, go_sem, Nat.reduceMul, Nat.reduceLeDiff, Nat.reduceLT, reduceIte, reduceCtorEq, Nat.reduceEqDiff, Nat.reduceSub, Nat.reduceAdd] <;> simp [sgsL, codeG, h, II])))
  · refine HereO.callOwn T_ok 8 rfl rfl (l01Subgroups_spec t h) (by simp only [go_sem, Nat.reduceMul, Nat.reduceLeDiff, Nat.reduceLT, reduceIte, reduceCtorEq, Nat.reduceEqDiff, Nat.reduceSub, Nat.reduceAdd, List.toList_toArray] <;> first | rfl | exact ⟨rfl, rfl⟩) rfl (by simp) rfl ?_
    simp only [Try.results5, go_sem, Nat.reduceMul, Nat.reduceLeDiff, Nat.reduceLT, reduceIte, reduceCtorEq, Nat.reduceEqDiff, Nat.reduceSub, Nat.reduceAdd]
    exact RetC.of (RetT.one 1128 (by simp only [Try.results5, go_sem, Nat.reduceMul, Nat.reduceLeDiff, Nat.reduceLT, reduceIte, reduceCtorEq, Nat.reduceEqDiff, Nat.reduceSub, Nat.reduceAdd]; rfl) (by simp only [Try.results5, go_sem, Nat.reduceMul, Nat.reduceLeDiff, Nat.reduceLT, reduceIte, reduceCtorEq, Nat.reduceEqDiff, Nat.reduceSub, Nat.reduceAdd] <;> simp [sgsL, codeG, h]) (by simp only [Try.results5, go_sem, Nat.reduceMul, Nat.reduceLeDiff, Nat.reduceLT, reduceIte, reduceCtorEq, Nat.reduceEqDiff, Nat.reduceSub, Nat.reduceAdd] <;> simp [sgsL, codeG, h]))
theorem implSubgroupsOf (t : List (List Int)) : Spec Try.prog 7 [.agg [.rds (II t)]] (.tup [.own 0, .v (.int .i64 (codeG t))]) [.rows 39 2 (II (sgsL t))] := by
  refine Spec.of_codeC T_ok Try.func7 rfl Try.ntmps7 Try.call7 (Nat.le_of_ble_eq_true rfl) rfl rfl (CodeV_sound T_ok (by kernel_rfl) rfl ?_)
  simp only [Try.results7, go_sem, Nat.reduceMul, Nat.reduceLeDiff, Nat.reduceLT, reduceIte, reduceCtorEq, Nat.reduceEqDiff, Nat.reduceSub, Nat.reduceAdd]
  refine HereO.call T_ok rfl rfl (IsGroup_spec t) (by simp only [go_sem, Nat.reduceMul, Nat.reduceLeDiff, Nat.reduceLT, reduceIte, reduceCtorEq, Nat.reduceEqDiff, Nat.reduceSub, Nat.reduceAdd, List.toList_toArray] <;> first | rfl | exact ⟨rfl, rfl⟩) rfl ?_
  simp only [Try.results7, go_sem, Nat.reduceMul, Nat.reduceLeDiff, Nat.reduceLT, reduceIte, reduceCtorEq, Nat.reduceEqDiff, Nat.reduceSub, Nat.reduceAdd]
  refine ⟨fun h => ?_, fun h => ?_⟩
  · exact RetC.conv (Conv.nilAt 2 150 (.rows 39 2 []) (by decide) rfl) (RetC.of (RetT.one 150 (by simp only [Try.results7, go_sem, Nat.reduceMul, Nat.reduceLeDiff, Nat.reduceLT, reduceIte, reduceCtorEq, Nat.reduceEqDiff, Nat.reduceSub, Nat.reduceAdd]; rfl) (by simp only [Try.results7, go_sem, Nat.reduceMul, Nat.reduceLeDiff, Nat.reduceLT, reduceIte, reduceCtorEq, Nat.reduceEqDiff, Nat.reduceSub, Nat.reduceAdd] <;> simp [sgsL, codeG, h, II]) (by simp only [Try.results7, go_sem, Nat.reduceMul, Nat.reduceLeDiff, Nat.reduceLT, reduceIte, reduceCtorEq, Nat.reduceEqDiff, Nat.reduceSub, Nat.reduceAdd] <;> simp [sgsL, codeG, h, II])))
  · have hg := h
    have h8 := h.2.1
    have hpw : 2 ^ t.length ≤ 256 := by have := Nat.pow_le_pow_right (n := 2) (by decide) h8; exact this
    refine HereO.buildRow T_ok 120 [] rfl rfl rfl (by decide) rfl rfl rfl (by decide) ?_
    simp only [Try.results7, go_sem, Nat.reduceMul, Nat.reduceLeDiff, Nat.reduceLT, reduceIte, reduceCtorEq, Nat.reduceEqDiff, Nat.reduceSub, Nat.reduceAdd]
    refine HereO.conv (Conv.rows (id := 120) (e := 39) 2 0 (by first | rfl | (simp only [Try.results7, go_sem, Nat.reduceMul, Nat.reduceLeDiff, Nat.reduceLT, reduceIte, reduceCtorEq, Nat.reduceEqDiff, Nat.reduceSub, Nat.reduceAdd]; rfl))) ?_
    simp only [Try.results7, go_sem, Nat.reduceMul, Nat.reduceLeDiff, Nat.reduceLT, reduceIte, reduceCtorEq, Nat.reduceEqDiff, Nat.reduceSub, Nat.reduceAdd]
    refine HereO.call T_ok rfl rfl (order_spec t) (by simp only [go_sem, Nat.reduceMul, Nat.reduceLeDiff, Nat.reduceLT, reduceIte, reduceCtorEq, Nat.reduceEqDiff, Nat.reduceSub, Nat.reduceAdd, List.toList_toArray] <;> first | rfl | exact ⟨rfl, rfl⟩) rfl ?_
    simp only [Try.results7, go_sem, Nat.reduceMul, Nat.reduceLeDiff, Nat.reduceLT, reduceIte, reduceCtorEq, Nat.reduceEqDiff, Nat.reduceSub, Nat.reduceAdd]
    have hsh : shlW .i64 1 (t.length : Int) = ((2 ^ t.length : Nat) : Int) := by have q := shl_fact8 t.length (by omega); rw [q.2] at q; exact q.1
    rw [hsh]
    refine ⟨by omega, ?_⟩
    refine Here.loopV T_ok (fun m => m ≤ 2 ^ t.length) (fun m => 2 ^ t.length - m) (fun m => [(1, .box [.rds (II t)]), (4, .own 120), (13, .v (.int .i64 ((2 ^ t.length : Nat) : Int))), (14, .v (.int .i64 m))]) (fun m => [(120, .rows 39 2 (II (subsA t m)))]) 0 (by simp) (by simp only [Try.results7, go_sem, Nat.reduceMul, Nat.reduceLeDiff, Nat.reduceLT, reduceIte, reduceCtorEq, Nat.reduceEqDiff, Nat.reduceSub, Nat.reduceAdd]; simp) (by simp only [Try.results7, go_sem, Nat.reduceMul, Nat.reduceLeDiff, Nat.reduceLT, reduceIte, reduceCtorEq, Nat.reduceEqDiff, Nat.reduceSub, Nat.reduceAdd]; simp [subsA, II]) ?_
    intro m hm
    have hml := subsA_len t m
    simp only [Try.results7, go_sem, Nat.reduceMul, Nat.reduceLeDiff, Nat.reduceLT, reduceIte, reduceCtorEq, Nat.reduceEqDiff, Nat.reduceSub, Nat.reduceAdd]
    refine ⟨fun h2 => ?_, fun h2 => ?_⟩
    · have hm1 : m < 2 ^ t.length := by omega
      refine HereO.alloc T_ok 105 rfl rfl (by decide) ?_
      simp only [Try.results7, go_sem, Nat.reduceMul, Nat.reduceLeDiff, Nat.reduceLT, reduceIte, reduceCtorEq, Nat.reduceEqDiff, Nat.reduceSub, Nat.reduceAdd]
      refine HereO.store T_ok rfl (by simp only [go_sem, Nat.reduceMul, Nat.reduceLeDiff, Nat.reduceLT, reduceIte, reduceCtorEq, Nat.reduceEqDiff, Nat.reduceSub, Nat.reduceAdd] <;> rfl) (by simp only [go_sem, Nat.reduceMul, Nat.reduceLeDiff, Nat.reduceLT, reduceIte, reduceCtorEq, Nat.reduceEqDiff, Nat.reduceSub, Nat.reduceAdd] <;> rfl) rfl (by simp only [go_sem, Nat.reduceMul, Nat.reduceLeDiff, Nat.reduceLT, reduceIte, reduceCtorEq, Nat.reduceEqDiff, Nat.reduceSub, Nat.reduceAdd] <;> rfl) rfl (by first | rfl | (simp only [go_sem, Nat.reduceMul, Nat.reduceLeDiff, Nat.reduceLT, reduceIte, reduceCtorEq, Nat.reduceEqDiff, Nat.reduceSub, Nat.reduceAdd] <;> rfl)) (Nat.le_of_ble_eq_true rfl) ?_
      simp only [Try.results7, go_sem, Nat.reduceMul, Nat.reduceLeDiff, Nat.reduceLT, reduceIte, reduceCtorEq, Nat.reduceEqDiff, Nat.reduceSub, Nat.reduceAdd]
      refine HereO.callOwn T_ok 19 rfl rfl (those_spec t (by omega) 20 [.box [.v (.int .i64 m)]] (Fix.box (Fix.v _)) (fun x => m.testBit x.toNat) (fun j hj => by have := Subs1_spec m j (by omega) (by omega); simpa only [Int.toNat_natCast] using this)) (by simp only [go_sem, Nat.reduceMul, Nat.reduceLeDiff, Nat.reduceLT, reduceIte, reduceCtorEq, Nat.reduceEqDiff, Nat.reduceSub, Nat.reduceAdd, List.toList_toArray] <;> first | rfl | exact ⟨rfl, rfl⟩) rfl (by simp) rfl ?_
      simp only [Try.results7, go_sem, Nat.reduceMul, Nat.reduceLeDiff, Nat.reduceLT, reduceIte, reduceCtorEq, Nat.reduceEqDiff, Nat.reduceSub, Nat.reduceAdd]
      rw [bitsL_cnt h8 hm1]
      refine HereO.call T_ok rfl rfl (isSubQ_spec t hg (bitsL m) (bitsL_in hm1) (by have := bitsL_len m; omega)) (by simp only [go_sem, Nat.reduceMul, Nat.reduceLeDiff, Nat.reduceLT, reduceIte, reduceCtorEq, Nat.reduceEqDiff, Nat.reduceSub, Nat.reduceAdd, List.toList_toArray] <;> first | rfl | exact ⟨rfl, rfl⟩) rfl ?_
      simp only [Try.results7, go_sem, Nat.reduceMul, Nat.reduceLeDiff, Nat.reduceLT, reduceIte, reduceCtorEq, Nat.reduceEqDiff, Nat.reduceSub, Nat.reduceAdd]
      refine ⟨fun h3 => ?_, fun h3 => ?_⟩
      · have hcl := (closed_iff hg hm1).1 h3
        refine HereO.buildRowL T_ok 150 ([.own 1304]) rfl rfl rfl (by decide) rfl (by simp only [go_sem, Nat.reduceMul, Nat.reduceLeDiff, Nat.reduceLT, reduceIte, reduceCtorEq, Nat.reduceEqDiff, Nat.reduceSub, Nat.reduceAdd] <;> rfl) rfl (by decide) (by simp only [go_sem, Nat.reduceMul, Nat.reduceLeDiff, Nat.reduceLT, reduceIte, reduceCtorEq, Nat.reduceEqDiff, Nat.reduceSub, Nat.reduceAdd] <;> rfl) ?_
        simp only [Try.results7, go_sem, Nat.reduceMul, Nat.reduceLeDiff, Nat.reduceLT, reduceIte, reduceCtorEq, Nat.reduceEqDiff, Nat.reduceSub, Nat.reduceAdd]
        refine HereO.appendRows T_ok (id := 120) (j := 150) (i := 1304) rfl rfl (by decide) (by simp only [go_sem, Nat.reduceMul, Nat.reduceLeDiff, Nat.reduceLT, reduceIte, reduceCtorEq, Nat.reduceEqDiff, Nat.reduceSub, Nat.reduceAdd] <;> rfl) (by decide) (by simp only [go_sem, Nat.reduceMul, Nat.reduceLeDiff, Nat.reduceLT, reduceIte, reduceCtorEq, Nat.reduceEqDiff, Nat.reduceSub, Nat.reduceAdd] <;> rfl) (by simp only [go_sem, Nat.reduceMul, Nat.reduceLeDiff, Nat.reduceLT, reduceIte, reduceCtorEq, Nat.reduceEqDiff, Nat.reduceSub, Nat.reduceAdd] <;> rfl) (by simp only [go_sem, Nat.reduceMul, Nat.reduceLeDiff, Nat.reduceLT, reduceIte, reduceCtorEq, Nat.reduceEqDiff, Nat.reduceSub, Nat.reduceAdd] <;> rfl) (by simp only [go_sem, Nat.reduceMul, Nat.reduceLeDiff, Nat.reduceLT, reduceIte, reduceCtorEq, Nat.reduceEqDiff, Nat.reduceSub, Nat.reduceAdd] <;> rfl) (by decide) (by decide) (by first | (simp only [II_len]; omega) | simp only [I_len, II_len, upTo_len, tab_len, cnt_len, List.length_append, List.length_cons, List.length_nil, List.length_replicate]; omega) ?_
        simp only [Try.results7, go_sem, Nat.reduceMul, Nat.reduceLeDiff, Nat.reduceLT, reduceIte, reduceCtorEq, Nat.reduceEqDiff, Nat.reduceSub, Nat.reduceAdd]
        refine ⟨by unfold InR; omega, m + 1, by omega, by omega, by push_cast; rfl, ?_⟩
        rw [subsA_succ, if_pos hcl, II_append]
      · have hcl : ¬ closeN t m = m := fun q => h3 ((closed_iff hg hm1).2 q)
        refine ⟨by unfold InR; omega, m + 1, by omega, by omega, by push_cast; rfl, ?_⟩
        rw [subsA_succ, if_neg hcl, List.append_nil]
    · obtain rfl : m = 2 ^ t.length := by omega
      refine HereO.callM T_ok 29 [120] rfl rfl (sortF_spec (subsA t (2 ^ t.length)) (subsA_pos hg) (by omega) (fun r hr => ⟨subsA_row0 hr, by have := subsA_row hr; omega⟩)) (by simp only [go_sem, Nat.reduceMul, Nat.reduceLeDiff, Nat.reduceLT, reduceIte, reduceCtorEq, Nat.reduceEqDiff, Nat.reduceSub, Nat.reduceAdd, List.toList_toArray, ↓reduceIte]) rfl (by decide) (by decide) rfl rfl rfl (Nat.le_of_ble_eq_true rfl) ?_
      simp only [Try.results7, go_sem, Nat.reduceMul, Nat.reduceLeDiff, Nat.reduceLT, reduceIte, reduceCtorEq, Nat.reduceEqDiff, Nat.reduceSub, Nat.reduceAdd]
      exact RetC.of (RetT.one 120 (by simp only [Try.results7, go_sem, Nat.reduceMul, Nat.reduceLeDiff, Nat.reduceLT, reduceIte, reduceCtorEq, Nat.reduceEqDiff, Nat.reduceSub, Nat.reduceAdd]; rfl) (by simp only [Try.results7, go_sem, Nat.reduceMul, Nat.reduceLeDiff, Nat.reduceLT, reduceIte, reduceCtorEq, Nat.reduceEqDiff, Nat.reduceSub, Nat.reduceAdd] <;> simp [sgsL, codeG, h, subsL]) (by simp only [Try.results7, go_sem, Nat.reduceMul, Nat.reduceLeDiff, Nat.reduceLT, reduceIte, reduceCtorEq, Nat.reduceEqDiff, Nat.reduceSub, Nat.reduceAdd] <;> simp [sgsL, codeG, h, subsL]))
end Go.Proofs.Ytipdgkohfmpilaa
