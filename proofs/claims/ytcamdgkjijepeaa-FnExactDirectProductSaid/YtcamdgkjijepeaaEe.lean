/- Contracts: DirectProduct. -/
import Derived.Test.YtcamdgkjijepeaaEb
import Derived.Test.YtcamdgkjijepeaaGe
import Derived.Test.YtcamdgkjijepeaaGc
namespace Go.Proofs.Ytcamdgkjijepeaa
open Go.RowKit
set_option linter.unusedVariables false
set_option linter.unusedSimpArgs false
set_option maxRecDepth 100000

def codeDP (t u : List (List Int)) : Int := if Grp t ∧ Grp u then (if t.length * u.length ≤ 8 then 0 else 3) else 1
def dpL (t u : List (List Int)) : List (List Int) := if codeDP t u = 0 then tab (prodF t u) (t.length * u.length) (t.length * u.length) else []
theorem codeDP_ok {t u : List (List Int)} (h : codeDP t u = 0) : Grp t ∧ Grp u ∧ t.length * u.length ≤ 8 := by
  unfold codeDP at h
  split at h
  · rename_i h1
    split at h
    · rename_i h2; exact ⟨h1.1, h1.2, h2⟩
    · omega
  · omega
theorem tab_row {f : Nat → Nat → Int} {n m a : Nat} (h : a < m) : (tab f n m).getD a [] = upTo (f a) n := by
  rw [List.getD_eq_getElem?_getD, tab, List.getElem?_map, List.getElem?_range h]
  rfl
theorem cellsOf_append : ∀ (a b : List (List Int)), cellsOf (a ++ b) = cellsOf a + cellsOf b
  | [], b => by simp [cellsOf]
  | x :: a, b => by simp only [List.cons_append, cellsOf, cellsOf_append a b]; omega
theorem cells_tab (f : Nat → Nat → Int) (n : Nat) : ∀ m, cellsOf (tab f n m) = n * m
  | 0 => by simp [tab, cellsOf]
  | m + 1 => by rw [tab_succ, cellsOf_append, cells_tab f n m]; simp [cellsOf, upTo_len]; rw [Nat.mul_succ]
theorem okRows_tab (f : Nat → Nat → Int) (n m : Nat) (hn : n ≤ 64) (hm : m ≤ 64) : OkRows (tab f n m) := by
  have h := cells_tab f n m
  have h2 : n * m ≤ 64 * 64 := Nat.mul_le_mul hn hm
  refine ⟨by rw [tab_len]; omega, fun a ha => ?_, by omega⟩
  rw [tab_len] at ha
  rw [tab_row ha, upTo_len]
  omega
theorem okRows_nil : OkRows [] := ⟨by simp, fun a h => by simp at h, by simp [cellsOf]⟩
theorem dpL_ok (t u : List (List Int)) : OkRows (dpL t u) := by
  unfold dpL
  split
  · rename_i h
    have := (codeDP_ok h).2.2
    exact okRows_tab _ _ _ (by omega) (by omega)
  · exact okRows_nil

theorem DirectProduct1_spec (t u : List (List Int)) (ht : Grp t) (hu : Grp u) (a b : Nat) (ha : a < t.length * u.length) (hb : b < t.length * u.length) : Spec Try.prog 98 [.v (.int .i64 a), .v (.int .i64 b), .box [.v (.int .i64 u.length)], .box [.rds (II t)], .box [.rds (II u)]] (.v (.int .i64 (prodF t u a b))) [] := by
  have t8 := ht.2.1
  have u8 := hu.2.1
  have u1 := hu.1
  have d1 : a / u.length < t.length := Nat.div_lt_of_lt_mul (by rw [Nat.mul_comm]; omega)
  have d2 : b / u.length < t.length := Nat.div_lt_of_lt_mul (by rw [Nat.mul_comm]; omega)
  have d3 : a % u.length < u.length := Nat.mod_lt _ (by omega)
  have d4 : b % u.length < u.length := Nat.mod_lt _ (by omega)
  have h1 := times2_spec t ht _ _ d1 d2
  have h2 := times2_spec u hu _ _ d3 d4
  have v1 := em_lt ht d1 d2
  have v2 := em_lt hu d3 d4
  have e1 : (a : Int).tdiv (u.length : Int) = ((a / u.length : Nat) : Int) := rfl
  have e2 : (b : Int).tdiv (u.length : Int) = ((b / u.length : Nat) : Int) := rfl
  have e3 : (a : Int).tmod (u.length : Int) = ((a % u.length : Nat) : Int) := rfl
  have e4 : (b : Int).tmod (u.length : Int) = ((b % u.length : Nat) : Int) := rfl
  have n1 : (0 : Int) ≤ ((a / u.length : Nat) : Int) := Int.natCast_nonneg _
  have n2 : (0 : Int) ≤ ((b / u.length : Nat) : Int) := Int.natCast_nonneg _
  refine Spec.of_code T_ok Try.func98 rfl Try.ntmps98 Try.call98 (Nat.le_of_ble_eq_true rfl) rfl rfl (CodeV_sound T_ok (by kernel_rfl) rfl ?_)
  simp only [Try.results98, go_sem, Nat.reduceMul, Nat.reduceLeDiff, Nat.reduceLT, reduceIte, reduceCtorEq, Nat.reduceEqDiff, Nat.reduceSub, Nat.reduceAdd]
  refine Here.draw T_ok mixed_ok (by kernel_rfl) ?_
  simp only [Try.results98, go_sem, Nat.reduceMul, Nat.reduceLeDiff, Nat.reduceLT, reduceIte, reduceCtorEq, Nat.reduceEqDiff, Nat.reduceSub, Nat.reduceAdd]
  rw [e1, e2]
  refine ⟨⟨by omega, by unfold InR; omega⟩, ⟨by omega, by unfold InR; omega⟩, ?_⟩
  refine ⟨_, OpP.buildRd T_ok (I [((a / u.length : Nat) : Int), ((b / u.length : Nat) : Int)]) rfl rfl rfl (by decide) rfl (by simp only [go_sem, Nat.reduceMul, Nat.reduceLeDiff, Nat.reduceLT, reduceIte, reduceCtorEq, Nat.reduceEqDiff, Nat.reduceSub, Nat.reduceAdd] <;> rfl) rfl, ?_⟩
  simp only [Try.results98, go_sem, Nat.reduceMul, Nat.reduceLeDiff, Nat.reduceLT, reduceIte, reduceCtorEq, Nat.reduceEqDiff, Nat.reduceSub, Nat.reduceAdd]
  refine ⟨_, OpP.call' rfl rfl h1 (by simp only [go_sem, Nat.reduceMul, Nat.reduceLeDiff, Nat.reduceLT, reduceIte, reduceCtorEq, Nat.reduceEqDiff, Nat.reduceSub, Nat.reduceAdd, List.toList_toArray]) rfl, ?_⟩
  simp only [Try.results98, go_sem, Nat.reduceMul, Nat.reduceLeDiff, Nat.reduceLT, reduceIte, reduceCtorEq, Nat.reduceEqDiff, Nat.reduceSub, Nat.reduceAdd]
  have hle : u.length * em t (a / u.length) (b / u.length) ≤ 8 * 8 := Nat.mul_le_mul u8 (by omega)
  have hv : (u.length : Int) * ((em t (a / u.length) (b / u.length) : Nat) : Int) = ((u.length * em t (a / u.length) (b / u.length) : Nat) : Int) := by push_cast; rfl
  rw [hv, e3, e4]
  refine ⟨by unfold InR; omega, by omega, by omega, ?_⟩
  refine ⟨_, OpP.buildRd T_ok (I [((a % u.length : Nat) : Int), ((b % u.length : Nat) : Int)]) rfl rfl rfl (by decide) rfl (by simp only [go_sem, Nat.reduceMul, Nat.reduceLeDiff, Nat.reduceLT, reduceIte, reduceCtorEq, Nat.reduceEqDiff, Nat.reduceSub, Nat.reduceAdd] <;> rfl) rfl, ?_⟩
  simp only [Try.results98, go_sem, Nat.reduceMul, Nat.reduceLeDiff, Nat.reduceLT, reduceIte, reduceCtorEq, Nat.reduceEqDiff, Nat.reduceSub, Nat.reduceAdd]
  refine ⟨_, OpP.call' rfl rfl h2 (by simp only [go_sem, Nat.reduceMul, Nat.reduceLeDiff, Nat.reduceLT, reduceIte, reduceCtorEq, Nat.reduceEqDiff, Nat.reduceSub, Nat.reduceAdd, List.toList_toArray]) rfl, ?_⟩
  simp only [Try.results98, go_sem, Nat.reduceMul, Nat.reduceLeDiff, Nat.reduceLT, reduceIte, reduceCtorEq, Nat.reduceEqDiff, Nat.reduceSub, Nat.reduceAdd]
  refine ⟨by unfold InR; omega, ?_⟩
  unfold prodF
  rw [em_ee ht d1 d2, em_ee hu d3 d4, hv]
theorem implDirectProduct (t u : List (List Int)) : Spec Try.prog 51 [.agg [.rds (II t)], .agg [.rds (II u)]] (.tup [.agg [.own 0], .v (.int .i64 (codeDP t u))]) [.rows 25 2 (II (dpL t u))] := by
  refine Spec.of_codeC T_ok Try.func51 rfl Try.ntmps51 Try.call51 (Nat.le_of_ble_eq_true rfl) rfl rfl (CodeV_sound T_ok (by kernel_rfl) rfl ?_)
  simp only [Try.results51, go_sem, Nat.reduceMul, Nat.reduceLeDiff, Nat.reduceLT, reduceIte, reduceCtorEq, Nat.reduceEqDiff, Nat.reduceSub, Nat.reduceAdd]
  refine HereO.alloc T_ok 104 rfl rfl (by decide) ?_
  simp only [Try.results51, go_sem, Nat.reduceMul, Nat.reduceLeDiff, Nat.reduceLT, reduceIte, reduceCtorEq, Nat.reduceEqDiff, Nat.reduceSub, Nat.reduceAdd]
  refine Here.drawSB T_ok [⟨4, 107, 2, [.int .i64 0], [], true⟩] 5 (Nat.le_of_ble_eq_true rfl) mixed_ok (by kernel_rfl) (by kernel_rfl) (by kernel_rfl) (by simp) (by simp) ?_
  simp only [Try.results51, go_sem, Nat.reduceMul, Nat.reduceLeDiff, Nat.reduceLT, reduceIte, reduceCtorEq, Nat.reduceEqDiff, Nat.reduceSub, Nat.reduceAdd]
  refine HereN.op (OpP.call' rfl rfl (order_spec t) (by simp only [go_sem, Nat.reduceMul, Nat.reduceLeDiff, Nat.reduceLT, reduceIte, reduceCtorEq, Nat.reduceEqDiff, Nat.reduceSub, Nat.reduceAdd, List.toList_toArray]) rfl) (by simp only [Try.results51, go_sem, Nat.reduceMul, Nat.reduceLeDiff, Nat.reduceLT, reduceIte, reduceCtorEq, Nat.reduceEqDiff, Nat.reduceSub, Nat.reduceAdd]) ?_
  simp only [Try.results51, go_sem, Nat.reduceMul, Nat.reduceLeDiff, Nat.reduceLT, reduceIte, reduceCtorEq, Nat.reduceEqDiff, Nat.reduceSub, Nat.reduceAdd]
  refine HereN.op (OpP.call' rfl rfl (order_spec u) (by simp only [go_sem, Nat.reduceMul, Nat.reduceLeDiff, Nat.reduceLT, reduceIte, reduceCtorEq, Nat.reduceEqDiff, Nat.reduceSub, Nat.reduceAdd, List.toList_toArray]) rfl) (by simp only [Try.results51, go_sem, Nat.reduceMul, Nat.reduceLeDiff, Nat.reduceLT, reduceIte, reduceCtorEq, Nat.reduceEqDiff, Nat.reduceSub, Nat.reduceAdd]) ?_
  simp only [Try.results51, go_sem, Nat.reduceMul, Nat.reduceLeDiff, Nat.reduceLT, reduceIte, reduceCtorEq, Nat.reduceEqDiff, Nat.reduceSub, Nat.reduceAdd]
  refine HereN.birth (List.mem_cons_self ..) rfl rfl (OpN.alloc T_ok rfl rfl rfl) (by simp only [Try.results51, go_sem, Nat.reduceMul, Nat.reduceLeDiff, Nat.reduceLT, reduceIte, reduceCtorEq, Nat.reduceEqDiff, Nat.reduceSub, Nat.reduceAdd]) ?_
  simp only [Try.results51, go_sem, Nat.reduceMul, Nat.reduceLeDiff, Nat.reduceLT, reduceIte, reduceCtorEq, Nat.reduceEqDiff, Nat.reduceSub, Nat.reduceAdd]
  refine HereE.of (Conv.bornCell 7 (id := 107) (e := 2) (vs := [.int .i64 0]) rfl rfl) ?_
  simp only [Try.results51, go_sem, Nat.reduceMul, Nat.reduceLeDiff, Nat.reduceLT, reduceIte, reduceCtorEq, Nat.reduceEqDiff, Nat.reduceSub, Nat.reduceAdd]
  refine HereO.store T_ok rfl (by simp only [go_sem, Nat.reduceMul, Nat.reduceLeDiff, Nat.reduceLT, reduceIte, reduceCtorEq, Nat.reduceEqDiff, Nat.reduceSub, Nat.reduceAdd] <;> rfl) (by simp only [go_sem, Nat.reduceMul, Nat.reduceLeDiff, Nat.reduceLT, reduceIte, reduceCtorEq, Nat.reduceEqDiff, Nat.reduceSub, Nat.reduceAdd] <;> rfl) rfl (by simp only [go_sem, Nat.reduceMul, Nat.reduceLeDiff, Nat.reduceLT, reduceIte, reduceCtorEq, Nat.reduceEqDiff, Nat.reduceSub, Nat.reduceAdd] <;> rfl) rfl rfl (by decide) ?_
  simp only [Try.results51, go_sem, Nat.reduceMul, Nat.reduceLeDiff, Nat.reduceLT, reduceIte, reduceCtorEq, Nat.reduceEqDiff, Nat.reduceSub, Nat.reduceAdd]
  refine HereO.buildAggs T_ok 110 [.rds (II t), .rds (II u)] rfl rfl rfl (by decide) (by decide) rfl (by simp only [go_sem, Nat.reduceMul, Nat.reduceLeDiff, Nat.reduceLT, reduceIte, reduceCtorEq, Nat.reduceEqDiff, Nat.reduceSub, Nat.reduceAdd] <;> rfl) (by decide) rfl ?_
  simp only [Try.results51, go_sem, Nat.reduceMul, Nat.reduceLeDiff, Nat.reduceLT, reduceIte, reduceCtorEq, Nat.reduceEqDiff, Nat.reduceSub, Nat.reduceAdd]
  refine HereO.call T_ok rfl rfl (areGroups2_spec t u) (by simp only [go_sem, Nat.reduceMul, Nat.reduceLeDiff, Nat.reduceLT, reduceIte, reduceCtorEq, Nat.reduceEqDiff, Nat.reduceSub, Nat.reduceAdd, List.toList_toArray]) rfl ?_
  simp only [Try.results51, go_sem, Nat.reduceMul, Nat.reduceLeDiff, Nat.reduceLT, reduceIte, reduceCtorEq, Nat.reduceEqDiff, Nat.reduceSub, Nat.reduceAdd]
  have hcast : (t.length : Int) * (u.length : Int) = ((t.length * u.length : Nat) : Int) := by push_cast; rfl
  refine ⟨fun h => ?_, fun h => ?_⟩
  · have hc : codeDP t u = 1 := by unfold codeDP; rw [if_neg h]
    refine HereO.opP T_ok (OpP.build built_32 rfl rfl rfl rfl) ?_
    simp only [Try.results51, go_sem, Nat.reduceMul, Nat.reduceLeDiff, Nat.reduceLT, reduceIte, reduceCtorEq, Nat.reduceEqDiff, Nat.reduceSub, Nat.reduceAdd]
    refine HereO.storeAgg T_ok rfl (by simp only [go_sem, Nat.reduceMul, Nat.reduceLeDiff, Nat.reduceLT, reduceIte, reduceCtorEq, Nat.reduceEqDiff, Nat.reduceSub, Nat.reduceAdd] <;> rfl) (by simp only [go_sem, Nat.reduceMul, Nat.reduceLeDiff, Nat.reduceLT, reduceIte, reduceCtorEq, Nat.reduceEqDiff, Nat.reduceSub, Nat.reduceAdd] <;> rfl) rfl (by simp only [go_sem, Nat.reduceMul, Nat.reduceLeDiff, Nat.reduceLT, reduceIte, reduceCtorEq, Nat.reduceEqDiff, Nat.reduceSub, Nat.reduceAdd] <;> rfl) rfl rfl rfl ?_
    simp only [Try.results51, go_sem, Nat.reduceMul, Nat.reduceLeDiff, Nat.reduceLT, reduceIte, reduceCtorEq, Nat.reduceEqDiff, Nat.reduceSub, Nat.reduceAdd]
    refine RetC.conv (Conv.nilIn (c := 104) (tt := 32) (l := [.v nilV]) 0 120 (.rows 25 2 []) rfl (by decide) (by decide) (by rfl) rfl) (RetC.of (RetT.one 120 (by simp only [Try.results51, go_sem, Nat.reduceMul, Nat.reduceLeDiff, Nat.reduceLT, reduceIte, reduceCtorEq, Nat.reduceEqDiff, Nat.reduceSub, Nat.reduceAdd]; rfl) (by simp only [Try.results51, go_sem, Nat.reduceMul, Nat.reduceLeDiff, Nat.reduceLT, reduceIte, reduceCtorEq, Nat.reduceEqDiff, Nat.reduceSub, Nat.reduceAdd]; simp [hc]) (by simp only [Try.results51, go_sem, Nat.reduceMul, Nat.reduceLeDiff, Nat.reduceLT, reduceIte, reduceCtorEq, Nat.reduceEqDiff, Nat.reduceSub, Nat.reduceAdd]; simp [dpL, hc, II])))
  · have t8 := h.1.2.1
    have u8 := h.2.2.1
    have hle : t.length * u.length ≤ 8 * 8 := Nat.mul_le_mul t8 u8
    rw [hcast]
    refine ⟨by unfold InR; omega, fun h2 => ?_, fun h2 => ?_⟩
    · have hc : codeDP t u = 3 := by unfold codeDP; rw [if_pos h, if_neg (by omega)]
      refine HereO.opP T_ok (OpP.build built_32 rfl rfl rfl rfl) ?_
      simp only [Try.results51, go_sem, Nat.reduceMul, Nat.reduceLeDiff, Nat.reduceLT, reduceIte, reduceCtorEq, Nat.reduceEqDiff, Nat.reduceSub, Nat.reduceAdd]
      refine HereO.storeAgg T_ok rfl (by simp only [go_sem, Nat.reduceMul, Nat.reduceLeDiff, Nat.reduceLT, reduceIte, reduceCtorEq, Nat.reduceEqDiff, Nat.reduceSub, Nat.reduceAdd] <;> rfl) (by simp only [go_sem, Nat.reduceMul, Nat.reduceLeDiff, Nat.reduceLT, reduceIte, reduceCtorEq, Nat.reduceEqDiff, Nat.reduceSub, Nat.reduceAdd] <;> rfl) rfl (by simp only [go_sem, Nat.reduceMul, Nat.reduceLeDiff, Nat.reduceLT, reduceIte, reduceCtorEq, Nat.reduceEqDiff, Nat.reduceSub, Nat.reduceAdd] <;> rfl) rfl rfl rfl ?_
      simp only [Try.results51, go_sem, Nat.reduceMul, Nat.reduceLeDiff, Nat.reduceLT, reduceIte, reduceCtorEq, Nat.reduceEqDiff, Nat.reduceSub, Nat.reduceAdd]
      refine RetC.conv (Conv.nilIn (c := 104) (tt := 32) (l := [.v nilV]) 0 120 (.rows 25 2 []) rfl (by decide) (by decide) (by rfl) rfl) (RetC.of (RetT.one 120 (by simp only [Try.results51, go_sem, Nat.reduceMul, Nat.reduceLeDiff, Nat.reduceLT, reduceIte, reduceCtorEq, Nat.reduceEqDiff, Nat.reduceSub, Nat.reduceAdd]; rfl) (by simp only [Try.results51, go_sem, Nat.reduceMul, Nat.reduceLeDiff, Nat.reduceLT, reduceIte, reduceCtorEq, Nat.reduceEqDiff, Nat.reduceSub, Nat.reduceAdd]; simp [hc]) (by simp only [Try.results51, go_sem, Nat.reduceMul, Nat.reduceLeDiff, Nat.reduceLT, reduceIte, reduceCtorEq, Nat.reduceEqDiff, Nat.reduceSub, Nat.reduceAdd]; simp [dpL, hc, II])))
    · have hc : codeDP t u = 0 := by unfold codeDP; rw [if_pos h, if_pos (by omega)]
      refine ⟨by unfold InR; omega, ?_⟩
      refine HereO.callOwn T_ok 29 rfl rfl (made_spec (t.length * u.length) (by omega) 98 [.box [.v (.int .i64 u.length)], .box [.rds (II t)], .box [.rds (II u)]] (Fix.cons (Fix.box (Fix.v _)) (Fix.cons (Fix.box (Fix.rds _)) (Fix.box (Fix.rds _)))) (prodF t u) (fun a b ha hb => DirectProduct1_spec t u h.1 h.2 a b ha hb)) (by simp only [go_sem, Nat.reduceMul, Nat.reduceLeDiff, Nat.reduceLT, reduceIte, reduceCtorEq, Nat.reduceEqDiff, Nat.reduceSub, Nat.reduceAdd, List.toList_toArray]) rfl (by simp) rfl ?_
      simp only [Try.results51, go_sem, Nat.reduceMul, Nat.reduceLeDiff, Nat.reduceLT, reduceIte, reduceCtorEq, Nat.reduceEqDiff, Nat.reduceSub, Nat.reduceAdd]
      refine HereO.storeAgg T_ok rfl (by simp only [go_sem, Nat.reduceMul, Nat.reduceLeDiff, Nat.reduceLT, reduceIte, reduceCtorEq, Nat.reduceEqDiff, Nat.reduceSub, Nat.reduceAdd] <;> rfl) (by simp only [go_sem, Nat.reduceMul, Nat.reduceLeDiff, Nat.reduceLT, reduceIte, reduceCtorEq, Nat.reduceEqDiff, Nat.reduceSub, Nat.reduceAdd] <;> rfl) rfl (by simp only [go_sem, Nat.reduceMul, Nat.reduceLeDiff, Nat.reduceLT, reduceIte, reduceCtorEq, Nat.reduceEqDiff, Nat.reduceSub, Nat.reduceAdd] <;> rfl) (by simp only [go_sem, Nat.reduceMul, Nat.reduceLeDiff, Nat.reduceLT, reduceIte, reduceCtorEq, Nat.reduceEqDiff, Nat.reduceSub, Nat.reduceAdd] <;> rfl) rfl rfl ?_
      simp only [Try.results51, go_sem, Nat.reduceMul, Nat.reduceLeDiff, Nat.reduceLT, reduceIte, reduceCtorEq, Nat.reduceEqDiff, Nat.reduceSub, Nat.reduceAdd]
      refine RetC.of (RetT.one 1464 (by simp only [Try.results51, go_sem, Nat.reduceMul, Nat.reduceLeDiff, Nat.reduceLT, reduceIte, reduceCtorEq, Nat.reduceEqDiff, Nat.reduceSub, Nat.reduceAdd]; rfl) (by simp only [Try.results51, go_sem, Nat.reduceMul, Nat.reduceLeDiff, Nat.reduceLT, reduceIte, reduceCtorEq, Nat.reduceEqDiff, Nat.reduceSub, Nat.reduceAdd]; simp [hc]) (by simp only [Try.results51, go_sem, Nat.reduceMul, Nat.reduceLeDiff, Nat.reduceLT, reduceIte, reduceCtorEq, Nat.reduceEqDiff, Nat.reduceSub, Nat.reduceAdd]; simp [dpL, hc]))
theorem specDirectProduct (t u : List (List Int)) : Spec Try.prog 50 [.agg [.rds (II t)], .agg [.rds (II u)]] (.tup [.agg [.own 0], .v (.int .i64 (codeDP t u))]) [.rows 25 2 (II (dpL t u))] := by
  refine Spec.of_codeC T_ok Try.func50 rfl Try.ntmps50 Try.call50 (Nat.le_of_ble_eq_true rfl) rfl rfl (CodeV_sound T_ok (by kernel_rfl) rfl ?_)
  simp only [Try.results50, go_sem, Nat.reduceMul, Nat.reduceLeDiff, Nat.reduceLT, reduceIte, reduceCtorEq, Nat.reduceEqDiff, Nat.reduceSub, Nat.reduceAdd]
  refine HereO.alloc T_ok 104 rfl rfl (by decide) ?_
  simp only [Try.results50, go_sem, Nat.reduceMul, Nat.reduceLeDiff, Nat.reduceLT, reduceIte, reduceCtorEq, Nat.reduceEqDiff, Nat.reduceSub, Nat.reduceAdd]
  refine HereO.call T_ok rfl rfl (l01Is_spec t) (by simp only [go_sem, Nat.reduceMul, Nat.reduceLeDiff, Nat.reduceLT, reduceIte, reduceCtorEq, Nat.reduceEqDiff, Nat.reduceSub, Nat.reduceAdd, List.toList_toArray]) rfl ?_
  simp only [Try.results50, go_sem, Nat.reduceMul, Nat.reduceLeDiff, Nat.reduceLT, reduceIte, reduceCtorEq, Nat.reduceEqDiff, Nat.reduceSub, Nat.reduceAdd]
  have hcast : (t.length : Int) * (u.length : Int) = ((t.length * u.length : Nat) : Int) := by push_cast; rfl
  refine ⟨fun h1 => ?_, fun h1 => ?_⟩
  · refine HereO.call T_ok rfl rfl (l01Is_spec u) (by simp only [go_sem, Nat.reduceMul, Nat.reduceLeDiff, Nat.reduceLT, reduceIte, reduceCtorEq, Nat.reduceEqDiff, Nat.reduceSub, Nat.reduceAdd, List.toList_toArray]) rfl ?_
    simp only [Try.results50, go_sem, Nat.reduceMul, Nat.reduceLeDiff, Nat.reduceLT, reduceIte, reduceCtorEq, Nat.reduceEqDiff, Nat.reduceSub, Nat.reduceAdd]
    refine ⟨fun h2 => ?_, fun h2 => ?_⟩
    · have hc : codeDP t u = 1 := by unfold codeDP; rw [if_neg (fun q => h2 q.2)]
      refine HereO.opP T_ok (OpP.build built_32 rfl rfl rfl rfl) ?_
      simp only [Try.results50, go_sem, Nat.reduceMul, Nat.reduceLeDiff, Nat.reduceLT, reduceIte, reduceCtorEq, Nat.reduceEqDiff, Nat.reduceSub, Nat.reduceAdd]
      refine HereO.storeAgg T_ok rfl (by simp only [go_sem, Nat.reduceMul, Nat.reduceLeDiff, Nat.reduceLT, reduceIte, reduceCtorEq, Nat.reduceEqDiff, Nat.reduceSub, Nat.reduceAdd] <;> rfl) (by simp only [go_sem, Nat.reduceMul, Nat.reduceLeDiff, Nat.reduceLT, reduceIte, reduceCtorEq, Nat.reduceEqDiff, Nat.reduceSub, Nat.reduceAdd] <;> rfl) rfl (by simp only [go_sem, Nat.reduceMul, Nat.reduceLeDiff, Nat.reduceLT, reduceIte, reduceCtorEq, Nat.reduceEqDiff, Nat.reduceSub, Nat.reduceAdd] <;> rfl) rfl rfl rfl ?_
      simp only [Try.results50, go_sem, Nat.reduceMul, Nat.reduceLeDiff, Nat.reduceLT, reduceIte, reduceCtorEq, Nat.reduceEqDiff, Nat.reduceSub, Nat.reduceAdd]
      refine RetC.conv (Conv.nilIn (c := 104) (tt := 32) (l := [.v nilV]) 0 120 (.rows 25 2 []) rfl (by decide) (by decide) (by rfl) rfl) (RetC.of (RetT.one 120 (by simp only [Try.results50, go_sem, Nat.reduceMul, Nat.reduceLeDiff, Nat.reduceLT, reduceIte, reduceCtorEq, Nat.reduceEqDiff, Nat.reduceSub, Nat.reduceAdd]; rfl) (by simp only [Try.results50, go_sem, Nat.reduceMul, Nat.reduceLeDiff, Nat.reduceLT, reduceIte, reduceCtorEq, Nat.reduceEqDiff, Nat.reduceSub, Nat.reduceAdd]; simp [hc]) (by simp only [Try.results50, go_sem, Nat.reduceMul, Nat.reduceLeDiff, Nat.reduceLT, reduceIte, reduceCtorEq, Nat.reduceEqDiff, Nat.reduceSub, Nat.reduceAdd]; simp [dpL, hc, II])))
    · have h : Grp t ∧ Grp u := ⟨h1, h2⟩
      have t8 := h.1.2.1
      have u8 := h.2.2.1
      have u1 := h.2.1
      have hle : t.length * u.length ≤ 8 * 8 := Nat.mul_le_mul t8 u8
      refine Here.draw T_ok mixed_ok (by kernel_rfl) ?_
      simp only [Try.results50, go_sem, Nat.reduceMul, Nat.reduceLeDiff, Nat.reduceLT, reduceIte, reduceCtorEq, Nat.reduceEqDiff, Nat.reduceSub, Nat.reduceAdd]
      refine ⟨_, OpP.call' rfl rfl (l01N_spec t) (by simp only [go_sem, Nat.reduceMul, Nat.reduceLeDiff, Nat.reduceLT, reduceIte, reduceCtorEq, Nat.reduceEqDiff, Nat.reduceSub, Nat.reduceAdd, List.toList_toArray]) rfl, ?_⟩
      simp only [Try.results50, go_sem, Nat.reduceMul, Nat.reduceLeDiff, Nat.reduceLT, reduceIte, reduceCtorEq, Nat.reduceEqDiff, Nat.reduceSub, Nat.reduceAdd]
      refine ⟨_, OpP.call' rfl rfl (l01N_spec u) (by simp only [go_sem, Nat.reduceMul, Nat.reduceLeDiff, Nat.reduceLT, reduceIte, reduceCtorEq, Nat.reduceEqDiff, Nat.reduceSub, Nat.reduceAdd, List.toList_toArray]) rfl, ?_⟩
      simp only [Try.results50, go_sem, Nat.reduceMul, Nat.reduceLeDiff, Nat.reduceLT, reduceIte, reduceCtorEq, Nat.reduceEqDiff, Nat.reduceSub, Nat.reduceAdd]
      rw [hcast]
      refine ⟨by unfold InR; omega, fun h3 => ?_, fun h3 => ?_⟩
      · have hc : codeDP t u = 3 := by unfold codeDP; rw [if_pos h, if_neg (by omega)]
        refine HereO.opP T_ok (OpP.build built_32 rfl rfl rfl rfl) ?_
        simp only [Try.results50, go_sem, Nat.reduceMul, Nat.reduceLeDiff, Nat.reduceLT, reduceIte, reduceCtorEq, Nat.reduceEqDiff, Nat.reduceSub, Nat.reduceAdd]
        refine HereO.storeAgg T_ok rfl (by simp only [go_sem, Nat.reduceMul, Nat.reduceLeDiff, Nat.reduceLT, reduceIte, reduceCtorEq, Nat.reduceEqDiff, Nat.reduceSub, Nat.reduceAdd] <;> rfl) (by simp only [go_sem, Nat.reduceMul, Nat.reduceLeDiff, Nat.reduceLT, reduceIte, reduceCtorEq, Nat.reduceEqDiff, Nat.reduceSub, Nat.reduceAdd] <;> rfl) rfl (by simp only [go_sem, Nat.reduceMul, Nat.reduceLeDiff, Nat.reduceLT, reduceIte, reduceCtorEq, Nat.reduceEqDiff, Nat.reduceSub, Nat.reduceAdd] <;> rfl) rfl rfl rfl ?_
        simp only [Try.results50, go_sem, Nat.reduceMul, Nat.reduceLeDiff, Nat.reduceLT, reduceIte, reduceCtorEq, Nat.reduceEqDiff, Nat.reduceSub, Nat.reduceAdd]
        refine RetC.conv (Conv.nilIn (c := 104) (tt := 32) (l := [.v nilV]) 0 120 (.rows 25 2 []) rfl (by decide) (by decide) (by rfl) rfl) (RetC.of (RetT.one 120 (by simp only [Try.results50, go_sem, Nat.reduceMul, Nat.reduceLeDiff, Nat.reduceLT, reduceIte, reduceCtorEq, Nat.reduceEqDiff, Nat.reduceSub, Nat.reduceAdd]; rfl) (by simp only [Try.results50, go_sem, Nat.reduceMul, Nat.reduceLeDiff, Nat.reduceLT, reduceIte, reduceCtorEq, Nat.reduceEqDiff, Nat.reduceSub, Nat.reduceAdd]; simp [hc]) (by simp only [Try.results50, go_sem, Nat.reduceMul, Nat.reduceLeDiff, Nat.reduceLT, reduceIte, reduceCtorEq, Nat.reduceEqDiff, Nat.reduceSub, Nat.reduceAdd]; simp [dpL, hc, II])))
      · have hc : codeDP t u = 0 := by unfold codeDP; rw [if_pos h, if_pos (by omega)]
        refine HereO.callOwn T_ok 26 rfl rfl (l01Product_spec t u (by omega) u1 (by omega) h1.tbl h2.tbl) (by simp only [go_sem, Nat.reduceMul, Nat.reduceLeDiff, Nat.reduceLT, reduceIte, reduceCtorEq, Nat.reduceEqDiff, Nat.reduceSub, Nat.reduceAdd, List.toList_toArray]) rfl (by simp) rfl ?_
        simp only [Try.results50, go_sem, Nat.reduceMul, Nat.reduceLeDiff, Nat.reduceLT, reduceIte, reduceCtorEq, Nat.reduceEqDiff, Nat.reduceSub, Nat.reduceAdd]
        refine HereO.storeAgg T_ok rfl (by simp only [go_sem, Nat.reduceMul, Nat.reduceLeDiff, Nat.reduceLT, reduceIte, reduceCtorEq, Nat.reduceEqDiff, Nat.reduceSub, Nat.reduceAdd] <;> rfl) (by simp only [go_sem, Nat.reduceMul, Nat.reduceLeDiff, Nat.reduceLT, reduceIte, reduceCtorEq, Nat.reduceEqDiff, Nat.reduceSub, Nat.reduceAdd] <;> rfl) rfl (by simp only [go_sem, Nat.reduceMul, Nat.reduceLeDiff, Nat.reduceLT, reduceIte, reduceCtorEq, Nat.reduceEqDiff, Nat.reduceSub, Nat.reduceAdd] <;> rfl) (by simp only [go_sem, Nat.reduceMul, Nat.reduceLeDiff, Nat.reduceLT, reduceIte, reduceCtorEq, Nat.reduceEqDiff, Nat.reduceSub, Nat.reduceAdd] <;> rfl) rfl rfl ?_
        simp only [Try.results50, go_sem, Nat.reduceMul, Nat.reduceLeDiff, Nat.reduceLT, reduceIte, reduceCtorEq, Nat.reduceEqDiff, Nat.reduceSub, Nat.reduceAdd]
        refine RetC.of (RetT.one 1416 (by simp only [Try.results50, go_sem, Nat.reduceMul, Nat.reduceLeDiff, Nat.reduceLT, reduceIte, reduceCtorEq, Nat.reduceEqDiff, Nat.reduceSub, Nat.reduceAdd]; rfl) (by simp only [Try.results50, go_sem, Nat.reduceMul, Nat.reduceLeDiff, Nat.reduceLT, reduceIte, reduceCtorEq, Nat.reduceEqDiff, Nat.reduceSub, Nat.reduceAdd]; simp [hc]) (by simp only [Try.results50, go_sem, Nat.reduceMul, Nat.reduceLeDiff, Nat.reduceLT, reduceIte, reduceCtorEq, Nat.reduceEqDiff, Nat.reduceSub, Nat.reduceAdd]; simp [dpL, hc]))
  · have hc : codeDP t u = 1 := by unfold codeDP; rw [if_neg (fun q => h1 q.1)]
    refine HereO.opP T_ok (OpP.build built_32 rfl rfl rfl rfl) ?_
    simp only [Try.results50, go_sem, Nat.reduceMul, Nat.reduceLeDiff, Nat.reduceLT, reduceIte, reduceCtorEq, Nat.reduceEqDiff, Nat.reduceSub, Nat.reduceAdd]
    refine HereO.storeAgg T_ok rfl (by simp only [go_sem, Nat.reduceMul, Nat.reduceLeDiff, Nat.reduceLT, reduceIte, reduceCtorEq, Nat.reduceEqDiff, Nat.reduceSub, Nat.reduceAdd] <;> rfl) (by simp only [go_sem, Nat.reduceMul, Nat.reduceLeDiff, Nat.reduceLT, reduceIte, reduceCtorEq, Nat.reduceEqDiff, Nat.reduceSub, Nat.reduceAdd] <;> rfl) rfl (by simp only [go_sem, Nat.reduceMul, Nat.reduceLeDiff, Nat.reduceLT, reduceIte, reduceCtorEq, Nat.reduceEqDiff, Nat.reduceSub, Nat.reduceAdd] <;> rfl) rfl rfl rfl ?_
    simp only [Try.results50, go_sem, Nat.reduceMul, Nat.reduceLeDiff, Nat.reduceLT, reduceIte, reduceCtorEq, Nat.reduceEqDiff, Nat.reduceSub, Nat.reduceAdd]
    refine RetC.conv (Conv.nilIn (c := 104) (tt := 32) (l := [.v nilV]) 0 120 (.rows 25 2 []) rfl (by decide) (by decide) (by rfl) rfl) (RetC.of (RetT.one 120 (by simp only [Try.results50, go_sem, Nat.reduceMul, Nat.reduceLeDiff, Nat.reduceLT, reduceIte, reduceCtorEq, Nat.reduceEqDiff, Nat.reduceSub, Nat.reduceAdd]; rfl) (by simp only [Try.results50, go_sem, Nat.reduceMul, Nat.reduceLeDiff, Nat.reduceLT, reduceIte, reduceCtorEq, Nat.reduceEqDiff, Nat.reduceSub, Nat.reduceAdd]; simp [hc]) (by simp only [Try.results50, go_sem, Nat.reduceMul, Nat.reduceLeDiff, Nat.reduceLT, reduceIte, reduceCtorEq, Nat.reduceEqDiff, Nat.reduceSub, Nat.reduceAdd]; simp [dpL, hc, II])))
end Go.Proofs.Ytcamdgkjijepeaa
