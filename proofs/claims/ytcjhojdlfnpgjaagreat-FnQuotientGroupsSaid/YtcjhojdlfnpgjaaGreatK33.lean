/- Contracts: l01Quotient, QuotientOf; Contracts: centres, IsAbelian, CentreOf; Plain laws: the quotients that the program makes are groups, and the quotient by the derived subgroup is abelian. -/
import Derived.Test.YtcjhojdlfnpgjaaGreatK32
import Derived.Test.YtcjhojdlfnpgjaaGreatK16
import Derived.Test.YtcjhojdlfnpgjaaGreatK31
import Derived.Test.YtcjhojdlfnpgjaaGreatK17
set_option linter.unusedVariables false
set_option linter.unusedSimpArgs false
set_option maxRecDepth 100000
namespace Go.Proofs.YtcjhojdlfnpgjaaGreat
open Go.RowKit
theorem l01Quotient_spec (t : List (List Int)) (hg : Grp t) (h : List Int) (hh : AreIn t.length h) (h0 : (0 : Int) ∈ h) (hl : h.length ≤ 1048576) : Spec Tryz.prog 40 [.agg [.rds (II t)], .rd (I h)] (.tup [.agg [.own 0], .own 1]) [.rows 27 2 (II (tab (quotF t (cosN t h t.length).1 (cosN t h t.length).2) (cosN t h t.length).1.length (cosN t h t.length).1.length)), .row 2 (I (cosN t h t.length).2)] := by
  have h8 := hg.2.1
  have hr : ∀ a, a < t.length → (t.getD a []).length = t.length := fun a ha => (hg.2.2.1 a ha).1
  have he : ∀ a b, a < t.length → b < t.length → (t.getD a []).getD b 0 = em t a b := fun a b ha hb => by have := em_ee hg ha hb; unfold ee at this; exact this
  have hlen := cosN_len t h t.length
  obtain ⟨c1, c2, c3, c4⟩ := cosN_ok hg hh h0 t.length (Nat.le_refl _)
  have hcos := l01Cosets_spec t hg h hh h0 hl
  generalize cosN t h t.length = q at *
  obtain ⟨lst, num⟩ := q
  dsimp only at *
  refine Spec.of_code T_ok Tryz.func40 rfl Tryz.ntmps40 Tryz.call40 (Nat.le_of_ble_eq_true rfl) rfl rfl (CodeV_sound T_ok (by kernel_rfl) rfl ?_)
  refine WW ?_
  refine HereO.alloc T_ok 104 rfl rfl (by decide) ?_
  refine WW ?_
  refine HereO.callOwn T_ok 15 rfl rfl (hcos) SA rfl (by simp) rfl ?_
  refine WW ?_
  refine HereO.buildRow T_ok 120 [] rfl rfl rfl (by decide) rfl rfl rfl (by decide) ?_
  refine WW ?_
  refine HereO.conv (Conv.rows (id := 120) (e := 27) 2 0 SE) ?_
  refine HereO.opP T_ok (OpP.build built_26 rfl rfl rfl rfl) ?_
  refine WW ?_
  refine HereO.alloc T_ok 108 rfl rfl (by decide) ?_
  refine WW ?_
  refine HereO.storeAgg T_ok rfl SS SS rfl SS SR rfl rfl ?_
  refine WW ?_
  refine Here.loopV T_ok (fun k => k ≤ lst.length) (fun k => lst.length - k) (fun k => [(2, .box [.rds (II t)]), (4, .ptr 104 0), (6, .own 1240), (7, .own 1241), (8, .ptr 108 0), (9, .v (.int .i64 k))]) (fun k => [(104, .cells 26 [.v nilV]), (108, .cells 26 [.own 120]), (1240, .row 2 (I num)), (1241, .row 2 (I lst)), (120, .rows 27 2 (II (tab (quotF t lst num) lst.length k)))]) 0 (by simp) (by simp only [go_sem, Nat.reduceMul, Nat.reduceLeDiff, Nat.reduceLT, reduceIte, reduceCtorEq, Nat.reduceEqDiff, Nat.reduceSub, Nat.reduceAdd]; simp) (by simp only [go_sem, Nat.reduceMul, Nat.reduceLeDiff, Nat.reduceLT, reduceIte, reduceCtorEq, Nat.reduceEqDiff, Nat.reduceSub, Nat.reduceAdd]; simp [tab, II, nilV]) ?_
  intro a ha
  refine WW ?_
  refine ⟨fun h2 => ?_, fun h2 => ?_⟩
  · refine HereO.buildRow T_ok 130 (I []) rfl rfl rfl (by decide) rfl SR rfl (by decide) ?_
    refine WW ?_
    refine Here.loopV T_ok (fun k => k ≤ lst.length) (fun k => lst.length - k) (fun k => [(2, .box [.rds (II t)]), (4, .ptr 104 0), (6, .own 1240), (7, .own 1241), (8, .ptr 108 0), (9, .v (.int .i64 a)), (10, .own 130), (11, .v (.int .i64 k))]) (fun k => [(104, .cells 26 [.v nilV]), (108, .cells 26 [.own 120]), (1240, .row 2 (I num)), (1241, .row 2 (I lst)), (120, .rows 27 2 (II (tab (quotF t lst num) lst.length a))), (130, .row 2 (I (upTo (quotF t lst num a) k)))]) 0 (by simp) (by simp only [go_sem, Nat.reduceMul, Nat.reduceLeDiff, Nat.reduceLT, reduceIte, reduceCtorEq, Nat.reduceEqDiff, Nat.reduceSub, Nat.reduceAdd]; simp) (by simp only [go_sem, Nat.reduceMul, Nat.reduceLeDiff, Nat.reduceLT, reduceIte, reduceCtorEq, Nat.reduceEqDiff, Nat.reduceSub, Nat.reduceAdd]; simp [upTo, I]) ?_
    intro b hb
    refine WW ?_
    refine ⟨fun h3 => ?_, fun h3 => ?_⟩
    · have h4 := c2 _ (getD_mem (l := lst) (j := a) (by omega) 0)
      have h5 := c2 _ (getD_mem (l := lst) (j := b) (by omega) 0)
      obtain ⟨x, hx⟩ := Int.eq_ofNat_of_zero_le h4.1
      obtain ⟨y, hy⟩ := Int.eq_ofNat_of_zero_le h5.1
      have hxl : x < t.length := by omega
      have hyl : y < t.length := by omega
      have hem := em_lt hg hxl hyl
      have hq : num.getD (em t x y) 0 = quotF t lst num a b := by unfold quotF; rw [hx, hy]; rfl
      refine Here.drawS T_ok 19 (Nat.le_of_ble_eq_true rfl) mixed_ok (by kernel_rfl) (by kernel_rfl) ?_
      refine WW ?_
      rw [hx, hy]
      simp only [Int.toNat_natCast]
      rw [hr x hxl, he x y hxl hyl]
      simp only [Int.toNat_natCast]
      rw [hq]
      refine ⟨⟨by omega, by omega⟩, by omega, ⟨by omega, by omega⟩, ⟨by omega, by omega⟩, by omega, ⟨by omega, by omega⟩, ⟨by omega, by omega⟩, by omega, ?_⟩
      refine ⟨_, OpP.buildRd T_ok (I [quotF t lst num a b]) rfl rfl rfl (by decide) rfl SR rfl, ?_⟩
      refine WW ?_
      refine HereO.append T_ok (I [quotF t lst num a b]) rfl rfl (by decide) SS (by decide) SS SS (.rd _) (I_one _) SL ?_
      refine WW ?_
      exact ⟨by unfold InR; omega, b + 1, by omega, by omega, by simp, by rw [I_append, upTo_succ]⟩
    · obtain rfl : b = lst.length := by omega
      refine HereO.buildRowL T_ok 150 ([.own 130]) rfl rfl rfl (by decide) rfl SS rfl (by decide) SS ?_
      refine WW ?_
      refine HereO.appendRows T_ok (id := 120) (j := 150) (i := 130) rfl rfl (by decide) SS (by decide) SS SS SS SS (by decide) (by decide) SL ?_
      refine WW ?_
      refine HereO.store T_ok rfl SS SS rfl SS rfl SR (Nat.le_of_ble_eq_true rfl) ?_
      refine WW ?_
      exact ⟨by unfold InR; omega, a + 1, by omega, by omega, by simp, by simp [II_append, tab_succ]⟩
  · obtain rfl : a = lst.length := by omega
    refine HereO.storeAgg T_ok rfl SS SS rfl SS SR rfl rfl ?_
    refine WW ?_
    refine RetT.two 120 1240 (by decide) SE rfl ?_ ?_
    · exact WW trivial
    · exact WW trivial
noncomputable def quoC (t : List (List Int)) (l : List Int) : Int := if subC t l = 0 then (if nrmB t l = true then 0 else 5) else subC t l
noncomputable def quoT (t : List (List Int)) (l : List Int) : List (List Int) := if quoC t l = 0 then tab (quotF t (cosN t l t.length).1 (cosN t l t.length).2) (cosN t l t.length).1.length (cosN t l t.length).1.length else []
noncomputable def quoN (t : List (List Int)) (l : List Int) : List Int := if quoC t l = 0 then (cosN t l t.length).2 else []
theorem quoC_ok {t : List (List Int)} {l : List Int} (h : quoC t l = 0) : subC t l = 0 ∧ nrmB t l = true := by
  unfold quoC at h
  split at h
  · rename_i q
    split at h
    · rename_i e; exact ⟨q, e⟩
    · omega
  · rename_i q; exact absurd h q
theorem quoT_ok (t : List (List Int)) (l : List Int) (hl : l.length ≤ 1048576) : OkRows (quoT t l) := by
  unfold quoT
  split
  · rename_i h
    obtain ⟨hg, ha, hi, e⟩ := subC_ok (quoC_ok h).1
    have h8 := hg.2.1
    have := (cosN_ok hg hi (sub_zero hg e) t.length (Nat.le_refl _)).1
    exact okRows_tab _ _ _ (by omega) (by omega)
  · exact okRows_nil
theorem quoN_ok (t : List (List Int)) (l : List Int) (hl : l.length ≤ 1048576) : (quoN t l).length ≤ 1048576 := by
  unfold quoN
  split
  · rename_i h
    obtain ⟨hg, ha, hi, e⟩ := subC_ok (quoC_ok h).1
    have h8 := hg.2.1
    rw [cosN_len]
    omega
  · simp
theorem implQuotientOf (t : List (List Int)) (l : List Int) (hl : l.length ≤ 1048576) : Spec Tryz.prog 6 [.agg [.rds (II t)], .rd (I l)] (.tup [.agg [.own 0], .own 1, .v (.int .i64 (quoC t l))]) [.rows 27 2 (II (quoT t l)), .row 2 (I (quoN t l))] := by
  refine Spec.of_codeC T_ok Tryz.func6 rfl Tryz.ntmps6 Tryz.call6 (Nat.le_of_ble_eq_true rfl) rfl rfl (CodeV_sound T_ok (by kernel_rfl) rfl ?_)
  refine WW ?_
  refine HereO.alloc T_ok 104 rfl rfl (by decide) ?_
  refine WW ?_
  refine HereO.call T_ok rfl rfl (subgroupCode_spec t l hl) SA rfl ?_
  refine WW ?_
  refine ⟨fun h => ?_, fun h => ?_⟩
  · have hc : quoC t l = subC t l := by unfold quoC; rw [if_neg h]
    refine HereO.opP T_ok (OpP.build built_26 rfl rfl rfl rfl) ?_
    refine WW ?_
    refine HereO.storeAgg T_ok rfl SS SS rfl SS SR rfl rfl ?_
    refine WW ?_
    exact RetC.conv (Conv.nilIn (c := 104) (tt := 26) (l := [.v nilV]) 0 150 (.rows 27 2 []) rfl (by decide) (by decide) (by rfl) rfl) (RetC.conv (Conv.nilAt 5 151 (.row 2 []) (by decide) rfl) (RetC.of (RetT.two 150 151 (by decide) SE (by simp only [go_sem, Nat.reduceMul, Nat.reduceLeDiff, Nat.reduceLT, reduceIte, reduceCtorEq, Nat.reduceEqDiff, Nat.reduceSub, Nat.reduceAdd] <;> simp [quoT, quoN, hc, h, I, II]) (by simp only [go_sem, Nat.reduceMul, Nat.reduceLeDiff, Nat.reduceLT, reduceIte, reduceCtorEq, Nat.reduceEqDiff, Nat.reduceSub, Nat.reduceAdd] <;> simp [quoT, quoN, hc, h, I, II]) (by simp only [go_sem, Nat.reduceMul, Nat.reduceLeDiff, Nat.reduceLT, reduceIte, reduceCtorEq, Nat.reduceEqDiff, Nat.reduceSub, Nat.reduceAdd] <;> simp [quoT, quoN, hc, h, I, II]))))
  · obtain ⟨hg, ha, hi, e⟩ := subC_ok h
    refine HereO.call T_ok rfl rfl (isNormal_spec t hg l hi hl) SA rfl ?_
    refine WW ?_
    refine ⟨fun h2 => ?_, fun h2 => ?_⟩
    · have hc : quoC t l = 5 := by unfold quoC; rw [if_pos h, h2]; rfl
      refine HereO.opP T_ok (OpP.build built_26 rfl rfl rfl rfl) ?_
      refine WW ?_
      refine HereO.storeAgg T_ok rfl SS SS rfl SS SR rfl rfl ?_
      refine WW ?_
      exact RetC.conv (Conv.nilIn (c := 104) (tt := 26) (l := [.v nilV]) 0 150 (.rows 27 2 []) rfl (by decide) (by decide) (by rfl) rfl) (RetC.conv (Conv.nilAt 5 151 (.row 2 []) (by decide) rfl) (RetC.of (RetT.two 150 151 (by decide) SE (by simp only [go_sem, Nat.reduceMul, Nat.reduceLeDiff, Nat.reduceLT, reduceIte, reduceCtorEq, Nat.reduceEqDiff, Nat.reduceSub, Nat.reduceAdd] <;> simp [quoT, quoN, hc, h, I, II]) (by simp only [go_sem, Nat.reduceMul, Nat.reduceLeDiff, Nat.reduceLT, reduceIte, reduceCtorEq, Nat.reduceEqDiff, Nat.reduceSub, Nat.reduceAdd] <;> simp [quoT, quoN, hc, h, I, II]) (by simp only [go_sem, Nat.reduceMul, Nat.reduceLeDiff, Nat.reduceLT, reduceIte, reduceCtorEq, Nat.reduceEqDiff, Nat.reduceSub, Nat.reduceAdd] <;> simp [quoT, quoN, hc, h, I, II]))))
    · have hc : quoC t l = 0 := by unfold quoC; rw [if_pos h, if_pos h2]
      refine HereO.callOwn T_ok 25 rfl rfl (quotient_spec t hg l hi (sub_zero hg e) hl) SA rfl (by simp) rfl ?_
      refine WW ?_
      refine HereO.alloc T_ok 108 rfl rfl (by decide) ?_
      refine WW ?_
      refine HereO.storeAgg T_ok rfl SS SS rfl SS SR rfl rfl ?_
      refine WW ?_
      refine HereO.storeAgg T_ok rfl SS SS rfl SS SR rfl rfl ?_
      refine WW ?_
      exact RetC.of (RetT.two 1400 1401 (by decide) SE (by simp only [go_sem, Nat.reduceMul, Nat.reduceLeDiff, Nat.reduceLT, reduceIte, reduceCtorEq, Nat.reduceEqDiff, Nat.reduceSub, Nat.reduceAdd] <;> simp [quoT, quoN, hc]) (by simp only [go_sem, Nat.reduceMul, Nat.reduceLeDiff, Nat.reduceLT, reduceIte, reduceCtorEq, Nat.reduceEqDiff, Nat.reduceSub, Nat.reduceAdd] <;> simp [quoT, quoN, hc]) (by simp only [go_sem, Nat.reduceMul, Nat.reduceLeDiff, Nat.reduceLT, reduceIte, reduceCtorEq, Nat.reduceEqDiff, Nat.reduceSub, Nat.reduceAdd] <;> simp [quoT, quoN, hc]))
theorem specQuotientOf (t : List (List Int)) (l : List Int) (hl : l.length ≤ 1048576) : Spec Tryz.prog 7 [.agg [.rds (II t)], .rd (I l)] (.tup [.agg [.own 0], .own 1, .v (.int .i64 (quoC t l))]) [.rows 27 2 (II (quoT t l)), .row 2 (I (quoN t l))] := by
  refine Spec.of_codeC T_ok Tryz.func7 rfl Tryz.ntmps7 Tryz.call7 (Nat.le_of_ble_eq_true rfl) rfl rfl (CodeV_sound T_ok (by kernel_rfl) rfl ?_)
  refine WW ?_
  refine HereO.alloc T_ok 104 rfl rfl (by decide) ?_
  refine WW ?_
  refine HereO.call T_ok rfl rfl (l01Set_spec t l hl) SA rfl ?_
  refine WW ?_
  refine ⟨fun h => ?_, fun h => ?_⟩
  · have hc : quoC t l = setE t l := by unfold quoC subC; simp [h]
    refine HereO.opP T_ok (OpP.build built_26 rfl rfl rfl rfl) ?_
    refine WW ?_
    refine HereO.storeAgg T_ok rfl SS SS rfl SS SR rfl rfl ?_
    refine WW ?_
    exact RetC.conv (Conv.nilIn (c := 104) (tt := 26) (l := [.v nilV]) 0 150 (.rows 27 2 []) rfl (by decide) (by decide) (by rfl) rfl) (RetC.conv (Conv.nilAt 5 151 (.row 2 []) (by decide) rfl) (RetC.of (RetT.two 150 151 (by decide) SE (by simp only [go_sem, Nat.reduceMul, Nat.reduceLeDiff, Nat.reduceLT, reduceIte, reduceCtorEq, Nat.reduceEqDiff, Nat.reduceSub, Nat.reduceAdd] <;> simp [quoT, quoN, hc, h, I, II]) (by simp only [go_sem, Nat.reduceMul, Nat.reduceLeDiff, Nat.reduceLT, reduceIte, reduceCtorEq, Nat.reduceEqDiff, Nat.reduceSub, Nat.reduceAdd] <;> simp [quoT, quoN, hc, h, I, II]) (by simp only [go_sem, Nat.reduceMul, Nat.reduceLeDiff, Nat.reduceLT, reduceIte, reduceCtorEq, Nat.reduceEqDiff, Nat.reduceSub, Nat.reduceAdd] <;> simp [quoT, quoN, hc, h, I, II]))))
  · obtain ⟨hg, ha, hi⟩ := setE_ok h
    refine HereO.call T_ok rfl rfl (l01Subgroup_spec t hg l ha hi hl) SA rfl ?_
    refine WW ?_
    refine ⟨fun h2 => ?_, fun h2 => ?_⟩
    · have hs : subC t l = 0 := by unfold subC; rw [if_pos h, if_pos h2]
      refine HereO.call T_ok rfl rfl (l01Normal_spec t hg l hi hl) SA rfl ?_
      refine WW ?_
      refine ⟨fun h3 => ?_, fun h3 => ?_⟩
      · have hc : quoC t l = 5 := by unfold quoC; rw [if_pos hs, h3]; rfl
        refine HereO.opP T_ok (OpP.build built_26 rfl rfl rfl rfl) ?_
        refine WW ?_
        refine HereO.storeAgg T_ok rfl SS SS rfl SS SR rfl rfl ?_
        refine WW ?_
        exact RetC.conv (Conv.nilIn (c := 104) (tt := 26) (l := [.v nilV]) 0 150 (.rows 27 2 []) rfl (by decide) (by decide) (by rfl) rfl) (RetC.conv (Conv.nilAt 5 151 (.row 2 []) (by decide) rfl) (RetC.of (RetT.two 150 151 (by decide) SE (by simp only [go_sem, Nat.reduceMul, Nat.reduceLeDiff, Nat.reduceLT, reduceIte, reduceCtorEq, Nat.reduceEqDiff, Nat.reduceSub, Nat.reduceAdd] <;> simp [quoT, quoN, hc, h, I, II]) (by simp only [go_sem, Nat.reduceMul, Nat.reduceLeDiff, Nat.reduceLT, reduceIte, reduceCtorEq, Nat.reduceEqDiff, Nat.reduceSub, Nat.reduceAdd] <;> simp [quoT, quoN, hc, h, I, II]) (by simp only [go_sem, Nat.reduceMul, Nat.reduceLeDiff, Nat.reduceLT, reduceIte, reduceCtorEq, Nat.reduceEqDiff, Nat.reduceSub, Nat.reduceAdd] <;> simp [quoT, quoN, hc, h, I, II]))))
      · have hc : quoC t l = 0 := by unfold quoC; rw [if_pos hs, if_pos h3]
        refine HereO.callOwn T_ok 31 rfl rfl (l01Quotient_spec t hg l hi (sub_zero hg h2) hl) SA rfl (by simp) rfl ?_
        refine WW ?_
        refine HereO.alloc T_ok 108 rfl rfl (by decide) ?_
        refine WW ?_
        refine HereO.storeAgg T_ok rfl SS SS rfl SS SR rfl rfl ?_
        refine WW ?_
        refine HereO.storeAgg T_ok rfl SS SS rfl SS SR rfl rfl ?_
        refine WW ?_
        exact RetC.of (RetT.two 1496 1497 (by decide) SE (by simp only [go_sem, Nat.reduceMul, Nat.reduceLeDiff, Nat.reduceLT, reduceIte, reduceCtorEq, Nat.reduceEqDiff, Nat.reduceSub, Nat.reduceAdd] <;> simp [quoT, quoN, hc]) (by simp only [go_sem, Nat.reduceMul, Nat.reduceLeDiff, Nat.reduceLT, reduceIte, reduceCtorEq, Nat.reduceEqDiff, Nat.reduceSub, Nat.reduceAdd] <;> simp [quoT, quoN, hc]) (by simp only [go_sem, Nat.reduceMul, Nat.reduceLeDiff, Nat.reduceLT, reduceIte, reduceCtorEq, Nat.reduceEqDiff, Nat.reduceSub, Nat.reduceAdd] <;> simp [quoT, quoN, hc]))
    · have hc : quoC t l = 5 := by unfold quoC subC; rw [if_pos h, if_neg h2]; rfl
      refine HereO.opP T_ok (OpP.build built_26 rfl rfl rfl rfl) ?_
      refine WW ?_
      refine HereO.storeAgg T_ok rfl SS SS rfl SS SR rfl rfl ?_
      refine WW ?_
      exact RetC.conv (Conv.nilIn (c := 104) (tt := 26) (l := [.v nilV]) 0 150 (.rows 27 2 []) rfl (by decide) (by decide) (by rfl) rfl) (RetC.conv (Conv.nilAt 5 151 (.row 2 []) (by decide) rfl) (RetC.of (RetT.two 150 151 (by decide) SE (by simp only [go_sem, Nat.reduceMul, Nat.reduceLeDiff, Nat.reduceLT, reduceIte, reduceCtorEq, Nat.reduceEqDiff, Nat.reduceSub, Nat.reduceAdd] <;> simp [quoT, quoN, hc, h, I, II]) (by simp only [go_sem, Nat.reduceMul, Nat.reduceLeDiff, Nat.reduceLT, reduceIte, reduceCtorEq, Nat.reduceEqDiff, Nat.reduceSub, Nat.reduceAdd] <;> simp [quoT, quoN, hc, h, I, II]) (by simp only [go_sem, Nat.reduceMul, Nat.reduceLeDiff, Nat.reduceLT, reduceIte, reduceCtorEq, Nat.reduceEqDiff, Nat.reduceSub, Nat.reduceAdd] <;> simp [quoT, quoN, hc, h, I, II]))))
end Go.Proofs.YtcjhojdlfnpgjaaGreat
namespace Go.Proofs.YtcjhojdlfnpgjaaGreat
open Go.RowKit
def nocomm (t : List (List Int)) (a : Nat) (b : Int) : Bool := decide (em t a b.toNat ≠ em t b.toNat a)
def comm (t : List (List Int)) (a : Int) : Bool := !(cnt t.length).any (nocomm t a.toNat)
def centreN (t : List (List Int)) : List Int := (cnt t.length).filter (comm t)
theorem centre11_spec (t : List (List Int)) (hg : Grp t) (a b : Nat) (ha : a < t.length) (hb : b < t.length) : Spec Tryz.prog 109 [.v (.int .i64 b), .box [.rds (II t)], .box [.v (.int .i64 a)]] (.v (.bool (nocomm t a b))) [] := by
  refine Spec.of_code T_ok Tryz.func109 rfl Tryz.ntmps109 Tryz.call109 (Nat.le_of_ble_eq_true rfl) rfl rfl (CodeV_sound T_ok (by kernel_rfl) rfl ?_)
  refine WW ?_
  refine Here.draw T_ok mixed_ok (by kernel_rfl) ?_
  refine WW ?_
  refine ⟨_, OpP.buildRd T_ok (I [(a : Int), (b : Int)]) rfl rfl rfl (by decide) rfl SS rfl, ?_⟩
  refine WW ?_
  refine ⟨_, OpP.call' rfl rfl (times2_spec t hg a b ha hb) SA rfl, ?_⟩
  refine WW ?_
  refine ⟨_, OpP.buildRd T_ok (I [(b : Int), (a : Int)]) rfl rfl rfl (by decide) rfl SS rfl, ?_⟩
  refine WW ?_
  refine ⟨_, OpP.call' rfl rfl (times2_spec t hg b a hb ha) SA rfl, ?_⟩
  refine WW ?_
  rw [Bool.eq_iff_iff]
  simp only [nocomm, bne_iff_ne, ne_eq, decide_eq_true_eq, Int.toNat_natCast]
  omega
theorem centre1_spec (t : List (List Int)) (hg : Grp t) (a : Nat) (ha : a < t.length) : Spec Tryz.prog 107 [.v (.int .i64 a), .box [.rds (II t)]] (.v (.bool (comm t a))) [] := by
  have h8 := hg.2.1
  refine Spec.of_code T_ok Tryz.func107 rfl Tryz.ntmps107 Tryz.call107 (Nat.le_of_ble_eq_true rfl) rfl rfl (CodeV_sound T_ok (by kernel_rfl) rfl ?_)
  refine WW ?_
  refine HereO.call T_ok rfl rfl (order_spec t) SA rfl ?_
  refine WW ?_
  refine HereO.call T_ok rfl rfl (counting_spec t.length (by omega)) SA rfl ?_
  refine WW ?_
  refine HereO.call T_ok rfl rfl (ContainsFunc_spec (cnt t.length) 109 [.box [.rds (II t)], .box [.v (.int .i64 a)]] (Fix.cons (Fix.box (Fix.rds _)) (Fix.box (Fix.v _))) (nocomm t a) (fun j hj => by
    rw [cnt_get hj]
    rw [cnt_len] at hj
    exact centre11_spec t hg a j ha hj) (by rw [cnt_len]; omega)) SA rfl ?_
  refine WW ?_
  rfl
theorem centre_spec (t : List (List Int)) (hg : Grp t) : Spec Tryz.prog 93 [.agg [.rds (II t)]] (.own 0) [.row 2 (I (centreN t))] := by
  have h8 := hg.2.1
  refine Spec.of_code T_ok Tryz.func93 rfl Tryz.ntmps93 Tryz.call93 (Nat.le_of_ble_eq_true rfl) rfl rfl (CodeV_sound T_ok (by kernel_rfl) rfl ?_)
  refine WW ?_
  refine HereO.callOwn T_ok 5 rfl rfl (those_spec t (by omega) 107 [.box [.rds (II t)]] (Fix.box (Fix.rds _)) (comm t) (fun j hj => centre1_spec t hg j hj)) SA rfl (by simp) rfl ?_
  refine WW ?_
  refine RetT.one 1080 SE rfl ?_
  refine WW ?_
  rfl
theorem isAbelian_spec (t : List (List Int)) (hg : Grp t) : Spec Tryz.prog 47 [.agg [.rds (II t)]] (.v (.bool (decide ((centreN t).length = t.length)))) [] := by
  refine Spec.of_code T_ok Tryz.func47 rfl Tryz.ntmps47 Tryz.call47 (Nat.le_of_ble_eq_true rfl) rfl rfl (CodeV_sound T_ok (by kernel_rfl) rfl ?_)
  refine WW ?_
  refine Here.draw T_ok mixed_ok (by kernel_rfl) ?_
  refine WW ?_
  refine ⟨_, OpP.call' rfl rfl (centre_spec t hg) SA rfl, ?_⟩
  refine WW ?_
  refine ⟨_, OpP.call' rfl rfl (order_spec t) SA rfl, ?_⟩
  refine WW ?_
  rw [Bool.eq_iff_iff]
  simp only [beq_iff_eq, decide_eq_true_eq]
  omega
def isAbV (t : List (List Int)) : Bool := decide (Grp t ∧ (centreN t).length = t.length)
theorem implIsAbelian (t : List (List Int)) : Spec Tryz.prog 14 [.agg [.rds (II t)]] (.tup [.v (.bool (isAbV t)), .v (.int .i64 (codeG t))]) [] := by
  refine Spec.of_code T_ok Tryz.func14 rfl Tryz.ntmps14 Tryz.call14 (Nat.le_of_ble_eq_true rfl) rfl rfl (CodeV_sound T_ok (by kernel_rfl) rfl ?_)
  refine WW ?_
  refine HereO.call T_ok rfl rfl (IsGroup_spec t) SA rfl ?_
  refine WW ?_
  refine ⟨fun h => by simp [isAbV, codeG, h], fun h => ?_⟩
  refine HereO.call T_ok rfl rfl (isAbelian_spec t h) SA rfl ?_
  refine WW ?_
  simp [isAbV, codeG, h]
def centreL (t : List (List Int)) : List Int := if Grp t then centreN t else []
end Go.Proofs.YtcjhojdlfnpgjaaGreat
namespace Go.Proofs.YtcjhojdlfnpgjaaGreat
theorem mem_getD {l : List Int} {b : Int} (hb : b ∈ l) : ∃ j, j < l.length ∧ l.getD j 0 = b := by
  obtain ⟨j, hj, rfl⟩ := List.mem_iff_getElem.1 hb
  exact ⟨j, hj, by rw [List.getD_eq_getElem?_getD, List.getElem?_eq_getElem hj, Option.getD_some]⟩
theorem cosN_first {t : List (List Int)} (h1 : 1 ≤ t.length) (h : List Int) : ∀ k, 0 < (cosN t h (k + 1)).1.length ∧ (cosN t h (k + 1)).1.getD 0 0 = 0
  | 0 => by
    have q : ¬ 0 ≤ (cosN t h 0).2.getD 0 0 := by
      simp only [cosN, List.getD_eq_getElem?_getD, List.getElem?_replicate, if_pos (show 0 < t.length by omega)]
      simp
    rw [cosN_new q]
    simp [cosN]
  | k + 1 => by
    obtain ⟨i1, i2⟩ := cosN_first h1 h k
    by_cases q : 0 ≤ (cosN t h (k + 1)).2.getD (k + 1) 0
    · rw [cosN_pass q]; exact ⟨i1, i2⟩
    · rw [cosN_new q]
      refine ⟨by simp, ?_⟩
      dsimp only
      rw [getD_app1 i1]
      exact i2
theorem quo_sub {t : List (List Int)} {l : List Int} (h : quoC t l = 0) : Grp t ∧ SubG t l ∧ (∀ b ∈ l, ∀ a, a < t.length → ∃ c ∈ l, em t b.toNat a = em t a c.toNat) ∧ l.Nodup := by
  obtain ⟨h1, h2⟩ := quoC_ok h
  obtain ⟨hg, ha, hi, he⟩ := subC_ok h1
  have H := subG_of hg hi he
  refine ⟨hg, H, pass_of hg H (fun b hb a ha' => ?_), (ascD_asc ha).nodup⟩
  unfold nrmB at h2
  simp only [decide_eq_true_eq] at h2
  have h3 := h2
  obtain ⟨j, hj, e⟩ := mem_getD hb
  have h4 := h3 j a hj ha'
  rw [e] at h4
  exact h4
theorem quoT_eq {t : List (List Int)} {l : List Int} (h : quoC t l = 0) : quoT t l = tab (fun a b => (cosN t l t.length).2.getD (em t ((cosN t l t.length).1.getD a 0).toNat ((cosN t l t.length).1.getD b 0).toNat) 0) (cosN t l t.length).1.length (cosN t l t.length).1.length := by
  unfold quoT
  rw [if_pos h]
  rfl
theorem quo_all {t : List (List Int)} {l : List Int} (h : quoC t l = 0) : Grp (quoT t l) ∧ (∀ x y, x < t.length → y < t.length → ee (quoT t l) ((quoN t l).getD x 0).toNat ((quoN t l).getD y 0).toNat = (quoN t l).getD (em t x y) 0) ∧ (quoN t l).length = t.length ∧ (∀ x, x < t.length → 0 ≤ (quoN t l).getD x 0 ∧ (quoN t l).getD x 0 < (quoT t l).length) ∧
    (quoT t l).length * l.length = t.length ∧ (∀ j, j < (quoT t l).length → ∃ x, x < t.length ∧ ((quoN t l).getD x 0).toNat = j) ∧ ∀ x, x < t.length → ∀ b ∈ l, (quoN t l).getD (em t x b.toNat) 0 = (quoN t l).getD x 0 := by
  obtain ⟨hg, H, hn, hnd⟩ := quo_sub h
  have I := cosI_ok hg H t.length (Nat.le_refl _)
  have h1 := hg.1
  have hlag := lagrange hg H hnd I
  have hpos := List.length_pos_of_mem H.zero
  have hs : (cosN t l t.length).1.length ≤ t.length := (cosN_ok hg H.ar H.zero t.length (Nat.le_refl _)).1
  have hf := cosN_first h1 l (t.length - 1)
  rw [show t.length - 1 + 1 = t.length by omega] at hf
  have h00 : (cosN t l t.length).2.getD 0 0 = 0 := by
    have := I.hit 0 hf.1 0 H.zero
    rw [hf.2, show ((0 : Int)).toNat = 0 from rfl, em_zr hg (by omega)] at this
    exact this
  have hN : quoN t l = (cosN t l t.length).2 := by unfold quoN; rw [if_pos h]
  have hT := quoT_eq h
  obtain ⟨hG, hE⟩ := quot_facts hg H hn I hs h00 hT
  have hlen : (quoT t l).length = (cosN t l t.length).1.length := by rw [hT, tab_len]
  rw [hN, hlen]
  refine ⟨hG, hE, I.len, fun x hx => I.lt hx, hlag, fun j hj => ⟨((cosN t l t.length).1.getD j 0).toNat, (I.rep j hj).1, ?_⟩, fun x hx b hb => I.same hg H hx hb⟩
  rw [I.num_rep hg H hj]; rfl
theorem quo_hom {t : List (List Int)} {l : List Int} (h : quoC t l = 0) : codeH t (quoT t l) (quoN t l) = 0 ∧ homV t (quoT t l) (quoN t l) = true := by
  obtain ⟨hG, hE, hl, hr, _, _, _⟩ := quo_all h
  have hg := (quo_sub h).1
  have hc : codeH t (quoT t l) (quoN t l) = 0 := by
    unfold codeH
    rw [if_pos ⟨hg, hG⟩, if_pos ⟨hl, fun j hj => hr j (by omega)⟩]
  refine ⟨hc, decide_eq_true ⟨hc, fun a ha b hb hab => ?_⟩⟩
  exact (hE a b (by omega) (by omega)).symm
theorem asc_ascD : ∀ {l : List Int}, Asc l → AscD l := fun {l} h k hk h0 => by
  unfold Asc at h
  have := List.pairwise_iff_getElem.1 h (k - 1) k (by omega) hk (by omega)
  rw [List.getD_eq_getElem?_getD, List.getD_eq_getElem?_getD, List.getElem?_eq_getElem hk, List.getElem?_eq_getElem (show k - 1 < l.length by omega)]
  exact this
theorem genL_idem {t : List (List Int)} (hg : Grp t) {S : List Int} (hS : AreIn t.length S) : genL t (genL t S) = genL t S :=
  (genL_eq (genL_asc t S) fun x => by
    rw [mem_genL]
    refine ⟨fun q => ⟨q.1, gen_of hg (fun j hj => (mem_genL.1 (getD_mem hj 0)).1) (mem_genL.2 q)⟩, fun q => ⟨q.1, gen_idem hg hS (fun a ha => ⟨(mem_genL.1 ha).1.1, (mem_genL.1 ha).2⟩) q.2⟩⟩).symm
theorem com_gen {t : List (List Int)} (hg : Grp t) : ∀ a b, a < t.length → b < t.length → Gen t (comAll t) (em t (em t (em t a b) (invN t a)) (invN t b)) := fun a b ha hb => by
  have hm : ((comT t a b : Nat) : Int) ∈ comAll t := (mem_comAll hg).2 ⟨a, b, ha, hb, .inl ha, rfl⟩
  have := gen_of hg (comAll_in hg) hm
  rw [Int.toNat_natCast] at this
  exact this
theorem der_quo {t : List (List Int)} (hg : Grp t) : quoC t (derL t) = 0 := by
  have hS := comAll_in hg
  have hd : derL t = genL t (comAll t) := by unfold derL; rw [if_pos hg]
  rw [hd]
  have hin : AreIn t.length (genL t (comAll t)) := fun j hj => (mem_genL.1 (getD_mem hj 0)).1
  have h1 : setE t (genL t (comAll t)) = 0 := by unfold setE; rw [if_pos hg, if_pos ⟨asc_ascD (genL_asc _ _), hin⟩]
  have h2 : subC t (genL t (comAll t)) = 0 := by unfold subC; rw [if_pos h1, if_pos (genL_idem hg hS)]
  have h3 : nrmB t (genL t (comAll t)) = true := nrm_true fun j a hj ha => der_normal hg hS (com_gen hg) _ (getD_mem hj 0) a ha
  unfold quoC
  rw [if_pos h2, if_pos h3]
theorem der_ab {t : List (List Int)} (hg : Grp t) : codeG (quoT t (derL t)) = 0 ∧ isAbV (quoT t (derL t)) = true := by
  have hq := der_quo hg
  obtain ⟨hG, hE, hl, hr, _, hon, hsame⟩ := quo_all hq
  have hS := comAll_in hg
  have hd : derL t = genL t (comAll t) := by unfold derL; rw [if_pos hg]
  have hcom : ∀ a b, a < (quoT t (derL t)).length → b < (quoT t (derL t)).length → ee (quoT t (derL t)) a b = ee (quoT t (derL t)) b a := fun a b ha hb =>
    img_comm hg (fun x => ((quoN t (derL t)).getD x 0).toNat) hon (fun x y hx hy => by
      have h1 := hr _ (em_lt hg hx hy)
      rw [hE x y hx hy]
      omega) (fun x y hx hy => by
      obtain ⟨c, hc, e⟩ := der_comm hg hS (com_gen hg) hx hy
      rw [← hd] at hc
      rw [e, hsame _ (em_lt hg hy hx) c hc]) ha hb
  refine ⟨by unfold codeG; rw [if_pos hG], decide_eq_true ⟨hG, ?_⟩⟩
  unfold centreN
  rw [List.filter_eq_self.2 fun a ha => ?_, cnt_len]
  have ha' := mem_cnt.1 ha
  unfold comm
  rw [Bool.not_eq_true', List.any_eq_false]
  intro b hb
  have hb' := mem_cnt.1 hb
  unfold nocomm em
  rw [hcom a.toNat b.toNat (by omega) (by omega)]
  simp
theorem quo_nrm (t : List (List Int)) (l : List Int) : quoC t l = 0 ↔ subC t l = 0 ∧ isnV t l = true := by
  unfold quoC isnV
  by_cases h : subC t l = 0
  · rw [if_pos h, if_pos h]
    by_cases h2 : nrmB t l = true
    · rw [if_pos h2]; exact ⟨fun _ => ⟨h, h2⟩, fun _ => rfl⟩
    · rw [if_neg h2]; exact ⟨fun q => by omega, fun q => absurd q.2 h2⟩
  · rw [if_neg h, if_neg h]; exact ⟨fun q => absurd q h, fun q => absurd q.1 h⟩
end Go.Proofs.YtcjhojdlfnpgjaaGreat
