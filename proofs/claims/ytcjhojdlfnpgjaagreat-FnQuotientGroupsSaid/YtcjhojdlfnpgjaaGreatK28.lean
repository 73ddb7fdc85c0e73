/- Contracts: the draw of two groups, the second mostly the first renumbered. -/
import Derived.Test.YtcjhojdlfnpgjaaGreatK24
set_option linter.unusedVariables false
set_option linter.unusedSimpArgs false
set_option maxRecDepth 100000
namespace Go.Proofs.YtcjhojdlfnpgjaaGreat
open Go.RowKit
noncomputable def fiA (bs : List Int) (t : List (List Int)) (s : Int × Int) : List (List Int) × Int × Int := if (nx bs 3 (drN bs s t.length).2).1 = 0 then drG bs nms (nx bs 3 (drN bs s t.length).2).2 else (tab (renF t (drN bs s t.length).1) t.length t.length, (nx bs 3 (drN bs s t.length).2).2)
noncomputable def fiV (bs : List Int) (t : List (List Int)) (s : Int × Int) : List (List Int) × List (List Int) := ((badV bs t (fiA bs t s).2).1, (badV bs (fiA bs t s).1 (badV bs t (fiA bs t s).2).2).1)
theorem fiA_ok {bs : List Int} (hb : Bytes bs) {t : List (List Int)} (hg : Grp t) {s : Int × Int} (hs : At bs s) : Dr (fiA bs t s).1 ∧ At bs (fiA bs t s).2 := by
  obtain ⟨_, h4⟩ := drN_ok hb hs hg.1
  obtain ⟨_, _, h5⟩ := nx_ok hb 3 h4
  unfold fiA
  split
  · exact drG_ok hb (names := nms) (by decide) (fun k hk => (nms_fact k hk).2.1) h5
  · exact ⟨dr_tab _ hg.1 hg.2.1, h5⟩
set_option maxHeartbeats 4000000 in
theorem DrawFindIsomorphism_spec (bs : List Int) (hb : Bytes bs) : SpecF Tryz.prog 20 [.rd (BY bs)] twoR (fun y => Sp y.1 ∧ Sp y.2) := by
  have h0 := src0_at bs
  have hg := drG_grp hb (names := nms) (by decide) (fun k hk => (nms_fact k hk).2.1) h0
  obtain ⟨h1, h2⟩ := drG_ok hb (names := nms) (by decide) (fun k hk => (nms_fact k hk).2.1) h0
  have hd := l01Draw_spec bs hb _ h0
  generalize drG bs nms (src0 bs) = a at *
  obtain ⟨t, s1⟩ := a
  dsimp only at h1 h2 hd hg ⊢
  have h8 := hg.2.1
  have t1 := hg.1
  obtain ⟨h3, h4⟩ := drN_ok hb h2 t1
  have hdn := l01DrawNumbers_spec bs hb t.length t1 (by omega) _ h2
  have hren := l01Renumbered_spec t hg _ h3
  obtain ⟨_, _, h5⟩ := nx_ok hb 3 h4
  obtain ⟨g1, g2⟩ := fiA_ok hb hg h2
  obtain ⟨h6, h7⟩ := badV_ok hb h1 g2
  obtain ⟨h9, _⟩ := badV_ok hb g1 h7
  refine SpecF.of_code T_ok Tryz.func20 rfl Tryz.ntmps20 Tryz.call20 (Nat.le_of_ble_eq_true rfl) (Here.conv (Conv.ghost 0 200 (by decide) rfl) (CodeV_sound T_ok (by kernel_rfl) rfl ?_))
  refine WW ?_
  refine HereO.alloc T_ok 102 rfl rfl (by decide) ?_
  refine WW ?_
  refine HereO.alloc T_ok 103 rfl rfl (by decide) ?_
  refine WW ?_
  refine HereO.callM T_ok 8 [200] rfl rfl (l01From_spec bs hb) SC rfl (by decide) (by decide) rfl rfl rfl (Nat.le_of_ble_eq_true rfl) ?_
  refine WW ?_
  refine HereO.callM T_ok 10 [1129,200] rfl rfl (hd) SC rfl (by decide) (by decide) rfl rfl rfl (Nat.le_of_ble_eq_true rfl) ?_
  refine WW ?_
  refine HereO.alloc T_ok 105 rfl rfl (by decide) ?_
  refine WW ?_
  refine HereO.storeAgg T_ok rfl SS SS rfl SS SR rfl rfl ?_
  refine WW ?_
  refine Here.drawCB T_ok [.f, .f, .f, .f, .c, .c, .b 106] [4, 5] [1240, 1241, 1242, 1243, 1244, 1245, 1246, 1247, 1248, 1249, 1250, 1251, 1252, 1253, 1254, 1255, 1256, 1257, 1258, 1259, 1260, 1261, 1262, 1263, 1264, 1265, 1266, 1267, 1268, 1269, 1270, 1271] [105, 1162] [⟨6, 106, 26, [.slice none 0 0], [], true⟩] (Nat.le_of_ble_eq_true rfl) mixed_ok (by kernel_rfl) (by kernel_rfl) (by kernel_rfl) (by simp) (by simp) (by kernel_rfl) (by kernel_rfl) (by simp only [List.mem_cons, List.not_mem_nil, or_false, forall_eq_or_imp, forall_eq, go_sem, Nat.reduceMul, Nat.reduceLeDiff, Nat.reduceLT, reduceIte, reduceCtorEq, Nat.reduceEqDiff, Nat.reduceSub, Nat.reduceAdd] <;> ((repeat' apply And.intro) <;> first | exact calm_ptr_ne rfl | exact calm_ne rfl)) (fun hAw => ?_)
  simp only [go_sem, Nat.reduceMul, Nat.reduceLeDiff, Nat.reduceLT, reduceIte, reduceCtorEq, Nat.reduceEqDiff, Nat.reduceSub, Nat.reduceAdd] at hAw ⊢
  refine HereF.loadAggB T_ok (id := 105) (tt := 26) (c := [.own 1162]) rfl SS (by kernel_rfl) rfl (by decide) SS rfl (calm_agg1 (calm_ne rfl)) ?_
  refine WW ?_
  refine ⟨calm_ptr_ne rfl, ?_⟩
  refine HereF.loadAggB T_ok (id := 105) (tt := 26) (c := [.own 1162]) rfl SS (by kernel_rfl) rfl (by decide) SS rfl (calm_agg1 (calm_ne rfl)) ?_
  refine WW ?_
  refine ⟨_, fun σ hG => OpP.call' rfl rfl (l01N_spec t) (by have hq := hG.1 1162 (by decide); simp only [go_sem, Nat.reduceMul, Nat.reduceLeDiff, Nat.reduceLT, reduceIte, reduceCtorEq, Nat.reduceEqDiff, Nat.reduceSub, Nat.reduceAdd, List.toList_toArray, hq] <;> rfl) rfl, SW, ?_⟩
  refine WW ?_
  refine HereC.callMB hAw 15 [1129,200] rfl rfl (hdn) SC rfl (by decide) (by decide) rfl rfl rfl (Nat.le_of_ble_eq_true rfl) (inK_shift rfl) SK (by kernel_rfl) (fun hAw => ?_)
  simp only [go_sem, Nat.reduceMul, Nat.reduceLeDiff, Nat.reduceLT, reduceIte, reduceCtorEq, Nat.reduceEqDiff, Nat.reduceSub, Nat.reduceAdd] at hAw ⊢
  refine HereC.callOwnB hAw 16 rfl rfl (hren) SA rfl (by simp) rfl (inK_shift (by decide)) SK (by kernel_rfl) (by rfl) (fun hAw => ?_)
  simp only [go_sem, Nat.reduceMul, Nat.reduceLeDiff, Nat.reduceLT, reduceIte, reduceCtorEq, Nat.reduceEqDiff, Nat.reduceSub, Nat.reduceAdd] at hAw ⊢
  refine HereBn.of ⟨6, 106, 26, [.slice none 0 0], [], true⟩ (List.mem_cons_self ..) (by decide) (fun σ => OpN.alloc T_ok rfl rfl rfl) (calm_ptr_ne rfl) ?_
  refine WW ?_
  refine EndB.of (by rfl) (Conv.bornCell 6 (id := 106) (e := 26) (vs := [.slice none 0 0]) rfl rfl) ?_
  refine WW ?_
  refine HereO.storeAgg T_ok rfl SS SS rfl SS SR rfl rfl ?_
  refine WW ?_
  refine HereO.callM T_ok 18 [1129,200] rfl rfl (l01Next_spec bs hb 3 _ h4) SC rfl (by decide) (by decide) rfl rfl rfl (Nat.le_of_ble_eq_true rfl) ?_
  refine WW ?_
  refine ⟨fun hz => ?_, fun hz => ?_⟩
  · have e : drG bs nms (nx bs 3 (drN bs s1 t.length).2).2 = fiA bs t s1 := by unfold fiA; rw [if_pos hz]
    refine HereO.callM T_ok 21 [1129,200] rfl rfl (l01Draw_spec bs hb _ h5) SC rfl (by decide) (by decide) rfl rfl rfl (Nat.le_of_ble_eq_true rfl) ?_
    refine WW ?_
    refine HereO.storeAgg T_ok rfl SS SS rfl SS SR rfl rfl ?_
    refine WW ?_
    rw [e]
    refine Here.drawC T_ok [.f, .f, .c, .f, .f, .c, .c, .c] [4, 5, 6] [1384, 1385, 1386, 1387, 1388, 1389, 1390, 1391, 1392, 1393, 1394, 1395, 1396, 1397, 1398, 1399, 1432, 1433, 1434, 1435, 1436, 1437, 1438, 1439, 1440, 1441, 1442, 1443, 1444, 1445, 1446, 1447] [105, 106] (Nat.le_of_ble_eq_true rfl) mixed_ok (by kernel_rfl) (by kernel_rfl) (by kernel_rfl) (by simp only [List.mem_cons, List.not_mem_nil, or_false, forall_eq_or_imp, forall_eq, go_sem, Nat.reduceMul, Nat.reduceLeDiff, Nat.reduceLT, reduceIte, reduceCtorEq, Nat.reduceEqDiff, Nat.reduceSub, Nat.reduceAdd] <;> first | exact calm_ptr_ne rfl | exact calm_ne rfl | exact ⟨calm_ptr_ne rfl, calm_ptr_ne rfl⟩ | exact ⟨calm_ptr_ne rfl, calm_ptr_ne rfl, calm_ptr_ne rfl⟩ | exact ⟨calm_ptr_ne rfl, calm_knot (by simp only [go_sem, Nat.reduceMul, Nat.reduceLeDiff, Nat.reduceLT, reduceIte, reduceCtorEq, Nat.reduceEqDiff, Nat.reduceSub, Nat.reduceAdd] <;> exact calm_ptr_ne rfl)⟩ | ((repeat' apply And.intro) <;> first | exact calm_ptr_ne rfl | exact calm_ne rfl)) ?_
    refine WW ?_
    refine ⟨calm_ptr_ne rfl, ?_⟩
    refine HereF.loadAgg T_ok (id := 105) (tt := 26) (c := [.own 1162]) rfl SS (by kernel_rfl) rfl (by decide) SS rfl (calm_agg1 (calm_ne rfl)) ?_
    refine WW ?_
    refine HereC.callM 24 [1129,200,1162] rfl rfl (l01Bad_spec bs hb t h1 _ g2) SC rfl (by decide) (by decide) rfl rfl rfl (Nat.le_of_ble_eq_true rfl) (inK_shift rfl) SK ?_
    refine WW ?_
    refine ⟨calm_ptr_ne rfl, ?_⟩
    refine HereF.loadAgg T_ok (id := 106) (tt := 26) (c := [.own 1338]) rfl SS (by kernel_rfl) rfl (by decide) SS rfl (calm_agg1 (calm_ne rfl)) ?_
    refine WW ?_
    refine HereC.callM 27 [1129,200,1338] rfl rfl (l01Bad_spec bs hb _ g1 _ h7) SC rfl (by decide) (by decide) rfl rfl rfl (Nat.le_of_ble_eq_true rfl) (inK_shift rfl) SK ?_
    refine WW ?_
    refine HereC.storeAgg T_ok rfl SS SS rfl SS SR rfl rfl SK ?_
    refine WW ?_
    refine HereC.storeAgg T_ok rfl SS SS rfl SS SR rfl rfl SK ?_
    refine WW ?_
    refine RetF.of (res := twoR) (Q := fun y => Sp y.1 ∧ Sp y.2) (fiV bs t s1) (.tup [.agg [.own 0], .agg [.own 1]]) [.frz (II (fiV bs t s1).1), .frz (II (fiV bs t s1).2)] ⟨h6, h9⟩ rfl rfl rfl ?_
    refine RetC.of (RetT.two 1387 1435 (by decide) SE rfl ?_ ?_)
    · (simp only [go_sem, Nat.reduceMul, Nat.reduceLeDiff, Nat.reduceLT, reduceIte, reduceCtorEq, Nat.reduceEqDiff, Nat.reduceSub, Nat.reduceAdd]) <;> rfl
    · (simp only [go_sem, Nat.reduceMul, Nat.reduceLeDiff, Nat.reduceLT, reduceIte, reduceCtorEq, Nat.reduceEqDiff, Nat.reduceSub, Nat.reduceAdd]) <;> rfl
  · have e : fiA bs t s1 = (tab (renF t (drN bs s1 t.length).1) t.length t.length, (nx bs 3 (drN bs s1 t.length).2).2) := by unfold fiA; rw [if_neg hz]
    have e1 : tab (renF t (drN bs s1 t.length).1) t.length t.length = (fiA bs t s1).1 := by rw [e]
    have e2 : (nx bs 3 (drN bs s1 t.length).2).2 = (fiA bs t s1).2 := by rw [e]
    rw [e1, e2]
    refine Here.drawC T_ok [.f, .f, .c, .f, .f, .c, .c, .c] [4, 5, 6] [1384, 1385, 1386, 1387, 1388, 1389, 1390, 1391, 1392, 1393, 1394, 1395, 1396, 1397, 1398, 1399, 1432, 1433, 1434, 1435, 1436, 1437, 1438, 1439, 1440, 1441, 1442, 1443, 1444, 1445, 1446, 1447] [105, 106] (Nat.le_of_ble_eq_true rfl) mixed_ok (by kernel_rfl) (by kernel_rfl) (by kernel_rfl) (by simp only [List.mem_cons, List.not_mem_nil, or_false, forall_eq_or_imp, forall_eq, go_sem, Nat.reduceMul, Nat.reduceLeDiff, Nat.reduceLT, reduceIte, reduceCtorEq, Nat.reduceEqDiff, Nat.reduceSub, Nat.reduceAdd] <;> first | exact calm_ptr_ne rfl | exact calm_ne rfl | exact ⟨calm_ptr_ne rfl, calm_ptr_ne rfl⟩ | exact ⟨calm_ptr_ne rfl, calm_ptr_ne rfl, calm_ptr_ne rfl⟩ | exact ⟨calm_ptr_ne rfl, calm_knot (by simp only [go_sem, Nat.reduceMul, Nat.reduceLeDiff, Nat.reduceLT, reduceIte, reduceCtorEq, Nat.reduceEqDiff, Nat.reduceSub, Nat.reduceAdd] <;> exact calm_ptr_ne rfl)⟩ | ((repeat' apply And.intro) <;> first | exact calm_ptr_ne rfl | exact calm_ne rfl)) ?_
    refine WW ?_
    refine ⟨calm_ptr_ne rfl, ?_⟩
    refine HereF.loadAgg T_ok (id := 105) (tt := 26) (c := [.own 1162]) rfl SS (by kernel_rfl) rfl (by decide) SS rfl (calm_agg1 (calm_ne rfl)) ?_
    refine WW ?_
    refine HereC.callM 24 [1129,200,1162] rfl rfl (l01Bad_spec bs hb t h1 _ g2) SC rfl (by decide) (by decide) rfl rfl rfl (Nat.le_of_ble_eq_true rfl) (inK_shift rfl) SK ?_
    refine WW ?_
    refine ⟨calm_ptr_ne rfl, ?_⟩
    refine HereF.loadAgg T_ok (id := 106) (tt := 26) (c := [.own 1256]) rfl SS (by kernel_rfl) rfl (by decide) SS rfl (calm_agg1 (calm_ne rfl)) ?_
    refine WW ?_
    refine HereC.callM 27 [1129,200,1256] rfl rfl (l01Bad_spec bs hb _ g1 _ h7) SC rfl (by decide) (by decide) rfl rfl rfl (Nat.le_of_ble_eq_true rfl) (inK_shift rfl) SK ?_
    refine WW ?_
    refine HereC.storeAgg T_ok rfl SS SS rfl SS SR rfl rfl SK ?_
    refine WW ?_
    refine HereC.storeAgg T_ok rfl SS SS rfl SS SR rfl rfl SK ?_
    refine WW ?_
    refine RetF.of (res := twoR) (Q := fun y => Sp y.1 ∧ Sp y.2) (fiV bs t s1) (.tup [.agg [.own 0], .agg [.own 1]]) [.frz (II (fiV bs t s1).1), .frz (II (fiV bs t s1).2)] ⟨h6, h9⟩ rfl rfl rfl ?_
    refine RetC.of (RetT.two 1387 1435 (by decide) SE rfl ?_ ?_)
    · (simp only [go_sem, Nat.reduceMul, Nat.reduceLeDiff, Nat.reduceLT, reduceIte, reduceCtorEq, Nat.reduceEqDiff, Nat.reduceSub, Nat.reduceAdd]) <;> rfl
    · (simp only [go_sem, Nat.reduceMul, Nat.reduceLeDiff, Nat.reduceLT, reduceIte, reduceCtorEq, Nat.reduceEqDiff, Nat.reduceSub, Nat.reduceAdd]) <;> rfl
end Go.Proofs.YtcjhojdlfnpgjaaGreat
