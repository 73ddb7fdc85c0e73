/- Contracts: the draws of groups; Plain laws: a renumbered group is a group; Contracts: the draw of a renumbering; Contracts: the draw of a set. -/
import Derived.Test.YtcjhojdlfnpgjaaGreatK23
import Derived.Test.YtcjhojdlfnpgjaaGreatK14
import Derived.Test.YtcjhojdlfnpgjaaGreatK20
import Derived.Test.YtcjhojdlfnpgjaaGreatK21
set_option linter.unusedVariables false
set_option linter.unusedSimpArgs false
set_option maxRecDepth 100000
namespace Go.Proofs.YtcjhojdlfnpgjaaGreat
open Go.RowKit
theorem RetM.new2' {T : TT} {results : Array ResultVar} {r : LV} {s : St} {rs : List LV} {a c : OC} (m1 m2 : Nat) (hm1 : 1 ≤ m1) (hm2 : 1 ≤ m2) (h12 : m1 ≠ m2) (h : resLs T s results.toList = some rs) (h2 : tupL rs = ren (fun i => [0, m1, m2].getD i 0) r) (h3 : s.σ m1 = some (renO (fun i => [0, m1, m2].getD i 0) a)) (h5 : s.σ m2 = some (renO (fun i => [0, m1, m2].getD i 0) c)) : RetM T results 1 r [none, some a, some c] s :=
  ⟨rs, [0, m1, m2], h, h2, rfl, by simp; omega, fun i hi => (by
    match i, hi with
    | 0, _ => rfl), fun i oc hi => by
    match i with
    | 0 => simp [osO] at hi
    | 1 => simp [osO] at hi; subst hi; simpa using h3
    | 2 => simp [osO] at hi; subst hi; simpa using h5
    | i + 3 => simp [osO] at hi⟩
def oneR (t : List (List Int)) : LV := .agg [.rds (II t)]
def twoR (y : List (List Int) × List (List Int)) : LV := .tup [.agg [.rds (II y.1)], .agg [.rds (II y.2)]]
theorem DrawDerivedOf_spec (bs : List Int) (hb : Bytes bs) : SpecF Tryz.prog 31 [.rd (BY bs)] oneR Sp := by
  have h0 := src0_at bs
  obtain ⟨h1, h2⟩ := spV_ok hb h0
  refine SpecF.of_code T_ok Tryz.func31 rfl Tryz.ntmps31 Tryz.call31 (Nat.le_of_ble_eq_true rfl) (Here.conv (Conv.ghost 0 200 (by decide) rfl) (CodeV_sound T_ok (by kernel_rfl) rfl ?_))
  refine WW ?_
  refine HereO.alloc T_ok 102 rfl rfl (by decide) ?_
  refine WW ?_
  refine HereO.callM T_ok 4 [200] rfl rfl (l01From_spec bs hb) SC rfl (by decide) (by decide) rfl rfl rfl (Nat.le_of_ble_eq_true rfl) ?_
  refine WW ?_
  refine HereO.callM T_ok 5 [1065,200] rfl rfl (l01Spoil_spec bs hb _ h0) SC rfl (by decide) (by decide) rfl rfl rfl (Nat.le_of_ble_eq_true rfl) ?_
  refine WW ?_
  refine HereO.storeAgg T_ok rfl SS SS rfl SS SR rfl rfl ?_
  refine WW ?_
  refine RetF.of (res := oneR) (Q := Sp) (spV bs (src0 bs)).1 (.agg [.own 0]) [.frz (II (spV bs (src0 bs)).1)] h1 rfl rfl rfl ?_
  refine RetC.of (RetT.one 1082 SE rfl ?_)
  (simp only [go_sem, Nat.reduceMul, Nat.reduceLeDiff, Nat.reduceLT, reduceIte, reduceCtorEq, Nat.reduceEqDiff, Nat.reduceSub, Nat.reduceAdd]) <;> rfl
theorem DrawHomomorphismsOf_spec (bs : List Int) (hb : Bytes bs) : SpecF Tryz.prog 16 [.rd (BY bs)] twoR (fun y => Sp y.1 ∧ Sp y.2) := by
  have h0 := src0_at bs
  obtain ⟨h1, h2⟩ := drG_ok hb (names := nms) (by decide) (fun k hk => (nms_fact k hk).2.1) h0
  obtain ⟨h3, h4⟩ := drG_ok hb (names := nms) (by decide) (fun k hk => (nms_fact k hk).2.1) h2
  obtain ⟨h5, h6⟩ := badV_ok hb h1 h4
  obtain ⟨h7, h8⟩ := badV_ok hb h3 h6
  refine SpecF.of_code T_ok Tryz.func16 rfl Tryz.ntmps16 Tryz.call16 (Nat.le_of_ble_eq_true rfl) (Here.conv (Conv.ghost 0 200 (by decide) rfl) (CodeV_sound T_ok (by kernel_rfl) rfl ?_))
  refine WW ?_
  refine HereO.alloc T_ok 102 rfl rfl (by decide) ?_
  refine WW ?_
  refine HereO.alloc T_ok 103 rfl rfl (by decide) ?_
  refine WW ?_
  refine HereO.callM T_ok 8 [200] rfl rfl (l01From_spec bs hb) SC rfl (by decide) (by decide) rfl rfl rfl (Nat.le_of_ble_eq_true rfl) ?_
  refine WW ?_
  refine HereO.callM T_ok 10 [1129,200] rfl rfl (l01Draw_spec bs hb _ h0) SC rfl (by decide) (by decide) rfl rfl rfl (Nat.le_of_ble_eq_true rfl) ?_
  refine WW ?_
  refine HereO.alloc T_ok 105 rfl rfl (by decide) ?_
  refine WW ?_
  refine HereO.storeAgg T_ok rfl SS SS rfl SS SR rfl rfl ?_
  refine WW ?_
  refine HereO.callM T_ok 12 [1129,200] rfl rfl (l01Draw_spec bs hb _ h2) SC rfl (by decide) (by decide) rfl rfl rfl (Nat.le_of_ble_eq_true rfl) ?_
  refine WW ?_
  refine HereO.alloc T_ok 106 rfl rfl (by decide) ?_
  refine WW ?_
  refine HereO.storeAgg T_ok rfl SS SS rfl SS SR rfl rfl ?_
  refine WW ?_
  refine Here.drawC T_ok [.f, .f, .c, .f, .f, .c, .c, .c] [4, 5, 6] [1240, 1241, 1242, 1243, 1244, 1245, 1246, 1247, 1248, 1249, 1250, 1251, 1252, 1253, 1254, 1255, 1288, 1289, 1290, 1291, 1292, 1293, 1294, 1295, 1296, 1297, 1298, 1299, 1300, 1301, 1302, 1303] [105, 106] (Nat.le_of_ble_eq_true rfl) mixed_ok (by kernel_rfl) (by kernel_rfl) (by kernel_rfl) (by simp only [List.mem_cons, List.not_mem_nil, or_false, forall_eq_or_imp, forall_eq, go_sem, Nat.reduceMul, Nat.reduceLeDiff, Nat.reduceLT, reduceIte, reduceCtorEq, Nat.reduceEqDiff, Nat.reduceSub, Nat.reduceAdd] <;> first | exact calm_ptr_ne rfl | exact calm_ne rfl | exact ⟨calm_ptr_ne rfl, calm_ptr_ne rfl⟩ | exact ⟨calm_ptr_ne rfl, calm_ptr_ne rfl, calm_ptr_ne rfl⟩ | exact ⟨calm_ptr_ne rfl, calm_knot (by simp only [go_sem, Nat.reduceMul, Nat.reduceLeDiff, Nat.reduceLT, reduceIte, reduceCtorEq, Nat.reduceEqDiff, Nat.reduceSub, Nat.reduceAdd] <;> exact calm_ptr_ne rfl)⟩ | ((repeat' apply And.intro) <;> first | exact calm_ptr_ne rfl | exact calm_ne rfl)) ?_
  refine WW ?_
  refine ⟨calm_ptr_ne rfl, ?_⟩
  refine HereF.loadAgg T_ok (id := 105) (tt := 26) (c := [.own 1162]) rfl SS (by kernel_rfl) rfl (by decide) SS rfl (calm_agg1 (calm_ne rfl)) ?_
  refine WW ?_
  refine HereC.callM 15 [1129, 200, 1162] rfl rfl (l01Bad_spec bs hb _ h1 _ h4) SC rfl (by decide) (by decide) rfl rfl rfl (Nat.le_of_ble_eq_true rfl) (inK_shift rfl) SK ?_
  refine WW ?_
  refine ⟨calm_ptr_ne rfl, ?_⟩
  refine HereF.loadAgg T_ok (id := 106) (tt := 26) (c := [.own 1194]) rfl SS (by kernel_rfl) rfl (by decide) SS rfl (calm_agg1 (calm_ne rfl)) ?_
  refine WW ?_
  refine HereC.callM 18 [1129, 200, 1194] rfl rfl (l01Bad_spec bs hb _ h3 _ h6) SC rfl (by decide) (by decide) rfl rfl rfl (Nat.le_of_ble_eq_true rfl) (inK_shift rfl) SK ?_
  refine WW ?_
  refine HereC.storeAgg T_ok rfl SS SS rfl SS SR rfl rfl SK ?_
  refine WW ?_
  refine HereC.storeAgg T_ok rfl SS SS rfl SS SR rfl rfl SK ?_
  refine WW ?_
  refine RetF.of (res := twoR) (Q := fun y => Sp y.1 ∧ Sp y.2) ((badV bs (drG bs nms (src0 bs)).1 (drG bs nms (drG bs nms (src0 bs)).2).2).1, (badV bs (drG bs nms (drG bs nms (src0 bs)).2).1 (badV bs (drG bs nms (src0 bs)).1 (drG bs nms (drG bs nms (src0 bs)).2).2).2).1) (.tup [.agg [.own 0], .agg [.own 1]]) [.frz (II (badV bs (drG bs nms (src0 bs)).1 (drG bs nms (drG bs nms (src0 bs)).2).2).1), .frz (II (badV bs (drG bs nms (drG bs nms (src0 bs)).2).1 (badV bs (drG bs nms (src0 bs)).1 (drG bs nms (drG bs nms (src0 bs)).2).2).2).1)] ⟨h5, h7⟩ rfl rfl rfl ?_
  refine RetC.of (RetT.two 1243 1291 (by decide) SE rfl ?_ ?_)
  · (simp only [go_sem, Nat.reduceMul, Nat.reduceLeDiff, Nat.reduceLT, reduceIte, reduceCtorEq, Nat.reduceEqDiff, Nat.reduceSub, Nat.reduceAdd]) <;> rfl
  · (simp only [go_sem, Nat.reduceMul, Nat.reduceLeDiff, Nat.reduceLT, reduceIte, reduceCtorEq, Nat.reduceEqDiff, Nat.reduceSub, Nat.reduceAdd]) <;> rfl
noncomputable def twA (bs : List Int) : List (List Int) × Int × Int := if (nx bs 4 (drG bs nmsS (drG bs nmsS (src0 bs)).2).2).1 = 0 then drG bs nms (nx bs 4 (drG bs nmsS (drG bs nmsS (src0 bs)).2).2).2 else ((drG bs nmsS (src0 bs)).1, (nx bs 4 (drG bs nmsS (drG bs nmsS (src0 bs)).2).2).2)
noncomputable def twV (bs : List Int) : List (List Int) × List (List Int) := ((badV bs (twA bs).1 (twA bs).2).1, (badV bs (drG bs nmsS (drG bs nmsS (src0 bs)).2).1 (badV bs (twA bs).1 (twA bs).2).2).1)
theorem twA_ok {bs : List Int} (hb : Bytes bs) : Dr (twA bs).1 ∧ At bs (twA bs).2 := by
  have h0 := src0_at bs
  obtain ⟨h1, h2⟩ := drG_ok hb (names := nmsS) (by decide) (fun k hk => (nmsS_fact k hk).2.1) h0
  obtain ⟨h3, h4⟩ := drG_ok hb (names := nmsS) (by decide) (fun k hk => (nmsS_fact k hk).2.1) h2
  obtain ⟨_, _, h5⟩ := nx_ok hb 4 h4
  unfold twA
  split
  · exact drG_ok hb (names := nms) (by decide) (fun k hk => (nms_fact k hk).2.1) h5
  · exact ⟨h1, h5⟩
theorem twV_ok {bs : List Int} (hb : Bytes bs) : Sp (twV bs).1 ∧ Sp (twV bs).2 := by
  obtain ⟨h1, h2⟩ := drG_ok hb (names := nmsS) (by decide) (fun k hk => (nmsS_fact k hk).2.1) (src0_at bs)
  obtain ⟨h3, h4⟩ := drG_ok hb (names := nmsS) (by decide) (fun k hk => (nmsS_fact k hk).2.1) h2
  obtain ⟨h5, h6⟩ := twA_ok hb
  obtain ⟨h7, h8⟩ := badV_ok hb h5 h6
  exact ⟨h7, (badV_ok hb h3 h8).1⟩
theorem l01Two_spec (bs : List Int) (hb : Bytes bs) : SpecM Tryz.prog 70 [.own 0] [.ghost (BY bs)] (.tup [.agg [.own 1], .agg [.own 2]]) [none, some (.frz (II (twV bs).1)), some (.frz (II (twV bs).2))] := by
  have h0 := src0_at bs
  obtain ⟨h1, h2⟩ := drG_ok hb (names := nmsS) (by decide) (fun k hk => (nmsS_fact k hk).2.1) h0
  obtain ⟨h3, h4⟩ := drG_ok hb (names := nmsS) (by decide) (fun k hk => (nmsS_fact k hk).2.1) h2
  obtain ⟨_, _, h5⟩ := nx_ok hb 4 h4
  obtain ⟨g1, g2⟩ := twA_ok hb
  obtain ⟨h7, h8⟩ := badV_ok hb g1 g2
  refine SpecM.of_code' T_ok Tryz.func70 rfl Tryz.ntmps70 Tryz.call70 (Nat.le_of_ble_eq_true rfl) (Nat.le_of_ble_eq_true rfl) (Nat.le_of_ble_eq_true rfl) rfl rfl (CodeV_sound T_ok (by kernel_rfl) rfl ?_)
  refine WW ?_
  refine HereO.alloc T_ok 102 rfl rfl (by decide) ?_
  refine WW ?_
  refine HereO.alloc T_ok 103 rfl rfl (by decide) ?_
  refine WW ?_
  refine HereO.callM T_ok 8 [0] rfl rfl (l01From_spec bs hb) SC rfl (by decide) (by decide) rfl rfl rfl (Nat.le_of_ble_eq_true rfl) ?_
  refine WW ?_
  refine HereO.callM T_ok 10 [1129,0] rfl rfl (l01Small_spec bs hb _ h0) SC rfl (by decide) (by decide) rfl rfl rfl (Nat.le_of_ble_eq_true rfl) ?_
  refine WW ?_
  refine HereO.alloc T_ok 105 rfl rfl (by decide) ?_
  refine WW ?_
  refine HereO.storeAgg T_ok rfl SS SS rfl SS SR rfl rfl ?_
  refine WW ?_
  refine HereO.callM T_ok 12 [1129,0] rfl rfl (l01Small_spec bs hb _ h2) SC rfl (by decide) (by decide) rfl rfl rfl (Nat.le_of_ble_eq_true rfl) ?_
  refine WW ?_
  refine HereO.alloc T_ok 106 rfl rfl (by decide) ?_
  refine WW ?_
  refine HereO.storeAgg T_ok rfl SS SS rfl SS SR rfl rfl ?_
  refine WW ?_
  refine HereO.callM T_ok 14 [1129,0] rfl rfl (l01Next_spec bs hb 4 _ h4) SC rfl (by decide) (by decide) rfl rfl rfl (Nat.le_of_ble_eq_true rfl) ?_
  refine WW ?_
  refine ⟨fun hz => ?_, fun hz => ?_⟩
  · have e : drG bs nms (nx bs 4 (drG bs nmsS (drG bs nmsS (src0 bs)).2).2).2 = twA bs := by unfold twA; rw [if_pos hz]
    refine HereO.callM T_ok 17 [1129,0] rfl rfl (l01Draw_spec bs hb _ h5) SC rfl (by decide) (by decide) rfl rfl rfl (Nat.le_of_ble_eq_true rfl) ?_
    refine WW ?_
    refine HereO.storeAgg T_ok rfl SS SS rfl SS SR rfl rfl ?_
    refine WW ?_
    rw [e]
    refine Here.drawC T_ok [.f, .f, .c, .f, .f, .c, .c, .c] [4, 5, 6] [1320, 1321, 1322, 1323, 1324, 1325, 1326, 1327, 1328, 1329, 1330, 1331, 1332, 1333, 1334, 1335, 1368, 1369, 1370, 1371, 1372, 1373, 1374, 1375, 1376, 1377, 1378, 1379, 1380, 1381, 1382, 1383] [105, 106] (Nat.le_of_ble_eq_true rfl) mixed_ok (by kernel_rfl) (by kernel_rfl) (by kernel_rfl) (by simp only [List.mem_cons, List.not_mem_nil, or_false, forall_eq_or_imp, forall_eq, go_sem, Nat.reduceMul, Nat.reduceLeDiff, Nat.reduceLT, reduceIte, reduceCtorEq, Nat.reduceEqDiff, Nat.reduceSub, Nat.reduceAdd] <;> first | exact calm_ptr_ne rfl | exact calm_ne rfl | exact ⟨calm_ptr_ne rfl, calm_ptr_ne rfl⟩ | exact ⟨calm_ptr_ne rfl, calm_ptr_ne rfl, calm_ptr_ne rfl⟩ | exact ⟨calm_ptr_ne rfl, calm_knot (by simp only [go_sem, Nat.reduceMul, Nat.reduceLeDiff, Nat.reduceLT, reduceIte, reduceCtorEq, Nat.reduceEqDiff, Nat.reduceSub, Nat.reduceAdd] <;> exact calm_ptr_ne rfl)⟩ | ((repeat' apply And.intro) <;> first | exact calm_ptr_ne rfl | exact calm_ne rfl)) ?_
    refine WW ?_
    refine ⟨calm_ptr_ne rfl, ?_⟩
    refine HereF.loadAgg T_ok (id := 105) (tt := 26) (c := [.own 1274]) rfl SS (by kernel_rfl) rfl (by decide) SS rfl (calm_agg1 (calm_ne rfl)) ?_
    refine WW ?_
    refine HereC.callM 20 [1129, 0, 1274] rfl rfl (l01Bad_spec bs hb _ g1 _ g2) SC rfl (by decide) (by decide) rfl rfl rfl (Nat.le_of_ble_eq_true rfl) (inK_shift rfl) SK ?_
    refine WW ?_
    refine ⟨calm_ptr_ne rfl, ?_⟩
    refine HereF.loadAgg T_ok (id := 106) (tt := 26) (c := [.own 1194]) rfl SS (by kernel_rfl) rfl (by decide) SS rfl (calm_agg1 (calm_ne rfl)) ?_
    refine WW ?_
    refine HereC.callM 23 [1129, 0, 1194] rfl rfl (l01Bad_spec bs hb _ h3 _ h8) SC rfl (by decide) (by decide) rfl rfl rfl (Nat.le_of_ble_eq_true rfl) (inK_shift rfl) SK ?_
    refine WW ?_
    refine HereC.storeAgg T_ok rfl SS SS rfl SS SR rfl rfl SK ?_
    refine WW ?_
    refine HereC.storeAgg T_ok rfl SS SS rfl SS SR rfl rfl SK ?_
    refine WW ?_
    refine RetM.new2' 1323 1371 (by decide) (by decide) (by decide) SE rfl ?_ ?_
    · (simp only [go_sem, Nat.reduceMul, Nat.reduceLeDiff, Nat.reduceLT, reduceIte, reduceCtorEq, Nat.reduceEqDiff, Nat.reduceSub, Nat.reduceAdd]) <;> rfl
    · (simp only [go_sem, Nat.reduceMul, Nat.reduceLeDiff, Nat.reduceLT, reduceIte, reduceCtorEq, Nat.reduceEqDiff, Nat.reduceSub, Nat.reduceAdd]) <;> rfl
  · have e : twA bs = ((drG bs nmsS (src0 bs)).1, (nx bs 4 (drG bs nmsS (drG bs nmsS (src0 bs)).2).2).2) := by unfold twA; rw [if_neg hz]
    have e1 : (drG bs nmsS (src0 bs)).1 = (twA bs).1 := by rw [e]
    have e2 : (nx bs 4 (drG bs nmsS (drG bs nmsS (src0 bs)).2).2).2 = (twA bs).2 := by rw [e]
    rw [e1, e2]
    refine Here.drawC T_ok [.f, .f, .c, .f, .f, .c, .c, .c] [4, 5, 6] [1320, 1321, 1322, 1323, 1324, 1325, 1326, 1327, 1328, 1329, 1330, 1331, 1332, 1333, 1334, 1335, 1368, 1369, 1370, 1371, 1372, 1373, 1374, 1375, 1376, 1377, 1378, 1379, 1380, 1381, 1382, 1383] [105, 106] (Nat.le_of_ble_eq_true rfl) mixed_ok (by kernel_rfl) (by kernel_rfl) (by kernel_rfl) (by simp only [List.mem_cons, List.not_mem_nil, or_false, forall_eq_or_imp, forall_eq, go_sem, Nat.reduceMul, Nat.reduceLeDiff, Nat.reduceLT, reduceIte, reduceCtorEq, Nat.reduceEqDiff, Nat.reduceSub, Nat.reduceAdd] <;> first | exact calm_ptr_ne rfl | exact calm_ne rfl | exact ⟨calm_ptr_ne rfl, calm_ptr_ne rfl⟩ | exact ⟨calm_ptr_ne rfl, calm_ptr_ne rfl, calm_ptr_ne rfl⟩ | exact ⟨calm_ptr_ne rfl, calm_knot (by simp only [go_sem, Nat.reduceMul, Nat.reduceLeDiff, Nat.reduceLT, reduceIte, reduceCtorEq, Nat.reduceEqDiff, Nat.reduceSub, Nat.reduceAdd] <;> exact calm_ptr_ne rfl)⟩ | ((repeat' apply And.intro) <;> first | exact calm_ptr_ne rfl | exact calm_ne rfl)) ?_
    refine WW ?_
    refine ⟨calm_ptr_ne rfl, ?_⟩
    refine HereF.loadAgg T_ok (id := 105) (tt := 26) (c := [.own 1162]) rfl SS (by kernel_rfl) rfl (by decide) SS rfl (calm_agg1 (calm_ne rfl)) ?_
    refine WW ?_
    refine HereC.callM 20 [1129, 0, 1162] rfl rfl (l01Bad_spec bs hb _ g1 _ g2) SC rfl (by decide) (by decide) rfl rfl rfl (Nat.le_of_ble_eq_true rfl) (inK_shift rfl) SK ?_
    refine WW ?_
    refine ⟨calm_ptr_ne rfl, ?_⟩
    refine HereF.loadAgg T_ok (id := 106) (tt := 26) (c := [.own 1194]) rfl SS (by kernel_rfl) rfl (by decide) SS rfl (calm_agg1 (calm_ne rfl)) ?_
    refine WW ?_
    refine HereC.callM 23 [1129, 0, 1194] rfl rfl (l01Bad_spec bs hb _ h3 _ h8) SC rfl (by decide) (by decide) rfl rfl rfl (Nat.le_of_ble_eq_true rfl) (inK_shift rfl) SK ?_
    refine WW ?_
    refine HereC.storeAgg T_ok rfl SS SS rfl SS SR rfl rfl SK ?_
    refine WW ?_
    refine HereC.storeAgg T_ok rfl SS SS rfl SS SR rfl rfl SK ?_
    refine WW ?_
    refine RetM.new2' 1323 1371 (by decide) (by decide) (by decide) SE rfl ?_ ?_
    · (simp only [go_sem, Nat.reduceMul, Nat.reduceLeDiff, Nat.reduceLT, reduceIte, reduceCtorEq, Nat.reduceEqDiff, Nat.reduceSub, Nat.reduceAdd]) <;> rfl
    · (simp only [go_sem, Nat.reduceMul, Nat.reduceLeDiff, Nat.reduceLT, reduceIte, reduceCtorEq, Nat.reduceEqDiff, Nat.reduceSub, Nat.reduceAdd]) <;> rfl
theorem DrawDirectProduct_spec (bs : List Int) (hb : Bytes bs) : SpecF Tryz.prog 24 [.rd (BY bs)] twoR (fun y => Sp y.1 ∧ Sp y.2) := by
  obtain ⟨h1, h2⟩ := twV_ok hb
  refine SpecF.of_code T_ok Tryz.func24 rfl Tryz.ntmps24 Tryz.call24 (Nat.le_of_ble_eq_true rfl) (Here.conv (Conv.ghost 0 200 (by decide) rfl) (CodeV_sound T_ok (by kernel_rfl) rfl ?_))
  refine WW ?_
  refine HereO.alloc T_ok 102 rfl rfl (by decide) ?_
  refine WW ?_
  refine HereO.alloc T_ok 103 rfl rfl (by decide) ?_
  refine WW ?_
  refine HereO.callM T_ok 8 [200] rfl rfl (l01Two_spec bs hb) SC rfl (by decide) (by decide) rfl rfl rfl (Nat.le_of_ble_eq_true rfl) ?_
  refine WW ?_
  refine HereO.alloc T_ok 104 rfl rfl (by decide) ?_
  refine WW ?_
  refine HereO.alloc T_ok 105 rfl rfl (by decide) ?_
  refine WW ?_
  refine HereO.storeAgg T_ok rfl SS SS rfl SS SR rfl rfl ?_
  refine WW ?_
  refine HereO.storeAgg T_ok rfl SS SS rfl SS SR rfl rfl ?_
  refine WW ?_
  refine Here.drawC T_ok [.f, .f, .c, .c] [4, 5] [] [104, 105] (Nat.le_of_ble_eq_true rfl) mixed_ok (by kernel_rfl) (by kernel_rfl) (by kernel_rfl) (by simp only [List.mem_cons, List.not_mem_nil, or_false, forall_eq_or_imp, forall_eq, go_sem, Nat.reduceMul, Nat.reduceLeDiff, Nat.reduceLT, reduceIte, reduceCtorEq, Nat.reduceEqDiff, Nat.reduceSub, Nat.reduceAdd] <;> first | exact calm_ptr_ne rfl | exact calm_ne rfl | exact ⟨calm_ptr_ne rfl, calm_ptr_ne rfl⟩ | exact ⟨calm_ptr_ne rfl, calm_ptr_ne rfl, calm_ptr_ne rfl⟩ | exact ⟨calm_ptr_ne rfl, calm_knot (by simp only [go_sem, Nat.reduceMul, Nat.reduceLeDiff, Nat.reduceLT, reduceIte, reduceCtorEq, Nat.reduceEqDiff, Nat.reduceSub, Nat.reduceAdd] <;> exact calm_ptr_ne rfl)⟩ | ((repeat' apply And.intro) <;> first | exact calm_ptr_ne rfl | exact calm_ne rfl)) ?_
  refine WW ?_
  refine HereF.loadAgg T_ok (id := 104) (tt := 26) (c := [.own 1129]) rfl SS (by kernel_rfl) rfl (by decide) SS rfl (calm_agg1 (calm_ne rfl)) ?_
  refine WW ?_
  refine HereF.loadAgg T_ok (id := 105) (tt := 26) (c := [.own 1130]) rfl SS (by kernel_rfl) rfl (by decide) SS rfl (calm_agg1 (calm_ne rfl)) ?_
  refine WW ?_
  refine HereC.storeAgg T_ok rfl SS SS rfl SS SR rfl rfl SK ?_
  refine WW ?_
  refine HereC.storeAgg T_ok rfl SS SS rfl SS SR rfl rfl SK ?_
  refine WW ?_
  refine RetF.of (res := twoR) (Q := fun y => Sp y.1 ∧ Sp y.2) ((twV bs).1, (twV bs).2) (.tup [.agg [.own 0], .agg [.own 1]]) [.frz (II (twV bs).1), .frz (II (twV bs).2)] ⟨h1, h2⟩ rfl rfl rfl ?_
  refine RetC.of (RetT.two 1129 1130 (by decide) SE rfl ?_ ?_)
  · (simp only [go_sem, Nat.reduceMul, Nat.reduceLeDiff, Nat.reduceLT, reduceIte, reduceCtorEq, Nat.reduceEqDiff, Nat.reduceSub, Nat.reduceAdd]) <;> rfl
  · (simp only [go_sem, Nat.reduceMul, Nat.reduceLeDiff, Nat.reduceLT, reduceIte, reduceCtorEq, Nat.reduceEqDiff, Nat.reduceSub, Nat.reduceAdd]) <;> rfl
end Go.Proofs.YtcjhojdlfnpgjaaGreat
namespace Go.Proofs.YtcjhojdlfnpgjaaGreat
open Go.RowKit
def newN (p : List Int) (a : Nat) : Nat := (p.getD a 0).toNat
theorem newN_is {n : Nat} {p : List Int} (hp : Perm0 n p) {a : Nat} (ha : a < n) : ((newN p a : Nat) : Int) = p.getD a 0 ∧ newN p a < n := by
  obtain ⟨h1, h2⟩ := hp.2.1 a (by rw [hp.1]; exact ha)
  unfold newN
  omega
theorem newN_onto {n : Nat} {p : List Int} (hp : Perm0 n p) {x : Nat} (hx : x < n) : ∃ a, a < n ∧ newN p a = x := by
  obtain ⟨a, ha, h⟩ := perm_onto hp hx
  exact ⟨a, ha, by unfold newN; omega⟩
theorem ee_ren {t : List (List Int)} {p : List Int} (hp : Perm0 t.length p) {a b : Nat} (ha : a < t.length) (hb : b < t.length) (hab : em t a b < t.length) :
    ee (tab (renF t p) t.length t.length) (newN p a) (newN p b) = (newN p (em t a b) : Nat) := by
  obtain ⟨h1, h2⟩ := newN_is hp ha
  obtain ⟨h3, h4⟩ := newN_is hp hb
  obtain ⟨h5, h6⟩ := newN_is hp hab
  unfold ee
  rw [tab_row h2, upTo_get _ h4]
  unfold renF
  rw [h1, h3, ix_perm hp ha, ix_perm hp hb, h5]
  simp
theorem grp_ren {t : List (List Int)} {p : List Int} (hg : Grp t) (hp : Perm0 t.length p) : Grp (tab (renF t p) t.length t.length) := by
  obtain ⟨g1, g2, g3, g4⟩ := id hg
  have hE : ∀ a, a < t.length → ∀ b, b < t.length → ee (tab (renF t p) t.length t.length) (newN p a) (newN p b) = (newN p (em t a b) : Nat) ∧ em t a b < t.length := fun a ha b hb => ⟨ee_ren hp ha hb (em_lt hg ha hb), em_lt hg ha hb⟩
  have hem : ∀ a, a < t.length → ∀ b, b < t.length → ee t a b = (em t a b : Nat) := fun a ha b hb => by
    have := (g3 a ha).2 b hb
    unfold em; omega
  have h00 : newN p 0 = 0 := by unfold newN; rw [hp.2.2.2]; rfl
  refine ⟨by rw [tab_len]; exact g1, by rw [tab_len]; exact g2, fun x hx => ?_, fun x hx => ?_⟩
  · rw [tab_len] at hx ⊢
    refine ⟨by rw [tab_row hx, upTo_len], fun y hy => ?_⟩
    obtain ⟨a, ha, rfl⟩ := newN_onto hp hx
    obtain ⟨b, hb, rfl⟩ := newN_onto hp hy
    obtain ⟨e1, e2⟩ := hE a ha b hb
    have := (newN_is hp e2).2
    rw [e1]
    omega
  · rw [tab_len] at hx ⊢
    obtain ⟨a, ha, rfl⟩ := newN_onto hp hx
    obtain ⟨⟨u1, u2, j, hj, u3⟩, hA⟩ := g4 a ha
    have h0 : 0 < t.length := by omega
    refine ⟨⟨?_, ?_, newN p j, ?_, ?_⟩, fun y hy z hz => ?_⟩
    · have := (hE 0 h0 a ha).1
      rw [h00] at this
      rw [this]
      have e : em t 0 a = a := by have := hem 0 h0 a ha; omega
      rw [e]
    · have := (hE a ha 0 h0).1
      rw [h00] at this
      rw [this]
      have e : em t a 0 = a := by have := hem a ha 0 h0; omega
      rw [e]
    · rw [(g3 a ha).1] at hj
      rw [tab_row hx, upTo_len]
      exact (newN_is hp hj).2
    · rw [(g3 a ha).1] at hj
      have h1 := (hE a ha j hj).1
      have e : em t a j = 0 := by
        have h2 := hem a ha j hj
        unfold ee at h2
        omega
      rw [e, h00] at h1
      unfold ee at h1
      simpa using h1
    · obtain ⟨b, hb, rfl⟩ := newN_onto hp hy
      obtain ⟨c, hc, rfl⟩ := newN_onto hp hz
      obtain ⟨e1, e2⟩ := hE a ha b hb
      obtain ⟨e3, e4⟩ := hE b hb c hc
      have has := hA b hb c hc
      unfold Assoc at has ⊢
      rw [e1, e3]
      simp only [Int.toNat_natCast]
      rw [(hE _ e2 c hc).1, (hE a ha _ e4).1]
      have e5 : em t (em t a b) c = em t a (em t b c) := by unfold em at *; rw [has]
      rw [e5]
end Go.Proofs.YtcjhojdlfnpgjaaGreat
namespace Go.Proofs.YtcjhojdlfnpgjaaGreat
open Go.RowKit
theorem drG_grp {bs : List Int} (hb : Bytes bs) {names : List ByteArray} (hl : 0 < names.length) (hf : ∀ k : Nat, k < names.length → Grp (nmL (names.getD k ByteArray.empty))) {s : Int × Int} (hs : At bs s) : Grp (drG bs names s).1 := by
  obtain ⟨h1, h2, h3⟩ := nx_ok hb (names.length : Nat) hs
  have h2' := h2 (by omega)
  have hg := hf (nx bs (names.length : Nat) s).1.toNat (by omega)
  obtain ⟨h4, h5, h6⟩ := nx_ok hb 2 h3
  obtain ⟨hp0, hat⟩ := drN_ok hb h6 hg.1
  by_cases h7 : (nx bs 2 (nx bs names.length s).2).1 = 0
  · rw [drG0 h7]; exact hg
  · rw [drG1 h7]; exact grp_ren hg hp0
def tabR (y : List (List Int) × List Int) : LV := .tup [.agg [.rds (II y.1)], .rd (I y.2)]
set_option maxHeartbeats 4000000 in
theorem DrawRenumberGroup_spec (bs : List Int) (hb : Bytes bs) : SpecF Tryz.prog 27 [.rd (BY bs)] tabR (fun y => Sp y.1 ∧ y.2.length ≤ 9) := by
  have h0 := src0_at bs
  obtain ⟨h1, h2⟩ := drG_ok hb (names := nms) (by decide) (fun k hk => (nms_fact k hk).2.1) h0
  have hd := l01Draw_spec bs hb _ h0
  generalize drG bs nms (src0 bs) = a at *
  obtain ⟨t, s1⟩ := a
  dsimp only at h1 h2 hd
  have t1 := h1.1
  have t8 := h1.2.1
  obtain ⟨h3, h4⟩ := drN_ok hb h2 t1
  have hdn := l01DrawNumbers_spec bs hb t.length t1 (by omega) _ h2
  generalize drN bs s1 t.length = q at *
  obtain ⟨p, s2⟩ := q
  dsimp only at h3 h4 hdn
  have hpl := h3.1
  obtain ⟨_, _, h5⟩ := nx_ok hb 12 h4
  obtain ⟨h6, h7⟩ := badV_ok hb h1 h5
  refine SpecF.of_code T_ok Tryz.func27 rfl Tryz.ntmps27 Tryz.call27 (Nat.le_of_ble_eq_true rfl) (Here.conv (Conv.ghost 0 200 (by decide) rfl) (CodeV_sound T_ok (by kernel_rfl) rfl ?_))
  refine WW ?_
  refine HereO.alloc T_ok 102 rfl rfl (by decide) ?_
  refine WW ?_
  refine HereO.callM T_ok 8 [200] rfl rfl (l01From_spec bs hb) SC rfl (by decide) (by decide) rfl rfl rfl (Nat.le_of_ble_eq_true rfl) ?_
  refine WW ?_
  refine HereO.callM T_ok 10 [1129,200] rfl rfl (hd) SC rfl (by decide) (by decide) rfl rfl rfl (Nat.le_of_ble_eq_true rfl) ?_
  refine WW ?_
  refine HereO.alloc T_ok 105 rfl rfl (by decide) ?_
  refine WW ?_
  refine HereO.storeAgg T_ok rfl SS SS rfl SS SR rfl rfl ?_
  refine WW ?_
  refine HereO.call T_ok rfl rfl (l01N_spec t) SA rfl ?_
  refine WW ?_
  refine HereO.callM T_ok 14 [1129,200] rfl rfl (hdn) SC rfl (by decide) (by decide) rfl rfl rfl (Nat.le_of_ble_eq_true rfl) ?_
  refine WW ?_
  refine HereO.callM T_ok 16 [1129,200] rfl rfl (l01Next_spec bs hb 12 _ h4) SC rfl (by decide) (by decide) rfl rfl rfl (Nat.le_of_ble_eq_true rfl) ?_
  refine WW ?_
  refine ⟨fun h8 => ?_, fun h8 => ?_⟩
  · refine HereO.buildRow T_ok 190 (I [0]) rfl rfl rfl (by decide) rfl SR rfl (by decide) ?_
    refine WW ?_
    refine HereO.append T_ok (I [0]) rfl rfl (by decide) SS (by decide) SS SS (.own 190 _ _ (by decide) SS) (I_one _) SL ?_
    refine WW ?_
    rw [I_append]
    refine HereO.callM T_ok 30 [1129,200,1162] rfl rfl (l01Bad_spec bs hb t h1 _ h5) SC rfl (by decide) (by decide) rfl rfl rfl (Nat.le_of_ble_eq_true rfl) ?_
    refine WW ?_
    refine HereO.storeAgg T_ok rfl SS SS rfl SS SR rfl rfl ?_
    refine WW ?_
    refine RetF.of (res := tabR) (Q := fun y => Sp y.1 ∧ y.2.length ≤ 9) ((badV bs t (nx bs 12 s2).2).1, p ++ [0]) (.tup [.agg [.own 0], .own 1]) [.frz (II (badV bs t (nx bs 12 s2).2).1), .row 2 (I (p ++ [0]))] ⟨h6, by simp; omega⟩ rfl rfl rfl ?_
    refine RetC.of (RetT.two 1483 1226 (by decide) SE rfl ?_ ?_)
    · (simp only [go_sem, Nat.reduceMul, Nat.reduceLeDiff, Nat.reduceLT, reduceIte, reduceCtorEq, Nat.reduceEqDiff, Nat.reduceSub, Nat.reduceAdd]) <;> rfl
    · (simp only [go_sem, Nat.reduceMul, Nat.reduceLeDiff, Nat.reduceLT, reduceIte, reduceCtorEq, Nat.reduceEqDiff, Nat.reduceSub, Nat.reduceAdd]) <;> rfl
  · refine ⟨fun h9 => ?_, fun h9 => ?_⟩
    · obtain ⟨h10, h11⟩ := drO_ok hb h5 t.length
      obtain ⟨h12, _⟩ := badV_ok hb h1 h11
      refine HereO.call T_ok rfl rfl (l01N_spec t) SA rfl ?_
      refine WW ?_
      refine HereO.callM T_ok 27 [1129,200] rfl rfl (l01DrawOrder_spec bs hb t.length (by omega) _ h5) SC rfl (by decide) (by decide) rfl rfl rfl (Nat.le_of_ble_eq_true rfl) ?_
      refine WW ?_
      refine HereO.callM T_ok 30 [1129,200,1162] rfl rfl (l01Bad_spec bs hb t h1 _ h11) SC rfl (by decide) (by decide) rfl rfl rfl (Nat.le_of_ble_eq_true rfl) ?_
      refine WW ?_
      refine HereO.storeAgg T_ok rfl SS SS rfl SS SR rfl rfl ?_
      refine WW ?_
      refine RetF.of (res := tabR) (Q := fun y => Sp y.1 ∧ y.2.length ≤ 9) ((badV bs t (drO bs (nx bs 12 s2).2 t.length).2).1, (drO bs (nx bs 12 s2).2 t.length).1) (.tup [.agg [.own 0], .own 1]) [.frz (II (badV bs t (drO bs (nx bs 12 s2).2 t.length).2).1), .row 2 (I ((drO bs (nx bs 12 s2).2 t.length).1))] ⟨h12, by have := h10.1; dsimp only; omega⟩ rfl rfl rfl ?_
      refine RetC.of (RetT.two 1483 1434 (by decide) SE rfl ?_ ?_)
      · (simp only [go_sem, Nat.reduceMul, Nat.reduceLeDiff, Nat.reduceLT, reduceIte, reduceCtorEq, Nat.reduceEqDiff, Nat.reduceSub, Nat.reduceAdd]) <;> rfl
      · (simp only [go_sem, Nat.reduceMul, Nat.reduceLeDiff, Nat.reduceLT, reduceIte, reduceCtorEq, Nat.reduceEqDiff, Nat.reduceSub, Nat.reduceAdd]) <;> rfl
    · refine HereO.callM T_ok 30 [1129,200,1162] rfl rfl (l01Bad_spec bs hb t h1 _ h5) SC rfl (by decide) (by decide) rfl rfl rfl (Nat.le_of_ble_eq_true rfl) ?_
      refine WW ?_
      refine HereO.storeAgg T_ok rfl SS SS rfl SS SR rfl rfl ?_
      refine WW ?_
      refine RetF.of (res := tabR) (Q := fun y => Sp y.1 ∧ y.2.length ≤ 9) ((badV bs t (nx bs 12 s2).2).1, p) (.tup [.agg [.own 0], .own 1]) [.frz (II (badV bs t (nx bs 12 s2).2).1), .row 2 (I (p))] ⟨h6, by dsimp only; omega⟩ rfl rfl rfl ?_
      refine RetC.of (RetT.two 1483 1226 (by decide) SE rfl ?_ ?_)
      · (simp only [go_sem, Nat.reduceMul, Nat.reduceLeDiff, Nat.reduceLT, reduceIte, reduceCtorEq, Nat.reduceEqDiff, Nat.reduceSub, Nat.reduceAdd]) <;> rfl
      · (simp only [go_sem, Nat.reduceMul, Nat.reduceLeDiff, Nat.reduceLT, reduceIte, reduceCtorEq, Nat.reduceEqDiff, Nat.reduceSub, Nat.reduceAdd]) <;> rfl
end Go.Proofs.YtcjhojdlfnpgjaaGreat
namespace Go.Proofs.YtcjhojdlfnpgjaaGreat
open Go.RowKit
def dsL (bs : List Int) (s : Int × Int) : Nat → List Int × Int × Int
  | 0 => ([], s)
  | k + 1 => if (nx bs 3 (dsL bs s k).2).1 = 0 then ((dsL bs s k).1 ++ [(k : Int)], (nx bs 3 (dsL bs s k).2).2) else ((dsL bs s k).1, (nx bs 3 (dsL bs s k).2).2)
theorem dsL_ok {bs : List Int} (hb : Bytes bs) {s : Int × Int} (hs : At bs s) : ∀ k, (dsL bs s k).1.length ≤ k ∧ At bs (dsL bs s k).2
  | 0 => ⟨by simp [dsL], hs⟩
  | k + 1 => by
    obtain ⟨h1, h2⟩ := dsL_ok hb hs k
    obtain ⟨_, _, h3⟩ := nx_ok hb 3 h2
    unfold dsL
    split
    · exact ⟨by simp; omega, h3⟩
    · exact ⟨by dsimp only; omega, h3⟩
def dsV (bs : List Int) (s : Int × Int) (n : Nat) : List Int × Int × Int := if (nx bs 24 (dsL bs s n).2).1 = 0 then ((dsL bs s n).1 ++ [(pk bs [0, -1, (n : Int)] (nx bs 24 (dsL bs s n).2).2).1], (pk bs [0, -1, (n : Int)] (nx bs 24 (dsL bs s n).2).2).2) else ((dsL bs s n).1, (nx bs 24 (dsL bs s n).2).2)
theorem dsV_ok {bs : List Int} (hb : Bytes bs) {s : Int × Int} (hs : At bs s) (n : Nat) : (dsV bs s n).1.length ≤ n + 1 ∧ At bs (dsV bs s n).2 := by
  obtain ⟨h1, h2⟩ := dsL_ok hb hs n
  obtain ⟨_, _, h3⟩ := nx_ok hb 24 h2
  unfold dsV
  split
  · exact ⟨by simp; omega, (pk_ok hb (by simp) h3).2⟩
  · exact ⟨by dsimp only; omega, h3⟩
theorem l01DrawSet_spec (bs : List Int) (hb : Bytes bs) (n : Nat) (hn : n ≤ 1000) (s : Int × Int) (hs : At bs s) : SpecM Tryz.prog 85 [.ptr 0 0, .v (.int .i64 n)] [srcS s, .ghost (BY bs)] (.own 2) [some (srcS (dsV bs s n).2), none, some (.row 2 (I (dsV bs s n).1))] := by
  refine SpecM.of_code' T_ok Tryz.func85 rfl Tryz.ntmps85 Tryz.call85 (Nat.le_of_ble_eq_true rfl) (Nat.le_of_ble_eq_true rfl) (Nat.le_of_ble_eq_true rfl) rfl rfl (CodeV_sound T_ok (by kernel_rfl) rfl ?_)
  refine WW ?_
  refine HereO.buildRow T_ok 60 (I []) rfl rfl rfl (by decide) rfl SR rfl (by decide) ?_
  refine WW ?_
  refine Here.loopV T_ok (fun k => k ≤ n) (fun k => n - k) (fun k => [(0, .ptr 0 0), (1, .v (.int .i64 n)), (5, .own 60), (6, .v (.int .i64 k))]) (fun k => [(0, srcS (dsL bs s k).2), (1, .ghost (BY bs)), (60, .row 2 (I (dsL bs s k).1))]) 0 (by omega) (by simp only [go_sem, Nat.reduceMul, Nat.reduceLeDiff, Nat.reduceLT, reduceIte, reduceCtorEq, Nat.reduceEqDiff, Nat.reduceSub, Nat.reduceAdd]; simp) (by (simp only [go_sem, Nat.reduceMul, Nat.reduceLeDiff, Nat.reduceLT, reduceIte, reduceCtorEq, Nat.reduceEqDiff, Nat.reduceSub, Nat.reduceAdd]) <;> first | rfl | exact ⟨rfl, rfl⟩ | exact ⟨rfl, rfl, rfl⟩) ?_
  intro k hk
  obtain ⟨h1, h2⟩ := dsL_ok hb hs k
  refine WW ?_
  refine ⟨fun h3 => ?_, fun h3 => ?_⟩
  · refine HereO.callM T_ok 14 [0,1] rfl rfl (l01Next_spec bs hb 3 _ h2) SC rfl (by decide) (by decide) rfl rfl rfl (Nat.le_of_ble_eq_true rfl) ?_
    refine WW ?_
    refine ⟨fun h4 => ?_, fun h4 => ?_⟩
    · have e : dsL bs s (k + 1) = ((dsL bs s k).1 ++ [(k : Int)], (nx bs 3 (dsL bs s k).2).2) := by rw [dsL, if_pos h4]
      refine HereO.buildRow T_ok 61 (I [(k : Int)]) rfl rfl rfl (by decide) rfl SR rfl (by decide) ?_
      refine WW ?_
      refine HereO.append T_ok (I [(k : Int)]) rfl rfl (by decide) SS (by decide) SS SS (.own 61 _ _ (by decide) SS) (I_one _) SL ?_
      refine WW ?_
      rw [I_append]
      exact ⟨by unfold InR; omega, k + 1, by omega, by omega, by push_cast; rfl, by rw [e]; first | rfl | exact ⟨rfl, rfl⟩ | exact ⟨rfl, rfl, rfl⟩⟩
    · have e : dsL bs s (k + 1) = ((dsL bs s k).1, (nx bs 3 (dsL bs s k).2).2) := by rw [dsL, if_neg h4]
      exact ⟨by unfold InR; omega, k + 1, by omega, by omega, by push_cast; rfl, by rw [e]; first | rfl | exact ⟨rfl, rfl⟩ | exact ⟨rfl, rfl, rfl⟩⟩
  · obtain rfl : k = n := by omega
    obtain ⟨_, _, h5⟩ := nx_ok hb 24 h2
    refine HereO.callM T_ok 21 [0,1] rfl rfl (l01Next_spec bs hb 24 _ h2) SC rfl (by decide) (by decide) rfl rfl rfl (Nat.le_of_ble_eq_true rfl) ?_
    refine WW ?_
    refine ⟨fun h4 => ?_, fun h4 => ?_⟩
    · have e : dsV bs s k = ((dsL bs s k).1 ++ [(pk bs [0, -1, (k : Int)] (nx bs 24 (dsL bs s k).2).2).1], (pk bs [0, -1, (k : Int)] (nx bs 24 (dsL bs s k).2).2).2) := by unfold dsV; rw [if_pos h4]
      rw [e]
      refine HereO.buildRow T_ok 62 (I [0, -1, (k : Int)]) rfl rfl rfl (by decide) rfl SR rfl (by decide) ?_
      refine WW ?_
      refine HereO.callM T_ok 27 [0,1] rfl rfl (l01Pick_spec bs hb [0, -1, (k : Int)] ⟨by simp, by simp⟩ _ h5) SC rfl (by decide) (by decide) rfl rfl rfl (Nat.le_of_ble_eq_true rfl) ?_
      refine WW ?_
      refine HereO.buildRow T_ok 63 (I [(pk bs [0, -1, (k : Int)] (nx bs 24 (dsL bs s k).2).2).1]) rfl rfl rfl (by decide) rfl SR rfl (by decide) ?_
      refine WW ?_
      refine HereO.append T_ok (I [(pk bs [0, -1, (k : Int)] (nx bs 24 (dsL bs s k).2).2).1]) rfl rfl (by decide) SS (by decide) SS SS (.own 63 _ _ (by decide) SS) (I_one _) SL ?_
      refine WW ?_
      rw [I_append]
      refine RetM.two 60 (by decide) SE rfl ?_ ?_
      · (simp only [go_sem, Nat.reduceMul, Nat.reduceLeDiff, Nat.reduceLT, reduceIte, reduceCtorEq, Nat.reduceEqDiff, Nat.reduceSub, Nat.reduceAdd]) <;> rfl
      · (simp only [go_sem, Nat.reduceMul, Nat.reduceLeDiff, Nat.reduceLT, reduceIte, reduceCtorEq, Nat.reduceEqDiff, Nat.reduceSub, Nat.reduceAdd]) <;> rfl
    · have e : dsV bs s k = ((dsL bs s k).1, (nx bs 24 (dsL bs s k).2).2) := by unfold dsV; rw [if_neg h4]
      rw [e]
      refine RetM.two 60 (by decide) SE rfl ?_ ?_
      · (simp only [go_sem, Nat.reduceMul, Nat.reduceLeDiff, Nat.reduceLT, reduceIte, reduceCtorEq, Nat.reduceEqDiff, Nat.reduceSub, Nat.reduceAdd]) <;> rfl
      · (simp only [go_sem, Nat.reduceMul, Nat.reduceLeDiff, Nat.reduceLT, reduceIte, reduceCtorEq, Nat.reduceEqDiff, Nat.reduceSub, Nat.reduceAdd]) <;> rfl
end Go.Proofs.YtcjhojdlfnpgjaaGreat
