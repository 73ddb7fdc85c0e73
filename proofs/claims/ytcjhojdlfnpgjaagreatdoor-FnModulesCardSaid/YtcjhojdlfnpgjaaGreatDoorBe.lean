/- Contracts: groups and modules that are drawn. -/
import Derived.Test.YtcjhojdlfnpgjaaGreatDoorBc
import Derived.Test.YtcjhojdlfnpgjaaGreatDoorNb
namespace Go.Proofs.YtcjhojdlfnpgjaaGreatDoor
open Go.RowKit
set_option linter.unusedVariables false
set_option linter.unusedSimpArgs false
set_option maxRecDepth 100000

theorem l02DrawM_spec (bs : List Int) (hb : Bytes bs) (s : Int × Int) (hs : At bs s) : SpecM Tryz.prog 80 [.ptr 0 0] [srcS s, .ghost (BY bs)] (.v (.int .i64 (pk bs [2, 2, 3, 3, 4, 4, 5, 6, 8, 8, 9, 12, 7, 10, 11] s).1)) [some (srcS (pk bs [2, 2, 3, 3, 4, 4, 5, 6, 8, 8, 9, 12, 7, 10, 11] s).2), none] := by
  refine SpecM.of_code' T_ok Tryz.func80 rfl Tryz.ntmps80 Tryz.call80 (Nat.le_of_ble_eq_true rfl) (Nat.le_of_ble_eq_true rfl) (Nat.le_of_ble_eq_true rfl) rfl rfl (CodeV_sound T_ok (by kernel_rfl) rfl ?_)
  simp only [Tryz.results80, go_sem, Nat.reduceMul, Nat.reduceLeDiff, Nat.reduceLT, reduceIte, reduceCtorEq, Nat.reduceEqDiff, Nat.reduceSub, Nat.reduceAdd]
  refine HereO.buildRow T_ok 60 (I [2, 2, 3, 3, 4, 4, 5, 6, 8, 8, 9, 12, 7, 10, 11]) rfl rfl rfl (by decide) rfl (by first | rfl | (simp only [go_sem, Nat.reduceMul, Nat.reduceLeDiff, Nat.reduceLT, reduceIte, reduceCtorEq, Nat.reduceEqDiff, Nat.reduceSub, Nat.reduceAdd] <;> rfl)) rfl (by decide) ?_
  simp only [Tryz.results80, go_sem, Nat.reduceMul, Nat.reduceLeDiff, Nat.reduceLT, reduceIte, reduceCtorEq, Nat.reduceEqDiff, Nat.reduceSub, Nat.reduceAdd]
  refine HereO.callM T_ok 22 [0,1] rfl rfl (l01Pick_spec bs hb [2, 2, 3, 3, 4, 4, 5, 6, 8, 8, 9, 12, 7, 10, 11] ⟨by simp, by simp⟩ s hs) (by simp only [go_sem, Nat.reduceMul, Nat.reduceLeDiff, Nat.reduceLT, reduceIte, reduceCtorEq, Nat.reduceEqDiff, Nat.reduceSub, Nat.reduceAdd, List.toList_toArray, ↓reduceIte]) rfl (by decide) (by decide) rfl rfl rfl (Nat.le_of_ble_eq_true rfl) ?_
  simp only [Tryz.results80, go_sem, Nat.reduceMul, Nat.reduceLeDiff, Nat.reduceLT, reduceIte, reduceCtorEq, Nat.reduceEqDiff, Nat.reduceSub, Nat.reduceAdd]
  refine RetM.one0' (by simp only [Tryz.results80, go_sem, Nat.reduceMul, Nat.reduceLeDiff, Nat.reduceLT, reduceIte, reduceCtorEq, Nat.reduceEqDiff, Nat.reduceSub, Nat.reduceAdd]; rfl) rfl ?_
  (simp only [Tryz.results80, go_sem, Nat.reduceMul, Nat.reduceLeDiff, Nat.reduceLT, reduceIte, reduceCtorEq, Nat.reduceEqDiff, Nat.reduceSub, Nat.reduceAdd]) <;> rfl
/-- The module that is drawn. -/
def doV (bs : List Int) (t : List (List Int)) (m : Int) (s : Int × Int) : List Int × Int × Int := ((dfsM t m t.length []).getD (nx bs (dfsM t m t.length []).length s).1.toNat [], (nx bs (dfsM t m t.length []).length s).2)
theorem doV_ok {bs : List Int} (hb : Bytes bs) {t : List (List Int)} {m : Int} (hg : Grp t) (hm : 2 ≤ m ∧ m ≤ 12) {s : Int × Int} (hs : At bs s) : Mod t m (doV bs t m s).1 ∧ At bs (doV bs t m s).2 ∧ (nx bs (dfsM t m t.length []).length s).1.toNat < (dfsM t m t.length []).length := by
  obtain ⟨h1, h2, h3⟩ := nx_ok hb (dfsM t m t.length []).length hs
  have h0 := dfsM_get hg (Mod_ones hg hm)
  have hl : 0 < (dfsM t m t.length []).length := List.length_pos_of_mem h0
  have hx : (nx bs (dfsM t m t.length []).length s).1.toNat < (dfsM t m t.length []).length := by have := h2 (by omega); omega
  refine ⟨?_, h3, hx⟩
  unfold doV
  dsimp only
  rw [List.getD_eq_getElem?_getD, List.getElem?_eq_getElem hx, Option.getD_some]
  exact dfsM_Mod _ _ _ (List.getElem_mem hx)
theorem l02DrawOf_spec (bs : List Int) (hb : Bytes bs) (t : List (List Int)) (m : Int) (hg : Grp t) (hm : 2 ≤ m ∧ m ≤ 12) (s : Int × Int) (hs : At bs s) : SpecM Tryz.prog 79 [.ptr 0 0, .agg [.rds (II t)], .v (.int .i64 m)] [srcS s, .ghost (BY bs)] (.agg [.v (.int .i64 m), .own 2]) [some (srcS (doV bs t m s).2), none, some (.row 2 (I (doV bs t m s).1))] := by
  obtain ⟨h1, h2, h3⟩ := doV_ok hb hg hm hs
  obtain ⟨h4, h5, _⟩ := nx_ok hb (dfsM t m t.length []).length hs
  have hq := mq_at (q := withM m (dfsM t m t.length [])) (i := (nx bs (dfsM t m t.length []).length s).1.toNat) (by rw [withM_len]; exact h3)
  have hqe : ((withM m (dfsM t m t.length []))[(nx bs (dfsM t m t.length []).length s).1.toNat]'(by rw [withM_len]; exact h3)) = (m, (doV bs t m s).1) := by
    unfold doV withM
    dsimp only
    rw [List.getElem_map, List.getD_eq_getElem?_getD, List.getElem?_eq_getElem h3, Option.getD_some]
  rw [hqe] at hq
  refine SpecM.of_code' T_ok Tryz.func79 rfl Tryz.ntmps79 Tryz.call79 (Nat.le_of_ble_eq_true rfl) (Nat.le_of_ble_eq_true rfl) (Nat.le_of_ble_eq_true rfl) rfl rfl (CodeV_sound T_ok (by kernel_rfl) rfl ?_)
  simp only [Tryz.results79, go_sem, Nat.reduceMul, Nat.reduceLeDiff, Nat.reduceLT, reduceIte, reduceCtorEq, Nat.reduceEqDiff, Nat.reduceSub, Nat.reduceAdd]
  refine HereO.alloc T_ok 106 rfl rfl (by decide) ?_
  simp only [Tryz.results79, go_sem, Nat.reduceMul, Nat.reduceLeDiff, Nat.reduceLT, reduceIte, reduceCtorEq, Nat.reduceEqDiff, Nat.reduceSub, Nat.reduceAdd]
  refine HereO.callOwn T_ok 30 rfl rfl (l02All_spec t m hg hm) (by simp only [go_sem, Nat.reduceMul, Nat.reduceLeDiff, Nat.reduceLT, reduceIte, reduceCtorEq, Nat.reduceEqDiff, Nat.reduceSub, Nat.reduceAdd, List.toList_toArray] <;> first | rfl | exact ⟨rfl, rfl⟩) rfl (by simp) rfl ?_
  simp only [Tryz.results79, go_sem, Nat.reduceMul, Nat.reduceLeDiff, Nat.reduceLT, reduceIte, reduceCtorEq, Nat.reduceEqDiff, Nat.reduceSub, Nat.reduceAdd]
  refine HereO.opP T_ok (OpP.lenMods sl2m_ok rfl rfl rfl) ?_
  simp only [Tryz.results79, go_sem, Nat.reduceMul, Nat.reduceLeDiff, Nat.reduceLT, reduceIte, reduceCtorEq, Nat.reduceEqDiff, Nat.reduceSub, Nat.reduceAdd]
  rw [mq_len, withM_len]
  refine HereO.callM T_ok 21 [0,1] rfl rfl (l01Next_spec bs hb (dfsM t m t.length []).length s hs) (by simp only [go_sem, Nat.reduceMul, Nat.reduceLeDiff, Nat.reduceLT, reduceIte, reduceCtorEq, Nat.reduceEqDiff, Nat.reduceSub, Nat.reduceAdd, List.toList_toArray, ↓reduceIte]) rfl (by decide) (by decide) rfl rfl rfl (Nat.le_of_ble_eq_true rfl) ?_
  simp only [Tryz.results79, go_sem, Nat.reduceMul, Nat.reduceLeDiff, Nat.reduceLT, reduceIte, reduceCtorEq, Nat.reduceEqDiff, Nat.reduceSub, Nat.reduceAdd]
  refine HereO.opP T_ok (OpP.indexModsI sl2m_ok rfl rfl rfl rfl h4 (by rw [mq_len, withM_len]; exact h3)) ?_
  simp only [Tryz.results79, go_sem, Nat.reduceMul, Nat.reduceLeDiff, Nat.reduceLT, reduceIte, reduceCtorEq, Nat.reduceEqDiff, Nat.reduceSub, Nat.reduceAdd]
  refine HereO.takeMod T_ok (i := (nx bs (dfsM t m t.length []).length s).1.toNat) 70 rfl rfl rfl rfl hq (by decide) (by decide) ?_
  simp only [Tryz.results79, go_sem, Nat.reduceMul, Nat.reduceLeDiff, Nat.reduceLT, reduceIte, reduceCtorEq, Nat.reduceEqDiff, Nat.reduceSub, Nat.reduceAdd]
  refine HereO.storeAgg T_ok rfl (by simp only [go_sem, Nat.reduceMul, Nat.reduceLeDiff, Nat.reduceLT, reduceIte, reduceCtorEq, Nat.reduceEqDiff, Nat.reduceSub, Nat.reduceAdd] <;> rfl) (by simp only [go_sem, Nat.reduceMul, Nat.reduceLeDiff, Nat.reduceLT, reduceIte, reduceCtorEq, Nat.reduceEqDiff, Nat.reduceSub, Nat.reduceAdd] <;> rfl) rfl (by simp only [go_sem, Nat.reduceMul, Nat.reduceLeDiff, Nat.reduceLT, reduceIte, reduceCtorEq, Nat.reduceEqDiff, Nat.reduceSub, Nat.reduceAdd] <;> rfl) (by first | rfl | (simp only [go_sem, Nat.reduceMul, Nat.reduceLeDiff, Nat.reduceLT, reduceIte, reduceCtorEq, Nat.reduceEqDiff, Nat.reduceSub, Nat.reduceAdd] <;> rfl)) rfl rfl ?_
  simp only [Tryz.results79, go_sem, Nat.reduceMul, Nat.reduceLeDiff, Nat.reduceLT, reduceIte, reduceCtorEq, Nat.reduceEqDiff, Nat.reduceSub, Nat.reduceAdd]
  refine RetM.two 70 (by decide) (by simp only [Tryz.results79, go_sem, Nat.reduceMul, Nat.reduceLeDiff, Nat.reduceLT, reduceIte, reduceCtorEq, Nat.reduceEqDiff, Nat.reduceSub, Nat.reduceAdd]; rfl) rfl ?_ ?_
  · (simp only [Tryz.results79, go_sem, Nat.reduceMul, Nat.reduceLeDiff, Nat.reduceLT, reduceIte, reduceCtorEq, Nat.reduceEqDiff, Nat.reduceSub, Nat.reduceAdd]) <;> rfl
  · (simp only [Tryz.results79, go_sem, Nat.reduceMul, Nat.reduceLeDiff, Nat.reduceLT, reduceIte, reduceCtorEq, Nat.reduceEqDiff, Nat.reduceSub, Nat.reduceAdd]) <;> rfl
/-- A module that seldom is spoilt. -/
def mbV (bs : List Int) (m : Int) (l : List Int) (s : Int × Int) : Int × List Int × Int × Int :=
  if (nx bs 40 s).1 = 0 then ((pk bs [1, 13, m + 1, 0] (nx bs 40 s).2).1, l, (pk bs [1, 13, m + 1, 0] (nx bs 40 s).2).2)
  else if (nx bs 40 s).1 = 1 then (m, l.set (nx bs l.length (nx bs 40 s).2).1.toNat (pk bs [0, -1, 2, 3, m] (nx bs l.length (nx bs 40 s).2).2).1, (pk bs [0, -1, 2, 3, m] (nx bs l.length (nx bs 40 s).2).2).2)
  else if (nx bs 40 s).1 = 2 then (m, l ++ [1], (nx bs 40 s).2)
  else (m, l, (nx bs 40 s).2)
theorem mb0 {bs : List Int} {m : Int} {l : List Int} {s : Int × Int} (h : (nx bs 40 s).1 = 0) : mbV bs m l s = ((pk bs [1, 13, m + 1, 0] (nx bs 40 s).2).1, l, (pk bs [1, 13, m + 1, 0] (nx bs 40 s).2).2) := by unfold mbV; rw [if_pos h]
theorem mb1 {bs : List Int} {m : Int} {l : List Int} {s : Int × Int} (h0 : ¬ (nx bs 40 s).1 = 0) (h : (nx bs 40 s).1 = 1) : mbV bs m l s = (m, l.set (nx bs l.length (nx bs 40 s).2).1.toNat (pk bs [0, -1, 2, 3, m] (nx bs l.length (nx bs 40 s).2).2).1, (pk bs [0, -1, 2, 3, m] (nx bs l.length (nx bs 40 s).2).2).2) := by unfold mbV; rw [if_neg h0, if_pos h]
theorem mb2 {bs : List Int} {m : Int} {l : List Int} {s : Int × Int} (h0 : ¬ (nx bs 40 s).1 = 0) (h1 : ¬ (nx bs 40 s).1 = 1) (h : (nx bs 40 s).1 = 2) : mbV bs m l s = (m, l ++ [1], (nx bs 40 s).2) := by unfold mbV; rw [if_neg h0, if_neg h1, if_pos h]
theorem mb3 {bs : List Int} {m : Int} {l : List Int} {s : Int × Int} (h0 : ¬ (nx bs 40 s).1 = 0) (h1 : ¬ (nx bs 40 s).1 = 1) (h2 : ¬ (nx bs 40 s).1 = 2) : mbV bs m l s = (m, l, (nx bs 40 s).2) := by unfold mbV; rw [if_neg h0, if_neg h1, if_neg h2]
theorem l02Bad_spec (bs : List Int) (hb : Bytes bs) (m : Int) (l : List Int) (hm : 2 ≤ m ∧ m ≤ 12) (hl : 1 ≤ l.length ∧ l.length ≤ 8) (s : Int × Int) (hs : At bs s) : SpecM Tryz.prog 78 [.ptr 0 0, .agg [.v (.int .i64 m), .own 2]] [srcS s, .ghost (BY bs), .row 2 (I l)] (.agg [.v (.int .i64 (mbV bs m l s).1), .own 3]) [some (srcS (mbV bs m l s).2.2), none, none, some (.row 2 (I (mbV bs m l s).2.1))] := by
  obtain ⟨h1, h2, h3⟩ := nx_ok hb 40 hs
  obtain ⟨h4, h5, h6⟩ := nx_ok hb l.length h3
  have h5' := h5 (by omega)
  refine SpecM.of_code' T_ok Tryz.func78 rfl Tryz.ntmps78 Tryz.call78 (Nat.le_of_ble_eq_true rfl) (Nat.le_of_ble_eq_true rfl) (Nat.le_of_ble_eq_true rfl) rfl rfl (Here.conv (Conv.moveAggV 1 50 (by decide) rfl rfl rfl) (CodeV_sound T_ok (by kernel_rfl) rfl ?_))
  simp only [Tryz.results78, go_sem, Nat.reduceMul, Nat.reduceLeDiff, Nat.reduceLT, reduceIte, reduceCtorEq, Nat.reduceEqDiff, Nat.reduceSub, Nat.reduceAdd]
  refine HereO.boxOwn T_ok 130 rfl rfl (by decide) rfl ?_
  simp only [Tryz.results78, go_sem, Nat.reduceMul, Nat.reduceLeDiff, Nat.reduceLT, reduceIte, reduceCtorEq, Nat.reduceEqDiff, Nat.reduceSub, Nat.reduceAdd]
  refine HereO.alloc T_ok 104 rfl rfl (by decide) ?_
  simp only [Tryz.results78, go_sem, Nat.reduceMul, Nat.reduceLeDiff, Nat.reduceLT, reduceIte, reduceCtorEq, Nat.reduceEqDiff, Nat.reduceSub, Nat.reduceAdd]
  refine HereO.callM T_ok 20 [0,1] rfl rfl (l01Next_spec bs hb 40 s hs) (by simp only [go_sem, Nat.reduceMul, Nat.reduceLeDiff, Nat.reduceLT, reduceIte, reduceCtorEq, Nat.reduceEqDiff, Nat.reduceSub, Nat.reduceAdd, List.toList_toArray, ↓reduceIte]) rfl (by decide) (by decide) rfl rfl rfl (Nat.le_of_ble_eq_true rfl) ?_
  simp only [Tryz.results78, go_sem, Nat.reduceMul, Nat.reduceLeDiff, Nat.reduceLT, reduceIte, reduceCtorEq, Nat.reduceEqDiff, Nat.reduceSub, Nat.reduceAdd]
  refine ⟨fun h10 => ?_, fun h10 => ⟨fun h11 => ?_, fun h11 => ⟨fun h12 => ?_, fun h12 => ?_⟩⟩⟩
  · rw [mb0 h10]
    refine ⟨by unfold InR; omega, ?_⟩
    refine HereO.buildRow T_ok 61 (I [1, 13, m + 1, 0]) rfl rfl rfl (by decide) rfl (by first | rfl | (simp only [go_sem, Nat.reduceMul, Nat.reduceLeDiff, Nat.reduceLT, reduceIte, reduceCtorEq, Nat.reduceEqDiff, Nat.reduceSub, Nat.reduceAdd] <;> rfl)) rfl (by decide) ?_
    simp only [Tryz.results78, go_sem, Nat.reduceMul, Nat.reduceLeDiff, Nat.reduceLT, reduceIte, reduceCtorEq, Nat.reduceEqDiff, Nat.reduceSub, Nat.reduceAdd]
    refine HereO.callM T_ok 22 [0,1] rfl rfl (l01Pick_spec bs hb [1, 13, m + 1, 0] ⟨by simp, by simp⟩ _ h3) (by simp only [go_sem, Nat.reduceMul, Nat.reduceLeDiff, Nat.reduceLT, reduceIte, reduceCtorEq, Nat.reduceEqDiff, Nat.reduceSub, Nat.reduceAdd, List.toList_toArray, ↓reduceIte]) rfl (by decide) (by decide) rfl rfl rfl (Nat.le_of_ble_eq_true rfl) ?_
    simp only [Tryz.results78, go_sem, Nat.reduceMul, Nat.reduceLeDiff, Nat.reduceLT, reduceIte, reduceCtorEq, Nat.reduceEqDiff, Nat.reduceSub, Nat.reduceAdd]
    refine HereO.store T_ok rfl (by simp only [go_sem, Nat.reduceMul, Nat.reduceLeDiff, Nat.reduceLT, reduceIte, reduceCtorEq, Nat.reduceEqDiff, Nat.reduceSub, Nat.reduceAdd] <;> rfl) (by simp only [go_sem, Nat.reduceMul, Nat.reduceLeDiff, Nat.reduceLT, reduceIte, reduceCtorEq, Nat.reduceEqDiff, Nat.reduceSub, Nat.reduceAdd] <;> rfl) rfl (by simp only [go_sem, Nat.reduceMul, Nat.reduceLeDiff, Nat.reduceLT, reduceIte, reduceCtorEq, Nat.reduceEqDiff, Nat.reduceSub, Nat.reduceAdd] <;> rfl) rfl (by first | rfl | (simp only [go_sem, Nat.reduceMul, Nat.reduceLeDiff, Nat.reduceLT, reduceIte, reduceCtorEq, Nat.reduceEqDiff, Nat.reduceSub, Nat.reduceAdd] <;> rfl)) (Nat.le_of_ble_eq_true rfl) ?_
    simp only [Tryz.results78, go_sem, Nat.reduceMul, Nat.reduceLeDiff, Nat.reduceLT, reduceIte, reduceCtorEq, Nat.reduceEqDiff, Nat.reduceSub, Nat.reduceAdd]
    refine HereO.storeAgg T_ok rfl (by simp only [go_sem, Nat.reduceMul, Nat.reduceLeDiff, Nat.reduceLT, reduceIte, reduceCtorEq, Nat.reduceEqDiff, Nat.reduceSub, Nat.reduceAdd] <;> rfl) (by simp only [go_sem, Nat.reduceMul, Nat.reduceLeDiff, Nat.reduceLT, reduceIte, reduceCtorEq, Nat.reduceEqDiff, Nat.reduceSub, Nat.reduceAdd] <;> rfl) rfl (by simp only [go_sem, Nat.reduceMul, Nat.reduceLeDiff, Nat.reduceLT, reduceIte, reduceCtorEq, Nat.reduceEqDiff, Nat.reduceSub, Nat.reduceAdd] <;> rfl) (by first | rfl | (simp only [go_sem, Nat.reduceMul, Nat.reduceLeDiff, Nat.reduceLT, reduceIte, reduceCtorEq, Nat.reduceEqDiff, Nat.reduceSub, Nat.reduceAdd] <;> rfl)) rfl rfl ?_
    simp only [Tryz.results78, go_sem, Nat.reduceMul, Nat.reduceLeDiff, Nat.reduceLT, reduceIte, reduceCtorEq, Nat.reduceEqDiff, Nat.reduceSub, Nat.reduceAdd]
    refine RetM.threeA 50 (by decide) (by simp only [Tryz.results78, go_sem, Nat.reduceMul, Nat.reduceLeDiff, Nat.reduceLT, reduceIte, reduceCtorEq, Nat.reduceEqDiff, Nat.reduceSub, Nat.reduceAdd]; rfl) rfl ?_ ?_
    · (simp only [Tryz.results78, go_sem, Nat.reduceMul, Nat.reduceLeDiff, Nat.reduceLT, reduceIte, reduceCtorEq, Nat.reduceEqDiff, Nat.reduceSub, Nat.reduceAdd]) <;> rfl
    · (simp only [Tryz.results78, go_sem, Nat.reduceMul, Nat.reduceLeDiff, Nat.reduceLT, reduceIte, reduceCtorEq, Nat.reduceEqDiff, Nat.reduceSub, Nat.reduceAdd]) <;> rfl
  · rw [mb1 h10 h11]
    refine HereO.callOwn T_ok 24 rfl rfl (ownR_spec l (by omega)) (by simp only [go_sem, Nat.reduceMul, Nat.reduceLeDiff, Nat.reduceLT, reduceIte, reduceCtorEq, Nat.reduceEqDiff, Nat.reduceSub, Nat.reduceAdd, List.toList_toArray] <;> first | rfl | exact ⟨rfl, rfl⟩) rfl (by simp) rfl ?_
    simp only [Tryz.results78, go_sem, Nat.reduceMul, Nat.reduceLeDiff, Nat.reduceLT, reduceIte, reduceCtorEq, Nat.reduceEqDiff, Nat.reduceSub, Nat.reduceAdd]
    refine HereO.store T_ok rfl (by simp only [go_sem, Nat.reduceMul, Nat.reduceLeDiff, Nat.reduceLT, reduceIte, reduceCtorEq, Nat.reduceEqDiff, Nat.reduceSub, Nat.reduceAdd] <;> rfl) (by simp only [go_sem, Nat.reduceMul, Nat.reduceLeDiff, Nat.reduceLT, reduceIte, reduceCtorEq, Nat.reduceEqDiff, Nat.reduceSub, Nat.reduceAdd] <;> rfl) rfl (by simp only [go_sem, Nat.reduceMul, Nat.reduceLeDiff, Nat.reduceLT, reduceIte, reduceCtorEq, Nat.reduceEqDiff, Nat.reduceSub, Nat.reduceAdd] <;> rfl) rfl (by first | rfl | (simp only [go_sem, Nat.reduceMul, Nat.reduceLeDiff, Nat.reduceLT, reduceIte, reduceCtorEq, Nat.reduceEqDiff, Nat.reduceSub, Nat.reduceAdd] <;> rfl)) (Nat.le_of_ble_eq_true rfl) ?_
    simp only [Tryz.results78, go_sem, Nat.reduceMul, Nat.reduceLeDiff, Nat.reduceLT, reduceIte, reduceCtorEq, Nat.reduceEqDiff, Nat.reduceSub, Nat.reduceAdd]
    refine Here.drawC T_ok [.f, .f, .f, .f, .f, .f, .c, .f, .f, .f, .f, .c] [0, 3] [1336, 1337, 1338, 1339, 1340, 1341, 1342, 1343, 1344, 1345, 1346, 1347, 1348, 1349, 1350, 1351, 1368, 1369, 1370, 1371, 1372, 1373, 1374, 1375, 1376, 1377, 1378, 1379, 1380, 1381, 1382, 1383] [130, 1384] (Nat.le_of_ble_eq_true rfl) mixed_ok (by kernel_rfl) (by kernel_rfl) (by kernel_rfl) (by simp only [List.mem_cons, List.not_mem_nil, or_false, forall_eq_or_imp, forall_eq, go_sem, Nat.reduceMul, Nat.reduceLeDiff, Nat.reduceLT, reduceIte, reduceCtorEq, Nat.reduceEqDiff, Nat.reduceSub, Nat.reduceAdd] <;> first | exact calm_ptr_ne rfl | exact calm_ne rfl | exact ⟨calm_ptr_ne rfl, calm_ptr_ne rfl⟩ | exact ⟨calm_ptr_ne rfl, calm_ptr_ne rfl, calm_ptr_ne rfl⟩ | exact ⟨calm_ptr_ne rfl, calm_knot (by simp only [go_sem, Nat.reduceMul, Nat.reduceLeDiff, Nat.reduceLT, reduceIte, reduceCtorEq, Nat.reduceEqDiff, Nat.reduceSub, Nat.reduceAdd] <;> exact calm_ptr_ne rfl)⟩ | ((repeat' apply And.intro) <;> first | exact calm_ptr_ne rfl | exact calm_ne rfl)) ?_
    simp only [Tryz.results78, go_sem, Nat.reduceMul, Nat.reduceLeDiff, Nat.reduceLT, reduceIte, reduceCtorEq, Nat.reduceEqDiff, Nat.reduceSub, Nat.reduceAdd]
    refine ⟨calm_ptr_ne rfl, ?_⟩
    refine HereF.load T_ok (id := 130) (tt := 35) (c := [.v (.int .i64 m), .own 1384]) (off := 1) (y := .own 1384) rfl (by simp only [go_sem, Nat.reduceMul, Nat.reduceLeDiff, Nat.reduceLT, reduceIte, reduceCtorEq, Nat.reduceEqDiff, Nat.reduceSub, Nat.reduceAdd] <;> rfl) (by kernel_rfl) rfl (by decide) (by simp only [go_sem, Nat.reduceMul, Nat.reduceLeDiff, Nat.reduceLT, reduceIte, reduceCtorEq, Nat.reduceEqDiff, Nat.reduceSub, Nat.reduceAdd] <;> rfl) rfl (by first | exact calm_ne rfl | (rw [calm_v]; trivial)) ?_
    simp only [Tryz.results78, go_sem, Nat.reduceMul, Nat.reduceLeDiff, Nat.reduceLT, reduceIte, reduceCtorEq, Nat.reduceEqDiff, Nat.reduceSub, Nat.reduceAdd]
    refine ⟨calm_ptr_ne rfl, calm_ptr_ne rfl, ?_⟩
    refine HereF.load T_ok (id := 130) (tt := 35) (c := [.v (.int .i64 m), .own 1384]) (off := 1) (y := .own 1384) rfl (by simp only [go_sem, Nat.reduceMul, Nat.reduceLeDiff, Nat.reduceLT, reduceIte, reduceCtorEq, Nat.reduceEqDiff, Nat.reduceSub, Nat.reduceAdd] <;> rfl) (by kernel_rfl) rfl (by decide) (by simp only [go_sem, Nat.reduceMul, Nat.reduceLeDiff, Nat.reduceLT, reduceIte, reduceCtorEq, Nat.reduceEqDiff, Nat.reduceSub, Nat.reduceAdd] <;> rfl) rfl (by first | exact calm_ne rfl | (rw [calm_v]; trivial)) ?_
    simp only [Tryz.results78, go_sem, Nat.reduceMul, Nat.reduceLeDiff, Nat.reduceLT, reduceIte, reduceCtorEq, Nat.reduceEqDiff, Nat.reduceSub, Nat.reduceAdd]
    refine HereF.lenRow T_ok (id := 1384) (e' := 2) (vs := I l) rfl rfl (by simp only [go_sem, Nat.reduceMul, Nat.reduceLeDiff, Nat.reduceLT, reduceIte, reduceCtorEq, Nat.reduceEqDiff, Nat.reduceSub, Nat.reduceAdd] <;> rfl) (by kernel_rfl) (by decide) (by simp only [go_sem, Nat.reduceMul, Nat.reduceLeDiff, Nat.reduceLT, reduceIte, reduceCtorEq, Nat.reduceEqDiff, Nat.reduceSub, Nat.reduceAdd] <;> rfl) ?_
    simp only [Tryz.results78, go_sem, Nat.reduceMul, Nat.reduceLeDiff, Nat.reduceLT, reduceIte, reduceCtorEq, Nat.reduceEqDiff, Nat.reduceSub, Nat.reduceAdd]
    refine HereC.callM 21 [0, 1] rfl rfl (l01Next_spec bs hb l.length _ h3) (by simp only [go_sem, Nat.reduceMul, Nat.reduceLeDiff, Nat.reduceLT, reduceIte, reduceCtorEq, Nat.reduceEqDiff, Nat.reduceSub, Nat.reduceAdd, List.toList_toArray, ↓reduceIte]) rfl (by decide) (by decide) rfl rfl rfl (Nat.le_of_ble_eq_true rfl) (inK_shift rfl) (by first | exact keeps_nil _ _ | (simp only [keeps_cons, keeps_nil', go_sem, Nat.reduceMul, Nat.reduceLeDiff, Nat.reduceLT, reduceIte, reduceCtorEq, Nat.reduceEqDiff, Nat.reduceSub, Nat.reduceAdd] <;> first | rfl | exact ⟨rfl, rfl⟩)) ?_
    simp only [Tryz.results78, go_sem, Nat.reduceMul, Nat.reduceLeDiff, Nat.reduceLT, reduceIte, reduceCtorEq, Nat.reduceEqDiff, Nat.reduceSub, Nat.reduceAdd]
    refine ⟨calm_ptr_ne rfl, calm_ptr_ne rfl, ?_⟩
    refine HereF.load T_ok (id := 130) (tt := 35) (c := [.v (.int .i64 m), .own 1384]) (off := 0) (y := .v (.int .i64 m)) rfl (by simp only [go_sem, Nat.reduceMul, Nat.reduceLeDiff, Nat.reduceLT, reduceIte, reduceCtorEq, Nat.reduceEqDiff, Nat.reduceSub, Nat.reduceAdd] <;> rfl) (by kernel_rfl) rfl (by decide) (by simp only [go_sem, Nat.reduceMul, Nat.reduceLeDiff, Nat.reduceLT, reduceIte, reduceCtorEq, Nat.reduceEqDiff, Nat.reduceSub, Nat.reduceAdd] <;> rfl) rfl (by first | exact calm_ne rfl | (rw [calm_v]; trivial)) ?_
    simp only [Tryz.results78, go_sem, Nat.reduceMul, Nat.reduceLeDiff, Nat.reduceLT, reduceIte, reduceCtorEq, Nat.reduceEqDiff, Nat.reduceSub, Nat.reduceAdd]
    refine ⟨_, fun _ _ => OpP.buildRd T_ok (I [0, -1, 2, 3, m]) rfl rfl rfl (by decide) rfl (by simp only [go_sem, Nat.reduceMul, Nat.reduceLeDiff, Nat.reduceLT, reduceIte, reduceCtorEq, Nat.reduceEqDiff, Nat.reduceSub, Nat.reduceAdd] <;> rfl) rfl, (by simp only [go_sem, Nat.reduceMul, Nat.reduceLeDiff, Nat.reduceLT, reduceIte, reduceCtorEq, Nat.reduceEqDiff, Nat.reduceSub, Nat.reduceAdd]), ?_⟩
    simp only [Tryz.results78, go_sem, Nat.reduceMul, Nat.reduceLeDiff, Nat.reduceLT, reduceIte, reduceCtorEq, Nat.reduceEqDiff, Nat.reduceSub, Nat.reduceAdd]
    refine HereC.callM 23 [0, 1] rfl rfl (l01Pick_spec bs hb [0, -1, 2, 3, m] ⟨by simp, by simp⟩ _ h6) (by simp only [go_sem, Nat.reduceMul, Nat.reduceLeDiff, Nat.reduceLT, reduceIte, reduceCtorEq, Nat.reduceEqDiff, Nat.reduceSub, Nat.reduceAdd, List.toList_toArray, ↓reduceIte]) rfl (by decide) (by decide) rfl rfl rfl (Nat.le_of_ble_eq_true rfl) (inK_shift rfl) (by first | exact keeps_nil _ _ | (simp only [keeps_cons, keeps_nil', go_sem, Nat.reduceMul, Nat.reduceLeDiff, Nat.reduceLT, reduceIte, reduceCtorEq, Nat.reduceEqDiff, Nat.reduceSub, Nat.reduceAdd] <;> first | rfl | exact ⟨rfl, rfl⟩)) ?_
    simp only [Tryz.results78, go_sem, Nat.reduceMul, Nat.reduceLeDiff, Nat.reduceLT, reduceIte, reduceCtorEq, Nat.reduceEqDiff, Nat.reduceSub, Nat.reduceAdd]
    refine ⟨⟨h4, h5'⟩, ?_⟩
    refine HereO.storeRow T_ok (vs := I l) (u := .int .i64 (pk bs [0, -1, 2, 3, m] (nx bs l.length (nx bs 40 s).2).2).1) rfl (by simp only [go_sem, Nat.reduceMul, Nat.reduceLeDiff, Nat.reduceLT, reduceIte, reduceCtorEq, Nat.reduceEqDiff, Nat.reduceSub, Nat.reduceAdd] <;> rfl) (by simp only [go_sem, Nat.reduceMul, Nat.reduceLeDiff, Nat.reduceLT, reduceIte, reduceCtorEq, Nat.reduceEqDiff, Nat.reduceSub, Nat.reduceAdd] <;> rfl) rfl (by simp only [go_sem, Nat.reduceMul, Nat.reduceLeDiff, Nat.reduceLT, reduceIte, reduceCtorEq, Nat.reduceEqDiff, Nat.reduceSub, Nat.reduceAdd] <;> rfl) rfl (by rw [I_len]; omega) ?_
    simp only [Tryz.results78, go_sem, Nat.reduceMul, Nat.reduceLeDiff, Nat.reduceLT, reduceIte, reduceCtorEq, Nat.reduceEqDiff, Nat.reduceSub, Nat.reduceAdd]
    rw [I_set]
    refine HereO.storeAgg T_ok rfl (by simp only [go_sem, Nat.reduceMul, Nat.reduceLeDiff, Nat.reduceLT, reduceIte, reduceCtorEq, Nat.reduceEqDiff, Nat.reduceSub, Nat.reduceAdd] <;> rfl) (by simp only [go_sem, Nat.reduceMul, Nat.reduceLeDiff, Nat.reduceLT, reduceIte, reduceCtorEq, Nat.reduceEqDiff, Nat.reduceSub, Nat.reduceAdd] <;> rfl) rfl (by simp only [go_sem, Nat.reduceMul, Nat.reduceLeDiff, Nat.reduceLT, reduceIte, reduceCtorEq, Nat.reduceEqDiff, Nat.reduceSub, Nat.reduceAdd] <;> rfl) (by first | rfl | (simp only [go_sem, Nat.reduceMul, Nat.reduceLeDiff, Nat.reduceLT, reduceIte, reduceCtorEq, Nat.reduceEqDiff, Nat.reduceSub, Nat.reduceAdd] <;> rfl)) rfl rfl ?_
    simp only [Tryz.results78, go_sem, Nat.reduceMul, Nat.reduceLeDiff, Nat.reduceLT, reduceIte, reduceCtorEq, Nat.reduceEqDiff, Nat.reduceSub, Nat.reduceAdd]
    refine RetM.threeA 1384 (by decide) (by simp only [Tryz.results78, go_sem, Nat.reduceMul, Nat.reduceLeDiff, Nat.reduceLT, reduceIte, reduceCtorEq, Nat.reduceEqDiff, Nat.reduceSub, Nat.reduceAdd]; rfl) rfl ?_ ?_
    · (simp only [Tryz.results78, go_sem, Nat.reduceMul, Nat.reduceLeDiff, Nat.reduceLT, reduceIte, reduceCtorEq, Nat.reduceEqDiff, Nat.reduceSub, Nat.reduceAdd]) <;> rfl
    · (simp only [Tryz.results78, go_sem, Nat.reduceMul, Nat.reduceLeDiff, Nat.reduceLT, reduceIte, reduceCtorEq, Nat.reduceEqDiff, Nat.reduceSub, Nat.reduceAdd]) <;> rfl
  · rw [mb2 h10 h11 h12]
    refine HereO.callOwn T_ok 24 rfl rfl (ownR_spec l (by omega)) (by simp only [go_sem, Nat.reduceMul, Nat.reduceLeDiff, Nat.reduceLT, reduceIte, reduceCtorEq, Nat.reduceEqDiff, Nat.reduceSub, Nat.reduceAdd, List.toList_toArray] <;> first | rfl | exact ⟨rfl, rfl⟩) rfl (by simp) rfl ?_
    simp only [Tryz.results78, go_sem, Nat.reduceMul, Nat.reduceLeDiff, Nat.reduceLT, reduceIte, reduceCtorEq, Nat.reduceEqDiff, Nat.reduceSub, Nat.reduceAdd]
    refine HereO.buildRow T_ok 61 (I [1]) rfl rfl rfl (by decide) rfl (by first | rfl | (simp only [go_sem, Nat.reduceMul, Nat.reduceLeDiff, Nat.reduceLT, reduceIte, reduceCtorEq, Nat.reduceEqDiff, Nat.reduceSub, Nat.reduceAdd] <;> rfl)) rfl (by decide) ?_
    simp only [Tryz.results78, go_sem, Nat.reduceMul, Nat.reduceLeDiff, Nat.reduceLT, reduceIte, reduceCtorEq, Nat.reduceEqDiff, Nat.reduceSub, Nat.reduceAdd]
    refine HereO.append T_ok (I [1]) rfl rfl (by decide) (by simp only [go_sem, Nat.reduceMul, Nat.reduceLeDiff, Nat.reduceLT, reduceIte, reduceCtorEq, Nat.reduceEqDiff, Nat.reduceSub, Nat.reduceAdd] <;> rfl) (by decide) (by simp only [go_sem, Nat.reduceMul, Nat.reduceLeDiff, Nat.reduceLT, reduceIte, reduceCtorEq, Nat.reduceEqDiff, Nat.reduceSub, Nat.reduceAdd] <;> rfl) (by simp only [go_sem, Nat.reduceMul, Nat.reduceLeDiff, Nat.reduceLT, reduceIte, reduceCtorEq, Nat.reduceEqDiff, Nat.reduceSub, Nat.reduceAdd] <;> rfl) (.own 61 _ _ (by decide) (by simp only [go_sem, Nat.reduceMul, Nat.reduceLeDiff, Nat.reduceLT, reduceIte, reduceCtorEq, Nat.reduceEqDiff, Nat.reduceSub, Nat.reduceAdd] <;> rfl)) (I_one _) (by simp only [I_len, List.length_cons, List.length_nil]; omega) ?_
    simp only [Tryz.results78, go_sem, Nat.reduceMul, Nat.reduceLeDiff, Nat.reduceLT, reduceIte, reduceCtorEq, Nat.reduceEqDiff, Nat.reduceSub, Nat.reduceAdd]
    refine HereO.store T_ok rfl (by simp only [go_sem, Nat.reduceMul, Nat.reduceLeDiff, Nat.reduceLT, reduceIte, reduceCtorEq, Nat.reduceEqDiff, Nat.reduceSub, Nat.reduceAdd] <;> rfl) (by simp only [go_sem, Nat.reduceMul, Nat.reduceLeDiff, Nat.reduceLT, reduceIte, reduceCtorEq, Nat.reduceEqDiff, Nat.reduceSub, Nat.reduceAdd] <;> rfl) rfl (by simp only [go_sem, Nat.reduceMul, Nat.reduceLeDiff, Nat.reduceLT, reduceIte, reduceCtorEq, Nat.reduceEqDiff, Nat.reduceSub, Nat.reduceAdd] <;> rfl) rfl (by first | rfl | (simp only [go_sem, Nat.reduceMul, Nat.reduceLeDiff, Nat.reduceLT, reduceIte, reduceCtorEq, Nat.reduceEqDiff, Nat.reduceSub, Nat.reduceAdd] <;> rfl)) (Nat.le_of_ble_eq_true rfl) ?_
    simp only [Tryz.results78, go_sem, Nat.reduceMul, Nat.reduceLeDiff, Nat.reduceLT, reduceIte, reduceCtorEq, Nat.reduceEqDiff, Nat.reduceSub, Nat.reduceAdd]
    rw [show I l ++ I [1] = I (l ++ [1]) by simp [I]]
    refine HereO.storeAgg T_ok rfl (by simp only [go_sem, Nat.reduceMul, Nat.reduceLeDiff, Nat.reduceLT, reduceIte, reduceCtorEq, Nat.reduceEqDiff, Nat.reduceSub, Nat.reduceAdd] <;> rfl) (by simp only [go_sem, Nat.reduceMul, Nat.reduceLeDiff, Nat.reduceLT, reduceIte, reduceCtorEq, Nat.reduceEqDiff, Nat.reduceSub, Nat.reduceAdd] <;> rfl) rfl (by simp only [go_sem, Nat.reduceMul, Nat.reduceLeDiff, Nat.reduceLT, reduceIte, reduceCtorEq, Nat.reduceEqDiff, Nat.reduceSub, Nat.reduceAdd] <;> rfl) (by first | rfl | (simp only [go_sem, Nat.reduceMul, Nat.reduceLeDiff, Nat.reduceLT, reduceIte, reduceCtorEq, Nat.reduceEqDiff, Nat.reduceSub, Nat.reduceAdd] <;> rfl)) rfl rfl ?_
    simp only [Tryz.results78, go_sem, Nat.reduceMul, Nat.reduceLeDiff, Nat.reduceLT, reduceIte, reduceCtorEq, Nat.reduceEqDiff, Nat.reduceSub, Nat.reduceAdd]
    refine RetM.threeA 1384 (by decide) (by simp only [Tryz.results78, go_sem, Nat.reduceMul, Nat.reduceLeDiff, Nat.reduceLT, reduceIte, reduceCtorEq, Nat.reduceEqDiff, Nat.reduceSub, Nat.reduceAdd]; rfl) rfl ?_ ?_
    · (simp only [Tryz.results78, go_sem, Nat.reduceMul, Nat.reduceLeDiff, Nat.reduceLT, reduceIte, reduceCtorEq, Nat.reduceEqDiff, Nat.reduceSub, Nat.reduceAdd]) <;> rfl
    · (simp only [Tryz.results78, go_sem, Nat.reduceMul, Nat.reduceLeDiff, Nat.reduceLT, reduceIte, reduceCtorEq, Nat.reduceEqDiff, Nat.reduceSub, Nat.reduceAdd]) <;> rfl
  · rw [mb3 h10 h11 h12]
    refine HereO.storeAgg T_ok rfl (by simp only [go_sem, Nat.reduceMul, Nat.reduceLeDiff, Nat.reduceLT, reduceIte, reduceCtorEq, Nat.reduceEqDiff, Nat.reduceSub, Nat.reduceAdd] <;> rfl) (by simp only [go_sem, Nat.reduceMul, Nat.reduceLeDiff, Nat.reduceLT, reduceIte, reduceCtorEq, Nat.reduceEqDiff, Nat.reduceSub, Nat.reduceAdd] <;> rfl) rfl (by simp only [go_sem, Nat.reduceMul, Nat.reduceLeDiff, Nat.reduceLT, reduceIte, reduceCtorEq, Nat.reduceEqDiff, Nat.reduceSub, Nat.reduceAdd] <;> rfl) (by first | rfl | (simp only [go_sem, Nat.reduceMul, Nat.reduceLeDiff, Nat.reduceLT, reduceIte, reduceCtorEq, Nat.reduceEqDiff, Nat.reduceSub, Nat.reduceAdd] <;> rfl)) rfl rfl ?_
    simp only [Tryz.results78, go_sem, Nat.reduceMul, Nat.reduceLeDiff, Nat.reduceLT, reduceIte, reduceCtorEq, Nat.reduceEqDiff, Nat.reduceSub, Nat.reduceAdd]
    refine RetM.threeA 50 (by decide) (by simp only [Tryz.results78, go_sem, Nat.reduceMul, Nat.reduceLeDiff, Nat.reduceLT, reduceIte, reduceCtorEq, Nat.reduceEqDiff, Nat.reduceSub, Nat.reduceAdd]; rfl) rfl ?_ ?_
    · (simp only [Tryz.results78, go_sem, Nat.reduceMul, Nat.reduceLeDiff, Nat.reduceLT, reduceIte, reduceCtorEq, Nat.reduceEqDiff, Nat.reduceSub, Nat.reduceAdd]) <;> rfl
    · (simp only [Tryz.results78, go_sem, Nat.reduceMul, Nat.reduceLeDiff, Nat.reduceLT, reduceIte, reduceCtorEq, Nat.reduceEqDiff, Nat.reduceSub, Nat.reduceAdd]) <;> rfl
theorem mbV_ok {bs : List Int} (hb : Bytes bs) {m : Int} {l : List Int} (hm : 2 ≤ m ∧ m ≤ 12) (hl : 1 ≤ l.length ∧ l.length ≤ 8) {s : Int × Int} (hs : At bs s) : ((-100 ≤ (mbV bs m l s).1 ∧ (mbV bs m l s).1 ≤ 100) ∧ (mbV bs m l s).2.1.length ≤ 9) ∧ At bs (mbV bs m l s).2.2 := by
  obtain ⟨h1, h2, h3⟩ := nx_ok hb 40 hs
  obtain ⟨h4, h5, h6⟩ := nx_ok hb l.length h3
  by_cases e0 : (nx bs 40 s).1 = 0
  · rw [mb0 e0]
    obtain ⟨h7, h8⟩ := pk_ok hb (l := [1, 13, m + 1, 0]) (by simp) h3
    simp only [List.mem_cons, List.not_mem_nil, or_false] at h7
    exact ⟨⟨by dsimp only; omega, by dsimp only; omega⟩, h8⟩
  by_cases e1 : (nx bs 40 s).1 = 1
  · rw [mb1 e0 e1]
    exact ⟨⟨by dsimp only; omega, by dsimp only; rw [List.length_set]; omega⟩, (pk_ok hb (by simp) h6).2⟩
  by_cases e2 : (nx bs 40 s).1 = 2
  · rw [mb2 e0 e1 e2]
    exact ⟨⟨by dsimp only; omega, by simp; omega⟩, h3⟩
  · rw [mb3 e0 e1 e2]
    exact ⟨⟨by dsimp only; omega, by dsimp only; omega⟩, h3⟩
/-- The module that is drawn for a table. -/
def mlist : List Int := [2, 2, 3, 3, 4, 4, 5, 6, 8, 8, 9, 12, 7, 10, 11]
def mdV (bs : List Int) (t : List (List Int)) (s : Int × Int) : Int × List Int × Int × Int :=
  if Grp t then mbV bs (pk bs mlist s).1 (doV bs t (pk bs mlist s).1 (pk bs mlist s).2).1 (doV bs t (pk bs mlist s).1 (pk bs mlist s).2).2 else (3, [1], s)
theorem mdV_ok {bs : List Int} (hb : Bytes bs) (t : List (List Int)) {s : Int × Int} (hs : At bs s) : ((-100 ≤ (mdV bs t s).1 ∧ (mdV bs t s).1 ≤ 100) ∧ (mdV bs t s).2.1.length ≤ 9) ∧ At bs (mdV bs t s).2.2 := by
  unfold mdV
  split
  · rename_i hg
    obtain ⟨h1, h2⟩ := pk_ok hb (l := mlist) (by decide) hs
    have hm : 2 ≤ (pk bs mlist s).1 ∧ (pk bs mlist s).1 ≤ 12 := by
      have : ∀ x ∈ mlist, 2 ≤ x ∧ x ≤ 12 := by decide
      exact this _ h1
    obtain ⟨h3, h4, _⟩ := doV_ok hb hg hm h2
    have hl := h3.2.1
    have h8 := hg.2.1
    have h01 := hg.1
    exact mbV_ok hb hm (by omega) h4
  · exact ⟨⟨by dsimp only; omega, by simp⟩, hs⟩
theorem l02DrawMl_spec (bs : List Int) (hb : Bytes bs) (s : Int × Int) (hs : At bs s) : SpecM Tryz.prog 80 [.ptr 0 0] [srcS s, .ghost (BY bs)] (.v (.int .i64 (pk bs mlist s).1)) [some (srcS (pk bs mlist s).2), none] := l02DrawM_spec bs hb s hs
theorem l02Draw_spec (bs : List Int) (hb : Bytes bs) (t : List (List Int)) (s : Int × Int) (hs : At bs s) : SpecM Tryz.prog 57 [.ptr 0 0, .agg [.rds (II t)]] [srcS s, .ghost (BY bs)] (.agg [.v (.int .i64 (mdV bs t s).1), .own 2]) [some (srcS (mdV bs t s).2.2), none, some (.row 2 (I (mdV bs t s).2.1))] := by
  obtain ⟨h1, h2⟩ := pk_ok hb (l := mlist) (by decide) hs
  have hm : 2 ≤ (pk bs mlist s).1 ∧ (pk bs mlist s).1 ≤ 12 := by
    have : ∀ x ∈ mlist, 2 ≤ x ∧ x ≤ 12 := by decide
    exact this _ h1
  refine SpecM.of_code' T_ok Tryz.func57 rfl Tryz.ntmps57 Tryz.call57 (Nat.le_of_ble_eq_true rfl) (Nat.le_of_ble_eq_true rfl) (Nat.le_of_ble_eq_true rfl) rfl rfl (CodeV_sound T_ok (by kernel_rfl) rfl ?_)
  simp only [Tryz.results57, go_sem, Nat.reduceMul, Nat.reduceLeDiff, Nat.reduceLT, reduceIte, reduceCtorEq, Nat.reduceEqDiff, Nat.reduceSub, Nat.reduceAdd]
  refine HereO.alloc T_ok 104 rfl rfl (by decide) ?_
  simp only [Tryz.results57, go_sem, Nat.reduceMul, Nat.reduceLeDiff, Nat.reduceLT, reduceIte, reduceCtorEq, Nat.reduceEqDiff, Nat.reduceSub, Nat.reduceAdd]
  refine HereO.call T_ok rfl rfl (l01Is_spec t) (by simp only [go_sem, Nat.reduceMul, Nat.reduceLeDiff, Nat.reduceLT, reduceIte, reduceCtorEq, Nat.reduceEqDiff, Nat.reduceSub, Nat.reduceAdd, List.toList_toArray] <;> first | rfl | exact ⟨rfl, rfl⟩) rfl ?_
  simp only [Tryz.results57, go_sem, Nat.reduceMul, Nat.reduceLeDiff, Nat.reduceLT, reduceIte, reduceCtorEq, Nat.reduceEqDiff, Nat.reduceSub, Nat.reduceAdd]
  refine ⟨fun hg => ?_, fun hg => ?_⟩
  · have e : mdV bs t s = (3, [1], s) := by unfold mdV; rw [if_neg hg]
    rw [e]
    refine HereO.buildRow T_ok 61 (I [1]) rfl rfl rfl (by decide) rfl (by first | rfl | (simp only [go_sem, Nat.reduceMul, Nat.reduceLeDiff, Nat.reduceLT, reduceIte, reduceCtorEq, Nat.reduceEqDiff, Nat.reduceSub, Nat.reduceAdd] <;> rfl)) rfl (by decide) ?_
    simp only [Tryz.results57, go_sem, Nat.reduceMul, Nat.reduceLeDiff, Nat.reduceLT, reduceIte, reduceCtorEq, Nat.reduceEqDiff, Nat.reduceSub, Nat.reduceAdd]
    refine HereO.opP T_ok (OpP.build built_35 rfl rfl rfl rfl) ?_
    simp only [Tryz.results57, go_sem, Nat.reduceMul, Nat.reduceLeDiff, Nat.reduceLT, reduceIte, reduceCtorEq, Nat.reduceEqDiff, Nat.reduceSub, Nat.reduceAdd]
    refine HereO.storeAgg T_ok rfl (by simp only [go_sem, Nat.reduceMul, Nat.reduceLeDiff, Nat.reduceLT, reduceIte, reduceCtorEq, Nat.reduceEqDiff, Nat.reduceSub, Nat.reduceAdd] <;> rfl) (by simp only [go_sem, Nat.reduceMul, Nat.reduceLeDiff, Nat.reduceLT, reduceIte, reduceCtorEq, Nat.reduceEqDiff, Nat.reduceSub, Nat.reduceAdd] <;> rfl) rfl (by simp only [go_sem, Nat.reduceMul, Nat.reduceLeDiff, Nat.reduceLT, reduceIte, reduceCtorEq, Nat.reduceEqDiff, Nat.reduceSub, Nat.reduceAdd] <;> rfl) (by first | rfl | (simp only [go_sem, Nat.reduceMul, Nat.reduceLeDiff, Nat.reduceLT, reduceIte, reduceCtorEq, Nat.reduceEqDiff, Nat.reduceSub, Nat.reduceAdd] <;> rfl)) rfl rfl ?_
    simp only [Tryz.results57, go_sem, Nat.reduceMul, Nat.reduceLeDiff, Nat.reduceLT, reduceIte, reduceCtorEq, Nat.reduceEqDiff, Nat.reduceSub, Nat.reduceAdd]
    refine RetM.two 61 (by decide) (by simp only [Tryz.results57, go_sem, Nat.reduceMul, Nat.reduceLeDiff, Nat.reduceLT, reduceIte, reduceCtorEq, Nat.reduceEqDiff, Nat.reduceSub, Nat.reduceAdd]; rfl) rfl ?_ ?_
    · (simp only [Tryz.results57, go_sem, Nat.reduceMul, Nat.reduceLeDiff, Nat.reduceLT, reduceIte, reduceCtorEq, Nat.reduceEqDiff, Nat.reduceSub, Nat.reduceAdd]) <;> rfl
    · (simp only [Tryz.results57, go_sem, Nat.reduceMul, Nat.reduceLeDiff, Nat.reduceLT, reduceIte, reduceCtorEq, Nat.reduceEqDiff, Nat.reduceSub, Nat.reduceAdd]) <;> rfl
  · have e : mdV bs t s = mbV bs (pk bs mlist s).1 (doV bs t (pk bs mlist s).1 (pk bs mlist s).2).1 (doV bs t (pk bs mlist s).1 (pk bs mlist s).2).2 := by unfold mdV; rw [if_pos hg]
    rw [e]
    obtain ⟨h3, h4, _⟩ := doV_ok hb hg hm h2
    have hl := h3.2.1
    have h8 := hg.2.1
    have h01 := hg.1
    refine Here.drawC T_ok [.f, .f, .f, .f, .c, .c, .c, .c] [0, 3] [1336, 1337, 1338, 1339, 1340, 1341, 1342, 1343, 1344, 1345, 1346, 1347, 1348, 1349, 1350, 1351, 1352, 1353, 1354, 1355, 1356, 1357, 1358, 1359, 1360, 1361, 1362, 1363, 1364, 1365, 1366, 1367, 1368, 1369, 1370, 1371, 1372, 1373, 1374, 1375, 1376, 1377, 1378, 1379, 1380, 1381, 1382, 1383] [] (Nat.le_of_ble_eq_true rfl) mixed_ok (by kernel_rfl) (by kernel_rfl) (by kernel_rfl) (by simp only [List.mem_cons, List.not_mem_nil, or_false, forall_eq_or_imp, forall_eq, go_sem, Nat.reduceMul, Nat.reduceLeDiff, Nat.reduceLT, reduceIte, reduceCtorEq, Nat.reduceEqDiff, Nat.reduceSub, Nat.reduceAdd] <;> first | exact calm_ptr_ne rfl | exact calm_ne rfl | exact ⟨calm_ptr_ne rfl, calm_ptr_ne rfl⟩ | exact ⟨calm_ptr_ne rfl, calm_ptr_ne rfl, calm_ptr_ne rfl⟩ | exact ⟨calm_ptr_ne rfl, calm_knot (by simp only [go_sem, Nat.reduceMul, Nat.reduceLeDiff, Nat.reduceLT, reduceIte, reduceCtorEq, Nat.reduceEqDiff, Nat.reduceSub, Nat.reduceAdd] <;> exact calm_ptr_ne rfl)⟩ | ((repeat' apply And.intro) <;> first | exact calm_ptr_ne rfl | exact calm_ne rfl)) ?_
    simp only [Tryz.results57, go_sem, Nat.reduceMul, Nat.reduceLeDiff, Nat.reduceLT, reduceIte, reduceCtorEq, Nat.reduceEqDiff, Nat.reduceSub, Nat.reduceAdd]
    refine ⟨calm_ptr_ne rfl, calm_ptr_ne rfl, calm_ptr_ne rfl, ?_⟩
    refine HereC.callM 21 [0, 1] rfl rfl (l02DrawMl_spec bs hb s hs) (by simp only [go_sem, Nat.reduceMul, Nat.reduceLeDiff, Nat.reduceLT, reduceIte, reduceCtorEq, Nat.reduceEqDiff, Nat.reduceSub, Nat.reduceAdd, List.toList_toArray, ↓reduceIte]) rfl (by decide) (by decide) rfl rfl rfl (Nat.le_of_ble_eq_true rfl) (inK_shift rfl) (by first | exact keeps_nil _ _ | (simp only [keeps_cons, keeps_nil', go_sem, Nat.reduceMul, Nat.reduceLeDiff, Nat.reduceLT, reduceIte, reduceCtorEq, Nat.reduceEqDiff, Nat.reduceSub, Nat.reduceAdd] <;> first | rfl | exact ⟨rfl, rfl⟩)) ?_
    simp only [Tryz.results57, go_sem, Nat.reduceMul, Nat.reduceLeDiff, Nat.reduceLT, reduceIte, reduceCtorEq, Nat.reduceEqDiff, Nat.reduceSub, Nat.reduceAdd]
    refine HereC.callM 22 [0, 1] rfl rfl (l02DrawOf_spec bs hb t _ hg hm _ h2) (by simp only [go_sem, Nat.reduceMul, Nat.reduceLeDiff, Nat.reduceLT, reduceIte, reduceCtorEq, Nat.reduceEqDiff, Nat.reduceSub, Nat.reduceAdd, List.toList_toArray, ↓reduceIte]) rfl (by decide) (by decide) rfl rfl rfl (Nat.le_of_ble_eq_true rfl) (inK_shift rfl) (by first | exact keeps_nil _ _ | (simp only [keeps_cons, keeps_nil', go_sem, Nat.reduceMul, Nat.reduceLeDiff, Nat.reduceLT, reduceIte, reduceCtorEq, Nat.reduceEqDiff, Nat.reduceSub, Nat.reduceAdd] <;> first | rfl | exact ⟨rfl, rfl⟩)) ?_
    simp only [Tryz.results57, go_sem, Nat.reduceMul, Nat.reduceLeDiff, Nat.reduceLT, reduceIte, reduceCtorEq, Nat.reduceEqDiff, Nat.reduceSub, Nat.reduceAdd]
    refine HereC.callM 23 [0, 1, 1354] rfl rfl (l02Bad_spec bs hb _ _ hm (by omega) _ h4) (by simp only [go_sem, Nat.reduceMul, Nat.reduceLeDiff, Nat.reduceLT, reduceIte, reduceCtorEq, Nat.reduceEqDiff, Nat.reduceSub, Nat.reduceAdd, List.toList_toArray, ↓reduceIte]) rfl (by decide) (by decide) rfl rfl rfl (Nat.le_of_ble_eq_true rfl) (inK_shift rfl) (by first | exact keeps_nil _ _ | (simp only [keeps_cons, keeps_nil', go_sem, Nat.reduceMul, Nat.reduceLeDiff, Nat.reduceLT, reduceIte, reduceCtorEq, Nat.reduceEqDiff, Nat.reduceSub, Nat.reduceAdd] <;> first | rfl | exact ⟨rfl, rfl⟩)) ?_
    simp only [Tryz.results57, go_sem, Nat.reduceMul, Nat.reduceLeDiff, Nat.reduceLT, reduceIte, reduceCtorEq, Nat.reduceEqDiff, Nat.reduceSub, Nat.reduceAdd]
    refine HereC.storeAgg T_ok rfl (by simp only [go_sem, Nat.reduceMul, Nat.reduceLeDiff, Nat.reduceLT, reduceIte, reduceCtorEq, Nat.reduceEqDiff, Nat.reduceSub, Nat.reduceAdd] <;> rfl) (by simp only [go_sem, Nat.reduceMul, Nat.reduceLeDiff, Nat.reduceLT, reduceIte, reduceCtorEq, Nat.reduceEqDiff, Nat.reduceSub, Nat.reduceAdd] <;> rfl) rfl (by simp only [go_sem, Nat.reduceMul, Nat.reduceLeDiff, Nat.reduceLT, reduceIte, reduceCtorEq, Nat.reduceEqDiff, Nat.reduceSub, Nat.reduceAdd] <;> rfl) (by first | rfl | (simp only [go_sem, Nat.reduceMul, Nat.reduceLeDiff, Nat.reduceLT, reduceIte, reduceCtorEq, Nat.reduceEqDiff, Nat.reduceSub, Nat.reduceAdd] <;> rfl)) rfl rfl (by first | exact keeps_nil _ _ | (simp only [keeps_cons, keeps_nil', go_sem, Nat.reduceMul, Nat.reduceLeDiff, Nat.reduceLT, reduceIte, reduceCtorEq, Nat.reduceEqDiff, Nat.reduceSub, Nat.reduceAdd] <;> rfl)) ?_
    simp only [Tryz.results57, go_sem, Nat.reduceMul, Nat.reduceLeDiff, Nat.reduceLT, reduceIte, reduceCtorEq, Nat.reduceEqDiff, Nat.reduceSub, Nat.reduceAdd]
    refine RetM.two 1371 (by decide) (by simp only [Tryz.results57, go_sem, Nat.reduceMul, Nat.reduceLeDiff, Nat.reduceLT, reduceIte, reduceCtorEq, Nat.reduceEqDiff, Nat.reduceSub, Nat.reduceAdd]; rfl) rfl ?_ ?_
    · (simp only [Tryz.results57, go_sem, Nat.reduceMul, Nat.reduceLeDiff, Nat.reduceLT, reduceIte, reduceCtorEq, Nat.reduceEqDiff, Nat.reduceSub, Nat.reduceAdd]) <;> rfl
    · (simp only [Tryz.results57, go_sem, Nat.reduceMul, Nat.reduceLeDiff, Nat.reduceLT, reduceIte, reduceCtorEq, Nat.reduceEqDiff, Nat.reduceSub, Nat.reduceAdd]) <;> rfl
theorem RetM.new2 {T : TT} {results : Array ResultVar} {r : LV} {s : St} {rs : List LV} {a c : OC} (m1 m2 : Nat) (hm1 : 1 ≤ m1) (hm2 : 1 ≤ m2) (h12 : m1 ≠ m2) (h : resLs T s results.toList = some rs) (h2 : tupL rs = ren (fun i => [0, m1, m2].getD i 0) r) (h3 : s.σ m1 = some (renO (fun i => [0, m1, m2].getD i 0) a)) (h5 : s.σ m2 = some (renO (fun i => [0, m1, m2].getD i 0) c)) : RetM T results 1 r [none, some a, some c] s :=
  ⟨rs, [0, m1, m2], h, h2, rfl, by simp; omega, fun i hi => (by
    match i, hi with
    | 0, _ => rfl), fun i oc hi => by
    match i with
    | 0 => simp [osO] at hi
    | 1 => simp [osO] at hi; subst hi; simpa using h3
    | 2 => simp [osO] at hi; subst hi; simpa using h5
    | i + 3 => simp [osO] at hi⟩
theorem l02With_spec (bs : List Int) (hb : Bytes bs) : SpecM Tryz.prog 32 [.own 0] [.ghost (BY bs)] (.tup [.agg [.own 1], .agg [.v (.int .i64 (mdV bs (spV bs (src0 bs)).1 (spV bs (src0 bs)).2).1), .own 2]]) [none, some (.frz (II (spV bs (src0 bs)).1)), some (.row 2 (I (mdV bs (spV bs (src0 bs)).1 (spV bs (src0 bs)).2).2.1))] := by
  have h0 := src0_at bs
  obtain ⟨h1, h2⟩ := spV_ok hb h0
  have hmd := mdV_ok hb (spV bs (src0 bs)).1 h2
  refine SpecM.of_code' T_ok Tryz.func32 rfl Tryz.ntmps32 Tryz.call32 (Nat.le_of_ble_eq_true rfl) (Nat.le_of_ble_eq_true rfl) (Nat.le_of_ble_eq_true rfl) rfl rfl (CodeV_sound T_ok (by kernel_rfl) rfl ?_)
  simp only [Tryz.results32, go_sem, Nat.reduceMul, Nat.reduceLeDiff, Nat.reduceLT, reduceIte, reduceCtorEq, Nat.reduceEqDiff, Nat.reduceSub, Nat.reduceAdd]
  refine HereO.alloc T_ok 102 rfl rfl (by decide) ?_
  simp only [Tryz.results32, go_sem, Nat.reduceMul, Nat.reduceLeDiff, Nat.reduceLT, reduceIte, reduceCtorEq, Nat.reduceEqDiff, Nat.reduceSub, Nat.reduceAdd]
  refine HereO.alloc T_ok 103 rfl rfl (by decide) ?_
  simp only [Tryz.results32, go_sem, Nat.reduceMul, Nat.reduceLeDiff, Nat.reduceLT, reduceIte, reduceCtorEq, Nat.reduceEqDiff, Nat.reduceSub, Nat.reduceAdd]
  refine HereO.callM T_ok 20 [0] rfl rfl (l01From_spec bs hb) (by simp only [go_sem, Nat.reduceMul, Nat.reduceLeDiff, Nat.reduceLT, reduceIte, reduceCtorEq, Nat.reduceEqDiff, Nat.reduceSub, Nat.reduceAdd, List.toList_toArray, ↓reduceIte]) rfl (by decide) (by decide) rfl rfl rfl (Nat.le_of_ble_eq_true rfl) ?_
  simp only [Tryz.results32, go_sem, Nat.reduceMul, Nat.reduceLeDiff, Nat.reduceLT, reduceIte, reduceCtorEq, Nat.reduceEqDiff, Nat.reduceSub, Nat.reduceAdd]
  refine HereO.callM T_ok 21 [1321,0] rfl rfl (l01Spoil_spec bs hb _ h0) (by simp only [go_sem, Nat.reduceMul, Nat.reduceLeDiff, Nat.reduceLT, reduceIte, reduceCtorEq, Nat.reduceEqDiff, Nat.reduceSub, Nat.reduceAdd, List.toList_toArray, ↓reduceIte]) rfl (by decide) (by decide) rfl rfl rfl (Nat.le_of_ble_eq_true rfl) ?_
  simp only [Tryz.results32, go_sem, Nat.reduceMul, Nat.reduceLeDiff, Nat.reduceLT, reduceIte, reduceCtorEq, Nat.reduceEqDiff, Nat.reduceSub, Nat.reduceAdd]
  refine HereO.alloc T_ok 105 rfl rfl (by decide) ?_
  simp only [Tryz.results32, go_sem, Nat.reduceMul, Nat.reduceLeDiff, Nat.reduceLT, reduceIte, reduceCtorEq, Nat.reduceEqDiff, Nat.reduceSub, Nat.reduceAdd]
  refine HereO.storeAgg T_ok rfl (by simp only [go_sem, Nat.reduceMul, Nat.reduceLeDiff, Nat.reduceLT, reduceIte, reduceCtorEq, Nat.reduceEqDiff, Nat.reduceSub, Nat.reduceAdd] <;> rfl) (by simp only [go_sem, Nat.reduceMul, Nat.reduceLeDiff, Nat.reduceLT, reduceIte, reduceCtorEq, Nat.reduceEqDiff, Nat.reduceSub, Nat.reduceAdd] <;> rfl) rfl (by simp only [go_sem, Nat.reduceMul, Nat.reduceLeDiff, Nat.reduceLT, reduceIte, reduceCtorEq, Nat.reduceEqDiff, Nat.reduceSub, Nat.reduceAdd] <;> rfl) (by first | rfl | (simp only [go_sem, Nat.reduceMul, Nat.reduceLeDiff, Nat.reduceLT, reduceIte, reduceCtorEq, Nat.reduceEqDiff, Nat.reduceSub, Nat.reduceAdd] <;> rfl)) rfl rfl ?_
  simp only [Tryz.results32, go_sem, Nat.reduceMul, Nat.reduceLeDiff, Nat.reduceLT, reduceIte, reduceCtorEq, Nat.reduceEqDiff, Nat.reduceSub, Nat.reduceAdd]
  refine Here.drawC T_ok [.f, .f, .f, .c, .c, .c] [5, 4] [1352, 1353, 1354, 1355, 1356, 1357, 1358, 1359, 1360, 1361, 1362, 1363, 1364, 1365, 1366, 1367] [105] (Nat.le_of_ble_eq_true rfl) mixed_ok (by kernel_rfl) (by kernel_rfl) (by kernel_rfl) (by simp only [List.mem_cons, List.not_mem_nil, or_false, forall_eq_or_imp, forall_eq, go_sem, Nat.reduceMul, Nat.reduceLeDiff, Nat.reduceLT, reduceIte, reduceCtorEq, Nat.reduceEqDiff, Nat.reduceSub, Nat.reduceAdd] <;> first | exact calm_ptr_ne rfl | exact calm_ne rfl | exact ⟨calm_ptr_ne rfl, calm_ptr_ne rfl⟩ | exact ⟨calm_ptr_ne rfl, calm_ptr_ne rfl, calm_ptr_ne rfl⟩ | exact ⟨calm_ptr_ne rfl, calm_knot (by simp only [go_sem, Nat.reduceMul, Nat.reduceLeDiff, Nat.reduceLT, reduceIte, reduceCtorEq, Nat.reduceEqDiff, Nat.reduceSub, Nat.reduceAdd] <;> exact calm_ptr_ne rfl)⟩ | ((repeat' apply And.intro) <;> first | exact calm_ptr_ne rfl | exact calm_ne rfl)) ?_
  simp only [Tryz.results32, go_sem, Nat.reduceMul, Nat.reduceLeDiff, Nat.reduceLT, reduceIte, reduceCtorEq, Nat.reduceEqDiff, Nat.reduceSub, Nat.reduceAdd]
  refine HereF.loadAgg T_ok (id := 105) (tt := 26) (c := [.own 1338]) rfl (by simp only [go_sem, Nat.reduceMul, Nat.reduceLeDiff, Nat.reduceLT, reduceIte, reduceCtorEq, Nat.reduceEqDiff, Nat.reduceSub, Nat.reduceAdd] <;> rfl) (by kernel_rfl) rfl (by decide) (by simp only [go_sem, Nat.reduceMul, Nat.reduceLeDiff, Nat.reduceLT, reduceIte, reduceCtorEq, Nat.reduceEqDiff, Nat.reduceSub, Nat.reduceAdd] <;> rfl) rfl (calm_agg1 (calm_ne rfl)) ?_
  simp only [Tryz.results32, go_sem, Nat.reduceMul, Nat.reduceLeDiff, Nat.reduceLT, reduceIte, reduceCtorEq, Nat.reduceEqDiff, Nat.reduceSub, Nat.reduceAdd]
  refine ⟨calm_ptr_ne rfl, ?_⟩
  refine HereF.loadAgg T_ok (id := 105) (tt := 26) (c := [.own 1338]) rfl (by simp only [go_sem, Nat.reduceMul, Nat.reduceLeDiff, Nat.reduceLT, reduceIte, reduceCtorEq, Nat.reduceEqDiff, Nat.reduceSub, Nat.reduceAdd] <;> rfl) (by kernel_rfl) rfl (by decide) (by simp only [go_sem, Nat.reduceMul, Nat.reduceLeDiff, Nat.reduceLT, reduceIte, reduceCtorEq, Nat.reduceEqDiff, Nat.reduceSub, Nat.reduceAdd] <;> rfl) rfl (calm_agg1 (calm_ne rfl)) ?_
  simp only [Tryz.results32, go_sem, Nat.reduceMul, Nat.reduceLeDiff, Nat.reduceLT, reduceIte, reduceCtorEq, Nat.reduceEqDiff, Nat.reduceSub, Nat.reduceAdd]
  refine HereC.callM 22 [1321, 0] rfl rfl (l02Draw_spec bs hb (spV bs (src0 bs)).1 _ h2) (by simp only [go_sem, Nat.reduceMul, Nat.reduceLeDiff, Nat.reduceLT, reduceIte, reduceCtorEq, Nat.reduceEqDiff, Nat.reduceSub, Nat.reduceAdd, List.toList_toArray, ↓reduceIte]) rfl (by decide) (by decide) rfl rfl rfl (Nat.le_of_ble_eq_true rfl) (inK_shift rfl) (by first | exact keeps_nil _ _ | (simp only [keeps_cons, keeps_nil', go_sem, Nat.reduceMul, Nat.reduceLeDiff, Nat.reduceLT, reduceIte, reduceCtorEq, Nat.reduceEqDiff, Nat.reduceSub, Nat.reduceAdd] <;> first | rfl | exact ⟨rfl, rfl⟩)) ?_
  simp only [Tryz.results32, go_sem, Nat.reduceMul, Nat.reduceLeDiff, Nat.reduceLT, reduceIte, reduceCtorEq, Nat.reduceEqDiff, Nat.reduceSub, Nat.reduceAdd]
  refine HereC.storeAgg T_ok rfl (by simp only [go_sem, Nat.reduceMul, Nat.reduceLeDiff, Nat.reduceLT, reduceIte, reduceCtorEq, Nat.reduceEqDiff, Nat.reduceSub, Nat.reduceAdd] <;> rfl) (by simp only [go_sem, Nat.reduceMul, Nat.reduceLeDiff, Nat.reduceLT, reduceIte, reduceCtorEq, Nat.reduceEqDiff, Nat.reduceSub, Nat.reduceAdd] <;> rfl) rfl (by simp only [go_sem, Nat.reduceMul, Nat.reduceLeDiff, Nat.reduceLT, reduceIte, reduceCtorEq, Nat.reduceEqDiff, Nat.reduceSub, Nat.reduceAdd] <;> rfl) (by first | rfl | (simp only [go_sem, Nat.reduceMul, Nat.reduceLeDiff, Nat.reduceLT, reduceIte, reduceCtorEq, Nat.reduceEqDiff, Nat.reduceSub, Nat.reduceAdd] <;> rfl)) rfl rfl (by first | exact keeps_nil _ _ | (simp only [keeps_cons, keeps_nil', go_sem, Nat.reduceMul, Nat.reduceLeDiff, Nat.reduceLT, reduceIte, reduceCtorEq, Nat.reduceEqDiff, Nat.reduceSub, Nat.reduceAdd] <;> rfl)) ?_
  simp only [Tryz.results32, go_sem, Nat.reduceMul, Nat.reduceLeDiff, Nat.reduceLT, reduceIte, reduceCtorEq, Nat.reduceEqDiff, Nat.reduceSub, Nat.reduceAdd]
  refine HereC.storeAgg T_ok rfl (by simp only [go_sem, Nat.reduceMul, Nat.reduceLeDiff, Nat.reduceLT, reduceIte, reduceCtorEq, Nat.reduceEqDiff, Nat.reduceSub, Nat.reduceAdd] <;> rfl) (by simp only [go_sem, Nat.reduceMul, Nat.reduceLeDiff, Nat.reduceLT, reduceIte, reduceCtorEq, Nat.reduceEqDiff, Nat.reduceSub, Nat.reduceAdd] <;> rfl) rfl (by simp only [go_sem, Nat.reduceMul, Nat.reduceLeDiff, Nat.reduceLT, reduceIte, reduceCtorEq, Nat.reduceEqDiff, Nat.reduceSub, Nat.reduceAdd] <;> rfl) (by first | rfl | (simp only [go_sem, Nat.reduceMul, Nat.reduceLeDiff, Nat.reduceLT, reduceIte, reduceCtorEq, Nat.reduceEqDiff, Nat.reduceSub, Nat.reduceAdd] <;> rfl)) rfl rfl (by first | exact keeps_nil _ _ | (simp only [keeps_cons, keeps_nil', go_sem, Nat.reduceMul, Nat.reduceLeDiff, Nat.reduceLT, reduceIte, reduceCtorEq, Nat.reduceEqDiff, Nat.reduceSub, Nat.reduceAdd] <;> rfl)) ?_
  simp only [Tryz.results32, go_sem, Nat.reduceMul, Nat.reduceLeDiff, Nat.reduceLT, reduceIte, reduceCtorEq, Nat.reduceEqDiff, Nat.reduceSub, Nat.reduceAdd]
  refine RetM.new2 1338 1354 (by decide) (by decide) (by decide) (by simp only [Tryz.results32, go_sem, Nat.reduceMul, Nat.reduceLeDiff, Nat.reduceLT, reduceIte, reduceCtorEq, Nat.reduceEqDiff, Nat.reduceSub, Nat.reduceAdd]; rfl) rfl ?_ ?_
  · (simp only [Tryz.results32, go_sem, Nat.reduceMul, Nat.reduceLeDiff, Nat.reduceLT, reduceIte, reduceCtorEq, Nat.reduceEqDiff, Nat.reduceSub, Nat.reduceAdd]) <;> rfl
  · (simp only [Tryz.results32, go_sem, Nat.reduceMul, Nat.reduceLeDiff, Nat.reduceLT, reduceIte, reduceCtorEq, Nat.reduceEqDiff, Nat.reduceSub, Nat.reduceAdd]) <;> rfl
end Go.Proofs.YtcjhojdlfnpgjaaGreatDoor
