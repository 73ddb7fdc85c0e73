/- Contracts: groups that are drawn. -/
import Derived.Test.YtcjhojdlfnpgjaaGreatK21
import Derived.Test.YtcjhojdlfnpgjaaGreatK22
import Derived.Test.YtcjhojdlfnpgjaaGreatK20
import Derived.Test.YtcjhojdlfnpgjaaGreatK14
set_option linter.unusedVariables false
set_option linter.unusedSimpArgs false
set_option maxRecDepth 100000
namespace Go.Proofs.YtcjhojdlfnpgjaaGreat
open Go.RowKit
def nms : List ByteArray := [⟨#[99, 49]⟩, ⟨#[99, 50]⟩, ⟨#[99, 51]⟩, ⟨#[99, 52]⟩, ⟨#[99, 53]⟩, ⟨#[99, 54]⟩, ⟨#[99, 55]⟩, ⟨#[99, 56]⟩, sKlein, sS3, sC2c4, sCube, sDih, sQua]
def nmsS : List ByteArray := [⟨#[99, 49]⟩, ⟨#[99, 50]⟩, ⟨#[99, 50]⟩, ⟨#[99, 51]⟩, ⟨#[99, 51]⟩, ⟨#[99, 52]⟩, sKlein]
def SV_ (l : List ByteArray) : List Value := l.map .string
theorem SV_len (l : List ByteArray) : (SV_ l).length = l.length := by simp [SV_]
theorem dvSV {l : List ByteArray} {k : Nat} (h : k < l.length) : dv (SV_ l) k = .string (l.getD k ByteArray.empty) := by
  unfold dv SV_
  rw [List.getD_eq_getElem?_getD, List.getD_eq_getElem?_getD, List.getElem?_map, List.getElem?_eq_getElem h]
  rfl
theorem nms_fact : ∀ k : Nat, k < 14 → (nmV (nms.getD k ByteArray.empty)).isSome = true ∧ Grp (nmL (nms.getD k ByteArray.empty)) ∧ (nms.getD k ByteArray.empty).size ≤ 100 := by decide +kernel
theorem nmsS_fact : ∀ k : Nat, k < 7 → (nmV (nmsS.getD k ByteArray.empty)).isSome = true ∧ Grp (nmL (nmsS.getD k ByteArray.empty)) ∧ (nmsS.getD k ByteArray.empty).size ≤ 100 := by decide +kernel
attribute [go_sem] SV_len
theorem l01Names_spec : Spec Tryz.prog 94 [] (.own 0) [.row 9 (SV_ nms)] := by
  refine Spec.of_code T_ok Tryz.func94 rfl Tryz.ntmps94 Tryz.call94 (Nat.le_of_ble_eq_true rfl) rfl rfl (CodeV_sound T_ok (by kernel_rfl) rfl ?_)
  refine WW ?_
  refine HereO.buildRow T_ok 120 (SV_ nms) rfl rfl rfl (by decide) rfl rfl rfl (by decide) ?_
  refine WW ?_
  refine RetT.one 120 SE rfl ?_
  exact WW trivial
def Dr (t : List (List Int)) : Prop := 1 ≤ t.length ∧ t.length ≤ 8 ∧ ∀ a, a < t.length → (t.getD a []).length = t.length
noncomputable def drG (bs : List Int) (names : List ByteArray) (s : Int × Int) : List (List Int) × Int × Int :=
  if (nx bs 2 (nx bs names.length s).2).1 = 0 then (nmL (names.getD (nx bs names.length s).1.toNat ByteArray.empty), (nx bs 2 (nx bs names.length s).2).2)
  else (tab (renF (nmL (names.getD (nx bs names.length s).1.toNat ByteArray.empty)) (drN bs (nx bs 2 (nx bs names.length s).2).2 (nmL (names.getD (nx bs names.length s).1.toNat ByteArray.empty)).length).1) (nmL (names.getD (nx bs names.length s).1.toNat ByteArray.empty)).length (nmL (names.getD (nx bs names.length s).1.toNat ByteArray.empty)).length, (drN bs (nx bs 2 (nx bs names.length s).2).2 (nmL (names.getD (nx bs names.length s).1.toNat ByteArray.empty)).length).2)
theorem drG0 {bs : List Int} {names : List ByteArray} {s : Int × Int} (h : (nx bs 2 (nx bs names.length s).2).1 = 0) : drG bs names s = (nmL (names.getD (nx bs names.length s).1.toNat ByteArray.empty), (nx bs 2 (nx bs names.length s).2).2) := by unfold drG; rw [if_pos h]
theorem drG1 {bs : List Int} {names : List ByteArray} {s : Int × Int} (h : ¬ (nx bs 2 (nx bs names.length s).2).1 = 0) : drG bs names s = (tab (renF (nmL (names.getD (nx bs names.length s).1.toNat ByteArray.empty)) (drN bs (nx bs 2 (nx bs names.length s).2).2 (nmL (names.getD (nx bs names.length s).1.toNat ByteArray.empty)).length).1) (nmL (names.getD (nx bs names.length s).1.toNat ByteArray.empty)).length (nmL (names.getD (nx bs names.length s).1.toNat ByteArray.empty)).length, (drN bs (nx bs 2 (nx bs names.length s).2).2 (nmL (names.getD (nx bs names.length s).1.toNat ByteArray.empty)).length).2) := by unfold drG; rw [if_neg h]
theorem l01Draw_spec (bs : List Int) (hb : Bytes bs) (s : Int × Int) (hs : At bs s) : SpecM Tryz.prog 51 [.ptr 0 0] [srcS s, .ghost (BY bs)] (.agg [.own 2]) [some (srcS (drG bs nms s).2), none, some (.rows 27 2 (II (drG bs nms s).1))] := by
  obtain ⟨h1, h2, h3⟩ := nx_ok hb (nms.length : Nat) hs
  have h2' := h2 (by decide)
  have hk : (nx bs (nms.length : Nat) s).1.toNat < 14 := by have : (nms.length : Nat) = 14 := rfl; omega
  obtain ⟨hsome, hg, hsz⟩ := nms_fact _ hk
  obtain ⟨h4, h5, h6⟩ := nx_ok hb 2 h3
  have hn1 := hg.1
  have hn8 := hg.2.1
  obtain ⟨hp0, hat⟩ := drN_ok hb h6 hn1
  have hren := l01Renumbered_spec _ hg _ hp0
  refine SpecM.of_code' T_ok Tryz.func51 rfl Tryz.ntmps51 Tryz.call51 (Nat.le_of_ble_eq_true rfl) (Nat.le_of_ble_eq_true rfl) (Nat.le_of_ble_eq_true rfl) rfl rfl (CodeV_sound T_ok (by kernel_rfl) rfl ?_)
  refine WW ?_
  refine HereO.alloc T_ok 102 rfl rfl (by decide) ?_
  refine WW ?_
  refine HereO.call T_ok rfl rfl (l01Names_spec) SA rfl ?_
  refine WW ?_
  refine HereO.callM T_ok 21 [0,1] rfl rfl (l01Next_spec bs hb (nms.length : Nat) s hs) SC rfl (by decide) (by decide) rfl rfl rfl (Nat.le_of_ble_eq_true rfl) ?_
  refine WW ?_
  refine ⟨⟨h1, h2'⟩, ?_⟩
  rw [dvSV (l := nms) (k := (nx bs (nms.length : Nat) s).1.toNat) (show _ < nms.length from hk)]
  refine HereO.callOwn T_ok 30 rfl rfl (l01Named_spec (nms.getD (nx bs (nms.length : Nat) s).1.toNat ByteArray.empty) (by omega)) SA rfl (by simp) rfl ?_
  refine WW ?_
  refine HereO.alloc T_ok 104 rfl rfl (by decide) ?_
  refine WW ?_
  refine HereO.storeAgg T_ok rfl SS SS rfl SS SR rfl rfl ?_
  refine WW ?_
  refine HereO.callM T_ok 22 [0,1] rfl rfl (l01Next_spec bs hb 2 _ h3) SC rfl (by decide) (by decide) rfl rfl rfl (Nat.le_of_ble_eq_true rfl) ?_
  refine WW ?_
  refine ⟨fun h7 => ?_, fun h7 => ?_⟩
  · rw [drG0 h7]
    refine HereO.storeAgg T_ok rfl SS SS rfl SS SR rfl rfl ?_
    refine WW ?_
    refine RetM.two 1480 (by decide) SE rfl ?_ ?_
    · (simp only [go_sem, Nat.reduceMul, Nat.reduceLeDiff, Nat.reduceLT, reduceIte, reduceCtorEq, Nat.reduceEqDiff, Nat.reduceSub, Nat.reduceAdd]) <;> rfl
    · exact WW trivial
  · rw [drG1 h7]
    refine Here.drawC T_ok [.f, .f, .f, .f, .c, .c, .c] [0, 4] [1496, 1497, 1498, 1499, 1500, 1501, 1502, 1503, 1504, 1505, 1506, 1507, 1508, 1509, 1510, 1511, 1512, 1513, 1514, 1515, 1516, 1517, 1518, 1519, 1520, 1521, 1522, 1523, 1524, 1525, 1526, 1527] [104, 1480] (Nat.le_of_ble_eq_true rfl) mixed_ok (by kernel_rfl) (by kernel_rfl) (by kernel_rfl) (by simp only [List.mem_cons, List.not_mem_nil, or_false, forall_eq_or_imp, forall_eq, go_sem, Nat.reduceMul, Nat.reduceLeDiff, Nat.reduceLT, reduceIte, reduceCtorEq, Nat.reduceEqDiff, Nat.reduceSub, Nat.reduceAdd] <;> first | exact calm_ptr_ne rfl | exact calm_ne rfl | exact ⟨calm_ptr_ne rfl, calm_ptr_ne rfl⟩ | exact ⟨calm_ptr_ne rfl, calm_ptr_ne rfl, calm_ptr_ne rfl⟩ | exact ⟨calm_ptr_ne rfl, calm_knot (by simp only [go_sem, Nat.reduceMul, Nat.reduceLeDiff, Nat.reduceLT, reduceIte, reduceCtorEq, Nat.reduceEqDiff, Nat.reduceSub, Nat.reduceAdd] <;> exact calm_ptr_ne rfl)⟩ | ((repeat' apply And.intro) <;> first | exact calm_ptr_ne rfl | exact calm_ne rfl)) ?_
    refine WW ?_
    refine HereF.loadAgg T_ok (id := 104) (tt := 26) (c := [.own 1480]) rfl SS (by kernel_rfl) rfl (by decide) SS rfl (calm_agg1 (calm_ne rfl)) ?_
    refine WW ?_
    refine ⟨calm_ptr_ne rfl, ?_⟩
    refine HereF.loadAgg T_ok (id := 104) (tt := 26) (c := [.own 1480]) rfl SS (by kernel_rfl) rfl (by decide) SS rfl (calm_agg1 (calm_ne rfl)) ?_
    refine WW ?_
    refine ⟨_, fun σ hG => OpP.call' rfl rfl (l01N_spec (nmL (nms.getD (nx bs (nms.length : Nat) s).1.toNat ByteArray.empty))) (by have hq := hG 1480 (by decide); simp only [go_sem, Nat.reduceMul, Nat.reduceLeDiff, Nat.reduceLT, reduceIte, reduceCtorEq, Nat.reduceEqDiff, Nat.reduceSub, Nat.reduceAdd, List.toList_toArray, hq] <;> rfl) rfl, SW, ?_⟩
    refine WW ?_
    refine HereC.callM 31 [0, 1] rfl rfl (l01DrawNumbers_spec bs hb (nmL (nms.getD (nx bs (nms.length : Nat) s).1.toNat ByteArray.empty)).length hn1 (by omega) _ h6) SC rfl (by decide) (by decide) rfl rfl rfl (Nat.le_of_ble_eq_true rfl) (inK_shift rfl) (by simp only [keeps_cons, keeps_nil', go_sem, Nat.reduceMul, Nat.reduceLeDiff, Nat.reduceLT, reduceIte, reduceCtorEq, Nat.reduceEqDiff, Nat.reduceSub, Nat.reduceAdd] <;> exact ⟨rfl, rfl⟩) ?_
    refine WW ?_
    refine HereC.callOwn 32 rfl rfl (hren) SA rfl (by simp) rfl (inK_shift (by decide)) SK ?_
    refine WW ?_
    refine HereC.storeAgg T_ok rfl SS SS rfl SS SR rfl rfl SK ?_
    refine WW ?_
    refine RetM.two 1512 (by decide) SE rfl ?_ ?_
    · (simp only [go_sem, Nat.reduceMul, Nat.reduceLeDiff, Nat.reduceLT, reduceIte, reduceCtorEq, Nat.reduceEqDiff, Nat.reduceSub, Nat.reduceAdd]) <;> rfl
    · exact WW trivial
theorem l01Small_spec (bs : List Int) (hb : Bytes bs) (s : Int × Int) (hs : At bs s) : SpecM Tryz.prog 102 [.ptr 0 0] [srcS s, .ghost (BY bs)] (.agg [.own 2]) [some (srcS (drG bs nmsS s).2), none, some (.rows 27 2 (II (drG bs nmsS s).1))] := by
  obtain ⟨h1, h2, h3⟩ := nx_ok hb (nmsS.length : Nat) hs
  have h2' := h2 (by decide)
  have hk : (nx bs (nmsS.length : Nat) s).1.toNat < 7 := by have : (nmsS.length : Nat) = 7 := rfl; omega
  obtain ⟨hsome, hg, hsz⟩ := nmsS_fact _ hk
  obtain ⟨h4, h5, h6⟩ := nx_ok hb 2 h3
  have hn1 := hg.1
  have hn8 := hg.2.1
  obtain ⟨hp0, hat⟩ := drN_ok hb h6 hn1
  have hren := l01Renumbered_spec _ hg _ hp0
  refine SpecM.of_code' T_ok Tryz.func102 rfl Tryz.ntmps102 Tryz.call102 (Nat.le_of_ble_eq_true rfl) (Nat.le_of_ble_eq_true rfl) (Nat.le_of_ble_eq_true rfl) rfl rfl (CodeV_sound T_ok (by kernel_rfl) rfl ?_)
  refine WW ?_
  refine HereO.alloc T_ok 102 rfl rfl (by decide) ?_
  refine WW ?_
  refine HereO.buildRow T_ok 120 (SV_ nmsS) rfl rfl rfl (by decide) rfl rfl rfl (by decide) ?_
  refine WW ?_
  refine HereO.callM T_ok 21 [0,1] rfl rfl (l01Next_spec bs hb (nmsS.length : Nat) s hs) SC rfl (by decide) (by decide) rfl rfl rfl (Nat.le_of_ble_eq_true rfl) ?_
  refine WW ?_
  refine ⟨⟨h1, h2'⟩, hk, ?_⟩
  rw [dvSV (l := nmsS) (k := (nx bs (nmsS.length : Nat) s).1.toNat) (show _ < nmsS.length from hk)]
  refine HereO.callOwn T_ok 30 rfl rfl (l01Named_spec (nmsS.getD (nx bs (nmsS.length : Nat) s).1.toNat ByteArray.empty) (by omega)) SA rfl (by simp) rfl ?_
  refine WW ?_
  refine HereO.alloc T_ok 104 rfl rfl (by decide) ?_
  refine WW ?_
  refine HereO.storeAgg T_ok rfl SS SS rfl SS SR rfl rfl ?_
  refine WW ?_
  refine HereO.callM T_ok 22 [0,1] rfl rfl (l01Next_spec bs hb 2 _ h3) SC rfl (by decide) (by decide) rfl rfl rfl (Nat.le_of_ble_eq_true rfl) ?_
  refine WW ?_
  refine ⟨fun h7 => ?_, fun h7 => ?_⟩
  · rw [drG0 h7]
    refine HereO.storeAgg T_ok rfl SS SS rfl SS SR rfl rfl ?_
    refine WW ?_
    refine RetM.two 1480 (by decide) SE rfl ?_ ?_
    · (simp only [go_sem, Nat.reduceMul, Nat.reduceLeDiff, Nat.reduceLT, reduceIte, reduceCtorEq, Nat.reduceEqDiff, Nat.reduceSub, Nat.reduceAdd]) <;> rfl
    · exact WW trivial
  · rw [drG1 h7]
    refine Here.drawC T_ok [.f, .f, .f, .f, .c, .c, .c] [0, 4] [1496, 1497, 1498, 1499, 1500, 1501, 1502, 1503, 1504, 1505, 1506, 1507, 1508, 1509, 1510, 1511, 1512, 1513, 1514, 1515, 1516, 1517, 1518, 1519, 1520, 1521, 1522, 1523, 1524, 1525, 1526, 1527] [104, 1480] (Nat.le_of_ble_eq_true rfl) mixed_ok (by kernel_rfl) (by kernel_rfl) (by kernel_rfl) (by simp only [List.mem_cons, List.not_mem_nil, or_false, forall_eq_or_imp, forall_eq, go_sem, Nat.reduceMul, Nat.reduceLeDiff, Nat.reduceLT, reduceIte, reduceCtorEq, Nat.reduceEqDiff, Nat.reduceSub, Nat.reduceAdd] <;> first | exact calm_ptr_ne rfl | exact calm_ne rfl | exact ⟨calm_ptr_ne rfl, calm_ptr_ne rfl⟩ | exact ⟨calm_ptr_ne rfl, calm_ptr_ne rfl, calm_ptr_ne rfl⟩ | exact ⟨calm_ptr_ne rfl, calm_knot (by simp only [go_sem, Nat.reduceMul, Nat.reduceLeDiff, Nat.reduceLT, reduceIte, reduceCtorEq, Nat.reduceEqDiff, Nat.reduceSub, Nat.reduceAdd] <;> exact calm_ptr_ne rfl)⟩ | ((repeat' apply And.intro) <;> first | exact calm_ptr_ne rfl | exact calm_ne rfl)) ?_
    refine WW ?_
    refine HereF.loadAgg T_ok (id := 104) (tt := 26) (c := [.own 1480]) rfl SS (by kernel_rfl) rfl (by decide) SS rfl (calm_agg1 (calm_ne rfl)) ?_
    refine WW ?_
    refine ⟨calm_ptr_ne rfl, ?_⟩
    refine HereF.loadAgg T_ok (id := 104) (tt := 26) (c := [.own 1480]) rfl SS (by kernel_rfl) rfl (by decide) SS rfl (calm_agg1 (calm_ne rfl)) ?_
    refine WW ?_
    refine ⟨_, fun σ hG => OpP.call' rfl rfl (l01N_spec (nmL (nmsS.getD (nx bs (nmsS.length : Nat) s).1.toNat ByteArray.empty))) (by have hq := hG 1480 (by decide); simp only [go_sem, Nat.reduceMul, Nat.reduceLeDiff, Nat.reduceLT, reduceIte, reduceCtorEq, Nat.reduceEqDiff, Nat.reduceSub, Nat.reduceAdd, List.toList_toArray, hq] <;> rfl) rfl, SW, ?_⟩
    refine WW ?_
    refine HereC.callM 31 [0, 1] rfl rfl (l01DrawNumbers_spec bs hb (nmL (nmsS.getD (nx bs (nmsS.length : Nat) s).1.toNat ByteArray.empty)).length hn1 (by omega) _ h6) SC rfl (by decide) (by decide) rfl rfl rfl (Nat.le_of_ble_eq_true rfl) (inK_shift rfl) (by simp only [keeps_cons, keeps_nil', go_sem, Nat.reduceMul, Nat.reduceLeDiff, Nat.reduceLT, reduceIte, reduceCtorEq, Nat.reduceEqDiff, Nat.reduceSub, Nat.reduceAdd] <;> exact ⟨rfl, rfl⟩) ?_
    refine WW ?_
    refine HereC.callOwn 32 rfl rfl (hren) SA rfl (by simp) rfl (inK_shift (by decide)) SK ?_
    refine WW ?_
    refine HereC.storeAgg T_ok rfl SS SS rfl SS SR rfl rfl SK ?_
    refine WW ?_
    refine RetM.two 1512 (by decide) SE rfl ?_ ?_
    · (simp only [go_sem, Nat.reduceMul, Nat.reduceLeDiff, Nat.reduceLT, reduceIte, reduceCtorEq, Nat.reduceEqDiff, Nat.reduceSub, Nat.reduceAdd]) <;> rfl
    · exact WW trivial
theorem dr_grp {t : List (List Int)} (h : Grp t) : Dr t := ⟨h.1, h.2.1, fun a ha => (h.2.2.1 a ha).1⟩
theorem dr_tab (F : Nat → Nat → Int) {n : Nat} (h1 : 1 ≤ n) (h8 : n ≤ 8) : Dr (tab F n n) := ⟨by rw [tab_len]; exact h1, by rw [tab_len]; exact h8, fun a ha => by
  rw [tab_len] at ha
  rw [tab_len]
  rw [tab_row ha, upTo_len]⟩
theorem drG_ok {bs : List Int} (hb : Bytes bs) {names : List ByteArray} (hl : 0 < names.length) (hf : ∀ k : Nat, k < names.length → Grp (nmL (names.getD k ByteArray.empty))) {s : Int × Int} (hs : At bs s) : Dr (drG bs names s).1 ∧ At bs (drG bs names s).2 := by
  obtain ⟨h1, h2, h3⟩ := nx_ok hb (names.length : Nat) hs
  have h2' := h2 (by omega)
  have hg := hf (nx bs (names.length : Nat) s).1.toNat (by omega)
  obtain ⟨h4, h5, h6⟩ := nx_ok hb 2 h3
  obtain ⟨hp0, hat⟩ := drN_ok hb h6 hg.1
  by_cases h7 : (nx bs 2 (nx bs names.length s).2).1 = 0
  · rw [drG0 h7]; exact ⟨dr_grp hg, h6⟩
  · rw [drG1 h7]; exact ⟨dr_tab _ hg.1 hg.2.1, hat⟩
end Go.Proofs.YtcjhojdlfnpgjaaGreat
namespace Go.Proofs.YtcjhojdlfnpgjaaGreat
open Go.RowKit
theorem RetM.threeA {T : TT} {results : Array ResultVar} {r : LV} {s : St} {rs : List LV} {a c : OC} (m : Nat) (hm : 3 ≤ m) (h : resLs T s results.toList = some rs) (h2 : tupL rs = ren (fun i => [0, 1, 2, m].getD i 0) r) (h3 : s.σ 0 = some (renO (fun i => [0, 1, 2, m].getD i 0) a)) (h5 : s.σ m = some (renO (fun i => [0, 1, 2, m].getD i 0) c)) : RetM T results 3 r [some a, none, none, some c] s :=
  ⟨rs, [0, 1, 2, m], h, h2, rfl, by simp; omega, fun i hi => (by
    match i, hi with
    | 0, _ => rfl
    | 1, _ => rfl
    | 2, _ => rfl), fun i oc hi => by
    match i with
    | 0 => simp [osO] at hi; subst hi; simpa using h3
    | 1 => simp [osO] at hi
    | 2 => simp [osO] at hi
    | 3 => simp [osO] at hi; subst hi; simpa using h5
    | i + 4 => simp [osO] at hi⟩
def badV (bs : List Int) (t : List (List Int)) (s : Int × Int) : List (List Int) × Int × Int :=
  if (nx bs 50 s).1 = 0 then ([], (nx bs 50 s).2)
  else if (nx bs 50 s).1 = 1 then (t.set (nx bs t.length (nx bs 50 s).2).1.toNat ((t.getD (nx bs t.length (nx bs 50 s).2).1.toNat []).set (nx bs t.length (nx bs t.length (nx bs 50 s).2).2).1.toNat (pk bs [0, 1, -1, t.length] (nx bs t.length (nx bs t.length (nx bs 50 s).2).2).2).1), (pk bs [0, 1, -1, t.length] (nx bs t.length (nx bs t.length (nx bs 50 s).2).2).2).2)
  else if (nx bs 50 s).1 = 2 then (t ++ [t.getD 0 []], (nx bs 50 s).2)
  else if (nx bs 50 s).1 = 3 then (t.set (nx bs t.length (nx bs 50 s).2).1.toNat ((t.getD (nx bs t.length (nx bs 50 s).2).1.toNat []).drop 1), (nx bs t.length (nx bs 50 s).2).2)
  else (t, (nx bs 50 s).2)
theorem bad0 {bs : List Int} {t : List (List Int)} {s : Int × Int} (h : (nx bs 50 s).1 = 0) : badV bs t s = ([], (nx bs 50 s).2) := by unfold badV; rw [if_pos h]
theorem bad1 {bs : List Int} {t : List (List Int)} {s : Int × Int} (h0 : ¬ (nx bs 50 s).1 = 0) (h : (nx bs 50 s).1 = 1) : badV bs t s = (t.set (nx bs t.length (nx bs 50 s).2).1.toNat ((t.getD (nx bs t.length (nx bs 50 s).2).1.toNat []).set (nx bs t.length (nx bs t.length (nx bs 50 s).2).2).1.toNat (pk bs [0, 1, -1, t.length] (nx bs t.length (nx bs t.length (nx bs 50 s).2).2).2).1), (pk bs [0, 1, -1, t.length] (nx bs t.length (nx bs t.length (nx bs 50 s).2).2).2).2) := by unfold badV; rw [if_neg h0, if_pos h]
theorem bad2 {bs : List Int} {t : List (List Int)} {s : Int × Int} (h0 : ¬ (nx bs 50 s).1 = 0) (h1 : ¬ (nx bs 50 s).1 = 1) (h : (nx bs 50 s).1 = 2) : badV bs t s = (t ++ [t.getD 0 []], (nx bs 50 s).2) := by unfold badV; rw [if_neg h0, if_neg h1, if_pos h]
theorem bad3 {bs : List Int} {t : List (List Int)} {s : Int × Int} (h0 : ¬ (nx bs 50 s).1 = 0) (h1 : ¬ (nx bs 50 s).1 = 1) (h2 : ¬ (nx bs 50 s).1 = 2) (h : (nx bs 50 s).1 = 3) : badV bs t s = (t.set (nx bs t.length (nx bs 50 s).2).1.toNat ((t.getD (nx bs t.length (nx bs 50 s).2).1.toNat []).drop 1), (nx bs t.length (nx bs 50 s).2).2) := by unfold badV; rw [if_neg h0, if_neg h1, if_neg h2, if_pos h]
theorem bad4 {bs : List Int} {t : List (List Int)} {s : Int × Int} (h0 : ¬ (nx bs 50 s).1 = 0) (h1 : ¬ (nx bs 50 s).1 = 1) (h2 : ¬ (nx bs 50 s).1 = 2) (h3 : ¬ (nx bs 50 s).1 = 3) : badV bs t s = (t, (nx bs 50 s).2) := by unfold badV; rw [if_neg h0, if_neg h1, if_neg h2, if_neg h3]
theorem II_setI (t : List (List Int)) (i : Nat) (r : List Int) : (II t).set i (I r) = II (t.set i r) := by simp [II, List.map_set]
theorem set_getD0 {t : List (List Int)} (h : 0 < t.length) : t.set 0 (t.getD 0 []) = t := by
  cases t with
  | nil => simp at h
  | cons r t => rfl
set_option maxHeartbeats 8000000 in
theorem l01Bad_spec (bs : List Int) (hb : Bytes bs) (t : List (List Int)) (hD : Dr t) (s : Int × Int) (hs : At bs s) : SpecM Tryz.prog 52 [.ptr 0 0, .agg [.own 2]] [srcS s, .ghost (BY bs), .rows 27 2 (II t)] (.agg [.own 3]) [some (srcS (badV bs t s).2), none, none, some (.frz (II (badV bs t s).1))] := by
  obtain ⟨hD1, hD8, hDr⟩ := hD
  obtain ⟨h1, h2, h3⟩ := nx_ok hb 50 hs
  obtain ⟨h4, h5, h6⟩ := nx_ok hb t.length h3
  have h5' := h5 (by omega)
  obtain ⟨h7, h8, h9⟩ := nx_ok hb t.length h6
  have h8' := h8 (by omega)
  have hrow := hDr (nx bs t.length (nx bs 50 s).2).1.toNat (by omega)
  refine SpecM.of_code' T_ok Tryz.func52 rfl Tryz.ntmps52 Tryz.call52 (Nat.le_of_ble_eq_true rfl) (Nat.le_of_ble_eq_true rfl) (Nat.le_of_ble_eq_true rfl) rfl rfl (Here.conv (Conv.moveAgg 1 50 (by decide) rfl rfl rfl) (CodeV_sound T_ok (by kernel_rfl) rfl ?_))
  refine WW ?_
  refine HereO.opP T_ok (OpP.boxP rfl rfl) ?_
  refine WW ?_
  refine HereO.alloc T_ok 104 rfl rfl (by decide) ?_
  refine WW ?_
  refine HereO.callOwn T_ok 30 rfl rfl (l01Copy_spec t hD8 (fun a ha => by rw [hDr a ha]; omega)) SA rfl (by simp) rfl ?_
  refine WW ?_
  refine HereO.alloc T_ok 105 rfl rfl (by decide) ?_
  refine WW ?_
  refine HereO.storeAgg T_ok rfl SS SS rfl SS SR rfl rfl ?_
  refine WW ?_
  refine HereO.callM T_ok 20 [0,1] rfl rfl (l01Next_spec bs hb 50 s hs) SC rfl (by decide) (by decide) rfl rfl rfl (Nat.le_of_ble_eq_true rfl) ?_
  refine WW ?_
  refine ⟨fun h10 => ?_, fun h10 => ⟨fun h11 => ?_, fun h11 => ⟨fun h12 => ?_, fun h12 => ⟨fun h13 => ?_, fun h13 => ?_⟩⟩⟩⟩
  · rw [bad0 h10]
    refine HereO.opP T_ok (OpP.build built_26 rfl rfl rfl rfl) ?_
    refine WW ?_
    refine HereO.conv (Conv.nilAt 14 60 (.rows 27 2 []) (by decide) rfl) ?_
    refine HereO.conv (Conv.frz (id := 60) (e := 27) (e' := 2) (t := []) rfl) ?_
    refine WW ?_
    refine HereO.storeAgg T_ok rfl SS SS rfl SS SR rfl rfl ?_
    refine WW ?_
    refine RetM.threeA 60 (by decide) SE rfl ?_ ?_
    · (simp only [go_sem, Nat.reduceMul, Nat.reduceLeDiff, Nat.reduceLT, reduceIte, reduceCtorEq, Nat.reduceEqDiff, Nat.reduceSub, Nat.reduceAdd]) <;> rfl
    · (simp only [go_sem, Nat.reduceMul, Nat.reduceLeDiff, Nat.reduceLT, reduceIte, reduceCtorEq, Nat.reduceEqDiff, Nat.reduceSub, Nat.reduceAdd]) <;> rfl
  · rw [bad1 h10 h11]
    refine Here.drawC T_ok [.f, .f, .f, .f, .f, .c, .p, .c, .p] [0, 3, 5] [1336, 1337, 1338, 1339, 1340, 1341, 1342, 1343, 1344, 1345, 1346, 1347, 1348, 1349, 1350, 1351, 70] [105, 50] (Nat.le_of_ble_eq_true rfl) mixed_ok (by kernel_rfl) (by kernel_rfl) (by kernel_rfl) (by simp only [List.mem_cons, List.not_mem_nil, or_false, forall_eq_or_imp, forall_eq, go_sem, Nat.reduceMul, Nat.reduceLeDiff, Nat.reduceLT, reduceIte, reduceCtorEq, Nat.reduceEqDiff, Nat.reduceSub, Nat.reduceAdd] <;> first | exact calm_ptr_ne rfl | exact calm_ne rfl | exact ⟨calm_ptr_ne rfl, calm_ptr_ne rfl⟩ | exact ⟨calm_ptr_ne rfl, calm_ptr_ne rfl, calm_ptr_ne rfl⟩ | exact ⟨calm_ptr_ne rfl, calm_knot (by simp only [go_sem, Nat.reduceMul, Nat.reduceLeDiff, Nat.reduceLT, reduceIte, reduceCtorEq, Nat.reduceEqDiff, Nat.reduceSub, Nat.reduceAdd] <;> exact calm_ptr_ne rfl)⟩ | ((repeat' apply And.intro) <;> first | exact calm_ptr_ne rfl | exact calm_ne rfl)) ?_
    refine WW ?_
    refine ⟨calm_ptr_ne rfl, ?_⟩
    refine HereF.load T_ok (id := 105) (tt := 26) (c := [.own 1480]) (off := 0) (y := .own 1480) rfl SS (by kernel_rfl) rfl (by decide) SS rfl (by first | exact calm_ne rfl | simp only [go_sem, Nat.reduceMul, Nat.reduceLeDiff, Nat.reduceLT, reduceIte, reduceCtorEq, Nat.reduceEqDiff, Nat.reduceSub, Nat.reduceAdd]) ?_
    refine WW ?_
    refine ⟨calm_ptr_ne rfl, calm_ne rfl, ?_⟩
    refine ⟨_, fun σ hG => OpP.call' rfl rfl (l01N_spec t) (by have hq := hG 50 (by decide); simp only [go_sem, Nat.reduceMul, Nat.reduceLeDiff, Nat.reduceLT, reduceIte, reduceCtorEq, Nat.reduceEqDiff, Nat.reduceSub, Nat.reduceAdd, List.toList_toArray, hq] <;> rfl) rfl, SW, ?_⟩
    refine WW ?_
    refine HereC.callM 21 [0, 1] rfl rfl (l01Next_spec bs hb t.length _ h3) SC rfl (by decide) (by decide) rfl rfl rfl (Nat.le_of_ble_eq_true rfl) (inK_shift rfl) SK ?_
    refine WW ?_
    refine ⟨⟨h4, h5'⟩, ?_⟩
    refine HereC.openRow T_ok 70 (i := (nx bs t.length (nx bs 50 s).2).1.toNat) rfl SS SS rfl (by rw [II_len]; omega) (by decide) (by decide) rfl SK ?_
    refine WW ?_
    refine Here.drawC T_ok [.f, .f, .f, .f, .c, .f, .f, .f, .f, .c] [6, 0, 3] [1352, 1353, 1354, 1355, 1356, 1357, 1358, 1359, 1360, 1361, 1362, 1363, 1364, 1365, 1366, 1367, 1368, 1369, 1370, 1371, 1372, 1373, 1374, 1375, 1376, 1377, 1378, 1379, 1380, 1381, 1382, 1383] [50] (Nat.le_of_ble_eq_true rfl) mixed_ok (by kernel_rfl) (by kernel_rfl) (by kernel_rfl) (by simp only [List.mem_cons, List.not_mem_nil, or_false, forall_eq_or_imp, forall_eq, go_sem, Nat.reduceMul, Nat.reduceLeDiff, Nat.reduceLT, reduceIte, reduceCtorEq, Nat.reduceEqDiff, Nat.reduceSub, Nat.reduceAdd] <;> first | exact calm_ptr_ne rfl | exact calm_ne rfl | exact ⟨calm_ptr_ne rfl, calm_ptr_ne rfl⟩ | exact ⟨calm_ptr_ne rfl, calm_ptr_ne rfl, calm_ptr_ne rfl⟩ | exact ⟨calm_ptr_ne rfl, calm_knot (by simp only [go_sem, Nat.reduceMul, Nat.reduceLeDiff, Nat.reduceLT, reduceIte, reduceCtorEq, Nat.reduceEqDiff, Nat.reduceSub, Nat.reduceAdd] <;> exact calm_ptr_ne rfl)⟩ | ((repeat' apply And.intro) <;> first | exact calm_ptr_ne rfl | exact calm_ne rfl)) ?_
    refine WW ?_
    refine ⟨calm_ne rfl, calm_ptr_ne rfl, calm_ne rfl, ?_⟩
    refine ⟨_, fun σ hG => OpP.call' rfl rfl (l01N_spec t) (by have hq := hG 50 (by decide); simp only [go_sem, Nat.reduceMul, Nat.reduceLeDiff, Nat.reduceLT, reduceIte, reduceCtorEq, Nat.reduceEqDiff, Nat.reduceSub, Nat.reduceAdd, List.toList_toArray, hq] <;> rfl) rfl, SW, ?_⟩
    refine WW ?_
    refine HereC.callM 22 [0, 1] rfl rfl (l01Next_spec bs hb t.length _ h6) SC rfl (by decide) (by decide) rfl rfl rfl (Nat.le_of_ble_eq_true rfl) (inK_shift rfl) SK ?_
    refine WW ?_
    refine ⟨calm_ptr_ne rfl, calm_ne rfl, ?_⟩
    refine ⟨_, fun σ hG => OpP.call' rfl rfl (l01N_spec t) (by have hq := hG 50 (by decide); simp only [go_sem, Nat.reduceMul, Nat.reduceLeDiff, Nat.reduceLT, reduceIte, reduceCtorEq, Nat.reduceEqDiff, Nat.reduceSub, Nat.reduceAdd, List.toList_toArray, hq] <;> rfl) rfl, SW, ?_⟩
    refine WW ?_
    refine ⟨_, fun _ _ => OpP.buildRd T_ok (I [0, 1, -1, (t.length : Int)]) rfl rfl rfl (by decide) rfl SS rfl, SW, ?_⟩
    refine WW ?_
    refine HereC.callM 23 [0, 1] rfl rfl (l01Pick_spec bs hb [0, 1, -1, (t.length : Int)] ⟨by simp, by simp⟩ _ h9) SC rfl (by decide) (by decide) rfl rfl rfl (Nat.le_of_ble_eq_true rfl) (inK_shift rfl) SK ?_
    refine WW ?_
    refine ⟨⟨h7, by rw [hrow]; exact h8'⟩, ?_⟩
    refine HereO.storeRow T_ok (vs := I (t.getD (nx bs t.length (nx bs 50 s).2).1.toNat [])) (u := .int .i64 (pk bs [0, 1, -1, t.length] (nx bs t.length (nx bs t.length (nx bs 50 s).2).2).2).1) rfl SS SS rfl SS rfl (by rw [I_len]; omega) ?_
    refine WW ?_
    rw [I_set]
    refine HereO.conv (Conv.shut 70 (id := 1480) (e := 27) (e' := 2) (i := (nx bs t.length (nx bs 50 s).2).1.toNat) (tt := II t) (vs := I ((t.getD (nx bs t.length (nx bs 50 s).2).1.toNat []).set (nx bs t.length (nx bs t.length (nx bs 50 s).2).2).1.toNat (pk bs [0, 1, -1, t.length] (nx bs t.length (nx bs t.length (nx bs 50 s).2).2).2).1)) (by decide) rfl rfl) ?_
    rw [II_setI]
    refine HereO.conv (Conv.frz (id := 1480) (e := 27) (e' := 2) (t := II (t.set (nx bs t.length (nx bs 50 s).2).1.toNat ((t.getD (nx bs t.length (nx bs 50 s).2).1.toNat []).set (nx bs t.length (nx bs t.length (nx bs 50 s).2).2).1.toNat (pk bs [0, 1, -1, t.length] (nx bs t.length (nx bs t.length (nx bs 50 s).2).2).2).1))) rfl) ?_
    refine WW ?_
    refine HereO.storeAgg T_ok rfl SS SS rfl SS SR rfl rfl ?_
    refine WW ?_
    refine RetM.threeA 1480 (by decide) SE rfl ?_ ?_
    · (simp only [go_sem, Nat.reduceMul, Nat.reduceLeDiff, Nat.reduceLT, reduceIte, reduceCtorEq, Nat.reduceEqDiff, Nat.reduceSub, Nat.reduceAdd]) <;> rfl
    · exact WW trivial
  · rw [bad2 h10 h11 h12]
    refine Here.drawC T_ok [.f, .f, .f, .f, .p, .c, .c, .c] [5] [1384, 1385, 1386, 1387, 1388, 1389, 1390, 1391, 1392, 1393, 1394, 1395, 1396, 1397, 1398, 1399, 70, 80] [105] (Nat.le_of_ble_eq_true rfl) mixed_ok (by kernel_rfl) (by kernel_rfl) (by kernel_rfl) (by simp only [List.mem_cons, List.not_mem_nil, or_false, forall_eq_or_imp, forall_eq, go_sem, Nat.reduceMul, Nat.reduceLeDiff, Nat.reduceLT, reduceIte, reduceCtorEq, Nat.reduceEqDiff, Nat.reduceSub, Nat.reduceAdd] <;> first | exact calm_ptr_ne rfl | exact calm_ne rfl | exact ⟨calm_ptr_ne rfl, calm_ptr_ne rfl⟩ | exact ⟨calm_ptr_ne rfl, calm_ptr_ne rfl, calm_ptr_ne rfl⟩ | exact ⟨calm_ptr_ne rfl, calm_knot (by simp only [go_sem, Nat.reduceMul, Nat.reduceLeDiff, Nat.reduceLT, reduceIte, reduceCtorEq, Nat.reduceEqDiff, Nat.reduceSub, Nat.reduceAdd] <;> exact calm_ptr_ne rfl)⟩ | ((repeat' apply And.intro) <;> first | exact calm_ptr_ne rfl | exact calm_ne rfl)) ?_
    refine WW ?_
    refine ⟨calm_ptr_ne rfl, ?_⟩
    refine HereF.load T_ok (id := 105) (tt := 26) (c := [.own 1480]) (off := 0) (y := .own 1480) rfl SS (by kernel_rfl) rfl (by decide) SS rfl (by first | exact calm_ne rfl | simp only [go_sem, Nat.reduceMul, Nat.reduceLeDiff, Nat.reduceLT, reduceIte, reduceCtorEq, Nat.reduceEqDiff, Nat.reduceSub, Nat.reduceAdd]) ?_
    refine WW ?_
    refine ⟨calm_ptr_ne rfl, ?_⟩
    refine HereF.load T_ok (id := 105) (tt := 26) (c := [.own 1480]) (off := 0) (y := .own 1480) rfl SS (by kernel_rfl) rfl (by decide) SS rfl (by first | exact calm_ne rfl | simp only [go_sem, Nat.reduceMul, Nat.reduceLeDiff, Nat.reduceLT, reduceIte, reduceCtorEq, Nat.reduceEqDiff, Nat.reduceSub, Nat.reduceAdd]) ?_
    refine WW ?_
    refine ⟨⟨by omega, by omega⟩, ?_⟩
    refine HereC.openRow T_ok 70 (i := 0) rfl SS SS rfl (by rw [II_len]; omega) (by decide) (by decide) rfl SK ?_
    refine WW ?_
    refine HereC.callOwn 24 rfl rfl (ownR_spec (t.getD 0 []) (by rw [hDr 0 (by omega)]; omega)) SA rfl (by simp) rfl (inK_shift (by decide)) SK ?_
    refine WW ?_
    refine HereC.buildRowL T_ok 80 [.own 1384] rfl rfl rfl (by decide) rfl SS rfl (by decide) SS rfl SK ?_
    refine WW ?_
    refine HereO.conv (Conv.shut 70 (id := 1480) (e := 27) (e' := 2) (i := 0) (tt := II t) (vs := I (t.getD 0 [])) (by decide) rfl rfl) ?_
    rw [II_setI, set_getD0 (by omega)]
    refine WW ?_
    refine HereO.appendRows T_ok (id := 1480) (j := 80) (i := 1384) rfl rfl (by decide) SS (by decide) SS SS SS SS (by decide) (by decide) (by rw [II_len]; omega) ?_
    refine WW ?_
    refine HereO.store T_ok rfl SS SS rfl SS rfl SR (Nat.le_of_ble_eq_true rfl) ?_
    refine WW ?_
    rw [show II t ++ [I (t.getD 0 [])] = II (t ++ [t.getD 0 []]) by simp [II]]
    refine HereO.conv (Conv.frz (id := 1480) (e := 27) (e' := 2) (t := II (t ++ [t.getD 0 []])) rfl) ?_
    refine WW ?_
    refine HereO.storeAgg T_ok rfl SS SS rfl SS SR rfl rfl ?_
    refine WW ?_
    refine RetM.threeA 1480 (by decide) SE rfl ?_ ?_
    · (simp only [go_sem, Nat.reduceMul, Nat.reduceLeDiff, Nat.reduceLT, reduceIte, reduceCtorEq, Nat.reduceEqDiff, Nat.reduceSub, Nat.reduceAdd]) <;> rfl
    · exact WW trivial
  · rw [bad3 h10 h11 h12 h13]
    refine HereO.call T_ok rfl rfl (l01N_spec t) SA rfl ?_
    refine WW ?_
    refine HereO.callM T_ok 21 [0,1] rfl rfl (l01Next_spec bs hb t.length _ h3) SC rfl (by decide) (by decide) rfl rfl rfl (Nat.le_of_ble_eq_true rfl) ?_
    refine WW ?_
    refine Here.drawC T_ok [.f, .f, .f, .f, .f, .f, .p, .c, .p] [5, 7] [70] [105] (Nat.le_of_ble_eq_true rfl) mixed_ok (by kernel_rfl) (by kernel_rfl) (by kernel_rfl) (by simp only [List.mem_cons, List.not_mem_nil, or_false, forall_eq_or_imp, forall_eq, go_sem, Nat.reduceMul, Nat.reduceLeDiff, Nat.reduceLT, reduceIte, reduceCtorEq, Nat.reduceEqDiff, Nat.reduceSub, Nat.reduceAdd] <;> first | exact calm_ptr_ne rfl | exact calm_ne rfl | exact ⟨calm_ptr_ne rfl, calm_ptr_ne rfl⟩ | exact ⟨calm_ptr_ne rfl, calm_ptr_ne rfl, calm_ptr_ne rfl⟩ | exact ⟨calm_ptr_ne rfl, calm_knot (by simp only [go_sem, Nat.reduceMul, Nat.reduceLeDiff, Nat.reduceLT, reduceIte, reduceCtorEq, Nat.reduceEqDiff, Nat.reduceSub, Nat.reduceAdd] <;> exact calm_ptr_ne rfl)⟩ | ((repeat' apply And.intro) <;> first | exact calm_ptr_ne rfl | exact calm_ne rfl)) ?_
    refine WW ?_
    refine ⟨calm_ptr_ne rfl, ?_⟩
    refine HereF.load T_ok (id := 105) (tt := 26) (c := [.own 1480]) (off := 0) (y := .own 1480) rfl SS (by kernel_rfl) rfl (by decide) SS rfl (by first | exact calm_ne rfl | simp only [go_sem, Nat.reduceMul, Nat.reduceLeDiff, Nat.reduceLT, reduceIte, reduceCtorEq, Nat.reduceEqDiff, Nat.reduceSub, Nat.reduceAdd]) ?_
    refine WW ?_
    refine ⟨calm_ptr_ne rfl, ?_⟩
    refine HereF.load T_ok (id := 105) (tt := 26) (c := [.own 1480]) (off := 0) (y := .own 1480) rfl SS (by kernel_rfl) rfl (by decide) SS rfl (by first | exact calm_ne rfl | simp only [go_sem, Nat.reduceMul, Nat.reduceLeDiff, Nat.reduceLT, reduceIte, reduceCtorEq, Nat.reduceEqDiff, Nat.reduceSub, Nat.reduceAdd]) ?_
    refine WW ?_
    refine ⟨⟨h4, h5'⟩, ?_⟩
    refine HereC.openRow T_ok 70 (i := (nx bs t.length (nx bs 50 s).2).1.toNat) rfl SS SS rfl (by rw [II_len]; omega) (by decide) (by decide) rfl SK ?_
    refine WW ?_
    refine ⟨_, OpP.sliceOwn T_ok (vs := I (t.getD (nx bs t.length (nx bs 50 s).2).1.toNat [])) 1 (t.getD (nx bs t.length (nx bs 50 s).2).1.toNat []).length rfl rfl SS SS ⟨.i64, rfl⟩ (I_len _).symm (by omega) (by rw [I_len]; exact Nat.le_refl _), ?_⟩
    refine WW ?_
    refine HereO.opP T_ok (OpP.indexHole T_ok rfl rfl rfl rfl rfl h4 (by rw [II_len]; exact h5')) ?_
    refine WW ?_
    refine HereO.storeCut T_ok (id := 1480) (j := 70) (i := (nx bs t.length (nx bs 50 s).2).1.toNat) (c := 1) (m := (t.getD (nx bs t.length (nx bs 50 s).2).1.toNat []).length - 1) (vs := I (t.getD (nx bs t.length (nx bs 50 s).2).1.toNat [])) rfl SS SS rfl SS SS (by decide) (by rw [I_len]; omega) ?_
    refine WW ?_
    refine HereO.storeAgg T_ok rfl SS SS rfl SS SR rfl rfl ?_
    refine WW ?_
    refine RetM.threeA 1480 (by decide) SE rfl ?_ ?_
    · (simp only [go_sem, Nat.reduceMul, Nat.reduceLeDiff, Nat.reduceLT, reduceIte, reduceCtorEq, Nat.reduceEqDiff, Nat.reduceSub, Nat.reduceAdd]) <;> rfl
    · refine WW ?_
      rw [show (I (t.getD (nx bs t.length (nx bs 50 s).2).1.toNat [])).drop 1 = I ((t.getD (nx bs t.length (nx bs 50 s).2).1.toNat []).drop 1) by simp [I, List.map_drop], II_setI]
  · rw [bad4 h10 h11 h12 h13]
    refine HereO.conv (Conv.frz (id := 50) (e := 27) (e' := 2) (t := II t) rfl) ?_
    refine HereO.storeAgg T_ok rfl SS SS rfl SS SR rfl rfl ?_
    refine WW ?_
    refine RetM.threeA 50 (by decide) SE rfl ?_ ?_
    · (simp only [go_sem, Nat.reduceMul, Nat.reduceLeDiff, Nat.reduceLT, reduceIte, reduceCtorEq, Nat.reduceEqDiff, Nat.reduceSub, Nat.reduceAdd]) <;> rfl
    · exact WW trivial
def Sp (t : List (List Int)) : Prop := t.length ≤ 9 ∧ ∀ a, a < t.length → (t.getD a []).length ≤ 8
theorem badV_ok {bs : List Int} (hb : Bytes bs) {t : List (List Int)} (hD : Dr t) {s : Int × Int} (hs : At bs s) : Sp (badV bs t s).1 ∧ At bs (badV bs t s).2 := by
  obtain ⟨hD1, hD8, hDr⟩ := hD
  obtain ⟨h1, h2, h3⟩ := nx_ok hb 50 hs
  obtain ⟨h4, h5, h6⟩ := nx_ok hb t.length h3
  obtain ⟨h7, h8, h9⟩ := nx_ok hb t.length h6
  have hset : ∀ (i : Nat) (r : List Int), r.length ≤ 8 → Sp (t.set i r) := fun i r hr => ⟨by rw [List.length_set]; omega, fun a ha => by
    rw [List.length_set] at ha
    rw [List.getD_eq_getElem?_getD, List.getElem?_set]
    by_cases e : i = a
    · subst e; rw [if_pos rfl, if_pos ha]; exact hr
    · rw [if_neg e, ← List.getD_eq_getElem?_getD, hDr a ha]; exact hD8⟩
  by_cases e0 : (nx bs 50 s).1 = 0
  · rw [bad0 e0]; exact ⟨⟨by simp, fun a ha => by simp at ha⟩, h3⟩
  by_cases e1 : (nx bs 50 s).1 = 1
  · rw [bad1 e0 e1]
    refine ⟨hset _ _ ?_, (pk_ok hb (by simp) h9).2⟩
    rw [List.length_set, hDr _ (by have := h5 (by omega); omega)]; exact hD8
  by_cases e2 : (nx bs 50 s).1 = 2
  · rw [bad2 e0 e1 e2]
    refine ⟨⟨by simp; omega, fun a ha => ?_⟩, h3⟩
    simp only [List.length_append, List.length_cons, List.length_nil] at ha
    rw [List.getD_eq_getElem?_getD, List.getElem?_append]
    by_cases e : a < t.length
    · rw [if_pos e, ← List.getD_eq_getElem?_getD, hDr a e]; exact hD8
    · rw [if_neg e, show a - t.length = 0 by omega]
      simp only [List.getElem?_cons_zero, Option.getD_some]
      rw [hDr 0 (by omega)]; exact hD8
  by_cases e3 : (nx bs 50 s).1 = 3
  · rw [bad3 e0 e1 e2 e3]
    refine ⟨hset _ _ ?_, h6⟩
    rw [List.length_drop, hDr _ (by have := h5 (by omega); omega)]; omega
  · rw [bad4 e0 e1 e2 e3]
    exact ⟨⟨by dsimp only; omega, fun a ha => by dsimp only at ha ⊢; rw [hDr a ha]; exact hD8⟩, h3⟩
noncomputable def spV (bs : List Int) (s : Int × Int) : List (List Int) × Int × Int := badV bs (drG bs nms s).1 (drG bs nms s).2
theorem spV_ok {bs : List Int} (hb : Bytes bs) {s : Int × Int} (hs : At bs s) : Sp (spV bs s).1 ∧ At bs (spV bs s).2 := by
  obtain ⟨h1, h2⟩ := drG_ok hb (names := nms) (by decide) (fun k hk => (nms_fact k hk).2.1) hs
  exact badV_ok hb h1 h2
theorem l01Spoil_spec (bs : List Int) (hb : Bytes bs) (s : Int × Int) (hs : At bs s) : SpecM Tryz.prog 79 [.ptr 0 0] [srcS s, .ghost (BY bs)] (.agg [.own 2]) [some (srcS (spV bs s).2), none, some (.frz (II (spV bs s).1))] := by
  obtain ⟨h1, h2⟩ := drG_ok hb (names := nms) (by decide) (fun k hk => (nms_fact k hk).2.1) hs
  refine SpecM.of_code' T_ok Tryz.func79 rfl Tryz.ntmps79 Tryz.call79 (Nat.le_of_ble_eq_true rfl) (Nat.le_of_ble_eq_true rfl) (Nat.le_of_ble_eq_true rfl) rfl rfl (CodeV_sound T_ok (by kernel_rfl) rfl ?_)
  refine WW ?_
  refine HereO.alloc T_ok 102 rfl rfl (by decide) ?_
  refine WW ?_
  refine HereO.callM T_ok 21 [0,1] rfl rfl (l01Draw_spec bs hb s hs) SC rfl (by decide) (by decide) rfl rfl rfl (Nat.le_of_ble_eq_true rfl) ?_
  refine WW ?_
  refine HereO.callM T_ok 22 [0,1,1338] rfl rfl (l01Bad_spec bs hb (drG bs nms s).1 h1 (drG bs nms s).2 h2) SC rfl (by decide) (by decide) rfl rfl rfl (Nat.le_of_ble_eq_true rfl) ?_
  refine WW ?_
  refine HereO.storeAgg T_ok rfl SS SS rfl SS SR rfl rfl ?_
  refine WW ?_
  refine RetM.two 1355 (by decide) SE rfl ?_ ?_
  · (simp only [go_sem, Nat.reduceMul, Nat.reduceLeDiff, Nat.reduceLT, reduceIte, reduceCtorEq, Nat.reduceEqDiff, Nat.reduceSub, Nat.reduceAdd]) <;> rfl
  · (simp only [go_sem, Nat.reduceMul, Nat.reduceLeDiff, Nat.reduceLT, reduceIte, reduceCtorEq, Nat.reduceEqDiff, Nat.reduceSub, Nat.reduceAdd]) <;> rfl
end Go.Proofs.YtcjhojdlfnpgjaaGreat
