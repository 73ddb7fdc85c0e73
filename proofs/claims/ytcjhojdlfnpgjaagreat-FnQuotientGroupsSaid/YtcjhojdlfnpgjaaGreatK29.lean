/- Contracts: homomorphisms, found one behind the other. -/
import Derived.Test.YtcjhojdlfnpgjaaGreatK12
import Derived.Test.YtcjhojdlfnpgjaaGreatK17
import Derived.Test.YtcjhojdlfnpgjaaGreatK20
import Derived.Test.YtcjhojdlfnpgjaaGreatK16
set_option linter.unusedVariables false
set_option linter.unusedSimpArgs false
set_option maxRecDepth 100000
namespace Go.Proofs.YtcjhojdlfnpgjaaGreat
open Go.RowKit
def dfs (t u : List (List Int)) : Nat → List Int → List (List Int)
  | 0, l => [l]
  | k + 1, l => (List.range u.length).flatMap fun (a : Nat) => if Hom t u (l ++ [(a : Int)]) then dfs t u k (l ++ [(a : Int)]) else []
theorem flat_succ {α : Type} (f : Nat → List α) (i : Nat) : (List.range (i + 1)).flatMap f = (List.range i).flatMap f ++ f i := by
  rw [List.range_succ, List.flatMap_append]
  simp
theorem flatR_len {α : Type} {f : Nat → List α} {B : Nat} (h : ∀ a, (f a).length ≤ B) : ∀ i, ((List.range i).flatMap f).length ≤ i * B
  | 0 => by simp
  | i + 1 => by
    rw [flat_succ, List.length_append]
    have := flatR_len h i
    have := h i
    rw [Nat.succ_mul]
    omega
theorem dfs_len {t u : List (List Int)} (hu : u.length ≤ 8) : ∀ (k : Nat) (l : List Int), (dfs t u k l).length ≤ 8 ^ k
  | 0, l => by simp [dfs]
  | k + 1, l => by
    have h : ∀ a : Nat, (if Hom t u (l ++ [(a : Int)]) then dfs t u k (l ++ [(a : Int)]) else []).length ≤ 8 ^ k := fun a => by
      split
      · exact dfs_len hu k _
      · simp
    have h2 := flatR_len h u.length
    have h3 : u.length * 8 ^ k ≤ 8 * 8 ^ k := Nat.mul_le_mul_right _ hu
    rw [Nat.pow_succ]
    unfold dfs
    omega
theorem take_set_in {R l : List Int} {n : Nat} {x : Int} (h : R.take n = l) (hn : n < R.length) : (R.set n x).take (n + 1) = l ++ [x] := by
  rw [List.take_succ_eq_append_getElem (by simpa using hn)]
  simp [List.take_set_of_le, h]
theorem I_take (R : List Int) (n : Nat) : (I R).take n = I (R.take n) := by simp [I, List.map_take]
theorem areIn_snoc {m : Nat} {l : List Int} {a : Nat} (h : AreIn m l) (ha : a < m) : AreIn m (l ++ [(a : Int)]) := by
  intro j hj
  rw [List.getD_eq_getElem?_getD, List.getElem?_append]
  simp only [List.length_append, List.length_cons, List.length_nil] at hj
  by_cases e : j < l.length
  · rw [if_pos e]
    have := h j e
    rwa [List.getD_eq_getElem?_getD] at this
  · rw [if_neg e, show j - l.length = 0 by omega]
    simp
    omega
theorem homDo_spec (l : List Int) (outs : List (List Int)) (ho : outs.length + 1 ≤ 1099511627776) : SpecM Tryz.prog 55 [.own 0, .ptr 1 0] [.row 2 (I l), .cells 24 [.own 2], .rows 27 2 (II outs)] (.v (.bool true)) [none, some (.cells 24 [.own 3]), none, some (.rows 27 2 (II (outs ++ [l])))] := by
  refine SpecM.of_code' T_ok Tryz.func55 rfl Tryz.ntmps55 Tryz.call55 (Nat.le_of_ble_eq_true rfl) (Nat.le_of_ble_eq_true rfl) (Nat.le_of_ble_eq_true rfl) rfl rfl (Here.conv (Conv.moveIn (c := 1) (i := 2) 0 50 (by decide) (by decide) (by decide) rfl rfl rfl rfl) (CodeV_sound T_ok (by kernel_rfl) rfl ?_))
  refine WW ?_
  refine HereO.buildRowL T_ok 60 ([.own 0]) rfl rfl rfl (by decide) rfl SS rfl (by decide) SS ?_
  refine WW ?_
  refine HereO.appendRows T_ok (id := 50) (j := 60) (i := 0) rfl rfl (by decide) SS (by decide) SS SS SS SS (by decide) (by decide) SL ?_
  refine WW ?_
  refine HereO.store T_ok rfl SS SS rfl SS rfl SR (Nat.le_of_ble_eq_true rfl) ?_
  refine WW ?_
  refine RetM.three' 50 (by decide) SE rfl ?_ ?_
  · refine WW ?_
    rfl
  · refine WW ?_
    rw [II_append]
def capsH (t u : List (List Int)) : List LV := [.box [.rds (II t)], .box [.fn 55 [.ptr 1 0]], .box [.rds (II u)]]
def HomsS (t u : List (List Int)) (k : Nat) : Prop := ∀ (n : Nat) (l R : List Int) (outs : List (List Int)), l.length = n → n + k = t.length → R.length = t.length → R.take n = l → AreIn u.length l → outs.length + 8 ^ k ≤ 1099511627776 →
    SpecQ Tryz.prog 97 [.sub 0 0 n, .box [.rds (II t)], .box [.fn 55 [.ptr 1 0]], .box [.rds (II u)], knotX 97 (capsH t u) k] [.row 2 (I R), .cells 24 [.own 2], .rows 27 2 (II outs)] (κ := List Int) (fun _ => .v (.bool true)) (fun y => [some (.row 2 (I y)), some (.cells 24 [.own 3]), none, some (.rows 27 2 (II (outs ++ dfs t u k l)))]) (fun y => y.length = t.length ∧ y.take n = l)
theorem homs_zero (t u : List (List Int)) (ht : Grp t) (hu : Grp u) : HomsS t u 0 := by
  have h8 := ht.2.1
  have hu8 := hu.2.1
  intro n l R outs hn hk hR hRl hi ho
  have hRe : R = l := by rw [← hRl, List.take_of_length_le (by omega)]
  have hc : Spec Tryz.prog 63 [.rd (((I R).drop 0).take n)] (.own 0) [.row 2 (I l)] := by
    rw [List.drop_zero, I_take, hRl]
    exact Clone_spec l (by omega)
  have hdo := homDo_spec l outs (by simp at ho; omega)
  refine SpecQ.of_code T_ok Tryz.func97 rfl Tryz.ntmps97 Tryz.call97 (Nat.le_of_ble_eq_true rfl) (Nat.le_of_ble_eq_true rfl) (fun _ => rfl) (fun _ => rfl) (Here.conv (Conv.moveIn (c := 1) (i := 2) 0 50 (by decide) (by decide) (by decide) rfl rfl rfl rfl) (CodeV_sound T_ok (by kernel_rfl) rfl ?_))
  refine WW ?_
  refine HereO.opP T_ok (OpP.lenSub T_ok rfl rfl SS) ?_
  refine WW ?_
  refine HereO.call T_ok rfl rfl (order_spec t) SA rfl ?_
  refine WW ?_
  refine ⟨fun h => ?_, fun h => absurd h (by omega)⟩
  refine Here.drawC T_ok [.f, .p, .c] [2] [1256, 1257, 1258, 1259, 1260, 1261, 1262, 1263, 1264, 1265, 1266, 1267, 1268, 1269, 1270, 1271] [] (Nat.le_of_ble_eq_true rfl) mixed_ok (by kernel_rfl) (by kernel_rfl) (by kernel_rfl) (by simp only [List.mem_cons, List.not_mem_nil, or_false, forall_eq_or_imp, forall_eq, go_sem, Nat.reduceMul, Nat.reduceLeDiff, Nat.reduceLT, reduceIte, reduceCtorEq, Nat.reduceEqDiff, Nat.reduceSub, Nat.reduceAdd] <;> first | exact calm_ptr_ne rfl | exact calm_ne rfl | exact ⟨calm_ptr_ne rfl, calm_ptr_ne rfl⟩ | exact ⟨calm_ptr_ne rfl, calm_ptr_ne rfl, calm_ptr_ne rfl⟩ | exact ⟨calm_ptr_ne rfl, calm_knot (by simp only [go_sem, Nat.reduceMul, Nat.reduceLeDiff, Nat.reduceLT, reduceIte, reduceCtorEq, Nat.reduceEqDiff, Nat.reduceSub, Nat.reduceAdd] <;> exact calm_ptr_ne rfl)⟩ | ((repeat' apply And.intro) <;> first | exact calm_ptr_ne rfl | exact calm_ne rfl)) ?_
  refine WW ?_
  refine ⟨calm_ptr_ne rfl, ?_⟩
  refine HereC.callOwn 16 rfl rfl (hc) SA rfl (by simp) rfl (inK_shift (by decide)) SK ?_
  refine WW ?_
  refine HereO.callM T_ok 20 [1256,1,50] rfl rfl (hdo) SC rfl (by decide) (by decide) rfl rfl rfl (Nat.le_of_ble_eq_true rfl) ?_
  refine WW ?_
  refine RetQ.of R ⟨hR, hRl⟩ (RetM.three 1323 (by decide) SE rfl ?_ ?_ ?_)
  · exact WW trivial
  · refine WW ?_
    rfl
  · refine WW ?_
    rfl
theorem homs_succ (t u : List (List Int)) (ht : Grp t) (hu : Grp u) (k : Nat) (ih : HomsS t u k) : HomsS t u (k + 1) := by
  have h8 := ht.2.1
  have hu8 := hu.2.1
  intro n l R outs hn hk hR hRl hi ho
  rw [knot_succ]
  unfold capsH
  refine SpecQ.of_code T_ok Tryz.func97 rfl Tryz.ntmps97 Tryz.call97 (Nat.le_of_ble_eq_true rfl) (Nat.le_of_ble_eq_true rfl) (fun _ => rfl) (fun _ => rfl) (Here.conv (Conv.moveIn (c := 1) (i := 2) 0 50 (by decide) (by decide) (by decide) rfl rfl rfl rfl) (CodeV_sound T_ok (by kernel_rfl) rfl ?_))
  refine WW ?_
  refine HereO.opP T_ok (OpP.lenSub T_ok rfl rfl SS) ?_
  refine WW ?_
  refine HereO.call T_ok rfl rfl (order_spec t) SA rfl ?_
  refine WW ?_
  refine ⟨fun h => absurd h (by omega), fun _ => ?_⟩
  refine HereO.call T_ok rfl rfl (order_spec u) SA rfl ?_
  refine WW ?_
  refine Here.loopV T_ok (κ := Nat × List Int) (fun g => g.1 ≤ u.length ∧ g.2.length = t.length ∧ g.2.take n = l) (fun g => u.length - g.1) (fun g => [(0, .sub 0 0 n), (1, .box [.rds (II t)]), (3, .box [.rds (II u)]), (4, .box [.fn 97 [.box [.rds (II t)], .box [.fn 55 [.ptr 1 0]], .box [.rds (II u)], knotX 97 [.box [.rds (II t)], .box [.fn 55 [.ptr 1 0]], .box [.rds (II u)]] k]]), (19, .v (.int .i64 u.length)), (20, .v (.int .i64 g.1))]) (fun g => [(0, .row 2 (I g.2)), (1, .cells 24 [.own 50]), (50, .rows 27 2 (II (outs ++ (List.range g.1).flatMap fun (a : Nat) => if Hom t u (l ++ [(a : Int)]) then dfs t u k (l ++ [(a : Int)]) else [])))]) (0, R) ⟨by simp, hR, hRl⟩ (by simp only [go_sem, Nat.reduceMul, Nat.reduceLeDiff, Nat.reduceLT, reduceIte, reduceCtorEq, Nat.reduceEqDiff, Nat.reduceSub, Nat.reduceAdd]; simp) (by simp only [go_sem, Nat.reduceMul, Nat.reduceLeDiff, Nat.reduceLT, reduceIte, reduceCtorEq, Nat.reduceEqDiff, Nat.reduceSub, Nat.reduceAdd]; simp) ?_
  rintro ⟨a, R1⟩ ⟨h1, h2, h3⟩
  dsimp only at h1 h2 h3 ⊢
  refine WW ?_
  refine ⟨fun h4 => ?_, fun h4 => ?_⟩
  · refine HereO.buildRow T_ok 60 (I [a]) rfl rfl rfl (by decide) rfl SR rfl (by decide) ?_
    refine WW ?_
    refine HereO.appendSub T_ok (u := .int .i64 a) rfl rfl SS SS SS (.own 60 _ _ (by decide) SS) rfl (by rw [I_len]; omega) ?_
    refine WW ?_
    have hh : Spec Tryz.prog 42 [.agg [.rds (II t)], .agg [.rds (II u)], .rd ((((I R1).set n (.int .i64 a)).drop 0).take (n + 1))] (.v (.bool (decide (Hom t u (l ++ [(a : Int)]))))) [] := by
      rw [List.drop_zero, I_set, I_take, take_set_in h3 (by omega)]
      exact isHomomorphism_spec t u _ ht hu (by simp; omega) (areIn_snoc hi (by omega))
    refine HereO.call T_ok rfl rfl (hh) SA rfl ?_
    refine WW ?_
    have hfl : (((List.range a).flatMap fun (a : Nat) => if Hom t u (l ++ [(a : Int)]) then dfs t u k (l ++ [(a : Int)]) else [])).length ≤ a * 8 ^ k := flatR_len (fun a => by
      split
      · exact dfs_len hu8 k _
      · simp) a
    have hpw : (a + 1) * 8 ^ k ≤ 8 ^ (k + 1) := by
      rw [Nat.pow_succ, Nat.mul_comm]
      exact Nat.mul_le_mul_left _ (by omega)
    have hpw2 : (a + 1) * 8 ^ k = a * 8 ^ k + 8 ^ k := Nat.succ_mul _ _
    refine ⟨fun h5 => ?_, fun h5 => ?_⟩
    · have hc := ih (n + 1) (l ++ [(a : Int)]) (R1.set n a) (outs ++ (List.range a).flatMap fun (a : Nat) => if Hom t u (l ++ [(a : Int)]) then dfs t u k (l ++ [(a : Int)]) else []) (by simp; omega) (by omega) (by simpa using h2) (take_set_in h3 (by omega)) (areIn_snoc hi (by omega)) (by rw [List.length_append]; omega)
      unfold capsH at hc
      rw [I_set]
      refine HereO.callQC T_ok (x := fun _ => .bool true) 21 [0, 1, 50] rfl rfl hc SC rfl (by decide) (by decide) rfl (fun _ => rfl) (fun _ => Nat.le_of_ble_eq_true rfl) (fun y hy => Conv.moveIn (c := 1) (i := 1339) 0 50 (by decide) (by decide) (by decide) SS rfl SS rfl) ?_
      rintro y ⟨hy1, hy2⟩
      refine WW ?_
      refine ⟨by unfold InR; omega, (a + 1, y), ⟨by omega, hy1, ?_⟩, by dsimp only; omega, by push_cast; rfl, rfl, ?_⟩
      · have := congrArg (List.take n) hy2
        rw [List.take_take, Nat.min_eq_left (by omega), ← hn, List.take_left] at this
        rw [← hn]; exact this
      · rw [flat_succ, if_pos h5, List.append_assoc]
    · refine ⟨by unfold InR; omega, (a + 1, R1.set n a), ⟨by omega, by simpa using h2, by dsimp only; rw [List.take_set_of_le (Nat.le_refl _)]; exact h3⟩, by dsimp only; omega, by push_cast; rfl, by rw [I_set], ?_⟩
      rw [flat_succ, if_neg h5, List.append_nil]
  · obtain rfl : a = u.length := by omega
    refine RetQ.of R1 ⟨h2, h3⟩ (RetM.three 50 (by decide) SE rfl ?_ ?_ ?_)
    · exact WW trivial
    · refine WW ?_
      rfl
    · refine WW ?_
      rfl
theorem homs_spec (t u : List (List Int)) (ht : Grp t) (hu : Grp u) : ∀ k, HomsS t u k
  | 0 => homs_zero t u ht hu
  | k + 1 => homs_succ t u ht hu k (homs_spec t u ht hu k)
theorem homsAll_spec (t u : List (List Int)) (ht : Grp t) (hu : Grp u) : SpecM Tryz.prog 54 [.agg [.rds (II t)], .agg [.rds (II u)], .fn 55 [.ptr 0 0]] [.cells 24 [.own 1], .rows 27 2 (II [])] (.tup []) [some (.cells 24 [.own 2]), none, some (.rows 27 2 (II (dfs t u t.length [])))] := by
  have h8 := ht.2.1
  have hu8 := hu.2.1
  have hp8 : 8 ^ t.length ≤ 8 ^ 8 := Nat.pow_le_pow_right (by decide) h8
  have hc := homs_spec t u ht hu t.length 0 [] (List.replicate t.length 0) [] rfl (by omega) (by simp) (by simp) (fun j hj => by simp at hj) (by simp at hp8 ⊢; omega)
  unfold capsH at hc
  refine SpecM.of_code' T_ok Tryz.func54 rfl Tryz.ntmps54 Tryz.call54 (Nat.le_of_ble_eq_true rfl) (Nat.le_of_ble_eq_true rfl) (Nat.le_of_ble_eq_true rfl) rfl rfl (CodeV_sound T_ok (by kernel_rfl) rfl ?_)
  refine WW ?_
  refine HereO.alloc T_ok 120 rfl rfl (by decide) ?_
  refine WW ?_
  refine HereO.store T_ok rfl SS SS rfl SS rfl SR (Nat.le_of_ble_eq_true rfl) ?_
  refine WW ?_
  refine HereV.conv (Conv.knot (id := 120) (tt := 54) (g := 97) (caps := [.box [.rds (II t)], .box [.fn 55 [.ptr 0 0]], .box [.rds (II u)]]) 6 (t.length + 1) SW SW) ?_
  rw [knot_succ]
  refine Here.drawC T_ok [.f, .p, .p, .c] [6] [130] [] (Nat.le_of_ble_eq_true rfl) mixed_ok (by kernel_rfl) (by kernel_rfl) (by kernel_rfl) (by simp only [List.mem_cons, List.not_mem_nil, or_false, forall_eq_or_imp, forall_eq, go_sem, Nat.reduceMul, Nat.reduceLeDiff, Nat.reduceLT, reduceIte, reduceCtorEq, Nat.reduceEqDiff, Nat.reduceSub, Nat.reduceAdd] <;> first | exact calm_ptr_ne rfl | exact calm_ne rfl | exact ⟨calm_ptr_ne rfl, calm_ptr_ne rfl⟩ | exact ⟨calm_ptr_ne rfl, calm_ptr_ne rfl, calm_ptr_ne rfl⟩ | exact ⟨calm_ptr_ne rfl, calm_knot (by simp only [go_sem, Nat.reduceMul, Nat.reduceLeDiff, Nat.reduceLT, reduceIte, reduceCtorEq, Nat.reduceEqDiff, Nat.reduceSub, Nat.reduceAdd] <;> exact calm_ptr_ne rfl)⟩ | ((repeat' apply And.intro) <;> first | exact calm_ptr_ne rfl | exact calm_ne rfl)) ?_
  refine WW ?_
  refine ⟨⟨calm_ptr_ne rfl, calm_knot (by simp only [go_sem, Nat.reduceMul, Nat.reduceLeDiff, Nat.reduceLT, reduceIte, reduceCtorEq, Nat.reduceEqDiff, Nat.reduceSub, Nat.reduceAdd]; exact calm_ptr_ne rfl)⟩, ?_⟩
  refine ⟨_, OpP.call' rfl rfl (order_spec t) SA rfl, ?_⟩
  refine WW ?_
  refine HereC.makeSub T_ok (kk := .i64) (m := t.length) 130 rfl rfl SS SS (by omega) (by decide) (by decide) rfl (keeps_nil _ _) ?_
  refine WW ?_
  rw [I_rep]
  refine HereO.callQ T_ok 22 [130,0,1] rfl rfl (hc) SC rfl (by decide) (by decide) rfl (fun _ => rfl) (fun _ => rfl) (fun _ => Nat.le_of_ble_eq_true rfl) ?_
  rintro y ⟨hy1, hy2⟩
  refine WW ?_
  refine RetM.two 1355 (by decide) SE rfl ?_ ?_
  · refine WW ?_
    rfl
  · exact WW trivial
def homsR (t u : List (List Int)) : List (List Int) := if Grp t ∧ Grp u then dfs t u t.length [] else []
def codeG2 (t u : List (List Int)) : Int := if Grp t ∧ Grp u then 0 else 1
theorem HomomorphismsOf_spec (t u : List (List Int)) : Spec Tryz.prog 17 [.agg [.rds (II t)], .agg [.rds (II u)]] (.tup [.own 0, .v (.int .i64 (codeG2 t u))]) [.rows 27 2 (II (homsR t u))] := by
  unfold homsR codeG2
  refine Spec.of_codeC T_ok Tryz.func17 rfl Tryz.ntmps17 Tryz.call17 (Nat.le_of_ble_eq_true rfl) rfl rfl (CodeV_sound T_ok (by kernel_rfl) rfl ?_)
  refine WW ?_
  refine HereO.buildAggs T_ok 110 [.rds (II t), .rds (II u)] rfl rfl rfl (by decide) (by decide) rfl SS (by decide) rfl ?_
  refine WW ?_
  refine HereO.call T_ok rfl rfl (areGroups2_spec t u) SA rfl ?_
  refine WW ?_
  refine ⟨fun h => ?_, fun h => ?_⟩
  · rw [if_neg h, if_neg h]
    exact RetC.conv (Conv.nilAt 4 150 (.rows 27 2 []) (by decide) rfl) (RetC.of (RetT.one 150 SE (by simp only [go_sem, Nat.reduceMul, Nat.reduceLeDiff, Nat.reduceLT, reduceIte, reduceCtorEq, Nat.reduceEqDiff, Nat.reduceSub, Nat.reduceAdd] <;> simp) (by simp only [go_sem, Nat.reduceMul, Nat.reduceLeDiff, Nat.reduceLT, reduceIte, reduceCtorEq, Nat.reduceEqDiff, Nat.reduceSub, Nat.reduceAdd] <;> simp [II])))
  · rw [if_pos h, if_pos h]
    have hc := homsAll_spec t u h.1 h.2
    refine HereO.buildRow T_ok 120 (I []) rfl rfl rfl (by decide) rfl SR rfl (by decide) ?_
    refine WW ?_
    refine HereO.alloc T_ok 130 rfl rfl (by decide) ?_
    refine WW ?_
    refine HereO.store T_ok rfl SS SS rfl SS rfl SR (Nat.le_of_ble_eq_true rfl) ?_
    refine WW ?_
    refine HereO.conv (Conv.rows (id := 120) (e := 27) 2 0 SE) ?_
    refine HereO.callM T_ok 21 [130,120] rfl rfl (hc) SC rfl (by decide) (by decide) rfl rfl rfl (Nat.le_of_ble_eq_true rfl) ?_
    refine WW ?_
    exact RetC.of (RetT.one 1338 SE (by simp only [go_sem, Nat.reduceMul, Nat.reduceLeDiff, Nat.reduceLT, reduceIte, reduceCtorEq, Nat.reduceEqDiff, Nat.reduceSub, Nat.reduceAdd] <;> simp [I]) (by simp only [go_sem, Nat.reduceMul, Nat.reduceLeDiff, Nat.reduceLT, reduceIte, reduceCtorEq, Nat.reduceEqDiff, Nat.reduceSub, Nat.reduceAdd] <;> simp [I]))
end Go.Proofs.YtcjhojdlfnpgjaaGreat
namespace Go.Proofs.YtcjhojdlfnpgjaaGreat
open Go.RowKit
def HomD (t u : List (List Int)) (d : Bool) (l : List Int) (x : Nat) : Prop := Hom t u (l ++ [(x : Int)]) ∧ (d = true → ∀ a, a < l.length → l.getD a 0 ≠ (x : Int))
open Classical in
noncomputable def dfsD (t u : List (List Int)) (d : Bool) : Nat → List Int → List (List Int)
  | 0, l => [l]
  | k + 1, l => (List.range u.length).flatMap fun (a : Nat) => if HomD t u d l a then dfsD t u d k (l ++ [(a : Int)]) else []
theorem dfsD_len {t u : List (List Int)} {d : Bool} (hu : u.length ≤ 8) : ∀ (k : Nat) (l : List Int), (dfsD t u d k l).length ≤ 8 ^ k
  | 0, l => by simp [dfsD]
  | k + 1, l => by
    have h : ∀ a : Nat, (open Classical in if HomD t u d l a then dfsD t u d k (l ++ [(a : Int)]) else []).length ≤ 8 ^ k := fun a => by
      split
      · exact dfsD_len hu k _
      · simp
    have h2 := flatR_len h u.length
    have h3 : u.length * 8 ^ k ≤ 8 * 8 ^ k := Nat.mul_le_mul_right _ hu
    rw [Nat.pow_succ]
    unfold dfsD
    omega
theorem l01OwnB_spec (l : List Int) (hl : l.length ≤ 1099511627776) : Spec Tryz.prog 76 [.rd (I l)] (.own 0) [.row 2 (I l)] := by
  refine Spec.of_codeC T_ok Tryz.func76 rfl Tryz.ntmps76 Tryz.call76 (Nat.le_of_ble_eq_true rfl) rfl rfl (CodeV_sound T_ok (by kernel_rfl) rfl ?_)
  refine WW ?_
  refine HereO.buildRow T_ok 120 (I []) rfl rfl rfl (by decide) rfl SR rfl (by decide) ?_
  refine WW ?_
  refine HereO.append T_ok (I l) rfl rfl (by decide) SS (by decide) SS SS (.rd _) (I_one _) (by rw [I_len, I_len]; simpa using hl) ?_
  refine WW ?_
  exact RetC.of (RetT.one 120 SE (by simp only [go_sem, Nat.reduceMul, Nat.reduceLeDiff, Nat.reduceLT, reduceIte, reduceCtorEq, Nat.reduceEqDiff, Nat.reduceSub, Nat.reduceAdd] <;> simp [I]) (by simp only [go_sem, Nat.reduceMul, Nat.reduceLeDiff, Nat.reduceLT, reduceIte, reduceCtorEq, Nat.reduceEqDiff, Nat.reduceSub, Nat.reduceAdd] <;> simp [I]))
def CondA (t u : List (List Int)) (w : List Int) (a b : Nat) : Prop := ((w.length : Int) - 1 < ee t a b) ∨ w.getD (ee t a b).toNat 0 = ee u (w.getD a 0).toNat (w.getD b 0).toNat
def OkA (t u : List (List Int)) (d : Bool) (l : List Int) (x : Nat) (a : Nat) : Prop := (d = true → a ≠ l.length → (l ++ [(x : Int)]).getD a 0 ≠ x) ∧ ∀ b, b < l.length + 1 → CondA t u (l ++ [(x : Int)]) a b
theorem homD_iff {t u : List (List Int)} {d : Bool} {l : List Int} {x : Nat} : HomD t u d l x ↔ ∀ a, a < l.length + 1 → OkA t u d l x a := by
  have hl : (l ++ [(x : Int)]).length = l.length + 1 := by simp
  have hg : ∀ a, a < l.length → (l ++ [(x : Int)]).getD a 0 = l.getD a 0 := fun a ha => by
    rw [List.getD_eq_getElem?_getD, List.getD_eq_getElem?_getD, List.getElem?_append, if_pos ha]
  constructor
  · rintro ⟨h1, h2⟩ a ha
    refine ⟨fun hd hne => by rw [hg a (by omega)]; exact h2 hd a (by omega), fun b hb => ?_⟩
    unfold CondA
    by_cases e : ee t a b < ((l ++ [(x : Int)]).length : Int)
    · exact .inr (h1 a (by omega) b (by omega) e)
    · exact .inl (by omega)
  · intro h
    refine ⟨fun a ha b hb e => ?_, fun hd a ha => ?_⟩
    · rcases (h a (by omega)).2 b (by omega) with q | q
      · omega
      · exact q
    · have := (h a (by omega)).1 hd (by omega)
      rwa [hg a ha] at this
def SearchS (t u : List (List Int)) (d : Bool) (k : Nat) : Prop := ∀ l : List Int, l.length + k = t.length → AreIn u.length l →
    SpecM Tryz.prog 57 [.agg [.rds (II t)], .agg [.rds (II u)], .own 0, .v (.bool d)] [.row 2 (I l)] (.own 1) [none, some (.rows 27 2 (II (dfsD t u d k l)))]
theorem search_zero (t u : List (List Int)) (ht : Grp t) (hu : Grp u) (d : Bool) : SearchS t u d 0 := by
  have h8 := ht.2.1
  intro l hl hi
  refine SpecM.of_codeC T_ok Tryz.func57 rfl Tryz.ntmps57 Tryz.call57 (Nat.le_of_ble_eq_true rfl) (Nat.le_of_ble_eq_true rfl) (Nat.le_of_ble_eq_true rfl) rfl rfl (CodeV_sound T_ok (by kernel_rfl) rfl ?_)
  refine WW ?_
  refine HereO.call T_ok rfl rfl (l01N_spec t) SA rfl ?_
  refine WW ?_
  refine ⟨fun h => ?_, fun h => absurd h (by omega)⟩
  refine HereO.buildRowL T_ok 110 ([.own 0]) rfl rfl rfl (by decide) rfl SS rfl (by decide) SS ?_
  refine WW ?_
  refine RetMC.conv (Conv.oneRow (id := 110) (k := 0) (by decide) SE SE) (RetMC.of (RetM.one1 110 (by decide) SE rfl ?_))
  refine WW ?_
  rfl
set_option maxHeartbeats 4000000 in
theorem search_succ (t u : List (List Int)) (ht : Grp t) (hu : Grp u) (d : Bool) (k : Nat) (ih : SearchS t u d k) : SearchS t u d (k + 1) := by
  have h8 := ht.2.1
  have hu8 := hu.2.1
  intro l hl hi
  refine SpecM.of_code' T_ok Tryz.func57 rfl Tryz.ntmps57 Tryz.call57 (Nat.le_of_ble_eq_true rfl) (Nat.le_of_ble_eq_true rfl) (Nat.le_of_ble_eq_true rfl) rfl rfl (CodeV_sound T_ok (by kernel_rfl) rfl ?_)
  refine WW ?_
  refine HereO.call T_ok rfl rfl (l01N_spec t) SA rfl ?_
  refine WW ?_
  refine ⟨fun h => absurd h (by omega), fun _ => ?_⟩
  refine HereO.buildRow T_ok 120 (I []) rfl rfl rfl (by decide) rfl SR rfl (by decide) ?_
  refine WW ?_
  refine HereV.conv (Conv.rows (id := 120) (e := 27) 2 0 SE) ?_
  refine Here.loopV T_ok (κ := Nat) (fun x => x ≤ u.length) (fun x => u.length - x) (fun x => [(2, .own 0), (3, .v (.bool d)), (4, .box [.rds (II t)]), (5, .box [.rds (II u)]), (9, .v (.int .i64 l.length)), (10, .own 120), (11, .v (.int .i64 x))]) (fun x => [(0, .row 2 (I l)), (120, .rows 27 2 (II ((List.range x).flatMap fun (a : Nat) => open Classical in if HomD t u d l a then dfsD t u d k (l ++ [(a : Int)]) else [])))]) 0 (by simp) (by simp only [go_sem, Nat.reduceMul, Nat.reduceLeDiff, Nat.reduceLT, reduceIte, reduceCtorEq, Nat.reduceEqDiff, Nat.reduceSub, Nat.reduceAdd]; simp) (by simp only [go_sem, Nat.reduceMul, Nat.reduceLeDiff, Nat.reduceLT, reduceIte, reduceCtorEq, Nat.reduceEqDiff, Nat.reduceSub, Nat.reduceAdd]; simp [II]) ?_
  intro x hx
  refine WW ?_
  refine HereO.call T_ok rfl rfl (l01N_spec u) SA rfl ?_
  refine WW ?_
  refine ⟨fun h1 => ?_, fun h1 => ?_⟩
  · refine HereO.callOwn T_ok 30 rfl rfl (l01OwnB_spec l (by omega)) SA rfl (by simp) rfl ?_
    refine WW ?_
    refine HereO.buildRow T_ok 130 (I [x]) rfl rfl rfl (by decide) rfl SR rfl (by decide) ?_
    refine WW ?_
    refine HereO.append T_ok (I [x]) rfl rfl (by decide) SS (by decide) SS SS (.own 130 _ _ (by decide) SS) (I_one _) SL ?_
    refine WW ?_
    rw [I_append]
    obtain ⟨X, hX⟩ : ∃ X, X = ((List.range x).flatMap fun (a : Nat) => open Classical in if HomD t u d l a then dfsD t u d k (l ++ [(a : Int)]) else []) := ⟨_, rfl⟩
    rw [← hX]
    obtain ⟨w, hw⟩ : ∃ w, w = l ++ [(x : Int)] := ⟨_, rfl⟩
    have hwl : w.length = l.length + 1 := by rw [hw]; simp
    have hwi : AreIn u.length w := by rw [hw]; exact areIn_snoc hi (by omega)
    rw [← hw]
    have ht3 := ht.2.2.1
    have hu3 := hu.2.2.1
    refine Here.loopV T_ok (κ := Nat × Bool) (fun g => g.1 ≤ l.length + 1 ∧ (g.2 = true ↔ ∀ a, a < g.1 → OkA t u d l x a)) (fun g => l.length + 1 - g.1) (fun g => [(2, .own 0), (3, .v (.bool d)), (4, .box [.rds (II t)]), (5, .box [.rds (II u)]), (9, .v (.int .i64 l.length)), (10, .own 120), (11, .v (.int .i64 x)), (12, .own 1480), (13, .v (.bool g.2)), (14, .v (.int .i64 g.1))]) (fun g => [(0, .row 2 (I l)), (120, .rows 27 2 (II X)), (1480, .row 2 (I w))]) (0, true) ⟨by simp, by simp⟩ (by simp only [go_sem, Nat.reduceMul, Nat.reduceLeDiff, Nat.reduceLT, reduceIte, reduceCtorEq, Nat.reduceEqDiff, Nat.reduceSub, Nat.reduceAdd]; simp) SW ?_
    rintro ⟨a, g⟩ ⟨h2, h3⟩
    dsimp only at h2 h3 ⊢
    refine WW ?_
    refine ⟨fun h4 => ?_, fun h4 => ?_⟩
    · refine ⟨fun h4g => ?_, fun h4g => ?_⟩
      · have hexit : ∀ (g' : Bool) (b : Nat), (g' = true ↔ (d = true → a ≠ l.length → w.getD a 0 ≠ x) ∧ ∀ b', b' < b → CondA t u w a b') → (g' = false ∨ b = l.length + 1) → b ≤ l.length + 1 → (g' = true ↔ ∀ a', a' < a + 1 → OkA t u d l x a') := by
          intro g' b h6 h9 h5
          constructor
          · intro hg a' ha'
            by_cases e : a' = a
            · rw [e]
              unfold OkA
              rw [← hw]
              rcases h9 with h9 | h9
              · rw [hg] at h9; cases h9
              · rw [← h9]; exact h6.1 hg
            · exact (h3.1 h4g) a' (by omega)
          · intro hall
            have := hall a (by omega)
            unfold OkA at this
            rw [← hw] at this
            exact h6.2 ⟨this.1, fun b' hb' => this.2 b' (by omega)⟩
        refine ⟨fun h4d => ⟨fun h4e => ⟨⟨by omega, by omega⟩, by omega, ?_⟩, fun h4e => ?_⟩, fun h4d => ?_⟩
        · refine Here.loopV T_ok (κ := Nat × Bool) (fun g => g.1 ≤ l.length + 1 ∧ (g.2 = true ↔ (d = true → a ≠ l.length → w.getD a 0 ≠ x) ∧ ∀ b, b < g.1 → CondA t u w a b)) (fun g => l.length + 1 - g.1) (fun g => [(2, .own 0), (3, .v (.bool d)), (4, .box [.rds (II t)]), (5, .box [.rds (II u)]), (9, .v (.int .i64 l.length)), (10, .own 120), (11, .v (.int .i64 x)), (12, .own 1480), (13, .v (.bool g.2)), (14, .v (.int .i64 a)), (15, .v (.int .i64 g.1))]) (fun g => [(0, .row 2 (I l)), (120, .rows 27 2 (II X)), (1480, .row 2 (I w))]) (0, (w.getD a 0 != (x : Int))) ⟨by simp, by dsimp only; rw [bne_iff_ne]; exact ⟨fun q => ⟨fun _ _ => q, fun b hb => absurd hb (by omega)⟩, fun q => q.1 h4d (by omega)⟩⟩ (by simp only [go_sem, Nat.reduceMul, Nat.reduceLeDiff, Nat.reduceLT, reduceIte, reduceCtorEq, Nat.reduceEqDiff, Nat.reduceSub, Nat.reduceAdd]; simp) SW ?_
          rintro ⟨b, g'⟩ ⟨h5, h6⟩
          dsimp only at h5 h6 ⊢
          refine WW ?_
          refine ⟨fun h7 => ⟨fun h8 => ?_, fun h8 => ?_⟩, fun h7 => ?_⟩
          · have hta := ht3 a (by omega)
            have htb := hta.2 b (by omega)
            have hwa := hwi a (by omega)
            have hwb := hwi b (by omega)
            have hua := hu3 (w.getD a 0).toNat (by omega)
            have hub := hua.2 (w.getD b 0).toNat (by omega)
            unfold ee at htb hub
            refine ⟨⟨by omega, by omega⟩, ⟨by omega, by omega⟩, ?_⟩
            refine Here.draw T_ok mixed_ok (by kernel_rfl) ?_
            refine WW ?_
            have hst : ∀ r : Bool, (r = true ↔ CondA t u w a b) → (r = true ↔ (d = true → a ≠ l.length → w.getD a 0 ≠ x) ∧ ∀ b', b' < b + 1 → CondA t u w a b') := fun r hr => by
              constructor
              · intro q
                refine ⟨(h6.1 h8).1, fun b' hb' => ?_⟩
                by_cases e : b' = b
                · rw [e]; exact hr.1 q
                · exact (h6.1 h8).2 b' (by omega)
              · intro q; exact hr.2 (q.2 b (by omega))
            have hsub : ((w.length : Int) - 1) = l.length := by omega
            refine ⟨fun h10 => ?_, fun h10 => ⟨by unfold InR; omega, (b + 1, true), ⟨by dsimp only; omega, hst true ⟨fun _ => .inl (by unfold ee; omega), fun _ => rfl⟩⟩, by dsimp only; omega, rfl, by push_cast; rfl⟩⟩
            refine ⟨⟨by omega, by omega⟩, by omega, ⟨by omega, by omega⟩, by omega, ⟨by omega, by omega⟩, ⟨by omega, by omega⟩, by omega, ⟨by omega, by omega⟩, by unfold InR; omega, (b + 1, _), ⟨by dsimp only; omega, hst _ ?_⟩, by dsimp only; omega, rfl, by push_cast; rfl⟩
            rw [beq_iff_eq]
            unfold CondA ee
            constructor
            · intro q; exact .inr q
            · rintro (q | q)
              · omega
              · exact q
          · exact ⟨by unfold InR; omega, (a + 1, g'), ⟨by dsimp only; omega, hexit g' b h6 (.inl h8) h5⟩, by dsimp only; omega, rfl, by push_cast; rfl⟩
          · exact ⟨by unfold InR; omega, (a + 1, g'), ⟨by dsimp only; omega, hexit g' b h6 (.inr (by omega)) h5⟩, by dsimp only; omega, rfl, by push_cast; rfl⟩
        · refine Here.loopV T_ok (κ := Nat × Bool) (fun g => g.1 ≤ l.length + 1 ∧ (g.2 = true ↔ (d = true → a ≠ l.length → w.getD a 0 ≠ x) ∧ ∀ b, b < g.1 → CondA t u w a b)) (fun g => l.length + 1 - g.1) (fun g => [(2, .own 0), (3, .v (.bool d)), (4, .box [.rds (II t)]), (5, .box [.rds (II u)]), (9, .v (.int .i64 l.length)), (10, .own 120), (11, .v (.int .i64 x)), (12, .own 1480), (13, .v (.bool g.2)), (14, .v (.int .i64 a)), (15, .v (.int .i64 g.1))]) (fun g => [(0, .row 2 (I l)), (120, .rows 27 2 (II X)), (1480, .row 2 (I w))]) (0, true) ⟨by simp, ⟨fun _ => ⟨fun _ q => absurd q (by omega), fun b hb => absurd hb (by dsimp only; omega)⟩, fun _ => rfl⟩⟩ (by simp only [go_sem, Nat.reduceMul, Nat.reduceLeDiff, Nat.reduceLT, reduceIte, reduceCtorEq, Nat.reduceEqDiff, Nat.reduceSub, Nat.reduceAdd]; simp) SW ?_
          rintro ⟨b, g'⟩ ⟨h5, h6⟩
          dsimp only at h5 h6 ⊢
          refine WW ?_
          refine ⟨fun h7 => ⟨fun h8 => ?_, fun h8 => ?_⟩, fun h7 => ?_⟩
          · have hta := ht3 a (by omega)
            have htb := hta.2 b (by omega)
            have hwa := hwi a (by omega)
            have hwb := hwi b (by omega)
            have hua := hu3 (w.getD a 0).toNat (by omega)
            have hub := hua.2 (w.getD b 0).toNat (by omega)
            unfold ee at htb hub
            refine ⟨⟨by omega, by omega⟩, ⟨by omega, by omega⟩, ?_⟩
            refine Here.draw T_ok mixed_ok (by kernel_rfl) ?_
            refine WW ?_
            have hst : ∀ r : Bool, (r = true ↔ CondA t u w a b) → (r = true ↔ (d = true → a ≠ l.length → w.getD a 0 ≠ x) ∧ ∀ b', b' < b + 1 → CondA t u w a b') := fun r hr => by
              constructor
              · intro q
                refine ⟨(h6.1 h8).1, fun b' hb' => ?_⟩
                by_cases e : b' = b
                · rw [e]; exact hr.1 q
                · exact (h6.1 h8).2 b' (by omega)
              · intro q; exact hr.2 (q.2 b (by omega))
            have hsub : ((w.length : Int) - 1) = l.length := by omega
            refine ⟨fun h10 => ?_, fun h10 => ⟨by unfold InR; omega, (b + 1, true), ⟨by dsimp only; omega, hst true ⟨fun _ => .inl (by unfold ee; omega), fun _ => rfl⟩⟩, by dsimp only; omega, rfl, by push_cast; rfl⟩⟩
            refine ⟨⟨by omega, by omega⟩, by omega, ⟨by omega, by omega⟩, by omega, ⟨by omega, by omega⟩, ⟨by omega, by omega⟩, by omega, ⟨by omega, by omega⟩, by unfold InR; omega, (b + 1, _), ⟨by dsimp only; omega, hst _ ?_⟩, by dsimp only; omega, rfl, by push_cast; rfl⟩
            rw [beq_iff_eq]
            unfold CondA ee
            constructor
            · intro q; exact .inr q
            · rintro (q | q)
              · omega
              · exact q
          · exact ⟨by unfold InR; omega, (a + 1, g'), ⟨by dsimp only; omega, hexit g' b h6 (.inl h8) h5⟩, by dsimp only; omega, rfl, by push_cast; rfl⟩
          · exact ⟨by unfold InR; omega, (a + 1, g'), ⟨by dsimp only; omega, hexit g' b h6 (.inr (by omega)) h5⟩, by dsimp only; omega, rfl, by push_cast; rfl⟩
        · refine Here.loopV T_ok (κ := Nat × Bool) (fun g => g.1 ≤ l.length + 1 ∧ (g.2 = true ↔ (d = true → a ≠ l.length → w.getD a 0 ≠ x) ∧ ∀ b, b < g.1 → CondA t u w a b)) (fun g => l.length + 1 - g.1) (fun g => [(2, .own 0), (3, .v (.bool d)), (4, .box [.rds (II t)]), (5, .box [.rds (II u)]), (9, .v (.int .i64 l.length)), (10, .own 120), (11, .v (.int .i64 x)), (12, .own 1480), (13, .v (.bool g.2)), (14, .v (.int .i64 a)), (15, .v (.int .i64 g.1))]) (fun g => [(0, .row 2 (I l)), (120, .rows 27 2 (II X)), (1480, .row 2 (I w))]) (0, true) ⟨by simp, by simp [h4d]⟩ (by simp only [go_sem, Nat.reduceMul, Nat.reduceLeDiff, Nat.reduceLT, reduceIte, reduceCtorEq, Nat.reduceEqDiff, Nat.reduceSub, Nat.reduceAdd]; simp) SW ?_
          rintro ⟨b, g'⟩ ⟨h5, h6⟩
          dsimp only at h5 h6 ⊢
          refine WW ?_
          refine ⟨fun h7 => ⟨fun h8 => ?_, fun h8 => ?_⟩, fun h7 => ?_⟩
          · have hta := ht3 a (by omega)
            have htb := hta.2 b (by omega)
            have hwa := hwi a (by omega)
            have hwb := hwi b (by omega)
            have hua := hu3 (w.getD a 0).toNat (by omega)
            have hub := hua.2 (w.getD b 0).toNat (by omega)
            unfold ee at htb hub
            refine ⟨⟨by omega, by omega⟩, ⟨by omega, by omega⟩, ?_⟩
            refine Here.draw T_ok mixed_ok (by kernel_rfl) ?_
            refine WW ?_
            have hst : ∀ r : Bool, (r = true ↔ CondA t u w a b) → (r = true ↔ (d = true → a ≠ l.length → w.getD a 0 ≠ x) ∧ ∀ b', b' < b + 1 → CondA t u w a b') := fun r hr => by
              constructor
              · intro q
                refine ⟨(h6.1 h8).1, fun b' hb' => ?_⟩
                by_cases e : b' = b
                · rw [e]; exact hr.1 q
                · exact (h6.1 h8).2 b' (by omega)
              · intro q; exact hr.2 (q.2 b (by omega))
            have hsub : ((w.length : Int) - 1) = l.length := by omega
            refine ⟨fun h10 => ?_, fun h10 => ⟨by unfold InR; omega, (b + 1, true), ⟨by dsimp only; omega, hst true ⟨fun _ => .inl (by unfold ee; omega), fun _ => rfl⟩⟩, by dsimp only; omega, rfl, by push_cast; rfl⟩⟩
            refine ⟨⟨by omega, by omega⟩, by omega, ⟨by omega, by omega⟩, by omega, ⟨by omega, by omega⟩, ⟨by omega, by omega⟩, by omega, ⟨by omega, by omega⟩, by unfold InR; omega, (b + 1, _), ⟨by dsimp only; omega, hst _ ?_⟩, by dsimp only; omega, rfl, by push_cast; rfl⟩
            rw [beq_iff_eq]
            unfold CondA ee
            constructor
            · intro q; exact .inr q
            · rintro (q | q)
              · omega
              · exact q
          · exact ⟨by unfold InR; omega, (a + 1, g'), ⟨by dsimp only; omega, hexit g' b h6 (.inl h8) h5⟩, by dsimp only; omega, rfl, by push_cast; rfl⟩
          · exact ⟨by unfold InR; omega, (a + 1, g'), ⟨by dsimp only; omega, hexit g' b h6 (.inr (by omega)) h5⟩, by dsimp only; omega, rfl, by push_cast; rfl⟩
      · refine ⟨fun q => absurd q (by rw [h4g]; decide), fun _ => ⟨by unfold InR; omega, x + 1, by omega, by omega, by push_cast; rfl, ?_⟩⟩
        have hno : ¬ HomD t u d l x := fun q => by
          have := h3.2 fun a' ha' => homD_iff.1 q a' (by omega)
          rw [h4g] at this; cases this
        rw [flat_succ, if_neg hno, List.append_nil, hX]
    · obtain rfl : a = l.length + 1 := by omega
      refine ⟨fun hg => ?_, fun hg => ⟨by unfold InR; omega, x + 1, by omega, by omega, by push_cast; rfl, ?_⟩⟩
      · have hyes : HomD t u d l x := homD_iff.2 (h3.1 hg)
        have hc := ih w (by omega) hwi
        refine HereO.callM T_ok 31 [1480] rfl rfl (hc) SC rfl (by decide) (by decide) rfl rfl rfl (Nat.le_of_ble_eq_true rfl) ?_
        refine WW ?_
        have hXl : X.length ≤ x * 8 ^ k := by
          rw [hX]
          refine flatR_len (fun a => ?_) x
          split
          · exact dfsD_len hu8 k _
          · simp
        have hdl := dfsD_len (t := t) (u := u) (d := d) hu8 k w
        have hp8 : 8 ^ k ≤ 8 ^ 8 := Nat.pow_le_pow_right (by decide) (by omega)
        have hxp : x * 8 ^ k ≤ 8 * 8 ^ k := Nat.mul_le_mul_right _ (by omega)
        refine HereO.appendAll T_ok (id := 120) (j := 1497) rfl rfl (by decide) SS (by decide) SS SS SS (by decide) (by simp only [II_len]; omega) ?_
        refine WW ?_
        refine ⟨by unfold InR; omega, x + 1, by omega, by omega, by push_cast; rfl, ?_⟩
        rw [flat_succ, if_pos hyes, ← hX, ← hw]
        simp [II]
      · have hno : ¬ HomD t u d l x := fun q => by
          have := h3.2 (homD_iff.1 q)
          rw [hg] at this; cases this
        rw [flat_succ, if_neg hno, List.append_nil, hX]
  · obtain rfl : x = u.length := by omega
    refine RetM.one1 120 (by decide) SE rfl ?_
    refine WW ?_
    rw [dfsD]
theorem search_spec (t u : List (List Int)) (ht : Grp t) (hu : Grp u) (d : Bool) : ∀ k, SearchS t u d k
  | 0 => search_zero t u ht hu d
  | k + 1 => search_succ t u ht hu d k (search_spec t u ht hu d k)
end Go.Proofs.YtcjhojdlfnpgjaaGreat
namespace Go.Proofs.YtcjhojdlfnpgjaaGreat
open Go.RowKit
theorem homD_false {t u : List (List Int)} {l : List Int} {x : Nat} : HomD t u false l x ↔ Hom t u (l ++ [(x : Int)]) := ⟨fun h => h.1, fun h => ⟨h, fun q => by cases q⟩⟩
theorem dfsD_false (t u : List (List Int)) : ∀ (k : Nat) (l : List Int), dfsD t u false k l = dfs t u k l
  | 0, l => by rw [dfsD, dfs]
  | k + 1, l => by
    rw [dfsD, dfs]
    congr 1
    funext a
    by_cases e : Hom t u (l ++ [(a : Int)])
    · rw [if_pos (homD_false.2 e), if_pos e]; exact dfsD_false t u k _
    · rw [if_neg (fun q => e (homD_false.1 q)), if_neg e]
theorem specHomomorphismsOf (t u : List (List Int)) : Spec Tryz.prog 18 [.agg [.rds (II t)], .agg [.rds (II u)]] (.tup [.own 0, .v (.int .i64 (codeG2 t u))]) [.rows 27 2 (II (homsR t u))] := by
  unfold homsR codeG2
  refine Spec.of_codeC T_ok Tryz.func18 rfl Tryz.ntmps18 Tryz.call18 (Nat.le_of_ble_eq_true rfl) rfl rfl (CodeV_sound T_ok (by kernel_rfl) rfl ?_)
  refine WW ?_
  refine HereO.call T_ok rfl rfl (l01Is_spec t) SA rfl ?_
  refine WW ?_
  refine ⟨fun h => ?_, fun h => ?_⟩
  · refine HereO.call T_ok rfl rfl (l01Is_spec u) SA rfl ?_
    refine WW ?_
    refine ⟨fun h2 => ?_, fun h2 => ?_⟩
    · rw [if_neg fun q => h2 q.2, if_neg fun q => h2 q.2]
      exact RetC.conv (Conv.nilAt 4 150 (.rows 27 2 []) (by decide) rfl) (RetC.of (RetT.one 150 SE (by simp only [go_sem, Nat.reduceMul, Nat.reduceLeDiff, Nat.reduceLT, reduceIte, reduceCtorEq, Nat.reduceEqDiff, Nat.reduceSub, Nat.reduceAdd] <;> simp) (by simp only [go_sem, Nat.reduceMul, Nat.reduceLeDiff, Nat.reduceLT, reduceIte, reduceCtorEq, Nat.reduceEqDiff, Nat.reduceSub, Nat.reduceAdd] <;> simp [II])))
    · rw [if_pos ⟨h, h2⟩, if_pos ⟨h, h2⟩]
      have h8 := h.2.1
      have hc := search_spec t u h h2 false t.length [] (by simp) (fun j hj => by simp at hj)
      rw [dfsD_false] at hc
      refine HereO.buildRow T_ok 120 (I []) rfl rfl rfl (by decide) rfl SR rfl (by decide) ?_
      refine WW ?_
      refine HereO.callM T_ok 21 [120] rfl rfl (hc) SC rfl (by decide) (by decide) rfl rfl rfl (Nat.le_of_ble_eq_true rfl) ?_
      refine WW ?_
      exact RetC.of (RetT.one 1337 SE (by simp only [go_sem, Nat.reduceMul, Nat.reduceLeDiff, Nat.reduceLT, reduceIte, reduceCtorEq, Nat.reduceEqDiff, Nat.reduceSub, Nat.reduceAdd] <;> simp [I]) (by simp only [go_sem, Nat.reduceMul, Nat.reduceLeDiff, Nat.reduceLT, reduceIte, reduceCtorEq, Nat.reduceEqDiff, Nat.reduceSub, Nat.reduceAdd] <;> simp [I]))
  · rw [if_neg fun q => h q.1, if_neg fun q => h q.1]
    exact RetC.conv (Conv.nilAt 4 150 (.rows 27 2 []) (by decide) rfl) (RetC.of (RetT.one 150 SE (by simp only [go_sem, Nat.reduceMul, Nat.reduceLeDiff, Nat.reduceLT, reduceIte, reduceCtorEq, Nat.reduceEqDiff, Nat.reduceSub, Nat.reduceAdd] <;> simp) (by simp only [go_sem, Nat.reduceMul, Nat.reduceLeDiff, Nat.reduceLT, reduceIte, reduceCtorEq, Nat.reduceEqDiff, Nat.reduceSub, Nat.reduceAdd] <;> simp [II])))
def OkRowsB (t : List (List Int)) : Prop := t.length ≤ 1099511627776 ∧ (∀ a, a < t.length → (t.getD a []).length ≤ 1048576) ∧ (cellsOf t : Int) ≤ 1099511627776
theorem cells_bound : ∀ {t : List (List Int)} {B : Nat}, (∀ r ∈ t, r.length ≤ B) → cellsOf t ≤ t.length * B
  | [], B, _ => by simp [cellsOf]
  | r :: t, B, h => by
    have h1 := h r (List.mem_cons_self ..)
    have h2 := cells_bound (t := t) (B := B) fun r hr => h r (List.mem_cons_of_mem _ hr)
    simp only [cellsOf, List.length_cons, Nat.succ_mul]
    omega
theorem dfs_ext {t u : List (List Int)} : ∀ (k : Nat) (l : List Int) (p : List Int), p ∈ dfs t u k l → p.length = l.length + k ∧ p.take l.length = l
  | 0, l, p, h => by
    simp only [dfs, List.mem_singleton] at h
    subst h
    exact ⟨rfl, List.take_length⟩
  | k + 1, l, p, h => by
    rw [dfs, List.mem_flatMap] at h
    obtain ⟨a, _, h⟩ := h
    split at h
    · obtain ⟨h1, h2⟩ := dfs_ext k _ p h
      simp only [List.length_append, List.length_cons, List.length_nil] at h1 h2
      refine ⟨by omega, ?_⟩
      have := congrArg (List.take l.length) h2
      rw [List.take_take, Nat.min_eq_left (by omega)] at this
      rw [this, List.take_left]
    · cases h
theorem homsR_ok (t u : List (List Int)) : OkRowsB (homsR t u) := by
  unfold homsR
  split
  · rename_i h
    have ht8 := h.1.2.1
    have h1 := dfs_len (t := t) h.2.2.1 t.length []
    have hp8 : 8 ^ t.length ≤ 8 ^ 8 := Nat.pow_le_pow_right (by decide) ht8
    have h2 : ∀ r ∈ dfs t u t.length [], r.length ≤ 8 := fun r hr => by
      have := (dfs_ext _ _ _ hr).1
      simp at this
      omega
    have h3 := cells_bound h2
    have h4 : (8 : Nat) ^ 8 = 16777216 := by decide
    refine ⟨by omega, fun a ha => ?_, by omega⟩
    rw [List.getD_eq_getElem?_getD, List.getElem?_eq_getElem ha, Option.getD_some]
    have := h2 _ (List.getElem_mem ha)
    omega
  · exact ⟨by simp, fun a h => by simp at h, by simp [cellsOf]⟩
end Go.Proofs.YtcjhojdlfnpgjaaGreat
