/- Contracts: the program's search for modules. -/
import Derived.Test.YtcjhojdlfnpgjaaGreatDoorNb
import Derived.Test.YtcjhojdlfnpgjaaGreatDoorWd
import Derived.Test.YtcjhojdlfnpgjaaGreatDoorGe
import Derived.Test.YtcjhojdlfnpgjaaGreatDoorMb
namespace Go.Proofs.YtcjhojdlfnpgjaaGreatDoor
open Go.RowKit
set_option linter.unusedVariables false
set_option linter.unusedSimpArgs false
set_option maxRecDepth 100000

/-- What lies in a search's variables. -/
def capsM (t : List (List Int)) (m : Int) : List LV := [.box [.rds (II t)], .box [.v (.int .i64 m)], .ptr 1 0]
def SeaS (t : List (List Int)) (m : Int) (k : Nat) : Prop := ∀ (n : Nat) (l R : List Int) (outs : List (Int × List Int)), l.length = n → n + k = t.length → R.length = t.length → R.take n = l → Units m l → outs.length + 12 ^ k ≤ 1099511627776 →
    SpecQ Tryz.prog 52 [.sub 0 0 n, .box [.rds (II t)], .box [.v (.int .i64 m)], .ptr 1 0, knotX 52 (capsM t m) k] [.row 2 (I R), .cells 29 [.own 2], .mods 35 2 (mq outs)] (κ := List Int) (fun _ => .tup []) (fun y => [some (.row 2 (I y)), some (.cells 29 [.own 3]), none, some (.mods 35 2 (mq (outs ++ withM m (dfsM t m k l))))]) (fun y => y.length = t.length ∧ y.take n = l)
theorem sea_zero (t : List (List Int)) (m : Int) (hg : Grp t) (hm : 2 ≤ m ∧ m ≤ 12) : SeaS t m 0 := by
  have h8 := hg.2.1
  intro n l R outs hn hk hR hRl hu ho
  have hRe : R = l := by rw [← hRl, List.take_of_length_le (by omega)]
  have hc : Spec Tryz.prog 53 [.rd (((I R).drop 0).take n)] (.own 0) [.row 2 (I l)] := by
    rw [List.drop_zero, I_takeN, hRl]
    exact Clone_spec l (by omega)
  refine SpecQ.of_code T_ok Tryz.func52 rfl Tryz.ntmps52 Tryz.call52 (Nat.le_of_ble_eq_true rfl) (Nat.le_of_ble_eq_true rfl) (fun _ => rfl) (fun _ => rfl) (Here.conv (Conv.moveIn (c := 1) (i := 2) 0 50 (by decide) (by decide) (by decide) rfl rfl rfl rfl) (CodeV_sound T_ok (by kernel_rfl) rfl ?_))
  simp only [Tryz.results52, go_sem, Nat.reduceMul, Nat.reduceLeDiff, Nat.reduceLT, reduceIte, reduceCtorEq, Nat.reduceEqDiff, Nat.reduceSub, Nat.reduceAdd]
  refine HereO.opP T_ok (OpP.lenSub T_ok rfl rfl (by simp only [go_sem, Nat.reduceMul, Nat.reduceLeDiff, Nat.reduceLT, reduceIte, reduceCtorEq, Nat.reduceEqDiff, Nat.reduceSub, Nat.reduceAdd] <;> rfl)) ?_
  simp only [Tryz.results52, go_sem, Nat.reduceMul, Nat.reduceLeDiff, Nat.reduceLT, reduceIte, reduceCtorEq, Nat.reduceEqDiff, Nat.reduceSub, Nat.reduceAdd]
  refine HereO.call T_ok rfl rfl (order_spec t) (by simp only [go_sem, Nat.reduceMul, Nat.reduceLeDiff, Nat.reduceLT, reduceIte, reduceCtorEq, Nat.reduceEqDiff, Nat.reduceSub, Nat.reduceAdd, List.toList_toArray] <;> first | rfl | exact ⟨rfl, rfl⟩) rfl ?_
  simp only [Tryz.results52, go_sem, Nat.reduceMul, Nat.reduceLeDiff, Nat.reduceLT, reduceIte, reduceCtorEq, Nat.reduceEqDiff, Nat.reduceSub, Nat.reduceAdd]
  refine ⟨fun h => ?_, fun h => absurd h (by omega)⟩
  refine Here.drawSB T_ok [⟨2, 120, 2, I l, [3], false⟩, ⟨4, 109, 35, [.int .i64 0, .slice none 0 0], [], true⟩] 5 (Nat.le_of_ble_eq_true rfl) mixed_ok (by kernel_rfl) (by kernel_rfl) (by kernel_rfl) (by simp) (by simp) ?_
  simp only [Tryz.results52, go_sem, Nat.reduceMul, Nat.reduceLeDiff, Nat.reduceLT, reduceIte, reduceCtorEq, Nat.reduceEqDiff, Nat.reduceSub, Nat.reduceAdd]
  refine HereN.birth (List.mem_cons_self ..) rfl rfl (OpN.call rfl rfl hc (by simp only [go_sem, Nat.reduceMul, Nat.reduceLeDiff, Nat.reduceLT, reduceIte, reduceCtorEq, Nat.reduceEqDiff, Nat.reduceSub, Nat.reduceAdd, List.toList_toArray] <;> first | rfl | exact ⟨rfl, rfl⟩)) (by simp only [Tryz.results52, go_sem, Nat.reduceMul, Nat.reduceLeDiff, Nat.reduceLT, reduceIte, reduceCtorEq, Nat.reduceEqDiff, Nat.reduceSub, Nat.reduceAdd]) ?_
  simp only [Tryz.results52, go_sem, Nat.reduceMul, Nat.reduceLeDiff, Nat.reduceLT, reduceIte, reduceCtorEq, Nat.reduceEqDiff, Nat.reduceSub, Nat.reduceAdd]
  refine HereN.op (OpP.build built_35 rfl rfl rfl rfl) (by simp only [Tryz.results52, go_sem, Nat.reduceMul, Nat.reduceLeDiff, Nat.reduceLT, reduceIte, reduceCtorEq, Nat.reduceEqDiff, Nat.reduceSub, Nat.reduceAdd]) ?_
  simp only [Tryz.results52, go_sem, Nat.reduceMul, Nat.reduceLeDiff, Nat.reduceLT, reduceIte, reduceCtorEq, Nat.reduceEqDiff, Nat.reduceSub, Nat.reduceAdd]
  refine HereN.birth (List.mem_cons_of_mem _ (List.mem_cons_self ..)) rfl rfl (OpN.alloc T_ok rfl rfl rfl) (by simp only [Tryz.results52, go_sem, Nat.reduceMul, Nat.reduceLeDiff, Nat.reduceLT, reduceIte, reduceCtorEq, Nat.reduceEqDiff, Nat.reduceSub, Nat.reduceAdd]) ?_
  simp only [Tryz.results52, go_sem, Nat.reduceMul, Nat.reduceLeDiff, Nat.reduceLT, reduceIte, reduceCtorEq, Nat.reduceEqDiff, Nat.reduceSub, Nat.reduceAdd]
  refine HereE.of (Conv.trans (Conv.born (id := 120) (e := 2) (vs := I l) 21 rfl (by simp only [Tryz.results52, go_sem, Nat.reduceMul, Nat.reduceLeDiff, Nat.reduceLT, reduceIte, reduceCtorEq, Nat.reduceEqDiff, Nat.reduceSub, Nat.reduceAdd])) (Conv.bornCell 6 (id := 109) (e := 35) (vs := [.int .i64 0, .slice none 0 0]) rfl rfl)) ?_
  simp only [Tryz.results52, go_sem, Nat.reduceMul, Nat.reduceLeDiff, Nat.reduceLT, reduceIte, reduceCtorEq, Nat.reduceEqDiff, Nat.reduceSub, Nat.reduceAdd]
  refine HereO.storeAgg T_ok rfl (by simp only [go_sem, Nat.reduceMul, Nat.reduceLeDiff, Nat.reduceLT, reduceIte, reduceCtorEq, Nat.reduceEqDiff, Nat.reduceSub, Nat.reduceAdd] <;> rfl) (by simp only [go_sem, Nat.reduceMul, Nat.reduceLeDiff, Nat.reduceLT, reduceIte, reduceCtorEq, Nat.reduceEqDiff, Nat.reduceSub, Nat.reduceAdd] <;> rfl) rfl (by simp only [go_sem, Nat.reduceMul, Nat.reduceLeDiff, Nat.reduceLT, reduceIte, reduceCtorEq, Nat.reduceEqDiff, Nat.reduceSub, Nat.reduceAdd] <;> rfl) (by first | rfl | (simp only [go_sem, Nat.reduceMul, Nat.reduceLeDiff, Nat.reduceLT, reduceIte, reduceCtorEq, Nat.reduceEqDiff, Nat.reduceSub, Nat.reduceAdd] <;> rfl)) rfl rfl ?_
  simp only [Tryz.results52, go_sem, Nat.reduceMul, Nat.reduceLeDiff, Nat.reduceLT, reduceIte, reduceCtorEq, Nat.reduceEqDiff, Nat.reduceSub, Nat.reduceAdd]
  refine HereO.conv (Conv.subCellW (c := 109) (id := 120) (e := 2) (vs := I l) (tt := 35) (l := [.v (.int .i64 m), .sub 120 0 l.length]) 1 rfl (by rw [I_len]; rfl) rfl) ?_
  simp only [Tryz.results52, go_sem, Nat.reduceMul, Nat.reduceLeDiff, Nat.reduceLT, reduceIte, reduceCtorEq, Nat.reduceEqDiff, Nat.reduceSub, Nat.reduceAdd]
  have him : Spec Tryz.prog 37 [.agg [.rds (II t)], .agg [.v (.int .i64 m), .rd (((I l).drop 0).take l.length)]] (.v (.bool (decide (Mod t m l)))) [] := by
    rw [List.drop_zero, List.take_of_length_le (by rw [I_len]; exact Nat.le_refl _)]
    exact isModule_spec t m l hg
  refine HereO.call T_ok rfl rfl (him) (by simp only [go_sem, Nat.reduceMul, Nat.reduceLeDiff, Nat.reduceLT, reduceIte, reduceCtorEq, Nat.reduceEqDiff, Nat.reduceSub, Nat.reduceAdd, List.toList_toArray] <;> first | rfl | exact ⟨rfl, rfl⟩) rfl ?_
  simp only [Tryz.results52, go_sem, Nat.reduceMul, Nat.reduceLeDiff, Nat.reduceLT, reduceIte, reduceCtorEq, Nat.reduceEqDiff, Nat.reduceSub, Nat.reduceAdd]
  refine ⟨fun h2 => ?_, fun h2 => ?_⟩
  · refine HereO.opP T_ok (OpP.buildA sl2_29 ([(.v (.int .i64 m), .own 120)]) rfl rfl (by decide) (by decide) rfl rfl) ?_
    simp only [Tryz.results52, go_sem, Nat.reduceMul, Nat.reduceLeDiff, Nat.reduceLT, reduceIte, reduceCtorEq, Nat.reduceEqDiff, Nat.reduceSub, Nat.reduceAdd]
    refine HereO.appendMods T_ok (id := 50) (j := 120) rfl sl2m_ok (by simp only [go_sem, Nat.reduceMul, Nat.reduceLeDiff, Nat.reduceLT, reduceIte, reduceCtorEq, Nat.reduceEqDiff, Nat.reduceSub, Nat.reduceAdd] <;> rfl) (by decide) (by simp only [go_sem, Nat.reduceMul, Nat.reduceLeDiff, Nat.reduceLT, reduceIte, reduceCtorEq, Nat.reduceEqDiff, Nat.reduceSub, Nat.reduceAdd] <;> rfl) (by simp only [go_sem, Nat.reduceMul, Nat.reduceLeDiff, Nat.reduceLT, reduceIte, reduceCtorEq, Nat.reduceEqDiff, Nat.reduceSub, Nat.reduceAdd] <;> rfl) (by simp only [go_sem, Nat.reduceMul, Nat.reduceLeDiff, Nat.reduceLT, reduceIte, reduceCtorEq, Nat.reduceEqDiff, Nat.reduceSub, Nat.reduceAdd] <;> rfl) (by decide) rfl (by rw [mq_len]; simp at ho; omega) ?_
    simp only [Tryz.results52, go_sem, Nat.reduceMul, Nat.reduceLeDiff, Nat.reduceLT, reduceIte, reduceCtorEq, Nat.reduceEqDiff, Nat.reduceSub, Nat.reduceAdd]
    refine HereO.store T_ok rfl (by simp only [go_sem, Nat.reduceMul, Nat.reduceLeDiff, Nat.reduceLT, reduceIte, reduceCtorEq, Nat.reduceEqDiff, Nat.reduceSub, Nat.reduceAdd] <;> rfl) (by simp only [go_sem, Nat.reduceMul, Nat.reduceLeDiff, Nat.reduceLT, reduceIte, reduceCtorEq, Nat.reduceEqDiff, Nat.reduceSub, Nat.reduceAdd] <;> rfl) rfl (by simp only [go_sem, Nat.reduceMul, Nat.reduceLeDiff, Nat.reduceLT, reduceIte, reduceCtorEq, Nat.reduceEqDiff, Nat.reduceSub, Nat.reduceAdd] <;> rfl) rfl (by first | rfl | (simp only [go_sem, Nat.reduceMul, Nat.reduceLeDiff, Nat.reduceLT, reduceIte, reduceCtorEq, Nat.reduceEqDiff, Nat.reduceSub, Nat.reduceAdd] <;> rfl)) (Nat.le_of_ble_eq_true rfl) ?_
    simp only [Tryz.results52, go_sem, Nat.reduceMul, Nat.reduceLeDiff, Nat.reduceLT, reduceIte, reduceCtorEq, Nat.reduceEqDiff, Nat.reduceSub, Nat.reduceAdd]
    refine RetQ.of R ⟨hR, hRl⟩ (RetM.three 50 (by decide) (by simp only [Tryz.results52, go_sem, Nat.reduceMul, Nat.reduceLeDiff, Nat.reduceLT, reduceIte, reduceCtorEq, Nat.reduceEqDiff, Nat.reduceSub, Nat.reduceAdd]; rfl) rfl ?_ ?_ ?_)
    · simp only [Tryz.results52, go_sem, Nat.reduceMul, Nat.reduceLeDiff, Nat.reduceLT, reduceIte, reduceCtorEq, Nat.reduceEqDiff, Nat.reduceSub, Nat.reduceAdd]
    · simp only [Tryz.results52, go_sem, Nat.reduceMul, Nat.reduceLeDiff, Nat.reduceLT, reduceIte, reduceCtorEq, Nat.reduceEqDiff, Nat.reduceSub, Nat.reduceAdd]
      rfl
    · simp only [Tryz.results52, go_sem, Nat.reduceMul, Nat.reduceLeDiff, Nat.reduceLT, reduceIte, reduceCtorEq, Nat.reduceEqDiff, Nat.reduceSub, Nat.reduceAdd]
      rw [mq_snoc, dfsM, if_pos h2]
      rfl
  · refine RetQ.of R ⟨hR, hRl⟩ (RetM.three 50 (by decide) (by simp only [Tryz.results52, go_sem, Nat.reduceMul, Nat.reduceLeDiff, Nat.reduceLT, reduceIte, reduceCtorEq, Nat.reduceEqDiff, Nat.reduceSub, Nat.reduceAdd]; rfl) rfl ?_ ?_ ?_)
    · simp only [Tryz.results52, go_sem, Nat.reduceMul, Nat.reduceLeDiff, Nat.reduceLT, reduceIte, reduceCtorEq, Nat.reduceEqDiff, Nat.reduceSub, Nat.reduceAdd]
    · simp only [Tryz.results52, go_sem, Nat.reduceMul, Nat.reduceLeDiff, Nat.reduceLT, reduceIte, reduceCtorEq, Nat.reduceEqDiff, Nat.reduceSub, Nat.reduceAdd]
      rfl
    · simp only [Tryz.results52, go_sem, Nat.reduceMul, Nat.reduceLeDiff, Nat.reduceLT, reduceIte, reduceCtorEq, Nat.reduceEqDiff, Nat.reduceSub, Nat.reduceAdd]
      rw [dfsM, if_neg h2, withM]
      simp
set_option maxHeartbeats 4000000 in
theorem sea_succ (t : List (List Int)) (m : Int) (hg : Grp t) (hm : 2 ≤ m ∧ m ≤ 12) (k : Nat) (ih : SeaS t m k) : SeaS t m (k + 1) := by
  have h8 := hg.2.1
  intro n l R outs hn hk hR hRl hu ho
  rw [knot_succ]
  unfold capsM
  refine SpecQ.of_code T_ok Tryz.func52 rfl Tryz.ntmps52 Tryz.call52 (Nat.le_of_ble_eq_true rfl) (Nat.le_of_ble_eq_true rfl) (fun _ => rfl) (fun _ => rfl) (Here.conv (Conv.moveIn (c := 1) (i := 2) 0 50 (by decide) (by decide) (by decide) rfl rfl rfl rfl) (CodeV_sound T_ok (by kernel_rfl) rfl ?_))
  simp only [Tryz.results52, go_sem, Nat.reduceMul, Nat.reduceLeDiff, Nat.reduceLT, reduceIte, reduceCtorEq, Nat.reduceEqDiff, Nat.reduceSub, Nat.reduceAdd]
  refine HereO.opP T_ok (OpP.lenSub T_ok rfl rfl (by simp only [go_sem, Nat.reduceMul, Nat.reduceLeDiff, Nat.reduceLT, reduceIte, reduceCtorEq, Nat.reduceEqDiff, Nat.reduceSub, Nat.reduceAdd] <;> rfl)) ?_
  simp only [Tryz.results52, go_sem, Nat.reduceMul, Nat.reduceLeDiff, Nat.reduceLT, reduceIte, reduceCtorEq, Nat.reduceEqDiff, Nat.reduceSub, Nat.reduceAdd]
  refine HereO.call T_ok rfl rfl (order_spec t) (by simp only [go_sem, Nat.reduceMul, Nat.reduceLeDiff, Nat.reduceLT, reduceIte, reduceCtorEq, Nat.reduceEqDiff, Nat.reduceSub, Nat.reduceAdd, List.toList_toArray] <;> first | rfl | exact ⟨rfl, rfl⟩) rfl ?_
  simp only [Tryz.results52, go_sem, Nat.reduceMul, Nat.reduceLeDiff, Nat.reduceLT, reduceIte, reduceCtorEq, Nat.reduceEqDiff, Nat.reduceSub, Nat.reduceAdd]
  refine ⟨fun h => absurd h (by omega), fun _ => ?_⟩
  refine Here.loopV T_ok (κ := Nat × List Int) (fun g => g.1 ≤ m.toNat ∧ g.2.length = t.length ∧ g.2.take n = l) (fun g => m.toNat - g.1) (fun g => [(0, .sub 0 0 n), (1, .box [.rds (II t)]), (2, .box [.v (.int .i64 m)]), (3, .ptr 1 0), (4, .box [.fn 52 [.box [.rds (II t)], .box [.v (.int .i64 m)], .ptr 1 0, knotX 52 [.box [.rds (II t)], .box [.v (.int .i64 m)], .ptr 1 0] k]]), (30, .v (.int .i64 m)), (31, .v (.int .i64 g.1))]) (fun g => [(0, .row 2 (I g.2)), (1, .cells 29 [.own 50]), (50, .mods 35 2 (mq (outs ++ withM m ((List.range g.1).flatMap fun (u : Nat) => if Unit1 m u ∧ Fine t m (l ++ [(u : Int)]) then dfsM t m k (l ++ [(u : Int)]) else []))))]) (0, R) ⟨by simp, hR, hRl⟩ (by simp only [Tryz.results52, go_sem, Nat.reduceMul, Nat.reduceLeDiff, Nat.reduceLT, reduceIte, reduceCtorEq, Nat.reduceEqDiff, Nat.reduceSub, Nat.reduceAdd]; simp) (by simp only [Tryz.results52, go_sem, Nat.reduceMul, Nat.reduceLeDiff, Nat.reduceLT, reduceIte, reduceCtorEq, Nat.reduceEqDiff, Nat.reduceSub, Nat.reduceAdd]; simp [withM]) ?_
  rintro ⟨u, R1⟩ ⟨h1, h2, h3⟩
  dsimp only at h1 h2 h3 ⊢
  simp only [Tryz.results52, go_sem, Nat.reduceMul, Nat.reduceLeDiff, Nat.reduceLT, reduceIte, reduceCtorEq, Nat.reduceEqDiff, Nat.reduceSub, Nat.reduceAdd]
  refine ⟨fun h4 => ?_, fun h4 => ?_⟩
  · refine HereO.call T_ok rfl rfl (isUnit_spec m u hm) (by simp only [go_sem, Nat.reduceMul, Nat.reduceLeDiff, Nat.reduceLT, reduceIte, reduceCtorEq, Nat.reduceEqDiff, Nat.reduceSub, Nat.reduceAdd, List.toList_toArray] <;> first | rfl | exact ⟨rfl, rfl⟩) rfl ?_
    simp only [Tryz.results52, go_sem, Nat.reduceMul, Nat.reduceLeDiff, Nat.reduceLT, reduceIte, reduceCtorEq, Nat.reduceEqDiff, Nat.reduceSub, Nat.reduceAdd]
    have hskip : ∀ (h : ¬ (Unit1 m u ∧ Fine t m (l ++ [(u : Int)]))), ((List.range (u + 1)).flatMap fun (u : Nat) => if Unit1 m u ∧ Fine t m (l ++ [(u : Int)]) then dfsM t m k (l ++ [(u : Int)]) else []) = ((List.range u).flatMap fun (u : Nat) => if Unit1 m u ∧ Fine t m (l ++ [(u : Int)]) then dfsM t m k (l ++ [(u : Int)]) else []) := fun h => by
      rw [rangeFlat_succ, if_neg h, List.append_nil]
    have hd : ((List.range u).flatMap fun (u : Nat) => if Unit1 m u ∧ Fine t m (l ++ [(u : Int)]) then dfsM t m k (l ++ [(u : Int)]) else []).length ≤ u * 12 ^ k := rangeFlat_len (fun a => by
      split
      · exact dfsM_len hm.2 k _
      · simp) u
    have hpw2 : (u + 1) * 12 ^ k ≤ 12 * 12 ^ k := Nat.mul_le_mul_right _ (by omega)
    have hpw3 : (u + 1) * 12 ^ k = u * 12 ^ k + 12 ^ k := Nat.succ_mul _ _
    have hpw4 : 12 ^ (k + 1) = 12 ^ k * 12 := Nat.pow_succ ..
    refine ⟨fun h5 => ⟨by unfold InR; omega, (u + 1, R1), ⟨by dsimp only; omega, h2, h3⟩, by dsimp only; omega, by push_cast; rfl, rfl, by dsimp only; rw [hskip fun q => h5 q.1]⟩, fun h5 => ?_⟩
    refine HereO.buildRow T_ok 60 (I [u]) rfl rfl rfl (by decide) rfl (by first | rfl | (simp only [go_sem, Nat.reduceMul, Nat.reduceLeDiff, Nat.reduceLT, reduceIte, reduceCtorEq, Nat.reduceEqDiff, Nat.reduceSub, Nat.reduceAdd] <;> rfl)) rfl (by decide) ?_
    simp only [Tryz.results52, go_sem, Nat.reduceMul, Nat.reduceLeDiff, Nat.reduceLT, reduceIte, reduceCtorEq, Nat.reduceEqDiff, Nat.reduceSub, Nat.reduceAdd]
    refine HereO.appendSub T_ok (u := .int .i64 u) rfl rfl (by simp only [go_sem, Nat.reduceMul, Nat.reduceLeDiff, Nat.reduceLT, reduceIte, reduceCtorEq, Nat.reduceEqDiff, Nat.reduceSub, Nat.reduceAdd] <;> rfl) (by simp only [go_sem, Nat.reduceMul, Nat.reduceLeDiff, Nat.reduceLT, reduceIte, reduceCtorEq, Nat.reduceEqDiff, Nat.reduceSub, Nat.reduceAdd] <;> rfl) (by simp only [go_sem, Nat.reduceMul, Nat.reduceLeDiff, Nat.reduceLT, reduceIte, reduceCtorEq, Nat.reduceEqDiff, Nat.reduceSub, Nat.reduceAdd] <;> rfl) (.own 60 _ _ (by decide) (by simp only [go_sem, Nat.reduceMul, Nat.reduceLeDiff, Nat.reduceLT, reduceIte, reduceCtorEq, Nat.reduceEqDiff, Nat.reduceSub, Nat.reduceAdd] <;> rfl)) rfl (by rw [I_len]; omega) ?_
    simp only [Tryz.results52, go_sem, Nat.reduceMul, Nat.reduceLeDiff, Nat.reduceLT, reduceIte, reduceCtorEq, Nat.reduceEqDiff, Nat.reduceSub, Nat.reduceAdd]
    rw [I_set]
    refine HereO.opP T_ok (OpP.lenSub T_ok rfl rfl (by simp only [go_sem, Nat.reduceMul, Nat.reduceLeDiff, Nat.reduceLT, reduceIte, reduceCtorEq, Nat.reduceEqDiff, Nat.reduceSub, Nat.reduceAdd] <;> rfl)) ?_
    simp only [Tryz.results52, go_sem, Nat.reduceMul, Nat.reduceLeDiff, Nat.reduceLT, reduceIte, reduceCtorEq, Nat.reduceEqDiff, Nat.reduceSub, Nat.reduceAdd]
    have hW := take_set_snoc (x := (u : Int)) h3 (by omega)
    have hWl : (R1.set n (u : Int)).length = t.length := by simpa using h2
    have hg1 : ∀ x, x < n + 1 → (R1.set n (u : Int)).getD x 0 = (l ++ [(u : Int)]).getD x 0 := fun x hx => by
      rw [← hW, List.getD_eq_getElem?_getD, List.getD_eq_getElem?_getD, List.getElem?_take, if_pos hx]
    have hwl : (l ++ [(u : Int)]).length = n + 1 := by simp; omega
    have hwu : Units m (l ++ [(u : Int)]) := hu.snoc h5
    refine Here.loopV T_ok (κ := Nat × Bool) (fun g => g.1 ≤ n + 1 ∧ (g.2 = true ↔ ∀ a, a < g.1 → ∀ b, b < n + 1 → FineA t m (l ++ [(u : Int)]) a b)) (fun g => n + 1 - g.1) (fun g => [(0, .sub 0 0 n), (1, .box [.rds (II t)]), (2, .box [.v (.int .i64 m)]), (3, .ptr 1 0), (4, .box [.fn 52 [.box [.rds (II t)], .box [.v (.int .i64 m)], .ptr 1 0, knotX 52 [.box [.rds (II t)], .box [.v (.int .i64 m)], .ptr 1 0] k]]), (7, .v (.int .i64 u)), (8, .sub 0 0 (n + 1)), (9, .v (.int .i64 (n + 1 : Nat))), (10, .v (.bool g.2)), (30, .v (.int .i64 m)), (31, .v (.int .i64 u)), (44, .v (.int .i64 (n + 1 : Nat))), (45, .v (.int .i64 g.1))]) (fun g => [(0, .row 2 (I (R1.set n u))), (1, .cells 29 [.own 50]), (50, .mods 35 2 (mq (outs ++ withM m ((List.range u).flatMap fun (u : Nat) => if Unit1 m u ∧ Fine t m (l ++ [(u : Int)]) then dfsM t m k (l ++ [(u : Int)]) else []))))]) (0, true) ⟨by simp, ⟨fun _ a ha => absurd ha (by simp), fun _ => rfl⟩⟩ (by simp only [Tryz.results52, go_sem, Nat.reduceMul, Nat.reduceLeDiff, Nat.reduceLT, reduceIte, reduceCtorEq, Nat.reduceEqDiff, Nat.reduceSub, Nat.reduceAdd]; simp) (by simp only [Tryz.results52, go_sem, Nat.reduceMul, Nat.reduceLeDiff, Nat.reduceLT, reduceIte, reduceCtorEq, Nat.reduceEqDiff, Nat.reduceSub, Nat.reduceAdd]) ?_
    rintro ⟨x, g⟩ ⟨h6, h7⟩
    dsimp only at h6 h7
    simp only [Tryz.results52, go_sem, Nat.reduceMul, Nat.reduceLeDiff, Nat.reduceLT, reduceIte, reduceCtorEq, Nat.reduceEqDiff, Nat.reduceSub, Nat.reduceAdd]
    refine ⟨fun h8 => ?_, fun h8 => ?_⟩
    · refine Here.loopV T_ok (κ := Nat × Bool) (fun g => g.1 ≤ n + 1 ∧ (g.2 = true ↔ (∀ a, a < x → ∀ b, b < n + 1 → FineA t m (l ++ [(u : Int)]) a b) ∧ ∀ b, b < g.1 → FineA t m (l ++ [(u : Int)]) x b)) (fun g => n + 1 - g.1) (fun g => [(0, .sub 0 0 n), (1, .box [.rds (II t)]), (2, .box [.v (.int .i64 m)]), (3, .ptr 1 0), (4, .box [.fn 52 [.box [.rds (II t)], .box [.v (.int .i64 m)], .ptr 1 0, knotX 52 [.box [.rds (II t)], .box [.v (.int .i64 m)], .ptr 1 0] k]]), (7, .v (.int .i64 u)), (8, .sub 0 0 (n + 1)), (9, .v (.int .i64 (n + 1 : Nat))), (10, .v (.bool g.2)), (30, .v (.int .i64 m)), (31, .v (.int .i64 u)), (44, .v (.int .i64 (n + 1 : Nat))), (45, .v (.int .i64 x)), (11, .v (.int .i64 x)), (48, .v (.int .i64 (n + 1 : Nat))), (49, .v (.int .i64 g.1))]) (fun g => [(0, .row 2 (I (R1.set n u))), (1, .cells 29 [.own 50]), (50, .mods 35 2 (mq (outs ++ withM m ((List.range u).flatMap fun (u : Nat) => if Unit1 m u ∧ Fine t m (l ++ [(u : Int)]) then dfsM t m k (l ++ [(u : Int)]) else []))))]) (0, g) ⟨by simp, by rw [h7]; exact ⟨fun h => ⟨h, fun b hb => absurd hb (by simp)⟩, fun h => h.1⟩⟩ (by simp only [Tryz.results52, go_sem, Nat.reduceMul, Nat.reduceLeDiff, Nat.reduceLT, reduceIte, reduceCtorEq, Nat.reduceEqDiff, Nat.reduceSub, Nat.reduceAdd]; simp) (by simp only [Tryz.results52, go_sem, Nat.reduceMul, Nat.reduceLeDiff, Nat.reduceLT, reduceIte, reduceCtorEq, Nat.reduceEqDiff, Nat.reduceSub, Nat.reduceAdd]) ?_
      rintro ⟨y, g'⟩ ⟨h9, h10⟩
      dsimp only at h9 h10
      simp only [Tryz.results52, go_sem, Nat.reduceMul, Nat.reduceLeDiff, Nat.reduceLT, reduceIte, reduceCtorEq, Nat.reduceEqDiff, Nat.reduceSub, Nat.reduceAdd]
      refine ⟨fun h11 => ?_, fun h11 => ⟨by unfold InR; omega, (x + 1, g'), ⟨by dsimp only; omega, ?_⟩, by dsimp only; omega, rfl, by push_cast; rfl⟩⟩
      · have hab : AreIn t.length [(x : Int), y] := by
          intro j hj
          match j, hj with
          | 0, _ => simp; omega
          | 1, _ => simp; omega
        refine HereO.buildRow T_ok 61 (I [(x : Int), (y : Int)]) rfl rfl rfl (by decide) rfl (by first | rfl | (simp only [go_sem, Nat.reduceMul, Nat.reduceLeDiff, Nat.reduceLT, reduceIte, reduceCtorEq, Nat.reduceEqDiff, Nat.reduceSub, Nat.reduceAdd] <;> rfl)) rfl (by decide) ?_
        simp only [Tryz.results52, go_sem, Nat.reduceMul, Nat.reduceLeDiff, Nat.reduceLT, reduceIte, reduceCtorEq, Nat.reduceEqDiff, Nat.reduceSub, Nat.reduceAdd]
        refine HereO.call T_ok rfl rfl (times_spec t [(x : Int), (y : Int)] hg hab (by simp)) (by simp only [go_sem, Nat.reduceMul, Nat.reduceLeDiff, Nat.reduceLT, reduceIte, reduceCtorEq, Nat.reduceEqDiff, Nat.reduceSub, Nat.reduceAdd, List.toList_toArray] <;> first | rfl | exact ⟨rfl, rfl⟩) rfl ?_
        simp only [Tryz.results52, go_sem, Nat.reduceMul, Nat.reduceLeDiff, Nat.reduceLT, reduceIte, reduceCtorEq, Nat.reduceEqDiff, Nat.reduceSub, Nat.reduceAdd]
        rw [tm_two hg (by omega)]
        simp only [Int.toNat_natCast]
        have hs := (hg.2.2.1 x (by omega)).2 y (by omega)
        refine Here.draw T_ok mixed_ok (by kernel_rfl) ?_
        simp only [Tryz.results52, go_sem, Nat.reduceMul, Nat.reduceLeDiff, Nat.reduceLT, reduceIte, reduceCtorEq, Nat.reduceEqDiff, Nat.reduceSub, Nat.reduceAdd]
        have hyes : FineA t m (l ++ [(u : Int)]) x y → (g' = true ↔ (∀ a, a < x → ∀ b, b < n + 1 → FineA t m (l ++ [(u : Int)]) a b) ∧ ∀ b, b < y + 1 → FineA t m (l ++ [(u : Int)]) x b) := fun h => by
          rw [h10]
          constructor
          · rintro ⟨q1, q2⟩
            refine ⟨q1, fun b hb => ?_⟩
            by_cases e : b = y
            · rw [e]; exact h
            · exact q2 b (by omega)
          · exact fun q => ⟨q.1, fun b hb => q.2 b (by omega)⟩
        have hua := hwu x (by omega)
        have hub := hwu y (by omega)
        have hp0 : 0 ≤ (l ++ [(u : Int)]).getD x 0 * (l ++ [(u : Int)]).getD y 0 := Int.mul_nonneg (by have := hua.1; omega) (by have := hub.1; omega)
        have hp1 : (l ++ [(u : Int)]).getD x 0 * (l ++ [(u : Int)]).getD y 0 ≤ 12 * 12 := Int.mul_le_mul (by have := hua.2.1; omega) (by have := hub.2.1; omega) (by have := hub.1; omega) (by decide)
        refine ⟨fun h12 => ⟨_, OpP.indexSub T_ok rfl rfl rfl rfl hs.1 h12, ?_⟩, fun h12 => ?_⟩
        · simp only [Tryz.results52, go_sem, Nat.reduceMul, Nat.reduceLeDiff, Nat.reduceLT, reduceIte, reduceCtorEq, Nat.reduceEqDiff, Nat.reduceSub, Nat.reduceAdd]
          refine ⟨by omega, _, OpP.indexSub T_ok rfl rfl rfl rfl (by omega) (by omega), ?_⟩
          simp only [Tryz.results52, go_sem, Nat.reduceMul, Nat.reduceLeDiff, Nat.reduceLT, reduceIte, reduceCtorEq, Nat.reduceEqDiff, Nat.reduceSub, Nat.reduceAdd]
          refine ⟨by omega, _, OpP.indexSub T_ok rfl rfl rfl rfl (by omega) (by omega), ?_⟩
          simp only [Tryz.results52, go_sem, Nat.reduceMul, Nat.reduceLeDiff, Nat.reduceLT, reduceIte, reduceCtorEq, Nat.reduceEqDiff, Nat.reduceSub, Nat.reduceAdd]
          rw [hg1 (ee t x y).toNat (by omega), hg1 x (by omega), hg1 y (by omega)]
          refine ⟨by omega, by unfold InR; omega, by omega, fun h13 => ?_, fun h13 => ?_⟩
          · refine ⟨by unfold InR; omega, (y + 1, false), ⟨by dsimp only; omega, iff_of_false (by simp) fun q => h13 (q.2 y (by dsimp only; omega) (by rw [hwl]; exact h12))⟩, by dsimp only; omega, rfl, by push_cast; rfl⟩
          · exact ⟨by unfold InR; omega, (y + 1, g'), ⟨by dsimp only; omega, hyes fun _ => h13⟩, by dsimp only; omega, rfl, by push_cast; rfl⟩
        · exact ⟨by unfold InR; omega, (y + 1, g'), ⟨by dsimp only; omega, hyes fun h => absurd h (by rw [hwl]; exact h12)⟩, by dsimp only; omega, rfl, by push_cast; rfl⟩
      · dsimp only
        rw [h10]
        constructor
        · rintro ⟨q1, q2⟩ a ha b hb
          by_cases e : a = x
          · subst e; exact q2 b (by omega)
          · exact q1 a (by omega) b hb
        · exact fun q => ⟨fun a ha => q a (by omega), fun b hb => q x (by omega) b (by omega)⟩
    · have hfin : g = true ↔ Fine t m (l ++ [(u : Int)]) := by
        rw [h7]
        constructor
        · intro q a ha b hb
          rw [hwl] at ha hb
          exact q a (by omega) b hb
        · intro q a ha b hb
          exact q a (by rw [hwl]; omega) b (by rw [hwl]; omega)
      refine ⟨fun h9 => ?_, fun h9 => ?_⟩
      · have hfi := hfin.1 h9
        have hc := ih (n + 1) (l ++ [(u : Int)]) (R1.set n u) (outs ++ withM m ((List.range u).flatMap fun (u : Nat) => if Unit1 m u ∧ Fine t m (l ++ [(u : Int)]) then dfsM t m k (l ++ [(u : Int)]) else [])) (by simp; omega) (by omega) hWl hW hwu (by rw [List.length_append, withM_len]; omega)
        unfold capsM at hc
        refine HereO.callQT T_ok 21 [0, 1, 50] rfl rfl hc (by simp only [go_sem, Nat.reduceMul, Nat.reduceLeDiff, Nat.reduceLT, reduceIte, reduceCtorEq, Nat.reduceEqDiff, Nat.reduceSub, Nat.reduceAdd, List.toList_toArray, ↓reduceIte]) rfl (by decide) (by decide) rfl (fun _ => rfl) (fun _ => Nat.le_of_ble_eq_true rfl) (fun y hy => Conv.moveIn (c := 1) (i := 1339) 0 50 (by decide) (by decide) (by decide) (by simp only [go_sem, Nat.reduceMul, Nat.reduceLeDiff, Nat.reduceLT, reduceIte, reduceCtorEq, Nat.reduceEqDiff, Nat.reduceSub, Nat.reduceAdd] <;> rfl) rfl (by simp only [go_sem, Nat.reduceMul, Nat.reduceLeDiff, Nat.reduceLT, reduceIte, reduceCtorEq, Nat.reduceEqDiff, Nat.reduceSub, Nat.reduceAdd] <;> rfl) rfl) ?_
        rintro y ⟨hy1, hy2⟩
        simp only [Tryz.results52, go_sem, Nat.reduceMul, Nat.reduceLeDiff, Nat.reduceLT, reduceIte, reduceCtorEq, Nat.reduceEqDiff, Nat.reduceSub, Nat.reduceAdd]
        refine ⟨by unfold InR; omega, (u + 1, y), ⟨by dsimp only; omega, hy1, ?_⟩, by dsimp only; omega, by push_cast; rfl, rfl, ?_⟩
        · have := congrArg (List.take n) hy2
          rw [List.take_take, Nat.min_eq_left (by omega), ← hn, List.take_left] at this
          rw [← hn]; exact this
        · dsimp only
          rw [rangeFlat_succ, if_pos ⟨h5, hfi⟩, withM_app, List.append_assoc]
      · refine ⟨by unfold InR; omega, (u + 1, R1.set n u), ⟨by dsimp only; omega, hWl, by dsimp only; rw [List.take_set_of_le (Nat.le_refl _)]; exact h3⟩, by dsimp only; omega, by push_cast; rfl, rfl, by dsimp only; rw [hskip fun q => by rw [hfin.2 q.2] at h9; cases h9]⟩
  · obtain rfl : u = m.toNat := by omega
    refine RetQ.of R1 ⟨h2, h3⟩ (RetM.three 50 (by decide) (by simp only [Tryz.results52, go_sem, Nat.reduceMul, Nat.reduceLeDiff, Nat.reduceLT, reduceIte, reduceCtorEq, Nat.reduceEqDiff, Nat.reduceSub, Nat.reduceAdd]; rfl) rfl ?_ ?_ ?_)
    · simp only [Tryz.results52, go_sem, Nat.reduceMul, Nat.reduceLeDiff, Nat.reduceLT, reduceIte, reduceCtorEq, Nat.reduceEqDiff, Nat.reduceSub, Nat.reduceAdd]
    · simp only [Tryz.results52, go_sem, Nat.reduceMul, Nat.reduceLeDiff, Nat.reduceLT, reduceIte, reduceCtorEq, Nat.reduceEqDiff, Nat.reduceSub, Nat.reduceAdd]
      rfl
    · simp only [Tryz.results52, go_sem, Nat.reduceMul, Nat.reduceLeDiff, Nat.reduceLT, reduceIte, reduceCtorEq, Nat.reduceEqDiff, Nat.reduceSub, Nat.reduceAdd]
      rw [dfsM]
theorem sea_spec (t : List (List Int)) (m : Int) (hg : Grp t) (hm : 2 ≤ m ∧ m ≤ 12) : ∀ k, SeaS t m k
  | 0 => sea_zero t m hg hm
  | k + 1 => sea_succ t m hg hm k (sea_spec t m hg hm k)
theorem modulesOf_spec (t : List (List Int)) (m : Int) (hg : Grp t) (hm : 2 ≤ m ∧ m ≤ 12) : Spec Tryz.prog 28 [.agg [.rds (II t)], .v (.int .i64 m)] (.own 0) [.mods 35 2 (mq (withM m (dfsM t m t.length [])))] := by
  have h8 := hg.2.1
  have hp8 : 12 ^ t.length ≤ 12 ^ 8 := Nat.pow_le_pow_right (by decide) h8
  have hc := sea_spec t m hg hm t.length 0 [] (List.replicate t.length 0) [] rfl (by omega) (by simp) (by simp) (fun j hj => by simp at hj) (by simp at hp8 ⊢; omega)
  unfold capsM at hc
  refine Spec.of_codeC T_ok Tryz.func28 rfl Tryz.ntmps28 Tryz.call28 (Nat.le_of_ble_eq_true rfl) rfl rfl (CodeV_sound T_ok (by kernel_rfl) rfl ?_)
  simp only [Tryz.results28, go_sem, Nat.reduceMul, Nat.reduceLeDiff, Nat.reduceLT, reduceIte, reduceCtorEq, Nat.reduceEqDiff, Nat.reduceSub, Nat.reduceAdd]
  refine HereO.makeMods T_ok 2 rfl sl2m_ok 130 (by decide) ?_
  simp only [Tryz.results28, go_sem, Nat.reduceMul, Nat.reduceLeDiff, Nat.reduceLT, reduceIte, reduceCtorEq, Nat.reduceEqDiff, Nat.reduceSub, Nat.reduceAdd]
  refine HereO.alloc T_ok 110 rfl rfl (by decide) ?_
  simp only [Tryz.results28, go_sem, Nat.reduceMul, Nat.reduceLeDiff, Nat.reduceLT, reduceIte, reduceCtorEq, Nat.reduceEqDiff, Nat.reduceSub, Nat.reduceAdd]
  refine HereO.store T_ok rfl (by simp only [go_sem, Nat.reduceMul, Nat.reduceLeDiff, Nat.reduceLT, reduceIte, reduceCtorEq, Nat.reduceEqDiff, Nat.reduceSub, Nat.reduceAdd] <;> rfl) (by simp only [go_sem, Nat.reduceMul, Nat.reduceLeDiff, Nat.reduceLT, reduceIte, reduceCtorEq, Nat.reduceEqDiff, Nat.reduceSub, Nat.reduceAdd] <;> rfl) rfl (by simp only [go_sem, Nat.reduceMul, Nat.reduceLeDiff, Nat.reduceLT, reduceIte, reduceCtorEq, Nat.reduceEqDiff, Nat.reduceSub, Nat.reduceAdd] <;> rfl) rfl (by first | rfl | (simp only [go_sem, Nat.reduceMul, Nat.reduceLeDiff, Nat.reduceLT, reduceIte, reduceCtorEq, Nat.reduceEqDiff, Nat.reduceSub, Nat.reduceAdd] <;> rfl)) (Nat.le_of_ble_eq_true rfl) ?_
  simp only [Tryz.results28, go_sem, Nat.reduceMul, Nat.reduceLeDiff, Nat.reduceLT, reduceIte, reduceCtorEq, Nat.reduceEqDiff, Nat.reduceSub, Nat.reduceAdd]
  refine HereO.alloc T_ok 120 rfl rfl (by decide) ?_
  simp only [Tryz.results28, go_sem, Nat.reduceMul, Nat.reduceLeDiff, Nat.reduceLT, reduceIte, reduceCtorEq, Nat.reduceEqDiff, Nat.reduceSub, Nat.reduceAdd]
  refine HereO.store T_ok rfl (by simp only [go_sem, Nat.reduceMul, Nat.reduceLeDiff, Nat.reduceLT, reduceIte, reduceCtorEq, Nat.reduceEqDiff, Nat.reduceSub, Nat.reduceAdd] <;> rfl) (by simp only [go_sem, Nat.reduceMul, Nat.reduceLeDiff, Nat.reduceLT, reduceIte, reduceCtorEq, Nat.reduceEqDiff, Nat.reduceSub, Nat.reduceAdd] <;> rfl) rfl (by simp only [go_sem, Nat.reduceMul, Nat.reduceLeDiff, Nat.reduceLT, reduceIte, reduceCtorEq, Nat.reduceEqDiff, Nat.reduceSub, Nat.reduceAdd] <;> rfl) rfl (by first | rfl | (simp only [go_sem, Nat.reduceMul, Nat.reduceLeDiff, Nat.reduceLT, reduceIte, reduceCtorEq, Nat.reduceEqDiff, Nat.reduceSub, Nat.reduceAdd] <;> rfl)) (Nat.le_of_ble_eq_true rfl) ?_
  simp only [Tryz.results28, go_sem, Nat.reduceMul, Nat.reduceLeDiff, Nat.reduceLT, reduceIte, reduceCtorEq, Nat.reduceEqDiff, Nat.reduceSub, Nat.reduceAdd]
  refine HereV.conv (Conv.knot (id := 120) (tt := 78) (g := 52) (caps := [.box [.rds (II t)], .box [.v (.int .i64 m)], .ptr 110 0]) 6 (t.length + 1) (by simp only [Tryz.results28, go_sem, Nat.reduceMul, Nat.reduceLeDiff, Nat.reduceLT, reduceIte, reduceCtorEq, Nat.reduceEqDiff, Nat.reduceSub, Nat.reduceAdd]) (by simp only [Tryz.results28, go_sem, Nat.reduceMul, Nat.reduceLeDiff, Nat.reduceLT, reduceIte, reduceCtorEq, Nat.reduceEqDiff, Nat.reduceSub, Nat.reduceAdd])) ?_
  rw [knot_succ]
  refine Here.drawC T_ok [.f, .p, .p, .c] [6] [140] [] (Nat.le_of_ble_eq_true rfl) mixed_ok (by kernel_rfl) (by kernel_rfl) (by kernel_rfl) (by simp only [List.mem_cons, List.not_mem_nil, or_false, forall_eq_or_imp, forall_eq, go_sem, Nat.reduceMul, Nat.reduceLeDiff, Nat.reduceLT, reduceIte, reduceCtorEq, Nat.reduceEqDiff, Nat.reduceSub, Nat.reduceAdd] <;> first | exact calm_ptr_ne rfl | exact calm_ne rfl | exact ⟨calm_ptr_ne rfl, calm_ptr_ne rfl⟩ | exact ⟨calm_ptr_ne rfl, calm_ptr_ne rfl, calm_ptr_ne rfl⟩ | exact ⟨calm_ptr_ne rfl, calm_knot (by simp only [go_sem, Nat.reduceMul, Nat.reduceLeDiff, Nat.reduceLT, reduceIte, reduceCtorEq, Nat.reduceEqDiff, Nat.reduceSub, Nat.reduceAdd] <;> exact calm_ptr_ne rfl)⟩ | ((repeat' apply And.intro) <;> first | exact calm_ptr_ne rfl | exact calm_ne rfl)) ?_
  simp only [Tryz.results28, go_sem, Nat.reduceMul, Nat.reduceLeDiff, Nat.reduceLT, reduceIte, reduceCtorEq, Nat.reduceEqDiff, Nat.reduceSub, Nat.reduceAdd]
  refine ⟨⟨calm_ptr_ne rfl, calm_knot (by simp only [Tryz.results28, go_sem, Nat.reduceMul, Nat.reduceLeDiff, Nat.reduceLT, reduceIte, reduceCtorEq, Nat.reduceEqDiff, Nat.reduceSub, Nat.reduceAdd]; exact calm_ptr_ne rfl)⟩, ?_⟩
  refine ⟨_, OpP.call' rfl rfl (order_spec t) (by simp only [go_sem, Nat.reduceMul, Nat.reduceLeDiff, Nat.reduceLT, reduceIte, reduceCtorEq, Nat.reduceEqDiff, Nat.reduceSub, Nat.reduceAdd, List.toList_toArray] <;> first | rfl | exact ⟨rfl, rfl⟩) rfl, ?_⟩
  simp only [Tryz.results28, go_sem, Nat.reduceMul, Nat.reduceLeDiff, Nat.reduceLT, reduceIte, reduceCtorEq, Nat.reduceEqDiff, Nat.reduceSub, Nat.reduceAdd]
  refine HereC.makeSub T_ok (kk := .i64) (m := t.length) 140 rfl rfl (by simp only [go_sem, Nat.reduceMul, Nat.reduceLeDiff, Nat.reduceLT, reduceIte, reduceCtorEq, Nat.reduceEqDiff, Nat.reduceSub, Nat.reduceAdd] <;> rfl) (by simp only [go_sem, Nat.reduceMul, Nat.reduceLeDiff, Nat.reduceLT, reduceIte, reduceCtorEq, Nat.reduceEqDiff, Nat.reduceSub, Nat.reduceAdd] <;> rfl) (by omega) (by decide) (by decide) rfl (keeps_nil _ _) ?_
  simp only [Tryz.results28, go_sem, Nat.reduceMul, Nat.reduceLeDiff, Nat.reduceLT, reduceIte, reduceCtorEq, Nat.reduceEqDiff, Nat.reduceSub, Nat.reduceAdd]
  rw [I_rep]
  refine HereO.callQ T_ok 22 [140,110,130] rfl rfl (hc) (by simp only [go_sem, Nat.reduceMul, Nat.reduceLeDiff, Nat.reduceLT, reduceIte, reduceCtorEq, Nat.reduceEqDiff, Nat.reduceSub, Nat.reduceAdd, List.toList_toArray, ↓reduceIte]) rfl (by decide) (by decide) rfl (fun _ => rfl) (fun _ => rfl) (fun _ => Nat.le_of_ble_eq_true rfl) ?_
  rintro y ⟨hy1, hy2⟩
  simp only [Tryz.results28, go_sem, Nat.reduceMul, Nat.reduceLeDiff, Nat.reduceLT, reduceIte, reduceCtorEq, Nat.reduceEqDiff, Nat.reduceSub, Nat.reduceAdd]
  exact RetC.of (RetT.one 1355 (by simp only [Tryz.results28, go_sem, Nat.reduceMul, Nat.reduceLeDiff, Nat.reduceLT, reduceIte, reduceCtorEq, Nat.reduceEqDiff, Nat.reduceSub, Nat.reduceAdd]; rfl) (by simp only [Tryz.results28, go_sem, Nat.reduceMul, Nat.reduceLeDiff, Nat.reduceLT, reduceIte, reduceCtorEq, Nat.reduceEqDiff, Nat.reduceSub, Nat.reduceAdd] <;> simp [mq]) (by simp only [Tryz.results28, go_sem, Nat.reduceMul, Nat.reduceLeDiff, Nat.reduceLT, reduceIte, reduceCtorEq, Nat.reduceEqDiff, Nat.reduceSub, Nat.reduceAdd] <;> simp [mq]))
theorem implModulesOf (t : List (List Int)) (m : Int) : Spec Tryz.prog 6 [.agg [.rds (II t)], .v (.int .i64 m)] (.tup [.own 0, .v (.int .i64 (codeMs t m))]) [.mods 35 2 (mq (modsR t m))] := by
  unfold modsR codeMs
  refine Spec.of_codeC T_ok Tryz.func6 rfl Tryz.ntmps6 Tryz.call6 (Nat.le_of_ble_eq_true rfl) rfl rfl (CodeV_sound T_ok (by kernel_rfl) rfl ?_)
  simp only [Tryz.results6, go_sem, Nat.reduceMul, Nat.reduceLeDiff, Nat.reduceLT, reduceIte, reduceCtorEq, Nat.reduceEqDiff, Nat.reduceSub, Nat.reduceAdd]
  refine HereO.call T_ok rfl rfl (IsGroup_spec t) (by simp only [go_sem, Nat.reduceMul, Nat.reduceLeDiff, Nat.reduceLT, reduceIte, reduceCtorEq, Nat.reduceEqDiff, Nat.reduceSub, Nat.reduceAdd, List.toList_toArray] <;> first | rfl | exact ⟨rfl, rfl⟩) rfl ?_
  simp only [Tryz.results6, go_sem, Nat.reduceMul, Nat.reduceLeDiff, Nat.reduceLT, reduceIte, reduceCtorEq, Nat.reduceEqDiff, Nat.reduceSub, Nat.reduceAdd]
  refine ⟨fun h => ?_, fun h => ?_⟩
  · rw [if_neg (show ¬ (Grp t ∧ 2 ≤ m ∧ m ≤ 12) from fun q => h q.1)]
    exact RetC.conv (Conv.nilMods 4 150 35 2 (by decide)) (RetC.of (RetT.one 150 (by simp only [Tryz.results6, go_sem, Nat.reduceMul, Nat.reduceLeDiff, Nat.reduceLT, reduceIte, reduceCtorEq, Nat.reduceEqDiff, Nat.reduceSub, Nat.reduceAdd]; rfl) (by first | rfl | (simp only [Tryz.results6, go_sem, Nat.reduceMul, Nat.reduceLeDiff, Nat.reduceLT, reduceIte, reduceCtorEq, Nat.reduceEqDiff, Nat.reduceSub, Nat.reduceAdd]; done) | (simp only [Tryz.results6, go_sem, Nat.reduceMul, Nat.reduceLeDiff, Nat.reduceLT, reduceIte, reduceCtorEq, Nat.reduceEqDiff, Nat.reduceSub, Nat.reduceAdd] <;> simp_all)) (by first | rfl | (simp only [Tryz.results6, go_sem, Nat.reduceMul, Nat.reduceLeDiff, Nat.reduceLT, reduceIte, reduceCtorEq, Nat.reduceEqDiff, Nat.reduceSub, Nat.reduceAdd] <;> simp [mq]))))
  · skip
    refine HereO.call T_ok rfl rfl (isModulus_spec m) (by simp only [go_sem, Nat.reduceMul, Nat.reduceLeDiff, Nat.reduceLT, reduceIte, reduceCtorEq, Nat.reduceEqDiff, Nat.reduceSub, Nat.reduceAdd, List.toList_toArray] <;> first | rfl | exact ⟨rfl, rfl⟩) rfl ?_
    simp only [Tryz.results6, go_sem, Nat.reduceMul, Nat.reduceLeDiff, Nat.reduceLT, reduceIte, reduceCtorEq, Nat.reduceEqDiff, Nat.reduceSub, Nat.reduceAdd]
    refine ⟨fun h2 => ?_, fun h2 => ?_⟩
    · rw [if_neg (show ¬ (Grp t ∧ 2 ≤ m ∧ m ≤ 12) from fun q => h2 q.2)]
      exact RetC.conv (Conv.nilMods 4 150 35 2 (by decide)) (RetC.of (RetT.one 150 (by simp only [Tryz.results6, go_sem, Nat.reduceMul, Nat.reduceLeDiff, Nat.reduceLT, reduceIte, reduceCtorEq, Nat.reduceEqDiff, Nat.reduceSub, Nat.reduceAdd]; rfl) (by first | rfl | (simp only [Tryz.results6, go_sem, Nat.reduceMul, Nat.reduceLeDiff, Nat.reduceLT, reduceIte, reduceCtorEq, Nat.reduceEqDiff, Nat.reduceSub, Nat.reduceAdd]; done) | (simp only [Tryz.results6, go_sem, Nat.reduceMul, Nat.reduceLeDiff, Nat.reduceLT, reduceIte, reduceCtorEq, Nat.reduceEqDiff, Nat.reduceSub, Nat.reduceAdd] <;> simp_all)) (by first | rfl | (simp only [Tryz.results6, go_sem, Nat.reduceMul, Nat.reduceLeDiff, Nat.reduceLT, reduceIte, reduceCtorEq, Nat.reduceEqDiff, Nat.reduceSub, Nat.reduceAdd] <;> simp [mq]))))
    · rw [if_pos (show Grp t ∧ 2 ≤ m ∧ m ≤ 12 from ⟨h, h2⟩)]
      try rw [if_pos h2]
      refine HereO.callOwn T_ok 31 rfl rfl (modulesOf_spec t m h h2) (by simp only [go_sem, Nat.reduceMul, Nat.reduceLeDiff, Nat.reduceLT, reduceIte, reduceCtorEq, Nat.reduceEqDiff, Nat.reduceSub, Nat.reduceAdd, List.toList_toArray] <;> first | rfl | exact ⟨rfl, rfl⟩) rfl (by simp) rfl ?_
      simp only [Tryz.results6, go_sem, Nat.reduceMul, Nat.reduceLeDiff, Nat.reduceLT, reduceIte, reduceCtorEq, Nat.reduceEqDiff, Nat.reduceSub, Nat.reduceAdd]
      exact RetC.of (RetT.one 1496 (by simp only [Tryz.results6, go_sem, Nat.reduceMul, Nat.reduceLeDiff, Nat.reduceLT, reduceIte, reduceCtorEq, Nat.reduceEqDiff, Nat.reduceSub, Nat.reduceAdd]; rfl) (by first | rfl | (simp only [Tryz.results6, go_sem, Nat.reduceMul, Nat.reduceLeDiff, Nat.reduceLT, reduceIte, reduceCtorEq, Nat.reduceEqDiff, Nat.reduceSub, Nat.reduceAdd]; done) | (simp only [Tryz.results6, go_sem, Nat.reduceMul, Nat.reduceLeDiff, Nat.reduceLT, reduceIte, reduceCtorEq, Nat.reduceEqDiff, Nat.reduceSub, Nat.reduceAdd] <;> simp [h, h2])) (by first | rfl | (simp only [Tryz.results6, go_sem, Nat.reduceMul, Nat.reduceLeDiff, Nat.reduceLT, reduceIte, reduceCtorEq, Nat.reduceEqDiff, Nat.reduceSub, Nat.reduceAdd] <;> simp [mq])))
theorem specModulesOf (t : List (List Int)) (m : Int) : Spec Tryz.prog 7 [.agg [.rds (II t)], .v (.int .i64 m)] (.tup [.own 0, .v (.int .i64 (codeMs t m))]) [.mods 35 2 (mq (modsR t m))] := by
  unfold modsR codeMs
  refine Spec.of_codeC T_ok Tryz.func7 rfl Tryz.ntmps7 Tryz.call7 (Nat.le_of_ble_eq_true rfl) rfl rfl (CodeV_sound T_ok (by kernel_rfl) rfl ?_)
  simp only [Tryz.results7, go_sem, Nat.reduceMul, Nat.reduceLeDiff, Nat.reduceLT, reduceIte, reduceCtorEq, Nat.reduceEqDiff, Nat.reduceSub, Nat.reduceAdd]
  refine HereO.call T_ok rfl rfl (l01Is_spec t) (by simp only [go_sem, Nat.reduceMul, Nat.reduceLeDiff, Nat.reduceLT, reduceIte, reduceCtorEq, Nat.reduceEqDiff, Nat.reduceSub, Nat.reduceAdd, List.toList_toArray] <;> first | rfl | exact ⟨rfl, rfl⟩) rfl ?_
  simp only [Tryz.results7, go_sem, Nat.reduceMul, Nat.reduceLeDiff, Nat.reduceLT, reduceIte, reduceCtorEq, Nat.reduceEqDiff, Nat.reduceSub, Nat.reduceAdd]
  refine ⟨fun h => ?_, fun h => ?_⟩
  · rw [if_neg (show ¬ (Grp t ∧ 2 ≤ m ∧ m ≤ 12) from fun q => h q.1)]
    exact RetC.conv (Conv.nilMods 4 150 35 2 (by decide)) (RetC.of (RetT.one 150 (by simp only [Tryz.results7, go_sem, Nat.reduceMul, Nat.reduceLeDiff, Nat.reduceLT, reduceIte, reduceCtorEq, Nat.reduceEqDiff, Nat.reduceSub, Nat.reduceAdd]; rfl) (by first | rfl | (simp only [Tryz.results7, go_sem, Nat.reduceMul, Nat.reduceLeDiff, Nat.reduceLT, reduceIte, reduceCtorEq, Nat.reduceEqDiff, Nat.reduceSub, Nat.reduceAdd]; done) | (simp only [Tryz.results7, go_sem, Nat.reduceMul, Nat.reduceLeDiff, Nat.reduceLT, reduceIte, reduceCtorEq, Nat.reduceEqDiff, Nat.reduceSub, Nat.reduceAdd] <;> simp_all)) (by first | rfl | (simp only [Tryz.results7, go_sem, Nat.reduceMul, Nat.reduceLeDiff, Nat.reduceLT, reduceIte, reduceCtorEq, Nat.reduceEqDiff, Nat.reduceSub, Nat.reduceAdd] <;> simp [mq]))))
  · skip
    refine HereO.call T_ok rfl rfl (l01In_spec m 2 12) (by simp only [go_sem, Nat.reduceMul, Nat.reduceLeDiff, Nat.reduceLT, reduceIte, reduceCtorEq, Nat.reduceEqDiff, Nat.reduceSub, Nat.reduceAdd, List.toList_toArray] <;> first | rfl | exact ⟨rfl, rfl⟩) rfl ?_
    simp only [Tryz.results7, go_sem, Nat.reduceMul, Nat.reduceLeDiff, Nat.reduceLT, reduceIte, reduceCtorEq, Nat.reduceEqDiff, Nat.reduceSub, Nat.reduceAdd]
    refine ⟨fun h2 => ?_, fun h2 => ?_⟩
    · rw [if_neg (show ¬ (Grp t ∧ 2 ≤ m ∧ m ≤ 12) from fun q => h2 q.2)]
      exact RetC.conv (Conv.nilMods 4 150 35 2 (by decide)) (RetC.of (RetT.one 150 (by simp only [Tryz.results7, go_sem, Nat.reduceMul, Nat.reduceLeDiff, Nat.reduceLT, reduceIte, reduceCtorEq, Nat.reduceEqDiff, Nat.reduceSub, Nat.reduceAdd]; rfl) (by first | rfl | (simp only [Tryz.results7, go_sem, Nat.reduceMul, Nat.reduceLeDiff, Nat.reduceLT, reduceIte, reduceCtorEq, Nat.reduceEqDiff, Nat.reduceSub, Nat.reduceAdd]; done) | (simp only [Tryz.results7, go_sem, Nat.reduceMul, Nat.reduceLeDiff, Nat.reduceLT, reduceIte, reduceCtorEq, Nat.reduceEqDiff, Nat.reduceSub, Nat.reduceAdd] <;> simp_all)) (by first | rfl | (simp only [Tryz.results7, go_sem, Nat.reduceMul, Nat.reduceLeDiff, Nat.reduceLT, reduceIte, reduceCtorEq, Nat.reduceEqDiff, Nat.reduceSub, Nat.reduceAdd] <;> simp [mq]))))
    · rw [if_pos (show Grp t ∧ 2 ≤ m ∧ m ≤ 12 from ⟨h, h2⟩)]
      try rw [if_pos h2]
      refine HereO.callOwn T_ok 31 rfl rfl (l02All_spec t m h h2) (by simp only [go_sem, Nat.reduceMul, Nat.reduceLeDiff, Nat.reduceLT, reduceIte, reduceCtorEq, Nat.reduceEqDiff, Nat.reduceSub, Nat.reduceAdd, List.toList_toArray] <;> first | rfl | exact ⟨rfl, rfl⟩) rfl (by simp) rfl ?_
      simp only [Tryz.results7, go_sem, Nat.reduceMul, Nat.reduceLeDiff, Nat.reduceLT, reduceIte, reduceCtorEq, Nat.reduceEqDiff, Nat.reduceSub, Nat.reduceAdd]
      exact RetC.of (RetT.one 1496 (by simp only [Tryz.results7, go_sem, Nat.reduceMul, Nat.reduceLeDiff, Nat.reduceLT, reduceIte, reduceCtorEq, Nat.reduceEqDiff, Nat.reduceSub, Nat.reduceAdd]; rfl) (by first | rfl | (simp only [Tryz.results7, go_sem, Nat.reduceMul, Nat.reduceLeDiff, Nat.reduceLT, reduceIte, reduceCtorEq, Nat.reduceEqDiff, Nat.reduceSub, Nat.reduceAdd]; done) | (simp only [Tryz.results7, go_sem, Nat.reduceMul, Nat.reduceLeDiff, Nat.reduceLT, reduceIte, reduceCtorEq, Nat.reduceEqDiff, Nat.reduceSub, Nat.reduceAdd] <;> simp [h, h2])) (by first | rfl | (simp only [Tryz.results7, go_sem, Nat.reduceMul, Nat.reduceLeDiff, Nat.reduceLT, reduceIte, reduceCtorEq, Nat.reduceEqDiff, Nat.reduceSub, Nat.reduceAdd] <;> simp [mq])))
end Go.Proofs.YtcjhojdlfnpgjaaGreatDoor

namespace Go.Proofs.YtcjhojdlfnpgjaaGreatDoor
open Go.RowKit
set_option linter.unusedVariables false
set_option linter.unusedSimpArgs false
set_option maxRecDepth 100000

theorem sl2_mods : Sl2 Tryz.prog 29 := ⟨35, Tryz.t35, .agg #[.int .i64 0, .slice none 0 0], Tryz.underlying29, by kernel_rfl, by kernel_rfl, by kernel_rfl, by kernel_rfl⟩
theorem lvq_at {q : List (Int × List Int)} {i : Nat} (h : i < q.length) : (lvq (mq q))[i]? = some (.v (.int .i64 q[i].1), .rd (I q[i].2)) := by
  simp [lvq, mq, List.getElem?_eq_getElem h]
theorem lvq_mq_len (q : List (Int × List Int)) : (lvq (mq q)).length = q.length := by simp [lvq, mq]
/-- Marks in a list of modules. -/
def marksM (k : Int) : List (Int × List Int) → List (Int × List Int)
  | [] => []
  | p :: q => (k, marks (k + 1) p.2.length) :: marksM (k + 1 + p.2.length) q
def cellsM : List (Int × List Int) → Nat
  | [] => 0
  | p :: q => 1 + p.2.length + cellsM q
/-- What is asked of a list of modules that a law returns. -/
def OkMods (q : List (Int × List Int)) : Prop := q.length ≤ 1099511627776 ∧ (∀ p ∈ q, p.2.length ≤ 1048576) ∧ (cellsM q : Int) ≤ 1099511627776
theorem cellsM_bound : ∀ {q : List (Int × List Int)} {B : Nat}, (∀ p ∈ q, p.2.length ≤ B) → cellsM q ≤ q.length * (B + 1)
  | [], B, _ => by simp [cellsM]
  | p :: q, B, h => by
    have h1 := h p (List.mem_cons_self ..)
    have h2 := cellsM_bound (q := q) (B := B) fun p hp => h p (List.mem_cons_of_mem _ hp)
    simp only [cellsM, List.length_cons, Nat.succ_mul]
    omega
theorem modsR_ok (t : List (List Int)) (m : Int) : OkMods (modsR t m) := by
  unfold modsR
  split
  · rename_i h
    have ht8 := h.1.2.1
    have h1 := dfsM_len (t := t) h.2.2 t.length []
    have hp8 : 12 ^ t.length ≤ 12 ^ 8 := Nat.pow_le_pow_right (by decide) ht8
    have h2 : ∀ p ∈ withM m (dfsM t m t.length []), p.2.length ≤ 8 := fun p hp => by
      obtain ⟨l, hl, rfl⟩ := List.mem_map.1 hp
      have := (dfsM_Mod _ _ _ hl).2.1
      dsimp only; omega
    have h3 := cellsM_bound h2
    have h4 : (12 : Nat) ^ 8 = 429981696 := by decide
    rw [withM_len] at h3
    refine ⟨by rw [withM_len]; omega, fun p hp => by have := h2 p hp; omega, by omega⟩
  · exact ⟨by simp, fun p hp => (List.not_mem_nil hp).elim, by simp [cellsM]⟩
end Go.Proofs.YtcjhojdlfnpgjaaGreatDoor
