/- Contracts: cyclic and twisted groups. -/
import Derived.Test.YtcjhojdlfnpgjaaGreatDoorEb
import Derived.Test.YtcjhojdlfnpgjaaGreatDoorGe
namespace Go.Proofs.YtcjhojdlfnpgjaaGreatDoor
open Go.RowKit
set_option linter.unusedVariables false
set_option linter.unusedSimpArgs false
set_option maxRecDepth 100000

def cycF (n a b : Nat) : Int := ((a + b) % n : Nat)
theorem l01Cyclic_spec (n : Nat) (h1 : 1 ≤ n) (h2 : n ≤ 64) : Spec Tryz.prog 86 [.v (.int .i64 n)] (.agg [.own 0]) [.rows 33 2 (II (tab (cycF n) n n))] := by
  refine Spec.of_code T_ok Tryz.func86 rfl Tryz.ntmps86 Tryz.call86 (Nat.le_of_ble_eq_true rfl) rfl rfl (CodeV_sound T_ok (by kernel_rfl) rfl ?_)
  simp only [Tryz.results86, go_sem, Nat.reduceMul, Nat.reduceLeDiff, Nat.reduceLT, reduceIte, reduceCtorEq, Nat.reduceEqDiff, Nat.reduceSub, Nat.reduceAdd]
  refine HereO.alloc T_ok 104 rfl rfl (by decide) ?_
  simp only [Tryz.results86, go_sem, Nat.reduceMul, Nat.reduceLeDiff, Nat.reduceLT, reduceIte, reduceCtorEq, Nat.reduceEqDiff, Nat.reduceSub, Nat.reduceAdd]
  refine HereO.buildRow T_ok 120 [] rfl rfl rfl (by decide) rfl rfl rfl (by decide) ?_
  simp only [Tryz.results86, go_sem, Nat.reduceMul, Nat.reduceLeDiff, Nat.reduceLT, reduceIte, reduceCtorEq, Nat.reduceEqDiff, Nat.reduceSub, Nat.reduceAdd]
  refine HereO.conv (Conv.rows (id := 120) (e := 33) 2 0 (by simp only [Tryz.results86, go_sem, Nat.reduceMul, Nat.reduceLeDiff, Nat.reduceLT, reduceIte, reduceCtorEq, Nat.reduceEqDiff, Nat.reduceSub, Nat.reduceAdd]; rfl)) ?_
  refine HereO.opP T_ok (OpP.build built_26 rfl rfl rfl rfl) ?_
  simp only [Tryz.results86, go_sem, Nat.reduceMul, Nat.reduceLeDiff, Nat.reduceLT, reduceIte, reduceCtorEq, Nat.reduceEqDiff, Nat.reduceSub, Nat.reduceAdd]
  refine HereO.alloc T_ok 106 rfl rfl (by decide) ?_
  simp only [Tryz.results86, go_sem, Nat.reduceMul, Nat.reduceLeDiff, Nat.reduceLT, reduceIte, reduceCtorEq, Nat.reduceEqDiff, Nat.reduceSub, Nat.reduceAdd]
  refine HereO.storeAgg T_ok rfl (by simp only [go_sem, Nat.reduceMul, Nat.reduceLeDiff, Nat.reduceLT, reduceIte, reduceCtorEq, Nat.reduceEqDiff, Nat.reduceSub, Nat.reduceAdd] <;> rfl) (by simp only [go_sem, Nat.reduceMul, Nat.reduceLeDiff, Nat.reduceLT, reduceIte, reduceCtorEq, Nat.reduceEqDiff, Nat.reduceSub, Nat.reduceAdd] <;> rfl) rfl (by simp only [go_sem, Nat.reduceMul, Nat.reduceLeDiff, Nat.reduceLT, reduceIte, reduceCtorEq, Nat.reduceEqDiff, Nat.reduceSub, Nat.reduceAdd] <;> rfl) (by simp only [go_sem, Nat.reduceMul, Nat.reduceLeDiff, Nat.reduceLT, reduceIte, reduceCtorEq, Nat.reduceEqDiff, Nat.reduceSub, Nat.reduceAdd] <;> rfl) rfl rfl ?_
  simp only [Tryz.results86, go_sem, Nat.reduceMul, Nat.reduceLeDiff, Nat.reduceLT, reduceIte, reduceCtorEq, Nat.reduceEqDiff, Nat.reduceSub, Nat.reduceAdd]
  refine Here.loopV T_ok (fun k => k ≤ n) (fun k => n - k) (fun k => [(0, .v (.int .i64 n)), (2, .ptr 104 0), (3, .ptr 106 0), (4, .v (.int .i64 k))])
    (fun k => [(104, .cells 26 [.v nilV]), (106, .cells 26 [.own 120]), (120, .rows 33 2 (II (tab (cycF n) n k)))]) 0 (by simp) (by simp only [Tryz.results86, go_sem, Nat.reduceMul, Nat.reduceLeDiff, Nat.reduceLT, reduceIte, reduceCtorEq, Nat.reduceEqDiff, Nat.reduceSub, Nat.reduceAdd]; simp) (by simp only [Tryz.results86, go_sem, Nat.reduceMul, Nat.reduceLeDiff, Nat.reduceLT, reduceIte, reduceCtorEq, Nat.reduceEqDiff, Nat.reduceSub, Nat.reduceAdd]; simp [tab, II, nilV]) ?_
  intro k hk
  simp only [Tryz.results86, go_sem, Nat.reduceMul, Nat.reduceLeDiff, Nat.reduceLT, reduceIte, reduceCtorEq, Nat.reduceEqDiff, Nat.reduceSub, Nat.reduceAdd]
  refine ⟨fun h3 => ?_, fun h3 => ?_⟩
  · refine HereO.buildRow T_ok 130 (I []) rfl rfl rfl (by decide) rfl (by simp only [go_sem, Nat.reduceMul, Nat.reduceLeDiff, Nat.reduceLT, reduceIte, reduceCtorEq, Nat.reduceEqDiff, Nat.reduceSub, Nat.reduceAdd] <;> rfl) rfl (by decide) ?_
    simp only [Tryz.results86, go_sem, Nat.reduceMul, Nat.reduceLeDiff, Nat.reduceLT, reduceIte, reduceCtorEq, Nat.reduceEqDiff, Nat.reduceSub, Nat.reduceAdd]
    refine Here.loopV T_ok (fun j => j ≤ n) (fun j => n - j) (fun j => [(0, .v (.int .i64 n)), (2, .ptr 104 0), (3, .ptr 106 0), (4, .v (.int .i64 k)), (5, .own 130), (6, .v (.int .i64 j))])
      (fun j => [(104, .cells 26 [.v nilV]), (106, .cells 26 [.own 120]), (120, .rows 33 2 (II (tab (cycF n) n k))), (130, .row 2 (I (upTo (cycF n k) j)))]) 0 (by simp) (by simp only [Tryz.results86, go_sem, Nat.reduceMul, Nat.reduceLeDiff, Nat.reduceLT, reduceIte, reduceCtorEq, Nat.reduceEqDiff, Nat.reduceSub, Nat.reduceAdd]; simp) (by simp only [Tryz.results86, go_sem, Nat.reduceMul, Nat.reduceLeDiff, Nat.reduceLT, reduceIte, reduceCtorEq, Nat.reduceEqDiff, Nat.reduceSub, Nat.reduceAdd]; simp [upTo, I]) ?_
    intro j hj
    simp only [Tryz.results86, go_sem, Nat.reduceMul, Nat.reduceLeDiff, Nat.reduceLT, reduceIte, reduceCtorEq, Nat.reduceEqDiff, Nat.reduceSub, Nat.reduceAdd]
    refine ⟨fun h4 => ?_, fun h4 => ?_⟩
    · have e1 : ((k : Int) + (j : Int)).tmod (n : Int) = cycF n k j := by rw [show (k : Int) + (j : Int) = ((k + j : Nat) : Int) by push_cast; rfl]; rfl
      rw [e1]
      refine ⟨by unfold InR; omega, by omega, ?_⟩
      refine HereO.buildRow T_ok 140 (I [cycF n k j]) rfl rfl rfl (by decide) rfl (by simp only [go_sem, Nat.reduceMul, Nat.reduceLeDiff, Nat.reduceLT, reduceIte, reduceCtorEq, Nat.reduceEqDiff, Nat.reduceSub, Nat.reduceAdd] <;> rfl) rfl (by decide) ?_
      simp only [Tryz.results86, go_sem, Nat.reduceMul, Nat.reduceLeDiff, Nat.reduceLT, reduceIte, reduceCtorEq, Nat.reduceEqDiff, Nat.reduceSub, Nat.reduceAdd]
      refine HereO.append T_ok (I [cycF n k j]) rfl rfl (by decide) (by simp only [go_sem, Nat.reduceMul, Nat.reduceLeDiff, Nat.reduceLT, reduceIte, reduceCtorEq, Nat.reduceEqDiff, Nat.reduceSub, Nat.reduceAdd] <;> rfl) (by decide) (by simp only [go_sem, Nat.reduceMul, Nat.reduceLeDiff, Nat.reduceLT, reduceIte, reduceCtorEq, Nat.reduceEqDiff, Nat.reduceSub, Nat.reduceAdd] <;> rfl) (by simp only [go_sem, Nat.reduceMul, Nat.reduceLeDiff, Nat.reduceLT, reduceIte, reduceCtorEq, Nat.reduceEqDiff, Nat.reduceSub, Nat.reduceAdd] <;> rfl) (.own 140 _ _ (by decide) (by simp only [go_sem, Nat.reduceMul, Nat.reduceLeDiff, Nat.reduceLT, reduceIte, reduceCtorEq, Nat.reduceEqDiff, Nat.reduceSub, Nat.reduceAdd] <;> rfl)) (I_one _) (by rw [I_len, I_len, upTo_len]; simp; omega) ?_
      simp only [Tryz.results86, go_sem, Nat.reduceMul, Nat.reduceLeDiff, Nat.reduceLT, reduceIte, reduceCtorEq, Nat.reduceEqDiff, Nat.reduceSub, Nat.reduceAdd]
      exact ⟨by unfold InR; omega, j + 1, by omega, by omega, by simp, by rw [I_append, upTo_succ]⟩
    · have : j = n := by omega
      subst this
      refine HereO.buildRowL T_ok 150 [.own 130] rfl rfl rfl (by decide) rfl (by simp only [go_sem, Nat.reduceMul, Nat.reduceLeDiff, Nat.reduceLT, reduceIte, reduceCtorEq, Nat.reduceEqDiff, Nat.reduceSub, Nat.reduceAdd] <;> rfl) rfl (by decide) (by simp only [go_sem, Nat.reduceMul, Nat.reduceLeDiff, Nat.reduceLT, reduceIte, reduceCtorEq, Nat.reduceEqDiff, Nat.reduceSub, Nat.reduceAdd] <;> rfl) ?_
      simp only [Tryz.results86, go_sem, Nat.reduceMul, Nat.reduceLeDiff, Nat.reduceLT, reduceIte, reduceCtorEq, Nat.reduceEqDiff, Nat.reduceSub, Nat.reduceAdd]
      refine HereO.appendRows T_ok (id := 120) (j := 150) (i := 130) rfl rfl (by decide) (by simp only [go_sem, Nat.reduceMul, Nat.reduceLeDiff, Nat.reduceLT, reduceIte, reduceCtorEq, Nat.reduceEqDiff, Nat.reduceSub, Nat.reduceAdd] <;> rfl) (by decide) (by simp only [go_sem, Nat.reduceMul, Nat.reduceLeDiff, Nat.reduceLT, reduceIte, reduceCtorEq, Nat.reduceEqDiff, Nat.reduceSub, Nat.reduceAdd] <;> rfl) (by simp only [go_sem, Nat.reduceMul, Nat.reduceLeDiff, Nat.reduceLT, reduceIte, reduceCtorEq, Nat.reduceEqDiff, Nat.reduceSub, Nat.reduceAdd] <;> rfl) (by simp only [go_sem, Nat.reduceMul, Nat.reduceLeDiff, Nat.reduceLT, reduceIte, reduceCtorEq, Nat.reduceEqDiff, Nat.reduceSub, Nat.reduceAdd] <;> rfl) (by simp only [go_sem, Nat.reduceMul, Nat.reduceLeDiff, Nat.reduceLT, reduceIte, reduceCtorEq, Nat.reduceEqDiff, Nat.reduceSub, Nat.reduceAdd] <;> rfl) (by decide) (by decide) (by rw [II_len, tab_len]; omega) ?_
      simp only [Tryz.results86, go_sem, Nat.reduceMul, Nat.reduceLeDiff, Nat.reduceLT, reduceIte, reduceCtorEq, Nat.reduceEqDiff, Nat.reduceSub, Nat.reduceAdd]
      refine HereO.store T_ok rfl (by simp only [go_sem, Nat.reduceMul, Nat.reduceLeDiff, Nat.reduceLT, reduceIte, reduceCtorEq, Nat.reduceEqDiff, Nat.reduceSub, Nat.reduceAdd] <;> rfl) (by simp only [go_sem, Nat.reduceMul, Nat.reduceLeDiff, Nat.reduceLT, reduceIte, reduceCtorEq, Nat.reduceEqDiff, Nat.reduceSub, Nat.reduceAdd] <;> rfl) rfl (by simp only [go_sem, Nat.reduceMul, Nat.reduceLeDiff, Nat.reduceLT, reduceIte, reduceCtorEq, Nat.reduceEqDiff, Nat.reduceSub, Nat.reduceAdd] <;> rfl) rfl (by simp only [go_sem, Nat.reduceMul, Nat.reduceLeDiff, Nat.reduceLT, reduceIte, reduceCtorEq, Nat.reduceEqDiff, Nat.reduceSub, Nat.reduceAdd] <;> rfl) (by decide) ?_
      simp only [Tryz.results86, go_sem, Nat.reduceMul, Nat.reduceLeDiff, Nat.reduceLT, reduceIte, reduceCtorEq, Nat.reduceEqDiff, Nat.reduceSub, Nat.reduceAdd]
      refine ⟨by unfold InR; omega, k + 1, by omega, by omega, by simp, by simp [II_append, tab_succ]⟩
  · have : k = n := by omega
    subst this
    refine HereO.storeAgg T_ok rfl (by simp only [go_sem, Nat.reduceMul, Nat.reduceLeDiff, Nat.reduceLT, reduceIte, reduceCtorEq, Nat.reduceEqDiff, Nat.reduceSub, Nat.reduceAdd] <;> rfl) (by simp only [go_sem, Nat.reduceMul, Nat.reduceLeDiff, Nat.reduceLT, reduceIte, reduceCtorEq, Nat.reduceEqDiff, Nat.reduceSub, Nat.reduceAdd] <;> rfl) rfl (by simp only [go_sem, Nat.reduceMul, Nat.reduceLeDiff, Nat.reduceLT, reduceIte, reduceCtorEq, Nat.reduceEqDiff, Nat.reduceSub, Nat.reduceAdd] <;> rfl) (by simp only [go_sem, Nat.reduceMul, Nat.reduceLeDiff, Nat.reduceLT, reduceIte, reduceCtorEq, Nat.reduceEqDiff, Nat.reduceSub, Nat.reduceAdd] <;> rfl) rfl rfl ?_
    simp only [Tryz.results86, go_sem, Nat.reduceMul, Nat.reduceLeDiff, Nat.reduceLT, reduceIte, reduceCtorEq, Nat.reduceEqDiff, Nat.reduceSub, Nat.reduceAdd]
    refine RetT.one 120 (by simp only [Tryz.results86, go_sem, Nat.reduceMul, Nat.reduceLeDiff, Nat.reduceLT, reduceIte, reduceCtorEq, Nat.reduceEqDiff, Nat.reduceSub, Nat.reduceAdd]; rfl) rfl ?_
    simp only [Tryz.results86, go_sem, Nat.reduceMul, Nat.reduceLeDiff, Nat.reduceLT, reduceIte, reduceCtorEq, Nat.reduceEqDiff, Nat.reduceSub, Nat.reduceAdd]

/-- The products of the groups that turn the sign, by the program and by the specification. -/
def twG (n more x u y v : Nat) : Int :=
  (n : Int) * (((x + u) % 2 : Nat) : Int) + ((if u = 1 then (v : Int) - (y : Int) + n else (y : Int) + (v : Int)) + (if x = 1 ∧ u = 1 then (more : Int) else 0)).tmod n
def twF (n more a b : Nat) : Int := twG n more (a / n) (b / n) (a % n) (b % n)
def twH (n more x u y v : Nat) : Int :=
  (n : Int) * (((x + u) % 2 : Nat) : Int) + ((if u = 1 then (v : Int) - (y : Int) else (y : Int) + (v : Int)) + (more : Int) * (x : Int) * (u : Int)) % (n : Int)
def twS (n more a b : Nat) : Int := twH n more (a / n) (b / n) (a % n) (b % n)
theorem l01Twisted_spec (n more : Nat) (h1 : 1 ≤ n) (h2 : n ≤ 4) (hm : more ≤ 4) : Spec Tryz.prog 88 [.v (.int .i64 n), .v (.int .i64 more)] (.agg [.own 0]) [.rows 33 2 (II (tab (twS n more) (2 * n) (2 * n)))] := by
  have hcast : (2 : Int) * (n : Int) = ((2 * n : Nat) : Int) := by push_cast; rfl
  refine Spec.of_code T_ok Tryz.func88 rfl Tryz.ntmps88 Tryz.call88 (Nat.le_of_ble_eq_true rfl) rfl rfl (CodeV_sound T_ok (by kernel_rfl) rfl ?_)
  simp only [Tryz.results88, go_sem, Nat.reduceMul, Nat.reduceLeDiff, Nat.reduceLT, reduceIte, reduceCtorEq, Nat.reduceEqDiff, Nat.reduceSub, Nat.reduceAdd]
  refine HereO.alloc T_ok 104 rfl rfl (by decide) ?_
  simp only [Tryz.results88, go_sem, Nat.reduceMul, Nat.reduceLeDiff, Nat.reduceLT, reduceIte, reduceCtorEq, Nat.reduceEqDiff, Nat.reduceSub, Nat.reduceAdd]
  refine HereO.buildRow T_ok 120 [] rfl rfl rfl (by decide) rfl rfl rfl (by decide) ?_
  simp only [Tryz.results88, go_sem, Nat.reduceMul, Nat.reduceLeDiff, Nat.reduceLT, reduceIte, reduceCtorEq, Nat.reduceEqDiff, Nat.reduceSub, Nat.reduceAdd]
  refine HereO.conv (Conv.rows (id := 120) (e := 33) 2 0 (by simp only [Tryz.results88, go_sem, Nat.reduceMul, Nat.reduceLeDiff, Nat.reduceLT, reduceIte, reduceCtorEq, Nat.reduceEqDiff, Nat.reduceSub, Nat.reduceAdd]; rfl)) ?_
  refine HereO.opP T_ok (OpP.build built_26 rfl rfl rfl rfl) ?_
  simp only [Tryz.results88, go_sem, Nat.reduceMul, Nat.reduceLeDiff, Nat.reduceLT, reduceIte, reduceCtorEq, Nat.reduceEqDiff, Nat.reduceSub, Nat.reduceAdd]
  refine HereO.alloc T_ok 106 rfl rfl (by decide) ?_
  simp only [Tryz.results88, go_sem, Nat.reduceMul, Nat.reduceLeDiff, Nat.reduceLT, reduceIte, reduceCtorEq, Nat.reduceEqDiff, Nat.reduceSub, Nat.reduceAdd]
  refine HereO.storeAgg T_ok rfl (by simp only [go_sem, Nat.reduceMul, Nat.reduceLeDiff, Nat.reduceLT, reduceIte, reduceCtorEq, Nat.reduceEqDiff, Nat.reduceSub, Nat.reduceAdd] <;> rfl) (by simp only [go_sem, Nat.reduceMul, Nat.reduceLeDiff, Nat.reduceLT, reduceIte, reduceCtorEq, Nat.reduceEqDiff, Nat.reduceSub, Nat.reduceAdd] <;> rfl) rfl (by simp only [go_sem, Nat.reduceMul, Nat.reduceLeDiff, Nat.reduceLT, reduceIte, reduceCtorEq, Nat.reduceEqDiff, Nat.reduceSub, Nat.reduceAdd] <;> rfl) (by simp only [go_sem, Nat.reduceMul, Nat.reduceLeDiff, Nat.reduceLT, reduceIte, reduceCtorEq, Nat.reduceEqDiff, Nat.reduceSub, Nat.reduceAdd] <;> rfl) rfl rfl ?_
  simp only [Tryz.results88, go_sem, Nat.reduceMul, Nat.reduceLeDiff, Nat.reduceLT, reduceIte, reduceCtorEq, Nat.reduceEqDiff, Nat.reduceSub, Nat.reduceAdd]
  refine Here.loopV T_ok (fun k => k ≤ 2 * n) (fun k => 2 * n - k) (fun k => [(0, .v (.int .i64 n)), (1, .v (.int .i64 more)), (4, .ptr 104 0), (5, .ptr 106 0), (6, .v (.int .i64 k))])
    (fun k => [(104, .cells 26 [.v nilV]), (106, .cells 26 [.own 120]), (120, .rows 33 2 (II (tab (twS n more) (2 * n) k)))]) 0 (by simp) (by simp only [Tryz.results88, go_sem, Nat.reduceMul, Nat.reduceLeDiff, Nat.reduceLT, reduceIte, reduceCtorEq, Nat.reduceEqDiff, Nat.reduceSub, Nat.reduceAdd]; simp) (by simp only [Tryz.results88, go_sem, Nat.reduceMul, Nat.reduceLeDiff, Nat.reduceLT, reduceIte, reduceCtorEq, Nat.reduceEqDiff, Nat.reduceSub, Nat.reduceAdd]; simp [tab, II, nilV]) ?_
  intro k hk
  simp only [Tryz.results88, go_sem, Nat.reduceMul, Nat.reduceLeDiff, Nat.reduceLT, reduceIte, reduceCtorEq, Nat.reduceEqDiff, Nat.reduceSub, Nat.reduceAdd]
  rw [hcast]
  refine ⟨by unfold InR; omega, fun h3 => ?_, fun h3 => ?_⟩
  · refine HereO.buildRow T_ok 130 (I []) rfl rfl rfl (by decide) rfl (by simp only [go_sem, Nat.reduceMul, Nat.reduceLeDiff, Nat.reduceLT, reduceIte, reduceCtorEq, Nat.reduceEqDiff, Nat.reduceSub, Nat.reduceAdd] <;> rfl) rfl (by decide) ?_
    simp only [Tryz.results88, go_sem, Nat.reduceMul, Nat.reduceLeDiff, Nat.reduceLT, reduceIte, reduceCtorEq, Nat.reduceEqDiff, Nat.reduceSub, Nat.reduceAdd]
    refine Here.loopV T_ok (fun j => j ≤ 2 * n) (fun j => 2 * n - j) (fun j => [(0, .v (.int .i64 n)), (1, .v (.int .i64 more)), (4, .ptr 104 0), (5, .ptr 106 0), (6, .v (.int .i64 k)), (7, .own 130), (8, .v (.int .i64 j))])
      (fun j => [(104, .cells 26 [.v nilV]), (106, .cells 26 [.own 120]), (120, .rows 33 2 (II (tab (twS n more) (2 * n) k))), (130, .row 2 (I (upTo (twS n more k) j)))]) 0 (by simp) (by simp only [Tryz.results88, go_sem, Nat.reduceMul, Nat.reduceLeDiff, Nat.reduceLT, reduceIte, reduceCtorEq, Nat.reduceEqDiff, Nat.reduceSub, Nat.reduceAdd]; simp) (by simp only [Tryz.results88, go_sem, Nat.reduceMul, Nat.reduceLeDiff, Nat.reduceLT, reduceIte, reduceCtorEq, Nat.reduceEqDiff, Nat.reduceSub, Nat.reduceAdd]; simp [upTo, I]) ?_
    intro j hj
    simp only [Tryz.results88, go_sem, Nat.reduceMul, Nat.reduceLeDiff, Nat.reduceLT, reduceIte, reduceCtorEq, Nat.reduceEqDiff, Nat.reduceSub, Nat.reduceAdd]
    rw [hcast]
    refine ⟨by unfold InR; omega, fun h4 => ?_, fun h4 => ?_⟩
    · have e1 : (k : Int).tdiv (n : Int) = ((k / n : Nat) : Int) := rfl
      have e2 : (j : Int).tdiv (n : Int) = ((j / n : Nat) : Int) := rfl
      have e3 : (k : Int).tmod (n : Int) = ((k % n : Nat) : Int) := rfl
      have e4 : (j : Int).tmod (n : Int) = ((j % n : Nat) : Int) := rfl
      have d1 : k / n < 2 := Nat.div_lt_of_lt_mul (by omega)
      have d2 : j / n < 2 := Nat.div_lt_of_lt_mul (by omega)
      have d3 : k % n < n := Nat.mod_lt _ (by omega)
      have d4 : j % n < n := Nat.mod_lt _ (by omega)
      have hv : twS n more k j = twH n more (k / n) (j / n) (k % n) (j % n) := rfl
      refine Here.draw T_ok mixed_ok (by kernel_rfl) ?_
      simp only [Tryz.results88, go_sem, Nat.reduceMul, Nat.reduceLeDiff, Nat.reduceLT, reduceIte, reduceCtorEq, Nat.reduceEqDiff, Nat.reduceSub, Nat.reduceAdd]
      rw [e1, e2, e3, e4]
      clear e1 e2 e3 e4
      generalize k / n = x at *
      generalize j / n = u at *
      generalize k % n = y at *
      generalize j % n = v at *
      have e5 : ((x : Int) + (u : Int)).tmod 2 = (((x + u) % 2 : Nat) : Int) := by rw [show (x : Int) + (u : Int) = ((x + u : Nat) : Int) by push_cast; rfl]; rfl
      have hs : (x + u) % 2 < 2 := Nat.mod_lt _ (by omega)
      have hn0 : 0 ≤ (n : Int) * (((x + u) % 2 : Nat) : Int) := Int.mul_nonneg (by omega) (by omega)
      have hn1 : (n : Int) * (((x + u) % 2 : Nat) : Int) ≤ 4 * 2 := Int.mul_le_mul (by omega) (by omega) (by omega) (by omega)
      have m0 : 0 ≤ (more : Int) * (x : Int) := Int.mul_nonneg (by omega) (by omega)
      have m1 : (more : Int) * (x : Int) ≤ 4 * 2 := Int.mul_le_mul (by omega) (by omega) (by omega) (by omega)
      have m2 : 0 ≤ (more : Int) * (x : Int) * (u : Int) := Int.mul_nonneg m0 (by omega)
      have m3 : (more : Int) * (x : Int) * (u : Int) ≤ 8 * 2 := Int.mul_le_mul m1 (by omega) (by omega) (by omega)
      refine ⟨⟨by omega, by unfold InR; omega⟩, by omega, ⟨by omega, by unfold InR; omega⟩, by omega, by unfold InR; omega, fun hu => ?_, fun hu => ?_⟩
      · rw [e5]
        have q : twH n more x u y v = (n : Int) * (((x + u) % 2 : Nat) : Int) + ((v : Int) - (y : Int) + (more : Int) * (x : Int) * (u : Int)) % (n : Int) := by unfold twH; rw [if_pos (by omega)]
        have z0 : 0 ≤ ((v : Int) - (y : Int) + (more : Int) * (x : Int) * (u : Int)) % (n : Int) := Int.emod_nonneg _ (by omega)
        have z1 : ((v : Int) - (y : Int) + (more : Int) * (x : Int) * (u : Int)) % (n : Int) < n := Int.emod_lt_of_pos _ (by omega)
        refine ⟨by unfold InR; omega, by unfold InR; omega, by decide, by unfold InR; omega, by unfold InR; omega, by unfold InR; omega, by unfold InR; omega, ?_⟩
        refine HereO.call T_ok rfl rfl (l01Mod_spec ((v : Int) - (y : Int) + (more : Int) * (x : Int) * (u : Int)) n (by omega) (by omega) ⟨by omega, by omega⟩) (by simp only [go_sem, Nat.reduceMul, Nat.reduceLeDiff, Nat.reduceLT, reduceIte, reduceCtorEq, Nat.reduceEqDiff, Nat.reduceSub, Nat.reduceAdd, List.toList_toArray] <;> first | rfl | exact ⟨rfl, rfl⟩) rfl ?_
        simp only [Tryz.results88, go_sem, Nat.reduceMul, Nat.reduceLeDiff, Nat.reduceLT, reduceIte, reduceCtorEq, Nat.reduceEqDiff, Nat.reduceSub, Nat.reduceAdd]
        refine ⟨by unfold InR; omega, ?_⟩
        refine HereO.buildRow T_ok 140 (I [twS n more k j]) rfl rfl rfl (by decide) rfl (by simp only [Tryz.results88, go_sem, Nat.reduceMul, Nat.reduceLeDiff, Nat.reduceLT, reduceIte, reduceCtorEq, Nat.reduceEqDiff, Nat.reduceSub, Nat.reduceAdd]; rw [hv, q]; rfl) rfl (by decide) ?_
        simp only [Tryz.results88, go_sem, Nat.reduceMul, Nat.reduceLeDiff, Nat.reduceLT, reduceIte, reduceCtorEq, Nat.reduceEqDiff, Nat.reduceSub, Nat.reduceAdd]
        refine HereO.append T_ok (I [twS n more k j]) rfl rfl (by decide) (by simp only [go_sem, Nat.reduceMul, Nat.reduceLeDiff, Nat.reduceLT, reduceIte, reduceCtorEq, Nat.reduceEqDiff, Nat.reduceSub, Nat.reduceAdd] <;> rfl) (by decide) (by simp only [go_sem, Nat.reduceMul, Nat.reduceLeDiff, Nat.reduceLT, reduceIte, reduceCtorEq, Nat.reduceEqDiff, Nat.reduceSub, Nat.reduceAdd] <;> rfl) (by simp only [go_sem, Nat.reduceMul, Nat.reduceLeDiff, Nat.reduceLT, reduceIte, reduceCtorEq, Nat.reduceEqDiff, Nat.reduceSub, Nat.reduceAdd] <;> rfl) (.own 140 _ _ (by decide) (by simp only [go_sem, Nat.reduceMul, Nat.reduceLeDiff, Nat.reduceLT, reduceIte, reduceCtorEq, Nat.reduceEqDiff, Nat.reduceSub, Nat.reduceAdd] <;> rfl)) (I_one _) (by rw [I_len, I_len, upTo_len]; simp; omega) ?_
        simp only [Tryz.results88, go_sem, Nat.reduceMul, Nat.reduceLeDiff, Nat.reduceLT, reduceIte, reduceCtorEq, Nat.reduceEqDiff, Nat.reduceSub, Nat.reduceAdd]
        exact ⟨by unfold InR; omega, j + 1, by omega, by omega, by simp, by rw [I_append, upTo_succ]⟩
      · rw [e5]
        have q : twH n more x u y v = (n : Int) * (((x + u) % 2 : Nat) : Int) + ((y : Int) + (v : Int) + (more : Int) * (x : Int) * (u : Int)) % (n : Int) := by unfold twH; rw [if_neg (by omega)]
        have z0 : 0 ≤ ((y : Int) + (v : Int) + (more : Int) * (x : Int) * (u : Int)) % (n : Int) := Int.emod_nonneg _ (by omega)
        have z1 : ((y : Int) + (v : Int) + (more : Int) * (x : Int) * (u : Int)) % (n : Int) < n := Int.emod_lt_of_pos _ (by omega)
        refine ⟨by unfold InR; omega, by decide, by unfold InR; omega, by unfold InR; omega, by unfold InR; omega, by unfold InR; omega, ?_⟩
        refine HereO.call T_ok rfl rfl (l01Mod_spec ((y : Int) + (v : Int) + (more : Int) * (x : Int) * (u : Int)) n (by omega) (by omega) ⟨by omega, by omega⟩) (by simp only [go_sem, Nat.reduceMul, Nat.reduceLeDiff, Nat.reduceLT, reduceIte, reduceCtorEq, Nat.reduceEqDiff, Nat.reduceSub, Nat.reduceAdd, List.toList_toArray] <;> first | rfl | exact ⟨rfl, rfl⟩) rfl ?_
        simp only [Tryz.results88, go_sem, Nat.reduceMul, Nat.reduceLeDiff, Nat.reduceLT, reduceIte, reduceCtorEq, Nat.reduceEqDiff, Nat.reduceSub, Nat.reduceAdd]
        refine ⟨by unfold InR; omega, ?_⟩
        refine HereO.buildRow T_ok 140 (I [twS n more k j]) rfl rfl rfl (by decide) rfl (by simp only [Tryz.results88, go_sem, Nat.reduceMul, Nat.reduceLeDiff, Nat.reduceLT, reduceIte, reduceCtorEq, Nat.reduceEqDiff, Nat.reduceSub, Nat.reduceAdd]; rw [hv, q]; rfl) rfl (by decide) ?_
        simp only [Tryz.results88, go_sem, Nat.reduceMul, Nat.reduceLeDiff, Nat.reduceLT, reduceIte, reduceCtorEq, Nat.reduceEqDiff, Nat.reduceSub, Nat.reduceAdd]
        refine HereO.append T_ok (I [twS n more k j]) rfl rfl (by decide) (by simp only [go_sem, Nat.reduceMul, Nat.reduceLeDiff, Nat.reduceLT, reduceIte, reduceCtorEq, Nat.reduceEqDiff, Nat.reduceSub, Nat.reduceAdd] <;> rfl) (by decide) (by simp only [go_sem, Nat.reduceMul, Nat.reduceLeDiff, Nat.reduceLT, reduceIte, reduceCtorEq, Nat.reduceEqDiff, Nat.reduceSub, Nat.reduceAdd] <;> rfl) (by simp only [go_sem, Nat.reduceMul, Nat.reduceLeDiff, Nat.reduceLT, reduceIte, reduceCtorEq, Nat.reduceEqDiff, Nat.reduceSub, Nat.reduceAdd] <;> rfl) (.own 140 _ _ (by decide) (by simp only [go_sem, Nat.reduceMul, Nat.reduceLeDiff, Nat.reduceLT, reduceIte, reduceCtorEq, Nat.reduceEqDiff, Nat.reduceSub, Nat.reduceAdd] <;> rfl)) (I_one _) (by rw [I_len, I_len, upTo_len]; simp; omega) ?_
        simp only [Tryz.results88, go_sem, Nat.reduceMul, Nat.reduceLeDiff, Nat.reduceLT, reduceIte, reduceCtorEq, Nat.reduceEqDiff, Nat.reduceSub, Nat.reduceAdd]
        exact ⟨by unfold InR; omega, j + 1, by omega, by omega, by simp, by rw [I_append, upTo_succ]⟩
    · have : j = 2 * n := by omega
      subst this
      refine HereO.buildRowL T_ok 150 [.own 130] rfl rfl rfl (by decide) rfl (by simp only [go_sem, Nat.reduceMul, Nat.reduceLeDiff, Nat.reduceLT, reduceIte, reduceCtorEq, Nat.reduceEqDiff, Nat.reduceSub, Nat.reduceAdd] <;> rfl) rfl (by decide) (by simp only [go_sem, Nat.reduceMul, Nat.reduceLeDiff, Nat.reduceLT, reduceIte, reduceCtorEq, Nat.reduceEqDiff, Nat.reduceSub, Nat.reduceAdd] <;> rfl) ?_
      simp only [Tryz.results88, go_sem, Nat.reduceMul, Nat.reduceLeDiff, Nat.reduceLT, reduceIte, reduceCtorEq, Nat.reduceEqDiff, Nat.reduceSub, Nat.reduceAdd]
      refine HereO.appendRows T_ok (id := 120) (j := 150) (i := 130) rfl rfl (by decide) (by simp only [go_sem, Nat.reduceMul, Nat.reduceLeDiff, Nat.reduceLT, reduceIte, reduceCtorEq, Nat.reduceEqDiff, Nat.reduceSub, Nat.reduceAdd] <;> rfl) (by decide) (by simp only [go_sem, Nat.reduceMul, Nat.reduceLeDiff, Nat.reduceLT, reduceIte, reduceCtorEq, Nat.reduceEqDiff, Nat.reduceSub, Nat.reduceAdd] <;> rfl) (by simp only [go_sem, Nat.reduceMul, Nat.reduceLeDiff, Nat.reduceLT, reduceIte, reduceCtorEq, Nat.reduceEqDiff, Nat.reduceSub, Nat.reduceAdd] <;> rfl) (by simp only [go_sem, Nat.reduceMul, Nat.reduceLeDiff, Nat.reduceLT, reduceIte, reduceCtorEq, Nat.reduceEqDiff, Nat.reduceSub, Nat.reduceAdd] <;> rfl) (by simp only [go_sem, Nat.reduceMul, Nat.reduceLeDiff, Nat.reduceLT, reduceIte, reduceCtorEq, Nat.reduceEqDiff, Nat.reduceSub, Nat.reduceAdd] <;> rfl) (by decide) (by decide) (by rw [II_len, tab_len]; omega) ?_
      simp only [Tryz.results88, go_sem, Nat.reduceMul, Nat.reduceLeDiff, Nat.reduceLT, reduceIte, reduceCtorEq, Nat.reduceEqDiff, Nat.reduceSub, Nat.reduceAdd]
      refine HereO.store T_ok rfl (by simp only [go_sem, Nat.reduceMul, Nat.reduceLeDiff, Nat.reduceLT, reduceIte, reduceCtorEq, Nat.reduceEqDiff, Nat.reduceSub, Nat.reduceAdd] <;> rfl) (by simp only [go_sem, Nat.reduceMul, Nat.reduceLeDiff, Nat.reduceLT, reduceIte, reduceCtorEq, Nat.reduceEqDiff, Nat.reduceSub, Nat.reduceAdd] <;> rfl) rfl (by simp only [go_sem, Nat.reduceMul, Nat.reduceLeDiff, Nat.reduceLT, reduceIte, reduceCtorEq, Nat.reduceEqDiff, Nat.reduceSub, Nat.reduceAdd] <;> rfl) rfl (by simp only [go_sem, Nat.reduceMul, Nat.reduceLeDiff, Nat.reduceLT, reduceIte, reduceCtorEq, Nat.reduceEqDiff, Nat.reduceSub, Nat.reduceAdd] <;> rfl) (by decide) ?_
      simp only [Tryz.results88, go_sem, Nat.reduceMul, Nat.reduceLeDiff, Nat.reduceLT, reduceIte, reduceCtorEq, Nat.reduceEqDiff, Nat.reduceSub, Nat.reduceAdd]
      refine ⟨by unfold InR; omega, k + 1, by omega, by omega, by simp, by simp [II_append, tab_succ]⟩
  · have : k = 2 * n := by omega
    subst this
    refine HereO.storeAgg T_ok rfl (by simp only [go_sem, Nat.reduceMul, Nat.reduceLeDiff, Nat.reduceLT, reduceIte, reduceCtorEq, Nat.reduceEqDiff, Nat.reduceSub, Nat.reduceAdd] <;> rfl) (by simp only [go_sem, Nat.reduceMul, Nat.reduceLeDiff, Nat.reduceLT, reduceIte, reduceCtorEq, Nat.reduceEqDiff, Nat.reduceSub, Nat.reduceAdd] <;> rfl) rfl (by simp only [go_sem, Nat.reduceMul, Nat.reduceLeDiff, Nat.reduceLT, reduceIte, reduceCtorEq, Nat.reduceEqDiff, Nat.reduceSub, Nat.reduceAdd] <;> rfl) (by simp only [go_sem, Nat.reduceMul, Nat.reduceLeDiff, Nat.reduceLT, reduceIte, reduceCtorEq, Nat.reduceEqDiff, Nat.reduceSub, Nat.reduceAdd] <;> rfl) rfl rfl ?_
    simp only [Tryz.results88, go_sem, Nat.reduceMul, Nat.reduceLeDiff, Nat.reduceLT, reduceIte, reduceCtorEq, Nat.reduceEqDiff, Nat.reduceSub, Nat.reduceAdd]
    refine RetT.one 120 (by simp only [Tryz.results88, go_sem, Nat.reduceMul, Nat.reduceLeDiff, Nat.reduceLT, reduceIte, reduceCtorEq, Nat.reduceEqDiff, Nat.reduceSub, Nat.reduceAdd]; rfl) rfl ?_
    simp only [Tryz.results88, go_sem, Nat.reduceMul, Nat.reduceLeDiff, Nat.reduceLT, reduceIte, reduceCtorEq, Nat.reduceEqDiff, Nat.reduceSub, Nat.reduceAdd]
end Go.Proofs.YtcjhojdlfnpgjaaGreatDoor
