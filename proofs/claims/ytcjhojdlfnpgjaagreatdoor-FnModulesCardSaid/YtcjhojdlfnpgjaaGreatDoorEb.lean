/- Contracts: direct products by the specification. -/
import Derived.Test.YtcjhojdlfnpgjaaGreatDoorEa
namespace Go.Proofs.YtcjhojdlfnpgjaaGreatDoor
open Go.RowKit
set_option linter.unusedVariables false
set_option linter.unusedSimpArgs false
set_option maxRecDepth 100000

/-- A table of small numbers. -/
def Tbl (t : List (List Int)) : Prop := ∀ a, a < t.length → (t.getD a []).length = t.length ∧ ∀ b, b < t.length → 0 ≤ ee t a b ∧ ee t a b ≤ 64
theorem tab_tbl {f : Nat → Nat → Int} {n : Nat} (h : ∀ a b, a < n → b < n → 0 ≤ f a b ∧ f a b ≤ 64) : Tbl (tab f n n) := by
  intro a ha
  rw [tab_len] at ha
  have hg : (tab f n n).getD a [] = upTo (f a) n := by
    rw [List.getD_eq_getElem?_getD, tab, List.getElem?_map, List.getElem?_range ha]
    rfl
  rw [tab_len, hg, upTo_len]
  refine ⟨rfl, fun b hb => ?_⟩
  unfold ee
  rw [hg, upTo_get _ hb]
  exact h a b ha hb
def prodF (g h : List (List Int)) (a b : Nat) : Int := (h.length : Int) * ee g (a / h.length) (b / h.length) + ee h (a % h.length) (b % h.length)
theorem l01Product_spec (g h : List (List Int)) (hn : g.length ≤ 64) (hm : 1 ≤ h.length) (hm2 : h.length ≤ 64) (Tg : Tbl g) (Th : Tbl h) : Spec Tryz.prog 87 [.agg [.rds (II g)], .agg [.rds (II h)]] (.agg [.own 0]) [.rows 33 2 (II (tab (prodF g h) (g.length * h.length) (g.length * h.length)))] := by
  have hnm : g.length * h.length ≤ 64 * 64 := Nat.mul_le_mul hn hm2
  have hcast : (g.length : Int) * (h.length : Int) = ((g.length * h.length : Nat) : Int) := by push_cast; rfl
  refine Spec.of_code T_ok Tryz.func87 rfl Tryz.ntmps87 Tryz.call87 (Nat.le_of_ble_eq_true rfl) rfl rfl (CodeV_sound T_ok (by kernel_rfl) rfl ?_)
  simp only [Tryz.results87, go_sem, Nat.reduceMul, Nat.reduceLeDiff, Nat.reduceLT, reduceIte, reduceCtorEq, Nat.reduceEqDiff, Nat.reduceSub, Nat.reduceAdd]
  refine HereO.alloc T_ok 104 rfl rfl (by decide) ?_
  simp only [Tryz.results87, go_sem, Nat.reduceMul, Nat.reduceLeDiff, Nat.reduceLT, reduceIte, reduceCtorEq, Nat.reduceEqDiff, Nat.reduceSub, Nat.reduceAdd]
  refine HereO.call T_ok rfl rfl (l01N_spec h) (by simp only [go_sem, Nat.reduceMul, Nat.reduceLeDiff, Nat.reduceLT, reduceIte, reduceCtorEq, Nat.reduceEqDiff, Nat.reduceSub, Nat.reduceAdd, List.toList_toArray] <;> first | rfl | exact ⟨rfl, rfl⟩) rfl ?_
  simp only [Tryz.results87, go_sem, Nat.reduceMul, Nat.reduceLeDiff, Nat.reduceLT, reduceIte, reduceCtorEq, Nat.reduceEqDiff, Nat.reduceSub, Nat.reduceAdd]
  refine HereO.buildRow T_ok 120 [] rfl rfl rfl (by decide) rfl rfl rfl (by decide) ?_
  simp only [Tryz.results87, go_sem, Nat.reduceMul, Nat.reduceLeDiff, Nat.reduceLT, reduceIte, reduceCtorEq, Nat.reduceEqDiff, Nat.reduceSub, Nat.reduceAdd]
  refine HereO.conv (Conv.rows (id := 120) (e := 33) 2 0 (by simp only [Tryz.results87, go_sem, Nat.reduceMul, Nat.reduceLeDiff, Nat.reduceLT, reduceIte, reduceCtorEq, Nat.reduceEqDiff, Nat.reduceSub, Nat.reduceAdd]; rfl)) ?_
  refine HereO.opP T_ok (OpP.build built_26 rfl rfl rfl rfl) ?_
  simp only [Tryz.results87, go_sem, Nat.reduceMul, Nat.reduceLeDiff, Nat.reduceLT, reduceIte, reduceCtorEq, Nat.reduceEqDiff, Nat.reduceSub, Nat.reduceAdd]
  refine HereO.alloc T_ok 106 rfl rfl (by decide) ?_
  simp only [Tryz.results87, go_sem, Nat.reduceMul, Nat.reduceLeDiff, Nat.reduceLT, reduceIte, reduceCtorEq, Nat.reduceEqDiff, Nat.reduceSub, Nat.reduceAdd]
  refine HereO.storeAgg T_ok rfl (by simp only [go_sem, Nat.reduceMul, Nat.reduceLeDiff, Nat.reduceLT, reduceIte, reduceCtorEq, Nat.reduceEqDiff, Nat.reduceSub, Nat.reduceAdd] <;> rfl) (by simp only [go_sem, Nat.reduceMul, Nat.reduceLeDiff, Nat.reduceLT, reduceIte, reduceCtorEq, Nat.reduceEqDiff, Nat.reduceSub, Nat.reduceAdd] <;> rfl) rfl (by simp only [go_sem, Nat.reduceMul, Nat.reduceLeDiff, Nat.reduceLT, reduceIte, reduceCtorEq, Nat.reduceEqDiff, Nat.reduceSub, Nat.reduceAdd] <;> rfl) (by simp only [go_sem, Nat.reduceMul, Nat.reduceLeDiff, Nat.reduceLT, reduceIte, reduceCtorEq, Nat.reduceEqDiff, Nat.reduceSub, Nat.reduceAdd] <;> rfl) rfl rfl ?_
  simp only [Tryz.results87, go_sem, Nat.reduceMul, Nat.reduceLeDiff, Nat.reduceLT, reduceIte, reduceCtorEq, Nat.reduceEqDiff, Nat.reduceSub, Nat.reduceAdd]
  refine Here.loopV T_ok (fun k => k ≤ g.length * h.length) (fun k => g.length * h.length - k) (fun k => [(2, .box [.rds (II g)]), (3, .box [.rds (II h)]), (4, .ptr 104 0), (5, .v (.int .i64 h.length)), (6, .ptr 106 0), (7, .v (.int .i64 k))])
    (fun k => [(104, .cells 26 [.v nilV]), (106, .cells 26 [.own 120]), (120, .rows 33 2 (II (tab (prodF g h) (g.length * h.length) k)))]) 0 (by simp) (by simp only [Tryz.results87, go_sem, Nat.reduceMul, Nat.reduceLeDiff, Nat.reduceLT, reduceIte, reduceCtorEq, Nat.reduceEqDiff, Nat.reduceSub, Nat.reduceAdd]; simp) (by simp only [Tryz.results87, go_sem, Nat.reduceMul, Nat.reduceLeDiff, Nat.reduceLT, reduceIte, reduceCtorEq, Nat.reduceEqDiff, Nat.reduceSub, Nat.reduceAdd]; simp [tab, II, nilV]) ?_
  intro k hk
  simp only [Tryz.results87, go_sem, Nat.reduceMul, Nat.reduceLeDiff, Nat.reduceLT, reduceIte, reduceCtorEq, Nat.reduceEqDiff, Nat.reduceSub, Nat.reduceAdd]
  refine HereO.call T_ok rfl rfl (l01N_spec g) (by simp only [go_sem, Nat.reduceMul, Nat.reduceLeDiff, Nat.reduceLT, reduceIte, reduceCtorEq, Nat.reduceEqDiff, Nat.reduceSub, Nat.reduceAdd, List.toList_toArray] <;> first | rfl | exact ⟨rfl, rfl⟩) rfl ?_
  simp only [Tryz.results87, go_sem, Nat.reduceMul, Nat.reduceLeDiff, Nat.reduceLT, reduceIte, reduceCtorEq, Nat.reduceEqDiff, Nat.reduceSub, Nat.reduceAdd]
  rw [hcast]
  refine ⟨by unfold InR; omega, fun h2 => ?_, fun h2 => ?_⟩
  · refine HereO.buildRow T_ok 130 (I []) rfl rfl rfl (by decide) rfl (by simp only [go_sem, Nat.reduceMul, Nat.reduceLeDiff, Nat.reduceLT, reduceIte, reduceCtorEq, Nat.reduceEqDiff, Nat.reduceSub, Nat.reduceAdd] <;> rfl) rfl (by decide) ?_
    simp only [Tryz.results87, go_sem, Nat.reduceMul, Nat.reduceLeDiff, Nat.reduceLT, reduceIte, reduceCtorEq, Nat.reduceEqDiff, Nat.reduceSub, Nat.reduceAdd]
    refine Here.loopV T_ok (fun j => j ≤ g.length * h.length) (fun j => g.length * h.length - j) (fun j => [(2, .box [.rds (II g)]), (3, .box [.rds (II h)]), (4, .ptr 104 0), (5, .v (.int .i64 h.length)), (6, .ptr 106 0), (7, .v (.int .i64 k)), (8, .own 130), (9, .v (.int .i64 j))])
      (fun j => [(104, .cells 26 [.v nilV]), (106, .cells 26 [.own 120]), (120, .rows 33 2 (II (tab (prodF g h) (g.length * h.length) k))), (130, .row 2 (I (upTo (prodF g h k) j)))]) 0 (by simp) (by simp only [Tryz.results87, go_sem, Nat.reduceMul, Nat.reduceLeDiff, Nat.reduceLT, reduceIte, reduceCtorEq, Nat.reduceEqDiff, Nat.reduceSub, Nat.reduceAdd]; simp) (by simp only [Tryz.results87, go_sem, Nat.reduceMul, Nat.reduceLeDiff, Nat.reduceLT, reduceIte, reduceCtorEq, Nat.reduceEqDiff, Nat.reduceSub, Nat.reduceAdd]; simp [upTo, I]) ?_
    intro j hj
    simp only [Tryz.results87, go_sem, Nat.reduceMul, Nat.reduceLeDiff, Nat.reduceLT, reduceIte, reduceCtorEq, Nat.reduceEqDiff, Nat.reduceSub, Nat.reduceAdd]
    refine HereO.call T_ok rfl rfl (l01N_spec g) (by simp only [go_sem, Nat.reduceMul, Nat.reduceLeDiff, Nat.reduceLT, reduceIte, reduceCtorEq, Nat.reduceEqDiff, Nat.reduceSub, Nat.reduceAdd, List.toList_toArray] <;> first | rfl | exact ⟨rfl, rfl⟩) rfl ?_
    simp only [Tryz.results87, go_sem, Nat.reduceMul, Nat.reduceLeDiff, Nat.reduceLT, reduceIte, reduceCtorEq, Nat.reduceEqDiff, Nat.reduceSub, Nat.reduceAdd]
    rw [hcast]
    refine ⟨by unfold InR; omega, fun h3 => ?_, fun h3 => ?_⟩
    · refine Here.drawS T_ok 29 (Nat.le_of_ble_eq_true rfl) mixed_ok (by kernel_rfl) (by kernel_rfl) ?_
      simp only [Tryz.results87, go_sem, Nat.reduceMul, Nat.reduceLeDiff, Nat.reduceLT, reduceIte, reduceCtorEq, Nat.reduceEqDiff, Nat.reduceSub, Nat.reduceAdd]
      have e1 : (k : Int).tdiv (h.length : Int) = ((k / h.length : Nat) : Int) := rfl
      have e2 : (j : Int).tdiv (h.length : Int) = ((j / h.length : Nat) : Int) := rfl
      have e3 : (k : Int).tmod (h.length : Int) = ((k % h.length : Nat) : Int) := rfl
      have e4 : (j : Int).tmod (h.length : Int) = ((j % h.length : Nat) : Int) := rfl
      rw [e1, e2, e3, e4]
      simp only [Int.toNat_natCast]
      have d1 : k / h.length < g.length := Nat.div_lt_of_lt_mul (by rw [Nat.mul_comm]; omega)
      have d2 : j / h.length < g.length := Nat.div_lt_of_lt_mul (by rw [Nat.mul_comm]; omega)
      have d3 : k % h.length < h.length := Nat.mod_lt _ (by omega)
      have d4 : j % h.length < h.length := Nat.mod_lt _ (by omega)
      obtain ⟨r1, r2⟩ := Tg _ d1
      obtain ⟨r3, r4⟩ := Th _ d3
      have v1 := r2 _ d2
      have v2 := r4 _ d4
      have hv : prodF g h k j = (h.length : Int) * (g.getD (k / h.length) []).getD (j / h.length) 0 + (h.getD (k % h.length) []).getD (j % h.length) 0 := rfl
      have k1 : 0 ≤ (h.length : Int) * ee g (k / h.length) (j / h.length) := Int.mul_nonneg (by omega) v1.1
      have k2 : (h.length : Int) * ee g (k / h.length) (j / h.length) ≤ 64 * 64 := Int.mul_le_mul (by omega) v1.2 v1.1 (by omega)
      unfold ee at k1 k2 v2
      rw [← hv, r1, r3]
      generalize k / h.length = q1 at *
      generalize j / h.length = q2 at *
      generalize k % h.length = q3 at *
      generalize j % h.length = q4 at *
      refine ⟨⟨by omega, by unfold InR; omega⟩, ⟨by omega, by omega⟩, ⟨by omega, by unfold InR; omega⟩, ⟨by omega, by omega⟩, by unfold InR; omega, by omega, ⟨by omega, by omega⟩, by omega, ⟨by omega, by omega⟩, by unfold InR; omega, ?_⟩
      refine ⟨_, OpP.buildRd T_ok (I [prodF g h k j]) rfl rfl rfl (by decide) rfl (by simp only [Tryz.results87, go_sem, Nat.reduceMul, Nat.reduceLeDiff, Nat.reduceLT, reduceIte, reduceCtorEq, Nat.reduceEqDiff, Nat.reduceSub, Nat.reduceAdd]; rw [hv]; rfl) rfl, ?_⟩
      simp only [Tryz.results87, go_sem, Nat.reduceMul, Nat.reduceLeDiff, Nat.reduceLT, reduceIte, reduceCtorEq, Nat.reduceEqDiff, Nat.reduceSub, Nat.reduceAdd]
      refine HereO.append T_ok (I [prodF g h k j]) rfl rfl (by decide) (by simp only [go_sem, Nat.reduceMul, Nat.reduceLeDiff, Nat.reduceLT, reduceIte, reduceCtorEq, Nat.reduceEqDiff, Nat.reduceSub, Nat.reduceAdd] <;> rfl) (by decide) (by simp only [go_sem, Nat.reduceMul, Nat.reduceLeDiff, Nat.reduceLT, reduceIte, reduceCtorEq, Nat.reduceEqDiff, Nat.reduceSub, Nat.reduceAdd] <;> rfl) (by simp only [go_sem, Nat.reduceMul, Nat.reduceLeDiff, Nat.reduceLT, reduceIte, reduceCtorEq, Nat.reduceEqDiff, Nat.reduceSub, Nat.reduceAdd] <;> rfl) (.rd _) (I_one _) (by rw [I_len, I_len, upTo_len]; simp; omega) ?_
      simp only [Tryz.results87, go_sem, Nat.reduceMul, Nat.reduceLeDiff, Nat.reduceLT, reduceIte, reduceCtorEq, Nat.reduceEqDiff, Nat.reduceSub, Nat.reduceAdd]
      exact ⟨by unfold InR; omega, j + 1, by omega, by omega, by simp, by rw [I_append, upTo_succ]⟩
    · have : j = g.length * h.length := by omega
      subst this
      refine HereO.buildRowL T_ok 150 [.own 130] rfl rfl rfl (by decide) rfl (by simp only [go_sem, Nat.reduceMul, Nat.reduceLeDiff, Nat.reduceLT, reduceIte, reduceCtorEq, Nat.reduceEqDiff, Nat.reduceSub, Nat.reduceAdd] <;> rfl) rfl (by decide) (by simp only [go_sem, Nat.reduceMul, Nat.reduceLeDiff, Nat.reduceLT, reduceIte, reduceCtorEq, Nat.reduceEqDiff, Nat.reduceSub, Nat.reduceAdd] <;> rfl) ?_
      simp only [Tryz.results87, go_sem, Nat.reduceMul, Nat.reduceLeDiff, Nat.reduceLT, reduceIte, reduceCtorEq, Nat.reduceEqDiff, Nat.reduceSub, Nat.reduceAdd]
      refine HereO.appendRows T_ok (id := 120) (j := 150) (i := 130) rfl rfl (by decide) (by simp only [go_sem, Nat.reduceMul, Nat.reduceLeDiff, Nat.reduceLT, reduceIte, reduceCtorEq, Nat.reduceEqDiff, Nat.reduceSub, Nat.reduceAdd] <;> rfl) (by decide) (by simp only [go_sem, Nat.reduceMul, Nat.reduceLeDiff, Nat.reduceLT, reduceIte, reduceCtorEq, Nat.reduceEqDiff, Nat.reduceSub, Nat.reduceAdd] <;> rfl) (by simp only [go_sem, Nat.reduceMul, Nat.reduceLeDiff, Nat.reduceLT, reduceIte, reduceCtorEq, Nat.reduceEqDiff, Nat.reduceSub, Nat.reduceAdd] <;> rfl) (by simp only [go_sem, Nat.reduceMul, Nat.reduceLeDiff, Nat.reduceLT, reduceIte, reduceCtorEq, Nat.reduceEqDiff, Nat.reduceSub, Nat.reduceAdd] <;> rfl) (by simp only [go_sem, Nat.reduceMul, Nat.reduceLeDiff, Nat.reduceLT, reduceIte, reduceCtorEq, Nat.reduceEqDiff, Nat.reduceSub, Nat.reduceAdd] <;> rfl) (by decide) (by decide) (by rw [II_len, tab_len]; omega) ?_
      simp only [Tryz.results87, go_sem, Nat.reduceMul, Nat.reduceLeDiff, Nat.reduceLT, reduceIte, reduceCtorEq, Nat.reduceEqDiff, Nat.reduceSub, Nat.reduceAdd]
      refine HereO.store T_ok rfl (by simp only [go_sem, Nat.reduceMul, Nat.reduceLeDiff, Nat.reduceLT, reduceIte, reduceCtorEq, Nat.reduceEqDiff, Nat.reduceSub, Nat.reduceAdd] <;> rfl) (by simp only [go_sem, Nat.reduceMul, Nat.reduceLeDiff, Nat.reduceLT, reduceIte, reduceCtorEq, Nat.reduceEqDiff, Nat.reduceSub, Nat.reduceAdd] <;> rfl) rfl (by simp only [go_sem, Nat.reduceMul, Nat.reduceLeDiff, Nat.reduceLT, reduceIte, reduceCtorEq, Nat.reduceEqDiff, Nat.reduceSub, Nat.reduceAdd] <;> rfl) rfl (by simp only [go_sem, Nat.reduceMul, Nat.reduceLeDiff, Nat.reduceLT, reduceIte, reduceCtorEq, Nat.reduceEqDiff, Nat.reduceSub, Nat.reduceAdd] <;> rfl) (by decide) ?_
      simp only [Tryz.results87, go_sem, Nat.reduceMul, Nat.reduceLeDiff, Nat.reduceLT, reduceIte, reduceCtorEq, Nat.reduceEqDiff, Nat.reduceSub, Nat.reduceAdd]
      refine ⟨by unfold InR; omega, k + 1, by omega, by omega, by simp, by simp [II_append, tab_succ]⟩
  · have : k = g.length * h.length := by omega
    subst this
    refine HereO.storeAgg T_ok rfl (by simp only [go_sem, Nat.reduceMul, Nat.reduceLeDiff, Nat.reduceLT, reduceIte, reduceCtorEq, Nat.reduceEqDiff, Nat.reduceSub, Nat.reduceAdd] <;> rfl) (by simp only [go_sem, Nat.reduceMul, Nat.reduceLeDiff, Nat.reduceLT, reduceIte, reduceCtorEq, Nat.reduceEqDiff, Nat.reduceSub, Nat.reduceAdd] <;> rfl) rfl (by simp only [go_sem, Nat.reduceMul, Nat.reduceLeDiff, Nat.reduceLT, reduceIte, reduceCtorEq, Nat.reduceEqDiff, Nat.reduceSub, Nat.reduceAdd] <;> rfl) (by simp only [go_sem, Nat.reduceMul, Nat.reduceLeDiff, Nat.reduceLT, reduceIte, reduceCtorEq, Nat.reduceEqDiff, Nat.reduceSub, Nat.reduceAdd] <;> rfl) rfl rfl ?_
    simp only [Tryz.results87, go_sem, Nat.reduceMul, Nat.reduceLeDiff, Nat.reduceLT, reduceIte, reduceCtorEq, Nat.reduceEqDiff, Nat.reduceSub, Nat.reduceAdd]
    refine RetT.one 120 (by simp only [Tryz.results87, go_sem, Nat.reduceMul, Nat.reduceLeDiff, Nat.reduceLT, reduceIte, reduceCtorEq, Nat.reduceEqDiff, Nat.reduceSub, Nat.reduceAdd]; rfl) rfl ?_
    simp only [Tryz.results87, go_sem, Nat.reduceMul, Nat.reduceLeDiff, Nat.reduceLT, reduceIte, reduceCtorEq, Nat.reduceEqDiff, Nat.reduceSub, Nat.reduceAdd]
end Go.Proofs.YtcjhojdlfnpgjaaGreatDoor
