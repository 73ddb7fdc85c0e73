/- Contracts: orders and powers of elements. -/
import Derived.Test.YtapgffobnodieaaGa
import Derived.Test.YtapgffobnodieaaVp
import Derived.Test.YtapgffobnodieaaPb
namespace Go.Proofs.Ytapgffobnodieaa
open Go.RowKit
set_option linter.unusedVariables false
set_option linter.unusedSimpArgs false
set_option maxRecDepth 100000

theorem times2_spec (t : List (List Int)) (hg : Grp t) (a b : Nat) (ha : a < t.length) (hb : b < t.length) : Spec Try.prog 70 [.agg [.rds (II t)], .rd (I [(a : Int), (b : Int)])] (.v (.int .i64 (em t a b))) [] := by
  have hab : AreIn t.length [(a : Int), b] := by
    intro j hj
    match j, hj with
    | 0, _ => simp; omega
    | 1, _ => simp; omega
  have := times_spec t [(a : Int), b] hg hab (by simp)
  rwa [tm_two hg (by omega), Int.toNat_natCast, Int.toNat_natCast, em_ee hg ha hb] at this

theorem orderOf_spec (t : List (List Int)) (hg : Grp t) (a : Nat) (ha : a < t.length) : Spec Try.prog 73 [.agg [.rds (II t)], .v (.int .i64 a)] (.v (.int .i64 (ordN t a))) [] := by
  have h8 := hg.2.1
  obtain ⟨o1, o2, o3, o4⟩ := ordN_spec hg ha
  have p1 : pwN t a 1 = a := em_zl hg ha
  refine Spec.of_code T_ok Try.func73 rfl Try.ntmps73 Try.call73 (Nat.le_of_ble_eq_true rfl) rfl rfl (CodeV_sound T_ok (by kernel_rfl) rfl ?_)
  simp only [Try.results73, go_sem, Nat.reduceMul, Nat.reduceLeDiff, Nat.reduceLT, reduceIte, reduceCtorEq, Nat.reduceEqDiff, Nat.reduceSub, Nat.reduceAdd]
  refine Here.loopV T_ok (fun k => 1 ≤ k ∧ k ≤ ordN t a) (fun k => ordN t a - k) (fun k => [(1, .v (.int .i64 a)), (2, .box [.rds (II t)]), (5, .v (.int .i64 k)), (6, .v (.int .i64 (pwN t a k)))]) (fun _ => []) 1 ⟨by omega, o1⟩ (by simp only [Try.results73, go_sem, Nat.reduceMul, Nat.reduceLeDiff, Nat.reduceLT, reduceIte, reduceCtorEq, Nat.reduceEqDiff, Nat.reduceSub, Nat.reduceAdd]; simp [p1]) trivial ?_
  rintro k ⟨hk1, hk2⟩
  simp only [Try.results73, go_sem, Nat.reduceMul, Nat.reduceLeDiff, Nat.reduceLT, reduceIte, reduceCtorEq, Nat.reduceEqDiff, Nat.reduceSub, Nat.reduceAdd]
  have hlt := pwN_lt hg ha k
  refine ⟨fun h => ⟨by unfold InR; omega, ?_⟩, fun h => ?_⟩
  · have hk : k < ordN t a := by
      apply Classical.byContradiction
      intro hn
      have : k = ordN t a := by omega
      subst this
      exact h (by rw [o3]; rfl)
    refine HereO.buildRow T_ok 113 (I [(pwN t a k : Int), (a : Int)]) rfl rfl rfl (by decide) rfl (by simp only [go_sem, Nat.reduceMul, Nat.reduceLeDiff, Nat.reduceLT, reduceIte, reduceCtorEq, Nat.reduceEqDiff, Nat.reduceSub, Nat.reduceAdd] <;> rfl) rfl (by decide) ?_
    simp only [Try.results73, go_sem, Nat.reduceMul, Nat.reduceLeDiff, Nat.reduceLT, reduceIte, reduceCtorEq, Nat.reduceEqDiff, Nat.reduceSub, Nat.reduceAdd]
    refine HereO.call T_ok rfl rfl (times2_spec t hg (pwN t a k) a hlt ha) (by simp only [go_sem, Nat.reduceMul, Nat.reduceLeDiff, Nat.reduceLT, reduceIte, reduceCtorEq, Nat.reduceEqDiff, Nat.reduceSub, Nat.reduceAdd, List.toList_toArray]) rfl ?_
    simp only [Try.results73, go_sem, Nat.reduceMul, Nat.reduceLeDiff, Nat.reduceLT, reduceIte, reduceCtorEq, Nat.reduceEqDiff, Nat.reduceSub, Nat.reduceAdd]
    exact ⟨k + 1, ⟨by omega, by omega⟩, by omega, by simp, rfl⟩
  · have : k = ordN t a := by
      apply Classical.byContradiction
      intro hn
      exact o4 k hk1 (by omega) (by omega)
    rw [this]

theorem l01Order_spec (t : List (List Int)) (hg : Grp t) (a : Nat) (ha : a < t.length) : Spec Try.prog 72 [.agg [.rds (II t)], .v (.int .i64 a)] (.v (.int .i64 (ordN t a))) [] := by
  have h8 := hg.2.1
  obtain ⟨o1, o2, o3, o4⟩ := ordN_spec hg ha
  have p1 : pwN t a 1 = a := em_zl hg ha
  refine Spec.of_code T_ok Try.func72 rfl Try.ntmps72 Try.call72 (Nat.le_of_ble_eq_true rfl) rfl rfl (CodeV_sound T_ok (by kernel_rfl) rfl ?_)
  simp only [Try.results72, go_sem, Nat.reduceMul, Nat.reduceLeDiff, Nat.reduceLT, reduceIte, reduceCtorEq, Nat.reduceEqDiff, Nat.reduceSub, Nat.reduceAdd]
  refine Here.loopV T_ok (fun k => 1 ≤ k ∧ k ≤ ordN t a) (fun k => ordN t a - k) (fun k => [(1, .v (.int .i64 a)), (2, .box [.rds (II t)]), (5, .v (.int .i64 k)), (6, .v (.int .i64 (pwN t a k)))]) (fun _ => []) 1 ⟨by omega, o1⟩ (by simp only [Try.results72, go_sem, Nat.reduceMul, Nat.reduceLeDiff, Nat.reduceLT, reduceIte, reduceCtorEq, Nat.reduceEqDiff, Nat.reduceSub, Nat.reduceAdd]; simp [p1]) trivial ?_
  rintro k ⟨hk1, hk2⟩
  simp only [Try.results72, go_sem, Nat.reduceMul, Nat.reduceLeDiff, Nat.reduceLT, reduceIte, reduceCtorEq, Nat.reduceEqDiff, Nat.reduceSub, Nat.reduceAdd]
  have hlt := pwN_lt hg ha k
  refine ⟨fun h => ?_, fun h => ?_⟩
  · have hk : k < ordN t a := by
      apply Classical.byContradiction
      intro hn
      have : k = ordN t a := by omega
      subst this
      exact h (by rw [o3]; rfl)
    have hr := (hg.2.2.1 _ hlt).1
    have he := em_ee hg hlt ha
    exact ⟨by unfold InR; omega, ⟨by omega, by omega⟩, ⟨by omega, by omega⟩, k + 1, ⟨by omega, by omega⟩, by omega, by simp, by unfold ee at he; rw [he]; rfl⟩
  · have : k = ordN t a := by
      apply Classical.byContradiction
      intro hn
      exact o4 k hk1 (by omega) (by omega)
    rw [this]

/-- The inverse of an element. -/
def invN (t : List (List Int)) (a : Nat) : Nat := (ix (t.getD a []) 0).toNat
theorem invN_is {t : List (List Int)} (hg : Grp t) {a : Nat} (ha : a < t.length) : ix (t.getD a []) 0 = invN t a ∧ invN t a < t.length ∧ em t a (invN t a) = 0 := by
  have hh := (hg.2.2.2 a ha).1.2.2
  have hr := (hg.2.2.1 a ha).1
  rcases ix_cases (t.getD a []) 0 with ⟨h1, _⟩ | ⟨k, h1, h2, h3⟩
  · exact absurd hh h1
  · have : invN t a = k := by unfold invN; rw [h1]; rfl
    rw [this]
    refine ⟨h1, by omega, ?_⟩
    unfold em ee
    rw [h3]; rfl
theorem inverse_spec (t : List (List Int)) (hg : Grp t) (a : Nat) (ha : a < t.length) : Spec Try.prog 95 [.agg [.rds (II t)], .v (.int .i64 a)] (.v (.int .i64 (invN t a))) [] := by
  have h8 := hg.2.1
  have hr := (hg.2.2.1 a ha).1
  refine Spec.of_code T_ok Try.func95 rfl Try.ntmps95 Try.call95 (Nat.le_of_ble_eq_true rfl) rfl rfl (CodeV_sound T_ok (by kernel_rfl) rfl ?_)
  simp only [Try.results95, go_sem, Nat.reduceMul, Nat.reduceLeDiff, Nat.reduceLT, reduceIte, reduceCtorEq, Nat.reduceEqDiff, Nat.reduceSub, Nat.reduceAdd]
  refine ⟨by omega, ?_⟩
  refine HereO.call T_ok rfl rfl (Index_spec (t.getD a []) 0 (by omega)) (by simp only [go_sem, Nat.reduceMul, Nat.reduceLeDiff, Nat.reduceLT, reduceIte, reduceCtorEq, Nat.reduceEqDiff, Nat.reduceSub, Nat.reduceAdd, List.toList_toArray]) rfl ?_
  simp only [Try.results95, go_sem, Nat.reduceMul, Nat.reduceLeDiff, Nat.reduceLT, reduceIte, reduceCtorEq, Nat.reduceEqDiff, Nat.reduceSub, Nat.reduceAdd]
  exact (invN_is hg ha).1

theorem tmod_as (x m : Int) : x.tmod m = if 0 ≤ x then x % m else -((-x) % m) := by
  split
  · rename_i h; exact Int.tmod_eq_emod_of_nonneg h
  · rename_i h
    have e : x.tmod m = -((-x).tmod m) := by rw [Int.neg_tmod, Int.neg_neg]
    rw [e, Int.tmod_eq_emod_of_nonneg (by omega)]
theorem mod_eq {x m : Int} (h0 : 1 ≤ m) (h1 : m ≤ 8) : (x.tmod m + m).tmod m = x % m ∧ -m < x.tmod m ∧ x.tmod m < m := by
  rw [tmod_as (x.tmod m + m), tmod_as x]
  have hm : m = 1 ∨ m = 2 ∨ m = 3 ∨ m = 4 ∨ m = 5 ∨ m = 6 ∨ m = 7 ∨ m = 8 := by omega
  rcases hm with rfl | rfl | rfl | rfl | rfl | rfl | rfl | rfl <;> split <;> split <;> omega
theorem l01Mod_spec (x m : Int) (h0 : 1 ≤ m) (h1 : m ≤ 8) (hx : -1000000 ≤ x ∧ x ≤ 1000000) : Spec Try.prog 94 [.v (.int .i64 x), .v (.int .i64 m)] (.v (.int .i64 (x % m))) [] := by
  refine Spec.of_code T_ok Try.func94 rfl Try.ntmps94 Try.call94 (Nat.le_of_ble_eq_true rfl) rfl rfl (CodeV_sound T_ok (by kernel_rfl) rfl ?_)
  simp only [Try.results94, go_sem, Nat.reduceMul, Nat.reduceLeDiff, Nat.reduceLT, reduceIte, reduceCtorEq, Nat.reduceEqDiff, Nat.reduceSub, Nat.reduceAdd]
  obtain ⟨h2, h3, h4⟩ := mod_eq (x := x) h0 h1
  exact ⟨by omega, by unfold InR; omega, by omega, h2⟩

theorem l01Power_spec (t : List (List Int)) (hg : Grp t) (a : Nat) (ha : a < t.length) (x : Int) (hx : -1000000 ≤ x ∧ x ≤ 1000000) : Spec Try.prog 81 [.agg [.rds (II t)], .v (.int .i64 a), .v (.int .i64 x)] (.v (.int .i64 (pwN t a (x % (ordN t a : Int)).toNat))) [] := by
  have h8 := hg.2.1
  obtain ⟨o1, o2, o3, o4⟩ := ordN_spec hg ha
  have hr0 := Int.emod_nonneg x (show (ordN t a : Int) ≠ 0 by omega)
  have hr1 := Int.emod_lt_of_pos x (show 0 < (ordN t a : Int) by omega)
  refine Spec.of_code T_ok Try.func81 rfl Try.ntmps81 Try.call81 (Nat.le_of_ble_eq_true rfl) rfl rfl (CodeV_sound T_ok (by kernel_rfl) rfl ?_)
  simp only [Try.results81, go_sem, Nat.reduceMul, Nat.reduceLeDiff, Nat.reduceLT, reduceIte, reduceCtorEq, Nat.reduceEqDiff, Nat.reduceSub, Nat.reduceAdd]
  refine HereO.call T_ok rfl rfl (l01Order_spec t hg a ha) (by simp only [go_sem, Nat.reduceMul, Nat.reduceLeDiff, Nat.reduceLT, reduceIte, reduceCtorEq, Nat.reduceEqDiff, Nat.reduceSub, Nat.reduceAdd, List.toList_toArray]) rfl ?_
  simp only [Try.results81, go_sem, Nat.reduceMul, Nat.reduceLeDiff, Nat.reduceLT, reduceIte, reduceCtorEq, Nat.reduceEqDiff, Nat.reduceSub, Nat.reduceAdd]
  refine HereO.call T_ok rfl rfl (l01Mod_spec x (ordN t a) (by omega) (by omega) hx) (by simp only [go_sem, Nat.reduceMul, Nat.reduceLeDiff, Nat.reduceLT, reduceIte, reduceCtorEq, Nat.reduceEqDiff, Nat.reduceSub, Nat.reduceAdd, List.toList_toArray]) rfl ?_
  simp only [Try.results81, go_sem, Nat.reduceMul, Nat.reduceLeDiff, Nat.reduceLT, reduceIte, reduceCtorEq, Nat.reduceEqDiff, Nat.reduceSub, Nat.reduceAdd]
  generalize x % (ordN t a : Int) = r at hr0 hr1
  refine Here.loopV T_ok (fun k => k ≤ r.toNat) (fun k => r.toNat - k) (fun k => [(1, .v (.int .i64 a)), (2, .v (.int .i64 (r - k))), (3, .box [.rds (II t)]), (7, .v (.int .i64 (pwN t a k)))]) (fun _ => []) 0 (by simp) (by simp only [Try.results81, go_sem, Nat.reduceMul, Nat.reduceLeDiff, Nat.reduceLT, reduceIte, reduceCtorEq, Nat.reduceEqDiff, Nat.reduceSub, Nat.reduceAdd]; simp [pwN]) trivial ?_
  intro k hk
  simp only [Try.results81, go_sem, Nat.reduceMul, Nat.reduceLeDiff, Nat.reduceLT, reduceIte, reduceCtorEq, Nat.reduceEqDiff, Nat.reduceSub, Nat.reduceAdd]
  have hlt := pwN_lt hg ha k
  refine ⟨fun h => ?_, fun h => by rw [show r.toNat = k by omega]⟩
  have hrow := (hg.2.2.1 _ hlt).1
  have he := em_ee hg hlt ha
  unfold ee at he
  exact ⟨⟨by omega, by omega⟩, ⟨by omega, by omega⟩, by unfold InR; omega, k + 1, by omega, by omega, by omega, by rw [he]; rfl⟩

theorem emod_nat {x : Int} (h : 0 ≤ x) (o : Nat) : x % (o : Int) = (x.toNat % o : Nat) := by
  obtain ⟨n, rfl⟩ := Int.eq_ofNat_of_zero_le h
  rfl
theorem neg_mod {x : Int} {o : Nat} (h0 : 1 ≤ o) (h8 : o ≤ 8) (hx : x < 0) : (o - (0 - x).toNat % o) % o = (x % (o : Int)).toNat := by
  have hm : o = 1 ∨ o = 2 ∨ o = 3 ∨ o = 4 ∨ o = 5 ∨ o = 6 ∨ o = 7 ∨ o = 8 := by omega
  rcases hm with rfl | rfl | rfl | rfl | rfl | rfl | rfl | rfl <;> omega
theorem power_spec2 (t : List (List Int)) (hg : Grp t) (a : Nat) (ha : a < t.length) (x : Int) (hx : -1000000 ≤ x ∧ x ≤ 1000000) : Spec Try.prog 82 [.agg [.rds (II t)], .v (.int .i64 a), .v (.int .i64 x)] (.v (.int .i64 (pwN t a (x % (ordN t a : Int)).toNat))) [] := by
  have h8 := hg.2.1
  obtain ⟨o1, o2, o3, o4⟩ := ordN_spec hg ha
  obtain ⟨i1, i2, i3⟩ := invN_is hg ha
  have i4 := em_comm_inv hg ha i2 i3
  have io := ord_inv hg ha i2 i4
  refine Spec.of_code T_ok Try.func82 rfl Try.ntmps82 Try.call82 (Nat.le_of_ble_eq_true rfl) rfl rfl (CodeV_sound T_ok (by kernel_rfl) rfl ?_)
  simp only [Try.results82, go_sem, Nat.reduceMul, Nat.reduceLeDiff, Nat.reduceLT, reduceIte, reduceCtorEq, Nat.reduceEqDiff, Nat.reduceSub, Nat.reduceAdd]
  refine ⟨fun hneg => ?_, fun hpos => ?_⟩
  · refine HereO.call T_ok rfl rfl (inverse_spec t hg a ha) (by simp only [go_sem, Nat.reduceMul, Nat.reduceLeDiff, Nat.reduceLT, reduceIte, reduceCtorEq, Nat.reduceEqDiff, Nat.reduceSub, Nat.reduceAdd, List.toList_toArray]) rfl ?_
    simp only [Try.results82, go_sem, Nat.reduceMul, Nat.reduceLeDiff, Nat.reduceLT, reduceIte, reduceCtorEq, Nat.reduceEqDiff, Nat.reduceSub, Nat.reduceAdd]
    refine ⟨by unfold InR; omega, ?_⟩
    have hb := i2
    have hfin : (pwN t (invN t a) ((0 - x).toNat % ordN t (invN t a)) : Int) = pwN t a (x % (ordN t a : Int)).toNat := by
      rw [io]
      have hr := Nat.mod_lt (0 - x).toNat (show 0 < ordN t a by omega)
      rw [pw_neg hg ha i2 i4 (Nat.le_of_lt hr), ← pw_mod hg ha (ordN t a - _)]
      congr 2
      exact neg_mod o1 (by omega) hneg
    refine HereO.call T_ok rfl rfl (orderOf_spec t hg (invN t a) hb) (by simp only [go_sem, Nat.reduceMul, Nat.reduceLeDiff, Nat.reduceLT, reduceIte, reduceCtorEq, Nat.reduceEqDiff, Nat.reduceSub, Nat.reduceAdd, List.toList_toArray]) rfl ?_
    simp only [Try.results82, go_sem, Nat.reduceMul, Nat.reduceLeDiff, Nat.reduceLT, reduceIte, reduceCtorEq, Nat.reduceEqDiff, Nat.reduceSub, Nat.reduceAdd]
    have ob := ordN_spec hg hb
    have hm0 : (0 - x).tmod (ordN t (invN t a) : Int) = ((0 - x).toNat % ordN t (invN t a) : Nat) := by
      rw [Int.tmod_eq_emod_of_nonneg (by omega)]
      exact emod_nat (by omega) _
    have hml := Nat.mod_lt (0 - x).toNat (show 0 < ordN t (invN t a) by omega)
    rw [hm0]
    generalize (0 - x).toNat % ordN t (invN t a) = r at hml hfin
    refine ⟨by omega, ?_⟩
    refine Here.loopV T_ok (fun k => k ≤ r) (fun k => r - k) (fun k => [(1, .v (.int .i64 ((invN t a) : Nat))), (3, .box [.rds (II t)]), (7, .v (.int .i64 (pwN t (invN t a) k))), (19, .v (.int .i64 r)), (20, .v (.int .i64 k))]) (fun _ => []) 0 (by simp) (by simp only [Try.results82, go_sem, Nat.reduceMul, Nat.reduceLeDiff, Nat.reduceLT, reduceIte, reduceCtorEq, Nat.reduceEqDiff, Nat.reduceSub, Nat.reduceAdd]; simp [pwN]) trivial ?_
    intro k hk
    simp only [Try.results82, go_sem, Nat.reduceMul, Nat.reduceLeDiff, Nat.reduceLT, reduceIte, reduceCtorEq, Nat.reduceEqDiff, Nat.reduceSub, Nat.reduceAdd]
    have hlt := pwN_lt hg hb k
    refine ⟨fun h => ?_, fun h => by rw [show k = r by omega]; exact hfin⟩
    refine HereO.buildRow T_ok 125 (I [(pwN t (invN t a) k : Int), ((invN t a) : Nat)]) rfl rfl rfl (by decide) rfl (by simp only [go_sem, Nat.reduceMul, Nat.reduceLeDiff, Nat.reduceLT, reduceIte, reduceCtorEq, Nat.reduceEqDiff, Nat.reduceSub, Nat.reduceAdd] <;> rfl) rfl (by decide) ?_
    simp only [Try.results82, go_sem, Nat.reduceMul, Nat.reduceLeDiff, Nat.reduceLT, reduceIte, reduceCtorEq, Nat.reduceEqDiff, Nat.reduceSub, Nat.reduceAdd]
    refine HereO.call T_ok rfl rfl (times2_spec t hg (pwN t (invN t a) k) (invN t a) hlt hb) (by simp only [go_sem, Nat.reduceMul, Nat.reduceLeDiff, Nat.reduceLT, reduceIte, reduceCtorEq, Nat.reduceEqDiff, Nat.reduceSub, Nat.reduceAdd, List.toList_toArray]) rfl ?_
    simp only [Try.results82, go_sem, Nat.reduceMul, Nat.reduceLeDiff, Nat.reduceLT, reduceIte, reduceCtorEq, Nat.reduceEqDiff, Nat.reduceSub, Nat.reduceAdd]
    exact ⟨by unfold InR; omega, k + 1, by omega, by omega, rfl, rfl⟩
  · have hb := ha
    have hfin : (pwN t a (x.toNat % ordN t a) : Int) = pwN t a (x % (ordN t a : Int)).toNat := by
      congr 2
      rw [emod_nat (by omega)]; rfl
    refine HereO.call T_ok rfl rfl (orderOf_spec t hg a hb) (by simp only [go_sem, Nat.reduceMul, Nat.reduceLeDiff, Nat.reduceLT, reduceIte, reduceCtorEq, Nat.reduceEqDiff, Nat.reduceSub, Nat.reduceAdd, List.toList_toArray]) rfl ?_
    simp only [Try.results82, go_sem, Nat.reduceMul, Nat.reduceLeDiff, Nat.reduceLT, reduceIte, reduceCtorEq, Nat.reduceEqDiff, Nat.reduceSub, Nat.reduceAdd]
    have ob := ordN_spec hg hb
    have hm0 : (x).tmod (ordN t a : Int) = ((x).toNat % ordN t a : Nat) := by
      rw [Int.tmod_eq_emod_of_nonneg (by omega)]
      exact emod_nat (by omega) _
    have hml := Nat.mod_lt (x).toNat (show 0 < ordN t a by omega)
    rw [hm0]
    generalize (x).toNat % ordN t a = r at hml hfin
    refine ⟨by omega, ?_⟩
    refine Here.loopV T_ok (fun k => k ≤ r) (fun k => r - k) (fun k => [(1, .v (.int .i64 (a : Nat))), (3, .box [.rds (II t)]), (7, .v (.int .i64 (pwN t a k))), (19, .v (.int .i64 r)), (20, .v (.int .i64 k))]) (fun _ => []) 0 (by simp) (by simp only [Try.results82, go_sem, Nat.reduceMul, Nat.reduceLeDiff, Nat.reduceLT, reduceIte, reduceCtorEq, Nat.reduceEqDiff, Nat.reduceSub, Nat.reduceAdd]; simp [pwN]) trivial ?_
    intro k hk
    simp only [Try.results82, go_sem, Nat.reduceMul, Nat.reduceLeDiff, Nat.reduceLT, reduceIte, reduceCtorEq, Nat.reduceEqDiff, Nat.reduceSub, Nat.reduceAdd]
    have hlt := pwN_lt hg hb k
    refine ⟨fun h => ?_, fun h => by rw [show k = r by omega]; exact hfin⟩
    refine HereO.buildRow T_ok 125 (I [(pwN t a k : Int), (a : Nat)]) rfl rfl rfl (by decide) rfl (by simp only [go_sem, Nat.reduceMul, Nat.reduceLeDiff, Nat.reduceLT, reduceIte, reduceCtorEq, Nat.reduceEqDiff, Nat.reduceSub, Nat.reduceAdd] <;> rfl) rfl (by decide) ?_
    simp only [Try.results82, go_sem, Nat.reduceMul, Nat.reduceLeDiff, Nat.reduceLT, reduceIte, reduceCtorEq, Nat.reduceEqDiff, Nat.reduceSub, Nat.reduceAdd]
    refine HereO.call T_ok rfl rfl (times2_spec t hg (pwN t a k) a hlt hb) (by simp only [go_sem, Nat.reduceMul, Nat.reduceLeDiff, Nat.reduceLT, reduceIte, reduceCtorEq, Nat.reduceEqDiff, Nat.reduceSub, Nat.reduceAdd, List.toList_toArray]) rfl ?_
    simp only [Try.results82, go_sem, Nat.reduceMul, Nat.reduceLeDiff, Nat.reduceLT, reduceIte, reduceCtorEq, Nat.reduceEqDiff, Nat.reduceSub, Nat.reduceAdd]
    exact ⟨by unfold InR; omega, k + 1, by omega, by omega, rfl, rfl⟩
end Go.Proofs.Ytapgffobnodieaa
