/- Contracts: orders and powers of elements. -/
import Derived.Test.YtcjhojdlfnpgjaaGa
import Derived.Test.YtcjhojdlfnpgjaaVp
import Derived.Test.YtcjhojdlfnpgjaaPb
namespace Go.Proofs.Ytcjhojdlfnpgjaa
open Go.RowKit
set_option linter.unusedVariables false
set_option linter.unusedSimpArgs false
set_option maxRecDepth 100000

theorem times2_spec (t : List (List Int)) (hg : Grp t) (a b : Nat) (ha : a < t.length) (hb : b < t.length) : Spec Try.prog 57 [.agg [.rds (II t)], .rd (I [(a : Int), (b : Int)])] (.v (.int .i64 (em t a b))) [] := by
  have hab : AreIn t.length [(a : Int), b] := by
    intro j hj
    match j, hj with
    | 0, _ => simp; omega
    | 1, _ => simp; omega
  have := times_spec t [(a : Int), b] hg hab (by simp)
  rwa [tm_two hg (by omega), Int.toNat_natCast, Int.toNat_natCast, em_ee hg ha hb] at this

theorem l01Order_spec (t : List (List Int)) (hg : Grp t) (a : Nat) (ha : a < t.length) : Spec Try.prog 28 [.agg [.rds (II t)], .v (.int .i64 a)] (.v (.int .i64 (ordN t a))) [] := by
  have h8 := hg.2.1
  obtain ⟨o1, o2, o3, o4⟩ := ordN_spec hg ha
  have p1 : pwN t a 1 = a := em_zl hg ha
  refine Spec.of_code T_ok Try.func28 rfl Try.ntmps28 Try.call28 (Nat.le_of_ble_eq_true rfl) rfl rfl (CodeV_sound T_ok (by kernel_rfl) rfl ?_)
  simp only [Try.results28, go_sem, Nat.reduceMul, Nat.reduceLeDiff, Nat.reduceLT, reduceIte, reduceCtorEq, Nat.reduceEqDiff, Nat.reduceSub, Nat.reduceAdd]
  refine Here.loopV T_ok (fun k => 1 ≤ k ∧ k ≤ ordN t a) (fun k => ordN t a - k) (fun k => [(1, .v (.int .i64 a)), (2, .box [.rds (II t)]), (5, .v (.int .i64 k)), (6, .v (.int .i64 (pwN t a k)))]) (fun _ => []) 1 ⟨by omega, o1⟩ (by simp only [Try.results28, go_sem, Nat.reduceMul, Nat.reduceLeDiff, Nat.reduceLT, reduceIte, reduceCtorEq, Nat.reduceEqDiff, Nat.reduceSub, Nat.reduceAdd]; simp [p1]) trivial ?_
  rintro k ⟨hk1, hk2⟩
  simp only [Try.results28, go_sem, Nat.reduceMul, Nat.reduceLeDiff, Nat.reduceLT, reduceIte, reduceCtorEq, Nat.reduceEqDiff, Nat.reduceSub, Nat.reduceAdd]
  have hlt := pwN_lt hg ha k
  refine ⟨fun h => ?_, fun h => ?_⟩
  · have hk : k < ordN t a := by
      apply Classical.byContradiction
      intro hn
      have : k = ordN t a := by omega
      subst this
      exact h (by rw [o3]; rfl)
    have hr := (hg.2.2.1 _ hlt).1
    have he := em_ee hg hlt ha
    exact ⟨by unfold InR; omega, ⟨by omega, by omega⟩, ⟨by omega, by omega⟩, k + 1, ⟨by omega, by omega⟩, by omega, by simp, by unfold ee at he; rw [he]; rfl⟩
  · have : k = ordN t a := by
      apply Classical.byContradiction
      intro hn
      exact o4 k hk1 (by omega) (by omega)
    rw [this]

/-- The inverse of an element. -/
def invN (t : List (List Int)) (a : Nat) : Nat := (ix (t.getD a []) 0).toNat
theorem invN_is {t : List (List Int)} (hg : Grp t) {a : Nat} (ha : a < t.length) : ix (t.getD a []) 0 = invN t a ∧ invN t a < t.length ∧ em t a (invN t a) = 0 := by
  have hh := (hg.2.2.2 a ha).1.2.2
  have hr := (hg.2.2.1 a ha).1
  rcases ix_cases (t.getD a []) 0 with ⟨h1, _⟩ | ⟨k, h1, h2, h3⟩
  · exact absurd hh h1
  · have : invN t a = k := by unfold invN; rw [h1]; rfl
    rw [this]
    refine ⟨h1, by omega, ?_⟩
    unfold em ee
    rw [h3]; rfl
theorem tmod_as (x m : Int) : x.tmod m = if 0 ≤ x then x % m else -((-x) % m) := by
  split
  · rename_i h; exact Int.tmod_eq_emod_of_nonneg h
  · rename_i h
    have e : x.tmod m = -((-x).tmod m) := by rw [Int.neg_tmod, Int.neg_neg]
    rw [e, Int.tmod_eq_emod_of_nonneg (by omega)]
theorem mod_eq {x m : Int} (h0 : 1 ≤ m) (h1 : m ≤ 8) : (x.tmod m + m).tmod m = x % m ∧ -m < x.tmod m ∧ x.tmod m < m := by
  rw [tmod_as (x.tmod m + m), tmod_as x]
  have hm : m = 1 ∨ m = 2 ∨ m = 3 ∨ m = 4 ∨ m = 5 ∨ m = 6 ∨ m = 7 ∨ m = 8 := by omega
  rcases hm with rfl | rfl | rfl | rfl | rfl | rfl | rfl | rfl <;> split <;> split <;> omega
theorem l01Mod_spec (x m : Int) (h0 : 1 ≤ m) (h1 : m ≤ 8) (hx : -1000000 ≤ x ∧ x ≤ 1000000) : Spec Try.prog 53 [.v (.int .i64 x), .v (.int .i64 m)] (.v (.int .i64 (x % m))) [] := by
  refine Spec.of_code T_ok Try.func53 rfl Try.ntmps53 Try.call53 (Nat.le_of_ble_eq_true rfl) rfl rfl (CodeV_sound T_ok (by kernel_rfl) rfl ?_)
  simp only [Try.results53, go_sem, Nat.reduceMul, Nat.reduceLeDiff, Nat.reduceLT, reduceIte, reduceCtorEq, Nat.reduceEqDiff, Nat.reduceSub, Nat.reduceAdd]
  obtain ⟨h2, h3, h4⟩ := mod_eq (x := x) h0 h1
  exact ⟨by omega, by unfold InR; omega, by omega, h2⟩

theorem l01Power_spec (t : List (List Int)) (hg : Grp t) (a : Nat) (ha : a < t.length) (x : Int) (hx : -1000000 ≤ x ∧ x ≤ 1000000) : Spec Try.prog 30 [.agg [.rds (II t)], .v (.int .i64 a), .v (.int .i64 x)] (.v (.int .i64 (pwN t a (x % (ordN t a : Int)).toNat))) [] := by
  have h8 := hg.2.1
  obtain ⟨o1, o2, o3, o4⟩ := ordN_spec hg ha
  have hr0 := Int.emod_nonneg x (show (ordN t a : Int) ≠ 0 by omega)
  have hr1 := Int.emod_lt_of_pos x (show 0 < (ordN t a : Int) by omega)
  refine Spec.of_code T_ok Try.func30 rfl Try.ntmps30 Try.call30 (Nat.le_of_ble_eq_true rfl) rfl rfl (CodeV_sound T_ok (by kernel_rfl) rfl ?_)
  simp only [Try.results30, go_sem, Nat.reduceMul, Nat.reduceLeDiff, Nat.reduceLT, reduceIte, reduceCtorEq, Nat.reduceEqDiff, Nat.reduceSub, Nat.reduceAdd]
  refine HereO.call T_ok rfl rfl (l01Order_spec t hg a ha) (by simp only [go_sem, Nat.reduceMul, Nat.reduceLeDiff, Nat.reduceLT, reduceIte, reduceCtorEq, Nat.reduceEqDiff, Nat.reduceSub, Nat.reduceAdd, List.toList_toArray] <;> first | rfl | exact ⟨rfl, rfl⟩) rfl ?_
  simp only [Try.results30, go_sem, Nat.reduceMul, Nat.reduceLeDiff, Nat.reduceLT, reduceIte, reduceCtorEq, Nat.reduceEqDiff, Nat.reduceSub, Nat.reduceAdd]
  refine HereO.call T_ok rfl rfl (l01Mod_spec x (ordN t a) (by omega) (by omega) hx) (by simp only [go_sem, Nat.reduceMul, Nat.reduceLeDiff, Nat.reduceLT, reduceIte, reduceCtorEq, Nat.reduceEqDiff, Nat.reduceSub, Nat.reduceAdd, List.toList_toArray] <;> first | rfl | exact ⟨rfl, rfl⟩) rfl ?_
  simp only [Try.results30, go_sem, Nat.reduceMul, Nat.reduceLeDiff, Nat.reduceLT, reduceIte, reduceCtorEq, Nat.reduceEqDiff, Nat.reduceSub, Nat.reduceAdd]
  generalize x % (ordN t a : Int) = r at hr0 hr1
  refine Here.loopV T_ok (fun k => k ≤ r.toNat) (fun k => r.toNat - k) (fun k => [(1, .v (.int .i64 a)), (2, .v (.int .i64 (r - k))), (3, .box [.rds (II t)]), (7, .v (.int .i64 (pwN t a k)))]) (fun _ => []) 0 (by simp) (by simp only [Try.results30, go_sem, Nat.reduceMul, Nat.reduceLeDiff, Nat.reduceLT, reduceIte, reduceCtorEq, Nat.reduceEqDiff, Nat.reduceSub, Nat.reduceAdd]; simp [pwN]) trivial ?_
  intro k hk
  simp only [Try.results30, go_sem, Nat.reduceMul, Nat.reduceLeDiff, Nat.reduceLT, reduceIte, reduceCtorEq, Nat.reduceEqDiff, Nat.reduceSub, Nat.reduceAdd]
  have hlt := pwN_lt hg ha k
  refine ⟨fun h => ?_, fun h => by rw [show r.toNat = k by omega]⟩
  have hrow := (hg.2.2.1 _ hlt).1
  have he := em_ee hg hlt ha
  unfold ee at he
  exact ⟨⟨by omega, by omega⟩, ⟨by omega, by omega⟩, by unfold InR; omega, k + 1, by omega, by omega, by omega, by rw [he]; rfl⟩

theorem emod_nat {x : Int} (h : 0 ≤ x) (o : Nat) : x % (o : Int) = (x.toNat % o : Nat) := by
  obtain ⟨n, rfl⟩ := Int.eq_ofNat_of_zero_le h
  rfl
theorem neg_mod {x : Int} {o : Nat} (h0 : 1 ≤ o) (h8 : o ≤ 8) (hx : x < 0) : (o - (0 - x).toNat % o) % o = (x % (o : Int)).toNat := by
  have hm : o = 1 ∨ o = 2 ∨ o = 3 ∨ o = 4 ∨ o = 5 ∨ o = 6 ∨ o = 7 ∨ o = 8 := by omega
  rcases hm with rfl | rfl | rfl | rfl | rfl | rfl | rfl | rfl <;> omega
end Go.Proofs.Ytcjhojdlfnpgjaa
