/- Contracts: homomorphisms of groups. -/
import Derived.Test.YtcjhojdlfnpgjaaGa
import Derived.Test.YtcjhojdlfnpgjaaVp
namespace Go.Proofs.Ytcjhojdlfnpgjaa
open Go.RowKit
set_option linter.unusedVariables false
set_option linter.unusedSimpArgs false
set_option maxRecDepth 100000

theorem areGroups2_spec (t u : List (List Int)) : Spec Try.prog 56 [.rdL [.rds (II t), .rds (II u)]] (.v (.bool (decide (Grp t ∧ Grp u)))) [] := by
  refine Spec.of_code T_ok Try.func56 rfl Try.ntmps56 Try.call56 (Nat.le_of_ble_eq_true rfl) rfl rfl (CodeV_sound T_ok (by kernel_rfl) rfl ?_)
  simp only [Try.results56, go_sem, Nat.reduceMul, Nat.reduceLeDiff, Nat.reduceLT, reduceIte, reduceCtorEq, Nat.reduceEqDiff, Nat.reduceSub, Nat.reduceAdd]
  refine Here.loopV T_ok (fun k => k ≤ 2 ∧ (0 < k → Grp t) ∧ (1 < k → Grp u)) (fun k => 2 - k) (fun k => [(5, .rdL [.rds (II t), .rds (II u)]), (6, .v (.int .i64 2)), (7, .v (.int .i64 k))]) (fun _ => []) 0 (by simp) (by simp only [Try.results56, go_sem, Nat.reduceMul, Nat.reduceLeDiff, Nat.reduceLT, reduceIte, reduceCtorEq, Nat.reduceEqDiff, Nat.reduceSub, Nat.reduceAdd]; simp) trivial ?_
  rintro k ⟨hk, hj⟩
  obtain rfl | rfl | rfl : k = 0 ∨ k = 1 ∨ k = 2 := by omega
  · simp only [Try.results56, go_sem, Nat.reduceMul, Nat.reduceLeDiff, Nat.reduceLT, reduceIte, reduceCtorEq, Nat.reduceEqDiff, Nat.reduceSub, Nat.reduceAdd]
    try simp only [List.getD_cons_zero]
    refine ⟨fun _ => ⟨by omega, ?_⟩, fun h => absurd (by decide) h⟩
    refine HereO.alloc T_ok 104 rfl rfl (by decide) ?_
    simp only [Try.results56, go_sem, Nat.reduceMul, Nat.reduceLeDiff, Nat.reduceLT, reduceIte, reduceCtorEq, Nat.reduceEqDiff, Nat.reduceSub, Nat.reduceAdd]
    refine HereO.storeAgg T_ok rfl (by simp only [go_sem, Nat.reduceMul, Nat.reduceLeDiff, Nat.reduceLT, reduceIte, reduceCtorEq, Nat.reduceEqDiff, Nat.reduceSub, Nat.reduceAdd] <;> rfl) (by simp only [go_sem, Nat.reduceMul, Nat.reduceLeDiff, Nat.reduceLT, reduceIte, reduceCtorEq, Nat.reduceEqDiff, Nat.reduceSub, Nat.reduceAdd] <;> rfl) rfl (by simp only [go_sem, Nat.reduceMul, Nat.reduceLeDiff, Nat.reduceLT, reduceIte, reduceCtorEq, Nat.reduceEqDiff, Nat.reduceSub, Nat.reduceAdd] <;> rfl) rfl rfl rfl ?_
    simp only [Try.results56, go_sem, Nat.reduceMul, Nat.reduceLeDiff, Nat.reduceLT, reduceIte, reduceCtorEq, Nat.reduceEqDiff, Nat.reduceSub, Nat.reduceAdd]
    refine HereO.call T_ok rfl rfl (IsGroup_spec t) (by simp only [go_sem, Nat.reduceMul, Nat.reduceLeDiff, Nat.reduceLT, reduceIte, reduceCtorEq, Nat.reduceEqDiff, Nat.reduceSub, Nat.reduceAdd, List.toList_toArray] <;> first | rfl | exact ⟨rfl, rfl⟩) rfl ?_
    simp only [Try.results56, go_sem, Nat.reduceMul, Nat.reduceLeDiff, Nat.reduceLT, reduceIte, reduceCtorEq, Nat.reduceEqDiff, Nat.reduceSub, Nat.reduceAdd]
    exact ⟨fun h => (decide_eq_false fun g => h g.1).symm, fun h => ⟨by unfold InR; omega, 1, ⟨by omega, fun _ => h, fun q => by omega⟩, by omega, rfl⟩⟩
  · simp only [Try.results56, go_sem, Nat.reduceMul, Nat.reduceLeDiff, Nat.reduceLT, reduceIte, reduceCtorEq, Nat.reduceEqDiff, Nat.reduceSub, Nat.reduceAdd]
    simp only [List.getD_cons_zero, List.getD_cons_succ]
    refine ⟨fun _ => ⟨by omega, ?_⟩, fun h => absurd (by decide) h⟩
    refine HereO.alloc T_ok 104 rfl rfl (by decide) ?_
    simp only [Try.results56, go_sem, Nat.reduceMul, Nat.reduceLeDiff, Nat.reduceLT, reduceIte, reduceCtorEq, Nat.reduceEqDiff, Nat.reduceSub, Nat.reduceAdd]
    refine HereO.storeAgg T_ok rfl (by simp only [go_sem, Nat.reduceMul, Nat.reduceLeDiff, Nat.reduceLT, reduceIte, reduceCtorEq, Nat.reduceEqDiff, Nat.reduceSub, Nat.reduceAdd] <;> rfl) (by simp only [go_sem, Nat.reduceMul, Nat.reduceLeDiff, Nat.reduceLT, reduceIte, reduceCtorEq, Nat.reduceEqDiff, Nat.reduceSub, Nat.reduceAdd] <;> rfl) rfl (by simp only [go_sem, Nat.reduceMul, Nat.reduceLeDiff, Nat.reduceLT, reduceIte, reduceCtorEq, Nat.reduceEqDiff, Nat.reduceSub, Nat.reduceAdd] <;> rfl) rfl rfl rfl ?_
    simp only [Try.results56, go_sem, Nat.reduceMul, Nat.reduceLeDiff, Nat.reduceLT, reduceIte, reduceCtorEq, Nat.reduceEqDiff, Nat.reduceSub, Nat.reduceAdd]
    refine HereO.call T_ok rfl rfl (IsGroup_spec u) (by simp only [go_sem, Nat.reduceMul, Nat.reduceLeDiff, Nat.reduceLT, reduceIte, reduceCtorEq, Nat.reduceEqDiff, Nat.reduceSub, Nat.reduceAdd, List.toList_toArray] <;> first | rfl | exact ⟨rfl, rfl⟩) rfl ?_
    simp only [Try.results56, go_sem, Nat.reduceMul, Nat.reduceLeDiff, Nat.reduceLT, reduceIte, reduceCtorEq, Nat.reduceEqDiff, Nat.reduceSub, Nat.reduceAdd]
    exact ⟨fun h => (decide_eq_false fun g => h g.2).symm, fun h => ⟨by unfold InR; omega, 2, ⟨by omega, fun _ => hj.1 (by omega), fun _ => h⟩, by omega, rfl⟩⟩
  · simp only [Try.results56, go_sem, Nat.reduceMul, Nat.reduceLeDiff, Nat.reduceLT, reduceIte, reduceCtorEq, Nat.reduceEqDiff, Nat.reduceSub, Nat.reduceAdd]
    exact ⟨fun h => absurd h (by decide), fun _ => (decide_eq_true ⟨hj.1 (by omega), hj.2 (by omega)⟩).symm⟩

/-- The code of two groups and a list of images. -/
def codeH (t u : List (List Int)) (l : List Int) : Int := if Grp t ∧ Grp u then (if l.length = t.length ∧ AreIn u.length l then 0 else 2) else 1
theorem codeH_ok {t u : List (List Int)} {l : List Int} (h : codeH t u l = 0) : Grp t ∧ Grp u ∧ l.length = t.length ∧ AreIn u.length l := by
  unfold codeH at h
  split at h
  · rename_i h1
    split at h
    · rename_i h2; exact ⟨h1.1, h1.2, h2.1, h2.2⟩
    · omega
  · omega

theorem imagesCode_spec (t u : List (List Int)) (l : List Int) (hl : l.length ≤ 1048576) : Spec Try.prog 33 [.agg [.rds (II t)], .agg [.rds (II u)], .rd (I l)] (.v (.int .i64 (codeH t u l))) [] := by
  refine Spec.of_code T_ok Try.func33 rfl Try.ntmps33 Try.call33 (Nat.le_of_ble_eq_true rfl) rfl rfl (CodeV_sound T_ok (by kernel_rfl) rfl ?_)
  simp only [Try.results33, go_sem, Nat.reduceMul, Nat.reduceLeDiff, Nat.reduceLT, reduceIte, reduceCtorEq, Nat.reduceEqDiff, Nat.reduceSub, Nat.reduceAdd]
  refine HereO.buildAggs T_ok 110 [.rds (II t), .rds (II u)] rfl rfl rfl (by decide) (by decide) rfl (by simp only [go_sem, Nat.reduceMul, Nat.reduceLeDiff, Nat.reduceLT, reduceIte, reduceCtorEq, Nat.reduceEqDiff, Nat.reduceSub, Nat.reduceAdd] <;> rfl) (by decide) rfl ?_
  simp only [Try.results33, go_sem, Nat.reduceMul, Nat.reduceLeDiff, Nat.reduceLT, reduceIte, reduceCtorEq, Nat.reduceEqDiff, Nat.reduceSub, Nat.reduceAdd]
  refine HereO.call T_ok rfl rfl (areGroups2_spec t u) (by simp only [go_sem, Nat.reduceMul, Nat.reduceLeDiff, Nat.reduceLT, reduceIte, reduceCtorEq, Nat.reduceEqDiff, Nat.reduceSub, Nat.reduceAdd, List.toList_toArray] <;> first | rfl | exact ⟨rfl, rfl⟩) rfl ?_
  simp only [Try.results33, go_sem, Nat.reduceMul, Nat.reduceLeDiff, Nat.reduceLT, reduceIte, reduceCtorEq, Nat.reduceEqDiff, Nat.reduceSub, Nat.reduceAdd]
  refine ⟨fun h => by unfold codeH; rw [if_neg h], fun h => ?_⟩
  refine HereO.call T_ok rfl rfl (order_spec t) (by simp only [go_sem, Nat.reduceMul, Nat.reduceLeDiff, Nat.reduceLT, reduceIte, reduceCtorEq, Nat.reduceEqDiff, Nat.reduceSub, Nat.reduceAdd, List.toList_toArray] <;> first | rfl | exact ⟨rfl, rfl⟩) rfl ?_
  simp only [Try.results33, go_sem, Nat.reduceMul, Nat.reduceLeDiff, Nat.reduceLT, reduceIte, reduceCtorEq, Nat.reduceEqDiff, Nat.reduceSub, Nat.reduceAdd]
  unfold codeH
  rw [if_pos h]
  refine ⟨fun h2 => ?_, fun h2 => by rw [if_neg fun g => h2 (by rw [g.1])]⟩
  refine HereO.call T_ok rfl rfl (order_spec u) (by simp only [go_sem, Nat.reduceMul, Nat.reduceLeDiff, Nat.reduceLT, reduceIte, reduceCtorEq, Nat.reduceEqDiff, Nat.reduceSub, Nat.reduceAdd, List.toList_toArray] <;> first | rfl | exact ⟨rfl, rfl⟩) rfl ?_
  simp only [Try.results33, go_sem, Nat.reduceMul, Nat.reduceLeDiff, Nat.reduceLT, reduceIte, reduceCtorEq, Nat.reduceEqDiff, Nat.reduceSub, Nat.reduceAdd]
  refine HereO.call T_ok rfl rfl (areIn_spec u.length l hl) (by simp only [go_sem, Nat.reduceMul, Nat.reduceLeDiff, Nat.reduceLT, reduceIte, reduceCtorEq, Nat.reduceEqDiff, Nat.reduceSub, Nat.reduceAdd, List.toList_toArray] <;> first | rfl | exact ⟨rfl, rfl⟩) rfl ?_
  simp only [Try.results33, go_sem, Nat.reduceMul, Nat.reduceLeDiff, Nat.reduceLT, reduceIte, reduceCtorEq, Nat.reduceEqDiff, Nat.reduceSub, Nat.reduceAdd]
  exact ⟨fun h3 => by rw [if_neg fun g => h3 g.2], fun h3 => by rw [if_pos ⟨by omega, h3⟩]⟩

/-- Images of the first elements go together. -/
def Hom (t u : List (List Int)) (l : List Int) : Prop := ∀ a, a < l.length → ∀ b, b < l.length → ee t a b < l.length → l.getD (ee t a b).toNat 0 = ee u (l.getD a 0).toNat (l.getD b 0).toNat
instance (t u : List (List Int)) (l : List Int) : Decidable (Hom t u l) := by unfold Hom; infer_instance

theorem isHomomorphism_spec (t u : List (List Int)) (l : List Int) (ht : Grp t) (hu : Grp u) (hl : l.length ≤ t.length) (hi : AreIn u.length l) : Spec Try.prog 34 [.agg [.rds (II t)], .agg [.rds (II u)], .rd (I l)] (.v (.bool (decide (Hom t u l)))) [] := by
  have h8 := ht.2.1
  refine Spec.of_code T_ok Try.func34 rfl Try.ntmps34 Try.call34 (Nat.le_of_ble_eq_true rfl) rfl rfl (CodeV_sound T_ok (by kernel_rfl) rfl ?_)
  simp only [Try.results34, go_sem, Nat.reduceMul, Nat.reduceLeDiff, Nat.reduceLT, reduceIte, reduceCtorEq, Nat.reduceEqDiff, Nat.reduceSub, Nat.reduceAdd]
  refine Here.loopV T_ok (fun k => k ≤ l.length ∧ ∀ a, a < k → ∀ b, b < l.length → ee t a b < l.length → l.getD (ee t a b).toNat 0 = ee u (l.getD a 0).toNat (l.getD b 0).toNat) (fun k => l.length - k) (fun k => [(2, .rd (I l)), (3, .box [.rds (II t)]), (4, .box [.rds (II u)]), (7, .v (.int .i64 l.length)), (13, .v (.int .i64 l.length)), (14, .v (.int .i64 k))]) (fun _ => []) 0 (by simp) (by simp only [Try.results34, go_sem, Nat.reduceMul, Nat.reduceLeDiff, Nat.reduceLT, reduceIte, reduceCtorEq, Nat.reduceEqDiff, Nat.reduceSub, Nat.reduceAdd]; rfl) trivial ?_
  rintro a ⟨ha, hall⟩
  simp only [Try.results34, go_sem, Nat.reduceMul, Nat.reduceLeDiff, Nat.reduceLT, reduceIte, reduceCtorEq, Nat.reduceEqDiff, Nat.reduceSub, Nat.reduceAdd]
  refine ⟨fun h1 => ?_, fun h1 => (decide_eq_true fun a h => hall a (by omega)).symm⟩
  refine Here.loopV T_ok (fun k => k ≤ l.length ∧ ∀ b, b < k → ee t a b < l.length → l.getD (ee t a b).toNat 0 = ee u (l.getD a 0).toNat (l.getD b 0).toNat) (fun k => l.length - k) (fun k => [(2, .rd (I l)), (3, .box [.rds (II t)]), (4, .box [.rds (II u)]), (7, .v (.int .i64 l.length)), (8, .v (.int .i64 a)), (13, .v (.int .i64 l.length)), (14, .v (.int .i64 a)), (17, .v (.int .i64 l.length)), (18, .v (.int .i64 k))]) (fun _ => []) 0 (by simp) (by simp only [Try.results34, go_sem, Nat.reduceMul, Nat.reduceLeDiff, Nat.reduceLT, reduceIte, reduceCtorEq, Nat.reduceEqDiff, Nat.reduceSub, Nat.reduceAdd]; rfl) trivial ?_
  rintro b ⟨hb, hbs⟩
  simp only [Try.results34, go_sem, Nat.reduceMul, Nat.reduceLeDiff, Nat.reduceLT, reduceIte, reduceCtorEq, Nat.reduceEqDiff, Nat.reduceSub, Nat.reduceAdd]
  refine ⟨fun h2 => ?_, fun h2 => ⟨by unfold InR; omega, a + 1, ⟨by omega, fun a' h => ?_⟩, by omega, rfl⟩⟩
  · refine HereO.buildRow T_ok 124 (I [a, b]) rfl rfl rfl (by decide) rfl (by simp only [go_sem, Nat.reduceMul, Nat.reduceLeDiff, Nat.reduceLT, reduceIte, reduceCtorEq, Nat.reduceEqDiff, Nat.reduceSub, Nat.reduceAdd] <;> rfl) rfl (by decide) ?_
    simp only [Try.results34, go_sem, Nat.reduceMul, Nat.reduceLeDiff, Nat.reduceLT, reduceIte, reduceCtorEq, Nat.reduceEqDiff, Nat.reduceSub, Nat.reduceAdd]
    have hab : AreIn t.length [(a : Int), b] := by
      intro j hj
      match j, hj with
      | 0, _ => simp; omega
      | 1, _ => simp; omega
    refine HereO.call T_ok rfl rfl (times_spec t [a, b] ht hab (by simp)) (by simp only [go_sem, Nat.reduceMul, Nat.reduceLeDiff, Nat.reduceLT, reduceIte, reduceCtorEq, Nat.reduceEqDiff, Nat.reduceSub, Nat.reduceAdd, List.toList_toArray] <;> first | rfl | exact ⟨rfl, rfl⟩) rfl ?_
    simp only [Try.results34, go_sem, Nat.reduceMul, Nat.reduceLeDiff, Nat.reduceLT, reduceIte, reduceCtorEq, Nat.reduceEqDiff, Nat.reduceSub, Nat.reduceAdd]
    rw [tm_two ht (by omega)]
    simp only [Int.toNat_natCast]
    have he := (ht.2.2.1 a (by omega)).2 b (by omega)
    refine Here.draw T_ok mixed_ok (by kernel_rfl) ?_
    simp only [Try.results34, go_sem, Nat.reduceMul, Nat.reduceLeDiff, Nat.reduceLT, reduceIte, reduceCtorEq, Nat.reduceEqDiff, Nat.reduceSub, Nat.reduceAdd]
    have hla := hi a (by omega)
    have hlb := hi b (by omega)
    have hab' : AreIn u.length [l.getD a 0, l.getD b 0] := by
      intro j hj
      match j, hj with
      | 0, _ => exact hla
      | 1, _ => exact hlb
    refine ⟨fun h3 => ⟨by omega, by omega, by omega, _, OpP.buildRd T_ok (I [l.getD a 0, l.getD b 0]) rfl rfl rfl (by decide) rfl (by simp only [go_sem, Nat.reduceMul, Nat.reduceLeDiff, Nat.reduceLT, reduceIte, reduceCtorEq, Nat.reduceEqDiff, Nat.reduceSub, Nat.reduceAdd] <;> rfl) rfl, ?_⟩, fun h3 => ⟨by unfold InR; omega, b + 1, ⟨by omega, fun b' h h4 => ?_⟩, by omega, rfl⟩⟩
    · simp only [Try.results34, go_sem, Nat.reduceMul, Nat.reduceLeDiff, Nat.reduceLT, reduceIte, reduceCtorEq, Nat.reduceEqDiff, Nat.reduceSub, Nat.reduceAdd]
      refine ⟨_, OpP.call' rfl rfl (times_spec u [l.getD a 0, l.getD b 0] hu hab' (by simp)) (by simp only [go_sem, Nat.reduceMul, Nat.reduceLeDiff, Nat.reduceLT, reduceIte, reduceCtorEq, Nat.reduceEqDiff, Nat.reduceSub, Nat.reduceAdd, List.toList_toArray] <;> first | rfl | exact ⟨rfl, rfl⟩) rfl, ?_⟩
      simp only [Try.results34, go_sem, Nat.reduceMul, Nat.reduceLeDiff, Nat.reduceLT, reduceIte, reduceCtorEq, Nat.reduceEqDiff, Nat.reduceSub, Nat.reduceAdd]
      rw [tm_two hu hla]
      refine ⟨fun h4 => (decide_eq_false fun h => h4 (h a (by omega) b (by omega) h3)).symm, fun h4 => ⟨by unfold InR; omega, b + 1, ⟨by omega, fun b' h h5 => ?_⟩, by omega, rfl⟩⟩
      by_cases e : b' = b
      · subst e; exact h4
      · exact hbs b' (by omega) h5
    · by_cases e : b' = b
      · subst e; omega
      · exact hbs b' (by omega) h4
  · by_cases e : a' = a
    · subst e; exact fun b h => hbs b (by omega)
    · exact hall a' (by omega)

theorem l01Homomorphism_spec (t u : List (List Int)) (l : List Int) (ht : Grp t) (hu : Grp u) (hl : l.length = t.length) (hi : AreIn u.length l) : Spec Try.prog 36 [.agg [.rds (II t)], .agg [.rds (II u)], .rd (I l)] (.v (.bool (decide (Hom t u l)))) [] := by
  have h8 := ht.2.1
  refine Spec.of_code T_ok Try.func36 rfl Try.ntmps36 Try.call36 (Nat.le_of_ble_eq_true rfl) rfl rfl (CodeV_sound T_ok (by kernel_rfl) rfl ?_)
  simp only [Try.results36, go_sem, Nat.reduceMul, Nat.reduceLeDiff, Nat.reduceLT, reduceIte, reduceCtorEq, Nat.reduceEqDiff, Nat.reduceSub, Nat.reduceAdd]
  refine Here.loopV T_ok (fun k => k ≤ t.length ∧ ∀ a, a < k → ∀ b, b < t.length → l.getD (ee t a b).toNat 0 = ee u (l.getD a 0).toNat (l.getD b 0).toNat) (fun k => t.length - k) (fun k => [(2, .rd (I l)), (3, .box [.rds (II t)]), (4, .box [.rds (II u)]), (7, .v (.int .i64 k))]) (fun _ => []) 0 (by simp) (by simp only [Try.results36, go_sem, Nat.reduceMul, Nat.reduceLeDiff, Nat.reduceLT, reduceIte, reduceCtorEq, Nat.reduceEqDiff, Nat.reduceSub, Nat.reduceAdd]; rfl) trivial ?_
  rintro a ⟨ha, hall⟩
  simp only [Try.results36, go_sem, Nat.reduceMul, Nat.reduceLeDiff, Nat.reduceLT, reduceIte, reduceCtorEq, Nat.reduceEqDiff, Nat.reduceSub, Nat.reduceAdd]
  refine HereO.call T_ok rfl rfl (l01N_spec t) (by simp only [go_sem, Nat.reduceMul, Nat.reduceLeDiff, Nat.reduceLT, reduceIte, reduceCtorEq, Nat.reduceEqDiff, Nat.reduceSub, Nat.reduceAdd, List.toList_toArray] <;> first | rfl | exact ⟨rfl, rfl⟩) rfl ?_
  simp only [Try.results36, go_sem, Nat.reduceMul, Nat.reduceLeDiff, Nat.reduceLT, reduceIte, reduceCtorEq, Nat.reduceEqDiff, Nat.reduceSub, Nat.reduceAdd]
  refine ⟨fun h1 => ?_, fun h1 => (decide_eq_true fun a h b h' _ => hall a (by omega) b (by omega)).symm⟩
  refine Here.loopV T_ok (fun k => k ≤ t.length ∧ ∀ b, b < k → l.getD (ee t a b).toNat 0 = ee u (l.getD a 0).toNat (l.getD b 0).toNat) (fun k => t.length - k) (fun k => [(2, .rd (I l)), (3, .box [.rds (II t)]), (4, .box [.rds (II u)]), (7, .v (.int .i64 a)), (8, .v (.int .i64 k))]) (fun _ => []) 0 (by simp) (by simp only [Try.results36, go_sem, Nat.reduceMul, Nat.reduceLeDiff, Nat.reduceLT, reduceIte, reduceCtorEq, Nat.reduceEqDiff, Nat.reduceSub, Nat.reduceAdd]; rfl) trivial ?_
  rintro b ⟨hb, hbs⟩
  simp only [Try.results36, go_sem, Nat.reduceMul, Nat.reduceLeDiff, Nat.reduceLT, reduceIte, reduceCtorEq, Nat.reduceEqDiff, Nat.reduceSub, Nat.reduceAdd]
  refine HereO.call T_ok rfl rfl (l01N_spec t) (by simp only [go_sem, Nat.reduceMul, Nat.reduceLeDiff, Nat.reduceLT, reduceIte, reduceCtorEq, Nat.reduceEqDiff, Nat.reduceSub, Nat.reduceAdd, List.toList_toArray] <;> first | rfl | exact ⟨rfl, rfl⟩) rfl ?_
  simp only [Try.results36, go_sem, Nat.reduceMul, Nat.reduceLeDiff, Nat.reduceLT, reduceIte, reduceCtorEq, Nat.reduceEqDiff, Nat.reduceSub, Nat.reduceAdd]
  refine ⟨fun h2 => ?_, fun h2 => ⟨by unfold InR; omega, a + 1, ⟨by omega, fun a' h => ?_⟩, by omega, rfl⟩⟩
  · have la := (ht.2.2.1 a (by omega)).1
    have he := (ht.2.2.1 a (by omega)).2 b (by omega)
    have hla := hi a (by omega)
    have hlb := hi b (by omega)
    have lu := (hu.2.2.1 (l.getD a 0).toNat (by omega)).1
    unfold ee at he
    refine Here.draw T_ok mixed_ok (by kernel_rfl) ?_
    simp only [Try.results36, go_sem, Nat.reduceMul, Nat.reduceLeDiff, Nat.reduceLT, reduceIte, reduceCtorEq, Nat.reduceEqDiff, Nat.reduceSub, Nat.reduceAdd]
    refine ⟨by omega, by omega, by omega, by omega, by omega, by omega, by omega, fun h3 => (decide_eq_false fun h => h3 (h a (by omega) b (by omega) (by unfold ee; omega))).symm, fun h3 => ⟨by unfold InR; omega, b + 1, ⟨by omega, fun b' h => ?_⟩, by omega, rfl⟩⟩
    by_cases e : b' = b
    · subst e; exact h3
    · exact hbs b' (by omega)
  · by_cases e : a' = a
    · subst e; exact fun b h => hbs b (by omega)
    · exact hall a' (by omega)

def homV (t u : List (List Int)) (l : List Int) : Bool := decide (codeH t u l = 0 ∧ Hom t u l)
end Go.Proofs.Ytcjhojdlfnpgjaa
