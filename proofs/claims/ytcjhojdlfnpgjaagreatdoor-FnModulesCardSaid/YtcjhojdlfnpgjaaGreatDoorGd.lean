/- Contracts: modules. -/
import Derived.Test.YtcjhojdlfnpgjaaGreatDoorGa
import Derived.Test.YtcjhojdlfnpgjaaGreatDoorVp
namespace Go.Proofs.YtcjhojdlfnpgjaaGreatDoor
open Go.RowKit
set_option linter.unusedVariables false
set_option linter.unusedSimpArgs false
set_option maxRecDepth 100000

theorem isModulus_spec (m : Int) : Spec Tryz.prog 27 [.v (.int .i64 m)] (.v (.bool (decide (2 ≤ m ∧ m ≤ 12)))) [] := by
  refine Spec.of_code T_ok Tryz.func27 rfl Tryz.ntmps27 Tryz.call27 (Nat.le_of_ble_eq_true rfl) rfl rfl (CodeV_sound T_ok (by kernel_rfl) rfl ?_)
  simp only [Tryz.results27, go_sem, Nat.reduceMul, Nat.reduceLeDiff, Nat.reduceLT, reduceIte, reduceCtorEq, Nat.reduceEqDiff, Nat.reduceSub, Nat.reduceAdd]
  exact ⟨fun h => by simp [h], fun h => by simp [h]⟩

theorem gcd_spec (a b : Nat) (ha : a ≤ 1000) (hb : b ≤ 1000) : Spec Tryz.prog 77 [.v (.int .i64 a), .v (.int .i64 b)] (.v (.int .i64 (Nat.gcd a b))) [] := by
  refine Spec.of_code T_ok Tryz.func77 rfl Tryz.ntmps77 Tryz.call77 (Nat.le_of_ble_eq_true rfl) rfl rfl (CodeV_sound T_ok (by kernel_rfl) rfl ?_)
  simp only [Tryz.results77, go_sem, Nat.reduceMul, Nat.reduceLeDiff, Nat.reduceLT, reduceIte, reduceCtorEq, Nat.reduceEqDiff, Nat.reduceSub, Nat.reduceAdd]
  refine Here.loopV T_ok (κ := Nat × Nat) (fun k => k.1 ≤ 1000 ∧ k.2 ≤ 1000 ∧ Nat.gcd k.1 k.2 = Nat.gcd a b) (fun k => k.2) (fun k => [(0, .v (.int .i64 k.1)), (1, .v (.int .i64 k.2))]) (fun _ => []) (a, b) ⟨ha, hb, rfl⟩ (by simp only [Tryz.results77, go_sem, Nat.reduceMul, Nat.reduceLeDiff, Nat.reduceLT, reduceIte, reduceCtorEq, Nat.reduceEqDiff, Nat.reduceSub, Nat.reduceAdd]) trivial ?_
  rintro ⟨x, y⟩ ⟨hx, hy, hg⟩
  simp only [Tryz.results77, go_sem, Nat.reduceMul, Nat.reduceLeDiff, Nat.reduceLT, reduceIte, reduceCtorEq, Nat.reduceEqDiff, Nat.reduceSub, Nat.reduceAdd]
  refine ⟨fun h => ?_, fun h => ?_⟩
  · refine Here.draw T_ok mixed_ok (by kernel_rfl) ?_
    simp only [Tryz.results77, go_sem, Nat.reduceMul, Nat.reduceLeDiff, Nat.reduceLT, reduceIte, reduceCtorEq, Nat.reduceEqDiff, Nat.reduceSub, Nat.reduceAdd]
    refine ⟨h, (y, x % y), ⟨hy, ?_, ?_⟩, Nat.mod_lt _ (by omega), rfl, rfl⟩
    · have := Nat.mod_lt x (show 0 < y by omega); show x % y ≤ 1000; omega
    · rw [← hg]; show Nat.gcd y (x % y) = Nat.gcd x y; rw [Nat.gcd_comm y, ← Nat.gcd_rec, Nat.gcd_comm]
  · have : y = 0 := by omega
    subst this
    simp at hg
    omega

theorem l01Gcd_spec (a b : Nat) (ha : a ≤ 1000) (hb : b ≤ 1000) : Spec Tryz.prog 59 [.v (.int .i64 a), .v (.int .i64 b)] (.v (.int .i64 (Nat.gcd a b))) [] := by
  refine Spec.of_code T_ok Tryz.func59 rfl Tryz.ntmps59 Tryz.call59 (Nat.le_of_ble_eq_true rfl) rfl rfl (CodeV_sound T_ok (by kernel_rfl) rfl ?_)
  simp only [Tryz.results59, go_sem, Nat.reduceMul, Nat.reduceLeDiff, Nat.reduceLT, reduceIte, reduceCtorEq, Nat.reduceEqDiff, Nat.reduceSub, Nat.reduceAdd]
  refine Here.loopV T_ok (κ := Nat × Nat) (fun k => k.1 ≤ 1000 ∧ k.2 ≤ 1000 ∧ Nat.gcd k.1 k.2 = Nat.gcd a b) (fun k => k.2) (fun k => [(0, .v (.int .i64 k.1)), (1, .v (.int .i64 k.2))]) (fun _ => []) (a, b) ⟨ha, hb, rfl⟩ (by simp only [Tryz.results59, go_sem, Nat.reduceMul, Nat.reduceLeDiff, Nat.reduceLT, reduceIte, reduceCtorEq, Nat.reduceEqDiff, Nat.reduceSub, Nat.reduceAdd]) trivial ?_
  rintro ⟨x, y⟩ ⟨hx, hy, hg⟩
  simp only [Tryz.results59, go_sem, Nat.reduceMul, Nat.reduceLeDiff, Nat.reduceLT, reduceIte, reduceCtorEq, Nat.reduceEqDiff, Nat.reduceSub, Nat.reduceAdd]
  refine ⟨fun h => ⟨h, (y, x % y), ⟨hy, ?_, ?_⟩, Nat.mod_lt _ (by omega), rfl, ?_⟩, fun h => ⟨by unfold InR; omega, ?_⟩⟩
  · have := Nat.mod_lt x (show 0 < y by omega); show x % y ≤ 1000; omega
  · rw [← hg]; show Nat.gcd y (x % y) = Nat.gcd x y; rw [Nat.gcd_comm y, ← Nat.gcd_rec, Nat.gcd_comm]
  · rfl
  · refine HereO.opP T_ok (OpP.max2 rfl rfl rfl) ?_
    simp only [Tryz.results59, go_sem, Nat.reduceMul, Nat.reduceLeDiff, Nat.reduceLT, reduceIte, reduceCtorEq, Nat.reduceEqDiff, Nat.reduceSub, Nat.reduceAdd]
    have : y = 0 := by omega
    subst this
    simp at hg
    rw [if_neg (by omega)]
    omega

theorem l01Gcd_spec' (a b : Int) (ha : 0 ≤ a ∧ a ≤ 1000) (hb : 0 ≤ b ∧ b ≤ 1000) : Spec Tryz.prog 59 [.v (.int .i64 a), .v (.int .i64 b)] (.v (.int .i64 (Nat.gcd a.toNat b.toNat))) [] := by
  obtain ⟨a', rfl⟩ := Int.eq_ofNat_of_zero_le ha.1
  obtain ⟨b', rfl⟩ := Int.eq_ofNat_of_zero_le hb.1
  exact l01Gcd_spec a' b' (by omega) (by omega)

/-- A unit of a modulus. -/
def Unit1 (m u : Int) : Prop := 1 ≤ u ∧ u < m ∧ Nat.gcd u.toNat m.toNat = 1
instance (m u : Int) : Decidable (Unit1 m u) := by unfold Unit1; infer_instance
theorem isUnit_spec (m u : Int) (hm : 2 ≤ m ∧ m ≤ 12) : Spec Tryz.prog 54 [.v (.int .i64 m), .v (.int .i64 u)] (.v (.bool (decide (Unit1 m u)))) [] := by
  refine Spec.of_code T_ok Tryz.func54 rfl Tryz.ntmps54 Tryz.call54 (Nat.le_of_ble_eq_true rfl) rfl rfl (CodeV_sound T_ok (by kernel_rfl) rfl ?_)
  simp only [Tryz.results54, go_sem, Nat.reduceMul, Nat.reduceLeDiff, Nat.reduceLT, reduceIte, reduceCtorEq, Nat.reduceEqDiff, Nat.reduceSub, Nat.reduceAdd]
  refine ⟨fun h1 => ⟨fun h2 => ?_, fun h2 => (decide_eq_false fun h => h2 h.2.1).symm⟩, fun h1 => (decide_eq_false fun h => h1 h.1).symm⟩
  obtain ⟨m', rfl⟩ := Int.eq_ofNat_of_zero_le (show 0 ≤ m by omega)
  obtain ⟨u', rfl⟩ := Int.eq_ofNat_of_zero_le (show 0 ≤ u by omega)
  refine HereO.call T_ok rfl rfl (gcd_spec m' u' (by omega) (by omega)) (by simp only [go_sem, Nat.reduceMul, Nat.reduceLeDiff, Nat.reduceLT, reduceIte, reduceCtorEq, Nat.reduceEqDiff, Nat.reduceSub, Nat.reduceAdd, List.toList_toArray] <;> first | rfl | exact ⟨rfl, rfl⟩) rfl ?_
  simp only [Tryz.results54, go_sem, Nat.reduceMul, Nat.reduceLeDiff, Nat.reduceLT, reduceIte, reduceCtorEq, Nat.reduceEqDiff, Nat.reduceSub, Nat.reduceAdd]
  unfold Unit1
  simp only [Int.toNat_natCast, h1, h2, true_and]
  rw [Nat.gcd_comm]
  rw [Bool.eq_iff_iff]
  simp
  omega

theorem Unit1_gcd {m u : Int} (hm : 2 ≤ m ∧ m ≤ 12) : Unit1 m u ↔ (1 ≤ u ∧ u ≤ m - 1) ∧ Nat.gcd u.toNat m.toNat = 1 := by
  unfold Unit1; constructor
  · rintro ⟨h1, h2, h3⟩; exact ⟨⟨h1, by omega⟩, h3⟩
  · rintro ⟨⟨h1, h2⟩, h3⟩; exact ⟨h1, by omega, h3⟩

/-- The laws of a module. -/
def Mod (t : List (List Int)) (m : Int) (l : List Int) : Prop := (2 ≤ m ∧ m ≤ 12) ∧ l.length = t.length ∧ (∀ j, j < l.length → Unit1 m (l.getD j 0)) ∧ ∀ a, a < l.length → ∀ b, b < l.length → l.getD (ee t a b).toNat 0 = (l.getD a 0 * l.getD b 0).tmod m
instance (t : List (List Int)) (m : Int) (l : List Int) : Decidable (Mod t m l) := by unfold Mod; infer_instance

theorem unit_one {m u : Int} (hm : 2 ≤ m ∧ m ≤ 12) (hu : Unit1 m u) (h : u = (u * u).tmod m) : u = 1 := by
  obtain ⟨h1, h2, h3⟩ := hu
  have hmm : m = 2 ∨ m = 3 ∨ m = 4 ∨ m = 5 ∨ m = 6 ∨ m = 7 ∨ m = 8 ∨ m = 9 ∨ m = 10 ∨ m = 11 ∨ m = 12 := by omega
  have huu : u = 1 ∨ u = 2 ∨ u = 3 ∨ u = 4 ∨ u = 5 ∨ u = 6 ∨ u = 7 ∨ u = 8 ∨ u = 9 ∨ u = 10 ∨ u = 11 := by omega
  revert h h3 h2
  rcases hmm with rfl | rfl | rfl | rfl | rfl | rfl | rfl | rfl | rfl | rfl | rfl <;> rcases huu with rfl | rfl | rfl | rfl | rfl | rfl | rfl | rfl | rfl | rfl | rfl <;> decide
theorem Mod.one {t : List (List Int)} {m : Int} {l : List Int} (hg : Grp t) (h : Mod t m l) : l.getD 0 0 = 1 := by
  have h0 := hg.1
  have e := (hg.2.2.2 0 (by omega)).1.1
  have := h.2.2.2 0 (by have := h.2.1; omega) 0 (by have := h.2.1; omega)
  rw [e] at this
  exact unit_one h.1 (h.2.2.1 0 (by have := h.2.1; omega)) this

set_option maxHeartbeats 1000000 in
theorem isModule_spec (t : List (List Int)) (m : Int) (l : List Int) (hg : Grp t) : Spec Tryz.prog 37 [.agg [.rds (II t)], .agg [.v (.int .i64 m), .rd (I l)]] (.v (.bool (decide (Mod t m l)))) [] := by
  have h8 := hg.2.1
  have h1 := hg.1
  refine Spec.of_code T_ok Tryz.func37 rfl Tryz.ntmps37 Tryz.call37 (Nat.le_of_ble_eq_true rfl) rfl rfl (CodeV_sound T_ok (by kernel_rfl) rfl ?_)
  simp only [Tryz.results37, go_sem, Nat.reduceMul, Nat.reduceLeDiff, Nat.reduceLT, reduceIte, reduceCtorEq, Nat.reduceEqDiff, Nat.reduceSub, Nat.reduceAdd]
  refine Here.draw T_ok mixed_ok (by kernel_rfl) ?_
  simp only [Tryz.results37, go_sem, Nat.reduceMul, Nat.reduceLeDiff, Nat.reduceLT, reduceIte, reduceCtorEq, Nat.reduceEqDiff, Nat.reduceSub, Nat.reduceAdd]
  refine ⟨_, OpP.call' rfl rfl (isModulus_spec m) (by simp only [go_sem, Nat.reduceMul, Nat.reduceLeDiff, Nat.reduceLT, reduceIte, reduceCtorEq, Nat.reduceEqDiff, Nat.reduceSub, Nat.reduceAdd, List.toList_toArray] <;> first | rfl | exact ⟨rfl, rfl⟩) rfl, ?_⟩
  simp only [Tryz.results37, go_sem, Nat.reduceMul, Nat.reduceLeDiff, Nat.reduceLT, reduceIte, reduceCtorEq, Nat.reduceEqDiff, Nat.reduceSub, Nat.reduceAdd]
  refine ⟨fun hm => ⟨_, OpP.call' rfl rfl (order_spec t) (by simp only [go_sem, Nat.reduceMul, Nat.reduceLeDiff, Nat.reduceLT, reduceIte, reduceCtorEq, Nat.reduceEqDiff, Nat.reduceSub, Nat.reduceAdd, List.toList_toArray] <;> first | rfl | exact ⟨rfl, rfl⟩) rfl, ?_⟩, fun hm => (decide_eq_false fun h => hm h.1).symm⟩
  simp only [Tryz.results37, go_sem, Nat.reduceMul, Nat.reduceLeDiff, Nat.reduceLT, reduceIte, reduceCtorEq, Nat.reduceEqDiff, Nat.reduceSub, Nat.reduceAdd]
  refine ⟨fun hl => ⟨⟨by omega, by omega⟩, fun hu => (decide_eq_false fun h => hu (h.one hg)).symm, fun hu => ?_⟩, fun hl => (decide_eq_false fun h => hl (by rw [h.2.1])).symm⟩
  refine Here.loopV T_ok (fun k => k ≤ l.length ∧ ∀ j, j < k → Unit1 m (l.getD j 0)) (fun k => l.length - k) (fun k => [(2, .box [.rds (II t)]), (3, .box [.v (.int .i64 m), .rd (I l)]), (29, .rd (I l)), (30, .v (.int .i64 l.length)), (31, .v (.int .i64 k))]) (fun _ => []) 0 (by simp) (by simp only [Tryz.results37, go_sem, Nat.reduceMul, Nat.reduceLeDiff, Nat.reduceLT, reduceIte, reduceCtorEq, Nat.reduceEqDiff, Nat.reduceSub, Nat.reduceAdd]; rfl) trivial ?_
  rintro k ⟨hk, hj⟩
  simp only [Tryz.results37, go_sem, Nat.reduceMul, Nat.reduceLeDiff, Nat.reduceLT, reduceIte, reduceCtorEq, Nat.reduceEqDiff, Nat.reduceSub, Nat.reduceAdd]
  refine ⟨fun h2 => ⟨by omega, ?_⟩, fun h2 => ?_⟩
  · refine HereO.call T_ok rfl rfl (isUnit_spec m (l.getD k 0) hm) (by simp only [go_sem, Nat.reduceMul, Nat.reduceLeDiff, Nat.reduceLT, reduceIte, reduceCtorEq, Nat.reduceEqDiff, Nat.reduceSub, Nat.reduceAdd, List.toList_toArray] <;> first | rfl | exact ⟨rfl, rfl⟩) rfl ?_
    simp only [Tryz.results37, go_sem, Nat.reduceMul, Nat.reduceLeDiff, Nat.reduceLT, reduceIte, reduceCtorEq, Nat.reduceEqDiff, Nat.reduceSub, Nat.reduceAdd]
    refine ⟨fun h3 => (decide_eq_false fun h => h3 (h.2.2.1 k (by omega))).symm, fun h3 => ⟨by unfold InR; omega, k + 1, ⟨by omega, fun j h => ?_⟩, by omega, rfl⟩⟩
    by_cases e : j = k
    · subst e; exact h3
    · exact hj j (by omega)
  · refine HereO.call T_ok rfl rfl (order_spec t) (by simp only [go_sem, Nat.reduceMul, Nat.reduceLeDiff, Nat.reduceLT, reduceIte, reduceCtorEq, Nat.reduceEqDiff, Nat.reduceSub, Nat.reduceAdd, List.toList_toArray] <;> first | rfl | exact ⟨rfl, rfl⟩) rfl ?_
    simp only [Tryz.results37, go_sem, Nat.reduceMul, Nat.reduceLeDiff, Nat.reduceLT, reduceIte, reduceCtorEq, Nat.reduceEqDiff, Nat.reduceSub, Nat.reduceAdd]
    refine Here.loopV T_ok (fun k => k ≤ l.length ∧ ∀ a, a < k → ∀ b, b < l.length → l.getD (ee t a b).toNat 0 = (l.getD a 0 * l.getD b 0).tmod m) (fun k => l.length - k) (fun k => [(2, .box [.rds (II t)]), (3, .box [.v (.int .i64 m), .rd (I l)]), (42, .v (.int .i64 t.length)), (43, .v (.int .i64 k))]) (fun _ => []) 0 (by simp) (by simp only [Tryz.results37, go_sem, Nat.reduceMul, Nat.reduceLeDiff, Nat.reduceLT, reduceIte, reduceCtorEq, Nat.reduceEqDiff, Nat.reduceSub, Nat.reduceAdd]; rfl) trivial ?_
    rintro a ⟨ha, hall⟩
    simp only [Tryz.results37, go_sem, Nat.reduceMul, Nat.reduceLeDiff, Nat.reduceLT, reduceIte, reduceCtorEq, Nat.reduceEqDiff, Nat.reduceSub, Nat.reduceAdd]
    refine ⟨fun h3 => ?_, fun h3 => (decide_eq_true ⟨hm, by omega, fun j h => hj j (by omega), fun a h => hall a (by omega)⟩).symm⟩
    refine HereO.call T_ok rfl rfl (order_spec t) (by simp only [go_sem, Nat.reduceMul, Nat.reduceLeDiff, Nat.reduceLT, reduceIte, reduceCtorEq, Nat.reduceEqDiff, Nat.reduceSub, Nat.reduceAdd, List.toList_toArray] <;> first | rfl | exact ⟨rfl, rfl⟩) rfl ?_
    simp only [Tryz.results37, go_sem, Nat.reduceMul, Nat.reduceLeDiff, Nat.reduceLT, reduceIte, reduceCtorEq, Nat.reduceEqDiff, Nat.reduceSub, Nat.reduceAdd]
    refine Here.loopV T_ok (fun k => k ≤ l.length ∧ ∀ b, b < k → l.getD (ee t a b).toNat 0 = (l.getD a 0 * l.getD b 0).tmod m) (fun k => l.length - k) (fun k => [(2, .box [.rds (II t)]), (3, .box [.v (.int .i64 m), .rd (I l)]), (7, .v (.int .i64 a)), (42, .v (.int .i64 t.length)), (43, .v (.int .i64 a)), (47, .v (.int .i64 t.length)), (48, .v (.int .i64 k))]) (fun _ => []) 0 (by simp) (by simp only [Tryz.results37, go_sem, Nat.reduceMul, Nat.reduceLeDiff, Nat.reduceLT, reduceIte, reduceCtorEq, Nat.reduceEqDiff, Nat.reduceSub, Nat.reduceAdd]; rfl) trivial ?_
    rintro b ⟨hb, hbs⟩
    simp only [Tryz.results37, go_sem, Nat.reduceMul, Nat.reduceLeDiff, Nat.reduceLT, reduceIte, reduceCtorEq, Nat.reduceEqDiff, Nat.reduceSub, Nat.reduceAdd]
    refine ⟨fun h4 => ?_, fun h4 => ⟨by unfold InR; omega, a + 1, ⟨by omega, fun a' h => ?_⟩, by omega, rfl⟩⟩
    · have hab : AreIn t.length [(a : Int), b] := by
        intro j hj
        match j, hj with
        | 0, _ => simp; omega
        | 1, _ => simp; omega
      have he := (hg.2.2.1 a (by omega)).2 b (by omega)
      have ua := hj a (by omega)
      have ub := hj b (by omega)
      have hp := Int.mul_le_mul (show l.getD a 0 ≤ 12 by have := ua.2.1; omega) (show l.getD b 0 ≤ 12 by have := ub.2.1; omega) (by have := ub.1; omega) (by omega)
      have hp0 := Int.mul_nonneg (show 0 ≤ l.getD a 0 by have := ua.1; omega) (show 0 ≤ l.getD b 0 by have := ub.1; omega)
      refine Here.draw T_ok mixed_ok (by kernel_rfl) ?_
      simp only [Tryz.results37, go_sem, Nat.reduceMul, Nat.reduceLeDiff, Nat.reduceLT, reduceIte, reduceCtorEq, Nat.reduceEqDiff, Nat.reduceSub, Nat.reduceAdd]
      refine ⟨_, OpP.buildRd T_ok (I [a, b]) rfl rfl rfl (by decide) rfl (by simp only [go_sem, Nat.reduceMul, Nat.reduceLeDiff, Nat.reduceLT, reduceIte, reduceCtorEq, Nat.reduceEqDiff, Nat.reduceSub, Nat.reduceAdd] <;> rfl) rfl, ?_⟩
      simp only [Tryz.results37, go_sem, Nat.reduceMul, Nat.reduceLeDiff, Nat.reduceLT, reduceIte, reduceCtorEq, Nat.reduceEqDiff, Nat.reduceSub, Nat.reduceAdd]
      refine ⟨_, OpP.call' rfl rfl (times_spec t [a, b] hg hab (by simp)) (by simp only [go_sem, Nat.reduceMul, Nat.reduceLeDiff, Nat.reduceLT, reduceIte, reduceCtorEq, Nat.reduceEqDiff, Nat.reduceSub, Nat.reduceAdd, List.toList_toArray] <;> first | rfl | exact ⟨rfl, rfl⟩) rfl, ?_⟩
      simp only [Tryz.results37, go_sem, Nat.reduceMul, Nat.reduceLeDiff, Nat.reduceLT, reduceIte, reduceCtorEq, Nat.reduceEqDiff, Nat.reduceSub, Nat.reduceAdd]
      rw [tm_two hg (by omega)]
      simp only [Int.toNat_natCast]
      refine ⟨by omega, by omega, by omega, by unfold InR; omega, by omega, fun h5 => (decide_eq_false fun h => h5 (h.2.2.2 a (by omega) b (by omega))).symm, fun h5 => ⟨by unfold InR; omega, b + 1, ⟨by omega, fun b' h => ?_⟩, by omega, rfl⟩⟩
      by_cases e : b' = b
      · subst e; exact h5
      · exact hbs b' (by omega)
    · by_cases e : a' = a
      · subst e; exact fun b h => hbs b (by omega)
      · exact hall a' (by omega)

set_option maxHeartbeats 1000000 in
theorem l02Is_spec (t : List (List Int)) (m : Int) (l : List Int) (hg : Grp t) : Spec Tryz.prog 38 [.agg [.rds (II t)], .agg [.v (.int .i64 m), .rd (I l)]] (.v (.bool (decide (Mod t m l)))) [] := by
  have h8 := hg.2.1
  have h1 := hg.1
  refine Spec.of_code T_ok Tryz.func38 rfl Tryz.ntmps38 Tryz.call38 (Nat.le_of_ble_eq_true rfl) rfl rfl (CodeV_sound T_ok (by kernel_rfl) rfl ?_)
  simp only [Tryz.results38, go_sem, Nat.reduceMul, Nat.reduceLeDiff, Nat.reduceLT, reduceIte, reduceCtorEq, Nat.reduceEqDiff, Nat.reduceSub, Nat.reduceAdd]
  refine HereO.call T_ok rfl rfl (l01In_spec m 2 12) (by simp only [go_sem, Nat.reduceMul, Nat.reduceLeDiff, Nat.reduceLT, reduceIte, reduceCtorEq, Nat.reduceEqDiff, Nat.reduceSub, Nat.reduceAdd, List.toList_toArray] <;> first | rfl | exact ⟨rfl, rfl⟩) rfl ?_
  simp only [Tryz.results38, go_sem, Nat.reduceMul, Nat.reduceLeDiff, Nat.reduceLT, reduceIte, reduceCtorEq, Nat.reduceEqDiff, Nat.reduceSub, Nat.reduceAdd]
  refine ⟨fun hm => ⟨fun hl => (decide_eq_false fun h => hl (by rw [h.2.1])).symm, fun hl => ?_⟩, fun hm => (decide_eq_false fun h => hm h.1).symm⟩
  refine Here.loopV T_ok (fun k => k ≤ l.length ∧ ∀ j, j < k → Unit1 m (l.getD j 0)) (fun k => l.length - k) (fun k => [(2, .box [.rds (II t)]), (3, .box [.v (.int .i64 m), .rd (I l)]), (5, .v (.int .i64 k))]) (fun _ => []) 0 (by simp) (by simp only [Tryz.results38, go_sem, Nat.reduceMul, Nat.reduceLeDiff, Nat.reduceLT, reduceIte, reduceCtorEq, Nat.reduceEqDiff, Nat.reduceSub, Nat.reduceAdd]; rfl) trivial ?_
  rintro k ⟨hk, hj⟩
  simp only [Tryz.results38, go_sem, Nat.reduceMul, Nat.reduceLeDiff, Nat.reduceLT, reduceIte, reduceCtorEq, Nat.reduceEqDiff, Nat.reduceSub, Nat.reduceAdd]
  refine ⟨fun h2 => ?_, fun h2 => ?_⟩
  · refine Here.draw T_ok mixed_ok (by kernel_rfl) ?_
    simp only [Tryz.results38, go_sem, Nat.reduceMul, Nat.reduceLeDiff, Nat.reduceLT, reduceIte, reduceCtorEq, Nat.reduceEqDiff, Nat.reduceSub, Nat.reduceAdd]
    refine ⟨by omega, by unfold InR; omega, _, OpP.call' rfl rfl (l01In_spec (l.getD k 0) 1 (m - 1)) (by simp only [go_sem, Nat.reduceMul, Nat.reduceLeDiff, Nat.reduceLT, reduceIte, reduceCtorEq, Nat.reduceEqDiff, Nat.reduceSub, Nat.reduceAdd, List.toList_toArray] <;> first | rfl | exact ⟨rfl, rfl⟩) rfl, ?_⟩
    simp only [Tryz.results38, go_sem, Nat.reduceMul, Nat.reduceLeDiff, Nat.reduceLT, reduceIte, reduceCtorEq, Nat.reduceEqDiff, Nat.reduceSub, Nat.reduceAdd]
    refine ⟨fun h5 => ⟨by omega, ?_⟩, fun h5 => (decide_eq_false fun h => h5 ((Unit1_gcd hm).1 (h.2.2.1 k (by omega))).1).symm⟩
    refine ⟨_, OpP.call' rfl rfl (l01Gcd_spec' (l.getD k 0) m (by omega) (by omega)) (by simp only [go_sem, Nat.reduceMul, Nat.reduceLeDiff, Nat.reduceLT, reduceIte, reduceCtorEq, Nat.reduceEqDiff, Nat.reduceSub, Nat.reduceAdd, List.toList_toArray] <;> first | rfl | exact ⟨rfl, rfl⟩) rfl, ?_⟩
    simp only [Tryz.results38, go_sem, Nat.reduceMul, Nat.reduceLeDiff, Nat.reduceLT, reduceIte, reduceCtorEq, Nat.reduceEqDiff, Nat.reduceSub, Nat.reduceAdd]
    refine ⟨fun h6 => (decide_eq_false fun h => h6 (by have := ((Unit1_gcd hm).1 (h.2.2.1 k (by omega))).2; omega)).symm, fun h6 => ⟨by unfold InR; omega, k + 1, ⟨by omega, fun j h => ?_⟩, by omega, rfl⟩⟩
    by_cases e : j = k
    · subst e; exact (Unit1_gcd hm).2 ⟨h5, by omega⟩
    · exact hj j (by omega)
  · refine Here.loopV T_ok (fun k => k ≤ l.length ∧ ∀ a, a < k → ∀ b, b < l.length → l.getD (ee t a b).toNat 0 = (l.getD a 0 * l.getD b 0).tmod m) (fun k => l.length - k) (fun k => [(2, .box [.rds (II t)]), (3, .box [.v (.int .i64 m), .rd (I l)]), (6, .v (.int .i64 k))]) (fun _ => []) 0 (by simp) (by simp only [Tryz.results38, go_sem, Nat.reduceMul, Nat.reduceLeDiff, Nat.reduceLT, reduceIte, reduceCtorEq, Nat.reduceEqDiff, Nat.reduceSub, Nat.reduceAdd]; rfl) trivial ?_
    rintro a ⟨ha, hall⟩
    simp only [Tryz.results38, go_sem, Nat.reduceMul, Nat.reduceLeDiff, Nat.reduceLT, reduceIte, reduceCtorEq, Nat.reduceEqDiff, Nat.reduceSub, Nat.reduceAdd]
    refine ⟨fun h3 => ?_, fun h3 => (decide_eq_true ⟨hm, by omega, fun j h => hj j (by omega), fun a h => hall a (by omega)⟩).symm⟩
    refine Here.loopV T_ok (fun k => k ≤ l.length ∧ ∀ b, b < k → l.getD (ee t a b).toNat 0 = (l.getD a 0 * l.getD b 0).tmod m) (fun k => l.length - k) (fun k => [(2, .box [.rds (II t)]), (3, .box [.v (.int .i64 m), .rd (I l)]), (6, .v (.int .i64 a)), (7, .v (.int .i64 k))]) (fun _ => []) 0 (by simp) (by simp only [Tryz.results38, go_sem, Nat.reduceMul, Nat.reduceLeDiff, Nat.reduceLT, reduceIte, reduceCtorEq, Nat.reduceEqDiff, Nat.reduceSub, Nat.reduceAdd]; rfl) trivial ?_
    rintro b ⟨hb, hbs⟩
    simp only [Tryz.results38, go_sem, Nat.reduceMul, Nat.reduceLeDiff, Nat.reduceLT, reduceIte, reduceCtorEq, Nat.reduceEqDiff, Nat.reduceSub, Nat.reduceAdd]
    refine ⟨fun h4 => ?_, fun h4 => ⟨by unfold InR; omega, a + 1, ⟨by omega, fun a' h => ?_⟩, by omega, rfl⟩⟩
    · refine Here.draw T_ok mixed_ok (by kernel_rfl) ?_
      simp only [Tryz.results38, go_sem, Nat.reduceMul, Nat.reduceLeDiff, Nat.reduceLT, reduceIte, reduceCtorEq, Nat.reduceEqDiff, Nat.reduceSub, Nat.reduceAdd]
      have he := (hg.2.2.1 a (by omega)).2 b (by omega)
      have hr := (hg.2.2.1 a (by omega)).1
      have ua := hj a (by omega)
      have ub := hj b (by omega)
      have hp := Int.mul_le_mul (show l.getD a 0 ≤ 12 by have := ua.2.1; omega) (show l.getD b 0 ≤ 12 by have := ub.2.1; omega) (by have := ub.1; omega) (by omega)
      have hp0 := Int.mul_nonneg (show 0 ≤ l.getD a 0 by have := ua.1; omega) (show 0 ≤ l.getD b 0 by have := ub.1; omega)
      unfold ee at he
      refine ⟨by omega, by omega, by omega, by omega, by omega, by unfold InR; omega, by omega, fun h5 => (decide_eq_false fun h => h5 (h.2.2.2 a (by omega) b (by omega))).symm, fun h5 => ⟨by unfold InR; omega, b + 1, ⟨by omega, fun b' h => ?_⟩, by omega, rfl⟩⟩
      by_cases e : b' = b
      · subst e; exact h5
      · exact hbs b' (by omega)
    · by_cases e : a' = a
      · subst e; exact fun b h => hbs b (by omega)
      · exact hall a' (by omega)

def modV (t : List (List Int)) (m : Int) (l : List Int) : Bool := decide (Grp t ∧ Mod t m l)
theorem implIsModule (t : List (List Int)) (m : Int) (l : List Int) : Spec Tryz.prog 12 [.agg [.rds (II t)], .agg [.v (.int .i64 m), .rd (I l)]] (.tup [.v (.bool (modV t m l)), .v (.int .i64 (codeG t))]) [] := by
  refine Spec.of_code T_ok Tryz.func12 rfl Tryz.ntmps12 Tryz.call12 (Nat.le_of_ble_eq_true rfl) rfl rfl (CodeV_sound T_ok (by kernel_rfl) rfl ?_)
  simp only [Tryz.results12, go_sem, Nat.reduceMul, Nat.reduceLeDiff, Nat.reduceLT, reduceIte, reduceCtorEq, Nat.reduceEqDiff, Nat.reduceSub, Nat.reduceAdd]
  refine HereO.call T_ok rfl rfl (IsGroup_spec t) (by simp only [go_sem, Nat.reduceMul, Nat.reduceLeDiff, Nat.reduceLT, reduceIte, reduceCtorEq, Nat.reduceEqDiff, Nat.reduceSub, Nat.reduceAdd, List.toList_toArray] <;> first | rfl | exact ⟨rfl, rfl⟩) rfl ?_
  simp only [Tryz.results12, go_sem, Nat.reduceMul, Nat.reduceLeDiff, Nat.reduceLT, reduceIte, reduceCtorEq, Nat.reduceEqDiff, Nat.reduceSub, Nat.reduceAdd]
  refine ⟨fun h => by simp [modV, codeG, h], fun h => ?_⟩
  refine HereO.call T_ok rfl rfl (isModule_spec t m l h) (by simp only [go_sem, Nat.reduceMul, Nat.reduceLeDiff, Nat.reduceLT, reduceIte, reduceCtorEq, Nat.reduceEqDiff, Nat.reduceSub, Nat.reduceAdd, List.toList_toArray] <;> first | rfl | exact ⟨rfl, rfl⟩) rfl ?_
  simp only [Tryz.results12, go_sem, Nat.reduceMul, Nat.reduceLeDiff, Nat.reduceLT, reduceIte, reduceCtorEq, Nat.reduceEqDiff, Nat.reduceSub, Nat.reduceAdd]
  simp [modV, codeG, h]
theorem specIsModule (t : List (List Int)) (m : Int) (l : List Int) : Spec Tryz.prog 13 [.agg [.rds (II t)], .agg [.v (.int .i64 m), .rd (I l)]] (.tup [.v (.bool (modV t m l)), .v (.int .i64 (codeG t))]) [] := by
  refine Spec.of_code T_ok Tryz.func13 rfl Tryz.ntmps13 Tryz.call13 (Nat.le_of_ble_eq_true rfl) rfl rfl (CodeV_sound T_ok (by kernel_rfl) rfl ?_)
  simp only [Tryz.results13, go_sem, Nat.reduceMul, Nat.reduceLeDiff, Nat.reduceLT, reduceIte, reduceCtorEq, Nat.reduceEqDiff, Nat.reduceSub, Nat.reduceAdd]
  refine HereO.call T_ok rfl rfl (l01Is_spec t) (by simp only [go_sem, Nat.reduceMul, Nat.reduceLeDiff, Nat.reduceLT, reduceIte, reduceCtorEq, Nat.reduceEqDiff, Nat.reduceSub, Nat.reduceAdd, List.toList_toArray] <;> first | rfl | exact ⟨rfl, rfl⟩) rfl ?_
  simp only [Tryz.results13, go_sem, Nat.reduceMul, Nat.reduceLeDiff, Nat.reduceLT, reduceIte, reduceCtorEq, Nat.reduceEqDiff, Nat.reduceSub, Nat.reduceAdd]
  refine ⟨fun h => by simp [modV, codeG, h], fun h => ?_⟩
  refine HereO.call T_ok rfl rfl (l02Is_spec t m l h) (by simp only [go_sem, Nat.reduceMul, Nat.reduceLeDiff, Nat.reduceLT, reduceIte, reduceCtorEq, Nat.reduceEqDiff, Nat.reduceSub, Nat.reduceAdd, List.toList_toArray] <;> first | rfl | exact ⟨rfl, rfl⟩) rfl ?_
  simp only [Tryz.results13, go_sem, Nat.reduceMul, Nat.reduceLeDiff, Nat.reduceLT, reduceIte, reduceCtorEq, Nat.reduceEqDiff, Nat.reduceSub, Nat.reduceAdd]
  simp [modV, codeG, h]

end Go.Proofs.YtcjhojdlfnpgjaaGreatDoor
