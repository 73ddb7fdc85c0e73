/- Contracts: fixed numbers and differences. -/
import Derived.Test.YtcamdgkjijepeaaDb
namespace Go.Proofs.Ytcamdgkjijepeaa
open Go.RowKit
set_option linter.unusedVariables false
set_option linter.unusedSimpArgs false
set_option maxRecDepth 100000

/-- The greatest common divisor of M and all units less 1. -/
def stepN (m : Int) (l : List Int) : Nat := l.foldl (fun d u => Nat.gcd d (u - 1).toNat) m.toNat
theorem stepN_take {m : Int} {l : List Int} {k : Nat} (hk : k < l.length) : stepN m (l.take (k + 1)) = Nat.gcd (stepN m (l.take k)) (l.getD k 0 - 1).toNat := by
  rw [List.take_succ_eq_append_getElem hk, stepN, List.foldl_append]
  simp [stepN, List.getD_eq_getElem?_getD, List.getElem?_eq_getElem hk]
theorem stepN_dvd {m : Int} : ∀ (l : List Int), stepN m l ∣ m.toNat ∧ ∀ u ∈ l, stepN m l ∣ (u - 1).toNat := by
  intro l
  have key : ∀ (l : List Int) (d : Nat), (l.foldl (fun d u => Nat.gcd d (u - 1).toNat) d ∣ d) ∧ ∀ u ∈ l, l.foldl (fun d u => Nat.gcd d (u - 1).toNat) d ∣ (u - 1).toNat := by
    intro l
    induction l with
    | nil => intro d; exact ⟨Nat.dvd_refl _, fun u hu => by cases hu⟩
    | cons x l ih =>
      intro d
      obtain ⟨h1, h2⟩ := ih (Nat.gcd d (x - 1).toNat)
      refine ⟨Nat.dvd_trans h1 (Nat.gcd_dvd_left _ _), fun u hu => ?_⟩
      cases hu with
      | head => exact Nat.dvd_trans h1 (Nat.gcd_dvd_right _ _)
      | tail _ hu => exact h2 u hu
  exact key l m.toNat
theorem stepN_pos {m : Int} (hm : 2 ≤ m) (l : List Int) : 0 < stepN m l := by
  apply Nat.pos_of_ne_zero
  intro h
  have := (stepN_dvd (m := m) l).1
  rw [h] at this
  have := Nat.eq_zero_of_zero_dvd this
  omega
theorem stepN_le {m : Int} (hm : 2 ≤ m) (l : List Int) : stepN m l ≤ m.toNat := Nat.le_of_dvd (by omega) (stepN_dvd l).1
/-- What all (u - 1) x and M x have in common. -/
theorem dvd_step {m : Int} {M x : Nat} : ∀ (l : List Int), M ∣ m.toNat * x → (∀ u ∈ l, M ∣ (u - 1).toNat * x) → M ∣ stepN m l * x := by
  intro l
  have key : ∀ (l : List Int) (d : Nat), M ∣ d * x → (∀ u ∈ l, M ∣ (u - 1).toNat * x) → M ∣ l.foldl (fun d u => Nat.gcd d (u - 1).toNat) d * x := by
    intro l
    induction l with
    | nil => intro d h _; exact h
    | cons y l ih =>
      intro d h h2
      refine ih _ ?_ fun u hu => h2 u (List.mem_cons_of_mem _ hu)
      rw [← Nat.gcd_mul_right]
      exact Nat.dvd_gcd h (h2 y (List.mem_cons_self ..))
  exact key l m.toNat

theorem gcd_spec3 (a b : Nat) (ha : a ≤ 1000) (hb : b ≤ 1000) : Nat.gcd a b ≤ 1000 ∨ True := .inr trivial
theorem l02Step_spec (m : Int) (l : List Int) (hll : l.length ≤ 4096) (hm : 2 ≤ m ∧ m ≤ 12) (hu : ∀ j, j < l.length → Unit1 m (l.getD j 0)) : Spec Try.prog 57 [.agg [.v (.int .i64 m), .rd (I l)]] (.v (.int .i64 (stepN m l))) [] := by
  refine Spec.of_code T_ok Try.func57 rfl Try.ntmps57 Try.call57 (Nat.le_of_ble_eq_true rfl) rfl rfl (CodeV_sound T_ok (by kernel_rfl) rfl ?_)
  simp only [Try.results57, go_sem, Nat.reduceMul, Nat.reduceLeDiff, Nat.reduceLT, reduceIte, reduceCtorEq, Nat.reduceEqDiff, Nat.reduceSub, Nat.reduceAdd]
  refine Here.loopV T_ok (fun k => k ≤ l.length) (fun k => l.length - k) (fun k => [(1, .box [.v (.int .i64 m), .rd (I l)]), (3, .v (.int .i64 (stepN m (l.take k)))), (4, .v (.int .i64 k))]) (fun _ => []) 0 (by simp) (by simp only [Try.results57, go_sem, Nat.reduceMul, Nat.reduceLeDiff, Nat.reduceLT, reduceIte, reduceCtorEq, Nat.reduceEqDiff, Nat.reduceSub, Nat.reduceAdd]; simp [stepN]; omega) trivial ?_
  intro k hk
  simp only [Try.results57, go_sem, Nat.reduceMul, Nat.reduceLeDiff, Nat.reduceLT, reduceIte, reduceCtorEq, Nat.reduceEqDiff, Nat.reduceSub, Nat.reduceAdd]
  refine ⟨fun h2 => ?_, fun h2 => ?_⟩
  · obtain ⟨u1, u2, _⟩ := hu k (by omega)
    have hle := stepN_le hm.1 (l.take k)
    refine ⟨by omega, by unfold InR; omega, ?_⟩
    refine HereO.call T_ok rfl rfl (l01Gcd_spec' (stepN m (l.take k)) (l.getD k 0 - 1) ⟨by omega, by omega⟩ ⟨by omega, by omega⟩) (by simp only [go_sem, Nat.reduceMul, Nat.reduceLeDiff, Nat.reduceLT, reduceIte, reduceCtorEq, Nat.reduceEqDiff, Nat.reduceSub, Nat.reduceAdd, List.toList_toArray]) rfl ?_
    simp only [Try.results57, go_sem, Nat.reduceMul, Nat.reduceLeDiff, Nat.reduceLT, reduceIte, reduceCtorEq, Nat.reduceEqDiff, Nat.reduceSub, Nat.reduceAdd]
    refine ⟨by unfold InR; omega, k + 1, by omega, by omega, ?_, by simp⟩
    rw [stepN_take (by omega)]
  · rw [List.take_of_length_le (by omega)]

/-- The multiples of d. -/
def isMul (d : Nat) (x : Int) : Bool := x.toNat % d == 0
theorem mul_next {d a : Nat} (hd : 0 < d) (ha : a % d = 0) : ∀ j, 1 ≤ j → j ≤ d → (cnt (a + j)).filter (isMul d) = (cnt a).filter (isMul d) ++ [(a : Int)]
  | 0, h, _ => by omega
  | 1, _, _ => by rw [filter_cnt]; simp [isMul, ha]
  | j + 2, _, h2 => by
    rw [show a + (j + 2) = (a + (j + 1)) + 1 by omega, filter_cnt, mul_next hd ha (j + 1) (by omega) (by omega)]
    have : isMul d ((a + (j + 1) : Nat) : Int) = false := by
      simp only [isMul, Int.toNat_natCast, beq_eq_false_iff_ne, ne_eq]
      rw [Nat.add_mod, ha, Nat.zero_add, Nat.mod_mod, Nat.mod_eq_of_lt (by omega)]
      omega
    rw [this]
    simp
theorem mul_end {d a m : Nat} (hd : 0 < d) (ha : a % d = 0) (h1 : a < m) (h2 : m ≤ a + d) : (cnt m).filter (isMul d) = (cnt a).filter (isMul d) ++ [(a : Int)] := by
  have := mul_next hd ha (m - a) (by omega) (by omega)
  rwa [show a + (m - a) = m by omega] at this
theorem l02Multiples_spec (d m : Nat) (hd : 1 ≤ d) (hd2 : d ≤ 4096) (hm : m ≤ 4096) : Spec Try.prog 56 [.v (.int .i64 d), .v (.int .i64 m)] (.own 0) [.row 2 (I ((cnt m).filter (isMul d)))] := by
  refine Spec.of_code T_ok Try.func56 rfl Try.ntmps56 Try.call56 (Nat.le_of_ble_eq_true rfl) rfl rfl (CodeV_sound T_ok (by kernel_rfl) rfl ?_)
  simp only [Try.results56, go_sem, Nat.reduceMul, Nat.reduceLeDiff, Nat.reduceLT, reduceIte, reduceCtorEq, Nat.reduceEqDiff, Nat.reduceSub, Nat.reduceAdd]
  refine HereO.buildRow T_ok 107 (I []) rfl rfl rfl (by decide) rfl (by simp only [go_sem, Nat.reduceMul, Nat.reduceLeDiff, Nat.reduceLT, reduceIte, reduceCtorEq, Nat.reduceEqDiff, Nat.reduceSub, Nat.reduceAdd] <;> rfl) rfl (by decide) ?_
  simp only [Try.results56, go_sem, Nat.reduceMul, Nat.reduceLeDiff, Nat.reduceLT, reduceIte, reduceCtorEq, Nat.reduceEqDiff, Nat.reduceSub, Nat.reduceAdd]
  refine Here.loopV T_ok (fun a => a % d = 0 ∧ a < m + d) (fun a => m + d - a) (fun a => [(0, .v (.int .i64 d)), (1, .v (.int .i64 m)), (5, .own 107), (6, .v (.int .i64 a))]) (fun a => [(107, .row 2 (I ((cnt (min a m)).filter (isMul d))))]) 0 (by simp; omega) (by simp only [Try.results56, go_sem, Nat.reduceMul, Nat.reduceLeDiff, Nat.reduceLT, reduceIte, reduceCtorEq, Nat.reduceEqDiff, Nat.reduceSub, Nat.reduceAdd]; simp) (by simp only [Try.results56, go_sem, Nat.reduceMul, Nat.reduceLeDiff, Nat.reduceLT, reduceIte, reduceCtorEq, Nat.reduceEqDiff, Nat.reduceSub, Nat.reduceAdd]; simp [cnt, upTo, I]) ?_
  rintro a ⟨ha, hlt⟩
  simp only [Try.results56, go_sem, Nat.reduceMul, Nat.reduceLeDiff, Nat.reduceLT, reduceIte, reduceCtorEq, Nat.reduceEqDiff, Nat.reduceSub, Nat.reduceAdd]
  refine ⟨fun h2 => ?_, fun h2 => ?_⟩
  · have hmin : min a m = a := by omega
    rw [hmin]
    have hfl := filter_cnt_le (isMul d) a
    refine HereO.buildRow T_ok 116 (I [(a : Int)]) rfl rfl rfl (by decide) rfl (by simp only [go_sem, Nat.reduceMul, Nat.reduceLeDiff, Nat.reduceLT, reduceIte, reduceCtorEq, Nat.reduceEqDiff, Nat.reduceSub, Nat.reduceAdd] <;> rfl) rfl (by decide) ?_
    simp only [Try.results56, go_sem, Nat.reduceMul, Nat.reduceLeDiff, Nat.reduceLT, reduceIte, reduceCtorEq, Nat.reduceEqDiff, Nat.reduceSub, Nat.reduceAdd]
    refine HereO.append T_ok (I [(a : Int)]) rfl rfl (by decide) (by simp only [go_sem, Nat.reduceMul, Nat.reduceLeDiff, Nat.reduceLT, reduceIte, reduceCtorEq, Nat.reduceEqDiff, Nat.reduceSub, Nat.reduceAdd] <;> rfl) (by decide) (by simp only [go_sem, Nat.reduceMul, Nat.reduceLeDiff, Nat.reduceLT, reduceIte, reduceCtorEq, Nat.reduceEqDiff, Nat.reduceSub, Nat.reduceAdd] <;> rfl) (by simp only [go_sem, Nat.reduceMul, Nat.reduceLeDiff, Nat.reduceLT, reduceIte, reduceCtorEq, Nat.reduceEqDiff, Nat.reduceSub, Nat.reduceAdd] <;> rfl) (.own 116 _ _ (by decide) (by simp only [go_sem, Nat.reduceMul, Nat.reduceLeDiff, Nat.reduceLT, reduceIte, reduceCtorEq, Nat.reduceEqDiff, Nat.reduceSub, Nat.reduceAdd] <;> rfl)) (I_one _) (by rw [I_len, I_len]; simp; omega) ?_
    simp only [Try.results56, go_sem, Nat.reduceMul, Nat.reduceLeDiff, Nat.reduceLT, reduceIte, reduceCtorEq, Nat.reduceEqDiff, Nat.reduceSub, Nat.reduceAdd]
    refine ⟨by unfold InR; omega, a + d, ⟨by rw [Nat.add_mod, ha]; simp, by omega⟩, by omega, by simp, ?_⟩
    rw [I_append]
    by_cases h3 : a + d ≤ m
    · rw [show min (a + d) m = a + d by omega, mul_next (a := a) hd ha d hd (Nat.le_refl _)]
    · rw [show min (a + d) m = m by omega, mul_end (a := a) (m := m) hd ha (by omega) (by omega)]
  · have hmin : min a m = m := by omega
    refine RetT.one 107 (by simp only [Try.results56, go_sem, Nat.reduceMul, Nat.reduceLeDiff, Nat.reduceLT, reduceIte, reduceCtorEq, Nat.reduceEqDiff, Nat.reduceSub, Nat.reduceAdd]; rfl) rfl ?_
    simp only [Try.results56, go_sem, Nat.reduceMul, Nat.reduceLeDiff, Nat.reduceLT, reduceIte, reduceCtorEq, Nat.reduceEqDiff, Nat.reduceSub, Nat.reduceAdd]
    rw [hmin]
end Go.Proofs.Ytcamdgkjijepeaa
