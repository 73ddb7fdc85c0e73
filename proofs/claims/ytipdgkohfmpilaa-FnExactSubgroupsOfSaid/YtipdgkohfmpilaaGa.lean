/- Contracts: codes of groups and elements, products. -/
import Derived.Test.YtipdgkohfmpilaaFb
namespace Go.Proofs.Ytipdgkohfmpilaa
open Go.RowKit
set_option linter.unusedVariables false
set_option linter.unusedSimpArgs false
set_option maxRecDepth 100000

def codeG (t : List (List Int)) : Int := if Grp t then 0 else 1
def codeE (t : List (List Int)) (l : List Int) : Int := if Grp t then (if AreIn t.length l then 0 else 2) else 1
theorem codeE_ok {t : List (List Int)} {l : List Int} (h : codeE t l = 0) : Grp t ∧ AreIn t.length l := by
  unfold codeE at h
  split at h
  · split at h
    · exact ⟨by assumption, by assumption⟩
    · omega
  · omega

theorem l01N_spec (t : List (List Int)) : Spec Try.prog 30 [.agg [.rds (II t)]] (.v (.int .i64 t.length)) [] := by
  refine Spec.of_code T_ok Try.func30 rfl Try.ntmps30 Try.call30 (Nat.le_of_ble_eq_true rfl) rfl rfl (CodeV_sound T_ok (by kernel_rfl) rfl ?_)
  simp only [Try.results30, go_sem, Nat.reduceMul, Nat.reduceLeDiff, Nat.reduceLT, reduceIte, reduceCtorEq, Nat.reduceEqDiff, Nat.reduceSub, Nat.reduceAdd]

/-- The product of some elements. -/
def tm (t : List (List Int)) (l : List Int) : Int := l.foldl (fun a x => ee t a.toNat x.toNat) 0
theorem tm_step {t : List (List Int)} {l : List Int} {k : Nat} (hk : k < l.length) : tm t (l.take (k + 1)) = ee t (tm t (l.take k)).toNat (l.getD k 0).toNat := by
  unfold tm
  rw [List.take_succ_eq_append_getElem hk, List.foldl_append]
  simp [List.getElem?_eq_getElem hk]
theorem tm_in {t : List (List Int)} {l : List Int} (hg : Grp t) (hl : AreIn t.length l) : ∀ k, k ≤ l.length → 0 ≤ tm t (l.take k) ∧ tm t (l.take k) < t.length := by
  intro k
  induction k with
  | zero => intro _; have := hg.1; simp [tm]; omega
  | succ k ih =>
    intro h
    have h1 := ih (by omega)
    have h2 := hl k (by omega)
    rw [tm_step (by omega)]
    exact (hg.2.2.1 _ (by omega)).2 _ (by omega)
theorem tm_lt {t : List (List Int)} {l : List Int} (hg : Grp t) (hl : AreIn t.length l) : 0 ≤ tm t l ∧ tm t l < t.length := by
  have := tm_in hg hl l.length (Nat.le_refl _)
  rwa [List.take_length] at this

theorem times_spec (t : List (List Int)) (l : List Int) (hg : Grp t) (hl : AreIn t.length l) (h1 : l.length ≤ 1048576) : Spec Try.prog 47 [.agg [.rds (II t)], .rd (I l)] (.v (.int .i64 (tm t l))) [] := by
  refine Spec.of_code T_ok Try.func47 rfl Try.ntmps47 Try.call47 (Nat.le_of_ble_eq_true rfl) rfl rfl (CodeV_sound T_ok (by kernel_rfl) rfl ?_)
  simp only [Try.results47, go_sem, Nat.reduceMul, Nat.reduceLeDiff, Nat.reduceLT, reduceIte, reduceCtorEq, Nat.reduceEqDiff, Nat.reduceSub, Nat.reduceAdd]
  refine Here.loopV T_ok (fun k => k ≤ l.length) (fun k => l.length - k) (fun k => [(2, .box [.rds (II t)]), (5, .v (.int .i64 (tm t (l.take k)))), (8, .rd (I l)), (9, .v (.int .i64 l.length)), (10, .v (.int .i64 k))]) (fun _ => []) 0 (by simp) (by simp only [Try.results47, go_sem, Nat.reduceMul, Nat.reduceLeDiff, Nat.reduceLT, reduceIte, reduceCtorEq, Nat.reduceEqDiff, Nat.reduceSub, Nat.reduceAdd]; simp [tm]) trivial ?_
  intro k hk
  simp only [Try.results47, go_sem, Nat.reduceMul, Nat.reduceLeDiff, Nat.reduceLT, reduceIte, reduceCtorEq, Nat.reduceEqDiff, Nat.reduceSub, Nat.reduceAdd]
  have h2 := tm_in hg hl k hk
  refine ⟨fun h3 => ⟨by omega, h2, ?_, by unfold InR; omega, k + 1, by omega, by omega, ?_, by simp⟩, fun h3 => by rw [List.take_of_length_le (by omega)]⟩
  · have h4 := hl k (by omega)
    have h5 := (hg.2.2.1 _ (show (tm t (l.take k)).toNat < t.length by omega)).1
    omega
  · exact (tm_step (by omega)).symm
theorem tm_two {t : List (List Int)} (hg : Grp t) {a b : Int} (ha : 0 ≤ a ∧ a < t.length) : tm t [a, b] = ee t a.toNat b.toNat := by
  have := (hg.2.2.2 a.toNat (by omega)).1.1
  simp only [tm, List.foldl_cons, List.foldl_nil, Int.toNat_zero]
  rw [this]
  rfl

end Go.Proofs.Ytipdgkohfmpilaa
