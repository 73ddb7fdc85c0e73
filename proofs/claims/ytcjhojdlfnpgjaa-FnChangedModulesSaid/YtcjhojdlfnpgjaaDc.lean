/- Contracts: fixed numbers and differences. -/
import Derived.Test.YtcjhojdlfnpgjaaDb
namespace Go.Proofs.Ytcjhojdlfnpgjaa
open Go.RowKit
set_option linter.unusedVariables false
set_option linter.unusedSimpArgs false
set_option maxRecDepth 100000

/-- The greatest common divisor of M and all units less 1. -/
def stepN (m : Int) (l : List Int) : Nat := l.foldl (fun d u => Nat.gcd d (u - 1).toNat) m.toNat
theorem stepN_take {m : Int} {l : List Int} {k : Nat} (hk : k < l.length) : stepN m (l.take (k + 1)) = Nat.gcd (stepN m (l.take k)) (l.getD k 0 - 1).toNat := by
  rw [List.take_succ_eq_append_getElem hk, stepN, List.foldl_append]
  simp [stepN, List.getD_eq_getElem?_getD, List.getElem?_eq_getElem hk]
theorem stepN_dvd {m : Int} : ∀ (l : List Int), stepN m l ∣ m.toNat ∧ ∀ u ∈ l, stepN m l ∣ (u - 1).toNat := by
  intro l
  have key : ∀ (l : List Int) (d : Nat), (l.foldl (fun d u => Nat.gcd d (u - 1).toNat) d ∣ d) ∧ ∀ u ∈ l, l.foldl (fun d u => Nat.gcd d (u - 1).toNat) d ∣ (u - 1).toNat := by
    intro l
    induction l with
    | nil => intro d; exact ⟨Nat.dvd_refl _, fun u hu => by cases hu⟩
    | cons x l ih =>
      intro d
      obtain ⟨h1, h2⟩ := ih (Nat.gcd d (x - 1).toNat)
      refine ⟨Nat.dvd_trans h1 (Nat.gcd_dvd_left _ _), fun u hu => ?_⟩
      cases hu with
      | head => exact Nat.dvd_trans h1 (Nat.gcd_dvd_right _ _)
      | tail _ hu => exact h2 u hu
  exact key l m.toNat
theorem stepN_pos {m : Int} (hm : 2 ≤ m) (l : List Int) : 0 < stepN m l := by
  apply Nat.pos_of_ne_zero
  intro h
  have := (stepN_dvd (m := m) l).1
  rw [h] at this
  have := Nat.eq_zero_of_zero_dvd this
  omega
theorem stepN_le {m : Int} (hm : 2 ≤ m) (l : List Int) : stepN m l ≤ m.toNat := Nat.le_of_dvd (by omega) (stepN_dvd l).1
/-- What all (u - 1) x and M x have in common. -/
theorem dvd_step {m : Int} {M x : Nat} : ∀ (l : List Int), M ∣ m.toNat * x → (∀ u ∈ l, M ∣ (u - 1).toNat * x) → M ∣ stepN m l * x := by
  intro l
  have key : ∀ (l : List Int) (d : Nat), M ∣ d * x → (∀ u ∈ l, M ∣ (u - 1).toNat * x) → M ∣ l.foldl (fun d u => Nat.gcd d (u - 1).toNat) d * x := by
    intro l
    induction l with
    | nil => intro d h _; exact h
    | cons y l ih =>
      intro d h h2
      refine ih _ ?_ fun u hu => h2 u (List.mem_cons_of_mem _ hu)
      rw [← Nat.gcd_mul_right]
      exact Nat.dvd_gcd h (h2 y (List.mem_cons_self ..))
  exact key l m.toNat

theorem gcd_spec3 (a b : Nat) (ha : a ≤ 1000) (hb : b ≤ 1000) : Nat.gcd a b ≤ 1000 ∨ True := .inr trivial
/-- The multiples of d. -/
def isMul (d : Nat) (x : Int) : Bool := x.toNat % d == 0
theorem mul_next {d a : Nat} (hd : 0 < d) (ha : a % d = 0) : ∀ j, 1 ≤ j → j ≤ d → (cnt (a + j)).filter (isMul d) = (cnt a).filter (isMul d) ++ [(a : Int)]
  | 0, h, _ => by omega
  | 1, _, _ => by rw [filter_cnt]; simp [isMul, ha]
  | j + 2, _, h2 => by
    rw [show a + (j + 2) = (a + (j + 1)) + 1 by omega, filter_cnt, mul_next hd ha (j + 1) (by omega) (by omega)]
    have : isMul d ((a + (j + 1) : Nat) : Int) = false := by
      simp only [isMul, Int.toNat_natCast, beq_eq_false_iff_ne, ne_eq]
      rw [Nat.add_mod, ha, Nat.zero_add, Nat.mod_mod, Nat.mod_eq_of_lt (by omega)]
      omega
    rw [this]
    simp
theorem mul_end {d a m : Nat} (hd : 0 < d) (ha : a % d = 0) (h1 : a < m) (h2 : m ≤ a + d) : (cnt m).filter (isMul d) = (cnt a).filter (isMul d) ++ [(a : Int)] := by
  have := mul_next hd ha (m - a) (by omega) (by omega)
  rwa [show a + (m - a) = m by omega] at this
end Go.Proofs.Ytcjhojdlfnpgjaa
