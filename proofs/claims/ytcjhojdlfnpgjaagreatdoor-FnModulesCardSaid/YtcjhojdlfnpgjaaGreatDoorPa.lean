/- Plain facts of groups told by tables: products, powers, orders. -/
import Derived.Test.YtcjhojdlfnpgjaaGreatDoorFb
namespace Go.Proofs.YtcjhojdlfnpgjaaGreatDoor
set_option linter.unusedVariables false

def em (t : List (List Int)) (a b : Nat) : Nat := (ee t a b).toNat
def pwN (t : List (List Int)) (a : Nat) : Nat → Nat
  | 0 => 0
  | k + 1 => em t (pwN t a k) a

section
variable {t : List (List Int)} (hg : Grp t)
include hg

theorem em_ee {a b : Nat} (ha : a < t.length) (hb : b < t.length) : ee t a b = em t a b := by
  have := (hg.2.2.1 a ha).2 b hb
  unfold em; omega
theorem em_lt {a b : Nat} (ha : a < t.length) (hb : b < t.length) : em t a b < t.length := by
  have := (hg.2.2.1 a ha).2 b hb
  unfold em; omega
end

theorem pigeon : ∀ (n : Nat) (f : Nat → Nat), (∀ k, k ≤ n → f k < n) → ∃ i j, i < j ∧ j ≤ n ∧ f i = f j
  | 0, f, h => absurd (h 0 (Nat.le_refl _)) (by omega)
  | n + 1, f, h => by
    by_cases he : ∃ k, k ≤ n ∧ f k = f (n + 1)
    · obtain ⟨k, h1, h2⟩ := he
      exact ⟨k, n + 1, by omega, Nat.le_refl _, h2⟩
    · have hne : ∀ k, k ≤ n → f k ≠ f (n + 1) := fun k hk e => he ⟨k, hk, e⟩
      have hl := h (n + 1) (Nat.le_refl _)
      obtain ⟨i, j, h1, h2, h3⟩ := pigeon n (fun k => if f k = n then f (n + 1) else f k) (fun k hk => by
        have a1 := hne k hk
        have a2 := h k (by omega)
        show (if f k = n then f (n + 1) else f k) < n
        split <;> omega)
      refine ⟨i, j, h1, by omega, ?_⟩
      have a1 := hne i (by omega)
      have a2 := hne j (by omega)
      split at h3 <;> split at h3 <;> omega

/-- The order of an element. -/
def ordN (t : List (List Int)) (a : Nat) : Nat := match (List.range t.length).find? (fun k => pwN t a (k + 1) == 0) with | some k => k + 1 | none => 0
end Go.Proofs.YtcjhojdlfnpgjaaGreatDoor

namespace Go.Proofs.YtcjhojdlfnpgjaaGreatDoor
set_option linter.unusedVariables false

section
variable {t : List (List Int)} (hg : Grp t)
include hg
end
end Go.Proofs.YtcjhojdlfnpgjaaGreatDoor
