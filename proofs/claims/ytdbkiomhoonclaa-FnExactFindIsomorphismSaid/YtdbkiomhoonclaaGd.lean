/- Contracts: modules. -/
import Derived.Test.YtdbkiomhoonclaaGa
import Derived.Test.YtdbkiomhoonclaaVp
namespace Go.Proofs.Ytdbkiomhoonclaa
open Go.RowKit
set_option linter.unusedVariables false
set_option linter.unusedSimpArgs false
set_option maxRecDepth 100000

/-- A unit of a modulus. -/
def Unit1 (m u : Int) : Prop := 1 ≤ u ∧ u < m ∧ Nat.gcd u.toNat m.toNat = 1
instance (m u : Int) : Decidable (Unit1 m u) := by unfold Unit1; infer_instance
theorem Unit1_gcd {m u : Int} (hm : 2 ≤ m ∧ m ≤ 12) : Unit1 m u ↔ (1 ≤ u ∧ u ≤ m - 1) ∧ Nat.gcd u.toNat m.toNat = 1 := by
  unfold Unit1; constructor
  · rintro ⟨h1, h2, h3⟩; exact ⟨⟨h1, by omega⟩, h3⟩
  · rintro ⟨⟨h1, h2⟩, h3⟩; exact ⟨h1, by omega, h3⟩

/-- The laws of a module. -/
def Mod (t : List (List Int)) (m : Int) (l : List Int) : Prop := (2 ≤ m ∧ m ≤ 12) ∧ l.length = t.length ∧ (∀ j, j < l.length → Unit1 m (l.getD j 0)) ∧ ∀ a, a < l.length → ∀ b, b < l.length → l.getD (ee t a b).toNat 0 = (l.getD a 0 * l.getD b 0).tmod m
instance (t : List (List Int)) (m : Int) (l : List Int) : Decidable (Mod t m l) := by unfold Mod; infer_instance

theorem unit_one {m u : Int} (hm : 2 ≤ m ∧ m ≤ 12) (hu : Unit1 m u) (h : u = (u * u).tmod m) : u = 1 := by
  obtain ⟨h1, h2, h3⟩ := hu
  have hmm : m = 2 ∨ m = 3 ∨ m = 4 ∨ m = 5 ∨ m = 6 ∨ m = 7 ∨ m = 8 ∨ m = 9 ∨ m = 10 ∨ m = 11 ∨ m = 12 := by omega
  have huu : u = 1 ∨ u = 2 ∨ u = 3 ∨ u = 4 ∨ u = 5 ∨ u = 6 ∨ u = 7 ∨ u = 8 ∨ u = 9 ∨ u = 10 ∨ u = 11 := by omega
  revert h h3 h2
  rcases hmm with rfl | rfl | rfl | rfl | rfl | rfl | rfl | rfl | rfl | rfl | rfl <;> rcases huu with rfl | rfl | rfl | rfl | rfl | rfl | rfl | rfl | rfl | rfl | rfl <;> decide
theorem Mod.one {t : List (List Int)} {m : Int} {l : List Int} (hg : Grp t) (h : Mod t m l) : l.getD 0 0 = 1 := by
  have h0 := hg.1
  have e := (hg.2.2.2 0 (by omega)).1.1
  have := h.2.2.2 0 (by have := h.2.1; omega) 0 (by have := h.2.1; omega)
  rw [e] at this
  exact unit_one h.1 (h.2.2.1 0 (by have := h.2.1; omega)) this

set_option maxHeartbeats 1000000 in
set_option maxHeartbeats 1000000 in
def modV (t : List (List Int)) (m : Int) (l : List Int) : Bool := decide (Grp t ∧ Mod t m l)
end Go.Proofs.Ytdbkiomhoonclaa
