/- Plain laws of sorting in place: parts permuted, parts in order, heaps. -/
import Derived.Test.YtcjhojdlfnpgjaaGreatDoorPc
import Derived.Test.YtcjhojdlfnpgjaaGreatDoorWf
namespace Go.Proofs.YtcjhojdlfnpgjaaGreatDoor
open Go.RowKit
set_option linter.unusedVariables false
set_option linter.unusedSimpArgs false
set_option maxRecDepth 100000

section
variable {α : Type} (d : α)
/-- The places from a up to b permuted among themselves, all else as it was. -/
def PIn (a b : Nat) (xs ys : List α) : Prop := ys.Perm xs ∧ (∀ i, i < a ∨ b ≤ i → ys.getD i d = xs.getD i d) ∧ ∀ i, a ≤ i → i < b → ∃ j, a ≤ j ∧ j < b ∧ ys.getD i d = xs.getD j d
def swL (l : List α) (i j : Nat) : List α := (l.set i (l.getD j d)).set j (l.getD i d)
variable {d}
theorem PIn.len {a b : Nat} {xs ys : List α} (h : PIn d a b xs ys) : ys.length = xs.length := h.1.length_eq
theorem PIn.refl (a b : Nat) (xs : List α) : PIn d a b xs xs := ⟨List.Perm.refl _, fun _ _ => rfl, fun i h1 h2 => ⟨i, h1, h2, rfl⟩⟩
theorem PIn.trans {a b : Nat} {xs ys zs : List α} (h : PIn d a b xs ys) (h' : PIn d a b ys zs) : PIn d a b xs zs :=
  ⟨h'.1.trans h.1, fun i hi => (h'.2.1 i hi).trans (h.2.1 i hi), fun i h1 h2 => by
    obtain ⟨j, h3, h4, e⟩ := h'.2.2 i h1 h2
    obtain ⟨k, h5, h6, e2⟩ := h.2.2 j h3 h4
    exact ⟨k, h5, h6, e.trans e2⟩⟩
theorem PIn.mono {a b a' b' : Nat} {xs ys : List α} (h : PIn d a b xs ys) (ha : a' ≤ a) (hb : b ≤ b') : PIn d a' b' xs ys :=
  ⟨h.1, fun i hi => h.2.1 i (by omega), fun i h1 h2 => by
    by_cases q : a ≤ i ∧ i < b
    · obtain ⟨j, h3, h4, e⟩ := h.2.2 i q.1 q.2
      exact ⟨j, by omega, by omega, e⟩
    · exact ⟨i, h1, h2, h.2.1 i (by omega)⟩⟩
/-- What holds of every one of the part holds of every one behind. -/
theorem PIn.all {a b : Nat} {xs ys : List α} (h : PIn d a b xs ys) {p : α → Prop} (hp : ∀ i, a ≤ i → i < b → p (xs.getD i d)) : ∀ i, a ≤ i → i < b → p (ys.getD i d) := fun i h1 h2 => by
  obtain ⟨j, h3, h4, e⟩ := h.2.2 i h1 h2
  rw [e]; exact hp j h3 h4
theorem setD (l : List α) (i j : Nat) (x : α) : (l.set i x).getD j d = if i = j ∧ i < l.length then x else l.getD j d := by
  rw [List.getD_eq_getElem?_getD, List.getD_eq_getElem?_getD, List.getElem?_set]
  by_cases e : i = j
  · subst e
    by_cases h : i < l.length
    · simp [h]
    · simp [h]
  · simp [e]
/-! ### Orders -/
variable (lt : α → α → Bool)
/-- A strict weak order. -/
structure SWO : Prop where
  irr : ∀ x, lt x x = false
  tr : ∀ x y z, lt x y = true → lt y z = true → lt x z = true
  ntr : ∀ x y z, lt x y = false → lt y z = false → lt x z = false
/-- In order, from a up to b. -/
def SIn (d : α) (a b : Nat) (l : List α) : Prop := ∀ i j, a ≤ i → i < j → j < b → lt (l.getD j d) (l.getD i d) = false
variable {lt}
theorem SIn.congr {a b : Nat} {l m : List α} (h : SIn lt d a b l) (e : ∀ i, a ≤ i → i < b → m.getD i d = l.getD i d) : SIn lt d a b m := fun i j h1 h2 h3 => by
  rw [e i h1 (by omega), e j (by omega) h3]; exact h i j h1 h2 h3
theorem SIn.short {a b : Nat} {l : List α} (h : b ≤ a + 1) : SIn lt d a b l := fun i j h1 h2 h3 => by omega
/-! ### Insertion -/
/-- In order, but for the place j, which is less than none ahead of it that was let through. -/
def SBut (lt : α → α → Bool) (d : α) (a : Nat) (l : List α) (i j : Nat) : Prop := ∀ p q, a ≤ p → p < q → q ≤ i → q ≠ j → lt (l.getD q d) (l.getD p d) = false
/-! ### Heaps -/
/-- From the place lo on, none is less than those beneath it (of the part that begins at first). -/
def Hp (lt : α → α → Bool) (d : α) (l : List α) (first lo hi : Nat) : Prop := ∀ i c, lo ≤ i → (c = 2 * i + 1 ∨ c = 2 * i + 2) → c < hi → lt (l.getD (first + i) d) (l.getD (first + c) d) = false
/-- The same, but for the place root; and what is above root is not less than what is beneath it. -/
def HpBut (lt : α → α → Bool) (d : α) (l : List α) (first lo hi root : Nat) : Prop :=
  (∀ i c, lo ≤ i → i ≠ root → (c = 2 * i + 1 ∨ c = 2 * i + 2) → c < hi → lt (l.getD (first + i) d) (l.getD (first + c) d) = false) ∧
  ∀ i c, lo ≤ i → (root = 2 * i + 1 ∨ root = 2 * i + 2) → (c = 2 * root + 1 ∨ c = 2 * root + 2) → c < hi → lt (l.getD (first + i) d) (l.getD (first + c) d) = false
/-! ### Parting -/
/-- Behind a and ahead of i all are so, behind j none is. -/
def Prt (Q : α → Bool) (d : α) (a b i j : Nat) (l : List α) : Prop := a < i ∧ i ≤ j + 1 ∧ j < b ∧ (∀ k, a < k → k < i → Q (l.getD k d) = true) ∧ ∀ k, j < k → k < b → Q (l.getD k d) = false
variable {Q : α → Bool}
/-- Parted at m: ahead of it what is less, behind it what is not. -/
def PPost (lt : α → α → Bool) (d : α) (a b m : Nat) (l : List α) : Prop := a ≤ m ∧ m < b ∧ (∀ k, a ≤ k → k < m → lt (l.getD k d) (l.getD m d) = true) ∧ ∀ k, m < k → k < b → lt (l.getD k d) (l.getD m d) = false
/-- What the sort in place keeps: from a0 to a and from b to b0 in order, and what is between is between. -/
def Mid (lt : α → α → Bool) (d : α) (a0 b0 a b : Nat) (l : List α) : Prop := a0 ≤ a ∧ a ≤ b ∧ b ≤ b0 ∧ SIn lt d a0 a l ∧ SIn lt d b b0 l ∧ (∀ i j, a0 ≤ i → i < a → a ≤ j → j < b0 → lt (l.getD j d) (l.getD i d) = false) ∧ ∀ i j, a0 ≤ i → i < b → b ≤ j → j < b0 → lt (l.getD j d) (l.getD i d) = false
end
end Go.Proofs.YtcjhojdlfnpgjaaGreatDoor
