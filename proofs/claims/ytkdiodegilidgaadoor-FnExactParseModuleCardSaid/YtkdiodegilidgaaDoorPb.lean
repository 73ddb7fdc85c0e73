/- Plain facts of groups told by tables: powers of inverses. -/
import Derived.Test.YtkdiodegilidgaaDoorPa
namespace Go.Proofs.YtkdiodegilidgaaDoor
set_option linter.unusedVariables false

section
variable {t : List (List Int)} (hg : Grp t)
include hg
theorem em_comm_inv {a b : Nat} (ha : a < t.length) (hb : b < t.length) (h : em t a b = 0) : em t b a = 0 := by
  obtain ⟨c, g1, g2, g3⟩ := em_inv hg ha
  rw [inv_unique hg ha hb g1 h g2]; exact g3
theorem pw_inv {a b : Nat} (ha : a < t.length) (hb : b < t.length) (h : em t b a = 0) : ∀ j, em t (pwN t b j) (pwN t a j) = 0
  | 0 => em_zl hg hg.1
  | j + 1 => by
    have e1 : pwN t a (j + 1) = em t a (pwN t a j) := by
      rw [Nat.add_comm, pwN_add hg ha 1 j]
      congr 1
      exact em_zl hg ha
    have lb := pwN_lt hg hb j
    have la := pwN_lt hg ha j
    rw [e1]
    show em t (em t (pwN t b j) b) (em t a (pwN t a j)) = 0
    rw [em_assoc hg lb hb (em_lt hg ha la), ← em_assoc hg hb ha la, h, em_zl hg la]
    exact pw_inv ha hb h j
theorem pw_ord {a : Nat} (ha : a < t.length) (q : Nat) : pwN t a (ordN t a * q) = 0 := by
  obtain ⟨_, _, o3, _⟩ := ordN_spec hg ha
  induction q with
  | zero => rfl
  | succ q ih => rw [Nat.mul_succ, pwN_add hg ha, ih, o3]; exact em_zl hg hg.1
theorem pw_mod {a : Nat} (ha : a < t.length) (k : Nat) : pwN t a (k % ordN t a) = pwN t a k := by
  have h := pwN_add hg ha (ordN t a * (k / ordN t a)) (k % ordN t a)
  rw [Nat.div_add_mod, pw_ord hg ha, em_zl hg (pwN_lt hg ha _)] at h
  exact h.symm
theorem ord_inv {a b : Nat} (ha : a < t.length) (hb : b < t.length) (h : em t b a = 0) : ordN t b = ordN t a := by
  have key : ∀ j, pwN t b j = 0 ↔ pwN t a j = 0 := fun j => by
    have e := pw_inv hg ha hb h j
    constructor
    · intro q; rw [q, em_zl hg (pwN_lt hg ha j)] at e; exact e
    · intro q; rw [q, em_zr hg (pwN_lt hg hb j)] at e; exact e
  obtain ⟨o1, o2, o3, o4⟩ := ordN_spec hg ha
  exact ordN_is o1 o2 ((key _).2 o3) fun j h1 h2 q => o4 j h1 h2 ((key j).1 q)
theorem pw_neg {a b : Nat} (ha : a < t.length) (hb : b < t.length) (h : em t b a = 0) {r : Nat} (hr : r ≤ ordN t a) : pwN t b r = pwN t a (ordN t a - r) := by
  obtain ⟨_, _, o3, _⟩ := ordN_spec hg ha
  have e1 := pw_inv hg ha hb h r
  have e2 := pwN_add hg ha (ordN t a - r) r
  rw [Nat.sub_add_cancel hr, o3] at e2
  exact em_cancel hg (pwN_lt hg hb r) (pwN_lt hg ha _) (pwN_lt hg ha r) (e1.trans e2)
end
end Go.Proofs.YtkdiodegilidgaaDoor
