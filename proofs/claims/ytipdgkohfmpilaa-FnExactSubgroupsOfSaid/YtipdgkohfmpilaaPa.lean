/- Plain facts of groups told by tables: products, powers, orders. -/
import Derived.Test.YtipdgkohfmpilaaFb
namespace Go.Proofs.Ytipdgkohfmpilaa
set_option linter.unusedVariables false

def em (t : List (List Int)) (a b : Nat) : Nat := (ee t a b).toNat
def pwN (t : List (List Int)) (a : Nat) : Nat → Nat
  | 0 => 0
  | k + 1 => em t (pwN t a k) a

section
variable {t : List (List Int)} (hg : Grp t)
include hg

theorem em_ee {a b : Nat} (ha : a < t.length) (hb : b < t.length) : ee t a b = em t a b := by
  have := (hg.2.2.1 a ha).2 b hb
  unfold em; omega
theorem em_lt {a b : Nat} (ha : a < t.length) (hb : b < t.length) : em t a b < t.length := by
  have := (hg.2.2.1 a ha).2 b hb
  unfold em; omega
theorem em_assoc {a b c : Nat} (ha : a < t.length) (hb : b < t.length) (hc : c < t.length) : em t (em t a b) c = em t a (em t b c) := by
  have := (hg.2.2.2 a ha).2 b hb c hc
  unfold Assoc at this
  unfold em; rw [this]
theorem em_zl {a : Nat} (ha : a < t.length) : em t 0 a = a := by
  have := (hg.2.2.2 a ha).1.1
  unfold em; omega
theorem em_zr {a : Nat} (ha : a < t.length) : em t a 0 = a := by
  have := (hg.2.2.2 a ha).1.2.1
  unfold em; omega
theorem em_inv {a : Nat} (ha : a < t.length) : ∃ b, b < t.length ∧ em t a b = 0 ∧ em t b a = 0 := by
  obtain ⟨b, h1, h2, h3⟩ := hg.left ha
  exact ⟨b, h1, by unfold em; omega, by unfold em; omega⟩
theorem em_cancel {x y a : Nat} (hx : x < t.length) (hy : y < t.length) (ha : a < t.length) (h : em t x a = em t y a) : x = y := by
  obtain ⟨b, h1, h2, h3⟩ := em_inv hg ha
  have e1 := em_assoc hg hx ha h1
  have e2 := em_assoc hg hy ha h1
  rw [h2, em_zr hg hx] at e1
  rw [h2, em_zr hg hy] at e2
  rw [← e1, ← e2, h]
theorem inv_unique {a b c : Nat} (ha : a < t.length) (hb : b < t.length) (hc : c < t.length) (h1 : em t a b = 0) (h2 : em t a c = 0) : b = c := by
  obtain ⟨d, g1, g2, g3⟩ := em_inv hg ha
  have e1 := em_assoc hg g1 ha hb
  have e2 := em_assoc hg g1 ha hc
  rw [h1, g3, em_zl hg hb, em_zr hg g1] at e1
  rw [h2, g3, em_zl hg hc, em_zr hg g1] at e2
  omega

theorem pwN_lt {a : Nat} (ha : a < t.length) : ∀ k, pwN t a k < t.length
  | 0 => hg.1
  | k + 1 => em_lt hg (pwN_lt ha k) ha
theorem pwN_add {a : Nat} (ha : a < t.length) (i : Nat) : ∀ j, pwN t a (i + j) = em t (pwN t a i) (pwN t a j)
  | 0 => (em_zr hg (pwN_lt hg ha i)).symm
  | j + 1 => by
    show em t (pwN t a (i + j)) a = em t (pwN t a i) (em t (pwN t a j) a)
    rw [pwN_add ha i j, em_assoc hg (pwN_lt hg ha i) (pwN_lt hg ha j) ha]
end

theorem pigeon : ∀ (n : Nat) (f : Nat → Nat), (∀ k, k ≤ n → f k < n) → ∃ i j, i < j ∧ j ≤ n ∧ f i = f j
  | 0, f, h => absurd (h 0 (Nat.le_refl _)) (by omega)
  | n + 1, f, h => by
    by_cases he : ∃ k, k ≤ n ∧ f k = f (n + 1)
    · obtain ⟨k, h1, h2⟩ := he
      exact ⟨k, n + 1, by omega, Nat.le_refl _, h2⟩
    · have hne : ∀ k, k ≤ n → f k ≠ f (n + 1) := fun k hk e => he ⟨k, hk, e⟩
      have hl := h (n + 1) (Nat.le_refl _)
      obtain ⟨i, j, h1, h2, h3⟩ := pigeon n (fun k => if f k = n then f (n + 1) else f k) (fun k hk => by
        have a1 := hne k hk
        have a2 := h k (by omega)
        show (if f k = n then f (n + 1) else f k) < n
        split <;> omega)
      refine ⟨i, j, h1, by omega, ?_⟩
      have a1 := hne i (by omega)
      have a2 := hne j (by omega)
      split at h3 <;> split at h3 <;> omega

/-- The order of an element. -/
def ordN (t : List (List Int)) (a : Nat) : Nat := match (List.range t.length).find? (fun k => pwN t a (k + 1) == 0) with | some k => k + 1 | none => 0
theorem ordN_is {t : List (List Int)} {a k : Nat} (h1 : 1 ≤ k) (hk : k ≤ t.length) (h2 : pwN t a k = 0) (h3 : ∀ j, 1 ≤ j → j < k → pwN t a j ≠ 0) : ordN t a = k := by
  have : (List.range t.length).find? (fun k => pwN t a (k + 1) == 0) = some (k - 1) := by
    rw [List.find?_range_eq_some]
    refine ⟨by simp [show k - 1 + 1 = k by omega, h2], List.mem_range.2 (by omega), fun j hj => ?_⟩
    simpa using h3 (j + 1) (by omega) (by omega)
  unfold ordN
  rw [this]
  show k - 1 + 1 = k
  omega
theorem ordN_spec {t : List (List Int)} (hg : Grp t) {a : Nat} (ha : a < t.length) : 1 ≤ ordN t a ∧ ordN t a ≤ t.length ∧ pwN t a (ordN t a) = 0 ∧ ∀ j, 1 ≤ j → j < ordN t a → pwN t a j ≠ 0 := by
  have ex : ∃ k, 1 ≤ k ∧ k ≤ t.length ∧ pwN t a k = 0 := by
    obtain ⟨i, j, h1, h2, h3⟩ := pigeon t.length (pwN t a) (fun k _ => pwN_lt hg ha k)
    refine ⟨j - i, by omega, by omega, ?_⟩
    have e := pwN_add hg ha (j - i) i
    rw [show j - i + i = j by omega, ← h3] at e
    have e2 : em t 0 (pwN t a i) = em t (pwN t a (j - i)) (pwN t a i) := by rw [em_zl hg (pwN_lt hg ha i)]; exact e
    exact (em_cancel hg hg.1 (pwN_lt hg ha _) (pwN_lt hg ha i) e2).symm
  have least : ∃ k, 1 ≤ k ∧ k ≤ t.length ∧ pwN t a k = 0 ∧ ∀ j, 1 ≤ j → j < k → pwN t a j ≠ 0 := by
    obtain ⟨k, h1, h2, h3⟩ := ex
    induction k using Nat.strongRecOn with
    | _ k ih =>
      by_cases h : ∀ j, 1 ≤ j → j < k → pwN t a j ≠ 0
      · exact ⟨k, h1, h2, h3, h⟩
      · have : ∃ j, 1 ≤ j ∧ j < k ∧ pwN t a j = 0 := by
          apply Classical.byContradiction
          intro hn
          exact h fun j g1 g2 g3 => hn ⟨j, g1, g2, g3⟩
        obtain ⟨j, g1, g2, g3⟩ := this
        exact ih j g2 g1 (by omega) g3
  obtain ⟨k, h1, h2, h3, h4⟩ := least
  rw [ordN_is h1 h2 h3 h4]
  exact ⟨h1, h2, h3, h4⟩
end Go.Proofs.Ytipdgkohfmpilaa

namespace Go.Proofs.Ytipdgkohfmpilaa
set_option linter.unusedVariables false

section
variable {t : List (List Int)} (hg : Grp t)
include hg
theorem em_comm_inv {a b : Nat} (ha : a < t.length) (hb : b < t.length) (h : em t a b = 0) : em t b a = 0 := by
  obtain ⟨c, g1, g2, g3⟩ := em_inv hg ha
  rw [inv_unique hg ha hb g1 h g2]; exact g3
theorem pw_inv {a b : Nat} (ha : a < t.length) (hb : b < t.length) (h : em t b a = 0) : ∀ j, em t (pwN t b j) (pwN t a j) = 0
  | 0 => em_zl hg hg.1
  | j + 1 => by
    have e1 : pwN t a (j + 1) = em t a (pwN t a j) := by
      rw [Nat.add_comm, pwN_add hg ha 1 j]
      congr 1
      exact em_zl hg ha
    have lb := pwN_lt hg hb j
    have la := pwN_lt hg ha j
    rw [e1]
    show em t (em t (pwN t b j) b) (em t a (pwN t a j)) = 0
    rw [em_assoc hg lb hb (em_lt hg ha la), ← em_assoc hg hb ha la, h, em_zl hg la]
    exact pw_inv ha hb h j
theorem pw_ord {a : Nat} (ha : a < t.length) (q : Nat) : pwN t a (ordN t a * q) = 0 := by
  obtain ⟨_, _, o3, _⟩ := ordN_spec hg ha
  induction q with
  | zero => rfl
  | succ q ih => rw [Nat.mul_succ, pwN_add hg ha, ih, o3]; exact em_zl hg hg.1
theorem pw_mod {a : Nat} (ha : a < t.length) (k : Nat) : pwN t a (k % ordN t a) = pwN t a k := by
  have h := pwN_add hg ha (ordN t a * (k / ordN t a)) (k % ordN t a)
  rw [Nat.div_add_mod, pw_ord hg ha, em_zl hg (pwN_lt hg ha _)] at h
  exact h.symm
theorem ord_inv {a b : Nat} (ha : a < t.length) (hb : b < t.length) (h : em t b a = 0) : ordN t b = ordN t a := by
  have key : ∀ j, pwN t b j = 0 ↔ pwN t a j = 0 := fun j => by
    have e := pw_inv hg ha hb h j
    constructor
    · intro q; rw [q, em_zl hg (pwN_lt hg ha j)] at e; exact e
    · intro q; rw [q, em_zr hg (pwN_lt hg hb j)] at e; exact e
  obtain ⟨o1, o2, o3, o4⟩ := ordN_spec hg ha
  exact ordN_is o1 o2 ((key _).2 o3) fun j h1 h2 q => o4 j h1 h2 ((key j).1 q)
theorem pw_neg {a b : Nat} (ha : a < t.length) (hb : b < t.length) (h : em t b a = 0) {r : Nat} (hr : r ≤ ordN t a) : pwN t b r = pwN t a (ordN t a - r) := by
  obtain ⟨_, _, o3, _⟩ := ordN_spec hg ha
  have e1 := pw_inv hg ha hb h r
  have e2 := pwN_add hg ha (ordN t a - r) r
  rw [Nat.sub_add_cancel hr, o3] at e2
  exact em_cancel hg (pwN_lt hg hb r) (pwN_lt hg ha _) (pwN_lt hg ha r) (e1.trans e2)
end
end Go.Proofs.Ytipdgkohfmpilaa
