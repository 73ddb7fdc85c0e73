/- Contracts: what the laws use: sizes, copies, comparisons. -/
import Derived.Test.YtcjhojdlfnpgjaaFb
namespace Go.Proofs.Ytcjhojdlfnpgjaa
open Go.RowKit
set_option linter.unusedVariables false
set_option linter.unusedSimpArgs false
set_option maxRecDepth 100000

/-- What is left of a bound, -1 if nothing. -/
def szS (l : List Int) (left : Int) : Int := if left - l.length < 0 then -1 else left - l.length
theorem copy_step {α : Type} (d : α) (l : List α) (k : Nat) (hk : k < l.length) : (l.take k ++ List.replicate (l.length - k) d).set k (l.getD k d) = l.take (k + 1) ++ List.replicate (l.length - (k + 1)) d := by
  have e : l.length - k = (l.length - (k + 1)) + 1 := by omega
  have hl : (l.take k).length = k := by simp; omega
  rw [e, List.replicate_succ, List.set_append_right _ _ (by omega), hl, Nat.sub_self, List.set_cons_zero, List.take_succ_eq_append_getElem hk, List.append_assoc]
  simp [List.getElem?_eq_getElem hk]
theorem copy_end {α : Type} (d : α) (l : List α) (k : Nat) (hk : l.length ≤ k) : l.take k ++ List.replicate (l.length - k) d = l := by
  rw [List.take_of_length_le hk, show l.length - k = 0 by omega]; simp
theorem copy_len {α : Type} (d : α) (l : List α) (k : Nat) (hk : k ≤ l.length) : (l.take k ++ List.replicate (l.length - k) d).length = l.length := by simp; omega

/-- The size of rows. -/
def szR : List (List Int) → Int → Int
  | [], a => a
  | r :: t, a => if szS r a < 0 then -1 else szR t (szS r a)
def szSS (t : List (List Int)) (left : Int) : Int := if left - t.length < 0 then -1 else szR t (left - t.length)
theorem szS_le (l : List Int) (left : Int) : szS l left < 0 ∨ (0 ≤ szS l left ∧ szS l left ≤ left ∧ (l.length : Int) ≤ left) := by unfold szS; split <;> omega
theorem szR_le : ∀ (t : List (List Int)) (a : Int), 0 ≤ szR t a → 0 ≤ a → szR t a ≤ a ∧ ∀ j, j < t.length → ((t.getD j []).length : Int) ≤ a
  | [], a, h, h0 => ⟨Int.le_refl _, fun j hj => by simp at hj⟩
  | r :: t, a, h, h0 => by
    unfold szR at h ⊢
    split at h
    · omega
    · rename_i hs
      rw [if_neg hs]
      have h1 := szS_le r a
      obtain ⟨h2, h3⟩ := szR_le t (szS r a) h (by omega)
      refine ⟨by omega, fun j hj => ?_⟩
      cases j with
      | zero => simp; omega
      | succ j => have := h3 j (by simpa using hj); simp at this ⊢; omega
theorem szR_step {t : List (List Int)} {k : Nat} (hk : k < t.length) (a : Int) : szR (t.drop k) a = if szS (t.getD k []) a < 0 then -1 else szR (t.drop (k + 1)) (szS (t.getD k []) a) := by
  rw [List.drop_eq_getElem_cons hk]
  simp [szR, List.getElem?_eq_getElem hk]

theorem szSS_ok {t : List (List Int)} {left : Int} (h : 0 ≤ szSS t left) : (t.length : Int) ≤ left ∧ ∀ j, j < t.length → ((t.getD j []).length : Int) ≤ left := by
  unfold szSS at h
  split at h
  · omega
  · have := szR_le t _ h (by omega)
    exact ⟨by omega, fun j hj => by have := this.2 j hj; omega⟩
theorem szSS_left {t : List (List Int)} {left : Int} (h : 0 ≤ szSS t left) : szSS t left ≤ left := by
  unfold szSS at h ⊢
  split at h
  · omega
  · rename_i hn
    rw [if_neg hn]
    have := szR_le t _ h (by omega)
    omega

theorem getD_eq {α : Type} {d : α} {l m : List α} (hlen : l.length = m.length) (h : ∀ j, j < l.length → l.getD j d = m.getD j d) : l = m := by
  refine List.ext_getElem hlen fun j h1 h2 => ?_
  have := h j h1
  simpa [List.getD_eq_getElem?_getD, List.getElem?_eq_getElem h1, List.getElem?_eq_getElem h2] using this

end Go.Proofs.Ytcjhojdlfnpgjaa
