/- Contracts: what the laws use to tell memory apart: marks that are written into rows, and looked for. -/
import Derived.Test.YtcjhojdlfnpgjaaFc
namespace Go.Proofs.Ytcjhojdlfnpgjaa
open Go.RowKit
set_option linter.unusedVariables false
set_option linter.unusedSimpArgs false
set_option maxRecDepth 100000

def marks (k : Int) : Nat → List Int
  | 0 => []
  | n + 1 => marks k n ++ [k + n]
theorem marks_len (k : Int) : ∀ n, (marks k n).length = n
  | 0 => rfl
  | n + 1 => by simp [marks, marks_len k n]
theorem marks_set (k : Int) (xs : List Int) (i : Nat) (hi : i < xs.length) : (marks k i ++ xs.drop i).set i (k + i) = marks k (i + 1) ++ xs.drop (i + 1) := by
  rw [List.set_append_right _ _ (by rw [marks_len]; omega), marks_len, Nat.sub_self, List.drop_eq_getElem_cons hi, List.set_cons_zero, marks, List.append_assoc]
  rfl
theorem marks_get (k : Int) : ∀ (n i : Nat), i < n → (marks k n).getD i 0 = k + i
  | n + 1, i, h => by
    unfold marks
    by_cases e : i < n
    · have := marks_get k n i e
      rw [List.getD_eq_getElem?_getD] at *
      rw [List.getElem?_append_left (by rw [marks_len]; exact e)]
      exact this
    · obtain rfl : i = n := by omega
      simp [List.getD_eq_getElem?_getD, List.getElem?_append_right, marks_len]

/-- Where marks are looked for. -/
def heldS : List Int → Int → Int
  | [], k => k
  | x :: xs, k => if x = k then heldS xs (k + 1) else -1
theorem heldS_step {xs : List Int} {i : Nat} (hi : i < xs.length) (k : Int) : heldS (xs.drop i) k = if xs.getD i 0 = k then heldS (xs.drop (i + 1)) (k + 1) else -1 := by
  rw [List.drop_eq_getElem_cons hi]
  simp [heldS, List.getElem?_eq_getElem hi]
theorem heldS_marks (k : Int) (n : Nat) : heldS (marks k n) k = k + n := by
  have key : ∀ m i, i + m = n → heldS ((marks k n).drop i) (k + (i : Nat)) = k + n := by
    intro m
    induction m with
    | zero =>
      intro i h
      rw [List.drop_eq_nil_of_le (by rw [marks_len]; omega), heldS]
      omega
    | succ m ih =>
      intro i h
      rw [heldS_step (by rw [marks_len]; omega), marks_get k n i (by omega), if_pos rfl]
      have := ih (i + 1) (by omega)
      rw [← this]
      congr 1
      simp; omega
  simpa using key n 0 (by omega)

def marksS (k : Int) : List (List Int) → List (List Int)
  | [] => []
  | r :: t => marks k r.length :: marksS (k + r.length) t
def cellsOf : List (List Int) → Nat
  | [] => 0
  | r :: t => r.length + cellsOf t
theorem marksS_len (k : Int) : ∀ (t : List (List Int)), (marksS k t).length = t.length
  | [] => rfl
  | r :: t => by simp [marksS, marksS_len _ t]
theorem cellsOf_step {t : List (List Int)} {i : Nat} (hi : i < t.length) : cellsOf (t.take (i + 1)) = cellsOf (t.take i) + (t.getD i []).length := by
  induction t generalizing i with
  | nil => simp at hi
  | cons r t ih =>
    cases i with
    | zero => simp [cellsOf]
    | succ i => have := ih (i := i) (by simpa using hi); simp [cellsOf] at this ⊢; omega
theorem cellsOf_le (t : List (List Int)) (i : Nat) : cellsOf (t.take i) ≤ cellsOf t := by
  induction t generalizing i with
  | nil => simp [cellsOf]
  | cons r t ih => cases i with
    | zero => simp [cellsOf]
    | succ i => have := ih i; simp [cellsOf]; omega
theorem marksS_take {t : List (List Int)} {i : Nat} (hi : i < t.length) (k : Int) : marksS k (t.take (i + 1)) = marksS k (t.take i) ++ [marks (k + cellsOf (t.take i)) (t.getD i []).length] := by
  induction t generalizing i k with
  | nil => simp at hi
  | cons r t ih =>
    cases i with
    | zero => simp [marksS, cellsOf]
    | succ i =>
      have := ih (i := i) (by simpa using hi) (k + r.length)
      simp only [List.take_succ_cons, marksS, this, List.cons_append, List.getD_cons_succ, cellsOf]
      rw [show k + (r.length : Int) + (cellsOf (t.take i) : Int) = k + ((r.length + cellsOf (t.take i) : Nat) : Int) by push_cast; omega]
theorem marksS_set {t : List (List Int)} {i : Nat} (hi : i < t.length) (k : Int) : (marksS k (t.take i) ++ t.drop i).set i (marks (k + cellsOf (t.take i)) (t.getD i []).length) = marksS k (t.take (i + 1)) ++ t.drop (i + 1) := by
  have hl : (marksS k (t.take i)).length = i := by rw [marksS_len]; simp; omega
  rw [List.set_append_right _ _ (by omega), hl, Nat.sub_self, List.drop_eq_getElem_cons hi, List.set_cons_zero, marksS_take hi, List.append_assoc]
  rfl

theorem marksS_get : ∀ (k : Int) (t : List (List Int)) (i : Nat), i < t.length → (marksS k t).getD i [] = marks (k + cellsOf (t.take i)) (t.getD i []).length
  | k, r :: t, 0, h => by simp [marksS, cellsOf]
  | k, r :: t, i + 1, h => by
    have := marksS_get (k + r.length) t i (by simpa using h)
    simp only [marksS, List.getD_cons_succ, this, List.take_succ_cons, cellsOf]
    rw [show k + (r.length : Int) + (cellsOf (t.take i) : Int) = k + ((r.length + cellsOf (t.take i) : Nat) : Int) by push_cast; omega]
theorem szR_cells : ∀ (t : List (List Int)) (a : Int), 0 ≤ szR t a → 0 ≤ a → (cellsOf t : Int) ≤ a
  | [], a, h, h0 => by simp [cellsOf]; omega
  | r :: t, a, h, h0 => by
    unfold szR at h
    split at h
    · omega
    · rename_i hs
      have h1 := szS_le r a
      have h2 := szR_cells t (szS r a) h (by omega)
      unfold szS at h2 hs
      split at h2
      · omega
      · simp only [cellsOf]; push_cast; omega
theorem szSS_cells {t : List (List Int)} {left : Int} (h : 0 ≤ szSS t left) : (cellsOf t : Int) ≤ left := by
  unfold szSS at h
  split at h
  · omega
  · have := szR_cells t _ h (by omega)
    omega
/-- What is asked of rows that a law returns. -/
def OkRows (t : List (List Int)) : Prop := t.length ≤ 1048576 ∧ (∀ a, a < t.length → (t.getD a []).length ≤ 1048576) ∧ (cellsOf t : Int) ≤ 1099511627776
end Go.Proofs.Ytcjhojdlfnpgjaa
