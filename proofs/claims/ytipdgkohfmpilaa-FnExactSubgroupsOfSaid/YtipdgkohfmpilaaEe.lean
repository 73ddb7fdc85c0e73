/- Contracts: DirectProduct. -/
import Derived.Test.YtipdgkohfmpilaaEb
import Derived.Test.YtipdgkohfmpilaaGe
import Derived.Test.YtipdgkohfmpilaaGc
namespace Go.Proofs.Ytipdgkohfmpilaa
open Go.RowKit
set_option linter.unusedVariables false
set_option linter.unusedSimpArgs false
set_option maxRecDepth 100000

def codeDP (t u : List (List Int)) : Int := if Grp t ∧ Grp u then (if t.length * u.length ≤ 8 then 0 else 3) else 1
def dpL (t u : List (List Int)) : List (List Int) := if codeDP t u = 0 then tab (prodF t u) (t.length * u.length) (t.length * u.length) else []
theorem codeDP_ok {t u : List (List Int)} (h : codeDP t u = 0) : Grp t ∧ Grp u ∧ t.length * u.length ≤ 8 := by
  unfold codeDP at h
  split at h
  · rename_i h1
    split at h
    · rename_i h2; exact ⟨h1.1, h1.2, h2⟩
    · omega
  · omega
theorem tab_row {f : Nat → Nat → Int} {n m a : Nat} (h : a < m) : (tab f n m).getD a [] = upTo (f a) n := by
  rw [List.getD_eq_getElem?_getD, tab, List.getElem?_map, List.getElem?_range h]
  rfl
theorem cellsOf_append : ∀ (a b : List (List Int)), cellsOf (a ++ b) = cellsOf a + cellsOf b
  | [], b => by simp [cellsOf]
  | x :: a, b => by simp only [List.cons_append, cellsOf, cellsOf_append a b]; omega
theorem cells_tab (f : Nat → Nat → Int) (n : Nat) : ∀ m, cellsOf (tab f n m) = n * m
  | 0 => by simp [tab, cellsOf]
  | m + 1 => by rw [tab_succ, cellsOf_append, cells_tab f n m]; simp [cellsOf, upTo_len]; rw [Nat.mul_succ]
theorem okRows_tab (f : Nat → Nat → Int) (n m : Nat) (hn : n ≤ 64) (hm : m ≤ 64) : OkRows (tab f n m) := by
  have h := cells_tab f n m
  have h2 : n * m ≤ 64 * 64 := Nat.mul_le_mul hn hm
  refine ⟨by rw [tab_len]; omega, fun a ha => ?_, by omega⟩
  rw [tab_len] at ha
  rw [tab_row ha, upTo_len]
  omega
theorem okRows_nil : OkRows [] := ⟨by simp, fun a h => by simp at h, by simp [cellsOf]⟩
theorem dpL_ok (t u : List (List Int)) : OkRows (dpL t u) := by
  unfold dpL
  split
  · rename_i h
    have := (codeDP_ok h).2.2
    exact okRows_tab _ _ _ (by omega) (by omega)
  · exact okRows_nil

end Go.Proofs.Ytipdgkohfmpilaa
