/- Contracts: ProductModule, ReduceModule. -/
import Derived.Test.YtdbkiomhoonclaaDe
import Derived.Test.YtdbkiomhoonclaaDf
import Derived.Test.YtdbkiomhoonclaaEa
import Derived.Test.YtdbkiomhoonclaaVo
namespace Go.Proofs.Ytdbkiomhoonclaa
open Go.RowKit
set_option linter.unusedVariables false
set_option linter.unusedSimpArgs false
set_option maxRecDepth 100000

theorem unit_at {m : Int} {l : List Int} (h : ∀ u ∈ l, 1 ≤ u ∧ u < m) {x : Nat} (hx : x < l.length) : 1 ≤ l.getD x 0 ∧ l.getD x 0 < m :=
  h _ (by rw [List.getD_eq_getElem?_getD, List.getElem?_eq_getElem hx, Option.getD_some]; exact List.getElem_mem _)
def prodU (m : Int) (l k : List Int) (x : Nat) : Int := (l.getD x 0 * k.getD x 0).tmod m
def codePM (t : List (List Int)) (m : Int) (l : List Int) (n : Int) (k : List Int) : Int := if codeM t [(m, l), (n, k)] = 0 then (if m = n then 0 else 5) else 1
def prodM (t : List (List Int)) (m : Int) (l : List Int) (n : Int) (k : List Int) : Int := if codePM t m l n k = 0 then m else 0
def prodL (t : List (List Int)) (m : Int) (l : List Int) (n : Int) (k : List Int) : List Int := if codePM t m l n k = 0 then upTo (prodU m l k) t.length else []
theorem codePM_ok {t : List (List Int)} {m : Int} {l : List Int} {n : Int} {k : List Int} (h : codePM t m l n k = 0) : codeM t [(m, l), (n, k)] = 0 ∧ m = n := by
  unfold codePM at h
  split at h
  · rename_i h1
    split at h
    · rename_i h2; exact ⟨h1, h2⟩
    · omega
  · omega
theorem codeM_nz {t : List (List Int)} {ms : List (Int × List Int)} (h : ¬ codeM t ms = 0) : codeM t ms = 1 := by
  rcases codeM_vals t ms with q | q
  · exact absurd q h
  · exact q
theorem prodL_ok (t : List (List Int)) (m : Int) (l : List Int) (n : Int) (k : List Int) : (prodL t m l n k).length ≤ 1048576 := by
  unfold prodL
  split
  · rename_i h
    have := (codeM2_ok (codePM_ok h).1).1.2.1
    rw [upTo_len]; omega
  · simp
/-! ### ReduceModule -/
def redU (q : Int) (l : List Int) (x : Nat) : Int := (l.getD x 0).tmod q
def codeRM (t : List (List Int)) (m : Int) (l : List Int) (q : Int) : Int := if codeM t [(m, l)] = 0 then (if (2 ≤ q ∧ q ≤ m) ∧ m.tmod q = 0 then 0 else 2) else 1
def redM (t : List (List Int)) (m : Int) (l : List Int) (q : Int) : Int := if codeRM t m l q = 0 then q else 0
def redL (t : List (List Int)) (m : Int) (l : List Int) (q : Int) : List Int := if codeRM t m l q = 0 then upTo (redU q l) t.length else []
theorem codeRM_ok {t : List (List Int)} {m : Int} {l : List Int} {q : Int} (h : codeRM t m l q = 0) : codeM t [(m, l)] = 0 ∧ (2 ≤ q ∧ q ≤ m) ∧ m.tmod q = 0 := by
  unfold codeRM at h
  split at h
  · rename_i h1
    split at h
    · rename_i h2; exact ⟨h1, h2⟩
    · omega
  · omega
theorem redL_ok (t : List (List Int)) (m : Int) (l : List Int) (q : Int) : (redL t m l q).length ≤ 1048576 := by
  unfold redL
  split
  · rename_i h
    have := (codeM1_ok (codeRM_ok h).1).1.2.1
    rw [upTo_len]; omega
  · simp
end Go.Proofs.Ytdbkiomhoonclaa
