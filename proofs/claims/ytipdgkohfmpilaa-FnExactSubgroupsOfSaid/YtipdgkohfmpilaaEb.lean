/- Contracts: direct products by the specification. -/
import Derived.Test.YtipdgkohfmpilaaEa
namespace Go.Proofs.Ytipdgkohfmpilaa
open Go.RowKit
set_option linter.unusedVariables false
set_option linter.unusedSimpArgs false
set_option maxRecDepth 100000

/-- A table of small numbers. -/
def Tbl (t : List (List Int)) : Prop := ∀ a, a < t.length → (t.getD a []).length = t.length ∧ ∀ b, b < t.length → 0 ≤ ee t a b ∧ ee t a b ≤ 64
theorem Grp.tbl {t : List (List Int)} (h : Grp t) : Tbl t := by
  intro a ha
  obtain ⟨h1, h2⟩ := h.2.2.1 a ha
  have h8 := h.2.1
  refine ⟨h1, fun b hb => ?_⟩
  have := h2 b (by omega)
  have e : ee t a b = (t.getD a []).getD b 0 := rfl
  omega
theorem tab_tbl {f : Nat → Nat → Int} {n : Nat} (h : ∀ a b, a < n → b < n → 0 ≤ f a b ∧ f a b ≤ 64) : Tbl (tab f n n) := by
  intro a ha
  rw [tab_len] at ha
  have hg : (tab f n n).getD a [] = upTo (f a) n := by
    rw [List.getD_eq_getElem?_getD, tab, List.getElem?_map, List.getElem?_range ha]
    rfl
  rw [tab_len, hg, upTo_len]
  refine ⟨rfl, fun b hb => ?_⟩
  unfold ee
  rw [hg, upTo_get _ hb]
  exact h a b ha hb
def prodF (g h : List (List Int)) (a b : Nat) : Int := (h.length : Int) * ee g (a / h.length) (b / h.length) + ee h (a % h.length) (b % h.length)
end Go.Proofs.Ytipdgkohfmpilaa
