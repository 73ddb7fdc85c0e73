/- Contracts: homomorphisms of groups. -/
import Derived.Test.YtipdgkohfmpilaaGa
import Derived.Test.YtipdgkohfmpilaaVp
namespace Go.Proofs.Ytipdgkohfmpilaa
open Go.RowKit
set_option linter.unusedVariables false
set_option linter.unusedSimpArgs false
set_option maxRecDepth 100000

/-- The code of two groups and a list of images. -/
def codeH (t u : List (List Int)) (l : List Int) : Int := if Grp t ∧ Grp u then (if l.length = t.length ∧ AreIn u.length l then 0 else 2) else 1
theorem codeH_ok {t u : List (List Int)} {l : List Int} (h : codeH t u l = 0) : Grp t ∧ Grp u ∧ l.length = t.length ∧ AreIn u.length l := by
  unfold codeH at h
  split at h
  · rename_i h1
    split at h
    · rename_i h2; exact ⟨h1.1, h1.2, h2.1, h2.2⟩
    · omega
  · omega

/-- Images of the first elements go together. -/
def Hom (t u : List (List Int)) (l : List Int) : Prop := ∀ a, a < l.length → ∀ b, b < l.length → ee t a b < l.length → l.getD (ee t a b).toNat 0 = ee u (l.getD a 0).toNat (l.getD b 0).toNat
instance (t u : List (List Int)) (l : List Int) : Decidable (Hom t u l) := by unfold Hom; infer_instance

def homV (t u : List (List Int)) (l : List Int) : Bool := decide (codeH t u l = 0 ∧ Hom t u l)
end Go.Proofs.Ytipdgkohfmpilaa
