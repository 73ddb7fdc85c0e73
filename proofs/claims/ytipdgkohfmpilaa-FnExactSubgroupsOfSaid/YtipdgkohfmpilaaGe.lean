/- Contracts: orders and powers of elements. -/
import Derived.Test.YtipdgkohfmpilaaGa
import Derived.Test.YtipdgkohfmpilaaVp
import Derived.Test.YtipdgkohfmpilaaPa
namespace Go.Proofs.Ytipdgkohfmpilaa
open Go.RowKit
set_option linter.unusedVariables false
set_option linter.unusedSimpArgs false
set_option maxRecDepth 100000

theorem times2_spec (t : List (List Int)) (hg : Grp t) (a b : Nat) (ha : a < t.length) (hb : b < t.length) : Spec Try.prog 47 [.agg [.rds (II t)], .rd (I [(a : Int), (b : Int)])] (.v (.int .i64 (em t a b))) [] := by
  have hab : AreIn t.length [(a : Int), b] := by
    intro j hj
    match j, hj with
    | 0, _ => simp; omega
    | 1, _ => simp; omega
  have := times_spec t [(a : Int), b] hg hab (by simp)
  rwa [tm_two hg (by omega), Int.toNat_natCast, Int.toNat_natCast, em_ee hg ha hb] at this

/-- The inverse of an element. -/
def invN (t : List (List Int)) (a : Nat) : Nat := (ix (t.getD a []) 0).toNat
theorem invN_is {t : List (List Int)} (hg : Grp t) {a : Nat} (ha : a < t.length) : ix (t.getD a []) 0 = invN t a ∧ invN t a < t.length ∧ em t a (invN t a) = 0 := by
  have hh := (hg.2.2.2 a ha).1.2.2
  have hr := (hg.2.2.1 a ha).1
  rcases ix_cases (t.getD a []) 0 with ⟨h1, _⟩ | ⟨k, h1, h2, h3⟩
  · exact absurd hh h1
  · have : invN t a = k := by unfold invN; rw [h1]; rfl
    rw [this]
    refine ⟨h1, by omega, ?_⟩
    unfold em ee
    rw [h3]; rfl
theorem tmod_as (x m : Int) : x.tmod m = if 0 ≤ x then x % m else -((-x) % m) := by
  split
  · rename_i h; exact Int.tmod_eq_emod_of_nonneg h
  · rename_i h
    have e : x.tmod m = -((-x).tmod m) := by rw [Int.neg_tmod, Int.neg_neg]
    rw [e, Int.tmod_eq_emod_of_nonneg (by omega)]
theorem mod_eq {x m : Int} (h0 : 1 ≤ m) (h1 : m ≤ 8) : (x.tmod m + m).tmod m = x % m ∧ -m < x.tmod m ∧ x.tmod m < m := by
  rw [tmod_as (x.tmod m + m), tmod_as x]
  have hm : m = 1 ∨ m = 2 ∨ m = 3 ∨ m = 4 ∨ m = 5 ∨ m = 6 ∨ m = 7 ∨ m = 8 := by omega
  rcases hm with rfl | rfl | rfl | rfl | rfl | rfl | rfl | rfl <;> split <;> split <;> omega
theorem emod_nat {x : Int} (h : 0 ≤ x) (o : Nat) : x % (o : Int) = (x.toNat % o : Nat) := by
  obtain ⟨n, rfl⟩ := Int.eq_ofNat_of_zero_le h
  rfl
theorem neg_mod {x : Int} {o : Nat} (h0 : 1 ≤ o) (h8 : o ≤ 8) (hx : x < 0) : (o - (0 - x).toNat % o) % o = (x % (o : Int)).toNat := by
  have hm : o = 1 ∨ o = 2 ∨ o = 3 ∨ o = 4 ∨ o = 5 ∨ o = 6 ∨ o = 7 ∨ o = 8 := by omega
  rcases hm with rfl | rfl | rfl | rfl | rfl | rfl | rfl | rfl <;> omega
end Go.Proofs.Ytipdgkohfmpilaa
