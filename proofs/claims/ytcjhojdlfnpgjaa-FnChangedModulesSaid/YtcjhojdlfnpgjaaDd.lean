/- Contracts: FixedNumbers, DifferenceNumbers. -/
import Derived.Test.YtcjhojdlfnpgjaaDc
namespace Go.Proofs.Ytcjhojdlfnpgjaa
open Go.RowKit
set_option linter.unusedVariables false
set_option linter.unusedSimpArgs false
set_option maxRecDepth 100000

theorem mod_back {M v k : Nat} (hk : k < M) : ((v + 1) * k) % M = k ↔ M ∣ v * k := by
  rw [Nat.succ_mul]
  constructor
  · intro h
    have := Nat.div_add_mod (v * k + k) M
    rw [h] at this
    exact ⟨(v * k + k) / M, by omega⟩
  · rintro ⟨q, hq⟩
    rw [hq, Nat.mul_add_mod, Nat.mod_eq_of_lt hk]
theorem fixed_iff {M k : Nat} {l : List Int} (hM : 2 ≤ M) (hk : k < M) (hu : ∀ u ∈ l, 1 ≤ u) : (∀ u ∈ l, (u * (k : Int)).tmod (M : Int) = k) ↔ k % (M / stepN M l) = 0 := by
  obtain ⟨hd1, hd2⟩ := stepN_dvd (m := (M : Int)) l
  rw [Int.toNat_natCast] at hd1
  have hpos := stepN_pos (m := (M : Int)) (by omega) l
  obtain ⟨q, hq⟩ := hd1
  have hdiv : M / stepN M l = q := by
    conv => lhs; lhs; rw [hq]
    exact Nat.mul_div_cancel_left _ hpos
  rw [hdiv]
  have key : ∀ u ∈ l, (u * (k : Int)).tmod (M : Int) = k ↔ M ∣ (u - 1).toNat * k := by
    intro u hum
    obtain ⟨v, rfl⟩ : ∃ v : Nat, u = v + 1 := ⟨(u - 1).toNat, by have := hu u hum; omega⟩
    rw [show ((v : Int) + 1 - 1).toNat = v by omega, ← mod_back hk]
    rw [show ((v : Int) + 1) * (k : Int) = (((v + 1) * k : Nat) : Int) by push_cast; rfl]
    rw [show ((((v + 1) * k : Nat) : Int)).tmod (M : Int) = ((((v + 1) * k) % M : Nat) : Int) from rfl]
    omega
  constructor
  · intro h
    have h1 : M ∣ stepN M l * k := dvd_step (m := (M : Int)) l (by rw [Int.toNat_natCast]; exact Nat.dvd_mul_right _ _) fun u hum => (key u hum).1 (h u hum)
    apply Nat.mod_eq_zero_of_dvd
    have h1' : stepN M l * q ∣ stepN M l * k := by rw [← hq]; exact h1
    exact Nat.dvd_of_mul_dvd_mul_left hpos h1'
  · intro h u hum
    refine (key u hum).2 ?_
    have h1 := Nat.dvd_of_mod_eq_zero h
    refine Nat.dvd_trans (?_ : M ∣ stepN M l * k) (Nat.mul_dvd_mul_right (hd2 u hum) k)
    have : stepN M l * q ∣ stepN M l * k := Nat.mul_dvd_mul_left _ h1
    rwa [← hq] at this

def nofix (m x u : Int) : Bool := (u * x).tmod m != x
def fixL (t : List (List Int)) (m : Int) (l : List Int) : List Int := if codeM t [(m, l)] = 0 then (cnt m.toNat).filter (isMul (m.toNat / stepN m l)) else []
def diffL (t : List (List Int)) (m : Int) (l : List Int) : List Int := if codeM t [(m, l)] = 0 then (cnt m.toNat).filter (isMul (stepN m l)) else []
theorem fixL_ok (t : List (List Int)) (m : Int) (l : List Int) : (fixL t m l).length ≤ 1048576 := by
  unfold fixL
  split
  · rename_i h
    have hm := (codeM1_ok h).2.1
    have := filter_cnt_le (isMul (m.toNat / stepN m l)) m.toNat
    omega
  · simp
theorem diffL_ok (t : List (List Int)) (m : Int) (l : List Int) : (diffL t m l).length ≤ 1048576 := by
  unfold diffL
  split
  · rename_i h
    have hm := (codeM1_ok h).2.1
    have := filter_cnt_le (isMul (stepN m l)) m.toNat
    omega
  · simp
theorem units_ge {t : List (List Int)} {m : Int} {l : List Int} (h : Mod t m l) : ∀ u ∈ l, 1 ≤ u ∧ u < m := by
  intro u hu
  obtain ⟨j, hj⟩ := List.getElem?_of_mem hu
  obtain ⟨h1, h2, _⟩ := h.2.2.1 j (List.getElem?_eq_some_iff.1 hj).1
  rw [List.getD_eq_getElem?_getD, hj, Option.getD_some] at h1 h2
  exact ⟨h1, h2⟩
theorem filter_same {p q : Int → Bool} {n : Nat} (h : ∀ k : Nat, k < n → p k = q k) : (cnt n).filter p = (cnt n).filter q := by
  refine List.filter_congr fun x hx => ?_
  obtain ⟨k, hk, rfl⟩ : ∃ k : Nat, k < n ∧ x = k := by
    unfold cnt upTo at hx
    obtain ⟨k, hk, rfl⟩ := List.mem_map.1 hx
    exact ⟨k, List.mem_range.1 hk, rfl⟩
  exact h k hk
end Go.Proofs.Ytcjhojdlfnpgjaa
