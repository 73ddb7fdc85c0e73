/- Plain facts of masks. -/
import Derived.Test.YtipdgkohfmpilaaPc
import Derived.Test.YtipdgkohfmpilaaVv
namespace Go.Proofs.Ytipdgkohfmpilaa
open Go.RowKit
set_option linter.unusedVariables false
set_option linter.unusedSimpArgs false
set_option maxRecDepth 100000

/-- Shifting left, as a word that the kernel does not open: opened, its check takes a minute a place. -/
theorem shl_ex : ∃ f : IntKind → Int → Int → Int, f = shlV := ⟨_, rfl⟩
noncomputable def shlW : IntKind → Int → Int → Int := Classical.choose shl_ex
theorem shlW_eq : shlW = shlV := Classical.choose_spec shl_ex
theorem BinE_shlW (T : TT) (t : Nat) (k k' : IntKind) (a b : Int) : BinE T t .shl (.int k a) (.int k' b) = .val (0 ≤ b) (.v (.int k (shlW k a b))) := by rw [shlW_eq]; rfl
attribute [go_sem ↓ high] BinE_shlW
theorem shl_fact : ∀ x : Nat, x < 8 → shlW .i64 1 (IntKind.u64.wrap (x : Int)) = ((2 ^ x : Nat) : Int) ∧ IntKind.u64.wrap (x : Int) = x := by rw [shlW_eq]; decide +kernel
theorem or_fact : ∀ m : Nat, m < 256 → ∀ x : Nat, x < 8 → orV .i64 m ((2 ^ x : Nat) : Int) = ((m ||| 2 ^ x : Nat) : Int) := by decide +kernel
theorem and_fact : ∀ m : Nat, m < 256 → ∀ x : Nat, x < 8 → andV .i64 m ((2 ^ x : Nat) : Int) = if m.testBit x then ((2 ^ x : Nat) : Int) else 0 := by decide +kernel
theorem bit_fact : ∀ m : Nat, m < 256 → ∀ x : Nat, x < 8 → andV .i64 (shrV .i64 m (x : Int)) 1 = if m.testBit x then 1 else 0 := by decide +kernel
theorem or_lt {m x : Nat} (hm : m < 256) (hx : x < 8) : m ||| 2 ^ x < 256 := by
  have h : ∀ m : Nat, m < 256 → ∀ x : Nat, x < 8 → m ||| 2 ^ x < 256 := by decide +kernel
  exact h m hm x hx
theorem areIn_take {n : Int} {l : List Int} (h : AreIn n l) (k : Nat) : AreIn n (l.take k) := by
  intro j hj
  rw [List.length_take] at hj
  have := h j (by omega)
  rwa [List.getD_eq_getElem?_getD, List.getElem?_take_of_lt (by omega), ← List.getD_eq_getElem?_getD]
theorem bitsM_lt8 {n : Nat} {l : List Int} (hn : n ≤ 8) (h : AreIn n l) : bitsM l < 256 := Nat.lt_of_lt_of_le (bitsM_lt hn h) (Nat.pow_le_pow_right (by decide) hn)
theorem bitsM_step {n : Nat} {l : List Int} (hn : n ≤ 8) (h : AreIn n l) {i : Nat} (hi : i < l.length) : bitsM (l.take i) ||| 2 ^ (l.getD i 0).toNat = bitsM (l.take (i + 1)) := by
  have hx := h i hi
  apply Nat.eq_of_testBit_eq
  intro a
  rw [Nat.testBit_or, bitsM_bit hn (areIn_take h i), bitsM_bit hn (areIn_take h (i + 1)), Nat.testBit_two_pow, List.take_succ_eq_append_getElem hi]
  have e : l.getD i 0 = l[i] := by rw [List.getD_eq_getElem?_getD, List.getElem?_eq_getElem hi, Option.getD_some]
  rw [e] at hx ⊢
  rw [Bool.eq_iff_iff]
  simp only [Bool.or_eq_true, decide_eq_true_eq, List.mem_append, List.mem_singleton]
  constructor
  · rintro (q | q)
    · exact .inl q
    · right; omega
  · rintro (q | q)
    · exact .inl q
    · right; omega
theorem bitsM_nil : bitsM [] = 0 := by decide +kernel
end Go.Proofs.Ytipdgkohfmpilaa
