/- Contracts: the codes of modules; LeadNumber, NormOf. -/
import Derived.Test.YtdbkiomhoonclaaGd
import Derived.Test.YtdbkiomhoonclaaHb
namespace Go.Proofs.Ytdbkiomhoonclaa
open Go.RowKit
set_option linter.unusedVariables false
set_option linter.unusedSimpArgs false
set_option maxRecDepth 100000

/-- Modules, as a list is handed over. -/
def MM (ms : List (Int × List Int)) : List (LV × LV) := ms.map fun x => (.v (.int .i64 x.1), .rd (I x.2))
theorem MM_len (ms : List (Int × List Int)) : (MM ms).length = ms.length := by simp [MM]
theorem MM_get {ms : List (Int × List Int)} {k : Nat} {x : Int × List Int} (h : ms[k]? = some x) : (MM ms)[k]? = some (.v (.int .i64 x.1), .rd (I x.2)) := by simp [MM, h]
theorem MM_fix : ∀ ms, Fix (flat (MM ms))
  | [] => Fix.nil
  | x :: ms => Fix.cons (Fix.v _) (Fix.cons (Fix.rd _) (MM_fix ms))
theorem MM_b (σ : Nat → Option OC) (ms : List (Int × List Int)) : closeBs σ (flat (MM ms)) = flat (MM ms) := (MM_fix ms).b σ
theorem MM_k (q : Nat → Bool) (ms : List (Int × List Int)) : kills q (flat (MM ms)) = flat (MM ms) := (MM_fix ms).k q
attribute [go_sem] MM_b MM_k
def Mods (t : List (List Int)) (ms : List (Int × List Int)) : Prop := ∀ x ∈ ms, Mod t x.1 x.2
instance (t : List (List Int)) (ms : List (Int × List Int)) : Decidable (Mods t ms) := List.decidableBAll _ _

def codeM (t : List (List Int)) (ms : List (Int × List Int)) : Int := if Grp t ∧ Mods t ms then 0 else 1
/-- A module that is handed over. -/
theorem Mods1 {t : List (List Int)} {m : Int} {l : List Int} : Mods t [(m, l)] ↔ Mod t m l := by simp [Mods]
theorem codeM1_ok {t : List (List Int)} {m : Int} {l : List Int} (h : codeM t [(m, l)] = 0) : Grp t ∧ Mod t m l := by
  unfold codeM at h
  split at h
  · rename_i q; exact ⟨q.1, Mods1.1 q.2⟩
  · omega

def codeL (t : List (List Int)) (m : Int) (l : List Int) (e x : Int) : Int := if codeM t [(m, l)] = 0 then (if (0 ≤ e ∧ e < t.length) ∧ 0 ≤ x ∧ x < m then 0 else 2) else 1
def leadV (t : List (List Int)) (m : Int) (l : List Int) (e x : Int) : Int := if codeL t m l e x = 0 then (l.getD e.toNat 0 * x).tmod m else 0
theorem one_in {n x : Int} : AreIn n [x] ↔ 0 ≤ x ∧ x < n := by
  constructor
  · intro h; simpa using h 0 (by simp)
  · intro h j hj
    obtain rfl : j = 0 := by simp at hj; omega
    simpa using h
theorem areIn1_spec (n x : Int) : Spec Try.prog 87 [.v (.int .i64 n), .rd (I [x])] (.v (.bool (decide (0 ≤ x ∧ x < n)))) [] := by
  have := areIn_spec n [x] (by simp)
  rwa [decide_eq_decide.2 one_in] at this
theorem codeM_vals (t : List (List Int)) (ms : List (Int × List Int)) : codeM t ms = 0 ∨ codeM t ms = 1 := by unfold codeM; split <;> simp
theorem lead_ok {t : List (List Int)} {m : Int} {l : List Int} {e x : Int} (h : Mod t m l) (he : 0 ≤ e ∧ e < t.length) (hx : 0 ≤ x ∧ x < m) : (0 ≤ e ∧ e < (l.length : Int)) ∧ InR (l.getD e.toNat 0 * x) ∧ ¬ m = 0 := by
  obtain ⟨⟨h1, h2⟩, h3, h4, h5⟩ := h
  obtain ⟨a, rfl⟩ := Int.eq_ofNat_of_zero_le he.1
  have hu := h4 a (by omega)
  refine ⟨by omega, ?_, by omega⟩
  rw [Int.toNat_natCast]
  obtain ⟨u1, u2, _⟩ := hu
  generalize l.getD a 0 = u at u1 u2
  have k1 : 0 ≤ u * x := Int.mul_nonneg (by omega) hx.1
  have k2 : u * x ≤ 12 * 12 := Int.mul_le_mul (by omega) (by omega) hx.1 (by omega)
  unfold InR
  omega
def normL (l : List Int) : Int := l.foldl (· + ·) 0
def normV (t : List (List Int)) (m : Int) (l : List Int) : Int := if codeM t [(m, l)] = 0 then (normL l).tmod m else 0
theorem normL_take {l : List Int} {k : Nat} (hk : k < l.length) : normL (l.take (k + 1)) = normL (l.take k) + l.getD k 0 := by
  rw [List.take_succ_eq_append_getElem hk, normL, List.foldl_append]
  simp [normL, List.getD_eq_getElem?_getD, List.getElem?_eq_getElem hk]
theorem norm_bound {m : Int} {l : List Int} (hm : m ≤ 12) (hu : ∀ j, j < l.length → Unit1 m (l.getD j 0)) : ∀ k, k ≤ l.length → 0 ≤ normL (l.take k) ∧ normL (l.take k) ≤ 12 * k
  | 0, _ => by simp [normL]
  | k + 1, h => by
    have := norm_bound hm hu k (by omega)
    obtain ⟨u1, u2, _⟩ := hu k (by omega)
    rw [normL_take (by omega)]
    push_cast
    omega
end Go.Proofs.Ytdbkiomhoonclaa
