/- Contracts: MapsOfModules. -/
import Derived.Test.YtdbkiomhoonclaaDd
namespace Go.Proofs.Ytdbkiomhoonclaa
open Go.RowKit
set_option linter.unusedVariables false
set_option linter.unusedSimpArgs false
set_option maxRecDepth 100000

theorem codeM2_ok {t : List (List Int)} {m n : Int} {l k : List Int} (h : codeM t [(m, l), (n, k)] = 0) : Grp t ∧ Mod t m l ∧ Mod t n k := by
  unfold codeM at h
  split at h
  · rename_i q; exact ⟨q.1, q.2 (m, l) (by simp), q.2 (n, k) (by simp)⟩
  · omega
def MapP (l k : List Int) (n c : Int) (x : Nat) : Prop := (c * l.getD x 0).tmod n = (c * k.getD x 0).tmod n
instance (l k : List Int) (n c : Int) (x : Nat) : Decidable (MapP l k n c x) := by unfold MapP; infer_instance
def MapA (s : Nat) (m : Int) (l : List Int) (n : Int) (k : List Int) (c : Int) : Prop := (c * m).tmod n = 0 ∧ ∀ x, x < s → MapP l k n c x
instance (s : Nat) (m : Int) (l : List Int) (n : Int) (k : List Int) (c : Int) : Decidable (MapA s m l n k c) := by unfold MapA; infer_instance
def mapB (s : Nat) (m : Int) (l : List Int) (n : Int) (k : List Int) (c : Int) : Bool := decide (MapA s m l n k c)
def mapsL (t : List (List Int)) (m : Int) (l : List Int) (n : Int) (k : List Int) : List Int := if codeM t [(m, l), (n, k)] = 0 then (cnt n.toNat).filter (mapB t.length m l n k) else []
theorem mapsL_ok (t : List (List Int)) (m : Int) (l : List Int) (n : Int) (k : List Int) : (mapsL t m l n k).length ≤ 1048576 := by
  unfold mapsL
  split
  · rename_i h
    have hm := (codeM2_ok h).2.2.1
    have := filter_cnt_le (mapB t.length m l n k) n.toNat
    omega
  · simp
theorem mul_le12 {a b : Int} (ha : 0 ≤ a ∧ a ≤ 12) (hb : 0 ≤ b ∧ b ≤ 12) : 0 ≤ a * b ∧ a * b ≤ 144 := ⟨Int.mul_nonneg ha.1 hb.1, Int.le_trans (Int.mul_le_mul ha.2 hb.2 hb.1 (by omega)) (by decide)⟩
theorem sub_tmod {a b n : Int} (ha : 0 ≤ a) (hb : 0 ≤ b) : (a - b).tmod n = 0 ↔ a.tmod n = b.tmod n := by
  rw [tmod_nn ha, tmod_nn hb, ← Int.dvd_iff_tmod_eq_zero, Int.emod_eq_emod_iff_emod_sub_eq_zero, Int.dvd_iff_emod_eq_zero]

end Go.Proofs.Ytdbkiomhoonclaa
