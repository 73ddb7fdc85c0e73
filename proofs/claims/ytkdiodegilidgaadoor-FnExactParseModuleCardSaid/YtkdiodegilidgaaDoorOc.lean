/- Contracts: numbers read and written in decimal; texts cut in two. -/
import Derived.Test.YtkdiodegilidgaaDoorOb
import Derived.Test.YtkdiodegilidgaaDoorDa
namespace Go.Proofs.YtkdiodegilidgaaDoor
open Go.RowKit
set_option linter.unusedVariables false
set_option linter.unusedSimpArgs false
set_option maxRecDepth 100000

/-! ### Numbers -/
def digit (b : UInt8) : Prop := 48 ≤ b.toNat ∧ b.toNat ≤ 57
instance (b : UInt8) : Decidable (digit b) := by unfold digit; infer_instance
/-- A number of at least 0 in decimal without leading zeros with at most nine digits. -/
def isNum (l : List UInt8) : Prop := 0 < l.length ∧ l.length ≤ 9 ∧ ¬ (l.getD 0 0 = 48 ∧ 1 < l.length) ∧ ∀ j, j < l.length → digit (l.getD j 0)
instance (l : List UInt8) : Decidable (isNum l) := by unfold isNum; infer_instance
def valN (l : List UInt8) : Nat := l.foldl (fun n b => n * 10 + (b.toNat - 48)) 0
theorem valN_step {l : List UInt8} {j : Nat} (h : j < l.length) : valN (l.take (j + 1)) = valN (l.take j) * 10 + (l[j].toNat - 48) := by
  unfold valN
  rw [List.take_succ_eq_append_getElem h, List.foldl_append]
  rfl
theorem valN_snoc (l : List UInt8) (b : UInt8) : valN (l ++ [b]) = valN l * 10 + (b.toNat - 48) := by
  unfold valN
  rw [List.foldl_append]
  rfl
theorem getD_at {l : List UInt8} {j : Nat} (h : j < l.length) : l.getD j 0 = l[j] := by
  rw [List.getD_eq_getElem?_getD, List.getElem?_eq_getElem h, Option.getD_some]
theorem valN_lt (l : List UInt8) (h : ∀ j, j < l.length → digit (l.getD j 0)) : ∀ j, j ≤ l.length → valN (l.take j) < 10 ^ j
  | 0, _ => by simp [valN]
  | j + 1, hj => by
    have ih := valN_lt l h j (by omega)
    have hd := h j (by omega)
    rw [getD_at (by omega)] at hd
    rw [valN_step (by omega), Nat.pow_succ]
    unfold digit at hd
    omega
theorem u8dig : ∀ n : Nat, n ≤ 9 → IntKind.u8.wrap (n : Int) = (n : Int) := by decide +kernel
theorem pow_le9 {j : Nat} (h : j ≤ 9) : 10 ^ j ≤ 1000000000 := by
  have := Nat.pow_le_pow_right (n := 10) (by omega) h
  simpa using this
theorem empty_iff (l : List UInt8) : (strB l).toList = (⟨#[]⟩ : ByteArray).toList ↔ l.length = 0 := by
  rw [ByteArray.toList_eq, ByteArray.toList_eq]
  cases l with
  | nil => simp [strB]
  | cons b l => simp [strB]
def numI (l : List UInt8) : Int := if isNum l then (valN l : Int) else 0
def numZ (l : List UInt8) : Int := if isNum l then (valN l : Int) else -1
theorem isNum_at {l : List UInt8} (h : isNum l) {j : Nat} (hj : j < l.length) : digit l[j] := by
  have := h.2.2.2 j hj
  rwa [getD_at hj] at this
theorem wrap48 {b : UInt8} (h : digit b) : IntKind.u8.wrap ((b.toNat : Int) - 48) = ((b.toNat - 48 : Nat) : Int) := by
  unfold digit at h
  rw [show (b.toNat : Int) - 48 = ((b.toNat - 48 : Nat) : Int) by omega]
  exact u8dig _ (by omega)
theorem byte_at {l : List UInt8} {j : Nat} (h : j < l.length) : byteAt (strB l) j = ((l.getD j 0).toNat : Int) := by rw [byteAt_strB l j h, getD_at h]
theorem lead {l : List UInt8} (h : ((l.getD 0 0).toNat : Int) = 48) : l.getD 0 0 = 48 := UInt8.toNat_inj.1 (by have : (48 : UInt8).toNat = 48 := rfl; omega)
theorem valN_full {l : List UInt8} {j : Nat} (h : j = l.length) : valN (l.take j) = valN l := by rw [h, List.take_length]
theorem number_spec (l : List UInt8) (hl : l.length ≤ 1048576) : Spec Tryd.prog 56 [.v (.string (strB l))] (.tup [.v (.int .i64 (numI l)), .v (.bool (decide (isNum l)))]) [] := by
  have hsz := strB_size l
  have bad : ¬ isNum l → (0 : Int) = numI l ∧ false = decide (isNum l) := fun h => ⟨by unfold numI; rw [if_neg h], (decide_eq_false h).symm⟩
  refine Spec.of_code T_ok Tryd.func56 rfl Tryd.ntmps56 Tryd.call56 (Nat.le_of_ble_eq_true rfl) rfl rfl (CodeV_sound T_ok (by kernel_rfl) rfl ?_)
  simp only [Tryd.results56, go_sem, Nat.reduceMul, Nat.reduceLeDiff, Nat.reduceLT, reduceIte, reduceCtorEq, Nat.reduceEqDiff, Nat.reduceSub, Nat.reduceAdd]
  rw [empty_iff]
  refine ⟨fun h0 => ?_, fun h0 => bad fun q => by have := q.1; omega⟩
  have hb0 := byte_at (l := l) (j := 0) (by omega)
  refine HereO.opP T_ok (OpP.lenStr Tryd.underlying9 rfl rfl) ?_
  simp only [Tryd.results56, go_sem, Nat.reduceMul, Nat.reduceLeDiff, Nat.reduceLT, reduceIte, reduceCtorEq, Nat.reduceEqDiff, Nat.reduceSub, Nat.reduceAdd]
  refine ⟨fun h1 => ?_, fun h1 => bad fun q => by have := q.2.1; omega⟩
  refine HereO.opP T_ok (OpP.index (i := 0) Tryd.underlying9 rfl rfl rfl (by omega)) ?_
  simp only [Tryd.results56, go_sem, Nat.reduceMul, Nat.reduceLeDiff, Nat.reduceLT, reduceIte, reduceCtorEq, Nat.reduceEqDiff, Nat.reduceSub, Nat.reduceAdd]
  rw [hb0]
  refine ⟨fun h2 => ?_, fun h2 => ?_⟩
  rotate_left
  have hz : ¬ (l.getD 0 0 = 48 ∧ 1 < l.length) := fun q => h2 (by rw [q.1]; rfl)
  rotate_left
  refine HereO.opP T_ok (OpP.lenStr Tryd.underlying9 rfl rfl) ?_
  simp only [Tryd.results56, go_sem, Nat.reduceMul, Nat.reduceLeDiff, Nat.reduceLT, reduceIte, reduceCtorEq, Nat.reduceEqDiff, Nat.reduceSub, Nat.reduceAdd]
  refine ⟨fun h3 => bad fun q => q.2.2.1 ⟨lead h2, by omega⟩, fun h3 => ?_⟩
  have hz : ¬ (l.getD 0 0 = 48 ∧ 1 < l.length) := fun q => by omega
  all_goals
    refine HereO.opP T_ok (OpP.lenStr Tryd.underlying9 rfl rfl) ?_
    simp only [Tryd.results56, go_sem, Nat.reduceMul, Nat.reduceLeDiff, Nat.reduceLT, reduceIte, reduceCtorEq, Nat.reduceEqDiff, Nat.reduceSub, Nat.reduceAdd]
    refine Here.loopV T_ok (κ := Nat) (fun j => j ≤ l.length ∧ ∀ i, i < j → digit (l.getD i 0)) (fun j => l.length - j) (fun j => [(0, .v (.string (strB l))), (4, .v (.int .i64 (valN (l.take j)))), (24, .v (.int .i64 l.length)), (25, .v (.int .i64 j))]) (fun _ => []) 0 ⟨by omega, fun i h => by omega⟩ (by simp only [Tryd.results56, go_sem, Nat.reduceMul, Nat.reduceLeDiff, Nat.reduceLT, reduceIte, reduceCtorEq, Nat.reduceEqDiff, Nat.reduceSub, Nat.reduceAdd]; simp [valN, hsz]) trivial ?_
    rintro j ⟨hj, hd⟩
    simp only [Tryd.results56, go_sem, Nat.reduceMul, Nat.reduceLeDiff, Nat.reduceLT, reduceIte, reduceCtorEq, Nat.reduceEqDiff, Nat.reduceSub, Nat.reduceAdd]
    refine ⟨fun h4 => ?_, fun h4 => ?_⟩
    · have hjl : j < l.length := by omega
      have hbj := byte_at hjl
      refine HereO.opP T_ok (OpP.index (i := j) Tryd.underlying9 rfl rfl rfl (by omega)) ?_
      simp only [Tryd.results56, go_sem, Nat.reduceMul, Nat.reduceLeDiff, Nat.reduceLT, reduceIte, reduceCtorEq, Nat.reduceEqDiff, Nat.reduceSub, Nat.reduceAdd]
      rw [hbj]
      have nd : ¬ digit (l.getD j 0) → ¬ isNum l := fun h q => h (q.2.2.2 j hjl)
      have hdt : ∀ i, i < (l.take j).length → digit ((l.take j).getD i 0) := fun i hi => by
        rw [List.length_take] at hi
        have := hd i (by omega)
        rw [getD_at (by omega)] at this
        rw [getD_at (by rw [List.length_take]; omega), List.getElem_take]
        exact this
      have hpw := valN_lt (l.take j) hdt (l.take j).length (Nat.le_refl _)
      rw [List.take_length, List.length_take, Nat.min_eq_left hj] at hpw
      have hp9 := pow_le9 (j := j) (by omega)
      refine ⟨fun h5 => ?_, fun h5 => bad (nd fun q => by unfold digit at q; omega)⟩
      refine HereO.opP T_ok (OpP.index (i := j) Tryd.underlying9 rfl rfl rfl (by omega)) ?_
      simp only [Tryd.results56, go_sem, Nat.reduceMul, Nat.reduceLeDiff, Nat.reduceLT, reduceIte, reduceCtorEq, Nat.reduceEqDiff, Nat.reduceSub, Nat.reduceAdd]
      rw [hbj]
      refine ⟨fun h6 => bad (nd fun q => by unfold digit at q; omega), fun h6 => ?_⟩
      have hdj : digit (l.getD j 0) := ⟨by omega, by omega⟩
      have hst := valN_step hjl
      rw [← getD_at hjl] at hst
      refine ⟨by unfold InR; omega, ?_⟩
      refine HereO.opP T_ok (OpP.index (i := j) Tryd.underlying9 rfl rfl rfl (by omega)) ?_
      simp only [Tryd.results56, go_sem, Nat.reduceMul, Nat.reduceLeDiff, Nat.reduceLT, reduceIte, reduceCtorEq, Nat.reduceEqDiff, Nat.reduceSub, Nat.reduceAdd]
      rw [hbj, wrap48 hdj]
      have hd9 : (l.getD j 0).toNat - 48 ≤ 9 := by unfold digit at hdj; omega
      refine ⟨by unfold InR; omega, by unfold InR; omega, by unfold InR; omega, j + 1, ⟨hjl, fun i hi => ?_⟩, by omega, ?_⟩
      · by_cases e : i = j
        · rw [e]; exact hdj
        · exact hd i (by omega)
      · rw [hst]
        push_cast
        simp
    · obtain rfl : j = l.length := by omega
      have hnum : isNum l := ⟨by omega, by omega, hz, hd⟩
      rw [List.take_length]
      exact ⟨by unfold numI; rw [if_pos hnum], (decide_eq_true hnum).symm⟩
theorem l01Number_spec (l : List UInt8) (hl : l.length ≤ 1048576) : Spec Tryd.prog 54 [.v (.string (strB l))] (.v (.int .i64 (numZ l))) [] := by
  have hsz := strB_size l
  have bad : ¬ isNum l → (-1 : Int) = numZ l := fun h => by unfold numZ; rw [if_neg h]
  refine Spec.of_code T_ok Tryd.func54 rfl Tryd.ntmps54 Tryd.call54 (Nat.le_of_ble_eq_true rfl) rfl rfl (CodeV_sound T_ok (by kernel_rfl) rfl ?_)
  simp only [Tryd.results54, go_sem, Nat.reduceMul, Nat.reduceLeDiff, Nat.reduceLT, reduceIte, reduceCtorEq, Nat.reduceEqDiff, Nat.reduceSub, Nat.reduceAdd]
  refine HereO.opP T_ok (OpP.lenStr Tryd.underlying9 rfl rfl) ?_
  simp only [Tryd.results54, go_sem, Nat.reduceMul, Nat.reduceLeDiff, Nat.reduceLT, reduceIte, reduceCtorEq, Nat.reduceEqDiff, Nat.reduceSub, Nat.reduceAdd]
  refine ⟨fun h0 => ?_, fun h0 => bad fun q => by have := q.1; omega⟩
  have hb0 := byte_at (l := l) (j := 0) (by omega)
  refine HereO.opP T_ok (OpP.lenStr Tryd.underlying9 rfl rfl) ?_
  simp only [Tryd.results54, go_sem, Nat.reduceMul, Nat.reduceLeDiff, Nat.reduceLT, reduceIte, reduceCtorEq, Nat.reduceEqDiff, Nat.reduceSub, Nat.reduceAdd]
  refine ⟨fun h1 => ?_, fun h1 => bad fun q => by have := q.2.1; omega⟩
  refine HereO.opP T_ok (OpP.lenStr Tryd.underlying9 rfl rfl) ?_
  simp only [Tryd.results54, go_sem, Nat.reduceMul, Nat.reduceLeDiff, Nat.reduceLT, reduceIte, reduceCtorEq, Nat.reduceEqDiff, Nat.reduceSub, Nat.reduceAdd]
  refine ⟨fun h2 => ?_, fun h2 => ?_⟩
  rotate_left
  have hz : ¬ (l.getD 0 0 = 48 ∧ 1 < l.length) := fun q => by omega
  rotate_left
  refine HereO.opP T_ok (OpP.index (i := 0) Tryd.underlying9 rfl rfl rfl (by omega)) ?_
  simp only [Tryd.results54, go_sem, Nat.reduceMul, Nat.reduceLeDiff, Nat.reduceLT, reduceIte, reduceCtorEq, Nat.reduceEqDiff, Nat.reduceSub, Nat.reduceAdd]
  rw [hb0]
  refine ⟨fun h3 => bad fun q => q.2.2.1 ⟨lead h3, by omega⟩, fun h3 => ?_⟩
  have hz : ¬ (l.getD 0 0 = 48 ∧ 1 < l.length) := fun q => h3 (by rw [q.1]; rfl)
  all_goals
    refine Here.loopV T_ok (κ := Nat) (fun j => j ≤ l.length ∧ ∀ i, i < j → digit (l.getD i 0)) (fun j => l.length - j) (fun j => [(0, .v (.string (strB l))), (3, .v (.int .i64 (valN (l.take j)))), (4, .v (.int .i64 j))]) (fun _ => []) 0 ⟨by omega, fun i h => by omega⟩ (by simp only [Tryd.results54, go_sem, Nat.reduceMul, Nat.reduceLeDiff, Nat.reduceLT, reduceIte, reduceCtorEq, Nat.reduceEqDiff, Nat.reduceSub, Nat.reduceAdd]; simp [valN]) trivial ?_
    rintro j ⟨hj, hd⟩
    simp only [Tryd.results54, go_sem, Nat.reduceMul, Nat.reduceLeDiff, Nat.reduceLT, reduceIte, reduceCtorEq, Nat.reduceEqDiff, Nat.reduceSub, Nat.reduceAdd]
    refine HereO.opP T_ok (OpP.lenStr Tryd.underlying9 rfl rfl) ?_
    simp only [Tryd.results54, go_sem, Nat.reduceMul, Nat.reduceLeDiff, Nat.reduceLT, reduceIte, reduceCtorEq, Nat.reduceEqDiff, Nat.reduceSub, Nat.reduceAdd]
    rw [hsz]
    refine ⟨fun h4 => ?_, fun h4 => ?_⟩
    · have hjl : j < l.length := by omega
      have hbj := byte_at hjl
      refine HereO.opP T_ok (OpP.index (i := j) Tryd.underlying9 rfl rfl rfl (by omega)) ?_
      simp only [Tryd.results54, go_sem, Nat.reduceMul, Nat.reduceLeDiff, Nat.reduceLT, reduceIte, reduceCtorEq, Nat.reduceEqDiff, Nat.reduceSub, Nat.reduceAdd]
      rw [hbj]
      have nd : ¬ digit (l.getD j 0) → ¬ isNum l := fun h q => h (q.2.2.2 j hjl)
      have hdt : ∀ i, i < (l.take j).length → digit ((l.take j).getD i 0) := fun i hi => by
        rw [List.length_take] at hi
        have := hd i (by omega)
        rw [getD_at (by omega)] at this
        rw [getD_at (by rw [List.length_take]; omega), List.getElem_take]
        exact this
      have hpw := valN_lt (l.take j) hdt (l.take j).length (Nat.le_refl _)
      rw [List.take_length, List.length_take, Nat.min_eq_left hj] at hpw
      have hp9 := pow_le9 (j := j) (by omega)
      refine ⟨fun h5 => ?_, fun h5 => bad (nd fun q => by unfold digit at q; omega)⟩
      refine HereO.opP T_ok (OpP.index (i := j) Tryd.underlying9 rfl rfl rfl (by omega)) ?_
      simp only [Tryd.results54, go_sem, Nat.reduceMul, Nat.reduceLeDiff, Nat.reduceLT, reduceIte, reduceCtorEq, Nat.reduceEqDiff, Nat.reduceSub, Nat.reduceAdd]
      rw [hbj]
      refine ⟨fun h6 => bad (nd fun q => by unfold digit at q; omega), fun h6 => ?_⟩
      have hdj : digit (l.getD j 0) := ⟨by omega, by omega⟩
      have hst := valN_step hjl
      rw [← getD_at hjl] at hst
      refine ⟨by unfold InR; omega, ?_⟩
      refine HereO.opP T_ok (OpP.index (i := j) Tryd.underlying9 rfl rfl rfl (by omega)) ?_
      simp only [Tryd.results54, go_sem, Nat.reduceMul, Nat.reduceLeDiff, Nat.reduceLT, reduceIte, reduceCtorEq, Nat.reduceEqDiff, Nat.reduceSub, Nat.reduceAdd]
      rw [hbj, wrap48 hdj]
      have hd9 : (l.getD j 0).toNat - 48 ≤ 9 := by unfold digit at hdj; omega
      refine ⟨by unfold InR; omega, by unfold InR; omega, by unfold InR; omega, j + 1, ⟨hjl, fun i hi => ?_⟩, by omega, ?_⟩
      · by_cases e : i = j
        · rw [e]; exact hdj
        · exact hd i (by omega)
      · rw [hst]
        push_cast
        simp
    · obtain rfl : j = l.length := by omega
      have hnum : isNum l := ⟨by omega, by omega, hz, hd⟩
      rw [List.take_length]
      unfold numZ
      rw [if_pos hnum]
end Go.Proofs.YtkdiodegilidgaaDoor
