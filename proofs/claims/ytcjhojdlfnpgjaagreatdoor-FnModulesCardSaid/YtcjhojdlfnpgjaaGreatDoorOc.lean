/- Contracts: numbers read and written in decimal; texts cut in two. -/
import Derived.Test.YtcjhojdlfnpgjaaGreatDoorOa
import Derived.Test.YtcjhojdlfnpgjaaGreatDoorDa
namespace Go.Proofs.YtcjhojdlfnpgjaaGreatDoor
open Go.RowKit
set_option linter.unusedVariables false
set_option linter.unusedSimpArgs false
set_option maxRecDepth 100000

/-! ### Numbers -/
def digit (b : UInt8) : Prop := 48 ≤ b.toNat ∧ b.toNat ≤ 57
instance (b : UInt8) : Decidable (digit b) := by unfold digit; infer_instance
/-- A number of at least 0 in decimal without leading zeros with at most nine digits. -/
def isNum (l : List UInt8) : Prop := 0 < l.length ∧ l.length ≤ 9 ∧ ¬ (l.getD 0 0 = 48 ∧ 1 < l.length) ∧ ∀ j, j < l.length → digit (l.getD j 0)
instance (l : List UInt8) : Decidable (isNum l) := by unfold isNum; infer_instance
def valN (l : List UInt8) : Nat := l.foldl (fun n b => n * 10 + (b.toNat - 48)) 0
theorem valN_step {l : List UInt8} {j : Nat} (h : j < l.length) : valN (l.take (j + 1)) = valN (l.take j) * 10 + (l[j].toNat - 48) := by
  unfold valN
  rw [List.take_succ_eq_append_getElem h, List.foldl_append]
  rfl
theorem getD_at {l : List UInt8} {j : Nat} (h : j < l.length) : l.getD j 0 = l[j] := by
  rw [List.getD_eq_getElem?_getD, List.getElem?_eq_getElem h, Option.getD_some]
theorem valN_lt (l : List UInt8) (h : ∀ j, j < l.length → digit (l.getD j 0)) : ∀ j, j ≤ l.length → valN (l.take j) < 10 ^ j
  | 0, _ => by simp [valN]
  | j + 1, hj => by
    have ih := valN_lt l h j (by omega)
    have hd := h j (by omega)
    rw [getD_at (by omega)] at hd
    rw [valN_step (by omega), Nat.pow_succ]
    unfold digit at hd
    omega
theorem u8dig : ∀ n : Nat, n ≤ 9 → IntKind.u8.wrap (n : Int) = (n : Int) := by decide +kernel
theorem pow_le9 {j : Nat} (h : j ≤ 9) : 10 ^ j ≤ 1000000000 := by
  have := Nat.pow_le_pow_right (n := 10) (by omega) h
  simpa using this
theorem empty_iff (l : List UInt8) : (strB l).toList = (⟨#[]⟩ : ByteArray).toList ↔ l.length = 0 := by
  rw [ByteArray.toList_eq, ByteArray.toList_eq]
  cases l with
  | nil => simp [strB]
  | cons b l => simp [strB]
def numI (l : List UInt8) : Int := if isNum l then (valN l : Int) else 0
def numZ (l : List UInt8) : Int := if isNum l then (valN l : Int) else -1
theorem wrap48 {b : UInt8} (h : digit b) : IntKind.u8.wrap ((b.toNat : Int) - 48) = ((b.toNat - 48 : Nat) : Int) := by
  unfold digit at h
  rw [show (b.toNat : Int) - 48 = ((b.toNat - 48 : Nat) : Int) by omega]
  exact u8dig _ (by omega)
theorem byte_at {l : List UInt8} {j : Nat} (h : j < l.length) : byteAt (strB l) j = ((l.getD j 0).toNat : Int) := by rw [byteAt_strB l j h, getD_at h]
theorem lead {l : List UInt8} (h : ((l.getD 0 0).toNat : Int) = 48) : l.getD 0 0 = 48 := UInt8.toNat_inj.1 (by have : (48 : UInt8).toNat = 48 := rfl; omega)
theorem number_spec (l : List UInt8) (hl : l.length ≤ 1048576) : Spec Tryz.prog 65 [.v (.string (strB l))] (.tup [.v (.int .i64 (numI l)), .v (.bool (decide (isNum l)))]) [] := by
  have hsz := strB_size l
  have bad : ¬ isNum l → (0 : Int) = numI l ∧ false = decide (isNum l) := fun h => ⟨by unfold numI; rw [if_neg h], (decide_eq_false h).symm⟩
  refine Spec.of_code T_ok Tryz.func65 rfl Tryz.ntmps65 Tryz.call65 (Nat.le_of_ble_eq_true rfl) rfl rfl (CodeV_sound T_ok (by kernel_rfl) rfl ?_)
  simp only [Tryz.results65, go_sem, Nat.reduceMul, Nat.reduceLeDiff, Nat.reduceLT, reduceIte, reduceCtorEq, Nat.reduceEqDiff, Nat.reduceSub, Nat.reduceAdd]
  rw [empty_iff]
  refine ⟨fun h0 => ?_, fun h0 => bad fun q => by have := q.1; omega⟩
  have hb0 := byte_at (l := l) (j := 0) (by omega)
  refine HereO.opP T_ok (OpP.lenStr Tryz.underlying9 rfl rfl) ?_
  simp only [Tryz.results65, go_sem, Nat.reduceMul, Nat.reduceLeDiff, Nat.reduceLT, reduceIte, reduceCtorEq, Nat.reduceEqDiff, Nat.reduceSub, Nat.reduceAdd]
  refine ⟨fun h1 => ?_, fun h1 => bad fun q => by have := q.2.1; omega⟩
  refine HereO.opP T_ok (OpP.index (i := 0) Tryz.underlying9 rfl rfl rfl (by omega)) ?_
  simp only [Tryz.results65, go_sem, Nat.reduceMul, Nat.reduceLeDiff, Nat.reduceLT, reduceIte, reduceCtorEq, Nat.reduceEqDiff, Nat.reduceSub, Nat.reduceAdd]
  rw [hb0]
  refine ⟨fun h2 => ?_, fun h2 => ?_⟩
  rotate_left
  have hz : ¬ (l.getD 0 0 = 48 ∧ 1 < l.length) := fun q => h2 (by rw [q.1]; rfl)
  rotate_left
  refine HereO.opP T_ok (OpP.lenStr Tryz.underlying9 rfl rfl) ?_
  simp only [Tryz.results65, go_sem, Nat.reduceMul, Nat.reduceLeDiff, Nat.reduceLT, reduceIte, reduceCtorEq, Nat.reduceEqDiff, Nat.reduceSub, Nat.reduceAdd]
  refine ⟨fun h3 => bad fun q => q.2.2.1 ⟨lead h2, by omega⟩, fun h3 => ?_⟩
  have hz : ¬ (l.getD 0 0 = 48 ∧ 1 < l.length) := fun q => by omega
  all_goals
    refine HereO.opP T_ok (OpP.lenStr Tryz.underlying9 rfl rfl) ?_
    simp only [Tryz.results65, go_sem, Nat.reduceMul, Nat.reduceLeDiff, Nat.reduceLT, reduceIte, reduceCtorEq, Nat.reduceEqDiff, Nat.reduceSub, Nat.reduceAdd]
    refine Here.loopV T_ok (κ := Nat) (fun j => j ≤ l.length ∧ ∀ i, i < j → digit (l.getD i 0)) (fun j => l.length - j) (fun j => [(0, .v (.string (strB l))), (4, .v (.int .i64 (valN (l.take j)))), (24, .v (.int .i64 l.length)), (25, .v (.int .i64 j))]) (fun _ => []) 0 ⟨by omega, fun i h => by omega⟩ (by simp only [Tryz.results65, go_sem, Nat.reduceMul, Nat.reduceLeDiff, Nat.reduceLT, reduceIte, reduceCtorEq, Nat.reduceEqDiff, Nat.reduceSub, Nat.reduceAdd]; simp [valN, hsz]) trivial ?_
    rintro j ⟨hj, hd⟩
    simp only [Tryz.results65, go_sem, Nat.reduceMul, Nat.reduceLeDiff, Nat.reduceLT, reduceIte, reduceCtorEq, Nat.reduceEqDiff, Nat.reduceSub, Nat.reduceAdd]
    refine ⟨fun h4 => ?_, fun h4 => ?_⟩
    · have hjl : j < l.length := by omega
      have hbj := byte_at hjl
      refine HereO.opP T_ok (OpP.index (i := j) Tryz.underlying9 rfl rfl rfl (by omega)) ?_
      simp only [Tryz.results65, go_sem, Nat.reduceMul, Nat.reduceLeDiff, Nat.reduceLT, reduceIte, reduceCtorEq, Nat.reduceEqDiff, Nat.reduceSub, Nat.reduceAdd]
      rw [hbj]
      have nd : ¬ digit (l.getD j 0) → ¬ isNum l := fun h q => h (q.2.2.2 j hjl)
      have hdt : ∀ i, i < (l.take j).length → digit ((l.take j).getD i 0) := fun i hi => by
        rw [List.length_take] at hi
        have := hd i (by omega)
        rw [getD_at (by omega)] at this
        rw [getD_at (by rw [List.length_take]; omega), List.getElem_take]
        exact this
      have hpw := valN_lt (l.take j) hdt (l.take j).length (Nat.le_refl _)
      rw [List.take_length, List.length_take, Nat.min_eq_left hj] at hpw
      have hp9 := pow_le9 (j := j) (by omega)
      refine ⟨fun h5 => ?_, fun h5 => bad (nd fun q => by unfold digit at q; omega)⟩
      refine HereO.opP T_ok (OpP.index (i := j) Tryz.underlying9 rfl rfl rfl (by omega)) ?_
      simp only [Tryz.results65, go_sem, Nat.reduceMul, Nat.reduceLeDiff, Nat.reduceLT, reduceIte, reduceCtorEq, Nat.reduceEqDiff, Nat.reduceSub, Nat.reduceAdd]
      rw [hbj]
      refine ⟨fun h6 => bad (nd fun q => by unfold digit at q; omega), fun h6 => ?_⟩
      have hdj : digit (l.getD j 0) := ⟨by omega, by omega⟩
      have hst := valN_step hjl
      rw [← getD_at hjl] at hst
      refine ⟨by unfold InR; omega, ?_⟩
      refine HereO.opP T_ok (OpP.index (i := j) Tryz.underlying9 rfl rfl rfl (by omega)) ?_
      simp only [Tryz.results65, go_sem, Nat.reduceMul, Nat.reduceLeDiff, Nat.reduceLT, reduceIte, reduceCtorEq, Nat.reduceEqDiff, Nat.reduceSub, Nat.reduceAdd]
      rw [hbj, wrap48 hdj]
      have hd9 : (l.getD j 0).toNat - 48 ≤ 9 := by unfold digit at hdj; omega
      refine ⟨by unfold InR; omega, by unfold InR; omega, by unfold InR; omega, j + 1, ⟨hjl, fun i hi => ?_⟩, by omega, ?_⟩
      · by_cases e : i = j
        · rw [e]; exact hdj
        · exact hd i (by omega)
      · rw [hst]
        push_cast
        simp
    · obtain rfl : j = l.length := by omega
      have hnum : isNum l := ⟨by omega, by omega, hz, hd⟩
      rw [List.take_length]
      exact ⟨by unfold numI; rw [if_pos hnum], (decide_eq_true hnum).symm⟩
theorem l01Number_spec (l : List UInt8) (hl : l.length ≤ 1048576) : Spec Tryz.prog 68 [.v (.string (strB l))] (.v (.int .i64 (numZ l))) [] := by
  have hsz := strB_size l
  have bad : ¬ isNum l → (-1 : Int) = numZ l := fun h => by unfold numZ; rw [if_neg h]
  refine Spec.of_code T_ok Tryz.func68 rfl Tryz.ntmps68 Tryz.call68 (Nat.le_of_ble_eq_true rfl) rfl rfl (CodeV_sound T_ok (by kernel_rfl) rfl ?_)
  simp only [Tryz.results68, go_sem, Nat.reduceMul, Nat.reduceLeDiff, Nat.reduceLT, reduceIte, reduceCtorEq, Nat.reduceEqDiff, Nat.reduceSub, Nat.reduceAdd]
  refine HereO.opP T_ok (OpP.lenStr Tryz.underlying9 rfl rfl) ?_
  simp only [Tryz.results68, go_sem, Nat.reduceMul, Nat.reduceLeDiff, Nat.reduceLT, reduceIte, reduceCtorEq, Nat.reduceEqDiff, Nat.reduceSub, Nat.reduceAdd]
  refine ⟨fun h0 => ?_, fun h0 => bad fun q => by have := q.1; omega⟩
  have hb0 := byte_at (l := l) (j := 0) (by omega)
  refine HereO.opP T_ok (OpP.lenStr Tryz.underlying9 rfl rfl) ?_
  simp only [Tryz.results68, go_sem, Nat.reduceMul, Nat.reduceLeDiff, Nat.reduceLT, reduceIte, reduceCtorEq, Nat.reduceEqDiff, Nat.reduceSub, Nat.reduceAdd]
  refine ⟨fun h1 => ?_, fun h1 => bad fun q => by have := q.2.1; omega⟩
  refine HereO.opP T_ok (OpP.lenStr Tryz.underlying9 rfl rfl) ?_
  simp only [Tryz.results68, go_sem, Nat.reduceMul, Nat.reduceLeDiff, Nat.reduceLT, reduceIte, reduceCtorEq, Nat.reduceEqDiff, Nat.reduceSub, Nat.reduceAdd]
  refine ⟨fun h2 => ?_, fun h2 => ?_⟩
  rotate_left
  have hz : ¬ (l.getD 0 0 = 48 ∧ 1 < l.length) := fun q => by omega
  rotate_left
  refine HereO.opP T_ok (OpP.index (i := 0) Tryz.underlying9 rfl rfl rfl (by omega)) ?_
  simp only [Tryz.results68, go_sem, Nat.reduceMul, Nat.reduceLeDiff, Nat.reduceLT, reduceIte, reduceCtorEq, Nat.reduceEqDiff, Nat.reduceSub, Nat.reduceAdd]
  rw [hb0]
  refine ⟨fun h3 => bad fun q => q.2.2.1 ⟨lead h3, by omega⟩, fun h3 => ?_⟩
  have hz : ¬ (l.getD 0 0 = 48 ∧ 1 < l.length) := fun q => h3 (by rw [q.1]; rfl)
  all_goals
    refine Here.loopV T_ok (κ := Nat) (fun j => j ≤ l.length ∧ ∀ i, i < j → digit (l.getD i 0)) (fun j => l.length - j) (fun j => [(0, .v (.string (strB l))), (3, .v (.int .i64 (valN (l.take j)))), (4, .v (.int .i64 j))]) (fun _ => []) 0 ⟨by omega, fun i h => by omega⟩ (by simp only [Tryz.results68, go_sem, Nat.reduceMul, Nat.reduceLeDiff, Nat.reduceLT, reduceIte, reduceCtorEq, Nat.reduceEqDiff, Nat.reduceSub, Nat.reduceAdd]; simp [valN]) trivial ?_
    rintro j ⟨hj, hd⟩
    simp only [Tryz.results68, go_sem, Nat.reduceMul, Nat.reduceLeDiff, Nat.reduceLT, reduceIte, reduceCtorEq, Nat.reduceEqDiff, Nat.reduceSub, Nat.reduceAdd]
    refine HereO.opP T_ok (OpP.lenStr Tryz.underlying9 rfl rfl) ?_
    simp only [Tryz.results68, go_sem, Nat.reduceMul, Nat.reduceLeDiff, Nat.reduceLT, reduceIte, reduceCtorEq, Nat.reduceEqDiff, Nat.reduceSub, Nat.reduceAdd]
    rw [hsz]
    refine ⟨fun h4 => ?_, fun h4 => ?_⟩
    · have hjl : j < l.length := by omega
      have hbj := byte_at hjl
      refine HereO.opP T_ok (OpP.index (i := j) Tryz.underlying9 rfl rfl rfl (by omega)) ?_
      simp only [Tryz.results68, go_sem, Nat.reduceMul, Nat.reduceLeDiff, Nat.reduceLT, reduceIte, reduceCtorEq, Nat.reduceEqDiff, Nat.reduceSub, Nat.reduceAdd]
      rw [hbj]
      have nd : ¬ digit (l.getD j 0) → ¬ isNum l := fun h q => h (q.2.2.2 j hjl)
      have hdt : ∀ i, i < (l.take j).length → digit ((l.take j).getD i 0) := fun i hi => by
        rw [List.length_take] at hi
        have := hd i (by omega)
        rw [getD_at (by omega)] at this
        rw [getD_at (by rw [List.length_take]; omega), List.getElem_take]
        exact this
      have hpw := valN_lt (l.take j) hdt (l.take j).length (Nat.le_refl _)
      rw [List.take_length, List.length_take, Nat.min_eq_left hj] at hpw
      have hp9 := pow_le9 (j := j) (by omega)
      refine ⟨fun h5 => ?_, fun h5 => bad (nd fun q => by unfold digit at q; omega)⟩
      refine HereO.opP T_ok (OpP.index (i := j) Tryz.underlying9 rfl rfl rfl (by omega)) ?_
      simp only [Tryz.results68, go_sem, Nat.reduceMul, Nat.reduceLeDiff, Nat.reduceLT, reduceIte, reduceCtorEq, Nat.reduceEqDiff, Nat.reduceSub, Nat.reduceAdd]
      rw [hbj]
      refine ⟨fun h6 => bad (nd fun q => by unfold digit at q; omega), fun h6 => ?_⟩
      have hdj : digit (l.getD j 0) := ⟨by omega, by omega⟩
      have hst := valN_step hjl
      rw [← getD_at hjl] at hst
      refine ⟨by unfold InR; omega, ?_⟩
      refine HereO.opP T_ok (OpP.index (i := j) Tryz.underlying9 rfl rfl rfl (by omega)) ?_
      simp only [Tryz.results68, go_sem, Nat.reduceMul, Nat.reduceLeDiff, Nat.reduceLT, reduceIte, reduceCtorEq, Nat.reduceEqDiff, Nat.reduceSub, Nat.reduceAdd]
      rw [hbj, wrap48 hdj]
      have hd9 : (l.getD j 0).toNat - 48 ≤ 9 := by unfold digit at hdj; omega
      refine ⟨by unfold InR; omega, by unfold InR; omega, by unfold InR; omega, j + 1, ⟨hjl, fun i hi => ?_⟩, by omega, ?_⟩
      · by_cases e : i = j
        · rw [e]; exact hdj
        · exact hd i (by omega)
      · rw [hst]
        push_cast
        simp
    · obtain rfl : j = l.length := by omega
      have hnum : isNum l := ⟨by omega, by omega, hz, hd⟩
      rw [List.take_length]
      unfold numZ
      rw [if_pos hnum]
end Go.Proofs.YtcjhojdlfnpgjaaGreatDoor

namespace Go.Proofs.YtcjhojdlfnpgjaaGreatDoor
open Go.RowKit
set_option linter.unusedVariables false
set_option linter.unusedSimpArgs false
set_option maxRecDepth 100000

theorem dec_small {u : Nat} (h : u < 10) : Lib.decDigits u = [UInt8.ofNat (48 + u)] := by
  rw [Lib.decDigits, dif_pos h]
theorem dec_big {u : Nat} (h : ¬ u < 10) : Lib.decDigits u = Lib.decDigits (u / 10) ++ [UInt8.ofNat (48 + u % 10)] := by
  rw [Lib.decDigits, dif_neg h]
theorem dec_len (u : Nat) (h : u < 100) : (Lib.decDigits u).length ≤ 2 ∧ 1 ≤ (Lib.decDigits u).length := by
  by_cases h1 : u < 10
  · rw [dec_small h1]; simp
  · rw [dec_big h1, dec_small (by omega)]; simp
theorem ofNat_digit {b : UInt8} (h : digit b) : UInt8.ofNat (48 + (b.toNat - 48)) = b := by
  unfold digit at h
  rw [show 48 + (b.toNat - 48) = b.toNat by omega]
  exact UInt8.ofNat_toNat
theorem dec_back (l : List UInt8) (hd : ∀ j, j < l.length → digit (l.getD j 0)) (h0 : ¬ (l.getD 0 0 = 48 ∧ 1 < l.length)) : ∀ j, j < l.length → Lib.decDigits (valN (l.take (j + 1))) = l.take (j + 1) ∧ (1 < l.length → 1 ≤ valN (l.take (j + 1)))
  | 0, hj => by
    have d0 := hd 0 hj
    rw [valN_step hj, List.take_succ_eq_append_getElem hj]
    rw [getD_at hj] at d0
    have e : valN (l.take 0) = 0 := by simp [valN]
    rw [e]
    refine ⟨?_, fun h1 => ?_⟩
    · rw [dec_small (by unfold digit at d0; omega), show 0 * 10 + (l[0].toNat - 48) = l[0].toNat - 48 by omega, ofNat_digit d0]
      simp
    · have hne : l[0] ≠ 48 := fun q => h0 ⟨by rw [getD_at hj]; exact q, h1⟩
      have : l[0].toNat ≠ 48 := fun q => hne (UInt8.toNat_inj.1 q)
      unfold digit at d0
      omega
  | j + 1, hj => by
    obtain ⟨ih1, ih2⟩ := dec_back l hd h0 j (by omega)
    have ih3 := ih2 (by omega)
    have dj := hd (j + 1) hj
    rw [getD_at hj] at dj
    rw [valN_step hj, List.take_succ_eq_append_getElem hj]
    have hdj := dj
    unfold digit at hdj
    refine ⟨?_, fun _ => by omega⟩
    rw [dec_big (by omega), show (valN (l.take (j + 1)) * 10 + (l[j + 1].toNat - 48)) / 10 = valN (l.take (j + 1)) by omega, show (valN (l.take (j + 1)) * 10 + (l[j + 1].toNat - 48)) % 10 = l[j + 1].toNat - 48 by omega, ih1, ofNat_digit dj]
/-- A number that was read is written as it stood. -/
theorem dec_num {l : List UInt8} (h : isNum l) : Lib.decDigits (valN l) = l := by
  obtain ⟨h1, h2, h3, h4⟩ := h
  have := (dec_back l h4 h3 (l.length - 1) (by omega)).1
  rw [show l.length - 1 + 1 = l.length by omega, List.take_length] at this
  exact this
theorem joinTail_cons (c : UInt8) (p : List UInt8) (r : List (List UInt8)) : Lib.joinTail [c] (p :: r) = c :: Lib.join (p :: r) [c] := by
  rw [Lib.join_cons]
  simp [Lib.joinTail]
theorem join_parts (c : UInt8) : ∀ l : List UInt8, Lib.join (parts c l) [c] = l
  | [] => by simp [parts, Lib.join_one]
  | b :: l => by
    have ih := join_parts c l
    cases hp : parts c l with
    | nil => exact absurd hp (parts_ne c l)
    | cons p r =>
      rw [hp] at ih
      by_cases e : b = c
      · simp only [parts, if_pos e, hp]
        rw [Lib.join_cons, joinTail_cons, ih, List.nil_append, e]
      · simp only [parts, if_neg e, hp]
        rw [Lib.join_cons, List.cons_append, ← Lib.join_cons, ih]
theorem cut_parts (c : UInt8) : ∀ l : List UInt8, (Lib.indexByte l c = -1 ∧ parts c l = [l]) ∨ ∃ i : Nat, Lib.indexByte l c = i ∧ i < l.length ∧ parts c l = l.take i :: parts c (l.drop (i + 1)) ∧ l = l.take i ++ c :: l.drop (i + 1)
  | [] => .inl ⟨rfl, rfl⟩
  | b :: l => by
    by_cases e : b = c
    · refine .inr ⟨0, ?_, by simp, ?_, ?_⟩
      · simp [Lib.indexByte, e]
      · simp [parts, e]
      · simp [e]
    · have hbe : (b == c) = false := by simpa using e
      rcases cut_parts c l with ⟨h1, h2⟩ | ⟨i, h1, h2, h3, h4⟩
      · refine .inl ⟨?_, ?_⟩
        · simp [Lib.indexByte, hbe, h1]
        · simp [parts, e, h2]
      · refine .inr ⟨i + 1, ?_, by simp; omega, ?_, ?_⟩
        · have : ((i : Int) == -1) = false := by rw [beq_eq_false_iff_ne]; omega
          simp [Lib.indexByte, hbe, h1, this]
        · simp only [parts, if_neg e, h3, List.take_succ_cons, List.drop_succ_cons]
        · simp only [List.take_succ_cons, List.drop_succ_cons, List.cons_append]
          rw [← h4]
theorem mem_parts (c b : UInt8) (hbc : b ≠ c) : ∀ l : List UInt8, b ∈ l → ∃ p ∈ parts c l, b ∈ p
  | [], h => by cases h
  | d :: l, h => by
    by_cases e : d = c
    · rcases List.mem_cons.1 h with h | h
      · exact absurd (h.trans e) hbc
      · obtain ⟨p, h1, h2⟩ := mem_parts c b hbc l h
        exact ⟨p, by simp only [parts, if_pos e]; exact List.mem_cons_of_mem _ h1, h2⟩
    · cases hp : parts c l with
      | nil => exact absurd hp (parts_ne c l)
      | cons p r =>
        simp only [parts, if_neg e, hp]
        rcases List.mem_cons.1 h with h | h
        · exact ⟨d :: p, List.mem_cons_self .., by rw [h]; exact List.mem_cons_self ..⟩
        · obtain ⟨q, h1, h2⟩ := mem_parts c b hbc l h
          rw [hp] at h1
          rcases List.mem_cons.1 h1 with h1 | h1
          · exact ⟨d :: p, List.mem_cons_self .., List.mem_cons_of_mem _ (h1 ▸ h2)⟩
          · exact ⟨q, List.mem_cons_of_mem _ h1, h2⟩
/-! ### Modules in their texts -/
/-- The text of a module. -/
def txtM (m : Int) (u : List Int) : List UInt8 := Lib.itoa m ++ [58] ++ Lib.join (u.map Lib.itoa) [44]
theorem itoa_nat (n : Nat) : Lib.itoa (n : Int) = Lib.decDigits n := by
  unfold Lib.itoa
  rw [if_neg (by omega), Int.toNat_natCast]
theorem itoa_len (x : Int) (h : -100 < x ∧ x < 100) : (Lib.itoa x).length ≤ 3 ∧ 1 ≤ (Lib.itoa x).length := by
  unfold Lib.itoa
  split
  · have := dec_len x.natAbs (by omega)
    simp only [List.length_cons]
    omega
  · have := dec_len x.toNat (by omega)
    omega
/-- What stands ahead of the first colon, and behind it. -/
def oneOf (l : List UInt8) : List UInt8 := l.take (Lib.indexByte l 58).toNat
def restOf (l : List UInt8) : List UInt8 := l.drop ((Lib.indexByte l 58).toNat + 1)
def hdL (r : List UInt8) : List Int := if r = [] then [] else (parts 44 r).map numI
def headB (l : List UInt8) : Prop := 0 ≤ Lib.indexByte l 58 ∧ isNum (oneOf l) ∧ (restOf l).length ≤ 1029 ∧ (restOf l = [] ∨ ∀ p ∈ parts 44 (restOf l), isNum p)
instance (l : List UInt8) : Decidable (headB l) := by unfold headB; infer_instance
/-- A text is that of a module. -/
def pmOk (t : List (List Int)) (l : List UInt8) : Prop := headB l ∧ Mod t (numI (oneOf l)) (hdL (restOf l))
instance (t : List (List Int)) (l : List UInt8) : Decidable (pmOk t l) := by unfold pmOk; infer_instance
theorem numZ_eq {p : List UInt8} (h : isNum p) : numZ p = numI p := by unfold numZ numI; rw [if_pos h, if_pos h]
theorem numZ_pos {p : List UInt8} (h : 1 ≤ numZ p) : isNum p := by
  unfold numZ at h
  split at h
  · assumption
  · omega
theorem not58 {r : List UInt8} (h : ∀ p ∈ parts 44 r, isNum p) : parts 58 r = [r] := by
  rcases cut_parts 58 r with ⟨_, h2⟩ | ⟨i, _, _, _, h4⟩
  · exact h2
  · have hm : (58 : UInt8) ∈ r := by rw [h4]; simp
    obtain ⟨p, h1, h2⟩ := mem_parts 44 58 (by decide) r hm
    obtain ⟨_, _, _, hd⟩ := h p h1
    obtain ⟨j, hj, e⟩ := List.mem_iff_getElem.1 h2
    have := hd j hj
    rw [getD_at hj, e] at this
    exact absurd this (by decide)
theorem Mod.unit_mem {t : List (List Int)} {m : Int} {u : List Int} (h : Mod t m u) : ∀ x ∈ u, 1 ≤ x ∧ x < m := by
  intro x hx
  obtain ⟨j, hj, e⟩ := List.mem_iff_getElem.1 hx
  have := h.2.2.1 j hj
  rw [List.getD_eq_getElem?_getD, List.getElem?_eq_getElem hj, Option.getD_some, e] at this
  exact ⟨this.1, this.2.1⟩
theorem pm_parts {t : List (List Int)} (hg : Grp t) {l : List UInt8} (h : pmOk t l) : ∃ a b, parts 58 l = [a, b] ∧ Mod t (numZ a) ((parts 44 b).map numZ) := by
  obtain ⟨⟨h1, h2, h3, h4⟩, hm⟩ := h
  have hr : restOf l ≠ [] := fun e => by
    have := hm.2.1
    rw [hdL, if_pos e] at this
    have := hg.1
    simp at *
    omega
  have hn := h4.resolve_left hr
  rcases cut_parts 58 l with ⟨q, _⟩ | ⟨i, q1, q2, q3, q4⟩
  · omega
  · have eo : l.take i = oneOf l := by unfold oneOf; rw [q1]; rfl
    have er : l.drop (i + 1) = restOf l := by unfold restOf; rw [q1]; rfl
    rw [eo, er, not58 hn] at q3
    refine ⟨_, _, q3, ?_⟩
    have e : (parts 44 (restOf l)).map numZ = hdL (restOf l) := by
      rw [hdL, if_neg hr]
      exact List.map_congr_left fun p hp => numZ_eq (hn p hp)
    rw [numZ_eq h2, e]
    exact hm
theorem pm_back {t : List (List Int)} (hg : Grp t) {l a b : List UInt8} (hp : parts 58 l = [a, b]) (hm : Mod t (numZ a) ((parts 44 b).map numZ)) :
    pmOk t l ∧ numZ a = numI (oneOf l) ∧ (parts 44 b).map numZ = hdL (restOf l) ∧ txtM (numZ a) ((parts 44 b).map numZ) = l := by
  have ha : isNum a := numZ_pos (by have := hm.1.1; omega)
  have hb : ∀ p ∈ parts 44 b, isNum p := fun p hp => numZ_pos (hm.unit_mem _ (List.mem_map_of_mem hp)).1
  have hb0 : b ≠ [] := fun e => by
    have := hb [] (by rw [e]; simp [parts])
    exact absurd this.1 (by simp)
  have h8 := hg.2.1
  have hlen : b.length ≤ 1029 := by
    have hs := parts_sum 44 b
    have : ∀ q : List (List UInt8), (∀ p ∈ q, isNum p) → (q.map fun p => p.length + 1).sum ≤ 10 * q.length := by
      intro q
      induction q with
      | nil => intro _; simp
      | cons p q ih =>
        intro hq
        have := ih fun p hp => hq p (List.mem_cons_of_mem _ hp)
        have := (hq p (List.mem_cons_self ..)).2.1
        simp only [List.map_cons, List.sum_cons, List.length_cons]
        omega
    have := this _ hb
    have hl := hm.2.1
    rw [List.length_map] at hl
    omega
  rcases cut_parts 58 l with ⟨_, q⟩ | ⟨i, q1, q2, q3, q4⟩
  · rw [hp] at q; simp at q
  · have eo : l.take i = oneOf l := by unfold oneOf; rw [q1]; rfl
    have er : l.drop (i + 1) = restOf l := by unfold restOf; rw [q1]; rfl
    rw [eo, er, hp] at q3
    simp only [List.cons.injEq] at q3
    obtain ⟨e1, e2⟩ := q3
    have e3 : restOf l = b := by
      rcases cut_parts 58 (restOf l) with ⟨_, q⟩ | ⟨j, _, _, q, _⟩
      · rw [q] at e2; simpa using e2.symm
      · rw [q] at e2
        have := congrArg List.length e2
        have h1 := parts_len 58 ((restOf l).drop (j + 1))
        simp only [List.length_cons, List.length_nil] at this
        omega
    have e : (parts 44 b).map numZ = hdL (restOf l) := by
      rw [e3, hdL, if_neg hb0]
      exact List.map_congr_left fun p hp => numZ_eq (hb p hp)
    have eL : txtM (numZ a) ((parts 44 b).map numZ) = l := by
      unfold txtM
      have ea : Lib.itoa (numZ a) = a := by unfold numZ; rw [if_pos ha, itoa_nat, dec_num ha]
      have eb : ((parts 44 b).map numZ).map Lib.itoa = parts 44 b := by
        rw [List.map_map]
        conv => rhs; rw [← List.map_id (parts 44 b)]
        refine List.map_congr_left fun p hp => ?_
        show Lib.itoa (numZ p) = p
        unfold numZ
        rw [if_pos (hb p hp), itoa_nat, dec_num (hb p hp)]
      rw [ea, eb, join_parts, q4, eo, er, e3, ← e1]
      simp
    refine ⟨⟨⟨by omega, by rw [← e1]; exact ha, by rw [e3]; exact hlen, .inr (by rw [e3]; exact hb)⟩, ?_⟩, by rw [← e1]; exact numZ_eq ha, e, eL⟩
    rw [← e, ← e1, ← numZ_eq ha]
    exact hm
end Go.Proofs.YtcjhojdlfnpgjaaGreatDoor

namespace Go.Proofs.YtcjhojdlfnpgjaaGreatDoor
open Go.RowKit
set_option linter.unusedVariables false
set_option linter.unusedSimpArgs false
set_option maxRecDepth 100000

section
variable {P : Program} {T : TT}
/-- A text out of a row of bytes that is read. -/
theorem OpP.bytesStrR {o : Oper} {ρ : Operand → LV} {σ : Nat → Option OC} {src dst e : Nat} {x : Operand} {l : List UInt8} (hs : P.underlying src = some (.slice e)) (he : P.underlying e = some (.int .u8)) (hd : P.underlying dst = some .string) (ho : o.op = .convert src dst x) (hx : ρ x = .rd (Lib.byteCells l)) (h0 : 0 < l.length) : OpP P o ρ σ (.v (.string ⟨l.toArray⟩)) := by
  intro w0 w ι fp s f hI hs2 hρ
  subst hs2
  have hv := hI.ev x
  rw [hρ x (by simp [ho, Op.operands]), hx] at hv
  simp only [LRel] at hv
  obtain ⟨A, cap, g1, _, _, g2⟩ := hv
  have hlen : (Lib.byteCells l).length = l.length := by simp [Lib.byteCells]
  obtain ⟨ad, rfl, _, hc⟩ := g2 (by omega)
  rw [hlen] at g1
  have hrun := run_convert_bytes_back (P := P) w src dst e ad cap l hs he hd (fun j hj => hc j _ (by simp [Lib.byteCells, List.getElem?_eq_getElem hj]))
  have hr : (execOp (evV f) o).run P w = .ok (.value (.string ⟨l.toArray⟩)) w := by
    simp only [execOp, ho, g1, Sem.run_bind, hrun, Result.andThen_ok, Sem.run_pure]
  rw [hr]
  exact .value _ s _ w ι fp hI (by simp only [LRel]) ⟨rfl, rfl⟩
end
theorem one_byte10 : ∀ x : Nat, x < 10 → Lib.byteCells [UInt8.ofNat (48 + x)] = [Value.int .u8 (IntKind.u8.wrap (48 + (x : Int)))] := by
  have h : ∀ x : Nat, x < 10 → ((UInt8.ofNat (48 + x)).toNat : Int) = IntKind.u8.wrap (48 + (x : Int)) := by decide +kernel
  intro x hx
  simp only [Lib.byteCells, List.map_cons, List.map_nil, h x hx]
theorem l01Dec1_spec (x : Nat) (hx : x < 10) : Spec Tryz.prog 63 [.v (.int .i64 x)] (.v (.string (strB (Lib.decDigits x)))) [] := by
  rw [dec_small hx]
  refine Spec.of_code T_ok Tryz.func63 rfl Tryz.ntmps63 Tryz.call63 (Nat.le_of_ble_eq_true rfl) rfl rfl (CodeV_sound T_ok (by kernel_rfl) rfl ?_)
  simp only [Tryz.results63, go_sem, Nat.reduceMul, Nat.reduceLeDiff, Nat.reduceLT, reduceIte, reduceCtorEq, Nat.reduceEqDiff, Nat.reduceSub, Nat.reduceAdd]
  refine ⟨fun h => absurd h (by omega), fun _ => ⟨fun _ => ?_, fun h => absurd h (by omega)⟩⟩
  refine ⟨by unfold InR; omega, ?_⟩
  refine HereO.buildRow T_ok 128 [Value.int .u8 (IntKind.u8.wrap (48 + (x : Int)))] rfl rfl rfl (by decide) rfl (by simp only [go_sem, Nat.reduceMul, Nat.reduceLeDiff, Nat.reduceLT, reduceIte, reduceCtorEq, Nat.reduceEqDiff, Nat.reduceSub, Nat.reduceAdd] <;> rfl) rfl (by decide) ?_
  simp only [Tryz.results63, go_sem, Nat.reduceMul, Nat.reduceLeDiff, Nat.reduceLT, reduceIte, reduceCtorEq, Nat.reduceEqDiff, Nat.reduceSub, Nat.reduceAdd]
  rw [← one_byte10 x hx]
  refine HereO.opP T_ok (OpP.bytesStr (l := [UInt8.ofNat (48 + x)]) Tryz.underlying22 Tryz.underlying5 Tryz.underlying9 rfl (by simp only [go_sem, Nat.reduceMul, Nat.reduceLeDiff, Nat.reduceLT, reduceIte, reduceCtorEq, Nat.reduceEqDiff, Nat.reduceSub, Nat.reduceAdd] <;> rfl) (by simp only [go_sem, Nat.reduceMul, Nat.reduceLeDiff, Nat.reduceLT, reduceIte, reduceCtorEq, Nat.reduceEqDiff, Nat.reduceSub, Nat.reduceAdd] <;> rfl) (by simp)) ?_
  simp only [Tryz.results63, go_sem, Nat.reduceMul, Nat.reduceLeDiff, Nat.reduceLT, reduceIte, reduceCtorEq, Nat.reduceEqDiff, Nat.reduceSub, Nat.reduceAdd]
  rfl
theorem l01DecN_spec (x : Nat) (hx : x < 100) : Spec Tryz.prog 63 [.v (.int .i64 x)] (.v (.string (strB (Lib.decDigits x)))) [] := by
  by_cases h1 : x < 10
  · exact l01Dec1_spec x h1
  rw [dec_big h1]
  have hl := dec_len (x / 10) (by omega)
  have e1 : (x : Int).tdiv 10 = ((x / 10 : Nat) : Int) := rfl
  have e2 : (x : Int).tmod 10 = ((x % 10 : Nat) : Int) := rfl
  have hm : x % 10 < 10 := Nat.mod_lt _ (by omega)
  refine Spec.of_code T_ok Tryz.func63 rfl Tryz.ntmps63 Tryz.call63 (Nat.le_of_ble_eq_true rfl) rfl rfl (CodeV_sound T_ok (by kernel_rfl) rfl ?_)
  simp only [Tryz.results63, go_sem, Nat.reduceMul, Nat.reduceLeDiff, Nat.reduceLT, reduceIte, reduceCtorEq, Nat.reduceEqDiff, Nat.reduceSub, Nat.reduceAdd]
  refine ⟨fun h => absurd h (by omega), fun _ => ⟨fun h => absurd h (by omega), fun _ => ?_⟩⟩
  refine Here.draw T_ok mixed_ok (by kernel_rfl) ?_
  simp only [Tryz.results63, go_sem, Nat.reduceMul, Nat.reduceLeDiff, Nat.reduceLT, reduceIte, reduceCtorEq, Nat.reduceEqDiff, Nat.reduceSub, Nat.reduceAdd]
  rw [e1]
  refine ⟨⟨by omega, by unfold InR; omega⟩, ?_⟩
  refine ⟨_, OpP.call' rfl rfl (l01Dec1_spec (x / 10) (by omega)) (by simp only [go_sem, Nat.reduceMul, Nat.reduceLeDiff, Nat.reduceLT, reduceIte, reduceCtorEq, Nat.reduceEqDiff, Nat.reduceSub, Nat.reduceAdd, List.toList_toArray] <;> first | rfl | exact ⟨rfl, rfl⟩) rfl, ?_⟩
  simp only [Tryz.results63, go_sem, Nat.reduceMul, Nat.reduceLeDiff, Nat.reduceLT, reduceIte, reduceCtorEq, Nat.reduceEqDiff, Nat.reduceSub, Nat.reduceAdd]
  rw [e2]
  refine ⟨by omega, by unfold InR; omega, ?_⟩
  refine ⟨_, OpP.buildRd T_ok [Value.int .u8 (IntKind.u8.wrap (48 + ((x % 10 : Nat) : Int)))] rfl rfl rfl (by decide) rfl (by simp only [go_sem, Nat.reduceMul, Nat.reduceLeDiff, Nat.reduceLT, reduceIte, reduceCtorEq, Nat.reduceEqDiff, Nat.reduceSub, Nat.reduceAdd] <;> rfl) rfl, ?_⟩
  simp only [Tryz.results63, go_sem, Nat.reduceMul, Nat.reduceLeDiff, Nat.reduceLT, reduceIte, reduceCtorEq, Nat.reduceEqDiff, Nat.reduceSub, Nat.reduceAdd]
  rw [← one_byte10 (x % 10) hm]
  refine ⟨_, OpP.bytesStrR (l := [UInt8.ofNat (48 + x % 10)]) Tryz.underlying22 Tryz.underlying5 Tryz.underlying9 rfl (by simp only [go_sem, Nat.reduceMul, Nat.reduceLeDiff, Nat.reduceLT, reduceIte, reduceCtorEq, Nat.reduceEqDiff, Nat.reduceSub, Nat.reduceAdd] <;> rfl) (by simp), ?_⟩
  simp only [Tryz.results63, go_sem, Nat.reduceMul, Nat.reduceLeDiff, Nat.reduceLT, reduceIte, reduceCtorEq, Nat.reduceEqDiff, Nat.reduceSub, Nat.reduceAdd]
  have e5 : (⟨List.toArray [UInt8.ofNat (48 + x % 10)]⟩ : ByteArray) = strB [UInt8.ofNat (48 + x % 10)] := rfl
  rw [e5, strB_app, strB_size]
  exact ⟨by omega, rfl⟩
theorem l01DecNeg_spec (x : Int) (n : Nat) (hn : 0 - x = n) (hx : x < 0) (hn100 : n < 100) : Spec Tryz.prog 63 [.v (.int .i64 x)] (.v (.string (strB (45 :: Lib.decDigits n)))) [] := by
  have hl := dec_len n hn100
  refine Spec.of_code T_ok Tryz.func63 rfl Tryz.ntmps63 Tryz.call63 (Nat.le_of_ble_eq_true rfl) rfl rfl (CodeV_sound T_ok (by kernel_rfl) rfl ?_)
  simp only [Tryz.results63, go_sem, Nat.reduceMul, Nat.reduceLeDiff, Nat.reduceLT, reduceIte, reduceCtorEq, Nat.reduceEqDiff, Nat.reduceSub, Nat.reduceAdd]
  refine ⟨fun _ => ⟨by unfold InR; omega, ?_⟩, fun h => absurd h (by omega)⟩
  rw [hn]
  refine HereO.call T_ok rfl rfl (l01DecN_spec n hn100) (by simp only [go_sem, Nat.reduceMul, Nat.reduceLeDiff, Nat.reduceLT, reduceIte, reduceCtorEq, Nat.reduceEqDiff, Nat.reduceSub, Nat.reduceAdd, List.toList_toArray] <;> first | rfl | exact ⟨rfl, rfl⟩) rfl ?_
  simp only [Tryz.results63, go_sem, Nat.reduceMul, Nat.reduceLeDiff, Nat.reduceLT, reduceIte, reduceCtorEq, Nat.reduceEqDiff, Nat.reduceSub, Nat.reduceAdd]
  have e2 : (⟨#[45]⟩ : ByteArray) = strB [45] := rfl
  rw [e2, strB_app, strB_size]
  exact ⟨by omega, rfl⟩
theorem l01Dec_any (x : Int) (hx : -100 < x ∧ x < 100) : Spec Tryz.prog 63 [.v (.int .i64 x)] (.v (.string (strB (Lib.itoa x)))) [] := by
  by_cases h0 : 0 ≤ x
  · obtain ⟨n, rfl⟩ := Int.eq_ofNat_of_zero_le h0
    rw [itoa_nat]
    exact l01DecN_spec n (by omega)
  · obtain ⟨n, hn⟩ : ∃ n : Nat, 0 - x = n := ⟨(-x).toNat, by omega⟩
    have e : Lib.itoa x = 45 :: Lib.decDigits n := by
      unfold Lib.itoa
      rw [if_pos (by omega), show x.natAbs = n by omega]
    rw [e]
    exact l01DecNeg_spec x n hn (by omega) (by omega)
/-! ### The program's -/
theorem decimal_spec (x : Int) (hx : 0 ≤ x ∧ x < 100) : Spec Tryz.prog 61 [.v (.int .i64 x)] (.v (.string (strB (Lib.itoa x)))) [] := by
  obtain ⟨n, rfl⟩ := Int.eq_ofNat_of_zero_le hx.1
  rw [itoa_nat]
  refine Spec.of_code T_ok Tryz.func61 rfl Tryz.ntmps61 Tryz.call61 (Nat.le_of_ble_eq_true rfl) rfl rfl (CodeV_sound T_ok (by kernel_rfl) rfl ?_)
  simp only [Tryz.results61, go_sem, Nat.reduceMul, Nat.reduceLeDiff, Nat.reduceLT, reduceIte, reduceCtorEq, Nat.reduceEqDiff, Nat.reduceSub, Nat.reduceAdd]
  refine HereO.call T_ok rfl rfl (formatS_spec n (by omega)) (by simp only [go_sem, Nat.reduceMul, Nat.reduceLeDiff, Nat.reduceLT, reduceIte, reduceCtorEq, Nat.reduceEqDiff, Nat.reduceSub, Nat.reduceAdd, List.toList_toArray] <;> first | rfl | exact ⟨rfl, rfl⟩) rfl ?_
  simp only [Tryz.results61, go_sem, Nat.reduceMul, Nat.reduceLeDiff, Nat.reduceLT, reduceIte, reduceCtorEq, Nat.reduceEqDiff, Nat.reduceSub, Nat.reduceAdd]
/-- Texts of numbers. -/
def decs (u : List Int) : List (List UInt8) := u.map Lib.itoa
theorem decs_step {u : List Int} {i : Nat} (h : i < u.length) : decs (u.take (i + 1)) = decs (u.take i) ++ [Lib.itoa (u.getD i 0)] := by
  rw [List.take_succ_eq_append_getElem h]
  simp only [decs, List.map_append, List.map_cons, List.map_nil, List.getD_eq_getElem?_getD, List.getElem?_eq_getElem h, Option.getD_some]
theorem decs_join : ∀ u : List Int, (∀ x ∈ u, -100 < x ∧ x < 100) → (Lib.join (decs u) [44]).length ≤ 4 * u.length := by
  intro u h
  have ht : ∀ s : List Int, (∀ x ∈ s, -100 < x ∧ x < 100) → (Lib.joinTail [44] (decs s)).length ≤ 4 * s.length := by
    intro s
    induction s with
    | nil => intro _; simp [Lib.joinTail, decs]
    | cons r s ih =>
      intro h
      have h1 := h r (List.mem_cons_self ..)
      have h2 := ih fun r hr => h r (List.mem_cons_of_mem _ hr)
      have h3 := itoa_len r h1
      unfold Lib.joinTail decs at h2 ⊢
      simp only [List.map_cons, List.flatten_cons, List.length_append, List.length_cons, List.length_nil] at h2 ⊢
      omega
  cases u with
  | nil => simp [Lib.join, decs]
  | cons r s =>
    have h1 := h r (List.mem_cons_self ..)
    have h2 := ht s fun r hr => h r (List.mem_cons_of_mem _ hr)
    have h3 := itoa_len r h1
    show (Lib.join (Lib.itoa r :: decs s) [44]).length ≤ _
    rw [Lib.join_cons, List.length_append]
    simp only [List.length_cons]
    omega
theorem numbersText_spec (u : List Int) (hu : ∀ x ∈ u, 0 ≤ x ∧ x < 100) (h1 : 1 ≤ u.length) (h8 : u.length ≤ 8) : Spec Tryz.prog 62 [.rd (I u)] (.v (.string (strB (Lib.join (decs u) [44])))) [] := by
  refine Spec.of_code T_ok Tryz.func62 rfl Tryz.ntmps62 Tryz.call62 (Nat.le_of_ble_eq_true rfl) rfl rfl (CodeV_sound T_ok (by kernel_rfl) rfl ?_)
  simp only [Tryz.results62, go_sem, Nat.reduceMul, Nat.reduceLeDiff, Nat.reduceLT, reduceIte, reduceCtorEq, Nat.reduceEqDiff, Nat.reduceSub, Nat.reduceAdd]
  refine HereO.buildRow T_ok 103 (SS []) rfl rfl rfl (by decide) rfl (by first | rfl | (simp only [go_sem, Nat.reduceMul, Nat.reduceLeDiff, Nat.reduceLT, reduceIte, reduceCtorEq, Nat.reduceEqDiff, Nat.reduceSub, Nat.reduceAdd] <;> rfl)) rfl (by decide) ?_
  simp only [Tryz.results62, go_sem, Nat.reduceMul, Nat.reduceLeDiff, Nat.reduceLT, reduceIte, reduceCtorEq, Nat.reduceEqDiff, Nat.reduceSub, Nat.reduceAdd]
  refine Here.loopV T_ok (κ := Nat) (fun a => a ≤ u.length) (fun a => u.length - a) (fun a => [(3, .own 103), (7, .rd (I u)), (8, .v (.int .i64 u.length)), (9, .v (.int .i64 a))]) (fun a => [(103, .row 9 (SS ((decs (u.take a)).map strB)))]) 0 (by simp) (by simp only [Tryz.results62, go_sem, Nat.reduceMul, Nat.reduceLeDiff, Nat.reduceLT, reduceIte, reduceCtorEq, Nat.reduceEqDiff, Nat.reduceSub, Nat.reduceAdd]; simp) (by simp only [Tryz.results62, go_sem, Nat.reduceMul, Nat.reduceLeDiff, Nat.reduceLT, reduceIte, reduceCtorEq, Nat.reduceEqDiff, Nat.reduceSub, Nat.reduceAdd]; simp [decs]) ?_
  intro a ha
  simp only [Tryz.results62, go_sem, Nat.reduceMul, Nat.reduceLeDiff, Nat.reduceLT, reduceIte, reduceCtorEq, Nat.reduceEqDiff, Nat.reduceSub, Nat.reduceAdd]
  refine ⟨fun h4 => ?_, fun h4 => ?_⟩
  · have hx := hu (u.getD a 0) (by rw [List.getD_eq_getElem?_getD, List.getElem?_eq_getElem (by omega), Option.getD_some]; exact List.getElem_mem _)
    obtain ⟨X, hX⟩ : ∃ X, X = (decs (u.take a)).map strB := ⟨_, rfl⟩
    have hXl : X.length = a := by rw [hX]; simp [decs]; omega
    rw [← hX]
    refine ⟨⟨by omega, by omega⟩, ?_⟩
    refine HereO.call T_ok rfl rfl (decimal_spec (u.getD a 0) hx) (by simp only [go_sem, Nat.reduceMul, Nat.reduceLeDiff, Nat.reduceLT, reduceIte, reduceCtorEq, Nat.reduceEqDiff, Nat.reduceSub, Nat.reduceAdd, List.toList_toArray] <;> first | rfl | exact ⟨rfl, rfl⟩) rfl ?_
    simp only [Tryz.results62, go_sem, Nat.reduceMul, Nat.reduceLeDiff, Nat.reduceLT, reduceIte, reduceCtorEq, Nat.reduceEqDiff, Nat.reduceSub, Nat.reduceAdd]
    refine HereO.buildRow T_ok 116 (SS [strB (Lib.itoa (u.getD a 0))]) rfl rfl rfl (by decide) rfl (by first | rfl | (simp only [go_sem, Nat.reduceMul, Nat.reduceLeDiff, Nat.reduceLT, reduceIte, reduceCtorEq, Nat.reduceEqDiff, Nat.reduceSub, Nat.reduceAdd] <;> rfl)) rfl (by decide) ?_
    simp only [Tryz.results62, go_sem, Nat.reduceMul, Nat.reduceLeDiff, Nat.reduceLT, reduceIte, reduceCtorEq, Nat.reduceEqDiff, Nat.reduceSub, Nat.reduceAdd]
    refine HereO.append T_ok (SS [strB (Lib.itoa (u.getD a 0))]) rfl rfl (by decide) (by simp only [go_sem, Nat.reduceMul, Nat.reduceLeDiff, Nat.reduceLT, reduceIte, reduceCtorEq, Nat.reduceEqDiff, Nat.reduceSub, Nat.reduceAdd] <;> rfl) (by decide) (by simp only [go_sem, Nat.reduceMul, Nat.reduceLeDiff, Nat.reduceLT, reduceIte, reduceCtorEq, Nat.reduceEqDiff, Nat.reduceSub, Nat.reduceAdd] <;> rfl) (by simp only [go_sem, Nat.reduceMul, Nat.reduceLeDiff, Nat.reduceLT, reduceIte, reduceCtorEq, Nat.reduceEqDiff, Nat.reduceSub, Nat.reduceAdd] <;> rfl) (.own 116 _ _ (by decide) (by simp only [go_sem, Nat.reduceMul, Nat.reduceLeDiff, Nat.reduceLT, reduceIte, reduceCtorEq, Nat.reduceEqDiff, Nat.reduceSub, Nat.reduceAdd] <;> rfl)) (SS_one _) (by simp only [SS_len, List.length_append, List.length_map, List.length_cons, List.length_nil]; omega) ?_
    simp only [Tryz.results62, go_sem, Nat.reduceMul, Nat.reduceLeDiff, Nat.reduceLT, reduceIte, reduceCtorEq, Nat.reduceEqDiff, Nat.reduceSub, Nat.reduceAdd]
    refine ⟨by unfold InR; omega, a + 1, by omega, by omega, by push_cast; rfl, ?_⟩
    rw [SS_app, decs_step (by omega), List.map_append, ← hX]
    rfl
  · obtain rfl : a = u.length := by omega
    rw [List.take_length]
    have hmap : ((decs u).map strB).map (·.data.toList) = decs u := by
      rw [List.map_map]
      conv => rhs; rw [← List.map_id (decs u)]
      refine List.map_congr_left fun r _ => ?_
      simp [strB]
    have hj := decs_join u fun x hx => by have := hu x hx; omega
    have hc := joinS_spec ((decs u).map strB) ⟨#[44]⟩ (by simp [decs]; omega) (by simp [decs]; omega) (by rw [hmap]; show (Lib.join (decs u) [44]).length ≤ _; omega)
    rw [hmap] at hc
    refine HereO.callM T_ok 21 [103] rfl rfl (hc) (by simp only [go_sem, Nat.reduceMul, Nat.reduceLeDiff, Nat.reduceLT, reduceIte, reduceCtorEq, Nat.reduceEqDiff, Nat.reduceSub, Nat.reduceAdd, List.toList_toArray, ↓reduceIte]) rfl (by decide) (by decide) rfl rfl rfl (Nat.le_of_ble_eq_true rfl) ?_
    simp only [Tryz.results62, go_sem, Nat.reduceMul, Nat.reduceLeDiff, Nat.reduceLT, reduceIte, reduceCtorEq, Nat.reduceEqDiff, Nat.reduceSub, Nat.reduceAdd]
    rfl
theorem moduleText_spec (t : List (List Int)) (m : Int) (u : List Int) (hg : Grp t) (hm : Mod t m u) : Spec Tryz.prog 42 [.agg [.v (.int .i64 m), .rd (I u)]] (.v (.string (strB (txtM m u)))) [] := by
  have h1 := hg.1
  have h8 := hg.2.1
  have hml := hm.2.1
  have hm12 := hm.1
  have hu : ∀ x ∈ u, 0 ≤ x ∧ x < 100 := fun x hx => by have := hm.unit_mem x hx; omega
  have hj := decs_join u fun x hx => by have := hu x hx; omega
  have hk := itoa_len m (by omega)
  refine Spec.of_code T_ok Tryz.func42 rfl Tryz.ntmps42 Tryz.call42 (Nat.le_of_ble_eq_true rfl) rfl rfl (CodeV_sound T_ok (by kernel_rfl) rfl ?_)
  simp only [Tryz.results42, go_sem, Nat.reduceMul, Nat.reduceLeDiff, Nat.reduceLT, reduceIte, reduceCtorEq, Nat.reduceEqDiff, Nat.reduceSub, Nat.reduceAdd]
  refine Here.draw T_ok mixed_ok (by kernel_rfl) ?_
  simp only [Tryz.results42, go_sem, Nat.reduceMul, Nat.reduceLeDiff, Nat.reduceLT, reduceIte, reduceCtorEq, Nat.reduceEqDiff, Nat.reduceSub, Nat.reduceAdd]
  refine ⟨_, OpP.call' rfl rfl (decimal_spec m (by omega)) (by simp only [go_sem, Nat.reduceMul, Nat.reduceLeDiff, Nat.reduceLT, reduceIte, reduceCtorEq, Nat.reduceEqDiff, Nat.reduceSub, Nat.reduceAdd, List.toList_toArray] <;> first | rfl | exact ⟨rfl, rfl⟩) rfl, ?_⟩
  simp only [Tryz.results42, go_sem, Nat.reduceMul, Nat.reduceLeDiff, Nat.reduceLT, reduceIte, reduceCtorEq, Nat.reduceEqDiff, Nat.reduceSub, Nat.reduceAdd]
  refine ⟨by rw [strB_size]; omega, ?_⟩
  refine ⟨_, OpP.call' rfl rfl (numbersText_spec u hu (by omega) (by omega)) (by simp only [go_sem, Nat.reduceMul, Nat.reduceLeDiff, Nat.reduceLT, reduceIte, reduceCtorEq, Nat.reduceEqDiff, Nat.reduceSub, Nat.reduceAdd, List.toList_toArray] <;> first | rfl | exact ⟨rfl, rfl⟩) rfl, ?_⟩
  simp only [Tryz.results42, go_sem, Nat.reduceMul, Nat.reduceLeDiff, Nat.reduceLT, reduceIte, reduceCtorEq, Nat.reduceEqDiff, Nat.reduceSub, Nat.reduceAdd]
  have e2 : (⟨#[58]⟩ : ByteArray) = strB [58] := rfl
  rw [e2, strB_app, strB_app, strB_size, strB_size]
  exact ⟨by omega, rfl⟩
/-! ### The reference's -/
def preM (m : Int) (u : List Int) (i : Nat) : List UInt8 := Lib.itoa m ++ [58] ++ Lib.join (decs (u.take i)) [44]
theorem preM_step {m : Int} {u : List Int} {i : Nat} (h : i < u.length) : preM m u (i + 1) = (if i = 0 then preM m u i else preM m u i ++ [44]) ++ Lib.itoa (u.getD i 0) := by
  unfold preM
  rw [decs_step h, join_snoc]
  by_cases e : i = 0
  · subst e
    simp [decs, Lib.join]
  · have hne : decs (u.take i) ≠ [] := fun q => by
      have := congrArg List.length q
      simp only [decs, List.length_map, List.length_take, List.length_nil] at this
      omega
    rw [if_neg hne, if_neg e]
    simp
theorem l02Text_spec (m : Int) (u : List Int) (hm : -100 < m ∧ m < 100) (hu : ∀ x ∈ u, -100 < x ∧ x < 100) (hl : u.length ≤ 1000) : Spec Tryz.prog 43 [.agg [.v (.int .i64 m), .rd (I u)]] (.v (.string (strB (txtM m u)))) [] := by
  have hpl : ∀ i, i ≤ u.length → (preM m u i).length ≤ 4040 := fun i hi => by
    have := decs_join (u.take i) fun x hx => hu x (List.mem_of_mem_take hx)
    rw [List.length_take] at this
    have := itoa_len m hm
    simp only [preM, List.length_append, List.length_cons, List.length_nil]
    omega
  refine Spec.of_code T_ok Tryz.func43 rfl Tryz.ntmps43 Tryz.call43 (Nat.le_of_ble_eq_true rfl) rfl rfl (CodeV_sound T_ok (by kernel_rfl) rfl ?_)
  simp only [Tryz.results43, go_sem, Nat.reduceMul, Nat.reduceLeDiff, Nat.reduceLT, reduceIte, reduceCtorEq, Nat.reduceEqDiff, Nat.reduceSub, Nat.reduceAdd]
  refine HereO.call T_ok rfl rfl (l01Dec_any m hm) (by simp only [go_sem, Nat.reduceMul, Nat.reduceLeDiff, Nat.reduceLT, reduceIte, reduceCtorEq, Nat.reduceEqDiff, Nat.reduceSub, Nat.reduceAdd, List.toList_toArray] <;> first | rfl | exact ⟨rfl, rfl⟩) rfl ?_
  simp only [Tryz.results43, go_sem, Nat.reduceMul, Nat.reduceLeDiff, Nat.reduceLT, reduceIte, reduceCtorEq, Nat.reduceEqDiff, Nat.reduceSub, Nat.reduceAdd]
  have e2 : (⟨#[58]⟩ : ByteArray) = strB [58] := rfl
  have hk := itoa_len m hm
  rw [e2, strB_app, strB_size]
  refine ⟨by first | omega | (simp only [List.length_cons, List.length_nil]; omega), ?_⟩
  have e0 : Lib.itoa m ++ [58] = preM m u 0 := by simp [preM, decs, Lib.join]
  rw [e0]
  refine Here.loopV T_ok (κ := Nat) (fun a => a ≤ u.length) (fun a => u.length - a) (fun a => [(1, .box [.v (.int .i64 m), .rd (I u)]), (3, .v (.string (strB (preM m u a)))), (4, .v (.int .i64 a))]) (fun _ => []) 0 (by simp) (by simp only [Tryz.results43, go_sem, Nat.reduceMul, Nat.reduceLeDiff, Nat.reduceLT, reduceIte, reduceCtorEq, Nat.reduceEqDiff, Nat.reduceSub, Nat.reduceAdd]; simp) trivial ?_
  intro a ha
  have hpa := hpl a ha
  simp only [Tryz.results43, go_sem, Nat.reduceMul, Nat.reduceLeDiff, Nat.reduceLT, reduceIte, reduceCtorEq, Nat.reduceEqDiff, Nat.reduceSub, Nat.reduceAdd]
  refine ⟨fun h4 => ?_, fun h4 => ?_⟩
  · have hx := hu (u.getD a 0) (by rw [List.getD_eq_getElem?_getD, List.getElem?_eq_getElem (by omega), Option.getD_some]; exact List.getElem_mem _)
    have hst := preM_step (m := m) (u := u) (i := a) (by omega)
    have hpb := hpl (a + 1) (by omega)
    have e44 : (⟨#[44]⟩ : ByteArray) = strB [44] := rfl
    refine ⟨fun h5 => ?_, fun h5 => ?_⟩
    · rw [if_neg (by omega)] at hst
      rw [e44, strB_app, strB_size]
      refine ⟨by first | omega | (simp only [List.length_cons, List.length_nil]; omega), ⟨by omega, by omega⟩, ?_⟩
      refine HereO.call T_ok rfl rfl (l01Dec_any (u.getD a 0) hx) (by simp only [go_sem, Nat.reduceMul, Nat.reduceLeDiff, Nat.reduceLT, reduceIte, reduceCtorEq, Nat.reduceEqDiff, Nat.reduceSub, Nat.reduceAdd, List.toList_toArray] <;> first | rfl | exact ⟨rfl, rfl⟩) rfl ?_
      simp only [Tryz.results43, go_sem, Nat.reduceMul, Nat.reduceLeDiff, Nat.reduceLT, reduceIte, reduceCtorEq, Nat.reduceEqDiff, Nat.reduceSub, Nat.reduceAdd]
      rw [strB_app, ← hst]
      have hlen := congrArg List.length hst
      rw [strB_size, strB_size, ← List.length_append, ← hst]
      exact ⟨by omega, by unfold InR; omega, a + 1, by omega, by omega, rfl, by push_cast; rfl⟩
    · rw [if_pos (by omega)] at hst
      refine ⟨⟨by omega, by omega⟩, ?_⟩
      refine HereO.call T_ok rfl rfl (l01Dec_any (u.getD a 0) hx) (by simp only [go_sem, Nat.reduceMul, Nat.reduceLeDiff, Nat.reduceLT, reduceIte, reduceCtorEq, Nat.reduceEqDiff, Nat.reduceSub, Nat.reduceAdd, List.toList_toArray] <;> first | rfl | exact ⟨rfl, rfl⟩) rfl ?_
      simp only [Tryz.results43, go_sem, Nat.reduceMul, Nat.reduceLeDiff, Nat.reduceLT, reduceIte, reduceCtorEq, Nat.reduceEqDiff, Nat.reduceSub, Nat.reduceAdd]
      rw [strB_app, ← hst]
      rw [strB_size, strB_size, ← List.length_append, ← hst]
      exact ⟨by omega, by unfold InR; omega, a + 1, by omega, by omega, rfl, by push_cast; rfl⟩
  · obtain rfl : a = u.length := by omega
    unfold preM txtM decs
    rw [List.take_length]
/-- What ModuleText answers. -/
def mtR (t : List (List Int)) (m : Int) (l : List Int) : ByteArray := if codeM t [(m, l)] = 0 then strB (txtM m l) else ⟨#[]⟩
theorem implModuleText (t : List (List Int)) (m : Int) (l : List Int) : Spec Tryz.prog 18 [.agg [.rds (II t)], .agg [.v (.int .i64 m), .rd (I l)]] (.tup [.v (.string (mtR t m l)), .v (.int .i64 (codeM t [(m, l)]))]) [] := by
  unfold mtR
  refine Spec.of_code T_ok Tryz.func18 rfl Tryz.ntmps18 Tryz.call18 (Nat.le_of_ble_eq_true rfl) rfl rfl (CodeV_sound T_ok (by kernel_rfl) rfl ?_)
  simp only [Tryz.results18, go_sem, Nat.reduceMul, Nat.reduceLeDiff, Nat.reduceLT, reduceIte, reduceCtorEq, Nat.reduceEqDiff, Nat.reduceSub, Nat.reduceAdd]
  refine HereO.opP T_ok (OpP.buildA sl2_29 (MM [(m, l)]) rfl rfl (by decide) (by decide) rfl rfl) ?_
  simp only [Tryz.results18, go_sem, Nat.reduceMul, Nat.reduceLeDiff, Nat.reduceLT, reduceIte, reduceCtorEq, Nat.reduceEqDiff, Nat.reduceSub, Nat.reduceAdd]
  refine HereO.call T_ok rfl rfl (moduleCode_spec t [(m, l)] (by simp) (by simp)) (by simp only [go_sem, Nat.reduceMul, Nat.reduceLeDiff, Nat.reduceLT, reduceIte, reduceCtorEq, Nat.reduceEqDiff, Nat.reduceSub, Nat.reduceAdd, List.toList_toArray] <;> first | rfl | exact ⟨rfl, rfl⟩) rfl ?_
  simp only [Tryz.results18, go_sem, Nat.reduceMul, Nat.reduceLeDiff, Nat.reduceLT, reduceIte, reduceCtorEq, Nat.reduceEqDiff, Nat.reduceSub, Nat.reduceAdd]
  refine ⟨fun h => ?_, fun h => ?_⟩
  · rw [if_neg h]
  · obtain ⟨hg, hm⟩ := codeM1_ok h
    rw [if_pos h, h]
    refine HereO.call T_ok rfl rfl (moduleText_spec t m l hg hm) (by simp only [go_sem, Nat.reduceMul, Nat.reduceLeDiff, Nat.reduceLT, reduceIte, reduceCtorEq, Nat.reduceEqDiff, Nat.reduceSub, Nat.reduceAdd, List.toList_toArray] <;> first | rfl | exact ⟨rfl, rfl⟩) rfl ?_
    simp only [Tryz.results18, go_sem, Nat.reduceMul, Nat.reduceLeDiff, Nat.reduceLT, reduceIte, reduceCtorEq, Nat.reduceEqDiff, Nat.reduceSub, Nat.reduceAdd]
theorem specModuleText (t : List (List Int)) (m : Int) (l : List Int) : Spec Tryz.prog 19 [.agg [.rds (II t)], .agg [.v (.int .i64 m), .rd (I l)]] (.tup [.v (.string (mtR t m l)), .v (.int .i64 (codeM t [(m, l)]))]) [] := by
  unfold mtR
  refine Spec.of_code T_ok Tryz.func19 rfl Tryz.ntmps19 Tryz.call19 (Nat.le_of_ble_eq_true rfl) rfl rfl (CodeV_sound T_ok (by kernel_rfl) rfl ?_)
  simp only [Tryz.results19, go_sem, Nat.reduceMul, Nat.reduceLeDiff, Nat.reduceLT, reduceIte, reduceCtorEq, Nat.reduceEqDiff, Nat.reduceSub, Nat.reduceAdd]
  refine HereO.opP T_ok (OpP.buildA sl2_29 (MM [(m, l)]) rfl rfl (by decide) (by decide) rfl rfl) ?_
  simp only [Tryz.results19, go_sem, Nat.reduceMul, Nat.reduceLeDiff, Nat.reduceLT, reduceIte, reduceCtorEq, Nat.reduceEqDiff, Nat.reduceSub, Nat.reduceAdd]
  refine HereO.call T_ok rfl rfl (l02Code_spec t [(m, l)] (by simp)) (by simp only [go_sem, Nat.reduceMul, Nat.reduceLeDiff, Nat.reduceLT, reduceIte, reduceCtorEq, Nat.reduceEqDiff, Nat.reduceSub, Nat.reduceAdd, List.toList_toArray] <;> first | rfl | exact ⟨rfl, rfl⟩) rfl ?_
  simp only [Tryz.results19, go_sem, Nat.reduceMul, Nat.reduceLeDiff, Nat.reduceLT, reduceIte, reduceCtorEq, Nat.reduceEqDiff, Nat.reduceSub, Nat.reduceAdd]
  refine ⟨fun h => ?_, fun h => ?_⟩
  · rw [if_neg h]
  · obtain ⟨hg, hm⟩ := codeM1_ok h
    have h8 := hg.2.1
    have hml := hm.2.1
    have hm12 := hm.1
    rw [if_pos h, h]
    refine HereO.call T_ok rfl rfl (l02Text_spec m l (by omega) (fun x hx => by have := hm.unit_mem x hx; omega) (by omega)) (by simp only [go_sem, Nat.reduceMul, Nat.reduceLeDiff, Nat.reduceLT, reduceIte, reduceCtorEq, Nat.reduceEqDiff, Nat.reduceSub, Nat.reduceAdd, List.toList_toArray] <;> first | rfl | exact ⟨rfl, rfl⟩) rfl ?_
    simp only [Tryz.results19, go_sem, Nat.reduceMul, Nat.reduceLeDiff, Nat.reduceLT, reduceIte, reduceCtorEq, Nat.reduceEqDiff, Nat.reduceSub, Nat.reduceAdd]
end Go.Proofs.YtcjhojdlfnpgjaaGreatDoor

namespace Go.Proofs.YtcjhojdlfnpgjaaGreatDoor
open Go.RowKit
set_option linter.unusedVariables false
set_option linter.unusedSimpArgs false
set_option maxRecDepth 100000

def cutA (c : UInt8) (l : List UInt8) : List UInt8 := if 0 ≤ Lib.indexByte l c then l.take (Lib.indexByte l c).toNat else l
def cutB (c : UInt8) (l : List UInt8) : List UInt8 := if 0 ≤ Lib.indexByte l c then l.drop ((Lib.indexByte l c).toNat + 1) else []
theorem Cut1_spec (l : List UInt8) (c : UInt8) (hl : l.length ≤ 1048576) : Spec Tryz.prog 84 [.v (.string (strB l)), .v (.string ⟨#[c]⟩)] (.tup [.v (.string (strB (cutA c l))), .v (.string (strB (cutB c l))), .v (.bool (decide (0 ≤ Lib.indexByte l c)))]) [] := by
  have hix := indexS_spec (strB l) c
  rw [strB_of] at hix
  have hsz := strB_size l
  unfold cutA cutB
  refine Spec.of_code T_ok Tryz.func84 rfl Tryz.ntmps84 Tryz.call84 (Nat.le_of_ble_eq_true rfl) rfl rfl (CodeV_sound T_ok (by kernel_rfl) rfl ?_)
  simp only [Tryz.results84, go_sem, Nat.reduceMul, Nat.reduceLeDiff, Nat.reduceLT, reduceIte, reduceCtorEq, Nat.reduceEqDiff, Nat.reduceSub, Nat.reduceAdd]
  refine HereO.call T_ok rfl rfl (hix) (by simp only [go_sem, Nat.reduceMul, Nat.reduceLeDiff, Nat.reduceLT, reduceIte, reduceCtorEq, Nat.reduceEqDiff, Nat.reduceSub, Nat.reduceAdd, List.toList_toArray] <;> first | rfl | exact ⟨rfl, rfl⟩) rfl ?_
  simp only [Tryz.results84, go_sem, Nat.reduceMul, Nat.reduceLeDiff, Nat.reduceLT, reduceIte, reduceCtorEq, Nat.reduceEqDiff, Nat.reduceSub, Nat.reduceAdd]
  refine ⟨fun h => ?_, fun h => ?_⟩
  · rw [if_pos h, if_pos h, decide_eq_true h]
    rcases cut_parts c l with ⟨q, _⟩ | ⟨i, q1, q2, _, _⟩
    · omega
    rw [q1, Int.toNat_natCast]
    refine Here.draw T_ok mixed_ok (by kernel_rfl) ?_
    simp only [Tryz.results84, go_sem, Nat.reduceMul, Nat.reduceLeDiff, Nat.reduceLT, reduceIte, reduceCtorEq, Nat.reduceEqDiff, Nat.reduceSub, Nat.reduceAdd]
    refine ⟨_, OpP.toStr (j := i) Tryz.underlying9 rfl rfl rfl (by omega), ?_⟩
    simp only [Tryz.results84, go_sem, Nat.reduceMul, Nat.reduceLeDiff, Nat.reduceLT, reduceIte, reduceCtorEq, Nat.reduceEqDiff, Nat.reduceSub, Nat.reduceAdd]
    refine ⟨_, OpP.lenStr Tryz.underlying9 rfl rfl, ?_⟩
    simp only [Tryz.results84, go_sem, Nat.reduceMul, Nat.reduceLeDiff, Nat.reduceLT, reduceIte, reduceCtorEq, Nat.reduceEqDiff, Nat.reduceSub, Nat.reduceAdd]
    refine ⟨by unfold InR; omega, ?_⟩
    refine ⟨_, OpP.fromStr (i := i + 1) Tryz.underlying9 rfl rfl rfl (by omega), ?_⟩
    simp only [Tryz.results84, go_sem, Nat.reduceMul, Nat.reduceLeDiff, Nat.reduceLT, reduceIte, reduceCtorEq, Nat.reduceEqDiff, Nat.reduceSub, Nat.reduceAdd]
    rw [extract_strB, extract_strB, strB_of, List.drop_zero, Nat.sub_zero, hsz, List.take_of_length_le (l := l.drop (i + 1)) (by rw [List.length_drop]; exact Nat.le_refl _)]
    exact ⟨rfl, rfl⟩
  · rw [if_neg h, if_neg h, decide_eq_false h]
    exact ⟨rfl, rfl, rfl⟩
theorem Cut_spec (l : List UInt8) (c : UInt8) (hl : l.length ≤ 1048576) : Spec Tryz.prog 64 [.v (.string (strB l)), .v (.string ⟨#[c]⟩)] (.tup [.v (.string (strB (cutA c l))), .v (.string (strB (cutB c l))), .v (.bool (decide (0 ≤ Lib.indexByte l c)))]) [] := by
  refine Spec.of_code T_ok Tryz.func64 rfl Tryz.ntmps64 Tryz.call64 (Nat.le_of_ble_eq_true rfl) rfl rfl (CodeV_sound T_ok (by kernel_rfl) rfl ?_)
  simp only [Tryz.results64, go_sem, Nat.reduceMul, Nat.reduceLeDiff, Nat.reduceLT, reduceIte, reduceCtorEq, Nat.reduceEqDiff, Nat.reduceSub, Nat.reduceAdd]
  refine HereO.call T_ok rfl rfl (Cut1_spec l c hl) (by simp only [go_sem, Nat.reduceMul, Nat.reduceLeDiff, Nat.reduceLT, reduceIte, reduceCtorEq, Nat.reduceEqDiff, Nat.reduceSub, Nat.reduceAdd, List.toList_toArray] <;> first | rfl | exact ⟨rfl, rfl⟩) rfl ?_
  simp only [Tryz.results64, go_sem, Nat.reduceMul, Nat.reduceLeDiff, Nat.reduceLT, reduceIte, reduceCtorEq, Nat.reduceEqDiff, Nat.reduceSub, Nat.reduceAdd]
def hdM (l : List UInt8) : Int := if headB l then numI (oneOf l) else 0
def hdU (l : List UInt8) : List Int := if headB l then hdL (restOf l) else []
theorem headed_spec (l : List UInt8) (hl : l.length ≤ 1048576) : Spec Tryz.prog 46 [.v (.string (strB l))] (.tup [.v (.int .i64 (hdM l)), .own 0, .v (.bool (decide (headB l)))]) [.row 2 (I (hdU l))] := by
  have hsz := strB_size l
  have hA : (cutA 58 l).length ≤ 1048576 := by
    unfold cutA
    split
    · rw [List.length_take]; omega
    · exact hl
  have hB : (cutB 58 l).length ≤ 1048576 := by
    unfold cutB
    split
    · rw [List.length_drop]; omega
    · simp
  refine Spec.of_codeC T_ok Tryz.func46 rfl Tryz.ntmps46 Tryz.call46 (Nat.le_of_ble_eq_true rfl) rfl rfl (CodeV_sound T_ok (by kernel_rfl) rfl ?_)
  simp only [Tryz.results46, go_sem, Nat.reduceMul, Nat.reduceLeDiff, Nat.reduceLT, reduceIte, reduceCtorEq, Nat.reduceEqDiff, Nat.reduceSub, Nat.reduceAdd]
  refine HereO.call T_ok rfl rfl (Cut_spec l 58 hl) (by simp only [go_sem, Nat.reduceMul, Nat.reduceLeDiff, Nat.reduceLT, reduceIte, reduceCtorEq, Nat.reduceEqDiff, Nat.reduceSub, Nat.reduceAdd, List.toList_toArray] <;> first | rfl | exact ⟨rfl, rfl⟩) rfl ?_
  simp only [Tryz.results46, go_sem, Nat.reduceMul, Nat.reduceLeDiff, Nat.reduceLT, reduceIte, reduceCtorEq, Nat.reduceEqDiff, Nat.reduceSub, Nat.reduceAdd]
  refine HereO.call T_ok rfl rfl (number_spec (cutA 58 l) hA) (by simp only [go_sem, Nat.reduceMul, Nat.reduceLeDiff, Nat.reduceLT, reduceIte, reduceCtorEq, Nat.reduceEqDiff, Nat.reduceSub, Nat.reduceAdd, List.toList_toArray] <;> first | rfl | exact ⟨rfl, rfl⟩) rfl ?_
  simp only [Tryz.results46, go_sem, Nat.reduceMul, Nat.reduceLeDiff, Nat.reduceLT, reduceIte, reduceCtorEq, Nat.reduceEqDiff, Nat.reduceSub, Nat.reduceAdd]
  have bad : ¬ headB l → hdM l = 0 ∧ hdU l = [] ∧ decide (headB l) = false := fun h => ⟨if_neg h, if_neg h, decide_eq_false h⟩
  refine ⟨fun h1 => ?_, fun h1 => ?_⟩
  rotate_left
  · obtain ⟨b1, b2, b3⟩ := bad fun q => h1 q.1
    rw [b1, b2, b3]
    exact RetC.conv (Conv.nilAt 3 120 (.row 2 []) (by decide) rfl) (RetC.of (RetT.one 120 (by simp only [Tryz.results46, go_sem, Nat.reduceMul, Nat.reduceLeDiff, Nat.reduceLT, reduceIte, reduceCtorEq, Nat.reduceEqDiff, Nat.reduceSub, Nat.reduceAdd]; rfl) (by simp only [Tryz.results46, go_sem, Nat.reduceMul, Nat.reduceLeDiff, Nat.reduceLT, reduceIte, reduceCtorEq, Nat.reduceEqDiff, Nat.reduceSub, Nat.reduceAdd] <;> simp [I]) (by simp only [Tryz.results46, go_sem, Nat.reduceMul, Nat.reduceLeDiff, Nat.reduceLT, reduceIte, reduceCtorEq, Nat.reduceEqDiff, Nat.reduceSub, Nat.reduceAdd] <;> simp [I])))
  have e1 : cutA 58 l = oneOf l := if_pos h1
  have e2 : cutB 58 l = restOf l := if_pos h1
  rw [e1, e2]
  rw [e1] at hA
  rw [e2] at hB
  have hsr := strB_size (restOf l)
  refine ⟨fun h2 => ?_, fun h2 => ?_⟩
  rotate_left
  · obtain ⟨b1, b2, b3⟩ := bad fun q => h2 q.2.1
    rw [b1, b2, b3]
    exact RetC.conv (Conv.nilAt 3 120 (.row 2 []) (by decide) rfl) (RetC.of (RetT.one 120 (by simp only [Tryz.results46, go_sem, Nat.reduceMul, Nat.reduceLeDiff, Nat.reduceLT, reduceIte, reduceCtorEq, Nat.reduceEqDiff, Nat.reduceSub, Nat.reduceAdd]; rfl) (by simp only [Tryz.results46, go_sem, Nat.reduceMul, Nat.reduceLeDiff, Nat.reduceLT, reduceIte, reduceCtorEq, Nat.reduceEqDiff, Nat.reduceSub, Nat.reduceAdd] <;> simp [I]) (by simp only [Tryz.results46, go_sem, Nat.reduceMul, Nat.reduceLeDiff, Nat.reduceLT, reduceIte, reduceCtorEq, Nat.reduceEqDiff, Nat.reduceSub, Nat.reduceAdd] <;> simp [I])))
  refine HereO.opP T_ok (OpP.lenStr Tryz.underlying9 rfl rfl) ?_
  simp only [Tryz.results46, go_sem, Nat.reduceMul, Nat.reduceLeDiff, Nat.reduceLT, reduceIte, reduceCtorEq, Nat.reduceEqDiff, Nat.reduceSub, Nat.reduceAdd]
  refine ⟨fun h3 => ?_, fun h3 => ?_⟩
  · obtain ⟨b1, b2, b3⟩ := bad fun q => by have := q.2.2.1; omega
    rw [b1, b2, b3]
    exact RetC.conv (Conv.nilAt 3 120 (.row 2 []) (by decide) rfl) (RetC.of (RetT.one 120 (by simp only [Tryz.results46, go_sem, Nat.reduceMul, Nat.reduceLeDiff, Nat.reduceLT, reduceIte, reduceCtorEq, Nat.reduceEqDiff, Nat.reduceSub, Nat.reduceAdd]; rfl) (by simp only [Tryz.results46, go_sem, Nat.reduceMul, Nat.reduceLeDiff, Nat.reduceLT, reduceIte, reduceCtorEq, Nat.reduceEqDiff, Nat.reduceSub, Nat.reduceAdd] <;> simp [I]) (by simp only [Tryz.results46, go_sem, Nat.reduceMul, Nat.reduceLeDiff, Nat.reduceLT, reduceIte, reduceCtorEq, Nat.reduceEqDiff, Nat.reduceSub, Nat.reduceAdd] <;> simp [I])))
  refine HereO.buildRow T_ok 137 (I []) rfl rfl rfl (by decide) rfl (by first | rfl | (simp only [go_sem, Nat.reduceMul, Nat.reduceLeDiff, Nat.reduceLT, reduceIte, reduceCtorEq, Nat.reduceEqDiff, Nat.reduceSub, Nat.reduceAdd] <;> rfl)) rfl (by decide) ?_
  simp only [Tryz.results46, go_sem, Nat.reduceMul, Nat.reduceLeDiff, Nat.reduceLT, reduceIte, reduceCtorEq, Nat.reduceEqDiff, Nat.reduceSub, Nat.reduceAdd]
  rw [empty_iff]
  refine ⟨fun h4 => ?_, fun h4 => ?_⟩
  · have hr : restOf l = [] := List.length_eq_zero_iff.1 h4
    have hb : headB l := ⟨h1, h2, by omega, .inl hr⟩
    have b1 : hdM l = numI (oneOf l) := if_pos hb
    have b2 : hdU l = [] := by unfold hdU; rw [if_pos hb, hdL, if_pos hr]
    rw [b1, b2, decide_eq_true hb]
    exact RetC.of (RetT.one 137 (by simp only [Tryz.results46, go_sem, Nat.reduceMul, Nat.reduceLeDiff, Nat.reduceLT, reduceIte, reduceCtorEq, Nat.reduceEqDiff, Nat.reduceSub, Nat.reduceAdd]; rfl) (by simp only [Tryz.results46, go_sem, Nat.reduceMul, Nat.reduceLeDiff, Nat.reduceLT, reduceIte, reduceCtorEq, Nat.reduceEqDiff, Nat.reduceSub, Nat.reduceAdd] <;> simp [I]) (by simp only [Tryz.results46, go_sem, Nat.reduceMul, Nat.reduceLeDiff, Nat.reduceLT, reduceIte, reduceCtorEq, Nat.reduceEqDiff, Nat.reduceSub, Nat.reduceAdd] <;> simp [I]))
  have hr : restOf l ≠ [] := fun e => h4 (by rw [e]; rfl)
  obtain ⟨q, hq⟩ : ∃ q, q = parts 44 (restOf l) := ⟨_, rfl⟩
  have hsp := splitS_spec (strB (restOf l)) 44 (by omega)
  rw [strB_of, ← hq] at hsp
  have hqp : ∀ a, (h : a < q.length) → (q[a]).length ≤ 1048576 := fun a h => by
    have := parts_part 44 (restOf l) q[a] (by rw [← hq]; exact List.getElem_mem h)
    omega
  have hql : q.length ≤ 1048577 := by
    rw [hq, parts_len]
    have := List.count_le_length (a := (44 : UInt8)) (l := restOf l)
    omega
  refine HereO.callOwn T_ok 43 rfl rfl (hsp) (by simp only [go_sem, Nat.reduceMul, Nat.reduceLeDiff, Nat.reduceLT, reduceIte, reduceCtorEq, Nat.reduceEqDiff, Nat.reduceSub, Nat.reduceAdd, List.toList_toArray] <;> first | rfl | exact ⟨rfl, rfl⟩) rfl (by simp) rfl ?_
  simp only [Tryz.results46, go_sem, Nat.reduceMul, Nat.reduceLeDiff, Nat.reduceLT, reduceIte, reduceCtorEq, Nat.reduceEqDiff, Nat.reduceSub, Nat.reduceAdd]
  rw [SS_len, List.length_map]
  refine Here.loopV T_ok (κ := Nat) (fun a => a ≤ q.length ∧ ∀ p ∈ q.take a, isNum p) (fun a => q.length - a) (fun a => [(8, .v (.int .i64 (numI (oneOf l)))), (10, .own 137), (43, .own 1688), (44, .v (.int .i64 q.length)), (45, .v (.int .i64 a))]) (fun a => [(137, .row 2 (I ((q.take a).map numI))), (1688, .row 9 (SS (q.map strB)))]) 0 ⟨by omega, fun p hp => by simp at hp⟩ (by simp only [Tryz.results46, go_sem, Nat.reduceMul, Nat.reduceLeDiff, Nat.reduceLT, reduceIte, reduceCtorEq, Nat.reduceEqDiff, Nat.reduceSub, Nat.reduceAdd]; simp) (by simp only [Tryz.results46, go_sem, Nat.reduceMul, Nat.reduceLeDiff, Nat.reduceLT, reduceIte, reduceCtorEq, Nat.reduceEqDiff, Nat.reduceSub, Nat.reduceAdd]) ?_
  rintro a ⟨ha, hn⟩
  simp only [Tryz.results46, go_sem, Nat.reduceMul, Nat.reduceLeDiff, Nat.reduceLT, reduceIte, reduceCtorEq, Nat.reduceEqDiff, Nat.reduceSub, Nat.reduceAdd]
  refine ⟨fun h5 => ?_, fun h5 => ?_⟩
  · have haq : a < q.length := by omega
    refine ⟨⟨by omega, by rw [SS_len, List.length_map]; omega⟩, by rw [SS_len, List.length_map]; omega, ?_⟩
    rw [SS_dv q a haq]
    refine HereO.call T_ok rfl rfl (number_spec q[a] (hqp a haq)) (by simp only [go_sem, Nat.reduceMul, Nat.reduceLeDiff, Nat.reduceLT, reduceIte, reduceCtorEq, Nat.reduceEqDiff, Nat.reduceSub, Nat.reduceAdd, List.toList_toArray] <;> first | rfl | exact ⟨rfl, rfl⟩) rfl ?_
    simp only [Tryz.results46, go_sem, Nat.reduceMul, Nat.reduceLeDiff, Nat.reduceLT, reduceIte, reduceCtorEq, Nat.reduceEqDiff, Nat.reduceSub, Nat.reduceAdd]
    refine ⟨fun h6 => ?_, fun h6 => ?_⟩
    · obtain ⟨b1, b2, b3⟩ := bad fun hb => by
        rcases hb.2.2.2 with e | e
        · exact hr e
        · exact h6 (e _ (by rw [← hq]; exact List.getElem_mem haq))
      rw [b1, b2, b3]
      exact RetC.conv (Conv.nilAt 3 120 (.row 2 []) (by decide) rfl) (RetC.of (RetT.one 120 (by simp only [Tryz.results46, go_sem, Nat.reduceMul, Nat.reduceLeDiff, Nat.reduceLT, reduceIte, reduceCtorEq, Nat.reduceEqDiff, Nat.reduceSub, Nat.reduceAdd]; rfl) (by simp only [Tryz.results46, go_sem, Nat.reduceMul, Nat.reduceLeDiff, Nat.reduceLT, reduceIte, reduceCtorEq, Nat.reduceEqDiff, Nat.reduceSub, Nat.reduceAdd] <;> simp [I]) (by simp only [Tryz.results46, go_sem, Nat.reduceMul, Nat.reduceLeDiff, Nat.reduceLT, reduceIte, reduceCtorEq, Nat.reduceEqDiff, Nat.reduceSub, Nat.reduceAdd] <;> simp [I])))
    · refine HereO.buildRow T_ok 158 (I [numI q[a]]) rfl rfl rfl (by decide) rfl (by first | rfl | (simp only [go_sem, Nat.reduceMul, Nat.reduceLeDiff, Nat.reduceLT, reduceIte, reduceCtorEq, Nat.reduceEqDiff, Nat.reduceSub, Nat.reduceAdd] <;> rfl)) rfl (by decide) ?_
      simp only [Tryz.results46, go_sem, Nat.reduceMul, Nat.reduceLeDiff, Nat.reduceLT, reduceIte, reduceCtorEq, Nat.reduceEqDiff, Nat.reduceSub, Nat.reduceAdd]
      refine HereO.append T_ok (I [numI q[a]]) rfl rfl (by decide) (by simp only [go_sem, Nat.reduceMul, Nat.reduceLeDiff, Nat.reduceLT, reduceIte, reduceCtorEq, Nat.reduceEqDiff, Nat.reduceSub, Nat.reduceAdd] <;> rfl) (by decide) (by simp only [go_sem, Nat.reduceMul, Nat.reduceLeDiff, Nat.reduceLT, reduceIte, reduceCtorEq, Nat.reduceEqDiff, Nat.reduceSub, Nat.reduceAdd] <;> rfl) (by simp only [go_sem, Nat.reduceMul, Nat.reduceLeDiff, Nat.reduceLT, reduceIte, reduceCtorEq, Nat.reduceEqDiff, Nat.reduceSub, Nat.reduceAdd] <;> rfl) (.own 158 _ _ (by decide) (by simp only [go_sem, Nat.reduceMul, Nat.reduceLeDiff, Nat.reduceLT, reduceIte, reduceCtorEq, Nat.reduceEqDiff, Nat.reduceSub, Nat.reduceAdd] <;> rfl)) (I_one _) (by rw [I_len, I_len]; simp; omega) ?_
      simp only [Tryz.results46, go_sem, Nat.reduceMul, Nat.reduceLeDiff, Nat.reduceLT, reduceIte, reduceCtorEq, Nat.reduceEqDiff, Nat.reduceSub, Nat.reduceAdd]
      have htk := List.take_succ_eq_append_getElem haq
      refine ⟨by unfold InR; omega, a + 1, ⟨by omega, fun p hp => ?_⟩, by omega, by push_cast; rfl, ?_⟩
      · rw [htk] at hp
        rcases List.mem_append.1 hp with hp | hp
        · exact hn p hp
        · rw [List.mem_singleton] at hp
          rw [hp]; exact h6
      · rw [I_append, htk, List.map_append]
        rfl
  · obtain rfl : a = q.length := by omega
    rw [List.take_length] at hn
    have hb : headB l := ⟨h1, h2, by omega, .inr (by rw [← hq]; exact hn)⟩
    have b1 : hdM l = numI (oneOf l) := if_pos hb
    have b2 : hdU l = q.map numI := by unfold hdU; rw [if_pos hb, hdL, if_neg hr, hq]
    rw [b1, b2, decide_eq_true hb, List.take_length]
    exact RetC.of (RetT.one 137 (by simp only [Tryz.results46, go_sem, Nat.reduceMul, Nat.reduceLeDiff, Nat.reduceLT, reduceIte, reduceCtorEq, Nat.reduceEqDiff, Nat.reduceSub, Nat.reduceAdd]; rfl) (by simp only [Tryz.results46, go_sem, Nat.reduceMul, Nat.reduceLeDiff, Nat.reduceLT, reduceIte, reduceCtorEq, Nat.reduceEqDiff, Nat.reduceSub, Nat.reduceAdd] <;> simp [I]) (by simp only [Tryz.results46, go_sem, Nat.reduceMul, Nat.reduceLeDiff, Nat.reduceLT, reduceIte, reduceCtorEq, Nat.reduceEqDiff, Nat.reduceSub, Nat.reduceAdd] <;> simp [I]))
/-- What ParseModule answers. -/
def pmM (t : List (List Int)) (s : ByteArray) : Int := if Grp t ∧ pmOk t s.data.toList then numI (oneOf s.data.toList) else 0
def pmU (t : List (List Int)) (s : ByteArray) : List Int := if Grp t ∧ pmOk t s.data.toList then hdL (restOf s.data.toList) else []
def pmC (t : List (List Int)) (s : ByteArray) : Int := if Grp t then (if pmOk t s.data.toList then 0 else 6) else 1
theorem pmU_ok (t : List (List Int)) (s : ByteArray) (hs : s.size ≤ 1048576) : (pmU t s).length ≤ 1048576 := by
  unfold pmU
  split
  · rename_i h
    have h1 := h.2.2.2.1
    have h2 := h.1.2.1
    omega
  · simp
theorem implParseModuleL (t : List (List Int)) (l : List UInt8) (hll : l.length ≤ 1048576) : Spec Tryz.prog 21 [.agg [.rds (II t)], .v (.string (strB l))] (.tup [.agg [.v (.int .i64 (if Grp t ∧ pmOk t l then numI (oneOf l) else 0)), .own 0], .v (.int .i64 (if Grp t then (if pmOk t l then 0 else 6) else 1))]) [.row 2 (I (if Grp t ∧ pmOk t l then hdL (restOf l) else []))] := by
  refine Spec.of_codeC T_ok Tryz.func21 rfl Tryz.ntmps21 Tryz.call21 (Nat.le_of_ble_eq_true rfl) rfl rfl (CodeV_sound T_ok (by kernel_rfl) rfl ?_)
  simp only [Tryz.results21, go_sem, Nat.reduceMul, Nat.reduceLeDiff, Nat.reduceLT, reduceIte, reduceCtorEq, Nat.reduceEqDiff, Nat.reduceSub, Nat.reduceAdd]
  refine HereO.alloc T_ok 104 rfl rfl (by decide) ?_
  simp only [Tryz.results21, go_sem, Nat.reduceMul, Nat.reduceLeDiff, Nat.reduceLT, reduceIte, reduceCtorEq, Nat.reduceEqDiff, Nat.reduceSub, Nat.reduceAdd]
  refine HereO.call T_ok rfl rfl (IsGroup_spec t) (by simp only [go_sem, Nat.reduceMul, Nat.reduceLeDiff, Nat.reduceLT, reduceIte, reduceCtorEq, Nat.reduceEqDiff, Nat.reduceSub, Nat.reduceAdd, List.toList_toArray] <;> first | rfl | exact ⟨rfl, rfl⟩) rfl ?_
  simp only [Tryz.results21, go_sem, Nat.reduceMul, Nat.reduceLeDiff, Nat.reduceLT, reduceIte, reduceCtorEq, Nat.reduceEqDiff, Nat.reduceSub, Nat.reduceAdd]
  refine ⟨fun h => ?_, fun h => ?_⟩
  · rw [if_neg (fun q => h q.1), if_neg h, if_neg (fun q => h q.1)]
    refine HereO.opP T_ok (OpP.build built_35 rfl rfl rfl rfl) ?_
    simp only [Tryz.results21, go_sem, Nat.reduceMul, Nat.reduceLeDiff, Nat.reduceLT, reduceIte, reduceCtorEq, Nat.reduceEqDiff, Nat.reduceSub, Nat.reduceAdd]
    refine HereO.storeAgg T_ok rfl (by simp only [go_sem, Nat.reduceMul, Nat.reduceLeDiff, Nat.reduceLT, reduceIte, reduceCtorEq, Nat.reduceEqDiff, Nat.reduceSub, Nat.reduceAdd] <;> rfl) (by simp only [go_sem, Nat.reduceMul, Nat.reduceLeDiff, Nat.reduceLT, reduceIte, reduceCtorEq, Nat.reduceEqDiff, Nat.reduceSub, Nat.reduceAdd] <;> rfl) rfl (by simp only [go_sem, Nat.reduceMul, Nat.reduceLeDiff, Nat.reduceLT, reduceIte, reduceCtorEq, Nat.reduceEqDiff, Nat.reduceSub, Nat.reduceAdd] <;> rfl) (by first | rfl | (simp only [go_sem, Nat.reduceMul, Nat.reduceLeDiff, Nat.reduceLT, reduceIte, reduceCtorEq, Nat.reduceEqDiff, Nat.reduceSub, Nat.reduceAdd] <;> rfl)) rfl rfl ?_
    simp only [Tryz.results21, go_sem, Nat.reduceMul, Nat.reduceLeDiff, Nat.reduceLT, reduceIte, reduceCtorEq, Nat.reduceEqDiff, Nat.reduceSub, Nat.reduceAdd]
    exact RetC.conv (Conv.nilIn (c := 104) (tt := 35) (l := [.v (.int .i64 0), .v nilV]) 1 120 (.row 2 []) rfl (by decide) (by decide) (by rfl) rfl) (RetC.of (RetT.one 120 (by simp only [Tryz.results21, go_sem, Nat.reduceMul, Nat.reduceLeDiff, Nat.reduceLT, reduceIte, reduceCtorEq, Nat.reduceEqDiff, Nat.reduceSub, Nat.reduceAdd]; rfl) (by simp only [Tryz.results21, go_sem, Nat.reduceMul, Nat.reduceLeDiff, Nat.reduceLT, reduceIte, reduceCtorEq, Nat.reduceEqDiff, Nat.reduceSub, Nat.reduceAdd] <;> simp [I]) (by simp only [Tryz.results21, go_sem, Nat.reduceMul, Nat.reduceLeDiff, Nat.reduceLT, reduceIte, reduceCtorEq, Nat.reduceEqDiff, Nat.reduceSub, Nat.reduceAdd] <;> simp [I])))
  · refine HereO.callOwn T_ok 16 rfl rfl (headed_spec l hll) (by simp only [go_sem, Nat.reduceMul, Nat.reduceLeDiff, Nat.reduceLT, reduceIte, reduceCtorEq, Nat.reduceEqDiff, Nat.reduceSub, Nat.reduceAdd, List.toList_toArray] <;> first | rfl | exact ⟨rfl, rfl⟩) rfl (by simp) rfl ?_
    simp only [Tryz.results21, go_sem, Nat.reduceMul, Nat.reduceLeDiff, Nat.reduceLT, reduceIte, reduceCtorEq, Nat.reduceEqDiff, Nat.reduceSub, Nat.reduceAdd]
    refine HereO.opP T_ok (OpP.build built_35 rfl rfl rfl rfl) ?_
    simp only [Tryz.results21, go_sem, Nat.reduceMul, Nat.reduceLeDiff, Nat.reduceLT, reduceIte, reduceCtorEq, Nat.reduceEqDiff, Nat.reduceSub, Nat.reduceAdd]
    refine HereO.alloc T_ok 109 rfl rfl (by decide) ?_
    simp only [Tryz.results21, go_sem, Nat.reduceMul, Nat.reduceLeDiff, Nat.reduceLT, reduceIte, reduceCtorEq, Nat.reduceEqDiff, Nat.reduceSub, Nat.reduceAdd]
    refine HereO.storeAgg T_ok rfl (by simp only [go_sem, Nat.reduceMul, Nat.reduceLeDiff, Nat.reduceLT, reduceIte, reduceCtorEq, Nat.reduceEqDiff, Nat.reduceSub, Nat.reduceAdd] <;> rfl) (by simp only [go_sem, Nat.reduceMul, Nat.reduceLeDiff, Nat.reduceLT, reduceIte, reduceCtorEq, Nat.reduceEqDiff, Nat.reduceSub, Nat.reduceAdd] <;> rfl) rfl (by simp only [go_sem, Nat.reduceMul, Nat.reduceLeDiff, Nat.reduceLT, reduceIte, reduceCtorEq, Nat.reduceEqDiff, Nat.reduceSub, Nat.reduceAdd] <;> rfl) (by first | rfl | (simp only [go_sem, Nat.reduceMul, Nat.reduceLeDiff, Nat.reduceLT, reduceIte, reduceCtorEq, Nat.reduceEqDiff, Nat.reduceSub, Nat.reduceAdd] <;> rfl)) rfl rfl ?_
    simp only [Tryz.results21, go_sem, Nat.reduceMul, Nat.reduceLeDiff, Nat.reduceLT, reduceIte, reduceCtorEq, Nat.reduceEqDiff, Nat.reduceSub, Nat.reduceAdd]
    have gp : ∀ (x y : Int), (if Grp t ∧ pmOk t l then x else y) = if pmOk t l then x else y := fun x y => by
      by_cases q : pmOk t l
      · rw [if_pos (⟨h, q⟩ : Grp t ∧ pmOk t l), if_pos q]
      · rw [if_neg (fun z : Grp t ∧ pmOk t l => q z.2), if_neg q]
    have gq : ∀ (x y : List Int), (if Grp t ∧ pmOk t l then x else y) = if pmOk t l then x else y := fun x y => by
      by_cases q : pmOk t l
      · rw [if_pos (⟨h, q⟩ : Grp t ∧ pmOk t l), if_pos q]
      · rw [if_neg (fun z : Grp t ∧ pmOk t l => q z.2), if_neg q]
    rw [gp, gq, if_pos h]
    refine ⟨fun h2 => ?_, fun h2 => ?_⟩
    · have e1 : hdM l = numI (oneOf l) := if_pos h2
      have e2 : hdU l = hdL (restOf l) := if_pos h2
      rw [e1, e2]
      refine HereO.call T_ok rfl rfl (isModule_spec t (numI (oneOf l)) (hdL (restOf l)) h) (by simp only [go_sem, Nat.reduceMul, Nat.reduceLeDiff, Nat.reduceLT, reduceIte, reduceCtorEq, Nat.reduceEqDiff, Nat.reduceSub, Nat.reduceAdd, List.toList_toArray] <;> first | rfl | exact ⟨rfl, rfl⟩) rfl ?_
      simp only [Tryz.results21, go_sem, Nat.reduceMul, Nat.reduceLeDiff, Nat.reduceLT, reduceIte, reduceCtorEq, Nat.reduceEqDiff, Nat.reduceSub, Nat.reduceAdd]
      refine ⟨fun h3 => ?_, fun h3 => ?_⟩
      · have hp : ¬ pmOk t l := fun q => h3 q.2
        rw [if_neg hp, if_neg hp, if_neg hp]
        refine HereO.opP T_ok (OpP.build built_35 rfl rfl rfl rfl) ?_
        simp only [Tryz.results21, go_sem, Nat.reduceMul, Nat.reduceLeDiff, Nat.reduceLT, reduceIte, reduceCtorEq, Nat.reduceEqDiff, Nat.reduceSub, Nat.reduceAdd]
        refine HereO.storeAgg T_ok rfl (by simp only [go_sem, Nat.reduceMul, Nat.reduceLeDiff, Nat.reduceLT, reduceIte, reduceCtorEq, Nat.reduceEqDiff, Nat.reduceSub, Nat.reduceAdd] <;> rfl) (by simp only [go_sem, Nat.reduceMul, Nat.reduceLeDiff, Nat.reduceLT, reduceIte, reduceCtorEq, Nat.reduceEqDiff, Nat.reduceSub, Nat.reduceAdd] <;> rfl) rfl (by simp only [go_sem, Nat.reduceMul, Nat.reduceLeDiff, Nat.reduceLT, reduceIte, reduceCtorEq, Nat.reduceEqDiff, Nat.reduceSub, Nat.reduceAdd] <;> rfl) (by first | rfl | (simp only [go_sem, Nat.reduceMul, Nat.reduceLeDiff, Nat.reduceLT, reduceIte, reduceCtorEq, Nat.reduceEqDiff, Nat.reduceSub, Nat.reduceAdd] <;> rfl)) rfl rfl ?_
        simp only [Tryz.results21, go_sem, Nat.reduceMul, Nat.reduceLeDiff, Nat.reduceLT, reduceIte, reduceCtorEq, Nat.reduceEqDiff, Nat.reduceSub, Nat.reduceAdd]
        exact RetC.conv (Conv.nilIn (c := 104) (tt := 35) (l := [.v (.int .i64 0), .v nilV]) 1 120 (.row 2 []) rfl (by decide) (by decide) (by rfl) rfl) (RetC.of (RetT.one 120 (by simp only [Tryz.results21, go_sem, Nat.reduceMul, Nat.reduceLeDiff, Nat.reduceLT, reduceIte, reduceCtorEq, Nat.reduceEqDiff, Nat.reduceSub, Nat.reduceAdd]; rfl) (by simp only [Tryz.results21, go_sem, Nat.reduceMul, Nat.reduceLeDiff, Nat.reduceLT, reduceIte, reduceCtorEq, Nat.reduceEqDiff, Nat.reduceSub, Nat.reduceAdd] <;> simp [I]) (by simp only [Tryz.results21, go_sem, Nat.reduceMul, Nat.reduceLeDiff, Nat.reduceLT, reduceIte, reduceCtorEq, Nat.reduceEqDiff, Nat.reduceSub, Nat.reduceAdd] <;> simp [I])))
      · have hp : pmOk t l := ⟨h2, h3⟩
        rw [if_pos hp, if_pos hp, if_pos hp]
        refine HereO.storeAgg T_ok rfl (by simp only [go_sem, Nat.reduceMul, Nat.reduceLeDiff, Nat.reduceLT, reduceIte, reduceCtorEq, Nat.reduceEqDiff, Nat.reduceSub, Nat.reduceAdd] <;> rfl) (by simp only [go_sem, Nat.reduceMul, Nat.reduceLeDiff, Nat.reduceLT, reduceIte, reduceCtorEq, Nat.reduceEqDiff, Nat.reduceSub, Nat.reduceAdd] <;> rfl) rfl (by simp only [go_sem, Nat.reduceMul, Nat.reduceLeDiff, Nat.reduceLT, reduceIte, reduceCtorEq, Nat.reduceEqDiff, Nat.reduceSub, Nat.reduceAdd] <;> rfl) (by first | rfl | (simp only [go_sem, Nat.reduceMul, Nat.reduceLeDiff, Nat.reduceLT, reduceIte, reduceCtorEq, Nat.reduceEqDiff, Nat.reduceSub, Nat.reduceAdd] <;> rfl)) rfl rfl ?_
        simp only [Tryz.results21, go_sem, Nat.reduceMul, Nat.reduceLeDiff, Nat.reduceLT, reduceIte, reduceCtorEq, Nat.reduceEqDiff, Nat.reduceSub, Nat.reduceAdd]
        exact RetC.of (RetT.one 1256 (by simp only [Tryz.results21, go_sem, Nat.reduceMul, Nat.reduceLeDiff, Nat.reduceLT, reduceIte, reduceCtorEq, Nat.reduceEqDiff, Nat.reduceSub, Nat.reduceAdd]; rfl) (by simp only [Tryz.results21, go_sem, Nat.reduceMul, Nat.reduceLeDiff, Nat.reduceLT, reduceIte, reduceCtorEq, Nat.reduceEqDiff, Nat.reduceSub, Nat.reduceAdd] <;> simp [I]) (by simp only [Tryz.results21, go_sem, Nat.reduceMul, Nat.reduceLeDiff, Nat.reduceLT, reduceIte, reduceCtorEq, Nat.reduceEqDiff, Nat.reduceSub, Nat.reduceAdd] <;> simp [I]))
    · have hp : ¬ pmOk t l := fun q => h2 q.1
      rw [if_neg hp, if_neg hp, if_neg hp]
      refine HereO.opP T_ok (OpP.build built_35 rfl rfl rfl rfl) ?_
      simp only [Tryz.results21, go_sem, Nat.reduceMul, Nat.reduceLeDiff, Nat.reduceLT, reduceIte, reduceCtorEq, Nat.reduceEqDiff, Nat.reduceSub, Nat.reduceAdd]
      refine HereO.storeAgg T_ok rfl (by simp only [go_sem, Nat.reduceMul, Nat.reduceLeDiff, Nat.reduceLT, reduceIte, reduceCtorEq, Nat.reduceEqDiff, Nat.reduceSub, Nat.reduceAdd] <;> rfl) (by simp only [go_sem, Nat.reduceMul, Nat.reduceLeDiff, Nat.reduceLT, reduceIte, reduceCtorEq, Nat.reduceEqDiff, Nat.reduceSub, Nat.reduceAdd] <;> rfl) rfl (by simp only [go_sem, Nat.reduceMul, Nat.reduceLeDiff, Nat.reduceLT, reduceIte, reduceCtorEq, Nat.reduceEqDiff, Nat.reduceSub, Nat.reduceAdd] <;> rfl) (by first | rfl | (simp only [go_sem, Nat.reduceMul, Nat.reduceLeDiff, Nat.reduceLT, reduceIte, reduceCtorEq, Nat.reduceEqDiff, Nat.reduceSub, Nat.reduceAdd] <;> rfl)) rfl rfl ?_
      simp only [Tryz.results21, go_sem, Nat.reduceMul, Nat.reduceLeDiff, Nat.reduceLT, reduceIte, reduceCtorEq, Nat.reduceEqDiff, Nat.reduceSub, Nat.reduceAdd]
      exact RetC.conv (Conv.nilIn (c := 104) (tt := 35) (l := [.v (.int .i64 0), .v nilV]) 1 120 (.row 2 []) rfl (by decide) (by decide) (by rfl) rfl) (RetC.of (RetT.one 120 (by simp only [Tryz.results21, go_sem, Nat.reduceMul, Nat.reduceLeDiff, Nat.reduceLT, reduceIte, reduceCtorEq, Nat.reduceEqDiff, Nat.reduceSub, Nat.reduceAdd]; rfl) (by simp only [Tryz.results21, go_sem, Nat.reduceMul, Nat.reduceLeDiff, Nat.reduceLT, reduceIte, reduceCtorEq, Nat.reduceEqDiff, Nat.reduceSub, Nat.reduceAdd] <;> simp [I]) (by simp only [Tryz.results21, go_sem, Nat.reduceMul, Nat.reduceLeDiff, Nat.reduceLT, reduceIte, reduceCtorEq, Nat.reduceEqDiff, Nat.reduceSub, Nat.reduceAdd] <;> simp [I])))
theorem l02Read_spec (t : List (List Int)) (l : List UInt8) (hg : Grp t) (hll : l.length ≤ 1048576) : Spec Tryz.prog 47 [.agg [.rds (II t)], .v (.string (strB l))] (.tup [.agg [.v (.int .i64 (if pmOk t l then numI (oneOf l) else 0)), .own 0], .v (.bool (decide (pmOk t l)))]) [.row 2 (I (if pmOk t l then hdL (restOf l) else []))] := by
  have hsz := strB_size l
  have hsp := l01Split_spec (strB l) 58 (by omega)
  rw [strB_of] at hsp
  refine Spec.of_codeC T_ok Tryz.func47 rfl Tryz.ntmps47 Tryz.call47 (Nat.le_of_ble_eq_true rfl) rfl rfl (CodeV_sound T_ok (by kernel_rfl) rfl ?_)
  simp only [Tryz.results47, go_sem, Nat.reduceMul, Nat.reduceLeDiff, Nat.reduceLT, reduceIte, reduceCtorEq, Nat.reduceEqDiff, Nat.reduceSub, Nat.reduceAdd]
  refine HereO.alloc T_ok 104 rfl rfl (by decide) ?_
  simp only [Tryz.results47, go_sem, Nat.reduceMul, Nat.reduceLeDiff, Nat.reduceLT, reduceIte, reduceCtorEq, Nat.reduceEqDiff, Nat.reduceSub, Nat.reduceAdd]
  refine HereO.callOwn T_ok 11 rfl rfl (hsp) (by simp only [go_sem, Nat.reduceMul, Nat.reduceLeDiff, Nat.reduceLT, reduceIte, reduceCtorEq, Nat.reduceEqDiff, Nat.reduceSub, Nat.reduceAdd, List.toList_toArray] <;> first | rfl | exact ⟨rfl, rfl⟩) rfl (by simp) rfl ?_
  simp only [Tryz.results47, go_sem, Nat.reduceMul, Nat.reduceLeDiff, Nat.reduceLT, reduceIte, reduceCtorEq, Nat.reduceEqDiff, Nat.reduceSub, Nat.reduceAdd]
  have no : ¬ pmOk t l → (if pmOk t l then numI (oneOf l) else 0) = 0 ∧ (if pmOk t l then hdL (restOf l) else []) = [] ∧ decide (pmOk t l) = false := fun h => ⟨if_neg h, if_neg h, decide_eq_false h⟩
  rw [SS_len, List.length_map]
  refine ⟨fun h => ?_, fun h => ?_⟩
  · obtain ⟨b1, b2, b3⟩ := no fun q => by
      obtain ⟨a, b, e, _⟩ := pm_parts hg q
      rw [e] at h
      exact h rfl
    rw [b1, b2, b3]
    refine HereO.opP T_ok (OpP.build built_35 rfl rfl rfl rfl) ?_
    simp only [Tryz.results47, go_sem, Nat.reduceMul, Nat.reduceLeDiff, Nat.reduceLT, reduceIte, reduceCtorEq, Nat.reduceEqDiff, Nat.reduceSub, Nat.reduceAdd]
    refine HereO.storeAgg T_ok rfl (by simp only [go_sem, Nat.reduceMul, Nat.reduceLeDiff, Nat.reduceLT, reduceIte, reduceCtorEq, Nat.reduceEqDiff, Nat.reduceSub, Nat.reduceAdd] <;> rfl) (by simp only [go_sem, Nat.reduceMul, Nat.reduceLeDiff, Nat.reduceLT, reduceIte, reduceCtorEq, Nat.reduceEqDiff, Nat.reduceSub, Nat.reduceAdd] <;> rfl) rfl (by simp only [go_sem, Nat.reduceMul, Nat.reduceLeDiff, Nat.reduceLT, reduceIte, reduceCtorEq, Nat.reduceEqDiff, Nat.reduceSub, Nat.reduceAdd] <;> rfl) (by first | rfl | (simp only [go_sem, Nat.reduceMul, Nat.reduceLeDiff, Nat.reduceLT, reduceIte, reduceCtorEq, Nat.reduceEqDiff, Nat.reduceSub, Nat.reduceAdd] <;> rfl)) rfl rfl ?_
    simp only [Tryz.results47, go_sem, Nat.reduceMul, Nat.reduceLeDiff, Nat.reduceLT, reduceIte, reduceCtorEq, Nat.reduceEqDiff, Nat.reduceSub, Nat.reduceAdd]
    exact RetC.conv (Conv.nilIn (c := 104) (tt := 35) (l := [.v (.int .i64 0), .v nilV]) 1 120 (.row 2 []) rfl (by decide) (by decide) (by rfl) rfl) (RetC.of (RetT.one 120 (by simp only [Tryz.results47, go_sem, Nat.reduceMul, Nat.reduceLeDiff, Nat.reduceLT, reduceIte, reduceCtorEq, Nat.reduceEqDiff, Nat.reduceSub, Nat.reduceAdd]; rfl) (by simp only [Tryz.results47, go_sem, Nat.reduceMul, Nat.reduceLeDiff, Nat.reduceLT, reduceIte, reduceCtorEq, Nat.reduceEqDiff, Nat.reduceSub, Nat.reduceAdd] <;> simp [I]) (by simp only [Tryz.results47, go_sem, Nat.reduceMul, Nat.reduceLeDiff, Nat.reduceLT, reduceIte, reduceCtorEq, Nat.reduceEqDiff, Nat.reduceSub, Nat.reduceAdd] <;> simp [I])))
  obtain ⟨a, b, hab⟩ : ∃ a b, parts 58 l = [a, b] := by
    match hp : parts 58 l with
    | [] => rw [hp] at h; simp at h
    | [_] => rw [hp] at h; simp at h
    | [a, b] => exact ⟨a, b, rfl⟩
    | _ :: _ :: _ :: _ => rw [hp] at h; simp at h; omega
  have hA : a.length ≤ 1048576 := by have := parts_part 58 l a (by rw [hab]; simp); omega
  have hB : b.length ≤ 1048576 := by have := parts_part 58 l b (by rw [hab]; simp); omega
  have hspb := l01Split_spec (strB b) 44 (by rw [strB_size]; exact hB)
  rw [strB_of] at hspb
  rw [hab]
  refine Here.drawSB T_ok [⟨4, 120, 2, [], [5], false⟩, ⟨10, 107, 35, [.int .i64 0, .slice none 0 0], [], true⟩] 11 (Nat.le_of_ble_eq_true rfl) mixed_ok (by kernel_rfl) (by kernel_rfl) (by kernel_rfl) (by simp) (by simp) ?_
  simp only [Tryz.results47, go_sem, Nat.reduceMul, Nat.reduceLeDiff, Nat.reduceLT, reduceIte, reduceCtorEq, Nat.reduceEqDiff, Nat.reduceSub, Nat.reduceAdd]
  have d0 : dv (SS [strB a, strB b]) 0 = .string (strB a) := rfl
  have d1 : dv (SS [strB a, strB b]) 1 = .string (strB b) := rfl
  have dl : (SS [strB a, strB b]).length = 2 := rfl
  rw [dl]
  refine ⟨⟨by omega, by omega⟩, by omega, ?_⟩
  rw [d0]
  refine HereN.op (OpP.call' rfl rfl (l01Number_spec a hA) (by simp only [go_sem, Nat.reduceMul, Nat.reduceLeDiff, Nat.reduceLT, reduceIte, reduceCtorEq, Nat.reduceEqDiff, Nat.reduceSub, Nat.reduceAdd, List.toList_toArray] <;> first | rfl | exact ⟨rfl, rfl⟩) rfl) (by simp only [Tryz.results47, go_sem, Nat.reduceMul, Nat.reduceLeDiff, Nat.reduceLT, reduceIte, reduceCtorEq, Nat.reduceEqDiff, Nat.reduceSub, Nat.reduceAdd]) ?_
  simp only [Tryz.results47, go_sem, Nat.reduceMul, Nat.reduceLeDiff, Nat.reduceLT, reduceIte, reduceCtorEq, Nat.reduceEqDiff, Nat.reduceSub, Nat.reduceAdd]
  refine HereN.birth (List.mem_cons_self ..) rfl rfl (OpN.buildRow T_ok [] rfl rfl rfl (by decide) rfl rfl rfl) (by simp only [Tryz.results47, go_sem, Nat.reduceMul, Nat.reduceLeDiff, Nat.reduceLT, reduceIte, reduceCtorEq, Nat.reduceEqDiff, Nat.reduceSub, Nat.reduceAdd]) ?_
  simp only [Tryz.results47, go_sem, Nat.reduceMul, Nat.reduceLeDiff, Nat.reduceLT, reduceIte, reduceCtorEq, Nat.reduceEqDiff, Nat.reduceSub, Nat.reduceAdd]
  refine HereN.op (OpP.build built_35 rfl rfl rfl rfl) (by simp only [Tryz.results47, go_sem, Nat.reduceMul, Nat.reduceLeDiff, Nat.reduceLT, reduceIte, reduceCtorEq, Nat.reduceEqDiff, Nat.reduceSub, Nat.reduceAdd]) ?_
  simp only [Tryz.results47, go_sem, Nat.reduceMul, Nat.reduceLeDiff, Nat.reduceLT, reduceIte, reduceCtorEq, Nat.reduceEqDiff, Nat.reduceSub, Nat.reduceAdd]
  rw [dl]
  refine ⟨⟨by omega, by omega⟩, by decide, ?_⟩
  have d1' : dv (SS [strB a, strB b]) (Int.toNat 1) = .string (strB b) := rfl
  rw [d1']
  refine HereN.op (OpP.call' rfl rfl hspb (by simp only [go_sem, Nat.reduceMul, Nat.reduceLeDiff, Nat.reduceLT, reduceIte, reduceCtorEq, Nat.reduceEqDiff, Nat.reduceSub, Nat.reduceAdd, List.toList_toArray] <;> first | rfl | exact ⟨rfl, rfl⟩) rfl) (by simp only [Tryz.results47, go_sem, Nat.reduceMul, Nat.reduceLeDiff, Nat.reduceLT, reduceIte, reduceCtorEq, Nat.reduceEqDiff, Nat.reduceSub, Nat.reduceAdd]) ?_
  simp only [Tryz.results47, go_sem, Nat.reduceMul, Nat.reduceLeDiff, Nat.reduceLT, reduceIte, reduceCtorEq, Nat.reduceEqDiff, Nat.reduceSub, Nat.reduceAdd]
  refine HereN.birth (List.mem_cons_of_mem _ (List.mem_cons_self ..)) rfl rfl (OpN.alloc T_ok rfl rfl rfl) (by simp only [Tryz.results47, go_sem, Nat.reduceMul, Nat.reduceLeDiff, Nat.reduceLT, reduceIte, reduceCtorEq, Nat.reduceEqDiff, Nat.reduceSub, Nat.reduceAdd]) ?_
  simp only [Tryz.results47, go_sem, Nat.reduceMul, Nat.reduceLeDiff, Nat.reduceLT, reduceIte, reduceCtorEq, Nat.reduceEqDiff, Nat.reduceSub, Nat.reduceAdd]
  refine HereE.of (Conv.trans (Conv.born (id := 120) (e := 2) (vs := []) 20 rfl (by simp only [Tryz.results47, go_sem, Nat.reduceMul, Nat.reduceLeDiff, Nat.reduceLT, reduceIte, reduceCtorEq, Nat.reduceEqDiff, Nat.reduceSub, Nat.reduceAdd])) (Conv.bornCell 7 (id := 107) (e := 35) (vs := [.int .i64 0, .slice none 0 0]) rfl rfl)) ?_
  simp only [Tryz.results47, go_sem, Nat.reduceMul, Nat.reduceLeDiff, Nat.reduceLT, reduceIte, reduceCtorEq, Nat.reduceEqDiff, Nat.reduceSub, Nat.reduceAdd]
  refine HereO.storeAgg T_ok rfl (by simp only [go_sem, Nat.reduceMul, Nat.reduceLeDiff, Nat.reduceLT, reduceIte, reduceCtorEq, Nat.reduceEqDiff, Nat.reduceSub, Nat.reduceAdd] <;> rfl) (by simp only [go_sem, Nat.reduceMul, Nat.reduceLeDiff, Nat.reduceLT, reduceIte, reduceCtorEq, Nat.reduceEqDiff, Nat.reduceSub, Nat.reduceAdd] <;> rfl) rfl (by simp only [go_sem, Nat.reduceMul, Nat.reduceLeDiff, Nat.reduceLT, reduceIte, reduceCtorEq, Nat.reduceEqDiff, Nat.reduceSub, Nat.reduceAdd] <;> rfl) (by first | rfl | (simp only [go_sem, Nat.reduceMul, Nat.reduceLeDiff, Nat.reduceLT, reduceIte, reduceCtorEq, Nat.reduceEqDiff, Nat.reduceSub, Nat.reduceAdd] <;> rfl)) rfl rfl ?_
  simp only [Tryz.results47, go_sem, Nat.reduceMul, Nat.reduceLeDiff, Nat.reduceLT, reduceIte, reduceCtorEq, Nat.reduceEqDiff, Nat.reduceSub, Nat.reduceAdd]
  refine HereV.conv (Conv.subCellW (c := 107) (id := 120) (e := 2) (vs := []) (tt := 35) (l := [.v (.int .i64 (numZ a)), .sub 120 0 0]) 1 rfl rfl rfl) ?_
  obtain ⟨q, hq⟩ : ∃ q, q = parts 44 b := ⟨_, rfl⟩
  rw [← hq]
  have hqp : ∀ a, (h : a < q.length) → (q[a]).length ≤ 1048576 := fun a h => by
    have := parts_part 44 b q[a] (by rw [← hq]; exact List.getElem_mem h)
    omega
  have hql : q.length ≤ 1048577 := by
    rw [hq, parts_len]
    have := List.count_le_length (a := (44 : UInt8)) (l := b)
    omega
  refine Here.loopV T_ok (κ := Nat) (fun i => i ≤ q.length) (fun i => q.length - i) (fun i => [(1, .v (.string (strB l))), (2, .box [.rds (II t)]), (4, .ptr 104 0), (7, .ptr 107 0), (8, .rd (SS (q.map strB))), (9, .v (.int .i64 i))]) (fun i => [(104, .cells 35 [.v (.int .i64 0), .v nilV]), (107, .cells 35 [.v (.int .i64 (numZ a)), .own 120]), (120, .row 2 (I ((q.take i).map numZ)))]) 0 (by simp) (by simp only [Tryz.results47, go_sem, Nat.reduceMul, Nat.reduceLeDiff, Nat.reduceLT, reduceIte, reduceCtorEq, Nat.reduceEqDiff, Nat.reduceSub, Nat.reduceAdd]; simp) (by simp only [Tryz.results47, go_sem, Nat.reduceMul, Nat.reduceLeDiff, Nat.reduceLT, reduceIte, reduceCtorEq, Nat.reduceEqDiff, Nat.reduceSub, Nat.reduceAdd]; simp [nilV, I]) ?_
  intro i hi
  simp only [Tryz.results47, go_sem, Nat.reduceMul, Nat.reduceLeDiff, Nat.reduceLT, reduceIte, reduceCtorEq, Nat.reduceEqDiff, Nat.reduceSub, Nat.reduceAdd]
  rw [SS_len, List.length_map]
  refine ⟨fun h5 => ?_, fun h5 => ?_⟩
  · have hiq : i < q.length := by omega
    refine Here.drawS T_ok 8 (Nat.le_of_ble_eq_true rfl) mixed_ok (by kernel_rfl) (by kernel_rfl) ?_
    simp only [Tryz.results47, go_sem, Nat.reduceMul, Nat.reduceLeDiff, Nat.reduceLT, reduceIte, reduceCtorEq, Nat.reduceEqDiff, Nat.reduceSub, Nat.reduceAdd]
    refine ⟨⟨by omega, by rw [SS_len, List.length_map]; omega⟩, ?_⟩
    rw [SS_dv q i hiq]
    refine ⟨_, OpP.call' rfl rfl (l01Number_spec q[i] (hqp i hiq)) (by simp only [go_sem, Nat.reduceMul, Nat.reduceLeDiff, Nat.reduceLT, reduceIte, reduceCtorEq, Nat.reduceEqDiff, Nat.reduceSub, Nat.reduceAdd, List.toList_toArray] <;> first | rfl | exact ⟨rfl, rfl⟩) rfl, ?_⟩
    simp only [Tryz.results47, go_sem, Nat.reduceMul, Nat.reduceLeDiff, Nat.reduceLT, reduceIte, reduceCtorEq, Nat.reduceEqDiff, Nat.reduceSub, Nat.reduceAdd]
    refine ⟨_, OpP.buildRd T_ok (I [numZ q[i]]) rfl rfl rfl (by decide) rfl (by first | rfl | (simp only [go_sem, Nat.reduceMul, Nat.reduceLeDiff, Nat.reduceLT, reduceIte, reduceCtorEq, Nat.reduceEqDiff, Nat.reduceSub, Nat.reduceAdd] <;> rfl)) rfl, ?_⟩
    simp only [Tryz.results47, go_sem, Nat.reduceMul, Nat.reduceLeDiff, Nat.reduceLT, reduceIte, reduceCtorEq, Nat.reduceEqDiff, Nat.reduceSub, Nat.reduceAdd]
    refine HereO.append T_ok (I [numZ q[i]]) rfl rfl (by decide) (by simp only [go_sem, Nat.reduceMul, Nat.reduceLeDiff, Nat.reduceLT, reduceIte, reduceCtorEq, Nat.reduceEqDiff, Nat.reduceSub, Nat.reduceAdd] <;> rfl) (by decide) (by simp only [go_sem, Nat.reduceMul, Nat.reduceLeDiff, Nat.reduceLT, reduceIte, reduceCtorEq, Nat.reduceEqDiff, Nat.reduceSub, Nat.reduceAdd] <;> rfl) (by simp only [go_sem, Nat.reduceMul, Nat.reduceLeDiff, Nat.reduceLT, reduceIte, reduceCtorEq, Nat.reduceEqDiff, Nat.reduceSub, Nat.reduceAdd] <;> rfl) (.rd _) (I_one _) (by rw [I_len, I_len]; simp; omega) ?_
    simp only [Tryz.results47, go_sem, Nat.reduceMul, Nat.reduceLeDiff, Nat.reduceLT, reduceIte, reduceCtorEq, Nat.reduceEqDiff, Nat.reduceSub, Nat.reduceAdd]
    refine HereO.store T_ok rfl (by simp only [go_sem, Nat.reduceMul, Nat.reduceLeDiff, Nat.reduceLT, reduceIte, reduceCtorEq, Nat.reduceEqDiff, Nat.reduceSub, Nat.reduceAdd] <;> rfl) (by simp only [go_sem, Nat.reduceMul, Nat.reduceLeDiff, Nat.reduceLT, reduceIte, reduceCtorEq, Nat.reduceEqDiff, Nat.reduceSub, Nat.reduceAdd] <;> rfl) rfl (by simp only [go_sem, Nat.reduceMul, Nat.reduceLeDiff, Nat.reduceLT, reduceIte, reduceCtorEq, Nat.reduceEqDiff, Nat.reduceSub, Nat.reduceAdd] <;> rfl) rfl (by first | rfl | (simp only [go_sem, Nat.reduceMul, Nat.reduceLeDiff, Nat.reduceLT, reduceIte, reduceCtorEq, Nat.reduceEqDiff, Nat.reduceSub, Nat.reduceAdd] <;> rfl)) (Nat.le_of_ble_eq_true rfl) ?_
    simp only [Tryz.results47, go_sem, Nat.reduceMul, Nat.reduceLeDiff, Nat.reduceLT, reduceIte, reduceCtorEq, Nat.reduceEqDiff, Nat.reduceSub, Nat.reduceAdd]
    refine ⟨by unfold InR; omega, i + 1, by omega, by omega, by push_cast; rfl, ?_⟩
    rw [I_append, List.take_succ_eq_append_getElem hiq, List.map_append]
    rfl
  · obtain rfl : i = q.length := by omega
    rw [List.take_length]
    refine HereO.call T_ok rfl rfl (l02Is_spec t (numZ a) (q.map numZ) hg) (by simp only [go_sem, Nat.reduceMul, Nat.reduceLeDiff, Nat.reduceLT, reduceIte, reduceCtorEq, Nat.reduceEqDiff, Nat.reduceSub, Nat.reduceAdd, List.toList_toArray] <;> first | rfl | exact ⟨rfl, rfl⟩) rfl ?_
    simp only [Tryz.results47, go_sem, Nat.reduceMul, Nat.reduceLeDiff, Nat.reduceLT, reduceIte, reduceCtorEq, Nat.reduceEqDiff, Nat.reduceSub, Nat.reduceAdd]
    refine ⟨fun hm => ?_, fun hm => ?_⟩
    · have h8 := hg.2.1
      have hml := hm.2.1
      have hm12 := hm.1
      rw [hq] at hm
      obtain ⟨p1, p2, p3, p4⟩ := pm_back hg hab hm
      rw [← hq] at p3 p4
      refine HereO.call T_ok rfl rfl (l02Text_spec (numZ a) (q.map numZ) (by omega) (fun x hx => by have := Mod.unit_mem (by rw [hq]; exact hm) x hx; omega) (by omega)) (by simp only [go_sem, Nat.reduceMul, Nat.reduceLeDiff, Nat.reduceLT, reduceIte, reduceCtorEq, Nat.reduceEqDiff, Nat.reduceSub, Nat.reduceAdd, List.toList_toArray] <;> first | rfl | exact ⟨rfl, rfl⟩) rfl ?_
      simp only [Tryz.results47, go_sem, Nat.reduceMul, Nat.reduceLeDiff, Nat.reduceLT, reduceIte, reduceCtorEq, Nat.reduceEqDiff, Nat.reduceSub, Nat.reduceAdd]
      rw [p4]
      refine ⟨fun z => absurd rfl z, fun _ => ?_⟩
      rw [if_pos p1, if_pos p1, decide_eq_true p1, p2, p3]
      refine HereO.storeAgg T_ok rfl (by simp only [go_sem, Nat.reduceMul, Nat.reduceLeDiff, Nat.reduceLT, reduceIte, reduceCtorEq, Nat.reduceEqDiff, Nat.reduceSub, Nat.reduceAdd] <;> rfl) (by simp only [go_sem, Nat.reduceMul, Nat.reduceLeDiff, Nat.reduceLT, reduceIte, reduceCtorEq, Nat.reduceEqDiff, Nat.reduceSub, Nat.reduceAdd] <;> rfl) rfl (by simp only [go_sem, Nat.reduceMul, Nat.reduceLeDiff, Nat.reduceLT, reduceIte, reduceCtorEq, Nat.reduceEqDiff, Nat.reduceSub, Nat.reduceAdd] <;> rfl) (by first | rfl | (simp only [go_sem, Nat.reduceMul, Nat.reduceLeDiff, Nat.reduceLT, reduceIte, reduceCtorEq, Nat.reduceEqDiff, Nat.reduceSub, Nat.reduceAdd] <;> rfl)) rfl rfl ?_
      simp only [Tryz.results47, go_sem, Nat.reduceMul, Nat.reduceLeDiff, Nat.reduceLT, reduceIte, reduceCtorEq, Nat.reduceEqDiff, Nat.reduceSub, Nat.reduceAdd]
      exact RetC.of (RetT.one 120 (by simp only [Tryz.results47, go_sem, Nat.reduceMul, Nat.reduceLeDiff, Nat.reduceLT, reduceIte, reduceCtorEq, Nat.reduceEqDiff, Nat.reduceSub, Nat.reduceAdd]; rfl) (by simp only [Tryz.results47, go_sem, Nat.reduceMul, Nat.reduceLeDiff, Nat.reduceLT, reduceIte, reduceCtorEq, Nat.reduceEqDiff, Nat.reduceSub, Nat.reduceAdd] <;> simp [I]) (by simp only [Tryz.results47, go_sem, Nat.reduceMul, Nat.reduceLeDiff, Nat.reduceLT, reduceIte, reduceCtorEq, Nat.reduceEqDiff, Nat.reduceSub, Nat.reduceAdd] <;> simp [I]))
    · obtain ⟨b1, b2, b3⟩ := no fun z => by
        obtain ⟨a', b', e, hm'⟩ := pm_parts hg z
        rw [hab] at e
        simp only [List.cons.injEq, and_true] at e
        rw [← e.1, ← e.2, ← hq] at hm'
        exact hm hm'
      rw [b1, b2, b3]
      refine HereO.opP T_ok (OpP.build built_35 rfl rfl rfl rfl) ?_
      simp only [Tryz.results47, go_sem, Nat.reduceMul, Nat.reduceLeDiff, Nat.reduceLT, reduceIte, reduceCtorEq, Nat.reduceEqDiff, Nat.reduceSub, Nat.reduceAdd]
      refine HereO.storeAgg T_ok rfl (by simp only [go_sem, Nat.reduceMul, Nat.reduceLeDiff, Nat.reduceLT, reduceIte, reduceCtorEq, Nat.reduceEqDiff, Nat.reduceSub, Nat.reduceAdd] <;> rfl) (by simp only [go_sem, Nat.reduceMul, Nat.reduceLeDiff, Nat.reduceLT, reduceIte, reduceCtorEq, Nat.reduceEqDiff, Nat.reduceSub, Nat.reduceAdd] <;> rfl) rfl (by simp only [go_sem, Nat.reduceMul, Nat.reduceLeDiff, Nat.reduceLT, reduceIte, reduceCtorEq, Nat.reduceEqDiff, Nat.reduceSub, Nat.reduceAdd] <;> rfl) (by first | rfl | (simp only [go_sem, Nat.reduceMul, Nat.reduceLeDiff, Nat.reduceLT, reduceIte, reduceCtorEq, Nat.reduceEqDiff, Nat.reduceSub, Nat.reduceAdd] <;> rfl)) rfl rfl ?_
      simp only [Tryz.results47, go_sem, Nat.reduceMul, Nat.reduceLeDiff, Nat.reduceLT, reduceIte, reduceCtorEq, Nat.reduceEqDiff, Nat.reduceSub, Nat.reduceAdd]
      exact RetC.conv (Conv.nilIn (c := 104) (tt := 35) (l := [.v (.int .i64 0), .v nilV]) 1 130 (.row 2 []) rfl (by decide) (by decide) (by rfl) rfl) (RetC.of (RetT.one 130 (by simp only [Tryz.results47, go_sem, Nat.reduceMul, Nat.reduceLeDiff, Nat.reduceLT, reduceIte, reduceCtorEq, Nat.reduceEqDiff, Nat.reduceSub, Nat.reduceAdd]; rfl) (by simp only [Tryz.results47, go_sem, Nat.reduceMul, Nat.reduceLeDiff, Nat.reduceLT, reduceIte, reduceCtorEq, Nat.reduceEqDiff, Nat.reduceSub, Nat.reduceAdd] <;> simp [I]) (by simp only [Tryz.results47, go_sem, Nat.reduceMul, Nat.reduceLeDiff, Nat.reduceLT, reduceIte, reduceCtorEq, Nat.reduceEqDiff, Nat.reduceSub, Nat.reduceAdd] <;> simp [I])))
theorem specParseModuleL (t : List (List Int)) (l : List UInt8) (hll : l.length ≤ 1048576) : Spec Tryz.prog 22 [.agg [.rds (II t)], .v (.string (strB l))] (.tup [.agg [.v (.int .i64 (if Grp t ∧ pmOk t l then numI (oneOf l) else 0)), .own 0], .v (.int .i64 (if Grp t then (if pmOk t l then 0 else 6) else 1))]) [.row 2 (I (if Grp t ∧ pmOk t l then hdL (restOf l) else []))] := by
  refine Spec.of_codeC T_ok Tryz.func22 rfl Tryz.ntmps22 Tryz.call22 (Nat.le_of_ble_eq_true rfl) rfl rfl (CodeV_sound T_ok (by kernel_rfl) rfl ?_)
  simp only [Tryz.results22, go_sem, Nat.reduceMul, Nat.reduceLeDiff, Nat.reduceLT, reduceIte, reduceCtorEq, Nat.reduceEqDiff, Nat.reduceSub, Nat.reduceAdd]
  refine HereO.alloc T_ok 104 rfl rfl (by decide) ?_
  simp only [Tryz.results22, go_sem, Nat.reduceMul, Nat.reduceLeDiff, Nat.reduceLT, reduceIte, reduceCtorEq, Nat.reduceEqDiff, Nat.reduceSub, Nat.reduceAdd]
  refine HereO.call T_ok rfl rfl (l01Is_spec t) (by simp only [go_sem, Nat.reduceMul, Nat.reduceLeDiff, Nat.reduceLT, reduceIte, reduceCtorEq, Nat.reduceEqDiff, Nat.reduceSub, Nat.reduceAdd, List.toList_toArray] <;> first | rfl | exact ⟨rfl, rfl⟩) rfl ?_
  simp only [Tryz.results22, go_sem, Nat.reduceMul, Nat.reduceLeDiff, Nat.reduceLT, reduceIte, reduceCtorEq, Nat.reduceEqDiff, Nat.reduceSub, Nat.reduceAdd]
  refine ⟨fun h => ?_, fun h => ?_⟩
  · rw [if_neg (fun q => h q.1), if_neg h, if_neg (fun q => h q.1)]
    refine HereO.opP T_ok (OpP.build built_35 rfl rfl rfl rfl) ?_
    simp only [Tryz.results22, go_sem, Nat.reduceMul, Nat.reduceLeDiff, Nat.reduceLT, reduceIte, reduceCtorEq, Nat.reduceEqDiff, Nat.reduceSub, Nat.reduceAdd]
    refine HereO.storeAgg T_ok rfl (by simp only [go_sem, Nat.reduceMul, Nat.reduceLeDiff, Nat.reduceLT, reduceIte, reduceCtorEq, Nat.reduceEqDiff, Nat.reduceSub, Nat.reduceAdd] <;> rfl) (by simp only [go_sem, Nat.reduceMul, Nat.reduceLeDiff, Nat.reduceLT, reduceIte, reduceCtorEq, Nat.reduceEqDiff, Nat.reduceSub, Nat.reduceAdd] <;> rfl) rfl (by simp only [go_sem, Nat.reduceMul, Nat.reduceLeDiff, Nat.reduceLT, reduceIte, reduceCtorEq, Nat.reduceEqDiff, Nat.reduceSub, Nat.reduceAdd] <;> rfl) (by first | rfl | (simp only [go_sem, Nat.reduceMul, Nat.reduceLeDiff, Nat.reduceLT, reduceIte, reduceCtorEq, Nat.reduceEqDiff, Nat.reduceSub, Nat.reduceAdd] <;> rfl)) rfl rfl ?_
    simp only [Tryz.results22, go_sem, Nat.reduceMul, Nat.reduceLeDiff, Nat.reduceLT, reduceIte, reduceCtorEq, Nat.reduceEqDiff, Nat.reduceSub, Nat.reduceAdd]
    exact RetC.conv (Conv.nilIn (c := 104) (tt := 35) (l := [.v (.int .i64 0), .v nilV]) 1 120 (.row 2 []) rfl (by decide) (by decide) (by rfl) rfl) (RetC.of (RetT.one 120 (by simp only [Tryz.results22, go_sem, Nat.reduceMul, Nat.reduceLeDiff, Nat.reduceLT, reduceIte, reduceCtorEq, Nat.reduceEqDiff, Nat.reduceSub, Nat.reduceAdd]; rfl) (by simp only [Tryz.results22, go_sem, Nat.reduceMul, Nat.reduceLeDiff, Nat.reduceLT, reduceIte, reduceCtorEq, Nat.reduceEqDiff, Nat.reduceSub, Nat.reduceAdd] <;> simp [I]) (by simp only [Tryz.results22, go_sem, Nat.reduceMul, Nat.reduceLeDiff, Nat.reduceLT, reduceIte, reduceCtorEq, Nat.reduceEqDiff, Nat.reduceSub, Nat.reduceAdd] <;> simp [I])))
  · have hr := l02Read_spec t l h hll
    by_cases hp : pmOk t l
    · have hgp : Grp t ∧ pmOk t l := ⟨h, hp⟩
      rw [if_pos hp, if_pos hp, decide_eq_true hp] at hr
      rw [if_pos hgp, if_pos h, if_pos hp, if_pos hgp]
      refine HereO.callOwn T_ok 15 rfl rfl (hr) (by simp only [go_sem, Nat.reduceMul, Nat.reduceLeDiff, Nat.reduceLT, reduceIte, reduceCtorEq, Nat.reduceEqDiff, Nat.reduceSub, Nat.reduceAdd, List.toList_toArray] <;> first | rfl | exact ⟨rfl, rfl⟩) rfl (by simp) rfl ?_
      simp only [Tryz.results22, go_sem, Nat.reduceMul, Nat.reduceLeDiff, Nat.reduceLT, reduceIte, reduceCtorEq, Nat.reduceEqDiff, Nat.reduceSub, Nat.reduceAdd]
      refine HereO.alloc T_ok 106 rfl rfl (by decide) ?_
      simp only [Tryz.results22, go_sem, Nat.reduceMul, Nat.reduceLeDiff, Nat.reduceLT, reduceIte, reduceCtorEq, Nat.reduceEqDiff, Nat.reduceSub, Nat.reduceAdd]
      refine HereO.storeAgg T_ok rfl (by simp only [go_sem, Nat.reduceMul, Nat.reduceLeDiff, Nat.reduceLT, reduceIte, reduceCtorEq, Nat.reduceEqDiff, Nat.reduceSub, Nat.reduceAdd] <;> rfl) (by simp only [go_sem, Nat.reduceMul, Nat.reduceLeDiff, Nat.reduceLT, reduceIte, reduceCtorEq, Nat.reduceEqDiff, Nat.reduceSub, Nat.reduceAdd] <;> rfl) rfl (by simp only [go_sem, Nat.reduceMul, Nat.reduceLeDiff, Nat.reduceLT, reduceIte, reduceCtorEq, Nat.reduceEqDiff, Nat.reduceSub, Nat.reduceAdd] <;> rfl) (by first | rfl | (simp only [go_sem, Nat.reduceMul, Nat.reduceLeDiff, Nat.reduceLT, reduceIte, reduceCtorEq, Nat.reduceEqDiff, Nat.reduceSub, Nat.reduceAdd] <;> rfl)) rfl rfl ?_
      simp only [Tryz.results22, go_sem, Nat.reduceMul, Nat.reduceLeDiff, Nat.reduceLT, reduceIte, reduceCtorEq, Nat.reduceEqDiff, Nat.reduceSub, Nat.reduceAdd]
      refine HereO.storeAgg T_ok rfl (by simp only [go_sem, Nat.reduceMul, Nat.reduceLeDiff, Nat.reduceLT, reduceIte, reduceCtorEq, Nat.reduceEqDiff, Nat.reduceSub, Nat.reduceAdd] <;> rfl) (by simp only [go_sem, Nat.reduceMul, Nat.reduceLeDiff, Nat.reduceLT, reduceIte, reduceCtorEq, Nat.reduceEqDiff, Nat.reduceSub, Nat.reduceAdd] <;> rfl) rfl (by simp only [go_sem, Nat.reduceMul, Nat.reduceLeDiff, Nat.reduceLT, reduceIte, reduceCtorEq, Nat.reduceEqDiff, Nat.reduceSub, Nat.reduceAdd] <;> rfl) (by first | rfl | (simp only [go_sem, Nat.reduceMul, Nat.reduceLeDiff, Nat.reduceLT, reduceIte, reduceCtorEq, Nat.reduceEqDiff, Nat.reduceSub, Nat.reduceAdd] <;> rfl)) rfl rfl ?_
      simp only [Tryz.results22, go_sem, Nat.reduceMul, Nat.reduceLeDiff, Nat.reduceLT, reduceIte, reduceCtorEq, Nat.reduceEqDiff, Nat.reduceSub, Nat.reduceAdd]
      exact RetC.of (RetT.one 1240 (by simp only [Tryz.results22, go_sem, Nat.reduceMul, Nat.reduceLeDiff, Nat.reduceLT, reduceIte, reduceCtorEq, Nat.reduceEqDiff, Nat.reduceSub, Nat.reduceAdd]; rfl) (by simp only [Tryz.results22, go_sem, Nat.reduceMul, Nat.reduceLeDiff, Nat.reduceLT, reduceIte, reduceCtorEq, Nat.reduceEqDiff, Nat.reduceSub, Nat.reduceAdd] <;> simp [I]) (by simp only [Tryz.results22, go_sem, Nat.reduceMul, Nat.reduceLeDiff, Nat.reduceLT, reduceIte, reduceCtorEq, Nat.reduceEqDiff, Nat.reduceSub, Nat.reduceAdd] <;> simp [I]))
    · have hgp : ¬ (Grp t ∧ pmOk t l) := fun q => hp q.2
      rw [if_neg hp, if_neg hp, decide_eq_false hp] at hr
      rw [if_neg hgp, if_pos h, if_neg hp, if_neg hgp]
      refine HereO.callOwn T_ok 15 rfl rfl (hr) (by simp only [go_sem, Nat.reduceMul, Nat.reduceLeDiff, Nat.reduceLT, reduceIte, reduceCtorEq, Nat.reduceEqDiff, Nat.reduceSub, Nat.reduceAdd, List.toList_toArray] <;> first | rfl | exact ⟨rfl, rfl⟩) rfl (by simp) rfl ?_
      simp only [Tryz.results22, go_sem, Nat.reduceMul, Nat.reduceLeDiff, Nat.reduceLT, reduceIte, reduceCtorEq, Nat.reduceEqDiff, Nat.reduceSub, Nat.reduceAdd]
      refine HereO.alloc T_ok 106 rfl rfl (by decide) ?_
      simp only [Tryz.results22, go_sem, Nat.reduceMul, Nat.reduceLeDiff, Nat.reduceLT, reduceIte, reduceCtorEq, Nat.reduceEqDiff, Nat.reduceSub, Nat.reduceAdd]
      refine HereO.storeAgg T_ok rfl (by simp only [go_sem, Nat.reduceMul, Nat.reduceLeDiff, Nat.reduceLT, reduceIte, reduceCtorEq, Nat.reduceEqDiff, Nat.reduceSub, Nat.reduceAdd] <;> rfl) (by simp only [go_sem, Nat.reduceMul, Nat.reduceLeDiff, Nat.reduceLT, reduceIte, reduceCtorEq, Nat.reduceEqDiff, Nat.reduceSub, Nat.reduceAdd] <;> rfl) rfl (by simp only [go_sem, Nat.reduceMul, Nat.reduceLeDiff, Nat.reduceLT, reduceIte, reduceCtorEq, Nat.reduceEqDiff, Nat.reduceSub, Nat.reduceAdd] <;> rfl) (by first | rfl | (simp only [go_sem, Nat.reduceMul, Nat.reduceLeDiff, Nat.reduceLT, reduceIte, reduceCtorEq, Nat.reduceEqDiff, Nat.reduceSub, Nat.reduceAdd] <;> rfl)) rfl rfl ?_
      simp only [Tryz.results22, go_sem, Nat.reduceMul, Nat.reduceLeDiff, Nat.reduceLT, reduceIte, reduceCtorEq, Nat.reduceEqDiff, Nat.reduceSub, Nat.reduceAdd]
      refine HereO.opP T_ok (OpP.build built_35 rfl rfl rfl rfl) ?_
      simp only [Tryz.results22, go_sem, Nat.reduceMul, Nat.reduceLeDiff, Nat.reduceLT, reduceIte, reduceCtorEq, Nat.reduceEqDiff, Nat.reduceSub, Nat.reduceAdd]
      refine HereO.storeAgg T_ok rfl (by simp only [go_sem, Nat.reduceMul, Nat.reduceLeDiff, Nat.reduceLT, reduceIte, reduceCtorEq, Nat.reduceEqDiff, Nat.reduceSub, Nat.reduceAdd] <;> rfl) (by simp only [go_sem, Nat.reduceMul, Nat.reduceLeDiff, Nat.reduceLT, reduceIte, reduceCtorEq, Nat.reduceEqDiff, Nat.reduceSub, Nat.reduceAdd] <;> rfl) rfl (by simp only [go_sem, Nat.reduceMul, Nat.reduceLeDiff, Nat.reduceLT, reduceIte, reduceCtorEq, Nat.reduceEqDiff, Nat.reduceSub, Nat.reduceAdd] <;> rfl) (by first | rfl | (simp only [go_sem, Nat.reduceMul, Nat.reduceLeDiff, Nat.reduceLT, reduceIte, reduceCtorEq, Nat.reduceEqDiff, Nat.reduceSub, Nat.reduceAdd] <;> rfl)) rfl rfl ?_
      simp only [Tryz.results22, go_sem, Nat.reduceMul, Nat.reduceLeDiff, Nat.reduceLT, reduceIte, reduceCtorEq, Nat.reduceEqDiff, Nat.reduceSub, Nat.reduceAdd]
      exact RetC.conv (Conv.nilIn (c := 104) (tt := 35) (l := [.v (.int .i64 0), .v nilV]) 1 120 (.row 2 []) rfl (by decide) (by decide) (by rfl) rfl) (RetC.of (RetT.one 120 (by simp only [Tryz.results22, go_sem, Nat.reduceMul, Nat.reduceLeDiff, Nat.reduceLT, reduceIte, reduceCtorEq, Nat.reduceEqDiff, Nat.reduceSub, Nat.reduceAdd]; rfl) (by simp only [Tryz.results22, go_sem, Nat.reduceMul, Nat.reduceLeDiff, Nat.reduceLT, reduceIte, reduceCtorEq, Nat.reduceEqDiff, Nat.reduceSub, Nat.reduceAdd] <;> simp [I]) (by simp only [Tryz.results22, go_sem, Nat.reduceMul, Nat.reduceLeDiff, Nat.reduceLT, reduceIte, reduceCtorEq, Nat.reduceEqDiff, Nat.reduceSub, Nat.reduceAdd] <;> simp [I])))
theorem implParseModule (t : List (List Int)) (s : ByteArray) (hs : s.size ≤ 1048576) : Spec Tryz.prog 21 [.agg [.rds (II t)], .v (.string s)] (.tup [.agg [.v (.int .i64 (pmM t s)), .own 0], .v (.int .i64 (pmC t s))]) [.row 2 (I (pmU t s))] := by
  have h := implParseModuleL t s.data.toList (by rw [← Lib.size_eq]; exact hs)
  rw [strB_data] at h
  exact h
theorem specParseModule (t : List (List Int)) (s : ByteArray) (hs : s.size ≤ 1048576) : Spec Tryz.prog 22 [.agg [.rds (II t)], .v (.string s)] (.tup [.agg [.v (.int .i64 (pmM t s)), .own 0], .v (.int .i64 (pmC t s))]) [.row 2 (I (pmU t s))] := by
  have h := specParseModuleL t s.data.toList (by rw [← Lib.size_eq]; exact hs)
  rw [strB_data] at h
  exact h
end Go.Proofs.YtcjhojdlfnpgjaaGreatDoor
