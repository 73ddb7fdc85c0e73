/- Contracts: what the laws use to tell memory apart: marks that are written into rows, and looked for. -/
import Derived.Test.YtipdgkohfmpilaaWe
import Derived.Test.YtipdgkohfmpilaaFb
namespace Go.Proofs.Ytipdgkohfmpilaa
open Go.RowKit
set_option linter.unusedVariables false
set_option linter.unusedSimpArgs false
set_option maxRecDepth 100000

def marks (k : Int) : Nat → List Int
  | 0 => []
  | n + 1 => marks k n ++ [k + n]
theorem marks_len (k : Int) : ∀ n, (marks k n).length = n
  | 0 => rfl
  | n + 1 => by simp [marks, marks_len k n]
theorem marks_set (k : Int) (xs : List Int) (i : Nat) (hi : i < xs.length) : (marks k i ++ xs.drop i).set i (k + i) = marks k (i + 1) ++ xs.drop (i + 1) := by
  rw [List.set_append_right _ _ (by rw [marks_len]; omega), marks_len, Nat.sub_self, List.drop_eq_getElem_cons hi, List.set_cons_zero, marks, List.append_assoc]
  rfl
theorem marks_get (k : Int) : ∀ (n i : Nat), i < n → (marks k n).getD i 0 = k + i
  | n + 1, i, h => by
    unfold marks
    by_cases e : i < n
    · have := marks_get k n i e
      rw [List.getD_eq_getElem?_getD] at *
      rw [List.getElem?_append_left (by rw [marks_len]; exact e)]
      exact this
    · obtain rfl : i = n := by omega
      simp [List.getD_eq_getElem?_getD, List.getElem?_append_right, marks_len]

theorem markS_spec (xs : List Int) (k : Int) (e : Nat) (h0 : 0 ≤ k) (h1 : k + xs.length ≤ 9223372036854775807) : SpecM Try.prog 26 [.own 0, .v (.int .i64 k)] [.row e (I xs)] (.v (.int .i64 (k + xs.length))) [some (.row e (I (marks k xs.length)))] := by
  refine SpecM.of_code' T_ok Try.func26 rfl Try.ntmps26 Try.call26 (Nat.le_of_ble_eq_true rfl) (Nat.le_of_ble_eq_true rfl) (Nat.le_of_ble_eq_true rfl) rfl rfl (CodeV_sound T_ok (by kernel_rfl) rfl ?_)
  simp only [Try.results26, go_sem, Nat.reduceMul, Nat.reduceLeDiff, Nat.reduceLT, reduceIte, reduceCtorEq, Nat.reduceEqDiff, Nat.reduceSub, Nat.reduceAdd]
  refine Here.loopV T_ok (fun i => i ≤ xs.length) (fun i => xs.length - i) (fun i => [(0, .own 0), (1, .v (.int .i64 (k + (i : Nat)))), (5, .v (.int .i64 i))]) (fun i => [(0, .row e (I (marks k i ++ xs.drop i)))]) 0 (by simp) (by simp only [Try.results26, go_sem, Nat.reduceMul, Nat.reduceLeDiff, Nat.reduceLT, reduceIte, reduceCtorEq, Nat.reduceEqDiff, Nat.reduceSub, Nat.reduceAdd]; simp) (by simp only [Try.results26, go_sem, Nat.reduceMul, Nat.reduceLeDiff, Nat.reduceLT, reduceIte, reduceCtorEq, Nat.reduceEqDiff, Nat.reduceSub, Nat.reduceAdd]; rfl) ?_
  intro i hi
  have hlen : (marks k i ++ xs.drop i).length = xs.length := by simp [marks_len]; omega
  simp only [Try.results26, go_sem, Nat.reduceMul, Nat.reduceLeDiff, Nat.reduceLT, reduceIte, reduceCtorEq, Nat.reduceEqDiff, Nat.reduceSub, Nat.reduceAdd]
  rw [hlen]
  refine ⟨fun h2 => ⟨⟨by omega, by omega⟩, ?_⟩, fun h2 => ?_⟩
  · refine HereO.storeRow T_ok rfl rfl rfl rfl rfl rfl (by rw [I_len, hlen]; omega) ?_
    simp only [Try.results26, go_sem, Nat.reduceMul, Nat.reduceLeDiff, Nat.reduceLT, reduceIte, reduceCtorEq, Nat.reduceEqDiff, Nat.reduceSub, Nat.reduceAdd]
    refine ⟨by unfold InR; omega, by unfold InR; omega, i + 1, by omega, by omega, by simp; omega, by rw [I_set, marks_set _ _ _ (by omega)]⟩
  · have hi' : i = xs.length := by omega
    subst hi'
    refine RetM.one0 (by simp only [Try.results26, go_sem, Nat.reduceMul, Nat.reduceLeDiff, Nat.reduceLT, reduceIte, reduceCtorEq, Nat.reduceEqDiff, Nat.reduceSub, Nat.reduceAdd]; rfl) rfl ?_
    simp only [Try.results26, go_sem, Nat.reduceMul, Nat.reduceLeDiff, Nat.reduceLT, reduceIte, reduceCtorEq, Nat.reduceEqDiff, Nat.reduceSub, Nat.reduceAdd]
    simp

/-- Where marks are looked for. -/
def heldS : List Int → Int → Int
  | [], k => k
  | x :: xs, k => if x = k then heldS xs (k + 1) else -1
theorem heldS_step {xs : List Int} {i : Nat} (hi : i < xs.length) (k : Int) : heldS (xs.drop i) k = if xs.getD i 0 = k then heldS (xs.drop (i + 1)) (k + 1) else -1 := by
  rw [List.drop_eq_getElem_cons hi]
  simp [heldS, List.getElem?_eq_getElem hi]
theorem heldS_spec (xs : List Int) (k : Int) (h0 : 0 ≤ k) (h1 : k + xs.length ≤ 9223372036854775807) : Spec Try.prog 27 [.rd (I xs), .v (.int .i64 k)] (.v (.int .i64 (heldS xs k))) [] := by
  refine Spec.of_code T_ok Try.func27 rfl Try.ntmps27 Try.call27 (Nat.le_of_ble_eq_true rfl) rfl rfl (CodeV_sound T_ok (by kernel_rfl) rfl ?_)
  simp only [Try.results27, go_sem, Nat.reduceMul, Nat.reduceLeDiff, Nat.reduceLT, reduceIte, reduceCtorEq, Nat.reduceEqDiff, Nat.reduceSub, Nat.reduceAdd]
  refine Here.loopV T_ok (fun i => i ≤ xs.length ∧ heldS xs k = heldS (xs.drop i) (k + (i : Nat))) (fun i => xs.length - i) (fun i => [(0, .rd (I xs)), (1, .v (.int .i64 (k + (i : Nat)))), (5, .v (.int .i64 i))]) (fun i => []) 0 (by simp) (by simp only [Try.results27, go_sem, Nat.reduceMul, Nat.reduceLeDiff, Nat.reduceLT, reduceIte, reduceCtorEq, Nat.reduceEqDiff, Nat.reduceSub, Nat.reduceAdd]; simp) trivial ?_
  rintro i ⟨hi, hs⟩
  simp only [Try.results27, go_sem, Nat.reduceMul, Nat.reduceLeDiff, Nat.reduceLT, reduceIte, reduceCtorEq, Nat.reduceEqDiff, Nat.reduceSub, Nat.reduceAdd]
  refine ⟨fun h2 => ?_, fun h2 => ?_⟩
  · have := heldS_step (xs := xs) (i := i) (by omega) (k + (i : Nat))
    refine ⟨by omega, fun h3 => ?_, fun h3 => ?_⟩
    · rw [hs, this, if_neg h3]
    · rw [if_pos h3] at this
      refine ⟨by unfold InR; omega, by unfold InR; omega, i + 1, ⟨by omega, ?_⟩, by omega, ?_, ?_⟩
      · rw [hs, this]; congr 1; simp; omega
      · simp; omega
      · trivial
  · rw [hs, List.drop_eq_nil_of_le (by omega)]
    show k + (i : Int) = k + i
    rfl
theorem heldS_marks (k : Int) (n : Nat) : heldS (marks k n) k = k + n := by
  have key : ∀ m i, i + m = n → heldS ((marks k n).drop i) (k + (i : Nat)) = k + n := by
    intro m
    induction m with
    | zero =>
      intro i h
      rw [List.drop_eq_nil_of_le (by rw [marks_len]; omega), heldS]
      omega
    | succ m ih =>
      intro i h
      rw [heldS_step (by rw [marks_len]; omega), marks_get k n i (by omega), if_pos rfl]
      have := ih (i + 1) (by omega)
      rw [← this]
      congr 1
      simp; omega
  simpa using key n 0 (by omega)

def marksS (k : Int) : List (List Int) → List (List Int)
  | [] => []
  | r :: t => marks k r.length :: marksS (k + r.length) t
def cellsOf : List (List Int) → Nat
  | [] => 0
  | r :: t => r.length + cellsOf t
theorem marksS_len (k : Int) : ∀ (t : List (List Int)), (marksS k t).length = t.length
  | [] => rfl
  | r :: t => by simp [marksS, marksS_len _ t]
theorem cellsOf_step {t : List (List Int)} {i : Nat} (hi : i < t.length) : cellsOf (t.take (i + 1)) = cellsOf (t.take i) + (t.getD i []).length := by
  induction t generalizing i with
  | nil => simp at hi
  | cons r t ih =>
    cases i with
    | zero => simp [cellsOf]
    | succ i => have := ih (i := i) (by simpa using hi); simp [cellsOf] at this ⊢; omega
theorem cellsOf_le (t : List (List Int)) (i : Nat) : cellsOf (t.take i) ≤ cellsOf t := by
  induction t generalizing i with
  | nil => simp [cellsOf]
  | cons r t ih => cases i with
    | zero => simp [cellsOf]
    | succ i => have := ih i; simp [cellsOf]; omega
theorem marksS_take {t : List (List Int)} {i : Nat} (hi : i < t.length) (k : Int) : marksS k (t.take (i + 1)) = marksS k (t.take i) ++ [marks (k + cellsOf (t.take i)) (t.getD i []).length] := by
  induction t generalizing i k with
  | nil => simp at hi
  | cons r t ih =>
    cases i with
    | zero => simp [marksS, cellsOf]
    | succ i =>
      have := ih (i := i) (by simpa using hi) (k + r.length)
      simp only [List.take_succ_cons, marksS, this, List.cons_append, List.getD_cons_succ, cellsOf]
      rw [show k + (r.length : Int) + (cellsOf (t.take i) : Int) = k + ((r.length + cellsOf (t.take i) : Nat) : Int) by push_cast; omega]
theorem marksS_set {t : List (List Int)} {i : Nat} (hi : i < t.length) (k : Int) : (marksS k (t.take i) ++ t.drop i).set i (marks (k + cellsOf (t.take i)) (t.getD i []).length) = marksS k (t.take (i + 1)) ++ t.drop (i + 1) := by
  have hl : (marksS k (t.take i)).length = i := by rw [marksS_len]; simp; omega
  rw [List.set_append_right _ _ (by omega), hl, Nat.sub_self, List.drop_eq_getElem_cons hi, List.set_cons_zero, marksS_take hi, List.append_assoc]
  rfl

theorem markSS_spec (t : List (List Int)) (k : Int) (h0 : 0 ≤ k) (h1 : k + cellsOf t ≤ 9223372036854775807) (hl : t.length < 9223372036854775807) : SpecM Try.prog 11 [.own 0, .v (.int .i64 k)] [.rows 39 2 (II t)] (.v (.int .i64 (k + cellsOf t))) [some (.rows 39 2 (II (marksS k t)))] := by
  refine SpecM.of_code' T_ok Try.func11 rfl Try.ntmps11 Try.call11 (Nat.le_of_ble_eq_true rfl) (Nat.le_of_ble_eq_true rfl) (Nat.le_of_ble_eq_true rfl) rfl rfl (CodeV_sound T_ok (by kernel_rfl) rfl ?_)
  simp only [Try.results11, go_sem, Nat.reduceMul, Nat.reduceLeDiff, Nat.reduceLT, reduceIte, reduceCtorEq, Nat.reduceEqDiff, Nat.reduceSub, Nat.reduceAdd]
  refine Here.loopV T_ok (fun i => i ≤ t.length) (fun i => t.length - i) (fun i => [(0, .own 0), (1, .v (.int .i64 (k + (cellsOf (t.take i) : Nat)))), (5, .v (.int .i64 i))]) (fun i => [(0, .rows 39 2 (II (marksS k (t.take i) ++ t.drop i)))]) 0 (by simp) (by simp only [Try.results11, go_sem, Nat.reduceMul, Nat.reduceLeDiff, Nat.reduceLT, reduceIte, reduceCtorEq, Nat.reduceEqDiff, Nat.reduceSub, Nat.reduceAdd]; simp [cellsOf]) (by simp only [Try.results11, go_sem, Nat.reduceMul, Nat.reduceLeDiff, Nat.reduceLT, reduceIte, reduceCtorEq, Nat.reduceEqDiff, Nat.reduceSub, Nat.reduceAdd]; simp [marksS]) ?_
  intro i hi
  have hlen : (marksS k (t.take i) ++ t.drop i).length = t.length := by simp [marksS_len]; omega
  simp only [Try.results11, go_sem, Nat.reduceMul, Nat.reduceLeDiff, Nat.reduceLT, reduceIte, reduceCtorEq, Nat.reduceEqDiff, Nat.reduceSub, Nat.reduceAdd]
  rw [hlen]
  refine ⟨fun h2 => ⟨⟨by omega, by omega⟩, ?_⟩, fun h2 => ?_⟩
  · refine HereO.openRow T_ok 200 rfl rfl rfl rfl (by rw [II_len, hlen]; omega) (by decide) (by decide) ?_
    simp only [Try.results11, go_sem, Nat.reduceMul, Nat.reduceLeDiff, Nat.reduceLT, reduceIte, reduceCtorEq, Nat.reduceEqDiff, Nat.reduceSub, Nat.reduceAdd]
    have hg : (marksS k (t.take i) ++ t.drop i).getD i [] = t.getD i [] := by
      have hl : (marksS k (t.take i)).length = i := by rw [marksS_len]; simp; omega
      rw [List.getD_eq_getElem?_getD, List.getD_eq_getElem?_getD, List.getElem?_append_right (by omega), hl, Nat.sub_self, List.getElem?_drop]
      simp
    have hc := cellsOf_step (t := t) (i := i) (by omega)
    have hcl := cellsOf_le t (i + 1)
    rw [hg]
    refine HereO.callMC T_ok 30 [200] rfl rfl (markS_spec (t.getD i []) (k + (cellsOf (t.take i) : Nat)) 2 (by omega) (by omega)) (by simp only [go_sem, Nat.reduceMul, Nat.reduceLeDiff, Nat.reduceLT, reduceIte, reduceCtorEq, Nat.reduceEqDiff, Nat.reduceSub, Nat.reduceAdd, List.toList_toArray, ↓reduceIte]) (by simp only [go_sem, Nat.reduceMul, Nat.reduceLeDiff, Nat.reduceLT, reduceIte, reduceCtorEq, Nat.reduceEqDiff, Nat.reduceSub, Nat.reduceAdd]) (by decide) (by decide) rfl rfl (Nat.le_of_ble_eq_true rfl)
      (Conv.shut 200 (id := 0) (e := 39) (e' := 2) (i := i) (tt := II (marksS k (t.take i) ++ t.drop i)) (vs := I (marks (k + (cellsOf (t.take i) : Nat)) (t.getD i []).length)) (by decide) (by rfl) (by rfl)) ?_
    simp only [Try.results11, go_sem, Nat.reduceMul, Nat.reduceLeDiff, Nat.reduceLT, reduceIte, reduceCtorEq, Nat.reduceEqDiff, Nat.reduceSub, Nat.reduceAdd]
    exact ⟨by unfold InR; omega, i + 1, by omega, by omega, ⟨by rw [hc]; push_cast; omega, by push_cast; rfl⟩, by rw [II_set, marksS_set (by omega)]⟩
  · have hi' : i = t.length := by omega
    subst hi'
    refine RetM.one0 (by simp only [Try.results11, go_sem, Nat.reduceMul, Nat.reduceLeDiff, Nat.reduceLT, reduceIte, reduceCtorEq, Nat.reduceEqDiff, Nat.reduceSub, Nat.reduceAdd]; rfl) (by simp [tupL, ren]) ?_
    simp only [Try.results11, go_sem, Nat.reduceMul, Nat.reduceLeDiff, Nat.reduceLT, reduceIte, reduceCtorEq, Nat.reduceEqDiff, Nat.reduceSub, Nat.reduceAdd]
    simp

theorem markGroup_spec (t : List (List Int)) (k : Int) (h0 : 0 ≤ k) (h1 : k + cellsOf t ≤ 9223372036854775807) (hl : t.length < 9223372036854775807) : SpecM Try.prog 10 [.agg [.own 0], .v (.int .i64 k)] [.rows 39 2 (II t)] (.v (.int .i64 (k + cellsOf t))) [some (.rows 39 2 (II (marksS k t)))] := by
  refine SpecM.of_code' T_ok Try.func10 rfl Try.ntmps10 Try.call10 (Nat.le_of_ble_eq_true rfl) (Nat.le_of_ble_eq_true rfl) (Nat.le_of_ble_eq_true rfl) rfl rfl (CodeV_sound T_ok (by kernel_rfl) rfl ?_)
  simp only [Try.results10, go_sem, Nat.reduceMul, Nat.reduceLeDiff, Nat.reduceLT, reduceIte, reduceCtorEq, Nat.reduceEqDiff, Nat.reduceSub, Nat.reduceAdd]
  refine HereO.opP T_ok (OpP.boxP rfl rfl) ?_
  simp only [Try.results10, go_sem, Nat.reduceMul, Nat.reduceLeDiff, Nat.reduceLT, reduceIte, reduceCtorEq, Nat.reduceEqDiff, Nat.reduceSub, Nat.reduceAdd]
  refine HereO.callM T_ok 30 [0] rfl rfl (markSS_spec t k h0 h1 hl) (by simp only [go_sem, Nat.reduceMul, Nat.reduceLeDiff, Nat.reduceLT, reduceIte, reduceCtorEq, Nat.reduceEqDiff, Nat.reduceSub, Nat.reduceAdd, List.toList_toArray, ↓reduceIte]) rfl (by decide) (by decide) rfl rfl rfl (Nat.le_of_ble_eq_true rfl) ?_
  simp only [Try.results10, go_sem, Nat.reduceMul, Nat.reduceLeDiff, Nat.reduceLT, reduceIte, reduceCtorEq, Nat.reduceEqDiff, Nat.reduceSub, Nat.reduceAdd]
  refine RetM.one0 (by simp only [Try.results10, go_sem, Nat.reduceMul, Nat.reduceLeDiff, Nat.reduceLT, reduceIte, reduceCtorEq, Nat.reduceEqDiff, Nat.reduceSub, Nat.reduceAdd]; rfl) (by simp [tupL, ren]) ?_
  simp only [Try.results10, go_sem, Nat.reduceMul, Nat.reduceLeDiff, Nat.reduceLT, reduceIte, reduceCtorEq, Nat.reduceEqDiff, Nat.reduceSub, Nat.reduceAdd]

theorem marksS_get : ∀ (k : Int) (t : List (List Int)) (i : Nat), i < t.length → (marksS k t).getD i [] = marks (k + cellsOf (t.take i)) (t.getD i []).length
  | k, r :: t, 0, h => by simp [marksS, cellsOf]
  | k, r :: t, i + 1, h => by
    have := marksS_get (k + r.length) t i (by simpa using h)
    simp only [marksS, List.getD_cons_succ, this, List.take_succ_cons, cellsOf]
    rw [show k + (r.length : Int) + (cellsOf (t.take i) : Int) = k + ((r.length + cellsOf (t.take i) : Nat) : Int) by push_cast; omega]
theorem heldSS_spec (t : List (List Int)) (k : Int) (h0 : 0 ≤ k) (h1 : k + cellsOf t ≤ 9223372036854775807) (hl : t.length < 9223372036854775807) : Spec Try.prog 12 [.rds (II (marksS k t)), .v (.int .i64 k)] (.v (.int .i64 (k + cellsOf t))) [] := by
  refine Spec.of_code T_ok Try.func12 rfl Try.ntmps12 Try.call12 (Nat.le_of_ble_eq_true rfl) rfl rfl (CodeV_sound T_ok (by kernel_rfl) rfl ?_)
  simp only [Try.results12, go_sem, Nat.reduceMul, Nat.reduceLeDiff, Nat.reduceLT, reduceIte, reduceCtorEq, Nat.reduceEqDiff, Nat.reduceSub, Nat.reduceAdd]
  refine Here.loopV T_ok (fun i => i ≤ t.length) (fun i => t.length - i) (fun i => [(0, .rds (II (marksS k t))), (1, .v (.int .i64 (k + (cellsOf (t.take i) : Nat)))), (5, .v (.int .i64 i))]) (fun i => []) 0 (by simp) (by simp only [Try.results12, go_sem, Nat.reduceMul, Nat.reduceLeDiff, Nat.reduceLT, reduceIte, reduceCtorEq, Nat.reduceEqDiff, Nat.reduceSub, Nat.reduceAdd]; simp [cellsOf]) trivial ?_
  intro i hi
  simp only [Try.results12, go_sem, Nat.reduceMul, Nat.reduceLeDiff, Nat.reduceLT, reduceIte, reduceCtorEq, Nat.reduceEqDiff, Nat.reduceSub, Nat.reduceAdd]
  rw [marksS_len]
  refine ⟨fun h2 => ⟨by omega, ?_⟩, fun h2 => ?_⟩
  · have hg := marksS_get k t i (by omega)
    have hc := cellsOf_step (t := t) (i := i) (by omega)
    have hcl := cellsOf_le t (i + 1)
    have hh := heldS_spec (marks (k + cellsOf (t.take i)) (t.getD i []).length) (k + cellsOf (t.take i)) (by omega) (by rw [marks_len]; omega)
    rw [heldS_marks] at hh
    refine HereO.call T_ok rfl rfl (hg ▸ hh) (by simp only [go_sem, Nat.reduceMul, Nat.reduceLeDiff, Nat.reduceLT, reduceIte, reduceCtorEq, Nat.reduceEqDiff, Nat.reduceSub, Nat.reduceAdd, List.toList_toArray] <;> first | rfl | exact ⟨rfl, rfl⟩) rfl ?_
    simp only [Try.results12, go_sem, Nat.reduceMul, Nat.reduceLeDiff, Nat.reduceLT, reduceIte, reduceCtorEq, Nat.reduceEqDiff, Nat.reduceSub, Nat.reduceAdd]
    refine ⟨fun h => absurd h (by omega), fun _ => ⟨by unfold InR; omega, i + 1, by omega, by omega, by rw [hc]; push_cast; omega, by push_cast; rfl⟩⟩
  · have hi' : i = t.length := by omega
    subst hi'
    simp
theorem szR_cells : ∀ (t : List (List Int)) (a : Int), 0 ≤ szR t a → 0 ≤ a → (cellsOf t : Int) ≤ a
  | [], a, h, h0 => by simp [cellsOf]; omega
  | r :: t, a, h, h0 => by
    unfold szR at h
    split at h
    · omega
    · rename_i hs
      have h1 := szS_le r a
      have h2 := szR_cells t (szS r a) h (by omega)
      unfold szS at h2 hs
      split at h2
      · omega
      · simp only [cellsOf]; push_cast; omega
theorem szSS_cells {t : List (List Int)} {left : Int} (h : 0 ≤ szSS t left) : (cellsOf t : Int) ≤ left := by
  unfold szSS at h
  split at h
  · omega
  · have := szR_cells t _ h (by omega)
    omega
/-- What is asked of rows that a law returns. -/
def OkRows (t : List (List Int)) : Prop := t.length ≤ 1048576 ∧ (∀ a, a < t.length → (t.getD a []).length ≤ 1048576) ∧ (cellsOf t : Int) ≤ 1099511627776
end Go.Proofs.Ytipdgkohfmpilaa
