/- Subgroups sorted: the order of sets; plain laws; l01Before. -/
import Derived.Test.YtipdgkohfmpilaaQb
import Derived.Test.YtipdgkohfmpilaaSd
namespace Go.Proofs.Ytipdgkohfmpilaa
open Go.RowKit
set_option linter.unusedVariables false
set_option linter.unusedSimpArgs false
set_option maxRecDepth 100000

/-- The order of rows of one length. -/
def rowB : List Int → List Int → Bool
  | x :: a, y :: b => if x = y then rowB a b else decide (x < y)
  | _, _ => false
/-- The shorter first; then by their numbers. -/
def bfr (a b : List Int) : Bool := if a.length = b.length then rowB a b else decide (a.length < b.length)
theorem rowB_self : ∀ a : List Int, rowB a a = false
  | [] => rfl
  | x :: a => by simp only [rowB, if_true, rowB_self a]
theorem rowB_trans : ∀ {a b c : List Int}, a.length = b.length → b.length = c.length → rowB a b = true → rowB b c = true → rowB a c = true
  | [], [], [], _, _, h, _ => by simp [rowB] at h
  | x :: a, y :: b, z :: c, h1, h2, h3, h4 => by
    simp only [rowB] at h3 h4 ⊢
    by_cases e1 : x = y
    · subst e1
      rw [if_pos rfl] at h3
      by_cases e2 : x = z
      · rw [if_pos e2] at h4 ⊢; exact rowB_trans (by simpa using h1) (by simpa using h2) h3 h4
      · rw [if_neg e2] at h4 ⊢; exact h4
    · rw [if_neg e1] at h3
      have h3' := of_decide_eq_true h3
      by_cases e2 : y = z
      · subst e2; rw [if_neg e1]; exact h3
      · rw [if_neg e2] at h4
        have h4' := of_decide_eq_true h4
        rw [if_neg (by omega)]
        exact decide_eq_true (by omega)
theorem rowB_total : ∀ {a b : List Int}, a.length = b.length → a = b ∨ rowB a b = true ∨ rowB b a = true
  | [], [], _ => .inl rfl
  | x :: a, y :: b, h => by
    simp only [rowB]
    by_cases e : x = y
    · subst e
      simp only [if_true]
      rcases rowB_total (a := a) (b := b) (by simpa using h) with h | h | h
      · exact .inl (by rw [h])
      · exact .inr (.inl h)
      · exact .inr (.inr h)
    · rw [if_neg e, if_neg (Ne.symm e)]
      rcases Int.lt_or_gt_of_ne e with h | h
      · exact .inr (.inl (decide_eq_true h))
      · exact .inr (.inr (decide_eq_true h))
theorem bfr_self (a : List Int) : bfr a a = false := by unfold bfr; rw [if_pos rfl, rowB_self]
theorem bfr_trans {a b c : List Int} (h1 : bfr a b = true) (h2 : bfr b c = true) : bfr a c = true := by
  unfold bfr at *
  by_cases e1 : a.length = b.length
  · rw [if_pos e1] at h1
    by_cases e2 : b.length = c.length
    · rw [if_pos e2] at h2; rw [if_pos (e1.trans e2)]; exact rowB_trans e1 e2 h1 h2
    · rw [if_neg e2] at h2; have := of_decide_eq_true h2; rw [if_neg (by omega)]; exact decide_eq_true (by omega)
  · rw [if_neg e1] at h1
    have h1' := of_decide_eq_true h1
    by_cases e2 : b.length = c.length
    · rw [if_neg (by omega)]; exact decide_eq_true (by omega)
    · rw [if_neg e2] at h2; have := of_decide_eq_true h2; rw [if_neg (by omega)]; exact decide_eq_true (by omega)
theorem bfr_total (a b : List Int) : a = b ∨ bfr a b = true ∨ bfr b a = true := by
  unfold bfr
  by_cases e : a.length = b.length
  · rw [if_pos e, if_pos e.symm]; exact rowB_total e
  · rw [if_neg e, if_neg (Ne.symm e)]
    rcases Nat.lt_or_gt_of_ne e with h | h
    · exact .inr (.inl (decide_eq_true h))
    · exact .inr (.inr (decide_eq_true h))
theorem bfr_asymm {a b : List Int} (h : bfr a b = true) : bfr b a = false := by
  cases q : bfr b a with
  | false => rfl
  | true => have := bfr_trans h q; rw [bfr_self] at this; cases this
/-- Before or the same. -/
def bfe (a b : List Int) : Bool := bfr a b || decide (a = b)
theorem bfe_of {a b : List Int} (h : bfr b a = false) : bfe a b = true := by
  unfold bfe
  rcases bfr_total a b with h1 | h1 | h1
  · rw [decide_eq_true h1, Bool.or_true]
  · rw [h1, Bool.true_or]
  · rw [h1] at h; cases h
theorem bfe_trans (a b c : List Int) (h1 : bfe a b = true) (h2 : bfe b c = true) : bfe a c = true := by
  unfold bfe at *
  rw [Bool.or_eq_true, decide_eq_true_iff] at *
  rcases h1 with h1 | rfl
  · rcases h2 with h2 | rfl
    · exact .inl (bfr_trans h1 h2)
    · exact .inl h1
  · exact h2
theorem bfe_total (a b : List Int) : (bfe a b || bfe b a) = true := by
  rcases bfr_total a b with h | h | h
  · subst h; simp [bfe]
  · simp [bfe, h]
  · simp [bfe, h]
theorem bfe_anti {a b : List Int} (h1 : bfe a b = true) (h2 : bfe b a = true) : a = b := by
  unfold bfe at *
  rw [Bool.or_eq_true, decide_eq_true_iff] at *
  rcases h1 with h1 | h1
  · rcases h2 with h2 | h2
    · rw [bfr_asymm h1] at h2; cases h2
    · exact h2.symm
  · exact h1
/-- The closed masks below N, as rows. -/
noncomputable def subsA (t : List (List Int)) (N : Nat) : List (List Int) := ((List.range N).filter fun m => decide (closeN t m = m)).map bitsL
/-- The subgroups of a group, sorted. -/
noncomputable def subsL (t : List (List Int)) : List (List Int) := (subsA t (2 ^ t.length)).mergeSort bfe
theorem subsL_eq {t : List (List Int)} {L : List (List Int)} (hp : L.Perm (subsA t (2 ^ t.length))) (hs : L.Pairwise fun a b => bfe a b = true) : L = subsL t := by
  have h1 : (subsL t).Perm (subsA t (2 ^ t.length)) := List.mergeSort_perm _ _
  have h2 : (subsL t).Pairwise fun a b => bfe a b = true := List.pairwise_mergeSort bfe_trans bfe_total _
  exact List.Perm.eq_of_pairwise (fun a b _ _ h3 h4 => bfe_anti h3 h4) hs h2 (hp.trans h1.symm)
theorem closed_odd {t : List (List Int)} {m : Nat} (h : closeN t m = m) : m % 2 = 1 := by
  have : (closeN t m).testBit 0 = true := by
    rw [closeN, maskN_bit, Bool.and_eq_true, genP_iff]
    exact ⟨by decide, .zero⟩
  rw [h, Nat.testBit_zero] at this
  simpa using this
theorem subsA_one (t : List (List Int)) : subsA t 1 = [] := by
  unfold subsA
  have : ¬ closeN t 0 = 0 := fun h => by have := closed_odd h; omega
  simp [List.range_succ, this]
theorem subsA_step (t : List (List Int)) {m : Nat} (hm : m % 2 = 1) : subsA t (m + 2) = subsA t m ++ (if closeN t m = m then [bitsL m] else []) := by
  unfold subsA
  have : ¬ closeN t (m + 1) = m + 1 := fun h => by have := closed_odd h; omega
  rw [List.range_succ, List.range_succ, List.filter_append, List.filter_append, List.map_append, List.map_append]
  simp only [List.filter_cons, List.filter_nil, decide_eq_false this]
  by_cases h : closeN t m = m
  · simp [h]
  · simp [h]
theorem subsA_even (t : List (List Int)) {m : Nat} (hm : m % 2 = 0) : subsA t (m + 1) = subsA t m := by
  unfold subsA
  have : ¬ closeN t m = m := fun h => by have := closed_odd h; omega
  rw [List.range_succ, List.filter_append, List.map_append]
  simp [this]
theorem subsA_len (t : List (List Int)) (N : Nat) : (subsA t N).length ≤ N := by
  unfold subsA
  rw [List.length_map]
  exact Nat.le_trans (List.length_filter_le _ _) (by simp)
theorem subsA_row {t : List (List Int)} {N : Nat} {r : List Int} (h : r ∈ subsA t N) : r.length ≤ 8 := by
  unfold subsA at h
  obtain ⟨m, _, rfl⟩ := List.mem_map.1 h
  exact bitsL_len m
/-- A row is put in its place. -/
theorem ins_sorted {L : List (List Int)} {x : List Int} {p : Nat} (hs : L.Pairwise fun a b => bfe a b = true) (hp : p ≤ L.length) (h1 : ∀ j, p ≤ j → j < L.length → bfr x (L.getD j []) = true) (h2 : p = 0 ∨ bfr x (L.getD (p - 1) []) = false) :
    (L.take p ++ x :: L.drop p).Pairwise fun a b => bfe a b = true := by
  have hx : ∀ a ∈ L.take p, bfe a x = true := by
    intro a ha
    rcases h2 with h2 | h2
    · subst h2; simp at ha
    · have h3 := bfe_of h2
      obtain ⟨j, hj, rfl⟩ := List.mem_iff_getElem.1 ha
      simp only [List.length_take] at hj
      rw [List.getElem_take]
      by_cases e : j = p - 1
      · subst e
        rw [List.getD_eq_getElem?_getD, List.getElem?_eq_getElem (by omega), Option.getD_some] at h3
        exact h3
      · have h4 := List.pairwise_iff_getElem.1 hs j (p - 1) (by omega) (by omega) (by omega)
        rw [List.getD_eq_getElem?_getD, List.getElem?_eq_getElem (by omega), Option.getD_some] at h3
        exact bfe_trans _ _ _ h4 h3
  have hy : ∀ b ∈ L.drop p, bfe x b = true := by
    intro b hb
    obtain ⟨j, hj, rfl⟩ := List.mem_iff_getElem.1 hb
    simp only [List.length_drop] at hj
    have := h1 (p + j) (by omega) (by omega)
    rw [List.getD_eq_getElem?_getD, List.getElem?_eq_getElem (by omega), Option.getD_some] at this
    rw [List.getElem_drop]
    unfold bfe
    rw [this, Bool.true_or]
  rw [← List.take_append_drop p L, List.pairwise_append] at hs
  rw [List.pairwise_append, List.pairwise_cons]
  refine ⟨hs.1, ⟨hy, hs.2.1⟩, fun a ha b hb => ?_⟩
  rcases List.mem_cons.1 hb with rfl | hb
  · exact hx a ha
  · exact hs.2.2 a ha b hb
theorem ins_perm (L : List (List Int)) (x : List Int) (p : Nat) : (L.take p ++ x :: L.drop p).Perm (L ++ [x]) := by
  have h1 : (L.take p ++ x :: L.drop p).Perm (x :: (L.take p ++ L.drop p)) := List.perm_middle
  rw [List.take_append_drop] at h1
  exact h1.trans (List.perm_append_singleton x L).symm
/-- The table while rows move: the gap at p. -/
def GapT (L M : List (List Int)) (p : Nat) : Prop := M.length = L.length + 1 ∧ p ≤ L.length ∧ (∀ j, j < p → M.getD j [] = L.getD j []) ∧ ∀ j, p < j → j ≤ L.length → M.getD j [] = L.getD (j - 1) []
theorem gap_0 (L : List (List Int)) : GapT L (L ++ [[]]) L.length := by
  refine ⟨by simp, Nat.le_refl _, fun j hj => ?_, fun j h1 h2 => by omega⟩
  rw [List.getD_eq_getElem?_getD, List.getD_eq_getElem?_getD, List.getElem?_append_left hj]
theorem gap_step {L M : List (List Int)} {p : Nat} (h : GapT L M p) (hp : 0 < p) : GapT L (M.set p (M.getD (p - 1) [])) (p - 1) := by
  obtain ⟨h1, h2, h3, h4⟩ := h
  refine ⟨by rw [List.length_set]; exact h1, by omega, fun j hj => ?_, fun j hj hl => ?_⟩
  · rw [← h3 j (by omega), List.getD_eq_getElem?_getD, List.getElem?_set, if_neg (by omega), List.getD_eq_getElem?_getD]
  · by_cases e : p = j
    · subst e
      rw [List.getD_eq_getElem?_getD, List.getElem?_set, if_pos rfl, if_pos (by omega), Option.getD_some, h3 _ (by omega)]
    · rw [← h4 j (by omega) hl, List.getD_eq_getElem?_getD, List.getElem?_set, if_neg e, List.getD_eq_getElem?_getD]
theorem gap_end {L M : List (List Int)} {p : Nat} (h : GapT L M p) (x : List Int) : M.set p x = L.take p ++ x :: L.drop p := by
  obtain ⟨h1, h2, h3, h4⟩ := h
  have gd : ∀ {l : List (List Int)} {j : Nat} (hj : j < l.length), l[j]? = some (l.getD j []) := fun hj => by rw [List.getD_eq_getElem?_getD, List.getElem?_eq_getElem hj, Option.getD_some]
  refine List.ext_getElem? fun j => ?_
  by_cases hj : j ≤ L.length
  · rw [List.getElem?_set]
    by_cases e : p = j
    · subst e
      rw [if_pos rfl, if_pos (by omega), List.getElem?_append_right (by simp; omega)]
      simp [Nat.min_eq_left h2]
    · rw [if_neg e, gd (by omega)]
      rcases Nat.lt_or_gt_of_ne e with q | q
      · rw [h4 j q hj, List.getElem?_append_right (by simp; omega), List.length_take, Nat.min_eq_left h2, show j - p = (j - 1 - p) + 1 by omega, List.getElem?_cons_succ, List.getElem?_drop, show p + (j - 1 - p) = j - 1 by omega, gd (by omega)]
      · rw [h3 j q, List.getElem?_append_left (by simp; omega), List.getElem?_take_of_lt q, gd (by omega)]
  · rw [List.getElem?_eq_none (by simp; omega), List.getElem?_eq_none (by simp; omega)]
/-- The list so far, with what has been found. -/
def SubsI (t : List (List Int)) (m : Nat) (L : List (List Int)) : Prop := m % 2 = 1 ∧ m ≤ 2 ^ t.length + 1 ∧ L.Perm (subsA t m) ∧ L.Pairwise fun a b => bfe a b = true
theorem rowB_drop {a b : List Int} {k : Nat} (hl : a.length = b.length) (hk : k < a.length) : rowB (a.drop k) (b.drop k) = if a.getD k 0 = b.getD k 0 then rowB (a.drop (k + 1)) (b.drop (k + 1)) else decide (a.getD k 0 < b.getD k 0) := by
  rw [List.drop_eq_getElem_cons hk, List.drop_eq_getElem_cons (show k < b.length by omega)]
  simp only [rowB, List.getD_eq_getElem?_getD, List.getElem?_eq_getElem hk, List.getElem?_eq_getElem (show k < b.length by omega), Option.getD_some]
theorem l01Before_spec (a b : List Int) (ha : a.length ≤ 1048576) (hb : b.length ≤ 1048576) : Spec Try.prog 33 [.rd (I a), .rd (I b)] (.v (.bool (bfr a b))) [] := by
  refine Spec.of_code T_ok Try.func33 rfl Try.ntmps33 Try.call33 (Nat.le_of_ble_eq_true rfl) rfl rfl (CodeV_sound T_ok (by kernel_rfl) rfl ?_)
  simp only [Try.results33, go_sem, Nat.reduceMul, Nat.reduceLeDiff, Nat.reduceLT, reduceIte, reduceCtorEq, Nat.reduceEqDiff, Nat.reduceSub, Nat.reduceAdd]
  refine ⟨fun h => ?_, fun h => ?_⟩
  · have hne : ¬ a.length = b.length := fun q => h (by rw [q])
    unfold bfr
    rw [if_neg hne]
    simp
  · have hlen : a.length = b.length := by omega
    have hbf : bfr a b = rowB a b := by unfold bfr; rw [if_pos hlen]
    rw [hbf]
    refine Here.loopV T_ok (fun k => k ≤ a.length ∧ rowB a b = rowB (a.drop k) (b.drop k)) (fun k => a.length - k) (fun k => [(0, .rd (I a)), (1, .rd (I b)), (5, .v (.int .i64 k))]) (fun _ => []) 0 (by simp) (by simp only [Try.results33, go_sem, Nat.reduceMul, Nat.reduceLeDiff, Nat.reduceLT, reduceIte, reduceCtorEq, Nat.reduceEqDiff, Nat.reduceSub, Nat.reduceAdd]; simp) trivial ?_
    rintro k ⟨hk, hj⟩
    simp only [Try.results33, go_sem, Nat.reduceMul, Nat.reduceLeDiff, Nat.reduceLT, reduceIte, reduceCtorEq, Nat.reduceEqDiff, Nat.reduceSub, Nat.reduceAdd]
    refine ⟨fun h2 => ?_, fun h2 => ?_⟩
    · have hd := rowB_drop hlen (k := k) (by omega)
      refine Here.draw T_ok mixed_ok (by kernel_rfl) ?_
      simp only [Try.results33, go_sem, Nat.reduceMul, Nat.reduceLeDiff, Nat.reduceLT, reduceIte, reduceCtorEq, Nat.reduceEqDiff, Nat.reduceSub, Nat.reduceAdd]
      refine ⟨⟨by omega, by omega⟩, ⟨by omega, by omega⟩, fun h3 => ?_, fun h3 => ?_⟩
      · refine Here.draw T_ok mixed_ok (by kernel_rfl) ?_
        simp only [Try.results33, go_sem, Nat.reduceMul, Nat.reduceLeDiff, Nat.reduceLT, reduceIte, reduceCtorEq, Nat.reduceEqDiff, Nat.reduceSub, Nat.reduceAdd]
        rw [hj, hd, if_neg h3]
        refine ⟨⟨by omega, by omega⟩, ⟨by omega, by omega⟩, ?_⟩
        rfl
      · exact ⟨by unfold InR; omega, k + 1, ⟨by omega, by rw [hj, hd, if_pos h3]⟩, by omega, by push_cast; rfl⟩
    · obtain rfl : k = a.length := by omega
      rw [hj, List.drop_of_length_le (Nat.le_refl _)]
      rfl
end Go.Proofs.Ytipdgkohfmpilaa
