/- Contracts: what the laws use: sizes, copies, comparisons. -/
import Derived.Test.YtkdiodegilidgaaDoorFb
namespace Go.Proofs.YtkdiodegilidgaaDoor
open Go.RowKit
set_option linter.unusedVariables false
set_option linter.unusedSimpArgs false
set_option maxRecDepth 100000

/-- What is left of a bound, -1 if nothing. -/
def szS (l : List Int) (left : Int) : Int := if left - l.length < 0 then -1 else left - l.length
theorem szS_spec (l : List Int) (left : Int) (h0 : 0 ≤ left) (h1 : left ≤ 1048576) (hl : (l.length : Int) ≤ 9223372036854775807) : Spec Tryd.prog 29 [.rd (I l), .v (.int .i64 left)] (.v (.int .i64 (szS l left))) [] := by
  refine Spec.of_code T_ok Tryd.func29 rfl Tryd.ntmps29 Tryd.call29 (Nat.le_of_ble_eq_true rfl) rfl rfl (CodeV_sound T_ok (by kernel_rfl) rfl ?_)
  simp only [Tryd.results29, go_sem, Nat.reduceMul, Nat.reduceLeDiff, Nat.reduceLT, reduceIte, reduceCtorEq, Nat.reduceEqDiff, Nat.reduceSub, Nat.reduceAdd]
  unfold szS
  refine ⟨by unfold InR; omega, fun h => by rw [if_pos h], fun h => by rw [if_neg h]⟩

theorem copy_step {α : Type} (d : α) (l : List α) (k : Nat) (hk : k < l.length) : (l.take k ++ List.replicate (l.length - k) d).set k (l.getD k d) = l.take (k + 1) ++ List.replicate (l.length - (k + 1)) d := by
  have e : l.length - k = (l.length - (k + 1)) + 1 := by omega
  have hl : (l.take k).length = k := by simp; omega
  rw [e, List.replicate_succ, List.set_append_right _ _ (by omega), hl, Nat.sub_self, List.set_cons_zero, List.take_succ_eq_append_getElem hk, List.append_assoc]
  simp [List.getElem?_eq_getElem hk]
theorem copy_end {α : Type} (d : α) (l : List α) (k : Nat) (hk : l.length ≤ k) : l.take k ++ List.replicate (l.length - k) d = l := by
  rw [List.take_of_length_le hk, show l.length - k = 0 by omega]; simp
theorem copy_len {α : Type} (d : α) (l : List α) (k : Nat) (hk : k ≤ l.length) : (l.take k ++ List.replicate (l.length - k) d).length = l.length := by simp; omega

theorem toS_spec (l : List Int) (hl : l.length ≤ 1048576) : Spec Tryd.prog 33 [.rd (I l)] (.own 0) [.row 2 (I l)] := by
  refine Spec.of_code T_ok Tryd.func33 rfl Tryd.ntmps33 Tryd.call33 (Nat.le_of_ble_eq_true rfl) rfl rfl (CodeV_sound T_ok (by kernel_rfl) rfl ?_)
  simp only [Tryd.results33, go_sem, Nat.reduceMul, Nat.reduceLeDiff, Nat.reduceLT, reduceIte, reduceCtorEq, Nat.reduceEqDiff, Nat.reduceSub, Nat.reduceAdd]
  refine HereO.makeSlice T_ok 107 rfl rfl rfl (by omega) (by omega) (by omega) (by omega) ?_
  simp only [Tryd.results33, go_sem, Nat.reduceMul, Nat.reduceLeDiff, Nat.reduceLT, reduceIte, reduceCtorEq, Nat.reduceEqDiff, Nat.reduceSub, Nat.reduceAdd]
  refine Here.loopV T_ok (fun k => k ≤ l.length) (fun k => l.length - k) (fun k => [(0, .rd (I l)), (3, .own 107), (4, .v (.int .i64 k))]) (fun k => [(107, .row 2 (I (l.take k ++ List.replicate (l.length - k) 0)))]) 0 (by simp) (by simp only [Tryd.results33, go_sem, Nat.reduceMul, Nat.reduceLeDiff, Nat.reduceLT, reduceIte, reduceCtorEq, Nat.reduceEqDiff, Nat.reduceSub, Nat.reduceAdd]; rfl) (by simp only [Tryd.results33, go_sem, Nat.reduceMul, Nat.reduceLeDiff, Nat.reduceLT, reduceIte, reduceCtorEq, Nat.reduceEqDiff, Nat.reduceSub, Nat.reduceAdd]; simp [I_rep]) ?_
  intro k hk
  simp only [Tryd.results33, go_sem, Nat.reduceMul, Nat.reduceLeDiff, Nat.reduceLT, reduceIte, reduceCtorEq, Nat.reduceEqDiff, Nat.reduceSub, Nat.reduceAdd]
  refine ⟨fun h1 => ⟨by omega, ⟨by omega, by rw [copy_len _ _ _ hk]; omega⟩, ?_⟩, fun h1 => ?_⟩
  · refine HereO.storeRow T_ok rfl rfl rfl rfl rfl rfl (by rw [I_len, copy_len _ _ _ hk]; omega) ?_
    simp only [Tryd.results33, go_sem, Nat.reduceMul, Nat.reduceLeDiff, Nat.reduceLT, reduceIte, reduceCtorEq, Nat.reduceEqDiff, Nat.reduceSub, Nat.reduceAdd]
    exact ⟨by unfold InR; omega, k + 1, by omega, by omega, rfl, by rw [I_set, copy_step _ _ _ (by omega)]⟩
  · refine RetT.one 107 (by simp only [Tryd.results33, go_sem, Nat.reduceMul, Nat.reduceLeDiff, Nat.reduceLT, reduceIte, reduceCtorEq, Nat.reduceEqDiff, Nat.reduceSub, Nat.reduceAdd]; rfl) rfl ?_
    simp only [Tryd.results33, go_sem, Nat.reduceMul, Nat.reduceLeDiff, Nat.reduceLT, reduceIte, reduceCtorEq, Nat.reduceEqDiff, Nat.reduceSub, Nat.reduceAdd]
    rw [copy_end _ _ _ (by omega)]

theorem toSS_spec (t : List (List Int)) (ht : t.length ≤ 1048576) (hr : ∀ a, a < t.length → (t.getD a []).length ≤ 1048576) : Spec Tryd.prog 32 [.rds (II t)] (.own 0) [.rows 31 2 (II t)] := by
  refine Spec.of_code T_ok Tryd.func32 rfl Tryd.ntmps32 Tryd.call32 (Nat.le_of_ble_eq_true rfl) rfl rfl (CodeV_sound T_ok (by kernel_rfl) rfl ?_)
  simp only [Tryd.results32, go_sem, Nat.reduceMul, Nat.reduceLeDiff, Nat.reduceLT, reduceIte, reduceCtorEq, Nat.reduceEqDiff, Nat.reduceSub, Nat.reduceAdd]
  refine HereO.makeSlice T_ok 107 rfl rfl rfl (by omega) (by omega) (by omega) (by omega) ?_
  simp only [Tryd.results32, go_sem, Nat.reduceMul, Nat.reduceLeDiff, Nat.reduceLT, reduceIte, reduceCtorEq, Nat.reduceEqDiff, Nat.reduceSub, Nat.reduceAdd]
  refine HereV.conv (Conv.rows (id := 107) (e := 31) 2 t.length (by simp only [Tryd.results32, go_sem, Nat.reduceMul, Nat.reduceLeDiff, Nat.reduceLT, reduceIte, reduceCtorEq, Nat.reduceEqDiff, Nat.reduceSub, Nat.reduceAdd]; rfl)) ?_
  refine Here.loopV T_ok (fun k => k ≤ t.length) (fun k => t.length - k) (fun k => [(0, .rds (II t)), (3, .own 107), (4, .v (.int .i64 k))]) (fun k => [(107, .rows 31 2 (II (t.take k ++ List.replicate (t.length - k) [])))]) 0 (by simp) (by simp only [Tryd.results32, go_sem, Nat.reduceMul, Nat.reduceLeDiff, Nat.reduceLT, reduceIte, reduceCtorEq, Nat.reduceEqDiff, Nat.reduceSub, Nat.reduceAdd]; rfl) (by simp only [Tryd.results32, go_sem, Nat.reduceMul, Nat.reduceLeDiff, Nat.reduceLT, reduceIte, reduceCtorEq, Nat.reduceEqDiff, Nat.reduceSub, Nat.reduceAdd]; simp [II, I]) ?_
  intro k hk
  simp only [Tryd.results32, go_sem, Nat.reduceMul, Nat.reduceLeDiff, Nat.reduceLT, reduceIte, reduceCtorEq, Nat.reduceEqDiff, Nat.reduceSub, Nat.reduceAdd]
  refine ⟨fun h1 => ⟨by omega, ?_⟩, fun h1 => ?_⟩
  · refine HereO.callOwn T_ok 20 rfl rfl (toS_spec (t.getD k []) (hr k (by omega))) (by simp only [go_sem, Nat.reduceMul, Nat.reduceLeDiff, Nat.reduceLT, reduceIte, reduceCtorEq, Nat.reduceEqDiff, Nat.reduceSub, Nat.reduceAdd, List.toList_toArray]) rfl (by simp) rfl ?_
    simp only [Tryd.results32, go_sem, Nat.reduceMul, Nat.reduceLeDiff, Nat.reduceLT, reduceIte, reduceCtorEq, Nat.reduceEqDiff, Nat.reduceSub, Nat.reduceAdd]
    refine ⟨⟨by omega, by rw [copy_len _ _ _ hk]; omega⟩, ?_⟩
    refine HereO.storeRows T_ok rfl rfl rfl rfl rfl rfl (by decide) (by rw [II_len, copy_len _ _ _ hk]; omega) ?_
    simp only [Tryd.results32, go_sem, Nat.reduceMul, Nat.reduceLeDiff, Nat.reduceLT, reduceIte, reduceCtorEq, Nat.reduceEqDiff, Nat.reduceSub, Nat.reduceAdd]
    exact ⟨by unfold InR; omega, k + 1, by omega, by omega, rfl, by rw [II_set, copy_step _ _ _ (by omega)]⟩
  · refine RetT.one 107 (by simp only [Tryd.results32, go_sem, Nat.reduceMul, Nat.reduceLeDiff, Nat.reduceLT, reduceIte, reduceCtorEq, Nat.reduceEqDiff, Nat.reduceSub, Nat.reduceAdd]; rfl) rfl ?_
    simp only [Tryd.results32, go_sem, Nat.reduceMul, Nat.reduceLeDiff, Nat.reduceLT, reduceIte, reduceCtorEq, Nat.reduceEqDiff, Nat.reduceSub, Nat.reduceAdd]
    rw [copy_end _ _ _ (by omega)]

theorem toGroup_spec (t : List (List Int)) (ht : t.length ≤ 1048576) (hr : ∀ a, a < t.length → (t.getD a []).length ≤ 1048576) : Spec Tryd.prog 14 [.agg [.rds (II t)]] (.agg [.own 0]) [.rows 31 2 (II t)] := by
  refine Spec.of_code T_ok Tryd.func14 rfl Tryd.ntmps14 Tryd.call14 (Nat.le_of_ble_eq_true rfl) rfl rfl (CodeV_sound T_ok (by kernel_rfl) rfl ?_)
  simp only [Tryd.results14, go_sem, Nat.reduceMul, Nat.reduceLeDiff, Nat.reduceLT, reduceIte, reduceCtorEq, Nat.reduceEqDiff, Nat.reduceSub, Nat.reduceAdd]
  refine HereO.alloc T_ok 102 rfl rfl (by decide) ?_
  simp only [Tryd.results14, go_sem, Nat.reduceMul, Nat.reduceLeDiff, Nat.reduceLT, reduceIte, reduceCtorEq, Nat.reduceEqDiff, Nat.reduceSub, Nat.reduceAdd]
  refine HereO.alloc T_ok 103 rfl rfl (by decide) ?_
  simp only [Tryd.results14, go_sem, Nat.reduceMul, Nat.reduceLeDiff, Nat.reduceLT, reduceIte, reduceCtorEq, Nat.reduceEqDiff, Nat.reduceSub, Nat.reduceAdd]
  refine HereO.callOwn T_ok 6 rfl rfl (toSS_spec t ht hr) (by simp only [go_sem, Nat.reduceMul, Nat.reduceLeDiff, Nat.reduceLT, reduceIte, reduceCtorEq, Nat.reduceEqDiff, Nat.reduceSub, Nat.reduceAdd, List.toList_toArray]) rfl (by simp) rfl ?_
  simp only [Tryd.results14, go_sem, Nat.reduceMul, Nat.reduceLeDiff, Nat.reduceLT, reduceIte, reduceCtorEq, Nat.reduceEqDiff, Nat.reduceSub, Nat.reduceAdd]
  refine HereO.store T_ok rfl (by simp only [go_sem, Nat.reduceMul, Nat.reduceLeDiff, Nat.reduceLT, reduceIte, reduceCtorEq, Nat.reduceEqDiff, Nat.reduceSub, Nat.reduceAdd] <;> rfl) (by simp only [go_sem, Nat.reduceMul, Nat.reduceLeDiff, Nat.reduceLT, reduceIte, reduceCtorEq, Nat.reduceEqDiff, Nat.reduceSub, Nat.reduceAdd] <;> rfl) rfl (by simp only [go_sem, Nat.reduceMul, Nat.reduceLeDiff, Nat.reduceLT, reduceIte, reduceCtorEq, Nat.reduceEqDiff, Nat.reduceSub, Nat.reduceAdd] <;> rfl) rfl (by simp only [go_sem, Nat.reduceMul, Nat.reduceLeDiff, Nat.reduceLT, reduceIte, reduceCtorEq, Nat.reduceEqDiff, Nat.reduceSub, Nat.reduceAdd] <;> rfl) (by decide) ?_
  simp only [Tryd.results14, go_sem, Nat.reduceMul, Nat.reduceLeDiff, Nat.reduceLT, reduceIte, reduceCtorEq, Nat.reduceEqDiff, Nat.reduceSub, Nat.reduceAdd]
  refine HereO.storeAgg T_ok rfl (by simp only [go_sem, Nat.reduceMul, Nat.reduceLeDiff, Nat.reduceLT, reduceIte, reduceCtorEq, Nat.reduceEqDiff, Nat.reduceSub, Nat.reduceAdd] <;> rfl) (by simp only [go_sem, Nat.reduceMul, Nat.reduceLeDiff, Nat.reduceLT, reduceIte, reduceCtorEq, Nat.reduceEqDiff, Nat.reduceSub, Nat.reduceAdd] <;> rfl) rfl (by simp only [go_sem, Nat.reduceMul, Nat.reduceLeDiff, Nat.reduceLT, reduceIte, reduceCtorEq, Nat.reduceEqDiff, Nat.reduceSub, Nat.reduceAdd] <;> rfl) (by simp only [go_sem, Nat.reduceMul, Nat.reduceLeDiff, Nat.reduceLT, reduceIte, reduceCtorEq, Nat.reduceEqDiff, Nat.reduceSub, Nat.reduceAdd] <;> rfl) rfl rfl ?_
  simp only [Tryd.results14, go_sem, Nat.reduceMul, Nat.reduceLeDiff, Nat.reduceLT, reduceIte, reduceCtorEq, Nat.reduceEqDiff, Nat.reduceSub, Nat.reduceAdd]
  refine RetT.one 1096 (by simp only [Tryd.results14, go_sem, Nat.reduceMul, Nat.reduceLeDiff, Nat.reduceLT, reduceIte, reduceCtorEq, Nat.reduceEqDiff, Nat.reduceSub, Nat.reduceAdd]; rfl) rfl ?_
  simp only [Tryd.results14, go_sem, Nat.reduceMul, Nat.reduceLeDiff, Nat.reduceLT, reduceIte, reduceCtorEq, Nat.reduceEqDiff, Nat.reduceSub, Nat.reduceAdd]

/-- The size of rows. -/
def szR : List (List Int) → Int → Int
  | [], a => a
  | r :: t, a => if szS r a < 0 then -1 else szR t (szS r a)
def szSS (t : List (List Int)) (left : Int) : Int := if left - t.length < 0 then -1 else szR t (left - t.length)
theorem szS_le (l : List Int) (left : Int) : szS l left < 0 ∨ (0 ≤ szS l left ∧ szS l left ≤ left ∧ (l.length : Int) ≤ left) := by unfold szS; split <;> omega
theorem szR_le : ∀ (t : List (List Int)) (a : Int), 0 ≤ szR t a → 0 ≤ a → szR t a ≤ a ∧ ∀ j, j < t.length → ((t.getD j []).length : Int) ≤ a
  | [], a, h, h0 => ⟨Int.le_refl _, fun j hj => by simp at hj⟩
  | r :: t, a, h, h0 => by
    unfold szR at h ⊢
    split at h
    · omega
    · rename_i hs
      rw [if_neg hs]
      have h1 := szS_le r a
      obtain ⟨h2, h3⟩ := szR_le t (szS r a) h (by omega)
      refine ⟨by omega, fun j hj => ?_⟩
      cases j with
      | zero => simp; omega
      | succ j => have := h3 j (by simpa using hj); simp at this ⊢; omega
theorem szR_step {t : List (List Int)} {k : Nat} (hk : k < t.length) (a : Int) : szR (t.drop k) a = if szS (t.getD k []) a < 0 then -1 else szR (t.drop (k + 1)) (szS (t.getD k []) a) := by
  rw [List.drop_eq_getElem_cons hk]
  simp [szR, List.getElem?_eq_getElem hk]

theorem szSS_spec (t : List (List Int)) (left : Int) (h0 : 0 ≤ left) (h1 : left ≤ 1048576) (hl : (t.length : Int) ≤ 9223372036854775807) (hr : ∀ a, a < t.length → ((t.getD a []).length : Int) ≤ 9223372036854775807) : Spec Tryd.prog 28 [.rds (II t), .v (.int .i64 left)] (.v (.int .i64 (szSS t left))) [] := by
  refine Spec.of_code T_ok Tryd.func28 rfl Tryd.ntmps28 Tryd.call28 (Nat.le_of_ble_eq_true rfl) rfl rfl (CodeV_sound T_ok (by kernel_rfl) rfl ?_)
  simp only [Tryd.results28, go_sem, Nat.reduceMul, Nat.reduceLeDiff, Nat.reduceLT, reduceIte, reduceCtorEq, Nat.reduceEqDiff, Nat.reduceSub, Nat.reduceAdd]
  refine ⟨by unfold InR; omega, fun h => by unfold szSS; rw [if_pos h], fun h => ?_⟩
  refine Here.loopV T_ok (κ := Nat × Int) (fun k => k.1 ≤ t.length ∧ 0 ≤ k.2 ∧ k.2 ≤ 1048576 ∧ szSS t left = szR (t.drop k.1) k.2) (fun k => t.length - k.1) (fun k => [(0, .rds (II t)), (1, .v (.int .i64 k.2)), (5, .v (.int .i64 k.1))]) (fun _ => []) (0, left - t.length) ⟨by simp, by simp at h ⊢; omega, by simp; omega, by unfold szSS; rw [if_neg h]; simp⟩ (by simp only [Tryd.results28, go_sem, Nat.reduceMul, Nat.reduceLeDiff, Nat.reduceLT, reduceIte, reduceCtorEq, Nat.reduceEqDiff, Nat.reduceSub, Nat.reduceAdd]; rfl) trivial ?_
  rintro ⟨k, a⟩ ⟨hk, ha0, ha1, hs⟩
  simp only [Tryd.results28, go_sem, Nat.reduceMul, Nat.reduceLeDiff, Nat.reduceLT, reduceIte, reduceCtorEq, Nat.reduceEqDiff, Nat.reduceSub, Nat.reduceAdd]
  refine ⟨fun h2 => ⟨by omega, ?_⟩, fun h2 => ?_⟩
  · refine HereO.call T_ok rfl rfl (szS_spec (t.getD k []) a ha0 ha1 (hr k (by omega))) (by simp only [go_sem, Nat.reduceMul, Nat.reduceLeDiff, Nat.reduceLT, reduceIte, reduceCtorEq, Nat.reduceEqDiff, Nat.reduceSub, Nat.reduceAdd, List.toList_toArray] <;> first | rfl | exact ⟨rfl, rfl⟩) rfl ?_
    simp only [Tryd.results28, go_sem, Nat.reduceMul, Nat.reduceLeDiff, Nat.reduceLT, reduceIte, reduceCtorEq, Nat.reduceEqDiff, Nat.reduceSub, Nat.reduceAdd]
    have h3 := szR_step (t := t) (k := k) (by omega) a
    have h4 := szS_le (t.getD k []) a
    refine ⟨fun h5 => by rw [hs, h3, if_pos h5], fun h5 => ⟨by unfold InR; omega, (k + 1, szS (t.getD k []) a), ⟨by show k + 1 ≤ t.length; omega, by show 0 ≤ szS _ _; omega, by show szS _ _ ≤ _; omega, by rw [hs, h3, if_neg h5]⟩, by show t.length - (k + 1) < _; omega, rfl, rfl⟩⟩
  · simp only at hs
    rw [hs, List.drop_eq_nil_of_le (by omega)]
    rfl

theorem szGroup_spec (t : List (List Int)) (left : Int) (h0 : 0 ≤ left) (h1 : left ≤ 1048576) (hl : (t.length : Int) ≤ 9223372036854775807) (hr : ∀ a, a < t.length → ((t.getD a []).length : Int) ≤ 9223372036854775807) : Spec Tryd.prog 11 [.agg [.rds (II t)], .v (.int .i64 left)] (.v (.int .i64 (szSS t left))) [] := by
  refine Spec.of_code T_ok Tryd.func11 rfl Tryd.ntmps11 Tryd.call11 (Nat.le_of_ble_eq_true rfl) rfl rfl (CodeV_sound T_ok (by kernel_rfl) rfl ?_)
  simp only [Tryd.results11, go_sem, Nat.reduceMul, Nat.reduceLeDiff, Nat.reduceLT, reduceIte, reduceCtorEq, Nat.reduceEqDiff, Nat.reduceSub, Nat.reduceAdd]
  refine HereO.call T_ok rfl rfl (szSS_spec t left h0 h1 hl hr) (by simp only [go_sem, Nat.reduceMul, Nat.reduceLeDiff, Nat.reduceLT, reduceIte, reduceCtorEq, Nat.reduceEqDiff, Nat.reduceSub, Nat.reduceAdd, List.toList_toArray] <;> first | rfl | exact ⟨rfl, rfl⟩) rfl ?_
  simp only [Tryd.results11, go_sem, Nat.reduceMul, Nat.reduceLeDiff, Nat.reduceLT, reduceIte, reduceCtorEq, Nat.reduceEqDiff, Nat.reduceSub, Nat.reduceAdd]
  refine ⟨fun h => ?_, fun _ => trivial⟩
  have : szSS t left = -1 ∨ 0 ≤ szSS t left := by
    unfold szSS
    split
    · exact .inl rfl
    · rename_i hn
      generalize left - t.length = b at hn
      clear hr hl h1 h0 h
      induction t generalizing b with
      | nil => right; unfold szR; omega
      | cons r t ih =>
        unfold szR
        split
        · exact .inl rfl
        · rename_i h5; exact ih _ (by omega)
  omega

theorem szSS_ok {t : List (List Int)} {left : Int} (h : 0 ≤ szSS t left) : (t.length : Int) ≤ left ∧ ∀ j, j < t.length → ((t.getD j []).length : Int) ≤ left := by
  unfold szSS at h
  split at h
  · omega
  · have := szR_le t _ h (by omega)
    exact ⟨by omega, fun j hj => by have := this.2 j hj; omega⟩
theorem szSS_left {t : List (List Int)} {left : Int} (h : 0 ≤ szSS t left) : szSS t left ≤ left := by
  unfold szSS at h ⊢
  split at h
  · omega
  · rename_i hn
    rw [if_neg hn]
    have := szR_le t _ h (by omega)
    omega

theorem getD_eq {α : Type} {d : α} {l m : List α} (hlen : l.length = m.length) (h : ∀ j, j < l.length → l.getD j d = m.getD j d) : l = m := by
  refine List.ext_getElem hlen fun j h1 h2 => ?_
  have := h j h1
  simpa [List.getD_eq_getElem?_getD, List.getElem?_eq_getElem h1, List.getElem?_eq_getElem h2] using this

theorem eqS_spec (l m : List Int) (hl : l.length ≤ 1048576) : Spec Tryd.prog 36 [.rd (I l), .rd (I m)] (.v (.bool (decide (l = m)))) [] := by
  refine Spec.of_code T_ok Tryd.func36 rfl Tryd.ntmps36 Tryd.call36 (Nat.le_of_ble_eq_true rfl) rfl rfl (CodeV_sound T_ok (by kernel_rfl) rfl ?_)
  simp only [Tryd.results36, go_sem, Nat.reduceMul, Nat.reduceLeDiff, Nat.reduceLT, reduceIte, reduceCtorEq, Nat.reduceEqDiff, Nat.reduceSub, Nat.reduceAdd]
  refine ⟨fun h => (decide_eq_false fun e => h (by rw [e])).symm, fun h => ?_⟩
  refine Here.loopV T_ok (fun k => k ≤ l.length ∧ ∀ j, j < k → l.getD j 0 = m.getD j 0) (fun k => l.length - k) (fun k => [(0, .rd (I l)), (1, .rd (I m)), (5, .v (.int .i64 k))]) (fun _ => []) 0 (by simp) (by simp only [Tryd.results36, go_sem, Nat.reduceMul, Nat.reduceLeDiff, Nat.reduceLT, reduceIte, reduceCtorEq, Nat.reduceEqDiff, Nat.reduceSub, Nat.reduceAdd]; rfl) trivial ?_
  rintro k ⟨hk, hj⟩
  simp only [Tryd.results36, go_sem, Nat.reduceMul, Nat.reduceLeDiff, Nat.reduceLT, reduceIte, reduceCtorEq, Nat.reduceEqDiff, Nat.reduceSub, Nat.reduceAdd]
  refine ⟨fun h2 => ?_, fun h2 => (decide_eq_true (getD_eq (d := 0) (by omega) fun j h => hj j (by omega))).symm⟩
  refine Here.draw T_ok mixed_ok (by kernel_rfl) ?_
  simp only [Tryd.results36, go_sem, Nat.reduceMul, Nat.reduceLeDiff, Nat.reduceLT, reduceIte, reduceCtorEq, Nat.reduceEqDiff, Nat.reduceSub, Nat.reduceAdd]
  refine ⟨by omega, by omega, fun h3 => (decide_eq_false fun e => h3 (by rw [e])).symm, fun h3 => ⟨by unfold InR; omega, k + 1, ⟨by omega, fun j h => ?_⟩, by omega, rfl⟩⟩
  by_cases e : j = k
  · subst e; exact h3
  · exact hj j (by omega)

theorem eqSS_spec (l m : List (List Int)) (hl : l.length ≤ 1048576) (hr : ∀ a, a < l.length → (l.getD a []).length ≤ 1048576) : Spec Tryd.prog 25 [.rds (II l), .rds (II m)] (.v (.bool (decide (l = m)))) [] := by
  refine Spec.of_code T_ok Tryd.func25 rfl Tryd.ntmps25 Tryd.call25 (Nat.le_of_ble_eq_true rfl) rfl rfl (CodeV_sound T_ok (by kernel_rfl) rfl ?_)
  simp only [Tryd.results25, go_sem, Nat.reduceMul, Nat.reduceLeDiff, Nat.reduceLT, reduceIte, reduceCtorEq, Nat.reduceEqDiff, Nat.reduceSub, Nat.reduceAdd]
  refine ⟨fun h => (decide_eq_false fun e => h (by rw [e])).symm, fun h => ?_⟩
  refine Here.loopV T_ok (fun k => k ≤ l.length ∧ ∀ j, j < k → l.getD j [] = m.getD j []) (fun k => l.length - k) (fun k => [(0, .rds (II l)), (1, .rds (II m)), (5, .v (.int .i64 k))]) (fun _ => []) 0 (by simp) (by simp only [Tryd.results25, go_sem, Nat.reduceMul, Nat.reduceLeDiff, Nat.reduceLT, reduceIte, reduceCtorEq, Nat.reduceEqDiff, Nat.reduceSub, Nat.reduceAdd]; rfl) trivial ?_
  rintro k ⟨hk, hj⟩
  simp only [Tryd.results25, go_sem, Nat.reduceMul, Nat.reduceLeDiff, Nat.reduceLT, reduceIte, reduceCtorEq, Nat.reduceEqDiff, Nat.reduceSub, Nat.reduceAdd]
  refine ⟨fun h2 => ?_, fun h2 => (decide_eq_true (getD_eq (d := []) (by omega) fun j h => hj j (by omega))).symm⟩
  refine Here.draw T_ok mixed_ok (by kernel_rfl) ?_
  simp only [Tryd.results25, go_sem, Nat.reduceMul, Nat.reduceLeDiff, Nat.reduceLT, reduceIte, reduceCtorEq, Nat.reduceEqDiff, Nat.reduceSub, Nat.reduceAdd]
  refine ⟨by omega, by omega, _, OpP.call' rfl rfl (eqS_spec (l.getD k []) (m.getD k []) (hr k (by omega))) (by simp only [go_sem, Nat.reduceMul, Nat.reduceLeDiff, Nat.reduceLT, reduceIte, reduceCtorEq, Nat.reduceEqDiff, Nat.reduceSub, Nat.reduceAdd, List.toList_toArray] <;> first | rfl | exact ⟨rfl, rfl⟩) rfl, ?_⟩
  simp only [Tryd.results25, go_sem, Nat.reduceMul, Nat.reduceLeDiff, Nat.reduceLT, reduceIte, reduceCtorEq, Nat.reduceEqDiff, Nat.reduceSub, Nat.reduceAdd]
  refine ⟨fun h3 => (decide_eq_false fun e => h3 (by rw [e])).symm, fun h3 => ⟨by unfold InR; omega, k + 1, ⟨by omega, fun j h => ?_⟩, by omega, rfl⟩⟩
  by_cases e : j = k
  · subst e; exact h3
  · exact hj j (by omega)

theorem eqGroup_spec (l m : List (List Int)) (hl : l.length ≤ 1048576) (hr : ∀ a, a < l.length → (l.getD a []).length ≤ 1048576) : Spec Tryd.prog 8 [.agg [.rds (II l)], .agg [.rds (II m)]] (.v (.bool (decide (l = m)))) [] := by
  refine Spec.of_code T_ok Tryd.func8 rfl Tryd.ntmps8 Tryd.call8 (Nat.le_of_ble_eq_true rfl) rfl rfl (CodeV_sound T_ok (by kernel_rfl) rfl ?_)
  simp only [Tryd.results8, go_sem, Nat.reduceMul, Nat.reduceLeDiff, Nat.reduceLT, reduceIte, reduceCtorEq, Nat.reduceEqDiff, Nat.reduceSub, Nat.reduceAdd]
  refine HereO.call T_ok rfl rfl (eqSS_spec l m hl hr) (by simp only [go_sem, Nat.reduceMul, Nat.reduceLeDiff, Nat.reduceLT, reduceIte, reduceCtorEq, Nat.reduceEqDiff, Nat.reduceSub, Nat.reduceAdd, List.toList_toArray] <;> first | rfl | exact ⟨rfl, rfl⟩) rfl ?_
  simp only [Tryd.results8, go_sem, Nat.reduceMul, Nat.reduceLeDiff, Nat.reduceLT, reduceIte, reduceCtorEq, Nat.reduceEqDiff, Nat.reduceSub, Nat.reduceAdd]
  exact ⟨fun h => (decide_eq_false h).symm, fun h => (decide_eq_true h).symm⟩
end Go.Proofs.YtkdiodegilidgaaDoor
