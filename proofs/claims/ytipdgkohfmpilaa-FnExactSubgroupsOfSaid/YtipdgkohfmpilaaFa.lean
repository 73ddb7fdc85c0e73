/- Contracts: groups are told, by the program and by the specification: lengths, ranges, places, and the laws of a group. -/
import Derived.Test.YtipdgkohfmpilaaVh
namespace Go.Proofs.Ytipdgkohfmpilaa
open Go.RowKit
set_option linter.unusedVariables false
set_option linter.unusedSimpArgs false
set_option maxRecDepth 100000

def ee (t : List (List Int)) (a b : Nat) : Int := (t.getD a []).getD b 0
/-- All numbers are in a range. -/
def AreIn (n : Int) (l : List Int) : Prop := ∀ j, j < l.length → 0 ≤ l.getD j 0 ∧ l.getD j 0 < n
instance (n : Int) (l : List Int) : Decidable (AreIn n l) := Nat.decidableBallLT _ _

theorem order_spec (t : List (List Int)) : Spec Try.prog 18 [.agg [.rds (II t)]] (.v (.int .i64 t.length)) [] := by
  refine Spec.of_code T_ok Try.func18 rfl Try.ntmps18 Try.call18 (Nat.le_of_ble_eq_true rfl) rfl rfl (CodeV_sound T_ok (by kernel_rfl) rfl ?_)
  simp only [Try.results18, go_sem, Nat.reduceMul, Nat.reduceLeDiff, Nat.reduceLT, reduceIte, reduceCtorEq, Nat.reduceEqDiff, Nat.reduceSub, Nat.reduceAdd]

theorem areIn_spec (n : Int) (l : List Int) (hl : l.length ≤ 1048576) : Spec Try.prog 35 [.v (.int .i64 n), .rd (I l)] (.v (.bool (decide (AreIn n l)))) [] := by
  refine Spec.of_code T_ok Try.func35 rfl Try.ntmps35 Try.call35 (Nat.le_of_ble_eq_true rfl) rfl rfl (CodeV_sound T_ok (by kernel_rfl) rfl ?_)
  simp only [Try.results35, go_sem, Nat.reduceMul, Nat.reduceLeDiff, Nat.reduceLT, reduceIte, reduceCtorEq, Nat.reduceEqDiff, Nat.reduceSub, Nat.reduceAdd]
  refine Here.loopV T_ok (fun k => k ≤ l.length ∧ ∀ j, j < k → 0 ≤ l.getD j 0 ∧ l.getD j 0 < n) (fun k => l.length - k) (fun k => [(0, .v (.int .i64 n)), (7, .rd (I l)), (8, .v (.int .i64 l.length)), (9, .v (.int .i64 k))]) (fun _ => []) 0 (by simp) (by simp only [Try.results35, go_sem, Nat.reduceMul, Nat.reduceLeDiff, Nat.reduceLT, reduceIte, reduceCtorEq, Nat.reduceEqDiff, Nat.reduceSub, Nat.reduceAdd]; rfl) trivial ?_
  rintro k ⟨hk, hj⟩
  simp only [Try.results35, go_sem, Nat.reduceMul, Nat.reduceLeDiff, Nat.reduceLT, reduceIte, reduceCtorEq, Nat.reduceEqDiff, Nat.reduceSub, Nat.reduceAdd]
  refine ⟨fun h1 => ⟨by omega, fun h2 => ⟨fun h3 => ?_, fun h3 => ⟨by unfold InR; omega, k + 1, ⟨by omega, fun j h => ?_⟩, by omega, rfl⟩⟩, fun h2 => ?_⟩, fun h1 => ?_⟩
  · exact (decide_eq_false fun h => by have := h k (by omega); omega).symm
  · by_cases e : j = k
    · subst e; omega
    · exact hj j (by omega)
  · exact (decide_eq_false fun h => by have := h k (by omega); omega).symm
  · exact (decide_eq_true fun j h => hj j (by omega)).symm

theorem mixed_ok : Try.prog.follows .mixedOrders = true := by kernel_rfl

theorem l01In_spec (n a b : Int) : Spec Try.prog 29 [.v (.int .i64 n), .v (.int .i64 a), .v (.int .i64 b)] (.v (.bool (decide (a ≤ n ∧ n ≤ b)))) [] := by
  refine Spec.of_code T_ok Try.func29 rfl Try.ntmps29 Try.call29 (Nat.le_of_ble_eq_true rfl) rfl rfl (CodeV_sound T_ok (by kernel_rfl) rfl ?_)
  simp only [Try.results29, go_sem, Nat.reduceMul, Nat.reduceLeDiff, Nat.reduceLT, reduceIte, reduceCtorEq, Nat.reduceEqDiff, Nat.reduceSub, Nat.reduceAdd]
  exact ⟨fun h => by simp [h], fun h => by simp [h]⟩

/-- The place of a number in a list, -1 if there is none. -/
def ix (l : List Int) (x : Int) : Int := match l.findIdx? (· == x) with | some i => (i : Int) | none => -1
theorem ix_at {l : List Int} {x : Int} {k : Nat} (hk : k < l.length) (h1 : l.getD k 0 = x) (h2 : ∀ j, j < k → l.getD j 0 ≠ x) : ix l x = k := by
  have : l.findIdx? (· == x) = some k := by
    rw [List.findIdx?_eq_some_iff_getElem]
    refine ⟨hk, by simpa [List.getD_eq_getElem?_getD, List.getElem?_eq_getElem hk] using h1, fun j hj => ?_⟩
    have := h2 j hj
    simpa [List.getD_eq_getElem?_getD, List.getElem?_eq_getElem (show j < l.length by omega)] using this
  simp [ix, this]
theorem ix_no {l : List Int} {x : Int} (h2 : ∀ j, j < l.length → l.getD j 0 ≠ x) : ix l x = -1 := by
  have : l.findIdx? (· == x) = none := by
    rw [List.findIdx?_eq_none_iff]
    intro y hy
    obtain ⟨j, hj, rfl⟩ := List.getElem_of_mem hy
    have := h2 j hj
    simpa [List.getD_eq_getElem?_getD, List.getElem?_eq_getElem hj] using this
  simp [ix, this]
def Has (l : List Int) (x : Int) : Prop := ∃ j, j < l.length ∧ l.getD j 0 = x
instance (l : List Int) (x : Int) : Decidable (Has l x) := decidable_of_iff (∃ j, j < l.length ∧ l.getD j 0 = x) Iff.rfl
theorem ix_cases (l : List Int) (x : Int) : (¬ Has l x ∧ ix l x = -1) ∨ ∃ k : Nat, ix l x = k ∧ k < l.length ∧ l.getD k 0 = x := by
  by_cases h : ∀ j, j < l.length → l.getD j 0 ≠ x
  · exact .inl ⟨fun ⟨j, h1, h2⟩ => h j h1 h2, ix_no h⟩
  · have h' : ∃ j, j < l.length ∧ l.getD j 0 = x := by
      apply Classical.byContradiction
      intro hn
      exact h fun j hj e => hn ⟨j, hj, e⟩
    have : ∃ k, k < l.length ∧ l.getD k 0 = x ∧ ∀ j, j < k → l.getD j 0 ≠ x := by
      obtain ⟨j, hj, e⟩ := h'
      induction j using Nat.strongRecOn with
      | _ j ih =>
        by_cases h2 : ∀ i, i < j → l.getD i 0 ≠ x
        · exact ⟨j, hj, e, h2⟩
        · have : ∃ i, i < j ∧ l.getD i 0 = x := by
            apply Classical.byContradiction
            intro hn
            exact h2 fun i hi e => hn ⟨i, hi, e⟩
          obtain ⟨i, hi, ei⟩ := this
          exact ih i hi (by omega) ei
    obtain ⟨k, h1, h2, h3⟩ := this
    exact .inr ⟨k, ix_at h1 h2 h3, h1, h2⟩

theorem Index_spec (l : List Int) (x : Int) (hl : l.length ≤ 1048576) : Spec Try.prog 45 [.rd (I l), .v (.int .i64 x)] (.v (.int .i64 (ix l x))) [] := by
  refine Spec.of_code T_ok Try.func45 rfl Try.ntmps45 Try.call45 (Nat.le_of_ble_eq_true rfl) rfl rfl (CodeV_sound T_ok (by kernel_rfl) rfl ?_)
  simp only [Try.results45, go_sem, Nat.reduceMul, Nat.reduceLeDiff, Nat.reduceLT, reduceIte, reduceCtorEq, Nat.reduceEqDiff, Nat.reduceSub, Nat.reduceAdd]
  refine Here.loopV T_ok (fun k => k ≤ l.length ∧ ∀ j, j < k → l.getD j 0 ≠ x) (fun k => l.length - k) (fun k => [(0, .rd (I l)), (1, .v (.int .i64 x)), (7, .v (.int .i64 l.length)), (8, .v (.int .i64 k))]) (fun _ => []) 0 (by simp) (by simp only [Try.results45, go_sem, Nat.reduceMul, Nat.reduceLeDiff, Nat.reduceLT, reduceIte, reduceCtorEq, Nat.reduceEqDiff, Nat.reduceSub, Nat.reduceAdd]; rfl) trivial ?_
  rintro k ⟨hk, hj⟩
  simp only [Try.results45, go_sem, Nat.reduceMul, Nat.reduceLeDiff, Nat.reduceLT, reduceIte, reduceCtorEq, Nat.reduceEqDiff, Nat.reduceSub, Nat.reduceAdd]
  refine ⟨fun h1 => ⟨by omega, fun h2 => ?_, fun h2 => ⟨by unfold InR; omega, k + 1, ⟨by omega, fun j h => ?_⟩, by omega, rfl⟩⟩, fun h1 => ?_⟩
  · exact (ix_at (by omega) h2.symm hj).symm
  · by_cases e : j = k
    · subst e; exact fun e => absurd e.symm h2
    · exact hj j (by omega)
  · exact (ix_no fun j h => hj j (by omega)).symm

theorem Contains_spec (l : List Int) (x : Int) (hl : l.length ≤ 1048576) : Spec Try.prog 36 [.rd (I l), .v (.int .i64 x)] (.v (.bool (decide (Has l x)))) [] := by
  refine Spec.of_code T_ok Try.func36 rfl Try.ntmps36 Try.call36 (Nat.le_of_ble_eq_true rfl) rfl rfl (CodeV_sound T_ok (by kernel_rfl) rfl ?_)
  simp only [Try.results36, go_sem, Nat.reduceMul, Nat.reduceLeDiff, Nat.reduceLT, reduceIte, reduceCtorEq, Nat.reduceEqDiff, Nat.reduceSub, Nat.reduceAdd]
  refine HereO.call T_ok rfl rfl (Index_spec l x hl) (by simp only [go_sem, Nat.reduceMul, Nat.reduceLeDiff, Nat.reduceLT, reduceIte, reduceCtorEq, Nat.reduceEqDiff, Nat.reduceSub, Nat.reduceAdd, List.toList_toArray]) rfl ?_
  simp only [Try.results36, go_sem, Nat.reduceMul, Nat.reduceLeDiff, Nat.reduceLT, reduceIte, reduceCtorEq, Nat.reduceEqDiff, Nat.reduceSub, Nat.reduceAdd]
  rcases ix_cases l x with ⟨h1, h2⟩ | ⟨k, h1, h2, h3⟩
  · rw [h2]; simp [h1]
  · have : Has l x := ⟨k, h2, h3⟩
    rw [h1]; simp [this]

/-- The laws of a group, as the program tells them. -/
def Shape (t : List (List Int)) : Prop := ∀ a, a < t.length → (t.getD a []).length = t.length ∧ ∀ b, b < t.length → 0 ≤ ee t a b ∧ ee t a b < t.length
def Unit0 (t : List (List Int)) (a : Nat) : Prop := ee t 0 a = a ∧ ee t a 0 = a ∧ Has (t.getD a []) 0
def Assoc (t : List (List Int)) (a b c : Nat) : Prop := ee t (ee t a b).toNat c = ee t a (ee t b c).toNat
def Grp (t : List (List Int)) : Prop := 1 ≤ t.length ∧ t.length ≤ 8 ∧ Shape t ∧ ∀ a, a < t.length → Unit0 t a ∧ ∀ b, b < t.length → ∀ c, c < t.length → Assoc t a b c
instance (t : List (List Int)) : Decidable (Shape t) := by unfold Shape; exact Nat.decidableBallLT _ _
instance (t : List (List Int)) (a : Nat) : Decidable (Unit0 t a) := by unfold Unit0; infer_instance
instance (t : List (List Int)) (a b c : Nat) : Decidable (Assoc t a b c) := by unfold Assoc; infer_instance
instance (t : List (List Int)) : Decidable (Grp t) := by unfold Grp; infer_instance

theorem IsGroup_spec (t : List (List Int)) : Spec Try.prog 17 [.agg [.rds (II t)]] (.v (.bool (decide (Grp t)))) [] := by
  refine Spec.of_code T_ok Try.func17 rfl Try.ntmps17 Try.call17 (Nat.le_of_ble_eq_true rfl) rfl rfl (CodeV_sound T_ok (by kernel_rfl) rfl ?_)
  simp only [Try.results17, go_sem, Nat.reduceMul, Nat.reduceLeDiff, Nat.reduceLT, reduceIte, reduceCtorEq, Nat.reduceEqDiff, Nat.reduceSub, Nat.reduceAdd]
  refine HereO.call T_ok rfl rfl (order_spec t) (by simp only [go_sem, Nat.reduceMul, Nat.reduceLeDiff, Nat.reduceLT, reduceIte, reduceCtorEq, Nat.reduceEqDiff, Nat.reduceSub, Nat.reduceAdd, List.toList_toArray]) rfl ?_
  simp only [Try.results17, go_sem, Nat.reduceMul, Nat.reduceLeDiff, Nat.reduceLT, reduceIte, reduceCtorEq, Nat.reduceEqDiff, Nat.reduceSub, Nat.reduceAdd]
  refine ⟨fun h1 => ⟨fun h8 => (decide_eq_false fun h => by have := h.2.1; omega).symm, fun h8 => ?_⟩, fun h1 => (decide_eq_false fun h => by have := h.1; omega).symm⟩
  refine Here.loopV T_ok (fun k => k ≤ t.length ∧ ∀ a, a < k → (t.getD a []).length = t.length ∧ AreIn t.length (t.getD a [])) (fun k => t.length - k) (fun k => [(1, .box [.rds (II t)]), (3, .v (.int .i64 t.length)), (18, .rds (II t)), (19, .v (.int .i64 t.length)), (20, .v (.int .i64 k))]) (fun _ => []) 0 (by simp) (by simp only [Try.results17, go_sem, Nat.reduceMul, Nat.reduceLeDiff, Nat.reduceLT, reduceIte, reduceCtorEq, Nat.reduceEqDiff, Nat.reduceSub, Nat.reduceAdd]; rfl) trivial ?_
  rintro k ⟨hk, hrow⟩
  simp only [Try.results17, go_sem, Nat.reduceMul, Nat.reduceLeDiff, Nat.reduceLT, reduceIte, reduceCtorEq, Nat.reduceEqDiff, Nat.reduceSub, Nat.reduceAdd]
  refine ⟨fun h2 => ⟨by omega, fun h3 => ?_, fun h3 => ?_⟩, fun h2 => ?_⟩
  · refine HereO.call T_ok rfl rfl (areIn_spec t.length (t.getD k []) (by omega)) (by simp only [go_sem, Nat.reduceMul, Nat.reduceLeDiff, Nat.reduceLT, reduceIte, reduceCtorEq, Nat.reduceEqDiff, Nat.reduceSub, Nat.reduceAdd, List.toList_toArray]) rfl ?_
    simp only [Try.results17, go_sem, Nat.reduceMul, Nat.reduceLeDiff, Nat.reduceLT, reduceIte, reduceCtorEq, Nat.reduceEqDiff, Nat.reduceSub, Nat.reduceAdd]
    refine ⟨fun h4 => (decide_eq_false fun h => h4 fun j hj => ?_).symm, fun h4 => ⟨by unfold InR; omega, k + 1, ⟨by omega, fun a h => ?_⟩, by omega, rfl⟩⟩
    · exact (h.2.2.1 k (by omega)).2 j (by omega)
    · by_cases e : a = k
      · subst e; exact ⟨by omega, h4⟩
      · exact hrow a (by omega)
  · exact (decide_eq_false fun h => by have := (h.2.2.1 k (by omega)).1; omega).symm
  · have hrow' : ∀ a, a < t.length → (t.getD a []).length = t.length ∧ AreIn t.length (t.getD a []) := fun a h => hrow a (by omega)
    refine Here.loopV T_ok (fun k => k ≤ t.length ∧ ∀ a, a < k → Unit0 t a ∧ ∀ b, b < t.length → ∀ c, c < t.length → Assoc t a b c) (fun k => t.length - k) (fun k => [(1, .box [.rds (II t)]), (3, .v (.int .i64 t.length)), (35, .v (.int .i64 t.length)), (36, .v (.int .i64 k))]) (fun _ => []) 0 (by simp) (by simp only [Try.results17, go_sem, Nat.reduceMul, Nat.reduceLeDiff, Nat.reduceLT, reduceIte, reduceCtorEq, Nat.reduceEqDiff, Nat.reduceSub, Nat.reduceAdd]; rfl) trivial ?_
    rintro a ⟨ha, hall⟩
    simp only [Try.results17, go_sem, Nat.reduceMul, Nat.reduceLeDiff, Nat.reduceLT, reduceIte, reduceCtorEq, Nat.reduceEqDiff, Nat.reduceSub, Nat.reduceAdd]
    refine ⟨fun h3 => ?_, fun h3 => (decide_eq_true ⟨by omega, by omega, fun a ha => ⟨(hrow' a ha).1, fun b hb => (hrow' a ha).2 b (by rw [(hrow' a ha).1]; exact hb)⟩, fun a' h => hall a' (by omega)⟩).symm⟩
    have l0 := hrow' 0 (by omega)
    have la := hrow' a (by omega)
    refine ⟨⟨by omega, by omega⟩, ⟨by omega, by omega⟩, fun h4 => ⟨⟨by omega, by omega⟩, ⟨by omega, by omega⟩, fun h5 => ⟨⟨by omega, by omega⟩, ?_⟩, fun h5 => ?_⟩, fun h4 => ?_⟩
    · refine HereO.call T_ok rfl rfl (Contains_spec (t.getD a []) 0 (by omega)) (by simp only [go_sem, Nat.reduceMul, Nat.reduceLeDiff, Nat.reduceLT, reduceIte, reduceCtorEq, Nat.reduceEqDiff, Nat.reduceSub, Nat.reduceAdd, List.toList_toArray]) rfl ?_
      simp only [Try.results17, go_sem, Nat.reduceMul, Nat.reduceLeDiff, Nat.reduceLT, reduceIte, reduceCtorEq, Nat.reduceEqDiff, Nat.reduceSub, Nat.reduceAdd]
      refine ⟨fun h6 => (decide_eq_false fun h => h6 (h.2.2.2 a (by omega)).1.2.2).symm, fun h6 => ?_⟩
      refine Here.loopV T_ok (fun b => b ≤ t.length ∧ ∀ b', b' < b → ∀ c, c < t.length → Assoc t a b' c) (fun k => t.length - k) (fun b => [(1, .box [.rds (II t)]), (3, .v (.int .i64 t.length)), (6, .v (.int .i64 a)), (35, .v (.int .i64 t.length)), (36, .v (.int .i64 a)), (68, .v (.int .i64 t.length)), (69, .v (.int .i64 b))]) (fun _ => []) 0 (by simp) (by simp only [Try.results17, go_sem, Nat.reduceMul, Nat.reduceLeDiff, Nat.reduceLT, reduceIte, reduceCtorEq, Nat.reduceEqDiff, Nat.reduceSub, Nat.reduceAdd]; rfl) trivial ?_
      rintro b ⟨hb, hbs⟩
      simp only [Try.results17, go_sem, Nat.reduceMul, Nat.reduceLeDiff, Nat.reduceLT, reduceIte, reduceCtorEq, Nat.reduceEqDiff, Nat.reduceSub, Nat.reduceAdd]
      refine ⟨fun h7 => ?_, fun h7 => ⟨by unfold InR; omega, a + 1, ⟨by omega, fun a' h => ?_⟩, by omega, rfl⟩⟩
      · refine Here.loopV T_ok (fun c => c ≤ t.length ∧ ∀ c', c' < c → Assoc t a b c') (fun k => t.length - k) (fun c => [(1, .box [.rds (II t)]), (3, .v (.int .i64 t.length)), (6, .v (.int .i64 a)), (7, .v (.int .i64 b)), (35, .v (.int .i64 t.length)), (36, .v (.int .i64 a)), (68, .v (.int .i64 t.length)), (69, .v (.int .i64 b)), (72, .v (.int .i64 t.length)), (73, .v (.int .i64 c))]) (fun _ => []) 0 (by simp) (by simp only [Try.results17, go_sem, Nat.reduceMul, Nat.reduceLeDiff, Nat.reduceLT, reduceIte, reduceCtorEq, Nat.reduceEqDiff, Nat.reduceSub, Nat.reduceAdd]; rfl) trivial ?_
        rintro c ⟨hc, hcs⟩
        simp only [Try.results17, go_sem, Nat.reduceMul, Nat.reduceLeDiff, Nat.reduceLT, reduceIte, reduceCtorEq, Nat.reduceEqDiff, Nat.reduceSub, Nat.reduceAdd]
        refine ⟨fun h8 => ?_, fun h8 => ⟨by unfold InR; omega, b + 1, ⟨by omega, fun b' h => ?_⟩, by omega, rfl⟩⟩
        · refine Here.draw T_ok mixed_ok (by kernel_rfl) ?_
          simp only [Try.results17, go_sem, Nat.reduceMul, Nat.reduceLeDiff, Nat.reduceLT, reduceIte, reduceCtorEq, Nat.reduceEqDiff, Nat.reduceSub, Nat.reduceAdd]
          have lb := hrow' b (by omega)
          have e1 := la.2 b (by omega)
          have e2 := lb.2 c (by omega)
          have l3 := hrow' ((t.getD a []).getD b 0).toNat (by omega)
          refine ⟨⟨by omega, by omega⟩, ⟨by omega, by omega⟩, e1, ⟨by omega, by omega⟩, ⟨by omega, by omega⟩, ⟨by omega, by omega⟩, ⟨by omega, by omega⟩, ⟨by omega, by omega⟩, fun h9 => ?_, fun h9 => ⟨by unfold InR; omega, c + 1, ⟨by omega, fun c' h => ?_⟩, by omega, rfl⟩⟩
          · exact (decide_eq_false fun h => h9 ((h.2.2.2 a (by omega)).2 b (by omega) c (by omega))).symm
          · by_cases e : c' = c
            · subst e; exact h9
            · exact hcs c' (by omega)
        · by_cases e : b' = b
          · subst e; exact fun c' h => hcs c' (by omega)
          · exact hbs b' (by omega)
      · by_cases e : a' = a
        · subst e; exact ⟨⟨h4, h5, h6⟩, fun b h => hbs b (by omega)⟩
        · exact hall a' (by omega)
    · exact (decide_eq_false fun h => h5 (h.2.2.2 a (by omega)).1.2.1).symm
    · exact (decide_eq_false fun h => h4 (h.2.2.2 a (by omega)).1.1).symm
end Go.Proofs.Ytipdgkohfmpilaa
