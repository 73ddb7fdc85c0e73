/- Contracts: Go's sort of whole numbers, part by part: insertion, heaps. -/
import Derived.Test.YtcjhojdlfnpgjaaGreatK19
import Derived.Test.YtcjhojdlfnpgjaaGreatK25
set_option linter.unusedVariables false
set_option linter.unusedSimpArgs false
set_option maxRecDepth 100000
namespace Go.Proofs.YtcjhojdlfnpgjaaGreat
open Go.RowKit
def ltI (x y : Int) : Bool := decide (x < y)
theorem ltI_swo : SWO ltI := ⟨fun x => by simp [ltI], fun x y z => by simp only [ltI, decide_eq_true_eq]; omega, fun x y z => by simp only [ltI, decide_eq_false_iff_not]; omega⟩
theorem ltI_t {x y : Int} : ltI x y = true ↔ x < y := by simp [ltI]
theorem ltI_f {x y : Int} : ltI x y = false ↔ ¬ x < y := by simp [ltI]
theorem insertionR_spec (xs : List Int) (a b : Nat) (hab : a ≤ b) (hb : b ≤ xs.length) (hl : xs.length ≤ 1048576) : SpecQ Tryz.prog 112 [.own 0, .v (.int .i64 a), .v (.int .i64 b)] [.row 2 (I xs)] (κ := List Int) (fun _ => .tup []) (fun ys => [some (.row 2 (I ys))]) (fun ys => PIn 0 a b xs ys ∧ SIn ltI 0 a b ys) := by
  refine SpecQ.of_code T_ok Tryz.func112 rfl Tryz.ntmps112 Tryz.call112 (Nat.le_of_ble_eq_true rfl) (Nat.le_of_ble_eq_true rfl) (fun _ => rfl) (fun _ => rfl) (CodeV_sound T_ok (by kernel_rfl) rfl ?_)
  refine WW ?_
  refine ⟨by unfold InR; omega, ?_⟩
  refine Here.loopV T_ok (κ := Nat × List Int) (fun g => a + 1 ≤ g.1 ∧ (g.1 ≤ b ∨ g.1 = a + 1) ∧ PIn 0 a b xs g.2 ∧ SIn ltI 0 a g.1 g.2) (fun g => b - g.1) (fun g => [(0, .own 0), (1, .v (.int .i64 a)), (2, .v (.int .i64 b)), (6, .v (.int .i64 g.1))]) (fun g => [(0, .row 2 (I g.2))]) (a + 1, xs) ⟨Nat.le_refl _, .inr rfl, PIn.refl _ _ _, SIn.short (by simp)⟩ (by simp only [go_sem, Nat.reduceMul, Nat.reduceLeDiff, Nat.reduceLT, reduceIte, reduceCtorEq, Nat.reduceEqDiff, Nat.reduceSub, Nat.reduceAdd]; simp) SW ?_
  rintro ⟨i, L⟩ ⟨hi1, hi, hp, hs⟩
  dsimp only at hi1 hi hp hs
  have hlen := hp.len
  refine WW ?_
  refine ⟨fun h2 => ?_, fun h2 => ?_⟩
  · refine Here.loopV T_ok (κ := Nat × List Int) (fun g => g.1 ≤ i ∧ a ≤ g.1 ∧ PIn 0 a b xs g.2 ∧ SBut ltI 0 a g.2 i g.1) (fun g => g.1) (fun g => [(0, .own 0), (1, .v (.int .i64 a)), (2, .v (.int .i64 b)), (6, .v (.int .i64 i)), (7, .v (.int .i64 g.1))]) (fun g => [(0, .row 2 (I g.2))]) (i, L) ⟨Nat.le_refl _, by dsimp only; omega, hp, sbut_start hs⟩ SW SW ?_
    rintro ⟨j, M⟩ ⟨hj, haj, hpM, hsM⟩
    dsimp only at hj haj hpM hsM
    have hlM := hpM.len
    refine WW ?_
    refine Here.draw T_ok mixed_ok (by kernel_rfl) ?_
    refine WW ?_
    refine ⟨fun h3 => ?_, fun h3 => ?_⟩
    · have ej : ((j : Int) - 1).toNat = j - 1 := by omega
      rw [ej]
      repeat (refine ⟨by first | omega | (unfold InR; omega) | exact ⟨by omega, by omega⟩, ?_⟩)
      refine ⟨_, OpP.call' rfl rfl (cmpLess_spec (M.getD j 0) (M.getD (j - 1) 0)) SA rfl, ?_⟩
      refine WW ?_
      refine ⟨fun h4 => ?_, fun h4 => ?_⟩
      · refine Here.drawC T_ok [.p, .p, .f, .f, .f, .p, .p, .p, .p, .p, .p, .p, .p, .p, .p, .c, .p, .c] [0, 7] [] [] (Nat.le_of_ble_eq_true rfl) mixed_ok (by kernel_rfl) (by kernel_rfl) (by kernel_rfl) (by simp only [List.mem_cons, List.not_mem_nil, or_false, forall_eq_or_imp, forall_eq, go_sem, Nat.reduceMul, Nat.reduceLeDiff, Nat.reduceLT, reduceIte, reduceCtorEq, Nat.reduceEqDiff, Nat.reduceSub, Nat.reduceAdd] <;> first | exact calm_ptr_ne rfl | exact calm_ne rfl | exact ⟨calm_ptr_ne rfl, calm_ptr_ne rfl⟩ | exact ⟨calm_ptr_ne rfl, calm_ptr_ne rfl, calm_ptr_ne rfl⟩ | exact ⟨calm_ptr_ne rfl, calm_knot (by simp only [go_sem, Nat.reduceMul, Nat.reduceLeDiff, Nat.reduceLT, reduceIte, reduceCtorEq, Nat.reduceEqDiff, Nat.reduceSub, Nat.reduceAdd] <;> exact calm_ptr_ne rfl)⟩ | ((repeat' apply And.intro) <;> first | exact calm_ptr_ne rfl | exact calm_ne rfl)) ?_
        refine WW ?_
        simp only [ej]
        repeat (refine ⟨by first | omega | (unfold InR; omega) | exact ⟨by omega, by omega⟩, ?_⟩)
        refine HereC.storeRow T_ok (vs := I (M)) (u := .int .i64 ((M).getD (j - 1) 0)) rfl SS SS rfl SS rfl (by rw [I_len]; omega) (keeps_nil _ _) ?_
        refine WW ?_
        rw [I_set]
        simp only [ej]
        repeat (refine ⟨by first | omega | (unfold InR; omega) | exact ⟨by omega, by omega⟩, ?_⟩)
        refine HereC.storeRow T_ok (vs := I ((M).set (j) ((M).getD (j - 1) 0))) (u := .int .i64 ((M).getD (j) 0)) rfl SS SS rfl SS rfl (by rw [I_len, List.length_set]; omega) (keeps_nil _ _) ?_
        refine WW ?_
        rw [I_set]
        exact ⟨by unfold InR; omega, (j - 1, swL 0 M j (j - 1)), ⟨by dsimp only; omega, by dsimp only; omega, hpM.trans (PIn.swap (by omega) (by omega) (by omega) (by omega) (by omega)), sbut_step ltI_swo (by omega) hj (by omega) hsM (ltI_t.2 h4)⟩, by dsimp only; omega, by dsimp only; omega, rfl⟩
      · have hse := sbut_end ltI_swo hj haj hsM (fun _ => ltI_f.2 h4)
        exact ⟨by unfold InR; omega, (i + 1, M), ⟨by dsimp only; omega, .inl (by dsimp only; omega), hpM, hse⟩, by dsimp only; omega, by push_cast; rfl, rfl⟩
    · have hse := sbut_end ltI_swo hj haj hsM (fun _ => by omega)
      exact ⟨by unfold InR; omega, (i + 1, M), ⟨by dsimp only; omega, .inl (by dsimp only; omega), hpM, hse⟩, by dsimp only; omega, by push_cast; rfl, rfl⟩
  · refine RetQ.of L ⟨hp, fun p q h3 h4 h5 => hs p q h3 h4 (by omega)⟩ (RetM.one0 SE rfl ?_)
    exact WW trivial
end Go.Proofs.YtcjhojdlfnpgjaaGreat
namespace Go.Proofs.YtcjhojdlfnpgjaaGreat
open Go.RowKit
set_option maxHeartbeats 8000000 in
theorem siftDown_spec (xs : List Int) (lo hi first : Nat) (hlo : lo ≤ 1048576) (hhi : first + hi ≤ xs.length) (hl : xs.length ≤ 1048576) (hh : Hp ltI 0 xs first (lo + 1) hi) : SpecQ Tryz.prog 128 [.own 0, .v (.int .i64 lo), .v (.int .i64 hi), .v (.int .i64 first)] [.row 2 (I xs)] (κ := List Int) (fun _ => .tup []) (fun ys => [some (.row 2 (I ys))]) (fun ys => PIn 0 first (first + hi) xs ys ∧ Hp ltI 0 ys first lo hi) := by
  refine SpecQ.of_code T_ok Tryz.func128 rfl Tryz.ntmps128 Tryz.call128 (Nat.le_of_ble_eq_true rfl) (Nat.le_of_ble_eq_true rfl) (fun _ => rfl) (fun _ => rfl) (CodeV_sound T_ok (by kernel_rfl) rfl ?_)
  refine WW ?_
  refine Here.loopV T_ok (κ := Nat × List Int) (fun g => PIn 0 first (first + hi) xs g.2 ∧ HpBut ltI 0 g.2 first lo hi g.1 ∧ lo ≤ g.1 ∧ (g.1 < hi ∨ g.1 = lo)) (fun g => hi - g.1) (fun g => [(0, .own 0), (2, .v (.int .i64 hi)), (3, .v (.int .i64 first)), (8, .v (.int .i64 g.1))]) (fun g => [(0, .row 2 (I g.2))]) (lo, xs) ⟨PIn.refl _ _ _, hpBut_start hh, Nat.le_refl _, .inr rfl⟩ SW SW ?_
  rintro ⟨root, M⟩ ⟨hp, hb, hr, hr2⟩
  dsimp only at hp hb hr hr2 ⊢
  have hlM := hp.len
  refine WW ?_
  refine ⟨by unfold InR; omega, by unfold InR; omega, fun h2 => ?_, fun h2 => ?_⟩
  · have hend := hpBut_end hb fun c' h6 h7 => by omega
    refine RetQ.of M ⟨hp, hend⟩ (RetM.one0 SE rfl ?_)
    exact WW trivial
  · have e1 : ((first : Int) + (2 * (root : Int) + 1)).toNat = first + (2 * root + 1) := by omega
    have e2 : ((first : Int) + (2 * (root : Int) + 1) + 1).toNat = first + (2 * root + 2) := by omega
    refine Here.draw T_ok mixed_ok (by kernel_rfl) ?_
    refine WW ?_
    simp only [e1, e2]
    refine ⟨by unfold InR; omega, fun h3 => ?_, fun h3 => ?_⟩
    · repeat (refine ⟨by first | omega | (unfold InR; omega) | exact ⟨by omega, by omega⟩, ?_⟩)
      refine ⟨_, OpP.call' rfl rfl (cmpLess_spec (M.getD (first + (2 * root + 1)) 0) (M.getD (first + (2 * root + 2)) 0)) SA rfl, ?_⟩
      refine WW ?_
      refine ⟨fun h4 => ?_, fun h4 => ?_⟩
      · refine ⟨by unfold InR; omega, ?_⟩
        have er : ((first : Int) + (root : Int)).toNat = first + root := by omega
        have ec : ((first : Int) + (2 * (root : Int) + 1 + 1)).toNat = first + (2 * root + 2) := by omega
        have hc : 2 * root + 2 = 2 * root + 1 ∨ 2 * root + 2 = 2 * root + 2 := by omega
        have hg : ∀ c', (c' = 2 * root + 1 ∨ c' = 2 * root + 2) → c' < hi → ltI (M.getD (first + (2 * root + 2)) 0) (M.getD (first + c') 0) = false := fun c' h6 h7 => by
          rcases h6 with e | e
          · rw [e]; exact ltI_swo.asym (ltI_t.2 h4)
          · rw [e]; exact ltI_swo.irr _
        refine Here.draw T_ok mixed_ok (by kernel_rfl) ?_
        refine WW ?_
        simp only [er, ec]
        repeat (refine ⟨by first | omega | (unfold InR; omega) | exact ⟨by omega, by omega⟩, ?_⟩)
        refine ⟨_, OpP.call' rfl rfl (cmpLess_spec (M.getD (first + root) 0) (M.getD (first + (2 * root + 2)) 0)) SA rfl, ?_⟩
        refine WW ?_
        refine ⟨fun h9 => ?_, fun h9 => ?_⟩
        · have hend := hpBut_end hb fun c' h6 h7 => ltI_swo.ntr _ _ _ (ltI_f.2 h9) (hg c' h6 h7)
          refine RetQ.of M ⟨hp, hend⟩ (RetM.one0 SE rfl ?_)
          exact WW trivial
        · refine Here.drawC T_ok [.p, .p, .p, .p, .f, .f, .f, .f, .p, .p, .p, .p, .p, .p, .p, .p, .p, .p, .p, .p, .p, .c, .p, .c] [0, 3, 9] [] [] (Nat.le_of_ble_eq_true rfl) mixed_ok (by kernel_rfl) (by kernel_rfl) (by kernel_rfl) (by simp only [List.mem_cons, List.not_mem_nil, or_false, forall_eq_or_imp, forall_eq, go_sem, Nat.reduceMul, Nat.reduceLeDiff, Nat.reduceLT, reduceIte, reduceCtorEq, Nat.reduceEqDiff, Nat.reduceSub, Nat.reduceAdd] <;> first | exact calm_ptr_ne rfl | exact calm_ne rfl | exact ⟨calm_ptr_ne rfl, calm_ptr_ne rfl⟩ | exact ⟨calm_ptr_ne rfl, calm_ptr_ne rfl, calm_ptr_ne rfl⟩ | exact ⟨calm_ptr_ne rfl, calm_knot (by simp only [go_sem, Nat.reduceMul, Nat.reduceLeDiff, Nat.reduceLT, reduceIte, reduceCtorEq, Nat.reduceEqDiff, Nat.reduceSub, Nat.reduceAdd] <;> exact calm_ptr_ne rfl)⟩ | ((repeat' apply And.intro) <;> first | exact calm_ptr_ne rfl | exact calm_ne rfl)) ?_
          refine WW ?_
          simp only [er, ec]
          repeat (refine ⟨by first | omega | (unfold InR; omega) | exact ⟨by omega, by omega⟩, ?_⟩)
          refine HereC.storeRow T_ok (vs := I (M)) (u := .int .i64 ((M).getD (first + (2 * root + 2)) 0)) rfl SS SS rfl SS rfl (by rw [I_len]; omega) (keeps_nil _ _) ?_
          refine WW ?_
          rw [I_set]
          simp only [er, ec]
          repeat (refine ⟨by first | omega | (unfold InR; omega) | exact ⟨by omega, by omega⟩, ?_⟩)
          refine HereC.storeRow T_ok (vs := I ((M).set (first + root) ((M).getD (first + (2 * root + 2)) 0))) (u := .int .i64 ((M).getD (first + root) 0)) rfl SS SS rfl SS rfl (by rw [I_len, List.length_set]; omega) (keeps_nil _ _) ?_
          refine WW ?_
          rw [I_set]
          exact ⟨(2 * root + 2, swL 0 M (first + root) (first + (2 * root + 2))), ⟨hp.trans (PIn.swap (by omega) (by omega) (by omega) (by omega) (by omega)), hpBut_step ltI_swo hb hr hc (by omega) (by omega) hg (ltI_t.2 h9), by dsimp only; omega, by dsimp only; omega⟩, by dsimp only; omega, by dsimp only; omega, rfl⟩
      · have h4' := h4
        have er : ((first : Int) + (root : Int)).toNat = first + root := by omega
        have ec : ((first : Int) + (2 * (root : Int) + 1)).toNat = first + (2 * root + 1) := by omega
        have hc : 2 * root + 1 = 2 * root + 1 ∨ 2 * root + 1 = 2 * root + 2 := by omega
        have hg : ∀ c', (c' = 2 * root + 1 ∨ c' = 2 * root + 2) → c' < hi → ltI (M.getD (first + (2 * root + 1)) 0) (M.getD (first + c') 0) = false := fun c' h6 h7 => by
          rcases h6 with e | e
          · rw [e]; exact ltI_swo.irr _
          · rw [e]; exact ltI_f.2 h4
        refine Here.draw T_ok mixed_ok (by kernel_rfl) ?_
        refine WW ?_
        simp only [er, ec]
        repeat (refine ⟨by first | omega | (unfold InR; omega) | exact ⟨by omega, by omega⟩, ?_⟩)
        refine ⟨_, OpP.call' rfl rfl (cmpLess_spec (M.getD (first + root) 0) (M.getD (first + (2 * root + 1)) 0)) SA rfl, ?_⟩
        refine WW ?_
        refine ⟨fun h9 => ?_, fun h9 => ?_⟩
        · have hend := hpBut_end hb fun c' h6 h7 => ltI_swo.ntr _ _ _ (ltI_f.2 h9) (hg c' h6 h7)
          refine RetQ.of M ⟨hp, hend⟩ (RetM.one0 SE rfl ?_)
          exact WW trivial
        · refine Here.drawC T_ok [.p, .p, .p, .p, .f, .f, .f, .f, .p, .p, .p, .p, .p, .p, .p, .p, .p, .p, .p, .p, .p, .c, .p, .c] [0, 3, 9] [] [] (Nat.le_of_ble_eq_true rfl) mixed_ok (by kernel_rfl) (by kernel_rfl) (by kernel_rfl) (by simp only [List.mem_cons, List.not_mem_nil, or_false, forall_eq_or_imp, forall_eq, go_sem, Nat.reduceMul, Nat.reduceLeDiff, Nat.reduceLT, reduceIte, reduceCtorEq, Nat.reduceEqDiff, Nat.reduceSub, Nat.reduceAdd] <;> first | exact calm_ptr_ne rfl | exact calm_ne rfl | exact ⟨calm_ptr_ne rfl, calm_ptr_ne rfl⟩ | exact ⟨calm_ptr_ne rfl, calm_ptr_ne rfl, calm_ptr_ne rfl⟩ | exact ⟨calm_ptr_ne rfl, calm_knot (by simp only [go_sem, Nat.reduceMul, Nat.reduceLeDiff, Nat.reduceLT, reduceIte, reduceCtorEq, Nat.reduceEqDiff, Nat.reduceSub, Nat.reduceAdd] <;> exact calm_ptr_ne rfl)⟩ | ((repeat' apply And.intro) <;> first | exact calm_ptr_ne rfl | exact calm_ne rfl)) ?_
          refine WW ?_
          simp only [er, ec]
          repeat (refine ⟨by first | omega | (unfold InR; omega) | exact ⟨by omega, by omega⟩, ?_⟩)
          refine HereC.storeRow T_ok (vs := I (M)) (u := .int .i64 ((M).getD (first + (2 * root + 1)) 0)) rfl SS SS rfl SS rfl (by rw [I_len]; omega) (keeps_nil _ _) ?_
          refine WW ?_
          rw [I_set]
          simp only [er, ec]
          repeat (refine ⟨by first | omega | (unfold InR; omega) | exact ⟨by omega, by omega⟩, ?_⟩)
          refine HereC.storeRow T_ok (vs := I ((M).set (first + root) ((M).getD (first + (2 * root + 1)) 0))) (u := .int .i64 ((M).getD (first + root) 0)) rfl SS SS rfl SS rfl (by rw [I_len, List.length_set]; omega) (keeps_nil _ _) ?_
          refine WW ?_
          rw [I_set]
          exact ⟨(2 * root + 1, swL 0 M (first + root) (first + (2 * root + 1))), ⟨hp.trans (PIn.swap (by omega) (by omega) (by omega) (by omega) (by omega)), hpBut_step ltI_swo hb hr hc (by omega) (by omega) hg (ltI_t.2 h9), by dsimp only; omega, by dsimp only; omega⟩, by dsimp only; omega, by dsimp only; omega, rfl⟩
    · have h3' := h3
      have er : ((first : Int) + (root : Int)).toNat = first + root := by omega
      have ec : ((first : Int) + (2 * (root : Int) + 1)).toNat = first + (2 * root + 1) := by omega
      have hc : 2 * root + 1 = 2 * root + 1 ∨ 2 * root + 1 = 2 * root + 2 := by omega
      have hg : ∀ c', (c' = 2 * root + 1 ∨ c' = 2 * root + 2) → c' < hi → ltI (M.getD (first + (2 * root + 1)) 0) (M.getD (first + c') 0) = false := fun c' h6 h7 => by
        rcases h6 with e | e
        · rw [e]; exact ltI_swo.irr _
        · omega
      refine Here.draw T_ok mixed_ok (by kernel_rfl) ?_
      refine WW ?_
      simp only [er, ec]
      repeat (refine ⟨by first | omega | (unfold InR; omega) | exact ⟨by omega, by omega⟩, ?_⟩)
      refine ⟨_, OpP.call' rfl rfl (cmpLess_spec (M.getD (first + root) 0) (M.getD (first + (2 * root + 1)) 0)) SA rfl, ?_⟩
      refine WW ?_
      refine ⟨fun h9 => ?_, fun h9 => ?_⟩
      · have hend := hpBut_end hb fun c' h6 h7 => ltI_swo.ntr _ _ _ (ltI_f.2 h9) (hg c' h6 h7)
        refine RetQ.of M ⟨hp, hend⟩ (RetM.one0 SE rfl ?_)
        exact WW trivial
      · refine Here.drawC T_ok [.p, .p, .p, .p, .f, .f, .f, .f, .p, .p, .p, .p, .p, .p, .p, .p, .p, .p, .p, .p, .p, .c, .p, .c] [0, 3, 9] [] [] (Nat.le_of_ble_eq_true rfl) mixed_ok (by kernel_rfl) (by kernel_rfl) (by kernel_rfl) (by simp only [List.mem_cons, List.not_mem_nil, or_false, forall_eq_or_imp, forall_eq, go_sem, Nat.reduceMul, Nat.reduceLeDiff, Nat.reduceLT, reduceIte, reduceCtorEq, Nat.reduceEqDiff, Nat.reduceSub, Nat.reduceAdd] <;> first | exact calm_ptr_ne rfl | exact calm_ne rfl | exact ⟨calm_ptr_ne rfl, calm_ptr_ne rfl⟩ | exact ⟨calm_ptr_ne rfl, calm_ptr_ne rfl, calm_ptr_ne rfl⟩ | exact ⟨calm_ptr_ne rfl, calm_knot (by simp only [go_sem, Nat.reduceMul, Nat.reduceLeDiff, Nat.reduceLT, reduceIte, reduceCtorEq, Nat.reduceEqDiff, Nat.reduceSub, Nat.reduceAdd] <;> exact calm_ptr_ne rfl)⟩ | ((repeat' apply And.intro) <;> first | exact calm_ptr_ne rfl | exact calm_ne rfl)) ?_
        refine WW ?_
        simp only [er, ec]
        repeat (refine ⟨by first | omega | (unfold InR; omega) | exact ⟨by omega, by omega⟩, ?_⟩)
        refine HereC.storeRow T_ok (vs := I (M)) (u := .int .i64 ((M).getD (first + (2 * root + 1)) 0)) rfl SS SS rfl SS rfl (by rw [I_len]; omega) (keeps_nil _ _) ?_
        refine WW ?_
        rw [I_set]
        simp only [er, ec]
        repeat (refine ⟨by first | omega | (unfold InR; omega) | exact ⟨by omega, by omega⟩, ?_⟩)
        refine HereC.storeRow T_ok (vs := I ((M).set (first + root) ((M).getD (first + (2 * root + 1)) 0))) (u := .int .i64 ((M).getD (first + root) 0)) rfl SS SS rfl SS rfl (by rw [I_len, List.length_set]; omega) (keeps_nil _ _) ?_
        refine WW ?_
        rw [I_set]
        exact ⟨(2 * root + 1, swL 0 M (first + root) (first + (2 * root + 1))), ⟨hp.trans (PIn.swap (by omega) (by omega) (by omega) (by omega) (by omega)), hpBut_step ltI_swo hb hr hc (by omega) (by omega) hg (ltI_t.2 h9), by dsimp only; omega, by dsimp only; omega⟩, by dsimp only; omega, by dsimp only; omega, rfl⟩
end Go.Proofs.YtcjhojdlfnpgjaaGreat
namespace Go.Proofs.YtcjhojdlfnpgjaaGreat
open Go.RowKit
def HS (a n k : Nat) (L : List Int) : Prop := Hp ltI 0 L a 0 k ∧ SIn ltI 0 (a + k) (a + n) L ∧ ∀ p q, p < k → k ≤ q → q < n → ltI (L.getD (a + q) 0) (L.getD (a + p) 0) = false
theorem hs_pre {a n k : Nat} {L : List Int} (h : HS a n (k + 1) L) (hk : k < n) (hl : a + n ≤ L.length) : Hp ltI 0 (swL 0 L a (a + k)) a (0 + 1) k := fun i c h1 h2 h3 => by
  rw [swL_get (by omega) (by omega), swL_get (by omega) (by omega), if_neg (by omega), if_neg (by omega), if_neg (by omega), if_neg (by omega)]
  exact h.1 i c (by omega) h2 (by omega)
theorem hs_step {a n k : Nat} {L M : List Int} (h : HS a n (k + 1) L) (hk : k < n) (hl : a + n ≤ L.length) (hp : PIn 0 a (a + k) (swL 0 L a (a + k)) M) (hh : Hp ltI 0 M a 0 k) : HS a n k M := by
  have hget := fun x => swL_get (d := (0 : Int)) (l := L) (i := a) (j := a + k) (by omega) (by omega) x
  have htop := h.1.top ltI_swo
  have hM : ∀ q, k ≤ q → q < n → M.getD (a + q) 0 = if q = k then L.getD a 0 else L.getD (a + q) 0 := fun q h1 h2 => by
    rw [hp.2.1 (a + q) (by omega), hget]
    by_cases e : q = k
    · rw [if_pos (by omega), if_pos e]
    · rw [if_neg (by omega), if_neg (by omega), if_neg e]
  have hlow : ∀ p, p < k → ∃ p', p' < k + 1 ∧ M.getD (a + p) 0 = L.getD (a + p') 0 := fun p h1 => by
    obtain ⟨j, h3, h4, e⟩ := hp.2.2 (a + p) (by omega) (by omega)
    rw [e, hget, if_neg (by omega)]
    by_cases e2 : j = a
    · exact ⟨k, by omega, by rw [if_pos e2]⟩
    · exact ⟨j - a, by omega, by rw [if_neg e2]; congr 1; omega⟩
  refine ⟨hh, fun i j h1 h2 h3 => ?_, fun p q h1 h2 h3 => ?_⟩
  · obtain ⟨i', rfl⟩ : ∃ i', i = a + i' := ⟨i - a, by omega⟩
    obtain ⟨j', rfl⟩ : ∃ j', j = a + j' := ⟨j - a, by omega⟩
    rw [hM i' (by omega) (by omega), hM j' (by omega) (by omega), if_neg (c := j' = k) (by omega)]
    by_cases e : i' = k
    · rw [if_pos e]; exact h.2.2 0 j' (by omega) (by omega) (by omega)
    · rw [if_neg e]; exact h.2.1 (a + i') (a + j') (by omega) (by omega) (by omega)
  · obtain ⟨p', h4, e⟩ := hlow p h1
    rw [e, hM q h2 h3]
    by_cases e2 : q = k
    · rw [if_pos e2]
      exact htop p' h4
    · rw [if_neg e2]
      exact h.2.2 p' q h4 (by omega) h3
theorem heapSort_spec (xs : List Int) (a b : Nat) (hab : a ≤ b) (hb : b ≤ xs.length) (hl : xs.length ≤ 1048576) : SpecQ Tryz.prog 113 [.own 0, .v (.int .i64 a), .v (.int .i64 b)] [.row 2 (I xs)] (κ := List Int) (fun _ => .tup []) (fun ys => [some (.row 2 (I ys))]) (fun ys => PIn 0 a b xs ys ∧ SIn ltI 0 a b ys) := by
  obtain ⟨n, rfl⟩ : ∃ n, b = a + n := ⟨b - a, by omega⟩
  have hd : (((a + n : Nat) : Int) - (a : Int)) = n := by omega
  have hq : (((n : Int) - 1).tdiv 2) = (((n - 1) / 2 : Nat) : Int) := by
    by_cases e : n = 0
    · subst e; rfl
    · rw [show (n : Int) - 1 = ((n - 1 : Nat) : Int) by omega]; rfl
  refine SpecQ.of_code T_ok Tryz.func113 rfl Tryz.ntmps113 Tryz.call113 (Nat.le_of_ble_eq_true rfl) (Nat.le_of_ble_eq_true rfl) (fun _ => rfl) (fun _ => rfl) (CodeV_sound T_ok (by kernel_rfl) rfl ?_)
  refine WW ?_
  rw [hd, hq]
  refine ⟨by unfold InR; omega, by unfold InR; omega, ⟨by decide, by unfold InR; omega⟩, ?_⟩
  refine Here.loopV T_ok (κ := Nat × List Int) (fun g => g.1 ≤ n + 1 ∧ PIn 0 a (a + n) xs g.2 ∧ Hp ltI 0 g.2 a g.1 n) (fun g => g.1) (fun g => [(0, .own 0), (6, .v (.int .i64 a)), (7, .v (.int .i64 0)), (8, .v (.int .i64 n)), (9, .v (.int .i64 ((g.1 : Int) - 1)))]) (fun g => [(0, .row 2 (I g.2))]) ((n - 1) / 2 + 1, xs) ⟨by dsimp only; omega, PIn.refl _ _ _, fun i c h1 h2 h3 => by omega⟩ (by simp only [go_sem, Nat.reduceMul, Nat.reduceLeDiff, Nat.reduceLT, reduceIte, reduceCtorEq, Nat.reduceEqDiff, Nat.reduceSub, Nat.reduceAdd]; simp) SW ?_
  rintro ⟨k, L⟩ ⟨hk, hp, hh⟩
  dsimp only at hk hp hh ⊢
  have hlL := hp.len
  refine WW ?_
  refine ⟨fun h2 => ?_, fun h2 => ?_⟩
  · rw [show (k : Int) - 1 = ((k - 1 : Nat) : Int) by omega]
    refine HereO.callQ T_ok 26 [0] rfl rfl (siftDown_spec L (k - 1) n a (by omega) (by omega) (by omega) (by rw [show k - 1 + 1 = k by omega]; exact hh)) SC rfl (by decide) (by decide) rfl (fun _ => rfl) (fun _ => rfl) (fun _ => Nat.le_of_ble_eq_true rfl) ?_
    rintro M ⟨hpM, hhM⟩
    refine WW ?_
    exact ⟨by unfold InR; omega, (k - 1, M), ⟨by dsimp only; omega, hp.trans hpM, hhM⟩, by dsimp only; omega, rfl, rfl⟩
  · obtain rfl : k = 0 := by omega
    refine ⟨by unfold InR; omega, ?_⟩
    refine Here.loopV T_ok (κ := Nat × List Int) (fun g => g.1 ≤ n ∧ PIn 0 a (a + n) xs g.2 ∧ HS a n g.1 g.2) (fun g => g.1) (fun g => [(0, .own 0), (6, .v (.int .i64 a)), (7, .v (.int .i64 0)), (10, .v (.int .i64 ((g.1 : Int) - 1)))]) (fun g => [(0, .row 2 (I g.2))]) (n, L) ⟨Nat.le_refl _, hp, hh, SIn.short (by omega), fun p q h3 h4 h5 => by omega⟩ SW SW ?_
    rintro ⟨k, M⟩ ⟨hk, hpM, hs⟩
    dsimp only at hk hpM hs ⊢
    have hlM := hpM.len
    refine WW ?_
    refine ⟨fun h3 => ?_, fun h3 => ?_⟩
    · obtain ⟨i, rfl⟩ : ∃ i, k = i + 1 := ⟨k - 1, by omega⟩
      rw [show ((i + 1 : Nat) : Int) - 1 = (i : Int) by omega]
      have e1 : ((a : Int) + (i : Int)).toNat = a + i := by omega
      refine Here.drawC T_ok [.p, .p, .f, .f, .f, .f, .p, .p, .p, .p, .p, .p, .p, .p, .p, .p, .p, .c, .p, .c] [0, 6, 10] [] [] (Nat.le_of_ble_eq_true rfl) mixed_ok (by kernel_rfl) (by kernel_rfl) (by kernel_rfl) (by simp only [List.mem_cons, List.not_mem_nil, or_false, forall_eq_or_imp, forall_eq, go_sem, Nat.reduceMul, Nat.reduceLeDiff, Nat.reduceLT, reduceIte, reduceCtorEq, Nat.reduceEqDiff, Nat.reduceSub, Nat.reduceAdd] <;> first | exact calm_ptr_ne rfl | exact calm_ne rfl | exact ⟨calm_ptr_ne rfl, calm_ptr_ne rfl⟩ | exact ⟨calm_ptr_ne rfl, calm_ptr_ne rfl, calm_ptr_ne rfl⟩ | exact ⟨calm_ptr_ne rfl, calm_knot (by simp only [go_sem, Nat.reduceMul, Nat.reduceLeDiff, Nat.reduceLT, reduceIte, reduceCtorEq, Nat.reduceEqDiff, Nat.reduceSub, Nat.reduceAdd] <;> exact calm_ptr_ne rfl)⟩ | ((repeat' apply And.intro) <;> first | exact calm_ptr_ne rfl | exact calm_ne rfl)) ?_
      refine WW ?_
      simp only [e1]
      repeat (refine ⟨by first | omega | (unfold InR; omega) | exact ⟨by omega, by omega⟩, ?_⟩)
      refine HereC.storeRow T_ok (vs := I (M)) (u := .int .i64 ((M).getD (a + i) 0)) rfl SS SS rfl SS rfl (by rw [I_len]; omega) (keeps_nil _ _) ?_
      refine WW ?_
      rw [I_set]
      simp only [e1]
      repeat (refine ⟨by first | omega | (unfold InR; omega) | exact ⟨by omega, by omega⟩, ?_⟩)
      refine HereC.storeRow T_ok (vs := I ((M).set (a) ((M).getD (a + i) 0))) (u := .int .i64 ((M).getD (a) 0)) rfl SS SS rfl SS rfl (by rw [I_len, List.length_set]; omega) (keeps_nil _ _) ?_
      refine WW ?_
      rw [I_set]
      have hsd := siftDown_spec (swL 0 M a (a + i)) 0 i a (by omega) (by rw [swL_len]; omega) (by rw [swL_len]; omega) (hs_pre hs (by omega) (by omega))
      rw [show ((0 : Nat) : Int) = 0 from rfl] at hsd
      refine HereO.callQ T_ok 55 [0] rfl rfl (hsd) SC rfl (by decide) (by decide) rfl (fun _ => rfl) (fun _ => rfl) (fun _ => Nat.le_of_ble_eq_true rfl) ?_
      rintro N ⟨hpN, hhN⟩
      refine WW ?_
      exact ⟨by unfold InR; omega, (i, N), ⟨by dsimp only; omega, (hpM.trans (PIn.swap (by omega) (by omega) (by omega) (by omega) (by omega))).trans (hpN.mono (by omega) (by omega)), hs_step hs (by omega) (by omega) hpN hhN⟩, by dsimp only; omega, rfl, rfl⟩
    · obtain rfl : k = 0 := by omega
      refine RetQ.of M ⟨hpM, hs.2.1⟩ (RetM.one0 SE rfl ?_)
      exact WW trivial
end Go.Proofs.YtcjhojdlfnpgjaaGreat
