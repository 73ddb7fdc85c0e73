/- Contracts: Go's sort of whole numbers: parting. -/
import Derived.Test.YtcjhojdlfnpgjaaGreatK35
set_option linter.unusedVariables false
set_option linter.unusedSimpArgs false
set_option maxRecDepth 100000
namespace Go.Proofs.YtcjhojdlfnpgjaaGreat
open Go.RowKit
set_option maxHeartbeats 16000000 in
theorem partition_spec (xs : List Int) (a b pv : Nat) (ha : a ≤ pv) (hpv : pv < b) (hb : b ≤ xs.length) (hl : xs.length ≤ 1048576) : SpecQ Tryz.prog 120 [.own 0, .v (.int .i64 a), .v (.int .i64 b), .v (.int .i64 pv)] [.row 2 (I xs)] (κ := Nat × Bool × List Int) (fun y => .tup [.v (.int .i64 y.1), .v (.bool y.2.1)]) (fun y => [some (.row 2 (I y.2.2))]) (fun y => PIn 0 a b xs y.2.2 ∧ PPost ltI 0 a b y.1 y.2.2) := by
  refine SpecQ.of_code T_ok Tryz.func120 rfl Tryz.ntmps120 Tryz.call120 (Nat.le_of_ble_eq_true rfl) (Nat.le_of_ble_eq_true rfl) (fun _ => rfl) (fun _ => rfl) (CodeV_sound T_ok (by kernel_rfl) rfl ?_)
  refine WW ?_
  refine Here.drawC T_ok [.p, .p, .f, .f, .p, .p, .p, .p, .p, .p, .p, .p, .p, .c, .p, .c] [0, 3] [] [] (Nat.le_of_ble_eq_true rfl) mixed_ok (by kernel_rfl) (by kernel_rfl) (by kernel_rfl) (by simp only [List.mem_cons, List.not_mem_nil, or_false, forall_eq_or_imp, forall_eq, go_sem, Nat.reduceMul, Nat.reduceLeDiff, Nat.reduceLT, reduceIte, reduceCtorEq, Nat.reduceEqDiff, Nat.reduceSub, Nat.reduceAdd] <;> first | exact calm_ptr_ne rfl | exact calm_ne rfl | exact ⟨calm_ptr_ne rfl, calm_ptr_ne rfl⟩ | exact ⟨calm_ptr_ne rfl, calm_ptr_ne rfl, calm_ptr_ne rfl⟩ | exact ⟨calm_ptr_ne rfl, calm_knot (by simp only [go_sem, Nat.reduceMul, Nat.reduceLeDiff, Nat.reduceLT, reduceIte, reduceCtorEq, Nat.reduceEqDiff, Nat.reduceSub, Nat.reduceAdd] <;> exact calm_ptr_ne rfl)⟩ | ((repeat' apply And.intro) <;> first | exact calm_ptr_ne rfl | exact calm_ne rfl)) ?_
  refine WW ?_
  repeat (refine ⟨by first | omega | (unfold InR; omega) | exact ⟨by omega, by omega⟩, ?_⟩)
  refine HereC.storeRow T_ok (vs := I (xs)) (u := .int .i64 ((xs).getD (pv) 0)) rfl SS SS rfl SS rfl (by rw [I_len]; omega) (keeps_nil _ _) ?_
  refine WW ?_
  rw [I_set]
  repeat (refine ⟨by first | omega | (unfold InR; omega) | exact ⟨by omega, by omega⟩, ?_⟩)
  refine HereC.storeRow T_ok (vs := I ((xs).set (a) ((xs).getD (pv) 0))) (u := .int .i64 ((xs).getD (a) 0)) rfl SS SS rfl SS rfl (by rw [I_len, List.length_set]; omega) (keeps_nil _ _) ?_
  refine WW ?_
  rw [I_set]
  rw [show (xs.set a (xs.getD pv 0)).set pv (xs.getD a 0) = swL 0 xs a pv from rfl, show (b : Int) - 1 = ((b - 1 : Nat) : Int) by omega]
  have hp0 : PIn 0 a b xs (swL 0 xs a pv) := PIn.swap (by omega) (by omega) (by omega) (by omega) (by omega)
  generalize hM : swL 0 xs a pv = M at *
  have hlM := hp0.len
  generalize hp : M.getD a 0 = p at *
  refine ⟨by unfold InR; omega, by unfold InR; omega, ?_⟩
  refine HereV.cut T_ok (ε := Nat) (fun i => Prt (fun x => ltI x p) 0 a b i (b - 1) (M) ∧ a + 1 ≤ i ∧ (i ≤ b - 1 → ltI ((M).getD i 0) p = false)) (fun i => [(0, .own 0), (1, .v (.int .i64 a)), (10, .v (.int .i64 (i : Nat))), (11, .v (.int .i64 (b - 1 : Nat)))]) (fun _ => [(0, .row 2 (I (M)))]) ?_ ?_
  · refine Here.loopV T_ok (fun i => Prt (fun x => ltI x p) 0 a b i (b - 1) (M) ∧ a + 1 ≤ i) (fun i => b - i) (fun i => [(0, .own 0), (1, .v (.int .i64 a)), (10, .v (.int .i64 (i : Nat))), (11, .v (.int .i64 (b - 1 : Nat)))]) (fun _ => [(0, .row 2 (I (M)))]) (a + 1) ⟨(prt_0 (by omega) M), Nat.le_refl _⟩ (by simp only [go_sem, Nat.reduceMul, Nat.reduceLeDiff, Nat.reduceLT, reduceIte, reduceCtorEq, Nat.reduceEqDiff, Nat.reduceSub, Nat.reduceAdd] <;> simp) SW ?_
    rintro i ⟨hP, hi⟩
    obtain ⟨g1, g2, g3, g4, g5⟩ := id hP
    refine WW ?_
    refine Here.draw T_ok mixed_ok (by kernel_rfl) ?_
    refine WW ?_
    refine ⟨fun h2 => ?_, fun h2 => ?_⟩
    · repeat (refine ⟨by first | omega | (unfold InR; omega) | exact ⟨by omega, by omega⟩, ?_⟩)
      refine ⟨_, OpP.call' rfl rfl (cmpLess_spec ((M).getD i 0) ((M).getD a 0)) SA rfl, ?_⟩
      refine WW ?_
      refine ⟨fun h3 => ?_, fun h3 => ?_⟩
      · exact ⟨by unfold InR; omega, i + 1, ⟨prt_i hP (by omega) (by show ltI _ _ = true; rw [← hp]; exact ltI_t.2 h3), by omega⟩, by omega, by push_cast; rfl⟩
      · exact ⟨i, ⟨hP, hi, fun _ => (by show ltI _ _ = false; rw [← hp]; exact ltI_f.2 h3)⟩, rfl⟩
    · exact ⟨i, ⟨hP, hi, fun q => by omega⟩, rfl⟩
  rintro i ⟨hP, hi, hQi⟩
  refine WW ?_
  refine HereV.cut T_ok (ε := Nat) (fun j => Prt (fun x => ltI x p) 0 a b i j (M) ∧ j ≤ b - 1 ∧ (i ≤ j → ltI ((M).getD j 0) p = true)) (fun j => [(0, .own 0), (1, .v (.int .i64 a)), (10, .v (.int .i64 (i : Nat))), (11, .v (.int .i64 (j : Nat)))]) (fun _ => [(0, .row 2 (I (M)))]) ?_ ?_
  · refine Here.loopV T_ok (fun j => Prt (fun x => ltI x p) 0 a b i j (M) ∧ j ≤ b - 1) (fun j => j) (fun j => [(0, .own 0), (1, .v (.int .i64 a)), (10, .v (.int .i64 (i : Nat))), (11, .v (.int .i64 (j : Nat)))]) (fun _ => [(0, .row 2 (I (M)))]) (b - 1) ⟨hP, Nat.le_refl _⟩ (by simp only [go_sem, Nat.reduceMul, Nat.reduceLeDiff, Nat.reduceLT, reduceIte, reduceCtorEq, Nat.reduceEqDiff, Nat.reduceSub, Nat.reduceAdd] <;> simp) SW ?_
    rintro j ⟨hP, hj⟩
    obtain ⟨g1, g2, g3, g4, g5⟩ := id hP
    refine WW ?_
    refine Here.draw T_ok mixed_ok (by kernel_rfl) ?_
    refine WW ?_
    refine ⟨fun h2 => ?_, fun h2 => ?_⟩
    · repeat (refine ⟨by first | omega | (unfold InR; omega) | exact ⟨by omega, by omega⟩, ?_⟩)
      refine ⟨_, OpP.call' rfl rfl (cmpLess_spec ((M).getD j 0) ((M).getD a 0)) SA rfl, ?_⟩
      refine WW ?_
      refine ⟨fun h3 => ?_, fun h3 => ?_⟩
      · exact ⟨by unfold InR; omega, j - 1, ⟨prt_j hP (by omega) (by show ltI _ _ = false; rw [← hp]; exact ltI_f.2 h3), by omega⟩, by omega, by omega⟩
      · exact ⟨j, ⟨hP, hj, fun _ => (by show ltI _ _ = true; rw [← hp]; exact ltI_t.2 h3)⟩, rfl⟩
    · exact ⟨j, ⟨hP, hj, fun q => by omega⟩, rfl⟩
  rintro j ⟨hP, hj, hQj⟩
  obtain ⟨g1, g2, g3, g4, g5⟩ := id hP
  refine WW ?_
  refine ⟨fun h2 => ?_, fun h2 => ?_⟩
  · refine Here.drawC T_ok [.p, .p, .f, .f, .p, .p, .p, .p, .p, .p, .p, .p, .p, .c, .p, .c] [0, 1] [] [] (Nat.le_of_ble_eq_true rfl) mixed_ok (by kernel_rfl) (by kernel_rfl) (by kernel_rfl) (by simp only [List.mem_cons, List.not_mem_nil, or_false, forall_eq_or_imp, forall_eq, go_sem, Nat.reduceMul, Nat.reduceLeDiff, Nat.reduceLT, reduceIte, reduceCtorEq, Nat.reduceEqDiff, Nat.reduceSub, Nat.reduceAdd] <;> first | exact calm_ptr_ne rfl | exact calm_ne rfl | exact ⟨calm_ptr_ne rfl, calm_ptr_ne rfl⟩ | exact ⟨calm_ptr_ne rfl, calm_ptr_ne rfl, calm_ptr_ne rfl⟩ | exact ⟨calm_ptr_ne rfl, calm_knot (by simp only [go_sem, Nat.reduceMul, Nat.reduceLeDiff, Nat.reduceLT, reduceIte, reduceCtorEq, Nat.reduceEqDiff, Nat.reduceSub, Nat.reduceAdd] <;> exact calm_ptr_ne rfl)⟩ | ((repeat' apply And.intro) <;> first | exact calm_ptr_ne rfl | exact calm_ne rfl)) ?_
    refine WW ?_
    repeat (refine ⟨by first | omega | (unfold InR; omega) | exact ⟨by omega, by omega⟩, ?_⟩)
    refine HereC.storeRow T_ok (vs := I (M)) (u := .int .i64 ((M).getD (a) 0)) rfl SS SS rfl SS rfl (by rw [I_len]; omega) (keeps_nil _ _) ?_
    refine WW ?_
    rw [I_set]
    repeat (refine ⟨by first | omega | (unfold InR; omega) | exact ⟨by omega, by omega⟩, ?_⟩)
    refine HereC.storeRow T_ok (vs := I ((M).set (j) ((M).getD (a) 0))) (u := .int .i64 ((M).getD (j) 0)) rfl SS SS rfl SS rfl (by rw [I_len, List.length_set]; omega) (keeps_nil _ _) ?_
    refine WW ?_
    rw [I_set]
    refine RetQ.of (j, true, swL 0 M j a) ⟨hp0.trans (PIn.swap (by omega) (by omega) (by omega) (by omega) (by omega)), prt_end hp hP (by omega) (by omega)⟩ (RetM.one0 SE rfl ?_)
    refine WW ?_
    rfl
  · refine Here.drawC T_ok [.p, .p, .f, .f, .p, .p, .p, .p, .p, .p, .p, .p, .p, .c, .p, .c] [0, 11] [] [] (Nat.le_of_ble_eq_true rfl) mixed_ok (by kernel_rfl) (by kernel_rfl) (by kernel_rfl) (by simp only [List.mem_cons, List.not_mem_nil, or_false, forall_eq_or_imp, forall_eq, go_sem, Nat.reduceMul, Nat.reduceLeDiff, Nat.reduceLT, reduceIte, reduceCtorEq, Nat.reduceEqDiff, Nat.reduceSub, Nat.reduceAdd] <;> first | exact calm_ptr_ne rfl | exact calm_ne rfl | exact ⟨calm_ptr_ne rfl, calm_ptr_ne rfl⟩ | exact ⟨calm_ptr_ne rfl, calm_ptr_ne rfl, calm_ptr_ne rfl⟩ | exact ⟨calm_ptr_ne rfl, calm_knot (by simp only [go_sem, Nat.reduceMul, Nat.reduceLeDiff, Nat.reduceLT, reduceIte, reduceCtorEq, Nat.reduceEqDiff, Nat.reduceSub, Nat.reduceAdd] <;> exact calm_ptr_ne rfl)⟩ | ((repeat' apply And.intro) <;> first | exact calm_ptr_ne rfl | exact calm_ne rfl)) ?_
    refine WW ?_
    repeat (refine ⟨by first | omega | (unfold InR; omega) | exact ⟨by omega, by omega⟩, ?_⟩)
    refine HereC.storeRow T_ok (vs := I (M)) (u := .int .i64 ((M).getD (j) 0)) rfl SS SS rfl SS rfl (by rw [I_len]; omega) (keeps_nil _ _) ?_
    refine WW ?_
    rw [I_set]
    repeat (refine ⟨by first | omega | (unfold InR; omega) | exact ⟨by omega, by omega⟩, ?_⟩)
    refine HereC.storeRow T_ok (vs := I ((M).set (i) ((M).getD (j) 0))) (u := .int .i64 ((M).getD (i) 0)) rfl SS SS rfl SS rfl (by rw [I_len, List.length_set]; omega) (keeps_nil _ _) ?_
    refine WW ?_
    rw [I_set]
    have hs := prt_sw hP (by omega) (by omega) (hQi (by omega)) (hQj (by omega))
    refine ⟨by unfold InR; omega, by unfold InR; omega, ?_⟩
    refine Here.loopV T_ok (κ := Nat × Nat × List Int) (fun g => Prt (fun x => ltI x p) 0 a b g.1 g.2.1 g.2.2 ∧ PIn 0 a b xs g.2.2 ∧ g.2.2.getD a 0 = p) (fun g => g.2.1 + 1 - g.1) (fun g => [(0, .own 0), (1, .v (.int .i64 a)), (10, .v (.int .i64 g.1)), (11, .v (.int .i64 g.2.1))]) (fun g => [(0, .row 2 (I g.2.2))]) (i + 1, j - 1, swL 0 M i j) ⟨hs.1, hp0.trans (PIn.swap (by omega) (by omega) (by omega) (by omega) (by omega)), by dsimp only; rw [swL_get (by omega) (by omega), if_neg (by omega), if_neg (by omega)]; exact hp⟩ (by simp only [go_sem, Nat.reduceMul, Nat.reduceLeDiff, Nat.reduceLT, reduceIte, reduceCtorEq, Nat.reduceEqDiff, Nat.reduceSub, Nat.reduceAdd]; omega) SE ?_
    clear hp hP hQi hQj
    rintro ⟨i0, j0, L⟩ ⟨hP, hpL, hp⟩
    dsimp only at hP hpL hp ⊢
    have hlL := hpL.len
    refine WW ?_
    refine HereV.cut T_ok (ε := Nat) (fun i => Prt (fun x => ltI x p) 0 a b i (j0) (L) ∧ i0 ≤ i ∧ (i ≤ j0 → ltI ((L).getD i 0) p = false)) (fun i => [(0, .own 0), (1, .v (.int .i64 a)), (10, .v (.int .i64 (i : Nat))), (11, .v (.int .i64 (j0 : Nat)))]) (fun _ => [(0, .row 2 (I (L)))]) ?_ ?_
    · refine Here.loopV T_ok (fun i => Prt (fun x => ltI x p) 0 a b i (j0) (L) ∧ i0 ≤ i) (fun i => b - i) (fun i => [(0, .own 0), (1, .v (.int .i64 a)), (10, .v (.int .i64 (i : Nat))), (11, .v (.int .i64 (j0 : Nat)))]) (fun _ => [(0, .row 2 (I (L)))]) (i0) ⟨hP, Nat.le_refl _⟩ (by simp only [go_sem, Nat.reduceMul, Nat.reduceLeDiff, Nat.reduceLT, reduceIte, reduceCtorEq, Nat.reduceEqDiff, Nat.reduceSub, Nat.reduceAdd] <;> simp) SW ?_
      rintro i ⟨hP, hi⟩
      obtain ⟨g1, g2, g3, g4, g5⟩ := id hP
      refine WW ?_
      refine Here.draw T_ok mixed_ok (by kernel_rfl) ?_
      refine WW ?_
      refine ⟨fun h2 => ?_, fun h2 => ?_⟩
      · repeat (refine ⟨by first | omega | (unfold InR; omega) | exact ⟨by omega, by omega⟩, ?_⟩)
        refine ⟨_, OpP.call' rfl rfl (cmpLess_spec ((L).getD i 0) ((L).getD a 0)) SA rfl, ?_⟩
        refine WW ?_
        refine ⟨fun h3 => ?_, fun h3 => ?_⟩
        · exact ⟨by unfold InR; omega, i + 1, ⟨prt_i hP (by omega) (by show ltI _ _ = true; rw [← hp]; exact ltI_t.2 h3), by omega⟩, by omega, by push_cast; rfl⟩
        · exact ⟨i, ⟨hP, hi, fun _ => (by show ltI _ _ = false; rw [← hp]; exact ltI_f.2 h3)⟩, rfl⟩
      · exact ⟨i, ⟨hP, hi, fun q => by omega⟩, rfl⟩
    rintro i ⟨hP, hi, hQi⟩
    refine WW ?_
    refine HereV.cut T_ok (ε := Nat) (fun j => Prt (fun x => ltI x p) 0 a b i j (L) ∧ j ≤ j0 ∧ (i ≤ j → ltI ((L).getD j 0) p = true)) (fun j => [(0, .own 0), (1, .v (.int .i64 a)), (10, .v (.int .i64 (i : Nat))), (11, .v (.int .i64 (j : Nat)))]) (fun _ => [(0, .row 2 (I (L)))]) ?_ ?_
    · refine Here.loopV T_ok (fun j => Prt (fun x => ltI x p) 0 a b i j (L) ∧ j ≤ j0) (fun j => j) (fun j => [(0, .own 0), (1, .v (.int .i64 a)), (10, .v (.int .i64 (i : Nat))), (11, .v (.int .i64 (j : Nat)))]) (fun _ => [(0, .row 2 (I (L)))]) (j0) ⟨hP, Nat.le_refl _⟩ (by simp only [go_sem, Nat.reduceMul, Nat.reduceLeDiff, Nat.reduceLT, reduceIte, reduceCtorEq, Nat.reduceEqDiff, Nat.reduceSub, Nat.reduceAdd] <;> simp) SW ?_
      rintro j ⟨hP, hj⟩
      obtain ⟨g1, g2, g3, g4, g5⟩ := id hP
      refine WW ?_
      refine Here.draw T_ok mixed_ok (by kernel_rfl) ?_
      refine WW ?_
      refine ⟨fun h2 => ?_, fun h2 => ?_⟩
      · repeat (refine ⟨by first | omega | (unfold InR; omega) | exact ⟨by omega, by omega⟩, ?_⟩)
        refine ⟨_, OpP.call' rfl rfl (cmpLess_spec ((L).getD j 0) ((L).getD a 0)) SA rfl, ?_⟩
        refine WW ?_
        refine ⟨fun h3 => ?_, fun h3 => ?_⟩
        · exact ⟨by unfold InR; omega, j - 1, ⟨prt_j hP (by omega) (by show ltI _ _ = false; rw [← hp]; exact ltI_f.2 h3), by omega⟩, by omega, by omega⟩
        · exact ⟨j, ⟨hP, hj, fun _ => (by show ltI _ _ = true; rw [← hp]; exact ltI_t.2 h3)⟩, rfl⟩
      · exact ⟨j, ⟨hP, hj, fun q => by omega⟩, rfl⟩
    rintro j ⟨hP, hj, hQj⟩
    obtain ⟨g1, g2, g3, g4, g5⟩ := id hP
    refine WW ?_
    refine ⟨fun h2 => ?_, fun h2 => ?_⟩
    · refine Here.drawC T_ok [.p, .p, .f, .f, .p, .p, .p, .p, .p, .p, .p, .p, .p, .c, .p, .c] [0, 1] [] [] (Nat.le_of_ble_eq_true rfl) mixed_ok (by kernel_rfl) (by kernel_rfl) (by kernel_rfl) (by simp only [List.mem_cons, List.not_mem_nil, or_false, forall_eq_or_imp, forall_eq, go_sem, Nat.reduceMul, Nat.reduceLeDiff, Nat.reduceLT, reduceIte, reduceCtorEq, Nat.reduceEqDiff, Nat.reduceSub, Nat.reduceAdd] <;> first | exact calm_ptr_ne rfl | exact calm_ne rfl | exact ⟨calm_ptr_ne rfl, calm_ptr_ne rfl⟩ | exact ⟨calm_ptr_ne rfl, calm_ptr_ne rfl, calm_ptr_ne rfl⟩ | exact ⟨calm_ptr_ne rfl, calm_knot (by simp only [go_sem, Nat.reduceMul, Nat.reduceLeDiff, Nat.reduceLT, reduceIte, reduceCtorEq, Nat.reduceEqDiff, Nat.reduceSub, Nat.reduceAdd] <;> exact calm_ptr_ne rfl)⟩ | ((repeat' apply And.intro) <;> first | exact calm_ptr_ne rfl | exact calm_ne rfl)) ?_
      refine WW ?_
      repeat (refine ⟨by first | omega | (unfold InR; omega) | exact ⟨by omega, by omega⟩, ?_⟩)
      refine HereC.storeRow T_ok (vs := I (L)) (u := .int .i64 ((L).getD (a) 0)) rfl SS SS rfl SS rfl (by rw [I_len]; omega) (keeps_nil _ _) ?_
      refine WW ?_
      rw [I_set]
      repeat (refine ⟨by first | omega | (unfold InR; omega) | exact ⟨by omega, by omega⟩, ?_⟩)
      refine HereC.storeRow T_ok (vs := I ((L).set (j) ((L).getD (a) 0))) (u := .int .i64 ((L).getD (j) 0)) rfl SS SS rfl SS rfl (by rw [I_len, List.length_set]; omega) (keeps_nil _ _) ?_
      refine WW ?_
      rw [I_set]
      refine RetQ.of (j, false, swL 0 L j a) ⟨hpL.trans (PIn.swap (by omega) (by omega) (by omega) (by omega) (by omega)), prt_end hp hP (by omega) (by omega)⟩ (RetM.one0 SE rfl ?_)
      refine WW ?_
      rfl
    · refine Here.drawC T_ok [.p, .p, .f, .f, .p, .p, .p, .p, .p, .p, .p, .p, .p, .c, .p, .c] [0, 11] [] [] (Nat.le_of_ble_eq_true rfl) mixed_ok (by kernel_rfl) (by kernel_rfl) (by kernel_rfl) (by simp only [List.mem_cons, List.not_mem_nil, or_false, forall_eq_or_imp, forall_eq, go_sem, Nat.reduceMul, Nat.reduceLeDiff, Nat.reduceLT, reduceIte, reduceCtorEq, Nat.reduceEqDiff, Nat.reduceSub, Nat.reduceAdd] <;> first | exact calm_ptr_ne rfl | exact calm_ne rfl | exact ⟨calm_ptr_ne rfl, calm_ptr_ne rfl⟩ | exact ⟨calm_ptr_ne rfl, calm_ptr_ne rfl, calm_ptr_ne rfl⟩ | exact ⟨calm_ptr_ne rfl, calm_knot (by simp only [go_sem, Nat.reduceMul, Nat.reduceLeDiff, Nat.reduceLT, reduceIte, reduceCtorEq, Nat.reduceEqDiff, Nat.reduceSub, Nat.reduceAdd] <;> exact calm_ptr_ne rfl)⟩ | ((repeat' apply And.intro) <;> first | exact calm_ptr_ne rfl | exact calm_ne rfl)) ?_
      refine WW ?_
      repeat (refine ⟨by first | omega | (unfold InR; omega) | exact ⟨by omega, by omega⟩, ?_⟩)
      refine HereC.storeRow T_ok (vs := I (L)) (u := .int .i64 ((L).getD (j) 0)) rfl SS SS rfl SS rfl (by rw [I_len]; omega) (keeps_nil _ _) ?_
      refine WW ?_
      rw [I_set]
      repeat (refine ⟨by first | omega | (unfold InR; omega) | exact ⟨by omega, by omega⟩, ?_⟩)
      refine HereC.storeRow T_ok (vs := I ((L).set (i) ((L).getD (j) 0))) (u := .int .i64 ((L).getD (i) 0)) rfl SS SS rfl SS rfl (by rw [I_len, List.length_set]; omega) (keeps_nil _ _) ?_
      refine WW ?_
      rw [I_set]
      have hs := prt_sw hP (by omega) (by omega) (hQi (by omega)) (hQj (by omega))
      exact ⟨by unfold InR; omega, by unfold InR; omega, (i + 1, j - 1, swL 0 L i j), ⟨hs.1, hpL.trans (PIn.swap (by omega) (by omega) (by omega) (by omega) (by omega)), by dsimp only; rw [swL_get (by omega) (by omega), if_neg (by omega), if_neg (by omega)]; exact hp⟩, by dsimp only; omega, ⟨by push_cast; rfl, by dsimp only; omega⟩, rfl⟩
end Go.Proofs.YtcjhojdlfnpgjaaGreat
namespace Go.Proofs.YtcjhojdlfnpgjaaGreat
open Go.RowKit
set_option maxHeartbeats 16000000 in
theorem partitionEqual_spec (xs : List Int) (a b pv : Nat) (ha : a ≤ pv) (hpv : pv < b) (hb : b ≤ xs.length) (hl : xs.length ≤ 1048576) : SpecQ Tryz.prog 119 [.own 0, .v (.int .i64 a), .v (.int .i64 b), .v (.int .i64 pv)] [.row 2 (I xs)] (κ := Nat × List Int) (fun y => .v (.int .i64 y.1)) (fun y => [some (.row 2 (I y.2))]) (fun y => PIn 0 a b xs y.2 ∧ a < y.1 ∧ y.1 ≤ b ∧ (∀ k, a ≤ k → k < y.1 → ltI (xs.getD pv 0) (y.2.getD k 0) = false) ∧ ∀ k, y.1 ≤ k → k < b → ltI (xs.getD pv 0) (y.2.getD k 0) = true) := by
  refine SpecQ.of_code T_ok Tryz.func119 rfl Tryz.ntmps119 Tryz.call119 (Nat.le_of_ble_eq_true rfl) (Nat.le_of_ble_eq_true rfl) (fun _ => rfl) (fun _ => rfl) (CodeV_sound T_ok (by kernel_rfl) rfl ?_)
  refine WW ?_
  refine Here.drawC T_ok [.p, .p, .f, .f, .p, .p, .p, .p, .p, .p, .p, .p, .p, .c, .p, .c] [0, 3] [] [] (Nat.le_of_ble_eq_true rfl) mixed_ok (by kernel_rfl) (by kernel_rfl) (by kernel_rfl) (by simp only [List.mem_cons, List.not_mem_nil, or_false, forall_eq_or_imp, forall_eq, go_sem, Nat.reduceMul, Nat.reduceLeDiff, Nat.reduceLT, reduceIte, reduceCtorEq, Nat.reduceEqDiff, Nat.reduceSub, Nat.reduceAdd] <;> first | exact calm_ptr_ne rfl | exact calm_ne rfl | exact ⟨calm_ptr_ne rfl, calm_ptr_ne rfl⟩ | exact ⟨calm_ptr_ne rfl, calm_ptr_ne rfl, calm_ptr_ne rfl⟩ | exact ⟨calm_ptr_ne rfl, calm_knot (by simp only [go_sem, Nat.reduceMul, Nat.reduceLeDiff, Nat.reduceLT, reduceIte, reduceCtorEq, Nat.reduceEqDiff, Nat.reduceSub, Nat.reduceAdd] <;> exact calm_ptr_ne rfl)⟩ | ((repeat' apply And.intro) <;> first | exact calm_ptr_ne rfl | exact calm_ne rfl)) ?_
  refine WW ?_
  repeat (refine ⟨by first | omega | (unfold InR; omega) | exact ⟨by omega, by omega⟩, ?_⟩)
  refine HereC.storeRow T_ok (vs := I (xs)) (u := .int .i64 ((xs).getD (pv) 0)) rfl SS SS rfl SS rfl (by rw [I_len]; omega) (keeps_nil _ _) ?_
  refine WW ?_
  rw [I_set]
  repeat (refine ⟨by first | omega | (unfold InR; omega) | exact ⟨by omega, by omega⟩, ?_⟩)
  refine HereC.storeRow T_ok (vs := I ((xs).set (a) ((xs).getD (pv) 0))) (u := .int .i64 ((xs).getD (a) 0)) rfl SS SS rfl SS rfl (by rw [I_len, List.length_set]; omega) (keeps_nil _ _) ?_
  refine WW ?_
  rw [I_set]
  rw [show (xs.set a (xs.getD pv 0)).set pv (xs.getD a 0) = swL 0 xs a pv from rfl, show (b : Int) - 1 = ((b - 1 : Nat) : Int) by omega]
  have hp0 : PIn 0 a b xs (swL 0 xs a pv) := PIn.swap (by omega) (by omega) (by omega) (by omega) (by omega)
  have hp : (swL 0 xs a pv).getD a 0 = xs.getD pv 0 := by
    rw [swL_get (by omega) (by omega)]
    by_cases e : a = pv
    · rw [if_pos e, e]
    · rw [if_neg e, if_pos rfl]
  generalize swL 0 xs a pv = M at *
  generalize xs.getD pv 0 = p at *
  refine ⟨by unfold InR; omega, by unfold InR; omega, ?_⟩
  have hlM := hp0.len
  refine Here.loopV T_ok (κ := Nat × Nat × List Int) (fun g => Prt (fun x => !ltI p x) 0 a b g.1 g.2.1 g.2.2 ∧ PIn 0 a b xs g.2.2 ∧ g.2.2.getD a 0 = p) (fun g => g.2.1 + 1 - g.1) (fun g => [(0, .own 0), (1, .v (.int .i64 a)), (9, .v (.int .i64 g.1)), (10, .v (.int .i64 g.2.1))]) (fun g => [(0, .row 2 (I g.2.2))]) (a + 1, b - 1, M) ⟨prt_0 (by omega) M, hp0, hp⟩ (by simp only [go_sem, Nat.reduceMul, Nat.reduceLeDiff, Nat.reduceLT, reduceIte, reduceCtorEq, Nat.reduceEqDiff, Nat.reduceSub, Nat.reduceAdd]; simp) SW ?_
  clear hp
  rintro ⟨i0, j0, L⟩ ⟨hP, hpL, hp⟩
  dsimp only at hP hpL hp ⊢
  have hlL := hpL.len
  refine WW ?_
  refine HereV.cut T_ok (ε := Nat) (fun i => Prt (fun x => !ltI p x) 0 a b i (j0) (L) ∧ i0 ≤ i ∧ (i ≤ j0 → (!ltI p ((L).getD i 0)) = false)) (fun i => [(0, .own 0), (1, .v (.int .i64 a)), (9, .v (.int .i64 (i : Nat))), (10, .v (.int .i64 (j0 : Nat)))]) (fun _ => [(0, .row 2 (I (L)))]) ?_ ?_
  · refine Here.loopV T_ok (fun i => Prt (fun x => !ltI p x) 0 a b i (j0) (L) ∧ i0 ≤ i) (fun i => b - i) (fun i => [(0, .own 0), (1, .v (.int .i64 a)), (9, .v (.int .i64 (i : Nat))), (10, .v (.int .i64 (j0 : Nat)))]) (fun _ => [(0, .row 2 (I (L)))]) (i0) ⟨hP, Nat.le_refl _⟩ (by simp only [go_sem, Nat.reduceMul, Nat.reduceLeDiff, Nat.reduceLT, reduceIte, reduceCtorEq, Nat.reduceEqDiff, Nat.reduceSub, Nat.reduceAdd] <;> simp) SW ?_
    rintro i ⟨hP, hi⟩
    obtain ⟨g1, g2, g3, g4, g5⟩ := id hP
    refine WW ?_
    refine Here.draw T_ok mixed_ok (by kernel_rfl) ?_
    refine WW ?_
    refine ⟨fun h2 => ?_, fun h2 => ?_⟩
    · repeat (refine ⟨by first | omega | (unfold InR; omega) | exact ⟨by omega, by omega⟩, ?_⟩)
      refine ⟨_, OpP.call' rfl rfl (cmpLess_spec ((L).getD a 0) ((L).getD i 0)) SA rfl, ?_⟩
      refine WW ?_
      refine ⟨fun h3 => ?_, fun h3 => ?_⟩
      · exact ⟨by unfold InR; omega, i + 1, ⟨prt_i hP (by omega) (by show (!ltI _ _) = true; rw [← hp, ltI_f.2 h3]; rfl), by omega⟩, by omega, by push_cast; rfl⟩
      · exact ⟨i, ⟨hP, hi, fun _ => (by rw [← hp]; exact ltI_t.2 h3)⟩, rfl⟩
    · exact ⟨i, ⟨hP, hi, fun q => by omega⟩, rfl⟩
  rintro i ⟨hP, hi, hQi⟩
  refine WW ?_
  refine HereV.cut T_ok (ε := Nat) (fun j => Prt (fun x => !ltI p x) 0 a b i j (L) ∧ j ≤ j0 ∧ (i ≤ j → (!ltI p ((L).getD j 0)) = true)) (fun j => [(0, .own 0), (1, .v (.int .i64 a)), (9, .v (.int .i64 (i : Nat))), (10, .v (.int .i64 (j : Nat)))]) (fun _ => [(0, .row 2 (I (L)))]) ?_ ?_
  · refine Here.loopV T_ok (fun j => Prt (fun x => !ltI p x) 0 a b i j (L) ∧ j ≤ j0) (fun j => j) (fun j => [(0, .own 0), (1, .v (.int .i64 a)), (9, .v (.int .i64 (i : Nat))), (10, .v (.int .i64 (j : Nat)))]) (fun _ => [(0, .row 2 (I (L)))]) (j0) ⟨hP, Nat.le_refl _⟩ (by simp only [go_sem, Nat.reduceMul, Nat.reduceLeDiff, Nat.reduceLT, reduceIte, reduceCtorEq, Nat.reduceEqDiff, Nat.reduceSub, Nat.reduceAdd] <;> simp) SW ?_
    rintro j ⟨hP, hj⟩
    obtain ⟨g1, g2, g3, g4, g5⟩ := id hP
    refine WW ?_
    refine Here.draw T_ok mixed_ok (by kernel_rfl) ?_
    refine WW ?_
    refine ⟨fun h2 => ?_, fun h2 => ?_⟩
    · repeat (refine ⟨by first | omega | (unfold InR; omega) | exact ⟨by omega, by omega⟩, ?_⟩)
      refine ⟨_, OpP.call' rfl rfl (cmpLess_spec ((L).getD a 0) ((L).getD j 0)) SA rfl, ?_⟩
      refine WW ?_
      refine ⟨fun h3 => ?_, fun h3 => ?_⟩
      · exact ⟨by unfold InR; omega, j - 1, ⟨prt_j hP (by omega) (by show (!ltI _ _) = false; rw [← hp, ltI_t.2 h3]; rfl), by omega⟩, by omega, by omega⟩
      · exact ⟨j, ⟨hP, hj, fun _ => (by rw [← hp]; exact ltI_f.2 h3)⟩, rfl⟩
    · exact ⟨j, ⟨hP, hj, fun q => by omega⟩, rfl⟩
  rintro j ⟨hP, hj, hQj⟩
  obtain ⟨g1, g2, g3, g4, g5⟩ := id hP
  refine WW ?_
  refine ⟨fun h2 => ?_, fun h2 => ?_⟩
  · refine RetQ.of (i, L) ⟨hpL, g1, by dsimp only; omega, fun k h3 h4 => ?_, fun k h3 h4 => ?_⟩ (RetM.one0 SE rfl ?_)
    · by_cases e : k = a
      · dsimp only; rw [e, hp]; exact ltI_swo.irr _
      · have := g4 k (by omega) h4; dsimp only at this ⊢; simpa using this
    · have := g5 k (by omega) h4; dsimp only at this ⊢; simpa using this
    · exact WW trivial
  · refine Here.drawC T_ok [.p, .p, .f, .f, .p, .p, .p, .p, .p, .p, .p, .p, .p, .c, .p, .c] [0, 10] [] [] (Nat.le_of_ble_eq_true rfl) mixed_ok (by kernel_rfl) (by kernel_rfl) (by kernel_rfl) (by simp only [List.mem_cons, List.not_mem_nil, or_false, forall_eq_or_imp, forall_eq, go_sem, Nat.reduceMul, Nat.reduceLeDiff, Nat.reduceLT, reduceIte, reduceCtorEq, Nat.reduceEqDiff, Nat.reduceSub, Nat.reduceAdd] <;> first | exact calm_ptr_ne rfl | exact calm_ne rfl | exact ⟨calm_ptr_ne rfl, calm_ptr_ne rfl⟩ | exact ⟨calm_ptr_ne rfl, calm_ptr_ne rfl, calm_ptr_ne rfl⟩ | exact ⟨calm_ptr_ne rfl, calm_knot (by simp only [go_sem, Nat.reduceMul, Nat.reduceLeDiff, Nat.reduceLT, reduceIte, reduceCtorEq, Nat.reduceEqDiff, Nat.reduceSub, Nat.reduceAdd] <;> exact calm_ptr_ne rfl)⟩ | ((repeat' apply And.intro) <;> first | exact calm_ptr_ne rfl | exact calm_ne rfl)) ?_
    refine WW ?_
    repeat (refine ⟨by first | omega | (unfold InR; omega) | exact ⟨by omega, by omega⟩, ?_⟩)
    refine HereC.storeRow T_ok (vs := I (L)) (u := .int .i64 ((L).getD (j) 0)) rfl SS SS rfl SS rfl (by rw [I_len]; omega) (keeps_nil _ _) ?_
    refine WW ?_
    rw [I_set]
    repeat (refine ⟨by first | omega | (unfold InR; omega) | exact ⟨by omega, by omega⟩, ?_⟩)
    refine HereC.storeRow T_ok (vs := I ((L).set (i) ((L).getD (j) 0))) (u := .int .i64 ((L).getD (i) 0)) rfl SS SS rfl SS rfl (by rw [I_len, List.length_set]; omega) (keeps_nil _ _) ?_
    refine WW ?_
    rw [I_set]
    have hs := prt_sw hP (by omega) (by omega) (hQi (by omega)) (hQj (by omega))
    exact ⟨by unfold InR; omega, by unfold InR; omega, (i + 1, j - 1, swL 0 L i j), ⟨hs.1, hpL.trans (PIn.swap (by omega) (by omega) (by omega) (by omega) (by omega)), by dsimp only; rw [swL_get (by omega) (by omega), if_neg (by omega), if_neg (by omega)]; exact hp⟩, by dsimp only; omega, ⟨by push_cast; rfl, by dsimp only; omega⟩, rfl⟩
end Go.Proofs.YtcjhojdlfnpgjaaGreat
