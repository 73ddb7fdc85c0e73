/- Contracts: Go's sort of whole numbers: what is nearly in order. -/
import Derived.Test.YtcjhojdlfnpgjaaGreatK36
set_option linter.unusedVariables false
set_option linter.unusedSimpArgs false
set_option maxRecDepth 100000
namespace Go.Proofs.YtcjhojdlfnpgjaaGreat
open Go.RowKit
def Blw (lt : Int → Int → Bool) (a b : Nat) (l : List Int) : Prop := a = 0 ∨ ∀ i, a ≤ i → i < b → lt (l.getD i 0) (l.getD (a - 1) 0) = false
theorem sin_ext {a i : Nat} {l : List Int} (h : SIn ltI 0 a i l) (hn : a < i → ltI (l.getD i 0) (l.getD (i - 1) 0) = false) : SIn ltI 0 a (i + 1) l := fun p q h1 h2 h3 => by
  by_cases e : q = i
  · subst e
    by_cases e2 : p = q - 1
    · rw [e2]; exact hn (by omega)
    · exact ltI_swo.ntr _ _ _ (hn (by omega)) (h p (q - 1) h1 (by omega) (by omega))
  · exact h p q h1 h2 (by omega)
theorem blw_perm {a b : Nat} {l m : List Int} (h : Blw ltI a b l) (hp : PIn 0 a b l m) : Blw ltI a b m := by
  rcases h with h | h
  · exact .inl h
  · by_cases e : a = 0
    · exact .inl e
    · refine .inr fun i h1 h2 => ?_
      rw [hp.2.1 (a - 1) (by omega)]
      exact hp.all (p := fun x => ltI x (l.getD (a - 1) 0) = false) h i h1 h2
set_option maxHeartbeats 16000000 in
theorem partialR_spec (xs : List Int) (a b : Nat) (hab : a < b) (hb : b ≤ xs.length) (hl : xs.length ≤ 1048576) (hbl : Blw ltI a b xs) : SpecQ Tryz.prog 117 [.own 0, .v (.int .i64 a), .v (.int .i64 b)] [.row 2 (I xs)] (κ := Bool × List Int) (fun y => .v (.bool y.1)) (fun y => [some (.row 2 (I y.2))]) (fun y => PIn 0 a b xs y.2 ∧ (y.1 = true → SIn ltI 0 a b y.2)) := by
  refine SpecQ.of_code T_ok Tryz.func117 rfl Tryz.ntmps117 Tryz.call117 (Nat.le_of_ble_eq_true rfl) (Nat.le_of_ble_eq_true rfl) (fun _ => rfl) (fun _ => rfl) (CodeV_sound T_ok (by kernel_rfl) rfl ?_)
  simp (maxSteps := 4000000) only [go_sem, Nat.reduceMul, Nat.reduceLeDiff, Nat.reduceLT, reduceIte, reduceCtorEq, Nat.reduceEqDiff, Nat.reduceSub, Nat.reduceAdd]
  refine ⟨by unfold InR; omega, ?_⟩
  refine Here.loopV T_ok (κ := Nat × Nat × List Int) (fun g => g.1 ≤ 5 ∧ a + 1 ≤ g.2.1 ∧ g.2.1 ≤ b ∧ PIn 0 a b xs g.2.2 ∧ SIn ltI 0 a g.2.1 g.2.2) (fun g => 5 - g.1) (fun g => [(0, .own 0), (1, .v (.int .i64 a)), (2, .v (.int .i64 b)), (7, .v (.int .i64 g.2.1)), (8, .v (.int .i64 g.1))]) (fun g => [(0, .row 2 (I g.2.2))]) (0, a + 1, xs) ⟨by dsimp only; omega, by dsimp only; omega, by dsimp only; omega, PIn.refl _ _ _, SIn.short (by dsimp only; omega)⟩ (by simp (maxSteps := 4000000) only [go_sem, Nat.reduceMul, Nat.reduceLeDiff, Nat.reduceLT, reduceIte, reduceCtorEq, Nat.reduceEqDiff, Nat.reduceSub, Nat.reduceAdd]; simp) (by simp (maxSteps := 4000000) only [go_sem, Nat.reduceMul, Nat.reduceLeDiff, Nat.reduceLT, reduceIte, reduceCtorEq, Nat.reduceEqDiff, Nat.reduceSub, Nat.reduceAdd]) ?_
  rintro ⟨c, i, L⟩ ⟨hc, hi1, hi2, hp, hs⟩
  dsimp only at hc hi1 hi2 hp hs ⊢
  have hlL := hp.len
  simp (maxSteps := 4000000) only [go_sem, Nat.reduceMul, Nat.reduceLeDiff, Nat.reduceLT, reduceIte, reduceCtorEq, Nat.reduceEqDiff, Nat.reduceSub, Nat.reduceAdd]
  refine ⟨fun h2 => ?_, fun h2 => ?_⟩
  · refine HereV.cut T_ok (ε := Nat) (fun i => a + 1 ≤ i ∧ i ≤ b ∧ SIn ltI 0 a i L) (fun i => [(0, .own 0), (1, .v (.int .i64 a)), (2, .v (.int .i64 b)), (7, .v (.int .i64 i)), (8, .v (.int .i64 c))]) (fun _ => [(0, .row 2 (I L))]) ?_ ?_
    · refine Here.loopV T_ok (fun i => a + 1 ≤ i ∧ i ≤ b ∧ SIn ltI 0 a i L) (fun i => b - i) (fun i => [(0, .own 0), (1, .v (.int .i64 a)), (2, .v (.int .i64 b)), (7, .v (.int .i64 i)), (8, .v (.int .i64 c))]) (fun _ => [(0, .row 2 (I L))]) i ⟨hi1, hi2, hs⟩ (by simp (maxSteps := 4000000) only [go_sem, Nat.reduceMul, Nat.reduceLeDiff, Nat.reduceLT, reduceIte, reduceCtorEq, Nat.reduceEqDiff, Nat.reduceSub, Nat.reduceAdd]) (by simp (maxSteps := 4000000) only [go_sem, Nat.reduceMul, Nat.reduceLeDiff, Nat.reduceLT, reduceIte, reduceCtorEq, Nat.reduceEqDiff, Nat.reduceSub, Nat.reduceAdd]) ?_
      clear hi1 hi2 hs
      rintro i ⟨hi1, hi2, hs⟩
      have ei : ((i : Int) - 1).toNat = i - 1 := by omega
      simp (maxSteps := 4000000) only [go_sem, Nat.reduceMul, Nat.reduceLeDiff, Nat.reduceLT, reduceIte, reduceCtorEq, Nat.reduceEqDiff, Nat.reduceSub, Nat.reduceAdd]
      refine Here.draw T_ok mixed_ok (by kernel_rfl) ?_
      simp (maxSteps := 4000000) only [go_sem, Nat.reduceMul, Nat.reduceLeDiff, Nat.reduceLT, reduceIte, reduceCtorEq, Nat.reduceEqDiff, Nat.reduceSub, Nat.reduceAdd]
      rw [ei]
      refine ⟨fun h3 => ?_, fun h3 => ?_⟩
      · repeat (refine ⟨by first | omega | (unfold InR; omega) | exact ⟨by omega, by omega⟩, ?_⟩)
        refine ⟨_, OpP.call' rfl rfl (cmpLess_spec (L.getD i 0) (L.getD (i - 1) 0)) (by simp (maxSteps := 4000000) only [go_sem, Nat.reduceMul, Nat.reduceLeDiff, Nat.reduceLT, reduceIte, reduceCtorEq, Nat.reduceEqDiff, Nat.reduceSub, Nat.reduceAdd, List.toList_toArray] <;> first | rfl | exact ⟨rfl, rfl⟩) rfl, ?_⟩
        simp (maxSteps := 4000000) only [go_sem, Nat.reduceMul, Nat.reduceLeDiff, Nat.reduceLT, reduceIte, reduceCtorEq, Nat.reduceEqDiff, Nat.reduceSub, Nat.reduceAdd]
        refine ⟨fun h4 => ?_, fun h4 => ?_⟩
        · exact ⟨by unfold InR; omega, i + 1, ⟨by omega, by omega, sin_ext hs fun _ => ltI_f.2 h4⟩, by omega, by push_cast; rfl⟩
        · exact ⟨i, ⟨hi1, hi2, hs⟩, rfl⟩
      · exact ⟨i, ⟨hi1, hi2, hs⟩, rfl⟩
    clear hi1 hi2 hs
    rintro i ⟨hi1, hi2, hs⟩
    have ei : ((i : Int) - 1).toNat = i - 1 := by omega
    simp (maxSteps := 4000000) only [go_sem, Nat.reduceMul, Nat.reduceLeDiff, Nat.reduceLT, reduceIte, reduceCtorEq, Nat.reduceEqDiff, Nat.reduceSub, Nat.reduceAdd]
    refine ⟨fun h3 => ?_, fun h3 => ?_⟩
    · refine RetQ.of (true, L) ⟨hp, fun _ => ?_⟩ (RetM.one0 (by simp (maxSteps := 4000000) only [go_sem, Nat.reduceMul, Nat.reduceLeDiff, Nat.reduceLT, reduceIte, reduceCtorEq, Nat.reduceEqDiff, Nat.reduceSub, Nat.reduceAdd]; rfl) rfl ?_)
      · obtain rfl : i = b := by omega
        exact hs
      · simp (maxSteps := 4000000) only [go_sem, Nat.reduceMul, Nat.reduceLeDiff, Nat.reduceLT, reduceIte, reduceCtorEq, Nat.reduceEqDiff, Nat.reduceSub, Nat.reduceAdd]
    · refine ⟨by unfold InR; omega, fun h4 => ?_, fun h4 => ?_⟩
      · refine RetQ.of (false, L) ⟨hp, fun q => by cases q⟩ (RetM.one0 (by simp (maxSteps := 4000000) only [go_sem, Nat.reduceMul, Nat.reduceLeDiff, Nat.reduceLT, reduceIte, reduceCtorEq, Nat.reduceEqDiff, Nat.reduceSub, Nat.reduceAdd]; rfl) rfl ?_)
        simp (maxSteps := 4000000) only [go_sem, Nat.reduceMul, Nat.reduceLeDiff, Nat.reduceLT, reduceIte, reduceCtorEq, Nat.reduceEqDiff, Nat.reduceSub, Nat.reduceAdd]
      · have hpS : PIn 0 a b xs (swL 0 L i (i - 1)) := hp.trans (PIn.swap (by omega) (by omega) (by omega) (by omega) (by omega))
        have hsS : SIn ltI 0 a (i - 1) (swL 0 L i (i - 1)) := fun p q h5 h6 h7 => by
          rw [swL_get (by omega) (by omega), swL_get (by omega) (by omega), if_neg (by omega), if_neg (by omega), if_neg (by omega), if_neg (by omega)]
          exact hs p q h5 h6 (by omega)
        refine Here.drawC T_ok [.p, .p, .f, .f, .f, .p, .p, .p, .p, .p, .p, .p, .p, .p, .p, .c, .p, .c] [0, 7] [] [] (Nat.le_of_ble_eq_true rfl) mixed_ok (by kernel_rfl) (by kernel_rfl) (by kernel_rfl) (by simp (maxSteps := 4000000) only [List.mem_cons, List.not_mem_nil, or_false, forall_eq_or_imp, forall_eq, go_sem, Nat.reduceMul, Nat.reduceLeDiff, Nat.reduceLT, reduceIte, reduceCtorEq, Nat.reduceEqDiff, Nat.reduceSub, Nat.reduceAdd] <;> first | exact calm_ptr_ne rfl | exact calm_ne rfl | exact ⟨calm_ptr_ne rfl, calm_ptr_ne rfl⟩ | exact ⟨calm_ptr_ne rfl, calm_ptr_ne rfl, calm_ptr_ne rfl⟩ | exact ⟨calm_ptr_ne rfl, calm_knot (by simp (maxSteps := 4000000) only [go_sem, Nat.reduceMul, Nat.reduceLeDiff, Nat.reduceLT, reduceIte, reduceCtorEq, Nat.reduceEqDiff, Nat.reduceSub, Nat.reduceAdd] <;> exact calm_ptr_ne rfl)⟩ | ((repeat' apply And.intro) <;> first | exact calm_ptr_ne rfl | exact calm_ne rfl)) ?_
        simp (maxSteps := 4000000) only [go_sem, Nat.reduceMul, Nat.reduceLeDiff, Nat.reduceLT, reduceIte, reduceCtorEq, Nat.reduceEqDiff, Nat.reduceSub, Nat.reduceAdd]
        simp (maxSteps := 4000000) only [ei]
        repeat (refine ⟨by first | omega | (unfold InR; omega) | exact ⟨by omega, by omega⟩, ?_⟩)
        refine HereC.storeRow T_ok (vs := I (L)) (u := .int .i64 ((L).getD (i - 1) 0)) rfl (by simp (maxSteps := 4000000) only [go_sem, Nat.reduceMul, Nat.reduceLeDiff, Nat.reduceLT, reduceIte, reduceCtorEq, Nat.reduceEqDiff, Nat.reduceSub, Nat.reduceAdd] <;> rfl) (by simp (maxSteps := 4000000) only [go_sem, Nat.reduceMul, Nat.reduceLeDiff, Nat.reduceLT, reduceIte, reduceCtorEq, Nat.reduceEqDiff, Nat.reduceSub, Nat.reduceAdd] <;> rfl) rfl (by simp (maxSteps := 4000000) only [go_sem, Nat.reduceMul, Nat.reduceLeDiff, Nat.reduceLT, reduceIte, reduceCtorEq, Nat.reduceEqDiff, Nat.reduceSub, Nat.reduceAdd] <;> rfl) rfl (by rw [I_len]; omega) (keeps_nil _ _) ?_
        simp (maxSteps := 4000000) only [go_sem, Nat.reduceMul, Nat.reduceLeDiff, Nat.reduceLT, reduceIte, reduceCtorEq, Nat.reduceEqDiff, Nat.reduceSub, Nat.reduceAdd]
        rw [I_set]
        simp (maxSteps := 4000000) only [ei]
        repeat (refine ⟨by first | omega | (unfold InR; omega) | exact ⟨by omega, by omega⟩, ?_⟩)
        refine HereC.storeRow T_ok (vs := I ((L).set (i) ((L).getD (i - 1) 0))) (u := .int .i64 ((L).getD (i) 0)) rfl (by simp (maxSteps := 4000000) only [go_sem, Nat.reduceMul, Nat.reduceLeDiff, Nat.reduceLT, reduceIte, reduceCtorEq, Nat.reduceEqDiff, Nat.reduceSub, Nat.reduceAdd] <;> rfl) (by simp (maxSteps := 4000000) only [go_sem, Nat.reduceMul, Nat.reduceLeDiff, Nat.reduceLT, reduceIte, reduceCtorEq, Nat.reduceEqDiff, Nat.reduceSub, Nat.reduceAdd] <;> rfl) rfl (by simp (maxSteps := 4000000) only [go_sem, Nat.reduceMul, Nat.reduceLeDiff, Nat.reduceLT, reduceIte, reduceCtorEq, Nat.reduceEqDiff, Nat.reduceSub, Nat.reduceAdd] <;> rfl) rfl (by rw [I_len, List.length_set]; omega) (keeps_nil _ _) ?_
        simp (maxSteps := 4000000) only [go_sem, Nat.reduceMul, Nat.reduceLeDiff, Nat.reduceLT, reduceIte, reduceCtorEq, Nat.reduceEqDiff, Nat.reduceSub, Nat.reduceAdd]
        rw [I_set]
        rw [show (L.set i (L.getD (i - 1) 0)).set (i - 1) (L.getD i 0) = swL 0 L i (i - 1) from rfl]
        generalize swL 0 L i (i - 1) = M at *
        have hlM := hpS.len
        refine ⟨by unfold InR; omega, fun h5 => ?_, fun h5 => ?_⟩
        · rw [show (i : Int) - 1 = ((i - 1 : Nat) : Int) by omega]
          refine ⟨by unfold InR; omega, ?_⟩
          refine HereV.cut T_ok (ε := List Int) (fun N => PIn 0 a b xs N ∧ SIn ltI 0 a i N) (fun N => [(0, .own 0), (1, .v (.int .i64 a)), (2, .v (.int .i64 b)), (7, .v (.int .i64 i)), (8, .v (.int .i64 c))]) (fun N => [(0, .row 2 (I N))]) ?_ ?_
          · refine Here.loopV T_ok (κ := Nat × List Int) (fun g => a ≤ g.1 ∧ g.1 ≤ i - 1 ∧ PIn 0 a b xs g.2 ∧ SBut ltI 0 a g.2 (i - 1) g.1) (fun g => g.1) (fun g => [(0, .own 0), (1, .v (.int .i64 a)), (2, .v (.int .i64 b)), (7, .v (.int .i64 i)), (8, .v (.int .i64 c)), (9, .v (.int .i64 g.1))]) (fun g => [(0, .row 2 (I g.2))]) (i - 1, M) ⟨by dsimp only; omega, Nat.le_refl _, hpS, sbut_start hsS⟩ (by simp (maxSteps := 4000000) only [go_sem, Nat.reduceMul, Nat.reduceLeDiff, Nat.reduceLT, reduceIte, reduceCtorEq, Nat.reduceEqDiff, Nat.reduceSub, Nat.reduceAdd]) (by simp (maxSteps := 4000000) only [go_sem, Nat.reduceMul, Nat.reduceLeDiff, Nat.reduceLT, reduceIte, reduceCtorEq, Nat.reduceEqDiff, Nat.reduceSub, Nat.reduceAdd] <;> rfl) ?_
            rintro ⟨j, N⟩ ⟨j1, j2, hpN, hsN⟩
            dsimp only at j1 j2 hpN hsN ⊢
            have hlN := hpN.len
            have ej : ((j : Int) - 1).toNat = j - 1 := by omega
            have fin : (a < j → ltI (N.getD j 0) (N.getD (j - 1) 0) = false) → SIn ltI 0 a i N := fun q => by
              have := sbut_end ltI_swo j2 j1 hsN q
              rwa [show i - 1 + 1 = i by omega] at this
            simp (maxSteps := 4000000) only [go_sem, Nat.reduceMul, Nat.reduceLeDiff, Nat.reduceLT, reduceIte, reduceCtorEq, Nat.reduceEqDiff, Nat.reduceSub, Nat.reduceAdd]
            refine ⟨fun h6 => ?_, fun h6 => ?_⟩
            · refine Here.draw T_ok mixed_ok (by kernel_rfl) ?_
              simp (maxSteps := 4000000) only [go_sem, Nat.reduceMul, Nat.reduceLeDiff, Nat.reduceLT, reduceIte, reduceCtorEq, Nat.reduceEqDiff, Nat.reduceSub, Nat.reduceAdd]
              rw [ej]
              repeat (refine ⟨by first | omega | (unfold InR; omega) | exact ⟨by omega, by omega⟩, ?_⟩)
              refine ⟨_, OpP.call' rfl rfl (cmpLess_spec (N.getD j 0) (N.getD (j - 1) 0)) (by simp (maxSteps := 4000000) only [go_sem, Nat.reduceMul, Nat.reduceLeDiff, Nat.reduceLT, reduceIte, reduceCtorEq, Nat.reduceEqDiff, Nat.reduceSub, Nat.reduceAdd, List.toList_toArray] <;> first | rfl | exact ⟨rfl, rfl⟩) rfl, ?_⟩
              simp (maxSteps := 4000000) only [go_sem, Nat.reduceMul, Nat.reduceLeDiff, Nat.reduceLT, reduceIte, reduceCtorEq, Nat.reduceEqDiff, Nat.reduceSub, Nat.reduceAdd]
              refine ⟨fun h7 => ?_, fun h7 => ?_⟩
              · exact ⟨N, ⟨hpN, fin fun _ => ltI_f.2 h7⟩, rfl⟩
              · have haj : a < j := by
                  rcases blw_perm hbl hpN with e | e
                  · omega
                  · by_cases e2 : j = a
                    · have := ltI_f.1 (e j (by omega) (by omega))
                      rw [e2] at h7 this
                      exact absurd h7 this
                    · omega
                refine Here.drawC T_ok [.p, .p, .f, .f, .f, .p, .p, .p, .p, .p, .p, .p, .p, .p, .p, .c, .p, .c] [0, 9] [] [] (Nat.le_of_ble_eq_true rfl) mixed_ok (by kernel_rfl) (by kernel_rfl) (by kernel_rfl) (by simp (maxSteps := 4000000) only [List.mem_cons, List.not_mem_nil, or_false, forall_eq_or_imp, forall_eq, go_sem, Nat.reduceMul, Nat.reduceLeDiff, Nat.reduceLT, reduceIte, reduceCtorEq, Nat.reduceEqDiff, Nat.reduceSub, Nat.reduceAdd] <;> first | exact calm_ptr_ne rfl | exact calm_ne rfl | exact ⟨calm_ptr_ne rfl, calm_ptr_ne rfl⟩ | exact ⟨calm_ptr_ne rfl, calm_ptr_ne rfl, calm_ptr_ne rfl⟩ | exact ⟨calm_ptr_ne rfl, calm_knot (by simp (maxSteps := 4000000) only [go_sem, Nat.reduceMul, Nat.reduceLeDiff, Nat.reduceLT, reduceIte, reduceCtorEq, Nat.reduceEqDiff, Nat.reduceSub, Nat.reduceAdd] <;> exact calm_ptr_ne rfl)⟩ | ((repeat' apply And.intro) <;> first | exact calm_ptr_ne rfl | exact calm_ne rfl)) ?_
                simp (maxSteps := 4000000) only [go_sem, Nat.reduceMul, Nat.reduceLeDiff, Nat.reduceLT, reduceIte, reduceCtorEq, Nat.reduceEqDiff, Nat.reduceSub, Nat.reduceAdd]
                simp (maxSteps := 4000000) only [ej]
                repeat (refine ⟨by first | omega | (unfold InR; omega) | exact ⟨by omega, by omega⟩, ?_⟩)
                refine HereC.storeRow T_ok (vs := I (N)) (u := .int .i64 ((N).getD (j - 1) 0)) rfl (by simp (maxSteps := 4000000) only [go_sem, Nat.reduceMul, Nat.reduceLeDiff, Nat.reduceLT, reduceIte, reduceCtorEq, Nat.reduceEqDiff, Nat.reduceSub, Nat.reduceAdd] <;> rfl) (by simp (maxSteps := 4000000) only [go_sem, Nat.reduceMul, Nat.reduceLeDiff, Nat.reduceLT, reduceIte, reduceCtorEq, Nat.reduceEqDiff, Nat.reduceSub, Nat.reduceAdd] <;> rfl) rfl (by simp (maxSteps := 4000000) only [go_sem, Nat.reduceMul, Nat.reduceLeDiff, Nat.reduceLT, reduceIte, reduceCtorEq, Nat.reduceEqDiff, Nat.reduceSub, Nat.reduceAdd] <;> rfl) rfl (by rw [I_len]; omega) (keeps_nil _ _) ?_
                simp (maxSteps := 4000000) only [go_sem, Nat.reduceMul, Nat.reduceLeDiff, Nat.reduceLT, reduceIte, reduceCtorEq, Nat.reduceEqDiff, Nat.reduceSub, Nat.reduceAdd]
                rw [I_set]
                simp (maxSteps := 4000000) only [ej]
                repeat (refine ⟨by first | omega | (unfold InR; omega) | exact ⟨by omega, by omega⟩, ?_⟩)
                refine HereC.storeRow T_ok (vs := I ((N).set (j) ((N).getD (j - 1) 0))) (u := .int .i64 ((N).getD (j) 0)) rfl (by simp (maxSteps := 4000000) only [go_sem, Nat.reduceMul, Nat.reduceLeDiff, Nat.reduceLT, reduceIte, reduceCtorEq, Nat.reduceEqDiff, Nat.reduceSub, Nat.reduceAdd] <;> rfl) (by simp (maxSteps := 4000000) only [go_sem, Nat.reduceMul, Nat.reduceLeDiff, Nat.reduceLT, reduceIte, reduceCtorEq, Nat.reduceEqDiff, Nat.reduceSub, Nat.reduceAdd] <;> rfl) rfl (by simp (maxSteps := 4000000) only [go_sem, Nat.reduceMul, Nat.reduceLeDiff, Nat.reduceLT, reduceIte, reduceCtorEq, Nat.reduceEqDiff, Nat.reduceSub, Nat.reduceAdd] <;> rfl) rfl (by rw [I_len, List.length_set]; omega) (keeps_nil _ _) ?_
                simp (maxSteps := 4000000) only [go_sem, Nat.reduceMul, Nat.reduceLeDiff, Nat.reduceLT, reduceIte, reduceCtorEq, Nat.reduceEqDiff, Nat.reduceSub, Nat.reduceAdd]
                rw [I_set]
                exact ⟨by unfold InR; omega, (j - 1, swL 0 N j (j - 1)), ⟨by dsimp only; omega, by dsimp only; omega, hpN.trans (PIn.swap (by omega) (by omega) (by omega) (by omega) (by omega)), sbut_step ltI_swo haj j2 (by omega) hsN (ltI_t.2 h7)⟩, by dsimp only; omega, by dsimp only; omega, rfl⟩
            · exact ⟨N, ⟨hpN, fin fun q => by omega⟩, rfl⟩
          rintro N ⟨hpN, hsN⟩
          have hlN := hpN.len
          simp (maxSteps := 4000000) only [go_sem, Nat.reduceMul, Nat.reduceLeDiff, Nat.reduceLT, reduceIte, reduceCtorEq, Nat.reduceEqDiff, Nat.reduceSub, Nat.reduceAdd]
          refine ⟨by unfold InR; omega, fun r1 => ?_, fun r1 => ?_⟩
          · refine ⟨by unfold InR; omega, ?_⟩
            refine Here.loopV T_ok (κ := Nat × List Int) (fun g => i + 1 ≤ g.1 ∧ g.1 ≤ b ∧ PIn 0 a b xs g.2 ∧ SIn ltI 0 a i g.2) (fun g => b - g.1) (fun g => [(0, .own 0), (1, .v (.int .i64 a)), (2, .v (.int .i64 b)), (7, .v (.int .i64 i)), (8, .v (.int .i64 c)), (10, .v (.int .i64 g.1))]) (fun g => [(0, .row 2 (I g.2))]) (i + 1, N) ⟨Nat.le_refl _, by dsimp only; omega, hpN, hsN⟩ (by simp (maxSteps := 4000000) only [go_sem, Nat.reduceMul, Nat.reduceLeDiff, Nat.reduceLT, reduceIte, reduceCtorEq, Nat.reduceEqDiff, Nat.reduceSub, Nat.reduceAdd]; simp) (by simp (maxSteps := 4000000) only [go_sem, Nat.reduceMul, Nat.reduceLeDiff, Nat.reduceLT, reduceIte, reduceCtorEq, Nat.reduceEqDiff, Nat.reduceSub, Nat.reduceAdd] <;> rfl) ?_
            rintro ⟨q, R⟩ ⟨q1, q2, hpR, hsR⟩
            dsimp only at q1 q2 hpR hsR ⊢
            have hlR := hpR.len
            have eq1 : ((q : Int) - 1).toNat = q - 1 := by omega
            simp (maxSteps := 4000000) only [go_sem, Nat.reduceMul, Nat.reduceLeDiff, Nat.reduceLT, reduceIte, reduceCtorEq, Nat.reduceEqDiff, Nat.reduceSub, Nat.reduceAdd]
            refine ⟨fun r2 => ?_, fun r2 => ?_⟩
            · refine Here.draw T_ok mixed_ok (by kernel_rfl) ?_
              simp (maxSteps := 4000000) only [go_sem, Nat.reduceMul, Nat.reduceLeDiff, Nat.reduceLT, reduceIte, reduceCtorEq, Nat.reduceEqDiff, Nat.reduceSub, Nat.reduceAdd]
              rw [eq1]
              repeat (refine ⟨by first | omega | (unfold InR; omega) | exact ⟨by omega, by omega⟩, ?_⟩)
              refine ⟨_, OpP.call' rfl rfl (cmpLess_spec (R.getD q 0) (R.getD (q - 1) 0)) (by simp (maxSteps := 4000000) only [go_sem, Nat.reduceMul, Nat.reduceLeDiff, Nat.reduceLT, reduceIte, reduceCtorEq, Nat.reduceEqDiff, Nat.reduceSub, Nat.reduceAdd, List.toList_toArray] <;> first | rfl | exact ⟨rfl, rfl⟩) rfl, ?_⟩
              simp (maxSteps := 4000000) only [go_sem, Nat.reduceMul, Nat.reduceLeDiff, Nat.reduceLT, reduceIte, reduceCtorEq, Nat.reduceEqDiff, Nat.reduceSub, Nat.reduceAdd]
              refine ⟨fun r3 => ?_, fun r3 => ?_⟩
              · exact ⟨by unfold InR; omega, (c + 1, i, R), ⟨by dsimp only; omega, hi1, by dsimp only; omega, hpR, hsR⟩, by dsimp only; omega, ⟨rfl, by push_cast; rfl⟩, rfl⟩
              · refine Here.drawC T_ok [.p, .p, .f, .f, .f, .p, .p, .p, .p, .p, .p, .p, .p, .p, .p, .c, .p, .c] [0, 10] [] [] (Nat.le_of_ble_eq_true rfl) mixed_ok (by kernel_rfl) (by kernel_rfl) (by kernel_rfl) (by simp (maxSteps := 4000000) only [List.mem_cons, List.not_mem_nil, or_false, forall_eq_or_imp, forall_eq, go_sem, Nat.reduceMul, Nat.reduceLeDiff, Nat.reduceLT, reduceIte, reduceCtorEq, Nat.reduceEqDiff, Nat.reduceSub, Nat.reduceAdd] <;> first | exact calm_ptr_ne rfl | exact calm_ne rfl | exact ⟨calm_ptr_ne rfl, calm_ptr_ne rfl⟩ | exact ⟨calm_ptr_ne rfl, calm_ptr_ne rfl, calm_ptr_ne rfl⟩ | exact ⟨calm_ptr_ne rfl, calm_knot (by simp (maxSteps := 4000000) only [go_sem, Nat.reduceMul, Nat.reduceLeDiff, Nat.reduceLT, reduceIte, reduceCtorEq, Nat.reduceEqDiff, Nat.reduceSub, Nat.reduceAdd] <;> exact calm_ptr_ne rfl)⟩ | ((repeat' apply And.intro) <;> first | exact calm_ptr_ne rfl | exact calm_ne rfl)) ?_
                simp (maxSteps := 4000000) only [go_sem, Nat.reduceMul, Nat.reduceLeDiff, Nat.reduceLT, reduceIte, reduceCtorEq, Nat.reduceEqDiff, Nat.reduceSub, Nat.reduceAdd]
                simp (maxSteps := 4000000) only [eq1]
                repeat (refine ⟨by first | omega | (unfold InR; omega) | exact ⟨by omega, by omega⟩, ?_⟩)
                refine HereC.storeRow T_ok (vs := I (R)) (u := .int .i64 ((R).getD (q - 1) 0)) rfl (by simp (maxSteps := 4000000) only [go_sem, Nat.reduceMul, Nat.reduceLeDiff, Nat.reduceLT, reduceIte, reduceCtorEq, Nat.reduceEqDiff, Nat.reduceSub, Nat.reduceAdd] <;> rfl) (by simp (maxSteps := 4000000) only [go_sem, Nat.reduceMul, Nat.reduceLeDiff, Nat.reduceLT, reduceIte, reduceCtorEq, Nat.reduceEqDiff, Nat.reduceSub, Nat.reduceAdd] <;> rfl) rfl (by simp (maxSteps := 4000000) only [go_sem, Nat.reduceMul, Nat.reduceLeDiff, Nat.reduceLT, reduceIte, reduceCtorEq, Nat.reduceEqDiff, Nat.reduceSub, Nat.reduceAdd] <;> rfl) rfl (by rw [I_len]; omega) (keeps_nil _ _) ?_
                simp (maxSteps := 4000000) only [go_sem, Nat.reduceMul, Nat.reduceLeDiff, Nat.reduceLT, reduceIte, reduceCtorEq, Nat.reduceEqDiff, Nat.reduceSub, Nat.reduceAdd]
                rw [I_set]
                simp (maxSteps := 4000000) only [eq1]
                repeat (refine ⟨by first | omega | (unfold InR; omega) | exact ⟨by omega, by omega⟩, ?_⟩)
                refine HereC.storeRow T_ok (vs := I ((R).set (q) ((R).getD (q - 1) 0))) (u := .int .i64 ((R).getD (q) 0)) rfl (by simp (maxSteps := 4000000) only [go_sem, Nat.reduceMul, Nat.reduceLeDiff, Nat.reduceLT, reduceIte, reduceCtorEq, Nat.reduceEqDiff, Nat.reduceSub, Nat.reduceAdd] <;> rfl) (by simp (maxSteps := 4000000) only [go_sem, Nat.reduceMul, Nat.reduceLeDiff, Nat.reduceLT, reduceIte, reduceCtorEq, Nat.reduceEqDiff, Nat.reduceSub, Nat.reduceAdd] <;> rfl) rfl (by simp (maxSteps := 4000000) only [go_sem, Nat.reduceMul, Nat.reduceLeDiff, Nat.reduceLT, reduceIte, reduceCtorEq, Nat.reduceEqDiff, Nat.reduceSub, Nat.reduceAdd] <;> rfl) rfl (by rw [I_len, List.length_set]; omega) (keeps_nil _ _) ?_
                simp (maxSteps := 4000000) only [go_sem, Nat.reduceMul, Nat.reduceLeDiff, Nat.reduceLT, reduceIte, reduceCtorEq, Nat.reduceEqDiff, Nat.reduceSub, Nat.reduceAdd]
                rw [I_set]
                exact ⟨by unfold InR; omega, (q + 1, swL 0 R q (q - 1)), ⟨by dsimp only; omega, by dsimp only; omega, hpR.trans (PIn.swap (by omega) (by omega) (by omega) (by omega) (by omega)), hsR.congr fun x x1 x2 => by rw [swL_get (by omega) (by omega), if_neg (by omega), if_neg (by omega)]⟩, by dsimp only; omega, by push_cast; rfl, rfl⟩
            · exact ⟨by unfold InR; omega, (c + 1, i, R), ⟨by dsimp only; omega, hi1, by dsimp only; omega, hpR, hsR⟩, by dsimp only; omega, ⟨rfl, by push_cast; rfl⟩, rfl⟩
          · exact ⟨by unfold InR; omega, (c + 1, i, N), ⟨by dsimp only; omega, hi1, by dsimp only; omega, hpN, hsN⟩, by dsimp only; omega, ⟨rfl, by push_cast; rfl⟩, rfl⟩
        · have hsM : SIn ltI 0 a i M := SIn.short (by omega)
          refine ⟨by unfold InR; omega, fun r1 => ?_, fun r1 => ?_⟩
          · refine ⟨by unfold InR; omega, ?_⟩
            refine Here.loopV T_ok (κ := Nat × List Int) (fun g => i + 1 ≤ g.1 ∧ g.1 ≤ b ∧ PIn 0 a b xs g.2 ∧ SIn ltI 0 a i g.2) (fun g => b - g.1) (fun g => [(0, .own 0), (1, .v (.int .i64 a)), (2, .v (.int .i64 b)), (7, .v (.int .i64 i)), (8, .v (.int .i64 c)), (10, .v (.int .i64 g.1))]) (fun g => [(0, .row 2 (I g.2))]) (i + 1, M) ⟨Nat.le_refl _, by dsimp only; omega, hpS, hsM⟩ (by simp (maxSteps := 4000000) only [go_sem, Nat.reduceMul, Nat.reduceLeDiff, Nat.reduceLT, reduceIte, reduceCtorEq, Nat.reduceEqDiff, Nat.reduceSub, Nat.reduceAdd]; simp) (by simp (maxSteps := 4000000) only [go_sem, Nat.reduceMul, Nat.reduceLeDiff, Nat.reduceLT, reduceIte, reduceCtorEq, Nat.reduceEqDiff, Nat.reduceSub, Nat.reduceAdd] <;> rfl) ?_
            rintro ⟨q, R⟩ ⟨q1, q2, hpR, hsR⟩
            dsimp only at q1 q2 hpR hsR ⊢
            have hlR := hpR.len
            have eq1 : ((q : Int) - 1).toNat = q - 1 := by omega
            simp (maxSteps := 4000000) only [go_sem, Nat.reduceMul, Nat.reduceLeDiff, Nat.reduceLT, reduceIte, reduceCtorEq, Nat.reduceEqDiff, Nat.reduceSub, Nat.reduceAdd]
            refine ⟨fun r2 => ?_, fun r2 => ?_⟩
            · refine Here.draw T_ok mixed_ok (by kernel_rfl) ?_
              simp (maxSteps := 4000000) only [go_sem, Nat.reduceMul, Nat.reduceLeDiff, Nat.reduceLT, reduceIte, reduceCtorEq, Nat.reduceEqDiff, Nat.reduceSub, Nat.reduceAdd]
              rw [eq1]
              repeat (refine ⟨by first | omega | (unfold InR; omega) | exact ⟨by omega, by omega⟩, ?_⟩)
              refine ⟨_, OpP.call' rfl rfl (cmpLess_spec (R.getD q 0) (R.getD (q - 1) 0)) (by simp (maxSteps := 4000000) only [go_sem, Nat.reduceMul, Nat.reduceLeDiff, Nat.reduceLT, reduceIte, reduceCtorEq, Nat.reduceEqDiff, Nat.reduceSub, Nat.reduceAdd, List.toList_toArray] <;> first | rfl | exact ⟨rfl, rfl⟩) rfl, ?_⟩
              simp (maxSteps := 4000000) only [go_sem, Nat.reduceMul, Nat.reduceLeDiff, Nat.reduceLT, reduceIte, reduceCtorEq, Nat.reduceEqDiff, Nat.reduceSub, Nat.reduceAdd]
              refine ⟨fun r3 => ?_, fun r3 => ?_⟩
              · exact ⟨by unfold InR; omega, (c + 1, i, R), ⟨by dsimp only; omega, hi1, by dsimp only; omega, hpR, hsR⟩, by dsimp only; omega, ⟨rfl, by push_cast; rfl⟩, rfl⟩
              · refine Here.drawC T_ok [.p, .p, .f, .f, .f, .p, .p, .p, .p, .p, .p, .p, .p, .p, .p, .c, .p, .c] [0, 10] [] [] (Nat.le_of_ble_eq_true rfl) mixed_ok (by kernel_rfl) (by kernel_rfl) (by kernel_rfl) (by simp (maxSteps := 4000000) only [List.mem_cons, List.not_mem_nil, or_false, forall_eq_or_imp, forall_eq, go_sem, Nat.reduceMul, Nat.reduceLeDiff, Nat.reduceLT, reduceIte, reduceCtorEq, Nat.reduceEqDiff, Nat.reduceSub, Nat.reduceAdd] <;> first | exact calm_ptr_ne rfl | exact calm_ne rfl | exact ⟨calm_ptr_ne rfl, calm_ptr_ne rfl⟩ | exact ⟨calm_ptr_ne rfl, calm_ptr_ne rfl, calm_ptr_ne rfl⟩ | exact ⟨calm_ptr_ne rfl, calm_knot (by simp (maxSteps := 4000000) only [go_sem, Nat.reduceMul, Nat.reduceLeDiff, Nat.reduceLT, reduceIte, reduceCtorEq, Nat.reduceEqDiff, Nat.reduceSub, Nat.reduceAdd] <;> exact calm_ptr_ne rfl)⟩ | ((repeat' apply And.intro) <;> first | exact calm_ptr_ne rfl | exact calm_ne rfl)) ?_
                simp (maxSteps := 4000000) only [go_sem, Nat.reduceMul, Nat.reduceLeDiff, Nat.reduceLT, reduceIte, reduceCtorEq, Nat.reduceEqDiff, Nat.reduceSub, Nat.reduceAdd]
                simp (maxSteps := 4000000) only [eq1]
                repeat (refine ⟨by first | omega | (unfold InR; omega) | exact ⟨by omega, by omega⟩, ?_⟩)
                refine HereC.storeRow T_ok (vs := I (R)) (u := .int .i64 ((R).getD (q - 1) 0)) rfl (by simp (maxSteps := 4000000) only [go_sem, Nat.reduceMul, Nat.reduceLeDiff, Nat.reduceLT, reduceIte, reduceCtorEq, Nat.reduceEqDiff, Nat.reduceSub, Nat.reduceAdd] <;> rfl) (by simp (maxSteps := 4000000) only [go_sem, Nat.reduceMul, Nat.reduceLeDiff, Nat.reduceLT, reduceIte, reduceCtorEq, Nat.reduceEqDiff, Nat.reduceSub, Nat.reduceAdd] <;> rfl) rfl (by simp (maxSteps := 4000000) only [go_sem, Nat.reduceMul, Nat.reduceLeDiff, Nat.reduceLT, reduceIte, reduceCtorEq, Nat.reduceEqDiff, Nat.reduceSub, Nat.reduceAdd] <;> rfl) rfl (by rw [I_len]; omega) (keeps_nil _ _) ?_
                simp (maxSteps := 4000000) only [go_sem, Nat.reduceMul, Nat.reduceLeDiff, Nat.reduceLT, reduceIte, reduceCtorEq, Nat.reduceEqDiff, Nat.reduceSub, Nat.reduceAdd]
                rw [I_set]
                simp (maxSteps := 4000000) only [eq1]
                repeat (refine ⟨by first | omega | (unfold InR; omega) | exact ⟨by omega, by omega⟩, ?_⟩)
                refine HereC.storeRow T_ok (vs := I ((R).set (q) ((R).getD (q - 1) 0))) (u := .int .i64 ((R).getD (q) 0)) rfl (by simp (maxSteps := 4000000) only [go_sem, Nat.reduceMul, Nat.reduceLeDiff, Nat.reduceLT, reduceIte, reduceCtorEq, Nat.reduceEqDiff, Nat.reduceSub, Nat.reduceAdd] <;> rfl) (by simp (maxSteps := 4000000) only [go_sem, Nat.reduceMul, Nat.reduceLeDiff, Nat.reduceLT, reduceIte, reduceCtorEq, Nat.reduceEqDiff, Nat.reduceSub, Nat.reduceAdd] <;> rfl) rfl (by simp (maxSteps := 4000000) only [go_sem, Nat.reduceMul, Nat.reduceLeDiff, Nat.reduceLT, reduceIte, reduceCtorEq, Nat.reduceEqDiff, Nat.reduceSub, Nat.reduceAdd] <;> rfl) rfl (by rw [I_len, List.length_set]; omega) (keeps_nil _ _) ?_
                simp (maxSteps := 4000000) only [go_sem, Nat.reduceMul, Nat.reduceLeDiff, Nat.reduceLT, reduceIte, reduceCtorEq, Nat.reduceEqDiff, Nat.reduceSub, Nat.reduceAdd]
                rw [I_set]
                exact ⟨by unfold InR; omega, (q + 1, swL 0 R q (q - 1)), ⟨by dsimp only; omega, by dsimp only; omega, hpR.trans (PIn.swap (by omega) (by omega) (by omega) (by omega) (by omega)), hsR.congr fun x x1 x2 => by rw [swL_get (by omega) (by omega), if_neg (by omega), if_neg (by omega)]⟩, by dsimp only; omega, by push_cast; rfl, rfl⟩
            · exact ⟨by unfold InR; omega, (c + 1, i, R), ⟨by dsimp only; omega, hi1, by dsimp only; omega, hpR, hsR⟩, by dsimp only; omega, ⟨rfl, by push_cast; rfl⟩, rfl⟩
          · exact ⟨by unfold InR; omega, (c + 1, i, M), ⟨by dsimp only; omega, hi1, by dsimp only; omega, hpS, hsM⟩, by dsimp only; omega, ⟨rfl, by push_cast; rfl⟩, rfl⟩
  · refine RetQ.of (false, L) ⟨hp, fun q => by cases q⟩ (RetM.one0 (by simp (maxSteps := 4000000) only [go_sem, Nat.reduceMul, Nat.reduceLeDiff, Nat.reduceLT, reduceIte, reduceCtorEq, Nat.reduceEqDiff, Nat.reduceSub, Nat.reduceAdd]; rfl) rfl ?_)
    simp (maxSteps := 4000000) only [go_sem, Nat.reduceMul, Nat.reduceLeDiff, Nat.reduceLT, reduceIte, reduceCtorEq, Nat.reduceEqDiff, Nat.reduceSub, Nat.reduceAdd]
end Go.Proofs.YtcjhojdlfnpgjaaGreat
