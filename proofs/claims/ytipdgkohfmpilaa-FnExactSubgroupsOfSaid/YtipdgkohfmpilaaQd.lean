/- Contracts: the subgroups of a group by the reference. -/
import Derived.Test.YtipdgkohfmpilaaQc
namespace Go.Proofs.Ytipdgkohfmpilaa
open Go.RowKit
set_option linter.unusedVariables false
set_option linter.unusedSimpArgs false
set_option maxRecDepth 100000

theorem shl_fact8 : ∀ x : Nat, x < 9 → shlW .i64 1 (IntKind.u64.wrap (x : Int)) = ((2 ^ x : Nat) : Int) ∧ IntKind.u64.wrap (x : Int) = x := by rw [shlW_eq]; decide +kernel
theorem II_setGet (M : List (List Int)) (j : Nat) : (II M).set j (I (M.getD j [])) = II M := by
  rw [II_set]
  congr 1
  refine List.ext_getElem? fun x => ?_
  rw [List.getElem?_set]
  by_cases e : j = x
  · subst e
    by_cases h : j < M.length
    · rw [if_pos rfl, if_pos h, List.getD_eq_getElem?_getD, List.getElem?_eq_getElem h, Option.getD_some]
    · rw [if_pos rfl, if_neg h, List.getElem?_eq_none (by omega)]
  · rw [if_neg e]
theorem gapL {L M : List (List Int)} {p : Nat} (h : GapT L M p) (hr : ∀ r ∈ L, r.length ≤ 8) (hp : 0 < p) : (M.getD (p - 1) []).length ≤ 8 := by
  rw [h.2.2.1 _ (by omega)]
  refine hr _ ?_
  rw [List.getD_eq_getElem?_getD, List.getElem?_eq_getElem (by have := h.2.1; omega), Option.getD_some]
  exact List.getElem_mem _
theorem l01Subgroups_spec (t : List (List Int)) (hg : Grp t) : Spec Try.prog 15 [.agg [.rds (II t)]] (.own 0) [.rows 39 2 (II (subsL t))] := by
  have h8 := hg.2.1
  have hpw : 2 ^ t.length ≤ 256 := by have := Nat.pow_le_pow_right (n := 2) (by decide) h8; exact this
  have hev : 2 ^ t.length % 2 = 0 := by have := hg.1; rw [show t.length = (t.length - 1) + 1 by omega, Nat.pow_succ]; omega
  have hsh := shl_fact8 t.length (by omega)
  refine Spec.of_code T_ok Try.func15 rfl Try.ntmps15 Try.call15 (Nat.le_of_ble_eq_true rfl) rfl rfl (CodeV_sound T_ok (by kernel_rfl) rfl ?_)
  simp only [Try.results15, go_sem, Nat.reduceMul, Nat.reduceLeDiff, Nat.reduceLT, reduceIte, reduceCtorEq, Nat.reduceEqDiff, Nat.reduceSub, Nat.reduceAdd]
  refine HereO.buildRow T_ok 120 [] rfl rfl rfl (by decide) rfl rfl rfl (by decide) ?_
  simp only [Try.results15, go_sem, Nat.reduceMul, Nat.reduceLeDiff, Nat.reduceLT, reduceIte, reduceCtorEq, Nat.reduceEqDiff, Nat.reduceSub, Nat.reduceAdd]
  refine HereV.conv (Conv.rows (id := 120) (e := 39) 2 0 (by first | rfl | (simp only [Try.results15, go_sem, Nat.reduceMul, Nat.reduceLeDiff, Nat.reduceLT, reduceIte, reduceCtorEq, Nat.reduceEqDiff, Nat.reduceSub, Nat.reduceAdd]; rfl))) ?_
  refine Here.loopV T_ok (κ := Nat × List (List Int)) (fun s => SubsI t s.1 s.2) (fun s => 2 ^ t.length + 2 - s.1) (fun s => [(1, .box [.rds (II t)]), (3, .own 120), (4, .v (.int .i64 s.1))]) (fun s => [(120, .rows 39 2 (II s.2))]) (1, []) ⟨by decide, by have := Nat.two_pow_pos t.length; dsimp only; omega, by rw [subsA_one], by simp⟩ (by simp only [Try.results15, go_sem, Nat.reduceMul, Nat.reduceLeDiff, Nat.reduceLT, reduceIte, reduceCtorEq, Nat.reduceEqDiff, Nat.reduceSub, Nat.reduceAdd]; simp) (by simp only [Try.results15, go_sem, Nat.reduceMul, Nat.reduceLeDiff, Nat.reduceLT, reduceIte, reduceCtorEq, Nat.reduceEqDiff, Nat.reduceSub, Nat.reduceAdd]; first | done | simp [II]) ?_
  rintro ⟨m, L⟩ ⟨hm, hm2, hp, hs⟩
  dsimp only at hm hm2 hp hs ⊢
  have hLl : L.length ≤ 257 := by have := hp.length_eq; have := subsA_len t m; omega
  have hLr : ∀ r ∈ L, r.length ≤ 8 := fun r hr => subsA_row (hp.mem_iff.1 hr)
  simp only [Try.results15, go_sem, Nat.reduceMul, Nat.reduceLeDiff, Nat.reduceLT, reduceIte, reduceCtorEq, Nat.reduceEqDiff, Nat.reduceSub, Nat.reduceAdd]
  refine HereO.call T_ok rfl rfl (l01N_spec t) (by simp only [go_sem, Nat.reduceMul, Nat.reduceLeDiff, Nat.reduceLT, reduceIte, reduceCtorEq, Nat.reduceEqDiff, Nat.reduceSub, Nat.reduceAdd, List.toList_toArray] <;> first | rfl | exact ⟨rfl, rfl⟩) rfl ?_
  simp only [Try.results15, go_sem, Nat.reduceMul, Nat.reduceLeDiff, Nat.reduceLT, reduceIte, reduceCtorEq, Nat.reduceEqDiff, Nat.reduceSub, Nat.reduceAdd]
  rw [hsh.1]
  refine ⟨fun h2 => ?_, fun h2 => ?_⟩
  · have hm1 : m < 2 ^ t.length := by omega
    refine HereO.call T_ok rfl rfl (l01Closed_spec t hg m hm1) (by simp only [go_sem, Nat.reduceMul, Nat.reduceLeDiff, Nat.reduceLT, reduceIte, reduceCtorEq, Nat.reduceEqDiff, Nat.reduceSub, Nat.reduceAdd, List.toList_toArray] <;> first | rfl | exact ⟨rfl, rfl⟩) rfl ?_
    simp only [Try.results15, go_sem, Nat.reduceMul, Nat.reduceLeDiff, Nat.reduceLT, reduceIte, reduceCtorEq, Nat.reduceEqDiff, Nat.reduceSub, Nat.reduceAdd]
    refine ⟨fun h3 => ?_, fun h3 => ?_⟩
    · have hne : ¬ closeN t m = m := fun q => h3 (by rw [q])
      exact ⟨by unfold InR; omega, (m + 2, L), ⟨by dsimp only; omega, by dsimp only; omega, by dsimp only; rw [subsA_step t hm, if_neg hne, List.append_nil]; exact hp, hs⟩, by dsimp only; omega, by push_cast; rfl, rfl⟩
    · refine HereO.callOwn T_ok 22 rfl rfl (l01List_spec m (by omega)) (by simp only [go_sem, Nat.reduceMul, Nat.reduceLeDiff, Nat.reduceLT, reduceIte, reduceCtorEq, Nat.reduceEqDiff, Nat.reduceSub, Nat.reduceAdd, List.toList_toArray] <;> first | rfl | exact ⟨rfl, rfl⟩) rfl (by simp) rfl ?_
      simp only [Try.results15, go_sem, Nat.reduceMul, Nat.reduceLeDiff, Nat.reduceLT, reduceIte, reduceCtorEq, Nat.reduceEqDiff, Nat.reduceSub, Nat.reduceAdd]
      refine HereO.buildRowL T_ok 150 ([.own 1352]) rfl rfl rfl (by decide) rfl (by simp only [go_sem, Nat.reduceMul, Nat.reduceLeDiff, Nat.reduceLT, reduceIte, reduceCtorEq, Nat.reduceEqDiff, Nat.reduceSub, Nat.reduceAdd] <;> rfl) rfl (by decide) (by simp only [go_sem, Nat.reduceMul, Nat.reduceLeDiff, Nat.reduceLT, reduceIte, reduceCtorEq, Nat.reduceEqDiff, Nat.reduceSub, Nat.reduceAdd] <;> rfl) ?_
      simp only [Try.results15, go_sem, Nat.reduceMul, Nat.reduceLeDiff, Nat.reduceLT, reduceIte, reduceCtorEq, Nat.reduceEqDiff, Nat.reduceSub, Nat.reduceAdd]
      refine HereO.appendHole T_ok (id := 120) (j := 150) (i := 1352) rfl rfl (by decide) (by simp only [go_sem, Nat.reduceMul, Nat.reduceLeDiff, Nat.reduceLT, reduceIte, reduceCtorEq, Nat.reduceEqDiff, Nat.reduceSub, Nat.reduceAdd] <;> rfl) (by decide) (by simp only [go_sem, Nat.reduceMul, Nat.reduceLeDiff, Nat.reduceLT, reduceIte, reduceCtorEq, Nat.reduceEqDiff, Nat.reduceSub, Nat.reduceAdd] <;> rfl) (by simp only [go_sem, Nat.reduceMul, Nat.reduceLeDiff, Nat.reduceLT, reduceIte, reduceCtorEq, Nat.reduceEqDiff, Nat.reduceSub, Nat.reduceAdd] <;> rfl) (by simp only [go_sem, Nat.reduceMul, Nat.reduceLeDiff, Nat.reduceLT, reduceIte, reduceCtorEq, Nat.reduceEqDiff, Nat.reduceSub, Nat.reduceAdd] <;> rfl) (by simp only [go_sem, Nat.reduceMul, Nat.reduceLeDiff, Nat.reduceLT, reduceIte, reduceCtorEq, Nat.reduceEqDiff, Nat.reduceSub, Nat.reduceAdd] <;> rfl) (by decide) (by decide) (by rw [II_len]; omega) ?_
      simp only [Try.results15, go_sem, Nat.reduceMul, Nat.reduceLeDiff, Nat.reduceLT, reduceIte, reduceCtorEq, Nat.reduceEqDiff, Nat.reduceSub, Nat.reduceAdd]
      have hcl : closeN t m = m := by omega
      have fin : ∀ (p : Nat) (M : List (List Int)), GapT L M p → (∀ j, p ≤ j → j < L.length → bfr (bitsL m) (L.getD j []) = true) → (p = 0 ∨ bfr (bitsL m) (L.getD (p - 1) []) = false) → (II M).set p (I (bitsL m)) = II (L.take p ++ bitsL m :: L.drop p) ∧ SubsI t (m + 2) (L.take p ++ bitsL m :: L.drop p) := fun p M hG hb h1 =>
        ⟨by rw [II_set, gap_end hG], by omega, by omega, by rw [subsA_step t hm, if_pos hcl]; exact (ins_perm L _ p).trans (hp.append_right _), ins_sorted hs hG.2.1 hb h1⟩
      refine Here.loopV T_ok (κ := Nat × List (List Int)) (fun s => GapT L s.2 s.1 ∧ ∀ j, s.1 ≤ j → j < L.length → bfr (bitsL m) (L.getD j []) = true) (fun s => s.1) (fun s => [(1, .box [.rds (II t)]), (3, .own 120), (4, .v (.int .i64 m)), (5, .own 1352), (6, .v (.int .i64 s.1))]) (fun s => [(120, .gap 39 2 (II s.2) s.1), (1352, .row 2 (I (bitsL m)))]) (L.length, L ++ [[]]) ⟨gap_0 L, fun j h1 h2 => by dsimp only at h1; omega⟩ (by simp only [Try.results15, go_sem, Nat.reduceMul, Nat.reduceLeDiff, Nat.reduceLT, reduceIte, reduceCtorEq, Nat.reduceEqDiff, Nat.reduceSub, Nat.reduceAdd]; first | done | simp [II]) (by simp only [Try.results15, go_sem, Nat.reduceMul, Nat.reduceLeDiff, Nat.reduceLT, reduceIte, reduceCtorEq, Nat.reduceEqDiff, Nat.reduceSub, Nat.reduceAdd]; first | done | simp [II, I]) ?_
      rintro ⟨p, M⟩ ⟨hG, hb⟩
      dsimp only at hG hb ⊢
      have hM := hG.1
      have hpL := hG.2.1
      have hbl := bitsL_len m
      simp only [Try.results15, go_sem, Nat.reduceMul, Nat.reduceLeDiff, Nat.reduceLT, reduceIte, reduceCtorEq, Nat.reduceEqDiff, Nat.reduceSub, Nat.reduceAdd]
      refine ⟨fun h4 => ?_, fun h4 => ?_⟩
      · have hM8 := gapL hG hLr (p := p) (by omega)
        have hMp : M.getD (p - 1) [] = L.getD (p - 1) [] := hG.2.2.1 _ (by omega)
        have hpn : ((p : Int) - 1).toNat = p - 1 := by omega
        refine ⟨by unfold InR; omega, ?_⟩
        refine HereO.opP T_ok (OpP.indexGap T_ok rfl rfl rfl rfl rfl (by omega) (by rw [II_len]; omega)) ?_
        simp only [Try.results15, go_sem, Nat.reduceMul, Nat.reduceLeDiff, Nat.reduceLT, reduceIte, reduceCtorEq, Nat.reduceEqDiff, Nat.reduceSub, Nat.reduceAdd]
        rw [hpn]
        refine HereO.openTwo T_ok 200 rfl rfl rfl rfl (by omega) (by rw [II_len]; omega) (by decide) (by decide) ?_
        rw [II_get]
        simp only [Try.results15, go_sem, Nat.reduceMul, Nat.reduceLeDiff, Nat.reduceLT, reduceIte, reduceCtorEq, Nat.reduceEqDiff, Nat.reduceSub, Nat.reduceAdd]
        refine HereO.call T_ok rfl rfl (l01Before_spec (bitsL m) (M.getD (p - 1) []) (by omega) (by omega)) (by simp only [go_sem, Nat.reduceMul, Nat.reduceLeDiff, Nat.reduceLT, reduceIte, reduceCtorEq, Nat.reduceEqDiff, Nat.reduceSub, Nat.reduceAdd, List.toList_toArray] <;> first | rfl | exact ⟨rfl, rfl⟩) rfl ?_
        simp only [Try.results15, go_sem, Nat.reduceMul, Nat.reduceLeDiff, Nat.reduceLT, reduceIte, reduceCtorEq, Nat.reduceEqDiff, Nat.reduceSub, Nat.reduceAdd]
        refine ⟨fun h5 => ?_, fun h5 => ?_⟩
        · refine ⟨by unfold InR; omega, ?_⟩
          refine HereO.conv (Conv.shutTwo 200 (id := 120) (e := 39) (e' := 2) (i := p) (k := p - 1) (tt := II M) (vs := I (M.getD (p - 1) [])) (by decide) (by omega) rfl rfl) ?_
          rw [II_setGet]
          refine HereO.opP T_ok (OpP.indexGap T_ok rfl rfl rfl rfl rfl (by omega) (by rw [II_len]; omega)) ?_
          simp only [Try.results15, go_sem, Nat.reduceMul, Nat.reduceLeDiff, Nat.reduceLT, reduceIte, reduceCtorEq, Nat.reduceEqDiff, Nat.reduceSub, Nat.reduceAdd]
          rw [hpn]
          refine HereO.openTwo T_ok 201 rfl rfl rfl rfl (by omega) (by rw [II_len]; omega) (by decide) (by decide) ?_
          rw [II_get]
          simp only [Try.results15, go_sem, Nat.reduceMul, Nat.reduceLeDiff, Nat.reduceLT, reduceIte, reduceCtorEq, Nat.reduceEqDiff, Nat.reduceSub, Nat.reduceAdd]
          refine HereO.opP T_ok (OpP.indexTwo T_ok rfl rfl rfl rfl rfl (by omega) (by rw [II_len]; omega)) ?_
          simp only [Try.results15, go_sem, Nat.reduceMul, Nat.reduceLeDiff, Nat.reduceLT, reduceIte, reduceCtorEq, Nat.reduceEqDiff, Nat.reduceSub, Nat.reduceAdd]
          refine HereO.storeMove T_ok (i := p) (m := p - 1) rfl rfl rfl rfl rfl rfl (by decide) (by omega) ?_
          rw [II_set]
          simp only [Try.results15, go_sem, Nat.reduceMul, Nat.reduceLeDiff, Nat.reduceLT, reduceIte, reduceCtorEq, Nat.reduceEqDiff, Nat.reduceSub, Nat.reduceAdd]
          exact ⟨by unfold InR; omega, (p - 1, M.set p (M.getD (p - 1) [])), ⟨gap_step hG (by omega), fun j hj hl => by
            by_cases e : j = p - 1
            · subst e; rw [← hMp]; exact h5
            · exact hb j (by dsimp only at hj; omega) hl⟩, by dsimp only; omega, by dsimp only; omega, rfl⟩
        · obtain ⟨f1, f2⟩ := fin p M hG hb (.inr (by rw [← hMp]; exact h5))
          refine HereO.conv (Conv.shutTwo 200 (id := 120) (e := 39) (e' := 2) (i := p) (k := p - 1) (tt := II M) (vs := I (M.getD (p - 1) [])) (by decide) (by omega) rfl rfl) ?_
          rw [II_setGet]
          refine HereO.opP T_ok (OpP.indexGap T_ok rfl rfl rfl rfl rfl (by omega) (by rw [II_len]; omega)) ?_
          simp only [Try.results15, go_sem, Nat.reduceMul, Nat.reduceLeDiff, Nat.reduceLT, reduceIte, reduceCtorEq, Nat.reduceEqDiff, Nat.reduceSub, Nat.reduceAdd]
          refine HereO.storeFill T_ok (i := p) rfl rfl rfl rfl rfl rfl (by decide) ?_
          rw [f1]
          simp only [Try.results15, go_sem, Nat.reduceMul, Nat.reduceLeDiff, Nat.reduceLT, reduceIte, reduceCtorEq, Nat.reduceEqDiff, Nat.reduceSub, Nat.reduceAdd]
          exact ⟨by unfold InR; omega, (m + 2, L.take p ++ bitsL m :: L.drop p), f2, by dsimp only; omega, by push_cast; rfl, rfl⟩
      · obtain rfl : p = 0 := by omega
        obtain ⟨f1, f2⟩ := fin 0 M hG hb (.inl rfl)
        refine HereO.opP T_ok (OpP.indexGap T_ok rfl rfl rfl rfl rfl (by omega) (by rw [II_len]; omega)) ?_
        simp only [Try.results15, go_sem, Nat.reduceMul, Nat.reduceLeDiff, Nat.reduceLT, reduceIte, reduceCtorEq, Nat.reduceEqDiff, Nat.reduceSub, Nat.reduceAdd]
        refine HereO.storeFill T_ok (i := 0) rfl rfl rfl rfl rfl rfl (by decide) ?_
        rw [f1]
        simp only [Try.results15, go_sem, Nat.reduceMul, Nat.reduceLeDiff, Nat.reduceLT, reduceIte, reduceCtorEq, Nat.reduceEqDiff, Nat.reduceSub, Nat.reduceAdd]
        exact ⟨by unfold InR; omega, (m + 2, L.take 0 ++ bitsL m :: L.drop 0), f2, by dsimp only; omega, by push_cast; rfl, rfl⟩
  · obtain rfl : m = 2 ^ t.length + 1 := by omega
    rw [subsA_even t hev] at hp
    refine RetT.one 120 (by simp only [Try.results15, go_sem, Nat.reduceMul, Nat.reduceLeDiff, Nat.reduceLT, reduceIte, reduceCtorEq, Nat.reduceEqDiff, Nat.reduceSub, Nat.reduceAdd]; rfl) rfl ?_
    simp only [Try.results15, go_sem, Nat.reduceMul, Nat.reduceLeDiff, Nat.reduceLT, reduceIte, reduceCtorEq, Nat.reduceEqDiff, Nat.reduceSub, Nat.reduceAdd]
    rw [subsL_eq hp hs]
end Go.Proofs.Ytipdgkohfmpilaa
