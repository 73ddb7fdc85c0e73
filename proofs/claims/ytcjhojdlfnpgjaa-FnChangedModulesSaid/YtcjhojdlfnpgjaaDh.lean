/- Contracts: RestrictModule. -/
import Derived.Test.YtcjhojdlfnpgjaaDg
import Derived.Test.YtcjhojdlfnpgjaaGc
namespace Go.Proofs.Ytcjhojdlfnpgjaa
open Go.RowKit
set_option linter.unusedVariables false
set_option linter.unusedSimpArgs false
set_option maxRecDepth 100000

def rstU (l p : List Int) (x : Nat) : Int := l.getD (p.getD x 0).toNat 0
def codeRs (t u : List (List Int)) (p : List Int) (m : Int) (l : List Int) : Int := if Grp t ∧ Grp u ∧ Mod u m l then (if p.length = t.length ∧ AreIn u.length p then (if Hom t u p then 0 else 5) else 2) else 1
def rstM (t u : List (List Int)) (p : List Int) (m : Int) (l : List Int) : Int := if codeRs t u p m l = 0 then m else 0
def rstL (t u : List (List Int)) (p : List Int) (m : Int) (l : List Int) : List Int := if codeRs t u p m l = 0 then upTo (rstU l p) t.length else []
theorem codeRs_ok {t u : List (List Int)} {p : List Int} {m : Int} {l : List Int} (h : codeRs t u p m l = 0) : Grp t := by
  unfold codeRs at h
  split at h
  · rename_i h1; exact h1.1
  · omega
theorem rstL_ok (t u : List (List Int)) (p : List Int) (m : Int) (l : List Int) (hp : p.length ≤ 1048576) : (rstL t u p m l).length ≤ 1048576 := by
  unfold rstL
  split
  · rename_i h
    have := (codeRs_ok h).2.1
    rw [upTo_len]; omega
  · simp
theorem Res1_spec (m : Int) (l p : List Int) (x : Nat) (hx : x < p.length) (hp : AreIn l.length p) :
    Spec Try.prog 58 [.v (.int .i64 x), .box [.v (.int .i64 m), .rd (I l)], .box [.rd (I p)]] (.v (.int .i64 (rstU l p x))) [] := by
  have := hp x hx
  refine Spec.of_code T_ok Try.func58 rfl Try.ntmps58 Try.call58 (Nat.le_of_ble_eq_true rfl) rfl rfl (CodeV_sound T_ok (by kernel_rfl) rfl ?_)
  simp only [Try.results58, go_sem, Nat.reduceMul, Nat.reduceLeDiff, Nat.reduceLT, reduceIte, reduceCtorEq, Nat.reduceEqDiff, Nat.reduceSub, Nat.reduceAdd]
  refine Here.draw T_ok mixed_ok (by kernel_rfl) ?_
  simp only [Try.results58, go_sem, Nat.reduceMul, Nat.reduceLeDiff, Nat.reduceLT, reduceIte, reduceCtorEq, Nat.reduceEqDiff, Nat.reduceSub, Nat.reduceAdd]
  exact ⟨⟨by omega, by omega⟩, ⟨by omega, by omega⟩, rfl⟩
theorem restricted_spec (t u : List (List Int)) (p : List Int) (m : Int) (l : List Int) (hg : Grp t) (h1 : Mod u m l) (hp : p.length = t.length) (hi : AreIn u.length p) :
    Spec Try.prog 35 [.agg [.rds (II t)], .rd (I p), .agg [.v (.int .i64 m), .rd (I l)]] (.agg [.v (.int .i64 m), .own 0]) [.row 2 (I (upTo (rstU l p) t.length))] := by
  have h8 := hg.2.1
  refine Spec.of_code T_ok Try.func35 rfl Try.ntmps35 Try.call35 (Nat.le_of_ble_eq_true rfl) rfl rfl (CodeV_sound T_ok (by kernel_rfl) rfl ?_)
  simp only [Try.results35, go_sem, Nat.reduceMul, Nat.reduceLeDiff, Nat.reduceLT, reduceIte, reduceCtorEq, Nat.reduceEqDiff, Nat.reduceSub, Nat.reduceAdd]
  refine HereO.alloc T_ok 106 rfl rfl (by decide) ?_
  simp only [Try.results35, go_sem, Nat.reduceMul, Nat.reduceLeDiff, Nat.reduceLT, reduceIte, reduceCtorEq, Nat.reduceEqDiff, Nat.reduceSub, Nat.reduceAdd]
  refine HereO.callOwn T_ok 11 rfl rfl (unitsOf_spec t (by omega) m 58 [.box [.v (.int .i64 m), .rd (I l)], .box [.rd (I p)]] (Fix.cons (Fix.box (Fix.cons (Fix.v _) (Fix.rd _))) (Fix.box (Fix.rd _))) (rstU l p) (fun x hx => Res1_spec m l p x (by omega) (by rw [h1.2.1]; exact hi))) (by simp only [go_sem, Nat.reduceMul, Nat.reduceLeDiff, Nat.reduceLT, reduceIte, reduceCtorEq, Nat.reduceEqDiff, Nat.reduceSub, Nat.reduceAdd, List.toList_toArray] <;> first | rfl | exact ⟨rfl, rfl⟩) rfl (by simp) rfl ?_
  simp only [Try.results35, go_sem, Nat.reduceMul, Nat.reduceLeDiff, Nat.reduceLT, reduceIte, reduceCtorEq, Nat.reduceEqDiff, Nat.reduceSub, Nat.reduceAdd]
  refine HereO.storeAgg T_ok rfl (by simp only [go_sem, Nat.reduceMul, Nat.reduceLeDiff, Nat.reduceLT, reduceIte, reduceCtorEq, Nat.reduceEqDiff, Nat.reduceSub, Nat.reduceAdd] <;> rfl) (by simp only [go_sem, Nat.reduceMul, Nat.reduceLeDiff, Nat.reduceLT, reduceIte, reduceCtorEq, Nat.reduceEqDiff, Nat.reduceSub, Nat.reduceAdd] <;> rfl) rfl (by simp only [go_sem, Nat.reduceMul, Nat.reduceLeDiff, Nat.reduceLT, reduceIte, reduceCtorEq, Nat.reduceEqDiff, Nat.reduceSub, Nat.reduceAdd] <;> rfl) (by first | rfl | (simp only [go_sem, Nat.reduceMul, Nat.reduceLeDiff, Nat.reduceLT, reduceIte, reduceCtorEq, Nat.reduceEqDiff, Nat.reduceSub, Nat.reduceAdd] <;> rfl)) rfl rfl ?_
  simp only [Try.results35, go_sem, Nat.reduceMul, Nat.reduceLeDiff, Nat.reduceLT, reduceIte, reduceCtorEq, Nat.reduceEqDiff, Nat.reduceSub, Nat.reduceAdd]
  refine RetT.one 1176 (by simp only [Try.results35, go_sem, Nat.reduceMul, Nat.reduceLeDiff, Nat.reduceLT, reduceIte, reduceCtorEq, Nat.reduceEqDiff, Nat.reduceSub, Nat.reduceAdd]; rfl) rfl ?_
  simp only [Try.results35, go_sem, Nat.reduceMul, Nat.reduceLeDiff, Nat.reduceLT, reduceIte, reduceCtorEq, Nat.reduceEqDiff, Nat.reduceSub, Nat.reduceAdd]
theorem codeH_is {t u : List (List Int)} {p : List Int} (ht : Grp t) (hu : Grp u) : codeH t u p = if p.length = t.length ∧ AreIn u.length p then 0 else 2 := by unfold codeH; rw [if_pos ⟨ht, hu⟩]
theorem implRestrictModule (t u : List (List Int)) (p : List Int) (m : Int) (l : List Int) (hp : p.length ≤ 1048576) : Spec Try.prog 10 [.agg [.rds (II t)], .agg [.rds (II u)], .rd (I p), .agg [.v (.int .i64 m), .rd (I l)]] (.tup [.agg [.v (.int .i64 (rstM t u p m l)), .own 0], .v (.int .i64 (codeRs t u p m l))]) [.row 2 (I (rstL t u p m l))] := by
  refine Spec.of_codeC T_ok Try.func10 rfl Try.ntmps10 Try.call10 (Nat.le_of_ble_eq_true rfl) rfl rfl (CodeV_sound T_ok (by kernel_rfl) rfl ?_)
  simp only [Try.results10, go_sem, Nat.reduceMul, Nat.reduceLeDiff, Nat.reduceLT, reduceIte, reduceCtorEq, Nat.reduceEqDiff, Nat.reduceSub, Nat.reduceAdd]
  refine HereO.alloc T_ok 108 rfl rfl (by decide) ?_
  simp only [Try.results10, go_sem, Nat.reduceMul, Nat.reduceLeDiff, Nat.reduceLT, reduceIte, reduceCtorEq, Nat.reduceEqDiff, Nat.reduceSub, Nat.reduceAdd]
  refine HereO.call T_ok rfl rfl (IsGroup_spec t) (by simp only [go_sem, Nat.reduceMul, Nat.reduceLeDiff, Nat.reduceLT, reduceIte, reduceCtorEq, Nat.reduceEqDiff, Nat.reduceSub, Nat.reduceAdd, List.toList_toArray] <;> first | rfl | exact ⟨rfl, rfl⟩) rfl ?_
  simp only [Try.results10, go_sem, Nat.reduceMul, Nat.reduceLeDiff, Nat.reduceLT, reduceIte, reduceCtorEq, Nat.reduceEqDiff, Nat.reduceSub, Nat.reduceAdd]
  refine ⟨fun ht => ?_, fun ht => ?_⟩
  · refine HereO.opP T_ok (OpP.buildA sl2_73 (MM [(m, l)]) rfl rfl (by decide) (by decide) rfl rfl) ?_
    simp only [Try.results10, go_sem, Nat.reduceMul, Nat.reduceLeDiff, Nat.reduceLT, reduceIte, reduceCtorEq, Nat.reduceEqDiff, Nat.reduceSub, Nat.reduceAdd]
    refine HereO.call T_ok rfl rfl (areModules_spec u [(m, l)] (by simp) (by simp)) (by simp only [go_sem, Nat.reduceMul, Nat.reduceLeDiff, Nat.reduceLT, reduceIte, reduceCtorEq, Nat.reduceEqDiff, Nat.reduceSub, Nat.reduceAdd, List.toList_toArray] <;> first | rfl | exact ⟨rfl, rfl⟩) rfl ?_
    simp only [Try.results10, go_sem, Nat.reduceMul, Nat.reduceLeDiff, Nat.reduceLT, reduceIte, reduceCtorEq, Nat.reduceEqDiff, Nat.reduceSub, Nat.reduceAdd]
    refine ⟨fun hu => ?_, fun hu => ?_⟩
    · have hc : codeRs t u p m l = 1 := by unfold codeRs; rw [if_neg (fun q => hu ⟨q.2.1, Mods1.2 q.2.2⟩)]
      refine HereO.opP T_ok (OpP.build built_29 rfl rfl rfl rfl) ?_
      simp only [Try.results10, go_sem, Nat.reduceMul, Nat.reduceLeDiff, Nat.reduceLT, reduceIte, reduceCtorEq, Nat.reduceEqDiff, Nat.reduceSub, Nat.reduceAdd]
      refine HereO.storeAgg T_ok rfl (by simp only [go_sem, Nat.reduceMul, Nat.reduceLeDiff, Nat.reduceLT, reduceIte, reduceCtorEq, Nat.reduceEqDiff, Nat.reduceSub, Nat.reduceAdd] <;> rfl) (by simp only [go_sem, Nat.reduceMul, Nat.reduceLeDiff, Nat.reduceLT, reduceIte, reduceCtorEq, Nat.reduceEqDiff, Nat.reduceSub, Nat.reduceAdd] <;> rfl) rfl (by simp only [go_sem, Nat.reduceMul, Nat.reduceLeDiff, Nat.reduceLT, reduceIte, reduceCtorEq, Nat.reduceEqDiff, Nat.reduceSub, Nat.reduceAdd] <;> rfl) (by first | rfl | (simp only [go_sem, Nat.reduceMul, Nat.reduceLeDiff, Nat.reduceLT, reduceIte, reduceCtorEq, Nat.reduceEqDiff, Nat.reduceSub, Nat.reduceAdd] <;> rfl)) rfl rfl ?_
      simp only [Try.results10, go_sem, Nat.reduceMul, Nat.reduceLeDiff, Nat.reduceLT, reduceIte, reduceCtorEq, Nat.reduceEqDiff, Nat.reduceSub, Nat.reduceAdd]
      exact RetC.conv (Conv.nilIn (c := 108) (tt := 29) (l := [.v (.int .i64 0), .v nilV]) 1 120 (.row 2 []) rfl (by decide) (by decide) (by rfl) rfl) (RetC.of (RetT.one 120 (by simp only [Try.results10, go_sem, Nat.reduceMul, Nat.reduceLeDiff, Nat.reduceLT, reduceIte, reduceCtorEq, Nat.reduceEqDiff, Nat.reduceSub, Nat.reduceAdd]; rfl) (by simp only [Try.results10, go_sem, Nat.reduceMul, Nat.reduceLeDiff, Nat.reduceLT, reduceIte, reduceCtorEq, Nat.reduceEqDiff, Nat.reduceSub, Nat.reduceAdd] <;> simp [rstM, rstL, hc, I]) (by simp only [Try.results10, go_sem, Nat.reduceMul, Nat.reduceLeDiff, Nat.reduceLT, reduceIte, reduceCtorEq, Nat.reduceEqDiff, Nat.reduceSub, Nat.reduceAdd] <;> simp [rstM, rstL, hc, I])))
    · have hm := Mods1.1 hu.2
      refine HereO.call T_ok rfl rfl (imagesCode_spec t u p hp) (by simp only [go_sem, Nat.reduceMul, Nat.reduceLeDiff, Nat.reduceLT, reduceIte, reduceCtorEq, Nat.reduceEqDiff, Nat.reduceSub, Nat.reduceAdd, List.toList_toArray] <;> first | rfl | exact ⟨rfl, rfl⟩) rfl ?_
      simp only [Try.results10, go_sem, Nat.reduceMul, Nat.reduceLeDiff, Nat.reduceLT, reduceIte, reduceCtorEq, Nat.reduceEqDiff, Nat.reduceSub, Nat.reduceAdd]
      refine ⟨fun h => ?_, fun h => ?_⟩
      · have hc : codeRs t u p m l = codeH t u p := by
          rw [codeH_is ht hu.1] at h ⊢
          unfold codeRs
          rw [if_pos ⟨ht, hu.1, hm⟩]
          split at h
          · omega
          · rename_i q; rw [if_neg q, if_neg q]
        refine HereO.opP T_ok (OpP.build built_29 rfl rfl rfl rfl) ?_
        simp only [Try.results10, go_sem, Nat.reduceMul, Nat.reduceLeDiff, Nat.reduceLT, reduceIte, reduceCtorEq, Nat.reduceEqDiff, Nat.reduceSub, Nat.reduceAdd]
        refine HereO.storeAgg T_ok rfl (by simp only [go_sem, Nat.reduceMul, Nat.reduceLeDiff, Nat.reduceLT, reduceIte, reduceCtorEq, Nat.reduceEqDiff, Nat.reduceSub, Nat.reduceAdd] <;> rfl) (by simp only [go_sem, Nat.reduceMul, Nat.reduceLeDiff, Nat.reduceLT, reduceIte, reduceCtorEq, Nat.reduceEqDiff, Nat.reduceSub, Nat.reduceAdd] <;> rfl) rfl (by simp only [go_sem, Nat.reduceMul, Nat.reduceLeDiff, Nat.reduceLT, reduceIte, reduceCtorEq, Nat.reduceEqDiff, Nat.reduceSub, Nat.reduceAdd] <;> rfl) (by first | rfl | (simp only [go_sem, Nat.reduceMul, Nat.reduceLeDiff, Nat.reduceLT, reduceIte, reduceCtorEq, Nat.reduceEqDiff, Nat.reduceSub, Nat.reduceAdd] <;> rfl)) rfl rfl ?_
        simp only [Try.results10, go_sem, Nat.reduceMul, Nat.reduceLeDiff, Nat.reduceLT, reduceIte, reduceCtorEq, Nat.reduceEqDiff, Nat.reduceSub, Nat.reduceAdd]
        exact RetC.conv (Conv.nilIn (c := 108) (tt := 29) (l := [.v (.int .i64 0), .v nilV]) 1 120 (.row 2 []) rfl (by decide) (by decide) (by rfl) rfl) (RetC.of (RetT.one 120 (by simp only [Try.results10, go_sem, Nat.reduceMul, Nat.reduceLeDiff, Nat.reduceLT, reduceIte, reduceCtorEq, Nat.reduceEqDiff, Nat.reduceSub, Nat.reduceAdd]; rfl) (by simp only [Try.results10, go_sem, Nat.reduceMul, Nat.reduceLeDiff, Nat.reduceLT, reduceIte, reduceCtorEq, Nat.reduceEqDiff, Nat.reduceSub, Nat.reduceAdd] <;> simp [rstM, rstL, hc, h, I]) (by simp only [Try.results10, go_sem, Nat.reduceMul, Nat.reduceLeDiff, Nat.reduceLT, reduceIte, reduceCtorEq, Nat.reduceEqDiff, Nat.reduceSub, Nat.reduceAdd] <;> simp [rstM, rstL, hc, h, I])))
      · obtain ⟨_, _, hl, hi⟩ := codeH_ok h
        refine HereO.call T_ok rfl rfl (isHomomorphism_spec t u p ht hu.1 (by omega) hi) (by simp only [go_sem, Nat.reduceMul, Nat.reduceLeDiff, Nat.reduceLT, reduceIte, reduceCtorEq, Nat.reduceEqDiff, Nat.reduceSub, Nat.reduceAdd, List.toList_toArray] <;> first | rfl | exact ⟨rfl, rfl⟩) rfl ?_
        simp only [Try.results10, go_sem, Nat.reduceMul, Nat.reduceLeDiff, Nat.reduceLT, reduceIte, reduceCtorEq, Nat.reduceEqDiff, Nat.reduceSub, Nat.reduceAdd]
        refine ⟨fun h2 => ?_, fun h2 => ?_⟩
        · have hc : codeRs t u p m l = 5 := by unfold codeRs; rw [if_pos ⟨ht, hu.1, hm⟩, if_pos ⟨hl, hi⟩, if_neg h2]
          refine HereO.opP T_ok (OpP.build built_29 rfl rfl rfl rfl) ?_
          simp only [Try.results10, go_sem, Nat.reduceMul, Nat.reduceLeDiff, Nat.reduceLT, reduceIte, reduceCtorEq, Nat.reduceEqDiff, Nat.reduceSub, Nat.reduceAdd]
          refine HereO.storeAgg T_ok rfl (by simp only [go_sem, Nat.reduceMul, Nat.reduceLeDiff, Nat.reduceLT, reduceIte, reduceCtorEq, Nat.reduceEqDiff, Nat.reduceSub, Nat.reduceAdd] <;> rfl) (by simp only [go_sem, Nat.reduceMul, Nat.reduceLeDiff, Nat.reduceLT, reduceIte, reduceCtorEq, Nat.reduceEqDiff, Nat.reduceSub, Nat.reduceAdd] <;> rfl) rfl (by simp only [go_sem, Nat.reduceMul, Nat.reduceLeDiff, Nat.reduceLT, reduceIte, reduceCtorEq, Nat.reduceEqDiff, Nat.reduceSub, Nat.reduceAdd] <;> rfl) (by first | rfl | (simp only [go_sem, Nat.reduceMul, Nat.reduceLeDiff, Nat.reduceLT, reduceIte, reduceCtorEq, Nat.reduceEqDiff, Nat.reduceSub, Nat.reduceAdd] <;> rfl)) rfl rfl ?_
          simp only [Try.results10, go_sem, Nat.reduceMul, Nat.reduceLeDiff, Nat.reduceLT, reduceIte, reduceCtorEq, Nat.reduceEqDiff, Nat.reduceSub, Nat.reduceAdd]
          exact RetC.conv (Conv.nilIn (c := 108) (tt := 29) (l := [.v (.int .i64 0), .v nilV]) 1 120 (.row 2 []) rfl (by decide) (by decide) (by rfl) rfl) (RetC.of (RetT.one 120 (by simp only [Try.results10, go_sem, Nat.reduceMul, Nat.reduceLeDiff, Nat.reduceLT, reduceIte, reduceCtorEq, Nat.reduceEqDiff, Nat.reduceSub, Nat.reduceAdd]; rfl) (by simp only [Try.results10, go_sem, Nat.reduceMul, Nat.reduceLeDiff, Nat.reduceLT, reduceIte, reduceCtorEq, Nat.reduceEqDiff, Nat.reduceSub, Nat.reduceAdd] <;> simp [rstM, rstL, hc, I]) (by simp only [Try.results10, go_sem, Nat.reduceMul, Nat.reduceLeDiff, Nat.reduceLT, reduceIte, reduceCtorEq, Nat.reduceEqDiff, Nat.reduceSub, Nat.reduceAdd] <;> simp [rstM, rstL, hc, I])))
        · have hc : codeRs t u p m l = 0 := by unfold codeRs; rw [if_pos ⟨ht, hu.1, hm⟩, if_pos ⟨hl, hi⟩, if_pos h2]
          refine HereO.callOwn T_ok 39 rfl rfl (restricted_spec t u p m l ht hm hl hi) (by simp only [go_sem, Nat.reduceMul, Nat.reduceLeDiff, Nat.reduceLT, reduceIte, reduceCtorEq, Nat.reduceEqDiff, Nat.reduceSub, Nat.reduceAdd, List.toList_toArray] <;> first | rfl | exact ⟨rfl, rfl⟩) rfl (by simp) rfl ?_
          simp only [Try.results10, go_sem, Nat.reduceMul, Nat.reduceLeDiff, Nat.reduceLT, reduceIte, reduceCtorEq, Nat.reduceEqDiff, Nat.reduceSub, Nat.reduceAdd]
          refine HereO.storeAgg T_ok rfl (by simp only [go_sem, Nat.reduceMul, Nat.reduceLeDiff, Nat.reduceLT, reduceIte, reduceCtorEq, Nat.reduceEqDiff, Nat.reduceSub, Nat.reduceAdd] <;> rfl) (by simp only [go_sem, Nat.reduceMul, Nat.reduceLeDiff, Nat.reduceLT, reduceIte, reduceCtorEq, Nat.reduceEqDiff, Nat.reduceSub, Nat.reduceAdd] <;> rfl) rfl (by simp only [go_sem, Nat.reduceMul, Nat.reduceLeDiff, Nat.reduceLT, reduceIte, reduceCtorEq, Nat.reduceEqDiff, Nat.reduceSub, Nat.reduceAdd] <;> rfl) (by first | rfl | (simp only [go_sem, Nat.reduceMul, Nat.reduceLeDiff, Nat.reduceLT, reduceIte, reduceCtorEq, Nat.reduceEqDiff, Nat.reduceSub, Nat.reduceAdd] <;> rfl)) rfl rfl ?_
          simp only [Try.results10, go_sem, Nat.reduceMul, Nat.reduceLeDiff, Nat.reduceLT, reduceIte, reduceCtorEq, Nat.reduceEqDiff, Nat.reduceSub, Nat.reduceAdd]
          exact RetC.of (RetT.one 1624 (by simp only [Try.results10, go_sem, Nat.reduceMul, Nat.reduceLeDiff, Nat.reduceLT, reduceIte, reduceCtorEq, Nat.reduceEqDiff, Nat.reduceSub, Nat.reduceAdd]; rfl) (by simp only [Try.results10, go_sem, Nat.reduceMul, Nat.reduceLeDiff, Nat.reduceLT, reduceIte, reduceCtorEq, Nat.reduceEqDiff, Nat.reduceSub, Nat.reduceAdd] <;> simp [rstM, rstL, hc]) (by simp only [Try.results10, go_sem, Nat.reduceMul, Nat.reduceLeDiff, Nat.reduceLT, reduceIte, reduceCtorEq, Nat.reduceEqDiff, Nat.reduceSub, Nat.reduceAdd] <;> simp [rstM, rstL, hc]))
  · have hc : codeRs t u p m l = 1 := by unfold codeRs; rw [if_neg (fun q => ht q.1)]
    refine HereO.opP T_ok (OpP.build built_29 rfl rfl rfl rfl) ?_
    simp only [Try.results10, go_sem, Nat.reduceMul, Nat.reduceLeDiff, Nat.reduceLT, reduceIte, reduceCtorEq, Nat.reduceEqDiff, Nat.reduceSub, Nat.reduceAdd]
    refine HereO.storeAgg T_ok rfl (by simp only [go_sem, Nat.reduceMul, Nat.reduceLeDiff, Nat.reduceLT, reduceIte, reduceCtorEq, Nat.reduceEqDiff, Nat.reduceSub, Nat.reduceAdd] <;> rfl) (by simp only [go_sem, Nat.reduceMul, Nat.reduceLeDiff, Nat.reduceLT, reduceIte, reduceCtorEq, Nat.reduceEqDiff, Nat.reduceSub, Nat.reduceAdd] <;> rfl) rfl (by simp only [go_sem, Nat.reduceMul, Nat.reduceLeDiff, Nat.reduceLT, reduceIte, reduceCtorEq, Nat.reduceEqDiff, Nat.reduceSub, Nat.reduceAdd] <;> rfl) (by first | rfl | (simp only [go_sem, Nat.reduceMul, Nat.reduceLeDiff, Nat.reduceLT, reduceIte, reduceCtorEq, Nat.reduceEqDiff, Nat.reduceSub, Nat.reduceAdd] <;> rfl)) rfl rfl ?_
    simp only [Try.results10, go_sem, Nat.reduceMul, Nat.reduceLeDiff, Nat.reduceLT, reduceIte, reduceCtorEq, Nat.reduceEqDiff, Nat.reduceSub, Nat.reduceAdd]
    exact RetC.conv (Conv.nilIn (c := 108) (tt := 29) (l := [.v (.int .i64 0), .v nilV]) 1 120 (.row 2 []) rfl (by decide) (by decide) (by rfl) rfl) (RetC.of (RetT.one 120 (by simp only [Try.results10, go_sem, Nat.reduceMul, Nat.reduceLeDiff, Nat.reduceLT, reduceIte, reduceCtorEq, Nat.reduceEqDiff, Nat.reduceSub, Nat.reduceAdd]; rfl) (by simp only [Try.results10, go_sem, Nat.reduceMul, Nat.reduceLeDiff, Nat.reduceLT, reduceIte, reduceCtorEq, Nat.reduceEqDiff, Nat.reduceSub, Nat.reduceAdd] <;> simp [rstM, rstL, hc, I]) (by simp only [Try.results10, go_sem, Nat.reduceMul, Nat.reduceLeDiff, Nat.reduceLT, reduceIte, reduceCtorEq, Nat.reduceEqDiff, Nat.reduceSub, Nat.reduceAdd] <;> simp [rstM, rstL, hc, I])))
/-- The code ahead of the images; and behind the first images. -/
def cR0 (t u : List (List Int)) (p : List Int) (m : Int) (l : List Int) : Int := if codeM u [(m, l)] = 0 then (if (p.length : Int) = t.length then 0 else 2) else codeM u [(m, l)]
def cRi (c n : Int) (p : List Int) (i : Nat) : Int := if c = 0 ∧ ¬ (∀ j, j < i → 0 ≤ p.getD j 0 ∧ p.getD j 0 < n) then 2 else c
theorem cRi_zero {c n : Int} {p : List Int} {i : Nat} : cRi c n p i = 0 ↔ c = 0 ∧ ∀ j, j < i → 0 ≤ p.getD j 0 ∧ p.getD j 0 < n := by
  unfold cRi
  split
  · rename_i h; exact ⟨fun q => by omega, fun q => absurd q.2 h.2⟩
  · rename_i h
    refine ⟨fun q => ⟨q, ?_⟩, fun q => q.1⟩
    apply Classical.byContradiction
    exact fun r => h ⟨q, r⟩
theorem cRi_start {c n : Int} {p : List Int} : cRi c n p 0 = c := by unfold cRi; rw [if_neg]; exact fun q => q.2 fun j hj => by omega
theorem cRi_stop {c n : Int} {p : List Int} {i : Nat} (hi : i ≤ p.length) (h : ¬ cRi c n p i = 0) : cRi c n p i = cRi c n p p.length := by
  unfold cRi at h ⊢
  split at h
  · rename_i q
    rw [if_pos q, if_pos ⟨q.1, fun r => q.2 fun j hj => r j (by omega)⟩]
  · rename_i q
    rw [if_neg q, if_neg fun r => h r.1]
theorem cR0_ok {t u : List (List Int)} {p : List Int} {m : Int} {l : List Int} (h : cR0 t u p m l = 0) : Grp u ∧ Mod u m l ∧ p.length = t.length := by
  unfold cR0 at h
  split at h
  · rename_i q
    obtain ⟨h1, h2⟩ := codeM1_ok q
    split at h
    · exact ⟨h1, h2, by omega⟩
    · omega
  · rename_i q; exact absurd h q
theorem cR_end {t u : List (List Int)} {p : List Int} {m : Int} {l : List Int} (ht : Grp t) : codeRs t u p m l = if cRi (cR0 t u p m l) u.length p p.length = 0 then (if Hom t u p then 0 else 5) else cRi (cR0 t u p m l) u.length p p.length := by
  by_cases h : codeM u [(m, l)] = 0
  · obtain ⟨hu, hm⟩ := codeM1_ok h
    unfold codeRs
    rw [if_pos ⟨ht, hu, hm⟩]
    by_cases hl : (p.length : Int) = t.length
    · have e : cR0 t u p m l = 0 := by unfold cR0; rw [if_pos h, if_pos hl]
      by_cases hi : AreIn u.length p
      · rw [if_pos ⟨by omega, hi⟩, if_pos (cRi_zero.2 ⟨e, hi⟩)]
      · have e2 : cRi (cR0 t u p m l) u.length p p.length = 2 := by unfold cRi; rw [if_pos ⟨e, hi⟩]
        rw [if_neg (fun q => hi q.2), e2, if_neg (by decide)]
    · have e : cR0 t u p m l = 2 := by unfold cR0; rw [if_pos h, if_neg hl]
      have e2 : cRi (cR0 t u p m l) u.length p p.length = 2 := by unfold cRi; rw [e, if_neg (fun q => absurd q.1 (by decide))]
      rw [if_neg (fun q => hl (by omega)), e2, if_neg (by decide)]
  · have h1 := codeM_nz h
    have e : cR0 t u p m l = 1 := by unfold cR0; rw [if_neg h, h1]
    have e2 : cRi (cR0 t u p m l) u.length p p.length = 1 := by unfold cRi; rw [e, if_neg (fun q => absurd q.1 (by decide))]
    unfold codeRs
    have hn : ¬ (Grp t ∧ Grp u ∧ Mod u m l) := by
      rintro ⟨_, hu, hm⟩
      apply h
      unfold codeM
      rw [if_pos ⟨hu, Mods1.2 hm⟩]
    rw [e2, if_neg (show ¬ (1 : Int) = 0 by decide), if_neg hn]
theorem HereV.join {P : Program} {T : TT} {n : Nat} {c : Code} {s : St} {k : Kont} (L : List (Nat × LV)) (O : List (Nat × OC)) (hL : LeF s.lf L) (hO : LeO s.σ O) (h : HereV P T n c (mkS L O) k) : HereV P T n c s k := HereV.conv (Conv.le (Le.mk' hL hO)) h
theorem specRestrictModule (t u : List (List Int)) (p : List Int) (m : Int) (l : List Int) (hp : p.length ≤ 1048576) : Spec Try.prog 11 [.agg [.rds (II t)], .agg [.rds (II u)], .rd (I p), .agg [.v (.int .i64 m), .rd (I l)]] (.tup [.agg [.v (.int .i64 (rstM t u p m l)), .own 0], .v (.int .i64 (codeRs t u p m l))]) [.row 2 (I (rstL t u p m l))] := by
  refine Spec.of_codeC T_ok Try.func11 rfl Try.ntmps11 Try.call11 (Nat.le_of_ble_eq_true rfl) rfl rfl (CodeV_sound T_ok (by kernel_rfl) rfl ?_)
  simp only [Try.results11, go_sem, Nat.reduceMul, Nat.reduceLeDiff, Nat.reduceLT, reduceIte, reduceCtorEq, Nat.reduceEqDiff, Nat.reduceSub, Nat.reduceAdd]
  refine HereO.alloc T_ok 108 rfl rfl (by decide) ?_
  simp only [Try.results11, go_sem, Nat.reduceMul, Nat.reduceLeDiff, Nat.reduceLT, reduceIte, reduceCtorEq, Nat.reduceEqDiff, Nat.reduceSub, Nat.reduceAdd]
  refine HereO.call T_ok rfl rfl (l01Is_spec t) (by simp only [go_sem, Nat.reduceMul, Nat.reduceLeDiff, Nat.reduceLT, reduceIte, reduceCtorEq, Nat.reduceEqDiff, Nat.reduceSub, Nat.reduceAdd, List.toList_toArray] <;> first | rfl | exact ⟨rfl, rfl⟩) rfl ?_
  simp only [Try.results11, go_sem, Nat.reduceMul, Nat.reduceLeDiff, Nat.reduceLT, reduceIte, reduceCtorEq, Nat.reduceEqDiff, Nat.reduceSub, Nat.reduceAdd]
  refine ⟨fun ht => ?_, fun ht => ?_⟩
  · have hc : codeRs t u p m l = 1 := by unfold codeRs; rw [if_neg (fun q => ht q.1)]
    refine HereO.opP T_ok (OpP.build built_29 rfl rfl rfl rfl) ?_
    simp only [Try.results11, go_sem, Nat.reduceMul, Nat.reduceLeDiff, Nat.reduceLT, reduceIte, reduceCtorEq, Nat.reduceEqDiff, Nat.reduceSub, Nat.reduceAdd]
    refine HereO.storeAgg T_ok rfl (by simp only [go_sem, Nat.reduceMul, Nat.reduceLeDiff, Nat.reduceLT, reduceIte, reduceCtorEq, Nat.reduceEqDiff, Nat.reduceSub, Nat.reduceAdd] <;> rfl) (by simp only [go_sem, Nat.reduceMul, Nat.reduceLeDiff, Nat.reduceLT, reduceIte, reduceCtorEq, Nat.reduceEqDiff, Nat.reduceSub, Nat.reduceAdd] <;> rfl) rfl (by simp only [go_sem, Nat.reduceMul, Nat.reduceLeDiff, Nat.reduceLT, reduceIte, reduceCtorEq, Nat.reduceEqDiff, Nat.reduceSub, Nat.reduceAdd] <;> rfl) (by first | rfl | (simp only [go_sem, Nat.reduceMul, Nat.reduceLeDiff, Nat.reduceLT, reduceIte, reduceCtorEq, Nat.reduceEqDiff, Nat.reduceSub, Nat.reduceAdd] <;> rfl)) rfl rfl ?_
    simp only [Try.results11, go_sem, Nat.reduceMul, Nat.reduceLeDiff, Nat.reduceLT, reduceIte, reduceCtorEq, Nat.reduceEqDiff, Nat.reduceSub, Nat.reduceAdd]
    exact RetC.conv (Conv.nilIn (c := 108) (tt := 29) (l := [.v (.int .i64 0), .v nilV]) 1 120 (.row 2 []) rfl (by decide) (by decide) (by rfl) rfl) (RetC.of (RetT.one 120 (by simp only [Try.results11, go_sem, Nat.reduceMul, Nat.reduceLeDiff, Nat.reduceLT, reduceIte, reduceCtorEq, Nat.reduceEqDiff, Nat.reduceSub, Nat.reduceAdd]; rfl) (by simp only [Try.results11, go_sem, Nat.reduceMul, Nat.reduceLeDiff, Nat.reduceLT, reduceIte, reduceCtorEq, Nat.reduceEqDiff, Nat.reduceSub, Nat.reduceAdd] <;> simp [rstM, rstL, hc, I]) (by simp only [Try.results11, go_sem, Nat.reduceMul, Nat.reduceLeDiff, Nat.reduceLT, reduceIte, reduceCtorEq, Nat.reduceEqDiff, Nat.reduceSub, Nat.reduceAdd] <;> simp [rstM, rstL, hc, I])))
  · refine HereO.opP T_ok (OpP.buildA sl2_73 (MM [(m, l)]) rfl rfl (by decide) (by decide) rfl rfl) ?_
    simp only [Try.results11, go_sem, Nat.reduceMul, Nat.reduceLeDiff, Nat.reduceLT, reduceIte, reduceCtorEq, Nat.reduceEqDiff, Nat.reduceSub, Nat.reduceAdd]
    refine HereO.call T_ok rfl rfl (l02Code_spec u [(m, l)] (by simp)) (by simp only [go_sem, Nat.reduceMul, Nat.reduceLeDiff, Nat.reduceLT, reduceIte, reduceCtorEq, Nat.reduceEqDiff, Nat.reduceSub, Nat.reduceAdd, List.toList_toArray] <;> first | rfl | exact ⟨rfl, rfl⟩) rfl ?_
    simp only [Try.results11, go_sem, Nat.reduceMul, Nat.reduceLeDiff, Nat.reduceLT, reduceIte, reduceCtorEq, Nat.reduceEqDiff, Nat.reduceSub, Nat.reduceAdd]
    let L : List (Nat × LV) := [(2, .rd (I p)), (4, .box [.rds (II t)]), (5, .box [.rds (II u)]), (7, .box [.v (.int .i64 m), .rd (I l)]), (8, .ptr 108 0), (10, .v (.int .i64 (cR0 t u p m l))), (11, .v (.int .i64 0))]
    refine (fun main => ⟨fun h => ⟨fun h2 => HereV.join L [(108, .cells 29 [.v (.int .i64 0), .v nilV])] ?_ ?_ main, fun h2 => HereV.join L [(108, .cells 29 [.v (.int .i64 0), .v nilV])] ?_ ?_ main⟩, fun h => HereV.join L [(108, .cells 29 [.v (.int .i64 0), .v nilV])] ?_ ?_ main⟩) ?_
    · refine Here.loopV T_ok (fun i => i ≤ p.length) (fun i => p.length - i) (fun i => [(2, .rd (I p)), (4, .box [.rds (II t)]), (5, .box [.rds (II u)]), (7, .box [.v (.int .i64 m), .rd (I l)]), (8, .ptr 108 0), (10, .v (.int .i64 (cRi (cR0 t u p m l) u.length p i))), (11, .v (.int .i64 i))]) (fun _ => [(108, .cells 29 [.v (.int .i64 0), .v nilV])]) 0 (by simp) (by simp only [L]; simp only [Try.results11, go_sem, Nat.reduceMul, Nat.reduceLeDiff, Nat.reduceLT, reduceIte, reduceCtorEq, Nat.reduceEqDiff, Nat.reduceSub, Nat.reduceAdd]; simp [cRi_start]) (by simp only [Try.results11, go_sem, Nat.reduceMul, Nat.reduceLeDiff, Nat.reduceLT, reduceIte, reduceCtorEq, Nat.reduceEqDiff, Nat.reduceSub, Nat.reduceAdd]) ?_
      intro i hi
      simp only [Try.results11, go_sem, Nat.reduceMul, Nat.reduceLeDiff, Nat.reduceLT, reduceIte, reduceCtorEq, Nat.reduceEqDiff, Nat.reduceSub, Nat.reduceAdd]
      refine ⟨fun h2 => ⟨fun h3 => ?_, fun h3 => ⟨fun q => absurd q h3, fun _ => ⟨fun _ => ?_, fun q => absurd q h3⟩⟩⟩, fun h2 => ⟨fun h3 => ?_, fun h3 => ⟨fun _ => ?_, fun q => absurd q h3⟩⟩⟩
      · obtain ⟨hz, hall⟩ := cRi_zero.1 h3
        obtain ⟨hu, hm, hl⟩ := cR0_ok hz
        have h8 := hu.2.1
        refine Here.draw T_ok mixed_ok (by kernel_rfl) ?_
        simp only [Try.results11, go_sem, Nat.reduceMul, Nat.reduceLeDiff, Nat.reduceLT, reduceIte, reduceCtorEq, Nat.reduceEqDiff, Nat.reduceSub, Nat.reduceAdd]
        refine ⟨⟨by omega, by omega⟩, by unfold InR; omega, ?_⟩
        refine ⟨_, OpP.call' rfl rfl (l01In_spec (p.getD i 0) 0 ((u.length : Int) - 1)) (by simp only [go_sem, Nat.reduceMul, Nat.reduceLeDiff, Nat.reduceLT, reduceIte, reduceCtorEq, Nat.reduceEqDiff, Nat.reduceSub, Nat.reduceAdd, List.toList_toArray] <;> first | rfl | exact ⟨rfl, rfl⟩) rfl, ?_⟩
        simp only [Try.results11, go_sem, Nat.reduceMul, Nat.reduceLeDiff, Nat.reduceLT, reduceIte, reduceCtorEq, Nat.reduceEqDiff, Nat.reduceSub, Nat.reduceAdd]
        refine ⟨fun h4 => ⟨by unfold InR; omega, i + 1, by omega, by omega, ?_⟩, fun h4 => ⟨by unfold InR; omega, i + 1, by omega, by omega, ?_⟩⟩
        · have e : cRi (cR0 t u p m l) u.length p (i + 1) = 2 := by
            unfold cRi
            rw [if_pos ⟨hz, fun q => h4 (by have := q i (by omega); omega)⟩]
          simp [e]
        · have e : cRi (cR0 t u p m l) u.length p (i + 1) = 0 := cRi_zero.2 ⟨hz, fun j hj => by
            by_cases q : j = i
            · rw [q]; omega
            · exact hall j (by omega)⟩
          simp [e, h3]
      · have e := cRi_stop hi h3
        have hc : codeRs t u p m l = cRi (cR0 t u p m l) u.length p i := by rw [cR_end ht, ← e, if_neg h3]
        refine HereO.opP T_ok (OpP.build built_29 rfl rfl rfl rfl) ?_
        simp only [Try.results11, go_sem, Nat.reduceMul, Nat.reduceLeDiff, Nat.reduceLT, reduceIte, reduceCtorEq, Nat.reduceEqDiff, Nat.reduceSub, Nat.reduceAdd]
        refine HereO.storeAgg T_ok rfl (by simp only [go_sem, Nat.reduceMul, Nat.reduceLeDiff, Nat.reduceLT, reduceIte, reduceCtorEq, Nat.reduceEqDiff, Nat.reduceSub, Nat.reduceAdd] <;> rfl) (by simp only [go_sem, Nat.reduceMul, Nat.reduceLeDiff, Nat.reduceLT, reduceIte, reduceCtorEq, Nat.reduceEqDiff, Nat.reduceSub, Nat.reduceAdd] <;> rfl) rfl (by simp only [go_sem, Nat.reduceMul, Nat.reduceLeDiff, Nat.reduceLT, reduceIte, reduceCtorEq, Nat.reduceEqDiff, Nat.reduceSub, Nat.reduceAdd] <;> rfl) (by first | rfl | (simp only [go_sem, Nat.reduceMul, Nat.reduceLeDiff, Nat.reduceLT, reduceIte, reduceCtorEq, Nat.reduceEqDiff, Nat.reduceSub, Nat.reduceAdd] <;> rfl)) rfl rfl ?_
        simp only [Try.results11, go_sem, Nat.reduceMul, Nat.reduceLeDiff, Nat.reduceLT, reduceIte, reduceCtorEq, Nat.reduceEqDiff, Nat.reduceSub, Nat.reduceAdd]
        exact RetC.conv (Conv.nilIn (c := 108) (tt := 29) (l := [.v (.int .i64 0), .v nilV]) 1 120 (.row 2 []) rfl (by decide) (by decide) (by rfl) rfl) (RetC.of (RetT.one 120 (by simp only [Try.results11, go_sem, Nat.reduceMul, Nat.reduceLeDiff, Nat.reduceLT, reduceIte, reduceCtorEq, Nat.reduceEqDiff, Nat.reduceSub, Nat.reduceAdd]; rfl) (by simp only [Try.results11, go_sem, Nat.reduceMul, Nat.reduceLeDiff, Nat.reduceLT, reduceIte, reduceCtorEq, Nat.reduceEqDiff, Nat.reduceSub, Nat.reduceAdd] <;> simp [rstM, rstL, hc, h3, I]) (by simp only [Try.results11, go_sem, Nat.reduceMul, Nat.reduceLeDiff, Nat.reduceLT, reduceIte, reduceCtorEq, Nat.reduceEqDiff, Nat.reduceSub, Nat.reduceAdd] <;> simp [rstM, rstL, hc, h3, I])))
      · obtain ⟨hz, hall⟩ := cRi_zero.1 h3
        obtain ⟨hu, hm, hl⟩ := cR0_ok hz
        have hip : i = p.length := by omega
        subst hip
        have hce : codeRs t u p m l = if Hom t u p then 0 else 5 := by rw [cR_end ht, if_pos h3]
        refine HereO.call T_ok rfl rfl (l01Homomorphism_spec t u p ht hu hl hall) (by simp only [go_sem, Nat.reduceMul, Nat.reduceLeDiff, Nat.reduceLT, reduceIte, reduceCtorEq, Nat.reduceEqDiff, Nat.reduceSub, Nat.reduceAdd, List.toList_toArray] <;> first | rfl | exact ⟨rfl, rfl⟩) rfl ?_
        simp only [Try.results11, go_sem, Nat.reduceMul, Nat.reduceLeDiff, Nat.reduceLT, reduceIte, reduceCtorEq, Nat.reduceEqDiff, Nat.reduceSub, Nat.reduceAdd]
        refine ⟨fun h4 => ⟨fun _ => ?_, fun q => absurd q (by decide)⟩, fun h4 => ⟨fun q => absurd h3 q, fun _ => ?_⟩⟩
        · have hc : codeRs t u p m l = 5 := by rw [hce, if_neg h4]
          refine HereO.opP T_ok (OpP.build built_29 rfl rfl rfl rfl) ?_
          simp only [Try.results11, go_sem, Nat.reduceMul, Nat.reduceLeDiff, Nat.reduceLT, reduceIte, reduceCtorEq, Nat.reduceEqDiff, Nat.reduceSub, Nat.reduceAdd]
          refine HereO.storeAgg T_ok rfl (by simp only [go_sem, Nat.reduceMul, Nat.reduceLeDiff, Nat.reduceLT, reduceIte, reduceCtorEq, Nat.reduceEqDiff, Nat.reduceSub, Nat.reduceAdd] <;> rfl) (by simp only [go_sem, Nat.reduceMul, Nat.reduceLeDiff, Nat.reduceLT, reduceIte, reduceCtorEq, Nat.reduceEqDiff, Nat.reduceSub, Nat.reduceAdd] <;> rfl) rfl (by simp only [go_sem, Nat.reduceMul, Nat.reduceLeDiff, Nat.reduceLT, reduceIte, reduceCtorEq, Nat.reduceEqDiff, Nat.reduceSub, Nat.reduceAdd] <;> rfl) (by first | rfl | (simp only [go_sem, Nat.reduceMul, Nat.reduceLeDiff, Nat.reduceLT, reduceIte, reduceCtorEq, Nat.reduceEqDiff, Nat.reduceSub, Nat.reduceAdd] <;> rfl)) rfl rfl ?_
          simp only [Try.results11, go_sem, Nat.reduceMul, Nat.reduceLeDiff, Nat.reduceLT, reduceIte, reduceCtorEq, Nat.reduceEqDiff, Nat.reduceSub, Nat.reduceAdd]
          exact RetC.conv (Conv.nilIn (c := 108) (tt := 29) (l := [.v (.int .i64 0), .v nilV]) 1 120 (.row 2 []) rfl (by decide) (by decide) (by rfl) rfl) (RetC.of (RetT.one 120 (by simp only [Try.results11, go_sem, Nat.reduceMul, Nat.reduceLeDiff, Nat.reduceLT, reduceIte, reduceCtorEq, Nat.reduceEqDiff, Nat.reduceSub, Nat.reduceAdd]; rfl) (by simp only [Try.results11, go_sem, Nat.reduceMul, Nat.reduceLeDiff, Nat.reduceLT, reduceIte, reduceCtorEq, Nat.reduceEqDiff, Nat.reduceSub, Nat.reduceAdd] <;> simp [rstM, rstL, hc, I]) (by simp only [Try.results11, go_sem, Nat.reduceMul, Nat.reduceLeDiff, Nat.reduceLT, reduceIte, reduceCtorEq, Nat.reduceEqDiff, Nat.reduceSub, Nat.reduceAdd] <;> simp [rstM, rstL, hc, I])))
        · have hc : codeRs t u p m l = 0 := by rw [hce, if_pos h4]
          have h8 := ht.2.1
          have hml := hm.2.1
          refine HereO.buildRow T_ok 120 (I []) rfl rfl rfl (by decide) rfl (by first | rfl | (simp only [go_sem, Nat.reduceMul, Nat.reduceLeDiff, Nat.reduceLT, reduceIte, reduceCtorEq, Nat.reduceEqDiff, Nat.reduceSub, Nat.reduceAdd] <;> rfl)) rfl (by decide) ?_
          simp only [Try.results11, go_sem, Nat.reduceMul, Nat.reduceLeDiff, Nat.reduceLT, reduceIte, reduceCtorEq, Nat.reduceEqDiff, Nat.reduceSub, Nat.reduceAdd]
          refine HereO.opP T_ok (OpP.build built_29 rfl rfl rfl rfl) ?_
          simp only [Try.results11, go_sem, Nat.reduceMul, Nat.reduceLeDiff, Nat.reduceLT, reduceIte, reduceCtorEq, Nat.reduceEqDiff, Nat.reduceSub, Nat.reduceAdd]
          refine HereO.alloc T_ok 112 rfl rfl (by decide) ?_
          simp only [Try.results11, go_sem, Nat.reduceMul, Nat.reduceLeDiff, Nat.reduceLT, reduceIte, reduceCtorEq, Nat.reduceEqDiff, Nat.reduceSub, Nat.reduceAdd]
          refine HereO.storeAgg T_ok rfl (by simp only [go_sem, Nat.reduceMul, Nat.reduceLeDiff, Nat.reduceLT, reduceIte, reduceCtorEq, Nat.reduceEqDiff, Nat.reduceSub, Nat.reduceAdd] <;> rfl) (by simp only [go_sem, Nat.reduceMul, Nat.reduceLeDiff, Nat.reduceLT, reduceIte, reduceCtorEq, Nat.reduceEqDiff, Nat.reduceSub, Nat.reduceAdd] <;> rfl) rfl (by simp only [go_sem, Nat.reduceMul, Nat.reduceLeDiff, Nat.reduceLT, reduceIte, reduceCtorEq, Nat.reduceEqDiff, Nat.reduceSub, Nat.reduceAdd] <;> rfl) (by first | rfl | (simp only [go_sem, Nat.reduceMul, Nat.reduceLeDiff, Nat.reduceLT, reduceIte, reduceCtorEq, Nat.reduceEqDiff, Nat.reduceSub, Nat.reduceAdd] <;> rfl)) rfl rfl ?_
          simp only [Try.results11, go_sem, Nat.reduceMul, Nat.reduceLeDiff, Nat.reduceLT, reduceIte, reduceCtorEq, Nat.reduceEqDiff, Nat.reduceSub, Nat.reduceAdd]
          refine Here.loopV T_ok (fun i => i ≤ p.length) (fun i => p.length - i) (fun i => [(2, .rd (I p)), (7, .box [.v (.int .i64 m), .rd (I l)]), (8, .ptr 108 0), (12, .ptr 112 0), (13, .v (.int .i64 i))]) (fun i => [(108, .cells 29 [.v (.int .i64 0), .v nilV]), (112, .cells 29 [.v (.int .i64 m), .own 120]), (120, .row 2 (I (upTo (rstU l p) i)))]) 0 (by simp) (by simp only [Try.results11, go_sem, Nat.reduceMul, Nat.reduceLeDiff, Nat.reduceLT, reduceIte, reduceCtorEq, Nat.reduceEqDiff, Nat.reduceSub, Nat.reduceAdd]; simp) (by simp only [Try.results11, go_sem, Nat.reduceMul, Nat.reduceLeDiff, Nat.reduceLT, reduceIte, reduceCtorEq, Nat.reduceEqDiff, Nat.reduceSub, Nat.reduceAdd]; simp [upTo, I, nilV]) ?_
          intro i hi
          simp only [Try.results11, go_sem, Nat.reduceMul, Nat.reduceLeDiff, Nat.reduceLT, reduceIte, reduceCtorEq, Nat.reduceEqDiff, Nat.reduceSub, Nat.reduceAdd]
          refine ⟨fun h5 => ?_, fun h5 => ?_⟩
          · have hp := hall i (by omega)
            refine Here.drawS T_ok 11 (Nat.le_of_ble_eq_true rfl) mixed_ok (by kernel_rfl) (by kernel_rfl) ?_
            simp only [Try.results11, go_sem, Nat.reduceMul, Nat.reduceLeDiff, Nat.reduceLT, reduceIte, reduceCtorEq, Nat.reduceEqDiff, Nat.reduceSub, Nat.reduceAdd]
            refine ⟨⟨by omega, by omega⟩, ⟨by omega, by omega⟩, ?_⟩
            refine ⟨_, OpP.buildRd T_ok (I [rstU l p i]) rfl rfl rfl (by decide) rfl (by first | rfl | (simp only [go_sem, Nat.reduceMul, Nat.reduceLeDiff, Nat.reduceLT, reduceIte, reduceCtorEq, Nat.reduceEqDiff, Nat.reduceSub, Nat.reduceAdd] <;> rfl)) rfl, ?_⟩
            simp only [Try.results11, go_sem, Nat.reduceMul, Nat.reduceLeDiff, Nat.reduceLT, reduceIte, reduceCtorEq, Nat.reduceEqDiff, Nat.reduceSub, Nat.reduceAdd]
            refine HereO.append T_ok (I [rstU l p i]) rfl rfl (by decide) (by simp only [go_sem, Nat.reduceMul, Nat.reduceLeDiff, Nat.reduceLT, reduceIte, reduceCtorEq, Nat.reduceEqDiff, Nat.reduceSub, Nat.reduceAdd] <;> rfl) (by decide) (by simp only [go_sem, Nat.reduceMul, Nat.reduceLeDiff, Nat.reduceLT, reduceIte, reduceCtorEq, Nat.reduceEqDiff, Nat.reduceSub, Nat.reduceAdd] <;> rfl) (by simp only [go_sem, Nat.reduceMul, Nat.reduceLeDiff, Nat.reduceLT, reduceIte, reduceCtorEq, Nat.reduceEqDiff, Nat.reduceSub, Nat.reduceAdd] <;> rfl) (.rd _) (I_one _) (by first | (simp only [II_len]; omega) | simp only [I_len, II_len, upTo_len, tab_len, cnt_len, List.length_append, List.length_cons, List.length_nil, List.length_replicate]; omega) ?_
            simp only [Try.results11, go_sem, Nat.reduceMul, Nat.reduceLeDiff, Nat.reduceLT, reduceIte, reduceCtorEq, Nat.reduceEqDiff, Nat.reduceSub, Nat.reduceAdd]
            refine HereO.store T_ok rfl (by simp only [go_sem, Nat.reduceMul, Nat.reduceLeDiff, Nat.reduceLT, reduceIte, reduceCtorEq, Nat.reduceEqDiff, Nat.reduceSub, Nat.reduceAdd] <;> rfl) (by simp only [go_sem, Nat.reduceMul, Nat.reduceLeDiff, Nat.reduceLT, reduceIte, reduceCtorEq, Nat.reduceEqDiff, Nat.reduceSub, Nat.reduceAdd] <;> rfl) rfl (by simp only [go_sem, Nat.reduceMul, Nat.reduceLeDiff, Nat.reduceLT, reduceIte, reduceCtorEq, Nat.reduceEqDiff, Nat.reduceSub, Nat.reduceAdd] <;> rfl) rfl (by first | rfl | (simp only [go_sem, Nat.reduceMul, Nat.reduceLeDiff, Nat.reduceLT, reduceIte, reduceCtorEq, Nat.reduceEqDiff, Nat.reduceSub, Nat.reduceAdd] <;> rfl)) (Nat.le_of_ble_eq_true rfl) ?_
            simp only [Try.results11, go_sem, Nat.reduceMul, Nat.reduceLeDiff, Nat.reduceLT, reduceIte, reduceCtorEq, Nat.reduceEqDiff, Nat.reduceSub, Nat.reduceAdd]
            exact ⟨by unfold InR; omega, i + 1, by omega, by omega, by simp, by simp [I_append, upTo_succ]⟩
          · have : i = t.length := by omega
            subst this
            refine HereO.storeAgg T_ok rfl (by simp only [go_sem, Nat.reduceMul, Nat.reduceLeDiff, Nat.reduceLT, reduceIte, reduceCtorEq, Nat.reduceEqDiff, Nat.reduceSub, Nat.reduceAdd] <;> rfl) (by simp only [go_sem, Nat.reduceMul, Nat.reduceLeDiff, Nat.reduceLT, reduceIte, reduceCtorEq, Nat.reduceEqDiff, Nat.reduceSub, Nat.reduceAdd] <;> rfl) rfl (by simp only [go_sem, Nat.reduceMul, Nat.reduceLeDiff, Nat.reduceLT, reduceIte, reduceCtorEq, Nat.reduceEqDiff, Nat.reduceSub, Nat.reduceAdd] <;> rfl) (by first | rfl | (simp only [go_sem, Nat.reduceMul, Nat.reduceLeDiff, Nat.reduceLT, reduceIte, reduceCtorEq, Nat.reduceEqDiff, Nat.reduceSub, Nat.reduceAdd] <;> rfl)) rfl rfl ?_
            simp only [Try.results11, go_sem, Nat.reduceMul, Nat.reduceLeDiff, Nat.reduceLT, reduceIte, reduceCtorEq, Nat.reduceEqDiff, Nat.reduceSub, Nat.reduceAdd]
            exact RetC.of (RetT.one 120 (by simp only [Try.results11, go_sem, Nat.reduceMul, Nat.reduceLeDiff, Nat.reduceLT, reduceIte, reduceCtorEq, Nat.reduceEqDiff, Nat.reduceSub, Nat.reduceAdd]; rfl) (by simp only [Try.results11, go_sem, Nat.reduceMul, Nat.reduceLeDiff, Nat.reduceLT, reduceIte, reduceCtorEq, Nat.reduceEqDiff, Nat.reduceSub, Nat.reduceAdd] <;> simp [rstM, rstL, hc]) (by simp only [Try.results11, go_sem, Nat.reduceMul, Nat.reduceLeDiff, Nat.reduceLT, reduceIte, reduceCtorEq, Nat.reduceEqDiff, Nat.reduceSub, Nat.reduceAdd] <;> simp [rstM, rstL, hc]))
      · have e := cRi_stop hi h3
        have hc : codeRs t u p m l = cRi (cR0 t u p m l) u.length p i := by rw [cR_end ht, ← e, if_neg h3]
        refine HereO.opP T_ok (OpP.build built_29 rfl rfl rfl rfl) ?_
        simp only [Try.results11, go_sem, Nat.reduceMul, Nat.reduceLeDiff, Nat.reduceLT, reduceIte, reduceCtorEq, Nat.reduceEqDiff, Nat.reduceSub, Nat.reduceAdd]
        refine HereO.storeAgg T_ok rfl (by simp only [go_sem, Nat.reduceMul, Nat.reduceLeDiff, Nat.reduceLT, reduceIte, reduceCtorEq, Nat.reduceEqDiff, Nat.reduceSub, Nat.reduceAdd] <;> rfl) (by simp only [go_sem, Nat.reduceMul, Nat.reduceLeDiff, Nat.reduceLT, reduceIte, reduceCtorEq, Nat.reduceEqDiff, Nat.reduceSub, Nat.reduceAdd] <;> rfl) rfl (by simp only [go_sem, Nat.reduceMul, Nat.reduceLeDiff, Nat.reduceLT, reduceIte, reduceCtorEq, Nat.reduceEqDiff, Nat.reduceSub, Nat.reduceAdd] <;> rfl) (by first | rfl | (simp only [go_sem, Nat.reduceMul, Nat.reduceLeDiff, Nat.reduceLT, reduceIte, reduceCtorEq, Nat.reduceEqDiff, Nat.reduceSub, Nat.reduceAdd] <;> rfl)) rfl rfl ?_
        simp only [Try.results11, go_sem, Nat.reduceMul, Nat.reduceLeDiff, Nat.reduceLT, reduceIte, reduceCtorEq, Nat.reduceEqDiff, Nat.reduceSub, Nat.reduceAdd]
        exact RetC.conv (Conv.nilIn (c := 108) (tt := 29) (l := [.v (.int .i64 0), .v nilV]) 1 120 (.row 2 []) rfl (by decide) (by decide) (by rfl) rfl) (RetC.of (RetT.one 120 (by simp only [Try.results11, go_sem, Nat.reduceMul, Nat.reduceLeDiff, Nat.reduceLT, reduceIte, reduceCtorEq, Nat.reduceEqDiff, Nat.reduceSub, Nat.reduceAdd]; rfl) (by simp only [Try.results11, go_sem, Nat.reduceMul, Nat.reduceLeDiff, Nat.reduceLT, reduceIte, reduceCtorEq, Nat.reduceEqDiff, Nat.reduceSub, Nat.reduceAdd] <;> simp [rstM, rstL, hc, h3, I]) (by simp only [Try.results11, go_sem, Nat.reduceMul, Nat.reduceLeDiff, Nat.reduceLT, reduceIte, reduceCtorEq, Nat.reduceEqDiff, Nat.reduceSub, Nat.reduceAdd] <;> simp [rstM, rstL, hc, h3, I])))
    · simp only [L]; simp only [Try.results11, go_sem, Nat.reduceMul, Nat.reduceLeDiff, Nat.reduceLT, reduceIte, reduceCtorEq, Nat.reduceEqDiff, Nat.reduceSub, Nat.reduceAdd]; simp [cR0, h, h2]
    · simp only [Try.results11, go_sem, Nat.reduceMul, Nat.reduceLeDiff, Nat.reduceLT, reduceIte, reduceCtorEq, Nat.reduceEqDiff, Nat.reduceSub, Nat.reduceAdd]
      trivial
    · simp only [L]; simp only [Try.results11, go_sem, Nat.reduceMul, Nat.reduceLeDiff, Nat.reduceLT, reduceIte, reduceCtorEq, Nat.reduceEqDiff, Nat.reduceSub, Nat.reduceAdd]; simp [cR0, h, h2]
    · simp only [Try.results11, go_sem, Nat.reduceMul, Nat.reduceLeDiff, Nat.reduceLT, reduceIte, reduceCtorEq, Nat.reduceEqDiff, Nat.reduceSub, Nat.reduceAdd]
      trivial
    · simp only [L]; simp only [Try.results11, go_sem, Nat.reduceMul, Nat.reduceLeDiff, Nat.reduceLT, reduceIte, reduceCtorEq, Nat.reduceEqDiff, Nat.reduceSub, Nat.reduceAdd]; simp [cR0, h]
    · simp only [Try.results11, go_sem, Nat.reduceMul, Nat.reduceLeDiff, Nat.reduceLT, reduceIte, reduceCtorEq, Nat.reduceEqDiff, Nat.reduceSub, Nat.reduceAdd]
      trivial
end Go.Proofs.Ytcjhojdlfnpgjaa
