/- FnExactLeadNumber returns true: the walk of the law. -/
import Derived.Test.YtcamdgkjijepeaaDa
import Derived.Test.YtcamdgkjijepeaaVo
namespace Go.Proofs.Ytcamdgkjijepeaa
open Go.RowKit Go.ChangeShapes Go.WideShapes Go.ChangeAt
set_option linter.unusedVariables false
set_option linter.unusedSimpArgs false
set_option maxRecDepth 100000

theorem lawLeadNumber (ta : List (List Int)) (hsa : Shorts ta) (mb : Int) (lb : List Int) (hmb : InR mb) (hsb : Short lb) (nc : Int) (hnc : InR nc) (nd : Int) (hnd : InR nd) : Spec Try.prog 7 [.agg [.rds (II ta)], .agg [.v (.int .i64 mb), .rd (I lb)], .v (.int .i64 nc), .v (.int .i64 nd)] (.v (.bool true)) [] := by
  refine Spec.of_code T_ok Try.func7 rfl Try.ntmps7 Try.call7 (Nat.le_of_ble_eq_true rfl) rfl rfl (CodeV_sound T_ok (by kernel_rfl) rfl ?_)
  simp only [Try.results7, go_sem, Nat.reduceMul, Nat.reduceLeDiff, Nat.reduceLT, reduceIte, reduceCtorEq, Nat.reduceEqDiff, Nat.reduceSub, Nat.reduceAdd]
  refine HereO.call T_ok rfl rfl (szGroup_spec ta (1048576) (by omega) (by omega) hsa.1 hsa.2) (by simp only [go_sem, Nat.reduceMul, Nat.reduceLeDiff, Nat.reduceLT, reduceIte, reduceCtorEq, Nat.reduceEqDiff, Nat.reduceSub, Nat.reduceAdd, List.toList_toArray]) rfl ?_
  simp only [Try.results7, go_sem, Nat.reduceMul, Nat.reduceLeDiff, Nat.reduceLT, reduceIte, reduceCtorEq, Nat.reduceEqDiff, Nat.reduceSub, Nat.reduceAdd]
  refine ⟨fun _ => trivial, fun ha => ?_⟩
  obtain ⟨ha1, ha2⟩ := szSS_ok (t := ta) (left := 1048576) (by omega)
  have hla := szSS_left (t := ta) (left := 1048576) (by omega)
  have tga := toGroup_spec ta (by omega) fun a h => by have := ha2 a h; omega
  have ega := eqGroup_spec ta ta (by omega) fun a h => by have := ha2 a h; omega
  refine HereO.call T_ok rfl rfl (szModule_spec mb lb (szSS ta (1048576)) (by omega) (by omega) hsb) (by simp only [go_sem, Nat.reduceMul, Nat.reduceLeDiff, Nat.reduceLT, reduceIte, reduceCtorEq, Nat.reduceEqDiff, Nat.reduceSub, Nat.reduceAdd, List.toList_toArray]) rfl ?_
  simp only [Try.results7, go_sem, Nat.reduceMul, Nat.reduceLeDiff, Nat.reduceLT, reduceIte, reduceCtorEq, Nat.reduceEqDiff, Nat.reduceSub, Nat.reduceAdd]
  refine ⟨fun _ => trivial, fun hb => ?_⟩
  have hlb := szS_le lb (szSS ta (1048576))
  have tgb := toModule_spec mb lb (by omega)
  have egb := eqModule_spec mb lb mb lb (by omega)
  refine Here.draw T_ok mixed_ok (by kernel_rfl) ?_
  simp only [Try.results7, go_sem, Nat.reduceMul, Nat.reduceLeDiff, Nat.reduceLT, reduceIte, reduceCtorEq, Nat.reduceEqDiff, Nat.reduceSub, Nat.reduceAdd]
  refine ⟨_, OpP.call' rfl rfl (tga) (by simp only [go_sem, Nat.reduceMul, Nat.reduceLeDiff, Nat.reduceLT, reduceIte, reduceCtorEq, Nat.reduceEqDiff, Nat.reduceSub, Nat.reduceAdd, List.toList_toArray]) rfl, ?_⟩
  simp only [Try.results7, go_sem, Nat.reduceMul, Nat.reduceLeDiff, Nat.reduceLT, reduceIte, reduceCtorEq, Nat.reduceEqDiff, Nat.reduceSub, Nat.reduceAdd]
  refine ⟨_, OpP.call' rfl rfl (tgb) (by simp only [go_sem, Nat.reduceMul, Nat.reduceLeDiff, Nat.reduceLT, reduceIte, reduceCtorEq, Nat.reduceEqDiff, Nat.reduceSub, Nat.reduceAdd, List.toList_toArray]) rfl, ?_⟩
  simp only [Try.results7, go_sem, Nat.reduceMul, Nat.reduceLeDiff, Nat.reduceLT, reduceIte, reduceCtorEq, Nat.reduceEqDiff, Nat.reduceSub, Nat.reduceAdd]
  refine ⟨_, OpP.call' rfl rfl (specLeadNumber ta mb lb nc nd) (by simp only [go_sem, Nat.reduceMul, Nat.reduceLeDiff, Nat.reduceLT, reduceIte, reduceCtorEq, Nat.reduceEqDiff, Nat.reduceSub, Nat.reduceAdd, List.toList_toArray]) rfl, ?_⟩
  simp only [Try.results7, go_sem, Nat.reduceMul, Nat.reduceLeDiff, Nat.reduceLT, reduceIte, reduceCtorEq, Nat.reduceEqDiff, Nat.reduceSub, Nat.reduceAdd]
  refine HereO.call T_ok rfl rfl (tga) (by simp only [go_sem, Nat.reduceMul, Nat.reduceLeDiff, Nat.reduceLT, reduceIte, reduceCtorEq, Nat.reduceEqDiff, Nat.reduceSub, Nat.reduceAdd, List.toList_toArray]) rfl ?_
  simp only [Try.results7, go_sem, Nat.reduceMul, Nat.reduceLeDiff, Nat.reduceLT, reduceIte, reduceCtorEq, Nat.reduceEqDiff, Nat.reduceSub, Nat.reduceAdd]
  refine HereO.alloc T_ok 300 rfl rfl (by decide) ?_
  simp only [Try.results7, go_sem, Nat.reduceMul, Nat.reduceLeDiff, Nat.reduceLT, reduceIte, reduceCtorEq, Nat.reduceEqDiff, Nat.reduceSub, Nat.reduceAdd]
  refine HereO.storeAgg T_ok rfl (by simp only [go_sem, Nat.reduceMul, Nat.reduceLeDiff, Nat.reduceLT, reduceIte, reduceCtorEq, Nat.reduceEqDiff, Nat.reduceSub, Nat.reduceAdd] <;> rfl) (by simp only [go_sem, Nat.reduceMul, Nat.reduceLeDiff, Nat.reduceLT, reduceIte, reduceCtorEq, Nat.reduceEqDiff, Nat.reduceSub, Nat.reduceAdd] <;> rfl) rfl (by simp only [go_sem, Nat.reduceMul, Nat.reduceLeDiff, Nat.reduceLT, reduceIte, reduceCtorEq, Nat.reduceEqDiff, Nat.reduceSub, Nat.reduceAdd] <;> rfl) rfl rfl rfl ?_
  simp only [Try.results7, go_sem, Nat.reduceMul, Nat.reduceLeDiff, Nat.reduceLT, reduceIte, reduceCtorEq, Nat.reduceEqDiff, Nat.reduceSub, Nat.reduceAdd]
  refine HereO.call T_ok rfl rfl (tgb) (by simp only [go_sem, Nat.reduceMul, Nat.reduceLeDiff, Nat.reduceLT, reduceIte, reduceCtorEq, Nat.reduceEqDiff, Nat.reduceSub, Nat.reduceAdd, List.toList_toArray]) rfl ?_
  simp only [Try.results7, go_sem, Nat.reduceMul, Nat.reduceLeDiff, Nat.reduceLT, reduceIte, reduceCtorEq, Nat.reduceEqDiff, Nat.reduceSub, Nat.reduceAdd]
  refine HereO.alloc T_ok 301 rfl rfl (by decide) ?_
  simp only [Try.results7, go_sem, Nat.reduceMul, Nat.reduceLeDiff, Nat.reduceLT, reduceIte, reduceCtorEq, Nat.reduceEqDiff, Nat.reduceSub, Nat.reduceAdd]
  refine HereO.storeAgg T_ok rfl (by simp only [go_sem, Nat.reduceMul, Nat.reduceLeDiff, Nat.reduceLT, reduceIte, reduceCtorEq, Nat.reduceEqDiff, Nat.reduceSub, Nat.reduceAdd] <;> rfl) (by simp only [go_sem, Nat.reduceMul, Nat.reduceLeDiff, Nat.reduceLT, reduceIte, reduceCtorEq, Nat.reduceEqDiff, Nat.reduceSub, Nat.reduceAdd] <;> rfl) rfl (by simp only [go_sem, Nat.reduceMul, Nat.reduceLeDiff, Nat.reduceLT, reduceIte, reduceCtorEq, Nat.reduceEqDiff, Nat.reduceSub, Nat.reduceAdd] <;> rfl) rfl rfl rfl ?_
  simp only [Try.results7, go_sem, Nat.reduceMul, Nat.reduceLeDiff, Nat.reduceLT, reduceIte, reduceCtorEq, Nat.reduceEqDiff, Nat.reduceSub, Nat.reduceAdd]
  refine HereO.call T_ok rfl rfl (implLeadNumber ta mb lb nc nd) (by simp only [go_sem, Nat.reduceMul, Nat.reduceLeDiff, Nat.reduceLT, reduceIte, reduceCtorEq, Nat.reduceEqDiff, Nat.reduceSub, Nat.reduceAdd, List.toList_toArray]) rfl ?_
  simp only [Try.results7, go_sem, Nat.reduceMul, Nat.reduceLeDiff, Nat.reduceLT, reduceIte, reduceCtorEq, Nat.reduceEqDiff, Nat.reduceSub, Nat.reduceAdd]
  refine Here.draw T_ok mixed_ok (by kernel_rfl) ?_
  simp only [Try.results7, go_sem, Nat.reduceMul, Nat.reduceLeDiff, Nat.reduceLT, reduceIte, reduceCtorEq, Nat.reduceEqDiff, Nat.reduceSub, Nat.reduceAdd]
  refine ⟨_, OpP.call' rfl rfl tga (by simp only [go_sem, Nat.reduceMul, Nat.reduceLeDiff, Nat.reduceLT, reduceIte, reduceCtorEq, Nat.reduceEqDiff, Nat.reduceSub, Nat.reduceAdd, List.toList_toArray]) rfl, ?_⟩
  simp only [Try.results7, go_sem, Nat.reduceMul, Nat.reduceLeDiff, Nat.reduceLT, reduceIte, reduceCtorEq, Nat.reduceEqDiff, Nat.reduceSub, Nat.reduceAdd]
  refine ⟨_, OpP.call' rfl rfl ega (by simp only [go_sem, Nat.reduceMul, Nat.reduceLeDiff, Nat.reduceLT, reduceIte, reduceCtorEq, Nat.reduceEqDiff, Nat.reduceSub, Nat.reduceAdd, List.toList_toArray]) rfl, ?_⟩
  simp only [Try.results7, go_sem, Nat.reduceMul, Nat.reduceLeDiff, Nat.reduceLT, reduceIte, reduceCtorEq, Nat.reduceEqDiff, Nat.reduceSub, Nat.reduceAdd]
  refine Here.draw T_ok mixed_ok (by kernel_rfl) ?_
  simp only [Try.results7, go_sem, Nat.reduceMul, Nat.reduceLeDiff, Nat.reduceLT, reduceIte, reduceCtorEq, Nat.reduceEqDiff, Nat.reduceSub, Nat.reduceAdd]
  refine ⟨_, OpP.call' rfl rfl tgb (by simp only [go_sem, Nat.reduceMul, Nat.reduceLeDiff, Nat.reduceLT, reduceIte, reduceCtorEq, Nat.reduceEqDiff, Nat.reduceSub, Nat.reduceAdd, List.toList_toArray]) rfl, ?_⟩
  simp only [Try.results7, go_sem, Nat.reduceMul, Nat.reduceLeDiff, Nat.reduceLT, reduceIte, reduceCtorEq, Nat.reduceEqDiff, Nat.reduceSub, Nat.reduceAdd]
  refine ⟨_, OpP.call' rfl rfl egb (by simp only [go_sem, Nat.reduceMul, Nat.reduceLeDiff, Nat.reduceLT, reduceIte, reduceCtorEq, Nat.reduceEqDiff, Nat.reduceSub, Nat.reduceAdd, List.toList_toArray]) rfl, ?_⟩
  simp only [Try.results7, go_sem, Nat.reduceMul, Nat.reduceLeDiff, Nat.reduceLT, reduceIte, reduceCtorEq, Nat.reduceEqDiff, Nat.reduceSub, Nat.reduceAdd]
theorem liftedLeadNumber (os : Os) (started : os.Started) (H : Type) (enc : TypeId × Value → H) :
    ReturnsInHanded {} Try.checked os 7 .any (Rows.fnExactLeadNumberSpec.pre6 enc Try.prog Try.f7 Rows.fnExactLeadNumberRow.domain false) (Rows.fnExactLeadNumberSpec.post enc Try.prog Try.f7 false true false false) := by
  refine returnsInHanded_of_change_sized (C := Try.checked) own started (by kernel_rfl) Try.func7
    (ChangeSpec.witness6 (enc := enc) (C := Try.checked) false ⟨#[], #[.agg #[.slice none 0 0], .agg #[.int .i64 0, .slice none 0 0], .int .i64 0, .int .i64 0], []⟩ 8 (by kernel_rfl) (by kernel_rfl) (by kernel_rfl) (by kernel_rfl)) ?_
  intro W base args ds gs before hval hW _ _ _
  have hW0 := hW
  obtain ⟨p, q, hA, hV, rfl, _, _⟩ := hW
  rw [Try.params7] at hA
  obtain ⟨va, vb, vc, vd, da, db, dc, dd, pa, pb, pc, pd, rfl, rfl, rfl, hda, hdb, hdc, hdd⟩ := trodAll_four hA
  obtain ⟨rfl, _⟩ := trodVars_none hV
  obtain ⟨ta, hla, hsa⟩ := open_group (hval 0 24 va (by kernel_rfl) rfl) hda
  obtain ⟨mb, tb, hlb, hmb, hsb⟩ := open_module (hval 1 27 vb (by kernel_rfl) rfl) hdb
  obtain ⟨nc, rfl, hnc⟩ := open_num (hval 2 2 vc (by kernel_rfl) rfl) hdc
  obtain ⟨nd, rfl, hnd⟩ := open_num (hval 3 2 vd (by kernel_rfl) rfl) hdd
  refine (law_calls (W := W) (ys := [va, vb, (.int .i64 nc), (.int .i64 nd)]) (lawLeadNumber ta hsa mb tb hmb hsb nc hnc nd hnd) (by simp only [LRels]; exact ⟨_, _, rfl, hla, ⟨_, _, rfl, hlb, ⟨_, _, rfl, rfl, ⟨_, _, rfl, rfl, rfl⟩⟩⟩⟩)).mono ?_
  rintro e W' ⟨rfl, hb⟩
  exact ⟨_, rfl, law_post rfl (by kernel_rfl) (by rw [Try.params7]; decide +kernel) rfl hW0 hb⟩
theorem fnExactLeadNumber_holds : Rows.FnExactLeadNumberSaid :=
  OpenClaim.holds_of_wide 7 Try.f7 rfl rfl rfl rfl rfl rfl rfl ⟨rfl, rfl, rfl, rfl, rfl⟩ rfl rfl rfl rfl rfl (by kernel_rfl) Try.func7 (by kernel_rfl)
    (of_decide_eq_true (by kernel_rfl)) (by unfold Func.isWrapper; first | (rw [if_pos (by decide +kernel)]; kernel_rfl) | (rw [if_neg (by decide +kernel)]; exact ⟨rfl, rfl⟩))
    (fun os started H enc _ => liftedLeadNumber os started H enc)
#print axioms fnExactLeadNumber_holds
end Go.Proofs.Ytcamdgkjijepeaa
