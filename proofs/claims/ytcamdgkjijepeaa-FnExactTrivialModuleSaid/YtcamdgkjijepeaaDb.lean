/- Contracts: NormOf by the specification, KernelOf. -/
import Derived.Test.YtcamdgkjijepeaaDa
namespace Go.Proofs.Ytcamdgkjijepeaa
open Go.RowKit
set_option linter.unusedVariables false
set_option linter.unusedSimpArgs false
set_option maxRecDepth 100000

theorem tmod_nn {a m : Int} (h : 0 ≤ a) : a.tmod m = a % m := Int.tmod_eq_emod_of_nonneg h
theorem norm_step {a u m : Int} (ha : 0 ≤ a) (hu : 0 ≤ u) (hm : 0 < m) : (a.tmod m + u).tmod m = (a + u).tmod m := by
  rw [tmod_nn ha, tmod_nn (by have := Int.emod_nonneg a (show m ≠ 0 by omega); omega), tmod_nn (by omega), Int.emod_add_emod]
theorem specNormOf (t : List (List Int)) (m : Int) (l : List Int) : Spec Try.prog 30 [.agg [.rds (II t)], .agg [.v (.int .i64 m), .rd (I l)]] (.tup [.v (.int .i64 (normV t m l)), .v (.int .i64 (codeM t [(m, l)]))]) [] := by
  refine Spec.of_code T_ok Try.func30 rfl Try.ntmps30 Try.call30 (Nat.le_of_ble_eq_true rfl) rfl rfl (CodeV_sound T_ok (by kernel_rfl) rfl ?_)
  simp only [Try.results30, go_sem, Nat.reduceMul, Nat.reduceLeDiff, Nat.reduceLT, reduceIte, reduceCtorEq, Nat.reduceEqDiff, Nat.reduceSub, Nat.reduceAdd]
  refine HereO.opP T_ok (OpP.buildA sl2_94 (MM [(m, l)]) rfl rfl (by decide) (by decide) rfl rfl) ?_
  simp only [Try.results30, go_sem, Nat.reduceMul, Nat.reduceLeDiff, Nat.reduceLT, reduceIte, reduceCtorEq, Nat.reduceEqDiff, Nat.reduceSub, Nat.reduceAdd]
  refine HereO.call T_ok rfl rfl (l02Code_spec t [(m, l)] (by simp)) (by simp only [go_sem, Nat.reduceMul, Nat.reduceLeDiff, Nat.reduceLT, reduceIte, reduceCtorEq, Nat.reduceEqDiff, Nat.reduceSub, Nat.reduceAdd, List.toList_toArray]) rfl ?_
  simp only [Try.results30, go_sem, Nat.reduceMul, Nat.reduceLeDiff, Nat.reduceLT, reduceIte, reduceCtorEq, Nat.reduceEqDiff, Nat.reduceSub, Nat.reduceAdd]
  refine ⟨fun h => by unfold normV; rw [if_neg h], fun h => ?_⟩
  obtain ⟨hg, hm⟩ := codeM1_ok h
  have h8 := hg.2.1
  have hl := hm.2.1
  have hm2 := hm.1
  refine Here.loopV T_ok (fun k => k ≤ l.length) (fun k => l.length - k) (fun k => [(3, .box [.v (.int .i64 m), .rd (I l)]), (7, .v (.int .i64 ((normL (l.take k)).tmod m))), (8, .v (.int .i64 k))]) (fun _ => []) 0 (by simp) (by simp only [Try.results30, go_sem, Nat.reduceMul, Nat.reduceLeDiff, Nat.reduceLT, reduceIte, reduceCtorEq, Nat.reduceEqDiff, Nat.reduceSub, Nat.reduceAdd]; simp [normL]) trivial ?_
  intro k hk
  simp only [Try.results30, go_sem, Nat.reduceMul, Nat.reduceLeDiff, Nat.reduceLT, reduceIte, reduceCtorEq, Nat.reduceEqDiff, Nat.reduceSub, Nat.reduceAdd]
  have hb := norm_bound hm.1.2 hm.2.2.1 k hk
  refine ⟨fun h2 => ?_, fun h2 => ?_⟩
  · refine Here.draw T_ok mixed_ok (by kernel_rfl) ?_
    simp only [Try.results30, go_sem, Nat.reduceMul, Nat.reduceLeDiff, Nat.reduceLT, reduceIte, reduceCtorEq, Nat.reduceEqDiff, Nat.reduceSub, Nat.reduceAdd]
    obtain ⟨u1, u2, _⟩ := hm.2.2.1 k (by omega)
    have hlt : (normL (l.take k)).tmod m < m := by rw [tmod_nn hb.1]; exact Int.emod_lt_of_pos _ (by omega)
    have hge : 0 ≤ (normL (l.take k)).tmod m := by rw [tmod_nn hb.1]; exact Int.emod_nonneg _ (by omega)
    refine ⟨by omega, by unfold InR; omega, by omega, by unfold InR; omega, k + 1, by omega, by omega, ?_, by simp⟩
    rw [normL_take (by omega), norm_step hb.1 (by omega) (by omega)]
  · have : k = l.length := by omega
    subst this
    rw [List.take_length]
    exact ⟨by unfold normV; rw [if_pos h], h.symm⟩

def isOne (l : List Int) (x : Int) : Bool := l.getD x.toNat 0 == 1
def kernL (t : List (List Int)) (m : Int) (l : List Int) : List Int := if codeM t [(m, l)] = 0 then (cnt t.length).filter (isOne l) else []
theorem kernL_ok (t : List (List Int)) (m : Int) (l : List Int) : (kernL t m l).length ≤ 1048576 := by
  unfold kernL
  split
  · rename_i h
    have h8 := (codeM1_ok h).1.2.1
    have := List.length_filter_le (isOne l) (cnt t.length)
    rw [cnt_len] at this
    omega
  · simp
theorem Kernel1_spec (m : Int) (l : List Int) (x : Nat) (hx : x < l.length) : Spec Try.prog 70 [.v (.int .i64 x), .box [.v (.int .i64 m), .rd (I l)]] (.v (.bool (isOne l x))) [] := by
  refine Spec.of_code T_ok Try.func70 rfl Try.ntmps70 Try.call70 (Nat.le_of_ble_eq_true rfl) rfl rfl (CodeV_sound T_ok (by kernel_rfl) rfl ?_)
  simp only [Try.results70, go_sem, Nat.reduceMul, Nat.reduceLeDiff, Nat.reduceLT, reduceIte, reduceCtorEq, Nat.reduceEqDiff, Nat.reduceSub, Nat.reduceAdd]
  exact ⟨by omega, by simp [isOne]⟩
theorem implKernelOf (t : List (List Int)) (m : Int) (l : List Int) : Spec Try.prog 33 [.agg [.rds (II t)], .agg [.v (.int .i64 m), .rd (I l)]] (.tup [.own 0, .v (.int .i64 (codeM t [(m, l)]))]) [.row 2 (I (kernL t m l))] := by
  refine Spec.of_codeC T_ok Try.func33 rfl Try.ntmps33 Try.call33 (Nat.le_of_ble_eq_true rfl) rfl rfl (CodeV_sound T_ok (by kernel_rfl) rfl ?_)
  simp only [Try.results33, go_sem, Nat.reduceMul, Nat.reduceLeDiff, Nat.reduceLT, reduceIte, reduceCtorEq, Nat.reduceEqDiff, Nat.reduceSub, Nat.reduceAdd]
  refine HereO.opP T_ok (OpP.buildA sl2_94 (MM [(m, l)]) rfl rfl (by decide) (by decide) rfl rfl) ?_
  simp only [Try.results33, go_sem, Nat.reduceMul, Nat.reduceLeDiff, Nat.reduceLT, reduceIte, reduceCtorEq, Nat.reduceEqDiff, Nat.reduceSub, Nat.reduceAdd]
  refine HereO.call T_ok rfl rfl (moduleCode_spec t [(m, l)] (by simp) (by simp)) (by simp only [go_sem, Nat.reduceMul, Nat.reduceLeDiff, Nat.reduceLT, reduceIte, reduceCtorEq, Nat.reduceEqDiff, Nat.reduceSub, Nat.reduceAdd, List.toList_toArray]) rfl ?_
  simp only [Try.results33, go_sem, Nat.reduceMul, Nat.reduceLeDiff, Nat.reduceLT, reduceIte, reduceCtorEq, Nat.reduceEqDiff, Nat.reduceSub, Nat.reduceAdd]
  refine ⟨fun h => ?_, fun h => ?_⟩
  · refine RetC.conv (Conv.nilAt 4 150 (.row 2 []) (by decide) rfl) (RetC.of (RetT.one 150 (by simp only [Try.results33, go_sem, Nat.reduceMul, Nat.reduceLeDiff, Nat.reduceLT, reduceIte, reduceCtorEq, Nat.reduceEqDiff, Nat.reduceSub, Nat.reduceAdd]; rfl) (by simp only [Try.results33, go_sem, Nat.reduceMul, Nat.reduceLeDiff, Nat.reduceLT, reduceIte, reduceCtorEq, Nat.reduceEqDiff, Nat.reduceSub, Nat.reduceAdd]) (by simp only [Try.results33, go_sem, Nat.reduceMul, Nat.reduceLeDiff, Nat.reduceLT, reduceIte, reduceCtorEq, Nat.reduceEqDiff, Nat.reduceSub, Nat.reduceAdd]; simp [kernL, h, I])))
  · obtain ⟨hg, hm⟩ := codeM1_ok h
    have h8 := hg.2.1
    have hl := hm.2.1
    refine HereO.callOwn T_ok 7 rfl rfl (those_spec t (by omega) 70 [.box [.v (.int .i64 m), .rd (I l)]] (Fix.box (Fix.cons (Fix.v _) (Fix.rd _))) (isOne l) (fun j hj => Kernel1_spec m l j (by omega))) (by simp only [go_sem, Nat.reduceMul, Nat.reduceLeDiff, Nat.reduceLT, reduceIte, reduceCtorEq, Nat.reduceEqDiff, Nat.reduceSub, Nat.reduceAdd, List.toList_toArray]) rfl (by simp) rfl ?_
    simp only [Try.results33, go_sem, Nat.reduceMul, Nat.reduceLeDiff, Nat.reduceLT, reduceIte, reduceCtorEq, Nat.reduceEqDiff, Nat.reduceSub, Nat.reduceAdd]
    refine RetC.of (RetT.one 1112 (by simp only [Try.results33, go_sem, Nat.reduceMul, Nat.reduceLeDiff, Nat.reduceLT, reduceIte, reduceCtorEq, Nat.reduceEqDiff, Nat.reduceSub, Nat.reduceAdd]; rfl) (by simp only [Try.results33, go_sem, Nat.reduceMul, Nat.reduceLeDiff, Nat.reduceLT, reduceIte, reduceCtorEq, Nat.reduceEqDiff, Nat.reduceSub, Nat.reduceAdd]; simp [h]) (by simp only [Try.results33, go_sem, Nat.reduceMul, Nat.reduceLeDiff, Nat.reduceLT, reduceIte, reduceCtorEq, Nat.reduceEqDiff, Nat.reduceSub, Nat.reduceAdd]; simp [kernL, h]))
theorem cnt_succ (k : Nat) : cnt (k + 1) = cnt k ++ [(k : Int)] := upTo_succ _ _
theorem filter_cnt (p : Int → Bool) (k : Nat) : (cnt (k + 1)).filter p = (cnt k).filter p ++ (if p k then [(k : Int)] else []) := by
  rw [cnt_succ, List.filter_append, List.filter_cons]
  split <;> rfl
theorem filter_cnt_le (p : Int → Bool) (k : Nat) : ((cnt k).filter p).length ≤ k := by
  have := List.length_filter_le p (cnt k)
  rwa [cnt_len] at this
theorem specKernelOf (t : List (List Int)) (m : Int) (l : List Int) : Spec Try.prog 32 [.agg [.rds (II t)], .agg [.v (.int .i64 m), .rd (I l)]] (.tup [.own 0, .v (.int .i64 (codeM t [(m, l)]))]) [.row 2 (I (kernL t m l))] := by
  refine Spec.of_codeC T_ok Try.func32 rfl Try.ntmps32 Try.call32 (Nat.le_of_ble_eq_true rfl) rfl rfl (CodeV_sound T_ok (by kernel_rfl) rfl ?_)
  simp only [Try.results32, go_sem, Nat.reduceMul, Nat.reduceLeDiff, Nat.reduceLT, reduceIte, reduceCtorEq, Nat.reduceEqDiff, Nat.reduceSub, Nat.reduceAdd]
  refine HereO.opP T_ok (OpP.buildA sl2_94 (MM [(m, l)]) rfl rfl (by decide) (by decide) rfl rfl) ?_
  simp only [Try.results32, go_sem, Nat.reduceMul, Nat.reduceLeDiff, Nat.reduceLT, reduceIte, reduceCtorEq, Nat.reduceEqDiff, Nat.reduceSub, Nat.reduceAdd]
  refine HereO.call T_ok rfl rfl (l02Code_spec t [(m, l)] (by simp)) (by simp only [go_sem, Nat.reduceMul, Nat.reduceLeDiff, Nat.reduceLT, reduceIte, reduceCtorEq, Nat.reduceEqDiff, Nat.reduceSub, Nat.reduceAdd, List.toList_toArray]) rfl ?_
  simp only [Try.results32, go_sem, Nat.reduceMul, Nat.reduceLeDiff, Nat.reduceLT, reduceIte, reduceCtorEq, Nat.reduceEqDiff, Nat.reduceSub, Nat.reduceAdd]
  refine ⟨fun h => ?_, fun h => ?_⟩
  · refine RetC.conv (Conv.nilAt 4 150 (.row 2 []) (by decide) rfl) (RetC.of (RetT.one 150 (by simp only [Try.results32, go_sem, Nat.reduceMul, Nat.reduceLeDiff, Nat.reduceLT, reduceIte, reduceCtorEq, Nat.reduceEqDiff, Nat.reduceSub, Nat.reduceAdd]; rfl) (by simp only [Try.results32, go_sem, Nat.reduceMul, Nat.reduceLeDiff, Nat.reduceLT, reduceIte, reduceCtorEq, Nat.reduceEqDiff, Nat.reduceSub, Nat.reduceAdd]) (by simp only [Try.results32, go_sem, Nat.reduceMul, Nat.reduceLeDiff, Nat.reduceLT, reduceIte, reduceCtorEq, Nat.reduceEqDiff, Nat.reduceSub, Nat.reduceAdd]; simp [kernL, h, I])))
  · obtain ⟨hg, hm⟩ := codeM1_ok h
    have h8 := hg.2.1
    have hl := hm.2.1
    refine HereO.buildRow T_ok 116 (I []) rfl rfl rfl (by decide) rfl (by simp only [go_sem, Nat.reduceMul, Nat.reduceLeDiff, Nat.reduceLT, reduceIte, reduceCtorEq, Nat.reduceEqDiff, Nat.reduceSub, Nat.reduceAdd] <;> rfl) rfl (by decide) ?_
    simp only [Try.results32, go_sem, Nat.reduceMul, Nat.reduceLeDiff, Nat.reduceLT, reduceIte, reduceCtorEq, Nat.reduceEqDiff, Nat.reduceSub, Nat.reduceAdd]
    refine Here.loopV T_ok (fun k => k ≤ l.length) (fun k => l.length - k) (fun k => [(3, .box [.v (.int .i64 m), .rd (I l)]), (7, .own 116), (8, .v (.int .i64 k))]) (fun k => [(116, .row 2 (I ((cnt k).filter (isOne l))))]) 0 (by simp) (by simp only [Try.results32, go_sem, Nat.reduceMul, Nat.reduceLeDiff, Nat.reduceLT, reduceIte, reduceCtorEq, Nat.reduceEqDiff, Nat.reduceSub, Nat.reduceAdd]; rfl) (by simp only [Try.results32, go_sem, Nat.reduceMul, Nat.reduceLeDiff, Nat.reduceLT, reduceIte, reduceCtorEq, Nat.reduceEqDiff, Nat.reduceSub, Nat.reduceAdd]; rfl) ?_
    intro k hk
    simp only [Try.results32, go_sem, Nat.reduceMul, Nat.reduceLeDiff, Nat.reduceLT, reduceIte, reduceCtorEq, Nat.reduceEqDiff, Nat.reduceSub, Nat.reduceAdd]
    have hfc := filter_cnt (isOne l) k
    have hfl := filter_cnt_le (isOne l) k
    refine ⟨fun h2 => ⟨by omega, fun h3 => ?_, fun h3 => ?_⟩, fun h2 => ?_⟩
    · have h4 : isOne l k = true := by simpa [isOne] using h3
      refine HereO.buildRow T_ok 132 (I [(k : Int)]) rfl rfl rfl (by decide) rfl (by simp only [go_sem, Nat.reduceMul, Nat.reduceLeDiff, Nat.reduceLT, reduceIte, reduceCtorEq, Nat.reduceEqDiff, Nat.reduceSub, Nat.reduceAdd] <;> rfl) rfl (by decide) ?_
      simp only [Try.results32, go_sem, Nat.reduceMul, Nat.reduceLeDiff, Nat.reduceLT, reduceIte, reduceCtorEq, Nat.reduceEqDiff, Nat.reduceSub, Nat.reduceAdd]
      refine HereO.append T_ok (I [(k : Int)]) rfl rfl (by decide) (by simp only [go_sem, Nat.reduceMul, Nat.reduceLeDiff, Nat.reduceLT, reduceIte, reduceCtorEq, Nat.reduceEqDiff, Nat.reduceSub, Nat.reduceAdd] <;> rfl) (by decide) (by simp only [go_sem, Nat.reduceMul, Nat.reduceLeDiff, Nat.reduceLT, reduceIte, reduceCtorEq, Nat.reduceEqDiff, Nat.reduceSub, Nat.reduceAdd] <;> rfl) (by simp only [go_sem, Nat.reduceMul, Nat.reduceLeDiff, Nat.reduceLT, reduceIte, reduceCtorEq, Nat.reduceEqDiff, Nat.reduceSub, Nat.reduceAdd] <;> rfl) (.own 132 _ _ (by decide) (by simp only [go_sem, Nat.reduceMul, Nat.reduceLeDiff, Nat.reduceLT, reduceIte, reduceCtorEq, Nat.reduceEqDiff, Nat.reduceSub, Nat.reduceAdd] <;> rfl)) (I_one _) (by rw [I_len, I_len]; simp; omega) ?_
      simp only [Try.results32, go_sem, Nat.reduceMul, Nat.reduceLeDiff, Nat.reduceLT, reduceIte, reduceCtorEq, Nat.reduceEqDiff, Nat.reduceSub, Nat.reduceAdd]
      exact ⟨by unfold InR; omega, k + 1, by omega, by omega, by simp, by rw [I_append, hfc, h4]; simp⟩
    · have h4 : isOne l k = false := by simpa [isOne] using h3
      exact ⟨by unfold InR; omega, k + 1, by omega, by omega, by simp, by rw [hfc, h4]; simp⟩
    · have : k = t.length := by omega
      subst this
      refine RetC.of (RetT.one 116 (by simp only [Try.results32, go_sem, Nat.reduceMul, Nat.reduceLeDiff, Nat.reduceLT, reduceIte, reduceCtorEq, Nat.reduceEqDiff, Nat.reduceSub, Nat.reduceAdd]; rfl) (by simp only [Try.results32, go_sem, Nat.reduceMul, Nat.reduceLeDiff, Nat.reduceLT, reduceIte, reduceCtorEq, Nat.reduceEqDiff, Nat.reduceSub, Nat.reduceAdd]; simp [h]) (by simp only [Try.results32, go_sem, Nat.reduceMul, Nat.reduceLeDiff, Nat.reduceLT, reduceIte, reduceCtorEq, Nat.reduceEqDiff, Nat.reduceSub, Nat.reduceAdd]; simp [kernL, h]))
end Go.Proofs.Ytcamdgkjijepeaa
