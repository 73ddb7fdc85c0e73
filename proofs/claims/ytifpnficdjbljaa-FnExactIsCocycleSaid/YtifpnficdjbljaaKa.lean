/- Contracts: cochains. -/
import Derived.Test.YtifpnficdjbljaaDa
import Derived.Test.YtifpnficdjbljaaGb
import Derived.Test.YtifpnficdjbljaaVo
namespace Go.Proofs.Ytifpnficdjbljaa
open Go.RowKit
set_option linter.unusedVariables false
set_option linter.unusedSimpArgs false
set_option maxRecDepth 100000

/-- Other words for the same arguments. -/
theorem Spec.args {P : Program} {g : Nat} {a a' : List LV} {r : LV} {os : List OC} (h : Spec P g a r os) (hi : ∀ w ys, LRels noI noF w a' ys → LRels noI noF w a ys) : Spec P g a' r os := ⟨h.ent, fun w ys hy => h.run w ys (hi w ys hy)⟩
theorem nil_rdA {k : Nat} {w : World} {y : Value} (h : LRel noI noF w (.v (.slice none 0 0)) y) : LRel noI noF w (.rdA k []) y := by
  simp only [LRel] at h ⊢
  subst h
  exact ⟨none, 0, 0, [], rfl, by simp, Nat.le_refl _, by omega, fun q => by omega, by simp only [LRels]⟩
theorem codeM_nz' {t : List (List Int)} {ms : List (Int × List Int)} (h : ¬ codeM t ms = 0) : codeM t ms = 1 := by
  rcases codeM_vals t ms with q | q
  · exact absurd q h
  · exact q
def Coc (t : List (List Int)) (m d : Int) (v : List Int) : Prop := (0 ≤ d ∧ d ≤ 3) ∧ (v.length : Int) = ((t.length : Int) - 1) ^ d.toNat ∧ AreIn m v
instance (t : List (List Int)) (m d : Int) (v : List Int) : Decidable (Coc t m d v) := by unfold Coc; infer_instance
theorem pow_len {t : List (List Int)} (hg : Grp t) {d : Int} (hd : 0 ≤ d ∧ d ≤ 3) : -512 ≤ ((t.length : Int) - 1) ^ d.toNat ∧ ((t.length : Int) - 1) ^ d.toNat ≤ 512 := by
  have h1 := hg.1
  have h8 := hg.2.1
  exact pow_small (by omega) (by omega) _ (by omega)
theorem Coc.len {t : List (List Int)} {m d : Int} {v : List Int} (hg : Grp t) (h : Coc t m d v) : v.length ≤ 512 := by
  have := pow_len hg h.1
  have := h.2.1
  omega
theorem isCochain_spec (t : List (List Int)) (hg : Grp t) (m : Int) (l : List Int) (d : Int) (v : List Int) : Spec Try.prog 58 [.agg [.rds (II t)], .agg [.v (.int .i64 m), .rd (I l)], .agg [.v (.int .i64 d), .rd (I v)]] (.v (.bool (decide (Coc t m d v)))) [] := by
  refine Spec.of_code T_ok Try.func58 rfl Try.ntmps58 Try.call58 (Nat.le_of_ble_eq_true rfl) rfl rfl (CodeV_sound T_ok (by kernel_rfl) rfl ?_)
  simp only [Try.results58, go_sem, Nat.reduceMul, Nat.reduceLeDiff, Nat.reduceLT, reduceIte, reduceCtorEq, Nat.reduceEqDiff, Nat.reduceSub, Nat.reduceAdd]
  refine Here.draw T_ok mixed_ok (by kernel_rfl) ?_
  simp only [Try.results58, go_sem, Nat.reduceMul, Nat.reduceLeDiff, Nat.reduceLT, reduceIte, reduceCtorEq, Nat.reduceEqDiff, Nat.reduceSub, Nat.reduceAdd]
  refine ⟨_, OpP.call' rfl rfl (isDegree_spec d) (by simp only [go_sem, Nat.reduceMul, Nat.reduceLeDiff, Nat.reduceLT, reduceIte, reduceCtorEq, Nat.reduceEqDiff, Nat.reduceSub, Nat.reduceAdd, List.toList_toArray]) rfl, ?_⟩
  simp only [Try.results58, go_sem, Nat.reduceMul, Nat.reduceLeDiff, Nat.reduceLT, reduceIte, reduceCtorEq, Nat.reduceEqDiff, Nat.reduceSub, Nat.reduceAdd]
  refine ⟨fun hd => ?_, fun hd => ?_⟩
  · refine ⟨_, OpP.call' rfl rfl (cells_spec t d hg.1 hg.2.1 hd.1 hd.2) (by simp only [go_sem, Nat.reduceMul, Nat.reduceLeDiff, Nat.reduceLT, reduceIte, reduceCtorEq, Nat.reduceEqDiff, Nat.reduceSub, Nat.reduceAdd, List.toList_toArray]) rfl, ?_⟩
    simp only [Try.results58, go_sem, Nat.reduceMul, Nat.reduceLeDiff, Nat.reduceLT, reduceIte, reduceCtorEq, Nat.reduceEqDiff, Nat.reduceSub, Nat.reduceAdd]
    have hp := pow_len hg hd
    refine ⟨fun hl => ?_, fun hl => ?_⟩
    · refine ⟨_, OpP.call' rfl rfl (areIn_spec m v (by omega)) (by simp only [go_sem, Nat.reduceMul, Nat.reduceLeDiff, Nat.reduceLT, reduceIte, reduceCtorEq, Nat.reduceEqDiff, Nat.reduceSub, Nat.reduceAdd, List.toList_toArray]) rfl, ?_⟩
      simp only [Try.results58, go_sem, Nat.reduceMul, Nat.reduceLeDiff, Nat.reduceLT, reduceIte, reduceCtorEq, Nat.reduceEqDiff, Nat.reduceSub, Nat.reduceAdd]
      exact decide_eq_decide.2 ⟨fun h => ⟨hd, hl, h⟩, fun h => h.2.2⟩
    · exact (decide_eq_false fun q => hl q.2.1).symm
  · exact (decide_eq_false fun q => hd q.1).symm
theorem l03Is_spec (t : List (List Int)) (hg : Grp t) (m : Int) (l : List Int) (d : Int) (v : List Int) (hm : 2 ≤ m ∧ m ≤ 12) : Spec Try.prog 55 [.agg [.rds (II t)], .agg [.v (.int .i64 m), .rd (I l)], .agg [.v (.int .i64 d), .rd (I v)]] (.v (.bool (decide (Coc t m d v)))) [] := by
  refine Spec.of_code T_ok Try.func55 rfl Try.ntmps55 Try.call55 (Nat.le_of_ble_eq_true rfl) rfl rfl (CodeV_sound T_ok (by kernel_rfl) rfl ?_)
  simp only [Try.results55, go_sem, Nat.reduceMul, Nat.reduceLeDiff, Nat.reduceLT, reduceIte, reduceCtorEq, Nat.reduceEqDiff, Nat.reduceSub, Nat.reduceAdd]
  refine Here.draw T_ok mixed_ok (by kernel_rfl) ?_
  simp only [Try.results55, go_sem, Nat.reduceMul, Nat.reduceLeDiff, Nat.reduceLT, reduceIte, reduceCtorEq, Nat.reduceEqDiff, Nat.reduceSub, Nat.reduceAdd]
  refine ⟨_, OpP.call' rfl rfl (l01In_spec d 0 3) (by simp only [go_sem, Nat.reduceMul, Nat.reduceLeDiff, Nat.reduceLT, reduceIte, reduceCtorEq, Nat.reduceEqDiff, Nat.reduceSub, Nat.reduceAdd, List.toList_toArray]) rfl, ?_⟩
  simp only [Try.results55, go_sem, Nat.reduceMul, Nat.reduceLeDiff, Nat.reduceLT, reduceIte, reduceCtorEq, Nat.reduceEqDiff, Nat.reduceSub, Nat.reduceAdd]
  refine ⟨fun hd => ?_, fun hd => (decide_eq_false fun q => hd q.1).symm⟩
  refine ⟨_, OpP.call' rfl rfl (l03Cells_spec t d hg.1 hg.2.1 hd.1 hd.2) (by simp only [go_sem, Nat.reduceMul, Nat.reduceLeDiff, Nat.reduceLT, reduceIte, reduceCtorEq, Nat.reduceEqDiff, Nat.reduceSub, Nat.reduceAdd, List.toList_toArray]) rfl, ?_⟩
  simp only [Try.results55, go_sem, Nat.reduceMul, Nat.reduceLeDiff, Nat.reduceLT, reduceIte, reduceCtorEq, Nat.reduceEqDiff, Nat.reduceSub, Nat.reduceAdd]
  have hp := pow_len hg hd
  refine ⟨fun hl => (decide_eq_false fun q => hl q.2.1).symm, fun hl => ?_⟩
  refine Here.loopV T_ok (fun k => k ≤ v.length ∧ ∀ j, j < k → 0 ≤ v.getD j 0 ∧ v.getD j 0 < m) (fun k => v.length - k) (fun k => [(4, .box [.v (.int .i64 m), .rd (I l)]), (5, .box [.v (.int .i64 d), .rd (I v)]), (7, .v (.int .i64 k))]) (fun _ => []) 0 (by simp) (by simp only [Try.results55, go_sem, Nat.reduceMul, Nat.reduceLeDiff, Nat.reduceLT, reduceIte, reduceCtorEq, Nat.reduceEqDiff, Nat.reduceSub, Nat.reduceAdd]; simp) trivial ?_
  rintro k ⟨hk, hj⟩
  simp only [Try.results55, go_sem, Nat.reduceMul, Nat.reduceLeDiff, Nat.reduceLT, reduceIte, reduceCtorEq, Nat.reduceEqDiff, Nat.reduceSub, Nat.reduceAdd]
  refine ⟨fun h2 => ?_, fun h2 => (decide_eq_true ⟨hd, hl, fun j hj' => hj j (by omega)⟩).symm⟩
  refine Here.draw T_ok mixed_ok (by kernel_rfl) ?_
  simp only [Try.results55, go_sem, Nat.reduceMul, Nat.reduceLeDiff, Nat.reduceLT, reduceIte, reduceCtorEq, Nat.reduceEqDiff, Nat.reduceSub, Nat.reduceAdd]
  refine ⟨⟨by omega, by omega⟩, by unfold InR; omega, ?_⟩
  refine ⟨_, OpP.call' rfl rfl (l01In_spec (v.getD k 0) 0 (m - 1)) (by simp only [go_sem, Nat.reduceMul, Nat.reduceLeDiff, Nat.reduceLT, reduceIte, reduceCtorEq, Nat.reduceEqDiff, Nat.reduceSub, Nat.reduceAdd, List.toList_toArray]) rfl, ?_⟩
  simp only [Try.results55, go_sem, Nat.reduceMul, Nat.reduceLeDiff, Nat.reduceLT, reduceIte, reduceCtorEq, Nat.reduceEqDiff, Nat.reduceSub, Nat.reduceAdd]
  refine ⟨fun h3 => (decide_eq_false fun q => h3 (by have := q.2.2 k (by omega); omega)).symm, fun h3 => ⟨by unfold InR; omega, k + 1, ⟨by omega, fun j hj' => ?_⟩, by omega, rfl⟩⟩
  by_cases e : j = k
  · rw [e]; omega
  · exact hj j (by omega)
def Cocs (t : List (List Int)) (m : Int) (fs : List (Int × List Int)) : Prop := ∀ f ∈ fs, Coc t m f.1 f.2
instance (t : List (List Int)) (m : Int) (fs : List (Int × List Int)) : Decidable (Cocs t m fs) := by unfold Cocs; infer_instance
def codeC (t : List (List Int)) (m : Int) (l : List Int) (fs : List (Int × List Int)) : Int := if (Grp t ∧ Mod t m l) ∧ Cocs t m fs then 0 else 1
theorem codeC_ok {t : List (List Int)} {m : Int} {l : List Int} {fs : List (Int × List Int)} (h : codeC t m l fs = 0) : Grp t ∧ Mod t m l ∧ Cocs t m fs := by
  unfold codeC at h
  split at h
  · rename_i q; exact ⟨q.1.1, q.1.2, q.2⟩
  · omega
theorem codeC_nz {t : List (List Int)} {m : Int} {l : List Int} {fs : List (Int × List Int)} (h : ¬ codeC t m l fs = 0) : codeC t m l fs = 1 := by
  unfold codeC at h ⊢
  split at h
  · exact absurd rfl h
  · rename_i q; rw [if_neg q]
theorem Cocs1 {t : List (List Int)} {m d : Int} {v : List Int} : Cocs t m [(d, v)] ↔ Coc t m d v := by simp [Cocs]
theorem Cocs2 {t : List (List Int)} {m d e : Int} {v w : List Int} : Cocs t m [(d, v), (e, w)] ↔ Coc t m d v ∧ Coc t m e w := by simp [Cocs]
theorem cochainCode_spec (t : List (List Int)) (m : Int) (l : List Int) (fs : List (Int × List Int)) (hl : fs.length ≤ 1000) : Spec Try.prog 67 [.agg [.rds (II t)], .agg [.v (.int .i64 m), .rd (I l)], .rdA 2 (flat (MM fs))] (.v (.int .i64 (codeC t m l fs))) [] := by
  refine Spec.of_code T_ok Try.func67 rfl Try.ntmps67 Try.call67 (Nat.le_of_ble_eq_true rfl) rfl rfl (CodeV_sound T_ok (by kernel_rfl) rfl ?_)
  simp only [Try.results67, go_sem, Nat.reduceMul, Nat.reduceLeDiff, Nat.reduceLT, reduceIte, reduceCtorEq, Nat.reduceEqDiff, Nat.reduceSub, Nat.reduceAdd]
  refine HereO.opP T_ok (OpP.buildA sl2_98 (MM [(m, l)]) rfl rfl (by decide) (by decide) rfl rfl) ?_
  simp only [Try.results67, go_sem, Nat.reduceMul, Nat.reduceLeDiff, Nat.reduceLT, reduceIte, reduceCtorEq, Nat.reduceEqDiff, Nat.reduceSub, Nat.reduceAdd]
  refine HereO.call T_ok rfl rfl (areModules_spec t [(m, l)] (by simp) (by simp)) (by simp only [go_sem, Nat.reduceMul, Nat.reduceLeDiff, Nat.reduceLT, reduceIte, reduceCtorEq, Nat.reduceEqDiff, Nat.reduceSub, Nat.reduceAdd, List.toList_toArray]) rfl ?_
  simp only [Try.results67, go_sem, Nat.reduceMul, Nat.reduceLeDiff, Nat.reduceLT, reduceIte, reduceCtorEq, Nat.reduceEqDiff, Nat.reduceSub, Nat.reduceAdd]
  refine ⟨fun h => by unfold codeC; rw [if_neg fun q => h ⟨q.1.1, Mods1.2 q.1.2⟩], fun h => ?_⟩
  have hg := h.1
  have hm := Mods1.1 h.2
  refine HereO.opP T_ok (OpP.lenA (ls := MM fs) sl2_94 rfl rfl) ?_
  simp only [Try.results67, go_sem, Nat.reduceMul, Nat.reduceLeDiff, Nat.reduceLT, reduceIte, reduceCtorEq, Nat.reduceEqDiff, Nat.reduceSub, Nat.reduceAdd]
  rw [MM_len]
  refine Here.loopV T_ok (fun k => k ≤ fs.length ∧ ∀ j x, j < k → fs[j]? = some x → Coc t m x.1 x.2) (fun k => fs.length - k) (fun k => [(3, .box [.rds (II t)]), (4, .box [.v (.int .i64 m), .rd (I l)]), (14, .rdA 2 (flat (MM fs))), (15, .v (.int .i64 fs.length)), (16, .v (.int .i64 k))]) (fun _ => []) 0 (by simp) (by simp only [Try.results67, go_sem, Nat.reduceMul, Nat.reduceLeDiff, Nat.reduceLT, reduceIte, reduceCtorEq, Nat.reduceEqDiff, Nat.reduceSub, Nat.reduceAdd]; rfl) trivial ?_
  rintro k ⟨hk, hc⟩
  simp only [Try.results67, go_sem, Nat.reduceMul, Nat.reduceLeDiff, Nat.reduceLT, reduceIte, reduceCtorEq, Nat.reduceEqDiff, Nat.reduceSub, Nat.reduceAdd]
  refine ⟨fun h2 => ?_, fun h2 => ?_⟩
  · obtain ⟨x, hx⟩ : ∃ x, fs[k]? = some x := ⟨fs[k]'(by omega), List.getElem?_eq_getElem _⟩
    have hxm : x ∈ fs := List.mem_of_getElem? hx
    refine HereO.opP T_ok (OpP.indexA (ls := MM fs) (j := k) sl2_94 rfl rfl rfl (MM_get hx)) ?_
    simp only [Try.results67, go_sem, Nat.reduceMul, Nat.reduceLeDiff, Nat.reduceLT, reduceIte, reduceCtorEq, Nat.reduceEqDiff, Nat.reduceSub, Nat.reduceAdd]
    refine HereO.alloc T_ok 108 rfl rfl (by decide) ?_
    simp only [Try.results67, go_sem, Nat.reduceMul, Nat.reduceLeDiff, Nat.reduceLT, reduceIte, reduceCtorEq, Nat.reduceEqDiff, Nat.reduceSub, Nat.reduceAdd]
    refine HereO.storeAgg T_ok rfl (by simp only [go_sem, Nat.reduceMul, Nat.reduceLeDiff, Nat.reduceLT, reduceIte, reduceCtorEq, Nat.reduceEqDiff, Nat.reduceSub, Nat.reduceAdd] <;> rfl) (by simp only [go_sem, Nat.reduceMul, Nat.reduceLeDiff, Nat.reduceLT, reduceIte, reduceCtorEq, Nat.reduceEqDiff, Nat.reduceSub, Nat.reduceAdd] <;> rfl) rfl (by simp only [go_sem, Nat.reduceMul, Nat.reduceLeDiff, Nat.reduceLT, reduceIte, reduceCtorEq, Nat.reduceEqDiff, Nat.reduceSub, Nat.reduceAdd] <;> rfl) (by first | rfl | (simp only [go_sem, Nat.reduceMul, Nat.reduceLeDiff, Nat.reduceLT, reduceIte, reduceCtorEq, Nat.reduceEqDiff, Nat.reduceSub, Nat.reduceAdd] <;> rfl)) rfl rfl ?_
    simp only [Try.results67, go_sem, Nat.reduceMul, Nat.reduceLeDiff, Nat.reduceLT, reduceIte, reduceCtorEq, Nat.reduceEqDiff, Nat.reduceSub, Nat.reduceAdd]
    refine HereO.call T_ok rfl rfl (isCochain_spec t hg m l x.1 x.2) (by simp only [go_sem, Nat.reduceMul, Nat.reduceLeDiff, Nat.reduceLT, reduceIte, reduceCtorEq, Nat.reduceEqDiff, Nat.reduceSub, Nat.reduceAdd, List.toList_toArray]) rfl ?_
    simp only [Try.results67, go_sem, Nat.reduceMul, Nat.reduceLeDiff, Nat.reduceLT, reduceIte, reduceCtorEq, Nat.reduceEqDiff, Nat.reduceSub, Nat.reduceAdd]
    refine ⟨fun h4 => by unfold codeC; rw [if_neg fun q => h4 (q.2 x hxm)], fun h4 => ⟨by unfold InR; omega, k + 1, ⟨by omega, fun j y hj hy => ?_⟩, by omega, by simp⟩⟩
    by_cases e : j = k
    · subst e; rw [hx] at hy; cases hy; exact h4
    · exact hc j y (by omega) hy
  · unfold codeC
    rw [if_pos]
    refine ⟨⟨hg, hm⟩, fun x hx => ?_⟩
    obtain ⟨j, hj⟩ := List.getElem?_of_mem hx
    exact hc j x (by have := (List.getElem?_eq_some_iff.1 hj).1; omega) hj
theorem l03Code_spec (t : List (List Int)) (m : Int) (l : List Int) (fs : List (Int × List Int)) (hl : fs.length ≤ 1000) : Spec Try.prog 54 [.agg [.rds (II t)], .agg [.v (.int .i64 m), .rd (I l)], .rdA 2 (flat (MM fs))] (.v (.int .i64 (codeC t m l fs))) [] := by
  refine Spec.of_code T_ok Try.func54 rfl Try.ntmps54 Try.call54 (Nat.le_of_ble_eq_true rfl) rfl rfl (CodeV_sound T_ok (by kernel_rfl) rfl ?_)
  simp only [Try.results54, go_sem, Nat.reduceMul, Nat.reduceLeDiff, Nat.reduceLT, reduceIte, reduceCtorEq, Nat.reduceEqDiff, Nat.reduceSub, Nat.reduceAdd]
  refine HereO.call T_ok rfl rfl (l01Is_spec t) (by simp only [go_sem, Nat.reduceMul, Nat.reduceLeDiff, Nat.reduceLT, reduceIte, reduceCtorEq, Nat.reduceEqDiff, Nat.reduceSub, Nat.reduceAdd, List.toList_toArray]) rfl ?_
  simp only [Try.results54, go_sem, Nat.reduceMul, Nat.reduceLeDiff, Nat.reduceLT, reduceIte, reduceCtorEq, Nat.reduceEqDiff, Nat.reduceSub, Nat.reduceAdd]
  refine ⟨fun hg => ?_, fun hg => by unfold codeC; rw [if_neg fun q => hg q.1.1]⟩
  refine HereO.call T_ok rfl rfl (l02Is_spec t m l hg) (by simp only [go_sem, Nat.reduceMul, Nat.reduceLeDiff, Nat.reduceLT, reduceIte, reduceCtorEq, Nat.reduceEqDiff, Nat.reduceSub, Nat.reduceAdd, List.toList_toArray]) rfl ?_
  simp only [Try.results54, go_sem, Nat.reduceMul, Nat.reduceLeDiff, Nat.reduceLT, reduceIte, reduceCtorEq, Nat.reduceEqDiff, Nat.reduceSub, Nat.reduceAdd]
  refine ⟨fun h => by unfold codeC; rw [if_neg fun q => h q.1.2], fun hm => ?_⟩
  refine Here.loopV T_ok (fun k => k ≤ fs.length ∧ ∀ j x, j < k → fs[j]? = some x → Coc t m x.1 x.2) (fun k => fs.length - k) (fun k => [(2, .rdA 2 (flat (MM fs))), (3, .box [.rds (II t)]), (4, .box [.v (.int .i64 m), .rd (I l)]), (7, .v (.int .i64 k))]) (fun _ => []) 0 (by simp) (by simp only [Try.results54, go_sem, Nat.reduceMul, Nat.reduceLeDiff, Nat.reduceLT, reduceIte, reduceCtorEq, Nat.reduceEqDiff, Nat.reduceSub, Nat.reduceAdd]; rfl) trivial ?_
  rintro k ⟨hk, hc⟩
  simp only [Try.results54, go_sem, Nat.reduceMul, Nat.reduceLeDiff, Nat.reduceLT, reduceIte, reduceCtorEq, Nat.reduceEqDiff, Nat.reduceSub, Nat.reduceAdd]
  refine HereO.opP T_ok (OpP.lenA (ls := MM fs) sl2_94 rfl rfl) ?_
  simp only [Try.results54, go_sem, Nat.reduceMul, Nat.reduceLeDiff, Nat.reduceLT, reduceIte, reduceCtorEq, Nat.reduceEqDiff, Nat.reduceSub, Nat.reduceAdd]
  rw [MM_len]
  refine ⟨fun h2 => ?_, fun h2 => ?_⟩
  · obtain ⟨x, hx⟩ : ∃ x, fs[k]? = some x := ⟨fs[k]'(by omega), List.getElem?_eq_getElem _⟩
    have hxm : x ∈ fs := List.mem_of_getElem? hx
    refine Here.draw T_ok mixed_ok (by kernel_rfl) ?_
    simp only [Try.results54, go_sem, Nat.reduceMul, Nat.reduceLeDiff, Nat.reduceLT, reduceIte, reduceCtorEq, Nat.reduceEqDiff, Nat.reduceSub, Nat.reduceAdd]
    refine ⟨_, OpP.indexA (ls := MM fs) (j := k) sl2_94 rfl rfl rfl (MM_get hx), ?_⟩
    simp only [Try.results54, go_sem, Nat.reduceMul, Nat.reduceLeDiff, Nat.reduceLT, reduceIte, reduceCtorEq, Nat.reduceEqDiff, Nat.reduceSub, Nat.reduceAdd]
    refine ⟨_, OpP.call' rfl rfl (l03Is_spec t hg m l x.1 x.2 hm.1) (by simp only [go_sem, Nat.reduceMul, Nat.reduceLeDiff, Nat.reduceLT, reduceIte, reduceCtorEq, Nat.reduceEqDiff, Nat.reduceSub, Nat.reduceAdd, List.toList_toArray]) rfl, ?_⟩
    simp only [Try.results54, go_sem, Nat.reduceMul, Nat.reduceLeDiff, Nat.reduceLT, reduceIte, reduceCtorEq, Nat.reduceEqDiff, Nat.reduceSub, Nat.reduceAdd]
    refine ⟨fun h4 => by unfold codeC; rw [if_neg fun q => h4 (q.2 x hxm)], fun h4 => ⟨by unfold InR; omega, k + 1, ⟨by omega, fun j y hj hy => ?_⟩, by omega, by simp⟩⟩
    by_cases e : j = k
    · subst e; rw [hx] at hy; cases hy; exact h4
    · exact hc j y (by omega) hy
  · unfold codeC
    rw [if_pos]
    refine ⟨⟨hg, hm⟩, fun x hx => ?_⟩
    obtain ⟨j, hj⟩ := List.getElem?_of_mem hx
    exact hc j x (by have := (List.getElem?_eq_some_iff.1 hj).1; omega) hj
theorem l03Code0_spec (t : List (List Int)) (m : Int) (l : List Int) : Spec Try.prog 54 [.agg [.rds (II t)], .agg [.v (.int .i64 m), .rd (I l)], .v (.slice none 0 0)] (.v (.int .i64 (codeM t [(m, l)]))) [] := by
  have e : codeM t [(m, l)] = codeC t m l [] := by
    unfold codeM codeC
    congr 1
    simp [Mods, Cocs]
  rw [e]
  refine (l03Code_spec t m l [] (by simp)).args fun w ys h => ?_
  simp only [LRels] at h ⊢
  obtain ⟨y1, r1, rfl, h1, y2, r2, rfl, h2, y3, r3, rfl, h3, rfl⟩ := h
  exact ⟨y1, _, rfl, h1, y2, _, rfl, h2, y3, _, rfl, nil_rdA h3, rfl⟩
def cocV (t : List (List Int)) (m : Int) (l : List Int) (d : Int) (v : List Int) : Bool := decide (codeM t [(m, l)] = 0 ∧ Coc t m d v)
theorem implIsCochain (t : List (List Int)) (m : Int) (l : List Int) (d : Int) (v : List Int) : Spec Try.prog 23 [.agg [.rds (II t)], .agg [.v (.int .i64 m), .rd (I l)], .agg [.v (.int .i64 d), .rd (I v)]] (.tup [.v (.bool (cocV t m l d v)), .v (.int .i64 (codeM t [(m, l)]))]) [] := by
  refine Spec.of_code T_ok Try.func23 rfl Try.ntmps23 Try.call23 (Nat.le_of_ble_eq_true rfl) rfl rfl (CodeV_sound T_ok (by kernel_rfl) rfl ?_)
  simp only [Try.results23, go_sem, Nat.reduceMul, Nat.reduceLeDiff, Nat.reduceLT, reduceIte, reduceCtorEq, Nat.reduceEqDiff, Nat.reduceSub, Nat.reduceAdd]
  refine HereO.opP T_ok (OpP.buildA sl2_98 (MM [(m, l)]) rfl rfl (by decide) (by decide) rfl rfl) ?_
  simp only [Try.results23, go_sem, Nat.reduceMul, Nat.reduceLeDiff, Nat.reduceLT, reduceIte, reduceCtorEq, Nat.reduceEqDiff, Nat.reduceSub, Nat.reduceAdd]
  refine HereO.call T_ok rfl rfl (moduleCode_spec t [(m, l)] (by simp) (by simp)) (by simp only [go_sem, Nat.reduceMul, Nat.reduceLeDiff, Nat.reduceLT, reduceIte, reduceCtorEq, Nat.reduceEqDiff, Nat.reduceSub, Nat.reduceAdd, List.toList_toArray]) rfl ?_
  simp only [Try.results23, go_sem, Nat.reduceMul, Nat.reduceLeDiff, Nat.reduceLT, reduceIte, reduceCtorEq, Nat.reduceEqDiff, Nat.reduceSub, Nat.reduceAdd]
  refine ⟨fun h => by simp [cocV, h], fun h => ?_⟩
  obtain ⟨hg, hm⟩ := codeM1_ok h
  refine HereO.call T_ok rfl rfl (isCochain_spec t hg m l d v) (by simp only [go_sem, Nat.reduceMul, Nat.reduceLeDiff, Nat.reduceLT, reduceIte, reduceCtorEq, Nat.reduceEqDiff, Nat.reduceSub, Nat.reduceAdd, List.toList_toArray]) rfl ?_
  simp only [Try.results23, go_sem, Nat.reduceMul, Nat.reduceLeDiff, Nat.reduceLT, reduceIte, reduceCtorEq, Nat.reduceEqDiff, Nat.reduceSub, Nat.reduceAdd]
  simp [cocV, h]
theorem specIsCochain (t : List (List Int)) (m : Int) (l : List Int) (d : Int) (v : List Int) : Spec Try.prog 19 [.agg [.rds (II t)], .agg [.v (.int .i64 m), .rd (I l)], .agg [.v (.int .i64 d), .rd (I v)]] (.tup [.v (.bool (cocV t m l d v)), .v (.int .i64 (codeM t [(m, l)]))]) [] := by
  refine Spec.of_code T_ok Try.func19 rfl Try.ntmps19 Try.call19 (Nat.le_of_ble_eq_true rfl) rfl rfl (CodeV_sound T_ok (by kernel_rfl) rfl ?_)
  simp only [Try.results19, go_sem, Nat.reduceMul, Nat.reduceLeDiff, Nat.reduceLT, reduceIte, reduceCtorEq, Nat.reduceEqDiff, Nat.reduceSub, Nat.reduceAdd]
  refine HereO.call T_ok rfl rfl (l03Code0_spec t m l) (by simp only [go_sem, Nat.reduceMul, Nat.reduceLeDiff, Nat.reduceLT, reduceIte, reduceCtorEq, Nat.reduceEqDiff, Nat.reduceSub, Nat.reduceAdd, List.toList_toArray]) rfl ?_
  simp only [Try.results19, go_sem, Nat.reduceMul, Nat.reduceLeDiff, Nat.reduceLT, reduceIte, reduceCtorEq, Nat.reduceEqDiff, Nat.reduceSub, Nat.reduceAdd]
  refine ⟨fun h => by simp [cocV, h], fun h => ?_⟩
  obtain ⟨hg, hm⟩ := codeM1_ok h
  refine HereO.call T_ok rfl rfl (l03Is_spec t hg m l d v hm.1) (by simp only [go_sem, Nat.reduceMul, Nat.reduceLeDiff, Nat.reduceLT, reduceIte, reduceCtorEq, Nat.reduceEqDiff, Nat.reduceSub, Nat.reduceAdd, List.toList_toArray]) rfl ?_
  simp only [Try.results19, go_sem, Nat.reduceMul, Nat.reduceLeDiff, Nat.reduceLT, reduceIte, reduceCtorEq, Nat.reduceEqDiff, Nat.reduceSub, Nat.reduceAdd]
  simp [cocV, h]
/-! ### ZeroCochain -/
def codeZ (t : List (List Int)) (m : Int) (l : List Int) (d : Int) : Int := if codeM t [(m, l)] = 0 then (if 0 ≤ d ∧ d ≤ 3 then 0 else 2) else 1
theorem degreeCode_spec (t : List (List Int)) (m : Int) (l : List Int) (d : Int) : Spec Try.prog 61 [.agg [.rds (II t)], .agg [.v (.int .i64 m), .rd (I l)], .v (.int .i64 d)] (.v (.int .i64 (codeZ t m l d))) [] := by
  have hc : codeM t [(m, l)] = 0 ↔ Grp t ∧ Mods t [(m, l)] := by
    unfold codeM
    split
    · rename_i q; exact ⟨fun _ => q, fun _ => rfl⟩
    · rename_i q; exact ⟨fun h => by omega, fun h => absurd h q⟩
  refine Spec.of_code T_ok Try.func61 rfl Try.ntmps61 Try.call61 (Nat.le_of_ble_eq_true rfl) rfl rfl (CodeV_sound T_ok (by kernel_rfl) rfl ?_)
  simp only [Try.results61, go_sem, Nat.reduceMul, Nat.reduceLeDiff, Nat.reduceLT, reduceIte, reduceCtorEq, Nat.reduceEqDiff, Nat.reduceSub, Nat.reduceAdd]
  refine HereO.opP T_ok (OpP.buildA sl2_98 (MM [(m, l)]) rfl rfl (by decide) (by decide) rfl rfl) ?_
  simp only [Try.results61, go_sem, Nat.reduceMul, Nat.reduceLeDiff, Nat.reduceLT, reduceIte, reduceCtorEq, Nat.reduceEqDiff, Nat.reduceSub, Nat.reduceAdd]
  refine HereO.call T_ok rfl rfl (areModules_spec t [(m, l)] (by simp) (by simp)) (by simp only [go_sem, Nat.reduceMul, Nat.reduceLeDiff, Nat.reduceLT, reduceIte, reduceCtorEq, Nat.reduceEqDiff, Nat.reduceSub, Nat.reduceAdd, List.toList_toArray]) rfl ?_
  simp only [Try.results61, go_sem, Nat.reduceMul, Nat.reduceLeDiff, Nat.reduceLT, reduceIte, reduceCtorEq, Nat.reduceEqDiff, Nat.reduceSub, Nat.reduceAdd]
  refine ⟨fun h => by unfold codeZ; rw [if_neg fun q => h (hc.1 q)], fun h => ?_⟩
  refine HereO.call T_ok rfl rfl (isDegree_spec d) (by simp only [go_sem, Nat.reduceMul, Nat.reduceLeDiff, Nat.reduceLT, reduceIte, reduceCtorEq, Nat.reduceEqDiff, Nat.reduceSub, Nat.reduceAdd, List.toList_toArray]) rfl ?_
  simp only [Try.results61, go_sem, Nat.reduceMul, Nat.reduceLeDiff, Nat.reduceLT, reduceIte, reduceCtorEq, Nat.reduceEqDiff, Nat.reduceSub, Nat.reduceAdd]
  refine ⟨fun h2 => by unfold codeZ; rw [if_pos (hc.2 h), if_neg h2], fun h2 => by unfold codeZ; rw [if_pos (hc.2 h), if_pos h2]⟩
def zeroD (t : List (List Int)) (m : Int) (l : List Int) (d : Int) : Int := if codeZ t m l d = 0 then d else 0
def zeroL (t : List (List Int)) (m : Int) (l : List Int) (d : Int) : List Int := if codeZ t m l d = 0 then List.replicate (((t.length : Int) - 1) ^ d.toNat).toNat 0 else []
theorem codeZ_ok {t : List (List Int)} {m : Int} {l : List Int} {d : Int} (h : codeZ t m l d = 0) : Grp t ∧ Mod t m l ∧ 0 ≤ d ∧ d ≤ 3 := by
  unfold codeZ at h
  split at h
  · rename_i q
    split at h
    · rename_i q2; exact ⟨(codeM1_ok q).1, (codeM1_ok q).2, q2⟩
    · omega
  · omega
theorem zeroL_ok (t : List (List Int)) (m : Int) (l : List Int) (d : Int) : (zeroL t m l d).length ≤ 1048576 := by
  unfold zeroL
  split
  · rename_i h
    obtain ⟨hg, _, hd⟩ := codeZ_ok h
    have := pow_len hg hd
    simp; omega
  · simp
theorem zero_spec (t : List (List Int)) (hg : Grp t) (d : Int) (hd : 0 ≤ d ∧ d ≤ 3) : Spec Try.prog 62 [.agg [.rds (II t)], .v (.int .i64 d)] (.agg [.v (.int .i64 d), .own 0]) [.row 2 (I (List.replicate (((t.length : Int) - 1) ^ d.toNat).toNat 0))] := by
  have h1 := hg.1
  have hp := pow_len hg hd
  have hp0 : 0 ≤ ((t.length : Int) - 1) ^ d.toNat := Int.pow_nonneg (by omega)
  refine Spec.of_code T_ok Try.func62 rfl Try.ntmps62 Try.call62 (Nat.le_of_ble_eq_true rfl) rfl rfl (CodeV_sound T_ok (by kernel_rfl) rfl ?_)
  simp only [Try.results62, go_sem, Nat.reduceMul, Nat.reduceLeDiff, Nat.reduceLT, reduceIte, reduceCtorEq, Nat.reduceEqDiff, Nat.reduceSub, Nat.reduceAdd]
  refine HereO.alloc T_ok 104 rfl rfl (by decide) ?_
  simp only [Try.results62, go_sem, Nat.reduceMul, Nat.reduceLeDiff, Nat.reduceLT, reduceIte, reduceCtorEq, Nat.reduceEqDiff, Nat.reduceSub, Nat.reduceAdd]
  refine HereO.call T_ok rfl rfl (cells_spec t d hg.1 hg.2.1 hd.1 hd.2) (by simp only [go_sem, Nat.reduceMul, Nat.reduceLeDiff, Nat.reduceLT, reduceIte, reduceCtorEq, Nat.reduceEqDiff, Nat.reduceSub, Nat.reduceAdd, List.toList_toArray]) rfl ?_
  simp only [Try.results62, go_sem, Nat.reduceMul, Nat.reduceLeDiff, Nat.reduceLT, reduceIte, reduceCtorEq, Nat.reduceEqDiff, Nat.reduceSub, Nat.reduceAdd]
  refine HereO.makeSlice T_ok (kk := .i64) (m := ((t.length : Int) - 1) ^ d.toNat) 130 rfl rfl (by simp only [go_sem, Nat.reduceMul, Nat.reduceLeDiff, Nat.reduceLT, reduceIte, reduceCtorEq, Nat.reduceEqDiff, Nat.reduceSub, Nat.reduceAdd] <;> rfl) (by omega) (by omega) (by decide) (by decide) ?_
  simp only [Try.results62, go_sem, Nat.reduceMul, Nat.reduceLeDiff, Nat.reduceLT, reduceIte, reduceCtorEq, Nat.reduceEqDiff, Nat.reduceSub, Nat.reduceAdd]
  refine HereO.opP T_ok (OpP.build built_44 rfl rfl rfl rfl) ?_
  simp only [Try.results62, go_sem, Nat.reduceMul, Nat.reduceLeDiff, Nat.reduceLT, reduceIte, reduceCtorEq, Nat.reduceEqDiff, Nat.reduceSub, Nat.reduceAdd]
  refine HereO.storeAgg T_ok rfl (by simp only [go_sem, Nat.reduceMul, Nat.reduceLeDiff, Nat.reduceLT, reduceIte, reduceCtorEq, Nat.reduceEqDiff, Nat.reduceSub, Nat.reduceAdd] <;> rfl) (by simp only [go_sem, Nat.reduceMul, Nat.reduceLeDiff, Nat.reduceLT, reduceIte, reduceCtorEq, Nat.reduceEqDiff, Nat.reduceSub, Nat.reduceAdd] <;> rfl) rfl (by simp only [go_sem, Nat.reduceMul, Nat.reduceLeDiff, Nat.reduceLT, reduceIte, reduceCtorEq, Nat.reduceEqDiff, Nat.reduceSub, Nat.reduceAdd] <;> rfl) (by first | rfl | (simp only [go_sem, Nat.reduceMul, Nat.reduceLeDiff, Nat.reduceLT, reduceIte, reduceCtorEq, Nat.reduceEqDiff, Nat.reduceSub, Nat.reduceAdd] <;> rfl)) rfl rfl ?_
  simp only [Try.results62, go_sem, Nat.reduceMul, Nat.reduceLeDiff, Nat.reduceLT, reduceIte, reduceCtorEq, Nat.reduceEqDiff, Nat.reduceSub, Nat.reduceAdd]
  refine RetT.one 130 (by simp only [Try.results62, go_sem, Nat.reduceMul, Nat.reduceLeDiff, Nat.reduceLT, reduceIte, reduceCtorEq, Nat.reduceEqDiff, Nat.reduceSub, Nat.reduceAdd]; rfl) rfl ?_
  simp only [Try.results62, go_sem, Nat.reduceMul, Nat.reduceLeDiff, Nat.reduceLT, reduceIte, reduceCtorEq, Nat.reduceEqDiff, Nat.reduceSub, Nat.reduceAdd]
  simp [I]
theorem l03Zero_spec (t : List (List Int)) (hg : Grp t) (d : Int) (hd : 0 ≤ d ∧ d ≤ 3) : Spec Try.prog 60 [.agg [.rds (II t)], .v (.int .i64 d)] (.agg [.v (.int .i64 d), .own 0]) [.row 2 (I (List.replicate (((t.length : Int) - 1) ^ d.toNat).toNat 0))] := by
  have h1 := hg.1
  have hp := pow_len hg hd
  have hp0 : 0 ≤ ((t.length : Int) - 1) ^ d.toNat := Int.pow_nonneg (by omega)
  refine Spec.of_code T_ok Try.func60 rfl Try.ntmps60 Try.call60 (Nat.le_of_ble_eq_true rfl) rfl rfl (CodeV_sound T_ok (by kernel_rfl) rfl ?_)
  simp only [Try.results60, go_sem, Nat.reduceMul, Nat.reduceLeDiff, Nat.reduceLT, reduceIte, reduceCtorEq, Nat.reduceEqDiff, Nat.reduceSub, Nat.reduceAdd]
  refine HereO.alloc T_ok 104 rfl rfl (by decide) ?_
  simp only [Try.results60, go_sem, Nat.reduceMul, Nat.reduceLeDiff, Nat.reduceLT, reduceIte, reduceCtorEq, Nat.reduceEqDiff, Nat.reduceSub, Nat.reduceAdd]
  refine HereO.call T_ok rfl rfl (l03Cells_spec t d hg.1 hg.2.1 hd.1 hd.2) (by simp only [go_sem, Nat.reduceMul, Nat.reduceLeDiff, Nat.reduceLT, reduceIte, reduceCtorEq, Nat.reduceEqDiff, Nat.reduceSub, Nat.reduceAdd, List.toList_toArray]) rfl ?_
  simp only [Try.results60, go_sem, Nat.reduceMul, Nat.reduceLeDiff, Nat.reduceLT, reduceIte, reduceCtorEq, Nat.reduceEqDiff, Nat.reduceSub, Nat.reduceAdd]
  refine HereO.makeSlice T_ok (kk := .i64) (m := ((t.length : Int) - 1) ^ d.toNat) 130 rfl rfl (by simp only [go_sem, Nat.reduceMul, Nat.reduceLeDiff, Nat.reduceLT, reduceIte, reduceCtorEq, Nat.reduceEqDiff, Nat.reduceSub, Nat.reduceAdd] <;> rfl) (by omega) (by omega) (by decide) (by decide) ?_
  simp only [Try.results60, go_sem, Nat.reduceMul, Nat.reduceLeDiff, Nat.reduceLT, reduceIte, reduceCtorEq, Nat.reduceEqDiff, Nat.reduceSub, Nat.reduceAdd]
  refine HereO.opP T_ok (OpP.build built_44 rfl rfl rfl rfl) ?_
  simp only [Try.results60, go_sem, Nat.reduceMul, Nat.reduceLeDiff, Nat.reduceLT, reduceIte, reduceCtorEq, Nat.reduceEqDiff, Nat.reduceSub, Nat.reduceAdd]
  refine HereO.storeAgg T_ok rfl (by simp only [go_sem, Nat.reduceMul, Nat.reduceLeDiff, Nat.reduceLT, reduceIte, reduceCtorEq, Nat.reduceEqDiff, Nat.reduceSub, Nat.reduceAdd] <;> rfl) (by simp only [go_sem, Nat.reduceMul, Nat.reduceLeDiff, Nat.reduceLT, reduceIte, reduceCtorEq, Nat.reduceEqDiff, Nat.reduceSub, Nat.reduceAdd] <;> rfl) rfl (by simp only [go_sem, Nat.reduceMul, Nat.reduceLeDiff, Nat.reduceLT, reduceIte, reduceCtorEq, Nat.reduceEqDiff, Nat.reduceSub, Nat.reduceAdd] <;> rfl) (by first | rfl | (simp only [go_sem, Nat.reduceMul, Nat.reduceLeDiff, Nat.reduceLT, reduceIte, reduceCtorEq, Nat.reduceEqDiff, Nat.reduceSub, Nat.reduceAdd] <;> rfl)) rfl rfl ?_
  simp only [Try.results60, go_sem, Nat.reduceMul, Nat.reduceLeDiff, Nat.reduceLT, reduceIte, reduceCtorEq, Nat.reduceEqDiff, Nat.reduceSub, Nat.reduceAdd]
  refine RetT.one 130 (by simp only [Try.results60, go_sem, Nat.reduceMul, Nat.reduceLeDiff, Nat.reduceLT, reduceIte, reduceCtorEq, Nat.reduceEqDiff, Nat.reduceSub, Nat.reduceAdd]; rfl) rfl ?_
  simp only [Try.results60, go_sem, Nat.reduceMul, Nat.reduceLeDiff, Nat.reduceLT, reduceIte, reduceCtorEq, Nat.reduceEqDiff, Nat.reduceSub, Nat.reduceAdd]
  simp [I]
theorem implZeroCochain (t : List (List Int)) (m : Int) (l : List Int) (d : Int) : Spec Try.prog 27 [.agg [.rds (II t)], .agg [.v (.int .i64 m), .rd (I l)], .v (.int .i64 d)] (.tup [.agg [.v (.int .i64 (zeroD t m l d)), .own 0], .v (.int .i64 (codeZ t m l d))]) [.row 2 (I (zeroL t m l d))] := by
  refine Spec.of_codeC T_ok Try.func27 rfl Try.ntmps27 Try.call27 (Nat.le_of_ble_eq_true rfl) rfl rfl (CodeV_sound T_ok (by kernel_rfl) rfl ?_)
  simp only [Try.results27, go_sem, Nat.reduceMul, Nat.reduceLeDiff, Nat.reduceLT, reduceIte, reduceCtorEq, Nat.reduceEqDiff, Nat.reduceSub, Nat.reduceAdd]
  refine HereO.alloc T_ok 106 rfl rfl (by decide) ?_
  simp only [Try.results27, go_sem, Nat.reduceMul, Nat.reduceLeDiff, Nat.reduceLT, reduceIte, reduceCtorEq, Nat.reduceEqDiff, Nat.reduceSub, Nat.reduceAdd]
  refine HereO.call T_ok rfl rfl (degreeCode_spec t m l d) (by simp only [go_sem, Nat.reduceMul, Nat.reduceLeDiff, Nat.reduceLT, reduceIte, reduceCtorEq, Nat.reduceEqDiff, Nat.reduceSub, Nat.reduceAdd, List.toList_toArray]) rfl ?_
  simp only [Try.results27, go_sem, Nat.reduceMul, Nat.reduceLeDiff, Nat.reduceLT, reduceIte, reduceCtorEq, Nat.reduceEqDiff, Nat.reduceSub, Nat.reduceAdd]
  refine ⟨fun h => ?_, fun h => ?_⟩
  · have hc : ¬ codeZ t m l d = 0 := h
    refine HereO.opP T_ok (OpP.build built_44 rfl rfl rfl rfl) ?_
    simp only [Try.results27, go_sem, Nat.reduceMul, Nat.reduceLeDiff, Nat.reduceLT, reduceIte, reduceCtorEq, Nat.reduceEqDiff, Nat.reduceSub, Nat.reduceAdd]
    refine HereO.storeAgg T_ok rfl (by simp only [go_sem, Nat.reduceMul, Nat.reduceLeDiff, Nat.reduceLT, reduceIte, reduceCtorEq, Nat.reduceEqDiff, Nat.reduceSub, Nat.reduceAdd] <;> rfl) (by simp only [go_sem, Nat.reduceMul, Nat.reduceLeDiff, Nat.reduceLT, reduceIte, reduceCtorEq, Nat.reduceEqDiff, Nat.reduceSub, Nat.reduceAdd] <;> rfl) rfl (by simp only [go_sem, Nat.reduceMul, Nat.reduceLeDiff, Nat.reduceLT, reduceIte, reduceCtorEq, Nat.reduceEqDiff, Nat.reduceSub, Nat.reduceAdd] <;> rfl) (by first | rfl | (simp only [go_sem, Nat.reduceMul, Nat.reduceLeDiff, Nat.reduceLT, reduceIte, reduceCtorEq, Nat.reduceEqDiff, Nat.reduceSub, Nat.reduceAdd] <;> rfl)) rfl rfl ?_
    simp only [Try.results27, go_sem, Nat.reduceMul, Nat.reduceLeDiff, Nat.reduceLT, reduceIte, reduceCtorEq, Nat.reduceEqDiff, Nat.reduceSub, Nat.reduceAdd]
    exact RetC.conv (Conv.nilIn (c := 106) (tt := 44) (l := [.v (.int .i64 0), .v nilV]) 1 120 (.row 2 []) rfl (by decide) (by decide) (by rfl) rfl) (RetC.of (RetT.one 120 (by simp only [Try.results27, go_sem, Nat.reduceMul, Nat.reduceLeDiff, Nat.reduceLT, reduceIte, reduceCtorEq, Nat.reduceEqDiff, Nat.reduceSub, Nat.reduceAdd]; rfl) (by simp only [Try.results27, go_sem, Nat.reduceMul, Nat.reduceLeDiff, Nat.reduceLT, reduceIte, reduceCtorEq, Nat.reduceEqDiff, Nat.reduceSub, Nat.reduceAdd]; simp [zeroD, zeroL, hc, I]) (by simp only [Try.results27, go_sem, Nat.reduceMul, Nat.reduceLeDiff, Nat.reduceLT, reduceIte, reduceCtorEq, Nat.reduceEqDiff, Nat.reduceSub, Nat.reduceAdd]; simp [zeroD, zeroL, hc, I])))
  · have hc : codeZ t m l d = 0 := h
    obtain ⟨hg, hm, hd⟩ := codeZ_ok hc
    refine HereO.callOwn T_ok 19 rfl rfl (zero_spec t hg d hd) (by simp only [go_sem, Nat.reduceMul, Nat.reduceLeDiff, Nat.reduceLT, reduceIte, reduceCtorEq, Nat.reduceEqDiff, Nat.reduceSub, Nat.reduceAdd, List.toList_toArray]) rfl (by simp) rfl ?_
    simp only [Try.results27, go_sem, Nat.reduceMul, Nat.reduceLeDiff, Nat.reduceLT, reduceIte, reduceCtorEq, Nat.reduceEqDiff, Nat.reduceSub, Nat.reduceAdd]
    refine HereO.storeAgg T_ok rfl (by simp only [go_sem, Nat.reduceMul, Nat.reduceLeDiff, Nat.reduceLT, reduceIte, reduceCtorEq, Nat.reduceEqDiff, Nat.reduceSub, Nat.reduceAdd] <;> rfl) (by simp only [go_sem, Nat.reduceMul, Nat.reduceLeDiff, Nat.reduceLT, reduceIte, reduceCtorEq, Nat.reduceEqDiff, Nat.reduceSub, Nat.reduceAdd] <;> rfl) rfl (by simp only [go_sem, Nat.reduceMul, Nat.reduceLeDiff, Nat.reduceLT, reduceIte, reduceCtorEq, Nat.reduceEqDiff, Nat.reduceSub, Nat.reduceAdd] <;> rfl) (by first | rfl | (simp only [go_sem, Nat.reduceMul, Nat.reduceLeDiff, Nat.reduceLT, reduceIte, reduceCtorEq, Nat.reduceEqDiff, Nat.reduceSub, Nat.reduceAdd] <;> rfl)) rfl rfl ?_
    simp only [Try.results27, go_sem, Nat.reduceMul, Nat.reduceLeDiff, Nat.reduceLT, reduceIte, reduceCtorEq, Nat.reduceEqDiff, Nat.reduceSub, Nat.reduceAdd]
    exact RetC.of (RetT.one 1304 (by simp only [Try.results27, go_sem, Nat.reduceMul, Nat.reduceLeDiff, Nat.reduceLT, reduceIte, reduceCtorEq, Nat.reduceEqDiff, Nat.reduceSub, Nat.reduceAdd]; rfl) (by simp only [Try.results27, go_sem, Nat.reduceMul, Nat.reduceLeDiff, Nat.reduceLT, reduceIte, reduceCtorEq, Nat.reduceEqDiff, Nat.reduceSub, Nat.reduceAdd]; simp [zeroD, zeroL, hc, h]) (by simp only [Try.results27, go_sem, Nat.reduceMul, Nat.reduceLeDiff, Nat.reduceLT, reduceIte, reduceCtorEq, Nat.reduceEqDiff, Nat.reduceSub, Nat.reduceAdd]; simp [zeroD, zeroL, hc, h]))
theorem specZeroCochain (t : List (List Int)) (m : Int) (l : List Int) (d : Int) : Spec Try.prog 26 [.agg [.rds (II t)], .agg [.v (.int .i64 m), .rd (I l)], .v (.int .i64 d)] (.tup [.agg [.v (.int .i64 (zeroD t m l d)), .own 0], .v (.int .i64 (codeZ t m l d))]) [.row 2 (I (zeroL t m l d))] := by
  refine Spec.of_codeC T_ok Try.func26 rfl Try.ntmps26 Try.call26 (Nat.le_of_ble_eq_true rfl) rfl rfl (CodeV_sound T_ok (by kernel_rfl) rfl ?_)
  simp only [Try.results26, go_sem, Nat.reduceMul, Nat.reduceLeDiff, Nat.reduceLT, reduceIte, reduceCtorEq, Nat.reduceEqDiff, Nat.reduceSub, Nat.reduceAdd]
  refine HereO.alloc T_ok 106 rfl rfl (by decide) ?_
  simp only [Try.results26, go_sem, Nat.reduceMul, Nat.reduceLeDiff, Nat.reduceLT, reduceIte, reduceCtorEq, Nat.reduceEqDiff, Nat.reduceSub, Nat.reduceAdd]
  refine HereO.call T_ok rfl rfl (l03Code0_spec t m l) (by simp only [go_sem, Nat.reduceMul, Nat.reduceLeDiff, Nat.reduceLT, reduceIte, reduceCtorEq, Nat.reduceEqDiff, Nat.reduceSub, Nat.reduceAdd, List.toList_toArray]) rfl ?_
  simp only [Try.results26, go_sem, Nat.reduceMul, Nat.reduceLeDiff, Nat.reduceLT, reduceIte, reduceCtorEq, Nat.reduceEqDiff, Nat.reduceSub, Nat.reduceAdd]
  refine ⟨fun h => ?_, fun h => ⟨fun _ => ?_, fun q => absurd q h⟩⟩
  · refine HereO.call T_ok rfl rfl (l01In_spec d 0 3) (by simp only [go_sem, Nat.reduceMul, Nat.reduceLeDiff, Nat.reduceLT, reduceIte, reduceCtorEq, Nat.reduceEqDiff, Nat.reduceSub, Nat.reduceAdd, List.toList_toArray]) rfl ?_
    simp only [Try.results26, go_sem, Nat.reduceMul, Nat.reduceLeDiff, Nat.reduceLT, reduceIte, reduceCtorEq, Nat.reduceEqDiff, Nat.reduceSub, Nat.reduceAdd]
    refine ⟨fun h2 => ⟨fun _ => ?_, fun q => absurd q (by decide)⟩, fun h2 => ⟨fun q => absurd h q, fun _ => ?_⟩⟩
    · have hc : codeZ t m l d = 2 := by unfold codeZ; rw [if_pos h, if_neg h2]
      refine HereO.opP T_ok (OpP.build built_44 rfl rfl rfl rfl) ?_
      simp only [Try.results26, go_sem, Nat.reduceMul, Nat.reduceLeDiff, Nat.reduceLT, reduceIte, reduceCtorEq, Nat.reduceEqDiff, Nat.reduceSub, Nat.reduceAdd]
      refine HereO.storeAgg T_ok rfl (by simp only [go_sem, Nat.reduceMul, Nat.reduceLeDiff, Nat.reduceLT, reduceIte, reduceCtorEq, Nat.reduceEqDiff, Nat.reduceSub, Nat.reduceAdd] <;> rfl) (by simp only [go_sem, Nat.reduceMul, Nat.reduceLeDiff, Nat.reduceLT, reduceIte, reduceCtorEq, Nat.reduceEqDiff, Nat.reduceSub, Nat.reduceAdd] <;> rfl) rfl (by simp only [go_sem, Nat.reduceMul, Nat.reduceLeDiff, Nat.reduceLT, reduceIte, reduceCtorEq, Nat.reduceEqDiff, Nat.reduceSub, Nat.reduceAdd] <;> rfl) (by first | rfl | (simp only [go_sem, Nat.reduceMul, Nat.reduceLeDiff, Nat.reduceLT, reduceIte, reduceCtorEq, Nat.reduceEqDiff, Nat.reduceSub, Nat.reduceAdd] <;> rfl)) rfl rfl ?_
      simp only [Try.results26, go_sem, Nat.reduceMul, Nat.reduceLeDiff, Nat.reduceLT, reduceIte, reduceCtorEq, Nat.reduceEqDiff, Nat.reduceSub, Nat.reduceAdd]
      exact RetC.conv (Conv.nilIn (c := 106) (tt := 44) (l := [.v (.int .i64 0), .v nilV]) 1 120 (.row 2 []) rfl (by decide) (by decide) (by rfl) rfl) (RetC.of (RetT.one 120 (by simp only [Try.results26, go_sem, Nat.reduceMul, Nat.reduceLeDiff, Nat.reduceLT, reduceIte, reduceCtorEq, Nat.reduceEqDiff, Nat.reduceSub, Nat.reduceAdd]; rfl) (by simp only [Try.results26, go_sem, Nat.reduceMul, Nat.reduceLeDiff, Nat.reduceLT, reduceIte, reduceCtorEq, Nat.reduceEqDiff, Nat.reduceSub, Nat.reduceAdd]; simp [zeroD, zeroL, hc, I]) (by simp only [Try.results26, go_sem, Nat.reduceMul, Nat.reduceLeDiff, Nat.reduceLT, reduceIte, reduceCtorEq, Nat.reduceEqDiff, Nat.reduceSub, Nat.reduceAdd]; simp [zeroD, zeroL, hc, I])))
    · have hc : codeZ t m l d = 0 := by unfold codeZ; rw [if_pos h, if_pos h2]
      obtain ⟨hg, hm, hd⟩ := codeZ_ok hc
      refine HereO.callOwn T_ok 25 rfl rfl (l03Zero_spec t hg d hd) (by simp only [go_sem, Nat.reduceMul, Nat.reduceLeDiff, Nat.reduceLT, reduceIte, reduceCtorEq, Nat.reduceEqDiff, Nat.reduceSub, Nat.reduceAdd, List.toList_toArray]) rfl (by simp) rfl ?_
      simp only [Try.results26, go_sem, Nat.reduceMul, Nat.reduceLeDiff, Nat.reduceLT, reduceIte, reduceCtorEq, Nat.reduceEqDiff, Nat.reduceSub, Nat.reduceAdd]
      refine HereO.storeAgg T_ok rfl (by simp only [go_sem, Nat.reduceMul, Nat.reduceLeDiff, Nat.reduceLT, reduceIte, reduceCtorEq, Nat.reduceEqDiff, Nat.reduceSub, Nat.reduceAdd] <;> rfl) (by simp only [go_sem, Nat.reduceMul, Nat.reduceLeDiff, Nat.reduceLT, reduceIte, reduceCtorEq, Nat.reduceEqDiff, Nat.reduceSub, Nat.reduceAdd] <;> rfl) rfl (by simp only [go_sem, Nat.reduceMul, Nat.reduceLeDiff, Nat.reduceLT, reduceIte, reduceCtorEq, Nat.reduceEqDiff, Nat.reduceSub, Nat.reduceAdd] <;> rfl) (by first | rfl | (simp only [go_sem, Nat.reduceMul, Nat.reduceLeDiff, Nat.reduceLT, reduceIte, reduceCtorEq, Nat.reduceEqDiff, Nat.reduceSub, Nat.reduceAdd] <;> rfl)) rfl rfl ?_
      simp only [Try.results26, go_sem, Nat.reduceMul, Nat.reduceLeDiff, Nat.reduceLT, reduceIte, reduceCtorEq, Nat.reduceEqDiff, Nat.reduceSub, Nat.reduceAdd]
      exact RetC.of (RetT.one 1400 (by simp only [Try.results26, go_sem, Nat.reduceMul, Nat.reduceLeDiff, Nat.reduceLT, reduceIte, reduceCtorEq, Nat.reduceEqDiff, Nat.reduceSub, Nat.reduceAdd]; rfl) (by simp only [Try.results26, go_sem, Nat.reduceMul, Nat.reduceLeDiff, Nat.reduceLT, reduceIte, reduceCtorEq, Nat.reduceEqDiff, Nat.reduceSub, Nat.reduceAdd]; simp [zeroD, zeroL, hc]) (by simp only [Try.results26, go_sem, Nat.reduceMul, Nat.reduceLeDiff, Nat.reduceLT, reduceIte, reduceCtorEq, Nat.reduceEqDiff, Nat.reduceSub, Nat.reduceAdd]; simp [zeroD, zeroL, hc]))
  · have hc : codeZ t m l d = 1 := by unfold codeZ; rw [if_neg h]
    have h1 := codeM_nz' h
    refine HereO.opP T_ok (OpP.build built_44 rfl rfl rfl rfl) ?_
    simp only [Try.results26, go_sem, Nat.reduceMul, Nat.reduceLeDiff, Nat.reduceLT, reduceIte, reduceCtorEq, Nat.reduceEqDiff, Nat.reduceSub, Nat.reduceAdd]
    refine HereO.storeAgg T_ok rfl (by simp only [go_sem, Nat.reduceMul, Nat.reduceLeDiff, Nat.reduceLT, reduceIte, reduceCtorEq, Nat.reduceEqDiff, Nat.reduceSub, Nat.reduceAdd] <;> rfl) (by simp only [go_sem, Nat.reduceMul, Nat.reduceLeDiff, Nat.reduceLT, reduceIte, reduceCtorEq, Nat.reduceEqDiff, Nat.reduceSub, Nat.reduceAdd] <;> rfl) rfl (by simp only [go_sem, Nat.reduceMul, Nat.reduceLeDiff, Nat.reduceLT, reduceIte, reduceCtorEq, Nat.reduceEqDiff, Nat.reduceSub, Nat.reduceAdd] <;> rfl) (by first | rfl | (simp only [go_sem, Nat.reduceMul, Nat.reduceLeDiff, Nat.reduceLT, reduceIte, reduceCtorEq, Nat.reduceEqDiff, Nat.reduceSub, Nat.reduceAdd] <;> rfl)) rfl rfl ?_
    simp only [Try.results26, go_sem, Nat.reduceMul, Nat.reduceLeDiff, Nat.reduceLT, reduceIte, reduceCtorEq, Nat.reduceEqDiff, Nat.reduceSub, Nat.reduceAdd]
    exact RetC.conv (Conv.nilIn (c := 106) (tt := 44) (l := [.v (.int .i64 0), .v nilV]) 1 120 (.row 2 []) rfl (by decide) (by decide) (by rfl) rfl) (RetC.of (RetT.one 120 (by simp only [Try.results26, go_sem, Nat.reduceMul, Nat.reduceLeDiff, Nat.reduceLT, reduceIte, reduceCtorEq, Nat.reduceEqDiff, Nat.reduceSub, Nat.reduceAdd]; rfl) (by simp only [Try.results26, go_sem, Nat.reduceMul, Nat.reduceLeDiff, Nat.reduceLT, reduceIte, reduceCtorEq, Nat.reduceEqDiff, Nat.reduceSub, Nat.reduceAdd]; simp [zeroD, zeroL, hc, h1, I]) (by simp only [Try.results26, go_sem, Nat.reduceMul, Nat.reduceLeDiff, Nat.reduceLT, reduceIte, reduceCtorEq, Nat.reduceEqDiff, Nat.reduceSub, Nat.reduceAdd]; simp [zeroD, zeroL, hc, h1, I])))
end Go.Proofs.Ytifpnficdjbljaa
