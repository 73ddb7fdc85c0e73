/- Plain laws: homomorphisms that are found are homomorphisms; an isomorphism renumbers; Plain law: an isomorphism that is told renumbers; Contracts: the program's RenumberGroup (its sort); FnQuotientGroups returns true: the walk of the law. -/
import Derived.Test.YtcjhojdlfnpgjaaGreatK39
import Derived.Test.YtcjhojdlfnpgjaaGreatK24
import Derived.Test.YtcjhojdlfnpgjaaGreatK20
import Derived.Test.YtcjhojdlfnpgjaaGreatK38
import Derived.Test.YtcjhojdlfnpgjaaGreatK32
import Derived.Test.YtcjhojdlfnpgjaaGreatK27
import Derived.Test.YtcjhojdlfnpgjaaGreatK28
import Derived.Test.YtcjhojdlfnpgjaaGreatK30
import Derived.Test.YtcjhojdlfnpgjaaGreatK33
import Derived.Test.YtcjhojdlfnpgjaaGreatK15
import Derived.Test.YtcjhojdlfnpgjaaGreatK22
set_option linter.unusedVariables false
set_option linter.unusedSimpArgs false
set_option maxRecDepth 100000
namespace Go.Proofs.YtcjhojdlfnpgjaaGreat
open Go.RowKit
theorem dfs_hom {t u : List (List Int)} : ∀ (k : Nat) (l p : List Int), p ∈ dfs t u k l → AreIn u.length l → Hom t u l → p.length = l.length + k ∧ AreIn u.length p ∧ Hom t u p
  | 0, l, p, h, hi, hh => by
    simp only [dfs, List.mem_singleton] at h
    subst h
    exact ⟨rfl, hi, hh⟩
  | k + 1, l, p, h, hi, hh => by
    simp only [dfs, List.mem_flatMap, List.mem_range] at h
    obtain ⟨a, ha, h⟩ := h
    split at h
    case isFalse => cases h
    rename_i hq
    obtain ⟨h1, h2, h3⟩ := dfs_hom k _ p h (areIn_snoc hi (by omega)) hq
    rw [List.length_append] at h1
    exact ⟨by simp at h1; omega, h2, h3⟩
theorem hom_nil (t u : List (List Int)) : Hom t u [] := fun a ha => by simp at ha
theorem homs_told {t u : List (List Int)} {p : List Int} (h : p ∈ homsR t u) : codeH t u p = 0 ∧ homV t u p = true := by
  unfold homsR at h
  split at h
  case isFalse => cases h
  rename_i hg
  obtain ⟨h1, h2, h3⟩ := dfs_hom _ _ _ h (fun j hj => by simp at hj) (hom_nil t u)
  have hc : codeH t u p = 0 := by
    unfold codeH
    rw [if_pos hg, if_pos ⟨by simpa using h1, h2⟩]
  exact ⟨hc, decide_eq_true ⟨hc, h3⟩⟩
theorem iso_ren {t u : List (List Int)} {p : List Int} (ht : Grp t) (hu : Grp u) (h : isoF t u = some p) : Perm0 t.length p ∧ tab (renF t p) t.length t.length = u := by
  obtain ⟨hl, hf, hpl⟩ := isoF_some h
  have hm := List.mem_of_find?_eq_some hf
  obtain ⟨_, h2, h3⟩ := dfs_hom _ _ _ hm (fun j hj => by simp at hj) (hom_nil t u)
  have hp := isPm_iff.1 (List.find?_some hf)
  have h1 := ht.1
  have hin : ∀ a, a < t.length → ∃ x : Nat, p.getD a 0 = x ∧ x < u.length := fun a ha => by
    obtain ⟨q1, q2⟩ := h2 a (by omega)
    exact ⟨(p.getD a 0).toNat, by omega, by omega⟩
  have hH : ∀ a, a < t.length → ∀ b, b < t.length → p.getD (em t a b) 0 = ee u (p.getD a 0).toNat (p.getD b 0).toNat := fun a ha b hb => by
    have e := em_ee ht ha hb
    have := h3 a (by omega) b (by omega) (by have := em_lt ht ha hb; omega)
    rw [e, Int.toNat_natCast] at this
    exact this
  have h0 : p.getD 0 0 = 0 := by
    obtain ⟨x, hx, hxu⟩ := hin 0 (by omega)
    have := hH 0 (by omega) 0 (by omega)
    rw [em_zl ht (by omega), hx, Int.toNat_natCast, em_ee hu hxu hxu] at this
    have e : em u x x = em u 0 x := by rw [em_zl hu hxu]; omega
    have := em_cancel hu hxu (by omega) hxu e
    rw [hx, this]
    rfl
  have hP : Perm0 t.length p := ⟨hpl, by rw [hl]; exact hp.2.1, by rw [hl]; exact hp.2.2, h0⟩
  refine ⟨hP, (ren_end hP hl.symm (fun a ha => ?_) fun a b ha hb => (hH a ha b hb).symm).symm⟩
  rw [(hu.2.2.1 a (by omega)).1, hl]
end Go.Proofs.YtcjhojdlfnpgjaaGreat
namespace Go.Proofs.YtcjhojdlfnpgjaaGreat
open Go.RowKit
theorem iso_told {c d : List (List Int)} (h : isoC c d = 0) : renC c (isoR c d) = 0 ∧ renT c (isoR c d) = d := by
  unfold isoC at h
  split at h
  case isFalse => omega
  rename_i hg
  cases hf : isoF c d with
  | none => rw [hf] at h; simp at h
  | some p =>
    have hr : isoR c d = p := by unfold isoR; rw [if_pos hg, hf]; rfl
    obtain ⟨hp, e⟩ := iso_ren hg.1 hg.2 hf
    have h0 : renC c p = 0 := by unfold renC; rw [if_pos hg.1, if_pos (permB_t hp)]
    rw [hr]
    exact ⟨h0, by unfold renT; rw [if_pos h0, e]⟩
end Go.Proofs.YtcjhojdlfnpgjaaGreat
namespace Go.Proofs.YtcjhojdlfnpgjaaGreat
open Go.RowKit
theorem implRenumberGroup (t : List (List Int)) (p : List Int) (hl : p.length ≤ 1048576) : Spec Tryz.prog 23 [.agg [.rds (II t)], .rd (I p)] (.tup [.agg [.own 0], .v (.int .i64 (renC t p))]) [.rows 27 2 (II (renT t p))] := by
  refine Spec.of_codeC T_ok Tryz.func23 rfl Tryz.ntmps23 Tryz.call23 (Nat.le_of_ble_eq_true rfl) rfl rfl (CodeV_sound T_ok (by kernel_rfl) rfl ?_)
  refine WW ?_
  refine HereO.alloc T_ok 104 rfl rfl (by decide) ?_
  refine WW ?_
  refine HereO.call T_ok rfl rfl (IsGroup_spec t) SA rfl ?_
  refine WW ?_
  refine ⟨fun h => ?_, fun h => ?_⟩
  · have hc : renC t p = 1 := by unfold renC; rw [if_neg h]
    refine HereO.opP T_ok (OpP.build built_26 rfl rfl rfl rfl) ?_
    refine WW ?_
    refine HereO.storeAgg T_ok rfl SS SS rfl SS SR rfl rfl ?_
    refine WW ?_
    exact RetC.conv (Conv.nilIn (c := 104) (tt := 26) (l := [.v nilV]) 0 150 (.rows 27 2 []) rfl (by decide) (by decide) (by rfl) rfl) (RetC.of (RetT.one 150 SE (by simp only [go_sem, Nat.reduceMul, Nat.reduceLeDiff, Nat.reduceLT, reduceIte, reduceCtorEq, Nat.reduceEqDiff, Nat.reduceSub, Nat.reduceAdd] <;> simp [renT, hc, II]) (by simp only [go_sem, Nat.reduceMul, Nat.reduceLeDiff, Nat.reduceLT, reduceIte, reduceCtorEq, Nat.reduceEqDiff, Nat.reduceSub, Nat.reduceAdd] <;> simp [renT, hc, II])))
  · have h8 := h.2.1
    refine Here.drawS T_ok 3 (Nat.le_of_ble_eq_true rfl) mixed_ok (by kernel_rfl) (by kernel_rfl) ?_
    refine WW ?_
    refine ⟨_, OpP.call' rfl rfl (order_spec t) SA rfl, ?_⟩
    refine WW ?_
    refine HereO.callOwn T_ok 15 rfl rfl (Clone_spec p (by omega)) SA rfl (by simp) rfl ?_
    refine WW ?_
    refine HereO.callQ T_ok 17 [1240] rfl rfl (SortR_spec p hl) SC rfl (by decide) (by decide) rfl (fun _ => rfl) (fun _ => rfl) (fun _ => Nat.le_of_ble_eq_true rfl) ?_
    rintro ys ⟨hperm, hsort⟩
    have hyl := hperm.length_eq
    refine WW ?_
    refine HereO.callOwn T_ok 20 rfl rfl (counting_spec t.length (by omega)) SA rfl (by simp) rfl ?_
    refine WW ?_
    refine HereO.call T_ok rfl rfl (Equal_spec ys (cnt t.length) (by omega) (by rw [cnt_len]; omega)) SA rfl ?_
    refine WW ?_
    have hs := sorted_cnt (n := t.length) hsort hperm
    refine ⟨fun h2 => ?_, fun h2 => ?_⟩
    · obtain ⟨q1, q2, q3⟩ := hs.1 h2
      have h1 := h.1
      refine ⟨⟨by omega, by omega⟩, fun h3 => ?_, fun h3 => ?_⟩
      · have hc : renC t p = 2 := by unfold renC; rw [if_pos h, permB_f fun q => h3 q.2.2.2]; rfl
        refine HereO.opP T_ok (OpP.build built_26 rfl rfl rfl rfl) ?_
        refine WW ?_
        refine HereO.storeAgg T_ok rfl SS SS rfl SS SR rfl rfl ?_
        refine WW ?_
        exact RetC.conv (Conv.nilIn (c := 104) (tt := 26) (l := [.v nilV]) 0 150 (.rows 27 2 []) rfl (by decide) (by decide) (by rfl) rfl) (RetC.of (RetT.one 150 SE (by simp only [go_sem, Nat.reduceMul, Nat.reduceLeDiff, Nat.reduceLT, reduceIte, reduceCtorEq, Nat.reduceEqDiff, Nat.reduceSub, Nat.reduceAdd] <;> simp [renT, hc, II]) (by simp only [go_sem, Nat.reduceMul, Nat.reduceLeDiff, Nat.reduceLT, reduceIte, reduceCtorEq, Nat.reduceEqDiff, Nat.reduceSub, Nat.reduceAdd] <;> simp [renT, hc, II])))
      · have hP : Perm0 t.length p := ⟨q1, q2, q3, h3⟩
        have hc : renC t p = 0 := by unfold renC; rw [if_pos h, permB_t hP]; rfl
        refine HereO.callOwn T_ok 32 rfl rfl (made_spec t.length (by omega) 68 [.box [.rd (I p)], .box [.rds (II t)]] (Fix.cons (Fix.box (Fix.rd _)) (Fix.box (Fix.rds _))) (renF t p) (fun a b ha hb => Renumber1_spec t h p hP a b ha hb)) SA rfl (by simp) rfl ?_
        refine WW ?_
        refine HereO.storeAgg T_ok rfl SS SS rfl SS SR rfl rfl ?_
        refine WW ?_
        exact RetC.of (RetT.one 1512 SE (by simp only [go_sem, Nat.reduceMul, Nat.reduceLeDiff, Nat.reduceLT, reduceIte, reduceCtorEq, Nat.reduceEqDiff, Nat.reduceSub, Nat.reduceAdd] <;> simp [renT, hc]) (by simp only [go_sem, Nat.reduceMul, Nat.reduceLeDiff, Nat.reduceLT, reduceIte, reduceCtorEq, Nat.reduceEqDiff, Nat.reduceSub, Nat.reduceAdd] <;> simp [renT, hc]))
    · have hc : renC t p = 2 := by unfold renC; rw [if_pos h, permB_f fun q => h2 (hs.2 ⟨q.1, q.2.1, q.2.2.1⟩)]; rfl
      refine HereO.opP T_ok (OpP.build built_26 rfl rfl rfl rfl) ?_
      refine WW ?_
      refine HereO.storeAgg T_ok rfl SS SS rfl SS SR rfl rfl ?_
      refine WW ?_
      exact RetC.conv (Conv.nilIn (c := 104) (tt := 26) (l := [.v nilV]) 0 150 (.rows 27 2 []) rfl (by decide) (by decide) (by rfl) rfl) (RetC.of (RetT.one 150 SE (by simp only [go_sem, Nat.reduceMul, Nat.reduceLeDiff, Nat.reduceLT, reduceIte, reduceCtorEq, Nat.reduceEqDiff, Nat.reduceSub, Nat.reduceAdd] <;> simp [renT, hc, II]) (by simp only [go_sem, Nat.reduceMul, Nat.reduceLeDiff, Nat.reduceLT, reduceIte, reduceCtorEq, Nat.reduceEqDiff, Nat.reduceSub, Nat.reduceAdd] <;> simp [renT, hc, II])))
end Go.Proofs.YtcjhojdlfnpgjaaGreat
namespace Go.Proofs.YtcjhojdlfnpgjaaGreat
open Go.RowKit Go.ChangeShapes Go.WideShapes Go.ChangeAt
set_option maxHeartbeats 16000000 in
theorem lawQuotientGroups (bs : List Int) (hl : (bs.length : Int) ≤ 9223372036854775807) (hb : ∀ j, j < bs.length → 0 ≤ bs.getD j 0 ∧ bs.getD j 0 ≤ 255) : Spec Tryz.prog 3 [.rd (BY bs)] (.v (.bool true)) [] := by
  refine Spec.of_code T_ok Tryz.func3 rfl Tryz.ntmps3 Tryz.call3 (Nat.le_of_ble_eq_true rfl) rfl rfl (CodeV_sound T_ok (by kernel_rfl) rfl ?_)
  refine WW ?_
  refine HereO.call T_ok rfl rfl (big_spec bs hl) SA rfl ?_
  refine WW ?_
  refine ⟨fun _ => trivial, fun h => ?_⟩
  have hB : Bytes bs := ⟨by omega, hb⟩
  refine HereO.callF T_ok rfl rfl (DrawQuotientOf_spec bs hB) SA ?_
  rintro ⟨t, l⟩ ⟨hsp, hl9⟩
  dsimp only [tabR] at hsp hl9 ⊢
  refine WW ?_
  refine HereO.alloc T_ok 103 rfl rfl (by decide) ?_
  refine WW ?_
  refine HereO.storeAgg T_ok rfl SS SS rfl SS SR rfl rfl ?_
  refine WW ?_
  refine HereO.call T_ok rfl rfl (implQuotientOf t l (by omega)) SA rfl ?_
  refine WW ?_
  refine HereO.alloc T_ok 105 rfl rfl (by decide) ?_
  refine WW ?_
  refine HereO.storeAgg T_ok rfl SS SS rfl SS SR rfl rfl ?_
  refine WW ?_
  refine HereO.call T_ok rfl rfl (specQuotientOf t l (by omega)) SA rfl ?_
  refine WW ?_
  refine HereO.alloc T_ok 108 rfl rfl (by decide) ?_
  refine WW ?_
  refine HereO.storeAgg T_ok rfl SS SS rfl SS SR rfl rfl ?_
  refine WW ?_
  refine HereO.call T_ok rfl rfl (implIsNormal t l (by omega)) SA rfl ?_
  refine WW ?_
  refine HereO.call T_ok rfl rfl (specIsNormal t l (by omega)) SA rfl ?_
  refine WW ?_
  obtain ⟨q1, q2, _⟩ := quoT_ok t l (by omega)
  have q3 := quoN_ok t l (by omega)
  refine HereO.call T_ok rfl rfl (groups5_spec (quoT t l) (quoT t l) q1 q2) SA rfl ?_
  refine WW ?_
  refine HereO.cutS (ε := Unit) (fun _ => True) (fun _ => [(0, .rd (BY bs)), (3, .ptr 103 0), (4, .rd (I l)), (5, .ptr 105 0), (6, .rd (I (quoN t l))), (7, .v (.int .i64 (quoC t l))), (132, .v (.bool false))])
    (fun _ => [(103, .cells 26 [.rds (II t)]), (105, .cells 26 [.rds (II (quoT t l))])]) ?_ ?_
  · refine HereO.call T_ok rfl rfl (likeInts_spec (quoN t l) (quoN t l) q3) SA rfl ?_
    refine WW ?_
    refine ⟨fun hs => ⟨(), ?_⟩, fun hs => ⟨(), fun q => hs ((quo_nrm t l).1 q).1⟩⟩
    rw [Bool.eq_iff_iff, beq_iff_eq, quo_nrm]
    exact ⟨fun q => q.2, fun q => ⟨hs, q⟩⟩
  intro _ _
  refine HereV.cutK (ε := Unit) (fun _ => True) (fun _ => [(0, .rd (BY bs)), (3, .ptr 103 0), (4, .rd (I l)), (5, .ptr 105 0), (6, .rd (I (quoN t l))), (7, .v (.int .i64 (quoC t l)))]) (fun _ => [(103, .cells 26 [.rds (II t)]), (105, .cells 26 [.rds (II (quoT t l))])]) (HereV.of T_ok ?_) ?_
  · refine WW ?_
    exact ⟨(), trivial⟩
  intro _ _
  refine HereV.cutSeq (ε := Unit) (fun _ => True) (fun _ => [(0, .rd (BY bs))]) (fun _ => []) (HereV.of T_ok ?_) ?_
  · refine WW ?_
    refine ⟨fun hq => ?_, fun hq => ?_⟩
    · obtain ⟨a1, a2⟩ := quo_hom hq
      have hg := (quo_sub hq).1
      obtain ⟨b1, _, _, _, b5, _, _⟩ := quo_all hq
      have t8 := hg.2.1
      have s1 := implIsHomomorphism t (quoT t l) (quoN t l) q3
      rw [a1, a2] at s1
      refine HereO.call T_ok rfl rfl (s1) SA rfl ?_
      refine WW ?_
      have s2 := implDerivedOf t
      rw [show codeG t = 0 from if_pos hg] at s2
      refine HereO.call T_ok rfl rfl (s2) SA rfl ?_
      refine WW ?_
      have s3 := implQuotientOf t (derL t) (derL_ok t)
      rw [der_quo hg] at s3
      refine HereO.call T_ok rfl rfl (s3) SA rfl ?_
      refine WW ?_
      refine HereO.alloc T_ok 119 rfl rfl (by decide) ?_
      refine WW ?_
      refine HereO.storeAgg T_ok rfl SS SS rfl SS SR rfl rfl ?_
      refine WW ?_
      have s4 := implIsAbelian (quoT t (derL t))
      rw [(der_ab hg).1, (der_ab hg).2] at s4
      refine HereO.call T_ok rfl rfl (s4) SA rfl ?_
      refine WW ?_
      have s5 := IsGroup_spec (quoT t l)
      rw [decide_eq_true b1] at s5
      refine HereO.call T_ok rfl rfl (s5) SA rfl ?_
      refine WW ?_
      have e : ((quoT t l).length : Int) * (l.length : Int) = t.length := by rw [← b5]; push_cast; rfl
      rw [e]
      exact ⟨by unfold InR; omega, fun q => absurd rfl q, fun _ => ⟨(), trivial⟩⟩
    · exact ⟨(), trivial⟩
  intro _ _
  refine HereV.of T_ok ?_
  refine WW ?_
  refine HereO.callF T_ok rfl rfl (DrawHomomorphismsOf_spec bs hB) SA ?_
  rintro ⟨a, b⟩ ⟨ha, hb'⟩
  dsimp only [twoR] at ha hb' ⊢
  refine WW ?_
  refine HereO.alloc T_ok 124 rfl rfl (by decide) ?_
  refine WW ?_
  refine HereO.alloc T_ok 125 rfl rfl (by decide) ?_
  refine WW ?_
  refine HereO.storeAgg T_ok rfl SS SS rfl SS SR rfl rfl ?_
  refine WW ?_
  refine HereO.storeAgg T_ok rfl SS SS rfl SS SR rfl rfl ?_
  refine WW ?_
  refine HereO.call T_ok rfl rfl (HomomorphismsOf_spec a b) SA rfl ?_
  refine WW ?_
  refine HereO.call T_ok rfl rfl (specHomomorphismsOf a b) SA rfl ?_
  refine WW ?_
  obtain ⟨r1, r2, _⟩ := homsR_ok a b
  refine HereO.cutS (ε := Unit) (fun _ => True) (fun _ => [(0, .rd (BY bs)), (24, .ptr 124 0), (25, .ptr 125 0), (26, .rds (II (homsR a b))), (223, .v (.bool false))])
    (fun _ => [(124, .cells 26 [.rds (II a)]), (125, .cells 26 [.rds (II b)])]) ?_ ?_
  · refine HereO.call T_ok rfl rfl (rows5_spec (homsR a b) (homsR a b) r1 r2) SA rfl ?_
    refine WW ?_
    exact ⟨(), trivial⟩
  intro _ _
  refine HereV.cutK (ε := Unit) (fun _ => True) (fun _ => [(0, .rd (BY bs)), (24, .ptr 124 0), (25, .ptr 125 0), (26, .rds (II (homsR a b)))]) (fun _ => [(124, .cells 26 [.rds (II a)]), (125, .cells 26 [.rds (II b)])]) (HereV.of T_ok ?_) ?_
  · refine WW ?_
    exact ⟨(), trivial⟩
  intro _ _
  refine HereV.cutSeq (ε := Unit) (fun _ => True) (fun _ => [(0, .rd (BY bs))]) (fun _ => []) (HereV.of T_ok ?_) ?_
  · refine WW ?_
    refine Here.loopV T_ok (κ := Nat) (fun i => i ≤ (homsR a b).length) (fun i => (homsR a b).length - i) (fun i => [(0, .rd (BY bs)), (24, .ptr 124 0), (25, .ptr 125 0), (26, .rds (II (homsR a b))), (30, .v (.int .i64 i))]) (fun _ => [(124, .cells 26 [.rds (II a)]), (125, .cells 26 [.rds (II b)])]) 0 (by simp) (by simp only [go_sem, Nat.reduceMul, Nat.reduceLeDiff, Nat.reduceLT, reduceIte, reduceCtorEq, Nat.reduceEqDiff, Nat.reduceSub, Nat.reduceAdd]; simp) SW ?_
    intro i hi
    refine WW ?_
    refine ⟨fun h2 => ?_, fun h2 => ⟨(), trivial⟩⟩
    refine ⟨fun h3 => ?_, fun h3 => ⟨(), trivial⟩⟩
    refine Here.draw T_ok mixed_ok (by kernel_rfl) ?_
    refine WW ?_
    have hm : (homsR a b).getD i [] ∈ homsR a b := by
      rw [List.getD_eq_getElem?_getD, List.getElem?_eq_getElem (show i < (homsR a b).length by omega), Option.getD_some]
      exact List.getElem_mem _
    obtain ⟨w1, w2⟩ := homs_told hm
    have s7 := implIsHomomorphism a b ((homsR a b).getD i []) (r2 i (by omega))
    rw [w1, w2] at s7
    refine ⟨⟨by omega, by omega⟩, ?_⟩
    refine ⟨_, OpP.call' rfl rfl (s7) SA rfl, ?_⟩
    refine WW ?_
    exact ⟨by unfold InR; omega, i + 1, by omega, by omega, by push_cast; rfl⟩
  intro _ _
  refine HereV.of T_ok ?_
  refine WW ?_
  refine HereO.callF T_ok rfl rfl (DrawFindIsomorphism_spec bs hB) SA ?_
  rintro ⟨c, d⟩ ⟨hc, hd⟩
  dsimp only [twoR] at hc hd ⊢
  refine WW ?_
  refine HereO.alloc T_ok 133 rfl rfl (by decide) ?_
  refine WW ?_
  refine HereO.alloc T_ok 134 rfl rfl (by decide) ?_
  refine WW ?_
  refine HereO.storeAgg T_ok rfl SS SS rfl SS SR rfl rfl ?_
  refine WW ?_
  refine HereO.storeAgg T_ok rfl SS SS rfl SS SR rfl rfl ?_
  refine WW ?_
  refine HereO.call T_ok rfl rfl (implFindIsomorphism c d) SA rfl ?_
  refine WW ?_
  refine HereO.call T_ok rfl rfl (specFindIsomorphism c d) SA rfl ?_
  refine WW ?_
  have i1 := isoR_ok c d
  refine HereO.cutS (ε := Unit) (fun _ => True) (fun _ => [(0, .rd (BY bs)), (33, .ptr 133 0), (34, .ptr 134 0), (35, .rd (I (isoR c d))), (36, .v (.int .i64 (isoC c d))), (275, .v (.bool false))])
    (fun _ => [(133, .cells 26 [.rds (II c)]), (134, .cells 26 [.rds (II d)])]) ?_ ?_
  · refine HereO.call T_ok rfl rfl (likeInts_spec (isoR c d) (isoR c d) i1) SA rfl ?_
    refine WW ?_
    exact ⟨(), trivial⟩
  intro _ _
  refine HereV.cutK (ε := Unit) (fun _ => True) (fun _ => [(0, .rd (BY bs)), (33, .ptr 133 0), (34, .ptr 134 0), (35, .rd (I (isoR c d))), (36, .v (.int .i64 (isoC c d)))]) (fun _ => [(133, .cells 26 [.rds (II c)]), (134, .cells 26 [.rds (II d)])]) (HereV.of T_ok ?_) ?_
  · refine WW ?_
    exact ⟨(), trivial⟩
  intro _ _
  refine HereV.cutSeq (ε := Unit) (fun _ => True) (fun _ => [(0, .rd (BY bs))]) (fun _ => []) (HereV.of T_ok ?_) ?_
  · refine WW ?_
    refine ⟨fun hq => ?_, fun hq => ⟨(), trivial⟩⟩
    obtain ⟨j1, j2⟩ := iso_told hq
    have s6 := implRenumberGroup c (isoR c d) i1
    rw [j1, j2] at s6
    refine HereO.call T_ok rfl rfl (s6) SA rfl ?_
    refine WW ?_
    refine HereO.alloc T_ok 139 rfl rfl (by decide) ?_
    refine WW ?_
    refine HereO.storeAgg T_ok rfl SS SS rfl SS SR rfl rfl ?_
    refine WW ?_
    refine HereO.call T_ok rfl rfl (groups5_spec d d (by have := hd.1; omega) (fun x hx => by have := hd.2 x hx; omega)) SA rfl ?_
    refine WW ?_
    exact ⟨(), trivial⟩
  intro _ _
  refine HereV.of T_ok ?_
  refine WW ?_
  refine HereO.callF T_ok rfl rfl (DrawDirectProduct_spec bs hB) SA ?_
  rintro ⟨u, v⟩ ⟨hu, hv⟩
  dsimp only [twoR] at hu hv ⊢
  refine WW ?_
  refine HereO.alloc T_ok 141 rfl rfl (by decide) ?_
  refine WW ?_
  refine HereO.alloc T_ok 142 rfl rfl (by decide) ?_
  refine WW ?_
  refine HereO.storeAgg T_ok rfl SS SS rfl SS SR rfl rfl ?_
  refine WW ?_
  refine HereO.storeAgg T_ok rfl SS SS rfl SS SR rfl rfl ?_
  refine WW ?_
  refine HereO.call T_ok rfl rfl (implDirectProduct u v) SA rfl ?_
  refine WW ?_
  refine HereO.alloc T_ok 143 rfl rfl (by decide) ?_
  refine WW ?_
  refine HereO.storeAgg T_ok rfl SS SS rfl SS SR rfl rfl ?_
  refine WW ?_
  refine HereO.call T_ok rfl rfl (specDirectProduct u v) SA rfl ?_
  refine WW ?_
  refine HereO.alloc T_ok 145 rfl rfl (by decide) ?_
  refine WW ?_
  refine HereO.storeAgg T_ok rfl SS SS rfl SS SR rfl rfl ?_
  refine WW ?_
  refine HereO.callF T_ok rfl rfl (DrawRenumberGroup_spec bs hB) SA ?_
  rintro ⟨w, p⟩ ⟨hw, hp⟩
  dsimp only [tabR] at hw hp ⊢
  refine WW ?_
  refine HereO.alloc T_ok 147 rfl rfl (by decide) ?_
  refine WW ?_
  refine HereO.storeAgg T_ok rfl SS SS rfl SS SR rfl rfl ?_
  refine WW ?_
  refine HereO.call T_ok rfl rfl (implRenumberGroup w p (by omega)) SA rfl ?_
  refine WW ?_
  refine HereO.alloc T_ok 149 rfl rfl (by decide) ?_
  refine WW ?_
  refine HereO.storeAgg T_ok rfl SS SS rfl SS SR rfl rfl ?_
  refine WW ?_
  refine HereO.call T_ok rfl rfl (specRenumberGroup w p (by omega)) SA rfl ?_
  refine WW ?_
  refine HereO.alloc T_ok 151 rfl rfl (by decide) ?_
  refine WW ?_
  refine HereO.storeAgg T_ok rfl SS SS rfl SS SR rfl rfl ?_
  refine WW ?_
  refine HereO.callF T_ok rfl rfl (DrawIsHomomorphism_spec bs hB) SA ?_
  rintro ⟨x, y, z⟩ ⟨hx, hy, hz⟩
  dsimp only [tab2R] at hx hy hz ⊢
  refine WW ?_
  refine HereO.alloc T_ok 153 rfl rfl (by decide) ?_
  refine WW ?_
  refine HereO.alloc T_ok 154 rfl rfl (by decide) ?_
  refine WW ?_
  refine HereO.storeAgg T_ok rfl SS SS rfl SS SR rfl rfl ?_
  refine WW ?_
  refine HereO.storeAgg T_ok rfl SS SS rfl SS SR rfl rfl ?_
  refine WW ?_
  refine HereO.call T_ok rfl rfl (implIsHomomorphism x y z (by omega)) SA rfl ?_
  refine WW ?_
  refine HereO.call T_ok rfl rfl (specIsHomomorphism x y z (by omega)) SA rfl ?_
  refine WW ?_
  refine HereO.callF T_ok rfl rfl (DrawDerivedOf_spec bs hB) SA ?_
  rintro r hr
  dsimp only [oneR] at hr ⊢
  refine WW ?_
  refine HereO.alloc T_ok 160 rfl rfl (by decide) ?_
  refine WW ?_
  refine HereO.storeAgg T_ok rfl SS SS rfl SS SR rfl rfl ?_
  refine WW ?_
  refine HereO.call T_ok rfl rfl (implDerivedOf r) SA rfl ?_
  refine WW ?_
  refine HereO.call T_ok rfl rfl (specDerivedOf r) SA rfl ?_
  refine WW ?_
  obtain ⟨k1, k2, _⟩ := dpL_ok u v
  obtain ⟨k3, k4, _⟩ := renT_ok w p (by omega)
  refine HereO.call T_ok rfl rfl (groups5_spec (dpL u v) (dpL u v) k1 k2) SA rfl ?_
  refine WW ?_
  refine HereO.call T_ok rfl rfl (groups5_spec (renT w p) (renT w p) k3 k4) SA rfl ?_
  refine WW ?_
  refine HereO.call T_ok rfl rfl (likeInts_spec (derL r) (derL r) (derL_ok r)) SA rfl ?_
  exact WW trivial
section
variable {H : Type} {enc : TypeId × Value → H} {W : World} {base : Nat} {held : Bool}
theorem BY_get {zs : List Int} {L j : Nat} {u : Value} (h : (BY (zs.take L))[j]? = some u) : j < L ∧ j < zs.length ∧ u = .int .u8 (zs.getD j 0) := by
  simp only [BY, List.getElem?_map, List.getElem?_take, Option.map_eq_some_iff] at h
  obtain ⟨x, h1, rfl⟩ := h
  by_cases hj : j < L
  · rw [if_pos hj] at h1
    have hz := (List.getElem?_eq_some_iff.1 h1).1
    refine ⟨hj, hz, ?_⟩
    rw [List.getD_eq_getElem?_getD, h1]; rfl
  · rw [if_neg hj] at h1; cases h1
theorem RS_bytes {a : Addr} {L C : Nat} {zs : List Int} (hL : L ≤ C) (hC : C ≤ maxLen) (hz : L ≤ zs.length) (hc : ∀ c, c < L → W.cell? (a.add c) = some (.int .u8 (zs.getD c 0))) : RS noF W (BY (zs.take L)) (.slice (some a) L C) := by
  have hl : (BY (zs.take L)).length = L := by simp [BY]; omega
  refine ⟨some a, C, by rw [hl], by omega, by simp only [maxLen] at hC; omega, fun hp => ⟨a, rfl, fun h => h, fun j u hu => ?_⟩⟩
  obtain ⟨h1, h2, rfl⟩ := BY_get hu
  exact hc j h1
theorem open_code {v : Value} {d : DataW H} {p : List MemPlace} (hval : Value.okWide Tryz.prog W .any base 22 v) (h : DataW.Trod enc Tryz.prog W 0 (fun _ => true) true 22 v d p) : ∃ bs : List Int, LRel noI noF W (.rd (BY bs)) v ∧ (bs.length : Int) ≤ 9223372036854775807 ∧ ∀ j, j < bs.length → 0 ≤ bs.getD j 0 ∧ bs.getD j 0 ≤ 255 := by
  obtain ⟨fuel, h⟩ := h
  have hv : v.cells.toList = [v] := by
    simp only [Value.okWide, Tryz.underlying22, Cell.okWide] at hval
    cases v <;> simp_all [Cell.ok, Value.cells]
  rw [hv] at h
  rcases open_ints Tryz.underlying22 Tryz.underlying5 (by kernel_rfl) h with ⟨h1, _⟩ | ⟨a, len, cap, zs, h1, _, hlc, hcm, hz, _, hc, hw⟩
  · simp only [List.cons.injEq, and_true] at h1
    subst h1
    exact ⟨[], by simp only [LRel]; exact RS_nil, by simp, fun j hj => by simp at hj⟩
  · simp only [List.cons.injEq, and_true] at h1
    subst h1
    simp only [if_true] at hz
    have hcm' : cap ≤ 9223372036854775807 := by simpa [maxLen] using hcm
    refine ⟨zs.take len, by simp only [LRel]; exact RS_bytes hlc hcm (by omega) fun c h => hc c (by omega), by simp only [List.length_take]; omega, fun j hj => ?_⟩
    rw [List.length_take] at hj
    have e : (zs.take len).getD j 0 = zs[j]'(by omega) := by
      rw [List.getD_eq_getElem?_getD, List.getElem?_take, if_pos (by omega), List.getElem?_eq_getElem (by omega)]
      rfl
    rw [e]
    have h8 := hw _ (List.getElem_mem (show j < zs.length by omega))
    simp only [Lit.wf, Bool.and_eq_true, decide_eq_true_eq, IntKind.has] at h8
    exact h8
end
theorem liftedQuotientGroups (os : Os) (started : os.Started) (H : Type) (enc : TypeId × Value → H) :
    ReturnsInHanded {} Tryz.checked os 3 .any (Rows.fnQuotientGroupsSpec.pre6 enc Tryz.prog Tryz.f3 Rows.fnQuotientGroupsRow.domain false) (Rows.fnQuotientGroupsSpec.post enc Tryz.prog Tryz.f3 false true false false) := by
  refine returnsInHanded_of_change_sized (C := Tryz.checked) own started (by kernel_rfl) Tryz.func3
    (ChangeSpec.witness6 (enc := enc) (C := Tryz.checked) false ⟨#[], #[.slice none 0 0], []⟩ 8 (by kernel_rfl) (by kernel_rfl) (by kernel_rfl) (by kernel_rfl)) ?_
  intro W base args ds gs before hval hW _ _ _
  have hW0 := hW
  obtain ⟨p, q, hA, hV, rfl, _, _⟩ := hW
  rw [Tryz.params3] at hA
  obtain ⟨va, da, rfl, rfl, hda⟩ := trodAll_one hA
  obtain ⟨rfl, _⟩ := trodVars_none hV
  obtain ⟨bs, hla, hl, hb⟩ := open_code (hval 0 22 va (by kernel_rfl) rfl) hda
  refine (law_calls (W := W) (ys := [va]) (lawQuotientGroups bs hl hb) (by simp only [LRels]; exact ⟨_, _, rfl, hla, rfl⟩)).mono ?_
  rintro e W' ⟨rfl, hb⟩
  exact ⟨_, rfl, law_post rfl (by kernel_rfl) (by rw [Tryz.params3]; decide +kernel) rfl hW0 hb⟩
theorem fnQuotientGroups_holds : Rows.FnQuotientGroupsSaid :=
  OpenClaim.holds_of_wide 3 Tryz.f3 rfl rfl rfl rfl rfl rfl rfl ⟨rfl, rfl, rfl, rfl, rfl⟩ rfl rfl rfl rfl rfl (by kernel_rfl) Tryz.func3 (by kernel_rfl)
    (of_decide_eq_true (by kernel_rfl)) (by unfold Func.isWrapper; first | (rw [if_pos (by decide +kernel)]; kernel_rfl) | (rw [if_neg (by decide +kernel)]; exact ⟨rfl, rfl⟩))
    (fun os started H enc _ => liftedQuotientGroups os started H enc)
#print axioms fnQuotientGroups_holds
end Go.Proofs.YtcjhojdlfnpgjaaGreat
