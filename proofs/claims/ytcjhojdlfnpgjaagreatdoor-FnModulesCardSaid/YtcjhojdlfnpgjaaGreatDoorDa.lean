/- Contracts: the codes of modules; LeadNumber, NormOf. -/
import Derived.Test.YtcjhojdlfnpgjaaGreatDoorGd
import Derived.Test.YtcjhojdlfnpgjaaGreatDoorHa
namespace Go.Proofs.YtcjhojdlfnpgjaaGreatDoor
open Go.RowKit
set_option linter.unusedVariables false
set_option linter.unusedSimpArgs false
set_option maxRecDepth 100000

/-- Modules, as a list is handed over. -/
def MM (ms : List (Int × List Int)) : List (LV × LV) := ms.map fun x => (.v (.int .i64 x.1), .rd (I x.2))
theorem MM_len (ms : List (Int × List Int)) : (MM ms).length = ms.length := by simp [MM]
theorem MM_get {ms : List (Int × List Int)} {k : Nat} {x : Int × List Int} (h : ms[k]? = some x) : (MM ms)[k]? = some (.v (.int .i64 x.1), .rd (I x.2)) := by simp [MM, h]
theorem MM_fix : ∀ ms, Fix (flat (MM ms))
  | [] => Fix.nil
  | x :: ms => Fix.cons (Fix.v _) (Fix.cons (Fix.rd _) (MM_fix ms))
theorem MM_b (σ : Nat → Option OC) (ms : List (Int × List Int)) : closeBs σ (flat (MM ms)) = flat (MM ms) := (MM_fix ms).b σ
theorem MM_k (q : Nat → Bool) (ms : List (Int × List Int)) : kills q (flat (MM ms)) = flat (MM ms) := (MM_fix ms).k q
attribute [go_sem] MM_b MM_k
def Mods (t : List (List Int)) (ms : List (Int × List Int)) : Prop := ∀ x ∈ ms, Mod t x.1 x.2
instance (t : List (List Int)) (ms : List (Int × List Int)) : Decidable (Mods t ms) := List.decidableBAll _ _

theorem areModules_spec (t : List (List Int)) (ms : List (Int × List Int)) (hn : ms ≠ []) (hl : ms.length ≤ 1000) : Spec Tryz.prog 58 [.agg [.rds (II t)], .rdA 2 (flat (MM ms))] (.v (.bool (decide (Grp t ∧ Mods t ms)))) [] := by
  have h0 : 0 < ms.length := List.length_pos_iff.2 hn
  refine Spec.of_code T_ok Tryz.func58 rfl Tryz.ntmps58 Tryz.call58 (Nat.le_of_ble_eq_true rfl) rfl rfl (CodeV_sound T_ok (by kernel_rfl) rfl ?_)
  simp only [Tryz.results58, go_sem, Nat.reduceMul, Nat.reduceLeDiff, Nat.reduceLT, reduceIte, reduceCtorEq, Nat.reduceEqDiff, Nat.reduceSub, Nat.reduceAdd]
  refine HereO.opP T_ok (OpP.lenA (ls := MM ms) sl2_29 rfl rfl) ?_
  simp only [Tryz.results58, go_sem, Nat.reduceMul, Nat.reduceLeDiff, Nat.reduceLT, reduceIte, reduceCtorEq, Nat.reduceEqDiff, Nat.reduceSub, Nat.reduceAdd]
  rw [MM_len]
  refine Here.loopV T_ok (fun k => k ≤ ms.length ∧ (0 < k → Grp t) ∧ ∀ j x, j < k → ms[j]? = some x → Mod t x.1 x.2) (fun k => ms.length - k) (fun k => [(2, .box [.rds (II t)]), (7, .rdA 2 (flat (MM ms))), (8, .v (.int .i64 ms.length)), (9, .v (.int .i64 k))]) (fun _ => []) 0 (by simp) (by simp only [Tryz.results58, go_sem, Nat.reduceMul, Nat.reduceLeDiff, Nat.reduceLT, reduceIte, reduceCtorEq, Nat.reduceEqDiff, Nat.reduceSub, Nat.reduceAdd]; rfl) trivial ?_
  rintro k ⟨hk, hg, hm⟩
  simp only [Tryz.results58, go_sem, Nat.reduceMul, Nat.reduceLeDiff, Nat.reduceLT, reduceIte, reduceCtorEq, Nat.reduceEqDiff, Nat.reduceSub, Nat.reduceAdd]
  refine ⟨fun h2 => ?_, fun h2 => ?_⟩
  · obtain ⟨x, hx⟩ : ∃ x, ms[k]? = some x := ⟨ms[k]'(by omega), List.getElem?_eq_getElem _⟩
    have hxm : x ∈ ms := List.mem_of_getElem? hx
    refine HereO.opP T_ok (OpP.indexA (ls := MM ms) (j := k) sl2_29 rfl rfl rfl (MM_get hx)) ?_
    simp only [Tryz.results58, go_sem, Nat.reduceMul, Nat.reduceLeDiff, Nat.reduceLT, reduceIte, reduceCtorEq, Nat.reduceEqDiff, Nat.reduceSub, Nat.reduceAdd]
    refine HereO.alloc T_ok 106 rfl rfl (by decide) ?_
    simp only [Tryz.results58, go_sem, Nat.reduceMul, Nat.reduceLeDiff, Nat.reduceLT, reduceIte, reduceCtorEq, Nat.reduceEqDiff, Nat.reduceSub, Nat.reduceAdd]
    refine HereO.storeAgg T_ok rfl (by simp only [go_sem, Nat.reduceMul, Nat.reduceLeDiff, Nat.reduceLT, reduceIte, reduceCtorEq, Nat.reduceEqDiff, Nat.reduceSub, Nat.reduceAdd] <;> rfl) (by simp only [go_sem, Nat.reduceMul, Nat.reduceLeDiff, Nat.reduceLT, reduceIte, reduceCtorEq, Nat.reduceEqDiff, Nat.reduceSub, Nat.reduceAdd] <;> rfl) rfl (by simp only [go_sem, Nat.reduceMul, Nat.reduceLeDiff, Nat.reduceLT, reduceIte, reduceCtorEq, Nat.reduceEqDiff, Nat.reduceSub, Nat.reduceAdd] <;> rfl) rfl rfl rfl ?_
    simp only [Tryz.results58, go_sem, Nat.reduceMul, Nat.reduceLeDiff, Nat.reduceLT, reduceIte, reduceCtorEq, Nat.reduceEqDiff, Nat.reduceSub, Nat.reduceAdd]
    refine HereO.call T_ok rfl rfl (IsGroup_spec t) (by simp only [go_sem, Nat.reduceMul, Nat.reduceLeDiff, Nat.reduceLT, reduceIte, reduceCtorEq, Nat.reduceEqDiff, Nat.reduceSub, Nat.reduceAdd, List.toList_toArray] <;> first | rfl | exact ⟨rfl, rfl⟩) rfl ?_
    simp only [Tryz.results58, go_sem, Nat.reduceMul, Nat.reduceLeDiff, Nat.reduceLT, reduceIte, reduceCtorEq, Nat.reduceEqDiff, Nat.reduceSub, Nat.reduceAdd]
    refine ⟨fun h3 => ?_, fun h3 => (decide_eq_false fun q => h3 q.1).symm⟩
    refine HereO.call T_ok rfl rfl (isModule_spec t x.1 x.2 h3) (by simp only [go_sem, Nat.reduceMul, Nat.reduceLeDiff, Nat.reduceLT, reduceIte, reduceCtorEq, Nat.reduceEqDiff, Nat.reduceSub, Nat.reduceAdd, List.toList_toArray] <;> first | rfl | exact ⟨rfl, rfl⟩) rfl ?_
    simp only [Tryz.results58, go_sem, Nat.reduceMul, Nat.reduceLeDiff, Nat.reduceLT, reduceIte, reduceCtorEq, Nat.reduceEqDiff, Nat.reduceSub, Nat.reduceAdd]
    refine ⟨fun h4 => (decide_eq_false fun q => h4 (q.2 x hxm)).symm, fun h4 => ⟨by unfold InR; omega, k + 1, ⟨by omega, fun _ => h3, fun j y hj hy => ?_⟩, by omega, by simp⟩⟩
    by_cases e : j = k
    · subst e; rw [hx] at hy; cases hy; exact h4
    · exact hm j y (by omega) hy
  · refine (decide_eq_true ⟨hg (by omega), fun x hx => ?_⟩).symm
    obtain ⟨j, hj⟩ := List.getElem?_of_mem hx
    exact hm j x (by have := (List.getElem?_eq_some_iff.1 hj).1; omega) hj

def codeM (t : List (List Int)) (ms : List (Int × List Int)) : Int := if Grp t ∧ Mods t ms then 0 else 1
theorem moduleCode_spec (t : List (List Int)) (ms : List (Int × List Int)) (hn : ms ≠ []) (hl : ms.length ≤ 1000) : Spec Tryz.prog 33 [.agg [.rds (II t)], .rdA 2 (flat (MM ms))] (.v (.int .i64 (codeM t ms))) [] := by
  refine Spec.of_code T_ok Tryz.func33 rfl Tryz.ntmps33 Tryz.call33 (Nat.le_of_ble_eq_true rfl) rfl rfl (CodeV_sound T_ok (by kernel_rfl) rfl ?_)
  simp only [Tryz.results33, go_sem, Nat.reduceMul, Nat.reduceLeDiff, Nat.reduceLT, reduceIte, reduceCtorEq, Nat.reduceEqDiff, Nat.reduceSub, Nat.reduceAdd]
  refine HereO.call T_ok rfl rfl (areModules_spec t ms hn hl) (by simp only [go_sem, Nat.reduceMul, Nat.reduceLeDiff, Nat.reduceLT, reduceIte, reduceCtorEq, Nat.reduceEqDiff, Nat.reduceSub, Nat.reduceAdd, List.toList_toArray] <;> first | rfl | exact ⟨rfl, rfl⟩) rfl ?_
  simp only [Tryz.results33, go_sem, Nat.reduceMul, Nat.reduceLeDiff, Nat.reduceLT, reduceIte, reduceCtorEq, Nat.reduceEqDiff, Nat.reduceSub, Nat.reduceAdd]
  exact ⟨fun h => by unfold codeM; rw [if_neg h], fun h => by unfold codeM; rw [if_pos h]⟩
theorem l02Code_spec (t : List (List Int)) (ms : List (Int × List Int)) (hl : ms.length ≤ 1000) : Spec Tryz.prog 36 [.agg [.rds (II t)], .rdA 2 (flat (MM ms))] (.v (.int .i64 (codeM t ms))) [] := by
  refine Spec.of_code T_ok Tryz.func36 rfl Tryz.ntmps36 Tryz.call36 (Nat.le_of_ble_eq_true rfl) rfl rfl (CodeV_sound T_ok (by kernel_rfl) rfl ?_)
  simp only [Tryz.results36, go_sem, Nat.reduceMul, Nat.reduceLeDiff, Nat.reduceLT, reduceIte, reduceCtorEq, Nat.reduceEqDiff, Nat.reduceSub, Nat.reduceAdd]
  refine HereO.call T_ok rfl rfl (l01Is_spec t) (by simp only [go_sem, Nat.reduceMul, Nat.reduceLeDiff, Nat.reduceLT, reduceIte, reduceCtorEq, Nat.reduceEqDiff, Nat.reduceSub, Nat.reduceAdd, List.toList_toArray] <;> first | rfl | exact ⟨rfl, rfl⟩) rfl ?_
  simp only [Tryz.results36, go_sem, Nat.reduceMul, Nat.reduceLeDiff, Nat.reduceLT, reduceIte, reduceCtorEq, Nat.reduceEqDiff, Nat.reduceSub, Nat.reduceAdd]
  refine ⟨fun h => by unfold codeM; rw [if_neg fun q => h q.1], fun h => ?_⟩
  refine Here.loopV T_ok (fun k => k ≤ ms.length ∧ ∀ j x, j < k → ms[j]? = some x → Mod t x.1 x.2) (fun k => ms.length - k) (fun k => [(1, .rdA 2 (flat (MM ms))), (2, .box [.rds (II t)]), (5, .v (.int .i64 k))]) (fun _ => []) 0 (by simp) (by simp only [Tryz.results36, go_sem, Nat.reduceMul, Nat.reduceLeDiff, Nat.reduceLT, reduceIte, reduceCtorEq, Nat.reduceEqDiff, Nat.reduceSub, Nat.reduceAdd]; rfl) trivial ?_
  rintro k ⟨hk, hm⟩
  simp only [Tryz.results36, go_sem, Nat.reduceMul, Nat.reduceLeDiff, Nat.reduceLT, reduceIte, reduceCtorEq, Nat.reduceEqDiff, Nat.reduceSub, Nat.reduceAdd]
  refine HereO.opP T_ok (OpP.lenA (ls := MM ms) sl2_29 rfl rfl) ?_
  simp only [Tryz.results36, go_sem, Nat.reduceMul, Nat.reduceLeDiff, Nat.reduceLT, reduceIte, reduceCtorEq, Nat.reduceEqDiff, Nat.reduceSub, Nat.reduceAdd]
  rw [MM_len]
  refine ⟨fun h2 => ?_, fun h2 => ?_⟩
  · obtain ⟨x, hx⟩ : ∃ x, ms[k]? = some x := ⟨ms[k]'(by omega), List.getElem?_eq_getElem _⟩
    have hxm : x ∈ ms := List.mem_of_getElem? hx
    refine Here.draw T_ok mixed_ok (by kernel_rfl) ?_
    simp only [Tryz.results36, go_sem, Nat.reduceMul, Nat.reduceLeDiff, Nat.reduceLT, reduceIte, reduceCtorEq, Nat.reduceEqDiff, Nat.reduceSub, Nat.reduceAdd]
    refine ⟨_, OpP.indexA (ls := MM ms) (j := k) sl2_29 rfl rfl rfl (MM_get hx), ?_⟩
    simp only [Tryz.results36, go_sem, Nat.reduceMul, Nat.reduceLeDiff, Nat.reduceLT, reduceIte, reduceCtorEq, Nat.reduceEqDiff, Nat.reduceSub, Nat.reduceAdd]
    refine ⟨_, OpP.call' rfl rfl (l02Is_spec t x.1 x.2 h) (by simp only [go_sem, Nat.reduceMul, Nat.reduceLeDiff, Nat.reduceLT, reduceIte, reduceCtorEq, Nat.reduceEqDiff, Nat.reduceSub, Nat.reduceAdd, List.toList_toArray] <;> first | rfl | exact ⟨rfl, rfl⟩) rfl, ?_⟩
    simp only [Tryz.results36, go_sem, Nat.reduceMul, Nat.reduceLeDiff, Nat.reduceLT, reduceIte, reduceCtorEq, Nat.reduceEqDiff, Nat.reduceSub, Nat.reduceAdd]
    refine ⟨fun h4 => by unfold codeM; rw [if_neg fun q => h4 (q.2 x hxm)], fun h4 => ⟨by unfold InR; omega, k + 1, ⟨by omega, fun j y hj hy => ?_⟩, by omega, by simp⟩⟩
    by_cases e : j = k
    · subst e; rw [hx] at hy; cases hy; exact h4
    · exact hm j y (by omega) hy
  · unfold codeM
    rw [if_pos]
    refine ⟨h, fun x hx => ?_⟩
    obtain ⟨j, hj⟩ := List.getElem?_of_mem hx
    exact hm j x (by have := (List.getElem?_eq_some_iff.1 hj).1; omega) hj

/-- A module that is handed over. -/
theorem Mods1 {t : List (List Int)} {m : Int} {l : List Int} : Mods t [(m, l)] ↔ Mod t m l := by simp [Mods]
theorem codeM1_ok {t : List (List Int)} {m : Int} {l : List Int} (h : codeM t [(m, l)] = 0) : Grp t ∧ Mod t m l := by
  unfold codeM at h
  split at h
  · rename_i q; exact ⟨q.1, Mods1.1 q.2⟩
  · omega

def codeL (t : List (List Int)) (m : Int) (l : List Int) (e x : Int) : Int := if codeM t [(m, l)] = 0 then (if (0 ≤ e ∧ e < t.length) ∧ 0 ≤ x ∧ x < m then 0 else 2) else 1
def leadV (t : List (List Int)) (m : Int) (l : List Int) (e x : Int) : Int := if codeL t m l e x = 0 then (l.getD e.toNat 0 * x).tmod m else 0
theorem one_in {n x : Int} : AreIn n [x] ↔ 0 ≤ x ∧ x < n := by
  constructor
  · intro h; simpa using h 0 (by simp)
  · intro h j hj
    obtain rfl : j = 0 := by simp at hj; omega
    simpa using h
theorem areIn1_spec (n x : Int) : Spec Tryz.prog 34 [.v (.int .i64 n), .rd (I [x])] (.v (.bool (decide (0 ≤ x ∧ x < n)))) [] := by
  have := areIn_spec n [x] (by simp)
  rwa [decide_eq_decide.2 one_in] at this
theorem codeM_vals (t : List (List Int)) (ms : List (Int × List Int)) : codeM t ms = 0 ∨ codeM t ms = 1 := by unfold codeM; split <;> simp
theorem lead_ok {t : List (List Int)} {m : Int} {l : List Int} {e x : Int} (h : Mod t m l) (he : 0 ≤ e ∧ e < t.length) (hx : 0 ≤ x ∧ x < m) : (0 ≤ e ∧ e < (l.length : Int)) ∧ InR (l.getD e.toNat 0 * x) ∧ ¬ m = 0 := by
  obtain ⟨⟨h1, h2⟩, h3, h4, h5⟩ := h
  obtain ⟨a, rfl⟩ := Int.eq_ofNat_of_zero_le he.1
  have hu := h4 a (by omega)
  refine ⟨by omega, ?_, by omega⟩
  rw [Int.toNat_natCast]
  obtain ⟨u1, u2, _⟩ := hu
  generalize l.getD a 0 = u at u1 u2
  have k1 : 0 ≤ u * x := Int.mul_nonneg (by omega) hx.1
  have k2 : u * x ≤ 12 * 12 := Int.mul_le_mul (by omega) (by omega) hx.1 (by omega)
  unfold InR
  omega
theorem implLeadNumber (t : List (List Int)) (m : Int) (l : List Int) (e x : Int) : Spec Tryz.prog 10 [.agg [.rds (II t)], .agg [.v (.int .i64 m), .rd (I l)], .v (.int .i64 e), .v (.int .i64 x)] (.tup [.v (.int .i64 (leadV t m l e x)), .v (.int .i64 (codeL t m l e x))]) [] := by
  refine Spec.of_code T_ok Tryz.func10 rfl Tryz.ntmps10 Tryz.call10 (Nat.le_of_ble_eq_true rfl) rfl rfl (CodeV_sound T_ok (by kernel_rfl) rfl ?_)
  simp only [Tryz.results10, go_sem, Nat.reduceMul, Nat.reduceLeDiff, Nat.reduceLT, reduceIte, reduceCtorEq, Nat.reduceEqDiff, Nat.reduceSub, Nat.reduceAdd]
  refine HereO.opP T_ok (OpP.buildA sl2_29 (MM [(m, l)]) rfl rfl (by decide) (by decide) rfl rfl) ?_
  simp only [Tryz.results10, go_sem, Nat.reduceMul, Nat.reduceLeDiff, Nat.reduceLT, reduceIte, reduceCtorEq, Nat.reduceEqDiff, Nat.reduceSub, Nat.reduceAdd]
  refine HereO.call T_ok rfl rfl (moduleCode_spec t [(m, l)] (by simp) (by simp)) (by simp only [go_sem, Nat.reduceMul, Nat.reduceLeDiff, Nat.reduceLT, reduceIte, reduceCtorEq, Nat.reduceEqDiff, Nat.reduceSub, Nat.reduceAdd, List.toList_toArray] <;> first | rfl | exact ⟨rfl, rfl⟩) rfl ?_
  simp only [Tryz.results10, go_sem, Nat.reduceMul, Nat.reduceLeDiff, Nat.reduceLT, reduceIte, reduceCtorEq, Nat.reduceEqDiff, Nat.reduceSub, Nat.reduceAdd]
  have hv := codeM_vals t [(m, l)]
  refine ⟨fun h => ?_, fun h => ?_⟩
  · have h1 : codeM t [(m, l)] = 1 := by omega
    have hc : codeL t m l e x = 1 := by unfold codeL; rw [if_neg h]
    exact ⟨by unfold leadV; rw [hc]; simp, by rw [h1, hc]⟩
  obtain ⟨hg, hm⟩ := codeM1_ok h
  refine HereO.call T_ok rfl rfl (order_spec t) (by simp only [go_sem, Nat.reduceMul, Nat.reduceLeDiff, Nat.reduceLT, reduceIte, reduceCtorEq, Nat.reduceEqDiff, Nat.reduceSub, Nat.reduceAdd, List.toList_toArray] <;> first | rfl | exact ⟨rfl, rfl⟩) rfl ?_
  simp only [Tryz.results10, go_sem, Nat.reduceMul, Nat.reduceLeDiff, Nat.reduceLT, reduceIte, reduceCtorEq, Nat.reduceEqDiff, Nat.reduceSub, Nat.reduceAdd]
  refine HereO.buildRow T_ok 121 (I [e]) rfl rfl rfl (by decide) rfl (by simp only [go_sem, Nat.reduceMul, Nat.reduceLeDiff, Nat.reduceLT, reduceIte, reduceCtorEq, Nat.reduceEqDiff, Nat.reduceSub, Nat.reduceAdd] <;> rfl) rfl (by decide) ?_
  simp only [Tryz.results10, go_sem, Nat.reduceMul, Nat.reduceLeDiff, Nat.reduceLT, reduceIte, reduceCtorEq, Nat.reduceEqDiff, Nat.reduceSub, Nat.reduceAdd]
  refine HereO.call T_ok rfl rfl (areIn1_spec t.length e) (by simp only [go_sem, Nat.reduceMul, Nat.reduceLeDiff, Nat.reduceLT, reduceIte, reduceCtorEq, Nat.reduceEqDiff, Nat.reduceSub, Nat.reduceAdd, List.toList_toArray] <;> first | rfl | exact ⟨rfl, rfl⟩) rfl ?_
  simp only [Tryz.results10, go_sem, Nat.reduceMul, Nat.reduceLeDiff, Nat.reduceLT, reduceIte, reduceCtorEq, Nat.reduceEqDiff, Nat.reduceSub, Nat.reduceAdd]
  refine ⟨fun h2 => ?_, fun h2 => ?_⟩
  · refine HereO.buildRow T_ok 128 (I [x]) rfl rfl rfl (by decide) rfl (by simp only [go_sem, Nat.reduceMul, Nat.reduceLeDiff, Nat.reduceLT, reduceIte, reduceCtorEq, Nat.reduceEqDiff, Nat.reduceSub, Nat.reduceAdd] <;> rfl) rfl (by decide) ?_
    simp only [Tryz.results10, go_sem, Nat.reduceMul, Nat.reduceLeDiff, Nat.reduceLT, reduceIte, reduceCtorEq, Nat.reduceEqDiff, Nat.reduceSub, Nat.reduceAdd]
    refine HereO.call T_ok rfl rfl (areIn1_spec m x) (by simp only [go_sem, Nat.reduceMul, Nat.reduceLeDiff, Nat.reduceLT, reduceIte, reduceCtorEq, Nat.reduceEqDiff, Nat.reduceSub, Nat.reduceAdd, List.toList_toArray] <;> first | rfl | exact ⟨rfl, rfl⟩) rfl ?_
    simp only [Tryz.results10, go_sem, Nat.reduceMul, Nat.reduceLeDiff, Nat.reduceLT, reduceIte, reduceCtorEq, Nat.reduceEqDiff, Nat.reduceSub, Nat.reduceAdd]
    refine ⟨fun h3 => ?_, fun h3 => ?_⟩
    · have hc : codeL t m l e x = 2 := by unfold codeL; rw [if_pos h, if_neg (fun q => h3 q.2)]
      exact ⟨by unfold leadV; rw [hc]; simp, hc.symm⟩
    · refine Here.draw T_ok mixed_ok (by kernel_rfl) ?_
      simp only [Tryz.results10, go_sem, Nat.reduceMul, Nat.reduceLeDiff, Nat.reduceLT, reduceIte, reduceCtorEq, Nat.reduceEqDiff, Nat.reduceSub, Nat.reduceAdd]
      obtain ⟨q1, q2, q3⟩ := lead_ok hm h2 h3
      have hc : codeL t m l e x = 0 := by unfold codeL; rw [if_pos h, if_pos ⟨h2, h3⟩]
      exact ⟨q1, q2, q3, by unfold leadV; rw [if_pos hc], hc.symm⟩
  · have hc : codeL t m l e x = 2 := by unfold codeL; rw [if_pos h, if_neg (fun q => h2 q.1)]
    exact ⟨by unfold leadV; rw [hc]; simp, hc.symm⟩
theorem specLeadNumber (t : List (List Int)) (m : Int) (l : List Int) (e x : Int) : Spec Tryz.prog 11 [.agg [.rds (II t)], .agg [.v (.int .i64 m), .rd (I l)], .v (.int .i64 e), .v (.int .i64 x)] (.tup [.v (.int .i64 (leadV t m l e x)), .v (.int .i64 (codeL t m l e x))]) [] := by
  have hv := codeM_vals t [(m, l)]
  refine Spec.of_code T_ok Tryz.func11 rfl Tryz.ntmps11 Tryz.call11 (Nat.le_of_ble_eq_true rfl) rfl rfl (CodeV_sound T_ok (by kernel_rfl) rfl ?_)
  simp only [Tryz.results11, go_sem, Nat.reduceMul, Nat.reduceLeDiff, Nat.reduceLT, reduceIte, reduceCtorEq, Nat.reduceEqDiff, Nat.reduceSub, Nat.reduceAdd]
  refine HereO.opP T_ok (OpP.buildA sl2_29 (MM [(m, l)]) rfl rfl (by decide) (by decide) rfl rfl) ?_
  simp only [Tryz.results11, go_sem, Nat.reduceMul, Nat.reduceLeDiff, Nat.reduceLT, reduceIte, reduceCtorEq, Nat.reduceEqDiff, Nat.reduceSub, Nat.reduceAdd]
  refine HereO.call T_ok rfl rfl (l02Code_spec t [(m, l)] (by simp)) (by simp only [go_sem, Nat.reduceMul, Nat.reduceLeDiff, Nat.reduceLT, reduceIte, reduceCtorEq, Nat.reduceEqDiff, Nat.reduceSub, Nat.reduceAdd, List.toList_toArray] <;> first | rfl | exact ⟨rfl, rfl⟩) rfl ?_
  simp only [Tryz.results11, go_sem, Nat.reduceMul, Nat.reduceLeDiff, Nat.reduceLT, reduceIte, reduceCtorEq, Nat.reduceEqDiff, Nat.reduceSub, Nat.reduceAdd]
  have bad : codeM t [(m, l)] ≠ 0 → 0 = leadV t m l e x ∧ codeM t [(m, l)] = codeL t m l e x := fun h => by
    have h1 : codeM t [(m, l)] = 1 := by omega
    have hc : codeL t m l e x = 1 := by unfold codeL; rw [if_neg h]
    exact ⟨by unfold leadV; rw [hc]; simp, by rw [h1, hc]⟩
  refine ⟨fun h => ?_, fun h => ⟨fun _ => bad h, fun h' => absurd h' h⟩⟩
  obtain ⟨hg, hm⟩ := codeM1_ok h
  have h8 := hg.2.1
  have hm12 := hm.1
  refine ⟨by unfold InR; omega, ?_⟩
  refine HereO.call T_ok rfl rfl (l01In_spec e 0 ((t.length : Int) - 1)) (by simp only [go_sem, Nat.reduceMul, Nat.reduceLeDiff, Nat.reduceLT, reduceIte, reduceCtorEq, Nat.reduceEqDiff, Nat.reduceSub, Nat.reduceAdd, List.toList_toArray] <;> first | rfl | exact ⟨rfl, rfl⟩) rfl ?_
  simp only [Tryz.results11, go_sem, Nat.reduceMul, Nat.reduceLeDiff, Nat.reduceLT, reduceIte, reduceCtorEq, Nat.reduceEqDiff, Nat.reduceSub, Nat.reduceAdd]
  refine ⟨fun h2 => ⟨by unfold InR; omega, ?_⟩, fun h2 => ?_⟩
  · refine HereO.call T_ok rfl rfl (l01In_spec x 0 (m - 1)) (by simp only [go_sem, Nat.reduceMul, Nat.reduceLeDiff, Nat.reduceLT, reduceIte, reduceCtorEq, Nat.reduceEqDiff, Nat.reduceSub, Nat.reduceAdd, List.toList_toArray] <;> first | rfl | exact ⟨rfl, rfl⟩) rfl ?_
    simp only [Tryz.results11, go_sem, Nat.reduceMul, Nat.reduceLeDiff, Nat.reduceLT, reduceIte, reduceCtorEq, Nat.reduceEqDiff, Nat.reduceSub, Nat.reduceAdd]
    refine ⟨fun h3 => ?_, fun h3 => ?_⟩
    · have hc : codeL t m l e x = 2 := by unfold codeL; rw [if_pos h, if_neg (fun q => h3 ⟨q.2.1, by omega⟩)]
      exact ⟨fun _ => ⟨by unfold leadV; rw [hc]; simp, hc.symm⟩, fun h' => absurd h' (by decide)⟩
    · refine ⟨fun h' => absurd h h', fun _ => ?_⟩
      refine Here.draw T_ok mixed_ok (by kernel_rfl) ?_
      simp only [Tryz.results11, go_sem, Nat.reduceMul, Nat.reduceLeDiff, Nat.reduceLT, reduceIte, reduceCtorEq, Nat.reduceEqDiff, Nat.reduceSub, Nat.reduceAdd]
      obtain ⟨q1, q2, q3⟩ := lead_ok hm (e := e) (x := x) (by omega) (by omega)
      have hc : codeL t m l e x = 0 := by unfold codeL; rw [if_pos h, if_pos ⟨by omega, by omega⟩]
      exact ⟨q1, q2, q3, by unfold leadV; rw [if_pos hc], hc.symm⟩
  · have hc : codeL t m l e x = 2 := by unfold codeL; rw [if_pos h, if_neg (fun q => h2 ⟨q.1.1, by omega⟩)]
    exact ⟨fun _ => ⟨by unfold leadV; rw [hc]; simp, hc.symm⟩, fun h' => absurd h' (by decide)⟩

def normL (l : List Int) : Int := l.foldl (· + ·) 0
def normV (t : List (List Int)) (m : Int) (l : List Int) : Int := if codeM t [(m, l)] = 0 then (normL l).tmod m else 0
end Go.Proofs.YtcjhojdlfnpgjaaGreatDoor
