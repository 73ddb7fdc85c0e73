/- Contracts: lists of modules held against each other and marked; ModulesOf. -/
import Derived.Test.YtkdiodegilidgaaNc
import Derived.Test.YtkdiodegilidgaaMb
namespace Go.Proofs.Ytkdiodegilidgaa
open Go.RowKit
set_option linter.unusedVariables false
set_option linter.unusedSimpArgs false
set_option maxRecDepth 100000

theorem sl2_mods : Sl2 Try.prog 32 := ⟨50, Try.t50, .agg #[.int .i64 0, .slice none 0 0], Try.underlying32, by kernel_rfl, by kernel_rfl, by kernel_rfl, by kernel_rfl⟩
theorem lvq_at {q : List (Int × List Int)} {i : Nat} (h : i < q.length) : (lvq (mq q))[i]? = some (.v (.int .i64 q[i].1), .rd (I q[i].2)) := by
  simp [lvq, mq, List.getElem?_eq_getElem h]
theorem lvq_mq_len (q : List (Int × List Int)) : (lvq (mq q)).length = q.length := by simp [lvq, mq]
theorem eqModuleS_spec (q : List (Int × List Int)) (hl : q.length ≤ 1099511627776) (hr : ∀ p ∈ q, p.2.length ≤ 1048576) : Spec Try.prog 12 [.rdA 2 (flat (lvq (mq q))), .rdA 2 (flat (lvq (mq q)))] (.v (.bool true)) [] := by
  refine Spec.of_code T_ok Try.func12 rfl Try.ntmps12 Try.call12 (Nat.le_of_ble_eq_true rfl) rfl rfl (CodeV_sound T_ok (by kernel_rfl) rfl ?_)
  simp only [Try.results12, go_sem, Nat.reduceMul, Nat.reduceLeDiff, Nat.reduceLT, reduceIte, reduceCtorEq, Nat.reduceEqDiff, Nat.reduceSub, Nat.reduceAdd]
  refine HereO.opP T_ok (OpP.lenA sl2_mods rfl rfl) ?_
  simp only [Try.results12, go_sem, Nat.reduceMul, Nat.reduceLeDiff, Nat.reduceLT, reduceIte, reduceCtorEq, Nat.reduceEqDiff, Nat.reduceSub, Nat.reduceAdd]
  refine HereO.opP T_ok (OpP.lenA sl2_mods rfl rfl) ?_
  simp only [Try.results12, go_sem, Nat.reduceMul, Nat.reduceLeDiff, Nat.reduceLT, reduceIte, reduceCtorEq, Nat.reduceEqDiff, Nat.reduceSub, Nat.reduceAdd]
  refine Here.loopV T_ok (κ := Nat) (fun i => i ≤ q.length) (fun i => q.length - i) (fun i => [(0, .rdA 2 (flat (lvq (mq q)))), (1, .rdA 2 (flat (lvq (mq q)))), (5, .v (.int .i64 i))]) (fun _ => []) 0 (by simp) (by simp only [Try.results12, go_sem, Nat.reduceMul, Nat.reduceLeDiff, Nat.reduceLT, reduceIte, reduceCtorEq, Nat.reduceEqDiff, Nat.reduceSub, Nat.reduceAdd]; simp) trivial ?_
  intro i hi
  simp only [Try.results12, go_sem, Nat.reduceMul, Nat.reduceLeDiff, Nat.reduceLT, reduceIte, reduceCtorEq, Nat.reduceEqDiff, Nat.reduceSub, Nat.reduceAdd]
  refine HereO.opP T_ok (OpP.lenA sl2_mods rfl rfl) ?_
  simp only [Try.results12, go_sem, Nat.reduceMul, Nat.reduceLeDiff, Nat.reduceLT, reduceIte, reduceCtorEq, Nat.reduceEqDiff, Nat.reduceSub, Nat.reduceAdd]
  rw [lvq_mq_len]
  refine ⟨fun h2 => ?_, fun h2 => ?_⟩
  · have hil : i < q.length := by omega
    refine Here.draw T_ok mixed_ok (by kernel_rfl) ?_
    simp only [Try.results12, go_sem, Nat.reduceMul, Nat.reduceLeDiff, Nat.reduceLT, reduceIte, reduceCtorEq, Nat.reduceEqDiff, Nat.reduceSub, Nat.reduceAdd]
    refine ⟨_, OpP.indexA sl2_mods rfl rfl rfl (lvq_at hil), ?_⟩
    simp only [Try.results12, go_sem, Nat.reduceMul, Nat.reduceLeDiff, Nat.reduceLT, reduceIte, reduceCtorEq, Nat.reduceEqDiff, Nat.reduceSub, Nat.reduceAdd]
    refine ⟨_, OpP.indexA sl2_mods rfl rfl rfl (lvq_at hil), ?_⟩
    simp only [Try.results12, go_sem, Nat.reduceMul, Nat.reduceLeDiff, Nat.reduceLT, reduceIte, reduceCtorEq, Nat.reduceEqDiff, Nat.reduceSub, Nat.reduceAdd]
    refine ⟨_, OpP.call' rfl rfl (eqModule_spec q[i].1 q[i].2 q[i].1 q[i].2 (hr _ (List.getElem_mem hil))) (by simp only [go_sem, Nat.reduceMul, Nat.reduceLeDiff, Nat.reduceLT, reduceIte, reduceCtorEq, Nat.reduceEqDiff, Nat.reduceSub, Nat.reduceAdd, List.toList_toArray] <;> first | rfl | exact ⟨rfl, rfl⟩) rfl, ?_⟩
    simp only [Try.results12, go_sem, Nat.reduceMul, Nat.reduceLeDiff, Nat.reduceLT, reduceIte, reduceCtorEq, Nat.reduceEqDiff, Nat.reduceSub, Nat.reduceAdd]
    exact ⟨by unfold InR; omega, i + 1, by omega, by omega, by push_cast; rfl⟩
  · trivial
/-- Marks in a list of modules. -/
def marksM (k : Int) : List (Int × List Int) → List (Int × List Int)
  | [] => []
  | p :: q => (k, marks (k + 1) p.2.length) :: marksM (k + 1 + p.2.length) q
def cellsM : List (Int × List Int) → Nat
  | [] => 0
  | p :: q => 1 + p.2.length + cellsM q
theorem marksM_len : ∀ (k : Int) (q : List (Int × List Int)), (marksM k q).length = q.length
  | _, [] => rfl
  | k, p :: q => by simp [marksM, marksM_len _ q]
theorem cellsM_step : ∀ {q : List (Int × List Int)} {i : Nat} (h : i < q.length), cellsM (q.take (i + 1)) = cellsM (q.take i) + 1 + q[i].2.length
  | [], i, h => by simp at h
  | p :: q, 0, h => by simp [cellsM]
  | p :: q, i + 1, h => by
    have := cellsM_step (q := q) (i := i) (by simpa using h)
    simp only [List.take_succ_cons, cellsM, this, List.getElem_cons_succ]
    omega
theorem cellsM_le (q : List (Int × List Int)) : ∀ i, cellsM (q.take i) ≤ cellsM q := by
  induction q with
  | nil => intro i; simp
  | cons p q ih => intro i; cases i with
    | zero => simp [cellsM]
    | succ i => have := ih i; simp only [List.take_succ_cons, cellsM]; omega
theorem marksM_take : ∀ {q : List (Int × List Int)} {i : Nat} (h : i < q.length) (k : Int), marksM k (q.take (i + 1)) = marksM k (q.take i) ++ [(k + cellsM (q.take i), marks (k + cellsM (q.take i) + 1) q[i].2.length)]
  | [], i, h, k => by simp at h
  | p :: q, 0, h, k => by simp [marksM, cellsM]
  | p :: q, i + 1, h, k => by
    have := marksM_take (q := q) (i := i) (by simpa using h) (k + 1 + p.2.length)
    simp only [List.take_succ_cons, marksM, cellsM, this, List.cons_append, List.getElem_cons_succ]
    rw [show k + 1 + (p.2.length : Int) + (cellsM (q.take i) : Int) = k + ((1 + p.2.length + cellsM (q.take i) : Nat) : Int) by push_cast; omega]
theorem marksM_get : ∀ {q : List (Int × List Int)} {i : Nat} (h : i < q.length) (k : Int), (marksM k q)[i]'(by rw [marksM_len]; exact h) = (k + (cellsM (q.take i) : Nat), marks (k + (cellsM (q.take i) : Nat) + 1) q[i].2.length)
  | [], i, h, k => by simp at h
  | p :: q, 0, h, k => by simp [marksM, cellsM]
  | p :: q, i + 1, h, k => by
    have := marksM_get (q := q) (i := i) (by simpa using h) (k + 1 + p.2.length)
    simp only [marksM, List.getElem_cons_succ, this, List.take_succ_cons, cellsM]
    rw [show k + 1 + (p.2.length : Int) + (cellsM (q.take i) : Int) = k + ((1 + p.2.length + cellsM (q.take i) : Nat) : Int) by push_cast; omega]
theorem marksM_set {q : List (Int × List Int)} {i : Nat} (h : i < q.length) (k : Int) (a : Int × List Int) : ((marksM k (q.take i) ++ q.drop i).set i a).set i (k + cellsM (q.take i), marks (k + cellsM (q.take i) + 1) q[i].2.length) = marksM k (q.take (i + 1)) ++ q.drop (i + 1) := by
  have hl : (marksM k (q.take i)).length = i := by rw [marksM_len]; simp; omega
  rw [List.set_set, List.set_append_right _ _ (by omega), hl, Nat.sub_self, List.drop_eq_getElem_cons h, List.set_cons_zero, marksM_take h, List.append_assoc]
  rfl
theorem markModuleS_spec (q : List (Int × List Int)) (k : Int) (h0 : 0 ≤ k) (h1 : k + cellsM q ≤ 9223372036854775807) (hl : q.length < 9223372036854775807) : SpecM Try.prog 14 [.own 0, .v (.int .i64 k)] [.mods 50 2 (mq q)] (.v (.int .i64 (k + cellsM q))) [some (.mods 50 2 (mq (marksM k q)))] := by
  refine SpecM.of_code' T_ok Try.func14 rfl Try.ntmps14 Try.call14 (Nat.le_of_ble_eq_true rfl) (Nat.le_of_ble_eq_true rfl) (Nat.le_of_ble_eq_true rfl) rfl rfl (CodeV_sound T_ok (by kernel_rfl) rfl ?_)
  simp only [Try.results14, go_sem, Nat.reduceMul, Nat.reduceLeDiff, Nat.reduceLT, reduceIte, reduceCtorEq, Nat.reduceEqDiff, Nat.reduceSub, Nat.reduceAdd]
  refine Here.loopV T_ok (κ := Nat) (fun i => i ≤ q.length) (fun i => q.length - i) (fun i => [(0, .own 0), (1, .v (.int .i64 (k + (cellsM (q.take i) : Nat)))), (5, .v (.int .i64 i))]) (fun i => [(0, .mods 50 2 (mq (marksM k (q.take i) ++ q.drop i)))]) 0 (by simp) (by simp only [Try.results14, go_sem, Nat.reduceMul, Nat.reduceLeDiff, Nat.reduceLT, reduceIte, reduceCtorEq, Nat.reduceEqDiff, Nat.reduceSub, Nat.reduceAdd]; simp [cellsM]) (by simp only [Try.results14, go_sem, Nat.reduceMul, Nat.reduceLeDiff, Nat.reduceLT, reduceIte, reduceCtorEq, Nat.reduceEqDiff, Nat.reduceSub, Nat.reduceAdd]; simp [marksM]) ?_
  intro i hi
  have hlen : (marksM k (q.take i) ++ q.drop i).length = q.length := by simp [marksM_len]; omega
  simp only [Try.results14, go_sem, Nat.reduceMul, Nat.reduceLeDiff, Nat.reduceLT, reduceIte, reduceCtorEq, Nat.reduceEqDiff, Nat.reduceSub, Nat.reduceAdd]
  refine HereO.opP T_ok (OpP.lenMods sl2m_ok rfl rfl rfl) ?_
  simp only [Try.results14, go_sem, Nat.reduceMul, Nat.reduceLeDiff, Nat.reduceLT, reduceIte, reduceCtorEq, Nat.reduceEqDiff, Nat.reduceSub, Nat.reduceAdd]
  rw [mq_len, hlen]
  refine ⟨fun h2 => ?_, fun h2 => ?_⟩
  · have hil : i < q.length := by omega
    have hat : (marksM k (q.take i) ++ q.drop i)[i]'(by rw [hlen]; exact hil) = q[i] := by
      have hl : (marksM k (q.take i)).length = i := by rw [marksM_len]; simp; omega
      rw [List.getElem_append_right (by omega)]
      simp [hl]
    have hq := mq_at (q := marksM k (q.take i) ++ q.drop i) (i := i) (by rw [hlen]; exact hil)
    rw [hat] at hq
    refine HereO.opP T_ok (OpP.indexMods (j := i) sl2m_ok rfl rfl rfl rfl (by rw [mq_len, hlen]; exact hil)) ?_
    simp only [Try.results14, go_sem, Nat.reduceMul, Nat.reduceLeDiff, Nat.reduceLT, reduceIte, reduceCtorEq, Nat.reduceEqDiff, Nat.reduceSub, Nat.reduceAdd]
    refine HereO.opP T_ok (OpP.fieldPe (j := 0) T_ok rfl rfl rfl) ?_
    simp only [Try.results14, go_sem, Nat.reduceMul, Nat.reduceLeDiff, Nat.reduceLT, reduceIte, reduceCtorEq, Nat.reduceEqDiff, Nat.reduceSub, Nat.reduceAdd]
    refine HereO.storeMod T_ok (i := i) (u := .int .i64 (k + (cellsM (q.take i) : Nat))) rfl rfl rfl rfl rfl rfl hq ?_
    simp only [Try.results14, go_sem, Nat.reduceMul, Nat.reduceLeDiff, Nat.reduceLT, reduceIte, reduceCtorEq, Nat.reduceEqDiff, Nat.reduceSub, Nat.reduceAdd]
    rw [mq_set]
    have hq1 := mq_at (q := (marksM k (q.take i) ++ q.drop i).set i (k + cellsM (q.take i), q[i].2)) (i := i) (by rw [List.length_set, hlen]; exact hil)
    rw [List.getElem_set_self] at hq1
    have hc := cellsM_step hil
    have hcl := cellsM_le q (i + 1)
    refine ⟨by unfold InR; omega, ?_⟩
    refine HereO.opP T_ok (OpP.indexMods (j := i) sl2m_ok rfl rfl rfl rfl (by rw [mq_len, List.length_set, hlen]; exact hil)) ?_
    simp only [Try.results14, go_sem, Nat.reduceMul, Nat.reduceLeDiff, Nat.reduceLT, reduceIte, reduceCtorEq, Nat.reduceEqDiff, Nat.reduceSub, Nat.reduceAdd]
    refine HereO.opP T_ok (OpP.fieldPe (j := 1) T_ok rfl rfl rfl) ?_
    simp only [Try.results14, go_sem, Nat.reduceMul, Nat.reduceLeDiff, Nat.reduceLT, reduceIte, reduceCtorEq, Nat.reduceEqDiff, Nat.reduceSub, Nat.reduceAdd]
    refine HereO.openMod T_ok (i := i) 200 rfl rfl rfl rfl hq1 (by decide) (by decide) ?_
    simp only [Try.results14, go_sem, Nat.reduceMul, Nat.reduceLeDiff, Nat.reduceLT, reduceIte, reduceCtorEq, Nat.reduceEqDiff, Nat.reduceSub, Nat.reduceAdd]
    refine HereO.callMC T_ok 30 [200] rfl rfl (markS_spec q[i].2 (k + (cellsM (q.take i) : Nat) + 1) 2 (by omega) (by omega)) (by simp only [go_sem, Nat.reduceMul, Nat.reduceLeDiff, Nat.reduceLT, reduceIte, reduceCtorEq, Nat.reduceEqDiff, Nat.reduceSub, Nat.reduceAdd, List.toList_toArray, ↓reduceIte]) (by simp only [go_sem, Nat.reduceMul, Nat.reduceLeDiff, Nat.reduceLT, reduceIte, reduceCtorEq, Nat.reduceEqDiff, Nat.reduceSub, Nat.reduceAdd]) (by decide) (by decide) rfl rfl (Nat.le_of_ble_eq_true rfl)
      (Conv.shutMod 200 (id := 0) (e := 50) (e' := 2) (i := i) (vs := I (marks (k + (cellsM (q.take i) : Nat) + 1) q[i].2.length)) (by decide) hq1 (by rfl) (by rfl)) ?_
    simp only [Try.results14, go_sem, Nat.reduceMul, Nat.reduceLeDiff, Nat.reduceLT, reduceIte, reduceCtorEq, Nat.reduceEqDiff, Nat.reduceSub, Nat.reduceAdd]
    exact ⟨by unfold InR; omega, i + 1, by omega, by omega, ⟨by rw [hc]; push_cast; omega, by push_cast; rfl⟩, by rw [mq_set, marksM_set hil]⟩
  · obtain rfl : i = q.length := by omega
    refine RetM.one0 (by simp only [Try.results14, go_sem, Nat.reduceMul, Nat.reduceLeDiff, Nat.reduceLT, reduceIte, reduceCtorEq, Nat.reduceEqDiff, Nat.reduceSub, Nat.reduceAdd]; rfl) (by simp [tupL, ren]) ?_
    simp only [Try.results14, go_sem, Nat.reduceMul, Nat.reduceLeDiff, Nat.reduceLT, reduceIte, reduceCtorEq, Nat.reduceEqDiff, Nat.reduceSub, Nat.reduceAdd]
    simp
theorem heldModuleS_spec (q : List (Int × List Int)) (k : Int) (h0 : 0 ≤ k) (h1 : k + cellsM q ≤ 9223372036854775807) (hl : q.length < 9223372036854775807) : Spec Try.prog 15 [.rdA 2 (flat (lvq (mq (marksM k q)))), .v (.int .i64 k)] (.v (.int .i64 (k + cellsM q))) [] := by
  refine Spec.of_code T_ok Try.func15 rfl Try.ntmps15 Try.call15 (Nat.le_of_ble_eq_true rfl) rfl rfl (CodeV_sound T_ok (by kernel_rfl) rfl ?_)
  simp only [Try.results15, go_sem, Nat.reduceMul, Nat.reduceLeDiff, Nat.reduceLT, reduceIte, reduceCtorEq, Nat.reduceEqDiff, Nat.reduceSub, Nat.reduceAdd]
  refine Here.loopV T_ok (κ := Nat) (fun i => i ≤ q.length) (fun i => q.length - i) (fun i => [(0, .rdA 2 (flat (lvq (mq (marksM k q))))), (1, .v (.int .i64 (k + (cellsM (q.take i) : Nat)))), (5, .v (.int .i64 i))]) (fun i => []) 0 (by simp) (by simp only [Try.results15, go_sem, Nat.reduceMul, Nat.reduceLeDiff, Nat.reduceLT, reduceIte, reduceCtorEq, Nat.reduceEqDiff, Nat.reduceSub, Nat.reduceAdd]; simp [cellsM]) trivial ?_
  intro i hi
  simp only [Try.results15, go_sem, Nat.reduceMul, Nat.reduceLeDiff, Nat.reduceLT, reduceIte, reduceCtorEq, Nat.reduceEqDiff, Nat.reduceSub, Nat.reduceAdd]
  refine HereO.opP T_ok (OpP.lenA sl2_mods rfl rfl) ?_
  simp only [Try.results15, go_sem, Nat.reduceMul, Nat.reduceLeDiff, Nat.reduceLT, reduceIte, reduceCtorEq, Nat.reduceEqDiff, Nat.reduceSub, Nat.reduceAdd]
  rw [lvq_mq_len, marksM_len]
  refine ⟨fun h2 => ?_, fun h2 => ?_⟩
  · have hil : i < q.length := by omega
    have hc := cellsM_step hil
    have hcl := cellsM_le q (i + 1)
    have hml : i < (marksM k q).length := by rw [marksM_len]; exact hil
    have hg : (marksM k q)[i] = (k + (cellsM (q.take i) : Nat), marks (k + (cellsM (q.take i) : Nat) + 1) q[i].2.length) := marksM_get hil k
    have hla := lvq_at hml
    rw [hg] at hla
    have hh := heldS_spec (marks (k + (cellsM (q.take i) : Nat) + 1) q[i].2.length) (k + (cellsM (q.take i) : Nat) + 1) (by omega) (by rw [marks_len]; omega)
    rw [heldS_marks] at hh
    refine HereO.opP T_ok (OpP.indexA sl2_mods rfl rfl rfl hla) ?_
    simp only [Try.results15, go_sem, Nat.reduceMul, Nat.reduceLeDiff, Nat.reduceLT, reduceIte, reduceCtorEq, Nat.reduceEqDiff, Nat.reduceSub, Nat.reduceAdd]
    refine ⟨by unfold InR; omega, ?_⟩
    refine HereO.opP T_ok (OpP.indexA sl2_mods rfl rfl rfl hla) ?_
    simp only [Try.results15, go_sem, Nat.reduceMul, Nat.reduceLeDiff, Nat.reduceLT, reduceIte, reduceCtorEq, Nat.reduceEqDiff, Nat.reduceSub, Nat.reduceAdd]
    refine HereO.call T_ok rfl rfl (hh) (by simp only [go_sem, Nat.reduceMul, Nat.reduceLeDiff, Nat.reduceLT, reduceIte, reduceCtorEq, Nat.reduceEqDiff, Nat.reduceSub, Nat.reduceAdd, List.toList_toArray] <;> first | rfl | exact ⟨rfl, rfl⟩) rfl ?_
    simp only [Try.results15, go_sem, Nat.reduceMul, Nat.reduceLeDiff, Nat.reduceLT, reduceIte, reduceCtorEq, Nat.reduceEqDiff, Nat.reduceSub, Nat.reduceAdd]
    refine ⟨fun h => absurd h (by omega), fun _ => ⟨by unfold InR; omega, i + 1, by omega, by omega, by rw [hc]; push_cast; omega, by push_cast; rfl⟩⟩
  · obtain rfl : i = q.length := by omega
    simp
/-- What is asked of a list of modules that a law returns. -/
def OkMods (q : List (Int × List Int)) : Prop := q.length ≤ 1099511627776 ∧ (∀ p ∈ q, p.2.length ≤ 1048576) ∧ (cellsM q : Int) ≤ 1099511627776
theorem cellsM_bound : ∀ {q : List (Int × List Int)} {B : Nat}, (∀ p ∈ q, p.2.length ≤ B) → cellsM q ≤ q.length * (B + 1)
  | [], B, _ => by simp [cellsM]
  | p :: q, B, h => by
    have h1 := h p (List.mem_cons_self ..)
    have h2 := cellsM_bound (q := q) (B := B) fun p hp => h p (List.mem_cons_of_mem _ hp)
    simp only [cellsM, List.length_cons, Nat.succ_mul]
    omega
theorem modsR_ok (t : List (List Int)) (m : Int) : OkMods (modsR t m) := by
  unfold modsR
  split
  · rename_i h
    have ht8 := h.1.2.1
    have h1 := dfsM_len (t := t) h.2.2 t.length []
    have hp8 : 12 ^ t.length ≤ 12 ^ 8 := Nat.pow_le_pow_right (by decide) ht8
    have h2 : ∀ p ∈ withM m (dfsM t m t.length []), p.2.length ≤ 8 := fun p hp => by
      obtain ⟨l, hl, rfl⟩ := List.mem_map.1 hp
      have := (dfsM_Mod _ _ _ hl).2.1
      dsimp only; omega
    have h3 := cellsM_bound h2
    have h4 : (12 : Nat) ^ 8 = 429981696 := by decide
    rw [withM_len] at h3
    refine ⟨by rw [withM_len]; omega, fun p hp => by have := h2 p hp; omega, by omega⟩
  · exact ⟨by simp, fun p hp => (List.not_mem_nil hp).elim, by simp [cellsM]⟩
end Go.Proofs.Ytkdiodegilidgaa
