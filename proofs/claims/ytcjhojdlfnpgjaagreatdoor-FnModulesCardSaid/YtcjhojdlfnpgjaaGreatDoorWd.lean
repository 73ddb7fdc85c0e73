/- Contracts: a slice held against nil; Clone. -/
import Derived.Test.YtcjhojdlfnpgjaaGreatDoorWc
import Derived.Test.YtcjhojdlfnpgjaaGreatDoorFa
namespace Go.Proofs.YtcjhojdlfnpgjaaGreatDoor
open Go.RowKit
set_option linter.unusedVariables false
set_option linter.unusedSimpArgs false
set_option maxRecDepth 100000

theorem run_eqNil {P : Program} {t e : Nat} (ht : P.underlying t = some (.slice e)) (A : Option Addr) (m c : Nat) (w : World) : (Op.equal t (.slice A m c) (.slice none 0 0)).run P w = .ok A.isNone w := by
  have h : ∀ d, (Op.equalIn (d + 1) t (.slice A m c) (.slice none 0 0)).run P w = .ok A.isNone w := fun d => by cases A <;> simp [Op.equalIn, run_underlying ht]
  simp [Op.equal, Op.maxDepth, h 9999]
/-- A slice that is read, held against nil: none if it has elements. -/
theorem OpT.isNil {P : Program} {o : Oper} {s : St} {K : LV → St → Prop} {t t' e : Nat} {x : Operand} {vs : List Value} (ho : o.op = .binOp .eql t x (.const (.slice none 0 0)) t') (hx : evL s x = .rd vs) (ht : P.underlying t = some (.slice e))
    (h0 : K (.v (.bool false)) s) (h1 : vs = [] → K (.v (.bool true)) s) : OpT P o s K := by
  intro w0 w ι fp f hI
  have hv := hI.ev x
  rw [hx] at hv
  simp only [LRel] at hv
  obtain ⟨A, c, e1, hc, hr⟩ := hv
  have hrun : (execOp (evV f) o).run P w = .ok (.value (.bool A.isNone)) w := by
    simp only [ho, execOp, e1]
    simp [eqGuard, binOp, evV, run_eqNil ht]
  rw [hrun]
  cases A with
  | none =>
    refine .value _ _ _ _ _ _ hI (by simp only [LRel]; rfl) (h1 ?_)
    cases vs with
    | nil => rfl
    | cons v vs => obtain ⟨ad, e2, _⟩ := hr.2 (by simp); cases e2
  | some ad => exact .value _ _ _ _ _ _ hI (by simp only [LRel]; rfl) h0
theorem HereO.isNil {P : Program} {T : TT} (hT : T.Ok P) {n : Nat} {all : Array Oper} {o : Oper} {l : List Oper} {s : St} {k : Kont} {t t' e : Nat} {x : Operand} {vs : List Value} (ho : o.op = .binOp .eql t x (.const (.slice none 0 0)) t') (hx : evL s x = .rd vs) (ht : P.underlying t = some (.slice e))
    (h0 : OpsV P T n all l (s.put o.dst (.v (.bool false))) k) (h1 : vs = [] → OpsV P T n all l (s.put o.dst (.v (.bool true))) k) : HereO P T n all o l s k :=
  HereO.of_all hT (K := fun r s' => s' = s ∧ (r = .v (.bool false) ∨ vs = [] ∧ r = .v (.bool true))) (OpT.isNil ho hx ht ⟨rfl, .inl rfl⟩ fun e => ⟨rfl, .inr ⟨e, rfl⟩⟩) (by
    rintro r s' ⟨rfl, rfl | ⟨e, rfl⟩⟩
    · exact h0
    · exact h1 e)
theorem Clone_spec (l : List Int) (hl : l.length ≤ 1099511627776) : Spec Tryz.prog 53 [.rd (I l)] (.own 0) [.row 2 (I l)] := by
  refine Spec.of_codeC T_ok Tryz.func53 rfl Tryz.ntmps53 Tryz.call53 (Nat.le_of_ble_eq_true rfl) rfl rfl (CodeV_sound T_ok (by kernel_rfl) rfl ?_)
  simp only [Tryz.results53, go_sem, Nat.reduceMul, Nat.reduceLeDiff, Nat.reduceLT, reduceIte, reduceCtorEq, Nat.reduceEqDiff, Nat.reduceSub, Nat.reduceAdd]
  refine HereO.isNil T_ok rfl (by simp only [go_sem, Nat.reduceMul, Nat.reduceLeDiff, Nat.reduceLT, reduceIte, reduceCtorEq, Nat.reduceEqDiff, Nat.reduceSub, Nat.reduceAdd] <;> rfl) Tryz.underlying33 ?_ (fun he => ?_)
  · simp only [Tryz.results53, go_sem, Nat.reduceMul, Nat.reduceLeDiff, Nat.reduceLT, reduceIte, reduceCtorEq, Nat.reduceEqDiff, Nat.reduceSub, Nat.reduceAdd]
    refine HereO.buildRow T_ok 115 (I []) rfl rfl rfl (by decide) rfl (by first | rfl | (simp only [go_sem, Nat.reduceMul, Nat.reduceLeDiff, Nat.reduceLT, reduceIte, reduceCtorEq, Nat.reduceEqDiff, Nat.reduceSub, Nat.reduceAdd] <;> rfl)) rfl (by decide) ?_
    simp only [Tryz.results53, go_sem, Nat.reduceMul, Nat.reduceLeDiff, Nat.reduceLT, reduceIte, reduceCtorEq, Nat.reduceEqDiff, Nat.reduceSub, Nat.reduceAdd]
    refine HereO.append T_ok (I l) rfl rfl (by decide) (by simp only [go_sem, Nat.reduceMul, Nat.reduceLeDiff, Nat.reduceLT, reduceIte, reduceCtorEq, Nat.reduceEqDiff, Nat.reduceSub, Nat.reduceAdd] <;> rfl) (by decide) (by simp only [go_sem, Nat.reduceMul, Nat.reduceLeDiff, Nat.reduceLT, reduceIte, reduceCtorEq, Nat.reduceEqDiff, Nat.reduceSub, Nat.reduceAdd] <;> rfl) (by simp only [go_sem, Nat.reduceMul, Nat.reduceLeDiff, Nat.reduceLT, reduceIte, reduceCtorEq, Nat.reduceEqDiff, Nat.reduceSub, Nat.reduceAdd] <;> rfl) (.rd _) (I_one _) (by simp only [I_len, List.length_nil]; omega) ?_
    simp only [Tryz.results53, go_sem, Nat.reduceMul, Nat.reduceLeDiff, Nat.reduceLT, reduceIte, reduceCtorEq, Nat.reduceEqDiff, Nat.reduceSub, Nat.reduceAdd]
    exact RetC.of (RetT.one 115 (by simp only [Tryz.results53, go_sem, Nat.reduceMul, Nat.reduceLeDiff, Nat.reduceLT, reduceIte, reduceCtorEq, Nat.reduceEqDiff, Nat.reduceSub, Nat.reduceAdd]; rfl) (by simp only [Tryz.results53, go_sem, Nat.reduceMul, Nat.reduceLeDiff, Nat.reduceLT, reduceIte, reduceCtorEq, Nat.reduceEqDiff, Nat.reduceSub, Nat.reduceAdd] <;> simp [I]) (by simp only [Tryz.results53, go_sem, Nat.reduceMul, Nat.reduceLeDiff, Nat.reduceLT, reduceIte, reduceCtorEq, Nat.reduceEqDiff, Nat.reduceSub, Nat.reduceAdd] <;> simp [I]))
  · simp only [Tryz.results53, go_sem, Nat.reduceMul, Nat.reduceLeDiff, Nat.reduceLT, reduceIte, reduceCtorEq, Nat.reduceEqDiff, Nat.reduceSub, Nat.reduceAdd]
    have h0 : l = [] := by cases l with | nil => rfl | cons x l => simp [I] at he
    exact RetC.conv (Conv.nilAt 2 150 (.row 2 []) (by decide) rfl) (RetC.of (RetT.one 150 (by simp only [Tryz.results53, go_sem, Nat.reduceMul, Nat.reduceLeDiff, Nat.reduceLT, reduceIte, reduceCtorEq, Nat.reduceEqDiff, Nat.reduceSub, Nat.reduceAdd]; rfl) (by simp only [Tryz.results53, go_sem, Nat.reduceMul, Nat.reduceLeDiff, Nat.reduceLT, reduceIte, reduceCtorEq, Nat.reduceEqDiff, Nat.reduceSub, Nat.reduceAdd] <;> simp [h0, I]) (by simp only [Tryz.results53, go_sem, Nat.reduceMul, Nat.reduceLeDiff, Nat.reduceLT, reduceIte, reduceCtorEq, Nat.reduceEqDiff, Nat.reduceSub, Nat.reduceAdd] <;> simp [h0, I])))
end Go.Proofs.YtcjhojdlfnpgjaaGreatDoor
