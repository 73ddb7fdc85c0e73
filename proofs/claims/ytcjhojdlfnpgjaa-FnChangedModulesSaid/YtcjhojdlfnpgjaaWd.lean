/- Contracts: a slice held against nil; Clone. -/
import Derived.Test.YtcjhojdlfnpgjaaWc
import Derived.Test.YtcjhojdlfnpgjaaFa
namespace Go.Proofs.Ytcjhojdlfnpgjaa
open Go.RowKit
set_option linter.unusedVariables false
set_option linter.unusedSimpArgs false
set_option maxRecDepth 100000

theorem run_eqNil {P : Program} {t e : Nat} (ht : P.underlying t = some (.slice e)) (A : Option Addr) (m c : Nat) (w : World) : (Op.equal t (.slice A m c) (.slice none 0 0)).run P w = .ok A.isNone w := by
  have h : ∀ d, (Op.equalIn (d + 1) t (.slice A m c) (.slice none 0 0)).run P w = .ok A.isNone w := fun d => by cases A <;> simp [Op.equalIn, run_underlying ht]
  simp [Op.equal, Op.maxDepth, h 9999]
/-- A slice that is read, held against nil: none if it has elements. -/
theorem OpT.isNil {P : Program} {o : Oper} {s : St} {K : LV → St → Prop} {t t' e : Nat} {x : Operand} {vs : List Value} (ho : o.op = .binOp .eql t x (.const (.slice none 0 0)) t') (hx : evL s x = .rd vs) (ht : P.underlying t = some (.slice e))
    (h0 : K (.v (.bool false)) s) (h1 : vs = [] → K (.v (.bool true)) s) : OpT P o s K := by
  intro w0 w ι fp f hI
  have hv := hI.ev x
  rw [hx] at hv
  simp only [LRel] at hv
  obtain ⟨A, c, e1, hc, hr⟩ := hv
  have hrun : (execOp (evV f) o).run P w = .ok (.value (.bool A.isNone)) w := by
    simp only [ho, execOp, e1]
    simp [eqGuard, binOp, evV, run_eqNil ht]
  rw [hrun]
  cases A with
  | none =>
    refine .value _ _ _ _ _ _ hI (by simp only [LRel]; rfl) (h1 ?_)
    cases vs with
    | nil => rfl
    | cons v vs => obtain ⟨ad, e2, _⟩ := hr.2 (by simp); cases e2
  | some ad => exact .value _ _ _ _ _ _ hI (by simp only [LRel]; rfl) h0
theorem HereO.isNil {P : Program} {T : TT} (hT : T.Ok P) {n : Nat} {all : Array Oper} {o : Oper} {l : List Oper} {s : St} {k : Kont} {t t' e : Nat} {x : Operand} {vs : List Value} (ho : o.op = .binOp .eql t x (.const (.slice none 0 0)) t') (hx : evL s x = .rd vs) (ht : P.underlying t = some (.slice e))
    (h0 : OpsV P T n all l (s.put o.dst (.v (.bool false))) k) (h1 : vs = [] → OpsV P T n all l (s.put o.dst (.v (.bool true))) k) : HereO P T n all o l s k :=
  HereO.of_all hT (K := fun r s' => s' = s ∧ (r = .v (.bool false) ∨ vs = [] ∧ r = .v (.bool true))) (OpT.isNil ho hx ht ⟨rfl, .inl rfl⟩ fun e => ⟨rfl, .inr ⟨e, rfl⟩⟩) (by
    rintro r s' ⟨rfl, rfl | ⟨e, rfl⟩⟩
    · exact h0
    · exact h1 e)
end Go.Proofs.Ytcjhojdlfnpgjaa
