/- A calculus of verification conditions over logical values: rows that a region whose order is drawn makes and only reads. -/
import Derived.Test.YtipdgkohfmpilaaVh
import Derived.Laws.Small
namespace Go.Proofs.Ytipdgkohfmpilaa
open Go.RowKit
set_option linter.unusedVariables false
set_option linter.unusedSimpArgs false

section
variable {P : Program} {T : TT}

theorem OpP.buildRd (hT : T.Ok P) {o : Oper} {ρ : Operand → LV} {σ : Nat → Option OC} {t e : Nat} {z : Value} {bts n : Nat} {parts : Array (Nat × Operand)} (vs : List Value) (ho : o.op = .buildSlice t n parts) (ht : T.el t = some (e, z, bts)) (hn : n = parts.toList.length) (hl : n ≤ 1000) (hp : partsIn 0 parts.toList = true)
    (hx : (parts.toList.map fun p => ρ p.2) = vs.map .v) (h1 : vs.all (·.oneCell') = true) : OpP P o ρ σ (.rd vs) := by
  intro w0 w ι fp s f hI hσ hx'
  have hev : ∀ p ∈ parts.toList, evL s p.2 = ρ p.2 := fun p hm => hx' p.2 (by simp [ho, Op.operands]; exact ⟨p.1, by simpa using hm⟩)
  have hx2 : (parts.toList.map fun p => evL s p.2) = vs.map .v := by rw [← hx]; exact List.map_congr_left hev
  have hr := exec_buildSlice hT ho ht hn hl hp hI (by rw [hx2]; simpa [oneL, ownIs, List.all_eq_true] using h1)
  have hv : (parts.toList.map fun p => evV f p.2) = vs := by
    have := parts_lr hI parts.toList
    rw [hx2] at this
    clear hr h1 hx hx2
    revert this
    generalize (parts.toList.map fun p => evV f p.2) = ys
    induction vs generalizing ys with
    | nil => intro h; simpa only [List.map_nil, LRels] using h
    | cons v vs ih =>
      intro h
      simp only [List.map_cons, LRels, LRel] at h
      obtain ⟨y, r, rfl, rfl, h2⟩ := h
      rw [ih r h2]
  rw [hv] at hr
  rw [hr]
  have hlen : n = vs.length := by rw [hn, ← List.length_map (f := fun p : Nat × Operand => evL s p.2), hx2, List.length_map]
  have hlt := hI.lt
  refine .value (.rd vs) s _ _ ι fp (hI.grow _) ?_ ⟨rfl, rfl⟩
  simp only [LRel]
  refine ⟨some ⟨w.heap.size, 0, none⟩, n, by rw [hlen], by omega, by omega, fun hp => ⟨_, rfl, fun hq => by have := (hlt _ hq).2; simp at this, fun j u hu => ?_⟩⟩
  rw [add0, World.cell?_alloc_new]
  simpa using hu

theorem HereO.opP (hT : T.Ok P) {n : Nat} {all : Array Oper} {o : Oper} {l : List Oper} {s : St} {k : Kont} {r : LV} (hP : OpP P o (evL s) s.σ r) (h : OpsV P T n all l (s.put o.dst r) k) : HereO P T n all o l s k :=
  HereO.of hT h fun hK => hP.opT hK

theorem OpP.max2 {o : Oper} {ρ : Operand → LV} {σ : Nat → Option OC} {a b : Operand} {ts : Array TypeId} {k : IntKind} {x y : Int} (ho : o.op = .call { callee := .builtin .max, args := #[a, b], argTypes := ts }) (ha : ρ a = .v (.int k x)) (hb : ρ b = .v (.int k y)) :
    OpP P o ρ σ (.v (.int k (if y > x then y else x))) := by
  intro w0 w ι fp s f hI hσ hx
  have h1 := hI.ev a
  have h2 := hI.ev b
  rw [hx a (by simp [ho, Op.operands, Call.operands]), ha] at h1
  rw [hx b (by simp [ho, Op.operands, Call.operands]), hb] at h2
  simp only [LRel] at h1 h2
  have hr : (execOp (evV f) o).run P w = .ok (.value (.int k (if y > x then y else x))) w := by
    simp only [execOp, ho, resolve, invoke, builtin, Sem.run_bind, Sem.run_pure, Result.andThen_ok, List.map_toArray, List.map_cons, List.map_nil, h1, h2, run_max_int2]
  rw [hr]
  exact .value _ s _ w ι fp hI (by simp only [LRel]) ⟨rfl, rfl⟩
end
end Go.Proofs.Ytipdgkohfmpilaa
