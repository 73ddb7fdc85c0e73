/- A calculus of verification conditions over logical values: operations on strings, structs built, parts of rows that are read. -/
import Derived.Test.YtdbkiomhoonclaaVu
namespace Go.Proofs.Ytdbkiomhoonclaa
open Go.RowKit
set_option linter.unusedVariables false
set_option linter.unusedSimpArgs false

theorem Addr.add_add' (a : Addr) (m n : Nat) : (a.add m).add n = a.add (m + n) := by
  unfold Addr.add
  by_cases h : m = 0 <;> by_cases h2 : n = 0 <;> simp_all [Nat.add_assoc]
section
variable {P : Program} {T : TT}
theorem OpP.lenStr {o : Oper} {ρ : Operand → LV} {σ : Nat → Option OC} {t : Nat} {x : Operand} {b : ByteArray} (hu : P.underlying t = some .string) (ho : o.op = .call { callee := .builtin .len, args := #[x], argTypes := #[t] }) (hx : ρ x = .v (.string b)) : OpP P o ρ σ (.v (.int .i64 b.size)) := by
  intro w0 w ι fp s f hI hσ hρ
  have hv := hI.ev x
  rw [hρ x (by simp [ho, Op.operands, Call.operands]), hx] at hv
  simp only [LRel] at hv
  have hr : (execOp (evV f) o).run P w = .ok (.value (.int .i64 b.size)) w := by
    simp only [execOp, ho, resolve, invoke, builtin, Sem.run_bind, Sem.run_pure, Result.andThen_ok, List.map_toArray, List.map_cons, List.map_nil, hv]
    simp [run_len_string _ _ _ _ hu, goInt]
  rw [hr]
  exact .value _ s _ w ι fp hI (by simp only [LRel]) ⟨rfl, rfl⟩
/-- A byte of a text. -/
def byteAt (b : ByteArray) (i : Nat) : Int := (b.toList.getD i 0).toNat
theorem OpP.index {o : Oper} {ρ : Operand → LV} {σ : Nat → Option OC} {t : Nat} {x y : Operand} {b : ByteArray} {k : IntKind} {i : Nat} (hu : P.underlying t = some .string) (ho : o.op = .index t x y) (hx : ρ x = .v (.string b)) (hy : ρ y = .v (.int k i)) (hi : i < b.size) : OpP P o ρ σ (.v (.int .u8 (byteAt b i))) := by
  intro w0 w ι fp s f hI hσ hρ
  have hv := hI.ev x
  rw [hρ x (by simp [ho, Op.operands]), hx] at hv
  have hv2 := hI.ev y
  rw [hρ y (by simp [ho, Op.operands]), hy] at hv2
  simp only [LRel] at hv hv2
  have hb : ((b[i]'hi).toNat : Int) = byteAt b i := by
    unfold byteAt
    rw [List.getD_eq_getElem?_getD]
    have : b.toList[i]? = some (b[i]'hi) := by
      rw [ByteArray.toList_eq, Array.getElem?_toList]
      exact Array.getElem?_eq_getElem hi
    rw [this]
    rfl
  have hr : (execOp (evV f) o).run P w = .ok (.value (.int .u8 (byteAt b i))) w := by
    simp only [execOp, ho, hv, hv2, Sem.run_bind]
    rw [run_index_string _ _ _ _ _ hu, dif_pos ⟨by omega, by omega⟩]
    simp [← hb]
  rw [hr]
  exact .value _ s _ w ι fp hI (by simp only [LRel]) ⟨rfl, rfl⟩

/-- A part of a row that is read. -/
theorem OpP.slice (hT : T.Ok P) {o : Oper} {ρ : Operand → LV} {σ : Nat → Option OC} {t e : Nat} {z : Value} {bts : Nat} {x : Operand} {lo hi : Option Operand} {vs : List Value} (l h : Nat) (ho : o.op = .slice t x lo hi none) (ht : T.el t = some (e, z, bts)) (hx : ρ x = .rd vs)
    (hlo : cutAt ρ lo 0 l) (hhi : cutAt ρ hi vs.length h) (h1 : l ≤ h) (h2 : h ≤ vs.length) : OpP P o ρ σ (.rd ((vs.take h).drop l)) := by
  intro w0 w ι fp s f hI hσ hρ
  have hxv := hI.ev x
  rw [hρ x (by simp [ho, Op.operands]), hx] at hxv
  simp only [LRel] at hxv
  obtain ⟨A, c, hv, hNc, hl, hA⟩ := hxv
  obtain ⟨hu, i, hi', hz, hs, rfl, hzc⟩ := hT.el t e z bts ht
  have hue : P.underlying t = some (.slice (P.elem t)) := by
    have : P.elem t = e := by simp [Program.elem, hu]
    rw [this]; exact hu
  have hes : P.elem t = e := by simp [Program.elem, hu]
  have hsz : (sizeOf e).run P w = .ok 1 w := by simp [sizeOf, typeInfo, hi', hs]
  have hrun : (Instr.sliceAt t (.slice A vs.length c) (lo.map (evV f)) (hi.map (evV f)) none).run P w = .ok (sliced A l h c 1) w := by
    have hlv : ∀ a, lo = some a → ∃ k, evV f a = .int k l := fun a ha => by
      subst ha
      obtain ⟨k, hk⟩ := hlo
      have := hI.ev a
      rw [hρ a (by simp [ho, Op.operands]), hk] at this
      simp only [LRel] at this
      exact ⟨k, this⟩
    have hhv : ∀ a, hi = some a → ∃ k, evV f a = .int k h := fun a ha => by
      subst ha
      obtain ⟨k, hk⟩ := hhi
      have := hI.ev a
      rw [hρ a (by simp [ho, Op.operands]), hk] at this
      simp only [LRel] at this
      exact ⟨k, this⟩
    rw [run_sliceAt_slice (h := hue)]
    cases lo with
    | none =>
      simp only [cutAt] at hlo
      subst hlo
      cases hi with
      | none =>
        simp only [cutAt] at hhi
        subst hhi
        simp only [Option.map_none]
        rw [run_slice_all (ht := hue), hes, hsz]
        simp
      | some b =>
        obtain ⟨k, hk⟩ := hhv b rfl
        simp only [Option.map_none, Option.map_some, hk]
        rw [run_slice_h (ht := hue) (h0 := by omega) (h2 := by omega), hes, hsz]
        simp
    | some a =>
      obtain ⟨k, hk⟩ := hlv a rfl
      cases hi with
      | none =>
        simp only [cutAt] at hhi
        subst hhi
        simp only [Option.map_none, Option.map_some, hk]
        rw [run_slice_l (ht := hue) (h0 := by omega) (h1 := by omega), hes, hsz]
        simp
      | some b =>
        obtain ⟨k', hk'⟩ := hhv b rfl
        simp only [Option.map_some, hk, hk']
        rw [run_slice_lh (ht := hue) (h0 := by omega) (h1 := by omega) (h2 := by omega), hes, hsz]
        simp
  have hr : (execOp (evV f) o).run P w = .ok (.value (sliced A l h c 1)) w := by
    simp [execOp, ho, hv, hrun]
  rw [hr]
  refine .value _ s _ _ ι fp hI ?_ ⟨rfl, rfl⟩
  simp only [LRel]
  have hlen : ((vs.take h).drop l).length = h - l := by simp; omega
  refine ⟨(if c = l then A else A.map (·.add (l * 1))), c - l, by rw [hlen]; rfl, by omega, by omega, fun hp => ?_⟩
  obtain ⟨ad, rfl, hF, hcell⟩ := hA (by omega)
  rw [if_neg (by omega)]
  refine ⟨ad.add l, by simp, by rw [add_block]; exact hF, fun j u hu => ?_⟩
  rw [List.getElem?_drop, List.getElem?_take] at hu
  split at hu
  · have := hcell (l + j) u hu
    rw [Addr.add_add']
    exact this
  · cases hu

/-- A struct of cells. -/
def BuiltAt (P : Program) (t : Nat) (zl : List Value) : Prop := ∃ pl : Nat → Option (Nat × Nat), (∀ i, i < zl.length → pl i = some (i, 1)) ∧ ∀ parts, P.built t parts = Instr.fill pl zl.toArray parts
def setAll {α : Type} : List (Nat × α) → List α → List α
  | [], l => l
  | p :: ps, l => setAll ps (l.set p.1 p.2)
theorem setAll_len {α : Type} : ∀ (ps : List (Nat × α)) (l : List α), (setAll ps l).length = l.length
  | [], l => rfl
  | p :: ps, l => by simp [setAll, setAll_len ps]
theorem fill_sets (pl : Nat → Option (Nat × Nat)) (n : Nat) (hpl : ∀ i, i < n → pl i = some (i, 1)) : ∀ (ps : List (Nat × Value)) (l : List Value), l.length = n → (∀ p ∈ ps, p.1 < n ∧ p.2.oneCell' = true) → Instr.fill pl l.toArray ps = some (setAll ps l).toArray
  | [], l, _, _ => rfl
  | (i, v) :: ps, l, hl, h => by
    obtain ⟨h0, h1⟩ := h (i, v) (List.mem_cons_self ..)
    have hcell := one_cells h1
    simp only [Instr.fill, hpl i h0, hcell]
    rw [if_neg (by simp; simp at h0; omega)]
    have hz : (#[v].zipIdx.foldl (fun cs (x : Value × Nat) => cs.setIfInBounds (i + x.2) x.1) l.toArray) = l.toArray.setIfInBounds i v := rfl
    simp only [hz, List.setIfInBounds_toArray]
    rw [fill_sets pl n hpl ps (l.set i v) (by simpa using hl) (fun p hp => h p (List.mem_cons_of_mem _ hp))]
    rfl
theorem LRels.setAll {ι : Nat → Option Value} {F : Nat → Prop} {w : World} : ∀ {ps : List (Nat × LV)} {qs : List (Nat × Value)} {l : List LV} {ys : List Value}, ps.map (·.1) = qs.map (·.1) → LRels ι F w (ps.map (·.2)) (qs.map (·.2)) → LRels ι F w l ys → LRels ι F w (Go.Proofs.Ytdbkiomhoonclaa.setAll ps l) (Go.Proofs.Ytdbkiomhoonclaa.setAll qs ys)
  | [], [], l, ys, _, _, h => h
  | [], _ :: _, _, _, h, _, _ => by simp at h
  | _ :: _, [], _, _, h, _, _ => by simp at h
  | (i, x) :: ps, (j, y) :: qs, l, ys, h1, h2, h3 => by
    simp only [List.map_cons, List.cons.injEq] at h1
    obtain ⟨rfl, h1'⟩ := h1
    simp only [List.map_cons, LRels] at h2
    obtain ⟨y', r, e, h4, h5⟩ := h2
    simp only [List.cons.injEq] at e
    obtain ⟨rfl, rfl⟩ := e
    have := LRels.setAll (ps := ps) (qs := qs) h1' h5 (LRels.set h4 i h3)
    exact this
theorem LRels.zl {ι : Nat → Option Value} {F : Nat → Prop} {w : World} : ∀ {ys : List Value}, LRels ι F w (ys.map .v) ys
  | [] => by simp only [List.map_nil, LRels]
  | y :: ys => by simp only [List.map_cons, LRels, LRel]; exact ⟨y, ys, rfl, rfl, LRels.zl⟩
theorem OpP.build {o : Oper} {ρ : Operand → LV} {σ : Nat → Option OC} {t : Nat} {zl : List Value} {parts : Array (Nat × Operand)} {r : List LV} (hb : BuiltAt P t zl) (ho : o.op = .build t parts) (hp : parts.toList.all (fun p => decide (p.1 < zl.length)) = true)
    (h1 : parts.toList.all (fun p => oneL (ρ p.2) && ownIs σ (ρ p.2)) = true) (hr : setAll (parts.toList.map fun p => (p.1, ρ p.2)) (zl.map .v) = r) : OpP P o ρ σ (.agg r) := by
  intro w0 w ι fp s f hI hσ hρ
  subst hr
  subst hσ
  obtain ⟨pl, hpl, hbu⟩ := hb
  have hev : ∀ p ∈ parts.toList, evL s p.2 = ρ p.2 := fun p hm => hρ p.2 (by simp [ho, Op.operands]; exact ⟨p.1, by simpa using hm⟩)
  have hone : ∀ p ∈ parts.toList, (evV f p.2).oneCell' = true := fun p hm => by
    have h := List.all_eq_true.1 h1 p hm
    rw [← hev p hm] at h
    simp only [Bool.and_eq_true] at h
    exact hI.own_one (hI.ev p.2) h.1 fun j hj => by have := h.2; rw [hj] at this; exact this
  have hfill := fill_sets pl zl.length hpl (parts.toList.map fun p => (p.1, evV f p.2)) zl rfl (fun p hm => by
    obtain ⟨q, hq, rfl⟩ := List.mem_map.1 hm
    exact ⟨by simpa using List.all_eq_true.1 hp q hq, hone q hq⟩)
  have hrun : (Instr.build t (parts.map fun (x : Nat × Operand) => (x.1, evV f x.2))).run P w = .ok (.agg (setAll (parts.toList.map fun p => (p.1, evV f p.2)) zl).toArray) w :=
    run_build w t _ _ (by rw [hbu, Array.toList_map]; exact hfill)
  have hr : (execOp (evV f) o).run P w = .ok (.value (.agg (setAll (parts.toList.map fun p => (p.1, evV f p.2)) zl).toArray)) w := by
    simp [execOp, ho, hrun]
  rw [hr]
  refine .value _ s _ w ι fp hI ?_ ⟨rfl, rfl⟩
  simp only [LRel]
  refine ⟨_, rfl, LRels.setAll (by simp) ?_ LRels.zl⟩
  rw [List.map_map, List.map_map]
  have key : ∀ l : List (Nat × Operand), (∀ p ∈ l, evL s p.2 = ρ p.2) → LRels ι (FF s.σ fp) w (l.map ((·.2) ∘ fun p => (p.1, ρ p.2))) (l.map ((·.2) ∘ fun p => (p.1, evV f p.2))) := by
    intro l
    induction l with
    | nil => intro _; simp only [List.map_nil, LRels]
    | cons p l ih =>
      intro h
      simp only [List.map_cons, LRels, Function.comp]
      refine ⟨_, _, rfl, ?_, ih fun q hq => h q (List.mem_cons_of_mem _ hq)⟩
      rw [← h p (List.mem_cons_self ..)]
      exact hI.ev p.2
  exact key _ hev
end
end Go.Proofs.Ytdbkiomhoonclaa
