/- A calculus of verification conditions over logical values: lists of structs of two cells that are only read. -/
import Derived.Test.YtdbkiomhoonclaaVw
namespace Go.Proofs.Ytdbkiomhoonclaa
open Go.RowKit
set_option linter.unusedVariables false
set_option linter.unusedSimpArgs false

def flat : List (LV × LV) → List LV
  | [] => []
  | x :: l => x.1 :: x.2 :: flat l
theorem flat_len : ∀ l, (flat l).length = l.length * 2
  | [] => rfl
  | x :: l => by simp [flat, flat_len l]; omega
theorem flat_at : ∀ (l : List (LV × LV)) (i : Nat) (x : LV × LV), l[i]? = some x → ((flat l).drop (i * 2)).take 2 = [x.1, x.2]
  | [], i, x, h => by simp at h
  | y :: l, 0, x, h => by simp at h; subst h; simp [flat]
  | y :: l, i + 1, x, h => by
    have := flat_at l i x (by simpa using h)
    rw [show (i + 1) * 2 = i * 2 + 2 by omega]
    simpa [flat] using this

/-- A type of lists of structs of two cells. -/
def Sl2 (P : Program) (t : Nat) : Prop := ∃ (e : Nat) (i : TypeInfo) (z : Value), P.underlying t = some (.slice e) ∧ P.info? e = some i ∧ i.size = 2 ∧ i.zero = some z ∧ z.cells.size = 2

theorem two_take (L : List Value) (i : Nat) (a b : Value) (h : 2 * i + 2 ≤ L.length) : ((L.set (i * 2) a).set (i * 2 + 1) b).take (2 * (i + 1)) = L.take (2 * i) ++ [a, b] := by
  rw [show 2 * (i + 1) = i * 2 + 1 + 1 by omega, show 2 * i = i * 2 by omega]
  rw [List.take_succ_eq_append_getElem (by simp; omega), List.take_succ_eq_append_getElem (by simp; omega)]
  simp [List.take_set_of_le]
theorem fill_two : ∀ (ps : List (Nat × Value)) (k : Nat) (cells : Array Value), (∀ (j : Nat) (p : Nat × Value), ps[j]? = some p → p.1 = k + j ∧ ∃ a b, p.2.cells = #[a, b]) → cells.size = 2 * (k + ps.length) →
    Instr.fill (fun i => some (i * 2, 2)) cells ps = some (cells.toList.take (2 * k) ++ ps.flatMap (fun p => p.2.cells.toList)).toArray
  | [], k, cells, _, hc => by
    simp only [Instr.fill, List.flatMap_nil, List.append_nil]
    rw [List.take_of_length_le (by simp at hc ⊢; omega)]
  | (i, v) :: ps, k, cells, h, hc => by
    obtain ⟨h0, a, b, hab⟩ := h 0 (i, v) rfl
    simp only [Nat.add_zero] at h0
    subst h0
    simp only at hab
    simp only [List.length_cons] at hc
    simp only [Instr.fill, hab]
    rw [if_neg (by simp; omega)]
    have hz : (#[a, b].zipIdx.foldl (fun cs (x : Value × Nat) => cs.setIfInBounds (i * 2 + x.2) x.1) cells) = (cells.setIfInBounds (i * 2) a).setIfInBounds (i * 2 + 1) b := rfl
    have ih := fill_two ps (i + 1) ((cells.setIfInBounds (i * 2) a).setIfInBounds (i * 2 + 1) b) (fun j p hj => by
      have := h (j + 1) p (by simpa using hj)
      exact ⟨by omega, this.2⟩) (by simp; omega)
    simp only [hz]
    rw [ih]
    congr 2
    simp only [Array.toList_setIfInBounds, List.flatMap_cons, hab]
    rw [two_take _ _ _ _ (by simp; omega)]
    simp

section
variable {P : Program} {T : TT}
theorem pairs_lr {ι : Nat → Option Value} {F : Nat → Prop} {w : World} : ∀ {ls : List (LV × LV)} {ys : List Value}, LRels ι F w (ls.map fun x => .agg [x.1, x.2]) ys → LRels ι F w (flat ls) (ys.flatMap fun y => y.cells.toList) ∧ ∀ y ∈ ys, ∃ a b, y.cells = #[a, b]
  | [], ys, h => by simp only [List.map_nil, LRels] at h; subst h; exact ⟨by simp only [flat, List.flatMap_nil, LRels], fun y hy => by cases hy⟩
  | x :: ls, ys, h => by
    simp only [List.map_cons, LRels, LRel] at h
    obtain ⟨y, r, rfl, ⟨zs, rfl, z, q, rfl, hz, z2, q2, rfl, hz2, rfl⟩, h2⟩ := h
    obtain ⟨h3, h4⟩ := pairs_lr h2
    refine ⟨?_, fun y hy => ?_⟩
    · simp only [flat, List.flatMap_cons, LRels]
      exact ⟨z, _, rfl, hz, z2, _, rfl, hz2, h3⟩
    · cases hy with
      | head => exact ⟨z, z2, rfl⟩
      | tail _ hy => exact h4 y hy

theorem OpP.buildA {o : Oper} {ρ : Operand → LV} {σ : Nat → Option OC} {t n : Nat} {parts : Array (Nat × Operand)} (hs : Sl2 P t) (ls : List (LV × LV)) (ho : o.op = .buildSlice t n parts) (hn : n = parts.toList.length) (hn0 : n ≠ 0) (hl : n ≤ 1000) (hp : partsIn 0 parts.toList = true)
    (hx : (parts.toList.map fun p => ρ p.2) = ls.map fun x => .agg [x.1, x.2]) : OpP P o ρ σ (.rdA 2 (flat ls)) := by
  intro w0 w ι fp s f hI hσ hρ
  obtain ⟨e, i, z, hu, hi, hsz, hz, hzc⟩ := hs
  have hev : ∀ p ∈ parts.toList, evL s p.2 = ρ p.2 := fun p hm => hρ p.2 (by simp [ho, Op.operands]; exact ⟨p.1, by simpa using hm⟩)
  have hlr := parts_lr hI parts.toList
  rw [List.map_congr_left (g := fun p => ρ p.2) hev, hx] at hlr
  obtain ⟨h1, h2⟩ := pairs_lr hlr
  have hlen : ls.length = n := by have := congrArg List.length hx; simp at this; simp at hn; omega
  have hno : ¬ 16777216 < n * 2 := by omega
  have hf : ∀ cells : Array Value, cells.size = n * 2 → Instr.fill (fun i => some (i * 2, 2)) cells (parts.toList.map fun p => (p.1, evV f p.2)) = some ((parts.toList.map fun p => evV f p.2).flatMap fun y => y.cells.toList).toArray := fun cells hc => by
    have := fill_two (parts.toList.map fun p => (p.1, evV f p.2)) 0 cells (fun j p hj => by
      simp only [List.getElem?_map, Option.map_eq_some_iff] at hj
      obtain ⟨q, hq, rfl⟩ := hj
      exact ⟨by have := partsIn_get hp j q hq; simpa using this, h2 _ (List.mem_map.2 ⟨q, List.mem_of_getElem? hq, rfl⟩)⟩) (by simp at hn ⊢; omega)
    rw [this]
    simp [List.flatMap_map]
  have hpa : (parts.map fun (x : Nat × Operand) => (x.1, evV f x.2)).toList = parts.toList.map fun p => (p.1, evV f p.2) := by simp
  have hr0 : (Instr.buildSlice t n (parts.map fun (x : Nat × Operand) => (x.1, evV f x.2))).run P w = .ok (.slice (some ⟨w.heap.size, 0, none⟩) n n) (w.alloc (.cells ((parts.toList.map fun p => evV f p.2).flatMap fun y => y.cells.toList).toArray e)) := by
    have hn2 : ¬ n * 2 = 0 := by omega
    simp only [Instr.buildSlice, Sem.run_bind, run_underlying hu, Result.andThen_ok, sizeOf, typeInfo, hi, hsz, zeroValue, hz, run_program, Sem.run_pure, hn2, if_false, show ¬ n * 2 > 2 ^ 24 from by omega]
    rw [hpa, hf _ (by simp)]
    simp [newRow]
  have hr : (execOp (evV f) o).run P w = .ok (.value (.slice (some ⟨w.heap.size, 0, none⟩) n n)) (w.alloc (.cells ((parts.toList.map fun p => evV f p.2).flatMap fun y => y.cells.toList).toArray e)) := by
    simp only [execOp, ho, Sem.run_bind]
    rw [hr0]
    simp
  rw [hr]
  have hlt := hI.lt
  have hfl := h1.length
  rw [flat_len] at hfl
  refine .value _ s _ _ ι fp (hI.grow _) ?_ ⟨rfl, rfl⟩
  simp only [LRel]
  refine ⟨_, n, n, _, rfl, by omega, Nat.le_refl _, by omega, fun _ => ⟨_, rfl, fun j u hu => ⟨fun hq => by have := (hlt _ hq).2; simp at this, ?_⟩⟩, h1.keeps (fun _ _ e => e) fun p u hp hc => ⟨?_, hp⟩⟩
  · rw [add0, World.cell?_alloc_new]
    simpa using hu
  · rw [World.cell?_alloc_lt (h := World.block_lt_of_cell? _ _ hc)]; exact hc

theorem OpP.lenA {o : Oper} {ρ : Operand → LV} {σ : Nat → Option OC} {t : Nat} {x : Operand} {ls : List (LV × LV)} (hs : Sl2 P t) (ho : o.op = .call { callee := .builtin .len, args := #[x], argTypes := #[t] }) (hx : ρ x = .rdA 2 (flat ls)) : OpP P o ρ σ (.v (.int .i64 ls.length)) := by
  intro w0 w ι fp s f hI hσ hρ
  obtain ⟨e, i, z, hu, hi, hsz, hz, hzc⟩ := hs
  have hv := hI.ev x
  rw [hρ x (by simp [ho, Op.operands, Call.operands]), hx] at hv
  simp only [LRel] at hv
  obtain ⟨A, m, c, ys, hv, h1, h2, h3, h4, h5⟩ := hv
  have hlen := h5.length
  rw [flat_len] at hlen
  have hm : m = ls.length := by omega
  have hue : P.underlying t = some (.slice (P.elem t)) := by
    have : P.elem t = e := by simp [Program.elem, hu]
    rw [this]; exact hu
  have hr : (execOp (evV f) o).run P w = .ok (.value (.int .i64 ls.length)) w := by
    simp only [execOp, ho, resolve, invoke, builtin, Sem.run_bind, Sem.run_pure, Result.andThen_ok, List.map_toArray, List.map_cons, List.map_nil, hv]
    simp [run_len_slice _ _ _ _ _ _ hue, goInt, hm]
  rw [hr]
  exact .value _ s _ w ι fp hI (by simp only [LRel]) ⟨rfl, rfl⟩

theorem OpP.indexA {o : Oper} {ρ : Operand → LV} {σ : Nat → Option OC} {t : Nat} {x y : Operand} {ls : List (LV × LV)} {k : IntKind} {j : Nat} {p : LV × LV} (hs : Sl2 P t) (ho : o.op = .indexAddr t x y) (hx : ρ x = .rdA 2 (flat ls)) (hy : ρ y = .v (.int k j)) (hj : ls[j]? = some p) : OpP P o ρ σ (.box [p.1, p.2]) := by
  intro w0 w ι fp s f hI hσ hρ
  obtain ⟨e, i, z, hu, hi, hsz, hz, hzc⟩ := hs
  have hv := hI.ev x
  rw [hρ x (by simp [ho, Op.operands]), hx] at hv
  have hv2 := hI.ev y
  rw [hρ y (by simp [ho, Op.operands]), hy] at hv2
  simp only [LRel] at hv hv2
  obtain ⟨A, m, c, ys, hv, h1, h2, h3, h4, h5⟩ := hv
  have hlen := h5.length
  rw [flat_len] at hlen
  have hm : m = ls.length := by omega
  have hjl : j < ls.length := (List.getElem?_eq_some_iff.1 hj).1
  obtain ⟨ad, rfl, hc⟩ := h4 (by omega)
  have hue : P.underlying t = some (.slice (P.elem t)) := by
    have : P.elem t = e := by simp [Program.elem, hu]
    rw [this]; exact hu
  have hes : P.elem t = e := by simp [Program.elem, hu]
  have hszr : (sizeOf e).run P w = .ok 2 w := by simp [sizeOf, typeInfo, hi, hsz]
  have hr : (execOp (evV f) o).run P w = .ok (.value (.pointer (some (ad.add (j * 2))))) w := by
    simp only [execOp, ho, hv, hv2, Sem.run_bind]
    rw [run_indexAt_slice _ _ _ _ _ _ _ hue, if_pos ⟨by omega, by omega⟩, hes, hszr]
    simp
  rw [hr]
  refine .value _ s _ w ι fp hI ?_ ⟨rfl, rfl⟩
  simp only [LRel]
  have hfa := flat_at ls j p hj
  have hl2 : LRels ι (FF s.σ fp) w (((flat ls).drop (j * 2)).take 2) ((ys.drop (j * 2)).take 2) := by
    have hdrop : ∀ (n : Nat) {l : List LV} {zs : List Value}, LRels ι (FF s.σ fp) w l zs → LRels ι (FF s.σ fp) w (l.drop n) (zs.drop n) := by
      intro n
      induction n with
      | zero => intro l zs h; simpa using h
      | succ n ih =>
        intro l zs h
        cases l with
        | nil => simp only [LRels] at h; subst h; simp only [List.drop_nil, LRels]
        | cons a l =>
          simp only [LRels] at h
          obtain ⟨b, r, rfl, _, h⟩ := h
          simpa using ih h
    have htake : ∀ (n : Nat) {l : List LV} {zs : List Value}, LRels ι (FF s.σ fp) w l zs → LRels ι (FF s.σ fp) w (l.take n) (zs.take n) := by
      intro n
      induction n with
      | zero => intro l zs h; simp only [List.take_zero, LRels]
      | succ n ih =>
        intro l zs h
        cases l with
        | nil => simp only [LRels] at h; subst h; simp only [List.take_nil, LRels]
        | cons a l =>
          simp only [LRels] at h
          obtain ⟨b, r, rfl, h0, h⟩ := h
          simp only [List.take_succ_cons, LRels]
          exact ⟨b, _, rfl, h0, ih h⟩
    exact htake 2 (hdrop (j * 2) h5)
  rw [hfa] at hl2
  refine ⟨_, _, rfl, fun q u hq => ?_, hl2⟩
  rw [List.getElem?_take] at hq
  split at hq
  · rw [List.getElem?_drop] at hq
    have := hc (j * 2 + q) u hq
    rw [add_block, Addr.add_add']
    exact this
  · cases hq
end
end Go.Proofs.Ytdbkiomhoonclaa
