/- A calculus of verification conditions over logical values: rows of the call's own, made, written to and appended to. -/
import Derived.Test.YtdbkiomhoonclaaVj
namespace Go.Proofs.Ytdbkiomhoonclaa
open Go.RowKit
set_option linter.unusedVariables false
set_option linter.unusedSimpArgs false

section
variable {P : Program} {T : TT}

theorem updI_self (ι : Nat → Option Value) (id : Nat) (v : Value) : updI ι id v id = some v := by simp [updI]
theorem fp_self {α : Type} (fp : Nat → α) (id : Nat) : (fun j => if j = id then fp id else fp j) = fp := by funext j; split <;> simp_all

theorem Inv.setRow {w0 : Base} {w : World} {ι : Nat → Option Value} {fp : Nat → Nat → Prop} {s : St} {f : Nat → Value} (hI : Inv w0 w ι fp s f) {id e g n c : Nat} {vs : List Value} (hσ : s.σ id = some (.row e vs)) (hid : ι id = some (.slice (some ⟨g, 0, none⟩) n c)) (i : Nat) (u : Value) :
    Inv w0 (w.setCell ⟨g, i, none⟩ u) ι fp (s.set id (.row e (vs.set i u))) f := by
  obtain ⟨v, g1, g2, g3⟩ := hI.ob id _ hσ
  rw [hid] at g1
  simp only [Option.some.injEq] at g1
  subst g1
  have hn : n = vs.length := by
    rcases g2.2 with ⟨h, _⟩ | ⟨_, _, _, h, _⟩ <;> simp only [Value.slice.injEq] at h <;> simp_all
  subst hn
  obtain ⟨h1, h2⟩ := g2.stored i u
  have h := hI.turn (w' := w.setCell ⟨g, i, none⟩ u) (ι' := ι) (fun _ => false) id (.row e (vs.set i u)) (fp id) h2.os h2.tape h2.output h2.size (fun k hk hn => h2.block k hk (fun e => hn id _ (.inl rfl) hσ ((g3 k).2 (by rw [e]; rfl))))
    (fun k hk => .inl ⟨id, _, .inl rfl, hσ, hk⟩) (fun _ _ _ e => e) hI.fix (fun hk => ⟨_, hid, by rw [List.length_set]; exact h1, g3⟩)
  rw [turn_none, fp_self] at h
  exact h

theorem OpT.storeRow (hT : T.Ok P) {o : Oper} {s : St} {K : LV → St → Prop} {t e : Nat} {a x : Operand} {id i : Nat} {vs : List Value} {u : Value} (ho : o.op = .store t a x) (ha : evL s a = .pe id i) (hσ : s.σ id = some (.row e vs))
    (ht : T.sc t = true) (hx : evL s x = .v u) (h1 : u.oneCell' = true) (hi : i < vs.length) (hK : K .junk (s.set id (.row e (vs.set i u)))) : OpT P o s K := by
  intro w0 w ι fp f hI
  have hav := hI.ev a
  rw [ha] at hav
  simp only [LRel] at hav
  obtain ⟨g, n, c, e1, e2⟩ := hav
  have hxv := hI.ev x
  rw [hx] at hxv
  simp only [LRel] at hxv
  obtain ⟨v, g1, g2, g3⟩ := hI.ob id _ hσ
  rw [e1] at g1
  simp only [Option.some.injEq] at g1
  subst g1
  obtain ⟨g', cap, e3, hc⟩ := own_cell g2 hi
  simp only [Value.slice.injEq, Option.some.injEq, Addr.mk.injEq, and_true] at e3
  obtain ⟨rfl, rfl, rfl⟩ := e3
  have hfr := g2.frozenAt i
  have hr : (execOp (evV f) o).run P w = .ok .skip (w.setCell ⟨g, i, none⟩ u) := by
    simp [execOp, ho, e2, hxv, Instr.storeAt, Instr.sureAddr, storeVar, hT.s1 t ht w, one_cells h1, storeCells, run_store P w _ u _ h1, hc, hfr, add0, Addr.add]
  rw [hr]
  exact .skip _ _ _ _ (hI.setRow hσ e1 i u) hK

/-- A row is made. -/
theorem OpT.makeSlice (hT : T.Ok P) {o : Oper} {s : St} {K : LV → St → Prop} {t e : Nat} {z : Value} {bts : Nat} {x : Operand} {kk : IntKind} {m : Int} (ho : o.op = .makeSlice t x x) (ht : T.el t = some (e, z, bts)) (hx : evL s x = .v (.int kk m)) (hm0 : 0 ≤ m) (hm : m ≤ 4294967296) (hb : bts ≤ 64)
    (id : Nat) (hid : 16 ≤ id) (hK : K (.own id) (s.fresh id (.row e (List.replicate m.toNat z)))) : OpT P o s K := by
  intro w0 w ι fp f hI
  have hxv := hI.ev x
  rw [hx] at hxv
  simp only [LRel] at hxv
  obtain ⟨hu, i, hi, hz, hs, rfl, hzc⟩ := hT.el t e z bts ht
  obtain ⟨m, rfl⟩ := Int.eq_ofNat_of_zero_le hm0
  have hbm : i.bytes * m ≤ 281474976710656 := by
    have := Nat.mul_le_mul hb (show m ≤ 4294967296 by omega)
    omega
  have hr := run_make (P := P) w t e i z hu hi hz kk kk m m (by omega) (Int.le_refl _) (by omega) (by omega)
  simp only [hs, Nat.mul_one, hzc] at hr
  have hr' : (execOp (evV f) o).run P w = .ok (.value (.slice (some ⟨w.heap.size, 0, none⟩) m m)) (w.alloc (.cells (madeCells #[z] m) e)) := by
    simp only [execOp, ho, hxv, Sem.run_bind, hr, Result.andThen_ok, Sem.run_pure, Int.toNat_natCast]
  rw [hr']
  have hown := World.ownsRow_lit (base := 0) (size := 1) (e := e) w (madeCells #[z] m) m (Nat.zero_le _) (by simp only [maxLen]; omega) (by rw [size_madeCells]; omega)
  rw [toList_madeCells_one] at hown
  refine .value _ _ _ _ _ _ (hI.fresh hid _ (.slice (some ⟨w.heap.size, 0, none⟩) m m) (.row e (List.replicate m z)) (fun k => k = w.heap.size) (fun _ h => h) fun _ => ?_) ?_ hK
  · exact ⟨_, updI_self _ _ _, by rw [List.length_replicate]; exact hown, fun k => by simp [Value.ownBlock, eq_comm]⟩
  · simp only [LRel]; simp [updI]

theorem fill_ones (pl : Nat → Option (Nat × Nat)) (hpl : ∀ i, pl i = some (i * 1, 1)) : ∀ (ps : List (Nat × Value)) (k : Nat) (cells : Array Value), (∀ j p, ps[j]? = some p → p.1 = k + j ∧ p.2.oneCell' = true) → cells.size = k + ps.length →
    Instr.fill pl cells ps = some (cells.toList.take k ++ ps.map (·.2)).toArray
  | [], k, cells, _, hc => by
    simp only [Instr.fill, List.map_nil, List.append_nil]
    rw [List.take_of_length_le (by simp at hc ⊢; omega)]
  | (i, v) :: ps, k, cells, h, hc => by
    have h0 := h 0 (i, v) rfl
    simp only [Nat.add_zero] at h0
    obtain ⟨rfl, h1⟩ := h0
    have hcell := one_cells h1
    simp only [List.length_cons] at hc
    have hlt : i < cells.size := by omega
    simp only [Instr.fill, hpl, hcell, Nat.mul_one]
    rw [if_neg (by simp; omega)]
    have hz : (#[v].zipIdx.foldl (fun cs (x : Value × Nat) => cs.setIfInBounds (i + x.2) x.1) cells) = cells.setIfInBounds i v := rfl
    have ih := fill_ones pl hpl ps (i + 1) (cells.setIfInBounds i v) (fun j p hj => by
      have := h (j + 1) p (by simpa using hj)
      exact ⟨by omega, this.2⟩) (by simp; omega)
    simp only [hz] 
    rw [ih]
    congr 2
    have hl : i < cells.toList.length := by simpa using hlt
    simp only [Array.toList_setIfInBounds, List.map_cons]
    rw [List.take_succ_eq_append_getElem (by simpa using hl)]
    simp [List.take_set_of_le]

/-- The parts of a literal, in order. -/
def partsIn : Nat → List (Nat × Operand) → Bool
  | _, [] => true
  | k, (i, _) :: l => i == k && partsIn (k + 1) l
theorem partsIn_get : ∀ {k : Nat} {l : List (Nat × Operand)}, partsIn k l = true → ∀ j p, l[j]? = some p → p.1 = k + j
  | _, [], _, _, _, hj => by simp at hj
  | k, (i, x) :: l, h, j, p, hj => by
    simp only [partsIn, Bool.and_eq_true, beq_iff_eq] at h
    cases j with
    | zero => simp at hj; subst hj; exact h.1
    | succ j => have := partsIn_get h.2 j p (by simpa using hj); omega

theorem run_buildSlice (hT : T.Ok P) {t e : Nat} {z : Value} {bts : Nat} (ht : T.el t = some (e, z, bts)) (w : World) (ps : List (Nat × Value)) (hp : ∀ (j : Nat) (p : Nat × Value), ps[j]? = some p → p.1 = j ∧ p.2.oneCell' = true) (hl : ps.length ≤ 1000) :
    (Instr.buildSlice t ps.length ps.toArray).run P w = .ok (.slice (some ⟨w.heap.size, 0, none⟩) ps.length ps.length) (w.alloc (.cells (ps.map (·.2)).toArray e)) := by
  obtain ⟨hu, i, hi, hz, hs, rfl, hzc⟩ := hT.el t e z bts ht
  have hno : ¬ 16777216 < ps.length := by omega
  have hf : ∀ cells : Array Value, cells.size = ps.length → Instr.fill (fun i => some (i, 1)) cells ps = some (ps.map (·.2)).toArray := fun cells hc => by
    have := fill_ones (fun i => some (i * 1, 1)) (fun _ => rfl) ps 0 cells (fun j p hj => by have := hp j p hj; exact ⟨by omega, this.2⟩) (by omega)
    simpa using this
  by_cases hn : ps.length = 0
  · have : ps = [] := List.eq_nil_of_length_eq_zero hn
    subst this
    simp [Instr.buildSlice, run_underlying hu, sizeOf, typeInfo, hi, hs, newRow, Instr.fill, Array.range_zero']
  · simp [Instr.buildSlice, run_underlying hu, sizeOf, typeInfo, hi, hs, hn, hno, zeroValue, hz, hzc]
    rw [hf _ (by simp)]
    simp [newRow]

theorem parts_lr {w0 : Base} {w : World} {ι : Nat → Option Value} {fp : Nat → Nat → Prop} {s : St} {f : Nat → Value} (hI : Inv w0 w ι fp s f) (ps : List (Nat × Operand)) : LRels ι (FF s.σ fp) w (ps.map fun p => evL s p.2) (ps.map fun p => evV f p.2) := by
  have := LRels.map hI.ev (ps.map (·.2))
  simpa [List.map_map, Function.comp_def] using this

theorem exec_buildSlice (hT : T.Ok P) {o : Oper} {t e : Nat} {z : Value} {bts n : Nat} {parts : Array (Nat × Operand)} (ho : o.op = .buildSlice t n parts) (ht : T.el t = some (e, z, bts)) (hn : n = parts.toList.length) (hl : n ≤ 1000) (hp : partsIn 0 parts.toList = true)
    {s : St} {w0 : Base} {w : World} {ι : Nat → Option Value} {fp : Nat → Nat → Prop} {f : Nat → Value} (hI : Inv w0 w ι fp s f) (h1 : (parts.toList.map fun p => evL s p.2).all (fun x => oneL x && ownIs s.σ x) = true) :
    (execOp (evV f) o).run P w = .ok (.value (.slice (some ⟨w.heap.size, 0, none⟩) n n)) (w.alloc (.cells (parts.toList.map fun p => evV f p.2).toArray e)) := by
  have hones := LRels.ones hI (parts_lr hI parts.toList) h1
  have hr := run_buildSlice hT ht w (parts.toList.map fun p => (p.1, evV f p.2)) (fun j p hj => by
    simp only [List.getElem?_map, Option.map_eq_some_iff] at hj
    obtain ⟨q, hq, rfl⟩ := hj
    refine ⟨by have := partsIn_get hp j q hq; simpa using this, hones _ (List.mem_map.2 ⟨q, List.mem_of_getElem? hq, rfl⟩)⟩) (by simp at hn ⊢; omega)
  simp only [List.length_map, List.map_map, Function.comp_def] at hr
  rw [← hn] at hr
  have hpa : (List.map (fun p => (p.1, evV f p.2)) parts.toList).toArray = parts.map fun (i, x) => (i, evV f x) := by
    apply Array.ext'; simp
  rw [hpa] at hr
  simp only [execOp, ho, Sem.run_bind, hr, Result.andThen_ok, Sem.run_pure]

/-- A literal of whole numbers and the like. -/
theorem OpT.buildRow (hT : T.Ok P) {o : Oper} {s : St} {K : LV → St → Prop} {t e : Nat} {z : Value} {bts n : Nat} {parts : Array (Nat × Operand)} (vs : List Value) (ho : o.op = .buildSlice t n parts) (ht : T.el t = some (e, z, bts)) (hn : n = parts.toList.length) (hl : n ≤ 1000) (hp : partsIn 0 parts.toList = true)
    (hx : (parts.toList.map fun p => evL s p.2) = vs.map .v) (h1 : vs.all (·.oneCell') = true) (id : Nat) (hid : 16 ≤ id) (hK : K (.own id) (s.fresh id (.row e vs))) : OpT P o s K := by
  intro w0 w ι fp f hI
  have hr := exec_buildSlice hT ho ht hn hl hp hI (by rw [hx]; simpa [oneL, ownIs, List.all_eq_true] using h1)
  have hv : (parts.toList.map fun p => evV f p.2) = vs := by
    have := parts_lr hI parts.toList
    rw [hx] at this
    clear hr hK h1 hx
    revert this
    generalize (parts.toList.map fun p => evV f p.2) = ys
    induction vs generalizing ys with
    | nil => intro h; simpa only [List.map_nil, LRels] using h
    | cons v vs ih =>
      intro h
      simp only [List.map_cons, LRels, LRel] at h
      obtain ⟨y, r, rfl, rfl, h2⟩ := h
      rw [ih r h2]
  rw [hv] at hr
  rw [hr]
  have hlen : n = vs.length := by rw [hn, ← List.length_map (f := fun p : Nat × Operand => evL s p.2), hx, List.length_map]
  have hown := World.ownsRow_lit (base := 0) (size := 1) (e := e) w vs.toArray n (Nat.zero_le _) (by simp only [maxLen]; omega) (by simp; omega)
  refine .value _ _ _ _ _ _ (hI.fresh hid _ (.slice (some ⟨w.heap.size, 0, none⟩) n n) (.row e vs) (fun k => k = w.heap.size) (fun _ h => h) fun _ => ?_) ?_ hK
  · exact ⟨_, updI_self _ _ _, by rw [← hlen]; simpa using hown, fun k => by simp [Value.ownBlock, eq_comm]⟩
  · simp only [LRel]; simp [updI]

/-- A literal of rows, structs' cells and the like. -/
theorem OpT.buildRowL (hT : T.Ok P) {o : Oper} {s : St} {K : LV → St → Prop} {t e : Nat} {z : Value} {bts n : Nat} {parts : Array (Nat × Operand)} (ho : o.op = .buildSlice t n parts) (ht : T.el t = some (e, z, bts)) (hn : n = parts.toList.length) (hl : n ≤ 1000) (hp : partsIn 0 parts.toList = true)
    (h1 : (parts.toList.map fun p => evL s p.2).all (fun x => oneL x && ownIs s.σ x) = true) (id : Nat) (hid : 16 ≤ id) (hno : kills (fun j => j == id) (parts.toList.map fun p => evL s p.2) = (parts.toList.map fun p => evL s p.2))
    (hK : K (.own id) (s.fresh id (.rowL e (parts.toList.map fun p => evL s p.2)))) : OpT P o s K := by
  intro w0 w ι fp f hI
  rw [exec_buildSlice hT ho ht hn hl hp hI h1]
  have hown := World.ownsRow_lit (base := 0) (size := 1) (e := e) w (parts.toList.map fun p => evV f p.2).toArray n (Nat.zero_le _) (by simp only [maxLen]; omega) (by simp at hn ⊢; omega)
  refine .value _ _ _ _ _ _ (hI.fresh hid _ (.slice (some ⟨w.heap.size, 0, none⟩) n n) (.rowL e (parts.toList.map fun p => evL s p.2)) (fun k => k = w.heap.size) (fun _ h => h) fun hk => ?_) ?_ hK
  · refine ⟨_, parts.toList.map fun p => evV f p.2, updI_self _ _ _, by rw [List.length_map, ← hn]; simpa using hown, fun k => by simp [Value.ownBlock, eq_comm], ?_⟩
    have hh := (parts_lr hI parts.toList).kills (ι' := updI ι id (.slice (some ⟨w.heap.size, 0, none⟩) n n)) (q := fun j => j == id) (kill_is fun j hj => by simp only [updI, if_neg hj]) hk
    rwa [hno] at hh
  · simp only [LRel]; simp [updI]


/-! ### Rows of structs of one cell -/
def cell0 (v : Value) : Value := v.cells.getD 0 undef
theorem fill_cells (pl : Nat → Option (Nat × Nat)) (hpl : ∀ i, pl i = some (i * 1, 1)) : ∀ (ps : List (Nat × Value)) (k : Nat) (cells : Array Value), (∀ (j : Nat) (p : Nat × Value), ps[j]? = some p → p.1 = k + j ∧ p.2.cells = #[cell0 p.2]) → cells.size = k + ps.length →
    Instr.fill pl cells ps = some (cells.toList.take k ++ ps.map (fun p => cell0 p.2)).toArray
  | [], k, cells, _, hc => by
    simp only [Instr.fill, List.map_nil, List.append_nil]
    rw [List.take_of_length_le (by simp at hc ⊢; omega)]
  | (i, v) :: ps, k, cells, h, hc => by
    have h0 := h 0 (i, v) rfl
    simp only [Nat.add_zero] at h0
    obtain ⟨rfl, hcell⟩ := h0
    simp only [List.length_cons] at hc
    have hlt : i < cells.size := by omega
    simp only [Instr.fill, hpl, Nat.mul_one]
    rw [hcell, if_neg (by simp; omega)]
    have hz : (#[cell0 v].zipIdx.foldl (fun cs (x : Value × Nat) => cs.setIfInBounds (i + x.2) x.1) cells) = cells.setIfInBounds i (cell0 v) := rfl
    have ih := fill_cells pl hpl ps (i + 1) (cells.setIfInBounds i (cell0 v)) (fun j p hj => by
      have := h (j + 1) p (by simpa using hj)
      exact ⟨by omega, this.2⟩) (by simp; omega)
    simp only [hz]
    rw [ih]
    congr 2
    have hl : i < cells.toList.length := by simpa using hlt
    simp only [Array.toList_setIfInBounds, List.map_cons]
    rw [List.take_succ_eq_append_getElem (by simpa using hl)]
    simp [List.take_set_of_le]

theorem run_buildAggs (hT : T.Ok P) {t e : Nat} (ht : T.ea t = some e) (w : World) (ps : List (Nat × Value)) (hp : ∀ (j : Nat) (p : Nat × Value), ps[j]? = some p → p.1 = j ∧ p.2.cells = #[cell0 p.2]) (hl : ps.length ≤ 1000) (h0 : ps.length ≠ 0) :
    (Instr.buildSlice t ps.length ps.toArray).run P w = .ok (.slice (some ⟨w.heap.size, 0, none⟩) ps.length ps.length) (w.alloc (.cells (ps.map (fun p => cell0 p.2)).toArray e)) := by
  obtain ⟨hu, i, z, hi, hz, hs, hzc⟩ := hT.ea t e ht
  have hno : ¬ 16777216 < ps.length := by omega
  have hf : ∀ cells : Array Value, cells.size = ps.length → Instr.fill (fun i => some (i, 1)) cells ps = some (ps.map (fun p => cell0 p.2)).toArray := fun cells hc => by
    have := fill_cells (fun i => some (i * 1, 1)) (fun _ => rfl) ps 0 cells (fun j p hj => by have := hp j p hj; exact ⟨by omega, this.2⟩) (by omega)
    simpa using this
  simp [Instr.buildSlice, run_underlying hu, sizeOf, typeInfo, hi, hs, h0, hno, zeroValue, hz]
  rw [hf _ (by simp)]
  simp [newRow]

theorem aggs_lr {ι : Nat → Option Value} {F : Nat → Prop} {w : World} : ∀ {ls : List LV} {ys : List Value}, LRels ι F w (ls.map fun x => .agg [x]) ys → LRels ι F w ls (ys.map cell0) ∧ ∀ y ∈ ys, y.cells = #[cell0 y]
  | [], ys, h => by simp only [List.map_nil, LRels] at h; subst h; exact ⟨by simp only [List.map_nil, LRels], fun y hy => by cases hy⟩
  | x :: ls, ys, h => by
    simp only [List.map_cons, LRels, LRel] at h
    obtain ⟨y, r, rfl, ⟨zs, rfl, z, q, rfl, hz, rfl⟩, h2⟩ := h
    obtain ⟨h3, h4⟩ := aggs_lr h2
    refine ⟨?_, fun y hy => ?_⟩
    · simp only [List.map_cons, LRels]; exact ⟨_, _, rfl, hz, h3⟩
    · cases hy with
      | head => rfl
      | tail _ hy => exact h4 y hy

/-- A literal of structs of one cell. -/
theorem OpT.buildAggs (hT : T.Ok P) {o : Oper} {s : St} {K : LV → St → Prop} {t e n : Nat} {parts : Array (Nat × Operand)} (ls : List LV) (ho : o.op = .buildSlice t n parts) (ht : T.ea t = some e) (hn : n = parts.toList.length) (hn0 : n ≠ 0) (hl : n ≤ 1000) (hp : partsIn 0 parts.toList = true)
    (hx : (parts.toList.map fun p => evL s p.2) = ls.map fun x => .agg [x]) (id : Nat) (hid : 16 ≤ id) (hno : kills (fun j => j == id) ls = ls) (hK : K (.own id) (s.fresh id (.rowL e ls))) : OpT P o s K := by
  intro w0 w ι fp f hI
  have hlr := parts_lr hI parts.toList
  rw [hx] at hlr
  obtain ⟨h1, h2⟩ := aggs_lr hlr
  have hr := run_buildAggs hT ht w (parts.toList.map fun p => (p.1, evV f p.2)) (fun j p hj => by
    simp only [List.getElem?_map, Option.map_eq_some_iff] at hj
    obtain ⟨q, hq, rfl⟩ := hj
    exact ⟨by have := partsIn_get hp j q hq; simpa using this, h2 _ (List.mem_map.2 ⟨q, List.mem_of_getElem? hq, rfl⟩)⟩) (by simp at hn ⊢; omega) (by rw [List.length_map]; omega)
  simp only [List.length_map, List.map_map, Function.comp_def] at hr
  rw [← hn] at hr
  have hpa : (List.map (fun p => (p.1, evV f p.2)) parts.toList).toArray = parts.map fun (i, x) => (i, evV f x) := by
    apply Array.ext'; simp
  rw [hpa] at hr
  have hr' : (execOp (evV f) o).run P w = .ok (.value (.slice (some ⟨w.heap.size, 0, none⟩) n n)) (w.alloc (.cells (parts.toList.map fun p => cell0 (evV f p.2)).toArray e)) := by
    simp only [execOp, ho, Sem.run_bind, hr, Result.andThen_ok, Sem.run_pure]
  rw [hr']
  have hm : (parts.toList.map fun p => evV f p.2).map cell0 = parts.toList.map fun p => cell0 (evV f p.2) := by simp [List.map_map, Function.comp_def]
  rw [hm] at h1
  have hown := World.ownsRow_lit (base := 0) (size := 1) (e := e) w (parts.toList.map fun p => cell0 (evV f p.2)).toArray n (Nat.zero_le _) (by simp only [maxLen]; omega) (by simp at hn ⊢; omega)
  refine .value _ _ _ _ _ _ (hI.fresh hid _ (.slice (some ⟨w.heap.size, 0, none⟩) n n) (.rowL e ls) (fun k => k = w.heap.size) (fun _ h => h) fun hk => ?_) ?_ hK
  · refine ⟨_, parts.toList.map fun p => cell0 (evV f p.2), updI_self _ _ _, by rw [List.length_map, ← hn]; simpa using hown, fun k => by simp [Value.ownBlock, eq_comm], ?_⟩
    have hh := h1.kills (ι' := updI ι id (.slice (some ⟨w.heap.size, 0, none⟩) n n)) (q := fun j => j == id) (kill_is fun j hj => by simp only [updI, if_neg hj]) hk
    rwa [hno] at hh
  · simp only [LRel]; simp [updI]

end
end Go.Proofs.Ytdbkiomhoonclaa
