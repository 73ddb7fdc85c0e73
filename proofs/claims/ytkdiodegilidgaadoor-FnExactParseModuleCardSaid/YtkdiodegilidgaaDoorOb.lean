/- Contracts: texts cut into parts; groups read. -/
import Derived.Test.YtkdiodegilidgaaDoorOa
import Derived.Test.YtkdiodegilidgaaDoorEa
import Derived.Laws.DeepStrings4
namespace Go.Proofs.YtkdiodegilidgaaDoor
open Go.RowKit
set_option linter.unusedVariables false
set_option linter.unusedSimpArgs false
set_option maxRecDepth 100000

section
variable {P : Program} {T : TT}
/-- A part of a text. -/
theorem OpP.sliceStr {o : Oper} {ρ : Operand → LV} {σ : Nat → Option OC} {t : Nat} {x a b : Operand} {k k' : IntKind} {s : ByteArray} {i j : Nat} (hu : P.underlying t = some .string) (ho : o.op = .slice t x (some a) (some b) none) (hx : ρ x = .v (.string s)) (ha : ρ a = .v (.int k i)) (hb : ρ b = .v (.int k' j)) (h1 : i ≤ j) (h2 : j ≤ s.size) : OpP P o ρ σ (.v (.string (s.extract i j))) := by
  intro w0 w ι fp st f hI hσ hρ
  have hv := hI.ev x
  rw [hρ x (by simp [ho, Op.operands]), hx] at hv
  have hva := hI.ev a
  rw [hρ a (by simp [ho, Op.operands]), ha] at hva
  have hvb := hI.ev b
  rw [hρ b (by simp [ho, Op.operands]), hb] at hvb
  simp only [LRel] at hv hva hvb
  have hr : (execOp (evV f) o).run P w = .ok (.value (.string (s.extract i j))) w := by
    simp only [execOp, ho, hv, hva, hvb, Option.map_some, Option.map_none, Sem.run_bind]
    rw [run_sliceAt_string (h := hu), run_slice_string_if (h := hu), if_pos ⟨by omega, by omega⟩, if_pos ⟨by omega, by omega⟩]
    simp
  rw [hr]
  exact .value _ st _ w ι fp hI (by simp only [LRel]) ⟨rfl, rfl⟩
theorem OpP.fromStr {o : Oper} {ρ : Operand → LV} {σ : Nat → Option OC} {t : Nat} {x a : Operand} {k : IntKind} {s : ByteArray} {i : Nat} (hu : P.underlying t = some .string) (ho : o.op = .slice t x (some a) none none) (hx : ρ x = .v (.string s)) (ha : ρ a = .v (.int k i)) (h1 : i ≤ s.size) : OpP P o ρ σ (.v (.string (s.extract i s.size))) := by
  intro w0 w ι fp st f hI hσ hρ
  have hv := hI.ev x
  rw [hρ x (by simp [ho, Op.operands]), hx] at hv
  have hva := hI.ev a
  rw [hρ a (by simp [ho, Op.operands]), ha] at hva
  simp only [LRel] at hv hva
  have hr : (execOp (evV f) o).run P w = .ok (.value (.string (s.extract i s.size))) w := by
    simp only [execOp, ho, hv, hva, Option.map_some, Option.map_none, Sem.run_bind]
    rw [run_sliceAt_string (h := hu), run_slice_string_from_if (h := hu)]
    simp [h1]
  rw [hr]
  exact .value _ st _ w ι fp hI (by simp only [LRel]) ⟨rfl, rfl⟩
theorem OpP.toStr {o : Oper} {ρ : Operand → LV} {σ : Nat → Option OC} {t : Nat} {x b : Operand} {k : IntKind} {s : ByteArray} {j : Nat} (hu : P.underlying t = some .string) (ho : o.op = .slice t x none (some b) none) (hx : ρ x = .v (.string s)) (hb : ρ b = .v (.int k j)) (h1 : j ≤ s.size) : OpP P o ρ σ (.v (.string (s.extract 0 j))) := by
  intro w0 w ι fp st f hI hσ hρ
  have hv := hI.ev x
  rw [hρ x (by simp [ho, Op.operands]), hx] at hv
  have hvb := hI.ev b
  rw [hρ b (by simp [ho, Op.operands]), hb] at hvb
  simp only [LRel] at hv hvb
  have hr : (execOp (evV f) o).run P w = .ok (.value (.string (s.extract 0 j))) w := by
    simp only [execOp, ho, hv, hvb, Option.map_some, Option.map_none, Sem.run_bind]
    rw [run_sliceAt_string (h := hu), run_slice_string_to_if (h := hu)]
    simp [h1]
  rw [hr]
  exact .value _ st _ w ι fp hI (by simp only [LRel]) ⟨rfl, rfl⟩
end
/-! ### Plain facts of parts -/
theorem extract_strB (s : ByteArray) (a b : Nat) : s.extract a b = strB ((s.data.toList.drop a).take (b - a)) := by
  rw [← strB_data (s.extract a b), Lib.extract_data]
theorem byteAt_data (s : ByteArray) (i : Nat) (h : i < s.size) : byteAt s i = ((s.data.toList[i]'h).toNat : Int) := by
  unfold byteAt
  rw [List.getD_eq_getElem?_getD, ByteArray.toList_eq, List.getElem?_eq_getElem h]
  rfl
theorem parts_ne (c : UInt8) (l : List UInt8) : parts c l ≠ [] := by
  intro h
  have := parts_len c l
  rw [h] at this
  simp at this
theorem parts_snoc (c b : UInt8) : ∀ (l : List UInt8) (A : List (List UInt8)) (x : List UInt8), parts c l = A ++ [x] → parts c (l ++ [b]) = if b = c then A ++ [x, []] else A ++ [x ++ [b]]
  | [], A, x, h => by
    have hA : A = [] ∧ x = [] := by
      cases A with
      | nil => simp [parts] at h; exact ⟨rfl, h⟩
      | cons y A => simp [parts] at h
    obtain ⟨rfl, rfl⟩ := hA
    by_cases e : b = c
    · simp [parts, e]
    · simp [parts, e]
  | d :: l, A, x, h => by
    by_cases e : d = c
    · simp only [parts, if_pos e] at h
      cases A with
      | nil =>
        simp only [List.nil_append, List.cons.injEq] at h
        exact absurd h.2 (parts_ne c l)
      | cons y A =>
        simp only [List.cons_append, List.cons.injEq] at h
        have ih := parts_snoc c b l A x h.2
        simp only [List.cons_append, parts, if_pos e, ih, ← h.1]
        split <;> rfl
    · simp only [parts, if_neg e] at h
      cases hp : parts c l with
      | nil => exact absurd hp (parts_ne c l)
      | cons p r =>
        rw [hp] at h
        simp only at h
        cases A with
        | nil =>
          simp only [List.nil_append, List.cons.injEq] at h
          obtain ⟨h1, h2⟩ := h
          subst h2
          have ih := parts_snoc c b l [] p (by simpa using hp)
          simp only [List.cons_append, parts, if_neg e, ih]
          by_cases e2 : b = c
          · simp [e2, ← h1]
          · simp [e2, ← h1]
        | cons y A =>
          simp only [List.cons_append, List.cons.injEq] at h
          obtain ⟨h1, h2⟩ := h
          have ih := parts_snoc c b l (p :: A) x (by rw [hp, h2]; rfl)
          simp only [List.cons_append, parts, if_neg e, ih]
          by_cases e2 : b = c
          · simp [e2, ← h1]
          · simp [e2, ← h1]
theorem parts_sum (c : UInt8) : ∀ l : List UInt8, ((parts c l).map fun p => p.length + 1).sum = l.length + 1
  | [] => rfl
  | b :: l => by
    have ih := parts_sum c l
    by_cases e : b = c
    · simp only [parts, if_pos e, List.map_cons, List.sum_cons, ih, List.length_cons, List.length_nil]; omega
    · simp only [parts, if_neg e]
      cases hp : parts c l with
      | nil => exact absurd hp (parts_ne c l)
      | cons p r =>
        rw [hp] at ih
        simp only [List.map_cons, List.sum_cons, List.length_cons] at ih ⊢
        omega
theorem parts_part (c : UInt8) (l p : List UInt8) (h : p ∈ parts c l) : p.length ≤ l.length := by
  have hs := parts_sum c l
  have : ∀ q : List (List UInt8), p ∈ q → p.length + 1 ≤ (q.map fun p => p.length + 1).sum := by
    intro q
    induction q with
    | nil => intro h; cases h
    | cons x q ih =>
      intro h
      simp only [List.map_cons, List.sum_cons]
      rcases List.mem_cons.1 h with h | h
      · subst h; omega
      · have := ih h; omega
  have := this _ h
  omega
/-- A row of a group, read. -/
def rowOf (p : List UInt8) : List Int := p.map fun b => (b.toNat : Int) - 48
def readG (l : List UInt8) : List (List Int) := (parts 44 l).map rowOf
theorem readG_short {l : List UInt8} (h : Grp (readG l)) : l.length ≤ 71 := by
  have h8 := h.2.1
  have hr := grp_rows h
  have hs := parts_sum 44 l
  have : ∀ q : List (List UInt8), (∀ p ∈ q, p.length ≤ 8) → (q.map fun p => p.length + 1).sum ≤ 9 * q.length := by
    intro q
    induction q with
    | nil => intro _; simp
    | cons p q ih =>
      intro hq
      have := ih fun p hp => hq p (List.mem_cons_of_mem _ hp)
      have := hq p (List.mem_cons_self ..)
      simp only [List.map_cons, List.sum_cons, List.length_cons]
      omega
  have := this (parts 44 l) fun p hp => by
    have := hr (rowOf p) (List.mem_map_of_mem hp)
    simpa [rowOf] using this
  simp only [readG, List.length_map] at h8
  omega
/-! ### The reference's -/
theorem l01Split_spec (s : ByteArray) (c : UInt8) (hs : s.size ≤ 1048576) : Spec Tryd.prog 43 [.v (.string s), .v (.int .u8 (c.toNat : Int))] (.own 0) [.row 9 (SS ((parts c s.data.toList).map strB))] := by
  refine Spec.of_code T_ok Tryd.func43 rfl Tryd.ntmps43 Tryd.call43 (Nat.le_of_ble_eq_true rfl) rfl rfl (CodeV_sound T_ok (by kernel_rfl) rfl ?_)
  simp only [Tryd.results43, go_sem, Nat.reduceMul, Nat.reduceLeDiff, Nat.reduceLT, reduceIte, reduceCtorEq, Nat.reduceEqDiff, Nat.reduceSub, Nat.reduceAdd]
  refine HereO.buildRow T_ok 108 (SS []) rfl rfl rfl (by decide) rfl (by simp only [go_sem, Nat.reduceMul, Nat.reduceLeDiff, Nat.reduceLT, reduceIte, reduceCtorEq, Nat.reduceEqDiff, Nat.reduceSub, Nat.reduceAdd] <;> rfl) rfl (by decide) ?_
  simp only [Tryd.results43, go_sem, Nat.reduceMul, Nat.reduceLeDiff, Nat.reduceLT, reduceIte, reduceCtorEq, Nat.reduceEqDiff, Nat.reduceSub, Nat.reduceAdd]
  have hsz : s.data.toList.length = s.size := (Lib.size_eq s).symm
  refine Here.loopV T_ok (κ := Nat × Nat × List (List UInt8)) (fun k => k.1 ≤ k.2.1 ∧ k.2.1 ≤ s.size ∧ parts c (s.data.toList.take k.2.1) = k.2.2 ++ [(s.data.toList.take k.2.1).drop k.1]) (fun k => s.size - k.2.1) (fun k => [(0, .v (.string s)), (1, .v (.int .u8 (c.toNat : Int))), (5, .own 108), (6, .v (.int .i64 k.1)), (7, .v (.int .i64 k.2.1))]) (fun k => [(108, .row 9 (SS (k.2.2.map strB)))]) (0, 0, []) ⟨by simp, by simp, by simp [parts]⟩ (by simp only [Tryd.results43, go_sem, Nat.reduceMul, Nat.reduceLeDiff, Nat.reduceLT, reduceIte, reduceCtorEq, Nat.reduceEqDiff, Nat.reduceSub, Nat.reduceAdd]; simp) (by simp only [Tryd.results43, go_sem, Nat.reduceMul, Nat.reduceLeDiff, Nat.reduceLT, reduceIte, reduceCtorEq, Nat.reduceEqDiff, Nat.reduceSub, Nat.reduceAdd]) ?_
  rintro ⟨at_, i, A⟩ ⟨h1, h2, h3⟩
  dsimp only at h1 h2 h3
  have hA : A.length ≤ 1048576 := by
    have := parts_len c (s.data.toList.take i)
    rw [h3] at this
    have hc := List.count_le_length (a := c) (l := s.data.toList.take i)
    simp only [List.length_append, List.length_cons, List.length_nil, List.length_take] at this hc
    omega
  simp only [Tryd.results43, go_sem, Nat.reduceMul, Nat.reduceLeDiff, Nat.reduceLT, reduceIte, reduceCtorEq, Nat.reduceEqDiff, Nat.reduceSub, Nat.reduceAdd]
  refine HereO.opP T_ok (OpP.lenStr Tryd.underlying9 rfl rfl) ?_
  simp only [Tryd.results43, go_sem, Nat.reduceMul, Nat.reduceLeDiff, Nat.reduceLT, reduceIte, reduceCtorEq, Nat.reduceEqDiff, Nat.reduceSub, Nat.reduceAdd]
  refine ⟨fun h4 => ?_, fun h4 => ?_⟩
  · have hi : i < s.size := by omega
    refine HereO.opP T_ok (OpP.index (i := i) Tryd.underlying9 rfl rfl rfl hi) ?_
    simp only [Tryd.results43, go_sem, Nat.reduceMul, Nat.reduceLeDiff, Nat.reduceLT, reduceIte, reduceCtorEq, Nat.reduceEqDiff, Nat.reduceSub, Nat.reduceAdd]
    have hb := byteAt_data s i (by omega)
    have htk : s.data.toList.take (i + 1) = s.data.toList.take i ++ [s.data.toList[i]'(by omega)] := List.take_succ_eq_append_getElem (by omega)
    have hsn := parts_snoc c (s.data.toList[i]'(by omega)) (s.data.toList.take i) A _ h3
    rw [← htk] at hsn
    refine ⟨fun h5 => ?_, fun h5 => ?_⟩
    · have hbc : s.data.toList[i]'(by omega) = c := by
        rw [hb] at h5
        exact UInt8.toNat_inj.1 (by omega)
      rw [if_pos hbc] at hsn
      refine HereO.opP T_ok (OpP.sliceStr (i := at_) (j := i) Tryd.underlying9 rfl rfl rfl rfl h1 h2) ?_
      simp only [Tryd.results43, go_sem, Nat.reduceMul, Nat.reduceLeDiff, Nat.reduceLT, reduceIte, reduceCtorEq, Nat.reduceEqDiff, Nat.reduceSub, Nat.reduceAdd]
      rw [extract_strB]
      refine HereO.buildRow T_ok 125 (SS [strB ((s.data.toList.drop at_).take (i - at_))]) rfl rfl rfl (by decide) rfl (by first | rfl | (simp only [go_sem, Nat.reduceMul, Nat.reduceLeDiff, Nat.reduceLT, reduceIte, reduceCtorEq, Nat.reduceEqDiff, Nat.reduceSub, Nat.reduceAdd] <;> rfl)) rfl (by decide) ?_
      simp only [Tryd.results43, go_sem, Nat.reduceMul, Nat.reduceLeDiff, Nat.reduceLT, reduceIte, reduceCtorEq, Nat.reduceEqDiff, Nat.reduceSub, Nat.reduceAdd]
      refine HereO.append T_ok (SS [strB ((s.data.toList.drop at_).take (i - at_))]) rfl rfl (by decide) (by simp only [go_sem, Nat.reduceMul, Nat.reduceLeDiff, Nat.reduceLT, reduceIte, reduceCtorEq, Nat.reduceEqDiff, Nat.reduceSub, Nat.reduceAdd] <;> rfl) (by decide) (by simp only [go_sem, Nat.reduceMul, Nat.reduceLeDiff, Nat.reduceLT, reduceIte, reduceCtorEq, Nat.reduceEqDiff, Nat.reduceSub, Nat.reduceAdd] <;> rfl) (by simp only [go_sem, Nat.reduceMul, Nat.reduceLeDiff, Nat.reduceLT, reduceIte, reduceCtorEq, Nat.reduceEqDiff, Nat.reduceSub, Nat.reduceAdd] <;> rfl) (.own 125 _ _ (by decide) (by simp only [go_sem, Nat.reduceMul, Nat.reduceLeDiff, Nat.reduceLT, reduceIte, reduceCtorEq, Nat.reduceEqDiff, Nat.reduceSub, Nat.reduceAdd] <;> rfl)) (SS_one _) (by simp only [SS_len, List.length_append, List.length_map, List.length_cons, List.length_nil]; omega) ?_
      simp only [Tryd.results43, go_sem, Nat.reduceMul, Nat.reduceLeDiff, Nat.reduceLT, reduceIte, reduceCtorEq, Nat.reduceEqDiff, Nat.reduceSub, Nat.reduceAdd]
      refine ⟨by unfold InR; omega, by unfold InR; omega, (i + 1, i + 1, A ++ [(s.data.toList.take i).drop at_]), ⟨Nat.le_refl _, hi, ?_⟩, ?_, ⟨by push_cast; rfl, by push_cast; rfl⟩, ?_⟩
      · show parts c (s.data.toList.take (i + 1)) = _
        have e0 : (s.data.toList.take (i + 1)).drop (i + 1) = [] := List.drop_of_length_le (by rw [List.length_take]; omega)
        show _ = (A ++ [(s.data.toList.take i).drop at_]) ++ [(s.data.toList.take (i + 1)).drop (i + 1)]
        rw [hsn, e0]
        simp
      · show s.size - (i + 1) < s.size - i
        omega
      · rw [SS_app, List.drop_take]
        simp
    · have hbc : s.data.toList[i]'(by omega) ≠ c := fun e => h5 (by rw [hb, e])
      rw [if_neg hbc] at hsn
      refine ⟨by unfold InR; omega, (at_, i + 1, A), ⟨by show at_ ≤ i + 1; omega, hi, ?_⟩, ?_, ⟨rfl, by push_cast; rfl⟩, rfl⟩
      · show parts c (s.data.toList.take (i + 1)) = _
        rw [hsn, htk, List.drop_append_of_le_length (by rw [List.length_take, Nat.min_eq_left (by omega)]; exact h1)]
      · show s.size - (i + 1) < s.size - i
        omega
  · obtain rfl : i = s.size := by omega
    refine HereO.opP T_ok (OpP.fromStr (i := at_) Tryd.underlying9 rfl rfl rfl h1) ?_
    simp only [Tryd.results43, go_sem, Nat.reduceMul, Nat.reduceLeDiff, Nat.reduceLT, reduceIte, reduceCtorEq, Nat.reduceEqDiff, Nat.reduceSub, Nat.reduceAdd]
    rw [extract_strB]
    refine HereO.buildRow T_ok 133 (SS [strB ((s.data.toList.drop at_).take (s.size - at_))]) rfl rfl rfl (by decide) rfl (by first | rfl | (simp only [go_sem, Nat.reduceMul, Nat.reduceLeDiff, Nat.reduceLT, reduceIte, reduceCtorEq, Nat.reduceEqDiff, Nat.reduceSub, Nat.reduceAdd] <;> rfl)) rfl (by decide) ?_
    simp only [Tryd.results43, go_sem, Nat.reduceMul, Nat.reduceLeDiff, Nat.reduceLT, reduceIte, reduceCtorEq, Nat.reduceEqDiff, Nat.reduceSub, Nat.reduceAdd]
    refine HereO.append T_ok (SS [strB ((s.data.toList.drop at_).take (s.size - at_))]) rfl rfl (by decide) (by simp only [go_sem, Nat.reduceMul, Nat.reduceLeDiff, Nat.reduceLT, reduceIte, reduceCtorEq, Nat.reduceEqDiff, Nat.reduceSub, Nat.reduceAdd] <;> rfl) (by decide) (by simp only [go_sem, Nat.reduceMul, Nat.reduceLeDiff, Nat.reduceLT, reduceIte, reduceCtorEq, Nat.reduceEqDiff, Nat.reduceSub, Nat.reduceAdd] <;> rfl) (by simp only [go_sem, Nat.reduceMul, Nat.reduceLeDiff, Nat.reduceLT, reduceIte, reduceCtorEq, Nat.reduceEqDiff, Nat.reduceSub, Nat.reduceAdd] <;> rfl) (.own 133 _ _ (by decide) (by simp only [go_sem, Nat.reduceMul, Nat.reduceLeDiff, Nat.reduceLT, reduceIte, reduceCtorEq, Nat.reduceEqDiff, Nat.reduceSub, Nat.reduceAdd] <;> rfl)) (SS_one _) (by simp only [SS_len, List.length_append, List.length_map, List.length_cons, List.length_nil]; omega) ?_
    simp only [Tryd.results43, go_sem, Nat.reduceMul, Nat.reduceLeDiff, Nat.reduceLT, reduceIte, reduceCtorEq, Nat.reduceEqDiff, Nat.reduceSub, Nat.reduceAdd]
    refine RetT.one 108 (by simp only [Tryd.results43, go_sem, Nat.reduceMul, Nat.reduceLeDiff, Nat.reduceLT, reduceIte, reduceCtorEq, Nat.reduceEqDiff, Nat.reduceSub, Nat.reduceAdd]; rfl) rfl ?_
    simp only [Tryd.results43, go_sem, Nat.reduceMul, Nat.reduceLeDiff, Nat.reduceLT, reduceIte, reduceCtorEq, Nat.reduceEqDiff, Nat.reduceSub, Nat.reduceAdd]
    rw [← hsz, List.take_length] at h3
    rw [SS_app, h3, ← hsz, List.take_of_length_le (by rw [List.length_drop]; exact Nat.le_refl _)]
    simp
theorem SS_dv (xs : List (List UInt8)) (i : Nat) (h : i < xs.length) : dv (SS (xs.map strB)) i = .string (strB xs[i]) := by
  unfold dv
  simp [SS, h]
theorem strB_len (l : List UInt8) : (strB l).size = l.length := strB_size l
theorem byteAt_strB (l : List UInt8) (j : Nat) (h : j < l.length) : byteAt (strB l) j = (l[j].toNat : Int) := by
  have e : (strB l).data.toList = l := strB_of l
  rw [byteAt_data _ _ (by rw [strB_size]; exact h)]
  simp only [e]
theorem rowOf_step {p : List UInt8} {j : Nat} (h : j < p.length) : rowOf (p.take (j + 1)) = rowOf (p.take j) ++ [(p[j].toNat : Int) - 48] := by
  rw [List.take_succ_eq_append_getElem h]
  simp only [rowOf, List.map_append, List.map_cons, List.map_nil]
theorem rows_step {q : List (List UInt8)} {a : Nat} (h : a < q.length) : (q.take (a + 1)).map rowOf = (q.take a).map rowOf ++ [rowOf q[a]] := by
  rw [List.take_succ_eq_append_getElem h]
  simp only [List.map_append, List.map_cons, List.map_nil]
theorem l01Read_spec (s : ByteArray) (hs : s.size ≤ 1048576) : Spec Tryd.prog 22 [.v (.string s)] (.tup [.agg [.own 0], .v (.bool (decide (Grp (readG s.data.toList))))]) [.rows 31 2 (II (if Grp (readG s.data.toList) then readG s.data.toList else []))] := by
  have hsz : s.data.toList.length = s.size := (Lib.size_eq s).symm
  obtain ⟨q, hq⟩ : ∃ q, q = parts 44 s.data.toList := ⟨_, rfl⟩
  have hql : q.length ≤ 1048577 := by
    rw [hq, parts_len]
    have := List.count_le_length (a := (44 : UInt8)) (l := s.data.toList)
    omega
  have hqp : ∀ a, (h : a < q.length) → (q[a]).length ≤ 1048576 := fun a h => by
    have := parts_part 44 s.data.toList q[a] (by rw [← hq]; exact List.getElem_mem h)
    omega
  have hG : readG s.data.toList = q.map rowOf := by rw [hq]; rfl
  rw [hG]
  have hsp := l01Split_spec s 44 hs
  rw [← hq] at hsp
  refine Spec.of_codeC T_ok Tryd.func22 rfl Tryd.ntmps22 Tryd.call22 (Nat.le_of_ble_eq_true rfl) rfl rfl (CodeV_sound T_ok (by kernel_rfl) rfl ?_)
  simp only [Tryd.results22, go_sem, Nat.reduceMul, Nat.reduceLeDiff, Nat.reduceLT, reduceIte, reduceCtorEq, Nat.reduceEqDiff, Nat.reduceSub, Nat.reduceAdd]
  refine HereO.alloc T_ok 102 rfl rfl (by decide) ?_
  simp only [Tryd.results22, go_sem, Nat.reduceMul, Nat.reduceLeDiff, Nat.reduceLT, reduceIte, reduceCtorEq, Nat.reduceEqDiff, Nat.reduceSub, Nat.reduceAdd]
  refine HereO.callOwn T_ok 10 rfl rfl (hsp) (by simp only [go_sem, Nat.reduceMul, Nat.reduceLeDiff, Nat.reduceLT, reduceIte, reduceCtorEq, Nat.reduceEqDiff, Nat.reduceSub, Nat.reduceAdd, List.toList_toArray] <;> first | rfl | exact ⟨rfl, rfl⟩) rfl (by simp) rfl ?_
  simp only [Tryd.results22, go_sem, Nat.reduceMul, Nat.reduceLeDiff, Nat.reduceLT, reduceIte, reduceCtorEq, Nat.reduceEqDiff, Nat.reduceSub, Nat.reduceAdd]
  refine HereO.buildRow T_ok 120 [] rfl rfl rfl (by decide) rfl (by simp only [go_sem, Nat.reduceMul, Nat.reduceLeDiff, Nat.reduceLT, reduceIte, reduceCtorEq, Nat.reduceEqDiff, Nat.reduceSub, Nat.reduceAdd] <;> rfl) rfl (by decide) ?_
  simp only [Tryd.results22, go_sem, Nat.reduceMul, Nat.reduceLeDiff, Nat.reduceLT, reduceIte, reduceCtorEq, Nat.reduceEqDiff, Nat.reduceSub, Nat.reduceAdd]
  refine HereO.conv (Conv.rows (id := 120) (e := 31) 2 0 (by simp only [Tryd.results22, go_sem, Nat.reduceMul, Nat.reduceLeDiff, Nat.reduceLT, reduceIte, reduceCtorEq, Nat.reduceEqDiff, Nat.reduceSub, Nat.reduceAdd]; rfl)) ?_
  refine HereO.opP T_ok (OpP.build built_24 rfl rfl rfl rfl) ?_
  simp only [Tryd.results22, go_sem, Nat.reduceMul, Nat.reduceLeDiff, Nat.reduceLT, reduceIte, reduceCtorEq, Nat.reduceEqDiff, Nat.reduceSub, Nat.reduceAdd]
  refine HereO.alloc T_ok 105 rfl rfl (by decide) ?_
  simp only [Tryd.results22, go_sem, Nat.reduceMul, Nat.reduceLeDiff, Nat.reduceLT, reduceIte, reduceCtorEq, Nat.reduceEqDiff, Nat.reduceSub, Nat.reduceAdd]
  refine HereO.storeAgg T_ok rfl (by simp only [go_sem, Nat.reduceMul, Nat.reduceLeDiff, Nat.reduceLT, reduceIte, reduceCtorEq, Nat.reduceEqDiff, Nat.reduceSub, Nat.reduceAdd] <;> rfl) (by simp only [go_sem, Nat.reduceMul, Nat.reduceLeDiff, Nat.reduceLT, reduceIte, reduceCtorEq, Nat.reduceEqDiff, Nat.reduceSub, Nat.reduceAdd] <;> rfl) rfl (by simp only [go_sem, Nat.reduceMul, Nat.reduceLeDiff, Nat.reduceLT, reduceIte, reduceCtorEq, Nat.reduceEqDiff, Nat.reduceSub, Nat.reduceAdd] <;> rfl) (by first | rfl | (simp only [go_sem, Nat.reduceMul, Nat.reduceLeDiff, Nat.reduceLT, reduceIte, reduceCtorEq, Nat.reduceEqDiff, Nat.reduceSub, Nat.reduceAdd] <;> rfl)) rfl rfl ?_
  simp only [Tryd.results22, go_sem, Nat.reduceMul, Nat.reduceLeDiff, Nat.reduceLT, reduceIte, reduceCtorEq, Nat.reduceEqDiff, Nat.reduceSub, Nat.reduceAdd]
  refine Here.loopV T_ok (κ := Nat) (fun a => a ≤ q.length) (fun a => q.length - a) (fun a => [(2, .ptr 102 0), (4, .own 1160), (5, .ptr 105 0), (6, .v (.int .i64 a))]) (fun a => [(102, .cells 24 [.v nilV]), (105, .cells 24 [.own 120]), (120, .rows 31 2 (II ((q.take a).map rowOf))), (1160, .row 9 (SS (q.map strB)))]) 0 (by simp) (by simp only [Tryd.results22, go_sem, Nat.reduceMul, Nat.reduceLeDiff, Nat.reduceLT, reduceIte, reduceCtorEq, Nat.reduceEqDiff, Nat.reduceSub, Nat.reduceAdd]; simp) (by simp only [Tryd.results22, go_sem, Nat.reduceMul, Nat.reduceLeDiff, Nat.reduceLT, reduceIte, reduceCtorEq, Nat.reduceEqDiff, Nat.reduceSub, Nat.reduceAdd]; simp [II, nilV]) ?_
  intro a ha
  simp only [Tryd.results22, go_sem, Nat.reduceMul, Nat.reduceLeDiff, Nat.reduceLT, reduceIte, reduceCtorEq, Nat.reduceEqDiff, Nat.reduceSub, Nat.reduceAdd]
  rw [SS_len, List.length_map]
  refine ⟨fun h4 => ?_, fun h4 => ?_⟩
  · have haq : a < q.length := by omega
    have hpl := hqp a haq
    obtain ⟨p, hp⟩ : ∃ p, p = q[a] := ⟨_, rfl⟩
    rw [← hp] at hpl
    obtain ⟨R, hR⟩ : ∃ R, R = (q.take a).map rowOf := ⟨_, rfl⟩
    have hRl : R.length = a := by rw [hR]; simp; omega
    rw [← hR]
    refine HereO.buildRow T_ok 119 (I []) rfl rfl rfl (by decide) rfl (by first | rfl | (simp only [go_sem, Nat.reduceMul, Nat.reduceLeDiff, Nat.reduceLT, reduceIte, reduceCtorEq, Nat.reduceEqDiff, Nat.reduceSub, Nat.reduceAdd] <;> rfl)) rfl (by decide) ?_
    simp only [Tryd.results22, go_sem, Nat.reduceMul, Nat.reduceLeDiff, Nat.reduceLT, reduceIte, reduceCtorEq, Nat.reduceEqDiff, Nat.reduceSub, Nat.reduceAdd]
    refine Here.loopV T_ok (κ := Nat) (fun j => j ≤ p.length) (fun j => p.length - j) (fun j => [(2, .ptr 102 0), (4, .own 1160), (5, .ptr 105 0), (6, .v (.int .i64 a)), (7, .own 119), (8, .v (.int .i64 j))]) (fun j => [(102, .cells 24 [.v nilV]), (105, .cells 24 [.own 120]), (120, .rows 31 2 (II R)), (119, .row 2 (I (rowOf (p.take j)))), (1160, .row 9 (SS (q.map strB)))]) 0 (by simp) (by simp only [Tryd.results22, go_sem, Nat.reduceMul, Nat.reduceLeDiff, Nat.reduceLT, reduceIte, reduceCtorEq, Nat.reduceEqDiff, Nat.reduceSub, Nat.reduceAdd]; simp) (by simp only [Tryd.results22, go_sem, Nat.reduceMul, Nat.reduceLeDiff, Nat.reduceLT, reduceIte, reduceCtorEq, Nat.reduceEqDiff, Nat.reduceSub, Nat.reduceAdd]; simp [rowOf, I]) ?_
    intro j hj
    simp only [Tryd.results22, go_sem, Nat.reduceMul, Nat.reduceLeDiff, Nat.reduceLT, reduceIte, reduceCtorEq, Nat.reduceEqDiff, Nat.reduceSub, Nat.reduceAdd]
    refine ⟨⟨by omega, by rw [SS_len, List.length_map]; omega⟩, by rw [SS_len, List.length_map]; omega, ?_⟩
    rw [SS_dv q a haq, ← hp]
    refine HereO.opP T_ok (OpP.lenStr Tryd.underlying9 rfl rfl) ?_
    simp only [Tryd.results22, go_sem, Nat.reduceMul, Nat.reduceLeDiff, Nat.reduceLT, reduceIte, reduceCtorEq, Nat.reduceEqDiff, Nat.reduceSub, Nat.reduceAdd]
    rw [strB_size]
    refine ⟨fun h5 => ?_, fun h5 => ?_⟩
    · have hjp : j < p.length := by omega
      refine ⟨⟨by omega, by rw [SS_len, List.length_map]; omega⟩, by rw [SS_len, List.length_map]; omega, ?_⟩
      rw [SS_dv q a haq, ← hp]
      refine HereO.opP T_ok (OpP.index (i := j) Tryd.underlying9 rfl rfl rfl (by rw [strB_size]; exact hjp)) ?_
      simp only [Tryd.results22, go_sem, Nat.reduceMul, Nat.reduceLeDiff, Nat.reduceLT, reduceIte, reduceCtorEq, Nat.reduceEqDiff, Nat.reduceSub, Nat.reduceAdd]
      rw [byteAt_strB p j hjp]
      have hb := (p[j]).toNat_lt
      refine ⟨by unfold InR; omega, by unfold InR; omega, ?_⟩
      refine HereO.buildRow T_ok 138 (I [((p[j]).toNat : Int) - 48]) rfl rfl rfl (by decide) rfl (by first | rfl | (simp only [go_sem, Nat.reduceMul, Nat.reduceLeDiff, Nat.reduceLT, reduceIte, reduceCtorEq, Nat.reduceEqDiff, Nat.reduceSub, Nat.reduceAdd] <;> rfl)) rfl (by decide) ?_
      simp only [Tryd.results22, go_sem, Nat.reduceMul, Nat.reduceLeDiff, Nat.reduceLT, reduceIte, reduceCtorEq, Nat.reduceEqDiff, Nat.reduceSub, Nat.reduceAdd]
      refine HereO.append T_ok (I [((p[j]).toNat : Int) - 48]) rfl rfl (by decide) (by simp only [go_sem, Nat.reduceMul, Nat.reduceLeDiff, Nat.reduceLT, reduceIte, reduceCtorEq, Nat.reduceEqDiff, Nat.reduceSub, Nat.reduceAdd] <;> rfl) (by decide) (by simp only [go_sem, Nat.reduceMul, Nat.reduceLeDiff, Nat.reduceLT, reduceIte, reduceCtorEq, Nat.reduceEqDiff, Nat.reduceSub, Nat.reduceAdd] <;> rfl) (by simp only [go_sem, Nat.reduceMul, Nat.reduceLeDiff, Nat.reduceLT, reduceIte, reduceCtorEq, Nat.reduceEqDiff, Nat.reduceSub, Nat.reduceAdd] <;> rfl) (.own 138 _ _ (by decide) (by simp only [go_sem, Nat.reduceMul, Nat.reduceLeDiff, Nat.reduceLT, reduceIte, reduceCtorEq, Nat.reduceEqDiff, Nat.reduceSub, Nat.reduceAdd] <;> rfl)) (I_one _) (by rw [I_len, I_len]; simp [rowOf]; omega) ?_
      simp only [Tryd.results22, go_sem, Nat.reduceMul, Nat.reduceLeDiff, Nat.reduceLT, reduceIte, reduceCtorEq, Nat.reduceEqDiff, Nat.reduceSub, Nat.reduceAdd]
      exact ⟨by unfold InR; omega, j + 1, by omega, by omega, by push_cast; rfl, by rw [I_append, rowOf_step hjp]⟩
    · obtain rfl : j = p.length := by omega
      rw [List.take_length]
      refine HereO.buildRowL T_ok 143 [.own 119] rfl rfl rfl (by decide) rfl (by simp only [go_sem, Nat.reduceMul, Nat.reduceLeDiff, Nat.reduceLT, reduceIte, reduceCtorEq, Nat.reduceEqDiff, Nat.reduceSub, Nat.reduceAdd] <;> rfl) rfl (by decide) (by simp only [go_sem, Nat.reduceMul, Nat.reduceLeDiff, Nat.reduceLT, reduceIte, reduceCtorEq, Nat.reduceEqDiff, Nat.reduceSub, Nat.reduceAdd] <;> rfl) ?_
      simp only [Tryd.results22, go_sem, Nat.reduceMul, Nat.reduceLeDiff, Nat.reduceLT, reduceIte, reduceCtorEq, Nat.reduceEqDiff, Nat.reduceSub, Nat.reduceAdd]
      refine HereO.appendRows T_ok (id := 120) (j := 143) (i := 119) rfl rfl (by decide) (by simp only [go_sem, Nat.reduceMul, Nat.reduceLeDiff, Nat.reduceLT, reduceIte, reduceCtorEq, Nat.reduceEqDiff, Nat.reduceSub, Nat.reduceAdd] <;> rfl) (by decide) (by simp only [go_sem, Nat.reduceMul, Nat.reduceLeDiff, Nat.reduceLT, reduceIte, reduceCtorEq, Nat.reduceEqDiff, Nat.reduceSub, Nat.reduceAdd] <;> rfl) (by simp only [go_sem, Nat.reduceMul, Nat.reduceLeDiff, Nat.reduceLT, reduceIte, reduceCtorEq, Nat.reduceEqDiff, Nat.reduceSub, Nat.reduceAdd] <;> rfl) (by simp only [go_sem, Nat.reduceMul, Nat.reduceLeDiff, Nat.reduceLT, reduceIte, reduceCtorEq, Nat.reduceEqDiff, Nat.reduceSub, Nat.reduceAdd] <;> rfl) (by simp only [go_sem, Nat.reduceMul, Nat.reduceLeDiff, Nat.reduceLT, reduceIte, reduceCtorEq, Nat.reduceEqDiff, Nat.reduceSub, Nat.reduceAdd] <;> rfl) (by decide) (by decide) (by rw [II_len]; omega) ?_
      simp only [Tryd.results22, go_sem, Nat.reduceMul, Nat.reduceLeDiff, Nat.reduceLT, reduceIte, reduceCtorEq, Nat.reduceEqDiff, Nat.reduceSub, Nat.reduceAdd]
      refine HereO.store T_ok rfl (by simp only [go_sem, Nat.reduceMul, Nat.reduceLeDiff, Nat.reduceLT, reduceIte, reduceCtorEq, Nat.reduceEqDiff, Nat.reduceSub, Nat.reduceAdd] <;> rfl) (by simp only [go_sem, Nat.reduceMul, Nat.reduceLeDiff, Nat.reduceLT, reduceIte, reduceCtorEq, Nat.reduceEqDiff, Nat.reduceSub, Nat.reduceAdd] <;> rfl) rfl (by simp only [go_sem, Nat.reduceMul, Nat.reduceLeDiff, Nat.reduceLT, reduceIte, reduceCtorEq, Nat.reduceEqDiff, Nat.reduceSub, Nat.reduceAdd] <;> rfl) rfl (by first | rfl | (simp only [go_sem, Nat.reduceMul, Nat.reduceLeDiff, Nat.reduceLT, reduceIte, reduceCtorEq, Nat.reduceEqDiff, Nat.reduceSub, Nat.reduceAdd] <;> rfl)) (Nat.le_of_ble_eq_true rfl) ?_
      simp only [Tryd.results22, go_sem, Nat.reduceMul, Nat.reduceLeDiff, Nat.reduceLT, reduceIte, reduceCtorEq, Nat.reduceEqDiff, Nat.reduceSub, Nat.reduceAdd]
      refine ⟨by unfold InR; omega, a + 1, by omega, by omega, by push_cast; rfl, ?_⟩
      rw [II_append, rows_step haq, hR, hp]
  · obtain rfl : a = q.length := by omega
    rw [List.take_length]
    refine HereO.call T_ok rfl rfl (l01Is_spec (q.map rowOf)) (by simp only [go_sem, Nat.reduceMul, Nat.reduceLeDiff, Nat.reduceLT, reduceIte, reduceCtorEq, Nat.reduceEqDiff, Nat.reduceSub, Nat.reduceAdd, List.toList_toArray] <;> first | rfl | exact ⟨rfl, rfl⟩) rfl ?_
    simp only [Tryd.results22, go_sem, Nat.reduceMul, Nat.reduceLeDiff, Nat.reduceLT, reduceIte, reduceCtorEq, Nat.reduceEqDiff, Nat.reduceSub, Nat.reduceAdd]
    refine ⟨fun h => ?_, fun h => ?_⟩
    · rw [if_neg h, decide_eq_false h]
      refine HereO.opP T_ok (OpP.build built_24 rfl rfl rfl rfl) ?_
      simp only [Tryd.results22, go_sem, Nat.reduceMul, Nat.reduceLeDiff, Nat.reduceLT, reduceIte, reduceCtorEq, Nat.reduceEqDiff, Nat.reduceSub, Nat.reduceAdd]
      refine HereO.storeAgg T_ok rfl (by simp only [go_sem, Nat.reduceMul, Nat.reduceLeDiff, Nat.reduceLT, reduceIte, reduceCtorEq, Nat.reduceEqDiff, Nat.reduceSub, Nat.reduceAdd] <;> rfl) (by simp only [go_sem, Nat.reduceMul, Nat.reduceLeDiff, Nat.reduceLT, reduceIte, reduceCtorEq, Nat.reduceEqDiff, Nat.reduceSub, Nat.reduceAdd] <;> rfl) rfl (by simp only [go_sem, Nat.reduceMul, Nat.reduceLeDiff, Nat.reduceLT, reduceIte, reduceCtorEq, Nat.reduceEqDiff, Nat.reduceSub, Nat.reduceAdd] <;> rfl) (by first | rfl | (simp only [go_sem, Nat.reduceMul, Nat.reduceLeDiff, Nat.reduceLT, reduceIte, reduceCtorEq, Nat.reduceEqDiff, Nat.reduceSub, Nat.reduceAdd] <;> rfl)) rfl rfl ?_
      simp only [Tryd.results22, go_sem, Nat.reduceMul, Nat.reduceLeDiff, Nat.reduceLT, reduceIte, reduceCtorEq, Nat.reduceEqDiff, Nat.reduceSub, Nat.reduceAdd]
      exact RetC.conv (Conv.nilIn (c := 102) (tt := 24) (l := [.v nilV]) 0 520 (.rows 31 2 []) rfl (by decide) (by decide) (by rfl) rfl) (RetC.of (RetT.one 520 (by simp only [Tryd.results22, go_sem, Nat.reduceMul, Nat.reduceLeDiff, Nat.reduceLT, reduceIte, reduceCtorEq, Nat.reduceEqDiff, Nat.reduceSub, Nat.reduceAdd]; rfl) (by simp only [Tryd.results22, go_sem, Nat.reduceMul, Nat.reduceLeDiff, Nat.reduceLT, reduceIte, reduceCtorEq, Nat.reduceEqDiff, Nat.reduceSub, Nat.reduceAdd] <;> simp [II]) (by simp only [Tryd.results22, go_sem, Nat.reduceMul, Nat.reduceLeDiff, Nat.reduceLT, reduceIte, reduceCtorEq, Nat.reduceEqDiff, Nat.reduceSub, Nat.reduceAdd] <;> simp [II])))
    · rw [if_pos h, decide_eq_true h]
      refine HereO.storeAgg T_ok rfl (by simp only [go_sem, Nat.reduceMul, Nat.reduceLeDiff, Nat.reduceLT, reduceIte, reduceCtorEq, Nat.reduceEqDiff, Nat.reduceSub, Nat.reduceAdd] <;> rfl) (by simp only [go_sem, Nat.reduceMul, Nat.reduceLeDiff, Nat.reduceLT, reduceIte, reduceCtorEq, Nat.reduceEqDiff, Nat.reduceSub, Nat.reduceAdd] <;> rfl) rfl (by simp only [go_sem, Nat.reduceMul, Nat.reduceLeDiff, Nat.reduceLT, reduceIte, reduceCtorEq, Nat.reduceEqDiff, Nat.reduceSub, Nat.reduceAdd] <;> rfl) (by first | rfl | (simp only [go_sem, Nat.reduceMul, Nat.reduceLeDiff, Nat.reduceLT, reduceIte, reduceCtorEq, Nat.reduceEqDiff, Nat.reduceSub, Nat.reduceAdd] <;> rfl)) rfl rfl ?_
      simp only [Tryd.results22, go_sem, Nat.reduceMul, Nat.reduceLeDiff, Nat.reduceLT, reduceIte, reduceCtorEq, Nat.reduceEqDiff, Nat.reduceSub, Nat.reduceAdd]
      exact RetC.of (RetT.one 120 (by simp only [Tryd.results22, go_sem, Nat.reduceMul, Nat.reduceLeDiff, Nat.reduceLT, reduceIte, reduceCtorEq, Nat.reduceEqDiff, Nat.reduceSub, Nat.reduceAdd]; rfl) (by simp only [Tryd.results22, go_sem, Nat.reduceMul, Nat.reduceLeDiff, Nat.reduceLT, reduceIte, reduceCtorEq, Nat.reduceEqDiff, Nat.reduceSub, Nat.reduceAdd] <;> simp [II]) (by simp only [Tryd.results22, go_sem, Nat.reduceMul, Nat.reduceLeDiff, Nat.reduceLT, reduceIte, reduceCtorEq, Nat.reduceEqDiff, Nat.reduceSub, Nat.reduceAdd] <;> simp [II]))
/-- What ParseGroup answers. -/
def pgL (s : ByteArray) : List (List Int) := if Grp (readG s.data.toList) then readG s.data.toList else []
def pgC (s : ByteArray) : Int := if Grp (readG s.data.toList) then 0 else 6
theorem pgL_ok (s : ByteArray) (hs : s.size ≤ 1048576) : OkRows (pgL s) := by
  unfold pgL
  split
  · rename_i h
    have h8 := h.2.1
    have hr := grp_rows h
    have hc : ∀ t : List (List Int), (∀ r ∈ t, r.length ≤ 8) → cellsOf t ≤ 8 * t.length := by
      intro t
      induction t with
      | nil => intro _; simp [cellsOf]
      | cons r t ih =>
        intro h
        have h1 := h r (List.mem_cons_self ..)
        have h2 := ih fun r hr => h r (List.mem_cons_of_mem _ hr)
        simp only [cellsOf, List.length_cons]
        omega
    have := hc _ hr
    refine ⟨by omega, fun a ha => ?_, by omega⟩
    have := hr ((readG s.data.toList).getD a []) (by rw [List.getD_eq_getElem?_getD, List.getElem?_eq_getElem ha, Option.getD_some]; exact List.getElem_mem _)
    omega
  · exact ⟨by simp, fun a h => by simp at h, by simp [cellsOf]⟩
theorem specParseGroup (s : ByteArray) (hs : s.size ≤ 1048576) : Spec Tryd.prog 6 [.v (.string s)] (.tup [.agg [.own 0], .v (.int .i64 (pgC s))]) [.rows 31 2 (II (pgL s))] := by
  refine Spec.of_codeC T_ok Tryd.func6 rfl Tryd.ntmps6 Tryd.call6 (Nat.le_of_ble_eq_true rfl) rfl rfl (CodeV_sound T_ok (by kernel_rfl) rfl ?_)
  simp only [Tryd.results6, go_sem, Nat.reduceMul, Nat.reduceLeDiff, Nat.reduceLT, reduceIte, reduceCtorEq, Nat.reduceEqDiff, Nat.reduceSub, Nat.reduceAdd]
  refine HereO.alloc T_ok 102 rfl rfl (by decide) ?_
  simp only [Tryd.results6, go_sem, Nat.reduceMul, Nat.reduceLeDiff, Nat.reduceLT, reduceIte, reduceCtorEq, Nat.reduceEqDiff, Nat.reduceSub, Nat.reduceAdd]
  refine HereO.callOwn T_ok 8 rfl rfl (l01Read_spec s hs) (by simp only [go_sem, Nat.reduceMul, Nat.reduceLeDiff, Nat.reduceLT, reduceIte, reduceCtorEq, Nat.reduceEqDiff, Nat.reduceSub, Nat.reduceAdd, List.toList_toArray] <;> first | rfl | exact ⟨rfl, rfl⟩) rfl (by simp) rfl ?_
  simp only [Tryd.results6, go_sem, Nat.reduceMul, Nat.reduceLeDiff, Nat.reduceLT, reduceIte, reduceCtorEq, Nat.reduceEqDiff, Nat.reduceSub, Nat.reduceAdd]
  refine HereO.alloc T_ok 105 rfl rfl (by decide) ?_
  simp only [Tryd.results6, go_sem, Nat.reduceMul, Nat.reduceLeDiff, Nat.reduceLT, reduceIte, reduceCtorEq, Nat.reduceEqDiff, Nat.reduceSub, Nat.reduceAdd]
  refine HereO.storeAgg T_ok rfl (by simp only [go_sem, Nat.reduceMul, Nat.reduceLeDiff, Nat.reduceLT, reduceIte, reduceCtorEq, Nat.reduceEqDiff, Nat.reduceSub, Nat.reduceAdd] <;> rfl) (by simp only [go_sem, Nat.reduceMul, Nat.reduceLeDiff, Nat.reduceLT, reduceIte, reduceCtorEq, Nat.reduceEqDiff, Nat.reduceSub, Nat.reduceAdd] <;> rfl) rfl (by simp only [go_sem, Nat.reduceMul, Nat.reduceLeDiff, Nat.reduceLT, reduceIte, reduceCtorEq, Nat.reduceEqDiff, Nat.reduceSub, Nat.reduceAdd] <;> rfl) (by first | rfl | (simp only [go_sem, Nat.reduceMul, Nat.reduceLeDiff, Nat.reduceLT, reduceIte, reduceCtorEq, Nat.reduceEqDiff, Nat.reduceSub, Nat.reduceAdd] <;> rfl)) rfl rfl ?_
  simp only [Tryd.results6, go_sem, Nat.reduceMul, Nat.reduceLeDiff, Nat.reduceLT, reduceIte, reduceCtorEq, Nat.reduceEqDiff, Nat.reduceSub, Nat.reduceAdd]
  refine ⟨fun h => ?_, fun h => ?_⟩
  · have e1 : pgC s = 6 := if_neg h
    have e2 : pgL s = [] := if_neg h
    rw [e1, e2]
    refine HereO.opP T_ok (OpP.build built_24 rfl rfl rfl rfl) ?_
    simp only [Tryd.results6, go_sem, Nat.reduceMul, Nat.reduceLeDiff, Nat.reduceLT, reduceIte, reduceCtorEq, Nat.reduceEqDiff, Nat.reduceSub, Nat.reduceAdd]
    refine HereO.storeAgg T_ok rfl (by simp only [go_sem, Nat.reduceMul, Nat.reduceLeDiff, Nat.reduceLT, reduceIte, reduceCtorEq, Nat.reduceEqDiff, Nat.reduceSub, Nat.reduceAdd] <;> rfl) (by simp only [go_sem, Nat.reduceMul, Nat.reduceLeDiff, Nat.reduceLT, reduceIte, reduceCtorEq, Nat.reduceEqDiff, Nat.reduceSub, Nat.reduceAdd] <;> rfl) rfl (by simp only [go_sem, Nat.reduceMul, Nat.reduceLeDiff, Nat.reduceLT, reduceIte, reduceCtorEq, Nat.reduceEqDiff, Nat.reduceSub, Nat.reduceAdd] <;> rfl) (by first | rfl | (simp only [go_sem, Nat.reduceMul, Nat.reduceLeDiff, Nat.reduceLT, reduceIte, reduceCtorEq, Nat.reduceEqDiff, Nat.reduceSub, Nat.reduceAdd] <;> rfl)) rfl rfl ?_
    simp only [Tryd.results6, go_sem, Nat.reduceMul, Nat.reduceLeDiff, Nat.reduceLT, reduceIte, reduceCtorEq, Nat.reduceEqDiff, Nat.reduceSub, Nat.reduceAdd]
    exact RetC.conv (Conv.nilIn (c := 102) (tt := 24) (l := [.v nilV]) 0 520 (.rows 31 2 []) rfl (by decide) (by decide) (by rfl) rfl) (RetC.of (RetT.one 520 (by simp only [Tryd.results6, go_sem, Nat.reduceMul, Nat.reduceLeDiff, Nat.reduceLT, reduceIte, reduceCtorEq, Nat.reduceEqDiff, Nat.reduceSub, Nat.reduceAdd]; rfl) (by simp only [Tryd.results6, go_sem, Nat.reduceMul, Nat.reduceLeDiff, Nat.reduceLT, reduceIte, reduceCtorEq, Nat.reduceEqDiff, Nat.reduceSub, Nat.reduceAdd] <;> simp [II]) (by simp only [Tryd.results6, go_sem, Nat.reduceMul, Nat.reduceLeDiff, Nat.reduceLT, reduceIte, reduceCtorEq, Nat.reduceEqDiff, Nat.reduceSub, Nat.reduceAdd] <;> simp [II])))
  · have e1 : pgC s = 0 := if_pos h
    have e2 : pgL s = readG s.data.toList := if_pos h
    rw [if_pos h, e1, e2]
    refine HereO.storeAgg T_ok rfl (by simp only [go_sem, Nat.reduceMul, Nat.reduceLeDiff, Nat.reduceLT, reduceIte, reduceCtorEq, Nat.reduceEqDiff, Nat.reduceSub, Nat.reduceAdd] <;> rfl) (by simp only [go_sem, Nat.reduceMul, Nat.reduceLeDiff, Nat.reduceLT, reduceIte, reduceCtorEq, Nat.reduceEqDiff, Nat.reduceSub, Nat.reduceAdd] <;> rfl) rfl (by simp only [go_sem, Nat.reduceMul, Nat.reduceLeDiff, Nat.reduceLT, reduceIte, reduceCtorEq, Nat.reduceEqDiff, Nat.reduceSub, Nat.reduceAdd] <;> rfl) (by first | rfl | (simp only [go_sem, Nat.reduceMul, Nat.reduceLeDiff, Nat.reduceLT, reduceIte, reduceCtorEq, Nat.reduceEqDiff, Nat.reduceSub, Nat.reduceAdd] <;> rfl)) rfl rfl ?_
    simp only [Tryd.results6, go_sem, Nat.reduceMul, Nat.reduceLeDiff, Nat.reduceLT, reduceIte, reduceCtorEq, Nat.reduceEqDiff, Nat.reduceSub, Nat.reduceAdd]
    exact RetC.of (RetT.one 1128 (by simp only [Tryd.results6, go_sem, Nat.reduceMul, Nat.reduceLeDiff, Nat.reduceLT, reduceIte, reduceCtorEq, Nat.reduceEqDiff, Nat.reduceSub, Nat.reduceAdd]; rfl) (by simp only [Tryd.results6, go_sem, Nat.reduceMul, Nat.reduceLeDiff, Nat.reduceLT, reduceIte, reduceCtorEq, Nat.reduceEqDiff, Nat.reduceSub, Nat.reduceAdd] <;> simp [II]) (by simp only [Tryd.results6, go_sem, Nat.reduceMul, Nat.reduceLeDiff, Nat.reduceLT, reduceIte, reduceCtorEq, Nat.reduceEqDiff, Nat.reduceSub, Nat.reduceAdd] <;> simp [II]))
theorem implParseGroup (s : ByteArray) (hs : s.size ≤ 1048576) : Spec Tryd.prog 7 [.v (.string s)] (.tup [.agg [.own 0], .v (.int .i64 (pgC s))]) [.rows 31 2 (II (pgL s))] := by
  have hsz : s.data.toList.length = s.size := (Lib.size_eq s).symm
  obtain ⟨q, hq⟩ : ∃ q, q = parts 44 s.data.toList := ⟨_, rfl⟩
  have hqp : ∀ a, (h : a < q.length) → (q[a]).length ≤ 1048576 := fun a h => by
    have := parts_part 44 s.data.toList q[a] (by rw [← hq]; exact List.getElem_mem h)
    omega
  have hql : q.length ≤ 1048577 := by
    rw [hq, parts_len]
    have := List.count_le_length (a := (44 : UInt8)) (l := s.data.toList)
    omega
  have hG : readG s.data.toList = q.map rowOf := by rw [hq]; rfl
  have hsp := splitS_spec s 44 (by omega)
  rw [← hq] at hsp
  refine Spec.of_codeC T_ok Tryd.func7 rfl Tryd.ntmps7 Tryd.call7 (Nat.le_of_ble_eq_true rfl) rfl rfl (CodeV_sound T_ok (by kernel_rfl) rfl ?_)
  simp only [Tryd.results7, go_sem, Nat.reduceMul, Nat.reduceLeDiff, Nat.reduceLT, reduceIte, reduceCtorEq, Nat.reduceEqDiff, Nat.reduceSub, Nat.reduceAdd]
  refine HereO.alloc T_ok 102 rfl rfl (by decide) ?_
  simp only [Tryd.results7, go_sem, Nat.reduceMul, Nat.reduceLeDiff, Nat.reduceLT, reduceIte, reduceCtorEq, Nat.reduceEqDiff, Nat.reduceSub, Nat.reduceAdd]
  refine HereO.opP T_ok (OpP.lenStr Tryd.underlying9 rfl rfl) ?_
  simp only [Tryd.results7, go_sem, Nat.reduceMul, Nat.reduceLeDiff, Nat.reduceLT, reduceIte, reduceCtorEq, Nat.reduceEqDiff, Nat.reduceSub, Nat.reduceAdd]
  refine ⟨fun h => ?_, fun h => ?_⟩
  · have hn : ¬ Grp (readG s.data.toList) := fun q => by have := readG_short q; omega
    have e1 : pgC s = 6 := if_neg hn
    have e2 : pgL s = [] := if_neg hn
    rw [e1, e2]
    refine HereO.opP T_ok (OpP.build built_24 rfl rfl rfl rfl) ?_
    simp only [Tryd.results7, go_sem, Nat.reduceMul, Nat.reduceLeDiff, Nat.reduceLT, reduceIte, reduceCtorEq, Nat.reduceEqDiff, Nat.reduceSub, Nat.reduceAdd]
    refine HereO.storeAgg T_ok rfl (by simp only [go_sem, Nat.reduceMul, Nat.reduceLeDiff, Nat.reduceLT, reduceIte, reduceCtorEq, Nat.reduceEqDiff, Nat.reduceSub, Nat.reduceAdd] <;> rfl) (by simp only [go_sem, Nat.reduceMul, Nat.reduceLeDiff, Nat.reduceLT, reduceIte, reduceCtorEq, Nat.reduceEqDiff, Nat.reduceSub, Nat.reduceAdd] <;> rfl) rfl (by simp only [go_sem, Nat.reduceMul, Nat.reduceLeDiff, Nat.reduceLT, reduceIte, reduceCtorEq, Nat.reduceEqDiff, Nat.reduceSub, Nat.reduceAdd] <;> rfl) (by first | rfl | (simp only [go_sem, Nat.reduceMul, Nat.reduceLeDiff, Nat.reduceLT, reduceIte, reduceCtorEq, Nat.reduceEqDiff, Nat.reduceSub, Nat.reduceAdd] <;> rfl)) rfl rfl ?_
    simp only [Tryd.results7, go_sem, Nat.reduceMul, Nat.reduceLeDiff, Nat.reduceLT, reduceIte, reduceCtorEq, Nat.reduceEqDiff, Nat.reduceSub, Nat.reduceAdd]
    exact RetC.conv (Conv.nilIn (c := 102) (tt := 24) (l := [.v nilV]) 0 520 (.rows 31 2 []) rfl (by decide) (by decide) (by rfl) rfl) (RetC.of (RetT.one 520 (by simp only [Tryd.results7, go_sem, Nat.reduceMul, Nat.reduceLeDiff, Nat.reduceLT, reduceIte, reduceCtorEq, Nat.reduceEqDiff, Nat.reduceSub, Nat.reduceAdd]; rfl) (by simp only [Tryd.results7, go_sem, Nat.reduceMul, Nat.reduceLeDiff, Nat.reduceLT, reduceIte, reduceCtorEq, Nat.reduceEqDiff, Nat.reduceSub, Nat.reduceAdd] <;> simp [II]) (by simp only [Tryd.results7, go_sem, Nat.reduceMul, Nat.reduceLeDiff, Nat.reduceLT, reduceIte, reduceCtorEq, Nat.reduceEqDiff, Nat.reduceSub, Nat.reduceAdd] <;> simp [II])))
  refine HereO.opP T_ok (OpP.build built_24 rfl rfl rfl rfl) ?_
  simp only [Tryd.results7, go_sem, Nat.reduceMul, Nat.reduceLeDiff, Nat.reduceLT, reduceIte, reduceCtorEq, Nat.reduceEqDiff, Nat.reduceSub, Nat.reduceAdd]
  refine HereO.alloc T_ok 105 rfl rfl (by decide) ?_
  simp only [Tryd.results7, go_sem, Nat.reduceMul, Nat.reduceLeDiff, Nat.reduceLT, reduceIte, reduceCtorEq, Nat.reduceEqDiff, Nat.reduceSub, Nat.reduceAdd]
  refine HereO.storeAgg T_ok rfl (by simp only [go_sem, Nat.reduceMul, Nat.reduceLeDiff, Nat.reduceLT, reduceIte, reduceCtorEq, Nat.reduceEqDiff, Nat.reduceSub, Nat.reduceAdd] <;> rfl) (by simp only [go_sem, Nat.reduceMul, Nat.reduceLeDiff, Nat.reduceLT, reduceIte, reduceCtorEq, Nat.reduceEqDiff, Nat.reduceSub, Nat.reduceAdd] <;> rfl) rfl (by simp only [go_sem, Nat.reduceMul, Nat.reduceLeDiff, Nat.reduceLT, reduceIte, reduceCtorEq, Nat.reduceEqDiff, Nat.reduceSub, Nat.reduceAdd] <;> rfl) (by first | rfl | (simp only [go_sem, Nat.reduceMul, Nat.reduceLeDiff, Nat.reduceLT, reduceIte, reduceCtorEq, Nat.reduceEqDiff, Nat.reduceSub, Nat.reduceAdd] <;> rfl)) rfl rfl ?_
  simp only [Tryd.results7, go_sem, Nat.reduceMul, Nat.reduceLeDiff, Nat.reduceLT, reduceIte, reduceCtorEq, Nat.reduceEqDiff, Nat.reduceSub, Nat.reduceAdd]
  refine HereO.conv (Conv.nilIn (c := 105) (tt := 24) (l := [.v nilV]) 0 120 (.rows 31 2 []) rfl (by decide) (by decide) (by rfl) rfl) ?_
  refine HereO.callOwn T_ok 15 rfl rfl (hsp) (by simp only [go_sem, Nat.reduceMul, Nat.reduceLeDiff, Nat.reduceLT, reduceIte, reduceCtorEq, Nat.reduceEqDiff, Nat.reduceSub, Nat.reduceAdd, List.toList_toArray] <;> first | rfl | exact ⟨rfl, rfl⟩) rfl (by simp) rfl ?_
  simp only [Tryd.results7, go_sem, Nat.reduceMul, Nat.reduceLeDiff, Nat.reduceLT, reduceIte, reduceCtorEq, Nat.reduceEqDiff, Nat.reduceSub, Nat.reduceAdd]
  rw [SS_len, List.length_map]
  refine Here.loopV T_ok (κ := Nat) (fun a => a ≤ q.length) (fun a => q.length - a) (fun a => [(2, .ptr 102 0), (4, .ptr 105 0), (15, .own 1240), (16, .v (.int .i64 q.length)), (17, .v (.int .i64 a))]) (fun a => [(102, .cells 24 [.v nilV]), (105, .cells 24 [.own 120]), (120, .rows 31 2 (II ((q.take a).map rowOf))), (1240, .row 9 (SS (q.map strB)))]) 0 (by simp) (by simp only [Tryd.results7, go_sem, Nat.reduceMul, Nat.reduceLeDiff, Nat.reduceLT, reduceIte, reduceCtorEq, Nat.reduceEqDiff, Nat.reduceSub, Nat.reduceAdd]; simp) (by simp only [Tryd.results7, go_sem, Nat.reduceMul, Nat.reduceLeDiff, Nat.reduceLT, reduceIte, reduceCtorEq, Nat.reduceEqDiff, Nat.reduceSub, Nat.reduceAdd]; simp [II, nilV]) ?_
  intro a ha
  simp only [Tryd.results7, go_sem, Nat.reduceMul, Nat.reduceLeDiff, Nat.reduceLT, reduceIte, reduceCtorEq, Nat.reduceEqDiff, Nat.reduceSub, Nat.reduceAdd]
  refine ⟨fun h4 => ?_, fun h4 => ?_⟩
  · have haq : a < q.length := by omega
    have hpl := hqp a haq
    obtain ⟨p, hp⟩ : ∃ p, p = q[a] := ⟨_, rfl⟩
    rw [← hp] at hpl
    obtain ⟨R, hR⟩ : ∃ R, R = (q.take a).map rowOf := ⟨_, rfl⟩
    have hRl : R.length = a := by rw [hR]; simp; omega
    rw [← hR]
    refine ⟨⟨by omega, by rw [SS_len, List.length_map]; omega⟩, by rw [SS_len, List.length_map]; omega, ?_⟩
    rw [SS_dv q a haq, ← hp]
    refine HereO.buildRow T_ok 121 (I []) rfl rfl rfl (by decide) rfl (by first | rfl | (simp only [go_sem, Nat.reduceMul, Nat.reduceLeDiff, Nat.reduceLT, reduceIte, reduceCtorEq, Nat.reduceEqDiff, Nat.reduceSub, Nat.reduceAdd] <;> rfl)) rfl (by decide) ?_
    simp only [Tryd.results7, go_sem, Nat.reduceMul, Nat.reduceLeDiff, Nat.reduceLT, reduceIte, reduceCtorEq, Nat.reduceEqDiff, Nat.reduceSub, Nat.reduceAdd]
    refine HereO.opP T_ok (OpP.lenStr Tryd.underlying9 rfl rfl) ?_
    simp only [Tryd.results7, go_sem, Nat.reduceMul, Nat.reduceLeDiff, Nat.reduceLT, reduceIte, reduceCtorEq, Nat.reduceEqDiff, Nat.reduceSub, Nat.reduceAdd]
    rw [strB_size]
    refine Here.loopV T_ok (κ := Nat) (fun j => j ≤ p.length) (fun j => p.length - j) (fun j => [(2, .ptr 102 0), (4, .ptr 105 0), (6, .v (.string (strB p))), (7, .own 121), (15, .own 1240), (16, .v (.int .i64 q.length)), (17, .v (.int .i64 a)), (23, .v (.int .i64 p.length)), (24, .v (.int .i64 j))]) (fun j => [(102, .cells 24 [.v nilV]), (105, .cells 24 [.own 120]), (120, .rows 31 2 (II R)), (121, .row 2 (I (rowOf (p.take j)))), (1240, .row 9 (SS (q.map strB)))]) 0 (by simp) (by simp only [Tryd.results7, go_sem, Nat.reduceMul, Nat.reduceLeDiff, Nat.reduceLT, reduceIte, reduceCtorEq, Nat.reduceEqDiff, Nat.reduceSub, Nat.reduceAdd]; simp) (by simp only [Tryd.results7, go_sem, Nat.reduceMul, Nat.reduceLeDiff, Nat.reduceLT, reduceIte, reduceCtorEq, Nat.reduceEqDiff, Nat.reduceSub, Nat.reduceAdd]; simp [rowOf, I]) ?_
    intro j hj
    simp only [Tryd.results7, go_sem, Nat.reduceMul, Nat.reduceLeDiff, Nat.reduceLT, reduceIte, reduceCtorEq, Nat.reduceEqDiff, Nat.reduceSub, Nat.reduceAdd]
    refine ⟨fun h5 => ?_, fun h5 => ?_⟩
    · have hjp : j < p.length := by omega
      refine HereO.opP T_ok (OpP.index (i := j) Tryd.underlying9 rfl rfl rfl (by rw [strB_size]; exact hjp)) ?_
      simp only [Tryd.results7, go_sem, Nat.reduceMul, Nat.reduceLeDiff, Nat.reduceLT, reduceIte, reduceCtorEq, Nat.reduceEqDiff, Nat.reduceSub, Nat.reduceAdd]
      rw [byteAt_strB p j hjp]
      have hb := (p[j]).toNat_lt
      refine ⟨by unfold InR; omega, by unfold InR; omega, ?_⟩
      refine HereO.buildRow T_ok 133 (I [((p[j]).toNat : Int) - 48]) rfl rfl rfl (by decide) rfl (by first | rfl | (simp only [go_sem, Nat.reduceMul, Nat.reduceLeDiff, Nat.reduceLT, reduceIte, reduceCtorEq, Nat.reduceEqDiff, Nat.reduceSub, Nat.reduceAdd] <;> rfl)) rfl (by decide) ?_
      simp only [Tryd.results7, go_sem, Nat.reduceMul, Nat.reduceLeDiff, Nat.reduceLT, reduceIte, reduceCtorEq, Nat.reduceEqDiff, Nat.reduceSub, Nat.reduceAdd]
      refine HereO.append T_ok (I [((p[j]).toNat : Int) - 48]) rfl rfl (by decide) (by simp only [go_sem, Nat.reduceMul, Nat.reduceLeDiff, Nat.reduceLT, reduceIte, reduceCtorEq, Nat.reduceEqDiff, Nat.reduceSub, Nat.reduceAdd] <;> rfl) (by decide) (by simp only [go_sem, Nat.reduceMul, Nat.reduceLeDiff, Nat.reduceLT, reduceIte, reduceCtorEq, Nat.reduceEqDiff, Nat.reduceSub, Nat.reduceAdd] <;> rfl) (by simp only [go_sem, Nat.reduceMul, Nat.reduceLeDiff, Nat.reduceLT, reduceIte, reduceCtorEq, Nat.reduceEqDiff, Nat.reduceSub, Nat.reduceAdd] <;> rfl) (.own 133 _ _ (by decide) (by simp only [go_sem, Nat.reduceMul, Nat.reduceLeDiff, Nat.reduceLT, reduceIte, reduceCtorEq, Nat.reduceEqDiff, Nat.reduceSub, Nat.reduceAdd] <;> rfl)) (I_one _) (by rw [I_len, I_len]; simp [rowOf]; omega) ?_
      simp only [Tryd.results7, go_sem, Nat.reduceMul, Nat.reduceLeDiff, Nat.reduceLT, reduceIte, reduceCtorEq, Nat.reduceEqDiff, Nat.reduceSub, Nat.reduceAdd]
      exact ⟨by unfold InR; omega, j + 1, by omega, by omega, by push_cast; rfl, by rw [I_append, rowOf_step hjp]⟩
    · obtain rfl : j = p.length := by omega
      rw [List.take_length]
      refine HereO.buildRowL T_ok 139 [.own 121] rfl rfl rfl (by decide) rfl (by simp only [go_sem, Nat.reduceMul, Nat.reduceLeDiff, Nat.reduceLT, reduceIte, reduceCtorEq, Nat.reduceEqDiff, Nat.reduceSub, Nat.reduceAdd] <;> rfl) rfl (by decide) (by simp only [go_sem, Nat.reduceMul, Nat.reduceLeDiff, Nat.reduceLT, reduceIte, reduceCtorEq, Nat.reduceEqDiff, Nat.reduceSub, Nat.reduceAdd] <;> rfl) ?_
      simp only [Tryd.results7, go_sem, Nat.reduceMul, Nat.reduceLeDiff, Nat.reduceLT, reduceIte, reduceCtorEq, Nat.reduceEqDiff, Nat.reduceSub, Nat.reduceAdd]
      refine HereO.appendRows T_ok (id := 120) (j := 139) (i := 121) rfl rfl (by decide) (by simp only [go_sem, Nat.reduceMul, Nat.reduceLeDiff, Nat.reduceLT, reduceIte, reduceCtorEq, Nat.reduceEqDiff, Nat.reduceSub, Nat.reduceAdd] <;> rfl) (by decide) (by simp only [go_sem, Nat.reduceMul, Nat.reduceLeDiff, Nat.reduceLT, reduceIte, reduceCtorEq, Nat.reduceEqDiff, Nat.reduceSub, Nat.reduceAdd] <;> rfl) (by simp only [go_sem, Nat.reduceMul, Nat.reduceLeDiff, Nat.reduceLT, reduceIte, reduceCtorEq, Nat.reduceEqDiff, Nat.reduceSub, Nat.reduceAdd] <;> rfl) (by simp only [go_sem, Nat.reduceMul, Nat.reduceLeDiff, Nat.reduceLT, reduceIte, reduceCtorEq, Nat.reduceEqDiff, Nat.reduceSub, Nat.reduceAdd] <;> rfl) (by simp only [go_sem, Nat.reduceMul, Nat.reduceLeDiff, Nat.reduceLT, reduceIte, reduceCtorEq, Nat.reduceEqDiff, Nat.reduceSub, Nat.reduceAdd] <;> rfl) (by decide) (by decide) (by rw [II_len]; omega) ?_
      simp only [Tryd.results7, go_sem, Nat.reduceMul, Nat.reduceLeDiff, Nat.reduceLT, reduceIte, reduceCtorEq, Nat.reduceEqDiff, Nat.reduceSub, Nat.reduceAdd]
      refine HereO.store T_ok rfl (by simp only [go_sem, Nat.reduceMul, Nat.reduceLeDiff, Nat.reduceLT, reduceIte, reduceCtorEq, Nat.reduceEqDiff, Nat.reduceSub, Nat.reduceAdd] <;> rfl) (by simp only [go_sem, Nat.reduceMul, Nat.reduceLeDiff, Nat.reduceLT, reduceIte, reduceCtorEq, Nat.reduceEqDiff, Nat.reduceSub, Nat.reduceAdd] <;> rfl) rfl (by simp only [go_sem, Nat.reduceMul, Nat.reduceLeDiff, Nat.reduceLT, reduceIte, reduceCtorEq, Nat.reduceEqDiff, Nat.reduceSub, Nat.reduceAdd] <;> rfl) rfl (by first | rfl | (simp only [go_sem, Nat.reduceMul, Nat.reduceLeDiff, Nat.reduceLT, reduceIte, reduceCtorEq, Nat.reduceEqDiff, Nat.reduceSub, Nat.reduceAdd] <;> rfl)) (Nat.le_of_ble_eq_true rfl) ?_
      simp only [Tryd.results7, go_sem, Nat.reduceMul, Nat.reduceLeDiff, Nat.reduceLT, reduceIte, reduceCtorEq, Nat.reduceEqDiff, Nat.reduceSub, Nat.reduceAdd]
      refine ⟨by unfold InR; omega, a + 1, by omega, by omega, by push_cast; rfl, ?_⟩
      rw [II_append, rows_step haq, hR, hp]
  · obtain rfl : a = q.length := by omega
    rw [List.take_length]
    refine HereO.call T_ok rfl rfl (IsGroup_spec (q.map rowOf)) (by simp only [go_sem, Nat.reduceMul, Nat.reduceLeDiff, Nat.reduceLT, reduceIte, reduceCtorEq, Nat.reduceEqDiff, Nat.reduceSub, Nat.reduceAdd, List.toList_toArray] <;> first | rfl | exact ⟨rfl, rfl⟩) rfl ?_
    simp only [Tryd.results7, go_sem, Nat.reduceMul, Nat.reduceLeDiff, Nat.reduceLT, reduceIte, reduceCtorEq, Nat.reduceEqDiff, Nat.reduceSub, Nat.reduceAdd]
    rw [← hG]
    refine ⟨fun h => ?_, fun h => ?_⟩
    · have e1 : pgC s = 6 := if_neg h
      have e2 : pgL s = [] := if_neg h
      rw [e1, e2]
      refine HereO.opP T_ok (OpP.build built_24 rfl rfl rfl rfl) ?_
      simp only [Tryd.results7, go_sem, Nat.reduceMul, Nat.reduceLeDiff, Nat.reduceLT, reduceIte, reduceCtorEq, Nat.reduceEqDiff, Nat.reduceSub, Nat.reduceAdd]
      refine HereO.storeAgg T_ok rfl (by simp only [go_sem, Nat.reduceMul, Nat.reduceLeDiff, Nat.reduceLT, reduceIte, reduceCtorEq, Nat.reduceEqDiff, Nat.reduceSub, Nat.reduceAdd] <;> rfl) (by simp only [go_sem, Nat.reduceMul, Nat.reduceLeDiff, Nat.reduceLT, reduceIte, reduceCtorEq, Nat.reduceEqDiff, Nat.reduceSub, Nat.reduceAdd] <;> rfl) rfl (by simp only [go_sem, Nat.reduceMul, Nat.reduceLeDiff, Nat.reduceLT, reduceIte, reduceCtorEq, Nat.reduceEqDiff, Nat.reduceSub, Nat.reduceAdd] <;> rfl) (by first | rfl | (simp only [go_sem, Nat.reduceMul, Nat.reduceLeDiff, Nat.reduceLT, reduceIte, reduceCtorEq, Nat.reduceEqDiff, Nat.reduceSub, Nat.reduceAdd] <;> rfl)) rfl rfl ?_
      simp only [Tryd.results7, go_sem, Nat.reduceMul, Nat.reduceLeDiff, Nat.reduceLT, reduceIte, reduceCtorEq, Nat.reduceEqDiff, Nat.reduceSub, Nat.reduceAdd]
      exact RetC.conv (Conv.nilIn (c := 102) (tt := 24) (l := [.v nilV]) 0 520 (.rows 31 2 []) rfl (by decide) (by decide) (by rfl) rfl) (RetC.of (RetT.one 520 (by simp only [Tryd.results7, go_sem, Nat.reduceMul, Nat.reduceLeDiff, Nat.reduceLT, reduceIte, reduceCtorEq, Nat.reduceEqDiff, Nat.reduceSub, Nat.reduceAdd]; rfl) (by simp only [Tryd.results7, go_sem, Nat.reduceMul, Nat.reduceLeDiff, Nat.reduceLT, reduceIte, reduceCtorEq, Nat.reduceEqDiff, Nat.reduceSub, Nat.reduceAdd] <;> simp [II]) (by simp only [Tryd.results7, go_sem, Nat.reduceMul, Nat.reduceLeDiff, Nat.reduceLT, reduceIte, reduceCtorEq, Nat.reduceEqDiff, Nat.reduceSub, Nat.reduceAdd] <;> simp [II])))
    · have e1 : pgC s = 0 := if_pos h
      have e2 : pgL s = readG s.data.toList := if_pos h
      rw [e1, e2]
      refine HereO.storeAgg T_ok rfl (by simp only [go_sem, Nat.reduceMul, Nat.reduceLeDiff, Nat.reduceLT, reduceIte, reduceCtorEq, Nat.reduceEqDiff, Nat.reduceSub, Nat.reduceAdd] <;> rfl) (by simp only [go_sem, Nat.reduceMul, Nat.reduceLeDiff, Nat.reduceLT, reduceIte, reduceCtorEq, Nat.reduceEqDiff, Nat.reduceSub, Nat.reduceAdd] <;> rfl) rfl (by simp only [go_sem, Nat.reduceMul, Nat.reduceLeDiff, Nat.reduceLT, reduceIte, reduceCtorEq, Nat.reduceEqDiff, Nat.reduceSub, Nat.reduceAdd] <;> rfl) (by first | rfl | (simp only [go_sem, Nat.reduceMul, Nat.reduceLeDiff, Nat.reduceLT, reduceIte, reduceCtorEq, Nat.reduceEqDiff, Nat.reduceSub, Nat.reduceAdd] <;> rfl)) rfl rfl ?_
      simp only [Tryd.results7, go_sem, Nat.reduceMul, Nat.reduceLeDiff, Nat.reduceLT, reduceIte, reduceCtorEq, Nat.reduceEqDiff, Nat.reduceSub, Nat.reduceAdd]
      exact RetC.of (RetT.one 120 (by simp only [Tryd.results7, go_sem, Nat.reduceMul, Nat.reduceLeDiff, Nat.reduceLT, reduceIte, reduceCtorEq, Nat.reduceEqDiff, Nat.reduceSub, Nat.reduceAdd]; rfl) (by simp only [Tryd.results7, go_sem, Nat.reduceMul, Nat.reduceLeDiff, Nat.reduceLT, reduceIte, reduceCtorEq, Nat.reduceEqDiff, Nat.reduceSub, Nat.reduceAdd] <;> simp [II]) (by simp only [Tryd.results7, go_sem, Nat.reduceMul, Nat.reduceLeDiff, Nat.reduceLT, reduceIte, reduceCtorEq, Nat.reduceEqDiff, Nat.reduceSub, Nat.reduceAdd] <;> simp [II]))
end Go.Proofs.YtkdiodegilidgaaDoor
