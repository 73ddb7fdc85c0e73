/- Contracts: texts of groups. -/
import Derived.Test.YtkdiodegilidgaaDoorJa
import Derived.Test.YtkdiodegilidgaaDoorFb
import Derived.Test.YtkdiodegilidgaaDoorFc
namespace Go.Proofs.YtkdiodegilidgaaDoor
open Go.RowKit
set_option linter.unusedVariables false
set_option linter.unusedSimpArgs false
set_option maxRecDepth 100000

section
variable {P : Program} {T : TT}
/-- A text out of a row of bytes of the call's own. -/
theorem OpP.bytesStr {o : Oper} {ρ : Operand → LV} {σ : Nat → Option OC} {src dst e id : Nat} {x : Operand} {l : List UInt8} (hs : P.underlying src = some (.slice e)) (he : P.underlying e = some (.int .u8)) (hd : P.underlying dst = some .string) (ho : o.op = .convert src dst x) (hx : ρ x = .own id) (hσ : σ id = some (.row e (Lib.byteCells l))) (h0 : 0 < l.length) : OpP P o ρ σ (.v (.string ⟨l.toArray⟩)) := by
  intro w0 w ι fp s f hI hs2 hρ
  subst hs2
  have hv := hI.ev x
  rw [hρ x (by simp [ho, Op.operands]), hx] at hv
  simp only [LRel] at hv
  obtain ⟨v, g1, g2, g3⟩ := hI.ob id _ hσ
  rw [hv] at g1
  simp only [Option.some.injEq] at g1
  have hlen : (Lib.byteCells l).length = l.length := by simp [Lib.byteCells]
  obtain ⟨g, cap, e3, _⟩ := own_cell g2 (i := 0) (by omega)
  rw [e3, hlen] at g1
  rw [e3] at g2
  have hrun := run_convert_bytes_back (P := P) w src dst e ⟨g, 0, none⟩ cap l hs he hd (fun j hj => g2.cells (g := g) rfl j _ (by simp [Lib.byteCells, List.getElem?_eq_getElem hj]))
  have hr : (execOp (evV f) o).run P w = .ok (.value (.string ⟨l.toArray⟩)) w := by
    simp only [execOp, ho, g1, Sem.run_bind, hrun, Result.andThen_ok, Sem.run_pure]
  rw [hr]
  exact .value _ s _ w ι fp hI (by simp only [LRel]) ⟨rfl, rfl⟩
end
def byteL (r : List Int) : List UInt8 := r.map fun x => UInt8.ofNat (48 + x.toNat)
def strB (l : List UInt8) : ByteArray := ⟨l.toArray⟩
theorem one_byte : ∀ x : Nat, x < 8 → Lib.byteCells [UInt8.ofNat (48 + x)] = [Value.int .u8 (IntKind.u8.wrap (48 + (x : Int)))] := by
  have h : ∀ x : Nat, x < 8 → ((UInt8.ofNat (48 + x)).toNat : Int) = IntKind.u8.wrap (48 + (x : Int)) := by decide +kernel
  intro x hx
  simp only [Lib.byteCells, List.map_cons, List.map_nil, h x hx]
theorem byteCells_app (a b : List UInt8) : Lib.byteCells a ++ Lib.byteCells b = Lib.byteCells (a ++ b) := by simp [Lib.byteCells]
theorem byteCells_len (a : List UInt8) : (Lib.byteCells a).length = a.length := by simp [Lib.byteCells]
theorem bytes_one (a : List UInt8) : ∀ u ∈ Lib.byteCells a, u.oneCell' = true := by
  intro u hu
  simp only [Lib.byteCells, List.mem_map] at hu
  obtain ⟨x, _, rfl⟩ := hu
  rfl
theorem SS_one (xs : List ByteArray) : ∀ u ∈ SS xs, u.oneCell' = true := by
  intro u hu
  simp only [SS, List.mem_map] at hu
  obtain ⟨x, _, rfl⟩ := hu
  rfl
theorem SS_app (a b : List ByteArray) : SS a ++ SS b = SS (a ++ b) := by simp [SS]
theorem byteL_step {r : List Int} {j : Nat} (hj : j < r.length) : byteL (r.take (j + 1)) = byteL (r.take j) ++ [UInt8.ofNat (48 + (r.getD j 0).toNat)] := by
  rw [List.take_succ_eq_append_getElem hj]
  simp only [byteL, List.map_append, List.map_cons, List.map_nil, List.getD_eq_getElem?_getD, List.getElem?_eq_getElem hj, Option.getD_some]
theorem rowsB_step {t : List (List Int)} {a : Nat} (ha : a < t.length) : ((t.take (a + 1)).map fun r => strB (byteL r)) = ((t.take a).map fun r => strB (byteL r)) ++ [strB (byteL (t.getD a []))] := by
  rw [List.take_succ_eq_append_getElem ha]
  simp only [List.map_append, List.map_cons, List.map_nil, List.getD_eq_getElem?_getD, List.getElem?_eq_getElem ha, Option.getD_some]
/-- The text of a group. -/
def txt (t : List (List Int)) : List UInt8 := Lib.join (t.map byteL) [44]
/-! ### The reference's -/
theorem l01Dec_spec (x : Nat) (hx : x < 8) : Spec Tryd.prog 49 [.v (.int .i64 x)] (.v (.string (strB [UInt8.ofNat (48 + x)]))) [] := by
  refine Spec.of_code T_ok Tryd.func49 rfl Tryd.ntmps49 Tryd.call49 (Nat.le_of_ble_eq_true rfl) rfl rfl (CodeV_sound T_ok (by kernel_rfl) rfl ?_)
  simp only [Tryd.results49, go_sem, Nat.reduceMul, Nat.reduceLeDiff, Nat.reduceLT, reduceIte, reduceCtorEq, Nat.reduceEqDiff, Nat.reduceSub, Nat.reduceAdd]
  refine ⟨fun h => absurd h (by omega), fun _ => ⟨fun _ => ?_, fun h => absurd h (by omega)⟩⟩
  refine ⟨by unfold InR; omega, ?_⟩
  refine HereO.buildRow T_ok 128 [Value.int .u8 (IntKind.u8.wrap (48 + (x : Int)))] rfl rfl rfl (by decide) rfl (by simp only [go_sem, Nat.reduceMul, Nat.reduceLeDiff, Nat.reduceLT, reduceIte, reduceCtorEq, Nat.reduceEqDiff, Nat.reduceSub, Nat.reduceAdd] <;> rfl) rfl (by decide) ?_
  simp only [Tryd.results49, go_sem, Nat.reduceMul, Nat.reduceLeDiff, Nat.reduceLT, reduceIte, reduceCtorEq, Nat.reduceEqDiff, Nat.reduceSub, Nat.reduceAdd]
  rw [← one_byte x hx]
  refine HereO.opP T_ok (OpP.bytesStr (l := [UInt8.ofNat (48 + x)]) Tryd.underlying87 Tryd.underlying5 Tryd.underlying9 rfl (by simp only [go_sem, Nat.reduceMul, Nat.reduceLeDiff, Nat.reduceLT, reduceIte, reduceCtorEq, Nat.reduceEqDiff, Nat.reduceSub, Nat.reduceAdd] <;> rfl) (by simp only [go_sem, Nat.reduceMul, Nat.reduceLeDiff, Nat.reduceLT, reduceIte, reduceCtorEq, Nat.reduceEqDiff, Nat.reduceSub, Nat.reduceAdd] <;> rfl) (by simp)) ?_
  simp only [Tryd.results49, go_sem, Nat.reduceMul, Nat.reduceLeDiff, Nat.reduceLT, reduceIte, reduceCtorEq, Nat.reduceEqDiff, Nat.reduceSub, Nat.reduceAdd]
  rfl
theorem strB_app (a b : List UInt8) : strB a ++ strB b = strB (a ++ b) := by
  apply ByteArray.ext
  simp [strB, ByteArray.data_append]
theorem strB_size (a : List UInt8) : (strB a).size = a.length := by simp [strB, ByteArray.size]
/-- The text of the first rows, and of the first cells of the next one. -/
def pre (t : List (List Int)) (a b : Nat) : List UInt8 := (if a = 0 then [] else Lib.join ((t.take a).map byteL) [44] ++ [44]) ++ byteL ((t.getD a []).take b)
theorem join_snoc (xs : List (List UInt8)) (x sep : List UInt8) : Lib.join (xs ++ [x]) sep = if xs = [] then x else Lib.join xs sep ++ sep ++ x := by
  cases xs with
  | nil => rw [if_pos rfl, List.nil_append, Lib.join_one]
  | cons y r =>
    rw [if_neg (by simp), List.cons_append, Lib.join_cons, Lib.join_cons]
    simp [Lib.joinTail]
theorem pre_full {t : List (List Int)} {a : Nat} (ha : a < t.length) : pre t a (t.getD a []).length = Lib.join ((t.take (a + 1)).map byteL) [44] := by
  unfold pre
  rw [List.take_length, List.take_succ_eq_append_getElem ha, List.map_append, List.map_cons, List.map_nil, join_snoc]
  have e : t.getD a [] = t[a] := by rw [List.getD_eq_getElem?_getD, List.getElem?_eq_getElem ha, Option.getD_some]
  rw [e]
  by_cases h : a = 0
  · subst h; simp
  · have hne : (t.take a).map byteL ≠ [] := by
      intro q
      have := congrArg List.length q
      rw [List.length_map, List.length_take] at this
      simp only [List.length_nil] at this
      omega
    rw [if_neg h, if_neg hne]
theorem join_len : ∀ (s : List (List Int)), (∀ r ∈ s, r.length ≤ 8) → (Lib.join (s.map byteL) [44]).length ≤ 9 * s.length := by
  intro s h
  have ht : ∀ (s : List (List Int)), (∀ r ∈ s, r.length ≤ 8) → (Lib.joinTail [44] (s.map byteL)).length ≤ 9 * s.length := by
    intro s
    induction s with
    | nil => intro _; simp [Lib.joinTail]
    | cons r s ih =>
      intro h
      have h1 := h r (List.mem_cons_self ..)
      have h2 := ih fun r hr => h r (List.mem_cons_of_mem _ hr)
      have h3 : (byteL r).length = r.length := by simp [byteL]
      unfold Lib.joinTail at h2 ⊢
      simp only [List.map_cons, List.flatten_cons, List.length_append, List.length_cons, List.length_nil] at h2 ⊢
      omega
  cases s with
  | nil => simp [Lib.join]
  | cons r s =>
    rw [List.map_cons, Lib.join_cons, List.length_append]
    have h1 := h r (List.mem_cons_self ..)
    have h2 := ht s fun r hr => h r (List.mem_cons_of_mem _ hr)
    have h3 : (byteL r).length = r.length := by simp [byteL]
    simp only [List.length_cons]
    omega
theorem grp_rows {t : List (List Int)} (hg : Grp t) : ∀ r ∈ t, r.length ≤ 8 := fun r hr => by
  obtain ⟨i, hi, e⟩ := List.mem_iff_getElem.1 hr
  have := (hg.2.2.1 i hi).1
  rw [List.getD_eq_getElem?_getD, List.getElem?_eq_getElem hi, Option.getD_some, e] at this
  have := hg.2.1
  omega
theorem jlen {t : List (List Int)} (hg : Grp t) (a : Nat) : (Lib.join ((t.take a).map byteL) [44]).length ≤ 72 := by
  have := join_len (t.take a) fun r hr => grp_rows hg r (List.mem_of_mem_take hr)
  have h8 := hg.2.1
  simp only [List.length_take] at this
  omega
theorem pre_len {t : List (List Int)} (hg : Grp t) (a b : Nat) (ha : a < t.length) : (pre t a b).length ≤ 81 := by
  have h1 := jlen hg a
  have h2 := (hg.2.2.1 a ha).1
  have h8 := hg.2.1
  unfold pre
  have h3 : (byteL ((t.getD a []).take b)).length ≤ 8 := by simp only [byteL, List.length_map, List.length_take]; omega
  split
  · simp only [List.nil_append]; omega
  · simp only [List.length_append, List.length_cons, List.length_nil]; omega
/-- What GroupText answers. -/
def gtR (t : List (List Int)) : ByteArray := if Grp t then strB (txt t) else ⟨#[]⟩
def gtC (t : List (List Int)) : Int := if Grp t then 0 else 1
end Go.Proofs.YtkdiodegilidgaaDoor
