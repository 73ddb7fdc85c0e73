/- Contracts: texts of groups. -/
import Derived.Test.YtkdiodegilidgaaJa
import Derived.Test.YtkdiodegilidgaaFb
import Derived.Test.YtkdiodegilidgaaFc
namespace Go.Proofs.Ytkdiodegilidgaa
open Go.RowKit
set_option linter.unusedVariables false
set_option linter.unusedSimpArgs false
set_option maxRecDepth 100000

section
variable {P : Program} {T : TT}
/-- A text out of a row of bytes of the call's own. -/
theorem OpP.bytesStr {o : Oper} {ρ : Operand → LV} {σ : Nat → Option OC} {src dst e id : Nat} {x : Operand} {l : List UInt8} (hs : P.underlying src = some (.slice e)) (he : P.underlying e = some (.int .u8)) (hd : P.underlying dst = some .string) (ho : o.op = .convert src dst x) (hx : ρ x = .own id) (hσ : σ id = some (.row e (Lib.byteCells l))) (h0 : 0 < l.length) : OpP P o ρ σ (.v (.string ⟨l.toArray⟩)) := by
  intro w0 w ι fp s f hI hs2 hρ
  subst hs2
  have hv := hI.ev x
  rw [hρ x (by simp [ho, Op.operands]), hx] at hv
  simp only [LRel] at hv
  obtain ⟨v, g1, g2, g3⟩ := hI.ob id _ hσ
  rw [hv] at g1
  simp only [Option.some.injEq] at g1
  have hlen : (Lib.byteCells l).length = l.length := by simp [Lib.byteCells]
  obtain ⟨g, cap, e3, _⟩ := own_cell g2 (i := 0) (by omega)
  rw [e3, hlen] at g1
  rw [e3] at g2
  have hrun := run_convert_bytes_back (P := P) w src dst e ⟨g, 0, none⟩ cap l hs he hd (fun j hj => g2.cells (g := g) rfl j _ (by simp [Lib.byteCells, List.getElem?_eq_getElem hj]))
  have hr : (execOp (evV f) o).run P w = .ok (.value (.string ⟨l.toArray⟩)) w := by
    simp only [execOp, ho, g1, Sem.run_bind, hrun, Result.andThen_ok, Sem.run_pure]
  rw [hr]
  exact .value _ s _ w ι fp hI (by simp only [LRel]) ⟨rfl, rfl⟩
end
def byteL (r : List Int) : List UInt8 := r.map fun x => UInt8.ofNat (48 + x.toNat)
def strB (l : List UInt8) : ByteArray := ⟨l.toArray⟩
theorem one_byte : ∀ x : Nat, x < 8 → Lib.byteCells [UInt8.ofNat (48 + x)] = [Value.int .u8 (IntKind.u8.wrap (48 + (x : Int)))] := by
  have h : ∀ x : Nat, x < 8 → ((UInt8.ofNat (48 + x)).toNat : Int) = IntKind.u8.wrap (48 + (x : Int)) := by decide +kernel
  intro x hx
  simp only [Lib.byteCells, List.map_cons, List.map_nil, h x hx]
theorem byteCells_app (a b : List UInt8) : Lib.byteCells a ++ Lib.byteCells b = Lib.byteCells (a ++ b) := by simp [Lib.byteCells]
theorem byteCells_len (a : List UInt8) : (Lib.byteCells a).length = a.length := by simp [Lib.byteCells]
theorem bytes_one (a : List UInt8) : ∀ u ∈ Lib.byteCells a, u.oneCell' = true := by
  intro u hu
  simp only [Lib.byteCells, List.mem_map] at hu
  obtain ⟨x, _, rfl⟩ := hu
  rfl
theorem SS_one (xs : List ByteArray) : ∀ u ∈ SS xs, u.oneCell' = true := by
  intro u hu
  simp only [SS, List.mem_map] at hu
  obtain ⟨x, _, rfl⟩ := hu
  rfl
theorem SS_app (a b : List ByteArray) : SS a ++ SS b = SS (a ++ b) := by simp [SS]
theorem byteL_step {r : List Int} {j : Nat} (hj : j < r.length) : byteL (r.take (j + 1)) = byteL (r.take j) ++ [UInt8.ofNat (48 + (r.getD j 0).toNat)] := by
  rw [List.take_succ_eq_append_getElem hj]
  simp only [byteL, List.map_append, List.map_cons, List.map_nil, List.getD_eq_getElem?_getD, List.getElem?_eq_getElem hj, Option.getD_some]
theorem rowsB_step {t : List (List Int)} {a : Nat} (ha : a < t.length) : ((t.take (a + 1)).map fun r => strB (byteL r)) = ((t.take a).map fun r => strB (byteL r)) ++ [strB (byteL (t.getD a []))] := by
  rw [List.take_succ_eq_append_getElem ha]
  simp only [List.map_append, List.map_cons, List.map_nil, List.getD_eq_getElem?_getD, List.getElem?_eq_getElem ha, Option.getD_some]
/-- The text of a group. -/
def txt (t : List (List Int)) : List UInt8 := Lib.join (t.map byteL) [44]
theorem groupText_spec (t : List (List Int)) (hg : Grp t) : Spec Try.prog 21 [.agg [.rds (II t)]] (.v (.string (strB (txt t)))) [] := by
  have h1 := hg.1
  have h8 := hg.2.1
  have h3 := hg.2.2.1
  refine Spec.of_code T_ok Try.func21 rfl Try.ntmps21 Try.call21 (Nat.le_of_ble_eq_true rfl) rfl rfl (CodeV_sound T_ok (by kernel_rfl) rfl ?_)
  simp only [Try.results21, go_sem, Nat.reduceMul, Nat.reduceLeDiff, Nat.reduceLT, reduceIte, reduceCtorEq, Nat.reduceEqDiff, Nat.reduceSub, Nat.reduceAdd]
  refine HereO.buildRow T_ok 109 (SS []) rfl rfl rfl (by decide) rfl (by simp only [go_sem, Nat.reduceMul, Nat.reduceLeDiff, Nat.reduceLT, reduceIte, reduceCtorEq, Nat.reduceEqDiff, Nat.reduceSub, Nat.reduceAdd] <;> rfl) rfl (by decide) ?_
  simp only [Try.results21, go_sem, Nat.reduceMul, Nat.reduceLeDiff, Nat.reduceLT, reduceIte, reduceCtorEq, Nat.reduceEqDiff, Nat.reduceSub, Nat.reduceAdd]
  refine Here.loopV T_ok (κ := Nat) (fun a => a ≤ t.length) (fun a => t.length - a) (fun a => [(3, .own 109), (11, .rds (II t)), (12, .v (.int .i64 t.length)), (13, .v (.int .i64 a))]) (fun a => [(109, .row 9 (SS ((t.take a).map fun r => strB (byteL r))))]) 0 (by simp) (by simp only [Try.results21, go_sem, Nat.reduceMul, Nat.reduceLeDiff, Nat.reduceLT, reduceIte, reduceCtorEq, Nat.reduceEqDiff, Nat.reduceSub, Nat.reduceAdd]; simp) (by simp only [Try.results21, go_sem, Nat.reduceMul, Nat.reduceLeDiff, Nat.reduceLT, reduceIte, reduceCtorEq, Nat.reduceEqDiff, Nat.reduceSub, Nat.reduceAdd]) ?_
  intro a ha
  simp only [Try.results21, go_sem, Nat.reduceMul, Nat.reduceLeDiff, Nat.reduceLT, reduceIte, reduceCtorEq, Nat.reduceEqDiff, Nat.reduceSub, Nat.reduceAdd]
  refine ⟨fun h4 => ?_, fun h4 => ?_⟩
  · have hra := (h3 a (by omega)).1
    refine ⟨⟨by omega, by omega⟩, ?_⟩
    refine HereO.buildRow T_ok 117 (Lib.byteCells []) rfl rfl rfl (by decide) rfl (by simp only [go_sem, Nat.reduceMul, Nat.reduceLeDiff, Nat.reduceLT, reduceIte, reduceCtorEq, Nat.reduceEqDiff, Nat.reduceSub, Nat.reduceAdd] <;> rfl) rfl (by decide) ?_
    simp only [Try.results21, go_sem, Nat.reduceMul, Nat.reduceLeDiff, Nat.reduceLT, reduceIte, reduceCtorEq, Nat.reduceEqDiff, Nat.reduceSub, Nat.reduceAdd]
    obtain ⟨X, hX⟩ : ∃ X, X = (t.take a).map fun r => strB (byteL r) := ⟨_, rfl⟩
    rw [← hX]
    have hXl : X.length = a := by rw [hX]; simp; omega
    obtain ⟨R, hR⟩ : ∃ R, R = t.getD a [] := ⟨_, rfl⟩
    rw [← hR] at hra ⊢
    have hent : ∀ j, j < R.length → 0 ≤ R.getD j 0 ∧ R.getD j 0 < t.length := fun j hj => by
      have := (h3 a (by omega)).2 j (by omega)
      unfold ee at this
      rw [← hR] at this
      exact this
    refine Here.loopV T_ok (κ := Nat) (fun j => j ≤ R.length) (fun j => R.length - j) (fun j => [(3, .own 109), (11, .rds (II t)), (12, .v (.int .i64 t.length)), (13, .v (.int .i64 a)), (6, .own 117), (18, .rd (I R)), (19, .v (.int .i64 R.length)), (20, .v (.int .i64 j))]) (fun j => [(109, .row 9 (SS X)), (117, .row 5 (Lib.byteCells (byteL (R.take j))))]) 0 (by simp) (by simp only [Try.results21, go_sem, Nat.reduceMul, Nat.reduceLeDiff, Nat.reduceLT, reduceIte, reduceCtorEq, Nat.reduceEqDiff, Nat.reduceSub, Nat.reduceAdd]; simp) (by simp only [Try.results21, go_sem, Nat.reduceMul, Nat.reduceLeDiff, Nat.reduceLT, reduceIte, reduceCtorEq, Nat.reduceEqDiff, Nat.reduceSub, Nat.reduceAdd]; simp [byteL]) ?_
    intro j hj
    simp only [Try.results21, go_sem, Nat.reduceMul, Nat.reduceLeDiff, Nat.reduceLT, reduceIte, reduceCtorEq, Nat.reduceEqDiff, Nat.reduceSub, Nat.reduceAdd]
    refine ⟨fun h5 => ?_, fun h5 => ?_⟩
    · have he := hent j (by omega)
      obtain ⟨x, hx⟩ := Int.eq_ofNat_of_zero_le he.1
      have hx8 : x < 8 := by omega
      rw [hx]
      refine ⟨⟨by omega, by omega⟩, by unfold InR; omega, ?_⟩
      refine HereO.buildRow T_ok 128 [Value.int .u8 (IntKind.u8.wrap (48 + (x : Int)))] rfl rfl rfl (by decide) rfl (by simp only [go_sem, Nat.reduceMul, Nat.reduceLeDiff, Nat.reduceLT, reduceIte, reduceCtorEq, Nat.reduceEqDiff, Nat.reduceSub, Nat.reduceAdd] <;> rfl) rfl (by decide) ?_
      simp only [Try.results21, go_sem, Nat.reduceMul, Nat.reduceLeDiff, Nat.reduceLT, reduceIte, reduceCtorEq, Nat.reduceEqDiff, Nat.reduceSub, Nat.reduceAdd]
      refine HereO.append T_ok [Value.int .u8 (IntKind.u8.wrap (48 + (x : Int)))] rfl rfl (by decide) (by simp only [go_sem, Nat.reduceMul, Nat.reduceLeDiff, Nat.reduceLT, reduceIte, reduceCtorEq, Nat.reduceEqDiff, Nat.reduceSub, Nat.reduceAdd] <;> rfl) (by decide) (by simp only [go_sem, Nat.reduceMul, Nat.reduceLeDiff, Nat.reduceLT, reduceIte, reduceCtorEq, Nat.reduceEqDiff, Nat.reduceSub, Nat.reduceAdd] <;> rfl) (by simp only [go_sem, Nat.reduceMul, Nat.reduceLeDiff, Nat.reduceLT, reduceIte, reduceCtorEq, Nat.reduceEqDiff, Nat.reduceSub, Nat.reduceAdd] <;> rfl) (.own 128 _ _ (by decide) (by simp only [go_sem, Nat.reduceMul, Nat.reduceLeDiff, Nat.reduceLT, reduceIte, reduceCtorEq, Nat.reduceEqDiff, Nat.reduceSub, Nat.reduceAdd] <;> rfl)) (by intro u hu; simp only [List.mem_singleton] at hu; subst hu; rfl) (by rw [byteCells_len]; simp [byteL]; omega) ?_
      simp only [Try.results21, go_sem, Nat.reduceMul, Nat.reduceLeDiff, Nat.reduceLT, reduceIte, reduceCtorEq, Nat.reduceEqDiff, Nat.reduceSub, Nat.reduceAdd]
      refine ⟨by unfold InR; omega, j + 1, by omega, by omega, by push_cast; rfl, ?_⟩
      rw [byteL_step (by omega), hx, Int.toNat_natCast, ← byteCells_app, one_byte x hx8]
    · obtain rfl : j = R.length := by omega
      rw [List.take_length]
      refine HereO.opP T_ok (OpP.bytesStr (l := byteL R) Try.underlying58 Try.underlying5 Try.underlying9 rfl (by simp only [go_sem, Nat.reduceMul, Nat.reduceLeDiff, Nat.reduceLT, reduceIte, reduceCtorEq, Nat.reduceEqDiff, Nat.reduceSub, Nat.reduceAdd] <;> rfl) (by simp only [go_sem, Nat.reduceMul, Nat.reduceLeDiff, Nat.reduceLT, reduceIte, reduceCtorEq, Nat.reduceEqDiff, Nat.reduceSub, Nat.reduceAdd] <;> rfl) (by simp [byteL]; omega)) ?_
      simp only [Try.results21, go_sem, Nat.reduceMul, Nat.reduceLeDiff, Nat.reduceLT, reduceIte, reduceCtorEq, Nat.reduceEqDiff, Nat.reduceSub, Nat.reduceAdd]
      refine HereO.buildRow T_ok 134 (SS [strB (byteL R)]) rfl rfl rfl (by decide) rfl (by simp only [go_sem, Nat.reduceMul, Nat.reduceLeDiff, Nat.reduceLT, reduceIte, reduceCtorEq, Nat.reduceEqDiff, Nat.reduceSub, Nat.reduceAdd] <;> rfl) rfl (by decide) ?_
      simp only [Try.results21, go_sem, Nat.reduceMul, Nat.reduceLeDiff, Nat.reduceLT, reduceIte, reduceCtorEq, Nat.reduceEqDiff, Nat.reduceSub, Nat.reduceAdd]
      refine HereO.append T_ok (SS [strB (byteL R)]) rfl rfl (by decide) (by simp only [go_sem, Nat.reduceMul, Nat.reduceLeDiff, Nat.reduceLT, reduceIte, reduceCtorEq, Nat.reduceEqDiff, Nat.reduceSub, Nat.reduceAdd] <;> rfl) (by decide) (by simp only [go_sem, Nat.reduceMul, Nat.reduceLeDiff, Nat.reduceLT, reduceIte, reduceCtorEq, Nat.reduceEqDiff, Nat.reduceSub, Nat.reduceAdd] <;> rfl) (by simp only [go_sem, Nat.reduceMul, Nat.reduceLeDiff, Nat.reduceLT, reduceIte, reduceCtorEq, Nat.reduceEqDiff, Nat.reduceSub, Nat.reduceAdd] <;> rfl) (.own 134 _ _ (by decide) (by simp only [go_sem, Nat.reduceMul, Nat.reduceLeDiff, Nat.reduceLT, reduceIte, reduceCtorEq, Nat.reduceEqDiff, Nat.reduceSub, Nat.reduceAdd] <;> rfl)) (SS_one _) (by rw [SS_len, SS_len]; simp; omega) ?_
      simp only [Try.results21, go_sem, Nat.reduceMul, Nat.reduceLeDiff, Nat.reduceLT, reduceIte, reduceCtorEq, Nat.reduceEqDiff, Nat.reduceSub, Nat.reduceAdd]
      refine ⟨by unfold InR; omega, a + 1, by omega, by omega, by push_cast; rfl, ?_⟩
      rw [SS_app, rowsB_step (by omega), hX, hR]
  · obtain rfl : a = t.length := by omega
    rw [List.take_length]
    have hmap : (t.map fun r => strB (byteL r)).map (·.data.toList) = t.map byteL := by
      rw [List.map_map]
      refine List.map_congr_left fun r _ => ?_
      simp [strB]
    have hrow : ∀ r ∈ t, (byteL r).length ≤ 8 := fun r hr => by
      obtain ⟨i, hi, e⟩ := List.mem_iff_getElem.1 hr
      have := (h3 i hi).1
      rw [List.getD_eq_getElem?_getD, List.getElem?_eq_getElem hi, Option.getD_some, e] at this
      simp [byteL]
      omega
    have hjoin : (Lib.join (t.map byteL) [44]).length ≤ 140737488355328 := by
      have : ∀ (s : List (List Int)), (∀ r ∈ s, (byteL r).length ≤ 8) → (Lib.joinTail [44] (s.map byteL)).length ≤ 9 * s.length := by
        intro s
        induction s with
        | nil => intro _; simp [Lib.joinTail]
        | cons r s ih =>
          intro h
          have h1 := h r (List.mem_cons_self ..)
          have h2 := ih fun r hr => h r (List.mem_cons_of_mem _ hr)
          unfold Lib.joinTail at h2 ⊢
          simp only [List.map_cons, List.flatten_cons, List.length_append, List.length_cons, List.length_nil] at h2 ⊢
          omega
      cases t with
      | nil => simp [Lib.join]
      | cons r s =>
        rw [List.map_cons, Lib.join_cons, List.length_append]
        have h1 := hrow r (List.mem_cons_self ..)
        have h2 := this s fun r hr => hrow r (List.mem_cons_of_mem _ hr)
        simp only [List.length_cons] at h8
        omega
    have hc := joinS_spec (t.map fun r => strB (byteL r)) ⟨#[44]⟩ (by simp; omega) (by simp; omega) (by rw [hmap]; exact hjoin)
    rw [hmap] at hc
    refine HereO.callM T_ok 21 [109] rfl rfl (hc) (by simp only [go_sem, Nat.reduceMul, Nat.reduceLeDiff, Nat.reduceLT, reduceIte, reduceCtorEq, Nat.reduceEqDiff, Nat.reduceSub, Nat.reduceAdd, List.toList_toArray, ↓reduceIte]) rfl (by decide) (by decide) rfl rfl rfl (Nat.le_of_ble_eq_true rfl) ?_
    simp only [Try.results21, go_sem, Nat.reduceMul, Nat.reduceLeDiff, Nat.reduceLT, reduceIte, reduceCtorEq, Nat.reduceEqDiff, Nat.reduceSub, Nat.reduceAdd]
    rfl
/-! ### The reference's -/
theorem l01Dec_spec (x : Nat) (hx : x < 8) : Spec Try.prog 32 [.v (.int .i64 x)] (.v (.string (strB [UInt8.ofNat (48 + x)]))) [] := by
  refine Spec.of_code T_ok Try.func32 rfl Try.ntmps32 Try.call32 (Nat.le_of_ble_eq_true rfl) rfl rfl (CodeV_sound T_ok (by kernel_rfl) rfl ?_)
  simp only [Try.results32, go_sem, Nat.reduceMul, Nat.reduceLeDiff, Nat.reduceLT, reduceIte, reduceCtorEq, Nat.reduceEqDiff, Nat.reduceSub, Nat.reduceAdd]
  refine ⟨fun h => absurd h (by omega), fun _ => ⟨fun _ => ?_, fun h => absurd h (by omega)⟩⟩
  refine ⟨by unfold InR; omega, ?_⟩
  refine HereO.buildRow T_ok 128 [Value.int .u8 (IntKind.u8.wrap (48 + (x : Int)))] rfl rfl rfl (by decide) rfl (by simp only [go_sem, Nat.reduceMul, Nat.reduceLeDiff, Nat.reduceLT, reduceIte, reduceCtorEq, Nat.reduceEqDiff, Nat.reduceSub, Nat.reduceAdd] <;> rfl) rfl (by decide) ?_
  simp only [Try.results32, go_sem, Nat.reduceMul, Nat.reduceLeDiff, Nat.reduceLT, reduceIte, reduceCtorEq, Nat.reduceEqDiff, Nat.reduceSub, Nat.reduceAdd]
  rw [← one_byte x hx]
  refine HereO.opP T_ok (OpP.bytesStr (l := [UInt8.ofNat (48 + x)]) Try.underlying58 Try.underlying5 Try.underlying9 rfl (by simp only [go_sem, Nat.reduceMul, Nat.reduceLeDiff, Nat.reduceLT, reduceIte, reduceCtorEq, Nat.reduceEqDiff, Nat.reduceSub, Nat.reduceAdd] <;> rfl) (by simp only [go_sem, Nat.reduceMul, Nat.reduceLeDiff, Nat.reduceLT, reduceIte, reduceCtorEq, Nat.reduceEqDiff, Nat.reduceSub, Nat.reduceAdd] <;> rfl) (by simp)) ?_
  simp only [Try.results32, go_sem, Nat.reduceMul, Nat.reduceLeDiff, Nat.reduceLT, reduceIte, reduceCtorEq, Nat.reduceEqDiff, Nat.reduceSub, Nat.reduceAdd]
  rfl
theorem strB_app (a b : List UInt8) : strB a ++ strB b = strB (a ++ b) := by
  apply ByteArray.ext
  simp [strB, ByteArray.data_append]
theorem strB_size (a : List UInt8) : (strB a).size = a.length := by simp [strB, ByteArray.size]
/-- The text of the first rows, and of the first cells of the next one. -/
def pre (t : List (List Int)) (a b : Nat) : List UInt8 := (if a = 0 then [] else Lib.join ((t.take a).map byteL) [44] ++ [44]) ++ byteL ((t.getD a []).take b)
theorem join_snoc (xs : List (List UInt8)) (x sep : List UInt8) : Lib.join (xs ++ [x]) sep = if xs = [] then x else Lib.join xs sep ++ sep ++ x := by
  cases xs with
  | nil => rw [if_pos rfl, List.nil_append, Lib.join_one]
  | cons y r =>
    rw [if_neg (by simp), List.cons_append, Lib.join_cons, Lib.join_cons]
    simp [Lib.joinTail]
theorem pre_full {t : List (List Int)} {a : Nat} (ha : a < t.length) : pre t a (t.getD a []).length = Lib.join ((t.take (a + 1)).map byteL) [44] := by
  unfold pre
  rw [List.take_length, List.take_succ_eq_append_getElem ha, List.map_append, List.map_cons, List.map_nil, join_snoc]
  have e : t.getD a [] = t[a] := by rw [List.getD_eq_getElem?_getD, List.getElem?_eq_getElem ha, Option.getD_some]
  rw [e]
  by_cases h : a = 0
  · subst h; simp
  · have hne : (t.take a).map byteL ≠ [] := by
      intro q
      have := congrArg List.length q
      rw [List.length_map, List.length_take] at this
      simp only [List.length_nil] at this
      omega
    rw [if_neg h, if_neg hne]
theorem join_len : ∀ (s : List (List Int)), (∀ r ∈ s, r.length ≤ 8) → (Lib.join (s.map byteL) [44]).length ≤ 9 * s.length := by
  intro s h
  have ht : ∀ (s : List (List Int)), (∀ r ∈ s, r.length ≤ 8) → (Lib.joinTail [44] (s.map byteL)).length ≤ 9 * s.length := by
    intro s
    induction s with
    | nil => intro _; simp [Lib.joinTail]
    | cons r s ih =>
      intro h
      have h1 := h r (List.mem_cons_self ..)
      have h2 := ih fun r hr => h r (List.mem_cons_of_mem _ hr)
      have h3 : (byteL r).length = r.length := by simp [byteL]
      unfold Lib.joinTail at h2 ⊢
      simp only [List.map_cons, List.flatten_cons, List.length_append, List.length_cons, List.length_nil] at h2 ⊢
      omega
  cases s with
  | nil => simp [Lib.join]
  | cons r s =>
    rw [List.map_cons, Lib.join_cons, List.length_append]
    have h1 := h r (List.mem_cons_self ..)
    have h2 := ht s fun r hr => h r (List.mem_cons_of_mem _ hr)
    have h3 : (byteL r).length = r.length := by simp [byteL]
    simp only [List.length_cons]
    omega
theorem grp_rows {t : List (List Int)} (hg : Grp t) : ∀ r ∈ t, r.length ≤ 8 := fun r hr => by
  obtain ⟨i, hi, e⟩ := List.mem_iff_getElem.1 hr
  have := (hg.2.2.1 i hi).1
  rw [List.getD_eq_getElem?_getD, List.getElem?_eq_getElem hi, Option.getD_some, e] at this
  have := hg.2.1
  omega
theorem jlen {t : List (List Int)} (hg : Grp t) (a : Nat) : (Lib.join ((t.take a).map byteL) [44]).length ≤ 72 := by
  have := join_len (t.take a) fun r hr => grp_rows hg r (List.mem_of_mem_take hr)
  have h8 := hg.2.1
  simp only [List.length_take] at this
  omega
theorem pre_len {t : List (List Int)} (hg : Grp t) (a b : Nat) (ha : a < t.length) : (pre t a b).length ≤ 81 := by
  have h1 := jlen hg a
  have h2 := (hg.2.2.1 a ha).1
  have h8 := hg.2.1
  unfold pre
  have h3 : (byteL ((t.getD a []).take b)).length ≤ 8 := by simp only [byteL, List.length_map, List.length_take]; omega
  split
  · simp only [List.nil_append]; omega
  · simp only [List.length_append, List.length_cons, List.length_nil]; omega
theorem l01Text_spec (t : List (List Int)) (hg : Grp t) : Spec Try.prog 18 [.agg [.rds (II t)]] (.v (.string (strB (txt t)))) [] := by
  have h1 := hg.1
  have h8 := hg.2.1
  have h3 := hg.2.2.1
  refine Spec.of_code T_ok Try.func18 rfl Try.ntmps18 Try.call18 (Nat.le_of_ble_eq_true rfl) rfl rfl (CodeV_sound T_ok (by kernel_rfl) rfl ?_)
  simp only [Try.results18, go_sem, Nat.reduceMul, Nat.reduceLeDiff, Nat.reduceLT, reduceIte, reduceCtorEq, Nat.reduceEqDiff, Nat.reduceSub, Nat.reduceAdd]
  refine Here.loopV T_ok (κ := Nat) (fun a => a ≤ t.length) (fun a => t.length - a) (fun a => [(1, .box [.rds (II t)]), (3, .v (.string (strB (Lib.join ((t.take a).map byteL) [44])))), (4, .v (.int .i64 a))]) (fun _ => []) 0 (by simp) (by simp only [Try.results18, go_sem, Nat.reduceMul, Nat.reduceLeDiff, Nat.reduceLT, reduceIte, reduceCtorEq, Nat.reduceEqDiff, Nat.reduceSub, Nat.reduceAdd]; simp [strB, Lib.join]) trivial ?_
  intro a ha
  simp only [Try.results18, go_sem, Nat.reduceMul, Nat.reduceLeDiff, Nat.reduceLT, reduceIte, reduceCtorEq, Nat.reduceEqDiff, Nat.reduceSub, Nat.reduceAdd]
  refine ⟨fun h4 => ⟨fun h5 => ?_, fun h5 => ?_⟩, fun h4 => ?_⟩
  · have hjl := jlen hg a
    have hra := (h3 a (by omega)).1
    refine ⟨by rw [strB_size]; omega, ?_⟩
    have e : strB (Lib.join ((t.take a).map byteL) [44]) ++ (⟨#[44]⟩ : ByteArray) = strB (pre t a 0) := by
      have e2 : (⟨#[44]⟩ : ByteArray) = strB [44] := rfl
      rw [e2, strB_app]
      unfold pre
      rw [if_neg (by omega), List.take_zero]
      simp [byteL]
    rw [e]
    refine Here.loopV T_ok (κ := Nat) (fun b => b ≤ (t.getD a []).length) (fun b => (t.getD a []).length - b) (fun b => [(1, .box [.rds (II t)]), (3, .v (.string (strB (pre t a b)))), (4, .v (.int .i64 a)), (5, .v (.int .i64 b))]) (fun _ => []) 0 (by omega) (by simp only [Try.results18, go_sem, Nat.reduceMul, Nat.reduceLeDiff, Nat.reduceLT, reduceIte, reduceCtorEq, Nat.reduceEqDiff, Nat.reduceSub, Nat.reduceAdd]; simp) trivial ?_
    intro b hb
    simp only [Try.results18, go_sem, Nat.reduceMul, Nat.reduceLeDiff, Nat.reduceLT, reduceIte, reduceCtorEq, Nat.reduceEqDiff, Nat.reduceSub, Nat.reduceAdd]
    refine ⟨⟨by omega, by omega⟩, fun h6 => ?_, fun h6 => ?_⟩
    · have hre := (h3 a (by omega)).2 b (by omega)
      unfold ee at hre
      obtain ⟨x, hx⟩ := Int.eq_ofNat_of_zero_le hre.1
      have hx8 : x < 8 := by omega
      rw [hx]
      refine ⟨⟨by omega, by omega⟩, ⟨by omega, by omega⟩, ?_⟩
      refine HereO.call T_ok rfl rfl (l01Dec_spec x hx8) (by simp only [go_sem, Nat.reduceMul, Nat.reduceLeDiff, Nat.reduceLT, reduceIte, reduceCtorEq, Nat.reduceEqDiff, Nat.reduceSub, Nat.reduceAdd, List.toList_toArray] <;> first | rfl | exact ⟨rfl, rfl⟩) rfl ?_
      simp only [Try.results18, go_sem, Nat.reduceMul, Nat.reduceLeDiff, Nat.reduceLT, reduceIte, reduceCtorEq, Nat.reduceEqDiff, Nat.reduceSub, Nat.reduceAdd]
      have hpl := pre_len hg a b (by omega)
      rw [strB_app, strB_size, strB_size]
      refine ⟨by simp only [List.length_cons, List.length_nil]; omega, by unfold InR; omega, b + 1, by omega, by omega, ?_, by push_cast; rfl⟩
      unfold pre
      rw [byteL_step (by omega), hx, Int.toNat_natCast, List.append_assoc]
    · obtain rfl : b = (t.getD a []).length := by omega
      refine ⟨by unfold InR; omega, a + 1, by omega, by omega, ?_, by push_cast; rfl⟩
      rw [pre_full (by omega)]
  · obtain rfl : a = 0 := by omega
    have hra := (h3 0 (by omega)).1
    have e : strB (Lib.join ((t.take 0).map byteL) [44]) = strB (pre t 0 0) := by
      unfold pre
      simp [byteL, Lib.join]
    rw [e]
    refine Here.loopV T_ok (κ := Nat) (fun b => b ≤ (t.getD 0 []).length) (fun b => (t.getD 0 []).length - b) (fun b => [(1, .box [.rds (II t)]), (3, .v (.string (strB (pre t 0 b)))), (4, .v (.int .i64 (0 : Nat))), (5, .v (.int .i64 b))]) (fun _ => []) 0 (by omega) (by simp only [Try.results18, go_sem, Nat.reduceMul, Nat.reduceLeDiff, Nat.reduceLT, reduceIte, reduceCtorEq, Nat.reduceEqDiff, Nat.reduceSub, Nat.reduceAdd]; simp) trivial ?_
    intro b hb
    simp only [Try.results18, go_sem, Nat.reduceMul, Nat.reduceLeDiff, Nat.reduceLT, reduceIte, reduceCtorEq, Nat.reduceEqDiff, Nat.reduceSub, Nat.reduceAdd]
    refine ⟨⟨by omega, by omega⟩, fun h6 => ?_, fun h6 => ?_⟩
    · have hre := (h3 0 (by omega)).2 b (by omega)
      unfold ee at hre
      obtain ⟨x, hx⟩ := Int.eq_ofNat_of_zero_le hre.1
      have hx8 : x < 8 := by omega
      rw [hx]
      refine ⟨⟨by omega, by omega⟩, ⟨by omega, by omega⟩, ?_⟩
      refine HereO.call T_ok rfl rfl (l01Dec_spec x hx8) (by simp only [go_sem, Nat.reduceMul, Nat.reduceLeDiff, Nat.reduceLT, reduceIte, reduceCtorEq, Nat.reduceEqDiff, Nat.reduceSub, Nat.reduceAdd, List.toList_toArray] <;> first | rfl | exact ⟨rfl, rfl⟩) rfl ?_
      simp only [Try.results18, go_sem, Nat.reduceMul, Nat.reduceLeDiff, Nat.reduceLT, reduceIte, reduceCtorEq, Nat.reduceEqDiff, Nat.reduceSub, Nat.reduceAdd]
      have hpl := pre_len hg 0 b (by omega)
      rw [strB_app, strB_size, strB_size]
      refine ⟨by simp only [List.length_cons, List.length_nil]; omega, by unfold InR; omega, b + 1, by omega, by omega, ?_, by push_cast; rfl⟩
      unfold pre
      rw [byteL_step (by omega), hx, Int.toNat_natCast, List.append_assoc]
    · obtain rfl : b = (t.getD 0 []).length := by omega
      refine ⟨by unfold InR; omega, 1, by omega, by omega, ?_, rfl⟩
      rw [pre_full (by omega)]
  · obtain rfl : a = t.length := by omega
    rw [List.take_length]
    rfl
/-- What GroupText answers. -/
def gtR (t : List (List Int)) : ByteArray := if Grp t then strB (txt t) else ⟨#[]⟩
def gtC (t : List (List Int)) : Int := if Grp t then 0 else 1
theorem implGroupText (t : List (List Int)) : Spec Try.prog 8 [.agg [.rds (II t)]] (.tup [.v (.string (gtR t)), .v (.int .i64 (gtC t))]) [] := by
  unfold gtR gtC
  refine Spec.of_code T_ok Try.func8 rfl Try.ntmps8 Try.call8 (Nat.le_of_ble_eq_true rfl) rfl rfl (CodeV_sound T_ok (by kernel_rfl) rfl ?_)
  simp only [Try.results8, go_sem, Nat.reduceMul, Nat.reduceLeDiff, Nat.reduceLT, reduceIte, reduceCtorEq, Nat.reduceEqDiff, Nat.reduceSub, Nat.reduceAdd]
  refine HereO.call T_ok rfl rfl (IsGroup_spec t) (by simp only [go_sem, Nat.reduceMul, Nat.reduceLeDiff, Nat.reduceLT, reduceIte, reduceCtorEq, Nat.reduceEqDiff, Nat.reduceSub, Nat.reduceAdd, List.toList_toArray] <;> first | rfl | exact ⟨rfl, rfl⟩) rfl ?_
  simp only [Try.results8, go_sem, Nat.reduceMul, Nat.reduceLeDiff, Nat.reduceLT, reduceIte, reduceCtorEq, Nat.reduceEqDiff, Nat.reduceSub, Nat.reduceAdd]
  refine ⟨fun h => ?_, fun h => ?_⟩
  · rw [if_neg h, if_neg h]
    exact ⟨rfl, rfl⟩
  · rw [if_pos h, if_pos h]
    refine HereO.call T_ok rfl rfl (groupText_spec t h) (by simp only [go_sem, Nat.reduceMul, Nat.reduceLeDiff, Nat.reduceLT, reduceIte, reduceCtorEq, Nat.reduceEqDiff, Nat.reduceSub, Nat.reduceAdd, List.toList_toArray] <;> first | rfl | exact ⟨rfl, rfl⟩) rfl ?_
    simp only [Try.results8, go_sem, Nat.reduceMul, Nat.reduceLeDiff, Nat.reduceLT, reduceIte, reduceCtorEq, Nat.reduceEqDiff, Nat.reduceSub, Nat.reduceAdd]
theorem specGroupText (t : List (List Int)) : Spec Try.prog 6 [.agg [.rds (II t)]] (.tup [.v (.string (gtR t)), .v (.int .i64 (gtC t))]) [] := by
  unfold gtR gtC
  refine Spec.of_code T_ok Try.func6 rfl Try.ntmps6 Try.call6 (Nat.le_of_ble_eq_true rfl) rfl rfl (CodeV_sound T_ok (by kernel_rfl) rfl ?_)
  simp only [Try.results6, go_sem, Nat.reduceMul, Nat.reduceLeDiff, Nat.reduceLT, reduceIte, reduceCtorEq, Nat.reduceEqDiff, Nat.reduceSub, Nat.reduceAdd]
  refine HereO.call T_ok rfl rfl (l01Is_spec t) (by simp only [go_sem, Nat.reduceMul, Nat.reduceLeDiff, Nat.reduceLT, reduceIte, reduceCtorEq, Nat.reduceEqDiff, Nat.reduceSub, Nat.reduceAdd, List.toList_toArray] <;> first | rfl | exact ⟨rfl, rfl⟩) rfl ?_
  simp only [Try.results6, go_sem, Nat.reduceMul, Nat.reduceLeDiff, Nat.reduceLT, reduceIte, reduceCtorEq, Nat.reduceEqDiff, Nat.reduceSub, Nat.reduceAdd]
  refine ⟨fun h => ?_, fun h => ?_⟩
  · rw [if_neg h, if_neg h]
    exact ⟨rfl, rfl⟩
  · rw [if_pos h, if_pos h]
    refine HereO.call T_ok rfl rfl (l01Text_spec t h) (by simp only [go_sem, Nat.reduceMul, Nat.reduceLeDiff, Nat.reduceLT, reduceIte, reduceCtorEq, Nat.reduceEqDiff, Nat.reduceSub, Nat.reduceAdd, List.toList_toArray] <;> first | rfl | exact ⟨rfl, rfl⟩) rfl ?_
    simp only [Try.results6, go_sem, Nat.reduceMul, Nat.reduceLeDiff, Nat.reduceLT, reduceIte, reduceCtorEq, Nat.reduceEqDiff, Nat.reduceSub, Nat.reduceAdd]
end Go.Proofs.Ytkdiodegilidgaa
