/- Contracts: texts of modules. -/
import Derived.Test.YtkdiodegilidgaaDoorOd
namespace Go.Proofs.YtkdiodegilidgaaDoor
open Go.RowKit
set_option linter.unusedVariables false
set_option linter.unusedSimpArgs false
set_option maxRecDepth 100000

section
variable {P : Program} {T : TT}
/-- A text out of a row of bytes that is read. -/
theorem OpP.bytesStrR {o : Oper} {ρ : Operand → LV} {σ : Nat → Option OC} {src dst e : Nat} {x : Operand} {l : List UInt8} (hs : P.underlying src = some (.slice e)) (he : P.underlying e = some (.int .u8)) (hd : P.underlying dst = some .string) (ho : o.op = .convert src dst x) (hx : ρ x = .rd (Lib.byteCells l)) (h0 : 0 < l.length) : OpP P o ρ σ (.v (.string ⟨l.toArray⟩)) := by
  intro w0 w ι fp s f hI hs2 hρ
  subst hs2
  have hv := hI.ev x
  rw [hρ x (by simp [ho, Op.operands]), hx] at hv
  simp only [LRel] at hv
  obtain ⟨A, cap, g1, _, _, g2⟩ := hv
  have hlen : (Lib.byteCells l).length = l.length := by simp [Lib.byteCells]
  obtain ⟨ad, rfl, _, hc⟩ := g2 (by omega)
  rw [hlen] at g1
  have hrun := run_convert_bytes_back (P := P) w src dst e ad cap l hs he hd (fun j hj => hc j _ (by simp [Lib.byteCells, List.getElem?_eq_getElem hj]))
  have hr : (execOp (evV f) o).run P w = .ok (.value (.string ⟨l.toArray⟩)) w := by
    simp only [execOp, ho, g1, Sem.run_bind, hrun, Result.andThen_ok, Sem.run_pure]
  rw [hr]
  exact .value _ s _ w ι fp hI (by simp only [LRel]) ⟨rfl, rfl⟩
end
theorem one_byte10 : ∀ x : Nat, x < 10 → Lib.byteCells [UInt8.ofNat (48 + x)] = [Value.int .u8 (IntKind.u8.wrap (48 + (x : Int)))] := by
  have h : ∀ x : Nat, x < 10 → ((UInt8.ofNat (48 + x)).toNat : Int) = IntKind.u8.wrap (48 + (x : Int)) := by decide +kernel
  intro x hx
  simp only [Lib.byteCells, List.map_cons, List.map_nil, h x hx]
theorem l01Dec1_spec (x : Nat) (hx : x < 10) : Spec Tryd.prog 49 [.v (.int .i64 x)] (.v (.string (strB (Lib.decDigits x)))) [] := by
  rw [dec_small hx]
  refine Spec.of_code T_ok Tryd.func49 rfl Tryd.ntmps49 Tryd.call49 (Nat.le_of_ble_eq_true rfl) rfl rfl (CodeV_sound T_ok (by kernel_rfl) rfl ?_)
  simp only [Tryd.results49, go_sem, Nat.reduceMul, Nat.reduceLeDiff, Nat.reduceLT, reduceIte, reduceCtorEq, Nat.reduceEqDiff, Nat.reduceSub, Nat.reduceAdd]
  refine ⟨fun h => absurd h (by omega), fun _ => ⟨fun _ => ?_, fun h => absurd h (by omega)⟩⟩
  refine ⟨by unfold InR; omega, ?_⟩
  refine HereO.buildRow T_ok 128 [Value.int .u8 (IntKind.u8.wrap (48 + (x : Int)))] rfl rfl rfl (by decide) rfl (by simp only [go_sem, Nat.reduceMul, Nat.reduceLeDiff, Nat.reduceLT, reduceIte, reduceCtorEq, Nat.reduceEqDiff, Nat.reduceSub, Nat.reduceAdd] <;> rfl) rfl (by decide) ?_
  simp only [Tryd.results49, go_sem, Nat.reduceMul, Nat.reduceLeDiff, Nat.reduceLT, reduceIte, reduceCtorEq, Nat.reduceEqDiff, Nat.reduceSub, Nat.reduceAdd]
  rw [← one_byte10 x hx]
  refine HereO.opP T_ok (OpP.bytesStr (l := [UInt8.ofNat (48 + x)]) Tryd.underlying87 Tryd.underlying5 Tryd.underlying9 rfl (by simp only [go_sem, Nat.reduceMul, Nat.reduceLeDiff, Nat.reduceLT, reduceIte, reduceCtorEq, Nat.reduceEqDiff, Nat.reduceSub, Nat.reduceAdd] <;> rfl) (by simp only [go_sem, Nat.reduceMul, Nat.reduceLeDiff, Nat.reduceLT, reduceIte, reduceCtorEq, Nat.reduceEqDiff, Nat.reduceSub, Nat.reduceAdd] <;> rfl) (by simp)) ?_
  simp only [Tryd.results49, go_sem, Nat.reduceMul, Nat.reduceLeDiff, Nat.reduceLT, reduceIte, reduceCtorEq, Nat.reduceEqDiff, Nat.reduceSub, Nat.reduceAdd]
  rfl
theorem l01DecN_spec (x : Nat) (hx : x < 100) : Spec Tryd.prog 49 [.v (.int .i64 x)] (.v (.string (strB (Lib.decDigits x)))) [] := by
  by_cases h1 : x < 10
  · exact l01Dec1_spec x h1
  rw [dec_big h1]
  have hl := dec_len (x / 10) (by omega)
  have e1 : (x : Int).tdiv 10 = ((x / 10 : Nat) : Int) := rfl
  have e2 : (x : Int).tmod 10 = ((x % 10 : Nat) : Int) := rfl
  have hm : x % 10 < 10 := Nat.mod_lt _ (by omega)
  refine Spec.of_code T_ok Tryd.func49 rfl Tryd.ntmps49 Tryd.call49 (Nat.le_of_ble_eq_true rfl) rfl rfl (CodeV_sound T_ok (by kernel_rfl) rfl ?_)
  simp only [Tryd.results49, go_sem, Nat.reduceMul, Nat.reduceLeDiff, Nat.reduceLT, reduceIte, reduceCtorEq, Nat.reduceEqDiff, Nat.reduceSub, Nat.reduceAdd]
  refine ⟨fun h => absurd h (by omega), fun _ => ⟨fun h => absurd h (by omega), fun _ => ?_⟩⟩
  refine Here.draw T_ok mixed_ok (by kernel_rfl) ?_
  simp only [Tryd.results49, go_sem, Nat.reduceMul, Nat.reduceLeDiff, Nat.reduceLT, reduceIte, reduceCtorEq, Nat.reduceEqDiff, Nat.reduceSub, Nat.reduceAdd]
  rw [e1]
  refine ⟨⟨by omega, by unfold InR; omega⟩, ?_⟩
  refine ⟨_, OpP.call' rfl rfl (l01Dec1_spec (x / 10) (by omega)) (by simp only [go_sem, Nat.reduceMul, Nat.reduceLeDiff, Nat.reduceLT, reduceIte, reduceCtorEq, Nat.reduceEqDiff, Nat.reduceSub, Nat.reduceAdd, List.toList_toArray] <;> first | rfl | exact ⟨rfl, rfl⟩) rfl, ?_⟩
  simp only [Tryd.results49, go_sem, Nat.reduceMul, Nat.reduceLeDiff, Nat.reduceLT, reduceIte, reduceCtorEq, Nat.reduceEqDiff, Nat.reduceSub, Nat.reduceAdd]
  rw [e2]
  refine ⟨by omega, by unfold InR; omega, ?_⟩
  refine ⟨_, OpP.buildRd T_ok [Value.int .u8 (IntKind.u8.wrap (48 + ((x % 10 : Nat) : Int)))] rfl rfl rfl (by decide) rfl (by simp only [go_sem, Nat.reduceMul, Nat.reduceLeDiff, Nat.reduceLT, reduceIte, reduceCtorEq, Nat.reduceEqDiff, Nat.reduceSub, Nat.reduceAdd] <;> rfl) rfl, ?_⟩
  simp only [Tryd.results49, go_sem, Nat.reduceMul, Nat.reduceLeDiff, Nat.reduceLT, reduceIte, reduceCtorEq, Nat.reduceEqDiff, Nat.reduceSub, Nat.reduceAdd]
  rw [← one_byte10 (x % 10) hm]
  refine ⟨_, OpP.bytesStrR (l := [UInt8.ofNat (48 + x % 10)]) Tryd.underlying87 Tryd.underlying5 Tryd.underlying9 rfl (by simp only [go_sem, Nat.reduceMul, Nat.reduceLeDiff, Nat.reduceLT, reduceIte, reduceCtorEq, Nat.reduceEqDiff, Nat.reduceSub, Nat.reduceAdd] <;> rfl) (by simp), ?_⟩
  simp only [Tryd.results49, go_sem, Nat.reduceMul, Nat.reduceLeDiff, Nat.reduceLT, reduceIte, reduceCtorEq, Nat.reduceEqDiff, Nat.reduceSub, Nat.reduceAdd]
  have e5 : (⟨List.toArray [UInt8.ofNat (48 + x % 10)]⟩ : ByteArray) = strB [UInt8.ofNat (48 + x % 10)] := rfl
  rw [e5, strB_app, strB_size]
  exact ⟨by omega, rfl⟩
theorem l01DecNeg_spec (x : Int) (n : Nat) (hn : 0 - x = n) (hx : x < 0) (hn100 : n < 100) : Spec Tryd.prog 49 [.v (.int .i64 x)] (.v (.string (strB (45 :: Lib.decDigits n)))) [] := by
  have hl := dec_len n hn100
  refine Spec.of_code T_ok Tryd.func49 rfl Tryd.ntmps49 Tryd.call49 (Nat.le_of_ble_eq_true rfl) rfl rfl (CodeV_sound T_ok (by kernel_rfl) rfl ?_)
  simp only [Tryd.results49, go_sem, Nat.reduceMul, Nat.reduceLeDiff, Nat.reduceLT, reduceIte, reduceCtorEq, Nat.reduceEqDiff, Nat.reduceSub, Nat.reduceAdd]
  refine ⟨fun _ => ⟨by unfold InR; omega, ?_⟩, fun h => absurd h (by omega)⟩
  rw [hn]
  refine HereO.call T_ok rfl rfl (l01DecN_spec n hn100) (by simp only [go_sem, Nat.reduceMul, Nat.reduceLeDiff, Nat.reduceLT, reduceIte, reduceCtorEq, Nat.reduceEqDiff, Nat.reduceSub, Nat.reduceAdd, List.toList_toArray] <;> first | rfl | exact ⟨rfl, rfl⟩) rfl ?_
  simp only [Tryd.results49, go_sem, Nat.reduceMul, Nat.reduceLeDiff, Nat.reduceLT, reduceIte, reduceCtorEq, Nat.reduceEqDiff, Nat.reduceSub, Nat.reduceAdd]
  have e2 : (⟨#[45]⟩ : ByteArray) = strB [45] := rfl
  rw [e2, strB_app, strB_size]
  exact ⟨by omega, rfl⟩
theorem l01Dec_any (x : Int) (hx : -100 < x ∧ x < 100) : Spec Tryd.prog 49 [.v (.int .i64 x)] (.v (.string (strB (Lib.itoa x)))) [] := by
  by_cases h0 : 0 ≤ x
  · obtain ⟨n, rfl⟩ := Int.eq_ofNat_of_zero_le h0
    rw [itoa_nat]
    exact l01DecN_spec n (by omega)
  · obtain ⟨n, hn⟩ : ∃ n : Nat, 0 - x = n := ⟨(-x).toNat, by omega⟩
    have e : Lib.itoa x = 45 :: Lib.decDigits n := by
      unfold Lib.itoa
      rw [if_pos (by omega), show x.natAbs = n by omega]
    rw [e]
    exact l01DecNeg_spec x n hn (by omega) (by omega)
/-! ### The program's -/
theorem decimal_spec (x : Int) (hx : 0 ≤ x ∧ x < 100) : Spec Tryd.prog 51 [.v (.int .i64 x)] (.v (.string (strB (Lib.itoa x)))) [] := by
  obtain ⟨n, rfl⟩ := Int.eq_ofNat_of_zero_le hx.1
  rw [itoa_nat]
  refine Spec.of_code T_ok Tryd.func51 rfl Tryd.ntmps51 Tryd.call51 (Nat.le_of_ble_eq_true rfl) rfl rfl (CodeV_sound T_ok (by kernel_rfl) rfl ?_)
  simp only [Tryd.results51, go_sem, Nat.reduceMul, Nat.reduceLeDiff, Nat.reduceLT, reduceIte, reduceCtorEq, Nat.reduceEqDiff, Nat.reduceSub, Nat.reduceAdd]
  refine HereO.call T_ok rfl rfl (formatS_spec n (by omega)) (by simp only [go_sem, Nat.reduceMul, Nat.reduceLeDiff, Nat.reduceLT, reduceIte, reduceCtorEq, Nat.reduceEqDiff, Nat.reduceSub, Nat.reduceAdd, List.toList_toArray] <;> first | rfl | exact ⟨rfl, rfl⟩) rfl ?_
  simp only [Tryd.results51, go_sem, Nat.reduceMul, Nat.reduceLeDiff, Nat.reduceLT, reduceIte, reduceCtorEq, Nat.reduceEqDiff, Nat.reduceSub, Nat.reduceAdd]
/-- Texts of numbers. -/
def decs (u : List Int) : List (List UInt8) := u.map Lib.itoa
theorem decs_step {u : List Int} {i : Nat} (h : i < u.length) : decs (u.take (i + 1)) = decs (u.take i) ++ [Lib.itoa (u.getD i 0)] := by
  rw [List.take_succ_eq_append_getElem h]
  simp only [decs, List.map_append, List.map_cons, List.map_nil, List.getD_eq_getElem?_getD, List.getElem?_eq_getElem h, Option.getD_some]
theorem decs_join : ∀ u : List Int, (∀ x ∈ u, -100 < x ∧ x < 100) → (Lib.join (decs u) [44]).length ≤ 4 * u.length := by
  intro u h
  have ht : ∀ s : List Int, (∀ x ∈ s, -100 < x ∧ x < 100) → (Lib.joinTail [44] (decs s)).length ≤ 4 * s.length := by
    intro s
    induction s with
    | nil => intro _; simp [Lib.joinTail, decs]
    | cons r s ih =>
      intro h
      have h1 := h r (List.mem_cons_self ..)
      have h2 := ih fun r hr => h r (List.mem_cons_of_mem _ hr)
      have h3 := itoa_len r h1
      unfold Lib.joinTail decs at h2 ⊢
      simp only [List.map_cons, List.flatten_cons, List.length_append, List.length_cons, List.length_nil] at h2 ⊢
      omega
  cases u with
  | nil => simp [Lib.join, decs]
  | cons r s =>
    have h1 := h r (List.mem_cons_self ..)
    have h2 := ht s fun r hr => h r (List.mem_cons_of_mem _ hr)
    have h3 := itoa_len r h1
    show (Lib.join (Lib.itoa r :: decs s) [44]).length ≤ _
    rw [Lib.join_cons, List.length_append]
    simp only [List.length_cons]
    omega
theorem numbersText_spec (u : List Int) (hu : ∀ x ∈ u, 0 ≤ x ∧ x < 100) (h1 : 1 ≤ u.length) (h8 : u.length ≤ 8) : Spec Tryd.prog 52 [.rd (I u)] (.v (.string (strB (Lib.join (decs u) [44])))) [] := by
  refine Spec.of_code T_ok Tryd.func52 rfl Tryd.ntmps52 Tryd.call52 (Nat.le_of_ble_eq_true rfl) rfl rfl (CodeV_sound T_ok (by kernel_rfl) rfl ?_)
  simp only [Tryd.results52, go_sem, Nat.reduceMul, Nat.reduceLeDiff, Nat.reduceLT, reduceIte, reduceCtorEq, Nat.reduceEqDiff, Nat.reduceSub, Nat.reduceAdd]
  refine HereO.buildRow T_ok 103 (SS []) rfl rfl rfl (by decide) rfl (by first | rfl | (simp only [go_sem, Nat.reduceMul, Nat.reduceLeDiff, Nat.reduceLT, reduceIte, reduceCtorEq, Nat.reduceEqDiff, Nat.reduceSub, Nat.reduceAdd] <;> rfl)) rfl (by decide) ?_
  simp only [Tryd.results52, go_sem, Nat.reduceMul, Nat.reduceLeDiff, Nat.reduceLT, reduceIte, reduceCtorEq, Nat.reduceEqDiff, Nat.reduceSub, Nat.reduceAdd]
  refine Here.loopV T_ok (κ := Nat) (fun a => a ≤ u.length) (fun a => u.length - a) (fun a => [(3, .own 103), (7, .rd (I u)), (8, .v (.int .i64 u.length)), (9, .v (.int .i64 a))]) (fun a => [(103, .row 9 (SS ((decs (u.take a)).map strB)))]) 0 (by simp) (by simp only [Tryd.results52, go_sem, Nat.reduceMul, Nat.reduceLeDiff, Nat.reduceLT, reduceIte, reduceCtorEq, Nat.reduceEqDiff, Nat.reduceSub, Nat.reduceAdd]; simp) (by simp only [Tryd.results52, go_sem, Nat.reduceMul, Nat.reduceLeDiff, Nat.reduceLT, reduceIte, reduceCtorEq, Nat.reduceEqDiff, Nat.reduceSub, Nat.reduceAdd]; simp [decs]) ?_
  intro a ha
  simp only [Tryd.results52, go_sem, Nat.reduceMul, Nat.reduceLeDiff, Nat.reduceLT, reduceIte, reduceCtorEq, Nat.reduceEqDiff, Nat.reduceSub, Nat.reduceAdd]
  refine ⟨fun h4 => ?_, fun h4 => ?_⟩
  · have hx := hu (u.getD a 0) (by rw [List.getD_eq_getElem?_getD, List.getElem?_eq_getElem (by omega), Option.getD_some]; exact List.getElem_mem _)
    obtain ⟨X, hX⟩ : ∃ X, X = (decs (u.take a)).map strB := ⟨_, rfl⟩
    have hXl : X.length = a := by rw [hX]; simp [decs]; omega
    rw [← hX]
    refine ⟨⟨by omega, by omega⟩, ?_⟩
    refine HereO.call T_ok rfl rfl (decimal_spec (u.getD a 0) hx) (by simp only [go_sem, Nat.reduceMul, Nat.reduceLeDiff, Nat.reduceLT, reduceIte, reduceCtorEq, Nat.reduceEqDiff, Nat.reduceSub, Nat.reduceAdd, List.toList_toArray] <;> first | rfl | exact ⟨rfl, rfl⟩) rfl ?_
    simp only [Tryd.results52, go_sem, Nat.reduceMul, Nat.reduceLeDiff, Nat.reduceLT, reduceIte, reduceCtorEq, Nat.reduceEqDiff, Nat.reduceSub, Nat.reduceAdd]
    refine HereO.buildRow T_ok 116 (SS [strB (Lib.itoa (u.getD a 0))]) rfl rfl rfl (by decide) rfl (by first | rfl | (simp only [go_sem, Nat.reduceMul, Nat.reduceLeDiff, Nat.reduceLT, reduceIte, reduceCtorEq, Nat.reduceEqDiff, Nat.reduceSub, Nat.reduceAdd] <;> rfl)) rfl (by decide) ?_
    simp only [Tryd.results52, go_sem, Nat.reduceMul, Nat.reduceLeDiff, Nat.reduceLT, reduceIte, reduceCtorEq, Nat.reduceEqDiff, Nat.reduceSub, Nat.reduceAdd]
    refine HereO.append T_ok (SS [strB (Lib.itoa (u.getD a 0))]) rfl rfl (by decide) (by simp only [go_sem, Nat.reduceMul, Nat.reduceLeDiff, Nat.reduceLT, reduceIte, reduceCtorEq, Nat.reduceEqDiff, Nat.reduceSub, Nat.reduceAdd] <;> rfl) (by decide) (by simp only [go_sem, Nat.reduceMul, Nat.reduceLeDiff, Nat.reduceLT, reduceIte, reduceCtorEq, Nat.reduceEqDiff, Nat.reduceSub, Nat.reduceAdd] <;> rfl) (by simp only [go_sem, Nat.reduceMul, Nat.reduceLeDiff, Nat.reduceLT, reduceIte, reduceCtorEq, Nat.reduceEqDiff, Nat.reduceSub, Nat.reduceAdd] <;> rfl) (.own 116 _ _ (by decide) (by simp only [go_sem, Nat.reduceMul, Nat.reduceLeDiff, Nat.reduceLT, reduceIte, reduceCtorEq, Nat.reduceEqDiff, Nat.reduceSub, Nat.reduceAdd] <;> rfl)) (SS_one _) (by simp only [SS_len, List.length_append, List.length_map, List.length_cons, List.length_nil]; omega) ?_
    simp only [Tryd.results52, go_sem, Nat.reduceMul, Nat.reduceLeDiff, Nat.reduceLT, reduceIte, reduceCtorEq, Nat.reduceEqDiff, Nat.reduceSub, Nat.reduceAdd]
    refine ⟨by unfold InR; omega, a + 1, by omega, by omega, by push_cast; rfl, ?_⟩
    rw [SS_app, decs_step (by omega), List.map_append, ← hX]
    rfl
  · obtain rfl : a = u.length := by omega
    rw [List.take_length]
    have hmap : ((decs u).map strB).map (·.data.toList) = decs u := by
      rw [List.map_map]
      conv => rhs; rw [← List.map_id (decs u)]
      refine List.map_congr_left fun r _ => ?_
      simp [strB]
    have hj := decs_join u fun x hx => by have := hu x hx; omega
    have hc := joinS_spec ((decs u).map strB) ⟨#[44]⟩ (by simp [decs]; omega) (by simp [decs]; omega) (by rw [hmap]; show (Lib.join (decs u) [44]).length ≤ _; omega)
    rw [hmap] at hc
    refine HereO.callM T_ok 21 [103] rfl rfl (hc) (by simp only [go_sem, Nat.reduceMul, Nat.reduceLeDiff, Nat.reduceLT, reduceIte, reduceCtorEq, Nat.reduceEqDiff, Nat.reduceSub, Nat.reduceAdd, List.toList_toArray, ↓reduceIte]) rfl (by decide) (by decide) rfl rfl rfl (Nat.le_of_ble_eq_true rfl) ?_
    simp only [Tryd.results52, go_sem, Nat.reduceMul, Nat.reduceLeDiff, Nat.reduceLT, reduceIte, reduceCtorEq, Nat.reduceEqDiff, Nat.reduceSub, Nat.reduceAdd]
    rfl
theorem moduleText_spec (t : List (List Int)) (m : Int) (u : List Int) (hg : Grp t) (hm : Mod t m u) : Spec Tryd.prog 35 [.agg [.v (.int .i64 m), .rd (I u)]] (.v (.string (strB (txtM m u)))) [] := by
  have h1 := hg.1
  have h8 := hg.2.1
  have hml := hm.2.1
  have hm12 := hm.1
  have hu : ∀ x ∈ u, 0 ≤ x ∧ x < 100 := fun x hx => by have := hm.unit_mem x hx; omega
  have hj := decs_join u fun x hx => by have := hu x hx; omega
  have hk := itoa_len m (by omega)
  refine Spec.of_code T_ok Tryd.func35 rfl Tryd.ntmps35 Tryd.call35 (Nat.le_of_ble_eq_true rfl) rfl rfl (CodeV_sound T_ok (by kernel_rfl) rfl ?_)
  simp only [Tryd.results35, go_sem, Nat.reduceMul, Nat.reduceLeDiff, Nat.reduceLT, reduceIte, reduceCtorEq, Nat.reduceEqDiff, Nat.reduceSub, Nat.reduceAdd]
  refine Here.draw T_ok mixed_ok (by kernel_rfl) ?_
  simp only [Tryd.results35, go_sem, Nat.reduceMul, Nat.reduceLeDiff, Nat.reduceLT, reduceIte, reduceCtorEq, Nat.reduceEqDiff, Nat.reduceSub, Nat.reduceAdd]
  refine ⟨_, OpP.call' rfl rfl (decimal_spec m (by omega)) (by simp only [go_sem, Nat.reduceMul, Nat.reduceLeDiff, Nat.reduceLT, reduceIte, reduceCtorEq, Nat.reduceEqDiff, Nat.reduceSub, Nat.reduceAdd, List.toList_toArray] <;> first | rfl | exact ⟨rfl, rfl⟩) rfl, ?_⟩
  simp only [Tryd.results35, go_sem, Nat.reduceMul, Nat.reduceLeDiff, Nat.reduceLT, reduceIte, reduceCtorEq, Nat.reduceEqDiff, Nat.reduceSub, Nat.reduceAdd]
  refine ⟨by rw [strB_size]; omega, ?_⟩
  refine ⟨_, OpP.call' rfl rfl (numbersText_spec u hu (by omega) (by omega)) (by simp only [go_sem, Nat.reduceMul, Nat.reduceLeDiff, Nat.reduceLT, reduceIte, reduceCtorEq, Nat.reduceEqDiff, Nat.reduceSub, Nat.reduceAdd, List.toList_toArray] <;> first | rfl | exact ⟨rfl, rfl⟩) rfl, ?_⟩
  simp only [Tryd.results35, go_sem, Nat.reduceMul, Nat.reduceLeDiff, Nat.reduceLT, reduceIte, reduceCtorEq, Nat.reduceEqDiff, Nat.reduceSub, Nat.reduceAdd]
  have e2 : (⟨#[58]⟩ : ByteArray) = strB [58] := rfl
  rw [e2, strB_app, strB_app, strB_size, strB_size]
  exact ⟨by omega, rfl⟩
/-! ### The reference's -/
def preM (m : Int) (u : List Int) (i : Nat) : List UInt8 := Lib.itoa m ++ [58] ++ Lib.join (decs (u.take i)) [44]
theorem preM_step {m : Int} {u : List Int} {i : Nat} (h : i < u.length) : preM m u (i + 1) = (if i = 0 then preM m u i else preM m u i ++ [44]) ++ Lib.itoa (u.getD i 0) := by
  unfold preM
  rw [decs_step h, join_snoc]
  by_cases e : i = 0
  · subst e
    simp [decs, Lib.join]
  · have hne : decs (u.take i) ≠ [] := fun q => by
      have := congrArg List.length q
      simp only [decs, List.length_map, List.length_take, List.length_nil] at this
      omega
    rw [if_neg hne, if_neg e]
    simp
theorem l02Text_spec (m : Int) (u : List Int) (hm : -100 < m ∧ m < 100) (hu : ∀ x ∈ u, -100 < x ∧ x < 100) (hl : u.length ≤ 1000) : Spec Tryd.prog 31 [.agg [.v (.int .i64 m), .rd (I u)]] (.v (.string (strB (txtM m u)))) [] := by
  have hpl : ∀ i, i ≤ u.length → (preM m u i).length ≤ 4040 := fun i hi => by
    have := decs_join (u.take i) fun x hx => hu x (List.mem_of_mem_take hx)
    rw [List.length_take] at this
    have := itoa_len m hm
    simp only [preM, List.length_append, List.length_cons, List.length_nil]
    omega
  refine Spec.of_code T_ok Tryd.func31 rfl Tryd.ntmps31 Tryd.call31 (Nat.le_of_ble_eq_true rfl) rfl rfl (CodeV_sound T_ok (by kernel_rfl) rfl ?_)
  simp only [Tryd.results31, go_sem, Nat.reduceMul, Nat.reduceLeDiff, Nat.reduceLT, reduceIte, reduceCtorEq, Nat.reduceEqDiff, Nat.reduceSub, Nat.reduceAdd]
  refine HereO.call T_ok rfl rfl (l01Dec_any m hm) (by simp only [go_sem, Nat.reduceMul, Nat.reduceLeDiff, Nat.reduceLT, reduceIte, reduceCtorEq, Nat.reduceEqDiff, Nat.reduceSub, Nat.reduceAdd, List.toList_toArray] <;> first | rfl | exact ⟨rfl, rfl⟩) rfl ?_
  simp only [Tryd.results31, go_sem, Nat.reduceMul, Nat.reduceLeDiff, Nat.reduceLT, reduceIte, reduceCtorEq, Nat.reduceEqDiff, Nat.reduceSub, Nat.reduceAdd]
  have e2 : (⟨#[58]⟩ : ByteArray) = strB [58] := rfl
  have hk := itoa_len m hm
  rw [e2, strB_app, strB_size]
  refine ⟨by first | omega | (simp only [List.length_cons, List.length_nil]; omega), ?_⟩
  have e0 : Lib.itoa m ++ [58] = preM m u 0 := by simp [preM, decs, Lib.join]
  rw [e0]
  refine Here.loopV T_ok (κ := Nat) (fun a => a ≤ u.length) (fun a => u.length - a) (fun a => [(1, .box [.v (.int .i64 m), .rd (I u)]), (3, .v (.string (strB (preM m u a)))), (4, .v (.int .i64 a))]) (fun _ => []) 0 (by simp) (by simp only [Tryd.results31, go_sem, Nat.reduceMul, Nat.reduceLeDiff, Nat.reduceLT, reduceIte, reduceCtorEq, Nat.reduceEqDiff, Nat.reduceSub, Nat.reduceAdd]; simp) trivial ?_
  intro a ha
  have hpa := hpl a ha
  simp only [Tryd.results31, go_sem, Nat.reduceMul, Nat.reduceLeDiff, Nat.reduceLT, reduceIte, reduceCtorEq, Nat.reduceEqDiff, Nat.reduceSub, Nat.reduceAdd]
  refine ⟨fun h4 => ?_, fun h4 => ?_⟩
  · have hx := hu (u.getD a 0) (by rw [List.getD_eq_getElem?_getD, List.getElem?_eq_getElem (by omega), Option.getD_some]; exact List.getElem_mem _)
    have hst := preM_step (m := m) (u := u) (i := a) (by omega)
    have hpb := hpl (a + 1) (by omega)
    have e44 : (⟨#[44]⟩ : ByteArray) = strB [44] := rfl
    refine ⟨fun h5 => ?_, fun h5 => ?_⟩
    · rw [if_neg (by omega)] at hst
      rw [e44, strB_app, strB_size]
      refine ⟨by first | omega | (simp only [List.length_cons, List.length_nil]; omega), ⟨by omega, by omega⟩, ?_⟩
      refine HereO.call T_ok rfl rfl (l01Dec_any (u.getD a 0) hx) (by simp only [go_sem, Nat.reduceMul, Nat.reduceLeDiff, Nat.reduceLT, reduceIte, reduceCtorEq, Nat.reduceEqDiff, Nat.reduceSub, Nat.reduceAdd, List.toList_toArray] <;> first | rfl | exact ⟨rfl, rfl⟩) rfl ?_
      simp only [Tryd.results31, go_sem, Nat.reduceMul, Nat.reduceLeDiff, Nat.reduceLT, reduceIte, reduceCtorEq, Nat.reduceEqDiff, Nat.reduceSub, Nat.reduceAdd]
      rw [strB_app, ← hst]
      have hlen := congrArg List.length hst
      rw [strB_size, strB_size, ← List.length_append, ← hst]
      exact ⟨by omega, by unfold InR; omega, a + 1, by omega, by omega, rfl, by push_cast; rfl⟩
    · rw [if_pos (by omega)] at hst
      refine ⟨⟨by omega, by omega⟩, ?_⟩
      refine HereO.call T_ok rfl rfl (l01Dec_any (u.getD a 0) hx) (by simp only [go_sem, Nat.reduceMul, Nat.reduceLeDiff, Nat.reduceLT, reduceIte, reduceCtorEq, Nat.reduceEqDiff, Nat.reduceSub, Nat.reduceAdd, List.toList_toArray] <;> first | rfl | exact ⟨rfl, rfl⟩) rfl ?_
      simp only [Tryd.results31, go_sem, Nat.reduceMul, Nat.reduceLeDiff, Nat.reduceLT, reduceIte, reduceCtorEq, Nat.reduceEqDiff, Nat.reduceSub, Nat.reduceAdd]
      rw [strB_app, ← hst]
      rw [strB_size, strB_size, ← List.length_append, ← hst]
      exact ⟨by omega, by unfold InR; omega, a + 1, by omega, by omega, rfl, by push_cast; rfl⟩
  · obtain rfl : a = u.length := by omega
    unfold preM txtM decs
    rw [List.take_length]
/-- What ModuleText answers. -/
def mtR (t : List (List Int)) (m : Int) (l : List Int) : ByteArray := if codeM t [(m, l)] = 0 then strB (txtM m l) else ⟨#[]⟩
theorem implModuleText (t : List (List Int)) (m : Int) (l : List Int) : Spec Tryd.prog 16 [.agg [.rds (II t)], .agg [.v (.int .i64 m), .rd (I l)]] (.tup [.v (.string (mtR t m l)), .v (.int .i64 (codeM t [(m, l)]))]) [] := by
  unfold mtR
  refine Spec.of_code T_ok Tryd.func16 rfl Tryd.ntmps16 Tryd.call16 (Nat.le_of_ble_eq_true rfl) rfl rfl (CodeV_sound T_ok (by kernel_rfl) rfl ?_)
  simp only [Tryd.results16, go_sem, Nat.reduceMul, Nat.reduceLeDiff, Nat.reduceLT, reduceIte, reduceCtorEq, Nat.reduceEqDiff, Nat.reduceSub, Nat.reduceAdd]
  refine HereO.opP T_ok (OpP.buildA sl2_70 (MM [(m, l)]) rfl rfl (by decide) (by decide) rfl rfl) ?_
  simp only [Tryd.results16, go_sem, Nat.reduceMul, Nat.reduceLeDiff, Nat.reduceLT, reduceIte, reduceCtorEq, Nat.reduceEqDiff, Nat.reduceSub, Nat.reduceAdd]
  refine HereO.call T_ok rfl rfl (moduleCode_spec t [(m, l)] (by simp) (by simp)) (by simp only [go_sem, Nat.reduceMul, Nat.reduceLeDiff, Nat.reduceLT, reduceIte, reduceCtorEq, Nat.reduceEqDiff, Nat.reduceSub, Nat.reduceAdd, List.toList_toArray] <;> first | rfl | exact ⟨rfl, rfl⟩) rfl ?_
  simp only [Tryd.results16, go_sem, Nat.reduceMul, Nat.reduceLeDiff, Nat.reduceLT, reduceIte, reduceCtorEq, Nat.reduceEqDiff, Nat.reduceSub, Nat.reduceAdd]
  refine ⟨fun h => ?_, fun h => ?_⟩
  · rw [if_neg h]
  · obtain ⟨hg, hm⟩ := codeM1_ok h
    rw [if_pos h, h]
    refine HereO.call T_ok rfl rfl (moduleText_spec t m l hg hm) (by simp only [go_sem, Nat.reduceMul, Nat.reduceLeDiff, Nat.reduceLT, reduceIte, reduceCtorEq, Nat.reduceEqDiff, Nat.reduceSub, Nat.reduceAdd, List.toList_toArray] <;> first | rfl | exact ⟨rfl, rfl⟩) rfl ?_
    simp only [Tryd.results16, go_sem, Nat.reduceMul, Nat.reduceLeDiff, Nat.reduceLT, reduceIte, reduceCtorEq, Nat.reduceEqDiff, Nat.reduceSub, Nat.reduceAdd]
theorem specModuleText (t : List (List Int)) (m : Int) (l : List Int) : Spec Tryd.prog 13 [.agg [.rds (II t)], .agg [.v (.int .i64 m), .rd (I l)]] (.tup [.v (.string (mtR t m l)), .v (.int .i64 (codeM t [(m, l)]))]) [] := by
  unfold mtR
  refine Spec.of_code T_ok Tryd.func13 rfl Tryd.ntmps13 Tryd.call13 (Nat.le_of_ble_eq_true rfl) rfl rfl (CodeV_sound T_ok (by kernel_rfl) rfl ?_)
  simp only [Tryd.results13, go_sem, Nat.reduceMul, Nat.reduceLeDiff, Nat.reduceLT, reduceIte, reduceCtorEq, Nat.reduceEqDiff, Nat.reduceSub, Nat.reduceAdd]
  refine HereO.opP T_ok (OpP.buildA sl2_70 (MM [(m, l)]) rfl rfl (by decide) (by decide) rfl rfl) ?_
  simp only [Tryd.results13, go_sem, Nat.reduceMul, Nat.reduceLeDiff, Nat.reduceLT, reduceIte, reduceCtorEq, Nat.reduceEqDiff, Nat.reduceSub, Nat.reduceAdd]
  refine HereO.call T_ok rfl rfl (l02Code_spec t [(m, l)] (by simp)) (by simp only [go_sem, Nat.reduceMul, Nat.reduceLeDiff, Nat.reduceLT, reduceIte, reduceCtorEq, Nat.reduceEqDiff, Nat.reduceSub, Nat.reduceAdd, List.toList_toArray] <;> first | rfl | exact ⟨rfl, rfl⟩) rfl ?_
  simp only [Tryd.results13, go_sem, Nat.reduceMul, Nat.reduceLeDiff, Nat.reduceLT, reduceIte, reduceCtorEq, Nat.reduceEqDiff, Nat.reduceSub, Nat.reduceAdd]
  refine ⟨fun h => ?_, fun h => ?_⟩
  · rw [if_neg h]
  · obtain ⟨hg, hm⟩ := codeM1_ok h
    have h8 := hg.2.1
    have hml := hm.2.1
    have hm12 := hm.1
    rw [if_pos h, h]
    refine HereO.call T_ok rfl rfl (l02Text_spec m l (by omega) (fun x hx => by have := hm.unit_mem x hx; omega) (by omega)) (by simp only [go_sem, Nat.reduceMul, Nat.reduceLeDiff, Nat.reduceLT, reduceIte, reduceCtorEq, Nat.reduceEqDiff, Nat.reduceSub, Nat.reduceAdd, List.toList_toArray] <;> first | rfl | exact ⟨rfl, rfl⟩) rfl ?_
    simp only [Tryd.results13, go_sem, Nat.reduceMul, Nat.reduceLeDiff, Nat.reduceLT, reduceIte, reduceCtorEq, Nat.reduceEqDiff, Nat.reduceSub, Nat.reduceAdd]
end Go.Proofs.YtkdiodegilidgaaDoor
