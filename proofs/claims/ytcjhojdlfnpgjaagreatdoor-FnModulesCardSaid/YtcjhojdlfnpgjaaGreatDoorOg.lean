/- Contracts: the draws of the law of modules. -/
import Derived.Test.YtcjhojdlfnpgjaaGreatDoorOc
import Derived.Test.YtcjhojdlfnpgjaaGreatDoorBe
import Derived.Test.YtcjhojdlfnpgjaaGreatDoorBh
import Derived.Test.YtcjhojdlfnpgjaaGreatDoorNc
namespace Go.Proofs.YtcjhojdlfnpgjaaGreatDoor
open Go.RowKit
set_option linter.unusedVariables false
set_option linter.unusedSimpArgs false
set_option maxRecDepth 100000

section
variable {P : Program}
theorem OpP.min2 {o : Oper} {ρ : Operand → LV} {σ : Nat → Option OC} {a b : Operand} {ts : Array TypeId} {k : IntKind} {x y : Int} (ho : o.op = .call { callee := .builtin .min, args := #[a, b], argTypes := ts }) (ha : ρ a = .v (.int k x)) (hb : ρ b = .v (.int k y)) :
    OpP P o ρ σ (.v (.int k (if y < x then y else x))) := by
  intro w0 w ι fp s f hI hσ hx
  have h1 := hI.ev a
  have h2 := hI.ev b
  rw [hx a (by simp [ho, Op.operands, Call.operands]), ha] at h1
  rw [hx b (by simp [ho, Op.operands, Call.operands]), hb] at h2
  simp only [LRel] at h1 h2
  have hr : (execOp (evV f) o).run P w = .ok (.value (.int k (if y < x then y else x))) w := by
    simp only [execOp, ho, resolve, invoke, builtin, Sem.run_bind, Sem.run_pure, Result.andThen_ok, List.map_toArray, List.map_cons, List.map_nil, h1, h2, run_min_int2]
  rw [hr]
  exact .value _ s _ w ι fp hI (by simp only [LRel]) ⟨rfl, rfl⟩
end
/-- What is drawn is small. -/
theorem mbV_small {bs : List Int} (hb : Bytes bs) {m : Int} {l : List Int} (hm : 2 ≤ m ∧ m ≤ 12) (hl : 1 ≤ l.length ∧ l.length ≤ 8) (hu : ∀ x ∈ l, -2 ≤ x ∧ x ≤ 14) {s : Int × Int} (hs : At bs s) : (-2 ≤ (mbV bs m l s).1 ∧ (mbV bs m l s).1 ≤ 14) ∧ ∀ x ∈ (mbV bs m l s).2.1, -2 ≤ x ∧ x ≤ 14 := by
  obtain ⟨h1, h2, h3⟩ := nx_ok hb 40 hs
  obtain ⟨h4, h5, h6⟩ := nx_ok hb l.length h3
  by_cases e0 : (nx bs 40 s).1 = 0
  · rw [mb0 e0]
    obtain ⟨h7, h8⟩ := pk_ok hb (l := [1, 13, m + 1, 0]) (by simp) h3
    simp only [List.mem_cons, List.not_mem_nil, or_false] at h7
    exact ⟨by dsimp only; omega, hu⟩
  by_cases e1 : (nx bs 40 s).1 = 1
  · rw [mb1 e0 e1]
    obtain ⟨h7, h8⟩ := pk_ok hb (l := [0, -1, 2, 3, m]) (by simp) h6
    simp only [List.mem_cons, List.not_mem_nil, or_false] at h7
    refine ⟨by dsimp only; omega, fun x hx => ?_⟩
    dsimp only at hx
    rcases List.mem_or_eq_of_mem_set hx with hx | hx
    · exact hu x hx
    · rw [hx]; omega
  by_cases e2 : (nx bs 40 s).1 = 2
  · rw [mb2 e0 e1 e2]
    refine ⟨by dsimp only; omega, fun x hx => ?_⟩
    dsimp only at hx
    rcases List.mem_append.1 hx with hx | hx
    · exact hu x hx
    · rw [List.mem_singleton] at hx; omega
  · rw [mb3 e0 e1 e2]
    exact ⟨by dsimp only; omega, hu⟩
theorem mdV_small {bs : List Int} (hb : Bytes bs) (t : List (List Int)) {s : Int × Int} (hs : At bs s) : (-2 ≤ (mdV bs t s).1 ∧ (mdV bs t s).1 ≤ 14) ∧ ∀ x ∈ (mdV bs t s).2.1, -2 ≤ x ∧ x ≤ 14 := by
  unfold mdV
  split
  · rename_i hg
    obtain ⟨h1, h2⟩ := pk_ok hb (l := mlist) (by decide) hs
    have hm : 2 ≤ (pk bs mlist s).1 ∧ (pk bs mlist s).1 ≤ 12 := by
      have : ∀ x ∈ mlist, 2 ≤ x ∧ x ≤ 12 := by decide
      exact this _ h1
    obtain ⟨h3, h4, _⟩ := doV_ok hb hg hm h2
    have hl := h3.2.1
    have h8 := hg.2.1
    have h01 := hg.1
    exact mbV_small hb hm (by omega) (fun x hx => by have := h3.unit_mem x hx; omega) h4
  · exact ⟨by dsimp only; omega, fun x hx => by simp at hx; omega⟩
/-- A table that is drawn, and a number. -/
def gnR (y : List (List Int) × Int) : LV := .tup [.agg [.rds (II y.1)], .v (.int .i64 y.2)]
theorem DrawModulesOf_spec (bs : List Int) (hb : Bytes bs) : SpecF Tryz.prog 5 [.rd (BY bs)] gnR (fun y => InR y.2) := by
  have h0 := src0_at bs
  obtain ⟨h1, h2⟩ := spV_ok hb h0
  obtain ⟨h3, h4⟩ := nrr_ok hb (m := 12) (by decide) h2
  refine SpecF.of_code T_ok Tryz.func5 rfl Tryz.ntmps5 Tryz.call5 (Nat.le_of_ble_eq_true rfl) (Here.conv (Conv.ghost 0 200 (by decide) rfl) (CodeV_sound T_ok (by kernel_rfl) rfl ?_))
  simp only [Tryz.results5, go_sem, Nat.reduceMul, Nat.reduceLeDiff, Nat.reduceLT, reduceIte, reduceCtorEq, Nat.reduceEqDiff, Nat.reduceSub, Nat.reduceAdd]
  refine HereO.alloc T_ok 102 rfl rfl (by decide) ?_
  simp only [Tryz.results5, go_sem, Nat.reduceMul, Nat.reduceLeDiff, Nat.reduceLT, reduceIte, reduceCtorEq, Nat.reduceEqDiff, Nat.reduceSub, Nat.reduceAdd]
  refine HereO.callM T_ok 6 [200] rfl rfl (l01From_spec bs hb) (by simp only [go_sem, Nat.reduceMul, Nat.reduceLeDiff, Nat.reduceLT, reduceIte, reduceCtorEq, Nat.reduceEqDiff, Nat.reduceSub, Nat.reduceAdd, List.toList_toArray, ↓reduceIte]) rfl (by decide) (by decide) rfl rfl rfl (Nat.le_of_ble_eq_true rfl) ?_
  simp only [Tryz.results5, go_sem, Nat.reduceMul, Nat.reduceLeDiff, Nat.reduceLT, reduceIte, reduceCtorEq, Nat.reduceEqDiff, Nat.reduceSub, Nat.reduceAdd]
  refine HereO.callM T_ok 8 [1097,200] rfl rfl (l01Spoil_spec bs hb _ h0) (by simp only [go_sem, Nat.reduceMul, Nat.reduceLeDiff, Nat.reduceLT, reduceIte, reduceCtorEq, Nat.reduceEqDiff, Nat.reduceSub, Nat.reduceAdd, List.toList_toArray, ↓reduceIte]) rfl (by decide) (by decide) rfl rfl rfl (Nat.le_of_ble_eq_true rfl) ?_
  simp only [Tryz.results5, go_sem, Nat.reduceMul, Nat.reduceLeDiff, Nat.reduceLT, reduceIte, reduceCtorEq, Nat.reduceEqDiff, Nat.reduceSub, Nat.reduceAdd]
  refine HereO.callM T_ok 10 [1097,200] rfl rfl (l01Near_spec bs hb 12 (by decide) _ h2) (by simp only [go_sem, Nat.reduceMul, Nat.reduceLeDiff, Nat.reduceLT, reduceIte, reduceCtorEq, Nat.reduceEqDiff, Nat.reduceSub, Nat.reduceAdd, List.toList_toArray, ↓reduceIte]) rfl (by decide) (by decide) rfl rfl rfl (Nat.le_of_ble_eq_true rfl) ?_
  simp only [Tryz.results5, go_sem, Nat.reduceMul, Nat.reduceLeDiff, Nat.reduceLT, reduceIte, reduceCtorEq, Nat.reduceEqDiff, Nat.reduceSub, Nat.reduceAdd]
  refine HereO.storeAgg T_ok rfl (by simp only [go_sem, Nat.reduceMul, Nat.reduceLeDiff, Nat.reduceLT, reduceIte, reduceCtorEq, Nat.reduceEqDiff, Nat.reduceSub, Nat.reduceAdd] <;> rfl) (by simp only [go_sem, Nat.reduceMul, Nat.reduceLeDiff, Nat.reduceLT, reduceIte, reduceCtorEq, Nat.reduceEqDiff, Nat.reduceSub, Nat.reduceAdd] <;> rfl) rfl (by simp only [go_sem, Nat.reduceMul, Nat.reduceLeDiff, Nat.reduceLT, reduceIte, reduceCtorEq, Nat.reduceEqDiff, Nat.reduceSub, Nat.reduceAdd] <;> rfl) (by first | rfl | (simp only [go_sem, Nat.reduceMul, Nat.reduceLeDiff, Nat.reduceLT, reduceIte, reduceCtorEq, Nat.reduceEqDiff, Nat.reduceSub, Nat.reduceAdd] <;> rfl)) rfl rfl ?_
  simp only [Tryz.results5, go_sem, Nat.reduceMul, Nat.reduceLeDiff, Nat.reduceLT, reduceIte, reduceCtorEq, Nat.reduceEqDiff, Nat.reduceSub, Nat.reduceAdd]
  refine RetF.of (res := gnR) (Q := fun y => InR y.2) ((spV bs (src0 bs)).1, (nrr bs 12 (spV bs (src0 bs)).2).1) (.tup [.agg [.own 0], .v (.int .i64 (nrr bs 12 (spV bs (src0 bs)).2).1)]) [.frz (II (spV bs (src0 bs)).1)] h3 rfl rfl rfl ?_
  refine RetC.of (RetT.one 1130 (by simp only [Tryz.results5, go_sem, Nat.reduceMul, Nat.reduceLeDiff, Nat.reduceLT, reduceIte, reduceCtorEq, Nat.reduceEqDiff, Nat.reduceSub, Nat.reduceAdd]; rfl) rfl ?_)
  (simp only [Tryz.results5, go_sem, Nat.reduceMul, Nat.reduceLeDiff, Nat.reduceLT, reduceIte, reduceCtorEq, Nat.reduceEqDiff, Nat.reduceSub, Nat.reduceAdd]) <;> rfl
theorem DrawTrivialModule_spec (bs : List Int) (hb : Bytes bs) : SpecF Tryz.prog 14 [.rd (BY bs)] gnR (fun y => InR y.2) := by
  have h0 := src0_at bs
  obtain ⟨h1, h2⟩ := spV_ok hb h0
  obtain ⟨h3, h4⟩ := nrr_ok hb (m := 12) (by decide) h2
  refine SpecF.of_code T_ok Tryz.func14 rfl Tryz.ntmps14 Tryz.call14 (Nat.le_of_ble_eq_true rfl) (Here.conv (Conv.ghost 0 200 (by decide) rfl) (CodeV_sound T_ok (by kernel_rfl) rfl ?_))
  simp only [Tryz.results14, go_sem, Nat.reduceMul, Nat.reduceLeDiff, Nat.reduceLT, reduceIte, reduceCtorEq, Nat.reduceEqDiff, Nat.reduceSub, Nat.reduceAdd]
  refine HereO.alloc T_ok 102 rfl rfl (by decide) ?_
  simp only [Tryz.results14, go_sem, Nat.reduceMul, Nat.reduceLeDiff, Nat.reduceLT, reduceIte, reduceCtorEq, Nat.reduceEqDiff, Nat.reduceSub, Nat.reduceAdd]
  refine HereO.callM T_ok 6 [200] rfl rfl (l01From_spec bs hb) (by simp only [go_sem, Nat.reduceMul, Nat.reduceLeDiff, Nat.reduceLT, reduceIte, reduceCtorEq, Nat.reduceEqDiff, Nat.reduceSub, Nat.reduceAdd, List.toList_toArray, ↓reduceIte]) rfl (by decide) (by decide) rfl rfl rfl (Nat.le_of_ble_eq_true rfl) ?_
  simp only [Tryz.results14, go_sem, Nat.reduceMul, Nat.reduceLeDiff, Nat.reduceLT, reduceIte, reduceCtorEq, Nat.reduceEqDiff, Nat.reduceSub, Nat.reduceAdd]
  refine HereO.callM T_ok 8 [1097,200] rfl rfl (l01Spoil_spec bs hb _ h0) (by simp only [go_sem, Nat.reduceMul, Nat.reduceLeDiff, Nat.reduceLT, reduceIte, reduceCtorEq, Nat.reduceEqDiff, Nat.reduceSub, Nat.reduceAdd, List.toList_toArray, ↓reduceIte]) rfl (by decide) (by decide) rfl rfl rfl (Nat.le_of_ble_eq_true rfl) ?_
  simp only [Tryz.results14, go_sem, Nat.reduceMul, Nat.reduceLeDiff, Nat.reduceLT, reduceIte, reduceCtorEq, Nat.reduceEqDiff, Nat.reduceSub, Nat.reduceAdd]
  refine HereO.callM T_ok 10 [1097,200] rfl rfl (l01Near_spec bs hb 12 (by decide) _ h2) (by simp only [go_sem, Nat.reduceMul, Nat.reduceLeDiff, Nat.reduceLT, reduceIte, reduceCtorEq, Nat.reduceEqDiff, Nat.reduceSub, Nat.reduceAdd, List.toList_toArray, ↓reduceIte]) rfl (by decide) (by decide) rfl rfl rfl (Nat.le_of_ble_eq_true rfl) ?_
  simp only [Tryz.results14, go_sem, Nat.reduceMul, Nat.reduceLeDiff, Nat.reduceLT, reduceIte, reduceCtorEq, Nat.reduceEqDiff, Nat.reduceSub, Nat.reduceAdd]
  refine HereO.storeAgg T_ok rfl (by simp only [go_sem, Nat.reduceMul, Nat.reduceLeDiff, Nat.reduceLT, reduceIte, reduceCtorEq, Nat.reduceEqDiff, Nat.reduceSub, Nat.reduceAdd] <;> rfl) (by simp only [go_sem, Nat.reduceMul, Nat.reduceLeDiff, Nat.reduceLT, reduceIte, reduceCtorEq, Nat.reduceEqDiff, Nat.reduceSub, Nat.reduceAdd] <;> rfl) rfl (by simp only [go_sem, Nat.reduceMul, Nat.reduceLeDiff, Nat.reduceLT, reduceIte, reduceCtorEq, Nat.reduceEqDiff, Nat.reduceSub, Nat.reduceAdd] <;> rfl) (by first | rfl | (simp only [go_sem, Nat.reduceMul, Nat.reduceLeDiff, Nat.reduceLT, reduceIte, reduceCtorEq, Nat.reduceEqDiff, Nat.reduceSub, Nat.reduceAdd] <;> rfl)) rfl rfl ?_
  simp only [Tryz.results14, go_sem, Nat.reduceMul, Nat.reduceLeDiff, Nat.reduceLT, reduceIte, reduceCtorEq, Nat.reduceEqDiff, Nat.reduceSub, Nat.reduceAdd]
  refine RetF.of (res := gnR) (Q := fun y => InR y.2) ((spV bs (src0 bs)).1, (nrr bs 12 (spV bs (src0 bs)).2).1) (.tup [.agg [.own 0], .v (.int .i64 (nrr bs 12 (spV bs (src0 bs)).2).1)]) [.frz (II (spV bs (src0 bs)).1)] h3 rfl rfl rfl ?_
  refine RetC.of (RetT.one 1130 (by simp only [Tryz.results14, go_sem, Nat.reduceMul, Nat.reduceLeDiff, Nat.reduceLT, reduceIte, reduceCtorEq, Nat.reduceEqDiff, Nat.reduceSub, Nat.reduceAdd]; rfl) rfl ?_)
  (simp only [Tryz.results14, go_sem, Nat.reduceMul, Nat.reduceLeDiff, Nat.reduceLT, reduceIte, reduceCtorEq, Nat.reduceEqDiff, Nat.reduceSub, Nat.reduceAdd]) <;> rfl
/-! ### A text that is spoilt -/
def signs : List ByteArray := [⟨#[48]⟩, ⟨#[49]⟩, ⟨#[50]⟩, ⟨#[51]⟩, ⟨#[55]⟩, ⟨#[56]⟩, ⟨#[44]⟩, ⟨#[32]⟩, ⟨#[58]⟩, ⟨#[120]⟩, ⟨#[10]⟩]
def dmgC (bs : List Int) (s : Int × Int) : ByteArray := signs.getD (nx bs 11 s).1.toNat ⟨#[]⟩
def dmgV (bs : List Int) (t : ByteArray) (s : Int × Int) : ByteArray × Int × Int :=
  if t.size = 0 then (dmgC bs s, (nx bs 11 s).2)
  else if (nx bs 3 (nx bs t.size (nx bs 11 s).2).2).1 = 0 then (t.extract 0 (nx bs t.size (nx bs 11 s).2).1.toNat ++ dmgC bs s ++ t.extract ((nx bs t.size (nx bs 11 s).2).1.toNat + 1) t.size, (nx bs 3 (nx bs t.size (nx bs 11 s).2).2).2)
  else if (nx bs 3 (nx bs t.size (nx bs 11 s).2).2).1 = 1 then (t.extract 0 (nx bs t.size (nx bs 11 s).2).1.toNat ++ t.extract ((nx bs t.size (nx bs 11 s).2).1.toNat + 1) t.size, (nx bs 3 (nx bs t.size (nx bs 11 s).2).2).2)
  else (t.extract 0 (nx bs t.size (nx bs 11 s).2).1.toNat ++ dmgC bs s ++ t.extract (nx bs t.size (nx bs 11 s).2).1.toNat t.size, (nx bs 3 (nx bs t.size (nx bs 11 s).2).2).2)
theorem dmgC_size (bs : List Int) (s : Int × Int) : (dmgC bs s).size ≤ 1 := by
  have : ∀ i, i < 11 → (signs.getD i ⟨#[]⟩).size ≤ 1 := by decide
  unfold dmgC
  by_cases h : (nx bs 11 s).1.toNat < 11
  · exact this _ h
  · rw [List.getD_eq_getElem?_getD, List.getElem?_eq_none (by simp [signs]; omega)]
    decide
theorem dmgV_ok {bs : List Int} (hb : Bytes bs) (t : ByteArray) {s : Int × Int} (hs : At bs s) : (dmgV bs t s).1.size ≤ t.size + 2 ∧ At bs (dmgV bs t s).2 := by
  obtain ⟨h1, h2, h3⟩ := nx_ok hb 11 hs
  obtain ⟨h4, h5, h6⟩ := nx_ok hb t.size h3
  obtain ⟨h7, h8, h9⟩ := nx_ok hb 3 h6
  have hc := dmgC_size bs s
  unfold dmgV
  split
  · exact ⟨by dsimp only; omega, h3⟩
  · have := h5 (by omega)
    split
    · refine ⟨?_, h9⟩
      simp only [ByteArray.size_append, ByteArray.size_extract]
      omega
    · split
      · refine ⟨?_, h9⟩
        simp only [ByteArray.size_append, ByteArray.size_extract]
        omega
      · refine ⟨?_, h9⟩
        simp only [ByteArray.size_append, ByteArray.size_extract]
        omega
theorem l01Damage_spec (bs : List Int) (hb : Bytes bs) (t : ByteArray) (ht : t.size ≤ 1048576) (s : Int × Int) (hs : At bs s) : SpecM Tryz.prog 45 [.ptr 0 0, .v (.string t)] [srcS s, .ghost (BY bs)] (.v (.string (dmgV bs t s).1)) [some (srcS (dmgV bs t s).2), none] := by
  obtain ⟨h1, h2, h3⟩ := nx_ok hb 11 hs
  have h2' := h2 (by omega)
  obtain ⟨h4, h5, h6⟩ := nx_ok hb t.size h3
  obtain ⟨h7, h8, h9⟩ := nx_ok hb 3 h6
  have hc := dmgC_size bs s
  refine SpecM.of_code' T_ok Tryz.func45 rfl Tryz.ntmps45 Tryz.call45 (Nat.le_of_ble_eq_true rfl) (Nat.le_of_ble_eq_true rfl) (Nat.le_of_ble_eq_true rfl) rfl rfl (CodeV_sound T_ok (by kernel_rfl) rfl ?_)
  simp only [Tryz.results45, go_sem, Nat.reduceMul, Nat.reduceLeDiff, Nat.reduceLT, reduceIte, reduceCtorEq, Nat.reduceEqDiff, Nat.reduceSub, Nat.reduceAdd]
  refine HereO.buildRow T_ok 108 (SS signs) rfl rfl rfl (by decide) rfl (by first | rfl | (simp only [go_sem, Nat.reduceMul, Nat.reduceLeDiff, Nat.reduceLT, reduceIte, reduceCtorEq, Nat.reduceEqDiff, Nat.reduceSub, Nat.reduceAdd] <;> rfl)) rfl (by decide) ?_
  simp only [Tryz.results45, go_sem, Nat.reduceMul, Nat.reduceLeDiff, Nat.reduceLT, reduceIte, reduceCtorEq, Nat.reduceEqDiff, Nat.reduceSub, Nat.reduceAdd]
  have hn : ((SS signs).length : Int) = 11 := rfl
  have hn' : (SS signs).length = 11 := rfl
  refine HereO.callM T_ok 13 [0,1] rfl rfl (l01Next_spec bs hb ((SS signs).length : Nat) s hs) (by simp only [go_sem, Nat.reduceMul, Nat.reduceLeDiff, Nat.reduceLT, reduceIte, reduceCtorEq, Nat.reduceEqDiff, Nat.reduceSub, Nat.reduceAdd, List.toList_toArray, ↓reduceIte]) rfl (by decide) (by decide) rfl rfl rfl (Nat.le_of_ble_eq_true rfl) ?_
  simp only [Tryz.results45, go_sem, Nat.reduceMul, Nat.reduceLeDiff, Nat.reduceLT, reduceIte, reduceCtorEq, Nat.reduceEqDiff, Nat.reduceSub, Nat.reduceAdd]
  rw [hn, hn']
  refine ⟨⟨h1, h2'⟩, by omega, ?_⟩
  have hdc : dv (SS signs) (nx bs 11 s).1.toNat = .string (dmgC bs s) := by
    unfold dv dmgC
    rw [List.getD_eq_getElem?_getD, List.getD_eq_getElem?_getD]
    have hlt : (nx bs 11 s).1.toNat < signs.length := by show _ < 11; omega
    simp only [SS, List.getElem?_map, List.getElem?_eq_getElem hlt, Option.map_some, Option.getD_some]
  rw [hdc]
  refine HereO.opP T_ok (OpP.lenStr Tryz.underlying9 rfl rfl) ?_
  simp only [Tryz.results45, go_sem, Nat.reduceMul, Nat.reduceLeDiff, Nat.reduceLT, reduceIte, reduceCtorEq, Nat.reduceEqDiff, Nat.reduceSub, Nat.reduceAdd]
  refine ⟨fun h => ?_, fun h => ?_⟩
  · have e0 : dmgV bs t s = (dmgC bs s, (nx bs 11 s).2) := by unfold dmgV; rw [if_pos (by omega)]
    rw [e0]
    refine RetM.one0' (by simp only [Tryz.results45, go_sem, Nat.reduceMul, Nat.reduceLeDiff, Nat.reduceLT, reduceIte, reduceCtorEq, Nat.reduceEqDiff, Nat.reduceSub, Nat.reduceAdd]; rfl) rfl ?_
    (simp only [Tryz.results45, go_sem, Nat.reduceMul, Nat.reduceLeDiff, Nat.reduceLT, reduceIte, reduceCtorEq, Nat.reduceEqDiff, Nat.reduceSub, Nat.reduceAdd]) <;> rfl
  have h5' := h5 (by omega)
  have ht0 : ¬ t.size = 0 := by omega
  obtain ⟨k, hk⟩ := Int.eq_ofNat_of_zero_le h4
  have hkt : k < t.size := by omega
  refine HereO.opP T_ok (OpP.lenStr Tryz.underlying9 rfl rfl) ?_
  simp only [Tryz.results45, go_sem, Nat.reduceMul, Nat.reduceLeDiff, Nat.reduceLT, reduceIte, reduceCtorEq, Nat.reduceEqDiff, Nat.reduceSub, Nat.reduceAdd]
  refine HereO.callM T_ok 23 [0,1] rfl rfl (l01Next_spec bs hb t.size _ h3) (by simp only [go_sem, Nat.reduceMul, Nat.reduceLeDiff, Nat.reduceLT, reduceIte, reduceCtorEq, Nat.reduceEqDiff, Nat.reduceSub, Nat.reduceAdd, List.toList_toArray, ↓reduceIte]) rfl (by decide) (by decide) rfl rfl rfl (Nat.le_of_ble_eq_true rfl) ?_
  simp only [Tryz.results45, go_sem, Nat.reduceMul, Nat.reduceLeDiff, Nat.reduceLT, reduceIte, reduceCtorEq, Nat.reduceEqDiff, Nat.reduceSub, Nat.reduceAdd]
  rw [hk]
  refine HereO.callM T_ok 25 [0,1] rfl rfl (l01Next_spec bs hb 3 _ h6) (by simp only [go_sem, Nat.reduceMul, Nat.reduceLeDiff, Nat.reduceLT, reduceIte, reduceCtorEq, Nat.reduceEqDiff, Nat.reduceSub, Nat.reduceAdd, List.toList_toArray, ↓reduceIte]) rfl (by decide) (by decide) rfl rfl rfl (Nat.le_of_ble_eq_true rfl) ?_
  simp only [Tryz.results45, go_sem, Nat.reduceMul, Nat.reduceLeDiff, Nat.reduceLT, reduceIte, reduceCtorEq, Nat.reduceEqDiff, Nat.reduceSub, Nat.reduceAdd]
  have s1 : (t.extract 0 k).size = k := by rw [ByteArray.size_extract]; omega
  have s2 : (t.extract (k + 1) t.size).size = t.size - (k + 1) := by rw [ByteArray.size_extract]; omega
  have s3 : (t.extract k t.size).size = t.size - k := by rw [ByteArray.size_extract]; omega
  have s4 : (t.extract 0 k ++ dmgC bs s).size = k + (dmgC bs s).size := by rw [ByteArray.size_append, s1]
  refine ⟨fun h10 => ?_, fun h10 => ⟨fun h11 => ?_, fun h11 => ?_⟩⟩
  · have e0 : dmgV bs t s = (t.extract 0 k ++ dmgC bs s ++ t.extract (k + 1) t.size, (nx bs 3 (nx bs t.size (nx bs 11 s).2).2).2) := by unfold dmgV; rw [if_neg ht0, if_pos h10, hk, Int.toNat_natCast]
    rw [e0]
    refine Here.draw T_ok mixed_ok (by kernel_rfl) ?_
    simp only [Tryz.results45, go_sem, Nat.reduceMul, Nat.reduceLeDiff, Nat.reduceLT, reduceIte, reduceCtorEq, Nat.reduceEqDiff, Nat.reduceSub, Nat.reduceAdd]
    refine ⟨_, OpP.toStr (j := k) Tryz.underlying9 rfl rfl rfl (by omega), ?_⟩
    simp only [Tryz.results45, go_sem, Nat.reduceMul, Nat.reduceLeDiff, Nat.reduceLT, reduceIte, reduceCtorEq, Nat.reduceEqDiff, Nat.reduceSub, Nat.reduceAdd]
    rw [s1]
    refine ⟨by omega, by unfold InR; omega, ?_⟩
    refine ⟨_, OpP.fromStr (i := k + 1) Tryz.underlying9 rfl rfl rfl (by omega), ?_⟩
    simp only [Tryz.results45, go_sem, Nat.reduceMul, Nat.reduceLeDiff, Nat.reduceLT, reduceIte, reduceCtorEq, Nat.reduceEqDiff, Nat.reduceSub, Nat.reduceAdd]
    refine ⟨by omega, RetM.one0' (by simp only [Tryz.results45, go_sem, Nat.reduceMul, Nat.reduceLeDiff, Nat.reduceLT, reduceIte, reduceCtorEq, Nat.reduceEqDiff, Nat.reduceSub, Nat.reduceAdd]; rfl) rfl ?_⟩
    (simp only [Tryz.results45, go_sem, Nat.reduceMul, Nat.reduceLeDiff, Nat.reduceLT, reduceIte, reduceCtorEq, Nat.reduceEqDiff, Nat.reduceSub, Nat.reduceAdd]) <;> rfl
  · have e0 : dmgV bs t s = (t.extract 0 k ++ t.extract (k + 1) t.size, (nx bs 3 (nx bs t.size (nx bs 11 s).2).2).2) := by unfold dmgV; rw [if_neg ht0, if_neg h10, if_pos h11, hk, Int.toNat_natCast]
    rw [e0]
    refine Here.draw T_ok mixed_ok (by kernel_rfl) ?_
    simp only [Tryz.results45, go_sem, Nat.reduceMul, Nat.reduceLeDiff, Nat.reduceLT, reduceIte, reduceCtorEq, Nat.reduceEqDiff, Nat.reduceSub, Nat.reduceAdd]
    refine ⟨_, OpP.toStr (j := k) Tryz.underlying9 rfl rfl rfl (by omega), ?_⟩
    simp only [Tryz.results45, go_sem, Nat.reduceMul, Nat.reduceLeDiff, Nat.reduceLT, reduceIte, reduceCtorEq, Nat.reduceEqDiff, Nat.reduceSub, Nat.reduceAdd]
    refine ⟨by unfold InR; omega, ?_⟩
    refine ⟨_, OpP.fromStr (i := k + 1) Tryz.underlying9 rfl rfl rfl (by omega), ?_⟩
    simp only [Tryz.results45, go_sem, Nat.reduceMul, Nat.reduceLeDiff, Nat.reduceLT, reduceIte, reduceCtorEq, Nat.reduceEqDiff, Nat.reduceSub, Nat.reduceAdd]
    refine ⟨by omega, RetM.one0' (by simp only [Tryz.results45, go_sem, Nat.reduceMul, Nat.reduceLeDiff, Nat.reduceLT, reduceIte, reduceCtorEq, Nat.reduceEqDiff, Nat.reduceSub, Nat.reduceAdd]; rfl) rfl ?_⟩
    (simp only [Tryz.results45, go_sem, Nat.reduceMul, Nat.reduceLeDiff, Nat.reduceLT, reduceIte, reduceCtorEq, Nat.reduceEqDiff, Nat.reduceSub, Nat.reduceAdd]) <;> rfl
  · have e0 : dmgV bs t s = (t.extract 0 k ++ dmgC bs s ++ t.extract k t.size, (nx bs 3 (nx bs t.size (nx bs 11 s).2).2).2) := by unfold dmgV; rw [if_neg ht0, if_neg h10, if_neg h11, hk, Int.toNat_natCast]
    rw [e0]
    refine Here.draw T_ok mixed_ok (by kernel_rfl) ?_
    simp only [Tryz.results45, go_sem, Nat.reduceMul, Nat.reduceLeDiff, Nat.reduceLT, reduceIte, reduceCtorEq, Nat.reduceEqDiff, Nat.reduceSub, Nat.reduceAdd]
    refine ⟨_, OpP.toStr (j := k) Tryz.underlying9 rfl rfl rfl (by omega), ?_⟩
    simp only [Tryz.results45, go_sem, Nat.reduceMul, Nat.reduceLeDiff, Nat.reduceLT, reduceIte, reduceCtorEq, Nat.reduceEqDiff, Nat.reduceSub, Nat.reduceAdd]
    rw [s1]
    refine ⟨by omega, ?_⟩
    refine ⟨_, OpP.fromStr (i := k) Tryz.underlying9 rfl rfl rfl (by omega), ?_⟩
    simp only [Tryz.results45, go_sem, Nat.reduceMul, Nat.reduceLeDiff, Nat.reduceLT, reduceIte, reduceCtorEq, Nat.reduceEqDiff, Nat.reduceSub, Nat.reduceAdd]
    refine ⟨by omega, RetM.one0' (by simp only [Tryz.results45, go_sem, Nat.reduceMul, Nat.reduceLeDiff, Nat.reduceLT, reduceIte, reduceCtorEq, Nat.reduceEqDiff, Nat.reduceSub, Nat.reduceAdd]; rfl) rfl ?_⟩
    (simp only [Tryz.results45, go_sem, Nat.reduceMul, Nat.reduceLeDiff, Nat.reduceLT, reduceIte, reduceCtorEq, Nat.reduceEqDiff, Nat.reduceSub, Nat.reduceAdd]) <;> rfl
/-- A table and a module that are drawn, and two numbers. -/
def gmnnR (y : List (List Int) × Int × List Int × Int × Int) : LV := .tup [.agg [.rds (II y.1)], .agg [.v (.int .i64 y.2.1), .rd (I y.2.2.1)], .v (.int .i64 y.2.2.2.1), .v (.int .i64 y.2.2.2.2)]
def nm1 (t : List (List Int)) : Int := if (t.length : Int) - 1 < 0 then 0 else (t.length : Int) - 1
def nm2 (m : Int) : Int := if (12 : Int) < (if m - 1 < 0 then 0 else m - 1) then 12 else (if m - 1 < 0 then 0 else m - 1)
theorem nm1_ok (t : List (List Int)) (h : t.length ≤ 9) : 0 ≤ nm1 t ∧ nm1 t ≤ 1048576 := by unfold nm1; split <;> omega
theorem nm2_ok (m : Int) : 0 ≤ nm2 m ∧ nm2 m ≤ 1048576 := by unfold nm2; split <;> split <;> omega
theorem DrawLeadNumber_spec (bs : List Int) (hb : Bytes bs) : SpecF Tryz.prog 9 [.rd (BY bs)] gmnnR (fun y => y.2.2.1.length ≤ 9 ∧ InR y.2.1 ∧ InR y.2.2.2.1 ∧ InR y.2.2.2.2) := by
  have h0 := src0_at bs
  obtain ⟨h1, h2⟩ := spV_ok hb h0
  have hmd := mdV_ok hb (spV bs (src0 bs)).1 h2
  have hn1 := nm1_ok (spV bs (src0 bs)).1 h1.1
  have hn2 := nm2_ok (mdV bs (spV bs (src0 bs)).1 (spV bs (src0 bs)).2).1
  obtain ⟨h3, h4⟩ := nrr_ok hb hn1 h0
  obtain ⟨h5, h6⟩ := nrr_ok hb hn2 h4
  refine SpecF.of_code T_ok Tryz.func9 rfl Tryz.ntmps9 Tryz.call9 (Nat.le_of_ble_eq_true rfl) (Here.conv (Conv.ghost 0 200 (by decide) rfl) (CodeV_sound T_ok (by kernel_rfl) rfl ?_))
  simp only [Tryz.results9, go_sem, Nat.reduceMul, Nat.reduceLeDiff, Nat.reduceLT, reduceIte, reduceCtorEq, Nat.reduceEqDiff, Nat.reduceSub, Nat.reduceAdd]
  refine HereO.alloc T_ok 102 rfl rfl (by decide) ?_
  simp only [Tryz.results9, go_sem, Nat.reduceMul, Nat.reduceLeDiff, Nat.reduceLT, reduceIte, reduceCtorEq, Nat.reduceEqDiff, Nat.reduceSub, Nat.reduceAdd]
  refine HereO.alloc T_ok 103 rfl rfl (by decide) ?_
  simp only [Tryz.results9, go_sem, Nat.reduceMul, Nat.reduceLeDiff, Nat.reduceLT, reduceIte, reduceCtorEq, Nat.reduceEqDiff, Nat.reduceSub, Nat.reduceAdd]
  refine HereO.callM T_ok 10 [200] rfl rfl (l01From_spec bs hb) (by simp only [go_sem, Nat.reduceMul, Nat.reduceLeDiff, Nat.reduceLT, reduceIte, reduceCtorEq, Nat.reduceEqDiff, Nat.reduceSub, Nat.reduceAdd, List.toList_toArray, ↓reduceIte]) rfl (by decide) (by decide) rfl rfl rfl (Nat.le_of_ble_eq_true rfl) ?_
  simp only [Tryz.results9, go_sem, Nat.reduceMul, Nat.reduceLeDiff, Nat.reduceLT, reduceIte, reduceCtorEq, Nat.reduceEqDiff, Nat.reduceSub, Nat.reduceAdd]
  refine HereO.callM T_ok 13 [200] rfl rfl (l02With_spec bs hb) (by simp only [go_sem, Nat.reduceMul, Nat.reduceLeDiff, Nat.reduceLT, reduceIte, reduceCtorEq, Nat.reduceEqDiff, Nat.reduceSub, Nat.reduceAdd, List.toList_toArray, ↓reduceIte]) rfl (by decide) (by decide) rfl rfl rfl (Nat.le_of_ble_eq_true rfl) ?_
  simp only [Tryz.results9, go_sem, Nat.reduceMul, Nat.reduceLeDiff, Nat.reduceLT, reduceIte, reduceCtorEq, Nat.reduceEqDiff, Nat.reduceSub, Nat.reduceAdd]
  refine HereO.alloc T_ok 107 rfl rfl (by decide) ?_
  simp only [Tryz.results9, go_sem, Nat.reduceMul, Nat.reduceLeDiff, Nat.reduceLT, reduceIte, reduceCtorEq, Nat.reduceEqDiff, Nat.reduceSub, Nat.reduceAdd]
  refine HereO.alloc T_ok 108 rfl rfl (by decide) ?_
  simp only [Tryz.results9, go_sem, Nat.reduceMul, Nat.reduceLeDiff, Nat.reduceLT, reduceIte, reduceCtorEq, Nat.reduceEqDiff, Nat.reduceSub, Nat.reduceAdd]
  refine HereO.storeAgg T_ok rfl (by simp only [go_sem, Nat.reduceMul, Nat.reduceLeDiff, Nat.reduceLT, reduceIte, reduceCtorEq, Nat.reduceEqDiff, Nat.reduceSub, Nat.reduceAdd] <;> rfl) (by simp only [go_sem, Nat.reduceMul, Nat.reduceLeDiff, Nat.reduceLT, reduceIte, reduceCtorEq, Nat.reduceEqDiff, Nat.reduceSub, Nat.reduceAdd] <;> rfl) rfl (by simp only [go_sem, Nat.reduceMul, Nat.reduceLeDiff, Nat.reduceLT, reduceIte, reduceCtorEq, Nat.reduceEqDiff, Nat.reduceSub, Nat.reduceAdd] <;> rfl) (by first | rfl | (simp only [go_sem, Nat.reduceMul, Nat.reduceLeDiff, Nat.reduceLT, reduceIte, reduceCtorEq, Nat.reduceEqDiff, Nat.reduceSub, Nat.reduceAdd] <;> rfl)) rfl rfl ?_
  simp only [Tryz.results9, go_sem, Nat.reduceMul, Nat.reduceLeDiff, Nat.reduceLT, reduceIte, reduceCtorEq, Nat.reduceEqDiff, Nat.reduceSub, Nat.reduceAdd]
  refine HereO.storeAgg T_ok rfl (by simp only [go_sem, Nat.reduceMul, Nat.reduceLeDiff, Nat.reduceLT, reduceIte, reduceCtorEq, Nat.reduceEqDiff, Nat.reduceSub, Nat.reduceAdd] <;> rfl) (by simp only [go_sem, Nat.reduceMul, Nat.reduceLeDiff, Nat.reduceLT, reduceIte, reduceCtorEq, Nat.reduceEqDiff, Nat.reduceSub, Nat.reduceAdd] <;> rfl) rfl (by simp only [go_sem, Nat.reduceMul, Nat.reduceLeDiff, Nat.reduceLT, reduceIte, reduceCtorEq, Nat.reduceEqDiff, Nat.reduceSub, Nat.reduceAdd] <;> rfl) (by first | rfl | (simp only [go_sem, Nat.reduceMul, Nat.reduceLeDiff, Nat.reduceLT, reduceIte, reduceCtorEq, Nat.reduceEqDiff, Nat.reduceSub, Nat.reduceAdd] <;> rfl)) rfl rfl ?_
  simp only [Tryz.results9, go_sem, Nat.reduceMul, Nat.reduceLeDiff, Nat.reduceLT, reduceIte, reduceCtorEq, Nat.reduceEqDiff, Nat.reduceSub, Nat.reduceAdd]
  refine Here.drawC T_ok [.f, .f, .f, .f, .f, .f, .f, .f, .c, .f, .f, .f, .f, .f, .f, .c, .c, .c, .p, .p] [6, 7, 8] [1384, 1385, 1386, 1387, 1388, 1389, 1390, 1391, 1392, 1393, 1394, 1395, 1396, 1397, 1398, 1399, 1496, 1497, 1498, 1499, 1500, 1501, 1502, 1503, 1504, 1505, 1506, 1507, 1508, 1509, 1510, 1511] [107, 108, 1209] (Nat.le_of_ble_eq_true rfl) mixed_ok (by kernel_rfl) (by kernel_rfl) (by kernel_rfl) (by simp only [List.mem_cons, List.not_mem_nil, or_false, forall_eq_or_imp, forall_eq, go_sem, Nat.reduceMul, Nat.reduceLeDiff, Nat.reduceLT, reduceIte, reduceCtorEq, Nat.reduceEqDiff, Nat.reduceSub, Nat.reduceAdd] <;> first | exact calm_ptr_ne rfl | exact calm_ne rfl | exact ⟨calm_ptr_ne rfl, calm_ptr_ne rfl⟩ | exact ⟨calm_ptr_ne rfl, calm_ptr_ne rfl, calm_ptr_ne rfl⟩ | exact ⟨calm_ptr_ne rfl, calm_knot (by simp only [go_sem, Nat.reduceMul, Nat.reduceLeDiff, Nat.reduceLT, reduceIte, reduceCtorEq, Nat.reduceEqDiff, Nat.reduceSub, Nat.reduceAdd] <;> exact calm_ptr_ne rfl)⟩ | ((repeat' apply And.intro) <;> first | exact calm_ptr_ne rfl | exact calm_ne rfl)) ?_
  simp only [Tryz.results9, go_sem, Nat.reduceMul, Nat.reduceLeDiff, Nat.reduceLT, reduceIte, reduceCtorEq, Nat.reduceEqDiff, Nat.reduceSub, Nat.reduceAdd]
  refine HereF.loadAgg T_ok (id := 107) (tt := 26) (c := [.own 1209]) rfl (by simp only [go_sem, Nat.reduceMul, Nat.reduceLeDiff, Nat.reduceLT, reduceIte, reduceCtorEq, Nat.reduceEqDiff, Nat.reduceSub, Nat.reduceAdd] <;> rfl) (by kernel_rfl) rfl (by decide) (by simp only [go_sem, Nat.reduceMul, Nat.reduceLeDiff, Nat.reduceLT, reduceIte, reduceCtorEq, Nat.reduceEqDiff, Nat.reduceSub, Nat.reduceAdd] <;> rfl) rfl (calm_agg1 (calm_ne rfl)) ?_
  simp only [Tryz.results9, go_sem, Nat.reduceMul, Nat.reduceLeDiff, Nat.reduceLT, reduceIte, reduceCtorEq, Nat.reduceEqDiff, Nat.reduceSub, Nat.reduceAdd]
  refine HereF.loadAgg T_ok (id := 108) (tt := 35) (c := [.v (.int .i64 (mdV bs (spV bs (src0 bs)).1 (spV bs (src0 bs)).2).1), .own 1210]) rfl (by simp only [go_sem, Nat.reduceMul, Nat.reduceLeDiff, Nat.reduceLT, reduceIte, reduceCtorEq, Nat.reduceEqDiff, Nat.reduceSub, Nat.reduceAdd] <;> rfl) (by kernel_rfl) rfl (by decide) (by simp only [go_sem, Nat.reduceMul, Nat.reduceLeDiff, Nat.reduceLT, reduceIte, reduceCtorEq, Nat.reduceEqDiff, Nat.reduceSub, Nat.reduceAdd] <;> rfl) rfl (calm_agg2 (by rw [calm_v]; trivial) (calm_ne rfl)) ?_
  simp only [Tryz.results9, go_sem, Nat.reduceMul, Nat.reduceLeDiff, Nat.reduceLT, reduceIte, reduceCtorEq, Nat.reduceEqDiff, Nat.reduceSub, Nat.reduceAdd]
  refine ⟨calm_ptr_ne rfl, calm_ptr_ne rfl, ?_⟩
  refine HereF.load T_ok (id := 107) (tt := 26) (c := [.own 1209]) (off := 0) (y := .own 1209) rfl (by simp only [go_sem, Nat.reduceMul, Nat.reduceLeDiff, Nat.reduceLT, reduceIte, reduceCtorEq, Nat.reduceEqDiff, Nat.reduceSub, Nat.reduceAdd] <;> rfl) (by kernel_rfl) rfl (by decide) (by simp only [go_sem, Nat.reduceMul, Nat.reduceLeDiff, Nat.reduceLT, reduceIte, reduceCtorEq, Nat.reduceEqDiff, Nat.reduceSub, Nat.reduceAdd] <;> rfl) rfl (by first | exact calm_ne rfl | (rw [calm_v]; trivial)) ?_
  simp only [Tryz.results9, go_sem, Nat.reduceMul, Nat.reduceLeDiff, Nat.reduceLT, reduceIte, reduceCtorEq, Nat.reduceEqDiff, Nat.reduceSub, Nat.reduceAdd]
  refine ⟨_, fun σ hG => OpP.lenFrz T_ok (t := 24) (q := II (spV bs (src0 bs)).1) (id := 1209) rfl rfl rfl (by have hq := hG 1209 (by decide); simp only [go_sem, Nat.reduceMul, Nat.reduceLeDiff, Nat.reduceLT, reduceIte, reduceCtorEq, Nat.reduceEqDiff, Nat.reduceSub, Nat.reduceAdd] at hq; exact hq), (by simp only [go_sem, Nat.reduceMul, Nat.reduceLeDiff, Nat.reduceLT, reduceIte, reduceCtorEq, Nat.reduceEqDiff, Nat.reduceSub, Nat.reduceAdd]), ?_⟩
  simp only [Tryz.results9, go_sem, Nat.reduceMul, Nat.reduceLeDiff, Nat.reduceLT, reduceIte, reduceCtorEq, Nat.reduceEqDiff, Nat.reduceSub, Nat.reduceAdd]
  refine ⟨by have := h1.1; unfold InR; omega, ?_⟩
  refine ⟨_, fun _ _ => OpP.max2 rfl rfl rfl, (by simp only [go_sem, Nat.reduceMul, Nat.reduceLeDiff, Nat.reduceLT, reduceIte, reduceCtorEq, Nat.reduceEqDiff, Nat.reduceSub, Nat.reduceAdd]), ?_⟩
  simp only [Tryz.results9, go_sem, Nat.reduceMul, Nat.reduceLeDiff, Nat.reduceLT, reduceIte, reduceCtorEq, Nat.reduceEqDiff, Nat.reduceSub, Nat.reduceAdd]
  refine HereC.callM 24 [1161, 200] rfl rfl (l01Near_spec bs hb (nm1 (spV bs (src0 bs)).1) hn1 _ h0) (by simp only [go_sem, Nat.reduceMul, Nat.reduceLeDiff, Nat.reduceLT, reduceIte, reduceCtorEq, Nat.reduceEqDiff, Nat.reduceSub, Nat.reduceAdd, List.toList_toArray, ↓reduceIte] <;> rfl) rfl (by decide) (by decide) rfl rfl rfl (Nat.le_of_ble_eq_true rfl) (inK_shift rfl) (by first | exact keeps_nil _ _ | (simp only [keeps_cons, keeps_nil', go_sem, Nat.reduceMul, Nat.reduceLeDiff, Nat.reduceLT, reduceIte, reduceCtorEq, Nat.reduceEqDiff, Nat.reduceSub, Nat.reduceAdd] <;> first | rfl | exact ⟨rfl, rfl⟩)) ?_
  simp only [Tryz.results9, go_sem, Nat.reduceMul, Nat.reduceLeDiff, Nat.reduceLT, reduceIte, reduceCtorEq, Nat.reduceEqDiff, Nat.reduceSub, Nat.reduceAdd]
  refine ⟨calm_ptr_ne rfl, calm_ptr_ne rfl, ?_⟩
  refine HereF.load T_ok (id := 108) (tt := 35) (c := [.v (.int .i64 (mdV bs (spV bs (src0 bs)).1 (spV bs (src0 bs)).2).1), .own 1210]) (off := 0) (y := .v (.int .i64 (mdV bs (spV bs (src0 bs)).1 (spV bs (src0 bs)).2).1)) rfl (by simp only [go_sem, Nat.reduceMul, Nat.reduceLeDiff, Nat.reduceLT, reduceIte, reduceCtorEq, Nat.reduceEqDiff, Nat.reduceSub, Nat.reduceAdd] <;> rfl) (by kernel_rfl) rfl (by decide) (by simp only [go_sem, Nat.reduceMul, Nat.reduceLeDiff, Nat.reduceLT, reduceIte, reduceCtorEq, Nat.reduceEqDiff, Nat.reduceSub, Nat.reduceAdd] <;> rfl) rfl (by first | exact calm_ne rfl | (rw [calm_v]; trivial)) ?_
  simp only [Tryz.results9, go_sem, Nat.reduceMul, Nat.reduceLeDiff, Nat.reduceLT, reduceIte, reduceCtorEq, Nat.reduceEqDiff, Nat.reduceSub, Nat.reduceAdd]
  refine ⟨by have := hmd.1.1; unfold InR; omega, ?_⟩
  refine ⟨_, fun _ _ => OpP.max2 rfl rfl rfl, (by simp only [go_sem, Nat.reduceMul, Nat.reduceLeDiff, Nat.reduceLT, reduceIte, reduceCtorEq, Nat.reduceEqDiff, Nat.reduceSub, Nat.reduceAdd]), ?_⟩
  simp only [Tryz.results9, go_sem, Nat.reduceMul, Nat.reduceLeDiff, Nat.reduceLT, reduceIte, reduceCtorEq, Nat.reduceEqDiff, Nat.reduceSub, Nat.reduceAdd]
  refine ⟨_, fun _ _ => OpP.min2 rfl rfl rfl, (by simp only [go_sem, Nat.reduceMul, Nat.reduceLeDiff, Nat.reduceLT, reduceIte, reduceCtorEq, Nat.reduceEqDiff, Nat.reduceSub, Nat.reduceAdd]), ?_⟩
  simp only [Tryz.results9, go_sem, Nat.reduceMul, Nat.reduceLeDiff, Nat.reduceLT, reduceIte, reduceCtorEq, Nat.reduceEqDiff, Nat.reduceSub, Nat.reduceAdd]
  refine HereC.callM 31 [1161, 200] rfl rfl (l01Near_spec bs hb (nm2 (mdV bs (spV bs (src0 bs)).1 (spV bs (src0 bs)).2).1) hn2 _ h4) (by simp only [go_sem, Nat.reduceMul, Nat.reduceLeDiff, Nat.reduceLT, reduceIte, reduceCtorEq, Nat.reduceEqDiff, Nat.reduceSub, Nat.reduceAdd, List.toList_toArray, ↓reduceIte] <;> rfl) rfl (by decide) (by decide) rfl rfl rfl (Nat.le_of_ble_eq_true rfl) (inK_shift rfl) (by first | exact keeps_nil _ _ | (simp only [keeps_cons, keeps_nil', go_sem, Nat.reduceMul, Nat.reduceLeDiff, Nat.reduceLT, reduceIte, reduceCtorEq, Nat.reduceEqDiff, Nat.reduceSub, Nat.reduceAdd] <;> first | rfl | exact ⟨rfl, rfl⟩)) ?_
  simp only [Tryz.results9, go_sem, Nat.reduceMul, Nat.reduceLeDiff, Nat.reduceLT, reduceIte, reduceCtorEq, Nat.reduceEqDiff, Nat.reduceSub, Nat.reduceAdd]
  refine HereC.storeAgg T_ok rfl (by simp only [go_sem, Nat.reduceMul, Nat.reduceLeDiff, Nat.reduceLT, reduceIte, reduceCtorEq, Nat.reduceEqDiff, Nat.reduceSub, Nat.reduceAdd] <;> rfl) (by simp only [go_sem, Nat.reduceMul, Nat.reduceLeDiff, Nat.reduceLT, reduceIte, reduceCtorEq, Nat.reduceEqDiff, Nat.reduceSub, Nat.reduceAdd] <;> rfl) rfl (by simp only [go_sem, Nat.reduceMul, Nat.reduceLeDiff, Nat.reduceLT, reduceIte, reduceCtorEq, Nat.reduceEqDiff, Nat.reduceSub, Nat.reduceAdd] <;> rfl) (by first | rfl | (simp only [go_sem, Nat.reduceMul, Nat.reduceLeDiff, Nat.reduceLT, reduceIte, reduceCtorEq, Nat.reduceEqDiff, Nat.reduceSub, Nat.reduceAdd] <;> rfl)) rfl rfl (by first | exact keeps_nil _ _ | (simp only [keeps_cons, keeps_nil', go_sem, Nat.reduceMul, Nat.reduceLeDiff, Nat.reduceLT, reduceIte, reduceCtorEq, Nat.reduceEqDiff, Nat.reduceSub, Nat.reduceAdd] <;> rfl)) ?_
  simp only [Tryz.results9, go_sem, Nat.reduceMul, Nat.reduceLeDiff, Nat.reduceLT, reduceIte, reduceCtorEq, Nat.reduceEqDiff, Nat.reduceSub, Nat.reduceAdd]
  refine HereC.storeAgg T_ok rfl (by simp only [go_sem, Nat.reduceMul, Nat.reduceLeDiff, Nat.reduceLT, reduceIte, reduceCtorEq, Nat.reduceEqDiff, Nat.reduceSub, Nat.reduceAdd] <;> rfl) (by simp only [go_sem, Nat.reduceMul, Nat.reduceLeDiff, Nat.reduceLT, reduceIte, reduceCtorEq, Nat.reduceEqDiff, Nat.reduceSub, Nat.reduceAdd] <;> rfl) rfl (by simp only [go_sem, Nat.reduceMul, Nat.reduceLeDiff, Nat.reduceLT, reduceIte, reduceCtorEq, Nat.reduceEqDiff, Nat.reduceSub, Nat.reduceAdd] <;> rfl) (by first | rfl | (simp only [go_sem, Nat.reduceMul, Nat.reduceLeDiff, Nat.reduceLT, reduceIte, reduceCtorEq, Nat.reduceEqDiff, Nat.reduceSub, Nat.reduceAdd] <;> rfl)) rfl rfl (by first | exact keeps_nil _ _ | (simp only [keeps_cons, keeps_nil', go_sem, Nat.reduceMul, Nat.reduceLeDiff, Nat.reduceLT, reduceIte, reduceCtorEq, Nat.reduceEqDiff, Nat.reduceSub, Nat.reduceAdd] <;> rfl)) ?_
  simp only [Tryz.results9, go_sem, Nat.reduceMul, Nat.reduceLeDiff, Nat.reduceLT, reduceIte, reduceCtorEq, Nat.reduceEqDiff, Nat.reduceSub, Nat.reduceAdd]
  refine RetF.of (res := gmnnR) (Q := fun y => y.2.2.1.length ≤ 9 ∧ InR y.2.1 ∧ InR y.2.2.2.1 ∧ InR y.2.2.2.2) ((spV bs (src0 bs)).1, (mdV bs (spV bs (src0 bs)).1 (spV bs (src0 bs)).2).1, (mdV bs (spV bs (src0 bs)).1 (spV bs (src0 bs)).2).2.1, (nrr bs (nm1 (spV bs (src0 bs)).1) (src0 bs)).1, (nrr bs (nm2 (mdV bs (spV bs (src0 bs)).1 (spV bs (src0 bs)).2).1) (nrr bs (nm1 (spV bs (src0 bs)).1) (src0 bs)).2).1) (.tup [.agg [.own 0], .agg [.v (.int .i64 (mdV bs (spV bs (src0 bs)).1 (spV bs (src0 bs)).2).1), .own 1], .v (.int .i64 (nrr bs (nm1 (spV bs (src0 bs)).1) (src0 bs)).1), .v (.int .i64 (nrr bs (nm2 (mdV bs (spV bs (src0 bs)).1 (spV bs (src0 bs)).2).1) (nrr bs (nm1 (spV bs (src0 bs)).1) (src0 bs)).2).1)]) [.frz (II (spV bs (src0 bs)).1), .row 2 (I (mdV bs (spV bs (src0 bs)).1 (spV bs (src0 bs)).2).2.1)] ⟨hmd.1.2, by have := hmd.1.1; unfold InR; dsimp only; omega, h3, h5⟩ rfl rfl rfl ?_
  refine RetC.of (RetT.two 1209 1210 (by decide) (by simp only [Tryz.results9, go_sem, Nat.reduceMul, Nat.reduceLeDiff, Nat.reduceLT, reduceIte, reduceCtorEq, Nat.reduceEqDiff, Nat.reduceSub, Nat.reduceAdd]; rfl) rfl ?_ ?_)
  · (simp only [Tryz.results9, go_sem, Nat.reduceMul, Nat.reduceLeDiff, Nat.reduceLT, reduceIte, reduceCtorEq, Nat.reduceEqDiff, Nat.reduceSub, Nat.reduceAdd]) <;> rfl
  · (simp only [Tryz.results9, go_sem, Nat.reduceMul, Nat.reduceLeDiff, Nat.reduceLT, reduceIte, reduceCtorEq, Nat.reduceEqDiff, Nat.reduceSub, Nat.reduceAdd]) <;> rfl
/-- A table that is drawn, and a text. -/
def gsR (y : List (List Int) × ByteArray) : LV := .tup [.agg [.rds (II y.1)], .v (.string y.2)]
theorem DrawParseModule_spec (bs : List Int) (hb : Bytes bs) : SpecF Tryz.prog 20 [.rd (BY bs)] gsR (fun y => y.2.size ≤ 1048576) := by
  have h0 := src0_at bs
  obtain ⟨h1, h2⟩ := spV_ok hb h0
  have hmd := mdV_ok hb (spV bs (src0 bs)).1 h2
  have hsm := mdV_small hb (spV bs (src0 bs)).1 h2
  obtain ⟨M, hM⟩ : ∃ M, M = (mdV bs (spV bs (src0 bs)).1 (spV bs (src0 bs)).2).1 := ⟨_, rfl⟩
  obtain ⟨U, hU⟩ : ∃ U, U = (mdV bs (spV bs (src0 bs)).1 (spV bs (src0 bs)).2).2.1 := ⟨_, rfl⟩
  have hw := l02With_spec bs hb
  rw [← hM, ← hU] at hsm hw
  rw [← hU] at hmd
  have hUl : U.length ≤ 9 := hmd.1.2
  obtain ⟨h3, h4, h5⟩ := nx_ok hb 4 h0
  have htx : (strB (txtM M U)).size ≤ 200 := by
    have hj := decs_join U fun x hx => by have := hsm.2 x hx; omega
    have hk := itoa_len M (by omega)
    rw [strB_size]
    unfold txtM
    unfold decs at hj
    simp only [List.length_append, List.length_cons, List.length_nil]
    omega
  obtain ⟨h6, h7⟩ := dmgV_ok hb (strB (txtM M U)) h5
  refine SpecF.of_code T_ok Tryz.func20 rfl Tryz.ntmps20 Tryz.call20 (Nat.le_of_ble_eq_true rfl) (Here.conv (Conv.ghost 0 200 (by decide) rfl) (CodeV_sound T_ok (by kernel_rfl) rfl ?_))
  simp only [Tryz.results20, go_sem, Nat.reduceMul, Nat.reduceLeDiff, Nat.reduceLT, reduceIte, reduceCtorEq, Nat.reduceEqDiff, Nat.reduceSub, Nat.reduceAdd]
  refine HereO.alloc T_ok 102 rfl rfl (by decide) ?_
  simp only [Tryz.results20, go_sem, Nat.reduceMul, Nat.reduceLeDiff, Nat.reduceLT, reduceIte, reduceCtorEq, Nat.reduceEqDiff, Nat.reduceSub, Nat.reduceAdd]
  refine HereO.callM T_ok 9 [200] rfl rfl (l01From_spec bs hb) (by simp only [go_sem, Nat.reduceMul, Nat.reduceLeDiff, Nat.reduceLT, reduceIte, reduceCtorEq, Nat.reduceEqDiff, Nat.reduceSub, Nat.reduceAdd, List.toList_toArray, ↓reduceIte]) rfl (by decide) (by decide) rfl rfl rfl (Nat.le_of_ble_eq_true rfl) ?_
  simp only [Tryz.results20, go_sem, Nat.reduceMul, Nat.reduceLeDiff, Nat.reduceLT, reduceIte, reduceCtorEq, Nat.reduceEqDiff, Nat.reduceSub, Nat.reduceAdd]
  refine HereO.callM T_ok 12 [200] rfl rfl (hw) (by simp only [go_sem, Nat.reduceMul, Nat.reduceLeDiff, Nat.reduceLT, reduceIte, reduceCtorEq, Nat.reduceEqDiff, Nat.reduceSub, Nat.reduceAdd, List.toList_toArray, ↓reduceIte]) rfl (by decide) (by decide) rfl rfl rfl (Nat.le_of_ble_eq_true rfl) ?_
  simp only [Tryz.results20, go_sem, Nat.reduceMul, Nat.reduceLeDiff, Nat.reduceLT, reduceIte, reduceCtorEq, Nat.reduceEqDiff, Nat.reduceSub, Nat.reduceAdd]
  refine HereO.alloc T_ok 105 rfl rfl (by decide) ?_
  simp only [Tryz.results20, go_sem, Nat.reduceMul, Nat.reduceLeDiff, Nat.reduceLT, reduceIte, reduceCtorEq, Nat.reduceEqDiff, Nat.reduceSub, Nat.reduceAdd]
  refine HereO.alloc T_ok 106 rfl rfl (by decide) ?_
  simp only [Tryz.results20, go_sem, Nat.reduceMul, Nat.reduceLeDiff, Nat.reduceLT, reduceIte, reduceCtorEq, Nat.reduceEqDiff, Nat.reduceSub, Nat.reduceAdd]
  refine HereO.storeAgg T_ok rfl (by simp only [go_sem, Nat.reduceMul, Nat.reduceLeDiff, Nat.reduceLT, reduceIte, reduceCtorEq, Nat.reduceEqDiff, Nat.reduceSub, Nat.reduceAdd] <;> rfl) (by simp only [go_sem, Nat.reduceMul, Nat.reduceLeDiff, Nat.reduceLT, reduceIte, reduceCtorEq, Nat.reduceEqDiff, Nat.reduceSub, Nat.reduceAdd] <;> rfl) rfl (by simp only [go_sem, Nat.reduceMul, Nat.reduceLeDiff, Nat.reduceLT, reduceIte, reduceCtorEq, Nat.reduceEqDiff, Nat.reduceSub, Nat.reduceAdd] <;> rfl) (by first | rfl | (simp only [go_sem, Nat.reduceMul, Nat.reduceLeDiff, Nat.reduceLT, reduceIte, reduceCtorEq, Nat.reduceEqDiff, Nat.reduceSub, Nat.reduceAdd] <;> rfl)) rfl rfl ?_
  simp only [Tryz.results20, go_sem, Nat.reduceMul, Nat.reduceLeDiff, Nat.reduceLT, reduceIte, reduceCtorEq, Nat.reduceEqDiff, Nat.reduceSub, Nat.reduceAdd]
  refine HereO.storeAgg T_ok rfl (by simp only [go_sem, Nat.reduceMul, Nat.reduceLeDiff, Nat.reduceLT, reduceIte, reduceCtorEq, Nat.reduceEqDiff, Nat.reduceSub, Nat.reduceAdd] <;> rfl) (by simp only [go_sem, Nat.reduceMul, Nat.reduceLeDiff, Nat.reduceLT, reduceIte, reduceCtorEq, Nat.reduceEqDiff, Nat.reduceSub, Nat.reduceAdd] <;> rfl) rfl (by simp only [go_sem, Nat.reduceMul, Nat.reduceLeDiff, Nat.reduceLT, reduceIte, reduceCtorEq, Nat.reduceEqDiff, Nat.reduceSub, Nat.reduceAdd] <;> rfl) (by first | rfl | (simp only [go_sem, Nat.reduceMul, Nat.reduceLeDiff, Nat.reduceLT, reduceIte, reduceCtorEq, Nat.reduceEqDiff, Nat.reduceSub, Nat.reduceAdd] <;> rfl)) rfl rfl ?_
  simp only [Tryz.results20, go_sem, Nat.reduceMul, Nat.reduceLeDiff, Nat.reduceLT, reduceIte, reduceCtorEq, Nat.reduceEqDiff, Nat.reduceSub, Nat.reduceAdd]
  refine HereO.call T_ok rfl rfl (l02Text_spec M U (by omega) (fun x hx => by have := hsm.2 x hx; omega) (by omega)) (by simp only [go_sem, Nat.reduceMul, Nat.reduceLeDiff, Nat.reduceLT, reduceIte, reduceCtorEq, Nat.reduceEqDiff, Nat.reduceSub, Nat.reduceAdd, List.toList_toArray] <;> first | rfl | exact ⟨rfl, rfl⟩) rfl ?_
  simp only [Tryz.results20, go_sem, Nat.reduceMul, Nat.reduceLeDiff, Nat.reduceLT, reduceIte, reduceCtorEq, Nat.reduceEqDiff, Nat.reduceSub, Nat.reduceAdd]
  refine HereO.callM T_ok 18 [1145,200] rfl rfl (l01Next_spec bs hb 4 _ h0) (by simp only [go_sem, Nat.reduceMul, Nat.reduceLeDiff, Nat.reduceLT, reduceIte, reduceCtorEq, Nat.reduceEqDiff, Nat.reduceSub, Nat.reduceAdd, List.toList_toArray, ↓reduceIte]) rfl (by decide) (by decide) rfl rfl rfl (Nat.le_of_ble_eq_true rfl) ?_
  simp only [Tryz.results20, go_sem, Nat.reduceMul, Nat.reduceLeDiff, Nat.reduceLT, reduceIte, reduceCtorEq, Nat.reduceEqDiff, Nat.reduceSub, Nat.reduceAdd]
  refine ⟨fun h => ?_, fun h => ?_⟩
  · refine HereO.callM T_ok 22 [1145,200] rfl rfl (l01Damage_spec bs hb (strB (txtM M U)) (by omega) _ h5) (by simp only [go_sem, Nat.reduceMul, Nat.reduceLeDiff, Nat.reduceLT, reduceIte, reduceCtorEq, Nat.reduceEqDiff, Nat.reduceSub, Nat.reduceAdd, List.toList_toArray, ↓reduceIte]) rfl (by decide) (by decide) rfl rfl rfl (Nat.le_of_ble_eq_true rfl) ?_
    simp only [Tryz.results20, go_sem, Nat.reduceMul, Nat.reduceLeDiff, Nat.reduceLT, reduceIte, reduceCtorEq, Nat.reduceEqDiff, Nat.reduceSub, Nat.reduceAdd]
    refine HereO.storeAgg T_ok rfl (by simp only [go_sem, Nat.reduceMul, Nat.reduceLeDiff, Nat.reduceLT, reduceIte, reduceCtorEq, Nat.reduceEqDiff, Nat.reduceSub, Nat.reduceAdd] <;> rfl) (by simp only [go_sem, Nat.reduceMul, Nat.reduceLeDiff, Nat.reduceLT, reduceIte, reduceCtorEq, Nat.reduceEqDiff, Nat.reduceSub, Nat.reduceAdd] <;> rfl) rfl (by simp only [go_sem, Nat.reduceMul, Nat.reduceLeDiff, Nat.reduceLT, reduceIte, reduceCtorEq, Nat.reduceEqDiff, Nat.reduceSub, Nat.reduceAdd] <;> rfl) (by first | rfl | (simp only [go_sem, Nat.reduceMul, Nat.reduceLeDiff, Nat.reduceLT, reduceIte, reduceCtorEq, Nat.reduceEqDiff, Nat.reduceSub, Nat.reduceAdd] <;> rfl)) rfl rfl ?_
    simp only [Tryz.results20, go_sem, Nat.reduceMul, Nat.reduceLeDiff, Nat.reduceLT, reduceIte, reduceCtorEq, Nat.reduceEqDiff, Nat.reduceSub, Nat.reduceAdd]
    refine RetF.of (res := gsR) (Q := fun y => y.2.size ≤ 1048576) ((spV bs (src0 bs)).1, (dmgV bs (strB (txtM M U)) (nx bs 4 (src0 bs)).2).1) (.tup [.agg [.own 0], .v (.string (dmgV bs (strB (txtM M U)) (nx bs 4 (src0 bs)).2).1)]) [.frz (II (spV bs (src0 bs)).1)] (by dsimp only; omega) rfl rfl rfl ?_
    refine RetC.of (RetT.one 1193 (by simp only [Tryz.results20, go_sem, Nat.reduceMul, Nat.reduceLeDiff, Nat.reduceLT, reduceIte, reduceCtorEq, Nat.reduceEqDiff, Nat.reduceSub, Nat.reduceAdd]; rfl) rfl ?_)
    (simp only [Tryz.results20, go_sem, Nat.reduceMul, Nat.reduceLeDiff, Nat.reduceLT, reduceIte, reduceCtorEq, Nat.reduceEqDiff, Nat.reduceSub, Nat.reduceAdd]) <;> rfl
  · refine HereO.storeAgg T_ok rfl (by simp only [go_sem, Nat.reduceMul, Nat.reduceLeDiff, Nat.reduceLT, reduceIte, reduceCtorEq, Nat.reduceEqDiff, Nat.reduceSub, Nat.reduceAdd] <;> rfl) (by simp only [go_sem, Nat.reduceMul, Nat.reduceLeDiff, Nat.reduceLT, reduceIte, reduceCtorEq, Nat.reduceEqDiff, Nat.reduceSub, Nat.reduceAdd] <;> rfl) rfl (by simp only [go_sem, Nat.reduceMul, Nat.reduceLeDiff, Nat.reduceLT, reduceIte, reduceCtorEq, Nat.reduceEqDiff, Nat.reduceSub, Nat.reduceAdd] <;> rfl) (by first | rfl | (simp only [go_sem, Nat.reduceMul, Nat.reduceLeDiff, Nat.reduceLT, reduceIte, reduceCtorEq, Nat.reduceEqDiff, Nat.reduceSub, Nat.reduceAdd] <;> rfl)) rfl rfl ?_
    simp only [Tryz.results20, go_sem, Nat.reduceMul, Nat.reduceLeDiff, Nat.reduceLT, reduceIte, reduceCtorEq, Nat.reduceEqDiff, Nat.reduceSub, Nat.reduceAdd]
    refine RetF.of (res := gsR) (Q := fun y => y.2.size ≤ 1048576) ((spV bs (src0 bs)).1, strB (txtM M U)) (.tup [.agg [.own 0], .v (.string (strB (txtM M U)))]) [.frz (II (spV bs (src0 bs)).1)] (by dsimp only; omega) rfl rfl rfl ?_
    refine RetC.of (RetT.one 1193 (by simp only [Tryz.results20, go_sem, Nat.reduceMul, Nat.reduceLeDiff, Nat.reduceLT, reduceIte, reduceCtorEq, Nat.reduceEqDiff, Nat.reduceSub, Nat.reduceAdd]; rfl) rfl ?_)
    (simp only [Tryz.results20, go_sem, Nat.reduceMul, Nat.reduceLeDiff, Nat.reduceLT, reduceIte, reduceCtorEq, Nat.reduceEqDiff, Nat.reduceSub, Nat.reduceAdd]) <;> rfl
theorem modules9_spec (q : List (Int × List Int)) (hl : q.length ≤ 1099511627776) (hr : ∀ p ∈ q, p.2.length ≤ 1048576) : Spec Tryz.prog 8 [.rdA 2 (flat (lvq (mq q))), .rdA 2 (flat (lvq (mq q)))] (.v (.bool true)) [] := by
  refine Spec.of_code T_ok Tryz.func8 rfl Tryz.ntmps8 Tryz.call8 (Nat.le_of_ble_eq_true rfl) rfl rfl (CodeV_sound T_ok (by kernel_rfl) rfl ?_)
  simp only [Tryz.results8, go_sem, Nat.reduceMul, Nat.reduceLeDiff, Nat.reduceLT, reduceIte, reduceCtorEq, Nat.reduceEqDiff, Nat.reduceSub, Nat.reduceAdd]
  refine HereO.opP T_ok (OpP.lenA sl2_mods rfl rfl) ?_
  simp only [Tryz.results8, go_sem, Nat.reduceMul, Nat.reduceLeDiff, Nat.reduceLT, reduceIte, reduceCtorEq, Nat.reduceEqDiff, Nat.reduceSub, Nat.reduceAdd]
  refine HereO.opP T_ok (OpP.lenA sl2_mods rfl rfl) ?_
  simp only [Tryz.results8, go_sem, Nat.reduceMul, Nat.reduceLeDiff, Nat.reduceLT, reduceIte, reduceCtorEq, Nat.reduceEqDiff, Nat.reduceSub, Nat.reduceAdd]
  refine Here.loopV T_ok (κ := Nat) (fun i => i ≤ q.length) (fun i => q.length - i) (fun i => [(0, .rdA 2 (flat (lvq (mq q)))), (1, .rdA 2 (flat (lvq (mq q)))), (5, .v (.int .i64 i))]) (fun _ => []) 0 (by simp) (by simp only [Tryz.results8, go_sem, Nat.reduceMul, Nat.reduceLeDiff, Nat.reduceLT, reduceIte, reduceCtorEq, Nat.reduceEqDiff, Nat.reduceSub, Nat.reduceAdd]; simp) trivial ?_
  intro i hi
  simp only [Tryz.results8, go_sem, Nat.reduceMul, Nat.reduceLeDiff, Nat.reduceLT, reduceIte, reduceCtorEq, Nat.reduceEqDiff, Nat.reduceSub, Nat.reduceAdd]
  refine HereO.opP T_ok (OpP.lenA sl2_mods rfl rfl) ?_
  simp only [Tryz.results8, go_sem, Nat.reduceMul, Nat.reduceLeDiff, Nat.reduceLT, reduceIte, reduceCtorEq, Nat.reduceEqDiff, Nat.reduceSub, Nat.reduceAdd]
  rw [lvq_mq_len]
  refine ⟨fun h2 => ?_, fun h2 => ?_⟩
  · have hil : i < q.length := by omega
    refine Here.draw T_ok mixed_ok (by kernel_rfl) ?_
    simp only [Tryz.results8, go_sem, Nat.reduceMul, Nat.reduceLeDiff, Nat.reduceLT, reduceIte, reduceCtorEq, Nat.reduceEqDiff, Nat.reduceSub, Nat.reduceAdd]
    refine ⟨_, OpP.indexA sl2_mods rfl rfl rfl (lvq_at hil), ?_⟩
    simp only [Tryz.results8, go_sem, Nat.reduceMul, Nat.reduceLeDiff, Nat.reduceLT, reduceIte, reduceCtorEq, Nat.reduceEqDiff, Nat.reduceSub, Nat.reduceAdd]
    refine ⟨_, OpP.indexA sl2_mods rfl rfl rfl (lvq_at hil), ?_⟩
    simp only [Tryz.results8, go_sem, Nat.reduceMul, Nat.reduceLeDiff, Nat.reduceLT, reduceIte, reduceCtorEq, Nat.reduceEqDiff, Nat.reduceSub, Nat.reduceAdd]
    refine ⟨_, OpP.call' rfl rfl (module9_spec q[i].1 q[i].2 q[i].1 q[i].2 (hr _ (List.getElem_mem hil))) (by simp only [go_sem, Nat.reduceMul, Nat.reduceLeDiff, Nat.reduceLT, reduceIte, reduceCtorEq, Nat.reduceEqDiff, Nat.reduceSub, Nat.reduceAdd, List.toList_toArray] <;> first | rfl | exact ⟨rfl, rfl⟩) rfl, ?_⟩
    simp only [Tryz.results8, go_sem, Nat.reduceMul, Nat.reduceLeDiff, Nat.reduceLT, reduceIte, reduceCtorEq, Nat.reduceEqDiff, Nat.reduceSub, Nat.reduceAdd]
    exact ⟨by unfold InR; omega, i + 1, by omega, by omega, by push_cast; rfl⟩
  · trivial
end Go.Proofs.YtcjhojdlfnpgjaaGreatDoor
