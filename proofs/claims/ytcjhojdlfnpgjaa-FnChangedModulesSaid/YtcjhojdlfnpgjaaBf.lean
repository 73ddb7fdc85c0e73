/- Contracts: the draws of the laws of changed modules. -/
import Derived.Test.YtcjhojdlfnpgjaaBe
import Derived.Test.YtcjhojdlfnpgjaaWe
import Derived.Test.YtcjhojdlfnpgjaaEc
import Derived.Test.YtcjhojdlfnpgjaaDh
namespace Go.Proofs.Ytcjhojdlfnpgjaa
open Go.RowKit
set_option linter.unusedVariables false
set_option linter.unusedSimpArgs false
set_option maxRecDepth 100000

/-- A table and a module that are drawn, and a number. -/
def redR (y : List (List Int) × Int × List Int × Int) : LV := .tup [.agg [.rds (II y.1)], .agg [.v (.int .i64 y.2.1), .rd (I y.2.2.1)], .v (.int .i64 y.2.2.2)]
theorem DrawReduceModule_spec (bs : List Int) (hb : Bytes bs) : SpecF Try.prog 5 [.rd (BY bs)] redR (fun y => y.2.2.1.length ≤ 9) := by
  have h0 := src0_at bs
  obtain ⟨h1, h2⟩ := spV_ok hb h0
  have hmd := mdV_ok hb (spV bs (src0 bs)).1 h2
  obtain ⟨h3, h4⟩ := nrr_ok hb (m := 12) (by decide) h0
  refine SpecF.of_code T_ok Try.func5 rfl Try.ntmps5 Try.call5 (Nat.le_of_ble_eq_true rfl) (Here.conv (Conv.ghost 0 200 (by decide) rfl) (CodeV_sound T_ok (by kernel_rfl) rfl ?_))
  simp only [Try.results5, go_sem, Nat.reduceMul, Nat.reduceLeDiff, Nat.reduceLT, reduceIte, reduceCtorEq, Nat.reduceEqDiff, Nat.reduceSub, Nat.reduceAdd]
  refine HereO.alloc T_ok 102 rfl rfl (by decide) ?_
  simp only [Try.results5, go_sem, Nat.reduceMul, Nat.reduceLeDiff, Nat.reduceLT, reduceIte, reduceCtorEq, Nat.reduceEqDiff, Nat.reduceSub, Nat.reduceAdd]
  refine HereO.alloc T_ok 103 rfl rfl (by decide) ?_
  simp only [Try.results5, go_sem, Nat.reduceMul, Nat.reduceLeDiff, Nat.reduceLT, reduceIte, reduceCtorEq, Nat.reduceEqDiff, Nat.reduceSub, Nat.reduceAdd]
  refine HereO.callM T_ok 9 [200] rfl rfl (l01From_spec bs hb) (by simp only [go_sem, Nat.reduceMul, Nat.reduceLeDiff, Nat.reduceLT, reduceIte, reduceCtorEq, Nat.reduceEqDiff, Nat.reduceSub, Nat.reduceAdd, List.toList_toArray, ↓reduceIte]) rfl (by decide) (by decide) rfl rfl rfl (Nat.le_of_ble_eq_true rfl) ?_
  simp only [Try.results5, go_sem, Nat.reduceMul, Nat.reduceLeDiff, Nat.reduceLT, reduceIte, reduceCtorEq, Nat.reduceEqDiff, Nat.reduceSub, Nat.reduceAdd]
  refine HereO.callM T_ok 12 [200] rfl rfl (l02With_spec bs hb) (by simp only [go_sem, Nat.reduceMul, Nat.reduceLeDiff, Nat.reduceLT, reduceIte, reduceCtorEq, Nat.reduceEqDiff, Nat.reduceSub, Nat.reduceAdd, List.toList_toArray, ↓reduceIte]) rfl (by decide) (by decide) rfl rfl rfl (Nat.le_of_ble_eq_true rfl) ?_
  simp only [Try.results5, go_sem, Nat.reduceMul, Nat.reduceLeDiff, Nat.reduceLT, reduceIte, reduceCtorEq, Nat.reduceEqDiff, Nat.reduceSub, Nat.reduceAdd]
  refine HereO.alloc T_ok 106 rfl rfl (by decide) ?_
  simp only [Try.results5, go_sem, Nat.reduceMul, Nat.reduceLeDiff, Nat.reduceLT, reduceIte, reduceCtorEq, Nat.reduceEqDiff, Nat.reduceSub, Nat.reduceAdd]
  refine HereO.alloc T_ok 107 rfl rfl (by decide) ?_
  simp only [Try.results5, go_sem, Nat.reduceMul, Nat.reduceLeDiff, Nat.reduceLT, reduceIte, reduceCtorEq, Nat.reduceEqDiff, Nat.reduceSub, Nat.reduceAdd]
  refine HereO.storeAgg T_ok rfl (by simp only [go_sem, Nat.reduceMul, Nat.reduceLeDiff, Nat.reduceLT, reduceIte, reduceCtorEq, Nat.reduceEqDiff, Nat.reduceSub, Nat.reduceAdd] <;> rfl) (by simp only [go_sem, Nat.reduceMul, Nat.reduceLeDiff, Nat.reduceLT, reduceIte, reduceCtorEq, Nat.reduceEqDiff, Nat.reduceSub, Nat.reduceAdd] <;> rfl) rfl (by simp only [go_sem, Nat.reduceMul, Nat.reduceLeDiff, Nat.reduceLT, reduceIte, reduceCtorEq, Nat.reduceEqDiff, Nat.reduceSub, Nat.reduceAdd] <;> rfl) (by first | rfl | (simp only [go_sem, Nat.reduceMul, Nat.reduceLeDiff, Nat.reduceLT, reduceIte, reduceCtorEq, Nat.reduceEqDiff, Nat.reduceSub, Nat.reduceAdd] <;> rfl)) rfl rfl ?_
  simp only [Try.results5, go_sem, Nat.reduceMul, Nat.reduceLeDiff, Nat.reduceLT, reduceIte, reduceCtorEq, Nat.reduceEqDiff, Nat.reduceSub, Nat.reduceAdd]
  refine HereO.storeAgg T_ok rfl (by simp only [go_sem, Nat.reduceMul, Nat.reduceLeDiff, Nat.reduceLT, reduceIte, reduceCtorEq, Nat.reduceEqDiff, Nat.reduceSub, Nat.reduceAdd] <;> rfl) (by simp only [go_sem, Nat.reduceMul, Nat.reduceLeDiff, Nat.reduceLT, reduceIte, reduceCtorEq, Nat.reduceEqDiff, Nat.reduceSub, Nat.reduceAdd] <;> rfl) rfl (by simp only [go_sem, Nat.reduceMul, Nat.reduceLeDiff, Nat.reduceLT, reduceIte, reduceCtorEq, Nat.reduceEqDiff, Nat.reduceSub, Nat.reduceAdd] <;> rfl) (by first | rfl | (simp only [go_sem, Nat.reduceMul, Nat.reduceLeDiff, Nat.reduceLT, reduceIte, reduceCtorEq, Nat.reduceEqDiff, Nat.reduceSub, Nat.reduceAdd] <;> rfl)) rfl rfl ?_
  simp only [Try.results5, go_sem, Nat.reduceMul, Nat.reduceLeDiff, Nat.reduceLT, reduceIte, reduceCtorEq, Nat.reduceEqDiff, Nat.reduceSub, Nat.reduceAdd]
  refine Here.drawC T_ok [.f, .f, .f, .f, .f, .f, .c, .p, .c, .c, .c, .p] [6, 7, 5, 2, 3] [1336, 1337, 1338, 1339, 1340, 1341, 1342, 1343, 1344, 1345, 1346, 1347, 1348, 1349, 1350, 1351, 1368, 1369, 1370, 1371, 1372, 1373, 1374, 1375, 1376, 1377, 1378, 1379, 1380, 1381, 1382, 1383] [106, 107] (Nat.le_of_ble_eq_true rfl) mixed_ok (by kernel_rfl) (by kernel_rfl) (by kernel_rfl) (by simp only [List.mem_cons, List.not_mem_nil, or_false, forall_eq_or_imp, forall_eq, go_sem, Nat.reduceMul, Nat.reduceLeDiff, Nat.reduceLT, reduceIte, reduceCtorEq, Nat.reduceEqDiff, Nat.reduceSub, Nat.reduceAdd] <;> first | exact calm_ptr_ne rfl | exact calm_ne rfl | exact ⟨calm_ptr_ne rfl, calm_ptr_ne rfl⟩ | exact ⟨calm_ptr_ne rfl, calm_ptr_ne rfl, calm_ptr_ne rfl⟩ | exact ⟨calm_ptr_ne rfl, calm_knot (by simp only [go_sem, Nat.reduceMul, Nat.reduceLeDiff, Nat.reduceLT, reduceIte, reduceCtorEq, Nat.reduceEqDiff, Nat.reduceSub, Nat.reduceAdd] <;> exact calm_ptr_ne rfl)⟩ | ((repeat' apply And.intro) <;> first | exact calm_ptr_ne rfl | exact calm_ne rfl)) ?_
  simp only [Try.results5, go_sem, Nat.reduceMul, Nat.reduceLeDiff, Nat.reduceLT, reduceIte, reduceCtorEq, Nat.reduceEqDiff, Nat.reduceSub, Nat.reduceAdd]
  refine HereF.loadAgg T_ok (id := 106) (tt := 26) (c := [.own 1193]) rfl (by simp only [go_sem, Nat.reduceMul, Nat.reduceLeDiff, Nat.reduceLT, reduceIte, reduceCtorEq, Nat.reduceEqDiff, Nat.reduceSub, Nat.reduceAdd] <;> rfl) (by kernel_rfl) rfl (by decide) (by simp only [go_sem, Nat.reduceMul, Nat.reduceLeDiff, Nat.reduceLT, reduceIte, reduceCtorEq, Nat.reduceEqDiff, Nat.reduceSub, Nat.reduceAdd] <;> rfl) rfl (calm_agg1 (calm_ne rfl)) ?_
  simp only [Try.results5, go_sem, Nat.reduceMul, Nat.reduceLeDiff, Nat.reduceLT, reduceIte, reduceCtorEq, Nat.reduceEqDiff, Nat.reduceSub, Nat.reduceAdd]
  refine HereF.loadAgg T_ok (id := 107) (tt := 29) (c := [.v (.int .i64 (mdV bs (spV bs (src0 bs)).1 (spV bs (src0 bs)).2).1), .own 1194]) rfl (by simp only [go_sem, Nat.reduceMul, Nat.reduceLeDiff, Nat.reduceLT, reduceIte, reduceCtorEq, Nat.reduceEqDiff, Nat.reduceSub, Nat.reduceAdd] <;> rfl) (by kernel_rfl) rfl (by decide) (by simp only [go_sem, Nat.reduceMul, Nat.reduceLeDiff, Nat.reduceLT, reduceIte, reduceCtorEq, Nat.reduceEqDiff, Nat.reduceSub, Nat.reduceAdd] <;> rfl) rfl (calm_agg2 (by rw [calm_v]; trivial) (calm_ne rfl)) ?_
  simp only [Try.results5, go_sem, Nat.reduceMul, Nat.reduceLeDiff, Nat.reduceLT, reduceIte, reduceCtorEq, Nat.reduceEqDiff, Nat.reduceSub, Nat.reduceAdd]
  refine ⟨calm_ptr_ne rfl, calm_ptr_ne rfl, ?_⟩
  refine HereF.load T_ok (id := 107) (tt := 29) (c := [.v (.int .i64 (mdV bs (spV bs (src0 bs)).1 (spV bs (src0 bs)).2).1), .own 1194]) (off := 0) (y := .v (.int .i64 (mdV bs (spV bs (src0 bs)).1 (spV bs (src0 bs)).2).1)) rfl (by simp only [go_sem, Nat.reduceMul, Nat.reduceLeDiff, Nat.reduceLT, reduceIte, reduceCtorEq, Nat.reduceEqDiff, Nat.reduceSub, Nat.reduceAdd] <;> rfl) (by kernel_rfl) rfl (by decide) (by simp only [go_sem, Nat.reduceMul, Nat.reduceLeDiff, Nat.reduceLT, reduceIte, reduceCtorEq, Nat.reduceEqDiff, Nat.reduceSub, Nat.reduceAdd] <;> rfl) rfl (by first | exact calm_ne rfl | (rw [calm_v]; trivial)) ?_
  simp only [Try.results5, go_sem, Nat.reduceMul, Nat.reduceLeDiff, Nat.reduceLT, reduceIte, reduceCtorEq, Nat.reduceEqDiff, Nat.reduceSub, Nat.reduceAdd]
  refine ⟨calm_ptr_ne rfl, ?_⟩
  refine HereC.callM 21 [1145, 200] rfl rfl (l01Near_spec bs hb 12 (by decide) _ h0) (by simp only [go_sem, Nat.reduceMul, Nat.reduceLeDiff, Nat.reduceLT, reduceIte, reduceCtorEq, Nat.reduceEqDiff, Nat.reduceSub, Nat.reduceAdd, List.toList_toArray, ↓reduceIte]) rfl (by decide) (by decide) rfl rfl rfl (Nat.le_of_ble_eq_true rfl) (inK_shift rfl) (by first | exact keeps_nil _ _ | (simp only [keeps_cons, keeps_nil', go_sem, Nat.reduceMul, Nat.reduceLeDiff, Nat.reduceLT, reduceIte, reduceCtorEq, Nat.reduceEqDiff, Nat.reduceSub, Nat.reduceAdd] <;> first | rfl | exact ⟨rfl, rfl⟩)) ?_
  simp only [Try.results5, go_sem, Nat.reduceMul, Nat.reduceLeDiff, Nat.reduceLT, reduceIte, reduceCtorEq, Nat.reduceEqDiff, Nat.reduceSub, Nat.reduceAdd]
  refine ⟨_, OpP.buildRd T_ok (I [2, 3, 4, 6, (mdV bs (spV bs (src0 bs)).1 (spV bs (src0 bs)).2).1, (nrr bs 12 (src0 bs)).1]) rfl rfl rfl (by decide) rfl (by first | rfl | (simp only [go_sem, Nat.reduceMul, Nat.reduceLeDiff, Nat.reduceLT, reduceIte, reduceCtorEq, Nat.reduceEqDiff, Nat.reduceSub, Nat.reduceAdd] <;> rfl)) rfl, ?_⟩
  simp only [Try.results5, go_sem, Nat.reduceMul, Nat.reduceLeDiff, Nat.reduceLT, reduceIte, reduceCtorEq, Nat.reduceEqDiff, Nat.reduceSub, Nat.reduceAdd]
  refine HereC.callM 23 [1145, 200] rfl rfl (l01Pick_spec bs hb [2, 3, 4, 6, (mdV bs (spV bs (src0 bs)).1 (spV bs (src0 bs)).2).1, (nrr bs 12 (src0 bs)).1] ⟨by simp, by simp⟩ _ h4) (by simp only [go_sem, Nat.reduceMul, Nat.reduceLeDiff, Nat.reduceLT, reduceIte, reduceCtorEq, Nat.reduceEqDiff, Nat.reduceSub, Nat.reduceAdd, List.toList_toArray, ↓reduceIte]) rfl (by decide) (by decide) rfl rfl rfl (Nat.le_of_ble_eq_true rfl) (inK_shift rfl) (by first | exact keeps_nil _ _ | (simp only [keeps_cons, keeps_nil', go_sem, Nat.reduceMul, Nat.reduceLeDiff, Nat.reduceLT, reduceIte, reduceCtorEq, Nat.reduceEqDiff, Nat.reduceSub, Nat.reduceAdd] <;> first | rfl | exact ⟨rfl, rfl⟩)) ?_
  simp only [Try.results5, go_sem, Nat.reduceMul, Nat.reduceLeDiff, Nat.reduceLT, reduceIte, reduceCtorEq, Nat.reduceEqDiff, Nat.reduceSub, Nat.reduceAdd]
  refine HereC.storeAgg T_ok rfl (by simp only [go_sem, Nat.reduceMul, Nat.reduceLeDiff, Nat.reduceLT, reduceIte, reduceCtorEq, Nat.reduceEqDiff, Nat.reduceSub, Nat.reduceAdd] <;> rfl) (by simp only [go_sem, Nat.reduceMul, Nat.reduceLeDiff, Nat.reduceLT, reduceIte, reduceCtorEq, Nat.reduceEqDiff, Nat.reduceSub, Nat.reduceAdd] <;> rfl) rfl (by simp only [go_sem, Nat.reduceMul, Nat.reduceLeDiff, Nat.reduceLT, reduceIte, reduceCtorEq, Nat.reduceEqDiff, Nat.reduceSub, Nat.reduceAdd] <;> rfl) (by first | rfl | (simp only [go_sem, Nat.reduceMul, Nat.reduceLeDiff, Nat.reduceLT, reduceIte, reduceCtorEq, Nat.reduceEqDiff, Nat.reduceSub, Nat.reduceAdd] <;> rfl)) rfl rfl (by first | exact keeps_nil _ _ | (simp only [keeps_cons, keeps_nil', go_sem, Nat.reduceMul, Nat.reduceLeDiff, Nat.reduceLT, reduceIte, reduceCtorEq, Nat.reduceEqDiff, Nat.reduceSub, Nat.reduceAdd] <;> rfl)) ?_
  simp only [Try.results5, go_sem, Nat.reduceMul, Nat.reduceLeDiff, Nat.reduceLT, reduceIte, reduceCtorEq, Nat.reduceEqDiff, Nat.reduceSub, Nat.reduceAdd]
  refine HereC.storeAgg T_ok rfl (by simp only [go_sem, Nat.reduceMul, Nat.reduceLeDiff, Nat.reduceLT, reduceIte, reduceCtorEq, Nat.reduceEqDiff, Nat.reduceSub, Nat.reduceAdd] <;> rfl) (by simp only [go_sem, Nat.reduceMul, Nat.reduceLeDiff, Nat.reduceLT, reduceIte, reduceCtorEq, Nat.reduceEqDiff, Nat.reduceSub, Nat.reduceAdd] <;> rfl) rfl (by simp only [go_sem, Nat.reduceMul, Nat.reduceLeDiff, Nat.reduceLT, reduceIte, reduceCtorEq, Nat.reduceEqDiff, Nat.reduceSub, Nat.reduceAdd] <;> rfl) (by first | rfl | (simp only [go_sem, Nat.reduceMul, Nat.reduceLeDiff, Nat.reduceLT, reduceIte, reduceCtorEq, Nat.reduceEqDiff, Nat.reduceSub, Nat.reduceAdd] <;> rfl)) rfl rfl (by first | exact keeps_nil _ _ | (simp only [keeps_cons, keeps_nil', go_sem, Nat.reduceMul, Nat.reduceLeDiff, Nat.reduceLT, reduceIte, reduceCtorEq, Nat.reduceEqDiff, Nat.reduceSub, Nat.reduceAdd] <;> rfl)) ?_
  simp only [Try.results5, go_sem, Nat.reduceMul, Nat.reduceLeDiff, Nat.reduceLT, reduceIte, reduceCtorEq, Nat.reduceEqDiff, Nat.reduceSub, Nat.reduceAdd]
  refine RetF.of (res := redR) (Q := fun y => y.2.2.1.length ≤ 9) ((spV bs (src0 bs)).1, (mdV bs (spV bs (src0 bs)).1 (spV bs (src0 bs)).2).1, (mdV bs (spV bs (src0 bs)).1 (spV bs (src0 bs)).2).2.1, (pk bs [2, 3, 4, 6, (mdV bs (spV bs (src0 bs)).1 (spV bs (src0 bs)).2).1, (nrr bs 12 (src0 bs)).1] (nrr bs 12 (src0 bs)).2).1) (.tup [.agg [.own 0], .agg [.v (.int .i64 (mdV bs (spV bs (src0 bs)).1 (spV bs (src0 bs)).2).1), .own 1], .v (.int .i64 (pk bs [2, 3, 4, 6, (mdV bs (spV bs (src0 bs)).1 (spV bs (src0 bs)).2).1, (nrr bs 12 (src0 bs)).1] (nrr bs 12 (src0 bs)).2).1)]) [.frz (II (spV bs (src0 bs)).1), .row 2 (I (mdV bs (spV bs (src0 bs)).1 (spV bs (src0 bs)).2).2.1)] hmd.1.2 rfl rfl rfl ?_
  refine RetC.of (RetT.two 1193 1194 (by decide) (by simp only [Try.results5, go_sem, Nat.reduceMul, Nat.reduceLeDiff, Nat.reduceLT, reduceIte, reduceCtorEq, Nat.reduceEqDiff, Nat.reduceSub, Nat.reduceAdd]; rfl) rfl ?_ ?_)
  · (simp only [Try.results5, go_sem, Nat.reduceMul, Nat.reduceLeDiff, Nat.reduceLT, reduceIte, reduceCtorEq, Nat.reduceEqDiff, Nat.reduceSub, Nat.reduceAdd]) <;> rfl
  · (simp only [Try.results5, go_sem, Nat.reduceMul, Nat.reduceLeDiff, Nat.reduceLT, reduceIte, reduceCtorEq, Nat.reduceEqDiff, Nat.reduceSub, Nat.reduceAdd]) <;> rfl
end Go.Proofs.Ytcjhojdlfnpgjaa

namespace Go.Proofs.Ytcjhojdlfnpgjaa
open Go.RowKit
set_option linter.unusedVariables false
set_option linter.unusedSimpArgs false
set_option maxRecDepth 100000

theorem RRow.len' {F : Nat → Prop} {w : World} : ∀ {t : List (List Value)} {hs : List Value}, RRow F w t hs → hs.length = t.length
  | [], _, h => by simp only [RRow] at h; subst h; rfl
  | _ :: _, _, h => by
    obtain ⟨_, _, rfl, _, h2⟩ := h
    simp [h2.len']
theorem OpP.lenFrz {P : Program} {T : TT} (hT : T.Ok P) {o : Oper} {ρ : Operand → LV} {σ : Nat → Option OC} {t e : Nat} {z : Value} {bts : Nat} {x : Operand} {id : Nat} {q : List (List Value)} (ho : o.op = .call { callee := .builtin .len, args := #[x], argTypes := #[t] }) (ht : T.el t = some (e, z, bts)) (hx : ρ x = .own id) (hσ : σ id = some (.frz q)) : OpP P o ρ σ (.v (.int .i64 q.length)) := by
  intro w0 w ι fp s f hI hS hρ
  obtain ⟨hu, _⟩ := hT.el t e z bts ht
  have hv := hI.ev x
  rw [hρ x (by simp [ho, Op.operands, Call.operands]), hx] at hv
  simp only [LRel] at hv
  obtain ⟨v, y0, h1, h2, h3, _⟩ := hI.ob id _ (by rw [hS]; exact hσ)
  rw [hv] at h1
  simp only [Option.some.injEq] at h1
  simp only [RdsA, LRel] at h3
  obtain ⟨hs, ⟨A, c, e1, _⟩, h5⟩ := h3
  rw [e1, h5.len'] at h1
  have hue : P.underlying t = some (.slice (P.elem t)) := by
    have : P.elem t = e := by simp [Program.elem, hu]
    rw [this]; exact hu
  have hr : (execOp (evV f) o).run P w = .ok (.value (.int .i64 q.length)) w := by
    simp only [execOp, ho, resolve, invoke, builtin, Sem.run_bind, Sem.run_pure, Result.andThen_ok, List.map_toArray, List.map_cons, List.map_nil, h1]
    simp [run_len_slice _ _ _ _ _ _ hue, goInt]
  rw [hr]
  exact .value _ s _ w ι fp hI (by simp only [LRel]) ⟨rfl, rfl⟩
theorem RetT.three {T : TT} {results : Array ResultVar} {r : LV} {s : St} {rs : List LV} {a b c : OC} (m m2 m3 : Nat) (hm : [m, m2, m3].Nodup) (h : resLs T s results.toList = some rs) (h2 : tupL rs = ren (fun i => [m, m2, m3].getD i 0) r) (h3 : s.σ m = some a) (h4 : s.σ m2 = some b) (h5 : s.σ m3 = some c) : RetT T results r [a, b, c] s :=
  ⟨rs, [m, m2, m3], h, h2, rfl, hm, fun i oc' hi => by
    match i with
    | 0 => simp at hi; subst hi; simpa using h3
    | 1 => simp at hi; subst hi; simpa using h4
    | 2 => simp at hi; subst hi; simpa using h5
    | i + 3 => simp at hi⟩
theorem RetT.four {T : TT} {results : Array ResultVar} {r : LV} {s : St} {rs : List LV} {a b c d : OC} (m m2 m3 m4 : Nat) (hm : [m, m2, m3, m4].Nodup) (h : resLs T s results.toList = some rs) (h2 : tupL rs = ren (fun i => [m, m2, m3, m4].getD i 0) r) (h3 : s.σ m = some a) (h4 : s.σ m2 = some b) (h5 : s.σ m3 = some c) (h6 : s.σ m4 = some d) : RetT T results r [a, b, c, d] s :=
  ⟨rs, [m, m2, m3, m4], h, h2, rfl, hm, fun i oc' hi => by
    match i with
    | 0 => simp at hi; subst hi; simpa using h3
    | 1 => simp at hi; subst hi; simpa using h4
    | 2 => simp at hi; subst hi; simpa using h5
    | 3 => simp at hi; subst hi; simpa using h6
    | i + 4 => simp at hi⟩
/-- What is behind a region is shown once. -/
theorem HereO.cutS {P : Program} {T : TT} {n : Nat} {all : Array Oper} {o : Oper} {l : List Oper} {s : St} {B : Code} {K : Kont} {ε : Type} (J : ε → Prop) (ev : ε → List (Nat × LV)) (eo : ε → List (Nat × OC))
    (h : HereO P T n all o l s (.back (fun s' => ∃ e, J e ∧ LeF s'.lf (ev e) ∧ LeO s'.σ (eo e)) K)) (hr : ∀ e, J e → HereV P T n B (mkS (ev e) (eo e)) K) : HereO P T n all o l s (.seq B K) := by
  intro hl hk
  simp only [okK, Bool.and_eq_true] at hk
  refine OpT.mono (h hl hk.2) fun r s' q => OpsT.mono q ?_
  rintro s2 ⟨e, hJ, h1, h2⟩
  exact CodeT.le (.mk' h1 h2) (hr e hJ hk.1 hk.2)
theorem HereV.cutK {P : Program} {T : TT} {n : Nat} {A B : Code} {s : St} {K : Kont} {ε : Type} (J : ε → Prop) (ev : ε → List (Nat × LV)) (eo : ε → List (Nat × OC))
    (h : HereV P T n A s (.back (fun s' => ∃ e, J e ∧ LeF s'.lf (ev e) ∧ LeO s'.σ (eo e)) K)) (hr : ∀ e, J e → HereV P T n B (mkS (ev e) (eo e)) K) : HereV P T n A s (.seq B K) := by
  intro hc hk
  simp only [okK, Bool.and_eq_true] at hk
  refine CodeT.mono (h hc hk.2) ?_ (fun _ _ q => q) (fun _ q => q)
  rintro s' ⟨e, hJ, h1, h2⟩
  exact CodeT.le (.mk' h1 h2) (hr e hJ hk.1 hk.2)
/-- Two tables, a list and a module that are drawn. -/
def rstR (y : List (List Int) × List (List Int) × List Int × Int × List Int) : LV := .tup [.agg [.rds (II y.1)], .agg [.rds (II y.2.1)], .rd (I y.2.2.1), .agg [.v (.int .i64 y.2.2.2.1), .rd (I y.2.2.2.2)]]
set_option maxHeartbeats 16000000 in
theorem DrawRestrictModule_spec (bs : List Int) (hb : Bytes bs) : SpecF Try.prog 9 [.rd (BY bs)] rstR (fun y => y.2.2.1.length ≤ 65 ∧ y.2.2.2.2.length ≤ 9) := by
  have h0 := src0_at bs
  obtain ⟨h1, h2⟩ := spV_ok hb h0
  have hmd := mdV_ok hb (spV bs (src0 bs)).1 h2
  obtain ⟨h3, h4⟩ := drG_ok hb (names := nmsS) (by decide) (fun k hk => (nmsS_fact k hk).2.1) h0
  generalize hmv : mdV bs (spV bs (src0 bs)).1 (spV bs (src0 bs)).2 = md at hmd
  have hmodel := l02With_spec bs hb
  rw [hmv] at hmodel
  generalize (spV bs (src0 bs)).1 = t at *
  have hsmall := l01Small_spec bs hb _ h0
  generalize drG bs nmsS (src0 bs) = dg at *
  have hd8 := h3.2.1
  refine SpecF.of_code T_ok Try.func9 rfl Try.ntmps9 Try.call9 (Nat.le_of_ble_eq_true rfl) (Here.conv (Conv.ghost 0 200 (by decide) rfl) (CodeV_sound T_ok (by kernel_rfl) rfl ?_))
  simp only [Try.results9, go_sem, Nat.reduceMul, Nat.reduceLeDiff, Nat.reduceLT, reduceIte, reduceCtorEq, Nat.reduceEqDiff, Nat.reduceSub, Nat.reduceAdd]
  refine HereO.alloc T_ok 102 rfl rfl (by decide) ?_
  simp only [Try.results9, go_sem, Nat.reduceMul, Nat.reduceLeDiff, Nat.reduceLT, reduceIte, reduceCtorEq, Nat.reduceEqDiff, Nat.reduceSub, Nat.reduceAdd]
  refine HereO.alloc T_ok 103 rfl rfl (by decide) ?_
  simp only [Try.results9, go_sem, Nat.reduceMul, Nat.reduceLeDiff, Nat.reduceLT, reduceIte, reduceCtorEq, Nat.reduceEqDiff, Nat.reduceSub, Nat.reduceAdd]
  refine HereO.alloc T_ok 105 rfl rfl (by decide) ?_
  simp only [Try.results9, go_sem, Nat.reduceMul, Nat.reduceLeDiff, Nat.reduceLT, reduceIte, reduceCtorEq, Nat.reduceEqDiff, Nat.reduceSub, Nat.reduceAdd]
  refine HereO.callM T_ok 18 [200] rfl rfl (l01From_spec bs hb) (by simp only [go_sem, Nat.reduceMul, Nat.reduceLeDiff, Nat.reduceLT, reduceIte, reduceCtorEq, Nat.reduceEqDiff, Nat.reduceSub, Nat.reduceAdd, List.toList_toArray, ↓reduceIte]) rfl (by decide) (by decide) rfl rfl rfl (Nat.le_of_ble_eq_true rfl) ?_
  simp only [Try.results9, go_sem, Nat.reduceMul, Nat.reduceLeDiff, Nat.reduceLT, reduceIte, reduceCtorEq, Nat.reduceEqDiff, Nat.reduceSub, Nat.reduceAdd]
  refine HereO.callM T_ok 21 [200] rfl rfl (hmodel) (by simp only [go_sem, Nat.reduceMul, Nat.reduceLeDiff, Nat.reduceLT, reduceIte, reduceCtorEq, Nat.reduceEqDiff, Nat.reduceSub, Nat.reduceAdd, List.toList_toArray, ↓reduceIte]) rfl (by decide) (by decide) rfl rfl rfl (Nat.le_of_ble_eq_true rfl) ?_
  simp only [Try.results9, go_sem, Nat.reduceMul, Nat.reduceLeDiff, Nat.reduceLT, reduceIte, reduceCtorEq, Nat.reduceEqDiff, Nat.reduceSub, Nat.reduceAdd]
  refine HereO.alloc T_ok 107 rfl rfl (by decide) ?_
  simp only [Try.results9, go_sem, Nat.reduceMul, Nat.reduceLeDiff, Nat.reduceLT, reduceIte, reduceCtorEq, Nat.reduceEqDiff, Nat.reduceSub, Nat.reduceAdd]
  refine HereO.alloc T_ok 108 rfl rfl (by decide) ?_
  simp only [Try.results9, go_sem, Nat.reduceMul, Nat.reduceLeDiff, Nat.reduceLT, reduceIte, reduceCtorEq, Nat.reduceEqDiff, Nat.reduceSub, Nat.reduceAdd]
  refine HereO.storeAgg T_ok rfl (by simp only [go_sem, Nat.reduceMul, Nat.reduceLeDiff, Nat.reduceLT, reduceIte, reduceCtorEq, Nat.reduceEqDiff, Nat.reduceSub, Nat.reduceAdd] <;> rfl) (by simp only [go_sem, Nat.reduceMul, Nat.reduceLeDiff, Nat.reduceLT, reduceIte, reduceCtorEq, Nat.reduceEqDiff, Nat.reduceSub, Nat.reduceAdd] <;> rfl) rfl (by simp only [go_sem, Nat.reduceMul, Nat.reduceLeDiff, Nat.reduceLT, reduceIte, reduceCtorEq, Nat.reduceEqDiff, Nat.reduceSub, Nat.reduceAdd] <;> rfl) (by first | rfl | (simp only [go_sem, Nat.reduceMul, Nat.reduceLeDiff, Nat.reduceLT, reduceIte, reduceCtorEq, Nat.reduceEqDiff, Nat.reduceSub, Nat.reduceAdd] <;> rfl)) rfl rfl ?_
  simp only [Try.results9, go_sem, Nat.reduceMul, Nat.reduceLeDiff, Nat.reduceLT, reduceIte, reduceCtorEq, Nat.reduceEqDiff, Nat.reduceSub, Nat.reduceAdd]
  refine HereO.storeAgg T_ok rfl (by simp only [go_sem, Nat.reduceMul, Nat.reduceLeDiff, Nat.reduceLT, reduceIte, reduceCtorEq, Nat.reduceEqDiff, Nat.reduceSub, Nat.reduceAdd] <;> rfl) (by simp only [go_sem, Nat.reduceMul, Nat.reduceLeDiff, Nat.reduceLT, reduceIte, reduceCtorEq, Nat.reduceEqDiff, Nat.reduceSub, Nat.reduceAdd] <;> rfl) rfl (by simp only [go_sem, Nat.reduceMul, Nat.reduceLeDiff, Nat.reduceLT, reduceIte, reduceCtorEq, Nat.reduceEqDiff, Nat.reduceSub, Nat.reduceAdd] <;> rfl) (by first | rfl | (simp only [go_sem, Nat.reduceMul, Nat.reduceLeDiff, Nat.reduceLT, reduceIte, reduceCtorEq, Nat.reduceEqDiff, Nat.reduceSub, Nat.reduceAdd] <;> rfl)) rfl rfl ?_
  simp only [Try.results9, go_sem, Nat.reduceMul, Nat.reduceLeDiff, Nat.reduceLT, reduceIte, reduceCtorEq, Nat.reduceEqDiff, Nat.reduceSub, Nat.reduceAdd]
  refine HereO.callM T_ok 25 [1289,200] rfl rfl (hsmall) (by simp only [go_sem, Nat.reduceMul, Nat.reduceLeDiff, Nat.reduceLT, reduceIte, reduceCtorEq, Nat.reduceEqDiff, Nat.reduceSub, Nat.reduceAdd, List.toList_toArray, ↓reduceIte]) rfl (by decide) (by decide) rfl rfl rfl (Nat.le_of_ble_eq_true rfl) ?_
  simp only [Try.results9, go_sem, Nat.reduceMul, Nat.reduceLeDiff, Nat.reduceLT, reduceIte, reduceCtorEq, Nat.reduceEqDiff, Nat.reduceSub, Nat.reduceAdd]
  refine HereO.alloc T_ok 109 rfl rfl (by decide) ?_
  simp only [Try.results9, go_sem, Nat.reduceMul, Nat.reduceLeDiff, Nat.reduceLT, reduceIte, reduceCtorEq, Nat.reduceEqDiff, Nat.reduceSub, Nat.reduceAdd]
  refine HereO.storeAgg T_ok rfl (by simp only [go_sem, Nat.reduceMul, Nat.reduceLeDiff, Nat.reduceLT, reduceIte, reduceCtorEq, Nat.reduceEqDiff, Nat.reduceSub, Nat.reduceAdd] <;> rfl) (by simp only [go_sem, Nat.reduceMul, Nat.reduceLeDiff, Nat.reduceLT, reduceIte, reduceCtorEq, Nat.reduceEqDiff, Nat.reduceSub, Nat.reduceAdd] <;> rfl) rfl (by simp only [go_sem, Nat.reduceMul, Nat.reduceLeDiff, Nat.reduceLT, reduceIte, reduceCtorEq, Nat.reduceEqDiff, Nat.reduceSub, Nat.reduceAdd] <;> rfl) (by first | rfl | (simp only [go_sem, Nat.reduceMul, Nat.reduceLeDiff, Nat.reduceLT, reduceIte, reduceCtorEq, Nat.reduceEqDiff, Nat.reduceSub, Nat.reduceAdd] <;> rfl)) rfl rfl ?_
  simp only [Try.results9, go_sem, Nat.reduceMul, Nat.reduceLeDiff, Nat.reduceLT, reduceIte, reduceCtorEq, Nat.reduceEqDiff, Nat.reduceSub, Nat.reduceAdd]
  refine HereO.buildRow T_ok 161 (I []) rfl rfl rfl (by decide) rfl (by first | rfl | (simp only [go_sem, Nat.reduceMul, Nat.reduceLeDiff, Nat.reduceLT, reduceIte, reduceCtorEq, Nat.reduceEqDiff, Nat.reduceSub, Nat.reduceAdd] <;> rfl)) rfl (by decide) ?_
  simp only [Try.results9, go_sem, Nat.reduceMul, Nat.reduceLeDiff, Nat.reduceLT, reduceIte, reduceCtorEq, Nat.reduceEqDiff, Nat.reduceSub, Nat.reduceAdd]
  refine HereO.opP T_ok (OpP.lenFrz T_ok (t := 24) (q := II t) (id := 1337) rfl rfl rfl rfl) ?_
  rw [II_len]
  simp only [Try.results9, go_sem, Nat.reduceMul, Nat.reduceLeDiff, Nat.reduceLT, reduceIte, reduceCtorEq, Nat.reduceEqDiff, Nat.reduceSub, Nat.reduceAdd]
  refine HereO.opP T_ok (OpP.max2 rfl rfl rfl) ?_
  have hnn : 1 ≤ (if (1 : Int) > (t.length : Int) then (1 : Int) else (t.length : Int)) ∧ (if (1 : Int) > (t.length : Int) then (1 : Int) else (t.length : Int)) ≤ 9 := by
    have := h1.1
    split <;> omega
  simp only [Try.results9, go_sem, Nat.reduceMul, Nat.reduceLeDiff, Nat.reduceLT, reduceIte, reduceCtorEq, Nat.reduceEqDiff, Nat.reduceSub, Nat.reduceAdd]
  have hnt : 1 ≤ t.length → (if (1 : Int) > (t.length : Int) then (1 : Int) else (t.length : Int)) = t.length := fun _ => by rw [if_neg (by omega)]
  generalize (if (1 : Int) > (t.length : Int) then (1 : Int) else (t.length : Int)) = nn at hnn hnt ⊢
  refine HereO.cutS (ε := Int × Int × Int) (fun e => At bs e.2) (fun e => [(2, .ptr 102 0), (3, .ptr 103 0), (5, .ptr 105 0), (6, .ptr 1289 0), (7, .ptr 107 0), (8, .ptr 108 0), (9, .ptr 109 0), (10, .own 161), (11, .v (.int .i64 nn)), (32, .v (.int .i64 e.1))])
    (fun e => [(102, .cells 26 [.v nilV]), (103, .cells 26 [.v nilV]), (105, .cells 29 [.v (.int .i64 0), .v nilV]), (1337, .frz (II t)), (1338, .row 2 (I md.2.1)), (107, .cells 26 [.own 1337]), (108, .cells 29 [.v (.int .i64 md.1), .own 1338]), (1402, .rows 27 2 (II dg.1)), (109, .cells 26 [.own 1402]), (161, .row 2 (I ([]))), (200, .ghost (BY bs)), (1289, .cells 71 [.own 200, .v (.int .i64 e.2.1), .v (.int .u64 e.2.2)])]) ?_ ?_
  · refine HereO.callM T_ok 32 [1289,200] rfl rfl (l01Next_spec bs hb 3 _ h4) (by simp only [go_sem, Nat.reduceMul, Nat.reduceLeDiff, Nat.reduceLT, reduceIte, reduceCtorEq, Nat.reduceEqDiff, Nat.reduceSub, Nat.reduceAdd, List.toList_toArray, ↓reduceIte]) rfl (by decide) (by decide) rfl rfl rfl (Nat.le_of_ble_eq_true rfl) ?_
    simp only [Try.results9, go_sem, Nat.reduceMul, Nat.reduceLeDiff, Nat.reduceLT, reduceIte, reduceCtorEq, Nat.reduceEqDiff, Nat.reduceSub, Nat.reduceAdd]
    exact ⟨((nx bs 3 dg.2).1, (nx bs 3 dg.2).2), (nx_ok hb 3 h4).2.2, rfl, ⟨rfl, rfl, rfl, rfl⟩⟩
  rintro ⟨c, s1, s2⟩ hs
  dsimp only at hs ⊢
  refine HereV.cutK (ε := Nat × List Int × Int × Int × List (List Int)) (fun e => e.2.1.length ≤ 64 ∧ At bs (e.2.2.1, e.2.2.2.1) ∧ (e.1 = 1337 ∨ e.1 = 1402 ∨ e.1 = 2152)) (fun _ => [(2, .ptr 102 0), (3, .ptr 103 0), (5, .ptr 105 0), (6, .ptr 1289 0), (7, .ptr 107 0), (8, .ptr 108 0), (9, .ptr 109 0), (10, .own 161)])
    (fun e => (102, .cells 26 [.v nilV]) :: (103, .cells 26 [.v nilV]) :: (105, .cells 29 [.v (.int .i64 0), .v nilV]) :: (1337, .frz (II t)) :: (1338, .row 2 (I md.2.1)) :: (107, .cells 26 [.own 1337]) :: (108, .cells 29 [.v (.int .i64 md.1), .own 1338]) :: (109, .cells 26 [.own e.1]) :: (161, .row 2 (I (e.2.1))) :: (200, .ghost (BY bs)) :: (1289, .cells 71 [.own 200, .v (.int .i64 e.2.2.1), .v (.int .u64 e.2.2.2.1)]) :: (if e.1 = 1337 then [] else [(e.1, .rows 27 2 (II e.2.2.2.2))])) (HereV.of T_ok ?_) ?_
  · simp only [Try.results9, go_sem, Nat.reduceMul, Nat.reduceLeDiff, Nat.reduceLT, reduceIte, reduceCtorEq, Nat.reduceEqDiff, Nat.reduceSub, Nat.reduceAdd]
    refine ⟨fun h7 => ?_, fun h7 => ?_⟩
    · refine HereO.storeAgg T_ok rfl (by simp only [go_sem, Nat.reduceMul, Nat.reduceLeDiff, Nat.reduceLT, reduceIte, reduceCtorEq, Nat.reduceEqDiff, Nat.reduceSub, Nat.reduceAdd] <;> rfl) (by simp only [go_sem, Nat.reduceMul, Nat.reduceLeDiff, Nat.reduceLT, reduceIte, reduceCtorEq, Nat.reduceEqDiff, Nat.reduceSub, Nat.reduceAdd] <;> rfl) rfl (by simp only [go_sem, Nat.reduceMul, Nat.reduceLeDiff, Nat.reduceLT, reduceIte, reduceCtorEq, Nat.reduceEqDiff, Nat.reduceSub, Nat.reduceAdd] <;> rfl) (by first | rfl | (simp only [go_sem, Nat.reduceMul, Nat.reduceLeDiff, Nat.reduceLT, reduceIte, reduceCtorEq, Nat.reduceEqDiff, Nat.reduceSub, Nat.reduceAdd] <;> rfl)) rfl rfl ?_
      simp only [Try.results9, go_sem, Nat.reduceMul, Nat.reduceLeDiff, Nat.reduceLT, reduceIte, reduceCtorEq, Nat.reduceEqDiff, Nat.reduceSub, Nat.reduceAdd]
      refine Here.loopV T_ok (κ := Nat × List Int) (fun g => (g.1 : Int) ≤ nn ∧ g.2.length = g.1) (fun g => nn.toNat - g.1) (fun g => [(2, .ptr 102 0), (3, .ptr 103 0), (5, .ptr 105 0), (6, .ptr 1289 0), (7, .ptr 107 0), (8, .ptr 108 0), (9, .ptr 109 0), (10, .own 161), (11, .v (.int .i64 nn)), (12, .v (.int .i64 g.1))])
        (fun g => [(102, .cells 26 [.v nilV]), (103, .cells 26 [.v nilV]), (105, .cells 29 [.v (.int .i64 0), .v nilV]), (1337, .frz (II t)), (1338, .row 2 (I md.2.1)), (107, .cells 26 [.own 1337]), (108, .cells 29 [.v (.int .i64 md.1), .own 1338]), (109, .cells 26 [.own 1337]), (161, .row 2 (I (g.2))), (200, .ghost (BY bs)), (1289, .cells 71 [.own 200, .v (.int .i64 s1), .v (.int .u64 s2)])]) (0, []) ⟨by simp; omega, rfl⟩ (by first | (simp only [Try.results9, go_sem, Nat.reduceMul, Nat.reduceLeDiff, Nat.reduceLT, reduceIte, reduceCtorEq, Nat.reduceEqDiff, Nat.reduceSub, Nat.reduceAdd]; done) | (simp only [Try.results9, go_sem, Nat.reduceMul, Nat.reduceLeDiff, Nat.reduceLT, reduceIte, reduceCtorEq, Nat.reduceEqDiff, Nat.reduceSub, Nat.reduceAdd]; simp [nilV])) (by first | (simp only [Try.results9, go_sem, Nat.reduceMul, Nat.reduceLeDiff, Nat.reduceLT, reduceIte, reduceCtorEq, Nat.reduceEqDiff, Nat.reduceSub, Nat.reduceAdd]; done) | (simp only [Try.results9, go_sem, Nat.reduceMul, Nat.reduceLeDiff, Nat.reduceLT, reduceIte, reduceCtorEq, Nat.reduceEqDiff, Nat.reduceSub, Nat.reduceAdd]; simp [nilV])) ?_
      rintro ⟨i, l⟩ ⟨hi, hl⟩
      dsimp only at hi hl ⊢
      simp only [Try.results9, go_sem, Nat.reduceMul, Nat.reduceLeDiff, Nat.reduceLT, reduceIte, reduceCtorEq, Nat.reduceEqDiff, Nat.reduceSub, Nat.reduceAdd]
      refine ⟨fun h9 => ?_, fun h9 => ?_⟩
      · refine HereO.buildRow T_ok 190 (I [(i : Int)]) rfl rfl rfl (by decide) rfl (by first | rfl | (simp only [go_sem, Nat.reduceMul, Nat.reduceLeDiff, Nat.reduceLT, reduceIte, reduceCtorEq, Nat.reduceEqDiff, Nat.reduceSub, Nat.reduceAdd] <;> rfl)) rfl (by decide) ?_
        simp only [Try.results9, go_sem, Nat.reduceMul, Nat.reduceLeDiff, Nat.reduceLT, reduceIte, reduceCtorEq, Nat.reduceEqDiff, Nat.reduceSub, Nat.reduceAdd]
        refine HereO.append T_ok (I [(i : Int)]) rfl rfl (by decide) (by simp only [go_sem, Nat.reduceMul, Nat.reduceLeDiff, Nat.reduceLT, reduceIte, reduceCtorEq, Nat.reduceEqDiff, Nat.reduceSub, Nat.reduceAdd] <;> rfl) (by decide) (by simp only [go_sem, Nat.reduceMul, Nat.reduceLeDiff, Nat.reduceLT, reduceIte, reduceCtorEq, Nat.reduceEqDiff, Nat.reduceSub, Nat.reduceAdd] <;> rfl) (by simp only [go_sem, Nat.reduceMul, Nat.reduceLeDiff, Nat.reduceLT, reduceIte, reduceCtorEq, Nat.reduceEqDiff, Nat.reduceSub, Nat.reduceAdd] <;> rfl) (.own 190 _ _ (by decide) (by simp only [go_sem, Nat.reduceMul, Nat.reduceLeDiff, Nat.reduceLT, reduceIte, reduceCtorEq, Nat.reduceEqDiff, Nat.reduceSub, Nat.reduceAdd] <;> rfl)) (I_one _) (by first | (simp only [II_len]; omega) | simp only [I_len, II_len, upTo_len, tab_len, cnt_len, List.length_append, List.length_cons, List.length_nil, List.length_replicate]; omega) ?_
        simp only [Try.results9, go_sem, Nat.reduceMul, Nat.reduceLeDiff, Nat.reduceLT, reduceIte, reduceCtorEq, Nat.reduceEqDiff, Nat.reduceSub, Nat.reduceAdd]
        rw [I_append]
        exact ⟨by unfold InR; omega, (i + 1, l ++ [(i : Int)]), ⟨by push_cast; omega, by simp [hl]⟩, by dsimp only; omega, by push_cast; rfl, rfl⟩
      · exact ⟨(1337, l, s1, s2, t), ⟨by dsimp only; omega, hs, .inl rfl⟩, by first | (simp [LeO]; done) | (simp [LeO, nilV]; done)⟩
    · refine ⟨fun h8 => ?_, fun h8 => ?_⟩
      · refine HereO.call T_ok rfl rfl (l01Is_spec t) (by simp only [go_sem, Nat.reduceMul, Nat.reduceLeDiff, Nat.reduceLT, reduceIte, reduceCtorEq, Nat.reduceEqDiff, Nat.reduceSub, Nat.reduceAdd, List.toList_toArray] <;> first | rfl | exact ⟨rfl, rfl⟩) rfl ?_
        simp only [Try.results9, go_sem, Nat.reduceMul, Nat.reduceLeDiff, Nat.reduceLT, reduceIte, reduceCtorEq, Nat.reduceEqDiff, Nat.reduceSub, Nat.reduceAdd]
        refine ⟨fun hg => ?_, fun hg => ?_⟩
        · obtain ⟨q1, q2, q3⟩ := nx_ok hb nn hs
          have hsp := l01Next_spec bs hb nn _ hs
          have ht8 := hg.2.1
          have ht1 := hg.1
          have q2 := q2 (by omega)
          rw [hnt (by omega)] at q2
          generalize nx bs nn (s1, s2) = q at *
          obtain ⟨x', s1', s2'⟩ := q
          dsimp only at q1 q2 q3 hsp
          obtain ⟨x, rfl⟩ := Int.eq_ofNat_of_zero_le q1
          refine HereO.callM T_ok 67 [1289,200] rfl rfl (hsp) (by simp only [go_sem, Nat.reduceMul, Nat.reduceLeDiff, Nat.reduceLT, reduceIte, reduceCtorEq, Nat.reduceEqDiff, Nat.reduceSub, Nat.reduceAdd, List.toList_toArray, ↓reduceIte]) rfl (by decide) (by decide) rfl rfl rfl (Nat.le_of_ble_eq_true rfl) ?_
          simp only [Try.results9, go_sem, Nat.reduceMul, Nat.reduceLeDiff, Nat.reduceLT, reduceIte, reduceCtorEq, Nat.reduceEqDiff, Nat.reduceSub, Nat.reduceAdd]
          have hxt : x < t.length := by omega
          refine HereO.call T_ok rfl rfl (l01Order_spec t hg x hxt) (by simp only [go_sem, Nat.reduceMul, Nat.reduceLeDiff, Nat.reduceLT, reduceIte, reduceCtorEq, Nat.reduceEqDiff, Nat.reduceSub, Nat.reduceAdd, List.toList_toArray] <;> first | rfl | exact ⟨rfl, rfl⟩) rfl ?_
          simp only [Try.results9, go_sem, Nat.reduceMul, Nat.reduceLeDiff, Nat.reduceLT, reduceIte, reduceCtorEq, Nat.reduceEqDiff, Nat.reduceSub, Nat.reduceAdd]
          obtain ⟨o1, o2, _⟩ := ordN_spec hg hxt
          refine HereO.callOwn T_ok 72 rfl rfl (l01Cyclic_spec (ordN t x) o1 (by omega)) (by simp only [go_sem, Nat.reduceMul, Nat.reduceLeDiff, Nat.reduceLT, reduceIte, reduceCtorEq, Nat.reduceEqDiff, Nat.reduceSub, Nat.reduceAdd, List.toList_toArray] <;> first | rfl | exact ⟨rfl, rfl⟩) rfl (by simp) rfl ?_
          simp only [Try.results9, go_sem, Nat.reduceMul, Nat.reduceLeDiff, Nat.reduceLT, reduceIte, reduceCtorEq, Nat.reduceEqDiff, Nat.reduceSub, Nat.reduceAdd]
          refine HereO.storeAgg T_ok rfl (by simp only [go_sem, Nat.reduceMul, Nat.reduceLeDiff, Nat.reduceLT, reduceIte, reduceCtorEq, Nat.reduceEqDiff, Nat.reduceSub, Nat.reduceAdd] <;> rfl) (by simp only [go_sem, Nat.reduceMul, Nat.reduceLeDiff, Nat.reduceLT, reduceIte, reduceCtorEq, Nat.reduceEqDiff, Nat.reduceSub, Nat.reduceAdd] <;> rfl) rfl (by simp only [go_sem, Nat.reduceMul, Nat.reduceLeDiff, Nat.reduceLT, reduceIte, reduceCtorEq, Nat.reduceEqDiff, Nat.reduceSub, Nat.reduceAdd] <;> rfl) (by first | rfl | (simp only [go_sem, Nat.reduceMul, Nat.reduceLeDiff, Nat.reduceLT, reduceIte, reduceCtorEq, Nat.reduceEqDiff, Nat.reduceSub, Nat.reduceAdd] <;> rfl)) rfl rfl ?_
          simp only [Try.results9, go_sem, Nat.reduceMul, Nat.reduceLeDiff, Nat.reduceLT, reduceIte, reduceCtorEq, Nat.reduceEqDiff, Nat.reduceSub, Nat.reduceAdd]
          refine Here.loopV T_ok (κ := Nat × List Int) (fun g => g.1 ≤ ordN t x ∧ g.2.length = g.1) (fun g => ordN t x - g.1) (fun g => [(2, .ptr 102 0), (3, .ptr 103 0), (5, .ptr 105 0), (6, .ptr 1289 0), (7, .ptr 107 0), (8, .ptr 108 0), (9, .ptr 109 0), (10, .own 161), (13, .v (.int .i64 x)), (14, .v (.int .i64 (ordN t x : Nat))), (15, .v (.int .i64 g.1))])
            (fun g => [(102, .cells 26 [.v nilV]), (103, .cells 26 [.v nilV]), (105, .cells 29 [.v (.int .i64 0), .v nilV]), (1337, .frz (II t)), (1338, .row 2 (I md.2.1)), (107, .cells 26 [.own 1337]), (108, .cells 29 [.v (.int .i64 md.1), .own 1338]), (2152, .rows 27 2 (II (tab (cycF (ordN t x)) (ordN t x) (ordN t x)))), (109, .cells 26 [.own 2152]), (161, .row 2 (I (g.2))), (200, .ghost (BY bs)), (1289, .cells 71 [.own 200, .v (.int .i64 s1'), .v (.int .u64 s2')])]) (0, []) ⟨by simp, rfl⟩ (by first | (simp only [Try.results9, go_sem, Nat.reduceMul, Nat.reduceLeDiff, Nat.reduceLT, reduceIte, reduceCtorEq, Nat.reduceEqDiff, Nat.reduceSub, Nat.reduceAdd]; done) | (simp only [Try.results9, go_sem, Nat.reduceMul, Nat.reduceLeDiff, Nat.reduceLT, reduceIte, reduceCtorEq, Nat.reduceEqDiff, Nat.reduceSub, Nat.reduceAdd]; simp [nilV])) (by first | (simp only [Try.results9, go_sem, Nat.reduceMul, Nat.reduceLeDiff, Nat.reduceLT, reduceIte, reduceCtorEq, Nat.reduceEqDiff, Nat.reduceSub, Nat.reduceAdd]; done) | (simp only [Try.results9, go_sem, Nat.reduceMul, Nat.reduceLeDiff, Nat.reduceLT, reduceIte, reduceCtorEq, Nat.reduceEqDiff, Nat.reduceSub, Nat.reduceAdd]; simp [nilV])) ?_
          rintro ⟨i, l⟩ ⟨hi, hl⟩
          dsimp only at hi hl ⊢
          simp only [Try.results9, go_sem, Nat.reduceMul, Nat.reduceLeDiff, Nat.reduceLT, reduceIte, reduceCtorEq, Nat.reduceEqDiff, Nat.reduceSub, Nat.reduceAdd]
          refine ⟨fun h9 => ?_, fun h9 => ?_⟩
          · refine HereO.call T_ok rfl rfl (l01Power_spec t hg x hxt i (by omega)) (by simp only [go_sem, Nat.reduceMul, Nat.reduceLeDiff, Nat.reduceLT, reduceIte, reduceCtorEq, Nat.reduceEqDiff, Nat.reduceSub, Nat.reduceAdd, List.toList_toArray] <;> first | rfl | exact ⟨rfl, rfl⟩) rfl ?_
            simp only [Try.results9, go_sem, Nat.reduceMul, Nat.reduceLeDiff, Nat.reduceLT, reduceIte, reduceCtorEq, Nat.reduceEqDiff, Nat.reduceSub, Nat.reduceAdd]
            refine HereO.buildRow T_ok 190 (I [((pwN t x ((i : Int) % (ordN t x : Nat)).toNat : Nat) : Int)]) rfl rfl rfl (by decide) rfl (by first | rfl | (simp only [go_sem, Nat.reduceMul, Nat.reduceLeDiff, Nat.reduceLT, reduceIte, reduceCtorEq, Nat.reduceEqDiff, Nat.reduceSub, Nat.reduceAdd] <;> rfl)) rfl (by decide) ?_
            simp only [Try.results9, go_sem, Nat.reduceMul, Nat.reduceLeDiff, Nat.reduceLT, reduceIte, reduceCtorEq, Nat.reduceEqDiff, Nat.reduceSub, Nat.reduceAdd]
            refine HereO.append T_ok (I [((pwN t x ((i : Int) % (ordN t x : Nat)).toNat : Nat) : Int)]) rfl rfl (by decide) (by simp only [go_sem, Nat.reduceMul, Nat.reduceLeDiff, Nat.reduceLT, reduceIte, reduceCtorEq, Nat.reduceEqDiff, Nat.reduceSub, Nat.reduceAdd] <;> rfl) (by decide) (by simp only [go_sem, Nat.reduceMul, Nat.reduceLeDiff, Nat.reduceLT, reduceIte, reduceCtorEq, Nat.reduceEqDiff, Nat.reduceSub, Nat.reduceAdd] <;> rfl) (by simp only [go_sem, Nat.reduceMul, Nat.reduceLeDiff, Nat.reduceLT, reduceIte, reduceCtorEq, Nat.reduceEqDiff, Nat.reduceSub, Nat.reduceAdd] <;> rfl) (.own 190 _ _ (by decide) (by simp only [go_sem, Nat.reduceMul, Nat.reduceLeDiff, Nat.reduceLT, reduceIte, reduceCtorEq, Nat.reduceEqDiff, Nat.reduceSub, Nat.reduceAdd] <;> rfl)) (I_one _) (by first | (simp only [II_len]; omega) | simp only [I_len, II_len, upTo_len, tab_len, cnt_len, List.length_append, List.length_cons, List.length_nil, List.length_replicate]; omega) ?_
            simp only [Try.results9, go_sem, Nat.reduceMul, Nat.reduceLeDiff, Nat.reduceLT, reduceIte, reduceCtorEq, Nat.reduceEqDiff, Nat.reduceSub, Nat.reduceAdd]
            rw [I_append]
            exact ⟨by unfold InR; omega, (i + 1, l ++ [((pwN t x ((i : Int) % (ordN t x : Nat)).toNat : Nat) : Int)]), ⟨by dsimp only; omega, by simp [hl]⟩, by dsimp only; omega, by push_cast; rfl, rfl⟩
          · exact ⟨(2152, l, s1', s2', tab (cycF (ordN t x)) (ordN t x) (ordN t x)), ⟨by dsimp only; omega, q3, .inr (.inr rfl)⟩, by first | (simp [LeO]; done) | (simp [LeO, nilV]; done)⟩
        · exact ⟨(1402, [], s1, s2, dg.1), ⟨by simp, hs, .inr (.inl rfl)⟩, by first | (simp [LeO]; done) | (simp [LeO, nilV]; done)⟩
      · refine Here.loopV T_ok (κ := Nat × List Int × Int × Int) (fun g => g.1 ≤ dg.1.length ∧ g.2.1.length = g.1 ∧ At bs g.2.2) (fun g => dg.1.length - g.1) (fun g => [(2, .ptr 102 0), (3, .ptr 103 0), (5, .ptr 105 0), (6, .ptr 1289 0), (7, .ptr 107 0), (8, .ptr 108 0), (9, .ptr 109 0), (10, .own 161), (11, .v (.int .i64 nn)), (16, .v (.int .i64 g.1))])
          (fun g => [(102, .cells 26 [.v nilV]), (103, .cells 26 [.v nilV]), (105, .cells 29 [.v (.int .i64 0), .v nilV]), (1337, .frz (II t)), (1338, .row 2 (I md.2.1)), (107, .cells 26 [.own 1337]), (108, .cells 29 [.v (.int .i64 md.1), .own 1338]), (1402, .rows 27 2 (II dg.1)), (109, .cells 26 [.own 1402]), (161, .row 2 (I (g.2.1))), (200, .ghost (BY bs)), (1289, .cells 71 [.own 200, .v (.int .i64 g.2.2.1), .v (.int .u64 g.2.2.2)])]) (0, [], s1, s2) ⟨by simp, rfl, hs⟩ (by first | (simp only [Try.results9, go_sem, Nat.reduceMul, Nat.reduceLeDiff, Nat.reduceLT, reduceIte, reduceCtorEq, Nat.reduceEqDiff, Nat.reduceSub, Nat.reduceAdd]; done) | (simp only [Try.results9, go_sem, Nat.reduceMul, Nat.reduceLeDiff, Nat.reduceLT, reduceIte, reduceCtorEq, Nat.reduceEqDiff, Nat.reduceSub, Nat.reduceAdd]; simp [nilV])) (by first | (simp only [Try.results9, go_sem, Nat.reduceMul, Nat.reduceLeDiff, Nat.reduceLT, reduceIte, reduceCtorEq, Nat.reduceEqDiff, Nat.reduceSub, Nat.reduceAdd]; done) | (simp only [Try.results9, go_sem, Nat.reduceMul, Nat.reduceLeDiff, Nat.reduceLT, reduceIte, reduceCtorEq, Nat.reduceEqDiff, Nat.reduceSub, Nat.reduceAdd]; simp [nilV])) ?_
        rintro ⟨i, l, s1, s2⟩ ⟨hi, hl, hs⟩
        dsimp only at hi hl hs ⊢
        obtain ⟨a1, a2, a3⟩ := nx_ok hb nn hs
        obtain ⟨b1, b2, b3⟩ := nx_ok hb 2 a3
        have a2 := a2 (by omega)
        have b2 := b2 (by omega)
        simp only [Try.results9, go_sem, Nat.reduceMul, Nat.reduceLeDiff, Nat.reduceLT, reduceIte, reduceCtorEq, Nat.reduceEqDiff, Nat.reduceSub, Nat.reduceAdd]
        refine ⟨fun h9 => ?_, fun h9 => ?_⟩
        · refine HereO.callM T_ok 43 [1289,200] rfl rfl (l01Next_spec bs hb nn _ hs) (by simp only [go_sem, Nat.reduceMul, Nat.reduceLeDiff, Nat.reduceLT, reduceIte, reduceCtorEq, Nat.reduceEqDiff, Nat.reduceSub, Nat.reduceAdd, List.toList_toArray, ↓reduceIte]) rfl (by decide) (by decide) rfl rfl rfl (Nat.le_of_ble_eq_true rfl) ?_
          simp only [Try.results9, go_sem, Nat.reduceMul, Nat.reduceLeDiff, Nat.reduceLT, reduceIte, reduceCtorEq, Nat.reduceEqDiff, Nat.reduceSub, Nat.reduceAdd]
          refine HereO.callM T_ok 45 [1289,200] rfl rfl (l01Next_spec bs hb 2 _ a3) (by simp only [go_sem, Nat.reduceMul, Nat.reduceLeDiff, Nat.reduceLT, reduceIte, reduceCtorEq, Nat.reduceEqDiff, Nat.reduceSub, Nat.reduceAdd, List.toList_toArray, ↓reduceIte]) rfl (by decide) (by decide) rfl rfl rfl (Nat.le_of_ble_eq_true rfl) ?_
          simp only [Try.results9, go_sem, Nat.reduceMul, Nat.reduceLeDiff, Nat.reduceLT, reduceIte, reduceCtorEq, Nat.reduceEqDiff, Nat.reduceSub, Nat.reduceAdd]
          refine ⟨by
            have : (nx bs 2 (nx bs nn (s1, s2)).2).1 = 0 ∨ (nx bs 2 (nx bs nn (s1, s2)).2).1 = 1 := by omega
            rcases this with e | e <;> rw [e] <;> unfold InR <;> omega, ?_⟩
          refine HereO.buildRow T_ok 190 (I [((nx bs nn (s1, s2)).1 * (nx bs 2 (nx bs nn (s1, s2)).2).1)]) rfl rfl rfl (by decide) rfl (by first | rfl | (simp only [go_sem, Nat.reduceMul, Nat.reduceLeDiff, Nat.reduceLT, reduceIte, reduceCtorEq, Nat.reduceEqDiff, Nat.reduceSub, Nat.reduceAdd] <;> rfl)) rfl (by decide) ?_
          simp only [Try.results9, go_sem, Nat.reduceMul, Nat.reduceLeDiff, Nat.reduceLT, reduceIte, reduceCtorEq, Nat.reduceEqDiff, Nat.reduceSub, Nat.reduceAdd]
          refine HereO.append T_ok (I [((nx bs nn (s1, s2)).1 * (nx bs 2 (nx bs nn (s1, s2)).2).1)]) rfl rfl (by decide) (by simp only [go_sem, Nat.reduceMul, Nat.reduceLeDiff, Nat.reduceLT, reduceIte, reduceCtorEq, Nat.reduceEqDiff, Nat.reduceSub, Nat.reduceAdd] <;> rfl) (by decide) (by simp only [go_sem, Nat.reduceMul, Nat.reduceLeDiff, Nat.reduceLT, reduceIte, reduceCtorEq, Nat.reduceEqDiff, Nat.reduceSub, Nat.reduceAdd] <;> rfl) (by simp only [go_sem, Nat.reduceMul, Nat.reduceLeDiff, Nat.reduceLT, reduceIte, reduceCtorEq, Nat.reduceEqDiff, Nat.reduceSub, Nat.reduceAdd] <;> rfl) (.own 190 _ _ (by decide) (by simp only [go_sem, Nat.reduceMul, Nat.reduceLeDiff, Nat.reduceLT, reduceIte, reduceCtorEq, Nat.reduceEqDiff, Nat.reduceSub, Nat.reduceAdd] <;> rfl)) (I_one _) (by first | (simp only [II_len]; omega) | simp only [I_len, II_len, upTo_len, tab_len, cnt_len, List.length_append, List.length_cons, List.length_nil, List.length_replicate]; omega) ?_
          simp only [Try.results9, go_sem, Nat.reduceMul, Nat.reduceLeDiff, Nat.reduceLT, reduceIte, reduceCtorEq, Nat.reduceEqDiff, Nat.reduceSub, Nat.reduceAdd]
          rw [I_append]
          exact ⟨by unfold InR; omega, (i + 1, l ++ [((nx bs nn (s1, s2)).1 * (nx bs 2 (nx bs nn (s1, s2)).2).1)], (nx bs 2 (nx bs nn (s1, s2)).2).2), ⟨by dsimp only; omega, by simp [hl], b3⟩, by dsimp only; omega, by push_cast; rfl, rfl, rfl⟩
        · exact ⟨(1402, l, s1, s2, dg.1), ⟨by dsimp only; omega, hs, .inr (.inl rfl)⟩, by first | (simp [LeO]; done) | (simp [LeO, nilV]; done)⟩
  rintro ⟨hid, im, s1, s2, h⟩ ⟨him, hs, hh⟩
  dsimp only at him hs hh ⊢
  rcases hh with rfl | rfl | rfl
  · rw [if_pos rfl]
    refine HereV.of T_ok ?_
    simp only [Try.results9, go_sem, Nat.reduceMul, Nat.reduceLeDiff, Nat.reduceLT, reduceIte, reduceCtorEq, Nat.reduceEqDiff, Nat.reduceSub, Nat.reduceAdd]
    refine HereO.cutS (ε := Int × Int × Int) (fun e => At bs e.2) (fun e => [(2, .ptr 102 0), (3, .ptr 103 0), (5, .ptr 105 0), (6, .ptr 1289 0), (7, .ptr 107 0), (8, .ptr 108 0), (9, .ptr 109 0), (10, .own 161), (86, .v (.int .i64 e.1))])
      (fun e => [(102, .cells 26 [.v nilV]), (103, .cells 26 [.v nilV]), (105, .cells 29 [.v (.int .i64 0), .v nilV]), (1337, .frz (II t)), (1338, .row 2 (I md.2.1)), (107, .cells 26 [.own 1337]), (108, .cells 29 [.v (.int .i64 md.1), .own 1338]), (109, .cells 26 [.own 1337]), (161, .row 2 (I (im))), (200, .ghost (BY bs)), (1289, .cells 71 [.own 200, .v (.int .i64 e.2.1), .v (.int .u64 e.2.2)])]) ?_ ?_
    · refine HereO.callM T_ok 86 [1289,200] rfl rfl (l01Next_spec bs hb 24 _ hs) (by simp only [go_sem, Nat.reduceMul, Nat.reduceLeDiff, Nat.reduceLT, reduceIte, reduceCtorEq, Nat.reduceEqDiff, Nat.reduceSub, Nat.reduceAdd, List.toList_toArray, ↓reduceIte]) rfl (by decide) (by decide) rfl rfl rfl (Nat.le_of_ble_eq_true rfl) ?_
      simp only [Try.results9, go_sem, Nat.reduceMul, Nat.reduceLeDiff, Nat.reduceLT, reduceIte, reduceCtorEq, Nat.reduceEqDiff, Nat.reduceSub, Nat.reduceAdd]
      exact ⟨((nx bs 24 (s1, s2)).1, (nx bs 24 (s1, s2)).2), (nx_ok hb 24 hs).2.2, rfl, rfl⟩
    rintro ⟨c, s1, s2⟩ hs
    dsimp only at hs ⊢
    refine HereV.cutK (ε := List Int × Int × Int) (fun e => e.1.length ≤ 65) (fun _ => [(2, .ptr 102 0), (3, .ptr 103 0), (5, .ptr 105 0), (6, .ptr 1289 0), (7, .ptr 107 0), (8, .ptr 108 0), (9, .ptr 109 0), (10, .own 161)])
      (fun e => [(102, .cells 26 [.v nilV]), (103, .cells 26 [.v nilV]), (105, .cells 29 [.v (.int .i64 0), .v nilV]), (1337, .frz (II t)), (1338, .row 2 (I md.2.1)), (107, .cells 26 [.own 1337]), (108, .cells 29 [.v (.int .i64 md.1), .own 1338]), (109, .cells 26 [.own 1337]), (161, .row 2 (I (e.1))), (200, .ghost (BY bs)), (1289, .cells 71 [.own 200, .v (.int .i64 e.2.1), .v (.int .u64 e.2.2)])]) (HereV.of T_ok ?_) ?_
    · simp only [Try.results9, go_sem, Nat.reduceMul, Nat.reduceLeDiff, Nat.reduceLT, reduceIte, reduceCtorEq, Nat.reduceEqDiff, Nat.reduceSub, Nat.reduceAdd]
      refine ⟨fun h7 => ?_, fun h7 => ?_⟩
      · refine HereO.buildRow T_ok 190 (I [0]) rfl rfl rfl (by decide) rfl (by first | rfl | (simp only [go_sem, Nat.reduceMul, Nat.reduceLeDiff, Nat.reduceLT, reduceIte, reduceCtorEq, Nat.reduceEqDiff, Nat.reduceSub, Nat.reduceAdd] <;> rfl)) rfl (by decide) ?_
        simp only [Try.results9, go_sem, Nat.reduceMul, Nat.reduceLeDiff, Nat.reduceLT, reduceIte, reduceCtorEq, Nat.reduceEqDiff, Nat.reduceSub, Nat.reduceAdd]
        refine HereO.append T_ok (I [0]) rfl rfl (by decide) (by simp only [go_sem, Nat.reduceMul, Nat.reduceLeDiff, Nat.reduceLT, reduceIte, reduceCtorEq, Nat.reduceEqDiff, Nat.reduceSub, Nat.reduceAdd] <;> rfl) (by decide) (by simp only [go_sem, Nat.reduceMul, Nat.reduceLeDiff, Nat.reduceLT, reduceIte, reduceCtorEq, Nat.reduceEqDiff, Nat.reduceSub, Nat.reduceAdd] <;> rfl) (by simp only [go_sem, Nat.reduceMul, Nat.reduceLeDiff, Nat.reduceLT, reduceIte, reduceCtorEq, Nat.reduceEqDiff, Nat.reduceSub, Nat.reduceAdd] <;> rfl) (.own 190 _ _ (by decide) (by simp only [go_sem, Nat.reduceMul, Nat.reduceLeDiff, Nat.reduceLT, reduceIte, reduceCtorEq, Nat.reduceEqDiff, Nat.reduceSub, Nat.reduceAdd] <;> rfl)) (I_one _) (by first | (simp only [II_len]; omega) | simp only [I_len, II_len, upTo_len, tab_len, cnt_len, List.length_append, List.length_cons, List.length_nil, List.length_replicate]; omega) ?_
        simp only [Try.results9, go_sem, Nat.reduceMul, Nat.reduceLeDiff, Nat.reduceLT, reduceIte, reduceCtorEq, Nat.reduceEqDiff, Nat.reduceSub, Nat.reduceAdd]
        rw [I_append]
        exact ⟨(im ++ [0], s1, s2), by simp; omega, rfl, rfl⟩
      · refine ⟨fun h8 => ?_, fun h8 => ?_⟩
        · refine ⟨fun h9 => ?_, fun h9 => ?_⟩
          · refine HereO.buildRow T_ok 190 (I [-1, 8, 1]) rfl rfl rfl (by decide) rfl (by first | rfl | (simp only [go_sem, Nat.reduceMul, Nat.reduceLeDiff, Nat.reduceLT, reduceIte, reduceCtorEq, Nat.reduceEqDiff, Nat.reduceSub, Nat.reduceAdd] <;> rfl)) rfl (by decide) ?_
            simp only [Try.results9, go_sem, Nat.reduceMul, Nat.reduceLeDiff, Nat.reduceLT, reduceIte, reduceCtorEq, Nat.reduceEqDiff, Nat.reduceSub, Nat.reduceAdd]
            refine HereO.callM T_ok 100 [1289,200] rfl rfl (l01Pick_spec bs hb [-1, 8, 1] ⟨by simp, by simp⟩ _ hs) (by simp only [go_sem, Nat.reduceMul, Nat.reduceLeDiff, Nat.reduceLT, reduceIte, reduceCtorEq, Nat.reduceEqDiff, Nat.reduceSub, Nat.reduceAdd, List.toList_toArray, ↓reduceIte]) rfl (by decide) (by decide) rfl rfl rfl (Nat.le_of_ble_eq_true rfl) ?_
            simp only [Try.results9, go_sem, Nat.reduceMul, Nat.reduceLeDiff, Nat.reduceLT, reduceIte, reduceCtorEq, Nat.reduceEqDiff, Nat.reduceSub, Nat.reduceAdd]
            refine ⟨by omega, ?_⟩
            refine HereO.storeRow T_ok (vs := I im) (u := .int .i64 (pk bs [-1, 8, 1] (s1, s2)).1) rfl (by simp only [go_sem, Nat.reduceMul, Nat.reduceLeDiff, Nat.reduceLT, reduceIte, reduceCtorEq, Nat.reduceEqDiff, Nat.reduceSub, Nat.reduceAdd] <;> rfl) (by simp only [go_sem, Nat.reduceMul, Nat.reduceLeDiff, Nat.reduceLT, reduceIte, reduceCtorEq, Nat.reduceEqDiff, Nat.reduceSub, Nat.reduceAdd] <;> rfl) rfl (by simp only [go_sem, Nat.reduceMul, Nat.reduceLeDiff, Nat.reduceLT, reduceIte, reduceCtorEq, Nat.reduceEqDiff, Nat.reduceSub, Nat.reduceAdd] <;> rfl) rfl (by rw [I_len]; omega) ?_
            simp only [Try.results9, go_sem, Nat.reduceMul, Nat.reduceLeDiff, Nat.reduceLT, reduceIte, reduceCtorEq, Nat.reduceEqDiff, Nat.reduceSub, Nat.reduceAdd]
            rw [I_set]
            exact ⟨(im.set 0 (pk bs [-1, 8, 1] (s1, s2)).1, (pk bs [-1, 8, 1] (s1, s2)).2), by simp; omega, rfl, rfl⟩
          · exact ⟨(im, s1, s2), by dsimp only; omega, rfl, rfl⟩
        · exact ⟨(im, s1, s2), by dsimp only; omega, rfl, rfl⟩
    rintro ⟨im, s1, s2⟩ him
    dsimp only at him ⊢
    refine HereV.of T_ok ?_
    simp only [Try.results9, go_sem, Nat.reduceMul, Nat.reduceLeDiff, Nat.reduceLT, reduceIte, reduceCtorEq, Nat.reduceEqDiff, Nat.reduceSub, Nat.reduceAdd]
    refine Here.drawC T_ok [.f, .f, .f, .f, .c, .c, .p, .c] [9, 7, 10, 8] [] [107, 108, 109] (Nat.le_of_ble_eq_true rfl) mixed_ok (by kernel_rfl) (by kernel_rfl) (by kernel_rfl) (by simp only [List.mem_cons, List.not_mem_nil, or_false, forall_eq_or_imp, forall_eq, go_sem, Nat.reduceMul, Nat.reduceLeDiff, Nat.reduceLT, reduceIte, reduceCtorEq, Nat.reduceEqDiff, Nat.reduceSub, Nat.reduceAdd] <;> first | exact calm_ptr_ne rfl | exact calm_ne rfl | exact ⟨calm_ptr_ne rfl, calm_ptr_ne rfl⟩ | exact ⟨calm_ptr_ne rfl, calm_ptr_ne rfl, calm_ptr_ne rfl⟩ | exact ⟨calm_ptr_ne rfl, calm_knot (by simp only [go_sem, Nat.reduceMul, Nat.reduceLeDiff, Nat.reduceLT, reduceIte, reduceCtorEq, Nat.reduceEqDiff, Nat.reduceSub, Nat.reduceAdd] <;> exact calm_ptr_ne rfl)⟩ | ((repeat' apply And.intro) <;> first | exact calm_ptr_ne rfl | exact calm_ne rfl)) ?_
    simp only [Try.results9, go_sem, Nat.reduceMul, Nat.reduceLeDiff, Nat.reduceLT, reduceIte, reduceCtorEq, Nat.reduceEqDiff, Nat.reduceSub, Nat.reduceAdd]
    refine HereF.loadAgg T_ok (id := 109) (tt := 26) (c := [.own 1337]) rfl (by simp only [go_sem, Nat.reduceMul, Nat.reduceLeDiff, Nat.reduceLT, reduceIte, reduceCtorEq, Nat.reduceEqDiff, Nat.reduceSub, Nat.reduceAdd] <;> rfl) (by kernel_rfl) rfl (by decide) (by simp only [go_sem, Nat.reduceMul, Nat.reduceLeDiff, Nat.reduceLT, reduceIte, reduceCtorEq, Nat.reduceEqDiff, Nat.reduceSub, Nat.reduceAdd] <;> rfl) rfl (calm_agg1 (calm_ne rfl)) ?_
    simp only [Try.results9, go_sem, Nat.reduceMul, Nat.reduceLeDiff, Nat.reduceLT, reduceIte, reduceCtorEq, Nat.reduceEqDiff, Nat.reduceSub, Nat.reduceAdd]
    refine HereF.loadAgg T_ok (id := 107) (tt := 26) (c := [.own 1337]) rfl (by simp only [go_sem, Nat.reduceMul, Nat.reduceLeDiff, Nat.reduceLT, reduceIte, reduceCtorEq, Nat.reduceEqDiff, Nat.reduceSub, Nat.reduceAdd] <;> rfl) (by kernel_rfl) rfl (by decide) (by simp only [go_sem, Nat.reduceMul, Nat.reduceLeDiff, Nat.reduceLT, reduceIte, reduceCtorEq, Nat.reduceEqDiff, Nat.reduceSub, Nat.reduceAdd] <;> rfl) rfl (calm_agg1 (calm_ne rfl)) ?_
    simp only [Try.results9, go_sem, Nat.reduceMul, Nat.reduceLeDiff, Nat.reduceLT, reduceIte, reduceCtorEq, Nat.reduceEqDiff, Nat.reduceSub, Nat.reduceAdd]
    refine HereF.loadAgg T_ok (id := 108) (tt := 29) (c := [.v (.int .i64 md.1), .own 1338]) rfl (by simp only [go_sem, Nat.reduceMul, Nat.reduceLeDiff, Nat.reduceLT, reduceIte, reduceCtorEq, Nat.reduceEqDiff, Nat.reduceSub, Nat.reduceAdd] <;> rfl) (by kernel_rfl) rfl (by decide) (by simp only [go_sem, Nat.reduceMul, Nat.reduceLeDiff, Nat.reduceLT, reduceIte, reduceCtorEq, Nat.reduceEqDiff, Nat.reduceSub, Nat.reduceAdd] <;> rfl) rfl (calm_agg2 (by rw [calm_v]; trivial) (calm_ne rfl)) ?_
    simp only [Try.results9, go_sem, Nat.reduceMul, Nat.reduceLeDiff, Nat.reduceLT, reduceIte, reduceCtorEq, Nat.reduceEqDiff, Nat.reduceSub, Nat.reduceAdd]
    refine HereC.storeAgg T_ok rfl (by simp only [go_sem, Nat.reduceMul, Nat.reduceLeDiff, Nat.reduceLT, reduceIte, reduceCtorEq, Nat.reduceEqDiff, Nat.reduceSub, Nat.reduceAdd] <;> rfl) (by simp only [go_sem, Nat.reduceMul, Nat.reduceLeDiff, Nat.reduceLT, reduceIte, reduceCtorEq, Nat.reduceEqDiff, Nat.reduceSub, Nat.reduceAdd] <;> rfl) rfl (by simp only [go_sem, Nat.reduceMul, Nat.reduceLeDiff, Nat.reduceLT, reduceIte, reduceCtorEq, Nat.reduceEqDiff, Nat.reduceSub, Nat.reduceAdd] <;> rfl) (by first | rfl | (simp only [go_sem, Nat.reduceMul, Nat.reduceLeDiff, Nat.reduceLT, reduceIte, reduceCtorEq, Nat.reduceEqDiff, Nat.reduceSub, Nat.reduceAdd] <;> rfl)) rfl rfl (by first | exact keeps_nil _ _ | (simp only [keeps_cons, keeps_nil', go_sem, Nat.reduceMul, Nat.reduceLeDiff, Nat.reduceLT, reduceIte, reduceCtorEq, Nat.reduceEqDiff, Nat.reduceSub, Nat.reduceAdd] <;> rfl)) ?_
    simp only [Try.results9, go_sem, Nat.reduceMul, Nat.reduceLeDiff, Nat.reduceLT, reduceIte, reduceCtorEq, Nat.reduceEqDiff, Nat.reduceSub, Nat.reduceAdd]
    refine HereC.storeAgg T_ok rfl (by simp only [go_sem, Nat.reduceMul, Nat.reduceLeDiff, Nat.reduceLT, reduceIte, reduceCtorEq, Nat.reduceEqDiff, Nat.reduceSub, Nat.reduceAdd] <;> rfl) (by simp only [go_sem, Nat.reduceMul, Nat.reduceLeDiff, Nat.reduceLT, reduceIte, reduceCtorEq, Nat.reduceEqDiff, Nat.reduceSub, Nat.reduceAdd] <;> rfl) rfl (by simp only [go_sem, Nat.reduceMul, Nat.reduceLeDiff, Nat.reduceLT, reduceIte, reduceCtorEq, Nat.reduceEqDiff, Nat.reduceSub, Nat.reduceAdd] <;> rfl) (by first | rfl | (simp only [go_sem, Nat.reduceMul, Nat.reduceLeDiff, Nat.reduceLT, reduceIte, reduceCtorEq, Nat.reduceEqDiff, Nat.reduceSub, Nat.reduceAdd] <;> rfl)) rfl rfl (by first | exact keeps_nil _ _ | (simp only [keeps_cons, keeps_nil', go_sem, Nat.reduceMul, Nat.reduceLeDiff, Nat.reduceLT, reduceIte, reduceCtorEq, Nat.reduceEqDiff, Nat.reduceSub, Nat.reduceAdd] <;> rfl)) ?_
    simp only [Try.results9, go_sem, Nat.reduceMul, Nat.reduceLeDiff, Nat.reduceLT, reduceIte, reduceCtorEq, Nat.reduceEqDiff, Nat.reduceSub, Nat.reduceAdd]
    refine HereC.storeAgg T_ok rfl (by simp only [go_sem, Nat.reduceMul, Nat.reduceLeDiff, Nat.reduceLT, reduceIte, reduceCtorEq, Nat.reduceEqDiff, Nat.reduceSub, Nat.reduceAdd] <;> rfl) (by simp only [go_sem, Nat.reduceMul, Nat.reduceLeDiff, Nat.reduceLT, reduceIte, reduceCtorEq, Nat.reduceEqDiff, Nat.reduceSub, Nat.reduceAdd] <;> rfl) rfl (by simp only [go_sem, Nat.reduceMul, Nat.reduceLeDiff, Nat.reduceLT, reduceIte, reduceCtorEq, Nat.reduceEqDiff, Nat.reduceSub, Nat.reduceAdd] <;> rfl) (by first | rfl | (simp only [go_sem, Nat.reduceMul, Nat.reduceLeDiff, Nat.reduceLT, reduceIte, reduceCtorEq, Nat.reduceEqDiff, Nat.reduceSub, Nat.reduceAdd] <;> rfl)) rfl rfl (by first | exact keeps_nil _ _ | (simp only [keeps_cons, keeps_nil', go_sem, Nat.reduceMul, Nat.reduceLeDiff, Nat.reduceLT, reduceIte, reduceCtorEq, Nat.reduceEqDiff, Nat.reduceSub, Nat.reduceAdd] <;> rfl)) ?_
    simp only [Try.results9, go_sem, Nat.reduceMul, Nat.reduceLeDiff, Nat.reduceLT, reduceIte, reduceCtorEq, Nat.reduceEqDiff, Nat.reduceSub, Nat.reduceAdd]
    refine RetF.of (res := rstR) (Q := fun y => y.2.2.1.length ≤ 65 ∧ y.2.2.2.2.length ≤ 9) (t, t, im, md.1, md.2.1) (.tup [.agg [.own 1], .agg [.own 1], .own 0, .agg [.v (.int .i64 md.1), .own 2]]) [.row 2 (I im), .frz (II t), .row 2 (I md.2.1)] ⟨him, hmd.1.2⟩ rfl rfl rfl ?_
    refine RetC.of (RetT.three 161 1337 1338 (by decide) (by simp only [Try.results9, go_sem, Nat.reduceMul, Nat.reduceLeDiff, Nat.reduceLT, reduceIte, reduceCtorEq, Nat.reduceEqDiff, Nat.reduceSub, Nat.reduceAdd]; rfl) rfl ?_ ?_ ?_)
    · (simp only [Try.results9, go_sem, Nat.reduceMul, Nat.reduceLeDiff, Nat.reduceLT, reduceIte, reduceCtorEq, Nat.reduceEqDiff, Nat.reduceSub, Nat.reduceAdd]) <;> rfl
    · (simp only [Try.results9, go_sem, Nat.reduceMul, Nat.reduceLeDiff, Nat.reduceLT, reduceIte, reduceCtorEq, Nat.reduceEqDiff, Nat.reduceSub, Nat.reduceAdd]) <;> rfl
    · (simp only [Try.results9, go_sem, Nat.reduceMul, Nat.reduceLeDiff, Nat.reduceLT, reduceIte, reduceCtorEq, Nat.reduceEqDiff, Nat.reduceSub, Nat.reduceAdd]) <;> rfl
  · rw [if_neg (by decide)]
    refine HereV.of T_ok ?_
    simp only [Try.results9, go_sem, Nat.reduceMul, Nat.reduceLeDiff, Nat.reduceLT, reduceIte, reduceCtorEq, Nat.reduceEqDiff, Nat.reduceSub, Nat.reduceAdd]
    refine HereO.cutS (ε := Int × Int × Int) (fun e => At bs e.2) (fun e => [(2, .ptr 102 0), (3, .ptr 103 0), (5, .ptr 105 0), (6, .ptr 1289 0), (7, .ptr 107 0), (8, .ptr 108 0), (9, .ptr 109 0), (10, .own 161), (86, .v (.int .i64 e.1))])
      (fun e => [(102, .cells 26 [.v nilV]), (103, .cells 26 [.v nilV]), (105, .cells 29 [.v (.int .i64 0), .v nilV]), (1337, .frz (II t)), (1338, .row 2 (I md.2.1)), (107, .cells 26 [.own 1337]), (108, .cells 29 [.v (.int .i64 md.1), .own 1338]), (1402, .rows 27 2 (II h)), (109, .cells 26 [.own 1402]), (161, .row 2 (I (im))), (200, .ghost (BY bs)), (1289, .cells 71 [.own 200, .v (.int .i64 e.2.1), .v (.int .u64 e.2.2)])]) ?_ ?_
    · refine HereO.callM T_ok 86 [1289,200] rfl rfl (l01Next_spec bs hb 24 _ hs) (by simp only [go_sem, Nat.reduceMul, Nat.reduceLeDiff, Nat.reduceLT, reduceIte, reduceCtorEq, Nat.reduceEqDiff, Nat.reduceSub, Nat.reduceAdd, List.toList_toArray, ↓reduceIte]) rfl (by decide) (by decide) rfl rfl rfl (Nat.le_of_ble_eq_true rfl) ?_
      simp only [Try.results9, go_sem, Nat.reduceMul, Nat.reduceLeDiff, Nat.reduceLT, reduceIte, reduceCtorEq, Nat.reduceEqDiff, Nat.reduceSub, Nat.reduceAdd]
      exact ⟨((nx bs 24 (s1, s2)).1, (nx bs 24 (s1, s2)).2), (nx_ok hb 24 hs).2.2, rfl, rfl⟩
    rintro ⟨c, s1, s2⟩ hs
    dsimp only at hs ⊢
    refine HereV.cutK (ε := List Int × Int × Int) (fun e => e.1.length ≤ 65) (fun _ => [(2, .ptr 102 0), (3, .ptr 103 0), (5, .ptr 105 0), (6, .ptr 1289 0), (7, .ptr 107 0), (8, .ptr 108 0), (9, .ptr 109 0), (10, .own 161)])
      (fun e => [(102, .cells 26 [.v nilV]), (103, .cells 26 [.v nilV]), (105, .cells 29 [.v (.int .i64 0), .v nilV]), (1337, .frz (II t)), (1338, .row 2 (I md.2.1)), (107, .cells 26 [.own 1337]), (108, .cells 29 [.v (.int .i64 md.1), .own 1338]), (1402, .rows 27 2 (II h)), (109, .cells 26 [.own 1402]), (161, .row 2 (I (e.1))), (200, .ghost (BY bs)), (1289, .cells 71 [.own 200, .v (.int .i64 e.2.1), .v (.int .u64 e.2.2)])]) (HereV.of T_ok ?_) ?_
    · simp only [Try.results9, go_sem, Nat.reduceMul, Nat.reduceLeDiff, Nat.reduceLT, reduceIte, reduceCtorEq, Nat.reduceEqDiff, Nat.reduceSub, Nat.reduceAdd]
      refine ⟨fun h7 => ?_, fun h7 => ?_⟩
      · refine HereO.buildRow T_ok 190 (I [0]) rfl rfl rfl (by decide) rfl (by first | rfl | (simp only [go_sem, Nat.reduceMul, Nat.reduceLeDiff, Nat.reduceLT, reduceIte, reduceCtorEq, Nat.reduceEqDiff, Nat.reduceSub, Nat.reduceAdd] <;> rfl)) rfl (by decide) ?_
        simp only [Try.results9, go_sem, Nat.reduceMul, Nat.reduceLeDiff, Nat.reduceLT, reduceIte, reduceCtorEq, Nat.reduceEqDiff, Nat.reduceSub, Nat.reduceAdd]
        refine HereO.append T_ok (I [0]) rfl rfl (by decide) (by simp only [go_sem, Nat.reduceMul, Nat.reduceLeDiff, Nat.reduceLT, reduceIte, reduceCtorEq, Nat.reduceEqDiff, Nat.reduceSub, Nat.reduceAdd] <;> rfl) (by decide) (by simp only [go_sem, Nat.reduceMul, Nat.reduceLeDiff, Nat.reduceLT, reduceIte, reduceCtorEq, Nat.reduceEqDiff, Nat.reduceSub, Nat.reduceAdd] <;> rfl) (by simp only [go_sem, Nat.reduceMul, Nat.reduceLeDiff, Nat.reduceLT, reduceIte, reduceCtorEq, Nat.reduceEqDiff, Nat.reduceSub, Nat.reduceAdd] <;> rfl) (.own 190 _ _ (by decide) (by simp only [go_sem, Nat.reduceMul, Nat.reduceLeDiff, Nat.reduceLT, reduceIte, reduceCtorEq, Nat.reduceEqDiff, Nat.reduceSub, Nat.reduceAdd] <;> rfl)) (I_one _) (by first | (simp only [II_len]; omega) | simp only [I_len, II_len, upTo_len, tab_len, cnt_len, List.length_append, List.length_cons, List.length_nil, List.length_replicate]; omega) ?_
        simp only [Try.results9, go_sem, Nat.reduceMul, Nat.reduceLeDiff, Nat.reduceLT, reduceIte, reduceCtorEq, Nat.reduceEqDiff, Nat.reduceSub, Nat.reduceAdd]
        rw [I_append]
        exact ⟨(im ++ [0], s1, s2), by simp; omega, rfl, rfl⟩
      · refine ⟨fun h8 => ?_, fun h8 => ?_⟩
        · refine ⟨fun h9 => ?_, fun h9 => ?_⟩
          · refine HereO.buildRow T_ok 190 (I [-1, 8, 1]) rfl rfl rfl (by decide) rfl (by first | rfl | (simp only [go_sem, Nat.reduceMul, Nat.reduceLeDiff, Nat.reduceLT, reduceIte, reduceCtorEq, Nat.reduceEqDiff, Nat.reduceSub, Nat.reduceAdd] <;> rfl)) rfl (by decide) ?_
            simp only [Try.results9, go_sem, Nat.reduceMul, Nat.reduceLeDiff, Nat.reduceLT, reduceIte, reduceCtorEq, Nat.reduceEqDiff, Nat.reduceSub, Nat.reduceAdd]
            refine HereO.callM T_ok 100 [1289,200] rfl rfl (l01Pick_spec bs hb [-1, 8, 1] ⟨by simp, by simp⟩ _ hs) (by simp only [go_sem, Nat.reduceMul, Nat.reduceLeDiff, Nat.reduceLT, reduceIte, reduceCtorEq, Nat.reduceEqDiff, Nat.reduceSub, Nat.reduceAdd, List.toList_toArray, ↓reduceIte]) rfl (by decide) (by decide) rfl rfl rfl (Nat.le_of_ble_eq_true rfl) ?_
            simp only [Try.results9, go_sem, Nat.reduceMul, Nat.reduceLeDiff, Nat.reduceLT, reduceIte, reduceCtorEq, Nat.reduceEqDiff, Nat.reduceSub, Nat.reduceAdd]
            refine ⟨by omega, ?_⟩
            refine HereO.storeRow T_ok (vs := I im) (u := .int .i64 (pk bs [-1, 8, 1] (s1, s2)).1) rfl (by simp only [go_sem, Nat.reduceMul, Nat.reduceLeDiff, Nat.reduceLT, reduceIte, reduceCtorEq, Nat.reduceEqDiff, Nat.reduceSub, Nat.reduceAdd] <;> rfl) (by simp only [go_sem, Nat.reduceMul, Nat.reduceLeDiff, Nat.reduceLT, reduceIte, reduceCtorEq, Nat.reduceEqDiff, Nat.reduceSub, Nat.reduceAdd] <;> rfl) rfl (by simp only [go_sem, Nat.reduceMul, Nat.reduceLeDiff, Nat.reduceLT, reduceIte, reduceCtorEq, Nat.reduceEqDiff, Nat.reduceSub, Nat.reduceAdd] <;> rfl) rfl (by rw [I_len]; omega) ?_
            simp only [Try.results9, go_sem, Nat.reduceMul, Nat.reduceLeDiff, Nat.reduceLT, reduceIte, reduceCtorEq, Nat.reduceEqDiff, Nat.reduceSub, Nat.reduceAdd]
            rw [I_set]
            exact ⟨(im.set 0 (pk bs [-1, 8, 1] (s1, s2)).1, (pk bs [-1, 8, 1] (s1, s2)).2), by simp; omega, rfl, rfl⟩
          · exact ⟨(im, s1, s2), by dsimp only; omega, rfl, rfl⟩
        · exact ⟨(im, s1, s2), by dsimp only; omega, rfl, rfl⟩
    rintro ⟨im, s1, s2⟩ him
    dsimp only at him ⊢
    refine HereV.of T_ok ?_
    simp only [Try.results9, go_sem, Nat.reduceMul, Nat.reduceLeDiff, Nat.reduceLT, reduceIte, reduceCtorEq, Nat.reduceEqDiff, Nat.reduceSub, Nat.reduceAdd]
    refine Here.drawC T_ok [.f, .f, .f, .f, .c, .c, .p, .c] [9, 7, 10, 8] [] [107, 108, 109] (Nat.le_of_ble_eq_true rfl) mixed_ok (by kernel_rfl) (by kernel_rfl) (by kernel_rfl) (by simp only [List.mem_cons, List.not_mem_nil, or_false, forall_eq_or_imp, forall_eq, go_sem, Nat.reduceMul, Nat.reduceLeDiff, Nat.reduceLT, reduceIte, reduceCtorEq, Nat.reduceEqDiff, Nat.reduceSub, Nat.reduceAdd] <;> first | exact calm_ptr_ne rfl | exact calm_ne rfl | exact ⟨calm_ptr_ne rfl, calm_ptr_ne rfl⟩ | exact ⟨calm_ptr_ne rfl, calm_ptr_ne rfl, calm_ptr_ne rfl⟩ | exact ⟨calm_ptr_ne rfl, calm_knot (by simp only [go_sem, Nat.reduceMul, Nat.reduceLeDiff, Nat.reduceLT, reduceIte, reduceCtorEq, Nat.reduceEqDiff, Nat.reduceSub, Nat.reduceAdd] <;> exact calm_ptr_ne rfl)⟩ | ((repeat' apply And.intro) <;> first | exact calm_ptr_ne rfl | exact calm_ne rfl)) ?_
    simp only [Try.results9, go_sem, Nat.reduceMul, Nat.reduceLeDiff, Nat.reduceLT, reduceIte, reduceCtorEq, Nat.reduceEqDiff, Nat.reduceSub, Nat.reduceAdd]
    refine HereF.loadAgg T_ok (id := 109) (tt := 26) (c := [.own 1402]) rfl (by simp only [go_sem, Nat.reduceMul, Nat.reduceLeDiff, Nat.reduceLT, reduceIte, reduceCtorEq, Nat.reduceEqDiff, Nat.reduceSub, Nat.reduceAdd] <;> rfl) (by kernel_rfl) rfl (by decide) (by simp only [go_sem, Nat.reduceMul, Nat.reduceLeDiff, Nat.reduceLT, reduceIte, reduceCtorEq, Nat.reduceEqDiff, Nat.reduceSub, Nat.reduceAdd] <;> rfl) rfl (calm_agg1 (calm_ne rfl)) ?_
    simp only [Try.results9, go_sem, Nat.reduceMul, Nat.reduceLeDiff, Nat.reduceLT, reduceIte, reduceCtorEq, Nat.reduceEqDiff, Nat.reduceSub, Nat.reduceAdd]
    refine HereF.loadAgg T_ok (id := 107) (tt := 26) (c := [.own 1337]) rfl (by simp only [go_sem, Nat.reduceMul, Nat.reduceLeDiff, Nat.reduceLT, reduceIte, reduceCtorEq, Nat.reduceEqDiff, Nat.reduceSub, Nat.reduceAdd] <;> rfl) (by kernel_rfl) rfl (by decide) (by simp only [go_sem, Nat.reduceMul, Nat.reduceLeDiff, Nat.reduceLT, reduceIte, reduceCtorEq, Nat.reduceEqDiff, Nat.reduceSub, Nat.reduceAdd] <;> rfl) rfl (calm_agg1 (calm_ne rfl)) ?_
    simp only [Try.results9, go_sem, Nat.reduceMul, Nat.reduceLeDiff, Nat.reduceLT, reduceIte, reduceCtorEq, Nat.reduceEqDiff, Nat.reduceSub, Nat.reduceAdd]
    refine HereF.loadAgg T_ok (id := 108) (tt := 29) (c := [.v (.int .i64 md.1), .own 1338]) rfl (by simp only [go_sem, Nat.reduceMul, Nat.reduceLeDiff, Nat.reduceLT, reduceIte, reduceCtorEq, Nat.reduceEqDiff, Nat.reduceSub, Nat.reduceAdd] <;> rfl) (by kernel_rfl) rfl (by decide) (by simp only [go_sem, Nat.reduceMul, Nat.reduceLeDiff, Nat.reduceLT, reduceIte, reduceCtorEq, Nat.reduceEqDiff, Nat.reduceSub, Nat.reduceAdd] <;> rfl) rfl (calm_agg2 (by rw [calm_v]; trivial) (calm_ne rfl)) ?_
    simp only [Try.results9, go_sem, Nat.reduceMul, Nat.reduceLeDiff, Nat.reduceLT, reduceIte, reduceCtorEq, Nat.reduceEqDiff, Nat.reduceSub, Nat.reduceAdd]
    refine HereC.storeAgg T_ok rfl (by simp only [go_sem, Nat.reduceMul, Nat.reduceLeDiff, Nat.reduceLT, reduceIte, reduceCtorEq, Nat.reduceEqDiff, Nat.reduceSub, Nat.reduceAdd] <;> rfl) (by simp only [go_sem, Nat.reduceMul, Nat.reduceLeDiff, Nat.reduceLT, reduceIte, reduceCtorEq, Nat.reduceEqDiff, Nat.reduceSub, Nat.reduceAdd] <;> rfl) rfl (by simp only [go_sem, Nat.reduceMul, Nat.reduceLeDiff, Nat.reduceLT, reduceIte, reduceCtorEq, Nat.reduceEqDiff, Nat.reduceSub, Nat.reduceAdd] <;> rfl) (by first | rfl | (simp only [go_sem, Nat.reduceMul, Nat.reduceLeDiff, Nat.reduceLT, reduceIte, reduceCtorEq, Nat.reduceEqDiff, Nat.reduceSub, Nat.reduceAdd] <;> rfl)) rfl rfl (by first | exact keeps_nil _ _ | (simp only [keeps_cons, keeps_nil', go_sem, Nat.reduceMul, Nat.reduceLeDiff, Nat.reduceLT, reduceIte, reduceCtorEq, Nat.reduceEqDiff, Nat.reduceSub, Nat.reduceAdd] <;> rfl)) ?_
    simp only [Try.results9, go_sem, Nat.reduceMul, Nat.reduceLeDiff, Nat.reduceLT, reduceIte, reduceCtorEq, Nat.reduceEqDiff, Nat.reduceSub, Nat.reduceAdd]
    refine HereC.storeAgg T_ok rfl (by simp only [go_sem, Nat.reduceMul, Nat.reduceLeDiff, Nat.reduceLT, reduceIte, reduceCtorEq, Nat.reduceEqDiff, Nat.reduceSub, Nat.reduceAdd] <;> rfl) (by simp only [go_sem, Nat.reduceMul, Nat.reduceLeDiff, Nat.reduceLT, reduceIte, reduceCtorEq, Nat.reduceEqDiff, Nat.reduceSub, Nat.reduceAdd] <;> rfl) rfl (by simp only [go_sem, Nat.reduceMul, Nat.reduceLeDiff, Nat.reduceLT, reduceIte, reduceCtorEq, Nat.reduceEqDiff, Nat.reduceSub, Nat.reduceAdd] <;> rfl) (by first | rfl | (simp only [go_sem, Nat.reduceMul, Nat.reduceLeDiff, Nat.reduceLT, reduceIte, reduceCtorEq, Nat.reduceEqDiff, Nat.reduceSub, Nat.reduceAdd] <;> rfl)) rfl rfl (by first | exact keeps_nil _ _ | (simp only [keeps_cons, keeps_nil', go_sem, Nat.reduceMul, Nat.reduceLeDiff, Nat.reduceLT, reduceIte, reduceCtorEq, Nat.reduceEqDiff, Nat.reduceSub, Nat.reduceAdd] <;> rfl)) ?_
    simp only [Try.results9, go_sem, Nat.reduceMul, Nat.reduceLeDiff, Nat.reduceLT, reduceIte, reduceCtorEq, Nat.reduceEqDiff, Nat.reduceSub, Nat.reduceAdd]
    refine HereC.storeAgg T_ok rfl (by simp only [go_sem, Nat.reduceMul, Nat.reduceLeDiff, Nat.reduceLT, reduceIte, reduceCtorEq, Nat.reduceEqDiff, Nat.reduceSub, Nat.reduceAdd] <;> rfl) (by simp only [go_sem, Nat.reduceMul, Nat.reduceLeDiff, Nat.reduceLT, reduceIte, reduceCtorEq, Nat.reduceEqDiff, Nat.reduceSub, Nat.reduceAdd] <;> rfl) rfl (by simp only [go_sem, Nat.reduceMul, Nat.reduceLeDiff, Nat.reduceLT, reduceIte, reduceCtorEq, Nat.reduceEqDiff, Nat.reduceSub, Nat.reduceAdd] <;> rfl) (by first | rfl | (simp only [go_sem, Nat.reduceMul, Nat.reduceLeDiff, Nat.reduceLT, reduceIte, reduceCtorEq, Nat.reduceEqDiff, Nat.reduceSub, Nat.reduceAdd] <;> rfl)) rfl rfl (by first | exact keeps_nil _ _ | (simp only [keeps_cons, keeps_nil', go_sem, Nat.reduceMul, Nat.reduceLeDiff, Nat.reduceLT, reduceIte, reduceCtorEq, Nat.reduceEqDiff, Nat.reduceSub, Nat.reduceAdd] <;> rfl)) ?_
    simp only [Try.results9, go_sem, Nat.reduceMul, Nat.reduceLeDiff, Nat.reduceLT, reduceIte, reduceCtorEq, Nat.reduceEqDiff, Nat.reduceSub, Nat.reduceAdd]
    refine RetF.of (res := rstR) (Q := fun y => y.2.2.1.length ≤ 65 ∧ y.2.2.2.2.length ≤ 9) (h, t, im, md.1, md.2.1) (.tup [.agg [.own 3], .agg [.own 1], .own 0, .agg [.v (.int .i64 md.1), .own 2]]) [.row 2 (I im), .frz (II t), .row 2 (I md.2.1), .rows 27 2 (II h)] ⟨him, hmd.1.2⟩ rfl rfl rfl ?_
    refine RetC.of (RetT.four 161 1337 1338 1402 (by decide) (by simp only [Try.results9, go_sem, Nat.reduceMul, Nat.reduceLeDiff, Nat.reduceLT, reduceIte, reduceCtorEq, Nat.reduceEqDiff, Nat.reduceSub, Nat.reduceAdd]; rfl) rfl ?_ ?_ ?_ ?_)
    · (simp only [Try.results9, go_sem, Nat.reduceMul, Nat.reduceLeDiff, Nat.reduceLT, reduceIte, reduceCtorEq, Nat.reduceEqDiff, Nat.reduceSub, Nat.reduceAdd]) <;> rfl
    · (simp only [Try.results9, go_sem, Nat.reduceMul, Nat.reduceLeDiff, Nat.reduceLT, reduceIte, reduceCtorEq, Nat.reduceEqDiff, Nat.reduceSub, Nat.reduceAdd]) <;> rfl
    · (simp only [Try.results9, go_sem, Nat.reduceMul, Nat.reduceLeDiff, Nat.reduceLT, reduceIte, reduceCtorEq, Nat.reduceEqDiff, Nat.reduceSub, Nat.reduceAdd]) <;> rfl
    · (simp only [Try.results9, go_sem, Nat.reduceMul, Nat.reduceLeDiff, Nat.reduceLT, reduceIte, reduceCtorEq, Nat.reduceEqDiff, Nat.reduceSub, Nat.reduceAdd]) <;> rfl
  · rw [if_neg (by decide)]
    refine HereV.of T_ok ?_
    simp only [Try.results9, go_sem, Nat.reduceMul, Nat.reduceLeDiff, Nat.reduceLT, reduceIte, reduceCtorEq, Nat.reduceEqDiff, Nat.reduceSub, Nat.reduceAdd]
    refine HereO.cutS (ε := Int × Int × Int) (fun e => At bs e.2) (fun e => [(2, .ptr 102 0), (3, .ptr 103 0), (5, .ptr 105 0), (6, .ptr 1289 0), (7, .ptr 107 0), (8, .ptr 108 0), (9, .ptr 109 0), (10, .own 161), (86, .v (.int .i64 e.1))])
      (fun e => [(102, .cells 26 [.v nilV]), (103, .cells 26 [.v nilV]), (105, .cells 29 [.v (.int .i64 0), .v nilV]), (1337, .frz (II t)), (1338, .row 2 (I md.2.1)), (107, .cells 26 [.own 1337]), (108, .cells 29 [.v (.int .i64 md.1), .own 1338]), (2152, .rows 27 2 (II h)), (109, .cells 26 [.own 2152]), (161, .row 2 (I (im))), (200, .ghost (BY bs)), (1289, .cells 71 [.own 200, .v (.int .i64 e.2.1), .v (.int .u64 e.2.2)])]) ?_ ?_
    · refine HereO.callM T_ok 86 [1289,200] rfl rfl (l01Next_spec bs hb 24 _ hs) (by simp only [go_sem, Nat.reduceMul, Nat.reduceLeDiff, Nat.reduceLT, reduceIte, reduceCtorEq, Nat.reduceEqDiff, Nat.reduceSub, Nat.reduceAdd, List.toList_toArray, ↓reduceIte]) rfl (by decide) (by decide) rfl rfl rfl (Nat.le_of_ble_eq_true rfl) ?_
      simp only [Try.results9, go_sem, Nat.reduceMul, Nat.reduceLeDiff, Nat.reduceLT, reduceIte, reduceCtorEq, Nat.reduceEqDiff, Nat.reduceSub, Nat.reduceAdd]
      exact ⟨((nx bs 24 (s1, s2)).1, (nx bs 24 (s1, s2)).2), (nx_ok hb 24 hs).2.2, rfl, rfl⟩
    rintro ⟨c, s1, s2⟩ hs
    dsimp only at hs ⊢
    refine HereV.cutK (ε := List Int × Int × Int) (fun e => e.1.length ≤ 65) (fun _ => [(2, .ptr 102 0), (3, .ptr 103 0), (5, .ptr 105 0), (6, .ptr 1289 0), (7, .ptr 107 0), (8, .ptr 108 0), (9, .ptr 109 0), (10, .own 161)])
      (fun e => [(102, .cells 26 [.v nilV]), (103, .cells 26 [.v nilV]), (105, .cells 29 [.v (.int .i64 0), .v nilV]), (1337, .frz (II t)), (1338, .row 2 (I md.2.1)), (107, .cells 26 [.own 1337]), (108, .cells 29 [.v (.int .i64 md.1), .own 1338]), (2152, .rows 27 2 (II h)), (109, .cells 26 [.own 2152]), (161, .row 2 (I (e.1))), (200, .ghost (BY bs)), (1289, .cells 71 [.own 200, .v (.int .i64 e.2.1), .v (.int .u64 e.2.2)])]) (HereV.of T_ok ?_) ?_
    · simp only [Try.results9, go_sem, Nat.reduceMul, Nat.reduceLeDiff, Nat.reduceLT, reduceIte, reduceCtorEq, Nat.reduceEqDiff, Nat.reduceSub, Nat.reduceAdd]
      refine ⟨fun h7 => ?_, fun h7 => ?_⟩
      · refine HereO.buildRow T_ok 190 (I [0]) rfl rfl rfl (by decide) rfl (by first | rfl | (simp only [go_sem, Nat.reduceMul, Nat.reduceLeDiff, Nat.reduceLT, reduceIte, reduceCtorEq, Nat.reduceEqDiff, Nat.reduceSub, Nat.reduceAdd] <;> rfl)) rfl (by decide) ?_
        simp only [Try.results9, go_sem, Nat.reduceMul, Nat.reduceLeDiff, Nat.reduceLT, reduceIte, reduceCtorEq, Nat.reduceEqDiff, Nat.reduceSub, Nat.reduceAdd]
        refine HereO.append T_ok (I [0]) rfl rfl (by decide) (by simp only [go_sem, Nat.reduceMul, Nat.reduceLeDiff, Nat.reduceLT, reduceIte, reduceCtorEq, Nat.reduceEqDiff, Nat.reduceSub, Nat.reduceAdd] <;> rfl) (by decide) (by simp only [go_sem, Nat.reduceMul, Nat.reduceLeDiff, Nat.reduceLT, reduceIte, reduceCtorEq, Nat.reduceEqDiff, Nat.reduceSub, Nat.reduceAdd] <;> rfl) (by simp only [go_sem, Nat.reduceMul, Nat.reduceLeDiff, Nat.reduceLT, reduceIte, reduceCtorEq, Nat.reduceEqDiff, Nat.reduceSub, Nat.reduceAdd] <;> rfl) (.own 190 _ _ (by decide) (by simp only [go_sem, Nat.reduceMul, Nat.reduceLeDiff, Nat.reduceLT, reduceIte, reduceCtorEq, Nat.reduceEqDiff, Nat.reduceSub, Nat.reduceAdd] <;> rfl)) (I_one _) (by first | (simp only [II_len]; omega) | simp only [I_len, II_len, upTo_len, tab_len, cnt_len, List.length_append, List.length_cons, List.length_nil, List.length_replicate]; omega) ?_
        simp only [Try.results9, go_sem, Nat.reduceMul, Nat.reduceLeDiff, Nat.reduceLT, reduceIte, reduceCtorEq, Nat.reduceEqDiff, Nat.reduceSub, Nat.reduceAdd]
        rw [I_append]
        exact ⟨(im ++ [0], s1, s2), by simp; omega, rfl, rfl⟩
      · refine ⟨fun h8 => ?_, fun h8 => ?_⟩
        · refine ⟨fun h9 => ?_, fun h9 => ?_⟩
          · refine HereO.buildRow T_ok 190 (I [-1, 8, 1]) rfl rfl rfl (by decide) rfl (by first | rfl | (simp only [go_sem, Nat.reduceMul, Nat.reduceLeDiff, Nat.reduceLT, reduceIte, reduceCtorEq, Nat.reduceEqDiff, Nat.reduceSub, Nat.reduceAdd] <;> rfl)) rfl (by decide) ?_
            simp only [Try.results9, go_sem, Nat.reduceMul, Nat.reduceLeDiff, Nat.reduceLT, reduceIte, reduceCtorEq, Nat.reduceEqDiff, Nat.reduceSub, Nat.reduceAdd]
            refine HereO.callM T_ok 100 [1289,200] rfl rfl (l01Pick_spec bs hb [-1, 8, 1] ⟨by simp, by simp⟩ _ hs) (by simp only [go_sem, Nat.reduceMul, Nat.reduceLeDiff, Nat.reduceLT, reduceIte, reduceCtorEq, Nat.reduceEqDiff, Nat.reduceSub, Nat.reduceAdd, List.toList_toArray, ↓reduceIte]) rfl (by decide) (by decide) rfl rfl rfl (Nat.le_of_ble_eq_true rfl) ?_
            simp only [Try.results9, go_sem, Nat.reduceMul, Nat.reduceLeDiff, Nat.reduceLT, reduceIte, reduceCtorEq, Nat.reduceEqDiff, Nat.reduceSub, Nat.reduceAdd]
            refine ⟨by omega, ?_⟩
            refine HereO.storeRow T_ok (vs := I im) (u := .int .i64 (pk bs [-1, 8, 1] (s1, s2)).1) rfl (by simp only [go_sem, Nat.reduceMul, Nat.reduceLeDiff, Nat.reduceLT, reduceIte, reduceCtorEq, Nat.reduceEqDiff, Nat.reduceSub, Nat.reduceAdd] <;> rfl) (by simp only [go_sem, Nat.reduceMul, Nat.reduceLeDiff, Nat.reduceLT, reduceIte, reduceCtorEq, Nat.reduceEqDiff, Nat.reduceSub, Nat.reduceAdd] <;> rfl) rfl (by simp only [go_sem, Nat.reduceMul, Nat.reduceLeDiff, Nat.reduceLT, reduceIte, reduceCtorEq, Nat.reduceEqDiff, Nat.reduceSub, Nat.reduceAdd] <;> rfl) rfl (by rw [I_len]; omega) ?_
            simp only [Try.results9, go_sem, Nat.reduceMul, Nat.reduceLeDiff, Nat.reduceLT, reduceIte, reduceCtorEq, Nat.reduceEqDiff, Nat.reduceSub, Nat.reduceAdd]
            rw [I_set]
            exact ⟨(im.set 0 (pk bs [-1, 8, 1] (s1, s2)).1, (pk bs [-1, 8, 1] (s1, s2)).2), by simp; omega, rfl, rfl⟩
          · exact ⟨(im, s1, s2), by dsimp only; omega, rfl, rfl⟩
        · exact ⟨(im, s1, s2), by dsimp only; omega, rfl, rfl⟩
    rintro ⟨im, s1, s2⟩ him
    dsimp only at him ⊢
    refine HereV.of T_ok ?_
    simp only [Try.results9, go_sem, Nat.reduceMul, Nat.reduceLeDiff, Nat.reduceLT, reduceIte, reduceCtorEq, Nat.reduceEqDiff, Nat.reduceSub, Nat.reduceAdd]
    refine Here.drawC T_ok [.f, .f, .f, .f, .c, .c, .p, .c] [9, 7, 10, 8] [] [107, 108, 109] (Nat.le_of_ble_eq_true rfl) mixed_ok (by kernel_rfl) (by kernel_rfl) (by kernel_rfl) (by simp only [List.mem_cons, List.not_mem_nil, or_false, forall_eq_or_imp, forall_eq, go_sem, Nat.reduceMul, Nat.reduceLeDiff, Nat.reduceLT, reduceIte, reduceCtorEq, Nat.reduceEqDiff, Nat.reduceSub, Nat.reduceAdd] <;> first | exact calm_ptr_ne rfl | exact calm_ne rfl | exact ⟨calm_ptr_ne rfl, calm_ptr_ne rfl⟩ | exact ⟨calm_ptr_ne rfl, calm_ptr_ne rfl, calm_ptr_ne rfl⟩ | exact ⟨calm_ptr_ne rfl, calm_knot (by simp only [go_sem, Nat.reduceMul, Nat.reduceLeDiff, Nat.reduceLT, reduceIte, reduceCtorEq, Nat.reduceEqDiff, Nat.reduceSub, Nat.reduceAdd] <;> exact calm_ptr_ne rfl)⟩ | ((repeat' apply And.intro) <;> first | exact calm_ptr_ne rfl | exact calm_ne rfl)) ?_
    simp only [Try.results9, go_sem, Nat.reduceMul, Nat.reduceLeDiff, Nat.reduceLT, reduceIte, reduceCtorEq, Nat.reduceEqDiff, Nat.reduceSub, Nat.reduceAdd]
    refine HereF.loadAgg T_ok (id := 109) (tt := 26) (c := [.own 2152]) rfl (by simp only [go_sem, Nat.reduceMul, Nat.reduceLeDiff, Nat.reduceLT, reduceIte, reduceCtorEq, Nat.reduceEqDiff, Nat.reduceSub, Nat.reduceAdd] <;> rfl) (by kernel_rfl) rfl (by decide) (by simp only [go_sem, Nat.reduceMul, Nat.reduceLeDiff, Nat.reduceLT, reduceIte, reduceCtorEq, Nat.reduceEqDiff, Nat.reduceSub, Nat.reduceAdd] <;> rfl) rfl (calm_agg1 (calm_ne rfl)) ?_
    simp only [Try.results9, go_sem, Nat.reduceMul, Nat.reduceLeDiff, Nat.reduceLT, reduceIte, reduceCtorEq, Nat.reduceEqDiff, Nat.reduceSub, Nat.reduceAdd]
    refine HereF.loadAgg T_ok (id := 107) (tt := 26) (c := [.own 1337]) rfl (by simp only [go_sem, Nat.reduceMul, Nat.reduceLeDiff, Nat.reduceLT, reduceIte, reduceCtorEq, Nat.reduceEqDiff, Nat.reduceSub, Nat.reduceAdd] <;> rfl) (by kernel_rfl) rfl (by decide) (by simp only [go_sem, Nat.reduceMul, Nat.reduceLeDiff, Nat.reduceLT, reduceIte, reduceCtorEq, Nat.reduceEqDiff, Nat.reduceSub, Nat.reduceAdd] <;> rfl) rfl (calm_agg1 (calm_ne rfl)) ?_
    simp only [Try.results9, go_sem, Nat.reduceMul, Nat.reduceLeDiff, Nat.reduceLT, reduceIte, reduceCtorEq, Nat.reduceEqDiff, Nat.reduceSub, Nat.reduceAdd]
    refine HereF.loadAgg T_ok (id := 108) (tt := 29) (c := [.v (.int .i64 md.1), .own 1338]) rfl (by simp only [go_sem, Nat.reduceMul, Nat.reduceLeDiff, Nat.reduceLT, reduceIte, reduceCtorEq, Nat.reduceEqDiff, Nat.reduceSub, Nat.reduceAdd] <;> rfl) (by kernel_rfl) rfl (by decide) (by simp only [go_sem, Nat.reduceMul, Nat.reduceLeDiff, Nat.reduceLT, reduceIte, reduceCtorEq, Nat.reduceEqDiff, Nat.reduceSub, Nat.reduceAdd] <;> rfl) rfl (calm_agg2 (by rw [calm_v]; trivial) (calm_ne rfl)) ?_
    simp only [Try.results9, go_sem, Nat.reduceMul, Nat.reduceLeDiff, Nat.reduceLT, reduceIte, reduceCtorEq, Nat.reduceEqDiff, Nat.reduceSub, Nat.reduceAdd]
    refine HereC.storeAgg T_ok rfl (by simp only [go_sem, Nat.reduceMul, Nat.reduceLeDiff, Nat.reduceLT, reduceIte, reduceCtorEq, Nat.reduceEqDiff, Nat.reduceSub, Nat.reduceAdd] <;> rfl) (by simp only [go_sem, Nat.reduceMul, Nat.reduceLeDiff, Nat.reduceLT, reduceIte, reduceCtorEq, Nat.reduceEqDiff, Nat.reduceSub, Nat.reduceAdd] <;> rfl) rfl (by simp only [go_sem, Nat.reduceMul, Nat.reduceLeDiff, Nat.reduceLT, reduceIte, reduceCtorEq, Nat.reduceEqDiff, Nat.reduceSub, Nat.reduceAdd] <;> rfl) (by first | rfl | (simp only [go_sem, Nat.reduceMul, Nat.reduceLeDiff, Nat.reduceLT, reduceIte, reduceCtorEq, Nat.reduceEqDiff, Nat.reduceSub, Nat.reduceAdd] <;> rfl)) rfl rfl (by first | exact keeps_nil _ _ | (simp only [keeps_cons, keeps_nil', go_sem, Nat.reduceMul, Nat.reduceLeDiff, Nat.reduceLT, reduceIte, reduceCtorEq, Nat.reduceEqDiff, Nat.reduceSub, Nat.reduceAdd] <;> rfl)) ?_
    simp only [Try.results9, go_sem, Nat.reduceMul, Nat.reduceLeDiff, Nat.reduceLT, reduceIte, reduceCtorEq, Nat.reduceEqDiff, Nat.reduceSub, Nat.reduceAdd]
    refine HereC.storeAgg T_ok rfl (by simp only [go_sem, Nat.reduceMul, Nat.reduceLeDiff, Nat.reduceLT, reduceIte, reduceCtorEq, Nat.reduceEqDiff, Nat.reduceSub, Nat.reduceAdd] <;> rfl) (by simp only [go_sem, Nat.reduceMul, Nat.reduceLeDiff, Nat.reduceLT, reduceIte, reduceCtorEq, Nat.reduceEqDiff, Nat.reduceSub, Nat.reduceAdd] <;> rfl) rfl (by simp only [go_sem, Nat.reduceMul, Nat.reduceLeDiff, Nat.reduceLT, reduceIte, reduceCtorEq, Nat.reduceEqDiff, Nat.reduceSub, Nat.reduceAdd] <;> rfl) (by first | rfl | (simp only [go_sem, Nat.reduceMul, Nat.reduceLeDiff, Nat.reduceLT, reduceIte, reduceCtorEq, Nat.reduceEqDiff, Nat.reduceSub, Nat.reduceAdd] <;> rfl)) rfl rfl (by first | exact keeps_nil _ _ | (simp only [keeps_cons, keeps_nil', go_sem, Nat.reduceMul, Nat.reduceLeDiff, Nat.reduceLT, reduceIte, reduceCtorEq, Nat.reduceEqDiff, Nat.reduceSub, Nat.reduceAdd] <;> rfl)) ?_
    simp only [Try.results9, go_sem, Nat.reduceMul, Nat.reduceLeDiff, Nat.reduceLT, reduceIte, reduceCtorEq, Nat.reduceEqDiff, Nat.reduceSub, Nat.reduceAdd]
    refine HereC.storeAgg T_ok rfl (by simp only [go_sem, Nat.reduceMul, Nat.reduceLeDiff, Nat.reduceLT, reduceIte, reduceCtorEq, Nat.reduceEqDiff, Nat.reduceSub, Nat.reduceAdd] <;> rfl) (by simp only [go_sem, Nat.reduceMul, Nat.reduceLeDiff, Nat.reduceLT, reduceIte, reduceCtorEq, Nat.reduceEqDiff, Nat.reduceSub, Nat.reduceAdd] <;> rfl) rfl (by simp only [go_sem, Nat.reduceMul, Nat.reduceLeDiff, Nat.reduceLT, reduceIte, reduceCtorEq, Nat.reduceEqDiff, Nat.reduceSub, Nat.reduceAdd] <;> rfl) (by first | rfl | (simp only [go_sem, Nat.reduceMul, Nat.reduceLeDiff, Nat.reduceLT, reduceIte, reduceCtorEq, Nat.reduceEqDiff, Nat.reduceSub, Nat.reduceAdd] <;> rfl)) rfl rfl (by first | exact keeps_nil _ _ | (simp only [keeps_cons, keeps_nil', go_sem, Nat.reduceMul, Nat.reduceLeDiff, Nat.reduceLT, reduceIte, reduceCtorEq, Nat.reduceEqDiff, Nat.reduceSub, Nat.reduceAdd] <;> rfl)) ?_
    simp only [Try.results9, go_sem, Nat.reduceMul, Nat.reduceLeDiff, Nat.reduceLT, reduceIte, reduceCtorEq, Nat.reduceEqDiff, Nat.reduceSub, Nat.reduceAdd]
    refine RetF.of (res := rstR) (Q := fun y => y.2.2.1.length ≤ 65 ∧ y.2.2.2.2.length ≤ 9) (h, t, im, md.1, md.2.1) (.tup [.agg [.own 3], .agg [.own 1], .own 0, .agg [.v (.int .i64 md.1), .own 2]]) [.row 2 (I im), .frz (II t), .row 2 (I md.2.1), .rows 27 2 (II h)] ⟨him, hmd.1.2⟩ rfl rfl rfl ?_
    refine RetC.of (RetT.four 161 1337 1338 2152 (by decide) (by simp only [Try.results9, go_sem, Nat.reduceMul, Nat.reduceLeDiff, Nat.reduceLT, reduceIte, reduceCtorEq, Nat.reduceEqDiff, Nat.reduceSub, Nat.reduceAdd]; rfl) rfl ?_ ?_ ?_ ?_)
    · (simp only [Try.results9, go_sem, Nat.reduceMul, Nat.reduceLeDiff, Nat.reduceLT, reduceIte, reduceCtorEq, Nat.reduceEqDiff, Nat.reduceSub, Nat.reduceAdd]) <;> rfl
    · (simp only [Try.results9, go_sem, Nat.reduceMul, Nat.reduceLeDiff, Nat.reduceLT, reduceIte, reduceCtorEq, Nat.reduceEqDiff, Nat.reduceSub, Nat.reduceAdd]) <;> rfl
    · (simp only [Try.results9, go_sem, Nat.reduceMul, Nat.reduceLeDiff, Nat.reduceLT, reduceIte, reduceCtorEq, Nat.reduceEqDiff, Nat.reduceSub, Nat.reduceAdd]) <;> rfl
    · (simp only [Try.results9, go_sem, Nat.reduceMul, Nat.reduceLeDiff, Nat.reduceLT, reduceIte, reduceCtorEq, Nat.reduceEqDiff, Nat.reduceSub, Nat.reduceAdd]) <;> rfl
end Go.Proofs.Ytcjhojdlfnpgjaa
