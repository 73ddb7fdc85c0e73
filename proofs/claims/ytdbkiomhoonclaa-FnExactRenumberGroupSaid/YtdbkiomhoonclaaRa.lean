/- Contracts: copies of rows and groups. -/
import Derived.Test.YtdbkiomhoonclaaUk
import Derived.Test.YtdbkiomhoonclaaSg
namespace Go.Proofs.Ytdbkiomhoonclaa
open Go.RowKit
set_option linter.unusedVariables false
set_option linter.unusedSimpArgs false
set_option maxRecDepth 100000

section
variable {P : Program} {T : TT} {K : List Nat} {G : (Nat → Option OC) → Prop} {n : Nat} {all : Array Oper} {k : Kont}
theorem HereC.buildRowL {ms : List Md} {o : Oper} {l : List Oper} {s : St} (hT : T.Ok P) {t e : Nat} {z : Value} {bts m : Nat} {parts : Array (Nat × Operand)} (id : Nat) (ls : List LV) (ho : o.op = .buildSlice t m parts) (ht : T.el t = some (e, z, bts)) (hn : m = parts.toList.length) (hm : m ≤ 1000) (hp : partsIn 0 parts.toList = true)
    (hx : (parts.toList.map fun p => evL s p.2) = ls) (h1 : ls.all (fun x => oneL x && ownIs s.σ x) = true) (hid : 16 ≤ id) (hno : kills (fun j => j == id) ls = ls) (hk : K.contains id = true) (hG : G (s.fresh id (.rowL e ls)).σ) (h : SV P T K G n all ms l ((s.fresh id (.rowL e ls)).put o.dst (.own id)) k) : HereC P T K G n all ms o l s k := by
  refine ⟨fun j => j == id, (s.fresh id (.rowL e ls)).σ, .own id, fun j hj => by rw [beq_iff_eq.1 hj]; exact hk, hG, fun s' hs' hx' => ?_, h⟩
  have hev : (parts.toList.map fun p => evL s' p.2) = ls := by
    rw [← hx]
    exact List.map_congr_left fun p hm => hx' p.2 (by simp [ho, Op.operands]; exact ⟨p.1, by simpa using hm⟩)
  refine OpT.buildRowL hT ho ht hn hm hp (by rw [hev, hs']; exact h1) id hid (by rw [hev]; exact hno) ⟨rfl, ?_⟩
  rw [hev]
  unfold St.fresh St.turn
  rw [hs']
end
theorem run_eqNil {P : Program} {t e : Nat} (ht : P.underlying t = some (.slice e)) (A : Option Addr) (m c : Nat) (w : World) : (Op.equal t (.slice A m c) (.slice none 0 0)).run P w = .ok A.isNone w := by
  have h : ∀ d, (Op.equalIn (d + 1) t (.slice A m c) (.slice none 0 0)).run P w = .ok A.isNone w := fun d => by cases A <;> simp [Op.equalIn, run_underlying ht]
  simp [Op.equal, Op.maxDepth, h 9999]
/-- A slice that is read, held against nil: none if it has elements. -/
theorem OpT.isNil {P : Program} {o : Oper} {s : St} {K : LV → St → Prop} {t t' e : Nat} {x : Operand} {vs : List Value} (ho : o.op = .binOp .eql t x (.const (.slice none 0 0)) t') (hx : evL s x = .rd vs) (ht : P.underlying t = some (.slice e))
    (h0 : K (.v (.bool false)) s) (h1 : vs = [] → K (.v (.bool true)) s) : OpT P o s K := by
  intro w0 w ι fp f hI
  have hv := hI.ev x
  rw [hx] at hv
  simp only [LRel] at hv
  obtain ⟨A, c, e1, hc, hr⟩ := hv
  have hrun : (execOp (evV f) o).run P w = .ok (.value (.bool A.isNone)) w := by
    simp only [ho, execOp, e1]
    simp [eqGuard, binOp, evV, run_eqNil ht]
  rw [hrun]
  cases A with
  | none =>
    refine .value _ _ _ _ _ _ hI (by simp only [LRel]; rfl) (h1 ?_)
    cases vs with
    | nil => rfl
    | cons v vs => obtain ⟨ad, e2, _⟩ := hr.2 (by simp); cases e2
  | some ad => exact .value _ _ _ _ _ _ hI (by simp only [LRel]; rfl) h0
theorem HereO.isNil {P : Program} {T : TT} (hT : T.Ok P) {n : Nat} {all : Array Oper} {o : Oper} {l : List Oper} {s : St} {k : Kont} {t t' e : Nat} {x : Operand} {vs : List Value} (ho : o.op = .binOp .eql t x (.const (.slice none 0 0)) t') (hx : evL s x = .rd vs) (ht : P.underlying t = some (.slice e))
    (h0 : OpsV P T n all l (s.put o.dst (.v (.bool false))) k) (h1 : vs = [] → OpsV P T n all l (s.put o.dst (.v (.bool true))) k) : HereO P T n all o l s k :=
  HereO.of_all hT (K := fun r s' => s' = s ∧ (r = .v (.bool false) ∨ vs = [] ∧ r = .v (.bool true))) (OpT.isNil ho hx ht ⟨rfl, .inl rfl⟩ fun e => ⟨rfl, .inr ⟨e, rfl⟩⟩) (by
    rintro r s' ⟨rfl, rfl | ⟨e, rfl⟩⟩
    · exact h0
    · exact h1 e)
theorem ownR_spec (l : List Int) (hl : l.length ≤ 1099511627776) : Spec Try.prog 100 [.rd (I l)] (.own 0) [.row 2 (I l)] := by
  refine Spec.of_codeC T_ok Try.func100 rfl Try.ntmps100 Try.call100 (Nat.le_of_ble_eq_true rfl) rfl rfl (CodeV_sound T_ok (by kernel_rfl) rfl ?_)
  simp only [Try.results100, go_sem, Nat.reduceMul, Nat.reduceLeDiff, Nat.reduceLT, reduceIte, reduceCtorEq, Nat.reduceEqDiff, Nat.reduceSub, Nat.reduceAdd]
  refine HereO.buildRow T_ok 120 (I []) rfl rfl rfl (by decide) rfl (by first | rfl | (simp only [go_sem, Nat.reduceMul, Nat.reduceLeDiff, Nat.reduceLT, reduceIte, reduceCtorEq, Nat.reduceEqDiff, Nat.reduceSub, Nat.reduceAdd] <;> rfl)) rfl (by decide) ?_
  simp only [Try.results100, go_sem, Nat.reduceMul, Nat.reduceLeDiff, Nat.reduceLT, reduceIte, reduceCtorEq, Nat.reduceEqDiff, Nat.reduceSub, Nat.reduceAdd]
  refine HereO.append T_ok (I l) rfl rfl (by decide) (by simp only [go_sem, Nat.reduceMul, Nat.reduceLeDiff, Nat.reduceLT, reduceIte, reduceCtorEq, Nat.reduceEqDiff, Nat.reduceSub, Nat.reduceAdd] <;> rfl) (by decide) (by simp only [go_sem, Nat.reduceMul, Nat.reduceLeDiff, Nat.reduceLT, reduceIte, reduceCtorEq, Nat.reduceEqDiff, Nat.reduceSub, Nat.reduceAdd] <;> rfl) (by simp only [go_sem, Nat.reduceMul, Nat.reduceLeDiff, Nat.reduceLT, reduceIte, reduceCtorEq, Nat.reduceEqDiff, Nat.reduceSub, Nat.reduceAdd] <;> rfl) (.rd _) (I_one _) (by simp only [I_len, List.length_nil]; omega) ?_
  simp only [Try.results100, go_sem, Nat.reduceMul, Nat.reduceLeDiff, Nat.reduceLT, reduceIte, reduceCtorEq, Nat.reduceEqDiff, Nat.reduceSub, Nat.reduceAdd]
  exact RetC.of (RetT.one 120 (by simp only [Try.results100, go_sem, Nat.reduceMul, Nat.reduceLeDiff, Nat.reduceLT, reduceIte, reduceCtorEq, Nat.reduceEqDiff, Nat.reduceSub, Nat.reduceAdd]; rfl) (by simp only [Try.results100, go_sem, Nat.reduceMul, Nat.reduceLeDiff, Nat.reduceLT, reduceIte, reduceCtorEq, Nat.reduceEqDiff, Nat.reduceSub, Nat.reduceAdd]) (by simp only [Try.results100, go_sem, Nat.reduceMul, Nat.reduceLeDiff, Nat.reduceLT, reduceIte, reduceCtorEq, Nat.reduceEqDiff, Nat.reduceSub, Nat.reduceAdd]; simp [I]))
theorem l01Copy_spec (t : List (List Int)) (h8 : t.length ≤ 8) (hrl : ∀ a, a < t.length → (t.getD a []).length ≤ 1048576) : Spec Try.prog 92 [.agg [.rds (II t)]] (.agg [.own 0]) [.rows 25 2 (II t)] := by
  refine Spec.of_code T_ok Try.func92 rfl Try.ntmps92 Try.call92 (Nat.le_of_ble_eq_true rfl) rfl rfl (CodeV_sound T_ok (by kernel_rfl) rfl ?_)
  simp only [Try.results92, go_sem, Nat.reduceMul, Nat.reduceLeDiff, Nat.reduceLT, reduceIte, reduceCtorEq, Nat.reduceEqDiff, Nat.reduceSub, Nat.reduceAdd]
  refine HereO.alloc T_ok 102 rfl rfl (by decide) ?_
  simp only [Try.results92, go_sem, Nat.reduceMul, Nat.reduceLeDiff, Nat.reduceLT, reduceIte, reduceCtorEq, Nat.reduceEqDiff, Nat.reduceSub, Nat.reduceAdd]
  refine HereO.buildRow T_ok 120 [] rfl rfl rfl (by decide) rfl rfl rfl (by decide) ?_
  simp only [Try.results92, go_sem, Nat.reduceMul, Nat.reduceLeDiff, Nat.reduceLT, reduceIte, reduceCtorEq, Nat.reduceEqDiff, Nat.reduceSub, Nat.reduceAdd]
  refine HereO.conv (Conv.rows (id := 120) (e := 25) 2 0 (by simp only [Try.results92, go_sem, Nat.reduceMul, Nat.reduceLeDiff, Nat.reduceLT, reduceIte, reduceCtorEq, Nat.reduceEqDiff, Nat.reduceSub, Nat.reduceAdd]; rfl)) ?_
  refine HereO.opP T_ok (OpP.build built_29 rfl rfl rfl rfl) ?_
  simp only [Try.results92, go_sem, Nat.reduceMul, Nat.reduceLeDiff, Nat.reduceLT, reduceIte, reduceCtorEq, Nat.reduceEqDiff, Nat.reduceSub, Nat.reduceAdd]
  refine HereO.alloc T_ok 103 rfl rfl (by decide) ?_
  simp only [Try.results92, go_sem, Nat.reduceMul, Nat.reduceLeDiff, Nat.reduceLT, reduceIte, reduceCtorEq, Nat.reduceEqDiff, Nat.reduceSub, Nat.reduceAdd]
  refine HereO.storeAgg T_ok rfl (by simp only [go_sem, Nat.reduceMul, Nat.reduceLeDiff, Nat.reduceLT, reduceIte, reduceCtorEq, Nat.reduceEqDiff, Nat.reduceSub, Nat.reduceAdd] <;> rfl) (by simp only [go_sem, Nat.reduceMul, Nat.reduceLeDiff, Nat.reduceLT, reduceIte, reduceCtorEq, Nat.reduceEqDiff, Nat.reduceSub, Nat.reduceAdd] <;> rfl) rfl (by simp only [go_sem, Nat.reduceMul, Nat.reduceLeDiff, Nat.reduceLT, reduceIte, reduceCtorEq, Nat.reduceEqDiff, Nat.reduceSub, Nat.reduceAdd] <;> rfl) (by first | rfl | (simp only [go_sem, Nat.reduceMul, Nat.reduceLeDiff, Nat.reduceLT, reduceIte, reduceCtorEq, Nat.reduceEqDiff, Nat.reduceSub, Nat.reduceAdd] <;> rfl)) rfl rfl ?_
  simp only [Try.results92, go_sem, Nat.reduceMul, Nat.reduceLeDiff, Nat.reduceLT, reduceIte, reduceCtorEq, Nat.reduceEqDiff, Nat.reduceSub, Nat.reduceAdd]
  refine Here.loopV T_ok (fun k => k ≤ t.length) (fun k => t.length - k) (fun k => [(1, .box [.rds (II t)]), (2, .ptr 102 0), (3, .ptr 103 0), (4, .v (.int .i64 k))]) (fun k => [(102, .cells 29 [.v nilV]), (103, .cells 29 [.own 120]), (120, .rows 25 2 (II (t.take k)))]) 0 (by simp) (by simp only [Try.results92, go_sem, Nat.reduceMul, Nat.reduceLeDiff, Nat.reduceLT, reduceIte, reduceCtorEq, Nat.reduceEqDiff, Nat.reduceSub, Nat.reduceAdd]; simp) (by simp only [Try.results92, go_sem, Nat.reduceMul, Nat.reduceLeDiff, Nat.reduceLT, reduceIte, reduceCtorEq, Nat.reduceEqDiff, Nat.reduceSub, Nat.reduceAdd]; simp [II, nilV]) ?_
  intro a ha
  simp only [Try.results92, go_sem, Nat.reduceMul, Nat.reduceLeDiff, Nat.reduceLT, reduceIte, reduceCtorEq, Nat.reduceEqDiff, Nat.reduceSub, Nat.reduceAdd]
  refine ⟨fun h2 => ?_, fun h2 => ?_⟩
  · have htl : (List.take a t).length = a := by rw [List.length_take]; omega
    refine Here.drawC T_ok [.f, .f, .p, .p, .p, .p, .p, .c, .c] [3] [1336, 1337, 1338, 1339, 1340, 1341, 1342, 1343, 1344, 1345, 1346, 1347, 1348, 1349, 1350, 1351, 150] [103] (Nat.le_of_ble_eq_true rfl) mixed_ok (by kernel_rfl) (by kernel_rfl) (by kernel_rfl) (by simp only [List.mem_cons, List.not_mem_nil, or_false, forall_eq_or_imp, forall_eq, go_sem, Nat.reduceMul, Nat.reduceLeDiff, Nat.reduceLT, reduceIte, reduceCtorEq, Nat.reduceEqDiff, Nat.reduceSub, Nat.reduceAdd] <;> first | exact calm_ptr_ne rfl | exact calm_ne rfl) ?_
    simp only [Try.results92, go_sem, Nat.reduceMul, Nat.reduceLeDiff, Nat.reduceLT, reduceIte, reduceCtorEq, Nat.reduceEqDiff, Nat.reduceSub, Nat.reduceAdd]
    refine ⟨calm_ptr_ne rfl, ?_⟩
    refine HereF.load T_ok (id := 103) (tt := 29) (c := [.own 120]) (off := 0) (y := .own 120) rfl (by simp only [go_sem, Nat.reduceMul, Nat.reduceLeDiff, Nat.reduceLT, reduceIte, reduceCtorEq, Nat.reduceEqDiff, Nat.reduceSub, Nat.reduceAdd] <;> rfl) (by kernel_rfl) rfl (by decide) (by simp only [go_sem, Nat.reduceMul, Nat.reduceLeDiff, Nat.reduceLT, reduceIte, reduceCtorEq, Nat.reduceEqDiff, Nat.reduceSub, Nat.reduceAdd] <;> rfl) rfl (by first | exact calm_ne rfl | simp only [go_sem, Nat.reduceMul, Nat.reduceLeDiff, Nat.reduceLT, reduceIte, reduceCtorEq, Nat.reduceEqDiff, Nat.reduceSub, Nat.reduceAdd]) ?_
    simp only [Try.results92, go_sem, Nat.reduceMul, Nat.reduceLeDiff, Nat.reduceLT, reduceIte, reduceCtorEq, Nat.reduceEqDiff, Nat.reduceSub, Nat.reduceAdd]
    refine ⟨⟨by omega, by omega⟩, ?_⟩
    refine HereC.callOwn 21 rfl rfl (ownR_spec (t.getD a []) (by have := hrl a (by omega); omega)) (by simp only [go_sem, Nat.reduceMul, Nat.reduceLeDiff, Nat.reduceLT, reduceIte, reduceCtorEq, Nat.reduceEqDiff, Nat.reduceSub, Nat.reduceAdd, List.toList_toArray] <;> first | rfl | exact ⟨rfl, rfl⟩) rfl (by simp) rfl (inK_shift (by decide)) (by first | exact keeps_nil _ _ | (simp only [keeps_cons, keeps_nil', go_sem, Nat.reduceMul, Nat.reduceLeDiff, Nat.reduceLT, reduceIte, reduceCtorEq, Nat.reduceEqDiff, Nat.reduceSub, Nat.reduceAdd] <;> rfl)) ?_
    simp only [Try.results92, go_sem, Nat.reduceMul, Nat.reduceLeDiff, Nat.reduceLT, reduceIte, reduceCtorEq, Nat.reduceEqDiff, Nat.reduceSub, Nat.reduceAdd]
    refine HereC.buildRowL T_ok 150 [.own 1336] rfl rfl rfl (by decide) rfl (by simp only [go_sem, Nat.reduceMul, Nat.reduceLeDiff, Nat.reduceLT, reduceIte, reduceCtorEq, Nat.reduceEqDiff, Nat.reduceSub, Nat.reduceAdd] <;> rfl) rfl (by decide) (by simp only [go_sem, Nat.reduceMul, Nat.reduceLeDiff, Nat.reduceLT, reduceIte, reduceCtorEq, Nat.reduceEqDiff, Nat.reduceSub, Nat.reduceAdd] <;> rfl) rfl (by first | exact keeps_nil _ _ | (simp only [keeps_cons, keeps_nil', go_sem, Nat.reduceMul, Nat.reduceLeDiff, Nat.reduceLT, reduceIte, reduceCtorEq, Nat.reduceEqDiff, Nat.reduceSub, Nat.reduceAdd] <;> rfl)) ?_
    simp only [Try.results92, go_sem, Nat.reduceMul, Nat.reduceLeDiff, Nat.reduceLT, reduceIte, reduceCtorEq, Nat.reduceEqDiff, Nat.reduceSub, Nat.reduceAdd]
    refine HereO.appendRows T_ok (id := 120) (j := 150) (i := 1336) rfl rfl (by decide) (by simp only [go_sem, Nat.reduceMul, Nat.reduceLeDiff, Nat.reduceLT, reduceIte, reduceCtorEq, Nat.reduceEqDiff, Nat.reduceSub, Nat.reduceAdd] <;> rfl) (by decide) (by simp only [go_sem, Nat.reduceMul, Nat.reduceLeDiff, Nat.reduceLT, reduceIte, reduceCtorEq, Nat.reduceEqDiff, Nat.reduceSub, Nat.reduceAdd] <;> rfl) (by simp only [go_sem, Nat.reduceMul, Nat.reduceLeDiff, Nat.reduceLT, reduceIte, reduceCtorEq, Nat.reduceEqDiff, Nat.reduceSub, Nat.reduceAdd] <;> rfl) (by simp only [go_sem, Nat.reduceMul, Nat.reduceLeDiff, Nat.reduceLT, reduceIte, reduceCtorEq, Nat.reduceEqDiff, Nat.reduceSub, Nat.reduceAdd] <;> rfl) (by simp only [go_sem, Nat.reduceMul, Nat.reduceLeDiff, Nat.reduceLT, reduceIte, reduceCtorEq, Nat.reduceEqDiff, Nat.reduceSub, Nat.reduceAdd] <;> rfl) (by decide) (by decide) (by first | (simp only [II_len]; omega) | simp only [I_len, II_len, upTo_len, tab_len, cnt_len, List.length_append, List.length_cons, List.length_nil, List.length_replicate]; omega) ?_
    simp only [Try.results92, go_sem, Nat.reduceMul, Nat.reduceLeDiff, Nat.reduceLT, reduceIte, reduceCtorEq, Nat.reduceEqDiff, Nat.reduceSub, Nat.reduceAdd]
    refine HereO.store T_ok rfl (by simp only [go_sem, Nat.reduceMul, Nat.reduceLeDiff, Nat.reduceLT, reduceIte, reduceCtorEq, Nat.reduceEqDiff, Nat.reduceSub, Nat.reduceAdd] <;> rfl) (by simp only [go_sem, Nat.reduceMul, Nat.reduceLeDiff, Nat.reduceLT, reduceIte, reduceCtorEq, Nat.reduceEqDiff, Nat.reduceSub, Nat.reduceAdd] <;> rfl) rfl (by simp only [go_sem, Nat.reduceMul, Nat.reduceLeDiff, Nat.reduceLT, reduceIte, reduceCtorEq, Nat.reduceEqDiff, Nat.reduceSub, Nat.reduceAdd] <;> rfl) rfl (by first | rfl | (simp only [go_sem, Nat.reduceMul, Nat.reduceLeDiff, Nat.reduceLT, reduceIte, reduceCtorEq, Nat.reduceEqDiff, Nat.reduceSub, Nat.reduceAdd] <;> rfl)) (Nat.le_of_ble_eq_true rfl) ?_
    simp only [Try.results92, go_sem, Nat.reduceMul, Nat.reduceLeDiff, Nat.reduceLT, reduceIte, reduceCtorEq, Nat.reduceEqDiff, Nat.reduceSub, Nat.reduceAdd]
    refine ⟨by unfold InR; omega, a + 1, by omega, by omega, by push_cast; rfl, ?_⟩
    have e1 : t.take (a + 1) = t.take a ++ [t.getD a []] := by
      rw [List.take_succ_eq_append_getElem (by omega), List.getD_eq_getElem?_getD, List.getElem?_eq_getElem (by omega), Option.getD_some]
    rw [e1]
    simp [II]
  · obtain rfl : a = t.length := by omega
    refine HereO.storeAgg T_ok rfl (by simp only [go_sem, Nat.reduceMul, Nat.reduceLeDiff, Nat.reduceLT, reduceIte, reduceCtorEq, Nat.reduceEqDiff, Nat.reduceSub, Nat.reduceAdd] <;> rfl) (by simp only [go_sem, Nat.reduceMul, Nat.reduceLeDiff, Nat.reduceLT, reduceIte, reduceCtorEq, Nat.reduceEqDiff, Nat.reduceSub, Nat.reduceAdd] <;> rfl) rfl (by simp only [go_sem, Nat.reduceMul, Nat.reduceLeDiff, Nat.reduceLT, reduceIte, reduceCtorEq, Nat.reduceEqDiff, Nat.reduceSub, Nat.reduceAdd] <;> rfl) (by first | rfl | (simp only [go_sem, Nat.reduceMul, Nat.reduceLeDiff, Nat.reduceLT, reduceIte, reduceCtorEq, Nat.reduceEqDiff, Nat.reduceSub, Nat.reduceAdd] <;> rfl)) rfl rfl ?_
    simp only [Try.results92, go_sem, Nat.reduceMul, Nat.reduceLeDiff, Nat.reduceLT, reduceIte, reduceCtorEq, Nat.reduceEqDiff, Nat.reduceSub, Nat.reduceAdd]
    refine RetT.one 120 (by simp only [Try.results92, go_sem, Nat.reduceMul, Nat.reduceLeDiff, Nat.reduceLT, reduceIte, reduceCtorEq, Nat.reduceEqDiff, Nat.reduceSub, Nat.reduceAdd]; rfl) rfl ?_
    simp only [Try.results92, go_sem, Nat.reduceMul, Nat.reduceLeDiff, Nat.reduceLT, reduceIte, reduceCtorEq, Nat.reduceEqDiff, Nat.reduceSub, Nat.reduceAdd]
    rw [List.take_length]
end Go.Proofs.Ytdbkiomhoonclaa
