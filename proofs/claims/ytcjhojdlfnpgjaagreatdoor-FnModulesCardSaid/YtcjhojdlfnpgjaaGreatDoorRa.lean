/- Contracts: copies of rows and groups. -/
import Derived.Test.YtcjhojdlfnpgjaaGreatDoorWd
import Derived.Test.YtcjhojdlfnpgjaaGreatDoorWf
import Derived.Test.YtcjhojdlfnpgjaaGreatDoorUa
import Derived.Test.YtcjhojdlfnpgjaaGreatDoorGe
import Derived.Test.YtcjhojdlfnpgjaaGreatDoorMa
namespace Go.Proofs.YtcjhojdlfnpgjaaGreatDoor
open Go.RowKit
set_option linter.unusedVariables false
set_option linter.unusedSimpArgs false
set_option maxRecDepth 100000

section
variable {P : Program} {T : TT} {K : List Nat} {G : (Nat → Option OC) → Prop} {n : Nat} {all : Array Oper} {k : Kont}
theorem HereC.buildRowL {ms : List Md} {o : Oper} {l : List Oper} {s : St} (hT : T.Ok P) {t e : Nat} {z : Value} {bts m : Nat} {parts : Array (Nat × Operand)} (id : Nat) (ls : List LV) (ho : o.op = .buildSlice t m parts) (ht : T.el t = some (e, z, bts)) (hn : m = parts.toList.length) (hm : m ≤ 1000) (hp : partsIn 0 parts.toList = true)
    (hx : (parts.toList.map fun p => evL s p.2) = ls) (h1 : ls.all (fun x => oneL x && ownIs s.σ x) = true) (hid : 16 ≤ id) (hno : kills (fun j => j == id) ls = ls) (hk : K.contains id = true) (hG : G (s.fresh id (.rowL e ls)).σ) (h : SV P T K G n all ms l ((s.fresh id (.rowL e ls)).put o.dst (.own id)) k) : HereC P T K G n all ms o l s k := by
  refine ⟨fun j => j == id, (s.fresh id (.rowL e ls)).σ, .own id, fun j hj => by rw [beq_iff_eq.1 hj]; exact hk, hG, fun s' hs' hx' => ?_, h⟩
  have hev : (parts.toList.map fun p => evL s' p.2) = ls := by
    rw [← hx]
    exact List.map_congr_left fun p hm => hx' p.2 (by simp [ho, Op.operands]; exact ⟨p.1, by simpa using hm⟩)
  refine OpT.buildRowL hT ho ht hn hm hp (by rw [hev, hs']; exact h1) id hid (by rw [hev]; exact hno) ⟨rfl, ?_⟩
  rw [hev]
  unfold St.fresh St.turn
  rw [hs']
end
theorem ownR_spec (l : List Int) (hl : l.length ≤ 1099511627776) : Spec Tryz.prog 71 [.rd (I l)] (.own 0) [.row 2 (I l)] := by
  refine Spec.of_codeC T_ok Tryz.func71 rfl Tryz.ntmps71 Tryz.call71 (Nat.le_of_ble_eq_true rfl) rfl rfl (CodeV_sound T_ok (by kernel_rfl) rfl ?_)
  simp only [Tryz.results71, go_sem, Nat.reduceMul, Nat.reduceLeDiff, Nat.reduceLT, reduceIte, reduceCtorEq, Nat.reduceEqDiff, Nat.reduceSub, Nat.reduceAdd]
  refine HereO.buildRow T_ok 120 (I []) rfl rfl rfl (by decide) rfl (by first | rfl | (simp only [go_sem, Nat.reduceMul, Nat.reduceLeDiff, Nat.reduceLT, reduceIte, reduceCtorEq, Nat.reduceEqDiff, Nat.reduceSub, Nat.reduceAdd] <;> rfl)) rfl (by decide) ?_
  simp only [Tryz.results71, go_sem, Nat.reduceMul, Nat.reduceLeDiff, Nat.reduceLT, reduceIte, reduceCtorEq, Nat.reduceEqDiff, Nat.reduceSub, Nat.reduceAdd]
  refine HereO.append T_ok (I l) rfl rfl (by decide) (by simp only [go_sem, Nat.reduceMul, Nat.reduceLeDiff, Nat.reduceLT, reduceIte, reduceCtorEq, Nat.reduceEqDiff, Nat.reduceSub, Nat.reduceAdd] <;> rfl) (by decide) (by simp only [go_sem, Nat.reduceMul, Nat.reduceLeDiff, Nat.reduceLT, reduceIte, reduceCtorEq, Nat.reduceEqDiff, Nat.reduceSub, Nat.reduceAdd] <;> rfl) (by simp only [go_sem, Nat.reduceMul, Nat.reduceLeDiff, Nat.reduceLT, reduceIte, reduceCtorEq, Nat.reduceEqDiff, Nat.reduceSub, Nat.reduceAdd] <;> rfl) (.rd _) (I_one _) (by simp only [I_len, List.length_nil]; omega) ?_
  simp only [Tryz.results71, go_sem, Nat.reduceMul, Nat.reduceLeDiff, Nat.reduceLT, reduceIte, reduceCtorEq, Nat.reduceEqDiff, Nat.reduceSub, Nat.reduceAdd]
  exact RetC.of (RetT.one 120 (by simp only [Tryz.results71, go_sem, Nat.reduceMul, Nat.reduceLeDiff, Nat.reduceLT, reduceIte, reduceCtorEq, Nat.reduceEqDiff, Nat.reduceSub, Nat.reduceAdd]; rfl) (by simp only [Tryz.results71, go_sem, Nat.reduceMul, Nat.reduceLeDiff, Nat.reduceLT, reduceIte, reduceCtorEq, Nat.reduceEqDiff, Nat.reduceSub, Nat.reduceAdd]) (by simp only [Tryz.results71, go_sem, Nat.reduceMul, Nat.reduceLeDiff, Nat.reduceLT, reduceIte, reduceCtorEq, Nat.reduceEqDiff, Nat.reduceSub, Nat.reduceAdd]; simp [I]))
theorem l01Copy_spec (t : List (List Int)) (h8 : t.length ≤ 8) (hrl : ∀ a, a < t.length → (t.getD a []).length ≤ 1048576) : Spec Tryz.prog 69 [.agg [.rds (II t)]] (.agg [.own 0]) [.rows 33 2 (II t)] := by
  refine Spec.of_code T_ok Tryz.func69 rfl Tryz.ntmps69 Tryz.call69 (Nat.le_of_ble_eq_true rfl) rfl rfl (CodeV_sound T_ok (by kernel_rfl) rfl ?_)
  simp only [Tryz.results69, go_sem, Nat.reduceMul, Nat.reduceLeDiff, Nat.reduceLT, reduceIte, reduceCtorEq, Nat.reduceEqDiff, Nat.reduceSub, Nat.reduceAdd]
  refine HereO.alloc T_ok 102 rfl rfl (by decide) ?_
  simp only [Tryz.results69, go_sem, Nat.reduceMul, Nat.reduceLeDiff, Nat.reduceLT, reduceIte, reduceCtorEq, Nat.reduceEqDiff, Nat.reduceSub, Nat.reduceAdd]
  refine HereO.buildRow T_ok 120 [] rfl rfl rfl (by decide) rfl rfl rfl (by decide) ?_
  simp only [Tryz.results69, go_sem, Nat.reduceMul, Nat.reduceLeDiff, Nat.reduceLT, reduceIte, reduceCtorEq, Nat.reduceEqDiff, Nat.reduceSub, Nat.reduceAdd]
  refine HereO.conv (Conv.rows (id := 120) (e := 33) 2 0 (by simp only [Tryz.results69, go_sem, Nat.reduceMul, Nat.reduceLeDiff, Nat.reduceLT, reduceIte, reduceCtorEq, Nat.reduceEqDiff, Nat.reduceSub, Nat.reduceAdd]; rfl)) ?_
  refine HereO.opP T_ok (OpP.build built_26 rfl rfl rfl rfl) ?_
  simp only [Tryz.results69, go_sem, Nat.reduceMul, Nat.reduceLeDiff, Nat.reduceLT, reduceIte, reduceCtorEq, Nat.reduceEqDiff, Nat.reduceSub, Nat.reduceAdd]
  refine HereO.alloc T_ok 103 rfl rfl (by decide) ?_
  simp only [Tryz.results69, go_sem, Nat.reduceMul, Nat.reduceLeDiff, Nat.reduceLT, reduceIte, reduceCtorEq, Nat.reduceEqDiff, Nat.reduceSub, Nat.reduceAdd]
  refine HereO.storeAgg T_ok rfl (by simp only [go_sem, Nat.reduceMul, Nat.reduceLeDiff, Nat.reduceLT, reduceIte, reduceCtorEq, Nat.reduceEqDiff, Nat.reduceSub, Nat.reduceAdd] <;> rfl) (by simp only [go_sem, Nat.reduceMul, Nat.reduceLeDiff, Nat.reduceLT, reduceIte, reduceCtorEq, Nat.reduceEqDiff, Nat.reduceSub, Nat.reduceAdd] <;> rfl) rfl (by simp only [go_sem, Nat.reduceMul, Nat.reduceLeDiff, Nat.reduceLT, reduceIte, reduceCtorEq, Nat.reduceEqDiff, Nat.reduceSub, Nat.reduceAdd] <;> rfl) (by first | rfl | (simp only [go_sem, Nat.reduceMul, Nat.reduceLeDiff, Nat.reduceLT, reduceIte, reduceCtorEq, Nat.reduceEqDiff, Nat.reduceSub, Nat.reduceAdd] <;> rfl)) rfl rfl ?_
  simp only [Tryz.results69, go_sem, Nat.reduceMul, Nat.reduceLeDiff, Nat.reduceLT, reduceIte, reduceCtorEq, Nat.reduceEqDiff, Nat.reduceSub, Nat.reduceAdd]
  refine Here.loopV T_ok (fun k => k ≤ t.length) (fun k => t.length - k) (fun k => [(1, .box [.rds (II t)]), (2, .ptr 102 0), (3, .ptr 103 0), (4, .v (.int .i64 k))]) (fun k => [(102, .cells 26 [.v nilV]), (103, .cells 26 [.own 120]), (120, .rows 33 2 (II (t.take k)))]) 0 (by simp) (by simp only [Tryz.results69, go_sem, Nat.reduceMul, Nat.reduceLeDiff, Nat.reduceLT, reduceIte, reduceCtorEq, Nat.reduceEqDiff, Nat.reduceSub, Nat.reduceAdd]; simp) (by simp only [Tryz.results69, go_sem, Nat.reduceMul, Nat.reduceLeDiff, Nat.reduceLT, reduceIte, reduceCtorEq, Nat.reduceEqDiff, Nat.reduceSub, Nat.reduceAdd]; simp [II, nilV]) ?_
  intro a ha
  simp only [Tryz.results69, go_sem, Nat.reduceMul, Nat.reduceLeDiff, Nat.reduceLT, reduceIte, reduceCtorEq, Nat.reduceEqDiff, Nat.reduceSub, Nat.reduceAdd]
  refine ⟨fun h2 => ?_, fun h2 => ?_⟩
  · have htl : (List.take a t).length = a := by rw [List.length_take]; omega
    refine Here.drawC T_ok [.f, .f, .p, .p, .p, .p, .p, .c, .c] [3] [1336, 1337, 1338, 1339, 1340, 1341, 1342, 1343, 1344, 1345, 1346, 1347, 1348, 1349, 1350, 1351, 150] [103] (Nat.le_of_ble_eq_true rfl) mixed_ok (by kernel_rfl) (by kernel_rfl) (by kernel_rfl) (by simp only [List.mem_cons, List.not_mem_nil, or_false, forall_eq_or_imp, forall_eq, go_sem, Nat.reduceMul, Nat.reduceLeDiff, Nat.reduceLT, reduceIte, reduceCtorEq, Nat.reduceEqDiff, Nat.reduceSub, Nat.reduceAdd] <;> first | exact calm_ptr_ne rfl | exact calm_ne rfl | exact ⟨calm_ptr_ne rfl, calm_ptr_ne rfl⟩ | exact ⟨calm_ptr_ne rfl, calm_ptr_ne rfl, calm_ptr_ne rfl⟩ | exact ⟨calm_ptr_ne rfl, calm_knot (by simp only [go_sem, Nat.reduceMul, Nat.reduceLeDiff, Nat.reduceLT, reduceIte, reduceCtorEq, Nat.reduceEqDiff, Nat.reduceSub, Nat.reduceAdd] <;> exact calm_ptr_ne rfl)⟩ | ((repeat' apply And.intro) <;> first | exact calm_ptr_ne rfl | exact calm_ne rfl)) ?_
    simp only [Tryz.results69, go_sem, Nat.reduceMul, Nat.reduceLeDiff, Nat.reduceLT, reduceIte, reduceCtorEq, Nat.reduceEqDiff, Nat.reduceSub, Nat.reduceAdd]
    refine ⟨calm_ptr_ne rfl, ?_⟩
    refine HereF.load T_ok (id := 103) (tt := 26) (c := [.own 120]) (off := 0) (y := .own 120) rfl (by simp only [go_sem, Nat.reduceMul, Nat.reduceLeDiff, Nat.reduceLT, reduceIte, reduceCtorEq, Nat.reduceEqDiff, Nat.reduceSub, Nat.reduceAdd] <;> rfl) (by kernel_rfl) rfl (by decide) (by simp only [go_sem, Nat.reduceMul, Nat.reduceLeDiff, Nat.reduceLT, reduceIte, reduceCtorEq, Nat.reduceEqDiff, Nat.reduceSub, Nat.reduceAdd] <;> rfl) rfl (by first | exact calm_ne rfl | simp only [go_sem, Nat.reduceMul, Nat.reduceLeDiff, Nat.reduceLT, reduceIte, reduceCtorEq, Nat.reduceEqDiff, Nat.reduceSub, Nat.reduceAdd]) ?_
    simp only [Tryz.results69, go_sem, Nat.reduceMul, Nat.reduceLeDiff, Nat.reduceLT, reduceIte, reduceCtorEq, Nat.reduceEqDiff, Nat.reduceSub, Nat.reduceAdd]
    refine ⟨⟨by omega, by omega⟩, ?_⟩
    refine HereC.callOwn 21 rfl rfl (ownR_spec (t.getD a []) (by have := hrl a (by omega); omega)) (by simp only [go_sem, Nat.reduceMul, Nat.reduceLeDiff, Nat.reduceLT, reduceIte, reduceCtorEq, Nat.reduceEqDiff, Nat.reduceSub, Nat.reduceAdd, List.toList_toArray] <;> first | rfl | exact ⟨rfl, rfl⟩) rfl (by simp) rfl (inK_shift (by decide)) (by first | exact keeps_nil _ _ | (simp only [keeps_cons, keeps_nil', go_sem, Nat.reduceMul, Nat.reduceLeDiff, Nat.reduceLT, reduceIte, reduceCtorEq, Nat.reduceEqDiff, Nat.reduceSub, Nat.reduceAdd] <;> rfl)) ?_
    simp only [Tryz.results69, go_sem, Nat.reduceMul, Nat.reduceLeDiff, Nat.reduceLT, reduceIte, reduceCtorEq, Nat.reduceEqDiff, Nat.reduceSub, Nat.reduceAdd]
    refine HereC.buildRowL T_ok 150 [.own 1336] rfl rfl rfl (by decide) rfl (by simp only [go_sem, Nat.reduceMul, Nat.reduceLeDiff, Nat.reduceLT, reduceIte, reduceCtorEq, Nat.reduceEqDiff, Nat.reduceSub, Nat.reduceAdd] <;> rfl) rfl (by decide) (by simp only [go_sem, Nat.reduceMul, Nat.reduceLeDiff, Nat.reduceLT, reduceIte, reduceCtorEq, Nat.reduceEqDiff, Nat.reduceSub, Nat.reduceAdd] <;> rfl) rfl (by first | exact keeps_nil _ _ | (simp only [keeps_cons, keeps_nil', go_sem, Nat.reduceMul, Nat.reduceLeDiff, Nat.reduceLT, reduceIte, reduceCtorEq, Nat.reduceEqDiff, Nat.reduceSub, Nat.reduceAdd] <;> rfl)) ?_
    simp only [Tryz.results69, go_sem, Nat.reduceMul, Nat.reduceLeDiff, Nat.reduceLT, reduceIte, reduceCtorEq, Nat.reduceEqDiff, Nat.reduceSub, Nat.reduceAdd]
    refine HereO.appendRows T_ok (id := 120) (j := 150) (i := 1336) rfl rfl (by decide) (by simp only [go_sem, Nat.reduceMul, Nat.reduceLeDiff, Nat.reduceLT, reduceIte, reduceCtorEq, Nat.reduceEqDiff, Nat.reduceSub, Nat.reduceAdd] <;> rfl) (by decide) (by simp only [go_sem, Nat.reduceMul, Nat.reduceLeDiff, Nat.reduceLT, reduceIte, reduceCtorEq, Nat.reduceEqDiff, Nat.reduceSub, Nat.reduceAdd] <;> rfl) (by simp only [go_sem, Nat.reduceMul, Nat.reduceLeDiff, Nat.reduceLT, reduceIte, reduceCtorEq, Nat.reduceEqDiff, Nat.reduceSub, Nat.reduceAdd] <;> rfl) (by simp only [go_sem, Nat.reduceMul, Nat.reduceLeDiff, Nat.reduceLT, reduceIte, reduceCtorEq, Nat.reduceEqDiff, Nat.reduceSub, Nat.reduceAdd] <;> rfl) (by simp only [go_sem, Nat.reduceMul, Nat.reduceLeDiff, Nat.reduceLT, reduceIte, reduceCtorEq, Nat.reduceEqDiff, Nat.reduceSub, Nat.reduceAdd] <;> rfl) (by decide) (by decide) (by first | (simp only [II_len]; omega) | simp only [I_len, II_len, upTo_len, tab_len, cnt_len, List.length_append, List.length_cons, List.length_nil, List.length_replicate]; omega) ?_
    simp only [Tryz.results69, go_sem, Nat.reduceMul, Nat.reduceLeDiff, Nat.reduceLT, reduceIte, reduceCtorEq, Nat.reduceEqDiff, Nat.reduceSub, Nat.reduceAdd]
    refine HereO.store T_ok rfl (by simp only [go_sem, Nat.reduceMul, Nat.reduceLeDiff, Nat.reduceLT, reduceIte, reduceCtorEq, Nat.reduceEqDiff, Nat.reduceSub, Nat.reduceAdd] <;> rfl) (by simp only [go_sem, Nat.reduceMul, Nat.reduceLeDiff, Nat.reduceLT, reduceIte, reduceCtorEq, Nat.reduceEqDiff, Nat.reduceSub, Nat.reduceAdd] <;> rfl) rfl (by simp only [go_sem, Nat.reduceMul, Nat.reduceLeDiff, Nat.reduceLT, reduceIte, reduceCtorEq, Nat.reduceEqDiff, Nat.reduceSub, Nat.reduceAdd] <;> rfl) rfl (by first | rfl | (simp only [go_sem, Nat.reduceMul, Nat.reduceLeDiff, Nat.reduceLT, reduceIte, reduceCtorEq, Nat.reduceEqDiff, Nat.reduceSub, Nat.reduceAdd] <;> rfl)) (Nat.le_of_ble_eq_true rfl) ?_
    simp only [Tryz.results69, go_sem, Nat.reduceMul, Nat.reduceLeDiff, Nat.reduceLT, reduceIte, reduceCtorEq, Nat.reduceEqDiff, Nat.reduceSub, Nat.reduceAdd]
    refine ⟨by unfold InR; omega, a + 1, by omega, by omega, by push_cast; rfl, ?_⟩
    have e1 : t.take (a + 1) = t.take a ++ [t.getD a []] := by
      rw [List.take_succ_eq_append_getElem (by omega), List.getD_eq_getElem?_getD, List.getElem?_eq_getElem (by omega), Option.getD_some]
    rw [e1]
    simp [II]
  · obtain rfl : a = t.length := by omega
    refine HereO.storeAgg T_ok rfl (by simp only [go_sem, Nat.reduceMul, Nat.reduceLeDiff, Nat.reduceLT, reduceIte, reduceCtorEq, Nat.reduceEqDiff, Nat.reduceSub, Nat.reduceAdd] <;> rfl) (by simp only [go_sem, Nat.reduceMul, Nat.reduceLeDiff, Nat.reduceLT, reduceIte, reduceCtorEq, Nat.reduceEqDiff, Nat.reduceSub, Nat.reduceAdd] <;> rfl) rfl (by simp only [go_sem, Nat.reduceMul, Nat.reduceLeDiff, Nat.reduceLT, reduceIte, reduceCtorEq, Nat.reduceEqDiff, Nat.reduceSub, Nat.reduceAdd] <;> rfl) (by first | rfl | (simp only [go_sem, Nat.reduceMul, Nat.reduceLeDiff, Nat.reduceLT, reduceIte, reduceCtorEq, Nat.reduceEqDiff, Nat.reduceSub, Nat.reduceAdd] <;> rfl)) rfl rfl ?_
    simp only [Tryz.results69, go_sem, Nat.reduceMul, Nat.reduceLeDiff, Nat.reduceLT, reduceIte, reduceCtorEq, Nat.reduceEqDiff, Nat.reduceSub, Nat.reduceAdd]
    refine RetT.one 120 (by simp only [Tryz.results69, go_sem, Nat.reduceMul, Nat.reduceLeDiff, Nat.reduceLT, reduceIte, reduceCtorEq, Nat.reduceEqDiff, Nat.reduceSub, Nat.reduceAdd]; rfl) rfl ?_
    simp only [Tryz.results69, go_sem, Nat.reduceMul, Nat.reduceLeDiff, Nat.reduceLT, reduceIte, reduceCtorEq, Nat.reduceEqDiff, Nat.reduceSub, Nat.reduceAdd]
    rw [List.take_length]
end Go.Proofs.YtcjhojdlfnpgjaaGreatDoor

namespace Go.Proofs.YtcjhojdlfnpgjaaGreatDoor
open Go.RowKit
set_option linter.unusedVariables false
set_option linter.unusedSimpArgs false
set_option maxRecDepth 100000

/-! ### Numbers from 0 to n - 1 -/
def BL (l : List Bool) : List Value := l.map .bool
open Classical in
noncomputable def permB (n : Nat) (p : List Int) : Bool := decide (Perm0 n p)
def NumI (n : Nat) (p : List Int) (i : Nat) (bs : List Bool) : Prop := i ≤ p.length ∧ bs.length = n ∧ (∀ j, j < i → 0 ≤ p.getD j 0 ∧ p.getD j 0 < n) ∧ (∀ x : Nat, x < n → (bs.getD x false = true ↔ ∃ j, j < i ∧ p.getD j 0 = x)) ∧ ∀ j k, j < k → k < i → p.getD j 0 ≠ p.getD k 0
/-! ### RenumberGroup -/
noncomputable def renC (t : List (List Int)) (p : List Int) : Int := if Grp t then (if permB t.length p = true then 0 else 2) else 1
noncomputable def renT (t : List (List Int)) (p : List Int) : List (List Int) := if renC t p = 0 then tab (renF t p) t.length t.length else []
/-- The rows so far are written. -/
def Wrt (t : List (List Int)) (p : List Int) (a : Nat) (T : List (List Int)) : Prop := T.length = t.length ∧ (∀ x, x < t.length → (T.getD x []).length = t.length) ∧ ∀ c b, c < a → b < t.length → ee T (p.getD c 0).toNat (p.getD b 0).toNat = p.getD (em t c b) 0
theorem wrt_step {t : List (List Int)} {p : List Int} {a : Nat} {T : List (List Int)} {R : List Int} (hp : Perm0 t.length p) (h : Wrt t p a T) (ha : a < t.length) (hR : R.length = t.length) (hv : ∀ b, b < t.length → R.getD (p.getD b 0).toNat 0 = p.getD (em t a b) 0) : Wrt t p (a + 1) (T.set (p.getD a 0).toNat R) := by
  obtain ⟨h1, h2, h3⟩ := h
  have hpa := hp.2.1 a (by rw [hp.1]; exact ha)
  have get : ∀ x, (T.set (p.getD a 0).toNat R).getD x [] = if (p.getD a 0).toNat = x then R else T.getD x [] := fun x => by
    rw [setD (d := ([] : List Int))]
    by_cases e : (p.getD a 0).toNat = x
    · rw [if_pos e, if_pos ⟨e, by omega⟩]
    · rw [if_neg e, if_neg fun q => e q.1]
  refine ⟨by rw [List.length_set]; exact h1, fun x hx => ?_, fun c b hc hb => ?_⟩
  · rw [get]
    split
    · exact hR
    · exact h2 x hx
  · unfold ee
    rw [get]
    by_cases e : c = a
    · subst e
      rw [if_pos rfl]; exact hv b hb
    · have hpc := hp.2.1 c (by rw [hp.1]; omega)
      rw [if_neg (fun q => e (hp.2.2.1 c a (by omega) ha (by omega)))]
      exact h3 c b (by omega) hb
set_option maxHeartbeats 4000000 in
theorem l01Renumbered_spec (t : List (List Int)) (hg : Grp t) (p : List Int) (hp : Perm0 t.length p) : Spec Tryz.prog 74 [.agg [.rds (II t)], .rd (I p)] (.agg [.own 0]) [.rows 33 2 (II (tab (renF t p) t.length t.length))] := by
  have h8 := hg.2.1
  have hpl := hp.1
  have hr : ∀ a, a < t.length → (t.getD a []).length = t.length := fun a ha => (hg.2.2.1 a ha).1
  have he : ∀ a b, a < t.length → b < t.length → (t.getD a []).getD b 0 = em t a b := fun a b ha hb => by have := em_ee hg ha hb; unfold ee at this; exact this
  refine Spec.of_code T_ok Tryz.func74 rfl Tryz.ntmps74 Tryz.call74 (Nat.le_of_ble_eq_true rfl) rfl rfl (CodeV_sound T_ok (by kernel_rfl) rfl ?_)
  simp only [Tryz.results74, go_sem, Nat.reduceMul, Nat.reduceLeDiff, Nat.reduceLT, reduceIte, reduceCtorEq, Nat.reduceEqDiff, Nat.reduceSub, Nat.reduceAdd]
  refine HereO.alloc T_ok 104 rfl rfl (by decide) ?_
  simp only [Tryz.results74, go_sem, Nat.reduceMul, Nat.reduceLeDiff, Nat.reduceLT, reduceIte, reduceCtorEq, Nat.reduceEqDiff, Nat.reduceSub, Nat.reduceAdd]
  refine HereO.callOwn T_ok 10 rfl rfl (l01Copy_spec t h8 (fun a ha => by rw [hr a ha]; omega)) (by simp only [go_sem, Nat.reduceMul, Nat.reduceLeDiff, Nat.reduceLT, reduceIte, reduceCtorEq, Nat.reduceEqDiff, Nat.reduceSub, Nat.reduceAdd, List.toList_toArray] <;> first | rfl | exact ⟨rfl, rfl⟩) rfl (by simp) rfl ?_
  simp only [Tryz.results74, go_sem, Nat.reduceMul, Nat.reduceLeDiff, Nat.reduceLT, reduceIte, reduceCtorEq, Nat.reduceEqDiff, Nat.reduceSub, Nat.reduceAdd]
  refine HereO.alloc T_ok 105 rfl rfl (by decide) ?_
  simp only [Tryz.results74, go_sem, Nat.reduceMul, Nat.reduceLeDiff, Nat.reduceLT, reduceIte, reduceCtorEq, Nat.reduceEqDiff, Nat.reduceSub, Nat.reduceAdd]
  refine HereO.storeAgg T_ok rfl (by simp only [go_sem, Nat.reduceMul, Nat.reduceLeDiff, Nat.reduceLT, reduceIte, reduceCtorEq, Nat.reduceEqDiff, Nat.reduceSub, Nat.reduceAdd] <;> rfl) (by simp only [go_sem, Nat.reduceMul, Nat.reduceLeDiff, Nat.reduceLT, reduceIte, reduceCtorEq, Nat.reduceEqDiff, Nat.reduceSub, Nat.reduceAdd] <;> rfl) rfl (by simp only [go_sem, Nat.reduceMul, Nat.reduceLeDiff, Nat.reduceLT, reduceIte, reduceCtorEq, Nat.reduceEqDiff, Nat.reduceSub, Nat.reduceAdd] <;> rfl) (by first | rfl | (simp only [go_sem, Nat.reduceMul, Nat.reduceLeDiff, Nat.reduceLT, reduceIte, reduceCtorEq, Nat.reduceEqDiff, Nat.reduceSub, Nat.reduceAdd] <;> rfl)) rfl rfl ?_
  simp only [Tryz.results74, go_sem, Nat.reduceMul, Nat.reduceLeDiff, Nat.reduceLT, reduceIte, reduceCtorEq, Nat.reduceEqDiff, Nat.reduceSub, Nat.reduceAdd]
  refine Here.loopH (κ := Nat × List (List Int)) (fun g => g.1 ≤ t.length ∧ Wrt t p g.1 g.2) (fun g => t.length - g.1) (fun g => [(1, .rd (I p)), (2, .box [.rds (II t)]), (4, .ptr 104 0), (5, .ptr 105 0), (6, .v (.int .i64 g.1))]) (fun g => [(104, .cells 26 [.v nilV]), (105, .cells 26 [.own 1160]), (1160, .rows 33 2 (II g.2))]) (0, t) ⟨by simp, rfl, hr, fun c b hc => by omega⟩ (by simp only [Tryz.results74, go_sem, Nat.reduceMul, Nat.reduceLeDiff, Nat.reduceLT, reduceIte, reduceCtorEq, Nat.reduceEqDiff, Nat.reduceSub, Nat.reduceAdd]; simp) (by simp only [Tryz.results74, go_sem, Nat.reduceMul, Nat.reduceLeDiff, Nat.reduceLT, reduceIte, reduceCtorEq, Nat.reduceEqDiff, Nat.reduceSub, Nat.reduceAdd]; simp [nilV]) ?_
  rintro ⟨a, T⟩ ⟨ha, hT⟩
  dsimp only at ha hT ⊢
  obtain ⟨t1, t2, t3⟩ := id hT
  refine HereV.cutSeq (ε := Unit) (fun _ => a < t.length) (fun _ => [(1, .rd (I p)), (2, .box [.rds (II t)]), (4, .ptr 104 0), (5, .ptr 105 0), (6, .v (.int .i64 a))]) (fun _ => [(104, .cells 26 [.v nilV]), (105, .cells 26 [.own 1160]), (1160, .rows 33 2 (II T))]) (HereV.of T_ok ?_) ?_
  · simp only [Tryz.results74, go_sem, Nat.reduceMul, Nat.reduceLeDiff, Nat.reduceLT, reduceIte, reduceCtorEq, Nat.reduceEqDiff, Nat.reduceSub, Nat.reduceAdd]
    refine HereO.call T_ok rfl rfl (l01N_spec t) (by simp only [go_sem, Nat.reduceMul, Nat.reduceLeDiff, Nat.reduceLT, reduceIte, reduceCtorEq, Nat.reduceEqDiff, Nat.reduceSub, Nat.reduceAdd, List.toList_toArray] <;> first | rfl | exact ⟨rfl, rfl⟩) rfl ?_
    simp only [Tryz.results74, go_sem, Nat.reduceMul, Nat.reduceLeDiff, Nat.reduceLT, reduceIte, reduceCtorEq, Nat.reduceEqDiff, Nat.reduceSub, Nat.reduceAdd]
    refine ⟨fun h2 => ⟨(), by omega⟩, fun h2 => ?_⟩
    obtain rfl : a = t.length := by omega
    refine HereO.storeAgg T_ok rfl (by simp only [go_sem, Nat.reduceMul, Nat.reduceLeDiff, Nat.reduceLT, reduceIte, reduceCtorEq, Nat.reduceEqDiff, Nat.reduceSub, Nat.reduceAdd] <;> rfl) (by simp only [go_sem, Nat.reduceMul, Nat.reduceLeDiff, Nat.reduceLT, reduceIte, reduceCtorEq, Nat.reduceEqDiff, Nat.reduceSub, Nat.reduceAdd] <;> rfl) rfl (by simp only [go_sem, Nat.reduceMul, Nat.reduceLeDiff, Nat.reduceLT, reduceIte, reduceCtorEq, Nat.reduceEqDiff, Nat.reduceSub, Nat.reduceAdd] <;> rfl) (by first | rfl | (simp only [go_sem, Nat.reduceMul, Nat.reduceLeDiff, Nat.reduceLT, reduceIte, reduceCtorEq, Nat.reduceEqDiff, Nat.reduceSub, Nat.reduceAdd] <;> rfl)) rfl rfl ?_
    simp only [Tryz.results74, go_sem, Nat.reduceMul, Nat.reduceLeDiff, Nat.reduceLT, reduceIte, reduceCtorEq, Nat.reduceEqDiff, Nat.reduceSub, Nat.reduceAdd]
    refine RetT.one 1160 (by simp only [Tryz.results74, go_sem, Nat.reduceMul, Nat.reduceLeDiff, Nat.reduceLT, reduceIte, reduceCtorEq, Nat.reduceEqDiff, Nat.reduceSub, Nat.reduceAdd]; rfl) rfl ?_
    simp only [Tryz.results74, go_sem, Nat.reduceMul, Nat.reduceLeDiff, Nat.reduceLT, reduceIte, reduceCtorEq, Nat.reduceEqDiff, Nat.reduceSub, Nat.reduceAdd]
    rw [ren_end hp t1 t2 fun c b hc hb => t3 c b hc hb]
  rintro - hal
  have hpa := hp.2.1 a (by omega)
  obtain ⟨x, hx⟩ := Int.eq_ofNat_of_zero_le hpa.1
  have hxl : x < t.length := by omega
  refine HereV.cutSeq (ε := List Int) (fun R => R.length = t.length ∧ ∀ b, b < t.length → R.getD (p.getD b 0).toNat 0 = p.getD (em t a b) 0) (fun _ => [(1, .rd (I p)), (2, .box [.rds (II t)]), (4, .ptr 104 0), (5, .ptr 105 0), (6, .v (.int .i64 a))]) (fun R => [(104, .cells 26 [.v nilV]), (105, .cells 26 [.own 1160]), (1160, .hole 33 2 (II T) x (some 200)), (200, .row 2 (I R))]) (HereV.block (HereV.of T_ok ?_)) ?_
  · simp only [Tryz.results74, go_sem, Nat.reduceMul, Nat.reduceLeDiff, Nat.reduceLT, reduceIte, reduceCtorEq, Nat.reduceEqDiff, Nat.reduceSub, Nat.reduceAdd]
    refine Here.drawS T_ok 7 (Nat.le_of_ble_eq_true rfl) mixed_ok (by kernel_rfl) (by kernel_rfl) ?_
    simp only [Tryz.results74, go_sem, Nat.reduceMul, Nat.reduceLeDiff, Nat.reduceLT, reduceIte, reduceCtorEq, Nat.reduceEqDiff, Nat.reduceSub, Nat.reduceAdd]
    rw [hx]
    simp only [Int.toNat_natCast]
    refine ⟨⟨by omega, by omega⟩, ⟨by omega, by omega⟩, ?_⟩
    refine HereO.openRow T_ok 200 rfl rfl rfl rfl (by rw [II_len]; omega) (by decide) (by decide) ?_
    simp only [Tryz.results74, go_sem, Nat.reduceMul, Nat.reduceLeDiff, Nat.reduceLT, reduceIte, reduceCtorEq, Nat.reduceEqDiff, Nat.reduceSub, Nat.reduceAdd]
    refine Here.loopV T_ok (κ := Nat × List Int) (fun g => g.1 ≤ t.length ∧ g.2.length = t.length ∧ ∀ c, c < g.1 → g.2.getD (p.getD c 0).toNat 0 = p.getD (em t a c) 0) (fun g => t.length - g.1) (fun g => [(1, .rd (I p)), (2, .box [.rds (II t)]), (4, .ptr 104 0), (5, .ptr 105 0), (6, .v (.int .i64 a)), (7, .own 200), (8, .v (.int .i64 g.1))]) (fun g => [(104, .cells 26 [.v nilV]), (105, .cells 26 [.own 1160]), (1160, .hole 33 2 (II T) x (some 200)), (200, .row 2 (I g.2))]) (0, T.getD x []) ⟨by simp, t2 x hxl, fun c hc => by omega⟩ (by simp only [Tryz.results74, go_sem, Nat.reduceMul, Nat.reduceLeDiff, Nat.reduceLT, reduceIte, reduceCtorEq, Nat.reduceEqDiff, Nat.reduceSub, Nat.reduceAdd]; simp) (by simp only [Tryz.results74, go_sem, Nat.reduceMul, Nat.reduceLeDiff, Nat.reduceLT, reduceIte, reduceCtorEq, Nat.reduceEqDiff, Nat.reduceSub, Nat.reduceAdd]) ?_
    rintro ⟨b, R⟩ ⟨hb, hR, hv⟩
    dsimp only at hb hR hv ⊢
    simp only [Tryz.results74, go_sem, Nat.reduceMul, Nat.reduceLeDiff, Nat.reduceLT, reduceIte, reduceCtorEq, Nat.reduceEqDiff, Nat.reduceSub, Nat.reduceAdd]
    refine HereO.call T_ok rfl rfl (l01N_spec t) (by simp only [go_sem, Nat.reduceMul, Nat.reduceLeDiff, Nat.reduceLT, reduceIte, reduceCtorEq, Nat.reduceEqDiff, Nat.reduceSub, Nat.reduceAdd, List.toList_toArray] <;> first | rfl | exact ⟨rfl, rfl⟩) rfl ?_
    simp only [Tryz.results74, go_sem, Nat.reduceMul, Nat.reduceLeDiff, Nat.reduceLT, reduceIte, reduceCtorEq, Nat.reduceEqDiff, Nat.reduceSub, Nat.reduceAdd]
    refine ⟨fun h2 => ?_, fun h2 => ?_⟩
    · have hpb := hp.2.1 b (by omega)
      obtain ⟨y, hy⟩ := Int.eq_ofNat_of_zero_le hpb.1
      have hem := em_lt hg (a := a) (b := b) hal (by omega)
      refine Here.drawS T_ok 16 (Nat.le_of_ble_eq_true rfl) mixed_ok (by kernel_rfl) (by kernel_rfl) ?_
      simp only [Tryz.results74, go_sem, Nat.reduceMul, Nat.reduceLeDiff, Nat.reduceLT, reduceIte, reduceCtorEq, Nat.reduceEqDiff, Nat.reduceSub, Nat.reduceAdd]
      rw [hy, he a b hal (by omega), hr a hal]
      simp only [Int.toNat_natCast]
      refine ⟨⟨by omega, by omega⟩, ⟨by omega, by omega⟩, ⟨by omega, by omega⟩, ⟨by omega, by omega⟩, ⟨by omega, by omega⟩, ?_⟩
      refine HereO.storeRow T_ok (vs := I R) (u := .int .i64 (p.getD (em t a b) 0)) rfl (by simp only [go_sem, Nat.reduceMul, Nat.reduceLeDiff, Nat.reduceLT, reduceIte, reduceCtorEq, Nat.reduceEqDiff, Nat.reduceSub, Nat.reduceAdd] <;> rfl) (by simp only [go_sem, Nat.reduceMul, Nat.reduceLeDiff, Nat.reduceLT, reduceIte, reduceCtorEq, Nat.reduceEqDiff, Nat.reduceSub, Nat.reduceAdd] <;> rfl) rfl (by simp only [go_sem, Nat.reduceMul, Nat.reduceLeDiff, Nat.reduceLT, reduceIte, reduceCtorEq, Nat.reduceEqDiff, Nat.reduceSub, Nat.reduceAdd] <;> rfl) rfl (by rw [I_len]; omega) ?_
      simp only [Tryz.results74, go_sem, Nat.reduceMul, Nat.reduceLeDiff, Nat.reduceLT, reduceIte, reduceCtorEq, Nat.reduceEqDiff, Nat.reduceSub, Nat.reduceAdd]
      rw [I_set]
      refine ⟨by unfold InR; omega, (b + 1, R.set y (p.getD (em t a b) 0)), ⟨by dsimp only; omega, by simpa using hR, fun c hc => ?_⟩, by dsimp only; omega, by push_cast; rfl, rfl⟩
      dsimp only at hc ⊢
      rw [setD]
      by_cases e : c = b
      · subst e
        rw [hy, if_pos ⟨rfl, by omega⟩]
      · have hpc := hp.2.1 c (by omega)
        rw [if_neg fun q => e (hp.2.2.1 c b (by omega) (by omega) (by omega))]
        exact hv c (by omega)
    · obtain rfl : b = t.length := by omega
      exact ⟨R, ⟨hR, hv⟩, rfl⟩
  rintro R ⟨r1, r2⟩
  refine HereV.conv (Conv.shut 200 (id := 1160) (e := 33) (e' := 2) (i := x) (tt := II T) (vs := I R) (by decide) (by rfl) (by rfl)) (HereV.of T_ok ?_)
  simp only [Tryz.results74, go_sem, Nat.reduceMul, Nat.reduceLeDiff, Nat.reduceLT, reduceIte, reduceCtorEq, Nat.reduceEqDiff, Nat.reduceSub, Nat.reduceAdd]
  have hst := wrt_step hp hT hal r1 r2
  rw [hx, Int.toNat_natCast] at hst
  exact ⟨by unfold InR; omega, (a + 1, T.set x R), ⟨by dsimp only; omega, hst⟩, by dsimp only; omega, by push_cast; rfl, by rw [II_set]⟩
end Go.Proofs.YtcjhojdlfnpgjaaGreatDoor
