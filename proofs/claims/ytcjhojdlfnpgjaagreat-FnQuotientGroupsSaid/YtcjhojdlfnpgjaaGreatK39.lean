/- Contracts: isomorphisms. -/
import Derived.Test.YtcjhojdlfnpgjaaGreatK29
import Derived.Test.YtcjhojdlfnpgjaaGreatK38
import Derived.Test.YtcjhojdlfnpgjaaGreatK32
set_option linter.unusedVariables false
set_option linter.unusedSimpArgs false
set_option maxRecDepth 100000
namespace Go.Proofs.YtcjhojdlfnpgjaaGreat
open Go.RowKit
section
variable {P : Program} {T : TT}
theorem OpT.isNilOwn {o : Oper} {s : St} {K : LV → St → Prop} {t t' e e' id : Nat} {x : Operand} {vs : List Value} (ho : o.op = .binOp .eql t x (.const (.slice none 0 0)) t') (hx : evL s x = .own id) (hσ : s.σ id = some (.row e' vs)) (hv : 0 < vs.length) (ht : P.underlying t = some (.slice e))
    (h0 : K (.v (.bool false)) s) : OpT P o s K := by
  intro w0 w ι fp f hI
  have hxv := hI.ev x
  rw [hx] at hxv
  simp only [LRel] at hxv
  obtain ⟨v, g1, g2, g3⟩ := hI.ob id _ hσ
  rw [hxv] at g1
  simp only [Option.some.injEq] at g1
  subst g1
  obtain ⟨A, c, e1, hc, hr⟩ := own_RS g2
  have hrun : (execOp (evV f) o).run P w = .ok (.value (.bool A.isNone)) w := by
    simp only [ho, execOp, e1]
    simp [eqGuard, binOp, evV, run_eqNil ht]
  rw [hrun]
  cases A with
  | none => obtain ⟨ad, e2, _⟩ := hr.2 hv; cases e2
  | some ad => exact .value _ _ _ _ _ _ hI (by simp only [LRel]; rfl) h0
theorem OpT.isNilV {o : Oper} {s : St} {K : LV → St → Prop} {t t' e : Nat} {x : Operand} (ho : o.op = .binOp .eql t x (.const (.slice none 0 0)) t') (hx : evL s x = .v (.slice none 0 0)) (ht : P.underlying t = some (.slice e)) (h0 : K (.v (.bool true)) s) : OpT P o s K := by
  intro w0 w ι fp f hI
  have hxv := hI.ev x
  rw [hx] at hxv
  simp only [LRel] at hxv
  have hrun : (execOp (evV f) o).run P w = .ok (.value (.bool true)) w := by
    simp only [ho, execOp, hxv]
    simp [eqGuard, binOp, evV, run_eqNil ht]
  rw [hrun]
  exact .value _ _ _ _ _ _ hI (by simp only [LRel]) h0
section
variable {n : Nat} {all : Array Oper} {o : Oper} {l : List Oper} {s : St} {k : Kont}
theorem HereO.isNilOwn (hT : T.Ok P) {t t' e e' id : Nat} {x : Operand} {vs : List Value} (ho : o.op = .binOp .eql t x (.const (.slice none 0 0)) t') (hx : evL s x = .own id) (hσ : s.σ id = some (.row e' vs)) (hv : 0 < vs.length) (ht : P.underlying t = some (.slice e)) (h : OpsV P T n all l (s.put o.dst (.v (.bool false))) k) : HereO P T n all o l s k :=
  HereO.of hT h fun hK => OpT.isNilOwn ho hx hσ hv ht hK
theorem HereO.isNilV (hT : T.Ok P) {t t' e : Nat} {x : Operand} (ho : o.op = .binOp .eql t x (.const (.slice none 0 0)) t') (hx : evL s x = .v (.slice none 0 0)) (ht : P.underlying t = some (.slice e)) (h : OpsV P T n all l (s.put o.dst (.v (.bool true))) k) : HereO P T n all o l s k :=
  HereO.of hT h fun hK => OpT.isNilV ho hx ht hK
end
theorem RetM.pair {results : Array ResultVar} {r : LV} {s : St} {rs : List LV} {a b : OC} (h : resLs T s results.toList = some rs) (h2 : tupL rs = ren (fun i => [0, 1].getD i 0) r) (h3 : s.σ 0 = some (renO (fun i => [0, 1].getD i 0) a)) (h4 : s.σ 1 = some (renO (fun i => [0, 1].getD i 0) b)) : RetM T results 2 r [some a, some b] s :=
  ⟨rs, [0, 1], h, h2, rfl, by simp, fun i hi => (by
    match i, hi with
    | 0, _ => rfl
    | 1, _ => rfl), fun i oc hi => by
    match i with
    | 0 => simp [osO] at hi; subst hi; simpa using h3
    | 1 => simp [osO] at hi; subst hi; simpa using h4
    | i + 2 => simp [osO] at hi⟩
theorem RetM.pair1 {results : Array ResultVar} {r : LV} {s : St} {rs : List LV} {a b c : OC} (m : Nat) (hm : 2 ≤ m) (h : resLs T s results.toList = some rs) (h2 : tupL rs = ren (fun i => [0, 1, m].getD i 0) r) (h3 : s.σ 0 = some (renO (fun i => [0, 1, m].getD i 0) a)) (h4 : s.σ 1 = some (renO (fun i => [0, 1, m].getD i 0) b)) (h5 : s.σ m = some (renO (fun i => [0, 1, m].getD i 0) c)) : RetM T results 2 r [some a, some b, some c] s :=
  ⟨rs, [0, 1, m], h, h2, rfl, by simp; omega, fun i hi => (by
    match i, hi with
    | 0, _ => rfl
    | 1, _ => rfl), fun i oc hi => by
    match i with
    | 0 => simp [osO] at hi; subst hi; simpa using h3
    | 1 => simp [osO] at hi; subst hi; simpa using h4
    | 2 => simp [osO] at hi; subst hi; simpa using h5
    | i + 3 => simp [osO] at hi⟩
theorem RetM.one01 {results : Array ResultVar} {r : LV} {s : St} {rs : List LV} {a c : OC} (m : Nat) (hm : 1 ≤ m) (h : resLs T s results.toList = some rs) (h2 : tupL rs = ren (fun i => [0, m].getD i 0) r) (h3 : s.σ 0 = some (renO (fun i => [0, m].getD i 0) a)) (h5 : s.σ m = some (renO (fun i => [0, m].getD i 0) c)) : RetM T results 1 r [some a, some c] s :=
  ⟨rs, [0, m], h, h2, rfl, by simp; omega, fun i hi => (by
    match i, hi with
    | 0, _ => rfl), fun i oc hi => by
    match i with
    | 0 => simp [osO] at hi; subst hi; simpa using h3
    | 1 => simp [osO] at hi; subst hi; simpa using h5
    | i + 2 => simp [osO] at hi⟩
end
def PermP (n : Nat) (p : List Int) : Prop := p.length = n ∧ AreIn n p ∧ ∀ i j, i < n → j < n → p.getD i 0 = p.getD j 0 → i = j
open Classical in
noncomputable def isPm (n : Nat) (p : List Int) : Bool := decide (PermP n p)
theorem isPm_iff {n : Nat} {p : List Int} : isPm n p = true ↔ PermP n p := by unfold isPm; simp
theorem flatMap_congr' {α β : Type} {f g : α → List β} : ∀ {l : List α}, (∀ a ∈ l, f a = g a) → l.flatMap f = l.flatMap g
  | [], _ => rfl
  | x :: l, h => by
    rw [List.flatMap_cons, List.flatMap_cons, h x (List.mem_cons_self ..), flatMap_congr' fun a ha => h a (List.mem_cons_of_mem _ ha)]
theorem getD_take {p q : List Int} {m i : Nat} (h : p.take m = q) (hi : i < m) : p.getD i 0 = q.getD i 0 := by
  rw [← h, List.getD_eq_getElem?_getD, List.getD_eq_getElem?_getD, List.getElem?_take, if_pos hi]
theorem snoc_at (l : List Int) (x : Int) : (l ++ [x]).getD l.length 0 = x := by
  rw [List.getD_eq_getElem?_getD, List.getElem?_append, if_neg (by omega)]
  simp
theorem snoc_lt (l : List Int) (x : Int) {i : Nat} (hi : i < l.length) : (l ++ [x]).getD i 0 = l.getD i 0 := by
  rw [List.getD_eq_getElem?_getD, List.getD_eq_getElem?_getD, List.getElem?_append, if_pos hi]
theorem dfsD_true (t u : List (List Int)) {n : Nat} (hu : u.length = n) : ∀ (k : Nat) (l : List Int), l.length + k = n → AreIn n l → (∀ i j, i < l.length → j < l.length → l.getD i 0 = l.getD j 0 → i = j) → dfsD t u true k l = (dfs t u k l).filter (isPm n)
  | 0, l, hl, hi, hj => by
    have hP : isPm n l = true := isPm_iff.2 ⟨by omega, hi, fun i j h1 h2 => hj i j (by omega) (by omega)⟩
    rw [dfsD, dfs]
    simp [hP]
  | k + 1, l, hl, hi, hj => by
    rw [dfsD, dfs, List.filter_flatMap]
    refine flatMap_congr' fun a ha => ?_
    have ha' : a < n := by rw [← hu]; exact List.mem_range.1 ha
    by_cases e : Hom t u (l ++ [(a : Int)])
    · by_cases e2 : ∀ i, i < l.length → l.getD i 0 ≠ (a : Int)
      · have hD : HomD t u true l a := ⟨e, fun _ => e2⟩
        rw [if_pos hD, if_pos e]
        refine dfsD_true t u hu k _ (by simp; omega) (areIn_snoc hi ha') fun i j h1 h2 h3 => ?_
        simp only [List.length_append, List.length_cons, List.length_nil] at h1 h2
        by_cases i1 : i < l.length
        · by_cases j1 : j < l.length
          · rw [snoc_lt l _ i1, snoc_lt l _ j1] at h3
            exact hj i j i1 j1 h3
          · obtain rfl : j = l.length := by omega
            rw [snoc_lt l _ i1, snoc_at] at h3
            exact absurd h3 (e2 i i1)
        · obtain rfl : i = l.length := by omega
          by_cases j1 : j < l.length
          · rw [snoc_lt l _ j1, snoc_at] at h3
            exact absurd h3.symm (e2 j j1)
          · omega
      · have hD : ¬ HomD t u true l a := fun q => e2 (q.2 rfl)
        rw [if_neg hD, if_pos e]
        symm
        rw [List.filter_eq_nil_iff]
        intro p hp hq
        obtain ⟨q1, q2, q3⟩ := isPm_iff.1 hq
        obtain ⟨p1, p2⟩ := dfs_ext _ _ _ hp
        simp only [List.length_append, List.length_cons, List.length_nil] at p1 p2
        apply e2
        intro i hil he
        have g1 := getD_take p2 (i := i) (by omega)
        have g2 := getD_take p2 (i := l.length) (by omega)
        rw [snoc_lt l _ hil] at g1
        rw [snoc_at] at g2
        have := q3 i l.length (by omega) (by omega) (by rw [g1, g2, he])
        omega
    · have hD : ¬ HomD t u true l a := fun q => e q.1
      rw [if_neg hD, if_neg e]
      rfl
theorem flat_split {α : Type} (f : Nat → List α) (a r : Nat) : ∃ X, (List.range (a + 1 + r)).flatMap f = (List.range a).flatMap f ++ f a ++ X := by
  induction r with
  | zero => exact ⟨[], by rw [Nat.add_zero, flat_succ, List.append_nil]⟩
  | succ r ih =>
    obtain ⟨X, h⟩ := ih
    exact ⟨X ++ f (a + 1 + r), by rw [show a + 1 + (r + 1) = a + 1 + r + 1 by omega, flat_succ, h, List.append_assoc]⟩
theorem find_split {α : Type} {f : Nat → List α} {q : α → Bool} {p : α} {a m : Nat} (ha : a < m) (h1 : ((List.range a).flatMap f).find? q = none) (h2 : (f a).find? q = some p) : ((List.range m).flatMap f).find? q = some p := by
  obtain ⟨X, h⟩ := flat_split f a (m - (a + 1))
  rw [show a + 1 + (m - (a + 1)) = m by omega] at h
  rw [h, List.find?_append, List.find?_append, h1, h2]
  rfl
theorem isoDo_t (u : List (List Int)) (hu : Grp u) (p : List Int) (hl : p.length ≤ 1048576) (h0 : 0 < p.length) (hP : PermP u.length p) : SpecM Tryz.prog 99 [.own 0, .box [.rds (II u)], .ptr 1 0] [.row 2 (I p), .cells 27 [.v (.slice none 0 0)]] (.v (.bool false)) [some (.row 2 (I p)), some (.cells 27 [.own 0])] := by
  have h8 := hu.2.1
  refine SpecM.of_code' T_ok Tryz.func99 rfl Tryz.ntmps99 Tryz.call99 (Nat.le_of_ble_eq_true rfl) (Nat.le_of_ble_eq_true rfl) (Nat.le_of_ble_eq_true rfl) rfl rfl (CodeV_sound T_ok (by kernel_rfl) rfl ?_)
  refine WW ?_
  refine HereO.callOwn T_ok 15 rfl rfl (Clone_spec p (by omega)) SA rfl (by simp) rfl ?_
  refine WW ?_
  refine HereO.callQ T_ok 17 [1240] rfl rfl (SortR_spec p hl) SC rfl (by decide) (by decide) rfl (fun _ => rfl) (fun _ => rfl) (fun _ => Nat.le_of_ble_eq_true rfl) ?_
  rintro ys ⟨hperm, hsort⟩
  have hyl := hperm.length_eq
  refine WW ?_
  refine HereO.call T_ok rfl rfl (order_spec u) SA rfl ?_
  refine WW ?_
  refine HereO.callOwn T_ok 20 rfl rfl (counting_spec u.length (by omega)) SA rfl (by simp) rfl ?_
  refine WW ?_
  refine HereO.call T_ok rfl rfl (Equal_spec ys (cnt u.length) (by omega) (by rw [cnt_len]; omega)) SA rfl ?_
  refine WW ?_
  have hs := sorted_cnt (n := u.length) hsort hperm
  refine ⟨fun h2 => ?_, fun h2 => absurd (hs.2 hP) h2⟩
  refine HereO.store T_ok rfl SS SS rfl SS rfl SR (Nat.le_of_ble_eq_true rfl) ?_
  refine WW ?_
  refine HereO.isNilOwn T_ok rfl SS SS (by rw [I_len]; omega) Tryz.underlying27 ?_
  refine WW ?_
  refine RetM.pair (by first | rfl | (simp only [go_sem, Nat.reduceMul, Nat.reduceLeDiff, Nat.reduceLT, reduceIte, reduceCtorEq, Nat.reduceEqDiff, Nat.reduceSub, Nat.reduceAdd]; rfl)) rfl ?_ ?_
  · simp only [go_sem, Nat.reduceMul, Nat.reduceLeDiff, Nat.reduceLT, reduceIte, reduceCtorEq, Nat.reduceEqDiff, Nat.reduceSub, Nat.reduceAdd] <;> rfl
  · simp only [go_sem, Nat.reduceMul, Nat.reduceLeDiff, Nat.reduceLT, reduceIte, reduceCtorEq, Nat.reduceEqDiff, Nat.reduceSub, Nat.reduceAdd] <;> rfl
theorem isoDo_f (u : List (List Int)) (hu : Grp u) (p : List Int) (hl : p.length ≤ 1048576) (hP : ¬ PermP u.length p) : SpecM Tryz.prog 99 [.own 0, .box [.rds (II u)], .ptr 1 0] [.row 2 (I p), .cells 27 [.v (.slice none 0 0)]] (.v (.bool true)) [some (.row 2 (I p)), some (.cells 27 [.v (.slice none 0 0)])] := by
  have h8 := hu.2.1
  refine SpecM.of_code' T_ok Tryz.func99 rfl Tryz.ntmps99 Tryz.call99 (Nat.le_of_ble_eq_true rfl) (Nat.le_of_ble_eq_true rfl) (Nat.le_of_ble_eq_true rfl) rfl rfl (CodeV_sound T_ok (by kernel_rfl) rfl ?_)
  refine WW ?_
  refine HereO.callOwn T_ok 15 rfl rfl (Clone_spec p (by omega)) SA rfl (by simp) rfl ?_
  refine WW ?_
  refine HereO.callQ T_ok 17 [1240] rfl rfl (SortR_spec p hl) SC rfl (by decide) (by decide) rfl (fun _ => rfl) (fun _ => rfl) (fun _ => Nat.le_of_ble_eq_true rfl) ?_
  rintro ys ⟨hperm, hsort⟩
  have hyl := hperm.length_eq
  refine WW ?_
  refine HereO.call T_ok rfl rfl (order_spec u) SA rfl ?_
  refine WW ?_
  refine HereO.callOwn T_ok 20 rfl rfl (counting_spec u.length (by omega)) SA rfl (by simp) rfl ?_
  refine WW ?_
  refine HereO.call T_ok rfl rfl (Equal_spec ys (cnt u.length) (by omega) (by rw [cnt_len]; omega)) SA rfl ?_
  refine WW ?_
  have hs := sorted_cnt (n := u.length) hsort hperm
  refine ⟨fun h2 => absurd (hs.1 h2) hP, fun h2 => ?_⟩
  refine HereO.isNilV T_ok rfl SS Tryz.underlying27 ?_
  refine WW ?_
  refine RetM.pair (by first | rfl | (simp only [go_sem, Nat.reduceMul, Nat.reduceLeDiff, Nat.reduceLT, reduceIte, reduceCtorEq, Nat.reduceEqDiff, Nat.reduceSub, Nat.reduceAdd]; rfl)) rfl ?_ ?_
  · simp only [go_sem, Nat.reduceMul, Nat.reduceLeDiff, Nat.reduceLT, reduceIte, reduceCtorEq, Nat.reduceEqDiff, Nat.reduceSub, Nat.reduceAdd] <;> rfl
  · simp only [go_sem, Nat.reduceMul, Nat.reduceLeDiff, Nat.reduceLT, reduceIte, reduceCtorEq, Nat.reduceEqDiff, Nat.reduceSub, Nat.reduceAdd] <;> rfl
def outI (y : List Int × Option (List Int)) : List (Option OC) := match y.2 with
  | none => [some (.row 2 (I y.1)), some (.cells 27 [.v (.slice none 0 0)])]
  | some p => [some (.row 2 (I y.1)), some (.cells 27 [.own 2]), some (.row 2 (I p))]
theorem outI_plain (y : List Int × Option (List Int)) : (outI y).all (fun o => o.all plainO2) = true := by
  rcases y with ⟨R, _ | p⟩ <;> rfl
theorem outI_len (y : List Int × Option (List Int)) : (outI y).length ≤ 16 := by
  rcases y with ⟨R, _ | p⟩ <;> exact Nat.le_of_ble_eq_true rfl
def capsI (t u : List (List Int)) : List LV := [.box [.rds (II t)], .box [.fn 99 [.box [.rds (II u)], .ptr 1 0]], .box [.rds (II u)]]
def IsoS (t u : List (List Int)) (k : Nat) : Prop := ∀ (n : Nat) (l R : List Int), l.length = n → n + k = t.length → R.length = t.length → R.take n = l → AreIn u.length l →
    SpecQ Tryz.prog 97 [.sub 0 0 n, .box [.rds (II t)], .box [.fn 99 [.box [.rds (II u)], .ptr 1 0]], .box [.rds (II u)], knotX 97 (capsI t u) k] [.row 2 (I R), .cells 27 [.v (.slice none 0 0)]] (κ := List Int × Option (List Int)) (fun y => .v (.bool y.2.isNone)) outI (fun y => y.1.length = t.length ∧ y.1.take n = l ∧ y.2 = (dfs t u k l).find? (isPm u.length))
theorem iso_zero (t u : List (List Int)) (ht : Grp t) (hu : Grp u) : IsoS t u 0 := by
  have h8 := ht.2.1
  have h1 := ht.1
  have hu8 := hu.2.1
  intro n l R hn hk hR hRl hi
  have hc : Spec Tryz.prog 63 [.rd (((I R).drop 0).take n)] (.own 0) [.row 2 (I l)] := by
    rw [List.drop_zero, I_take, hRl]
    exact Clone_spec l (by omega)
  refine SpecQ.of_code T_ok Tryz.func97 rfl Tryz.ntmps97 Tryz.call97 (Nat.le_of_ble_eq_true rfl) (Nat.le_of_ble_eq_true rfl) (fun _ => rfl) (outI_plain) (CodeV_sound T_ok (by kernel_rfl) rfl ?_)
  refine WW ?_
  refine HereO.opP T_ok (OpP.lenSub T_ok rfl rfl SS) ?_
  refine WW ?_
  refine HereO.call T_ok rfl rfl (order_spec t) SA rfl ?_
  refine WW ?_
  refine ⟨fun h => ?_, fun h => absurd h (by omega)⟩
  refine Here.drawC T_ok [.f, .p, .c] [2] [1256, 1257, 1258, 1259, 1260, 1261, 1262, 1263, 1264, 1265, 1266, 1267, 1268, 1269, 1270, 1271] [] (Nat.le_of_ble_eq_true rfl) mixed_ok (by kernel_rfl) (by kernel_rfl) (by kernel_rfl) (by simp only [List.mem_cons, List.not_mem_nil, or_false, forall_eq_or_imp, forall_eq, go_sem, Nat.reduceMul, Nat.reduceLeDiff, Nat.reduceLT, reduceIte, reduceCtorEq, Nat.reduceEqDiff, Nat.reduceSub, Nat.reduceAdd] <;> first | exact calm_ptr_ne rfl | exact calm_ne rfl | exact ⟨calm_ptr_ne rfl, calm_ptr_ne rfl⟩ | exact ⟨calm_ptr_ne rfl, calm_ptr_ne rfl, calm_ptr_ne rfl⟩ | exact ⟨calm_ptr_ne rfl, calm_knot (by simp only [go_sem, Nat.reduceMul, Nat.reduceLeDiff, Nat.reduceLT, reduceIte, reduceCtorEq, Nat.reduceEqDiff, Nat.reduceSub, Nat.reduceAdd] <;> exact calm_ptr_ne rfl)⟩ | ((repeat' apply And.intro) <;> first | exact calm_ptr_ne rfl | exact calm_ne rfl)) ?_
  refine WW ?_
  refine ⟨calm_ptr_ne rfl, ?_⟩
  refine HereC.callOwn 16 rfl rfl (hc) SA rfl (by simp) rfl (inK_shift (by decide)) SK ?_
  refine WW ?_
  by_cases hP : PermP u.length l
  · refine HereO.callM T_ok 20 [1256,1] rfl rfl (isoDo_t u hu l (by omega) (by omega) hP) SC rfl (by decide) (by decide) rfl rfl rfl (Nat.le_of_ble_eq_true rfl) ?_
    refine WW ?_
    refine RetQ.of (R, some l) ⟨hR, hRl, by simp [dfs, isPm_iff.2 hP]⟩ (RetM.pair1 1256 (by decide) SE rfl ?_ ?_ ?_)
    · exact WW trivial
    · simp only [go_sem, Nat.reduceMul, Nat.reduceLeDiff, Nat.reduceLT, reduceIte, reduceCtorEq, Nat.reduceEqDiff, Nat.reduceSub, Nat.reduceAdd] <;> rfl
    · simp only [go_sem, Nat.reduceMul, Nat.reduceLeDiff, Nat.reduceLT, reduceIte, reduceCtorEq, Nat.reduceEqDiff, Nat.reduceSub, Nat.reduceAdd] <;> rfl
  · refine HereO.callM T_ok 20 [1256,1] rfl rfl (isoDo_f u hu l (by omega) hP) SC rfl (by decide) (by decide) rfl rfl rfl (Nat.le_of_ble_eq_true rfl) ?_
    refine WW ?_
    refine RetQ.of (R, none) ⟨hR, hRl, by simp [dfs, Bool.eq_false_iff.2 fun q => hP (isPm_iff.1 q)]⟩ (RetM.pair SE rfl ?_ ?_)
    · exact WW trivial
    · simp only [go_sem, Nat.reduceMul, Nat.reduceLeDiff, Nat.reduceLT, reduceIte, reduceCtorEq, Nat.reduceEqDiff, Nat.reduceSub, Nat.reduceAdd] <;> rfl
theorem iso_succ (t u : List (List Int)) (ht : Grp t) (hu : Grp u) (k : Nat) (ih : IsoS t u k) : IsoS t u (k + 1) := by
  have h8 := ht.2.1
  have hu8 := hu.2.1
  intro n l R hn hk hR hRl hi
  rw [knot_succ]
  unfold capsI
  refine SpecQ.of_code T_ok Tryz.func97 rfl Tryz.ntmps97 Tryz.call97 (Nat.le_of_ble_eq_true rfl) (Nat.le_of_ble_eq_true rfl) (fun _ => rfl) (outI_plain) (CodeV_sound T_ok (by kernel_rfl) rfl ?_)
  refine WW ?_
  refine HereO.opP T_ok (OpP.lenSub T_ok rfl rfl SS) ?_
  refine WW ?_
  refine HereO.call T_ok rfl rfl (order_spec t) SA rfl ?_
  refine WW ?_
  refine ⟨fun h => absurd h (by omega), fun _ => ?_⟩
  refine HereO.call T_ok rfl rfl (order_spec u) SA rfl ?_
  refine WW ?_
  refine Here.loopV T_ok (κ := Nat × List Int) (fun g => g.1 ≤ u.length ∧ g.2.length = t.length ∧ g.2.take n = l ∧ ((List.range g.1).flatMap fun (a : Nat) => if Hom t u (l ++ [(a : Int)]) then dfs t u k (l ++ [(a : Int)]) else []).find? (isPm u.length) = none) (fun g => u.length - g.1) (fun g => [(0, .sub 0 0 n), (1, .box [.rds (II t)]), (3, .box [.rds (II u)]), (4, .box [.fn 97 [.box [.rds (II t)], .box [.fn 99 [.box [.rds (II u)], .ptr 1 0]], .box [.rds (II u)], knotX 97 [.box [.rds (II t)], .box [.fn 99 [.box [.rds (II u)], .ptr 1 0]], .box [.rds (II u)]] k]]), (19, .v (.int .i64 u.length)), (20, .v (.int .i64 g.1))]) (fun g => [(0, .row 2 (I g.2)), (1, .cells 27 [.v (.slice none 0 0)])]) (0, R) ⟨by simp, hR, hRl, by simp⟩ (by simp only [go_sem, Nat.reduceMul, Nat.reduceLeDiff, Nat.reduceLT, reduceIte, reduceCtorEq, Nat.reduceEqDiff, Nat.reduceSub, Nat.reduceAdd]; simp) (by simp only [go_sem, Nat.reduceMul, Nat.reduceLeDiff, Nat.reduceLT, reduceIte, reduceCtorEq, Nat.reduceEqDiff, Nat.reduceSub, Nat.reduceAdd] <;> simp) ?_
  rintro ⟨a, R1⟩ ⟨h1, h2, h3, hno⟩
  dsimp only at h1 h2 h3 hno ⊢
  refine WW ?_
  refine ⟨fun h4 => ?_, fun h4 => ?_⟩
  · refine HereO.buildRow T_ok 60 (I [a]) rfl rfl rfl (by decide) rfl SR rfl (by decide) ?_
    refine WW ?_
    refine HereO.appendSub T_ok (u := .int .i64 a) rfl rfl SS SS SS (.own 60 _ _ (by decide) SS) rfl (by rw [I_len]; omega) ?_
    refine WW ?_
    have hh : Spec Tryz.prog 42 [.agg [.rds (II t)], .agg [.rds (II u)], .rd ((((I R1).set n (.int .i64 a)).drop 0).take (n + 1))] (.v (.bool (decide (Hom t u (l ++ [(a : Int)]))))) [] := by
      rw [List.drop_zero, I_set, I_take, take_set_in h3 (by omega)]
      exact isHomomorphism_spec t u _ ht hu (by simp; omega) (areIn_snoc hi (by omega))
    refine HereO.call T_ok rfl rfl (hh) SA rfl ?_
    refine WW ?_
    refine ⟨fun h5 => ?_, fun h5 => ?_⟩
    · have hc := ih (n + 1) (l ++ [(a : Int)]) (R1.set n a) (by simp; omega) (by omega) (by simpa using h2) (take_set_in h3 (by omega)) (areIn_snoc hi (by omega))
      unfold capsI at hc
      rw [I_set]
      refine HereO.callQ T_ok 21 [0, 1] rfl rfl hc SC rfl (by decide) (by decide) rfl (fun _ => rfl) outI_plain outI_len ?_
      rintro ⟨y, p⟩ ⟨hy1, hy2, hy3⟩
      dsimp only at hy1 hy2 hy3
      have hyl : y.take n = l := by
        have := congrArg (List.take n) hy2
        rw [List.take_take, Nat.min_eq_left (by omega), ← hn, List.take_left] at this
        rw [← hn]; exact this
      rcases p with _ | p
      · simp only [outI, Option.isNone]
        refine WW ?_
        refine ⟨by unfold InR; omega, (a + 1, y), ⟨by dsimp only; omega, hy1, hyl, ?_⟩, by dsimp only; omega, by push_cast; rfl, rfl⟩
        dsimp only
        rw [flat_succ, if_pos h5, List.find?_append, hno, ← hy3]
        rfl
      · simp only [outI, Option.isNone]
        refine WW ?_
        refine RetQ.of (y, some p) ⟨hy1, hyl, ?_⟩ (RetM.pair1 1338 (by decide) SE rfl ?_ ?_ ?_)
        · rw [dfs]
          exact (find_split (a := a) (by omega) hno (by rw [if_pos h5]; exact hy3.symm)).symm
        · exact WW trivial
        · simp only [go_sem, Nat.reduceMul, Nat.reduceLeDiff, Nat.reduceLT, reduceIte, reduceCtorEq, Nat.reduceEqDiff, Nat.reduceSub, Nat.reduceAdd] <;> rfl
        · simp only [go_sem, Nat.reduceMul, Nat.reduceLeDiff, Nat.reduceLT, reduceIte, reduceCtorEq, Nat.reduceEqDiff, Nat.reduceSub, Nat.reduceAdd] <;> rfl
    · refine ⟨by unfold InR; omega, (a + 1, R1.set n a), ⟨by dsimp only; omega, by simpa using h2, by dsimp only; rw [List.take_set_of_le (Nat.le_refl _)]; exact h3, ?_⟩, by dsimp only; omega, by push_cast; rfl, by rw [I_set]⟩
      dsimp only
      rw [flat_succ, if_neg h5, List.append_nil]
      exact hno
  · obtain rfl : a = u.length := by omega
    refine RetQ.of (R1, none) ⟨h2, h3, by rw [dfs]; exact hno.symm⟩ (RetM.pair SE rfl ?_ ?_)
    · exact WW trivial
    · simp only [go_sem, Nat.reduceMul, Nat.reduceLeDiff, Nat.reduceLT, reduceIte, reduceCtorEq, Nat.reduceEqDiff, Nat.reduceSub, Nat.reduceAdd] <;> rfl
theorem iso_spec (t u : List (List Int)) (ht : Grp t) (hu : Grp u) : ∀ k, IsoS t u k
  | 0 => iso_zero t u ht hu
  | k + 1 => iso_succ t u ht hu k (iso_spec t u ht hu k)
theorem isoAll_n (t u : List (List Int)) (ht : Grp t) (hu : Grp u) (hf : (dfs t u t.length []).find? (isPm u.length) = none) : SpecM Tryz.prog 54 [.agg [.rds (II t)], .agg [.rds (II u)], .fn 99 [.box [.rds (II u)], .ptr 0 0]] [.cells 27 [.v (.slice none 0 0)]] (.tup []) [some (.cells 27 [.v (.slice none 0 0)])] := by
  have h8 := ht.2.1
  have hc := iso_spec t u ht hu t.length 0 [] (List.replicate t.length 0) rfl (by omega) (by simp) (by simp) (fun j hj => by simp at hj)
  unfold capsI at hc
  refine SpecM.of_code' T_ok Tryz.func54 rfl Tryz.ntmps54 Tryz.call54 (Nat.le_of_ble_eq_true rfl) (Nat.le_of_ble_eq_true rfl) (Nat.le_of_ble_eq_true rfl) rfl rfl (CodeV_sound T_ok (by kernel_rfl) rfl ?_)
  refine WW ?_
  refine HereO.alloc T_ok 120 rfl rfl (by decide) ?_
  refine WW ?_
  refine HereO.store T_ok rfl SS SS rfl SS rfl SR (Nat.le_of_ble_eq_true rfl) ?_
  refine WW ?_
  refine HereV.conv (Conv.knot (id := 120) (tt := 54) (g := 97) (caps := [.box [.rds (II t)], .box [.fn 99 [.box [.rds (II u)], .ptr 0 0]], .box [.rds (II u)]]) 6 (t.length + 1) SW SW) ?_
  rw [knot_succ]
  refine Here.drawC T_ok [.f, .p, .p, .c] [6] [130] [] (Nat.le_of_ble_eq_true rfl) mixed_ok (by kernel_rfl) (by kernel_rfl) (by kernel_rfl) (by simp only [List.mem_cons, List.not_mem_nil, or_false, forall_eq_or_imp, forall_eq, go_sem, Nat.reduceMul, Nat.reduceLeDiff, Nat.reduceLT, reduceIte, reduceCtorEq, Nat.reduceEqDiff, Nat.reduceSub, Nat.reduceAdd] <;> first | exact calm_ptr_ne rfl | exact calm_ne rfl | exact ⟨calm_ptr_ne rfl, calm_ptr_ne rfl⟩ | exact ⟨calm_ptr_ne rfl, calm_ptr_ne rfl, calm_ptr_ne rfl⟩ | exact ⟨calm_ptr_ne rfl, calm_knot (by simp only [go_sem, Nat.reduceMul, Nat.reduceLeDiff, Nat.reduceLT, reduceIte, reduceCtorEq, Nat.reduceEqDiff, Nat.reduceSub, Nat.reduceAdd] <;> exact calm_ptr_ne rfl)⟩ | ((repeat' apply And.intro) <;> first | exact calm_ptr_ne rfl | exact calm_ne rfl)) ?_
  refine WW ?_
  refine ⟨⟨calm_ptr_ne rfl, calm_knot (by simp only [go_sem, Nat.reduceMul, Nat.reduceLeDiff, Nat.reduceLT, reduceIte, reduceCtorEq, Nat.reduceEqDiff, Nat.reduceSub, Nat.reduceAdd]; exact calm_ptr_ne rfl)⟩, ?_⟩
  refine ⟨_, OpP.call' rfl rfl (order_spec t) SA rfl, ?_⟩
  refine WW ?_
  refine HereC.makeSub T_ok (kk := .i64) (m := t.length) 130 rfl rfl SS SS (by omega) (by decide) (by decide) rfl (keeps_nil _ _) ?_
  refine WW ?_
  rw [I_rep]
  refine HereO.callQ T_ok 22 [130, 0] rfl rfl hc SC rfl (by decide) (by decide) rfl (fun _ => rfl) outI_plain outI_len ?_
  rintro ⟨y, p⟩ ⟨hy1, hy2, hy3⟩
  dsimp only at hy3
  rw [hf] at hy3
  subst hy3
  simp only [outI, Option.isNone]
  refine WW ?_
  refine RetM.one0 (by first | rfl | (simp only [go_sem, Nat.reduceMul, Nat.reduceLeDiff, Nat.reduceLT, reduceIte, reduceCtorEq, Nat.reduceEqDiff, Nat.reduceSub, Nat.reduceAdd]; rfl)) rfl ?_
  simp only [go_sem, Nat.reduceMul, Nat.reduceLeDiff, Nat.reduceLT, reduceIte, reduceCtorEq, Nat.reduceEqDiff, Nat.reduceSub, Nat.reduceAdd] <;> rfl
theorem isoAll_s (t u : List (List Int)) (ht : Grp t) (hu : Grp u) (q : List Int) (hf : (dfs t u t.length []).find? (isPm u.length) = some q) : SpecM Tryz.prog 54 [.agg [.rds (II t)], .agg [.rds (II u)], .fn 99 [.box [.rds (II u)], .ptr 0 0]] [.cells 27 [.v (.slice none 0 0)]] (.tup []) [some (.cells 27 [.own 1]), some (.row 2 (I q))] := by
  have h8 := ht.2.1
  have hc := iso_spec t u ht hu t.length 0 [] (List.replicate t.length 0) rfl (by omega) (by simp) (by simp) (fun j hj => by simp at hj)
  unfold capsI at hc
  refine SpecM.of_code' T_ok Tryz.func54 rfl Tryz.ntmps54 Tryz.call54 (Nat.le_of_ble_eq_true rfl) (Nat.le_of_ble_eq_true rfl) (Nat.le_of_ble_eq_true rfl) rfl rfl (CodeV_sound T_ok (by kernel_rfl) rfl ?_)
  refine WW ?_
  refine HereO.alloc T_ok 120 rfl rfl (by decide) ?_
  refine WW ?_
  refine HereO.store T_ok rfl SS SS rfl SS rfl SR (Nat.le_of_ble_eq_true rfl) ?_
  refine WW ?_
  refine HereV.conv (Conv.knot (id := 120) (tt := 54) (g := 97) (caps := [.box [.rds (II t)], .box [.fn 99 [.box [.rds (II u)], .ptr 0 0]], .box [.rds (II u)]]) 6 (t.length + 1) SW SW) ?_
  rw [knot_succ]
  refine Here.drawC T_ok [.f, .p, .p, .c] [6] [130] [] (Nat.le_of_ble_eq_true rfl) mixed_ok (by kernel_rfl) (by kernel_rfl) (by kernel_rfl) (by simp only [List.mem_cons, List.not_mem_nil, or_false, forall_eq_or_imp, forall_eq, go_sem, Nat.reduceMul, Nat.reduceLeDiff, Nat.reduceLT, reduceIte, reduceCtorEq, Nat.reduceEqDiff, Nat.reduceSub, Nat.reduceAdd] <;> first | exact calm_ptr_ne rfl | exact calm_ne rfl | exact ⟨calm_ptr_ne rfl, calm_ptr_ne rfl⟩ | exact ⟨calm_ptr_ne rfl, calm_ptr_ne rfl, calm_ptr_ne rfl⟩ | exact ⟨calm_ptr_ne rfl, calm_knot (by simp only [go_sem, Nat.reduceMul, Nat.reduceLeDiff, Nat.reduceLT, reduceIte, reduceCtorEq, Nat.reduceEqDiff, Nat.reduceSub, Nat.reduceAdd] <;> exact calm_ptr_ne rfl)⟩ | ((repeat' apply And.intro) <;> first | exact calm_ptr_ne rfl | exact calm_ne rfl)) ?_
  refine WW ?_
  refine ⟨⟨calm_ptr_ne rfl, calm_knot (by simp only [go_sem, Nat.reduceMul, Nat.reduceLeDiff, Nat.reduceLT, reduceIte, reduceCtorEq, Nat.reduceEqDiff, Nat.reduceSub, Nat.reduceAdd]; exact calm_ptr_ne rfl)⟩, ?_⟩
  refine ⟨_, OpP.call' rfl rfl (order_spec t) SA rfl, ?_⟩
  refine WW ?_
  refine HereC.makeSub T_ok (kk := .i64) (m := t.length) 130 rfl rfl SS SS (by omega) (by decide) (by decide) rfl (keeps_nil _ _) ?_
  refine WW ?_
  rw [I_rep]
  refine HereO.callQ T_ok 22 [130, 0] rfl rfl hc SC rfl (by decide) (by decide) rfl (fun _ => rfl) outI_plain outI_len ?_
  rintro ⟨y, p⟩ ⟨hy1, hy2, hy3⟩
  dsimp only at hy3
  rw [hf] at hy3
  subst hy3
  simp only [outI, Option.isNone]
  refine WW ?_
  refine RetM.one01 1354 (by decide) (by first | rfl | (simp only [go_sem, Nat.reduceMul, Nat.reduceLeDiff, Nat.reduceLT, reduceIte, reduceCtorEq, Nat.reduceEqDiff, Nat.reduceSub, Nat.reduceAdd]; rfl)) rfl ?_ ?_
  · simp only [go_sem, Nat.reduceMul, Nat.reduceLeDiff, Nat.reduceLT, reduceIte, reduceCtorEq, Nat.reduceEqDiff, Nat.reduceSub, Nat.reduceAdd] <;> rfl
  · simp only [go_sem, Nat.reduceMul, Nat.reduceLeDiff, Nat.reduceLT, reduceIte, reduceCtorEq, Nat.reduceEqDiff, Nat.reduceSub, Nat.reduceAdd] <;> rfl
noncomputable def isoF (t u : List (List Int)) : Option (List Int) := if t.length = u.length then (dfs t u t.length []).find? (isPm u.length) else none
theorem isoF_some {t u : List (List Int)} {q : List Int} (h : isoF t u = some q) : t.length = u.length ∧ (dfs t u t.length []).find? (isPm u.length) = some q ∧ q.length = t.length := by
  unfold isoF at h
  split at h
  · rename_i e
    refine ⟨e, h, ?_⟩
    have := (dfs_ext _ _ _ (List.mem_of_find?_eq_some h)).1
    simpa using this
  · cases h
theorem iso_n (t u : List (List Int)) (ht : Grp t) (hu : Grp u) (hf : isoF t u = none) : Spec Tryz.prog 62 [.agg [.rds (II t)], .agg [.rds (II u)]] (.v (.slice none 0 0)) [] := by
  refine Spec.of_code T_ok Tryz.func62 rfl Tryz.ntmps62 Tryz.call62 (Nat.le_of_ble_eq_true rfl) rfl rfl (CodeV_sound T_ok (by kernel_rfl) rfl ?_)
  refine WW ?_
  refine HereO.alloc T_ok 120 rfl rfl (by decide) ?_
  refine WW ?_
  refine Here.draw T_ok mixed_ok (by kernel_rfl) ?_
  refine WW ?_
  refine ⟨_, OpP.call' rfl rfl (order_spec t) SA rfl, ?_⟩
  refine WW ?_
  refine ⟨_, OpP.call' rfl rfl (order_spec u) SA rfl, ?_⟩
  refine WW ?_
  refine ⟨fun h => ?_, fun h => ?_⟩
  · trivial
  · have he : t.length = u.length := by omega
    unfold isoF at hf
    rw [if_pos he] at hf
    refine HereO.callM T_ok 21 [120] rfl rfl (isoAll_n t u ht hu hf) SC rfl (by decide) (by decide) rfl rfl rfl (Nat.le_of_ble_eq_true rfl) ?_
    exact WW trivial
theorem iso_s (t u : List (List Int)) (ht : Grp t) (hu : Grp u) (q : List Int) (hf : isoF t u = some q) : Spec Tryz.prog 62 [.agg [.rds (II t)], .agg [.rds (II u)]] (.own 0) [.row 2 (I q)] := by
  obtain ⟨he, hf2, hql⟩ := isoF_some hf
  refine Spec.of_code T_ok Tryz.func62 rfl Tryz.ntmps62 Tryz.call62 (Nat.le_of_ble_eq_true rfl) rfl rfl (CodeV_sound T_ok (by kernel_rfl) rfl ?_)
  refine WW ?_
  refine HereO.alloc T_ok 120 rfl rfl (by decide) ?_
  refine WW ?_
  refine Here.draw T_ok mixed_ok (by kernel_rfl) ?_
  refine WW ?_
  refine ⟨_, OpP.call' rfl rfl (order_spec t) SA rfl, ?_⟩
  refine WW ?_
  refine ⟨_, OpP.call' rfl rfl (order_spec u) SA rfl, ?_⟩
  refine WW ?_
  refine ⟨fun h => absurd he (by omega), fun h => ?_⟩
  refine HereO.callM T_ok 21 [120] rfl rfl (isoAll_s t u ht hu q hf2) SC rfl (by decide) (by decide) rfl rfl rfl (Nat.le_of_ble_eq_true rfl) ?_
  refine WW ?_
  refine RetT.one 1337 SE rfl ?_
  exact WW trivial
noncomputable def isoR (t u : List (List Int)) : List Int := if Grp t ∧ Grp u then (isoF t u).getD [] else []
noncomputable def isoC (t u : List (List Int)) : Int := if Grp t ∧ Grp u then (if (isoF t u).isSome = true then 0 else 4) else 1
theorem isoR_ok (t u : List (List Int)) : (isoR t u).length ≤ 1048576 := by
  unfold isoR
  split
  · rename_i h
    have h8 := h.1.2.1
    cases e : isoF t u with
    | none => simp
    | some q =>
      have := (isoF_some e).2.2
      simp
      omega
  · simp
theorem implFindIsomorphism (t u : List (List Int)) : Spec Tryz.prog 21 [.agg [.rds (II t)], .agg [.rds (II u)]] (.tup [.own 0, .v (.int .i64 (isoC t u))]) [.row 2 (I (isoR t u))] := by
  refine Spec.of_codeC T_ok Tryz.func21 rfl Tryz.ntmps21 Tryz.call21 (Nat.le_of_ble_eq_true rfl) rfl rfl (CodeV_sound T_ok (by kernel_rfl) rfl ?_)
  refine WW ?_
  refine HereO.buildAggs T_ok 110 [.rds (II t), .rds (II u)] rfl rfl rfl (by decide) (by decide) rfl SS (by decide) rfl ?_
  refine WW ?_
  refine HereO.call T_ok rfl rfl (areGroups2_spec t u) SA rfl ?_
  refine WW ?_
  refine ⟨fun h => ?_, fun h => ?_⟩
  · have hc : isoC t u = 1 := by unfold isoC; rw [if_neg h]
    have hr : isoR t u = [] := by unfold isoR; rw [if_neg h]
    exact RetC.conv (Conv.nilAt 4 150 (.row 2 []) (by decide) rfl) (RetC.of (RetT.one 150 SE (by simp only [go_sem, Nat.reduceMul, Nat.reduceLeDiff, Nat.reduceLT, reduceIte, reduceCtorEq, Nat.reduceEqDiff, Nat.reduceSub, Nat.reduceAdd] <;> simp [hc, hr, I]) (by simp only [go_sem, Nat.reduceMul, Nat.reduceLeDiff, Nat.reduceLT, reduceIte, reduceCtorEq, Nat.reduceEqDiff, Nat.reduceSub, Nat.reduceAdd] <;> simp [hc, hr, I])))
  · cases e : isoF t u with
    | none =>
      have hc : isoC t u = 4 := by unfold isoC; rw [if_pos h, e]; rfl
      have hr : isoR t u = [] := by unfold isoR; rw [if_pos h, e]; rfl
      refine HereO.call T_ok rfl rfl (iso_n t u h.1 h.2 e) SA rfl ?_
      refine WW ?_
      refine HereO.isNilV T_ok rfl SS Tryz.underlying27 ?_
      refine WW ?_
      exact RetC.conv (Conv.nilAt 4 150 (.row 2 []) (by decide) rfl) (RetC.of (RetT.one 150 SE (by simp only [go_sem, Nat.reduceMul, Nat.reduceLeDiff, Nat.reduceLT, reduceIte, reduceCtorEq, Nat.reduceEqDiff, Nat.reduceSub, Nat.reduceAdd] <;> simp [hc, hr, I]) (by simp only [go_sem, Nat.reduceMul, Nat.reduceLeDiff, Nat.reduceLT, reduceIte, reduceCtorEq, Nat.reduceEqDiff, Nat.reduceSub, Nat.reduceAdd] <;> simp [hc, hr, I])))
    | some q =>
      have hc : isoC t u = 0 := by unfold isoC; rw [if_pos h, e]; rfl
      have hr : isoR t u = q := by unfold isoR; rw [if_pos h, e]; rfl
      have hq := (isoF_some e).2.2
      have h1 := h.1.1
      refine HereO.callOwn T_ok 20 rfl rfl (iso_s t u h.1 h.2 q e) SA rfl (by simp) rfl ?_
      refine WW ?_
      refine HereO.isNilOwn T_ok rfl SS SS (by rw [I_len]; omega) Tryz.underlying27 ?_
      refine WW ?_
      exact RetC.of (RetT.one 1320 SE (by simp only [go_sem, Nat.reduceMul, Nat.reduceLeDiff, Nat.reduceLT, reduceIte, reduceCtorEq, Nat.reduceEqDiff, Nat.reduceSub, Nat.reduceAdd] <;> simp [hc, hr]) (by simp only [go_sem, Nat.reduceMul, Nat.reduceLeDiff, Nat.reduceLT, reduceIte, reduceCtorEq, Nat.reduceEqDiff, Nat.reduceSub, Nat.reduceAdd] <;> simp [hc, hr]))
theorem specFindIsomorphism (t u : List (List Int)) : Spec Tryz.prog 22 [.agg [.rds (II t)], .agg [.rds (II u)]] (.tup [.own 0, .v (.int .i64 (isoC t u))]) [.row 2 (I (isoR t u))] := by
  refine Spec.of_codeC T_ok Tryz.func22 rfl Tryz.ntmps22 Tryz.call22 (Nat.le_of_ble_eq_true rfl) rfl rfl (CodeV_sound T_ok (by kernel_rfl) rfl ?_)
  refine WW ?_
  refine HereO.call T_ok rfl rfl (l01Is_spec t) SA rfl ?_
  refine WW ?_
  refine ⟨fun h => ?_, fun h => ?_⟩
  · refine HereO.call T_ok rfl rfl (l01Is_spec u) SA rfl ?_
    refine WW ?_
    refine ⟨fun h2 => ?_, fun h2 => ?_⟩
    · have hc : isoC t u = 1 := by unfold isoC; rw [if_neg fun q => h2 q.2]
      have hr : isoR t u = [] := by unfold isoR; rw [if_neg fun q => h2 q.2]
      exact RetC.conv (Conv.nilAt 4 150 (.row 2 []) (by decide) rfl) (RetC.of (RetT.one 150 SE (by simp only [go_sem, Nat.reduceMul, Nat.reduceLeDiff, Nat.reduceLT, reduceIte, reduceCtorEq, Nat.reduceEqDiff, Nat.reduceSub, Nat.reduceAdd] <;> simp [hc, hr, I]) (by simp only [go_sem, Nat.reduceMul, Nat.reduceLeDiff, Nat.reduceLT, reduceIte, reduceCtorEq, Nat.reduceEqDiff, Nat.reduceSub, Nat.reduceAdd] <;> simp [hc, hr, I])))
    · refine Here.draw T_ok mixed_ok (by kernel_rfl) ?_
      refine WW ?_
      refine ⟨_, OpP.call' rfl rfl (l01N_spec t) SA rfl, ?_⟩
      refine WW ?_
      refine ⟨_, OpP.call' rfl rfl (l01N_spec u) SA rfl, ?_⟩
      refine WW ?_
      refine ⟨fun h3 => ?_, fun h3 => ?_⟩
      · have hf : isoF t u = none := by unfold isoF; rw [if_neg (by omega)]
        have hc : isoC t u = 4 := by unfold isoC; rw [if_pos ⟨h, h2⟩, hf]; rfl
        have hr : isoR t u = [] := by unfold isoR; rw [if_pos ⟨h, h2⟩, hf]; rfl
        exact RetC.conv (Conv.nilAt 4 150 (.row 2 []) (by decide) rfl) (RetC.of (RetT.one 150 SE (by simp only [go_sem, Nat.reduceMul, Nat.reduceLeDiff, Nat.reduceLT, reduceIte, reduceCtorEq, Nat.reduceEqDiff, Nat.reduceSub, Nat.reduceAdd] <;> simp [hc, hr, I]) (by simp only [go_sem, Nat.reduceMul, Nat.reduceLeDiff, Nat.reduceLT, reduceIte, reduceCtorEq, Nat.reduceEqDiff, Nat.reduceSub, Nat.reduceAdd] <;> simp [hc, hr, I])))
      · have h8 := h.2.1
        have he : t.length = u.length := by omega
        have hs := search_spec t u h h2 true t.length [] (by simp) (fun j hj => by simp at hj)
        rw [dfsD_true t u he.symm t.length [] (by simp) (fun j hj => by simp at hj) (fun i j hi => by simp at hi)] at hs
        have hF : isoF t u = ((dfs t u t.length []).filter (isPm t.length)).head? := by
          unfold isoF
          rw [if_pos he, List.head?_filter, he]
        obtain ⟨X, hX⟩ : ∃ X, X = (dfs t u t.length []).filter (isPm t.length) := ⟨_, rfl⟩
        rw [← hX] at hs hF
        refine HereO.buildRow T_ok 120 (I []) rfl rfl rfl (by decide) rfl SR rfl (by decide) ?_
        refine WW ?_
        refine HereO.callM T_ok 21 [120] rfl rfl (hs) SC rfl (by decide) (by decide) rfl rfl rfl (Nat.le_of_ble_eq_true rfl) ?_
        refine WW ?_
        refine ⟨fun h4 => ?_, fun h4 => ?_⟩
        · have hX0 : X = [] := List.eq_nil_of_length_eq_zero (by omega)
          have hc : isoC t u = 4 := by unfold isoC; rw [if_pos ⟨h, h2⟩, hF, hX0]; rfl
          have hr : isoR t u = [] := by unfold isoR; rw [if_pos ⟨h, h2⟩, hF, hX0]; rfl
          exact RetC.conv (Conv.nilAt 4 150 (.row 2 []) (by decide) rfl) (RetC.of (RetT.one 150 SE (by simp only [go_sem, Nat.reduceMul, Nat.reduceLeDiff, Nat.reduceLT, reduceIte, reduceCtorEq, Nat.reduceEqDiff, Nat.reduceSub, Nat.reduceAdd] <;> simp [hc, hr, I]) (by simp only [go_sem, Nat.reduceMul, Nat.reduceLeDiff, Nat.reduceLT, reduceIte, reduceCtorEq, Nat.reduceEqDiff, Nat.reduceSub, Nat.reduceAdd] <;> simp [hc, hr, I])))
        · obtain ⟨q, X', rfl⟩ : ∃ q X', X = q :: X' := by
            cases X with
            | nil => exact absurd rfl h4
            | cons q X' => exact ⟨q, X', rfl⟩
          have hc : isoC t u = 0 := by unfold isoC; rw [if_pos ⟨h, h2⟩, hF]; rfl
          have hr : isoR t u = q := by unfold isoR; rw [if_pos ⟨h, h2⟩, hF]; rfl
          refine ⟨⟨by omega, by simp⟩, ?_⟩
          refine HereO.openRow T_ok 200 rfl rfl rfl rfl (by simp [II]) (by decide) (by decide) ?_
          refine WW ?_
          exact RetC.of (RetT.one 200 SE (by simp only [go_sem, Nat.reduceMul, Nat.reduceLeDiff, Nat.reduceLT, reduceIte, reduceCtorEq, Nat.reduceEqDiff, Nat.reduceSub, Nat.reduceAdd] <;> simp [hc, hr, II]) (by simp only [go_sem, Nat.reduceMul, Nat.reduceLeDiff, Nat.reduceLT, reduceIte, reduceCtorEq, Nat.reduceEqDiff, Nat.reduceSub, Nat.reduceAdd] <;> simp [hc, hr, II]))
  · have hc : isoC t u = 1 := by unfold isoC; rw [if_neg fun q => h q.1]
    have hr : isoR t u = [] := by unfold isoR; rw [if_neg fun q => h q.1]
    exact RetC.conv (Conv.nilAt 4 150 (.row 2 []) (by decide) rfl) (RetC.of (RetT.one 150 SE (by simp only [go_sem, Nat.reduceMul, Nat.reduceLeDiff, Nat.reduceLT, reduceIte, reduceCtorEq, Nat.reduceEqDiff, Nat.reduceSub, Nat.reduceAdd] <;> simp [hc, hr, I]) (by simp only [go_sem, Nat.reduceMul, Nat.reduceLeDiff, Nat.reduceLT, reduceIte, reduceCtorEq, Nat.reduceEqDiff, Nat.reduceSub, Nat.reduceAdd] <;> simp [hc, hr, I])))
end Go.Proofs.YtcjhojdlfnpgjaaGreat
