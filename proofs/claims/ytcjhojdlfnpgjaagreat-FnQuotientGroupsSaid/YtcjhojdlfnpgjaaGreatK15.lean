/- Contracts: groups are told, by the program and by the specification: lengths, ranges, places, and the laws of a group; Contracts: a slice held against nil; Clone; A calculus of verification conditions over logical values: what is behind a loop, or behind a piece of code, shown once; Contracts: groups are told by the specification as by the program; Contracts: codes of groups and elements, products. -/
import Derived.Test.YtcjhojdlfnpgjaaGreatK10
import Derived.Test.YtcjhojdlfnpgjaaGreatK13
set_option linter.unusedVariables false
set_option linter.unusedSimpArgs false
set_option maxRecDepth 100000
namespace Go.Proofs.YtcjhojdlfnpgjaaGreat
open Go.RowKit
def ee (t : List (List Int)) (a b : Nat) : Int := (t.getD a []).getD b 0
def AreIn (n : Int) (l : List Int) : Prop := ∀ j, j < l.length → 0 ≤ l.getD j 0 ∧ l.getD j 0 < n
instance (n : Int) (l : List Int) : Decidable (AreIn n l) := Nat.decidableBallLT _ _
theorem order_spec (t : List (List Int)) : Spec Tryz.prog 43 [.agg [.rds (II t)]] (.v (.int .i64 t.length)) [] := by
  refine Spec.of_code T_ok Tryz.func43 rfl Tryz.ntmps43 Tryz.call43 (Nat.le_of_ble_eq_true rfl) rfl rfl (CodeV_sound T_ok (by kernel_rfl) rfl ?_)
  exact WW trivial
theorem areIn_spec (n : Int) (l : List Int) (hl : l.length ≤ 1048576) : Spec Tryz.prog 48 [.v (.int .i64 n), .rd (I l)] (.v (.bool (decide (AreIn n l)))) [] := by
  refine Spec.of_code T_ok Tryz.func48 rfl Tryz.ntmps48 Tryz.call48 (Nat.le_of_ble_eq_true rfl) rfl rfl (CodeV_sound T_ok (by kernel_rfl) rfl ?_)
  refine WW ?_
  refine Here.loopV T_ok (fun k => k ≤ l.length ∧ ∀ j, j < k → 0 ≤ l.getD j 0 ∧ l.getD j 0 < n) (fun k => l.length - k) (fun k => [(0, .v (.int .i64 n)), (7, .rd (I l)), (8, .v (.int .i64 l.length)), (9, .v (.int .i64 k))]) (fun _ => []) 0 (by simp) SE trivial ?_
  rintro k ⟨hk, hj⟩
  refine WW ?_
  refine ⟨fun h1 => ⟨by omega, fun h2 => ⟨fun h3 => ?_, fun h3 => ⟨by unfold InR; omega, k + 1, ⟨by omega, fun j h => ?_⟩, by omega, rfl⟩⟩, fun h2 => ?_⟩, fun h1 => ?_⟩
  · exact (decide_eq_false fun h => by have := h k (by omega); omega).symm
  · by_cases e : j = k
    · subst e; omega
    · exact hj j (by omega)
  · exact (decide_eq_false fun h => by have := h k (by omega); omega).symm
  · exact (decide_eq_true fun j h => hj j (by omega)).symm
theorem mixed_ok : Tryz.prog.follows .mixedOrders = true := by kernel_rfl
theorem l01In_spec (n a b : Int) : Spec Tryz.prog 98 [.v (.int .i64 n), .v (.int .i64 a), .v (.int .i64 b)] (.v (.bool (decide (a ≤ n ∧ n ≤ b)))) [] := by
  refine Spec.of_code T_ok Tryz.func98 rfl Tryz.ntmps98 Tryz.call98 (Nat.le_of_ble_eq_true rfl) rfl rfl (CodeV_sound T_ok (by kernel_rfl) rfl ?_)
  refine WW ?_
  exact ⟨fun h => by simp [h], fun h => by simp [h]⟩
def ix (l : List Int) (x : Int) : Int := match l.findIdx? (· == x) with | some i => (i : Int) | none => -1
theorem ix_at {l : List Int} {x : Int} {k : Nat} (hk : k < l.length) (h1 : l.getD k 0 = x) (h2 : ∀ j, j < k → l.getD j 0 ≠ x) : ix l x = k := by
  have : l.findIdx? (· == x) = some k := by
    rw [List.findIdx?_eq_some_iff_getElem]
    refine ⟨hk, by simpa [List.getD_eq_getElem?_getD, List.getElem?_eq_getElem hk] using h1, fun j hj => ?_⟩
    have := h2 j hj
    simpa [List.getD_eq_getElem?_getD, List.getElem?_eq_getElem (show j < l.length by omega)] using this
  simp [ix, this]
theorem ix_no {l : List Int} {x : Int} (h2 : ∀ j, j < l.length → l.getD j 0 ≠ x) : ix l x = -1 := by
  have : l.findIdx? (· == x) = none := by
    rw [List.findIdx?_eq_none_iff]
    intro y hy
    obtain ⟨j, hj, rfl⟩ := List.getElem_of_mem hy
    have := h2 j hj
    simpa [List.getD_eq_getElem?_getD, List.getElem?_eq_getElem hj] using this
  simp [ix, this]
def Has (l : List Int) (x : Int) : Prop := ∃ j, j < l.length ∧ l.getD j 0 = x
instance (l : List Int) (x : Int) : Decidable (Has l x) := decidable_of_iff (∃ j, j < l.length ∧ l.getD j 0 = x) Iff.rfl
theorem ix_cases (l : List Int) (x : Int) : (¬ Has l x ∧ ix l x = -1) ∨ ∃ k : Nat, ix l x = k ∧ k < l.length ∧ l.getD k 0 = x := by
  by_cases h : ∀ j, j < l.length → l.getD j 0 ≠ x
  · exact .inl ⟨fun ⟨j, h1, h2⟩ => h j h1 h2, ix_no h⟩
  · have h' : ∃ j, j < l.length ∧ l.getD j 0 = x := by
      apply Classical.byContradiction
      intro hn
      exact h fun j hj e => hn ⟨j, hj, e⟩
    have : ∃ k, k < l.length ∧ l.getD k 0 = x ∧ ∀ j, j < k → l.getD j 0 ≠ x := by
      obtain ⟨j, hj, e⟩ := h'
      induction j using Nat.strongRecOn with
      | _ j ih =>
        by_cases h2 : ∀ i, i < j → l.getD i 0 ≠ x
        · exact ⟨j, hj, e, h2⟩
        · have : ∃ i, i < j ∧ l.getD i 0 = x := by
            apply Classical.byContradiction
            intro hn
            exact h2 fun i hi e => hn ⟨i, hi, e⟩
          obtain ⟨i, hi, ei⟩ := this
          exact ih i hi (by omega) ei
    obtain ⟨k, h1, h2, h3⟩ := this
    exact .inr ⟨k, ix_at h1 h2 h3, h1, h2⟩
theorem Index_spec (l : List Int) (x : Int) (hl : l.length ≤ 1048576) : Spec Tryz.prog 69 [.rd (I l), .v (.int .i64 x)] (.v (.int .i64 (ix l x))) [] := by
  refine Spec.of_code T_ok Tryz.func69 rfl Tryz.ntmps69 Tryz.call69 (Nat.le_of_ble_eq_true rfl) rfl rfl (CodeV_sound T_ok (by kernel_rfl) rfl ?_)
  refine WW ?_
  refine Here.loopV T_ok (fun k => k ≤ l.length ∧ ∀ j, j < k → l.getD j 0 ≠ x) (fun k => l.length - k) (fun k => [(0, .rd (I l)), (1, .v (.int .i64 x)), (7, .v (.int .i64 l.length)), (8, .v (.int .i64 k))]) (fun _ => []) 0 (by simp) SE trivial ?_
  rintro k ⟨hk, hj⟩
  refine WW ?_
  refine ⟨fun h1 => ⟨by omega, fun h2 => ?_, fun h2 => ⟨by unfold InR; omega, k + 1, ⟨by omega, fun j h => ?_⟩, by omega, rfl⟩⟩, fun h1 => ?_⟩
  · exact (ix_at (by omega) h2.symm hj).symm
  · by_cases e : j = k
    · subst e; exact fun e => absurd e.symm h2
    · exact hj j (by omega)
  · exact (ix_no fun j h => hj j (by omega)).symm
theorem Contains_spec (l : List Int) (x : Int) (hl : l.length ≤ 1048576) : Spec Tryz.prog 49 [.rd (I l), .v (.int .i64 x)] (.v (.bool (decide (Has l x)))) [] := by
  refine Spec.of_code T_ok Tryz.func49 rfl Tryz.ntmps49 Tryz.call49 (Nat.le_of_ble_eq_true rfl) rfl rfl (CodeV_sound T_ok (by kernel_rfl) rfl ?_)
  refine WW ?_
  refine HereO.call T_ok rfl rfl (Index_spec l x hl) (by simp only [go_sem, Nat.reduceMul, Nat.reduceLeDiff, Nat.reduceLT, reduceIte, reduceCtorEq, Nat.reduceEqDiff, Nat.reduceSub, Nat.reduceAdd, List.toList_toArray]) rfl ?_
  refine WW ?_
  rcases ix_cases l x with ⟨h1, h2⟩ | ⟨k, h1, h2, h3⟩
  · rw [h2]; simp [h1]
  · have : Has l x := ⟨k, h2, h3⟩
    rw [h1]; simp [this]
def Shape (t : List (List Int)) : Prop := ∀ a, a < t.length → (t.getD a []).length = t.length ∧ ∀ b, b < t.length → 0 ≤ ee t a b ∧ ee t a b < t.length
def Unit0 (t : List (List Int)) (a : Nat) : Prop := ee t 0 a = a ∧ ee t a 0 = a ∧ Has (t.getD a []) 0
def Assoc (t : List (List Int)) (a b c : Nat) : Prop := ee t (ee t a b).toNat c = ee t a (ee t b c).toNat
def Grp (t : List (List Int)) : Prop := 1 ≤ t.length ∧ t.length ≤ 8 ∧ Shape t ∧ ∀ a, a < t.length → Unit0 t a ∧ ∀ b, b < t.length → ∀ c, c < t.length → Assoc t a b c
instance (t : List (List Int)) : Decidable (Shape t) := by unfold Shape; exact Nat.decidableBallLT _ _
instance (t : List (List Int)) (a : Nat) : Decidable (Unit0 t a) := by unfold Unit0; infer_instance
instance (t : List (List Int)) (a b c : Nat) : Decidable (Assoc t a b c) := by unfold Assoc; infer_instance
instance (t : List (List Int)) : Decidable (Grp t) := by unfold Grp; infer_instance
theorem IsGroup_spec (t : List (List Int)) : Spec Tryz.prog 15 [.agg [.rds (II t)]] (.v (.bool (decide (Grp t)))) [] := by
  refine Spec.of_code T_ok Tryz.func15 rfl Tryz.ntmps15 Tryz.call15 (Nat.le_of_ble_eq_true rfl) rfl rfl (CodeV_sound T_ok (by kernel_rfl) rfl ?_)
  refine WW ?_
  refine HereO.call T_ok rfl rfl (order_spec t) (by simp only [go_sem, Nat.reduceMul, Nat.reduceLeDiff, Nat.reduceLT, reduceIte, reduceCtorEq, Nat.reduceEqDiff, Nat.reduceSub, Nat.reduceAdd, List.toList_toArray]) rfl ?_
  refine WW ?_
  refine ⟨fun h1 => ⟨fun h8 => (decide_eq_false fun h => by have := h.2.1; omega).symm, fun h8 => ?_⟩, fun h1 => (decide_eq_false fun h => by have := h.1; omega).symm⟩
  refine Here.loopV T_ok (fun k => k ≤ t.length ∧ ∀ a, a < k → (t.getD a []).length = t.length ∧ AreIn t.length (t.getD a [])) (fun k => t.length - k) (fun k => [(1, .box [.rds (II t)]), (3, .v (.int .i64 t.length)), (18, .rds (II t)), (19, .v (.int .i64 t.length)), (20, .v (.int .i64 k))]) (fun _ => []) 0 (by simp) SE trivial ?_
  rintro k ⟨hk, hrow⟩
  refine WW ?_
  refine ⟨fun h2 => ⟨by omega, fun h3 => ?_, fun h3 => ?_⟩, fun h2 => ?_⟩
  · refine HereO.call T_ok rfl rfl (areIn_spec t.length (t.getD k []) (by omega)) (by simp only [go_sem, Nat.reduceMul, Nat.reduceLeDiff, Nat.reduceLT, reduceIte, reduceCtorEq, Nat.reduceEqDiff, Nat.reduceSub, Nat.reduceAdd, List.toList_toArray]) rfl ?_
    refine WW ?_
    refine ⟨fun h4 => (decide_eq_false fun h => h4 fun j hj => ?_).symm, fun h4 => ⟨by unfold InR; omega, k + 1, ⟨by omega, fun a h => ?_⟩, by omega, rfl⟩⟩
    · exact (h.2.2.1 k (by omega)).2 j (by omega)
    · by_cases e : a = k
      · subst e; exact ⟨by omega, h4⟩
      · exact hrow a (by omega)
  · exact (decide_eq_false fun h => by have := (h.2.2.1 k (by omega)).1; omega).symm
  · have hrow' : ∀ a, a < t.length → (t.getD a []).length = t.length ∧ AreIn t.length (t.getD a []) := fun a h => hrow a (by omega)
    refine Here.loopV T_ok (fun k => k ≤ t.length ∧ ∀ a, a < k → Unit0 t a ∧ ∀ b, b < t.length → ∀ c, c < t.length → Assoc t a b c) (fun k => t.length - k) (fun k => [(1, .box [.rds (II t)]), (3, .v (.int .i64 t.length)), (35, .v (.int .i64 t.length)), (36, .v (.int .i64 k))]) (fun _ => []) 0 (by simp) SE trivial ?_
    rintro a ⟨ha, hall⟩
    refine WW ?_
    refine ⟨fun h3 => ?_, fun h3 => (decide_eq_true ⟨by omega, by omega, fun a ha => ⟨(hrow' a ha).1, fun b hb => (hrow' a ha).2 b (by rw [(hrow' a ha).1]; exact hb)⟩, fun a' h => hall a' (by omega)⟩).symm⟩
    have l0 := hrow' 0 (by omega)
    have la := hrow' a (by omega)
    refine ⟨⟨by omega, by omega⟩, ⟨by omega, by omega⟩, fun h4 => ⟨⟨by omega, by omega⟩, ⟨by omega, by omega⟩, fun h5 => ⟨⟨by omega, by omega⟩, ?_⟩, fun h5 => ?_⟩, fun h4 => ?_⟩
    · refine HereO.call T_ok rfl rfl (Contains_spec (t.getD a []) 0 (by omega)) (by simp only [go_sem, Nat.reduceMul, Nat.reduceLeDiff, Nat.reduceLT, reduceIte, reduceCtorEq, Nat.reduceEqDiff, Nat.reduceSub, Nat.reduceAdd, List.toList_toArray]) rfl ?_
      refine WW ?_
      refine ⟨fun h6 => (decide_eq_false fun h => h6 (h.2.2.2 a (by omega)).1.2.2).symm, fun h6 => ?_⟩
      refine Here.loopV T_ok (fun b => b ≤ t.length ∧ ∀ b', b' < b → ∀ c, c < t.length → Assoc t a b' c) (fun k => t.length - k) (fun b => [(1, .box [.rds (II t)]), (3, .v (.int .i64 t.length)), (6, .v (.int .i64 a)), (35, .v (.int .i64 t.length)), (36, .v (.int .i64 a)), (68, .v (.int .i64 t.length)), (69, .v (.int .i64 b))]) (fun _ => []) 0 (by simp) SE trivial ?_
      rintro b ⟨hb, hbs⟩
      refine WW ?_
      refine ⟨fun h7 => ?_, fun h7 => ⟨by unfold InR; omega, a + 1, ⟨by omega, fun a' h => ?_⟩, by omega, rfl⟩⟩
      · refine Here.loopV T_ok (fun c => c ≤ t.length ∧ ∀ c', c' < c → Assoc t a b c') (fun k => t.length - k) (fun c => [(1, .box [.rds (II t)]), (3, .v (.int .i64 t.length)), (6, .v (.int .i64 a)), (7, .v (.int .i64 b)), (35, .v (.int .i64 t.length)), (36, .v (.int .i64 a)), (68, .v (.int .i64 t.length)), (69, .v (.int .i64 b)), (72, .v (.int .i64 t.length)), (73, .v (.int .i64 c))]) (fun _ => []) 0 (by simp) SE trivial ?_
        rintro c ⟨hc, hcs⟩
        refine WW ?_
        refine ⟨fun h8 => ?_, fun h8 => ⟨by unfold InR; omega, b + 1, ⟨by omega, fun b' h => ?_⟩, by omega, rfl⟩⟩
        · refine Here.draw T_ok mixed_ok (by kernel_rfl) ?_
          refine WW ?_
          have lb := hrow' b (by omega)
          have e1 := la.2 b (by omega)
          have e2 := lb.2 c (by omega)
          have l3 := hrow' ((t.getD a []).getD b 0).toNat (by omega)
          refine ⟨⟨by omega, by omega⟩, ⟨by omega, by omega⟩, e1, ⟨by omega, by omega⟩, ⟨by omega, by omega⟩, ⟨by omega, by omega⟩, ⟨by omega, by omega⟩, ⟨by omega, by omega⟩, fun h9 => ?_, fun h9 => ⟨by unfold InR; omega, c + 1, ⟨by omega, fun c' h => ?_⟩, by omega, rfl⟩⟩
          · exact (decide_eq_false fun h => h9 ((h.2.2.2 a (by omega)).2 b (by omega) c (by omega))).symm
          · by_cases e : c' = c
            · subst e; exact h9
            · exact hcs c' (by omega)
        · by_cases e : b' = b
          · subst e; exact fun c' h => hcs c' (by omega)
          · exact hbs b' (by omega)
      · by_cases e : a' = a
        · subst e; exact ⟨⟨h4, h5, h6⟩, fun b h => hbs b (by omega)⟩
        · exact hall a' (by omega)
    · exact (decide_eq_false fun h => h5 (h.2.2.2 a (by omega)).1.2.1).symm
    · exact (decide_eq_false fun h => h4 (h.2.2.2 a (by omega)).1.1).symm
end Go.Proofs.YtcjhojdlfnpgjaaGreat
namespace Go.Proofs.YtcjhojdlfnpgjaaGreat
open Go.RowKit
theorem run_eqNil {P : Program} {t e : Nat} (ht : P.underlying t = some (.slice e)) (A : Option Addr) (m c : Nat) (w : World) : (Op.equal t (.slice A m c) (.slice none 0 0)).run P w = .ok A.isNone w := by
  have h : ∀ d, (Op.equalIn (d + 1) t (.slice A m c) (.slice none 0 0)).run P w = .ok A.isNone w := fun d => by cases A <;> simp [Op.equalIn, run_underlying ht]
  simp [Op.equal, Op.maxDepth, h 9999]
theorem OpT.isNil {P : Program} {o : Oper} {s : St} {K : LV → St → Prop} {t t' e : Nat} {x : Operand} {vs : List Value} (ho : o.op = .binOp .eql t x (.const (.slice none 0 0)) t') (hx : evL s x = .rd vs) (ht : P.underlying t = some (.slice e))
    (h0 : K (.v (.bool false)) s) (h1 : vs = [] → K (.v (.bool true)) s) : OpT P o s K := by
  intro w0 w ι fp f hI
  have hv := hI.ev x
  rw [hx] at hv
  simp only [LRel] at hv
  obtain ⟨A, c, e1, hc, hr⟩ := hv
  have hrun : (execOp (evV f) o).run P w = .ok (.value (.bool A.isNone)) w := by
    simp only [ho, execOp, e1]
    simp [eqGuard, binOp, evV, run_eqNil ht]
  rw [hrun]
  cases A with
  | none =>
    refine .value _ _ _ _ _ _ hI (by simp only [LRel]; rfl) (h1 ?_)
    cases vs with
    | nil => rfl
    | cons v vs => obtain ⟨ad, e2, _⟩ := hr.2 (by simp); cases e2
  | some ad => exact .value _ _ _ _ _ _ hI (by simp only [LRel]; rfl) h0
theorem HereO.isNil {P : Program} {T : TT} (hT : T.Ok P) {n : Nat} {all : Array Oper} {o : Oper} {l : List Oper} {s : St} {k : Kont} {t t' e : Nat} {x : Operand} {vs : List Value} (ho : o.op = .binOp .eql t x (.const (.slice none 0 0)) t') (hx : evL s x = .rd vs) (ht : P.underlying t = some (.slice e))
    (h0 : OpsV P T n all l (s.put o.dst (.v (.bool false))) k) (h1 : vs = [] → OpsV P T n all l (s.put o.dst (.v (.bool true))) k) : HereO P T n all o l s k :=
  HereO.of_all hT (K := fun r s' => s' = s ∧ (r = .v (.bool false) ∨ vs = [] ∧ r = .v (.bool true))) (OpT.isNil ho hx ht ⟨rfl, .inl rfl⟩ fun e => ⟨rfl, .inr ⟨e, rfl⟩⟩) (by
    rintro r s' ⟨rfl, rfl | ⟨e, rfl⟩⟩
    · exact h0
    · exact h1 e)
theorem Clone_spec (l : List Int) (hl : l.length ≤ 1099511627776) : Spec Tryz.prog 63 [.rd (I l)] (.own 0) [.row 2 (I l)] := by
  refine Spec.of_codeC T_ok Tryz.func63 rfl Tryz.ntmps63 Tryz.call63 (Nat.le_of_ble_eq_true rfl) rfl rfl (CodeV_sound T_ok (by kernel_rfl) rfl ?_)
  refine WW ?_
  refine HereO.isNil T_ok rfl SS Tryz.underlying27 ?_ (fun he => ?_)
  · refine WW ?_
    refine HereO.buildRow T_ok 115 (I []) rfl rfl rfl (by decide) rfl SR rfl (by decide) ?_
    refine WW ?_
    refine HereO.append T_ok (I l) rfl rfl (by decide) SS (by decide) SS SS (.rd _) (I_one _) (by simp only [I_len, List.length_nil]; omega) ?_
    refine WW ?_
    exact RetC.of (RetT.one 115 SE (by simp only [go_sem, Nat.reduceMul, Nat.reduceLeDiff, Nat.reduceLT, reduceIte, reduceCtorEq, Nat.reduceEqDiff, Nat.reduceSub, Nat.reduceAdd] <;> simp [I]) (by simp only [go_sem, Nat.reduceMul, Nat.reduceLeDiff, Nat.reduceLT, reduceIte, reduceCtorEq, Nat.reduceEqDiff, Nat.reduceSub, Nat.reduceAdd] <;> simp [I]))
  · refine WW ?_
    have h0 : l = [] := by cases l with | nil => rfl | cons x l => simp [I] at he
    exact RetC.conv (Conv.nilAt 2 150 (.row 2 []) (by decide) rfl) (RetC.of (RetT.one 150 SE (by simp only [go_sem, Nat.reduceMul, Nat.reduceLeDiff, Nat.reduceLT, reduceIte, reduceCtorEq, Nat.reduceEqDiff, Nat.reduceSub, Nat.reduceAdd] <;> simp [h0, I]) (by simp only [go_sem, Nat.reduceMul, Nat.reduceLeDiff, Nat.reduceLT, reduceIte, reduceCtorEq, Nat.reduceEqDiff, Nat.reduceSub, Nat.reduceAdd] <;> simp [h0, I])))
end Go.Proofs.YtcjhojdlfnpgjaaGreat
namespace Go.Proofs.YtcjhojdlfnpgjaaGreat
open Go.RowKit
theorem HereV.cut {P : Program} {T : TT} (hT : T.Ok P) {n : Nat} {c rest : Code} {s : St} {id : Nat} {K : Kont} {ε : Type} (J : ε → Prop) (ev : ε → List (Nat × LV)) (eo : ε → List (Nat × OC))
    (h : HereV P T n c s (.blk id (.back (fun s' => ∃ e, J e ∧ LeF s'.lf (ev e) ∧ LeO s'.σ (eo e)) K))) (hr : ∀ e, J e → CodeV P T n rest (mkS (ev e) (eo e)) K) : HereV P T n c s (.blk id (.seq rest K)) := by
  intro hc hk
  simp only [okK, Bool.and_eq_true] at hk
  have hN : ∀ s', (∃ e, J e ∧ LeF s'.lf (ev e) ∧ LeO s'.σ (eo e)) → CodeT P n rest s' (KN P n K).1 (KN P n K).2.1 (KN P n K).2.2 := by
    rintro s' ⟨e, hJ, h1, h2⟩
    have := CodeV_sound hT hk.1 hk.2 (hr e hJ)
    intro w0 w ι fp f a hf hI
    exact this w0 w ι fp f a hf (hI.le (.mk' h1 h2))
  refine CodeT.mono (h hc hk.2) hN (fun j s' q => ?_) (fun _ q => q)
  simp only [KN] at q ⊢
  unfold inX at q ⊢
  split
  · rename_i e; rw [if_pos e] at q; exact hN _ q
  · rename_i e; rw [if_neg e] at q; exact q
theorem Here.loopH {P : Program} {T : TT} {n : Nat} {c : Code} {s : St} {K : Kont} {κ : Type} (G : κ → Prop) (μ : κ → Nat) (L : κ → List (Nat × LV)) (O : κ → List (Nat × OC)) (k0 : κ) (h0 : G k0) (hL : LeF s.lf (L k0)) (hO : LeO s.σ (O k0))
    (round : ∀ k, G k → HereV P T n c (mkS (L k) (O k)) (.back (fun s' => ∃ k', G k' ∧ μ k' < μ k ∧ LeF s'.lf (L k') ∧ LeO s'.σ (O k')) K)) : HereV P T n (.loop c) s K :=
  fun hc hk => Here.loop G μ L O k0 h0 hL hO fun k hk' => round k hk' hc hk
theorem HereV.of {P : Program} {T : TT} (hT : T.Ok P) {n : Nat} {c : Code} {s : St} {K : Kont} (h : CodeV P T n c s K) : HereV P T n c s K := fun hc hk => CodeV_sound hT hc hk h
theorem HereV.block {P : Program} {T : TT} {n id : Nat} {c : Code} {s : St} {K : Kont} (h : HereV P T n c s (.blk id K)) : HereV P T n (.block id c) s K := fun hc hk => CodeT.block (h hc hk)
theorem HereV.cutSeq {P : Program} {T : TT} {n : Nat} {A B : Code} {s : St} {K : Kont} {ε : Type} (J : ε → Prop) (ev : ε → List (Nat × LV)) (eo : ε → List (Nat × OC))
    (h : HereV P T n A s (.back (fun s' => ∃ e, J e ∧ LeF s'.lf (ev e) ∧ LeO s'.σ (eo e)) K)) (hr : ∀ e, J e → HereV P T n B (mkS (ev e) (eo e)) K) : HereV P T n (.seq A B) s K := by
  intro hc hk
  simp only [okC, Bool.and_eq_true] at hc
  refine CodeT.seq (CodeT.mono (h hc.1 hk) ?_ (fun _ _ q => q) (fun _ q => q))
  rintro s' ⟨e, hJ, h1, h2⟩
  exact CodeT.le (.mk' h1 h2) (hr e hJ hc.2 hk)
end Go.Proofs.YtcjhojdlfnpgjaaGreat
namespace Go.Proofs.YtcjhojdlfnpgjaaGreat
open Go.RowKit
theorem Grp.left {t : List (List Int)} (h : Grp t) {a : Nat} (ha : a < t.length) : ∃ b, b < t.length ∧ ee t a b = 0 ∧ ee t b a = 0 := by
  obtain ⟨_, _, hs, hl⟩ := h
  have inv : ∀ a, a < t.length → ∃ b, b < t.length ∧ ee t a b = 0 := fun a ha => by
    obtain ⟨j, h1, h2⟩ := (hl a ha).1.2.2
    rw [(hs a ha).1] at h1
    exact ⟨j, h1, h2⟩
  obtain ⟨b, hb, e1⟩ := inv a ha
  obtain ⟨c, hc, e2⟩ := inv b hb
  have hass := (hl a ha).2 b hb c hc
  unfold Assoc at hass
  rw [e1, e2] at hass
  simp only [Int.toNat_zero] at hass
  rw [(hl c hc).1.1, (hl a ha).1.2.1] at hass
  have : c = a := by omega
  subst this
  exact ⟨b, hb, e1, e2⟩
def Inv2 (t : List (List Int)) (a b : Nat) : Prop := ee t a b = 0 ∧ ee t b a = 0
instance (t : List (List Int)) (a b : Nat) : Decidable (Inv2 t a b) := by unfold Inv2; infer_instance
def Grp2 (t : List (List Int)) : Prop := 1 ≤ t.length ∧ t.length ≤ 8 ∧ Shape t ∧ ∀ a, a < t.length → (ee t 0 a = a ∧ ee t a 0 = a) ∧ (∀ b, b < t.length → ∀ c, c < t.length → Assoc t a b c) ∧ ∃ b, b < t.length ∧ Inv2 t a b
theorem Grp2_iff (t : List (List Int)) : Grp2 t ↔ Grp t := by
  constructor
  · rintro ⟨h1, h2, h3, h4⟩
    refine ⟨h1, h2, h3, fun a ha => ?_⟩
    obtain ⟨⟨e1, e2⟩, hass, b, hb, e3, e4⟩ := h4 a ha
    exact ⟨⟨e1, e2, b, by rw [(h3 a ha).1]; exact hb, e3⟩, hass⟩
  · intro h
    refine ⟨h.1, h.2.1, h.2.2.1, fun a ha => ?_⟩
    have := h.2.2.2 a ha
    exact ⟨⟨this.1.1, this.1.2.1⟩, this.2, h.left ha⟩
set_option maxHeartbeats 1000000 in
theorem l01Is_spec (t : List (List Int)) : Spec Tryz.prog 56 [.agg [.rds (II t)]] (.v (.bool (decide (Grp t)))) [] := by
  refine Spec.of_code T_ok Tryz.func56 rfl Tryz.ntmps56 Tryz.call56 (Nat.le_of_ble_eq_true rfl) rfl rfl (CodeV_sound T_ok (by kernel_rfl) rfl ?_)
  refine WW ?_
  refine HereO.call T_ok rfl rfl (l01In_spec t.length 1 8) (by simp only [go_sem, Nat.reduceMul, Nat.reduceLeDiff, Nat.reduceLT, reduceIte, reduceCtorEq, Nat.reduceEqDiff, Nat.reduceSub, Nat.reduceAdd, List.toList_toArray]) rfl ?_
  refine WW ?_
  refine ⟨fun h1 => (decide_eq_false fun h => h1 ⟨by have := h.1; omega, by have := h.2.1; omega⟩).symm, fun h1 => ?_⟩
  refine Here.loopV T_ok (fun k => k ≤ t.length ∧ ∀ a, a < k → (t.getD a []).length = t.length ∧ ∀ b, b < t.length → 0 ≤ ee t a b ∧ ee t a b < t.length) (fun k => t.length - k) (fun k => [(1, .box [.rds (II t)]), (3, .v (.int .i64 t.length)), (4, .v (.int .i64 k))]) (fun _ => []) 0 (by simp) SE trivial ?_
  rintro k ⟨hk, hrow⟩
  refine WW ?_
  refine ⟨fun h2 => ⟨⟨by omega, by omega⟩, fun h3 => ?_, fun h3 => ?_⟩, fun h2 => ?_⟩
  · exact (decide_eq_false fun h => h3 (by have := (h.2.2.1 k (by omega)).1; omega)).symm
  · refine Here.loopV T_ok (fun b => b ≤ t.length ∧ ∀ b', b' < b → 0 ≤ ee t k b' ∧ ee t k b' < t.length) (fun b => t.length - b) (fun b => [(1, .box [.rds (II t)]), (3, .v (.int .i64 t.length)), (4, .v (.int .i64 k)), (5, .v (.int .i64 b))]) (fun _ => []) 0 (by simp) SE trivial ?_
    rintro b ⟨hb, hbs⟩
    refine WW ?_
    refine ⟨fun h4 => ⟨⟨by omega, by omega⟩, ⟨by omega, by omega⟩, by unfold InR; omega, ?_⟩, fun h4 => ⟨by unfold InR; omega, k + 1, ⟨by omega, fun a h => ?_⟩, by omega, rfl⟩⟩
    · refine HereO.call T_ok rfl rfl (l01In_spec ((t.getD k []).getD b 0) 0 (t.length - 1)) (by simp only [go_sem, Nat.reduceMul, Nat.reduceLeDiff, Nat.reduceLT, reduceIte, reduceCtorEq, Nat.reduceEqDiff, Nat.reduceSub, Nat.reduceAdd, List.toList_toArray]) rfl ?_
      refine WW ?_
      refine ⟨fun h5 => (decide_eq_false fun h => h5 ?_).symm, fun h5 => ⟨by unfold InR; omega, b + 1, ⟨by omega, fun b' h => ?_⟩, by omega, rfl⟩⟩
      · have := (h.2.2.1 k (by omega)).2 b (by omega)
        unfold ee at this
        omega
      · by_cases e : b' = b
        · subst e; unfold ee; omega
        · exact hbs b' (by omega)
    · by_cases e : a = k
      · subst e; exact ⟨by omega, fun b h => hbs b (by omega)⟩
      · exact hrow a (by omega)
  · have hrow' : Shape t := fun a h => hrow a (by omega)
    have fin : ∀ {p : Prop} [Decidable p], ¬ p → False ∨ p → False := fun h1 h2 => h1 (h2.resolve_left id)
    refine Here.loopV T_ok (fun k => k ≤ t.length ∧ ∀ a, a < k → (ee t 0 a = a ∧ ee t a 0 = a) ∧ (∀ b, b < t.length → ∀ c, c < t.length → Assoc t a b c) ∧ ∃ b, b < t.length ∧ Inv2 t a b) (fun k => t.length - k) (fun k => [(1, .box [.rds (II t)]), (3, .v (.int .i64 t.length)), (6, .v (.int .i64 k))]) (fun _ => []) 0 (by simp) SE trivial ?_
    rintro a ⟨ha, hall⟩
    refine WW ?_
    refine ⟨fun h3 => ?_, fun h3 => (decide_eq_true ((Grp2_iff t).1 ⟨by omega, by omega, hrow', fun a' h => hall a' (by omega)⟩)).symm⟩
    have l0 := hrow' 0 (by omega)
    have la := hrow' a (by omega)
    refine ⟨⟨by omega, by omega⟩, ⟨by omega, by omega⟩, fun h4 => ⟨⟨by omega, by omega⟩, ⟨by omega, by omega⟩, fun h5 => ?_, fun h5 => ?_⟩, fun h4 => ?_⟩
    · exact (decide_eq_false fun h => h5 (h.2.2.2 a (by omega)).1.2.1).symm
    · refine Here.loopV T_ok (fun b => b ≤ t.length ∧ ∀ b', b' < b → ∀ c, c < t.length → Assoc t a b' c) (fun b => t.length - b) (fun b => [(1, .box [.rds (II t)]), (3, .v (.int .i64 t.length)), (6, .v (.int .i64 a)), (7, .v (.bool (decide (∃ b', b' < b ∧ Inv2 t a b')))), (8, .v (.int .i64 b))]) (fun _ => []) 0 (by simp) (by simp only [go_sem, Nat.reduceMul, Nat.reduceLeDiff, Nat.reduceLT, reduceIte, reduceCtorEq, Nat.reduceEqDiff, Nat.reduceSub, Nat.reduceAdd]; simp) trivial ?_
      rintro b ⟨hb, hbs⟩
      refine WW ?_
      refine ⟨fun h6 => ?_, fun h6 => ?_⟩
      · have lb := hrow' b (by omega)
        have hx : (∃ b', b' < b + 1 ∧ Inv2 t a b') ↔ (∃ b', b' < b ∧ Inv2 t a b') ∨ Inv2 t a b := by
          constructor
          · rintro ⟨b', h1, h2⟩
            by_cases e : b' = b
            · subst e; exact .inr h2
            · exact .inl ⟨b', by omega, h2⟩
          · rintro (⟨b', h1, h2⟩ | h)
            · exact ⟨b', by omega, h2⟩
            · exact ⟨b, by omega, h⟩
        have v1 : (¬ ∃ b', b' < b ∧ Inv2 t a b') → (t.getD a []).getD b 0 = 0 → ((t.getD b []).getD a 0 == 0) = decide (∃ b', b' < b + 1 ∧ Inv2 t a b') := fun h7 h8 => by
          rw [Bool.eq_iff_iff, beq_iff_eq, decide_eq_true_iff, hx]
          exact ⟨fun h => .inr ⟨h8, h⟩, fun h => (h.resolve_left h7).2⟩
        have v2 : (¬ ∃ b', b' < b ∧ Inv2 t a b') → ¬ (t.getD a []).getD b 0 = 0 → false = decide (∃ b', b' < b + 1 ∧ Inv2 t a b') := fun h7 h8 => (decide_eq_false fun h => h8 ((hx.1 h).resolve_left h7).1).symm
        have v3 : (∃ b', b' < b ∧ Inv2 t a b') → true = decide (∃ b', b' < b + 1 ∧ Inv2 t a b') := fun h7 => (decide_eq_true (hx.2 (.inl h7))).symm
        refine ⟨fun h7 => ⟨⟨by omega, by omega⟩, ⟨by omega, by omega⟩, fun h8 => ⟨⟨by omega, by omega⟩, ⟨by omega, by omega⟩, ?_⟩, fun h8 => ?_⟩, fun h7 => ?_⟩
        all_goals
          refine Here.loopV T_ok (fun c => c ≤ t.length ∧ ∀ c', c' < c → Assoc t a b c') (fun c => t.length - c) (fun c => [(1, .box [.rds (II t)]), (3, .v (.int .i64 t.length)), (6, .v (.int .i64 a)), (7, .v (.bool (decide (∃ b', b' < b + 1 ∧ Inv2 t a b')))), (8, .v (.int .i64 b)), (9, .v (.int .i64 c))]) (fun _ => []) 0 (by simp) (by simp only [go_sem, Nat.reduceMul, Nat.reduceLeDiff, Nat.reduceLT, reduceIte, reduceCtorEq, Nat.reduceEqDiff, Nat.reduceSub, Nat.reduceAdd]; refine ⟨?_, rfl⟩; first | exact v1 h7 h8 | exact v2 h7 h8 | exact v3 h7) trivial ?_
          rintro c ⟨hc, hcs⟩
          refine WW ?_
          refine ⟨fun h9 => ?_, fun h9 => ⟨by unfold InR; omega, b + 1, ⟨by omega, fun b' h => ?_⟩, by omega, by simp⟩⟩
          · refine Here.draw T_ok mixed_ok (by kernel_rfl) ?_
            refine WW ?_
            have e1 := la.2 b (by omega)
            have e2 := lb.2 c (by omega)
            have l3 := hrow' ((t.getD a []).getD b 0).toNat (by unfold ee at e1; omega)
            unfold ee at e1 e2
            refine ⟨⟨by omega, by omega⟩, ⟨by omega, by omega⟩, e1, ⟨by omega, by omega⟩, ⟨by omega, by omega⟩, ⟨by omega, by omega⟩, ⟨by omega, by omega⟩, ⟨by omega, by omega⟩, fun h10 => ?_, fun h10 => ⟨by unfold InR; omega, c + 1, ⟨by omega, fun c' h => ?_⟩, by omega, rfl⟩⟩
            · exact (decide_eq_false fun h => h10 ((h.2.2.2 a (by omega)).2 b (by omega) c (by omega))).symm
            · by_cases e : c' = c
              · subst e; exact h10
              · exact hcs c' (by omega)
          · by_cases e : b' = b
            · subst e; exact fun c' h => hcs c' (by omega)
            · exact hbs b' (by omega)
      · refine ⟨fun h7 => (decide_eq_false fun h => h7 ?_).symm, fun h7 => ⟨by unfold InR; omega, a + 1, ⟨by omega, fun a' h => ?_⟩, by omega, rfl⟩⟩
        · obtain ⟨b', h8, h9⟩ := h.left (a := a) (by omega)
          exact ⟨b', by omega, h9⟩
        · by_cases e : a' = a
          · subst e
            obtain ⟨b', h8, h9⟩ := h7
            exact ⟨⟨h4, h5⟩, fun b h => hbs b (by omega), b', by omega, h9⟩
          · exact hall a' (by omega)
    · exact (decide_eq_false fun h => h4 (h.2.2.2 a (by omega)).1.1).symm
end Go.Proofs.YtcjhojdlfnpgjaaGreat
namespace Go.Proofs.YtcjhojdlfnpgjaaGreat
open Go.RowKit
def szS (l : List Int) (left : Int) : Int := if left - l.length < 0 then -1 else left - l.length
def szR : List (List Int) → Int → Int
  | [], a => a
  | r :: t, a => if szS r a < 0 then -1 else szR t (szS r a)
def szSS (t : List (List Int)) (left : Int) : Int := if left - t.length < 0 then -1 else szR t (left - t.length)
theorem getD_eq {α : Type} {d : α} {l m : List α} (hlen : l.length = m.length) (h : ∀ j, j < l.length → l.getD j d = m.getD j d) : l = m := by
  refine List.ext_getElem hlen fun j h1 h2 => ?_
  have := h j h1
  simpa [List.getD_eq_getElem?_getD, List.getElem?_eq_getElem h1, List.getElem?_eq_getElem h2] using this
end Go.Proofs.YtcjhojdlfnpgjaaGreat
namespace Go.Proofs.YtcjhojdlfnpgjaaGreat
open Go.RowKit
def codeG (t : List (List Int)) : Int := if Grp t then 0 else 1
def codeE (t : List (List Int)) (l : List Int) : Int := if Grp t then (if AreIn t.length l then 0 else 2) else 1
theorem codeE_ok {t : List (List Int)} {l : List Int} (h : codeE t l = 0) : Grp t ∧ AreIn t.length l := by
  unfold codeE at h
  split at h
  · split at h
    · exact ⟨by assumption, by assumption⟩
    · omega
  · omega
theorem l01N_spec (t : List (List Int)) : Spec Tryz.prog 60 [.agg [.rds (II t)]] (.v (.int .i64 t.length)) [] := by
  refine Spec.of_code T_ok Tryz.func60 rfl Tryz.ntmps60 Tryz.call60 (Nat.le_of_ble_eq_true rfl) rfl rfl (CodeV_sound T_ok (by kernel_rfl) rfl ?_)
  exact WW trivial
theorem l01Elements_spec (t : List (List Int)) (l : List Int) (hl : l.length ≤ 1048576) : Spec Tryz.prog 77 [.agg [.rds (II t)], .rd (I l)] (.v (.int .i64 (codeE t l))) [] := by
  refine Spec.of_code T_ok Tryz.func77 rfl Tryz.ntmps77 Tryz.call77 (Nat.le_of_ble_eq_true rfl) rfl rfl (CodeV_sound T_ok (by kernel_rfl) rfl ?_)
  refine WW ?_
  refine HereO.call T_ok rfl rfl (l01Is_spec t) SA rfl ?_
  refine WW ?_
  refine ⟨fun h => by unfold codeE; rw [if_neg h], fun h => ?_⟩
  have h8 := h.2.1
  refine Here.loopV T_ok (fun k => k ≤ l.length ∧ ∀ j, j < k → 0 ≤ l.getD j 0 ∧ l.getD j 0 < t.length) (fun k => l.length - k) (fun k => [(1, .rd (I l)), (2, .box [.rds (II t)]), (5, .v (.int .i64 k))]) (fun _ => []) 0 (by simp) SE trivial ?_
  rintro k ⟨hk, hj⟩
  refine WW ?_
  refine ⟨fun h2 => ?_, fun h2 => by unfold codeE; rw [if_pos h, if_pos (show AreIn t.length l from fun j h => hj j (by omega))]⟩
  refine Here.draw T_ok mixed_ok (by kernel_rfl) ?_
  refine WW ?_
  refine ⟨by omega, _, OpP.call' rfl rfl (l01N_spec t) SA rfl, ?_⟩
  refine WW ?_
  refine ⟨by unfold InR; omega, _, OpP.call' rfl rfl (l01In_spec (l.getD k 0) 0 (t.length - 1)) SA rfl, ?_⟩
  refine WW ?_
  refine ⟨fun h3 => ?_, fun h3 => ⟨by unfold InR; omega, k + 1, ⟨by omega, fun j h => ?_⟩, by omega, rfl⟩⟩
  · unfold codeE
    rw [if_pos h, if_neg fun hA => h3 (by have := hA k (by omega); omega)]
  · by_cases e : j = k
    · subst e; omega
    · exact hj j (by omega)
def tm (t : List (List Int)) (l : List Int) : Int := l.foldl (fun a x => ee t a.toNat x.toNat) 0
theorem tm_step {t : List (List Int)} {l : List Int} {k : Nat} (hk : k < l.length) : tm t (l.take (k + 1)) = ee t (tm t (l.take k)).toNat (l.getD k 0).toNat := by
  unfold tm
  rw [List.take_succ_eq_append_getElem hk, List.foldl_append]
  simp [List.getElem?_eq_getElem hk]
theorem tm_in {t : List (List Int)} {l : List Int} (hg : Grp t) (hl : AreIn t.length l) : ∀ k, k ≤ l.length → 0 ≤ tm t (l.take k) ∧ tm t (l.take k) < t.length := by
  intro k
  induction k with
  | zero => intro _; have := hg.1; simp [tm]; omega
  | succ k ih =>
    intro h
    have h1 := ih (by omega)
    have h2 := hl k (by omega)
    rw [tm_step (by omega)]
    exact (hg.2.2.1 _ (by omega)).2 _ (by omega)
theorem times_spec (t : List (List Int)) (l : List Int) (hg : Grp t) (hl : AreIn t.length l) (h1 : l.length ≤ 1048576) : Spec Tryz.prog 44 [.agg [.rds (II t)], .rd (I l)] (.v (.int .i64 (tm t l))) [] := by
  refine Spec.of_code T_ok Tryz.func44 rfl Tryz.ntmps44 Tryz.call44 (Nat.le_of_ble_eq_true rfl) rfl rfl (CodeV_sound T_ok (by kernel_rfl) rfl ?_)
  refine WW ?_
  refine Here.loopV T_ok (fun k => k ≤ l.length) (fun k => l.length - k) (fun k => [(2, .box [.rds (II t)]), (5, .v (.int .i64 (tm t (l.take k)))), (8, .rd (I l)), (9, .v (.int .i64 l.length)), (10, .v (.int .i64 k))]) (fun _ => []) 0 (by simp) (by simp only [go_sem, Nat.reduceMul, Nat.reduceLeDiff, Nat.reduceLT, reduceIte, reduceCtorEq, Nat.reduceEqDiff, Nat.reduceSub, Nat.reduceAdd]; simp [tm]) trivial ?_
  intro k hk
  refine WW ?_
  have h2 := tm_in hg hl k hk
  refine ⟨fun h3 => ⟨by omega, h2, ?_, by unfold InR; omega, k + 1, by omega, by omega, ?_, by simp⟩, fun h3 => by rw [List.take_of_length_le (by omega)]⟩
  · have h4 := hl k (by omega)
    have h5 := (hg.2.2.1 _ (show (tm t (l.take k)).toNat < t.length by omega)).1
    omega
  · exact (tm_step (by omega)).symm
theorem tm_two {t : List (List Int)} (hg : Grp t) {a b : Int} (ha : 0 ≤ a ∧ a < t.length) : tm t [a, b] = ee t a.toNat b.toNat := by
  have := (hg.2.2.2 a.toNat (by omega)).1.1
  simp only [tm, List.foldl_cons, List.foldl_nil, Int.toNat_zero]
  rw [this]
  rfl
end Go.Proofs.YtcjhojdlfnpgjaaGreat
