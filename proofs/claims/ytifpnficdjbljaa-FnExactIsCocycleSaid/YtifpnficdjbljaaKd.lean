/- Contracts: cochains that functions tell; ProductOfCochains. -/
import Derived.Test.YtifpnficdjbljaaKc
namespace Go.Proofs.Ytifpnficdjbljaa
open Go.RowKit
set_option linter.unusedVariables false
set_option linter.unusedSimpArgs false
set_option maxRecDepth 100000

theorem I_take (l : List Int) (k : Nat) : (I l).take k = I (l.take k) := by simp [I, List.map_take]
theorem I_drop (l : List Int) (k : Nat) : (I l).drop k = I (l.drop k) := by simp [I, List.map_drop]
section
variable {P : Program} {T : TT}
theorem OpP.takeI (hT : T.Ok P) {o : Oper} {ρ : Operand → LV} {σ : Nat → Option OC} {t e : Nat} {z : Value} {bts : Nat} {x y : Operand} {l : List Int} (d : Nat) (ho : o.op = .slice t x none (some y) none) (ht : T.el t = some (e, z, bts)) (hx : ρ x = .rd (I l))
    (hy : ∃ k, ρ y = .v (.int k d)) (h : d ≤ l.length) : OpP P o ρ σ (.rd (I (l.take d))) := by
  have := OpP.slice hT (σ := σ) 0 d ho ht hx rfl hy (Nat.zero_le _) (by rw [I_len]; exact h)
  rwa [List.drop_zero, I_take] at this
theorem OpP.dropI (hT : T.Ok P) {o : Oper} {ρ : Operand → LV} {σ : Nat → Option OC} {t e : Nat} {z : Value} {bts : Nat} {x y : Operand} {l : List Int} (d : Nat) (ho : o.op = .slice t x (some y) none none) (ht : T.el t = some (e, z, bts)) (hx : ρ x = .rd (I l))
    (hy : ∃ k, ρ y = .v (.int k d)) (h : d ≤ l.length) : OpP P o ρ σ (.rd (I (l.drop d))) := by
  have := OpP.slice hT (σ := σ) d (I l).length ho ht hx hy rfl (by rw [I_len]; exact h) (Nat.le_refl _)
  rwa [List.take_length, I_drop] at this
end
theorem power4_spec (b n : Nat) (hb : b ≤ 7) (hn : n ≤ 4) : Spec Try.prog 103 [.v (.int .i64 b), .v (.int .i64 n)] (.v (.int .i64 ((b ^ n : Nat) : Int))) [] := by
  refine Spec.of_code T_ok Try.func103 rfl Try.ntmps103 Try.call103 (Nat.le_of_ble_eq_true rfl) rfl rfl (CodeV_sound T_ok (by kernel_rfl) rfl ?_)
  simp only [Try.results103, go_sem, Nat.reduceMul, Nat.reduceLeDiff, Nat.reduceLT, reduceIte, reduceCtorEq, Nat.reduceEqDiff, Nat.reduceSub, Nat.reduceAdd]
  refine Here.loopV T_ok (fun k => k ≤ n) (fun k => n - k) (fun k => [(0, .v (.int .i64 b)), (5, .v (.int .i64 ((b ^ k : Nat) : Int))), (6, .v (.int .i64 n)), (7, .v (.int .i64 k))]) (fun _ => []) 0 (by simp) (by simp only [Try.results103, go_sem, Nat.reduceMul, Nat.reduceLeDiff, Nat.reduceLT, reduceIte, reduceCtorEq, Nat.reduceEqDiff, Nat.reduceSub, Nat.reduceAdd]; simp) trivial ?_
  intro k hk
  simp only [Try.results103, go_sem, Nat.reduceMul, Nat.reduceLeDiff, Nat.reduceLT, reduceIte, reduceCtorEq, Nat.reduceEqDiff, Nat.reduceSub, Nat.reduceAdd]
  refine ⟨fun h => ?_, fun h => by rw [show n = k by omega]⟩
  have hp := pow7 hb (j := k + 1) (by omega)
  have e : ((b ^ k : Nat) : Int) * (b : Int) = ((b ^ (k + 1) : Nat) : Int) := by rw [Nat.pow_succ]; push_cast; rfl
  rw [e]
  exact ⟨by unfold InR; omega, by unfold InR; omega, k + 1, by omega, by omega, rfl, rfl⟩
theorem cells4_spec (t : List (List Int)) (hg : Grp t) (n : Nat) (hn : n ≤ 4) : Spec Try.prog 90 [.agg [.rds (II t)], .v (.int .i64 n)] (.v (.int .i64 (((t.length - 1) ^ n : Nat) : Int))) [] := by
  have h1 := hg.1
  have h8 := hg.2.1
  refine Spec.of_code T_ok Try.func90 rfl Try.ntmps90 Try.call90 (Nat.le_of_ble_eq_true rfl) rfl rfl (CodeV_sound T_ok (by kernel_rfl) rfl ?_)
  simp only [Try.results90, go_sem, Nat.reduceMul, Nat.reduceLeDiff, Nat.reduceLT, reduceIte, reduceCtorEq, Nat.reduceEqDiff, Nat.reduceSub, Nat.reduceAdd]
  refine HereO.call T_ok rfl rfl (order_spec t) (by simp only [go_sem, Nat.reduceMul, Nat.reduceLeDiff, Nat.reduceLT, reduceIte, reduceCtorEq, Nat.reduceEqDiff, Nat.reduceSub, Nat.reduceAdd, List.toList_toArray]) rfl ?_
  simp only [Try.results90, go_sem, Nat.reduceMul, Nat.reduceLeDiff, Nat.reduceLT, reduceIte, reduceCtorEq, Nat.reduceEqDiff, Nat.reduceSub, Nat.reduceAdd]
  rw [show (t.length : Int) - 1 = ((t.length - 1 : Nat) : Int) by omega]
  refine ⟨by unfold InR; omega, ?_⟩
  refine HereO.call T_ok rfl rfl (power4_spec (t.length - 1) n (by omega) hn) (by simp only [go_sem, Nat.reduceMul, Nat.reduceLeDiff, Nat.reduceLT, reduceIte, reduceCtorEq, Nat.reduceEqDiff, Nat.reduceSub, Nat.reduceAdd, List.toList_toArray]) rfl ?_
  simp only [Try.results90, go_sem, Nat.reduceMul, Nat.reduceLeDiff, Nat.reduceLT, reduceIte, reduceCtorEq, Nat.reduceEqDiff, Nat.reduceSub, Nat.reduceAdd]
theorem l03Cells4_spec (t : List (List Int)) (hg : Grp t) (n : Nat) (hn : n ≤ 4) : Spec Try.prog 88 [.agg [.rds (II t)], .v (.int .i64 n)] (.v (.int .i64 (((t.length - 1) ^ n : Nat) : Int))) [] := by
  have h1 := hg.1
  have h8 := hg.2.1
  refine Spec.of_code T_ok Try.func88 rfl Try.ntmps88 Try.call88 (Nat.le_of_ble_eq_true rfl) rfl rfl (CodeV_sound T_ok (by kernel_rfl) rfl ?_)
  simp only [Try.results88, go_sem, Nat.reduceMul, Nat.reduceLeDiff, Nat.reduceLT, reduceIte, reduceCtorEq, Nat.reduceEqDiff, Nat.reduceSub, Nat.reduceAdd]
  refine Here.loopV T_ok (fun k => k ≤ n) (fun k => n - k) (fun k => [(1, .v (.int .i64 ((n - k : Nat) : Int))), (2, .box [.rds (II t)]), (5, .v (.int .i64 (((t.length - 1) ^ k : Nat) : Int)))]) (fun _ => []) 0 (by simp) (by simp only [Try.results88, go_sem, Nat.reduceMul, Nat.reduceLeDiff, Nat.reduceLT, reduceIte, reduceCtorEq, Nat.reduceEqDiff, Nat.reduceSub, Nat.reduceAdd]; simp) trivial ?_
  intro k hk
  simp only [Try.results88, go_sem, Nat.reduceMul, Nat.reduceLeDiff, Nat.reduceLT, reduceIte, reduceCtorEq, Nat.reduceEqDiff, Nat.reduceSub, Nat.reduceAdd]
  refine ⟨fun h => ?_, fun h => by rw [show n = k by omega]⟩
  refine HereO.call T_ok rfl rfl (l01N_spec t) (by simp only [go_sem, Nat.reduceMul, Nat.reduceLeDiff, Nat.reduceLT, reduceIte, reduceCtorEq, Nat.reduceEqDiff, Nat.reduceSub, Nat.reduceAdd, List.toList_toArray]) rfl ?_
  simp only [Try.results88, go_sem, Nat.reduceMul, Nat.reduceLeDiff, Nat.reduceLT, reduceIte, reduceCtorEq, Nat.reduceEqDiff, Nat.reduceSub, Nat.reduceAdd]
  have hp := pow7 (b := t.length - 1) (by omega) (j := k + 1) (by omega)
  have e1 : (t.length : Int) - 1 = ((t.length - 1 : Nat) : Int) := by omega
  rw [e1]
  have e : (((t.length - 1) ^ k : Nat) : Int) * ((t.length - 1 : Nat) : Int) = (((t.length - 1) ^ (k + 1) : Nat) : Int) := by rw [Nat.pow_succ]; push_cast; rfl
  rw [e]
  exact ⟨by unfold InR; omega, by unfold InR; omega, by unfold InR; omega, k + 1, by omega, by omega, by omega, rfl⟩
theorem zero4_spec (t : List (List Int)) (hg : Grp t) (n : Nat) (hn : n ≤ 4) : Spec Try.prog 62 [.agg [.rds (II t)], .v (.int .i64 n)] (.agg [.v (.int .i64 n), .own 0]) [.row 2 (I (List.replicate ((t.length - 1) ^ n) 0))] := by
  have h8 := hg.2.1
  have hp := pow7 (b := t.length - 1) (by omega) hn
  refine Spec.of_code T_ok Try.func62 rfl Try.ntmps62 Try.call62 (Nat.le_of_ble_eq_true rfl) rfl rfl (CodeV_sound T_ok (by kernel_rfl) rfl ?_)
  simp only [Try.results62, go_sem, Nat.reduceMul, Nat.reduceLeDiff, Nat.reduceLT, reduceIte, reduceCtorEq, Nat.reduceEqDiff, Nat.reduceSub, Nat.reduceAdd]
  refine HereO.alloc T_ok 104 rfl rfl (by decide) ?_
  simp only [Try.results62, go_sem, Nat.reduceMul, Nat.reduceLeDiff, Nat.reduceLT, reduceIte, reduceCtorEq, Nat.reduceEqDiff, Nat.reduceSub, Nat.reduceAdd]
  refine HereO.call T_ok rfl rfl (cells4_spec t hg n hn) (by simp only [go_sem, Nat.reduceMul, Nat.reduceLeDiff, Nat.reduceLT, reduceIte, reduceCtorEq, Nat.reduceEqDiff, Nat.reduceSub, Nat.reduceAdd, List.toList_toArray]) rfl ?_
  simp only [Try.results62, go_sem, Nat.reduceMul, Nat.reduceLeDiff, Nat.reduceLT, reduceIte, reduceCtorEq, Nat.reduceEqDiff, Nat.reduceSub, Nat.reduceAdd]
  refine HereO.makeSlice T_ok (kk := .i64) (m := (((t.length - 1) ^ n : Nat) : Int)) 130 rfl rfl (by simp only [go_sem, Nat.reduceMul, Nat.reduceLeDiff, Nat.reduceLT, reduceIte, reduceCtorEq, Nat.reduceEqDiff, Nat.reduceSub, Nat.reduceAdd] <;> rfl) (by omega) (by omega) (by decide) (by decide) ?_
  simp only [Try.results62, go_sem, Nat.reduceMul, Nat.reduceLeDiff, Nat.reduceLT, reduceIte, reduceCtorEq, Nat.reduceEqDiff, Nat.reduceSub, Nat.reduceAdd]
  refine HereO.opP T_ok (OpP.build built_44 rfl rfl rfl rfl) ?_
  simp only [Try.results62, go_sem, Nat.reduceMul, Nat.reduceLeDiff, Nat.reduceLT, reduceIte, reduceCtorEq, Nat.reduceEqDiff, Nat.reduceSub, Nat.reduceAdd]
  refine HereO.storeAgg T_ok rfl (by simp only [go_sem, Nat.reduceMul, Nat.reduceLeDiff, Nat.reduceLT, reduceIte, reduceCtorEq, Nat.reduceEqDiff, Nat.reduceSub, Nat.reduceAdd] <;> rfl) (by simp only [go_sem, Nat.reduceMul, Nat.reduceLeDiff, Nat.reduceLT, reduceIte, reduceCtorEq, Nat.reduceEqDiff, Nat.reduceSub, Nat.reduceAdd] <;> rfl) rfl (by simp only [go_sem, Nat.reduceMul, Nat.reduceLeDiff, Nat.reduceLT, reduceIte, reduceCtorEq, Nat.reduceEqDiff, Nat.reduceSub, Nat.reduceAdd] <;> rfl) (by first | rfl | (simp only [go_sem, Nat.reduceMul, Nat.reduceLeDiff, Nat.reduceLT, reduceIte, reduceCtorEq, Nat.reduceEqDiff, Nat.reduceSub, Nat.reduceAdd] <;> rfl)) rfl rfl ?_
  simp only [Try.results62, go_sem, Nat.reduceMul, Nat.reduceLeDiff, Nat.reduceLT, reduceIte, reduceCtorEq, Nat.reduceEqDiff, Nat.reduceSub, Nat.reduceAdd]
  refine RetT.one 130 (by simp only [Try.results62, go_sem, Nat.reduceMul, Nat.reduceLeDiff, Nat.reduceLT, reduceIte, reduceCtorEq, Nat.reduceEqDiff, Nat.reduceSub, Nat.reduceAdd]; rfl) rfl ?_
  simp only [Try.results62, go_sem, Nat.reduceMul, Nat.reduceLeDiff, Nat.reduceLT, reduceIte, reduceCtorEq, Nat.reduceEqDiff, Nat.reduceSub, Nat.reduceAdd]
  simp [I]
theorem upd0_step (F : Nat → Int) (N i : Nat) (h : i < N) : (upTo F i ++ List.replicate (N - i) 0).set i (F i) = upTo F (i + 1) ++ List.replicate (N - (i + 1)) 0 := by
  rw [List.set_append_right _ _ (by rw [upTo_len]; omega), upTo_len, Nat.sub_self, show N - i = (N - (i + 1)) + 1 by omega, List.replicate_succ, List.set_cons_zero, upTo_succ, List.append_assoc]
  rfl
theorem upd0_len (F : Nat → Int) (N i : Nat) (h : i ≤ N) : (upTo F i ++ List.replicate (N - i) (0 : Int)).length = N := by
  rw [List.length_append, upTo_len, List.length_replicate]; omega
theorem told_spec (t : List (List Int)) (hg : Grp t) (m : Int) (hm : 2 ≤ m ∧ m ≤ 12) (n : Nat) (hn : n ≤ 4) (g : Nat) (caps : List LV) (hc : Fix caps) (F : Nat → Int)
    (hp : ∀ i, i < (t.length - 1) ^ n → Spec Try.prog g (.rd (I (lst (t.length - 1) n i)) :: caps) (.v (.int .i64 (F i))) []) (hb : ∀ i, i < (t.length - 1) ^ n → -1000000 ≤ F i ∧ F i ≤ 1000000) :
    Spec Try.prog 79 [.agg [.rds (II t)], .v (.int .i64 m), .v (.int .i64 n), .fn g caps] (.agg [.v (.int .i64 n), .own 0]) [.row 2 (I (upTo (fun i => F i % m) ((t.length - 1) ^ n)))] := by
  have h1 := hg.1
  have h8 := hg.2.1
  have hN := pow7 (b := t.length - 1) (by omega) hn
  have hpos : ∀ i, i < (t.length - 1) ^ n → 0 < n → 2 ≤ t.length := fun i hi h0 => by
    apply Classical.byContradiction
    intro q
    rw [show t.length - 1 = 0 by omega, Nat.zero_pow h0] at hi
    omega
  generalize hNe : (t.length - 1) ^ n = N at *
  refine Spec.of_code T_ok Try.func79 rfl Try.ntmps79 Try.call79 (Nat.le_of_ble_eq_true rfl) rfl rfl (CodeV_sound T_ok (by kernel_rfl) rfl ?_)
  simp only [Try.results79, go_sem, Nat.reduceMul, Nat.reduceLeDiff, Nat.reduceLT, reduceIte, reduceCtorEq, Nat.reduceEqDiff, Nat.reduceSub, Nat.reduceAdd]
  refine HereO.alloc T_ok 108 rfl rfl (by decide) ?_
  simp only [Try.results79, go_sem, Nat.reduceMul, Nat.reduceLeDiff, Nat.reduceLT, reduceIte, reduceCtorEq, Nat.reduceEqDiff, Nat.reduceSub, Nat.reduceAdd]
  have hz := zero4_spec t hg n hn
  rw [hNe] at hz
  refine HereO.callOwn T_ok 13 rfl rfl (hz) (by simp only [go_sem, Nat.reduceMul, Nat.reduceLeDiff, Nat.reduceLT, reduceIte, reduceCtorEq, Nat.reduceEqDiff, Nat.reduceSub, Nat.reduceAdd, List.toList_toArray]) rfl (by simp) rfl ?_
  simp only [Try.results79, go_sem, Nat.reduceMul, Nat.reduceLeDiff, Nat.reduceLT, reduceIte, reduceCtorEq, Nat.reduceEqDiff, Nat.reduceSub, Nat.reduceAdd]
  refine HereO.alloc T_ok 109 rfl rfl (by decide) ?_
  simp only [Try.results79, go_sem, Nat.reduceMul, Nat.reduceLeDiff, Nat.reduceLT, reduceIte, reduceCtorEq, Nat.reduceEqDiff, Nat.reduceSub, Nat.reduceAdd]
  refine HereO.storeAgg T_ok rfl (by simp only [go_sem, Nat.reduceMul, Nat.reduceLeDiff, Nat.reduceLT, reduceIte, reduceCtorEq, Nat.reduceEqDiff, Nat.reduceSub, Nat.reduceAdd] <;> rfl) (by simp only [go_sem, Nat.reduceMul, Nat.reduceLeDiff, Nat.reduceLT, reduceIte, reduceCtorEq, Nat.reduceEqDiff, Nat.reduceSub, Nat.reduceAdd] <;> rfl) rfl (by simp only [go_sem, Nat.reduceMul, Nat.reduceLeDiff, Nat.reduceLT, reduceIte, reduceCtorEq, Nat.reduceEqDiff, Nat.reduceSub, Nat.reduceAdd] <;> rfl) (by first | rfl | (simp only [go_sem, Nat.reduceMul, Nat.reduceLeDiff, Nat.reduceLT, reduceIte, reduceCtorEq, Nat.reduceEqDiff, Nat.reduceSub, Nat.reduceAdd] <;> rfl)) rfl rfl ?_
  simp only [Try.results79, go_sem, Nat.reduceMul, Nat.reduceLeDiff, Nat.reduceLT, reduceIte, reduceCtorEq, Nat.reduceEqDiff, Nat.reduceSub, Nat.reduceAdd]
  refine Here.loopV T_ok (fun i => i ≤ N) (fun i => N - i) (fun i => [(1, .v (.int .i64 m)), (2, .v (.int .i64 n)), (3, .fn g caps), (4, .box [.rds (II t)]), (8, .ptr 108 0), (9, .ptr 109 0), (16, .v (.int .i64 N)), (17, .v (.int .i64 i))]) (fun i => [(108, .cells 44 [.v (.int .i64 0), .v nilV]), (109, .cells 44 [.v (.int .i64 n), .own 1208]), (1208, .row 2 (I (upTo (fun i => F i % m) i ++ List.replicate (N - i) 0)))]) 0 (by simp) (by simp only [Try.results79, go_sem, Nat.reduceMul, Nat.reduceLeDiff, Nat.reduceLT, reduceIte, reduceCtorEq, Nat.reduceEqDiff, Nat.reduceSub, Nat.reduceAdd]; simp [hc.k]) (by simp only [Try.results79, go_sem, Nat.reduceMul, Nat.reduceLeDiff, Nat.reduceLT, reduceIte, reduceCtorEq, Nat.reduceEqDiff, Nat.reduceSub, Nat.reduceAdd]; simp [upTo, nilV]) ?_
  intro i hi
  simp only [Try.results79, go_sem, Nat.reduceMul, Nat.reduceLeDiff, Nat.reduceLT, reduceIte, reduceCtorEq, Nat.reduceEqDiff, Nat.reduceSub, Nat.reduceAdd]
  refine ⟨fun h2 => ?_, fun h2 => ?_⟩
  · have hiN : i < N := by omega
    have h3 := hb i hiN
    obtain ⟨h6, h7, h9⟩ := mod_nn (F i) m (by omega)
    refine Here.drawS T_ok 15 (Nat.le_of_ble_eq_true rfl) mixed_ok (by kernel_rfl) (by kernel_rfl) ?_
    simp only [Try.results79, go_sem, Nat.reduceMul, Nat.reduceLeDiff, Nat.reduceLT, reduceIte, reduceCtorEq, Nat.reduceEqDiff, Nat.reduceSub, Nat.reduceAdd]
    refine ⟨_, OpP.call' rfl rfl (listOf_spec t h1 h8 n i (by omega) (hpos i hiN) (by omega)) (by simp only [go_sem, Nat.reduceMul, Nat.reduceLeDiff, Nat.reduceLT, reduceIte, reduceCtorEq, Nat.reduceEqDiff, Nat.reduceSub, Nat.reduceAdd, List.toList_toArray]) rfl, ?_⟩
    simp only [Try.results79, go_sem, Nat.reduceMul, Nat.reduceLeDiff, Nat.reduceLT, reduceIte, reduceCtorEq, Nat.reduceEqDiff, Nat.reduceSub, Nat.reduceAdd]
    refine ⟨_, OpP.call' rfl rfl (hp i hiN) (by simp only [go_sem, Nat.reduceMul, Nat.reduceLeDiff, Nat.reduceLT, reduceIte, reduceCtorEq, Nat.reduceEqDiff, Nat.reduceSub, Nat.reduceAdd, List.toList_toArray, hc.b]) rfl, ?_⟩
    simp only [Try.results79, go_sem, Nat.reduceMul, Nat.reduceLeDiff, Nat.reduceLT, reduceIte, reduceCtorEq, Nat.reduceEqDiff, Nat.reduceSub, Nat.reduceAdd]
    refine ⟨by omega, by unfold InR; omega, by omega, ?_⟩
    have hln := upd0_len (fun i => F i % m) N i hi
    refine ⟨by rw [hln]; omega, ?_⟩
    rw [h6]
    refine HereO.storeRow T_ok (vs := I (upTo (fun i => F i % m) i ++ List.replicate (N - i) 0)) (u := .int .i64 (F i % m)) rfl (by simp only [go_sem, Nat.reduceMul, Nat.reduceLeDiff, Nat.reduceLT, reduceIte, reduceCtorEq, Nat.reduceEqDiff, Nat.reduceSub, Nat.reduceAdd] <;> rfl) (by simp only [go_sem, Nat.reduceMul, Nat.reduceLeDiff, Nat.reduceLT, reduceIte, reduceCtorEq, Nat.reduceEqDiff, Nat.reduceSub, Nat.reduceAdd] <;> rfl) rfl (by simp only [go_sem, Nat.reduceMul, Nat.reduceLeDiff, Nat.reduceLT, reduceIte, reduceCtorEq, Nat.reduceEqDiff, Nat.reduceSub, Nat.reduceAdd] <;> rfl) rfl (by rw [I_len, hln]; omega) ?_
    simp only [Try.results79, go_sem, Nat.reduceMul, Nat.reduceLeDiff, Nat.reduceLT, reduceIte, reduceCtorEq, Nat.reduceEqDiff, Nat.reduceSub, Nat.reduceAdd]
    rw [I_set, upd0_step (fun i => F i % m) N i (by omega)]
    exact ⟨by unfold InR; omega, i + 1, by omega, by omega, by simp [hc.k], by simp⟩
  · have : i = N := by omega
    subst this
    refine HereO.storeAgg T_ok rfl (by simp only [go_sem, Nat.reduceMul, Nat.reduceLeDiff, Nat.reduceLT, reduceIte, reduceCtorEq, Nat.reduceEqDiff, Nat.reduceSub, Nat.reduceAdd] <;> rfl) (by simp only [go_sem, Nat.reduceMul, Nat.reduceLeDiff, Nat.reduceLT, reduceIte, reduceCtorEq, Nat.reduceEqDiff, Nat.reduceSub, Nat.reduceAdd] <;> rfl) rfl (by simp only [go_sem, Nat.reduceMul, Nat.reduceLeDiff, Nat.reduceLT, reduceIte, reduceCtorEq, Nat.reduceEqDiff, Nat.reduceSub, Nat.reduceAdd] <;> rfl) (by first | rfl | (simp only [go_sem, Nat.reduceMul, Nat.reduceLeDiff, Nat.reduceLT, reduceIte, reduceCtorEq, Nat.reduceEqDiff, Nat.reduceSub, Nat.reduceAdd] <;> rfl)) rfl rfl ?_
    simp only [Try.results79, go_sem, Nat.reduceMul, Nat.reduceLeDiff, Nat.reduceLT, reduceIte, reduceCtorEq, Nat.reduceEqDiff, Nat.reduceSub, Nat.reduceAdd]
    rw [Nat.sub_self, List.replicate_zero, List.append_nil]
    refine RetT.one 1208 (by simp only [Try.results79, go_sem, Nat.reduceMul, Nat.reduceLeDiff, Nat.reduceLT, reduceIte, reduceCtorEq, Nat.reduceEqDiff, Nat.reduceSub, Nat.reduceAdd]; rfl) rfl ?_
    simp only [Try.results79, go_sem, Nat.reduceMul, Nat.reduceLeDiff, Nat.reduceLT, reduceIte, reduceCtorEq, Nat.reduceEqDiff, Nat.reduceSub, Nat.reduceAdd]
theorem atV_in {b : Nat} {m : Int} {v l : List Int} (hm : 1 ≤ m) (h : AreIn m v) : 0 ≤ atV b v l ∧ atV b v l < m := by
  unfold atV
  split
  · by_cases hk : cellN b l 0 < v.length
    · exact h _ hk
    · rw [List.getD_eq_getElem?_getD, List.getElem?_eq_none (by omega), Option.getD_none]; omega
  · omega
theorem lst_in {n : Nat} (h1 : 1 ≤ n) : ∀ (k i : Nat), (0 < k → 2 ≤ n) → AreIn n (lst (n - 1) k i)
  | 0, _, _ => fun j hj => by simp [lst] at hj
  | k + 1, i, h => by
    have ih := lst_in h1 k (i / (n - 1)) (fun _ => h (by omega))
    have hlen := lst_len (n - 1) k (i / (n - 1))
    have h2 := h (by omega)
    have hmod : i % (n - 1) < n - 1 := Nat.mod_lt _ (by omega)
    intro j hj
    rw [lst, List.length_append, List.length_singleton] at hj
    rw [lst]
    by_cases q : j < k
    · have := ih j (by omega)
      rwa [List.getD_eq_getElem?_getD, List.getElem?_append_left (by omega), ← List.getD_eq_getElem?_getD]
    · have : j = k := by omega
      subst this
      rw [List.getD_eq_getElem?_getD, List.getElem?_append_right (by omega), hlen, Nat.sub_self]
      simp
      omega
theorem take_in {n : Int} {l : List Int} (h : AreIn n l) (k : Nat) : AreIn n (l.take k) := by
  intro j hj
  simp only [List.length_take] at hj
  have := h j (by omega)
  rwa [List.getD_eq_getElem?_getD, List.getElem?_take_of_lt (by omega), ← List.getD_eq_getElem?_getD]
theorem drop_in {n : Int} {l : List Int} (h : AreIn n l) (k : Nat) : AreIn n (l.drop k) := by
  intro j hj
  simp only [List.length_drop] at hj
  have := h (k + j) (by omega)
  rwa [List.getD_eq_getElem?_getD, List.getElem?_drop, ← List.getD_eq_getElem?_getD]
def qF (t : List (List Int)) (d : Nat) (v k w l : List Int) : Int := atV (t.length - 1) v (l.take d) * k.getD (tm t (l.take d)).toNat 0 * atV (t.length - 1) w (l.drop d)
theorem mul3_le {a b c : Int} (ha : 0 ≤ a ∧ a ≤ 12) (hb : 0 ≤ b ∧ b ≤ 12) (hc : 0 ≤ c ∧ c ≤ 12) : (0 ≤ a * b ∧ a * b ≤ 144) ∧ 0 ≤ a * b * c ∧ a * b * c ≤ 1728 := by
  have h1 : 0 ≤ a * b ∧ a * b ≤ 12 * 12 := ⟨Int.mul_nonneg ha.1 hb.1, Int.mul_le_mul ha.2 hb.2 hb.1 (by omega)⟩
  exact ⟨h1, Int.mul_nonneg h1.1 hc.1, Int.le_trans (Int.mul_le_mul h1.2 hc.2 hc.1 (by omega)) (by omega)⟩
end Go.Proofs.Ytifpnficdjbljaa
