/- Contracts: the reference's search for modules. -/
import Derived.Test.YtcjhojdlfnpgjaaGreatDoorNa
import Derived.Test.YtcjhojdlfnpgjaaGreatDoorWc
namespace Go.Proofs.YtcjhojdlfnpgjaaGreatDoor
open Go.RowKit
set_option linter.unusedVariables false
set_option linter.unusedSimpArgs false
set_option maxRecDepth 100000

theorem sl2m_ok : Sl2m Tryz.prog 29 35 := ⟨Tryz.underlying29, Tryz.t35, .agg #[.int .i64 0, .slice none 0 0], by kernel_rfl, by kernel_rfl, by kernel_rfl, by kernel_rfl, by decide⟩
theorem l01OwnM_spec (l : List Int) (hl : l.length ≤ 1099511627776) : Spec Tryz.prog 71 [.rd (I l)] (.own 0) [.row 2 (I l)] := by
  refine Spec.of_codeC T_ok Tryz.func71 rfl Tryz.ntmps71 Tryz.call71 (Nat.le_of_ble_eq_true rfl) rfl rfl (CodeV_sound T_ok (by kernel_rfl) rfl ?_)
  simp only [Tryz.results71, go_sem, Nat.reduceMul, Nat.reduceLeDiff, Nat.reduceLT, reduceIte, reduceCtorEq, Nat.reduceEqDiff, Nat.reduceSub, Nat.reduceAdd]
  refine HereO.buildRow T_ok 120 (I []) rfl rfl rfl (by decide) rfl (by first | rfl | (simp only [go_sem, Nat.reduceMul, Nat.reduceLeDiff, Nat.reduceLT, reduceIte, reduceCtorEq, Nat.reduceEqDiff, Nat.reduceSub, Nat.reduceAdd] <;> rfl)) rfl (by decide) ?_
  simp only [Tryz.results71, go_sem, Nat.reduceMul, Nat.reduceLeDiff, Nat.reduceLT, reduceIte, reduceCtorEq, Nat.reduceEqDiff, Nat.reduceSub, Nat.reduceAdd]
  refine HereO.append T_ok (I l) rfl rfl (by decide) (by simp only [go_sem, Nat.reduceMul, Nat.reduceLeDiff, Nat.reduceLT, reduceIte, reduceCtorEq, Nat.reduceEqDiff, Nat.reduceSub, Nat.reduceAdd] <;> rfl) (by decide) (by simp only [go_sem, Nat.reduceMul, Nat.reduceLeDiff, Nat.reduceLT, reduceIte, reduceCtorEq, Nat.reduceEqDiff, Nat.reduceSub, Nat.reduceAdd] <;> rfl) (by simp only [go_sem, Nat.reduceMul, Nat.reduceLeDiff, Nat.reduceLT, reduceIte, reduceCtorEq, Nat.reduceEqDiff, Nat.reduceSub, Nat.reduceAdd] <;> rfl) (.rd _) (I_one _) (by rw [I_len, I_len]; simpa using hl) ?_
  simp only [Tryz.results71, go_sem, Nat.reduceMul, Nat.reduceLeDiff, Nat.reduceLT, reduceIte, reduceCtorEq, Nat.reduceEqDiff, Nat.reduceSub, Nat.reduceAdd]
  exact RetC.of (RetT.one 120 (by simp only [Tryz.results71, go_sem, Nat.reduceMul, Nat.reduceLeDiff, Nat.reduceLT, reduceIte, reduceCtorEq, Nat.reduceEqDiff, Nat.reduceSub, Nat.reduceAdd]; rfl) (by simp only [Tryz.results71, go_sem, Nat.reduceMul, Nat.reduceLeDiff, Nat.reduceLT, reduceIte, reduceCtorEq, Nat.reduceEqDiff, Nat.reduceSub, Nat.reduceAdd] <;> simp [I]) (by simp only [Tryz.results71, go_sem, Nat.reduceMul, Nat.reduceLeDiff, Nat.reduceLT, reduceIte, reduceCtorEq, Nat.reduceEqDiff, Nat.reduceSub, Nat.reduceAdd] <;> simp [I]))
theorem I_snocB (l : List Int) (u : Int) : I (l ++ [u]) = I l ++ I [u] := by simp [I]
/-- What is looked at for the elements a and b. -/
def FineA (t : List (List Int)) (m : Int) (l : List Int) (a b : Nat) : Prop := ee t a b < l.length → l.getD (ee t a b).toNat 0 = (l.getD a 0 * l.getD b 0).tmod m
def GoS (t : List (List Int)) (m : Int) (k : Nat) : Prop := ∀ (l : List Int) (outs : List (Int × List Int)), l.length + k = t.length → Units m l → outs.length + 12 ^ k ≤ 1099511627776 →
    SpecM Tryz.prog 56 [.agg [.rds (II t)], .v (.int .i64 m), .rd (I l), .own 0] [.mods 35 2 (mq outs)] (.own 1) [none, some (.mods 35 2 (mq (outs ++ withM m (dfsS t m k l))))]
theorem go_zero (t : List (List Int)) (m : Int) (hg : Grp t) (hm : 2 ≤ m ∧ m ≤ 12) : GoS t m 0 := by
  have h8 := hg.2.1
  intro l outs hl hu ho
  refine SpecM.of_code' T_ok Tryz.func56 rfl Tryz.ntmps56 Tryz.call56 (Nat.le_of_ble_eq_true rfl) (Nat.le_of_ble_eq_true rfl) (Nat.le_of_ble_eq_true rfl) rfl rfl (Here.conv (Conv.moveO 3 50 (by decide) rfl rfl rfl) (CodeV_sound T_ok (by kernel_rfl) rfl ?_))
  simp only [Tryz.results56, go_sem, Nat.reduceMul, Nat.reduceLeDiff, Nat.reduceLT, reduceIte, reduceCtorEq, Nat.reduceEqDiff, Nat.reduceSub, Nat.reduceAdd]
  refine Here.loopV T_ok (κ := Nat) (fun i => i ≤ l.length ∧ ∀ a, a < i → ∀ b, b < l.length → FineA t m l a b) (fun i => l.length - i) (fun i => [(1, .v (.int .i64 m)), (2, .rd (I l)), (3, .own 50), (4, .box [.rds (II t)]), (9, .v (.int .i64 l.length)), (10, .v (.int .i64 i))]) (fun _ => [(50, .mods 35 2 (mq outs))]) 0 ⟨by omega, fun a ha => absurd ha (by omega)⟩ (by simp only [Tryz.results56, go_sem, Nat.reduceMul, Nat.reduceLeDiff, Nat.reduceLT, reduceIte, reduceCtorEq, Nat.reduceEqDiff, Nat.reduceSub, Nat.reduceAdd]; simp) (by simp only [Tryz.results56, go_sem, Nat.reduceMul, Nat.reduceLeDiff, Nat.reduceLT, reduceIte, reduceCtorEq, Nat.reduceEqDiff, Nat.reduceSub, Nat.reduceAdd]) ?_
  rintro a ⟨h1, h2⟩
  simp only [Tryz.results56, go_sem, Nat.reduceMul, Nat.reduceLeDiff, Nat.reduceLT, reduceIte, reduceCtorEq, Nat.reduceEqDiff, Nat.reduceSub, Nat.reduceAdd]
  refine ⟨fun h3 => ?_, fun h3 => ⟨fun h4 => ?_, fun h4 => ?_⟩⟩
  · refine Here.loopV T_ok (κ := Nat) (fun b => b ≤ l.length ∧ ∀ b', b' < b → FineA t m l a b') (fun b => l.length - b) (fun b => [(1, .v (.int .i64 m)), (2, .rd (I l)), (3, .own 50), (4, .box [.rds (II t)]), (9, .v (.int .i64 l.length)), (10, .v (.int .i64 a)), (11, .v (.int .i64 b))]) (fun _ => [(50, .mods 35 2 (mq outs))]) 0 ⟨by omega, fun b hb => absurd hb (by omega)⟩ (by simp only [Tryz.results56, go_sem, Nat.reduceMul, Nat.reduceLeDiff, Nat.reduceLT, reduceIte, reduceCtorEq, Nat.reduceEqDiff, Nat.reduceSub, Nat.reduceAdd]; simp) (by simp only [Tryz.results56, go_sem, Nat.reduceMul, Nat.reduceLeDiff, Nat.reduceLT, reduceIte, reduceCtorEq, Nat.reduceEqDiff, Nat.reduceSub, Nat.reduceAdd]) ?_
    rintro b ⟨h5, h6⟩
    simp only [Tryz.results56, go_sem, Nat.reduceMul, Nat.reduceLeDiff, Nat.reduceLT, reduceIte, reduceCtorEq, Nat.reduceEqDiff, Nat.reduceSub, Nat.reduceAdd]
    refine ⟨fun h7 => ?_, fun h7 => ⟨by unfold InR; omega, a + 1, ⟨by omega, fun a' ha' => ?_⟩, by omega, by push_cast; rfl⟩⟩
    · have hs := (hg.2.2.1 a (by omega)).2 b (by omega)
      have hsr := (hg.2.2.1 a (by omega)).1
      have hua := hu a (by omega)
      have hub := hu b (by omega)
      have hp0 : 0 ≤ l.getD a 0 * l.getD b 0 := Int.mul_nonneg (by have := hua.1; omega) (by have := hub.1; omega)
      have hp1 : l.getD a 0 * l.getD b 0 ≤ 12 * 12 := Int.mul_le_mul (by have := hua.2.1; omega) (by have := hub.2.1; omega) (by have := hub.1; omega) (by decide)
      have hstep : FineA t m l a b → ∀ b', b' < b + 1 → FineA t m l a b' := fun h b' hb' => by
        by_cases e : b' = b
        · rw [e]; exact h
        · exact h6 b' (by omega)
      unfold ee at hs
      refine ⟨⟨by omega, by omega⟩, ⟨by omega, by omega⟩, ?_⟩
      refine Here.draw T_ok mixed_ok (by kernel_rfl) ?_
      simp only [Tryz.results56, go_sem, Nat.reduceMul, Nat.reduceLeDiff, Nat.reduceLT, reduceIte, reduceCtorEq, Nat.reduceEqDiff, Nat.reduceSub, Nat.reduceAdd]
      refine ⟨fun h8 => ⟨⟨by omega, by omega⟩, ⟨by omega, by omega⟩, ⟨by omega, by omega⟩, by unfold InR; omega, by omega, fun h9 => ?_, fun h9 => ⟨by unfold InR; omega, b + 1, ⟨by omega, hstep fun _ => h9⟩, by omega, by push_cast; rfl⟩⟩, fun h8 => ⟨by unfold InR; omega, b + 1, ⟨by omega, hstep fun h => absurd h h8⟩, by omega, by push_cast; rfl⟩⟩
      have hno : ¬ Fine t m l := fun q => h9 (q a (by omega) b (by omega) h8)
      refine RetM.one1 50 (by decide) (by simp only [Tryz.results56, go_sem, Nat.reduceMul, Nat.reduceLeDiff, Nat.reduceLT, reduceIte, reduceCtorEq, Nat.reduceEqDiff, Nat.reduceSub, Nat.reduceAdd]; rfl) rfl ?_
      simp only [Tryz.results56, go_sem, Nat.reduceMul, Nat.reduceLeDiff, Nat.reduceLT, reduceIte, reduceCtorEq, Nat.reduceEqDiff, Nat.reduceSub, Nat.reduceAdd]
      rw [dfsS_not hno, withM]
      simp
    · by_cases e : a' = a
      · subst e; exact fun b hb => h6 b (by omega)
      · exact h2 a' (by omega)
  · have hf : Fine t m l := fun a' ha' b' hb' => h2 a' (by omega) b' (by omega)
    refine HereO.callOwn T_ok 30 rfl rfl (l01OwnM_spec l (by omega)) (by simp only [go_sem, Nat.reduceMul, Nat.reduceLeDiff, Nat.reduceLT, reduceIte, reduceCtorEq, Nat.reduceEqDiff, Nat.reduceSub, Nat.reduceAdd, List.toList_toArray] <;> first | rfl | exact ⟨rfl, rfl⟩) rfl (by simp) rfl ?_
    simp only [Tryz.results56, go_sem, Nat.reduceMul, Nat.reduceLeDiff, Nat.reduceLT, reduceIte, reduceCtorEq, Nat.reduceEqDiff, Nat.reduceSub, Nat.reduceAdd]
    refine HereO.opP T_ok (OpP.build built_35 rfl rfl rfl rfl) ?_
    simp only [Tryz.results56, go_sem, Nat.reduceMul, Nat.reduceLeDiff, Nat.reduceLT, reduceIte, reduceCtorEq, Nat.reduceEqDiff, Nat.reduceSub, Nat.reduceAdd]
    refine HereO.opP T_ok (OpP.buildA sl2_29 ([(.v (.int .i64 m), .own 1480)]) rfl rfl (by decide) (by decide) rfl rfl) ?_
    simp only [Tryz.results56, go_sem, Nat.reduceMul, Nat.reduceLeDiff, Nat.reduceLT, reduceIte, reduceCtorEq, Nat.reduceEqDiff, Nat.reduceSub, Nat.reduceAdd]
    refine HereO.appendMods T_ok (id := 50) (j := 1480) rfl sl2m_ok (by simp only [go_sem, Nat.reduceMul, Nat.reduceLeDiff, Nat.reduceLT, reduceIte, reduceCtorEq, Nat.reduceEqDiff, Nat.reduceSub, Nat.reduceAdd] <;> rfl) (by decide) (by simp only [go_sem, Nat.reduceMul, Nat.reduceLeDiff, Nat.reduceLT, reduceIte, reduceCtorEq, Nat.reduceEqDiff, Nat.reduceSub, Nat.reduceAdd] <;> rfl) (by simp only [go_sem, Nat.reduceMul, Nat.reduceLeDiff, Nat.reduceLT, reduceIte, reduceCtorEq, Nat.reduceEqDiff, Nat.reduceSub, Nat.reduceAdd] <;> rfl) (by simp only [go_sem, Nat.reduceMul, Nat.reduceLeDiff, Nat.reduceLT, reduceIte, reduceCtorEq, Nat.reduceEqDiff, Nat.reduceSub, Nat.reduceAdd] <;> rfl) (by decide) rfl (by rw [mq_len]; simp at ho; omega) ?_
    simp only [Tryz.results56, go_sem, Nat.reduceMul, Nat.reduceLeDiff, Nat.reduceLT, reduceIte, reduceCtorEq, Nat.reduceEqDiff, Nat.reduceSub, Nat.reduceAdd]
    refine RetM.one1 50 (by decide) (by simp only [Tryz.results56, go_sem, Nat.reduceMul, Nat.reduceLeDiff, Nat.reduceLT, reduceIte, reduceCtorEq, Nat.reduceEqDiff, Nat.reduceSub, Nat.reduceAdd]; rfl) rfl ?_
    simp only [Tryz.results56, go_sem, Nat.reduceMul, Nat.reduceLeDiff, Nat.reduceLT, reduceIte, reduceCtorEq, Nat.reduceEqDiff, Nat.reduceSub, Nat.reduceAdd]
    rw [mq_snoc, dfsS, if_pos hf]
    rfl
  · omega
set_option maxHeartbeats 8000000 in
theorem go_succ (t : List (List Int)) (m : Int) (hg : Grp t) (hm : 2 ≤ m ∧ m ≤ 12) (k : Nat) (ih : GoS t m k) : GoS t m (k + 1) := by
  have h8 := hg.2.1
  intro l outs hl hu ho
  refine SpecM.of_code' T_ok Tryz.func56 rfl Tryz.ntmps56 Tryz.call56 (Nat.le_of_ble_eq_true rfl) (Nat.le_of_ble_eq_true rfl) (Nat.le_of_ble_eq_true rfl) rfl rfl (Here.conv (Conv.moveO 3 50 (by decide) rfl rfl rfl) (CodeV_sound T_ok (by kernel_rfl) rfl ?_))
  simp only [Tryz.results56, go_sem, Nat.reduceMul, Nat.reduceLeDiff, Nat.reduceLT, reduceIte, reduceCtorEq, Nat.reduceEqDiff, Nat.reduceSub, Nat.reduceAdd]
  refine Here.loopV T_ok (κ := Nat) (fun i => i ≤ l.length ∧ ∀ a, a < i → ∀ b, b < l.length → FineA t m l a b) (fun i => l.length - i) (fun i => [(1, .v (.int .i64 m)), (2, .rd (I l)), (3, .own 50), (4, .box [.rds (II t)]), (9, .v (.int .i64 l.length)), (10, .v (.int .i64 i))]) (fun _ => [(50, .mods 35 2 (mq outs))]) 0 ⟨by omega, fun a ha => absurd ha (by omega)⟩ (by simp only [Tryz.results56, go_sem, Nat.reduceMul, Nat.reduceLeDiff, Nat.reduceLT, reduceIte, reduceCtorEq, Nat.reduceEqDiff, Nat.reduceSub, Nat.reduceAdd]; simp) (by simp only [Tryz.results56, go_sem, Nat.reduceMul, Nat.reduceLeDiff, Nat.reduceLT, reduceIte, reduceCtorEq, Nat.reduceEqDiff, Nat.reduceSub, Nat.reduceAdd]) ?_
  rintro a ⟨h1, h2⟩
  simp only [Tryz.results56, go_sem, Nat.reduceMul, Nat.reduceLeDiff, Nat.reduceLT, reduceIte, reduceCtorEq, Nat.reduceEqDiff, Nat.reduceSub, Nat.reduceAdd]
  refine ⟨fun h3 => ?_, fun h3 => ⟨fun h4 => ?_, fun h4 => ?_⟩⟩
  · refine Here.loopV T_ok (κ := Nat) (fun b => b ≤ l.length ∧ ∀ b', b' < b → FineA t m l a b') (fun b => l.length - b) (fun b => [(1, .v (.int .i64 m)), (2, .rd (I l)), (3, .own 50), (4, .box [.rds (II t)]), (9, .v (.int .i64 l.length)), (10, .v (.int .i64 a)), (11, .v (.int .i64 b))]) (fun _ => [(50, .mods 35 2 (mq outs))]) 0 ⟨by omega, fun b hb => absurd hb (by omega)⟩ (by simp only [Tryz.results56, go_sem, Nat.reduceMul, Nat.reduceLeDiff, Nat.reduceLT, reduceIte, reduceCtorEq, Nat.reduceEqDiff, Nat.reduceSub, Nat.reduceAdd]; simp) (by simp only [Tryz.results56, go_sem, Nat.reduceMul, Nat.reduceLeDiff, Nat.reduceLT, reduceIte, reduceCtorEq, Nat.reduceEqDiff, Nat.reduceSub, Nat.reduceAdd]) ?_
    rintro b ⟨h5, h6⟩
    simp only [Tryz.results56, go_sem, Nat.reduceMul, Nat.reduceLeDiff, Nat.reduceLT, reduceIte, reduceCtorEq, Nat.reduceEqDiff, Nat.reduceSub, Nat.reduceAdd]
    refine ⟨fun h7 => ?_, fun h7 => ⟨by unfold InR; omega, a + 1, ⟨by omega, fun a' ha' => ?_⟩, by omega, by push_cast; rfl⟩⟩
    · have hs := (hg.2.2.1 a (by omega)).2 b (by omega)
      have hsr := (hg.2.2.1 a (by omega)).1
      have hua := hu a (by omega)
      have hub := hu b (by omega)
      have hp0 : 0 ≤ l.getD a 0 * l.getD b 0 := Int.mul_nonneg (by have := hua.1; omega) (by have := hub.1; omega)
      have hp1 : l.getD a 0 * l.getD b 0 ≤ 12 * 12 := Int.mul_le_mul (by have := hua.2.1; omega) (by have := hub.2.1; omega) (by have := hub.1; omega) (by decide)
      have hstep : FineA t m l a b → ∀ b', b' < b + 1 → FineA t m l a b' := fun h b' hb' => by
        by_cases e : b' = b
        · rw [e]; exact h
        · exact h6 b' (by omega)
      unfold ee at hs
      refine ⟨⟨by omega, by omega⟩, ⟨by omega, by omega⟩, ?_⟩
      refine Here.draw T_ok mixed_ok (by kernel_rfl) ?_
      simp only [Tryz.results56, go_sem, Nat.reduceMul, Nat.reduceLeDiff, Nat.reduceLT, reduceIte, reduceCtorEq, Nat.reduceEqDiff, Nat.reduceSub, Nat.reduceAdd]
      refine ⟨fun h8 => ⟨⟨by omega, by omega⟩, ⟨by omega, by omega⟩, ⟨by omega, by omega⟩, by unfold InR; omega, by omega, fun h9 => ?_, fun h9 => ⟨by unfold InR; omega, b + 1, ⟨by omega, hstep fun _ => h9⟩, by omega, by push_cast; rfl⟩⟩, fun h8 => ⟨by unfold InR; omega, b + 1, ⟨by omega, hstep fun h => absurd h h8⟩, by omega, by push_cast; rfl⟩⟩
      have hno : ¬ Fine t m l := fun q => h9 (q a (by omega) b (by omega) h8)
      refine RetM.one1 50 (by decide) (by simp only [Tryz.results56, go_sem, Nat.reduceMul, Nat.reduceLeDiff, Nat.reduceLT, reduceIte, reduceCtorEq, Nat.reduceEqDiff, Nat.reduceSub, Nat.reduceAdd]; rfl) rfl ?_
      simp only [Tryz.results56, go_sem, Nat.reduceMul, Nat.reduceLeDiff, Nat.reduceLT, reduceIte, reduceCtorEq, Nat.reduceEqDiff, Nat.reduceSub, Nat.reduceAdd]
      rw [dfsS_not hno, withM]
      simp
    · by_cases e : a' = a
      · subst e; exact fun b hb => h6 b (by omega)
      · exact h2 a' (by omega)
  · omega
  · have hf : Fine t m l := fun a' ha' b' hb' => h2 a' (by omega) b' (by omega)
    have hlen : l.length < t.length := by omega
    refine Here.loopV T_ok (κ := Nat × Bool) (fun g => 1 ≤ g.1 ∧ g.1 ≤ m.toNat) (fun g => m.toNat - g.1) (fun g => [(1, .v (.int .i64 m)), (2, .rd (I l)), (3, .own (cond g.2 51 50)), (4, .box [.rds (II t)]), (9, .v (.int .i64 l.length)), (13, .v (.int .i64 g.1))]) (fun g => [(cond g.2 51 50, .mods 35 2 (mq (outs ++ withM m ((List.range g.1).flatMap fun (u : Nat) => if UnitS m l u then dfsS t m k (l ++ [(u : Int)]) else []))))]) (1, false) ⟨by simp, by dsimp only; omega⟩ (by simp only [Tryz.results56, go_sem, Nat.reduceMul, Nat.reduceLeDiff, Nat.reduceLT, reduceIte, reduceCtorEq, Nat.reduceEqDiff, Nat.reduceSub, Nat.reduceAdd]; simp) (by simp only [Tryz.results56, go_sem, Nat.reduceMul, Nat.reduceLeDiff, Nat.reduceLT, reduceIte, reduceCtorEq, Nat.reduceEqDiff, Nat.reduceSub, Nat.reduceAdd]; simp [UnitS, withM]) ?_
    rintro ⟨u, b⟩ ⟨h5, h6⟩
    dsimp only at h5 h6
    have hdl : ∀ i : Nat, ((List.range i).flatMap fun (u : Nat) => if UnitS m l u then dfsS t m k (l ++ [(u : Int)]) else []).length ≤ i * 12 ^ k := fun i => rangeFlat_len (fun a => by
      split
      · exact dfsS_len hm.2 k _
      · simp) i
    have hd := hdl u
    have hpw3 : (u + 1) * 12 ^ k = u * 12 ^ k + 12 ^ k := Nat.succ_mul _ _
    have hpw4 : 12 ^ (k + 1) = 12 ^ k * 12 := Nat.pow_succ ..
    cases b <;> dsimp only [cond]
    all_goals simp only [Tryz.results56, go_sem, Nat.reduceMul, Nat.reduceLeDiff, Nat.reduceLT, reduceIte, reduceCtorEq, Nat.reduceEqDiff, Nat.reduceSub, Nat.reduceAdd]
    · refine ⟨fun h7 => ?_, fun h7 => ?_⟩
      · have hpw2 : (u + 1) * 12 ^ k ≤ 12 * 12 ^ k := Nat.mul_le_mul_right _ (by omega)
        refine HereO.call T_ok rfl rfl (l01Gcd_spec' u m ⟨by omega, by omega⟩ ⟨by omega, by omega⟩) (by simp only [go_sem, Nat.reduceMul, Nat.reduceLeDiff, Nat.reduceLT, reduceIte, reduceCtorEq, Nat.reduceEqDiff, Nat.reduceSub, Nat.reduceAdd, List.toList_toArray] <;> first | rfl | exact ⟨rfl, rfl⟩) rfl ?_
        simp only [Tryz.results56, go_sem, Nat.reduceMul, Nat.reduceLeDiff, Nat.reduceLT, reduceIte, reduceCtorEq, Nat.reduceEqDiff, Nat.reduceSub, Nat.reduceAdd]
        have hskip : ¬ UnitS m l u → (outs ++ withM m ((List.range u).flatMap fun (u : Nat) => if UnitS m l u then dfsS t m k (l ++ [(u : Int)]) else [])) = (outs ++ withM m ((List.range (u + 1)).flatMap fun (u : Nat) => if UnitS m l u then dfsS t m k (l ++ [(u : Int)]) else [])) := fun h => by rw [rangeFlat_succ, if_neg h, List.append_nil]
        have hstep : UnitS m l u → mq ((outs ++ withM m ((List.range u).flatMap fun (u : Nat) => if UnitS m l u then dfsS t m k (l ++ [(u : Int)]) else [])) ++ withM m (dfsS t m k (l ++ [(u : Int)]))) = mq (outs ++ withM m ((List.range (u + 1)).flatMap fun (u : Nat) => if UnitS m l u then dfsS t m k (l ++ [(u : Int)]) else [])) := fun h => by rw [rangeFlat_succ, if_pos h, withM_app, List.append_assoc]
        refine ⟨fun h8 => ⟨fun h9 => ⟨fun h10 => ?_, fun h10 => ⟨by unfold InR; omega, (u + 1, false), ⟨by dsimp only; omega, by dsimp only; omega⟩, by dsimp only; omega, ⟨rfl, by push_cast; rfl⟩, by dsimp only; rw [if_pos rfl, hskip fun q => h10 (by have := q.2.2.resolve_left (by omega); omega)]⟩⟩, fun h9 => ?_⟩, fun h8 => ⟨by unfold InR; omega, (u + 1, false), ⟨by dsimp only; omega, by dsimp only; omega⟩, by dsimp only; omega, ⟨rfl, by push_cast; rfl⟩, by dsimp only; rw [if_pos rfl, hskip fun q => h8 (by have := q.2.1; omega)]⟩⟩
        · skip
          have hU : UnitS m l u := ⟨by omega, by omega, .inr (by omega)⟩
          have hU1 : Unit1 m u := ⟨by omega, h7, by simpa using hU.2.1⟩
          have hc := ih (l ++ [(u : Int)]) (outs ++ withM m ((List.range u).flatMap fun (u : Nat) => if UnitS m l u then dfsS t m k (l ++ [(u : Int)]) else [])) (by simp; omega) (hu.snoc hU1) (by rw [List.length_append, withM_len]; omega)
          rw [I_snocB] at hc
          refine Here.drawC T_ok [.f, .f, .f, .c, .f, .f, .c, .f, .c, .p] [1, 2, 3, 4, 13] [1480, 1481, 1482, 1483, 1484, 1485, 1486, 1487, 1488, 1489, 1490, 1491, 1492, 1493, 1494, 1495, 1496, 1497, 1498, 1499, 1500, 1501, 1502, 1503, 1504, 1505, 1506, 1507, 1508, 1509, 1510, 1511, 51] [] (Nat.le_of_ble_eq_true rfl) mixed_ok (by kernel_rfl) (by kernel_rfl) (by kernel_rfl) (by simp only [List.mem_cons, List.not_mem_nil, or_false, forall_eq_or_imp, forall_eq, go_sem, Nat.reduceMul, Nat.reduceLeDiff, Nat.reduceLT, reduceIte, reduceCtorEq, Nat.reduceEqDiff, Nat.reduceSub, Nat.reduceAdd] <;> first | exact calm_ptr_ne rfl | exact calm_ne rfl | exact ⟨calm_ptr_ne rfl, calm_ptr_ne rfl⟩ | exact ⟨calm_ptr_ne rfl, calm_ptr_ne rfl, calm_ptr_ne rfl⟩ | exact ⟨calm_ptr_ne rfl, calm_knot (by simp only [go_sem, Nat.reduceMul, Nat.reduceLeDiff, Nat.reduceLT, reduceIte, reduceCtorEq, Nat.reduceEqDiff, Nat.reduceSub, Nat.reduceAdd] <;> exact calm_ptr_ne rfl)⟩ | ((repeat' apply And.intro) <;> first | exact calm_ptr_ne rfl | exact calm_ne rfl)) ?_
          simp only [Tryz.results56, go_sem, Nat.reduceMul, Nat.reduceLeDiff, Nat.reduceLT, reduceIte, reduceCtorEq, Nat.reduceEqDiff, Nat.reduceSub, Nat.reduceAdd]
          refine HereC.callOwn 30 rfl rfl (l01OwnM_spec l (by omega)) (by simp only [go_sem, Nat.reduceMul, Nat.reduceLeDiff, Nat.reduceLT, reduceIte, reduceCtorEq, Nat.reduceEqDiff, Nat.reduceSub, Nat.reduceAdd, List.toList_toArray] <;> first | rfl | exact ⟨rfl, rfl⟩) rfl (by simp) rfl (inK_shift (by decide)) (by first | exact keeps_nil _ _ | (simp only [keeps_cons, keeps_nil', go_sem, Nat.reduceMul, Nat.reduceLeDiff, Nat.reduceLT, reduceIte, reduceCtorEq, Nat.reduceEqDiff, Nat.reduceSub, Nat.reduceAdd] <;> rfl)) ?_
          simp only [Tryz.results56, go_sem, Nat.reduceMul, Nat.reduceLeDiff, Nat.reduceLT, reduceIte, reduceCtorEq, Nat.reduceEqDiff, Nat.reduceSub, Nat.reduceAdd]
          refine ⟨_, fun _ _ => OpP.buildRd T_ok [.int .i64 u] rfl rfl rfl (by decide) rfl (by simp only [go_sem, Nat.reduceMul, Nat.reduceLeDiff, Nat.reduceLT, reduceIte, reduceCtorEq, Nat.reduceEqDiff, Nat.reduceSub, Nat.reduceAdd] <;> rfl) rfl, (by simp only [go_sem, Nat.reduceMul, Nat.reduceLeDiff, Nat.reduceLT, reduceIte, reduceCtorEq, Nat.reduceEqDiff, Nat.reduceSub, Nat.reduceAdd]), ?_⟩
          simp only [Tryz.results56, go_sem, Nat.reduceMul, Nat.reduceLeDiff, Nat.reduceLT, reduceIte, reduceCtorEq, Nat.reduceEqDiff, Nat.reduceSub, Nat.reduceAdd]
          refine HereC.append T_ok (I [(u : Int)]) rfl rfl (by decide) (by simp only [go_sem, Nat.reduceMul, Nat.reduceLeDiff, Nat.reduceLT, reduceIte, reduceCtorEq, Nat.reduceEqDiff, Nat.reduceSub, Nat.reduceAdd] <;> rfl) (by decide) (by simp only [go_sem, Nat.reduceMul, Nat.reduceLeDiff, Nat.reduceLT, reduceIte, reduceCtorEq, Nat.reduceEqDiff, Nat.reduceSub, Nat.reduceAdd] <;> rfl) (by simp only [go_sem, Nat.reduceMul, Nat.reduceLeDiff, Nat.reduceLT, reduceIte, reduceCtorEq, Nat.reduceEqDiff, Nat.reduceSub, Nat.reduceAdd] <;> rfl) (I_one _) (by rw [I_len, I_len]; simp; omega) rfl (keeps_nil _ _) ?_
          simp only [Tryz.results56, go_sem, Nat.reduceMul, Nat.reduceLeDiff, Nat.reduceLT, reduceIte, reduceCtorEq, Nat.reduceEqDiff, Nat.reduceSub, Nat.reduceAdd]
          refine ⟨calm_ne rfl, ?_⟩
          refine HereC.callMM 31 [50] 51 (by decide) rfl (by simp only [go_sem, Nat.reduceMul, Nat.reduceLeDiff, Nat.reduceLT, reduceIte, reduceCtorEq, Nat.reduceEqDiff, Nat.reduceSub, Nat.reduceAdd] <;> rfl) hc (by simp only [go_sem, Nat.reduceMul, Nat.reduceLeDiff, Nat.reduceLT, reduceIte, reduceCtorEq, Nat.reduceEqDiff, Nat.reduceSub, Nat.reduceAdd, List.toList_toArray, ↓reduceIte]) rfl (by decide) (by decide) rfl rfl rfl (Nat.le_of_ble_eq_true rfl) rfl rfl rfl (inK_mm rfl rfl rfl) (keeps_nil _ _) ?_
          simp only [Tryz.results56, go_sem, Nat.reduceMul, Nat.reduceLeDiff, Nat.reduceLT, reduceIte, reduceCtorEq, Nat.reduceEqDiff, Nat.reduceSub, Nat.reduceAdd]
          exact ⟨by unfold InR; omega, (u + 1, true), ⟨by dsimp only; omega, by dsimp only; omega⟩, by dsimp only; omega, ⟨rfl, by push_cast; rfl⟩, by dsimp only; rw [if_pos rfl, hstep hU]⟩
        · skip
          have hU : UnitS m l u := ⟨by omega, by omega, .inl (by omega)⟩
          have hU1 : Unit1 m u := ⟨by omega, h7, by simpa using hU.2.1⟩
          have hc := ih (l ++ [(u : Int)]) (outs ++ withM m ((List.range u).flatMap fun (u : Nat) => if UnitS m l u then dfsS t m k (l ++ [(u : Int)]) else [])) (by simp; omega) (hu.snoc hU1) (by rw [List.length_append, withM_len]; omega)
          rw [I_snocB] at hc
          refine Here.drawC T_ok [.f, .f, .f, .c, .f, .f, .c, .f, .c, .p] [1, 2, 3, 4, 13] [1480, 1481, 1482, 1483, 1484, 1485, 1486, 1487, 1488, 1489, 1490, 1491, 1492, 1493, 1494, 1495, 1496, 1497, 1498, 1499, 1500, 1501, 1502, 1503, 1504, 1505, 1506, 1507, 1508, 1509, 1510, 1511, 51] [] (Nat.le_of_ble_eq_true rfl) mixed_ok (by kernel_rfl) (by kernel_rfl) (by kernel_rfl) (by simp only [List.mem_cons, List.not_mem_nil, or_false, forall_eq_or_imp, forall_eq, go_sem, Nat.reduceMul, Nat.reduceLeDiff, Nat.reduceLT, reduceIte, reduceCtorEq, Nat.reduceEqDiff, Nat.reduceSub, Nat.reduceAdd] <;> first | exact calm_ptr_ne rfl | exact calm_ne rfl | exact ⟨calm_ptr_ne rfl, calm_ptr_ne rfl⟩ | exact ⟨calm_ptr_ne rfl, calm_ptr_ne rfl, calm_ptr_ne rfl⟩ | exact ⟨calm_ptr_ne rfl, calm_knot (by simp only [go_sem, Nat.reduceMul, Nat.reduceLeDiff, Nat.reduceLT, reduceIte, reduceCtorEq, Nat.reduceEqDiff, Nat.reduceSub, Nat.reduceAdd] <;> exact calm_ptr_ne rfl)⟩ | ((repeat' apply And.intro) <;> first | exact calm_ptr_ne rfl | exact calm_ne rfl)) ?_
          simp only [Tryz.results56, go_sem, Nat.reduceMul, Nat.reduceLeDiff, Nat.reduceLT, reduceIte, reduceCtorEq, Nat.reduceEqDiff, Nat.reduceSub, Nat.reduceAdd]
          refine HereC.callOwn 30 rfl rfl (l01OwnM_spec l (by omega)) (by simp only [go_sem, Nat.reduceMul, Nat.reduceLeDiff, Nat.reduceLT, reduceIte, reduceCtorEq, Nat.reduceEqDiff, Nat.reduceSub, Nat.reduceAdd, List.toList_toArray] <;> first | rfl | exact ⟨rfl, rfl⟩) rfl (by simp) rfl (inK_shift (by decide)) (by first | exact keeps_nil _ _ | (simp only [keeps_cons, keeps_nil', go_sem, Nat.reduceMul, Nat.reduceLeDiff, Nat.reduceLT, reduceIte, reduceCtorEq, Nat.reduceEqDiff, Nat.reduceSub, Nat.reduceAdd] <;> rfl)) ?_
          simp only [Tryz.results56, go_sem, Nat.reduceMul, Nat.reduceLeDiff, Nat.reduceLT, reduceIte, reduceCtorEq, Nat.reduceEqDiff, Nat.reduceSub, Nat.reduceAdd]
          refine ⟨_, fun _ _ => OpP.buildRd T_ok [.int .i64 u] rfl rfl rfl (by decide) rfl (by simp only [go_sem, Nat.reduceMul, Nat.reduceLeDiff, Nat.reduceLT, reduceIte, reduceCtorEq, Nat.reduceEqDiff, Nat.reduceSub, Nat.reduceAdd] <;> rfl) rfl, (by simp only [go_sem, Nat.reduceMul, Nat.reduceLeDiff, Nat.reduceLT, reduceIte, reduceCtorEq, Nat.reduceEqDiff, Nat.reduceSub, Nat.reduceAdd]), ?_⟩
          simp only [Tryz.results56, go_sem, Nat.reduceMul, Nat.reduceLeDiff, Nat.reduceLT, reduceIte, reduceCtorEq, Nat.reduceEqDiff, Nat.reduceSub, Nat.reduceAdd]
          refine HereC.append T_ok (I [(u : Int)]) rfl rfl (by decide) (by simp only [go_sem, Nat.reduceMul, Nat.reduceLeDiff, Nat.reduceLT, reduceIte, reduceCtorEq, Nat.reduceEqDiff, Nat.reduceSub, Nat.reduceAdd] <;> rfl) (by decide) (by simp only [go_sem, Nat.reduceMul, Nat.reduceLeDiff, Nat.reduceLT, reduceIte, reduceCtorEq, Nat.reduceEqDiff, Nat.reduceSub, Nat.reduceAdd] <;> rfl) (by simp only [go_sem, Nat.reduceMul, Nat.reduceLeDiff, Nat.reduceLT, reduceIte, reduceCtorEq, Nat.reduceEqDiff, Nat.reduceSub, Nat.reduceAdd] <;> rfl) (I_one _) (by rw [I_len, I_len]; simp; omega) rfl (keeps_nil _ _) ?_
          simp only [Tryz.results56, go_sem, Nat.reduceMul, Nat.reduceLeDiff, Nat.reduceLT, reduceIte, reduceCtorEq, Nat.reduceEqDiff, Nat.reduceSub, Nat.reduceAdd]
          refine ⟨calm_ne rfl, ?_⟩
          refine HereC.callMM 31 [50] 51 (by decide) rfl (by simp only [go_sem, Nat.reduceMul, Nat.reduceLeDiff, Nat.reduceLT, reduceIte, reduceCtorEq, Nat.reduceEqDiff, Nat.reduceSub, Nat.reduceAdd] <;> rfl) hc (by simp only [go_sem, Nat.reduceMul, Nat.reduceLeDiff, Nat.reduceLT, reduceIte, reduceCtorEq, Nat.reduceEqDiff, Nat.reduceSub, Nat.reduceAdd, List.toList_toArray, ↓reduceIte]) rfl (by decide) (by decide) rfl rfl rfl (Nat.le_of_ble_eq_true rfl) rfl rfl rfl (inK_mm rfl rfl rfl) (keeps_nil _ _) ?_
          simp only [Tryz.results56, go_sem, Nat.reduceMul, Nat.reduceLeDiff, Nat.reduceLT, reduceIte, reduceCtorEq, Nat.reduceEqDiff, Nat.reduceSub, Nat.reduceAdd]
          exact ⟨by unfold InR; omega, (u + 1, true), ⟨by dsimp only; omega, by dsimp only; omega⟩, by dsimp only; omega, ⟨rfl, by push_cast; rfl⟩, by dsimp only; rw [if_pos rfl, hstep hU]⟩
      · obtain rfl : u = m.toNat := by omega
        refine RetM.one1 50 (by decide) (by simp only [Tryz.results56, go_sem, Nat.reduceMul, Nat.reduceLeDiff, Nat.reduceLT, reduceIte, reduceCtorEq, Nat.reduceEqDiff, Nat.reduceSub, Nat.reduceAdd]; rfl) rfl ?_
        simp only [Tryz.results56, go_sem, Nat.reduceMul, Nat.reduceLeDiff, Nat.reduceLT, reduceIte, reduceCtorEq, Nat.reduceEqDiff, Nat.reduceSub, Nat.reduceAdd]
        rw [dfsS, if_pos hf]
    · refine ⟨fun h7 => ?_, fun h7 => ?_⟩
      · have hpw2 : (u + 1) * 12 ^ k ≤ 12 * 12 ^ k := Nat.mul_le_mul_right _ (by omega)
        refine HereO.call T_ok rfl rfl (l01Gcd_spec' u m ⟨by omega, by omega⟩ ⟨by omega, by omega⟩) (by simp only [go_sem, Nat.reduceMul, Nat.reduceLeDiff, Nat.reduceLT, reduceIte, reduceCtorEq, Nat.reduceEqDiff, Nat.reduceSub, Nat.reduceAdd, List.toList_toArray] <;> first | rfl | exact ⟨rfl, rfl⟩) rfl ?_
        simp only [Tryz.results56, go_sem, Nat.reduceMul, Nat.reduceLeDiff, Nat.reduceLT, reduceIte, reduceCtorEq, Nat.reduceEqDiff, Nat.reduceSub, Nat.reduceAdd]
        have hskip : ¬ UnitS m l u → (outs ++ withM m ((List.range u).flatMap fun (u : Nat) => if UnitS m l u then dfsS t m k (l ++ [(u : Int)]) else [])) = (outs ++ withM m ((List.range (u + 1)).flatMap fun (u : Nat) => if UnitS m l u then dfsS t m k (l ++ [(u : Int)]) else [])) := fun h => by rw [rangeFlat_succ, if_neg h, List.append_nil]
        have hstep : UnitS m l u → mq ((outs ++ withM m ((List.range u).flatMap fun (u : Nat) => if UnitS m l u then dfsS t m k (l ++ [(u : Int)]) else [])) ++ withM m (dfsS t m k (l ++ [(u : Int)]))) = mq (outs ++ withM m ((List.range (u + 1)).flatMap fun (u : Nat) => if UnitS m l u then dfsS t m k (l ++ [(u : Int)]) else [])) := fun h => by rw [rangeFlat_succ, if_pos h, withM_app, List.append_assoc]
        refine ⟨fun h8 => ⟨fun h9 => ⟨fun h10 => ?_, fun h10 => ⟨by unfold InR; omega, (u + 1, true), ⟨by dsimp only; omega, by dsimp only; omega⟩, by dsimp only; omega, ⟨rfl, by push_cast; rfl⟩, by dsimp only; rw [if_pos rfl, hskip fun q => h10 (by have := q.2.2.resolve_left (by omega); omega)]⟩⟩, fun h9 => ?_⟩, fun h8 => ⟨by unfold InR; omega, (u + 1, true), ⟨by dsimp only; omega, by dsimp only; omega⟩, by dsimp only; omega, ⟨rfl, by push_cast; rfl⟩, by dsimp only; rw [if_pos rfl, hskip fun q => h8 (by have := q.2.1; omega)]⟩⟩
        · skip
          have hU : UnitS m l u := ⟨by omega, by omega, .inr (by omega)⟩
          have hU1 : Unit1 m u := ⟨by omega, h7, by simpa using hU.2.1⟩
          have hc := ih (l ++ [(u : Int)]) (outs ++ withM m ((List.range u).flatMap fun (u : Nat) => if UnitS m l u then dfsS t m k (l ++ [(u : Int)]) else [])) (by simp; omega) (hu.snoc hU1) (by rw [List.length_append, withM_len]; omega)
          rw [I_snocB] at hc
          refine Here.drawC T_ok [.f, .f, .f, .c, .f, .f, .c, .f, .c, .p] [1, 2, 3, 4, 13] [1480, 1481, 1482, 1483, 1484, 1485, 1486, 1487, 1488, 1489, 1490, 1491, 1492, 1493, 1494, 1495, 1496, 1497, 1498, 1499, 1500, 1501, 1502, 1503, 1504, 1505, 1506, 1507, 1508, 1509, 1510, 1511, 50] [] (Nat.le_of_ble_eq_true rfl) mixed_ok (by kernel_rfl) (by kernel_rfl) (by kernel_rfl) (by simp only [List.mem_cons, List.not_mem_nil, or_false, forall_eq_or_imp, forall_eq, go_sem, Nat.reduceMul, Nat.reduceLeDiff, Nat.reduceLT, reduceIte, reduceCtorEq, Nat.reduceEqDiff, Nat.reduceSub, Nat.reduceAdd] <;> first | exact calm_ptr_ne rfl | exact calm_ne rfl | exact ⟨calm_ptr_ne rfl, calm_ptr_ne rfl⟩ | exact ⟨calm_ptr_ne rfl, calm_ptr_ne rfl, calm_ptr_ne rfl⟩ | exact ⟨calm_ptr_ne rfl, calm_knot (by simp only [go_sem, Nat.reduceMul, Nat.reduceLeDiff, Nat.reduceLT, reduceIte, reduceCtorEq, Nat.reduceEqDiff, Nat.reduceSub, Nat.reduceAdd] <;> exact calm_ptr_ne rfl)⟩ | ((repeat' apply And.intro) <;> first | exact calm_ptr_ne rfl | exact calm_ne rfl)) ?_
          simp only [Tryz.results56, go_sem, Nat.reduceMul, Nat.reduceLeDiff, Nat.reduceLT, reduceIte, reduceCtorEq, Nat.reduceEqDiff, Nat.reduceSub, Nat.reduceAdd]
          refine HereC.callOwn 30 rfl rfl (l01OwnM_spec l (by omega)) (by simp only [go_sem, Nat.reduceMul, Nat.reduceLeDiff, Nat.reduceLT, reduceIte, reduceCtorEq, Nat.reduceEqDiff, Nat.reduceSub, Nat.reduceAdd, List.toList_toArray] <;> first | rfl | exact ⟨rfl, rfl⟩) rfl (by simp) rfl (inK_shift (by decide)) (by first | exact keeps_nil _ _ | (simp only [keeps_cons, keeps_nil', go_sem, Nat.reduceMul, Nat.reduceLeDiff, Nat.reduceLT, reduceIte, reduceCtorEq, Nat.reduceEqDiff, Nat.reduceSub, Nat.reduceAdd] <;> rfl)) ?_
          simp only [Tryz.results56, go_sem, Nat.reduceMul, Nat.reduceLeDiff, Nat.reduceLT, reduceIte, reduceCtorEq, Nat.reduceEqDiff, Nat.reduceSub, Nat.reduceAdd]
          refine ⟨_, fun _ _ => OpP.buildRd T_ok [.int .i64 u] rfl rfl rfl (by decide) rfl (by simp only [go_sem, Nat.reduceMul, Nat.reduceLeDiff, Nat.reduceLT, reduceIte, reduceCtorEq, Nat.reduceEqDiff, Nat.reduceSub, Nat.reduceAdd] <;> rfl) rfl, (by simp only [go_sem, Nat.reduceMul, Nat.reduceLeDiff, Nat.reduceLT, reduceIte, reduceCtorEq, Nat.reduceEqDiff, Nat.reduceSub, Nat.reduceAdd]), ?_⟩
          simp only [Tryz.results56, go_sem, Nat.reduceMul, Nat.reduceLeDiff, Nat.reduceLT, reduceIte, reduceCtorEq, Nat.reduceEqDiff, Nat.reduceSub, Nat.reduceAdd]
          refine HereC.append T_ok (I [(u : Int)]) rfl rfl (by decide) (by simp only [go_sem, Nat.reduceMul, Nat.reduceLeDiff, Nat.reduceLT, reduceIte, reduceCtorEq, Nat.reduceEqDiff, Nat.reduceSub, Nat.reduceAdd] <;> rfl) (by decide) (by simp only [go_sem, Nat.reduceMul, Nat.reduceLeDiff, Nat.reduceLT, reduceIte, reduceCtorEq, Nat.reduceEqDiff, Nat.reduceSub, Nat.reduceAdd] <;> rfl) (by simp only [go_sem, Nat.reduceMul, Nat.reduceLeDiff, Nat.reduceLT, reduceIte, reduceCtorEq, Nat.reduceEqDiff, Nat.reduceSub, Nat.reduceAdd] <;> rfl) (I_one _) (by rw [I_len, I_len]; simp; omega) rfl (keeps_nil _ _) ?_
          simp only [Tryz.results56, go_sem, Nat.reduceMul, Nat.reduceLeDiff, Nat.reduceLT, reduceIte, reduceCtorEq, Nat.reduceEqDiff, Nat.reduceSub, Nat.reduceAdd]
          refine ⟨calm_ne rfl, ?_⟩
          refine HereC.callMM 31 [51] 50 (by decide) rfl (by simp only [go_sem, Nat.reduceMul, Nat.reduceLeDiff, Nat.reduceLT, reduceIte, reduceCtorEq, Nat.reduceEqDiff, Nat.reduceSub, Nat.reduceAdd] <;> rfl) hc (by simp only [go_sem, Nat.reduceMul, Nat.reduceLeDiff, Nat.reduceLT, reduceIte, reduceCtorEq, Nat.reduceEqDiff, Nat.reduceSub, Nat.reduceAdd, List.toList_toArray, ↓reduceIte]) rfl (by decide) (by decide) rfl rfl rfl (Nat.le_of_ble_eq_true rfl) rfl rfl rfl (inK_mm rfl rfl rfl) (keeps_nil _ _) ?_
          simp only [Tryz.results56, go_sem, Nat.reduceMul, Nat.reduceLeDiff, Nat.reduceLT, reduceIte, reduceCtorEq, Nat.reduceEqDiff, Nat.reduceSub, Nat.reduceAdd]
          exact ⟨by unfold InR; omega, (u + 1, false), ⟨by dsimp only; omega, by dsimp only; omega⟩, by dsimp only; omega, ⟨rfl, by push_cast; rfl⟩, by dsimp only; rw [if_pos rfl, hstep hU]⟩
        · skip
          have hU : UnitS m l u := ⟨by omega, by omega, .inl (by omega)⟩
          have hU1 : Unit1 m u := ⟨by omega, h7, by simpa using hU.2.1⟩
          have hc := ih (l ++ [(u : Int)]) (outs ++ withM m ((List.range u).flatMap fun (u : Nat) => if UnitS m l u then dfsS t m k (l ++ [(u : Int)]) else [])) (by simp; omega) (hu.snoc hU1) (by rw [List.length_append, withM_len]; omega)
          rw [I_snocB] at hc
          refine Here.drawC T_ok [.f, .f, .f, .c, .f, .f, .c, .f, .c, .p] [1, 2, 3, 4, 13] [1480, 1481, 1482, 1483, 1484, 1485, 1486, 1487, 1488, 1489, 1490, 1491, 1492, 1493, 1494, 1495, 1496, 1497, 1498, 1499, 1500, 1501, 1502, 1503, 1504, 1505, 1506, 1507, 1508, 1509, 1510, 1511, 50] [] (Nat.le_of_ble_eq_true rfl) mixed_ok (by kernel_rfl) (by kernel_rfl) (by kernel_rfl) (by simp only [List.mem_cons, List.not_mem_nil, or_false, forall_eq_or_imp, forall_eq, go_sem, Nat.reduceMul, Nat.reduceLeDiff, Nat.reduceLT, reduceIte, reduceCtorEq, Nat.reduceEqDiff, Nat.reduceSub, Nat.reduceAdd] <;> first | exact calm_ptr_ne rfl | exact calm_ne rfl | exact ⟨calm_ptr_ne rfl, calm_ptr_ne rfl⟩ | exact ⟨calm_ptr_ne rfl, calm_ptr_ne rfl, calm_ptr_ne rfl⟩ | exact ⟨calm_ptr_ne rfl, calm_knot (by simp only [go_sem, Nat.reduceMul, Nat.reduceLeDiff, Nat.reduceLT, reduceIte, reduceCtorEq, Nat.reduceEqDiff, Nat.reduceSub, Nat.reduceAdd] <;> exact calm_ptr_ne rfl)⟩ | ((repeat' apply And.intro) <;> first | exact calm_ptr_ne rfl | exact calm_ne rfl)) ?_
          simp only [Tryz.results56, go_sem, Nat.reduceMul, Nat.reduceLeDiff, Nat.reduceLT, reduceIte, reduceCtorEq, Nat.reduceEqDiff, Nat.reduceSub, Nat.reduceAdd]
          refine HereC.callOwn 30 rfl rfl (l01OwnM_spec l (by omega)) (by simp only [go_sem, Nat.reduceMul, Nat.reduceLeDiff, Nat.reduceLT, reduceIte, reduceCtorEq, Nat.reduceEqDiff, Nat.reduceSub, Nat.reduceAdd, List.toList_toArray] <;> first | rfl | exact ⟨rfl, rfl⟩) rfl (by simp) rfl (inK_shift (by decide)) (by first | exact keeps_nil _ _ | (simp only [keeps_cons, keeps_nil', go_sem, Nat.reduceMul, Nat.reduceLeDiff, Nat.reduceLT, reduceIte, reduceCtorEq, Nat.reduceEqDiff, Nat.reduceSub, Nat.reduceAdd] <;> rfl)) ?_
          simp only [Tryz.results56, go_sem, Nat.reduceMul, Nat.reduceLeDiff, Nat.reduceLT, reduceIte, reduceCtorEq, Nat.reduceEqDiff, Nat.reduceSub, Nat.reduceAdd]
          refine ⟨_, fun _ _ => OpP.buildRd T_ok [.int .i64 u] rfl rfl rfl (by decide) rfl (by simp only [go_sem, Nat.reduceMul, Nat.reduceLeDiff, Nat.reduceLT, reduceIte, reduceCtorEq, Nat.reduceEqDiff, Nat.reduceSub, Nat.reduceAdd] <;> rfl) rfl, (by simp only [go_sem, Nat.reduceMul, Nat.reduceLeDiff, Nat.reduceLT, reduceIte, reduceCtorEq, Nat.reduceEqDiff, Nat.reduceSub, Nat.reduceAdd]), ?_⟩
          simp only [Tryz.results56, go_sem, Nat.reduceMul, Nat.reduceLeDiff, Nat.reduceLT, reduceIte, reduceCtorEq, Nat.reduceEqDiff, Nat.reduceSub, Nat.reduceAdd]
          refine HereC.append T_ok (I [(u : Int)]) rfl rfl (by decide) (by simp only [go_sem, Nat.reduceMul, Nat.reduceLeDiff, Nat.reduceLT, reduceIte, reduceCtorEq, Nat.reduceEqDiff, Nat.reduceSub, Nat.reduceAdd] <;> rfl) (by decide) (by simp only [go_sem, Nat.reduceMul, Nat.reduceLeDiff, Nat.reduceLT, reduceIte, reduceCtorEq, Nat.reduceEqDiff, Nat.reduceSub, Nat.reduceAdd] <;> rfl) (by simp only [go_sem, Nat.reduceMul, Nat.reduceLeDiff, Nat.reduceLT, reduceIte, reduceCtorEq, Nat.reduceEqDiff, Nat.reduceSub, Nat.reduceAdd] <;> rfl) (I_one _) (by rw [I_len, I_len]; simp; omega) rfl (keeps_nil _ _) ?_
          simp only [Tryz.results56, go_sem, Nat.reduceMul, Nat.reduceLeDiff, Nat.reduceLT, reduceIte, reduceCtorEq, Nat.reduceEqDiff, Nat.reduceSub, Nat.reduceAdd]
          refine ⟨calm_ne rfl, ?_⟩
          refine HereC.callMM 31 [51] 50 (by decide) rfl (by simp only [go_sem, Nat.reduceMul, Nat.reduceLeDiff, Nat.reduceLT, reduceIte, reduceCtorEq, Nat.reduceEqDiff, Nat.reduceSub, Nat.reduceAdd] <;> rfl) hc (by simp only [go_sem, Nat.reduceMul, Nat.reduceLeDiff, Nat.reduceLT, reduceIte, reduceCtorEq, Nat.reduceEqDiff, Nat.reduceSub, Nat.reduceAdd, List.toList_toArray, ↓reduceIte]) rfl (by decide) (by decide) rfl rfl rfl (Nat.le_of_ble_eq_true rfl) rfl rfl rfl (inK_mm rfl rfl rfl) (keeps_nil _ _) ?_
          simp only [Tryz.results56, go_sem, Nat.reduceMul, Nat.reduceLeDiff, Nat.reduceLT, reduceIte, reduceCtorEq, Nat.reduceEqDiff, Nat.reduceSub, Nat.reduceAdd]
          exact ⟨by unfold InR; omega, (u + 1, false), ⟨by dsimp only; omega, by dsimp only; omega⟩, by dsimp only; omega, ⟨rfl, by push_cast; rfl⟩, by dsimp only; rw [if_pos rfl, hstep hU]⟩
      · obtain rfl : u = m.toNat := by omega
        refine RetM.one1 51 (by decide) (by simp only [Tryz.results56, go_sem, Nat.reduceMul, Nat.reduceLeDiff, Nat.reduceLT, reduceIte, reduceCtorEq, Nat.reduceEqDiff, Nat.reduceSub, Nat.reduceAdd]; rfl) rfl ?_
        simp only [Tryz.results56, go_sem, Nat.reduceMul, Nat.reduceLeDiff, Nat.reduceLT, reduceIte, reduceCtorEq, Nat.reduceEqDiff, Nat.reduceSub, Nat.reduceAdd]
        rw [dfsS, if_pos hf]
theorem go_spec (t : List (List Int)) (m : Int) (hg : Grp t) (hm : 2 ≤ m ∧ m ≤ 12) : ∀ k, GoS t m k
  | 0 => go_zero t m hg hm
  | k + 1 => go_succ t m hg hm k (go_spec t m hg hm k)
theorem l02All_spec (t : List (List Int)) (m : Int) (hg : Grp t) (hm : 2 ≤ m ∧ m ≤ 12) : Spec Tryz.prog 31 [.agg [.rds (II t)], .v (.int .i64 m)] (.own 0) [.mods 35 2 (mq (withM m (dfsM t m t.length [])))] := by
  have h8 := hg.2.1
  have hp8 : 12 ^ t.length ≤ 12 ^ 8 := Nat.pow_le_pow_right (by decide) h8
  have hc := go_spec t m hg hm t.length [] [] (by simp) (fun j hj => by simp at hj) (by simp at hp8 ⊢; omega)
  rw [dfs_all hg hm] at hc
  refine Spec.of_codeC T_ok Tryz.func31 rfl Tryz.ntmps31 Tryz.call31 (Nat.le_of_ble_eq_true rfl) rfl rfl (CodeV_sound T_ok (by kernel_rfl) rfl ?_)
  simp only [Tryz.results31, go_sem, Nat.reduceMul, Nat.reduceLeDiff, Nat.reduceLT, reduceIte, reduceCtorEq, Nat.reduceEqDiff, Nat.reduceSub, Nat.reduceAdd]
  refine HereO.buildRow T_ok 120 (I []) rfl rfl rfl (by decide) rfl (by first | rfl | (simp only [go_sem, Nat.reduceMul, Nat.reduceLeDiff, Nat.reduceLT, reduceIte, reduceCtorEq, Nat.reduceEqDiff, Nat.reduceSub, Nat.reduceAdd] <;> rfl)) rfl (by decide) ?_
  simp only [Tryz.results31, go_sem, Nat.reduceMul, Nat.reduceLeDiff, Nat.reduceLT, reduceIte, reduceCtorEq, Nat.reduceEqDiff, Nat.reduceSub, Nat.reduceAdd]
  refine HereO.makeMods T_ok 2 rfl sl2m_ok 130 (by decide) ?_
  simp only [Tryz.results31, go_sem, Nat.reduceMul, Nat.reduceLeDiff, Nat.reduceLT, reduceIte, reduceCtorEq, Nat.reduceEqDiff, Nat.reduceSub, Nat.reduceAdd]
  refine HereO.callM T_ok 31 [130] rfl rfl (hc) (by simp only [go_sem, Nat.reduceMul, Nat.reduceLeDiff, Nat.reduceLT, reduceIte, reduceCtorEq, Nat.reduceEqDiff, Nat.reduceSub, Nat.reduceAdd, List.toList_toArray, ↓reduceIte]) rfl (by decide) (by decide) rfl rfl rfl (Nat.le_of_ble_eq_true rfl) ?_
  simp only [Tryz.results31, go_sem, Nat.reduceMul, Nat.reduceLeDiff, Nat.reduceLT, reduceIte, reduceCtorEq, Nat.reduceEqDiff, Nat.reduceSub, Nat.reduceAdd]
  exact RetC.of (RetT.one 1497 (by simp only [Tryz.results31, go_sem, Nat.reduceMul, Nat.reduceLeDiff, Nat.reduceLT, reduceIte, reduceCtorEq, Nat.reduceEqDiff, Nat.reduceSub, Nat.reduceAdd]; rfl) (by simp only [Tryz.results31, go_sem, Nat.reduceMul, Nat.reduceLeDiff, Nat.reduceLT, reduceIte, reduceCtorEq, Nat.reduceEqDiff, Nat.reduceSub, Nat.reduceAdd] <;> simp [mq]) (by simp only [Tryz.results31, go_sem, Nat.reduceMul, Nat.reduceLeDiff, Nat.reduceLT, reduceIte, reduceCtorEq, Nat.reduceEqDiff, Nat.reduceSub, Nat.reduceAdd] <;> simp [mq]))
end Go.Proofs.YtcjhojdlfnpgjaaGreatDoor
