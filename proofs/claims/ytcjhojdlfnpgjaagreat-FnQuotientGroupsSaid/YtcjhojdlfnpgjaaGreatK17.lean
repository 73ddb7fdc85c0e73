/- Contracts: direct products by the specification; Contracts: homomorphisms of groups; Contracts: DirectProduct. -/
import Derived.Test.YtcjhojdlfnpgjaaGreatK16
import Derived.Test.YtcjhojdlfnpgjaaGreatK15
import Derived.Test.YtcjhojdlfnpgjaaGreatK10
set_option linter.unusedVariables false
set_option linter.unusedSimpArgs false
set_option maxRecDepth 100000
namespace Go.Proofs.YtcjhojdlfnpgjaaGreat
open Go.RowKit
def Tbl (t : List (List Int)) : Prop := ∀ a, a < t.length → (t.getD a []).length = t.length ∧ ∀ b, b < t.length → 0 ≤ ee t a b ∧ ee t a b ≤ 64
theorem Grp.tbl {t : List (List Int)} (h : Grp t) : Tbl t := by
  intro a ha
  obtain ⟨h1, h2⟩ := h.2.2.1 a ha
  have h8 := h.2.1
  refine ⟨h1, fun b hb => ?_⟩
  have := h2 b (by omega)
  have e : ee t a b = (t.getD a []).getD b 0 := rfl
  omega
theorem tab_tbl {f : Nat → Nat → Int} {n : Nat} (h : ∀ a b, a < n → b < n → 0 ≤ f a b ∧ f a b ≤ 64) : Tbl (tab f n n) := by
  intro a ha
  rw [tab_len] at ha
  have hg : (tab f n n).getD a [] = upTo (f a) n := by
    rw [List.getD_eq_getElem?_getD, tab, List.getElem?_map, List.getElem?_range ha]
    rfl
  rw [tab_len, hg, upTo_len]
  refine ⟨rfl, fun b hb => ?_⟩
  unfold ee
  rw [hg, upTo_get _ hb]
  exact h a b ha hb
def prodF (g h : List (List Int)) (a b : Nat) : Int := (h.length : Int) * ee g (a / h.length) (b / h.length) + ee h (a % h.length) (b % h.length)
theorem l01Product_spec (g h : List (List Int)) (hn : g.length ≤ 64) (hm : 1 ≤ h.length) (hm2 : h.length ≤ 64) (Tg : Tbl g) (Th : Tbl h) : Spec Tryz.prog 72 [.agg [.rds (II g)], .agg [.rds (II h)]] (.agg [.own 0]) [.rows 27 2 (II (tab (prodF g h) (g.length * h.length) (g.length * h.length)))] := by
  have hnm : g.length * h.length ≤ 64 * 64 := Nat.mul_le_mul hn hm2
  have hcast : (g.length : Int) * (h.length : Int) = ((g.length * h.length : Nat) : Int) := by push_cast; rfl
  refine Spec.of_code T_ok Tryz.func72 rfl Tryz.ntmps72 Tryz.call72 (Nat.le_of_ble_eq_true rfl) rfl rfl (CodeV_sound T_ok (by kernel_rfl) rfl ?_)
  refine WW ?_
  refine HereO.alloc T_ok 104 rfl rfl (by decide) ?_
  refine WW ?_
  refine HereO.call T_ok rfl rfl (l01N_spec h) SA rfl ?_
  refine WW ?_
  refine HereO.buildRow T_ok 120 [] rfl rfl rfl (by decide) rfl rfl rfl (by decide) ?_
  refine WW ?_
  refine HereO.conv (Conv.rows (id := 120) (e := 27) 2 0 SE) ?_
  refine HereO.opP T_ok (OpP.build built_26 rfl rfl rfl rfl) ?_
  refine WW ?_
  refine HereO.alloc T_ok 106 rfl rfl (by decide) ?_
  refine WW ?_
  refine HereO.storeAgg T_ok rfl SS SS rfl SS SS rfl rfl ?_
  refine WW ?_
  refine Here.loopV T_ok (fun k => k ≤ g.length * h.length) (fun k => g.length * h.length - k) (fun k => [(2, .box [.rds (II g)]), (3, .box [.rds (II h)]), (4, .ptr 104 0), (5, .v (.int .i64 h.length)), (6, .ptr 106 0), (7, .v (.int .i64 k))])
    (fun k => [(104, .cells 26 [.v nilV]), (106, .cells 26 [.own 120]), (120, .rows 27 2 (II (tab (prodF g h) (g.length * h.length) k)))]) 0 (by simp) (by simp only [go_sem, Nat.reduceMul, Nat.reduceLeDiff, Nat.reduceLT, reduceIte, reduceCtorEq, Nat.reduceEqDiff, Nat.reduceSub, Nat.reduceAdd]; simp) (by simp only [go_sem, Nat.reduceMul, Nat.reduceLeDiff, Nat.reduceLT, reduceIte, reduceCtorEq, Nat.reduceEqDiff, Nat.reduceSub, Nat.reduceAdd]; simp [tab, II, nilV]) ?_
  intro k hk
  refine WW ?_
  refine HereO.call T_ok rfl rfl (l01N_spec g) SA rfl ?_
  refine WW ?_
  rw [hcast]
  refine ⟨by unfold InR; omega, fun h2 => ?_, fun h2 => ?_⟩
  · refine HereO.buildRow T_ok 130 (I []) rfl rfl rfl (by decide) rfl SS rfl (by decide) ?_
    refine WW ?_
    refine Here.loopV T_ok (fun j => j ≤ g.length * h.length) (fun j => g.length * h.length - j) (fun j => [(2, .box [.rds (II g)]), (3, .box [.rds (II h)]), (4, .ptr 104 0), (5, .v (.int .i64 h.length)), (6, .ptr 106 0), (7, .v (.int .i64 k)), (8, .own 130), (9, .v (.int .i64 j))])
      (fun j => [(104, .cells 26 [.v nilV]), (106, .cells 26 [.own 120]), (120, .rows 27 2 (II (tab (prodF g h) (g.length * h.length) k))), (130, .row 2 (I (upTo (prodF g h k) j)))]) 0 (by simp) (by simp only [go_sem, Nat.reduceMul, Nat.reduceLeDiff, Nat.reduceLT, reduceIte, reduceCtorEq, Nat.reduceEqDiff, Nat.reduceSub, Nat.reduceAdd]; simp) (by simp only [go_sem, Nat.reduceMul, Nat.reduceLeDiff, Nat.reduceLT, reduceIte, reduceCtorEq, Nat.reduceEqDiff, Nat.reduceSub, Nat.reduceAdd]; simp [upTo, I]) ?_
    intro j hj
    refine WW ?_
    refine HereO.call T_ok rfl rfl (l01N_spec g) SA rfl ?_
    refine WW ?_
    rw [hcast]
    refine ⟨by unfold InR; omega, fun h3 => ?_, fun h3 => ?_⟩
    · refine Here.drawS T_ok 29 (Nat.le_of_ble_eq_true rfl) mixed_ok (by kernel_rfl) (by kernel_rfl) ?_
      refine WW ?_
      have e1 : (k : Int).tdiv (h.length : Int) = ((k / h.length : Nat) : Int) := rfl
      have e2 : (j : Int).tdiv (h.length : Int) = ((j / h.length : Nat) : Int) := rfl
      have e3 : (k : Int).tmod (h.length : Int) = ((k % h.length : Nat) : Int) := rfl
      have e4 : (j : Int).tmod (h.length : Int) = ((j % h.length : Nat) : Int) := rfl
      rw [e1, e2, e3, e4]
      simp only [Int.toNat_natCast]
      have d1 : k / h.length < g.length := Nat.div_lt_of_lt_mul (by rw [Nat.mul_comm]; omega)
      have d2 : j / h.length < g.length := Nat.div_lt_of_lt_mul (by rw [Nat.mul_comm]; omega)
      have d3 : k % h.length < h.length := Nat.mod_lt _ (by omega)
      have d4 : j % h.length < h.length := Nat.mod_lt _ (by omega)
      obtain ⟨r1, r2⟩ := Tg _ d1
      obtain ⟨r3, r4⟩ := Th _ d3
      have v1 := r2 _ d2
      have v2 := r4 _ d4
      have hv : prodF g h k j = (h.length : Int) * (g.getD (k / h.length) []).getD (j / h.length) 0 + (h.getD (k % h.length) []).getD (j % h.length) 0 := rfl
      have k1 : 0 ≤ (h.length : Int) * ee g (k / h.length) (j / h.length) := Int.mul_nonneg (by omega) v1.1
      have k2 : (h.length : Int) * ee g (k / h.length) (j / h.length) ≤ 64 * 64 := Int.mul_le_mul (by omega) v1.2 v1.1 (by omega)
      unfold ee at k1 k2 v2
      rw [← hv, r1, r3]
      generalize k / h.length = q1 at *
      generalize j / h.length = q2 at *
      generalize k % h.length = q3 at *
      generalize j % h.length = q4 at *
      refine ⟨⟨by omega, by unfold InR; omega⟩, ⟨by omega, by omega⟩, ⟨by omega, by unfold InR; omega⟩, ⟨by omega, by omega⟩, by unfold InR; omega, by omega, ⟨by omega, by omega⟩, by omega, ⟨by omega, by omega⟩, by unfold InR; omega, ?_⟩
      refine ⟨_, OpP.buildRd T_ok (I [prodF g h k j]) rfl rfl rfl (by decide) rfl (by simp only [go_sem, Nat.reduceMul, Nat.reduceLeDiff, Nat.reduceLT, reduceIte, reduceCtorEq, Nat.reduceEqDiff, Nat.reduceSub, Nat.reduceAdd]; rw [hv]; rfl) rfl, ?_⟩
      refine WW ?_
      refine HereO.append T_ok (I [prodF g h k j]) rfl rfl (by decide) SS (by decide) SS SS (.rd _) (I_one _) (by rw [I_len, I_len, upTo_len]; simp; omega) ?_
      refine WW ?_
      exact ⟨by unfold InR; omega, j + 1, by omega, by omega, by simp, by rw [I_append, upTo_succ]⟩
    · have : j = g.length * h.length := by omega
      subst this
      refine HereO.buildRowL T_ok 150 [.own 130] rfl rfl rfl (by decide) rfl SS rfl (by decide) SS ?_
      refine WW ?_
      refine HereO.appendRows T_ok (id := 120) (j := 150) (i := 130) rfl rfl (by decide) SS (by decide) SS SS SS SS (by decide) (by decide) (by rw [II_len, tab_len]; omega) ?_
      refine WW ?_
      refine HereO.store T_ok rfl SS SS rfl SS rfl SS (by decide) ?_
      refine WW ?_
      refine ⟨by unfold InR; omega, k + 1, by omega, by omega, by simp, by simp [II_append, tab_succ]⟩
  · have : k = g.length * h.length := by omega
    subst this
    refine HereO.storeAgg T_ok rfl SS SS rfl SS SS rfl rfl ?_
    refine WW ?_
    refine RetT.one 120 SE rfl ?_
    exact WW trivial
end Go.Proofs.YtcjhojdlfnpgjaaGreat
namespace Go.Proofs.YtcjhojdlfnpgjaaGreat
open Go.RowKit
theorem areGroups2_spec (t u : List (List Int)) : Spec Tryz.prog 53 [.rdL [.rds (II t), .rds (II u)]] (.v (.bool (decide (Grp t ∧ Grp u)))) [] := by
  refine Spec.of_code T_ok Tryz.func53 rfl Tryz.ntmps53 Tryz.call53 (Nat.le_of_ble_eq_true rfl) rfl rfl (CodeV_sound T_ok (by kernel_rfl) rfl ?_)
  refine WW ?_
  refine Here.loopV T_ok (fun k => k ≤ 2 ∧ (0 < k → Grp t) ∧ (1 < k → Grp u)) (fun k => 2 - k) (fun k => [(5, .rdL [.rds (II t), .rds (II u)]), (6, .v (.int .i64 2)), (7, .v (.int .i64 k))]) (fun _ => []) 0 (by simp) (by simp only [go_sem, Nat.reduceMul, Nat.reduceLeDiff, Nat.reduceLT, reduceIte, reduceCtorEq, Nat.reduceEqDiff, Nat.reduceSub, Nat.reduceAdd]; simp) trivial ?_
  rintro k ⟨hk, hj⟩
  obtain rfl | rfl | rfl : k = 0 ∨ k = 1 ∨ k = 2 := by omega
  · refine WW ?_
    try simp only [List.getD_cons_zero]
    refine ⟨fun _ => ⟨by omega, ?_⟩, fun h => absurd (by decide) h⟩
    refine HereO.alloc T_ok 104 rfl rfl (by decide) ?_
    refine WW ?_
    refine HereO.storeAgg T_ok rfl SS SS rfl SS rfl rfl rfl ?_
    refine WW ?_
    refine HereO.call T_ok rfl rfl (IsGroup_spec t) SA rfl ?_
    refine WW ?_
    exact ⟨fun h => (decide_eq_false fun g => h g.1).symm, fun h => ⟨by unfold InR; omega, 1, ⟨by omega, fun _ => h, fun q => by omega⟩, by omega, rfl⟩⟩
  · refine WW ?_
    simp only [List.getD_cons_zero, List.getD_cons_succ]
    refine ⟨fun _ => ⟨by omega, ?_⟩, fun h => absurd (by decide) h⟩
    refine HereO.alloc T_ok 104 rfl rfl (by decide) ?_
    refine WW ?_
    refine HereO.storeAgg T_ok rfl SS SS rfl SS rfl rfl rfl ?_
    refine WW ?_
    refine HereO.call T_ok rfl rfl (IsGroup_spec u) SA rfl ?_
    refine WW ?_
    exact ⟨fun h => (decide_eq_false fun g => h g.2).symm, fun h => ⟨by unfold InR; omega, 2, ⟨by omega, fun _ => hj.1 (by omega), fun _ => h⟩, by omega, rfl⟩⟩
  · refine WW ?_
    exact ⟨fun h => absurd h (by decide), fun _ => (decide_eq_true ⟨hj.1 (by omega), hj.2 (by omega)⟩).symm⟩
def codeH (t u : List (List Int)) (l : List Int) : Int := if Grp t ∧ Grp u then (if l.length = t.length ∧ AreIn u.length l then 0 else 2) else 1
theorem codeH_ok {t u : List (List Int)} {l : List Int} (h : codeH t u l = 0) : Grp t ∧ Grp u ∧ l.length = t.length ∧ AreIn u.length l := by
  unfold codeH at h
  split at h
  · rename_i h1
    split at h
    · rename_i h2; exact ⟨h1.1, h1.2, h2.1, h2.2⟩
    · omega
  · omega
theorem imagesCode_spec (t u : List (List Int)) (l : List Int) (hl : l.length ≤ 1048576) : Spec Tryz.prog 41 [.agg [.rds (II t)], .agg [.rds (II u)], .rd (I l)] (.v (.int .i64 (codeH t u l))) [] := by
  refine Spec.of_code T_ok Tryz.func41 rfl Tryz.ntmps41 Tryz.call41 (Nat.le_of_ble_eq_true rfl) rfl rfl (CodeV_sound T_ok (by kernel_rfl) rfl ?_)
  refine WW ?_
  refine HereO.buildAggs T_ok 110 [.rds (II t), .rds (II u)] rfl rfl rfl (by decide) (by decide) rfl SS (by decide) rfl ?_
  refine WW ?_
  refine HereO.call T_ok rfl rfl (areGroups2_spec t u) SA rfl ?_
  refine WW ?_
  refine ⟨fun h => by unfold codeH; rw [if_neg h], fun h => ?_⟩
  refine HereO.call T_ok rfl rfl (order_spec t) SA rfl ?_
  refine WW ?_
  unfold codeH
  rw [if_pos h]
  refine ⟨fun h2 => ?_, fun h2 => by rw [if_neg fun g => h2 (by rw [g.1])]⟩
  refine HereO.call T_ok rfl rfl (order_spec u) SA rfl ?_
  refine WW ?_
  refine HereO.call T_ok rfl rfl (areIn_spec u.length l hl) SA rfl ?_
  refine WW ?_
  exact ⟨fun h3 => by rw [if_neg fun g => h3 g.2], fun h3 => by rw [if_pos ⟨by omega, h3⟩]⟩
def Hom (t u : List (List Int)) (l : List Int) : Prop := ∀ a, a < l.length → ∀ b, b < l.length → ee t a b < l.length → l.getD (ee t a b).toNat 0 = ee u (l.getD a 0).toNat (l.getD b 0).toNat
instance (t u : List (List Int)) (l : List Int) : Decidable (Hom t u l) := by unfold Hom; infer_instance
theorem isHomomorphism_spec (t u : List (List Int)) (l : List Int) (ht : Grp t) (hu : Grp u) (hl : l.length ≤ t.length) (hi : AreIn u.length l) : Spec Tryz.prog 42 [.agg [.rds (II t)], .agg [.rds (II u)], .rd (I l)] (.v (.bool (decide (Hom t u l)))) [] := by
  have h8 := ht.2.1
  refine Spec.of_code T_ok Tryz.func42 rfl Tryz.ntmps42 Tryz.call42 (Nat.le_of_ble_eq_true rfl) rfl rfl (CodeV_sound T_ok (by kernel_rfl) rfl ?_)
  refine WW ?_
  refine Here.loopV T_ok (fun k => k ≤ l.length ∧ ∀ a, a < k → ∀ b, b < l.length → ee t a b < l.length → l.getD (ee t a b).toNat 0 = ee u (l.getD a 0).toNat (l.getD b 0).toNat) (fun k => l.length - k) (fun k => [(2, .rd (I l)), (3, .box [.rds (II t)]), (4, .box [.rds (II u)]), (7, .v (.int .i64 l.length)), (13, .v (.int .i64 l.length)), (14, .v (.int .i64 k))]) (fun _ => []) 0 (by simp) SE trivial ?_
  rintro a ⟨ha, hall⟩
  refine WW ?_
  refine ⟨fun h1 => ?_, fun h1 => (decide_eq_true fun a h => hall a (by omega)).symm⟩
  refine Here.loopV T_ok (fun k => k ≤ l.length ∧ ∀ b, b < k → ee t a b < l.length → l.getD (ee t a b).toNat 0 = ee u (l.getD a 0).toNat (l.getD b 0).toNat) (fun k => l.length - k) (fun k => [(2, .rd (I l)), (3, .box [.rds (II t)]), (4, .box [.rds (II u)]), (7, .v (.int .i64 l.length)), (8, .v (.int .i64 a)), (13, .v (.int .i64 l.length)), (14, .v (.int .i64 a)), (17, .v (.int .i64 l.length)), (18, .v (.int .i64 k))]) (fun _ => []) 0 (by simp) SE trivial ?_
  rintro b ⟨hb, hbs⟩
  refine WW ?_
  refine ⟨fun h2 => ?_, fun h2 => ⟨by unfold InR; omega, a + 1, ⟨by omega, fun a' h => ?_⟩, by omega, rfl⟩⟩
  · refine HereO.buildRow T_ok 124 (I [a, b]) rfl rfl rfl (by decide) rfl SS rfl (by decide) ?_
    refine WW ?_
    have hab : AreIn t.length [(a : Int), b] := by
      intro j hj
      match j, hj with
      | 0, _ => simp; omega
      | 1, _ => simp; omega
    refine HereO.call T_ok rfl rfl (times_spec t [a, b] ht hab (by simp)) SA rfl ?_
    refine WW ?_
    rw [tm_two ht (by omega)]
    simp only [Int.toNat_natCast]
    have he := (ht.2.2.1 a (by omega)).2 b (by omega)
    refine Here.draw T_ok mixed_ok (by kernel_rfl) ?_
    refine WW ?_
    have hla := hi a (by omega)
    have hlb := hi b (by omega)
    have hab' : AreIn u.length [l.getD a 0, l.getD b 0] := by
      intro j hj
      match j, hj with
      | 0, _ => exact hla
      | 1, _ => exact hlb
    refine ⟨fun h3 => ⟨by omega, by omega, by omega, _, OpP.buildRd T_ok (I [l.getD a 0, l.getD b 0]) rfl rfl rfl (by decide) rfl SS rfl, ?_⟩, fun h3 => ⟨by unfold InR; omega, b + 1, ⟨by omega, fun b' h h4 => ?_⟩, by omega, rfl⟩⟩
    · refine WW ?_
      refine ⟨_, OpP.call' rfl rfl (times_spec u [l.getD a 0, l.getD b 0] hu hab' (by simp)) SA rfl, ?_⟩
      refine WW ?_
      rw [tm_two hu hla]
      refine ⟨fun h4 => (decide_eq_false fun h => h4 (h a (by omega) b (by omega) h3)).symm, fun h4 => ⟨by unfold InR; omega, b + 1, ⟨by omega, fun b' h h5 => ?_⟩, by omega, rfl⟩⟩
      by_cases e : b' = b
      · subst e; exact h4
      · exact hbs b' (by omega) h5
    · by_cases e : b' = b
      · subst e; omega
      · exact hbs b' (by omega) h4
  · by_cases e : a' = a
    · subst e; exact fun b h => hbs b (by omega)
    · exact hall a' (by omega)
theorem l01Homomorphism_spec (t u : List (List Int)) (l : List Int) (ht : Grp t) (hu : Grp u) (hl : l.length = t.length) (hi : AreIn u.length l) : Spec Tryz.prog 78 [.agg [.rds (II t)], .agg [.rds (II u)], .rd (I l)] (.v (.bool (decide (Hom t u l)))) [] := by
  have h8 := ht.2.1
  refine Spec.of_code T_ok Tryz.func78 rfl Tryz.ntmps78 Tryz.call78 (Nat.le_of_ble_eq_true rfl) rfl rfl (CodeV_sound T_ok (by kernel_rfl) rfl ?_)
  refine WW ?_
  refine Here.loopV T_ok (fun k => k ≤ t.length ∧ ∀ a, a < k → ∀ b, b < t.length → l.getD (ee t a b).toNat 0 = ee u (l.getD a 0).toNat (l.getD b 0).toNat) (fun k => t.length - k) (fun k => [(2, .rd (I l)), (3, .box [.rds (II t)]), (4, .box [.rds (II u)]), (7, .v (.int .i64 k))]) (fun _ => []) 0 (by simp) SE trivial ?_
  rintro a ⟨ha, hall⟩
  refine WW ?_
  refine HereO.call T_ok rfl rfl (l01N_spec t) SA rfl ?_
  refine WW ?_
  refine ⟨fun h1 => ?_, fun h1 => (decide_eq_true fun a h b h' _ => hall a (by omega) b (by omega)).symm⟩
  refine Here.loopV T_ok (fun k => k ≤ t.length ∧ ∀ b, b < k → l.getD (ee t a b).toNat 0 = ee u (l.getD a 0).toNat (l.getD b 0).toNat) (fun k => t.length - k) (fun k => [(2, .rd (I l)), (3, .box [.rds (II t)]), (4, .box [.rds (II u)]), (7, .v (.int .i64 a)), (8, .v (.int .i64 k))]) (fun _ => []) 0 (by simp) SE trivial ?_
  rintro b ⟨hb, hbs⟩
  refine WW ?_
  refine HereO.call T_ok rfl rfl (l01N_spec t) SA rfl ?_
  refine WW ?_
  refine ⟨fun h2 => ?_, fun h2 => ⟨by unfold InR; omega, a + 1, ⟨by omega, fun a' h => ?_⟩, by omega, rfl⟩⟩
  · have la := (ht.2.2.1 a (by omega)).1
    have he := (ht.2.2.1 a (by omega)).2 b (by omega)
    have hla := hi a (by omega)
    have hlb := hi b (by omega)
    have lu := (hu.2.2.1 (l.getD a 0).toNat (by omega)).1
    unfold ee at he
    refine Here.draw T_ok mixed_ok (by kernel_rfl) ?_
    refine WW ?_
    refine ⟨by omega, by omega, by omega, by omega, by omega, by omega, by omega, fun h3 => (decide_eq_false fun h => h3 (h a (by omega) b (by omega) (by unfold ee; omega))).symm, fun h3 => ⟨by unfold InR; omega, b + 1, ⟨by omega, fun b' h => ?_⟩, by omega, rfl⟩⟩
    by_cases e : b' = b
    · subst e; exact h3
    · exact hbs b' (by omega)
  · by_cases e : a' = a
    · subst e; exact fun b h => hbs b (by omega)
    · exact hall a' (by omega)
def homV (t u : List (List Int)) (l : List Int) : Bool := decide (codeH t u l = 0 ∧ Hom t u l)
theorem implIsHomomorphism (t u : List (List Int)) (l : List Int) (hl : l.length ≤ 1048576) : Spec Tryz.prog 12 [.agg [.rds (II t)], .agg [.rds (II u)], .rd (I l)] (.tup [.v (.bool (homV t u l)), .v (.int .i64 (codeH t u l))]) [] := by
  refine Spec.of_code T_ok Tryz.func12 rfl Tryz.ntmps12 Tryz.call12 (Nat.le_of_ble_eq_true rfl) rfl rfl (CodeV_sound T_ok (by kernel_rfl) rfl ?_)
  refine WW ?_
  refine HereO.call T_ok rfl rfl (imagesCode_spec t u l hl) SA rfl ?_
  refine WW ?_
  refine ⟨fun h => ?_, fun h => ?_⟩
  · unfold homV
    rw [decide_eq_false fun g => h g.1]
  · obtain ⟨h1, h2, h3, h4⟩ := codeH_ok h
    refine HereO.call T_ok rfl rfl (isHomomorphism_spec t u l h1 h2 (by omega) h4) SA rfl ?_
    refine WW ?_
    exact ⟨by simp [homV, h], h.symm⟩
theorem specIsHomomorphism (t u : List (List Int)) (l : List Int) (hl : l.length ≤ 1048576) : Spec Tryz.prog 30 [.agg [.rds (II t)], .agg [.rds (II u)], .rd (I l)] (.tup [.v (.bool (homV t u l)), .v (.int .i64 (codeH t u l))]) [] := by
  refine Spec.of_code T_ok Tryz.func30 rfl Tryz.ntmps30 Tryz.call30 (Nat.le_of_ble_eq_true rfl) rfl rfl (CodeV_sound T_ok (by kernel_rfl) rfl ?_)
  refine WW ?_
  refine HereO.call T_ok rfl rfl (l01Is_spec t) SA rfl ?_
  refine WW ?_
  refine ⟨fun h => ?_, fun h => by simp [homV, codeH, h]⟩
  refine HereO.call T_ok rfl rfl (l01Is_spec u) SA rfl ?_
  refine WW ?_
  refine ⟨fun h' => by simp [homV, codeH, h'], fun h' => ⟨fun h3 => ?_, fun h3 => ?_⟩⟩
  · refine HereO.call T_ok rfl rfl (l01Elements_spec u l hl) SA rfl ?_
    refine WW ?_
    have hc : codeH t u l = if AreIn u.length l then 0 else 2 := by
      unfold codeH
      rw [if_pos ⟨h, h'⟩]
      by_cases g : AreIn u.length l
      · rw [if_pos ⟨by omega, g⟩, if_pos g]
      · rw [if_neg fun q => g q.2, if_neg g]
    have hc2 : codeE u l = if AreIn u.length l then 0 else 2 := by unfold codeE; rw [if_pos h']
    rw [hc2]
    refine ⟨fun h4 => ?_, fun h4 => ?_⟩
    · by_cases g : AreIn u.length l
      · rw [if_pos g] at h4; exact absurd rfl h4
      · simp [homV, hc, if_neg g]
    · by_cases g : AreIn u.length l
      · rw [if_pos g] at hc
        refine HereO.call T_ok rfl rfl (l01Homomorphism_spec t u l h h' (by omega) g) SA rfl ?_
        refine WW ?_
        exact ⟨by simp [homV, hc], hc.symm⟩
      · rw [if_neg g] at h4; omega
  · have hc : codeH t u l = 2 := by
      unfold codeH
      rw [if_pos ⟨h, h'⟩, if_neg fun g => h3 (by rw [g.1])]
    simp [homV, hc]
end Go.Proofs.YtcjhojdlfnpgjaaGreat
namespace Go.Proofs.YtcjhojdlfnpgjaaGreat
open Go.RowKit
def codeDP (t u : List (List Int)) : Int := if Grp t ∧ Grp u then (if t.length * u.length ≤ 8 then 0 else 3) else 1
def dpL (t u : List (List Int)) : List (List Int) := if codeDP t u = 0 then tab (prodF t u) (t.length * u.length) (t.length * u.length) else []
theorem codeDP_ok {t u : List (List Int)} (h : codeDP t u = 0) : Grp t ∧ Grp u ∧ t.length * u.length ≤ 8 := by
  unfold codeDP at h
  split at h
  · rename_i h1
    split at h
    · rename_i h2; exact ⟨h1.1, h1.2, h2⟩
    · omega
  · omega
theorem tab_row {f : Nat → Nat → Int} {n m a : Nat} (h : a < m) : (tab f n m).getD a [] = upTo (f a) n := by
  rw [List.getD_eq_getElem?_getD, tab, List.getElem?_map, List.getElem?_range h]
  rfl
theorem cellsOf_append : ∀ (a b : List (List Int)), cellsOf (a ++ b) = cellsOf a + cellsOf b
  | [], b => by simp [cellsOf]
  | x :: a, b => by simp only [List.cons_append, cellsOf, cellsOf_append a b]; omega
theorem cells_tab (f : Nat → Nat → Int) (n : Nat) : ∀ m, cellsOf (tab f n m) = n * m
  | 0 => by simp [tab, cellsOf]
  | m + 1 => by rw [tab_succ, cellsOf_append, cells_tab f n m]; simp [cellsOf, upTo_len]; rw [Nat.mul_succ]
theorem okRows_tab (f : Nat → Nat → Int) (n m : Nat) (hn : n ≤ 64) (hm : m ≤ 64) : OkRows (tab f n m) := by
  have h := cells_tab f n m
  have h2 : n * m ≤ 64 * 64 := Nat.mul_le_mul hn hm
  refine ⟨by rw [tab_len]; omega, fun a ha => ?_, by omega⟩
  rw [tab_len] at ha
  rw [tab_row ha, upTo_len]
  omega
theorem okRows_nil : OkRows [] := ⟨by simp, fun a h => by simp at h, by simp [cellsOf]⟩
theorem dpL_ok (t u : List (List Int)) : OkRows (dpL t u) := by
  unfold dpL
  split
  · rename_i h
    have := (codeDP_ok h).2.2
    exact okRows_tab _ _ _ (by omega) (by omega)
  · exact okRows_nil
theorem DirectProduct1_spec (t u : List (List Int)) (ht : Grp t) (hu : Grp u) (a b : Nat) (ha : a < t.length * u.length) (hb : b < t.length * u.length) : Spec Tryz.prog 71 [.v (.int .i64 a), .v (.int .i64 b), .box [.v (.int .i64 u.length)], .box [.rds (II t)], .box [.rds (II u)]] (.v (.int .i64 (prodF t u a b))) [] := by
  have t8 := ht.2.1
  have u8 := hu.2.1
  have u1 := hu.1
  have d1 : a / u.length < t.length := Nat.div_lt_of_lt_mul (by rw [Nat.mul_comm]; omega)
  have d2 : b / u.length < t.length := Nat.div_lt_of_lt_mul (by rw [Nat.mul_comm]; omega)
  have d3 : a % u.length < u.length := Nat.mod_lt _ (by omega)
  have d4 : b % u.length < u.length := Nat.mod_lt _ (by omega)
  have h1 := times2_spec t ht _ _ d1 d2
  have h2 := times2_spec u hu _ _ d3 d4
  have v1 := em_lt ht d1 d2
  have v2 := em_lt hu d3 d4
  have e1 : (a : Int).tdiv (u.length : Int) = ((a / u.length : Nat) : Int) := rfl
  have e2 : (b : Int).tdiv (u.length : Int) = ((b / u.length : Nat) : Int) := rfl
  have e3 : (a : Int).tmod (u.length : Int) = ((a % u.length : Nat) : Int) := rfl
  have e4 : (b : Int).tmod (u.length : Int) = ((b % u.length : Nat) : Int) := rfl
  have n1 : (0 : Int) ≤ ((a / u.length : Nat) : Int) := Int.natCast_nonneg _
  have n2 : (0 : Int) ≤ ((b / u.length : Nat) : Int) := Int.natCast_nonneg _
  refine Spec.of_code T_ok Tryz.func71 rfl Tryz.ntmps71 Tryz.call71 (Nat.le_of_ble_eq_true rfl) rfl rfl (CodeV_sound T_ok (by kernel_rfl) rfl ?_)
  refine WW ?_
  refine Here.draw T_ok mixed_ok (by kernel_rfl) ?_
  refine WW ?_
  rw [e1, e2]
  refine ⟨⟨by omega, by unfold InR; omega⟩, ⟨by omega, by unfold InR; omega⟩, ?_⟩
  refine ⟨_, OpP.buildRd T_ok (I [((a / u.length : Nat) : Int), ((b / u.length : Nat) : Int)]) rfl rfl rfl (by decide) rfl SS rfl, ?_⟩
  refine WW ?_
  refine ⟨_, OpP.call' rfl rfl h1 SA rfl, ?_⟩
  refine WW ?_
  have hle : u.length * em t (a / u.length) (b / u.length) ≤ 8 * 8 := Nat.mul_le_mul u8 (by omega)
  have hv : (u.length : Int) * ((em t (a / u.length) (b / u.length) : Nat) : Int) = ((u.length * em t (a / u.length) (b / u.length) : Nat) : Int) := by push_cast; rfl
  rw [hv, e3, e4]
  refine ⟨by unfold InR; omega, by omega, by omega, ?_⟩
  refine ⟨_, OpP.buildRd T_ok (I [((a % u.length : Nat) : Int), ((b % u.length : Nat) : Int)]) rfl rfl rfl (by decide) rfl SS rfl, ?_⟩
  refine WW ?_
  refine ⟨_, OpP.call' rfl rfl h2 SA rfl, ?_⟩
  refine WW ?_
  refine ⟨by unfold InR; omega, ?_⟩
  unfold prodF
  rw [em_ee ht d1 d2, em_ee hu d3 d4, hv]
theorem implDirectProduct (t u : List (List Int)) : Spec Tryz.prog 25 [.agg [.rds (II t)], .agg [.rds (II u)]] (.tup [.agg [.own 0], .v (.int .i64 (codeDP t u))]) [.rows 27 2 (II (dpL t u))] := by
  refine Spec.of_codeC T_ok Tryz.func25 rfl Tryz.ntmps25 Tryz.call25 (Nat.le_of_ble_eq_true rfl) rfl rfl (CodeV_sound T_ok (by kernel_rfl) rfl ?_)
  refine WW ?_
  refine HereO.alloc T_ok 104 rfl rfl (by decide) ?_
  refine WW ?_
  refine Here.drawSB T_ok [⟨4, 107, 2, [.int .i64 0], [], true⟩] 5 (Nat.le_of_ble_eq_true rfl) mixed_ok (by kernel_rfl) (by kernel_rfl) (by kernel_rfl) (by simp) (by simp) ?_
  refine WW ?_
  refine HereN.op (OpP.call' rfl rfl (order_spec t) SA rfl) SW ?_
  refine WW ?_
  refine HereN.op (OpP.call' rfl rfl (order_spec u) SA rfl) SW ?_
  refine WW ?_
  refine HereN.birth (List.mem_cons_self ..) rfl rfl (OpN.alloc T_ok rfl rfl rfl) SW ?_
  refine WW ?_
  refine HereE.of (Conv.bornCell 7 (id := 107) (e := 2) (vs := [.int .i64 0]) rfl rfl) ?_
  refine WW ?_
  refine HereO.store T_ok rfl SS SS rfl SS rfl rfl (by decide) ?_
  refine WW ?_
  refine HereO.buildAggs T_ok 110 [.rds (II t), .rds (II u)] rfl rfl rfl (by decide) (by decide) rfl SS (by decide) rfl ?_
  refine WW ?_
  refine HereO.call T_ok rfl rfl (areGroups2_spec t u) SA rfl ?_
  refine WW ?_
  have hcast : (t.length : Int) * (u.length : Int) = ((t.length * u.length : Nat) : Int) := by push_cast; rfl
  refine ⟨fun h => ?_, fun h => ?_⟩
  · have hc : codeDP t u = 1 := by unfold codeDP; rw [if_neg h]
    refine HereO.opP T_ok (OpP.build built_26 rfl rfl rfl rfl) ?_
    refine WW ?_
    refine HereO.storeAgg T_ok rfl SS SS rfl SS rfl rfl rfl ?_
    refine WW ?_
    refine RetC.conv (Conv.nilIn (c := 104) (tt := 26) (l := [.v nilV]) 0 120 (.rows 27 2 []) rfl (by decide) (by decide) (by rfl) rfl) (RetC.of (RetT.one 120 SE (by simp only [go_sem, Nat.reduceMul, Nat.reduceLeDiff, Nat.reduceLT, reduceIte, reduceCtorEq, Nat.reduceEqDiff, Nat.reduceSub, Nat.reduceAdd]; simp [hc]) (by simp only [go_sem, Nat.reduceMul, Nat.reduceLeDiff, Nat.reduceLT, reduceIte, reduceCtorEq, Nat.reduceEqDiff, Nat.reduceSub, Nat.reduceAdd]; simp [dpL, hc, II])))
  · have t8 := h.1.2.1
    have u8 := h.2.2.1
    have hle : t.length * u.length ≤ 8 * 8 := Nat.mul_le_mul t8 u8
    rw [hcast]
    refine ⟨by unfold InR; omega, fun h2 => ?_, fun h2 => ?_⟩
    · have hc : codeDP t u = 3 := by unfold codeDP; rw [if_pos h, if_neg (by omega)]
      refine HereO.opP T_ok (OpP.build built_26 rfl rfl rfl rfl) ?_
      refine WW ?_
      refine HereO.storeAgg T_ok rfl SS SS rfl SS rfl rfl rfl ?_
      refine WW ?_
      refine RetC.conv (Conv.nilIn (c := 104) (tt := 26) (l := [.v nilV]) 0 120 (.rows 27 2 []) rfl (by decide) (by decide) (by rfl) rfl) (RetC.of (RetT.one 120 SE (by simp only [go_sem, Nat.reduceMul, Nat.reduceLeDiff, Nat.reduceLT, reduceIte, reduceCtorEq, Nat.reduceEqDiff, Nat.reduceSub, Nat.reduceAdd]; simp [hc]) (by simp only [go_sem, Nat.reduceMul, Nat.reduceLeDiff, Nat.reduceLT, reduceIte, reduceCtorEq, Nat.reduceEqDiff, Nat.reduceSub, Nat.reduceAdd]; simp [dpL, hc, II])))
    · have hc : codeDP t u = 0 := by unfold codeDP; rw [if_pos h, if_pos (by omega)]
      refine ⟨by unfold InR; omega, ?_⟩
      refine HereO.callOwn T_ok 29 rfl rfl (made_spec (t.length * u.length) (by omega) 71 [.box [.v (.int .i64 u.length)], .box [.rds (II t)], .box [.rds (II u)]] (Fix.cons (Fix.box (Fix.v _)) (Fix.cons (Fix.box (Fix.rds _)) (Fix.box (Fix.rds _)))) (prodF t u) (fun a b ha hb => DirectProduct1_spec t u h.1 h.2 a b ha hb)) SA rfl (by simp) rfl ?_
      refine WW ?_
      refine HereO.storeAgg T_ok rfl SS SS rfl SS SS rfl rfl ?_
      refine WW ?_
      refine RetC.of (RetT.one 1464 SE (by simp only [go_sem, Nat.reduceMul, Nat.reduceLeDiff, Nat.reduceLT, reduceIte, reduceCtorEq, Nat.reduceEqDiff, Nat.reduceSub, Nat.reduceAdd]; simp [hc]) (by simp only [go_sem, Nat.reduceMul, Nat.reduceLeDiff, Nat.reduceLT, reduceIte, reduceCtorEq, Nat.reduceEqDiff, Nat.reduceSub, Nat.reduceAdd]; simp [dpL, hc]))
theorem specDirectProduct (t u : List (List Int)) : Spec Tryz.prog 26 [.agg [.rds (II t)], .agg [.rds (II u)]] (.tup [.agg [.own 0], .v (.int .i64 (codeDP t u))]) [.rows 27 2 (II (dpL t u))] := by
  refine Spec.of_codeC T_ok Tryz.func26 rfl Tryz.ntmps26 Tryz.call26 (Nat.le_of_ble_eq_true rfl) rfl rfl (CodeV_sound T_ok (by kernel_rfl) rfl ?_)
  refine WW ?_
  refine HereO.alloc T_ok 104 rfl rfl (by decide) ?_
  refine WW ?_
  refine HereO.call T_ok rfl rfl (l01Is_spec t) SA rfl ?_
  refine WW ?_
  have hcast : (t.length : Int) * (u.length : Int) = ((t.length * u.length : Nat) : Int) := by push_cast; rfl
  refine ⟨fun h1 => ?_, fun h1 => ?_⟩
  · refine HereO.call T_ok rfl rfl (l01Is_spec u) SA rfl ?_
    refine WW ?_
    refine ⟨fun h2 => ?_, fun h2 => ?_⟩
    · have hc : codeDP t u = 1 := by unfold codeDP; rw [if_neg (fun q => h2 q.2)]
      refine HereO.opP T_ok (OpP.build built_26 rfl rfl rfl rfl) ?_
      refine WW ?_
      refine HereO.storeAgg T_ok rfl SS SS rfl SS rfl rfl rfl ?_
      refine WW ?_
      refine RetC.conv (Conv.nilIn (c := 104) (tt := 26) (l := [.v nilV]) 0 120 (.rows 27 2 []) rfl (by decide) (by decide) (by rfl) rfl) (RetC.of (RetT.one 120 SE (by simp only [go_sem, Nat.reduceMul, Nat.reduceLeDiff, Nat.reduceLT, reduceIte, reduceCtorEq, Nat.reduceEqDiff, Nat.reduceSub, Nat.reduceAdd]; simp [hc]) (by simp only [go_sem, Nat.reduceMul, Nat.reduceLeDiff, Nat.reduceLT, reduceIte, reduceCtorEq, Nat.reduceEqDiff, Nat.reduceSub, Nat.reduceAdd]; simp [dpL, hc, II])))
    · have h : Grp t ∧ Grp u := ⟨h1, h2⟩
      have t8 := h.1.2.1
      have u8 := h.2.2.1
      have u1 := h.2.1
      have hle : t.length * u.length ≤ 8 * 8 := Nat.mul_le_mul t8 u8
      refine Here.draw T_ok mixed_ok (by kernel_rfl) ?_
      refine WW ?_
      refine ⟨_, OpP.call' rfl rfl (l01N_spec t) SA rfl, ?_⟩
      refine WW ?_
      refine ⟨_, OpP.call' rfl rfl (l01N_spec u) SA rfl, ?_⟩
      refine WW ?_
      rw [hcast]
      refine ⟨by unfold InR; omega, fun h3 => ?_, fun h3 => ?_⟩
      · have hc : codeDP t u = 3 := by unfold codeDP; rw [if_pos h, if_neg (by omega)]
        refine HereO.opP T_ok (OpP.build built_26 rfl rfl rfl rfl) ?_
        refine WW ?_
        refine HereO.storeAgg T_ok rfl SS SS rfl SS rfl rfl rfl ?_
        refine WW ?_
        refine RetC.conv (Conv.nilIn (c := 104) (tt := 26) (l := [.v nilV]) 0 120 (.rows 27 2 []) rfl (by decide) (by decide) (by rfl) rfl) (RetC.of (RetT.one 120 SE (by simp only [go_sem, Nat.reduceMul, Nat.reduceLeDiff, Nat.reduceLT, reduceIte, reduceCtorEq, Nat.reduceEqDiff, Nat.reduceSub, Nat.reduceAdd]; simp [hc]) (by simp only [go_sem, Nat.reduceMul, Nat.reduceLeDiff, Nat.reduceLT, reduceIte, reduceCtorEq, Nat.reduceEqDiff, Nat.reduceSub, Nat.reduceAdd]; simp [dpL, hc, II])))
      · have hc : codeDP t u = 0 := by unfold codeDP; rw [if_pos h, if_pos (by omega)]
        refine HereO.callOwn T_ok 26 rfl rfl (l01Product_spec t u (by omega) u1 (by omega) h1.tbl h2.tbl) SA rfl (by simp) rfl ?_
        refine WW ?_
        refine HereO.storeAgg T_ok rfl SS SS rfl SS SS rfl rfl ?_
        refine WW ?_
        refine RetC.of (RetT.one 1416 SE (by simp only [go_sem, Nat.reduceMul, Nat.reduceLeDiff, Nat.reduceLT, reduceIte, reduceCtorEq, Nat.reduceEqDiff, Nat.reduceSub, Nat.reduceAdd]; simp [hc]) (by simp only [go_sem, Nat.reduceMul, Nat.reduceLeDiff, Nat.reduceLT, reduceIte, reduceCtorEq, Nat.reduceEqDiff, Nat.reduceSub, Nat.reduceAdd]; simp [dpL, hc]))
  · have hc : codeDP t u = 1 := by unfold codeDP; rw [if_neg (fun q => h1 q.1)]
    refine HereO.opP T_ok (OpP.build built_26 rfl rfl rfl rfl) ?_
    refine WW ?_
    refine HereO.storeAgg T_ok rfl SS SS rfl SS rfl rfl rfl ?_
    refine WW ?_
    refine RetC.conv (Conv.nilIn (c := 104) (tt := 26) (l := [.v nilV]) 0 120 (.rows 27 2 []) rfl (by decide) (by decide) (by rfl) rfl) (RetC.of (RetT.one 120 SE (by simp only [go_sem, Nat.reduceMul, Nat.reduceLeDiff, Nat.reduceLT, reduceIte, reduceCtorEq, Nat.reduceEqDiff, Nat.reduceSub, Nat.reduceAdd]; simp [hc]) (by simp only [go_sem, Nat.reduceMul, Nat.reduceLeDiff, Nat.reduceLT, reduceIte, reduceCtorEq, Nat.reduceEqDiff, Nat.reduceSub, Nat.reduceAdd]; simp [dpL, hc, II])))
end Go.Proofs.YtcjhojdlfnpgjaaGreat
