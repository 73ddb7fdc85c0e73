/- Contracts: Go's sort of whole numbers, whole. -/
import Derived.Test.YtcjhojdlfnpgjaaGreatK37
set_option linter.unusedVariables false
set_option linter.unusedSimpArgs false
set_option maxRecDepth 100000
namespace Go.Proofs.YtcjhojdlfnpgjaaGreat
open Go.RowKit
theorem ppost_left {a b m : Nat} {l k : List Int} (h : PPost ltI 0 a b m l) (hp : PIn 0 a m l k) : PPost ltI 0 a b m k := by
  obtain ⟨h1, h2, h3, h4⟩ := h
  have hm := hp.2.1 m (by omega)
  refine ⟨h1, h2, fun i g1 g2 => ?_, fun i g1 g2 => ?_⟩
  · rw [hm]; exact hp.all (p := fun x => ltI x (l.getD m 0) = true) h3 i g1 g2
  · rw [hm, hp.2.1 i (by omega)]; exact h4 i g1 g2
theorem ppost_right {a b m : Nat} {l k : List Int} (h : PPost ltI 0 a b m l) (hp : PIn 0 (m + 1) b l k) : PPost ltI 0 a b m k := by
  obtain ⟨h1, h2, h3, h4⟩ := h
  have hm := hp.2.1 m (by omega)
  refine ⟨h1, h2, fun i g1 g2 => ?_, fun i g1 g2 => ?_⟩
  · rw [hm, hp.2.1 i (by omega)]; exact h3 i g1 g2
  · rw [hm]; exact hp.all (p := fun x => ltI x (l.getD m 0) = false) (fun j g3 g4 => h4 j (by omega) g4) i (by omega) g2
theorem mid_blw {a b a' b' : Nat} {xs l : List Int} (hbl : Blw ltI a b xs) (hp : PIn 0 a b xs l) (hm : Mid ltI 0 a b a' b' l) : Blw ltI a' b' l := by
  obtain ⟨g1, g2, g3, g4, g5, g6, g7⟩ := hm
  by_cases e : a' = a
  · subst e
    rcases blw_perm hbl hp with h | h
    · exact .inl h
    · exact .inr fun i h1 h2 => h i h1 (by omega)
  · exact .inr fun i h1 h2 => g6 (a' - 1) i (by omega) (by omega) h1 (by omega)
set_option maxHeartbeats 32000000 in
theorem pdqR_spec (n : Nat) : ∀ (xs : List Int) (a b lim : Nat), b - a = n → a ≤ b → b ≤ xs.length → xs.length ≤ 1048576 → lim ≤ 1048576 → Blw ltI a b xs → SpecQ Tryz.prog 100 [.own 0, .v (.int .i64 a), .v (.int .i64 b), .v (.int .i64 lim)] [.row 2 (I xs)] (κ := List Int) (fun _ => .tup []) (fun ys => [some (.row 2 (I ys))]) (fun ys => PIn 0 a b xs ys ∧ SIn ltI 0 a b ys) := by
  induction n using Nat.strongRecOn
  rename_i n ih
  intro xs a b lim hn hab hb hl hlim hbl
  refine SpecQ.of_code T_ok Tryz.func100 rfl Tryz.ntmps100 Tryz.call100 (Nat.le_of_ble_eq_true rfl) (Nat.le_of_ble_eq_true rfl) (fun _ => rfl) (fun _ => rfl) (CodeV_sound T_ok (by kernel_rfl) rfl ?_)
  simp (maxSteps := 4000000) only [go_sem, Nat.reduceMul, Nat.reduceLeDiff, Nat.reduceLT, reduceIte, reduceCtorEq, Nat.reduceEqDiff, Nat.reduceSub, Nat.reduceAdd]
  refine Here.loopH (κ := Nat × Nat × Nat × Bool × Bool × List Int) (fun g => g.2.2.1 ≤ 1048576 ∧ PIn 0 a b xs g.2.2.2.2.2 ∧ Mid ltI 0 a b g.1 g.2.1 g.2.2.2.2.2) (fun g => g.2.1 - g.1) (fun g => [(0, .own 0), (1, .v (.int .i64 g.1)), (2, .v (.int .i64 g.2.1)), (3, .v (.int .i64 g.2.2.1)), (8, .v (.bool g.2.2.2.1)), (9, .v (.bool g.2.2.2.2.1))]) (fun g => [(0, .row 2 (I g.2.2.2.2.2))]) (a, b, lim, true, true, xs) ⟨hlim, PIn.refl _ _ _, mid_0 hab xs⟩ (by simp (maxSteps := 4000000) only [go_sem, Nat.reduceMul, Nat.reduceLeDiff, Nat.reduceLT, reduceIte, reduceCtorEq, Nat.reduceEqDiff, Nat.reduceSub, Nat.reduceAdd]) (by simp (maxSteps := 4000000) only [go_sem, Nat.reduceMul, Nat.reduceLeDiff, Nat.reduceLT, reduceIte, reduceCtorEq, Nat.reduceEqDiff, Nat.reduceSub, Nat.reduceAdd]) ?_
  clear hlim
  rintro ⟨u, v, lim, bal, par, L⟩ ⟨hlim, hp, hm⟩
  dsimp only at hlim hp hm ⊢
  obtain ⟨m1, m2, m3, m4, m5, m6, m7⟩ := id hm
  have hlL := hp.len
  refine HereV.block ?_
  refine HereV.cutSeq (ε := Unit) (fun _ => True) (fun _ => [(0, .own 0), (1, .v (.int .i64 u)), (2, .v (.int .i64 v)), (3, .v (.int .i64 lim)), (8, .v (.bool bal)), (9, .v (.bool par)), (10, .v (.int .i64 (v - u : Nat)))]) (fun _ => [(0, .row 2 (I L))]) (HereV.of T_ok ?_) ?_
  · simp (maxSteps := 4000000) only [go_sem, Nat.reduceMul, Nat.reduceLeDiff, Nat.reduceLT, reduceIte, reduceCtorEq, Nat.reduceEqDiff, Nat.reduceSub, Nat.reduceAdd]
    exact ⟨by unfold InR; omega, (), by omega⟩
  rintro - -
  refine HereV.cutSeq (ε := Unit) (fun _ => 12 < v - u) (fun _ => [(0, .own 0), (1, .v (.int .i64 u)), (2, .v (.int .i64 v)), (3, .v (.int .i64 lim)), (8, .v (.bool bal)), (9, .v (.bool par)), (10, .v (.int .i64 (v - u : Nat)))]) (fun _ => [(0, .row 2 (I L))]) (HereV.of T_ok ?_) ?_
  · simp (maxSteps := 4000000) only [go_sem, Nat.reduceMul, Nat.reduceLeDiff, Nat.reduceLT, reduceIte, reduceCtorEq, Nat.reduceEqDiff, Nat.reduceSub, Nat.reduceAdd]
    refine ⟨fun h1 => ?_, fun h1 => ⟨(), by omega⟩⟩
    refine HereO.callQ T_ok 27 [0] rfl rfl (insertionR_spec L u v (by omega) (by omega) (by omega)) (by simp (maxSteps := 4000000) only [go_sem, Nat.reduceMul, Nat.reduceLeDiff, Nat.reduceLT, reduceIte, reduceCtorEq, Nat.reduceEqDiff, Nat.reduceSub, Nat.reduceAdd, List.toList_toArray, ↓reduceIte]) rfl (by decide) (by decide) rfl (fun _ => rfl) (fun _ => rfl) (fun _ => Nat.le_of_ble_eq_true rfl) ?_
    rintro ys ⟨h2, h3⟩
    simp (maxSteps := 4000000) only [go_sem, Nat.reduceMul, Nat.reduceLeDiff, Nat.reduceLT, reduceIte, reduceCtorEq, Nat.reduceEqDiff, Nat.reduceSub, Nat.reduceAdd]
    refine RetQ.of ys ⟨hp.trans (h2.mono m1 m3), mid_end (mid_perm hm h2) h3⟩ (RetM.one0 (by simp (maxSteps := 4000000) only [go_sem, Nat.reduceMul, Nat.reduceLeDiff, Nat.reduceLT, reduceIte, reduceCtorEq, Nat.reduceEqDiff, Nat.reduceSub, Nat.reduceAdd]; rfl) rfl ?_)
    simp (maxSteps := 4000000) only [go_sem, Nat.reduceMul, Nat.reduceLeDiff, Nat.reduceLT, reduceIte, reduceCtorEq, Nat.reduceEqDiff, Nat.reduceSub, Nat.reduceAdd]
  rintro - h12
  refine HereV.cutSeq (ε := Unit) (fun _ => lim ≠ 0) (fun _ => [(0, .own 0), (1, .v (.int .i64 u)), (2, .v (.int .i64 v)), (3, .v (.int .i64 lim)), (8, .v (.bool bal)), (9, .v (.bool par)), (10, .v (.int .i64 (v - u : Nat)))]) (fun _ => [(0, .row 2 (I L))]) (HereV.of T_ok ?_) ?_
  · simp (maxSteps := 4000000) only [go_sem, Nat.reduceMul, Nat.reduceLeDiff, Nat.reduceLT, reduceIte, reduceCtorEq, Nat.reduceEqDiff, Nat.reduceSub, Nat.reduceAdd]
    refine ⟨fun h1 => ?_, fun h1 => ⟨(), by omega⟩⟩
    refine HereO.callQ T_ok 33 [0] rfl rfl (heapSort_spec L u v (by omega) (by omega) (by omega)) (by simp (maxSteps := 4000000) only [go_sem, Nat.reduceMul, Nat.reduceLeDiff, Nat.reduceLT, reduceIte, reduceCtorEq, Nat.reduceEqDiff, Nat.reduceSub, Nat.reduceAdd, List.toList_toArray, ↓reduceIte]) rfl (by decide) (by decide) rfl (fun _ => rfl) (fun _ => rfl) (fun _ => Nat.le_of_ble_eq_true rfl) ?_
    rintro ys ⟨h2, h3⟩
    simp (maxSteps := 4000000) only [go_sem, Nat.reduceMul, Nat.reduceLeDiff, Nat.reduceLT, reduceIte, reduceCtorEq, Nat.reduceEqDiff, Nat.reduceSub, Nat.reduceAdd]
    refine RetQ.of ys ⟨hp.trans (h2.mono m1 m3), mid_end (mid_perm hm h2) h3⟩ (RetM.one0 (by simp (maxSteps := 4000000) only [go_sem, Nat.reduceMul, Nat.reduceLeDiff, Nat.reduceLT, reduceIte, reduceCtorEq, Nat.reduceEqDiff, Nat.reduceSub, Nat.reduceAdd]; rfl) rfl ?_)
    simp (maxSteps := 4000000) only [go_sem, Nat.reduceMul, Nat.reduceLeDiff, Nat.reduceLT, reduceIte, reduceCtorEq, Nat.reduceEqDiff, Nat.reduceSub, Nat.reduceAdd]
  rintro - hlim0
  refine HereV.cutSeq (ε := Nat × List Int) (fun e => e.1 ≤ 1048576 ∧ PIn 0 a b xs e.2 ∧ Mid ltI 0 a b u v e.2) (fun e => [(0, .own 0), (1, .v (.int .i64 u)), (2, .v (.int .i64 v)), (3, .v (.int .i64 e.1)), (8, .v (.bool bal)), (9, .v (.bool par)), (10, .v (.int .i64 (v - u : Nat)))]) (fun e => [(0, .row 2 (I e.2))]) (HereV.of T_ok ?_) ?_
  · simp (maxSteps := 4000000) only [go_sem, Nat.reduceMul, Nat.reduceLeDiff, Nat.reduceLT, reduceIte, reduceCtorEq, Nat.reduceEqDiff, Nat.reduceSub, Nat.reduceAdd]
    refine ⟨fun h1 => ?_, fun h1 => ⟨(lim, L), ⟨hlim, hp, hm⟩, rfl, rfl⟩⟩
    refine HereO.callQ T_ok 39 [0] rfl rfl (breakPatterns_spec L u v (by omega) (by omega) (by omega)) (by simp (maxSteps := 4000000) only [go_sem, Nat.reduceMul, Nat.reduceLeDiff, Nat.reduceLT, reduceIte, reduceCtorEq, Nat.reduceEqDiff, Nat.reduceSub, Nat.reduceAdd, List.toList_toArray, ↓reduceIte]) rfl (by decide) (by decide) rfl (fun _ => rfl) (fun _ => rfl) (fun _ => Nat.le_of_ble_eq_true rfl) ?_
    rintro ys h2
    simp (maxSteps := 4000000) only [go_sem, Nat.reduceMul, Nat.reduceLeDiff, Nat.reduceLT, reduceIte, reduceCtorEq, Nat.reduceEqDiff, Nat.reduceSub, Nat.reduceAdd]
    exact ⟨by unfold InR; omega, (lim - 1, ys), ⟨by dsimp only; omega, hp.trans (h2.mono m1 m3), mid_perm hm h2⟩, by dsimp only; omega, rfl⟩
  clear hp hm hlim hlim0 hlL m1 m2 m3 m4 m5 m6 m7
  rintro ⟨lim, L⟩ ⟨hlim, hp, hm⟩
  dsimp only at hlim hp hm ⊢
  obtain ⟨m1, m2, m3, m4, m5, m6, m7⟩ := id hm
  have hlL := hp.len
  refine HereV.cutSeq (ε := Nat × Int) (fun e => u ≤ e.1 ∧ e.1 < v) (fun e => [(0, .own 0), (1, .v (.int .i64 u)), (2, .v (.int .i64 v)), (3, .v (.int .i64 lim)), (8, .v (.bool bal)), (9, .v (.bool par)), (10, .v (.int .i64 (v - u : Nat))), (11, .v (.int .i64 e.1)), (12, .v (.int .i64 e.2))]) (fun e => [(0, .row 2 (I L))]) (HereV.of T_ok ?_) ?_
  · simp (maxSteps := 4000000) only [go_sem, Nat.reduceMul, Nat.reduceLeDiff, Nat.reduceLT, reduceIte, reduceCtorEq, Nat.reduceEqDiff, Nat.reduceSub, Nat.reduceAdd]
    refine HereO.callQ T_ok 46 [] rfl rfl (choosePivot_spec L u v (by omega) (by omega) (by omega)) (by simp (maxSteps := 4000000) only [go_sem, Nat.reduceMul, Nat.reduceLeDiff, Nat.reduceLT, reduceIte, reduceCtorEq, Nat.reduceEqDiff, Nat.reduceSub, Nat.reduceAdd, List.toList_toArray, ↓reduceIte]) rfl (by decide) (by decide) rfl (fun _ => rfl) (fun _ => rfl) (fun _ => Nat.le_of_ble_eq_true rfl) ?_
    rintro ⟨p, h⟩ ⟨h2, h3⟩
    simp (maxSteps := 4000000) only [go_sem, Nat.reduceMul, Nat.reduceLeDiff, Nat.reduceLT, reduceIte, reduceCtorEq, Nat.reduceEqDiff, Nat.reduceSub, Nat.reduceAdd]
    exact ⟨(p, h), ⟨h2, h3⟩, rfl, rfl⟩
  rintro ⟨p0, hint⟩ ⟨hp1, hp2⟩
  dsimp only at hp1 hp2 ⊢
  refine HereV.cutSeq (ε := Nat × Int × List Int) (fun e => u ≤ e.1 ∧ e.1 < v ∧ PIn 0 a b xs e.2.2 ∧ Mid ltI 0 a b u v e.2.2) (fun e => [(0, .own 0), (1, .v (.int .i64 u)), (2, .v (.int .i64 v)), (3, .v (.int .i64 lim)), (8, .v (.bool bal)), (9, .v (.bool par)), (10, .v (.int .i64 (v - u : Nat))), (11, .v (.int .i64 e.1)), (12, .v (.int .i64 e.2.1))]) (fun e => [(0, .row 2 (I e.2.2))]) (HereV.of T_ok ?_) ?_
  · simp (maxSteps := 4000000) only [go_sem, Nat.reduceMul, Nat.reduceLeDiff, Nat.reduceLT, reduceIte, reduceCtorEq, Nat.reduceEqDiff, Nat.reduceSub, Nat.reduceAdd]
    refine ⟨fun h1 => ?_, fun h1 => ⟨(p0, hint, L), ⟨hp1, hp2, hp, hm⟩, ⟨rfl, rfl⟩, rfl⟩⟩
    refine HereO.callQ T_ok 54 [0] rfl rfl (reverseRange_spec L u v (by omega) (by omega) (by omega)) (by simp (maxSteps := 4000000) only [go_sem, Nat.reduceMul, Nat.reduceLeDiff, Nat.reduceLT, reduceIte, reduceCtorEq, Nat.reduceEqDiff, Nat.reduceSub, Nat.reduceAdd, List.toList_toArray, ↓reduceIte]) rfl (by decide) (by decide) rfl (fun _ => rfl) (fun _ => rfl) (fun _ => Nat.le_of_ble_eq_true rfl) ?_
    rintro ys h2
    simp (maxSteps := 4000000) only [go_sem, Nat.reduceMul, Nat.reduceLeDiff, Nat.reduceLT, reduceIte, reduceCtorEq, Nat.reduceEqDiff, Nat.reduceSub, Nat.reduceAdd]
    exact ⟨by unfold InR; omega, by unfold InR; omega, by unfold InR; omega, (v - 1 - (p0 - u), 1, ys), ⟨by dsimp only; omega, by dsimp only; omega, hp.trans (h2.mono m1 m3), mid_perm hm h2⟩, ⟨by dsimp only; omega, rfl⟩, rfl⟩
  clear hp hm hlL m1 m2 m3 m4 m5 m6 m7 hp1 hp2
  rintro ⟨p, hint, L⟩ ⟨hp1, hp2, hp, hm⟩
  dsimp only at hp1 hp2 hp hm ⊢
  obtain ⟨m1, m2, m3, m4, m5, m6, m7⟩ := id hm
  have hlL := hp.len
  refine HereV.cutSeq (ε := List Int) (fun e => PIn 0 a b xs e ∧ Mid ltI 0 a b u v e) (fun e => [(0, .own 0), (1, .v (.int .i64 u)), (2, .v (.int .i64 v)), (3, .v (.int .i64 lim)), (8, .v (.bool bal)), (9, .v (.bool par)), (10, .v (.int .i64 (v - u : Nat))), (11, .v (.int .i64 p))]) (fun e => [(0, .row 2 (I e))]) (HereV.of T_ok ?_) ?_
  · simp (maxSteps := 4000000) only [go_sem, Nat.reduceMul, Nat.reduceLeDiff, Nat.reduceLT, reduceIte, reduceCtorEq, Nat.reduceEqDiff, Nat.reduceSub, Nat.reduceAdd]
    refine ⟨fun b1 => ⟨fun b2 => ⟨fun b3 => ?_, fun b3 => ⟨L, ⟨hp, hm⟩, rfl⟩⟩, fun b2 => ⟨L, ⟨hp, hm⟩, rfl⟩⟩, fun b1 => ⟨L, ⟨hp, hm⟩, rfl⟩⟩
    refine HereO.callQ T_ok 72 [0] rfl rfl (partialR_spec L u v (by omega) (by omega) (by omega) (mid_blw hbl hp hm)) (by simp (maxSteps := 4000000) only [go_sem, Nat.reduceMul, Nat.reduceLeDiff, Nat.reduceLT, reduceIte, reduceCtorEq, Nat.reduceEqDiff, Nat.reduceSub, Nat.reduceAdd, List.toList_toArray, ↓reduceIte]) rfl (by decide) (by decide) rfl (fun _ => rfl) (fun _ => rfl) (fun _ => Nat.le_of_ble_eq_true rfl) ?_
    rintro ⟨r, ys⟩ ⟨h2, h3⟩
    dsimp only at h2 h3 ⊢
    simp (maxSteps := 4000000) only [go_sem, Nat.reduceMul, Nat.reduceLeDiff, Nat.reduceLT, reduceIte, reduceCtorEq, Nat.reduceEqDiff, Nat.reduceSub, Nat.reduceAdd]
    refine ⟨fun h4 => ?_, fun h4 => ⟨ys, ⟨hp.trans (h2.mono m1 m3), mid_perm hm h2⟩, rfl⟩⟩
    refine RetQ.of ys ⟨hp.trans (h2.mono m1 m3), mid_end (mid_perm hm h2) (h3 h4)⟩ (RetM.one0 (by simp (maxSteps := 4000000) only [go_sem, Nat.reduceMul, Nat.reduceLeDiff, Nat.reduceLT, reduceIte, reduceCtorEq, Nat.reduceEqDiff, Nat.reduceSub, Nat.reduceAdd]; rfl) rfl ?_)
    simp (maxSteps := 4000000) only [go_sem, Nat.reduceMul, Nat.reduceLeDiff, Nat.reduceLT, reduceIte, reduceCtorEq, Nat.reduceEqDiff, Nat.reduceSub, Nat.reduceAdd]
  clear hp hm hlL m1 m2 m3 m4 m5 m6 m7
  rintro L ⟨hp, hm⟩
  obtain ⟨m1, m2, m3, m4, m5, m6, m7⟩ := id hm
  have hlL := hp.len
  refine HereV.cutSeq (ε := Unit) (fun _ => True) (fun _ => [(0, .own 0), (1, .v (.int .i64 u)), (2, .v (.int .i64 v)), (3, .v (.int .i64 lim)), (8, .v (.bool bal)), (9, .v (.bool par)), (10, .v (.int .i64 (v - u : Nat))), (11, .v (.int .i64 p))]) (fun _ => [(0, .row 2 (I L))]) (HereV.of T_ok ?_) ?_
  · simp (maxSteps := 4000000) only [go_sem, Nat.reduceMul, Nat.reduceLeDiff, Nat.reduceLT, reduceIte, reduceCtorEq, Nat.reduceEqDiff, Nat.reduceSub, Nat.reduceAdd]
    refine Here.draw T_ok mixed_ok (by kernel_rfl) ?_
    simp (maxSteps := 4000000) only [go_sem, Nat.reduceMul, Nat.reduceLeDiff, Nat.reduceLT, reduceIte, reduceCtorEq, Nat.reduceEqDiff, Nat.reduceSub, Nat.reduceAdd]
    refine ⟨fun h1 => ?_, fun h1 => ⟨(), trivial⟩⟩
    rw [show ((u : Int) - 1).toNat = u - 1 by omega]
    repeat (refine ⟨by first | omega | (unfold InR; omega) | exact ⟨by omega, by omega⟩, ?_⟩)
    refine ⟨_, OpP.call' rfl rfl (cmpLess_spec (L.getD (u - 1) 0) (L.getD p 0)) (by simp (maxSteps := 4000000) only [go_sem, Nat.reduceMul, Nat.reduceLeDiff, Nat.reduceLT, reduceIte, reduceCtorEq, Nat.reduceEqDiff, Nat.reduceSub, Nat.reduceAdd, List.toList_toArray] <;> first | rfl | exact ⟨rfl, rfl⟩) rfl, ?_⟩
    simp (maxSteps := 4000000) only [go_sem, Nat.reduceMul, Nat.reduceLeDiff, Nat.reduceLT, reduceIte, reduceCtorEq, Nat.reduceEqDiff, Nat.reduceSub, Nat.reduceAdd]
    refine ⟨fun h2 => ?_, fun h2 => ⟨(), trivial⟩⟩
    have hall : ∀ k, u ≤ k → k < v → ltI (L.getD k 0) (L.getD p 0) = false := fun k k1 k2 => by
      rcases mid_blw hbl hp hm with e | e
      · omega
      · exact ltI_swo.ntr _ _ _ (e k k1 k2) (ltI_f.2 h2)
    refine HereO.callQ T_ok 92 [0] rfl rfl (partitionEqual_spec L u v p hp1 hp2 (by omega) (by omega)) (by simp (maxSteps := 4000000) only [go_sem, Nat.reduceMul, Nat.reduceLeDiff, Nat.reduceLT, reduceIte, reduceCtorEq, Nat.reduceEqDiff, Nat.reduceSub, Nat.reduceAdd, List.toList_toArray, ↓reduceIte]) rfl (by decide) (by decide) rfl (fun _ => rfl) (fun _ => rfl) (fun _ => Nat.le_of_ble_eq_true rfl) ?_
    rintro ⟨m, ys⟩ ⟨h3, h4, h5, h6, h7⟩
    dsimp only at h3 h4 h5 h6 h7 ⊢
    simp (maxSteps := 4000000) only [go_sem, Nat.reduceMul, Nat.reduceLeDiff, Nat.reduceLT, reduceIte, reduceCtorEq, Nat.reduceEqDiff, Nat.reduceSub, Nat.reduceAdd]
    exact ⟨(m, v, lim, bal, par, ys), ⟨hlim, hp.trans (h3.mono m1 m3), mid_equal ltI_swo (mid_perm hm h3) h4 h5 (p := L.getD p 0) (fun k k1 k2 => ⟨h6 k k1 k2, h3.all (p := fun x => ltI x (L.getD p 0) = false) hall k k1 (by omega)⟩) h7⟩, by dsimp only; omega, ⟨rfl, rfl, rfl, rfl, rfl⟩, rfl⟩
  rintro - -
  refine HereV.of T_ok ?_
  simp (maxSteps := 4000000) only [go_sem, Nat.reduceMul, Nat.reduceLeDiff, Nat.reduceLT, reduceIte, reduceCtorEq, Nat.reduceEqDiff, Nat.reduceSub, Nat.reduceAdd]
  refine HereO.callQ T_ok 99 [0] rfl rfl (partition_spec L u v p hp1 hp2 (by omega) (by omega)) (by simp (maxSteps := 4000000) only [go_sem, Nat.reduceMul, Nat.reduceLeDiff, Nat.reduceLT, reduceIte, reduceCtorEq, Nat.reduceEqDiff, Nat.reduceSub, Nat.reduceAdd, List.toList_toArray, ↓reduceIte]) rfl (by decide) (by decide) rfl (fun _ => rfl) (fun _ => rfl) (fun _ => Nat.le_of_ble_eq_true rfl) ?_
  rintro ⟨m, fl, M⟩ ⟨h1, h2⟩
  dsimp only at h1 h2 ⊢
  simp (maxSteps := 4000000) only [go_sem, Nat.reduceMul, Nat.reduceLeDiff, Nat.reduceLT, reduceIte, reduceCtorEq, Nat.reduceEqDiff, Nat.reduceSub, Nat.reduceAdd]
  obtain ⟨p1, p2, p3, p4⟩ := id h2
  have hpM : PIn 0 a b xs M := hp.trans (h1.mono m1 m3)
  have hmM : Mid ltI 0 a b u v M := mid_perm hm h1
  have hbM := mid_blw hbl hpM hmM
  have hlM := hpM.len
  rw [show ((v - u : Nat) : Int).tdiv 8 = (((v - u) / 8 : Nat) : Int) from rfl]
  refine ⟨by unfold InR; omega, by unfold InR; omega, ⟨by decide, by unfold InR; omega⟩, fun h3 => ?_, fun h3 => ?_⟩
  · refine HereO.callQ T_ok 121 [0] rfl rfl (ih (m - u) (by omega) M u m lim rfl (by omega) (by omega) (by omega) hlim (by rcases hbM with e | e; exact .inl e; exact .inr fun i i1 i2 => e i i1 (by omega))) (by simp (maxSteps := 4000000) only [go_sem, Nat.reduceMul, Nat.reduceLeDiff, Nat.reduceLT, reduceIte, reduceCtorEq, Nat.reduceEqDiff, Nat.reduceSub, Nat.reduceAdd, List.toList_toArray, ↓reduceIte]) rfl (by decide) (by decide) rfl (fun _ => rfl) (fun _ => rfl) (fun _ => Nat.le_of_ble_eq_true rfl) ?_
    rintro ys ⟨h4, h5⟩
    simp (maxSteps := 4000000) only [go_sem, Nat.reduceMul, Nat.reduceLeDiff, Nat.reduceLT, reduceIte, reduceCtorEq, Nat.reduceEqDiff, Nat.reduceSub, Nat.reduceAdd]
    have hpY : PIn 0 a b xs ys := hpM.trans (h4.mono (by omega) (by omega))
    have hmY : Mid ltI 0 a b (m + 1) v ys := mid_left ltI_swo (mid_perm hmM (h4.mono (Nat.le_refl _) (by omega))) (ppost_left h2 h4) h5
    exact ⟨by unfold InR; omega, (m + 1, v, lim, decide ((((v - u) / 8 : Nat) : Int) ≤ (m : Int) - u), fl, ys), ⟨hlim, hpY, hmY⟩, by dsimp only; omega, ⟨by push_cast; rfl, rfl, rfl, rfl, rfl⟩, rfl⟩
  · rw [show (m : Int) + 1 = ((m + 1 : Nat) : Int) by omega]
    refine ⟨by unfold InR; omega, ?_⟩
    refine HereO.callQ T_ok 132 [0] rfl rfl (ih (v - (m + 1)) (by omega) M (m + 1) v lim rfl (by omega) (by omega) (by omega) hlim (.inr fun i i1 i2 => by have := p4 i (by omega) i2; simpa using this)) (by simp (maxSteps := 4000000) only [go_sem, Nat.reduceMul, Nat.reduceLeDiff, Nat.reduceLT, reduceIte, reduceCtorEq, Nat.reduceEqDiff, Nat.reduceSub, Nat.reduceAdd, List.toList_toArray, ↓reduceIte]) rfl (by decide) (by decide) rfl (fun _ => rfl) (fun _ => rfl) (fun _ => Nat.le_of_ble_eq_true rfl) ?_
    rintro ys ⟨h4, h5⟩
    simp (maxSteps := 4000000) only [go_sem, Nat.reduceMul, Nat.reduceLeDiff, Nat.reduceLT, reduceIte, reduceCtorEq, Nat.reduceEqDiff, Nat.reduceSub, Nat.reduceAdd]
    exact ⟨(u, m, lim, _, fl, ys), ⟨hlim, hpM.trans (h4.mono (by omega) (by omega)), mid_right ltI_swo (mid_perm hmM (h4.mono (by omega) (Nat.le_refl _))) (ppost_right h2 h4) h5⟩, by dsimp only; omega, ⟨rfl, rfl, rfl, rfl, rfl⟩, rfl⟩
theorem sort_run (xs : List Int) (r : Nat) (hl : xs.length ≤ 1048576) (hr : r ≤ 24) (hlen : Spec Tryz.prog 101 [.v (.int .u64 xs.length)] (.v (.int .i64 r)) []) : SpecQ Tryz.prog 64 [.own 0] [.row 2 (I xs)] (κ := List Int) (fun _ => .tup []) (fun ys => [some (.row 2 (I ys))]) (fun ys => ys.Perm xs ∧ ys.Pairwise (· ≤ ·)) := by
  have hp := pdqR_spec (xs.length - 0) xs 0 xs.length r rfl (Nat.zero_le _) (Nat.le_refl _) hl (by omega) (.inl rfl)
  rw [show ((0 : Nat) : Int) = 0 from rfl] at hp
  refine SpecQ.of_code T_ok Tryz.func64 rfl Tryz.ntmps64 Tryz.call64 (Nat.le_of_ble_eq_true rfl) (Nat.le_of_ble_eq_true rfl) (fun _ => rfl) (fun _ => rfl) (CodeV_sound T_ok (by kernel_rfl) rfl ?_)
  simp (maxSteps := 4000000) only [go_sem, Nat.reduceMul, Nat.reduceLeDiff, Nat.reduceLT, reduceIte, reduceCtorEq, Nat.reduceEqDiff, Nat.reduceSub, Nat.reduceAdd]
  rw [u64_nat hl]
  refine HereO.call T_ok rfl rfl (hlen) (by simp (maxSteps := 4000000) only [go_sem, Nat.reduceMul, Nat.reduceLeDiff, Nat.reduceLT, reduceIte, reduceCtorEq, Nat.reduceEqDiff, Nat.reduceSub, Nat.reduceAdd, List.toList_toArray] <;> first | rfl | exact ⟨rfl, rfl⟩) rfl ?_
  simp (maxSteps := 4000000) only [go_sem, Nat.reduceMul, Nat.reduceLeDiff, Nat.reduceLT, reduceIte, reduceCtorEq, Nat.reduceEqDiff, Nat.reduceSub, Nat.reduceAdd]
  refine HereO.callQ T_ok 10 [0] rfl rfl (hp) (by simp (maxSteps := 4000000) only [go_sem, Nat.reduceMul, Nat.reduceLeDiff, Nat.reduceLT, reduceIte, reduceCtorEq, Nat.reduceEqDiff, Nat.reduceSub, Nat.reduceAdd, List.toList_toArray, ↓reduceIte]) rfl (by decide) (by decide) rfl (fun _ => rfl) (fun _ => rfl) (fun _ => Nat.le_of_ble_eq_true rfl) ?_
  rintro ys ⟨h1, h2⟩
  simp (maxSteps := 4000000) only [go_sem, Nat.reduceMul, Nat.reduceLeDiff, Nat.reduceLT, reduceIte, reduceCtorEq, Nat.reduceEqDiff, Nat.reduceSub, Nat.reduceAdd]
  refine RetQ.of ys ⟨h1.1, ?_⟩ (RetM.one0 (by simp (maxSteps := 4000000) only [go_sem, Nat.reduceMul, Nat.reduceLeDiff, Nat.reduceLT, reduceIte, reduceCtorEq, Nat.reduceEqDiff, Nat.reduceSub, Nat.reduceAdd]; rfl) rfl ?_)
  · rw [List.pairwise_iff_getElem]
    intro i j hi hj hij
    have hlen := h1.len
    have := ltI_f.1 (h2 i j (Nat.zero_le _) hij (by omega))
    rw [List.getD_eq_getElem?_getD, List.getD_eq_getElem?_getD, List.getElem?_eq_getElem hi, List.getElem?_eq_getElem hj, Option.getD_some, Option.getD_some] at this
    omega
  · simp (maxSteps := 4000000) only [go_sem, Nat.reduceMul, Nat.reduceLeDiff, Nat.reduceLT, reduceIte, reduceCtorEq, Nat.reduceEqDiff, Nat.reduceSub, Nat.reduceAdd]
theorem SortR_spec (xs : List Int) (hl : xs.length ≤ 1048576) : SpecQ Tryz.prog 64 [.own 0] [.row 2 (I xs)] (κ := List Int) (fun _ => .tup []) (fun ys => [some (.row 2 (I ys))]) (fun ys => ys.Perm xs ∧ ys.Pairwise (· ≤ ·)) := by
  obtain ⟨r, h1, _, h2⟩ := len_spec xs.length hl
  exact sort_run xs r hl h1 h2
end Go.Proofs.YtcjhojdlfnpgjaaGreat
