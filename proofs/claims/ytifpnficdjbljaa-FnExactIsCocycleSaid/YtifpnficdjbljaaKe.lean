/- Contracts: ProductOfCochains. -/
import Derived.Test.YtifpnficdjbljaaKd
namespace Go.Proofs.Ytifpnficdjbljaa
open Go.RowKit
set_option linter.unusedVariables false
set_option linter.unusedSimpArgs false
set_option maxRecDepth 100000

theorem units_ge' {t : List (List Int)} {m : Int} {l : List Int} (h : Mod t m l) : ∀ u ∈ l, 1 ≤ u ∧ u < m := by
  intro u hu
  obtain ⟨j, hj, rfl⟩ := List.mem_iff_getElem.1 hu
  have := h.2.2.1 j hj
  rw [List.getD_eq_getElem?_getD, List.getElem?_eq_getElem hj, Option.getD_some] at this
  exact ⟨this.1, this.2.1⟩
theorem unit_at' {m : Int} {l : List Int} (h : ∀ u ∈ l, 1 ≤ u ∧ u < m) {x : Nat} (hx : x < l.length) : 1 ≤ l.getD x 0 ∧ l.getD x 0 < m :=
  h _ (by rw [List.getD_eq_getElem?_getD, List.getElem?_eq_getElem hx, Option.getD_some]; exact List.getElem_mem _)
theorem qF_ok {t : List (List Int)} (hg : Grp t) {m : Int} {k : List Int} (hm : Mod t m k) {d : Nat} {v w l : List Int} (hv : AreIn m v) (hw : AreIn m w) (hl : AreIn t.length l) :
    (0 ≤ tm t (l.take d) ∧ tm t (l.take d) < k.length) ∧ InR (atV (t.length - 1) v (l.take d) * k.getD (tm t (l.take d)).toNat 0) ∧ InR (qF t d v k w l) ∧ -1000000 ≤ qF t d v k w l ∧ qF t d v k w l ≤ 1000000 := by
  have h12 := hm.1
  have h1 := atV_in (b := t.length - 1) (l := l.take d) (by omega) hv
  have h2 := atV_in (b := t.length - 1) (l := l.drop d) (by omega) hw
  have h3 := tm_lt hg (take_in hl d)
  have hk := hm.2.1
  have h4 := unit_at' (units_ge' hm) (x := (tm t (l.take d)).toNat) (by omega)
  obtain ⟨h5, h6⟩ := mul3_le (a := atV (t.length - 1) v (l.take d)) (b := k.getD (tm t (l.take d)).toNat 0) (c := atV (t.length - 1) w (l.drop d)) (by omega) (by omega) (by omega)
  unfold qF
  exact ⟨by omega, by unfold InR; omega, by unfold InR; omega, by omega, by omega⟩
theorem Prod1C_spec (t : List (List Int)) (hg : Grp t) (m : Int) (k : List Int) (hm : Mod t m k) (d e : Nat) (v w l : List Int) (hl : l.length = d + e) (h3 : d + e ≤ 3) (hi : AreIn t.length l) (hv : AreIn m v) (hw : AreIn m w) (hvl : v.length = (t.length - 1) ^ d) (hwl : w.length = (t.length - 1) ^ e) :
    Spec Try.prog 80 [.rd (I l), .box [.v (.int .i64 d), .rd (I v)], .box [.rds (II t)], .box [.v (.int .i64 m), .rd (I k)], .box [.v (.int .i64 e), .rd (I w)]] (.v (.int .i64 (qF t d v k w l))) [] := by
  obtain ⟨q1, q2, q3, _, _⟩ := qF_ok hg hm (d := d) hv hw hi
  have hlt : (l.take d).length = d := by simp; omega
  have hld : (l.drop d).length = e := by simp; omega
  refine Spec.of_code T_ok Try.func80 rfl Try.ntmps80 Try.call80 (Nat.le_of_ble_eq_true rfl) rfl rfl (CodeV_sound T_ok (by kernel_rfl) rfl ?_)
  simp only [Try.results80, go_sem, Nat.reduceMul, Nat.reduceLeDiff, Nat.reduceLT, reduceIte, reduceCtorEq, Nat.reduceEqDiff, Nat.reduceSub, Nat.reduceAdd]
  refine Here.draw T_ok mixed_ok (by kernel_rfl) ?_
  simp only [Try.results80, go_sem, Nat.reduceMul, Nat.reduceLeDiff, Nat.reduceLT, reduceIte, reduceCtorEq, Nat.reduceEqDiff, Nat.reduceSub, Nat.reduceAdd]
  refine ⟨_, OpP.takeI T_ok (l := l) d rfl rfl (by simp only [go_sem, Nat.reduceMul, Nat.reduceLeDiff, Nat.reduceLT, reduceIte, reduceCtorEq, Nat.reduceEqDiff, Nat.reduceSub, Nat.reduceAdd] <;> rfl) ⟨_, (by simp only [go_sem, Nat.reduceMul, Nat.reduceLeDiff, Nat.reduceLT, reduceIte, reduceCtorEq, Nat.reduceEqDiff, Nat.reduceSub, Nat.reduceAdd] <;> rfl)⟩ (by omega), ?_⟩
  simp only [Try.results80, go_sem, Nat.reduceMul, Nat.reduceLeDiff, Nat.reduceLT, reduceIte, reduceCtorEq, Nat.reduceEqDiff, Nat.reduceSub, Nat.reduceAdd]
  refine ⟨_, OpP.dropI T_ok (l := l) d rfl rfl (by simp only [go_sem, Nat.reduceMul, Nat.reduceLeDiff, Nat.reduceLT, reduceIte, reduceCtorEq, Nat.reduceEqDiff, Nat.reduceSub, Nat.reduceAdd] <;> rfl) ⟨_, (by simp only [go_sem, Nat.reduceMul, Nat.reduceLeDiff, Nat.reduceLT, reduceIte, reduceCtorEq, Nat.reduceEqDiff, Nat.reduceSub, Nat.reduceAdd] <;> rfl)⟩ (by omega), ?_⟩
  simp only [Try.results80, go_sem, Nat.reduceMul, Nat.reduceLeDiff, Nat.reduceLT, reduceIte, reduceCtorEq, Nat.reduceEqDiff, Nat.reduceSub, Nat.reduceAdd]
  refine Here.draw T_ok mixed_ok (by kernel_rfl) ?_
  simp only [Try.results80, go_sem, Nat.reduceMul, Nat.reduceLeDiff, Nat.reduceLT, reduceIte, reduceCtorEq, Nat.reduceEqDiff, Nat.reduceSub, Nat.reduceAdd]
  refine ⟨_, OpP.call' rfl rfl (at_spec t hg d v (l.take d) (by omega) (take_in hi d) (by rw [hlt]; exact hvl)) (by simp only [go_sem, Nat.reduceMul, Nat.reduceLeDiff, Nat.reduceLT, reduceIte, reduceCtorEq, Nat.reduceEqDiff, Nat.reduceSub, Nat.reduceAdd, List.toList_toArray] <;> first | rfl | exact ⟨rfl, rfl⟩) rfl, ?_⟩
  simp only [Try.results80, go_sem, Nat.reduceMul, Nat.reduceLeDiff, Nat.reduceLT, reduceIte, reduceCtorEq, Nat.reduceEqDiff, Nat.reduceSub, Nat.reduceAdd]
  refine ⟨_, OpP.call' rfl rfl (times_spec t (l.take d) hg (take_in hi d) (by omega)) (by simp only [go_sem, Nat.reduceMul, Nat.reduceLeDiff, Nat.reduceLT, reduceIte, reduceCtorEq, Nat.reduceEqDiff, Nat.reduceSub, Nat.reduceAdd, List.toList_toArray] <;> first | rfl | exact ⟨rfl, rfl⟩) rfl, ?_⟩
  simp only [Try.results80, go_sem, Nat.reduceMul, Nat.reduceLeDiff, Nat.reduceLT, reduceIte, reduceCtorEq, Nat.reduceEqDiff, Nat.reduceSub, Nat.reduceAdd]
  refine ⟨q1, q2, ?_⟩
  refine ⟨_, OpP.call' rfl rfl (at_spec t hg e w (l.drop d) (by omega) (drop_in hi d) (by rw [hld]; exact hwl)) (by simp only [go_sem, Nat.reduceMul, Nat.reduceLeDiff, Nat.reduceLT, reduceIte, reduceCtorEq, Nat.reduceEqDiff, Nat.reduceSub, Nat.reduceAdd, List.toList_toArray] <;> first | rfl | exact ⟨rfl, rfl⟩) rfl, ?_⟩
  simp only [Try.results80, go_sem, Nat.reduceMul, Nat.reduceLeDiff, Nat.reduceLT, reduceIte, reduceCtorEq, Nat.reduceEqDiff, Nat.reduceSub, Nat.reduceAdd]
  exact ⟨q3, rfl⟩
theorem l03Times_spec (t : List (List Int)) (hg : Grp t) (m : Int) (k : List Int) (hm : Mod t m k) (d e : Nat) (v w : List Int) (h3 : d + e ≤ 3) (hv : AreIn m v) (hw : AreIn m w) (hvl : v.length = (t.length - 1) ^ d) (hwl : w.length = (t.length - 1) ^ e) :
    Spec Try.prog 77 [.agg [.rds (II t)], .agg [.v (.int .i64 m), .rd (I k)], .agg [.v (.int .i64 d), .rd (I v)], .agg [.v (.int .i64 e), .rd (I w)]] (.agg [.v (.int .i64 ((d + e : Nat) : Int)), .own 0]) [.row 2 (I (upTo (fun i => qF t d v k w (lst (t.length - 1) (d + e) i) % m) ((t.length - 1) ^ (d + e))))] := by
  have h1 := hg.1
  have h8 := hg.2.1
  have hm12 := hm.1
  have hN := pow7 (b := t.length - 1) (by omega) (j := d + e) (by omega)
  have hpos : ∀ i, i < (t.length - 1) ^ (d + e) → 0 < d + e → 2 ≤ t.length := fun i hi h0 => by
    apply Classical.byContradiction
    intro q
    rw [show t.length - 1 = 0 by omega, Nat.zero_pow h0] at hi
    omega
  have hcells := l03Cells4_spec t hg (d + e) (by omega)
  have hde : (d : Int) + (e : Int) = ((d + e : Nat) : Int) := by push_cast; rfl
  generalize hNe : (t.length - 1) ^ (d + e) = N at *
  refine Spec.of_code T_ok Try.func77 rfl Try.ntmps77 Try.call77 (Nat.le_of_ble_eq_true rfl) rfl rfl (CodeV_sound T_ok (by kernel_rfl) rfl ?_)
  simp only [Try.results77, go_sem, Nat.reduceMul, Nat.reduceLeDiff, Nat.reduceLT, reduceIte, reduceCtorEq, Nat.reduceEqDiff, Nat.reduceSub, Nat.reduceAdd]
  refine HereO.alloc T_ok 108 rfl rfl (by decide) ?_
  simp only [Try.results77, go_sem, Nat.reduceMul, Nat.reduceLeDiff, Nat.reduceLT, reduceIte, reduceCtorEq, Nat.reduceEqDiff, Nat.reduceSub, Nat.reduceAdd]
  rw [hde]
  refine ⟨by unfold InR; omega, ?_⟩
  refine HereO.buildRow T_ok 120 (I []) rfl rfl rfl (by decide) rfl (by first | rfl | (simp only [go_sem, Nat.reduceMul, Nat.reduceLeDiff, Nat.reduceLT, reduceIte, reduceCtorEq, Nat.reduceEqDiff, Nat.reduceSub, Nat.reduceAdd] <;> rfl)) rfl (by decide) ?_
  simp only [Try.results77, go_sem, Nat.reduceMul, Nat.reduceLeDiff, Nat.reduceLT, reduceIte, reduceCtorEq, Nat.reduceEqDiff, Nat.reduceSub, Nat.reduceAdd]
  refine HereO.opP T_ok (OpP.build built_44 rfl rfl rfl rfl) ?_
  simp only [Try.results77, go_sem, Nat.reduceMul, Nat.reduceLeDiff, Nat.reduceLT, reduceIte, reduceCtorEq, Nat.reduceEqDiff, Nat.reduceSub, Nat.reduceAdd]
  refine HereO.alloc T_ok 110 rfl rfl (by decide) ?_
  simp only [Try.results77, go_sem, Nat.reduceMul, Nat.reduceLeDiff, Nat.reduceLT, reduceIte, reduceCtorEq, Nat.reduceEqDiff, Nat.reduceSub, Nat.reduceAdd]
  refine HereO.storeAgg T_ok rfl (by simp only [go_sem, Nat.reduceMul, Nat.reduceLeDiff, Nat.reduceLT, reduceIte, reduceCtorEq, Nat.reduceEqDiff, Nat.reduceSub, Nat.reduceAdd] <;> rfl) (by simp only [go_sem, Nat.reduceMul, Nat.reduceLeDiff, Nat.reduceLT, reduceIte, reduceCtorEq, Nat.reduceEqDiff, Nat.reduceSub, Nat.reduceAdd] <;> rfl) rfl (by simp only [go_sem, Nat.reduceMul, Nat.reduceLeDiff, Nat.reduceLT, reduceIte, reduceCtorEq, Nat.reduceEqDiff, Nat.reduceSub, Nat.reduceAdd] <;> rfl) (by first | rfl | (simp only [go_sem, Nat.reduceMul, Nat.reduceLeDiff, Nat.reduceLT, reduceIte, reduceCtorEq, Nat.reduceEqDiff, Nat.reduceSub, Nat.reduceAdd] <;> rfl)) rfl rfl ?_
  simp only [Try.results77, go_sem, Nat.reduceMul, Nat.reduceLeDiff, Nat.reduceLT, reduceIte, reduceCtorEq, Nat.reduceEqDiff, Nat.reduceSub, Nat.reduceAdd]
  refine Here.loopV T_ok (fun i => i ≤ N) (fun i => N - i) (fun i => [(4, .box [.rds (II t)]), (5, .box [.v (.int .i64 m), .rd (I k)]), (6, .box [.v (.int .i64 d), .rd (I v)]), (7, .box [.v (.int .i64 e), .rd (I w)]), (8, .ptr 108 0), (9, .v (.int .i64 ((d + e : Nat) : Int))), (10, .ptr 110 0), (11, .v (.int .i64 i))]) (fun i => [(108, .cells 44 [.v (.int .i64 0), .v nilV]), (110, .cells 44 [.v (.int .i64 ((d + e : Nat) : Int)), .own 120]), (120, .row 2 (I (upTo (fun i => qF t d v k w (lst (t.length - 1) (d + e) i) % m) i)))]) 0 (by simp) (by simp only [Try.results77, go_sem, Nat.reduceMul, Nat.reduceLeDiff, Nat.reduceLT, reduceIte, reduceCtorEq, Nat.reduceEqDiff, Nat.reduceSub, Nat.reduceAdd]; simp) (by simp only [Try.results77, go_sem, Nat.reduceMul, Nat.reduceLeDiff, Nat.reduceLT, reduceIte, reduceCtorEq, Nat.reduceEqDiff, Nat.reduceSub, Nat.reduceAdd]; simp [upTo, I, nilV]) ?_
  intro i hi
  simp only [Try.results77, go_sem, Nat.reduceMul, Nat.reduceLeDiff, Nat.reduceLT, reduceIte, reduceCtorEq, Nat.reduceEqDiff, Nat.reduceSub, Nat.reduceAdd]
  refine HereO.call T_ok rfl rfl (hcells) (by simp only [go_sem, Nat.reduceMul, Nat.reduceLeDiff, Nat.reduceLT, reduceIte, reduceCtorEq, Nat.reduceEqDiff, Nat.reduceSub, Nat.reduceAdd, List.toList_toArray] <;> first | rfl | exact ⟨rfl, rfl⟩) rfl ?_
  simp only [Try.results77, go_sem, Nat.reduceMul, Nat.reduceLeDiff, Nat.reduceLT, reduceIte, reduceCtorEq, Nat.reduceEqDiff, Nat.reduceSub, Nat.reduceAdd]
  refine ⟨fun h2 => ?_, fun h2 => ?_⟩
  · have hiN : i < N := by omega
    have hL := lst_len (t.length - 1) (d + e) i
    have hLi := lst_in h1 (d + e) i (hpos i hiN)
    refine HereO.call T_ok rfl rfl (l03List_spec t h1 h8 (d + e) i (by omega) (hpos i hiN) (by omega)) (by simp only [go_sem, Nat.reduceMul, Nat.reduceLeDiff, Nat.reduceLT, reduceIte, reduceCtorEq, Nat.reduceEqDiff, Nat.reduceSub, Nat.reduceAdd, List.toList_toArray] <;> first | rfl | exact ⟨rfl, rfl⟩) rfl ?_
    simp only [Try.results77, go_sem, Nat.reduceMul, Nat.reduceLeDiff, Nat.reduceLT, reduceIte, reduceCtorEq, Nat.reduceEqDiff, Nat.reduceSub, Nat.reduceAdd]
    have hq : qF t d v k w (lst (t.length - 1) (d + e) i) % m = (fun i => qF t d v k w (lst (t.length - 1) (d + e) i) % m) i := rfl
    have hqF := qF_ok hg hm (d := d) hv hw hLi
    generalize hLe : lst (t.length - 1) (d + e) i = L at *
    have htk : (L.take d).length = d := by simp; omega
    have hld : (L.drop d).length = e := by simp; omega
    refine Here.loopV T_ok (fun k => k ≤ d) (fun k => d - k) (fun j => [(4, .box [.rds (II t)]), (5, .box [.v (.int .i64 m), .rd (I k)]), (6, .box [.v (.int .i64 d), .rd (I v)]), (7, .box [.v (.int .i64 e), .rd (I w)]), (8, .ptr 108 0), (9, .v (.int .i64 ((d + e : Nat) : Int))), (10, .ptr 110 0), (11, .v (.int .i64 i)), (12, .rd (I L)), (13, .v (.int .i64 (tm t (L.take j)))), (14, .v (.int .i64 j))]) (fun _ => [(108, .cells 44 [.v (.int .i64 0), .v nilV]), (110, .cells 44 [.v (.int .i64 ((d + e : Nat) : Int)), .own 120]), (120, .row 2 (I (upTo (fun i => qF t d v k w (lst (t.length - 1) (d + e) i) % m) i)))]) 0 (by simp) (by simp only [Try.results77, go_sem, Nat.reduceMul, Nat.reduceLeDiff, Nat.reduceLT, reduceIte, reduceCtorEq, Nat.reduceEqDiff, Nat.reduceSub, Nat.reduceAdd]; simp [tm]) (by simp only [Try.results77, go_sem, Nat.reduceMul, Nat.reduceLeDiff, Nat.reduceLT, reduceIte, reduceCtorEq, Nat.reduceEqDiff, Nat.reduceSub, Nat.reduceAdd]) ?_
    intro j hj
    simp only [Try.results77, go_sem, Nat.reduceMul, Nat.reduceLeDiff, Nat.reduceLT, reduceIte, reduceCtorEq, Nat.reduceEqDiff, Nat.reduceSub, Nat.reduceAdd]
    refine ⟨fun h3 => ?_, fun h3 => ?_⟩
    · have hjd : j < d := by omega
      have hLj := hLi j (by omega)
      have htm := tm_lt hg (take_in hLi j)
      have htl := (hg.2.2.1 (tm t (L.take j)).toNat (by omega)).1
      refine Here.draw T_ok mixed_ok (by kernel_rfl) ?_
      simp only [Try.results77, go_sem, Nat.reduceMul, Nat.reduceLeDiff, Nat.reduceLT, reduceIte, reduceCtorEq, Nat.reduceEqDiff, Nat.reduceSub, Nat.reduceAdd]
      exact ⟨htm, ⟨by omega, by omega⟩, ⟨by omega, by omega⟩, by unfold InR; omega, j + 1, by omega, by omega, (tm_step (by omega)).symm, by simp⟩
    · have : j = d := by omega
      subst this
      have hta := take_in hLi j
      have hda := drop_in hLi j
      obtain ⟨q1, q2, q3, q4, q5⟩ := hqF
      refine Here.drawS T_ok 27 (Nat.le_of_ble_eq_true rfl) mixed_ok (by kernel_rfl) (by kernel_rfl) ?_
      simp only [Try.results77, go_sem, Nat.reduceMul, Nat.reduceLeDiff, Nat.reduceLT, reduceIte, reduceCtorEq, Nat.reduceEqDiff, Nat.reduceSub, Nat.reduceAdd]
      refine ⟨_, OpP.takeI T_ok (l := L) j rfl rfl (by simp only [go_sem, Nat.reduceMul, Nat.reduceLeDiff, Nat.reduceLT, reduceIte, reduceCtorEq, Nat.reduceEqDiff, Nat.reduceSub, Nat.reduceAdd] <;> rfl) ⟨_, (by simp only [go_sem, Nat.reduceMul, Nat.reduceLeDiff, Nat.reduceLT, reduceIte, reduceCtorEq, Nat.reduceEqDiff, Nat.reduceSub, Nat.reduceAdd] <;> rfl)⟩ (by omega), ?_⟩
      simp only [Try.results77, go_sem, Nat.reduceMul, Nat.reduceLeDiff, Nat.reduceLT, reduceIte, reduceCtorEq, Nat.reduceEqDiff, Nat.reduceSub, Nat.reduceAdd]
      refine ⟨_, OpP.call' rfl rfl (l03At_spec t hg j v (L.take j) (by omega) hta (by rw [htk]; exact hvl)) (by simp only [go_sem, Nat.reduceMul, Nat.reduceLeDiff, Nat.reduceLT, reduceIte, reduceCtorEq, Nat.reduceEqDiff, Nat.reduceSub, Nat.reduceAdd, List.toList_toArray] <;> first | rfl | exact ⟨rfl, rfl⟩) rfl, ?_⟩
      simp only [Try.results77, go_sem, Nat.reduceMul, Nat.reduceLeDiff, Nat.reduceLT, reduceIte, reduceCtorEq, Nat.reduceEqDiff, Nat.reduceSub, Nat.reduceAdd]
      refine ⟨⟨by omega, by omega⟩, q2, ?_⟩
      refine ⟨_, OpP.dropI T_ok (l := L) j rfl rfl (by simp only [go_sem, Nat.reduceMul, Nat.reduceLeDiff, Nat.reduceLT, reduceIte, reduceCtorEq, Nat.reduceEqDiff, Nat.reduceSub, Nat.reduceAdd] <;> rfl) ⟨_, (by simp only [go_sem, Nat.reduceMul, Nat.reduceLeDiff, Nat.reduceLT, reduceIte, reduceCtorEq, Nat.reduceEqDiff, Nat.reduceSub, Nat.reduceAdd] <;> rfl)⟩ (by omega), ?_⟩
      simp only [Try.results77, go_sem, Nat.reduceMul, Nat.reduceLeDiff, Nat.reduceLT, reduceIte, reduceCtorEq, Nat.reduceEqDiff, Nat.reduceSub, Nat.reduceAdd]
      refine ⟨_, OpP.call' rfl rfl (l03At_spec t hg e w (L.drop j) (by omega) hda (by rw [hld]; exact hwl)) (by simp only [go_sem, Nat.reduceMul, Nat.reduceLeDiff, Nat.reduceLT, reduceIte, reduceCtorEq, Nat.reduceEqDiff, Nat.reduceSub, Nat.reduceAdd, List.toList_toArray] <;> first | rfl | exact ⟨rfl, rfl⟩) rfl, ?_⟩
      simp only [Try.results77, go_sem, Nat.reduceMul, Nat.reduceLeDiff, Nat.reduceLT, reduceIte, reduceCtorEq, Nat.reduceEqDiff, Nat.reduceSub, Nat.reduceAdd]
      refine ⟨q3, ?_⟩
      refine ⟨_, OpP.call' rfl rfl (l01Mod12_spec (qF t j v k w L) m (by omega) (by omega) (by omega)) (by simp only [go_sem, Nat.reduceMul, Nat.reduceLeDiff, Nat.reduceLT, reduceIte, reduceCtorEq, Nat.reduceEqDiff, Nat.reduceSub, Nat.reduceAdd, List.toList_toArray] <;> first | rfl | exact ⟨rfl, rfl⟩) rfl, ?_⟩
      simp only [Try.results77, go_sem, Nat.reduceMul, Nat.reduceLeDiff, Nat.reduceLT, reduceIte, reduceCtorEq, Nat.reduceEqDiff, Nat.reduceSub, Nat.reduceAdd]
      refine ⟨_, OpP.buildRd T_ok (I [qF t j v k w L % m]) rfl rfl rfl (by decide) rfl (by first | rfl | (simp only [go_sem, Nat.reduceMul, Nat.reduceLeDiff, Nat.reduceLT, reduceIte, reduceCtorEq, Nat.reduceEqDiff, Nat.reduceSub, Nat.reduceAdd] <;> rfl)) rfl, ?_⟩
      simp only [Try.results77, go_sem, Nat.reduceMul, Nat.reduceLeDiff, Nat.reduceLT, reduceIte, reduceCtorEq, Nat.reduceEqDiff, Nat.reduceSub, Nat.reduceAdd]
      refine HereO.append T_ok (I [qF t j v k w L % m]) rfl rfl (by decide) (by simp only [go_sem, Nat.reduceMul, Nat.reduceLeDiff, Nat.reduceLT, reduceIte, reduceCtorEq, Nat.reduceEqDiff, Nat.reduceSub, Nat.reduceAdd] <;> rfl) (by decide) (by simp only [go_sem, Nat.reduceMul, Nat.reduceLeDiff, Nat.reduceLT, reduceIte, reduceCtorEq, Nat.reduceEqDiff, Nat.reduceSub, Nat.reduceAdd] <;> rfl) (by simp only [go_sem, Nat.reduceMul, Nat.reduceLeDiff, Nat.reduceLT, reduceIte, reduceCtorEq, Nat.reduceEqDiff, Nat.reduceSub, Nat.reduceAdd] <;> rfl) (.rd _) (I_one _) (by simp only [I_len, II_len, upTo_len, tab_len, cnt_len, List.length_append, List.length_cons, List.length_nil, List.length_replicate]; omega) ?_
      simp only [Try.results77, go_sem, Nat.reduceMul, Nat.reduceLeDiff, Nat.reduceLT, reduceIte, reduceCtorEq, Nat.reduceEqDiff, Nat.reduceSub, Nat.reduceAdd]
      refine HereO.store T_ok rfl (by simp only [go_sem, Nat.reduceMul, Nat.reduceLeDiff, Nat.reduceLT, reduceIte, reduceCtorEq, Nat.reduceEqDiff, Nat.reduceSub, Nat.reduceAdd] <;> rfl) (by simp only [go_sem, Nat.reduceMul, Nat.reduceLeDiff, Nat.reduceLT, reduceIte, reduceCtorEq, Nat.reduceEqDiff, Nat.reduceSub, Nat.reduceAdd] <;> rfl) rfl (by simp only [go_sem, Nat.reduceMul, Nat.reduceLeDiff, Nat.reduceLT, reduceIte, reduceCtorEq, Nat.reduceEqDiff, Nat.reduceSub, Nat.reduceAdd] <;> rfl) rfl (by first | rfl | (simp only [go_sem, Nat.reduceMul, Nat.reduceLeDiff, Nat.reduceLT, reduceIte, reduceCtorEq, Nat.reduceEqDiff, Nat.reduceSub, Nat.reduceAdd] <;> rfl)) (Nat.le_of_ble_eq_true rfl) ?_
      simp only [Try.results77, go_sem, Nat.reduceMul, Nat.reduceLeDiff, Nat.reduceLT, reduceIte, reduceCtorEq, Nat.reduceEqDiff, Nat.reduceSub, Nat.reduceAdd]
      rw [I_append]
      refine ⟨by unfold InR; omega, i + 1, by omega, by omega, by push_cast; rfl, ?_⟩
      rw [upTo_succ, hLe]
  · have : i = N := by omega
    subst this
    refine HereO.storeAgg T_ok rfl (by simp only [go_sem, Nat.reduceMul, Nat.reduceLeDiff, Nat.reduceLT, reduceIte, reduceCtorEq, Nat.reduceEqDiff, Nat.reduceSub, Nat.reduceAdd] <;> rfl) (by simp only [go_sem, Nat.reduceMul, Nat.reduceLeDiff, Nat.reduceLT, reduceIte, reduceCtorEq, Nat.reduceEqDiff, Nat.reduceSub, Nat.reduceAdd] <;> rfl) rfl (by simp only [go_sem, Nat.reduceMul, Nat.reduceLeDiff, Nat.reduceLT, reduceIte, reduceCtorEq, Nat.reduceEqDiff, Nat.reduceSub, Nat.reduceAdd] <;> rfl) (by first | rfl | (simp only [go_sem, Nat.reduceMul, Nat.reduceLeDiff, Nat.reduceLT, reduceIte, reduceCtorEq, Nat.reduceEqDiff, Nat.reduceSub, Nat.reduceAdd] <;> rfl)) rfl rfl ?_
    simp only [Try.results77, go_sem, Nat.reduceMul, Nat.reduceLeDiff, Nat.reduceLT, reduceIte, reduceCtorEq, Nat.reduceEqDiff, Nat.reduceSub, Nat.reduceAdd]
    refine RetT.one 120 (by simp only [Try.results77, go_sem, Nat.reduceMul, Nat.reduceLeDiff, Nat.reduceLT, reduceIte, reduceCtorEq, Nat.reduceEqDiff, Nat.reduceSub, Nat.reduceAdd]; rfl) rfl ?_
    simp only [Try.results77, go_sem, Nat.reduceMul, Nat.reduceLeDiff, Nat.reduceLT, reduceIte, reduceCtorEq, Nat.reduceEqDiff, Nat.reduceSub, Nat.reduceAdd]
def prodC (t : List (List Int)) (a b : Int × List Int) (d : Int) (v : List Int) (e : Int) (w : List Int) : Int :=
  if Grp t ∧ Mod t a.1 a.2 ∧ Mod t b.1 b.2 ∧ Coc t a.1 d v ∧ Coc t b.1 e w then (if a.1 ≠ b.1 ∨ d + e > 3 then 2 else 0) else 1
def prodD (t : List (List Int)) (a b : Int × List Int) (d : Int) (v : List Int) (e : Int) (w : List Int) : Int := if prodC t a b d v e w = 0 then d + e else 0
def prodL (t : List (List Int)) (a b : Int × List Int) (d : Int) (v : List Int) (e : Int) (w : List Int) : List Int :=
  if prodC t a b d v e w = 0 then upTo (fun i => qF t d.toNat v b.2 w (lst (t.length - 1) (d.toNat + e.toNat) i) % b.1) ((t.length - 1) ^ (d.toNat + e.toNat)) else []
theorem prodC0 {t : List (List Int)} {a b : Int × List Int} {d : Int} {v : List Int} {e : Int} {w : List Int} (h : Grp t ∧ Mod t a.1 a.2 ∧ Mod t b.1 b.2 ∧ Coc t a.1 d v ∧ Coc t b.1 e w) (q : ¬ (a.1 ≠ b.1 ∨ d + e > 3)) : prodC t a b d v e w = 0 := by
  unfold prodC; rw [if_pos h, if_neg q]
theorem prodC2 {t : List (List Int)} {a b : Int × List Int} {d : Int} {v : List Int} {e : Int} {w : List Int} (h : Grp t ∧ Mod t a.1 a.2 ∧ Mod t b.1 b.2 ∧ Coc t a.1 d v ∧ Coc t b.1 e w) (q : a.1 ≠ b.1 ∨ d + e > 3) : prodC t a b d v e w = 2 := by
  unfold prodC; rw [if_pos h, if_pos q]
theorem prodC1 {t : List (List Int)} {a b : Int × List Int} {d : Int} {v : List Int} {e : Int} {w : List Int} (h : ¬ (Grp t ∧ Mod t a.1 a.2 ∧ Mod t b.1 b.2 ∧ Coc t a.1 d v ∧ Coc t b.1 e w)) : prodC t a b d v e w = 1 := by
  unfold prodC; rw [if_neg h]
theorem Mods2 {t : List (List Int)} {a b : Int × List Int} : Mods t [a, b] ↔ Mod t a.1 a.2 ∧ Mod t b.1 b.2 := by simp [Mods]
theorem Coc_deg {t : List (List Int)} {m d : Int} {v : List Int} (h : Coc t m d v) : 0 ≤ d ∧ d ≤ 3 := by
  have := h.1; omega
theorem Coc_in {t : List (List Int)} {m d : Int} {v : List Int} (h : Coc t m d v) : AreIn m v := h.2.2
theorem Coc_len {t : List (List Int)} {m : Int} {d : Nat} {v : List Int} (h1 : 1 ≤ t.length) (h : Coc t m d v) : v.length = (t.length - 1) ^ d := by
  have h2 := h.2.1
  rw [Int.toNat_natCast, show (t.length : Int) - 1 = ((t.length - 1 : Nat) : Int) by omega] at h2
  exact_mod_cast h2
theorem pow_two {b d i : Nat} (hi : i < (b - 1) ^ d) (h0 : 0 < d) : 2 ≤ b := by
  apply Classical.byContradiction
  intro q
  rw [show b - 1 = 0 by omega, Nat.zero_pow h0] at hi
  omega
theorem codeC0 {t : List (List Int)} {m : Int} {l : List Int} {fs : List (Int × List Int)} (h1 : Grp t) (h2 : Mod t m l) (h3 : Cocs t m fs) : codeC t m l fs = 0 := by
  unfold codeC; rw [if_pos ⟨⟨h1, h2⟩, h3⟩]
theorem prodL_ok (t : List (List Int)) (a b : Int × List Int) (d : Int) (v : List Int) (e : Int) (w : List Int) : (prodL t a b d v e w).length ≤ 1048576 := by
  unfold prodL
  split
  · rename_i h
    unfold prodC at h
    split at h
    · rename_i hp
      split at h
      · omega
      · rename_i q
        have h1 := Coc_deg hp.2.2.2.1
        have h2 := Coc_deg hp.2.2.2.2
        have := pow7 (b := t.length - 1) (by have := hp.1.2.1; omega) (j := d.toNat + e.toNat) (by omega)
        rw [upTo_len]
        omega
    · omega
  · simp
theorem implProductOfCochains (t : List (List Int)) (a b : Int × List Int) (d : Int) (v : List Int) (e : Int) (w : List Int) :
    Spec Try.prog 42 [.agg [.rds (II t)], .agg [.v (.int .i64 a.1), .rd (I a.2)], .agg [.v (.int .i64 b.1), .rd (I b.2)], .agg [.v (.int .i64 d), .rd (I v)], .agg [.v (.int .i64 e), .rd (I w)]] (.tup [.agg [.v (.int .i64 (prodD t a b d v e w)), .own 0], .v (.int .i64 (prodC t a b d v e w))]) [.row 2 (I (prodL t a b d v e w))] := by
  refine Spec.of_codeC T_ok Try.func42 rfl Try.ntmps42 Try.call42 (Nat.le_of_ble_eq_true rfl) rfl rfl (CodeV_sound T_ok (by kernel_rfl) rfl ?_)
  simp only [Try.results42, go_sem, Nat.reduceMul, Nat.reduceLeDiff, Nat.reduceLT, reduceIte, reduceCtorEq, Nat.reduceEqDiff, Nat.reduceSub, Nat.reduceAdd]
  refine HereO.alloc T_ok 110 rfl rfl (by decide) ?_
  simp only [Try.results42, go_sem, Nat.reduceMul, Nat.reduceLeDiff, Nat.reduceLT, reduceIte, reduceCtorEq, Nat.reduceEqDiff, Nat.reduceSub, Nat.reduceAdd]
  refine HereO.opP T_ok (OpP.buildA sl2_98 (MM [a, b]) rfl rfl (by decide) (by decide) rfl rfl) ?_
  simp only [Try.results42, go_sem, Nat.reduceMul, Nat.reduceLeDiff, Nat.reduceLT, reduceIte, reduceCtorEq, Nat.reduceEqDiff, Nat.reduceSub, Nat.reduceAdd]
  refine HereO.call T_ok rfl rfl (areModules_spec t [a, b] (by simp) (by simp)) (by simp only [go_sem, Nat.reduceMul, Nat.reduceLeDiff, Nat.reduceLT, reduceIte, reduceCtorEq, Nat.reduceEqDiff, Nat.reduceSub, Nat.reduceAdd, List.toList_toArray] <;> first | rfl | exact ⟨rfl, rfl⟩) rfl ?_
  simp only [Try.results42, go_sem, Nat.reduceMul, Nat.reduceLeDiff, Nat.reduceLT, reduceIte, reduceCtorEq, Nat.reduceEqDiff, Nat.reduceSub, Nat.reduceAdd]
  refine ⟨fun h => ?_, fun h => ?_⟩
  · have hg := h.1
    obtain ⟨hma, hmb⟩ := Mods2.1 h.2
    refine HereO.call T_ok rfl rfl (isCochain_spec t hg a.1 a.2 d v) (by simp only [go_sem, Nat.reduceMul, Nat.reduceLeDiff, Nat.reduceLT, reduceIte, reduceCtorEq, Nat.reduceEqDiff, Nat.reduceSub, Nat.reduceAdd, List.toList_toArray] <;> first | rfl | exact ⟨rfl, rfl⟩) rfl ?_
    simp only [Try.results42, go_sem, Nat.reduceMul, Nat.reduceLeDiff, Nat.reduceLT, reduceIte, reduceCtorEq, Nat.reduceEqDiff, Nat.reduceSub, Nat.reduceAdd]
    refine ⟨fun ha => ?_, fun ha => ?_⟩
    · refine HereO.call T_ok rfl rfl (isCochain_spec t hg b.1 b.2 e w) (by simp only [go_sem, Nat.reduceMul, Nat.reduceLeDiff, Nat.reduceLT, reduceIte, reduceCtorEq, Nat.reduceEqDiff, Nat.reduceSub, Nat.reduceAdd, List.toList_toArray] <;> first | rfl | exact ⟨rfl, rfl⟩) rfl ?_
      simp only [Try.results42, go_sem, Nat.reduceMul, Nat.reduceLeDiff, Nat.reduceLT, reduceIte, reduceCtorEq, Nat.reduceEqDiff, Nat.reduceSub, Nat.reduceAdd]
      refine ⟨fun hb => ?_, fun hb => ?_⟩
      rotate_left
      · have hp : Grp t ∧ Mod t a.1 a.2 ∧ Mod t b.1 b.2 ∧ Coc t a.1 d v ∧ Coc t b.1 e w := ⟨hg, hma, hmb, ha, hb⟩
        have ha3 := Coc_deg ha
        have hb3 := Coc_deg hb
        refine ⟨fun h3 => ⟨by unfold InR; omega, fun h4 => ?_, fun h4 => ⟨by unfold InR; omega, ?_⟩⟩, fun h3 => ?_⟩
        · have hc := prodC2 hp (Or.inr (by omega))
          refine HereO.opP T_ok (OpP.build built_44 rfl rfl rfl rfl) ?_
          simp only [Try.results42, go_sem, Nat.reduceMul, Nat.reduceLeDiff, Nat.reduceLT, reduceIte, reduceCtorEq, Nat.reduceEqDiff, Nat.reduceSub, Nat.reduceAdd]
          refine HereO.storeAgg T_ok rfl (by simp only [go_sem, Nat.reduceMul, Nat.reduceLeDiff, Nat.reduceLT, reduceIte, reduceCtorEq, Nat.reduceEqDiff, Nat.reduceSub, Nat.reduceAdd] <;> rfl) (by simp only [go_sem, Nat.reduceMul, Nat.reduceLeDiff, Nat.reduceLT, reduceIte, reduceCtorEq, Nat.reduceEqDiff, Nat.reduceSub, Nat.reduceAdd] <;> rfl) rfl (by simp only [go_sem, Nat.reduceMul, Nat.reduceLeDiff, Nat.reduceLT, reduceIte, reduceCtorEq, Nat.reduceEqDiff, Nat.reduceSub, Nat.reduceAdd] <;> rfl) (by first | rfl | (simp only [go_sem, Nat.reduceMul, Nat.reduceLeDiff, Nat.reduceLT, reduceIte, reduceCtorEq, Nat.reduceEqDiff, Nat.reduceSub, Nat.reduceAdd] <;> rfl)) rfl rfl ?_
          simp only [Try.results42, go_sem, Nat.reduceMul, Nat.reduceLeDiff, Nat.reduceLT, reduceIte, reduceCtorEq, Nat.reduceEqDiff, Nat.reduceSub, Nat.reduceAdd]
          exact RetC.conv (Conv.nilIn (c := 110) (tt := 44) (l := [.v (.int .i64 0), .v nilV]) 1 520 (.row 2 []) rfl (by decide) (by decide) (by rfl) rfl) (RetC.of (RetT.one 520 (by simp only [Try.results42, go_sem, Nat.reduceMul, Nat.reduceLeDiff, Nat.reduceLT, reduceIte, reduceCtorEq, Nat.reduceEqDiff, Nat.reduceSub, Nat.reduceAdd]; rfl) (by simp only [Try.results42, go_sem, Nat.reduceMul, Nat.reduceLeDiff, Nat.reduceLT, reduceIte, reduceCtorEq, Nat.reduceEqDiff, Nat.reduceSub, Nat.reduceAdd]; simp [prodD, prodL, hc, I]) (by simp only [Try.results42, go_sem, Nat.reduceMul, Nat.reduceLeDiff, Nat.reduceLT, reduceIte, reduceCtorEq, Nat.reduceEqDiff, Nat.reduceSub, Nat.reduceAdd]; simp [prodD, prodL, hc, I])))
        · have hc := prodC0 hp (by omega)
          obtain ⟨d, rfl⟩ := Int.eq_ofNat_of_zero_le ha3.1
          obtain ⟨e, rfl⟩ := Int.eq_ofNat_of_zero_le hb3.1
          have hde : (d : Int) + (e : Int) = ((d + e : Nat) : Int) := by push_cast; rfl
          have hi1 := Coc_in ha
          rw [h3] at hi1
          have hL : ∀ i, i < (t.length - 1) ^ (d + e) → AreIn t.length (lst (t.length - 1) (d + e) i) := fun i hi => lst_in hg.1 (d + e) i (pow_two hi)
          rw [hde]
          refine HereO.callOwn T_ok 56 rfl rfl (told_spec t hg a.1 hma.1 (d + e) (by omega) 80 [.box [.v (.int .i64 d), .rd (I v)], .box [.rds (II t)], .box [.v (.int .i64 b.1), .rd (I b.2)], .box [.v (.int .i64 e), .rd (I w)]] (Fix.cons (Fix.box (Fix.cons (Fix.v _) (Fix.rd _))) (Fix.cons (Fix.box (Fix.rds _)) (Fix.cons (Fix.box (Fix.cons (Fix.v _) (Fix.rd _))) (Fix.box (Fix.cons (Fix.v _) (Fix.rd _)))))) (fun i => qF t d v b.2 w (lst (t.length - 1) (d + e) i)) (fun i hi => Prod1C_spec t hg b.1 b.2 hmb d e v w _ (lst_len ..) (by omega) (hL i hi) hi1 (Coc_in hb) (Coc_len hg.1 ha) (Coc_len hg.1 hb)) (fun i hi => (qF_ok hg hmb (d := d) hi1 (Coc_in hb) (hL i hi)).2.2.2)) (by simp only [go_sem, Nat.reduceMul, Nat.reduceLeDiff, Nat.reduceLT, reduceIte, reduceCtorEq, Nat.reduceEqDiff, Nat.reduceSub, Nat.reduceAdd, List.toList_toArray] <;> first | rfl | exact ⟨rfl, rfl⟩) rfl (by simp) rfl ?_
          simp only [Try.results42, go_sem, Nat.reduceMul, Nat.reduceLeDiff, Nat.reduceLT, reduceIte, reduceCtorEq, Nat.reduceEqDiff, Nat.reduceSub, Nat.reduceAdd]
          refine HereO.storeAgg T_ok rfl (by simp only [go_sem, Nat.reduceMul, Nat.reduceLeDiff, Nat.reduceLT, reduceIte, reduceCtorEq, Nat.reduceEqDiff, Nat.reduceSub, Nat.reduceAdd] <;> rfl) (by simp only [go_sem, Nat.reduceMul, Nat.reduceLeDiff, Nat.reduceLT, reduceIte, reduceCtorEq, Nat.reduceEqDiff, Nat.reduceSub, Nat.reduceAdd] <;> rfl) rfl (by simp only [go_sem, Nat.reduceMul, Nat.reduceLeDiff, Nat.reduceLT, reduceIte, reduceCtorEq, Nat.reduceEqDiff, Nat.reduceSub, Nat.reduceAdd] <;> rfl) (by first | rfl | (simp only [go_sem, Nat.reduceMul, Nat.reduceLeDiff, Nat.reduceLT, reduceIte, reduceCtorEq, Nat.reduceEqDiff, Nat.reduceSub, Nat.reduceAdd] <;> rfl)) rfl rfl ?_
          simp only [Try.results42, go_sem, Nat.reduceMul, Nat.reduceLeDiff, Nat.reduceLT, reduceIte, reduceCtorEq, Nat.reduceEqDiff, Nat.reduceSub, Nat.reduceAdd]
          exact RetC.of (RetT.one 1896 (by simp only [Try.results42, go_sem, Nat.reduceMul, Nat.reduceLeDiff, Nat.reduceLT, reduceIte, reduceCtorEq, Nat.reduceEqDiff, Nat.reduceSub, Nat.reduceAdd]; rfl) (by simp only [Try.results42, go_sem, Nat.reduceMul, Nat.reduceLeDiff, Nat.reduceLT, reduceIte, reduceCtorEq, Nat.reduceEqDiff, Nat.reduceSub, Nat.reduceAdd]; simp [prodD, prodL, hc, h3]) (by simp only [Try.results42, go_sem, Nat.reduceMul, Nat.reduceLeDiff, Nat.reduceLT, reduceIte, reduceCtorEq, Nat.reduceEqDiff, Nat.reduceSub, Nat.reduceAdd]; simp [prodD, prodL, hc, h3]))
        · have hc := prodC2 hp (Or.inl h3)
          refine HereO.opP T_ok (OpP.build built_44 rfl rfl rfl rfl) ?_
          simp only [Try.results42, go_sem, Nat.reduceMul, Nat.reduceLeDiff, Nat.reduceLT, reduceIte, reduceCtorEq, Nat.reduceEqDiff, Nat.reduceSub, Nat.reduceAdd]
          refine HereO.storeAgg T_ok rfl (by simp only [go_sem, Nat.reduceMul, Nat.reduceLeDiff, Nat.reduceLT, reduceIte, reduceCtorEq, Nat.reduceEqDiff, Nat.reduceSub, Nat.reduceAdd] <;> rfl) (by simp only [go_sem, Nat.reduceMul, Nat.reduceLeDiff, Nat.reduceLT, reduceIte, reduceCtorEq, Nat.reduceEqDiff, Nat.reduceSub, Nat.reduceAdd] <;> rfl) rfl (by simp only [go_sem, Nat.reduceMul, Nat.reduceLeDiff, Nat.reduceLT, reduceIte, reduceCtorEq, Nat.reduceEqDiff, Nat.reduceSub, Nat.reduceAdd] <;> rfl) (by first | rfl | (simp only [go_sem, Nat.reduceMul, Nat.reduceLeDiff, Nat.reduceLT, reduceIte, reduceCtorEq, Nat.reduceEqDiff, Nat.reduceSub, Nat.reduceAdd] <;> rfl)) rfl rfl ?_
          simp only [Try.results42, go_sem, Nat.reduceMul, Nat.reduceLeDiff, Nat.reduceLT, reduceIte, reduceCtorEq, Nat.reduceEqDiff, Nat.reduceSub, Nat.reduceAdd]
          exact RetC.conv (Conv.nilIn (c := 110) (tt := 44) (l := [.v (.int .i64 0), .v nilV]) 1 520 (.row 2 []) rfl (by decide) (by decide) (by rfl) rfl) (RetC.of (RetT.one 520 (by simp only [Try.results42, go_sem, Nat.reduceMul, Nat.reduceLeDiff, Nat.reduceLT, reduceIte, reduceCtorEq, Nat.reduceEqDiff, Nat.reduceSub, Nat.reduceAdd]; rfl) (by simp only [Try.results42, go_sem, Nat.reduceMul, Nat.reduceLeDiff, Nat.reduceLT, reduceIte, reduceCtorEq, Nat.reduceEqDiff, Nat.reduceSub, Nat.reduceAdd]; simp [prodD, prodL, hc, I]) (by simp only [Try.results42, go_sem, Nat.reduceMul, Nat.reduceLeDiff, Nat.reduceLT, reduceIte, reduceCtorEq, Nat.reduceEqDiff, Nat.reduceSub, Nat.reduceAdd]; simp [prodD, prodL, hc, I])))
      · have hc := prodC1 (t := t) (b := b) (d := d) (v := v) (a := a) (e := e) (w := w) (fun q => hb q.2.2.2.2)
        refine HereO.opP T_ok (OpP.build built_44 rfl rfl rfl rfl) ?_
        simp only [Try.results42, go_sem, Nat.reduceMul, Nat.reduceLeDiff, Nat.reduceLT, reduceIte, reduceCtorEq, Nat.reduceEqDiff, Nat.reduceSub, Nat.reduceAdd]
        refine HereO.storeAgg T_ok rfl (by simp only [go_sem, Nat.reduceMul, Nat.reduceLeDiff, Nat.reduceLT, reduceIte, reduceCtorEq, Nat.reduceEqDiff, Nat.reduceSub, Nat.reduceAdd] <;> rfl) (by simp only [go_sem, Nat.reduceMul, Nat.reduceLeDiff, Nat.reduceLT, reduceIte, reduceCtorEq, Nat.reduceEqDiff, Nat.reduceSub, Nat.reduceAdd] <;> rfl) rfl (by simp only [go_sem, Nat.reduceMul, Nat.reduceLeDiff, Nat.reduceLT, reduceIte, reduceCtorEq, Nat.reduceEqDiff, Nat.reduceSub, Nat.reduceAdd] <;> rfl) (by first | rfl | (simp only [go_sem, Nat.reduceMul, Nat.reduceLeDiff, Nat.reduceLT, reduceIte, reduceCtorEq, Nat.reduceEqDiff, Nat.reduceSub, Nat.reduceAdd] <;> rfl)) rfl rfl ?_
        simp only [Try.results42, go_sem, Nat.reduceMul, Nat.reduceLeDiff, Nat.reduceLT, reduceIte, reduceCtorEq, Nat.reduceEqDiff, Nat.reduceSub, Nat.reduceAdd]
        exact RetC.conv (Conv.nilIn (c := 110) (tt := 44) (l := [.v (.int .i64 0), .v nilV]) 1 520 (.row 2 []) rfl (by decide) (by decide) (by rfl) rfl) (RetC.of (RetT.one 520 (by simp only [Try.results42, go_sem, Nat.reduceMul, Nat.reduceLeDiff, Nat.reduceLT, reduceIte, reduceCtorEq, Nat.reduceEqDiff, Nat.reduceSub, Nat.reduceAdd]; rfl) (by simp only [Try.results42, go_sem, Nat.reduceMul, Nat.reduceLeDiff, Nat.reduceLT, reduceIte, reduceCtorEq, Nat.reduceEqDiff, Nat.reduceSub, Nat.reduceAdd]; simp [prodD, prodL, hc, I]) (by simp only [Try.results42, go_sem, Nat.reduceMul, Nat.reduceLeDiff, Nat.reduceLT, reduceIte, reduceCtorEq, Nat.reduceEqDiff, Nat.reduceSub, Nat.reduceAdd]; simp [prodD, prodL, hc, I])))
    · have hc := prodC1 (t := t) (b := b) (d := d) (v := v) (a := a) (e := e) (w := w) (fun q => ha q.2.2.2.1)
      refine HereO.opP T_ok (OpP.build built_44 rfl rfl rfl rfl) ?_
      simp only [Try.results42, go_sem, Nat.reduceMul, Nat.reduceLeDiff, Nat.reduceLT, reduceIte, reduceCtorEq, Nat.reduceEqDiff, Nat.reduceSub, Nat.reduceAdd]
      refine HereO.storeAgg T_ok rfl (by simp only [go_sem, Nat.reduceMul, Nat.reduceLeDiff, Nat.reduceLT, reduceIte, reduceCtorEq, Nat.reduceEqDiff, Nat.reduceSub, Nat.reduceAdd] <;> rfl) (by simp only [go_sem, Nat.reduceMul, Nat.reduceLeDiff, Nat.reduceLT, reduceIte, reduceCtorEq, Nat.reduceEqDiff, Nat.reduceSub, Nat.reduceAdd] <;> rfl) rfl (by simp only [go_sem, Nat.reduceMul, Nat.reduceLeDiff, Nat.reduceLT, reduceIte, reduceCtorEq, Nat.reduceEqDiff, Nat.reduceSub, Nat.reduceAdd] <;> rfl) (by first | rfl | (simp only [go_sem, Nat.reduceMul, Nat.reduceLeDiff, Nat.reduceLT, reduceIte, reduceCtorEq, Nat.reduceEqDiff, Nat.reduceSub, Nat.reduceAdd] <;> rfl)) rfl rfl ?_
      simp only [Try.results42, go_sem, Nat.reduceMul, Nat.reduceLeDiff, Nat.reduceLT, reduceIte, reduceCtorEq, Nat.reduceEqDiff, Nat.reduceSub, Nat.reduceAdd]
      exact RetC.conv (Conv.nilIn (c := 110) (tt := 44) (l := [.v (.int .i64 0), .v nilV]) 1 520 (.row 2 []) rfl (by decide) (by decide) (by rfl) rfl) (RetC.of (RetT.one 520 (by simp only [Try.results42, go_sem, Nat.reduceMul, Nat.reduceLeDiff, Nat.reduceLT, reduceIte, reduceCtorEq, Nat.reduceEqDiff, Nat.reduceSub, Nat.reduceAdd]; rfl) (by simp only [Try.results42, go_sem, Nat.reduceMul, Nat.reduceLeDiff, Nat.reduceLT, reduceIte, reduceCtorEq, Nat.reduceEqDiff, Nat.reduceSub, Nat.reduceAdd]; simp [prodD, prodL, hc, I]) (by simp only [Try.results42, go_sem, Nat.reduceMul, Nat.reduceLeDiff, Nat.reduceLT, reduceIte, reduceCtorEq, Nat.reduceEqDiff, Nat.reduceSub, Nat.reduceAdd]; simp [prodD, prodL, hc, I])))
  · have hc := prodC1 (t := t) (a := a) (b := b) (d := d) (v := v) (e := e) (w := w) (fun q => h ⟨q.1, Mods2.2 ⟨q.2.1, q.2.2.1⟩⟩)
    refine HereO.opP T_ok (OpP.build built_44 rfl rfl rfl rfl) ?_
    simp only [Try.results42, go_sem, Nat.reduceMul, Nat.reduceLeDiff, Nat.reduceLT, reduceIte, reduceCtorEq, Nat.reduceEqDiff, Nat.reduceSub, Nat.reduceAdd]
    refine HereO.storeAgg T_ok rfl (by simp only [go_sem, Nat.reduceMul, Nat.reduceLeDiff, Nat.reduceLT, reduceIte, reduceCtorEq, Nat.reduceEqDiff, Nat.reduceSub, Nat.reduceAdd] <;> rfl) (by simp only [go_sem, Nat.reduceMul, Nat.reduceLeDiff, Nat.reduceLT, reduceIte, reduceCtorEq, Nat.reduceEqDiff, Nat.reduceSub, Nat.reduceAdd] <;> rfl) rfl (by simp only [go_sem, Nat.reduceMul, Nat.reduceLeDiff, Nat.reduceLT, reduceIte, reduceCtorEq, Nat.reduceEqDiff, Nat.reduceSub, Nat.reduceAdd] <;> rfl) (by first | rfl | (simp only [go_sem, Nat.reduceMul, Nat.reduceLeDiff, Nat.reduceLT, reduceIte, reduceCtorEq, Nat.reduceEqDiff, Nat.reduceSub, Nat.reduceAdd] <;> rfl)) rfl rfl ?_
    simp only [Try.results42, go_sem, Nat.reduceMul, Nat.reduceLeDiff, Nat.reduceLT, reduceIte, reduceCtorEq, Nat.reduceEqDiff, Nat.reduceSub, Nat.reduceAdd]
    exact RetC.conv (Conv.nilIn (c := 110) (tt := 44) (l := [.v (.int .i64 0), .v nilV]) 1 520 (.row 2 []) rfl (by decide) (by decide) (by rfl) rfl) (RetC.of (RetT.one 520 (by simp only [Try.results42, go_sem, Nat.reduceMul, Nat.reduceLeDiff, Nat.reduceLT, reduceIte, reduceCtorEq, Nat.reduceEqDiff, Nat.reduceSub, Nat.reduceAdd]; rfl) (by simp only [Try.results42, go_sem, Nat.reduceMul, Nat.reduceLeDiff, Nat.reduceLT, reduceIte, reduceCtorEq, Nat.reduceEqDiff, Nat.reduceSub, Nat.reduceAdd]; simp [prodD, prodL, hc, I]) (by simp only [Try.results42, go_sem, Nat.reduceMul, Nat.reduceLeDiff, Nat.reduceLT, reduceIte, reduceCtorEq, Nat.reduceEqDiff, Nat.reduceSub, Nat.reduceAdd]; simp [prodD, prodL, hc, I])))
theorem specProductOfCochains (t : List (List Int)) (a b : Int × List Int) (d : Int) (v : List Int) (e : Int) (w : List Int) :
    Spec Try.prog 41 [.agg [.rds (II t)], .agg [.v (.int .i64 a.1), .rd (I a.2)], .agg [.v (.int .i64 b.1), .rd (I b.2)], .agg [.v (.int .i64 d), .rd (I v)], .agg [.v (.int .i64 e), .rd (I w)]] (.tup [.agg [.v (.int .i64 (prodD t a b d v e w)), .own 0], .v (.int .i64 (prodC t a b d v e w))]) [.row 2 (I (prodL t a b d v e w))] := by
  refine Spec.of_codeC T_ok Try.func41 rfl Try.ntmps41 Try.call41 (Nat.le_of_ble_eq_true rfl) rfl rfl (CodeV_sound T_ok (by kernel_rfl) rfl ?_)
  simp only [Try.results41, go_sem, Nat.reduceMul, Nat.reduceLeDiff, Nat.reduceLT, reduceIte, reduceCtorEq, Nat.reduceEqDiff, Nat.reduceSub, Nat.reduceAdd]
  refine HereO.alloc T_ok 110 rfl rfl (by decide) ?_
  simp only [Try.results41, go_sem, Nat.reduceMul, Nat.reduceLeDiff, Nat.reduceLT, reduceIte, reduceCtorEq, Nat.reduceEqDiff, Nat.reduceSub, Nat.reduceAdd]
  refine HereO.opP T_ok (OpP.buildA sl2_94 (MM [(d, v)]) rfl rfl (by decide) (by decide) rfl rfl) ?_
  simp only [Try.results41, go_sem, Nat.reduceMul, Nat.reduceLeDiff, Nat.reduceLT, reduceIte, reduceCtorEq, Nat.reduceEqDiff, Nat.reduceSub, Nat.reduceAdd]
  refine HereO.call T_ok rfl rfl (l03Code_spec t a.1 a.2 [(d, v)] (by simp)) (by simp only [go_sem, Nat.reduceMul, Nat.reduceLeDiff, Nat.reduceLT, reduceIte, reduceCtorEq, Nat.reduceEqDiff, Nat.reduceSub, Nat.reduceAdd, List.toList_toArray] <;> first | rfl | exact ⟨rfl, rfl⟩) rfl ?_
  simp only [Try.results41, go_sem, Nat.reduceMul, Nat.reduceLeDiff, Nat.reduceLT, reduceIte, reduceCtorEq, Nat.reduceEqDiff, Nat.reduceSub, Nat.reduceAdd]
  refine ⟨fun h1 => ?_, fun h1 => ⟨fun q => absurd q h1, fun _ => ⟨fun _ => ?_, fun q => absurd q h1⟩⟩⟩
  · refine HereO.opP T_ok (OpP.buildA sl2_94 (MM [(e, w)]) rfl rfl (by decide) (by decide) rfl rfl) ?_
    simp only [Try.results41, go_sem, Nat.reduceMul, Nat.reduceLeDiff, Nat.reduceLT, reduceIte, reduceCtorEq, Nat.reduceEqDiff, Nat.reduceSub, Nat.reduceAdd]
    refine HereO.call T_ok rfl rfl (l03Code_spec t b.1 b.2 [(e, w)] (by simp)) (by simp only [go_sem, Nat.reduceMul, Nat.reduceLeDiff, Nat.reduceLT, reduceIte, reduceCtorEq, Nat.reduceEqDiff, Nat.reduceSub, Nat.reduceAdd, List.toList_toArray] <;> first | rfl | exact ⟨rfl, rfl⟩) rfl ?_
    simp only [Try.results41, go_sem, Nat.reduceMul, Nat.reduceLeDiff, Nat.reduceLT, reduceIte, reduceCtorEq, Nat.reduceEqDiff, Nat.reduceSub, Nat.reduceAdd]
    refine ⟨fun h2 => ?_, fun h2 => ⟨fun _ => ?_, fun q => absurd q h2⟩⟩
    · obtain ⟨hg, hma, ca⟩ := codeC_ok h1
      obtain ⟨_, hmb, cb⟩ := codeC_ok h2
      have ha := Cocs1.1 ca
      have hb := Cocs1.1 cb
      have hp : Grp t ∧ Mod t a.1 a.2 ∧ Mod t b.1 b.2 ∧ Coc t a.1 d v ∧ Coc t b.1 e w := ⟨hg, hma, hmb, ha, hb⟩
      have ha3 := Coc_deg ha
      have hb3 := Coc_deg hb
      refine ⟨fun h3 => ⟨by unfold InR; omega, fun h4 => ⟨fun _ => ?_, fun q => absurd q (by decide)⟩, fun h4 => ⟨fun q => absurd h2 q, fun _ => ?_⟩⟩, fun h3 => ⟨fun _ => ?_, fun q => absurd q (by decide)⟩⟩
      · have hc := prodC2 hp (Or.inr (by omega))
        refine HereO.opP T_ok (OpP.build built_44 rfl rfl rfl rfl) ?_
        simp only [Try.results41, go_sem, Nat.reduceMul, Nat.reduceLeDiff, Nat.reduceLT, reduceIte, reduceCtorEq, Nat.reduceEqDiff, Nat.reduceSub, Nat.reduceAdd]
        refine HereO.storeAgg T_ok rfl (by simp only [go_sem, Nat.reduceMul, Nat.reduceLeDiff, Nat.reduceLT, reduceIte, reduceCtorEq, Nat.reduceEqDiff, Nat.reduceSub, Nat.reduceAdd] <;> rfl) (by simp only [go_sem, Nat.reduceMul, Nat.reduceLeDiff, Nat.reduceLT, reduceIte, reduceCtorEq, Nat.reduceEqDiff, Nat.reduceSub, Nat.reduceAdd] <;> rfl) rfl (by simp only [go_sem, Nat.reduceMul, Nat.reduceLeDiff, Nat.reduceLT, reduceIte, reduceCtorEq, Nat.reduceEqDiff, Nat.reduceSub, Nat.reduceAdd] <;> rfl) (by first | rfl | (simp only [go_sem, Nat.reduceMul, Nat.reduceLeDiff, Nat.reduceLT, reduceIte, reduceCtorEq, Nat.reduceEqDiff, Nat.reduceSub, Nat.reduceAdd] <;> rfl)) rfl rfl ?_
        simp only [Try.results41, go_sem, Nat.reduceMul, Nat.reduceLeDiff, Nat.reduceLT, reduceIte, reduceCtorEq, Nat.reduceEqDiff, Nat.reduceSub, Nat.reduceAdd]
        exact RetC.conv (Conv.nilIn (c := 110) (tt := 44) (l := [.v (.int .i64 0), .v nilV]) 1 520 (.row 2 []) rfl (by decide) (by decide) (by rfl) rfl) (RetC.of (RetT.one 520 (by simp only [Try.results41, go_sem, Nat.reduceMul, Nat.reduceLeDiff, Nat.reduceLT, reduceIte, reduceCtorEq, Nat.reduceEqDiff, Nat.reduceSub, Nat.reduceAdd]; rfl) (by simp only [Try.results41, go_sem, Nat.reduceMul, Nat.reduceLeDiff, Nat.reduceLT, reduceIte, reduceCtorEq, Nat.reduceEqDiff, Nat.reduceSub, Nat.reduceAdd]; simp [prodD, prodL, hc, I]) (by simp only [Try.results41, go_sem, Nat.reduceMul, Nat.reduceLeDiff, Nat.reduceLT, reduceIte, reduceCtorEq, Nat.reduceEqDiff, Nat.reduceSub, Nat.reduceAdd]; simp [prodD, prodL, hc, I])))
      · have hc := prodC0 hp (by omega)
        obtain ⟨d, rfl⟩ := Int.eq_ofNat_of_zero_le ha3.1
        obtain ⟨e, rfl⟩ := Int.eq_ofNat_of_zero_le hb3.1
        have hi1 := Coc_in ha
        rw [h3] at hi1
        refine HereO.callOwn T_ok 50 rfl rfl (l03Times_spec t hg b.1 b.2 hmb d e v w (by omega) hi1 (Coc_in hb) (Coc_len hg.1 ha) (Coc_len hg.1 hb)) (by simp only [go_sem, Nat.reduceMul, Nat.reduceLeDiff, Nat.reduceLT, reduceIte, reduceCtorEq, Nat.reduceEqDiff, Nat.reduceSub, Nat.reduceAdd, List.toList_toArray] <;> first | rfl | exact ⟨rfl, rfl⟩) rfl (by simp) rfl ?_
        simp only [Try.results41, go_sem, Nat.reduceMul, Nat.reduceLeDiff, Nat.reduceLT, reduceIte, reduceCtorEq, Nat.reduceEqDiff, Nat.reduceSub, Nat.reduceAdd]
        refine HereO.storeAgg T_ok rfl (by simp only [go_sem, Nat.reduceMul, Nat.reduceLeDiff, Nat.reduceLT, reduceIte, reduceCtorEq, Nat.reduceEqDiff, Nat.reduceSub, Nat.reduceAdd] <;> rfl) (by simp only [go_sem, Nat.reduceMul, Nat.reduceLeDiff, Nat.reduceLT, reduceIte, reduceCtorEq, Nat.reduceEqDiff, Nat.reduceSub, Nat.reduceAdd] <;> rfl) rfl (by simp only [go_sem, Nat.reduceMul, Nat.reduceLeDiff, Nat.reduceLT, reduceIte, reduceCtorEq, Nat.reduceEqDiff, Nat.reduceSub, Nat.reduceAdd] <;> rfl) (by first | rfl | (simp only [go_sem, Nat.reduceMul, Nat.reduceLeDiff, Nat.reduceLT, reduceIte, reduceCtorEq, Nat.reduceEqDiff, Nat.reduceSub, Nat.reduceAdd] <;> rfl)) rfl rfl ?_
        simp only [Try.results41, go_sem, Nat.reduceMul, Nat.reduceLeDiff, Nat.reduceLT, reduceIte, reduceCtorEq, Nat.reduceEqDiff, Nat.reduceSub, Nat.reduceAdd]
        exact RetC.of (RetT.one 1800 (by simp only [Try.results41, go_sem, Nat.reduceMul, Nat.reduceLeDiff, Nat.reduceLT, reduceIte, reduceCtorEq, Nat.reduceEqDiff, Nat.reduceSub, Nat.reduceAdd]; rfl) (by simp only [Try.results41, go_sem, Nat.reduceMul, Nat.reduceLeDiff, Nat.reduceLT, reduceIte, reduceCtorEq, Nat.reduceEqDiff, Nat.reduceSub, Nat.reduceAdd]; simp [prodD, prodL, hc]) (by simp only [Try.results41, go_sem, Nat.reduceMul, Nat.reduceLeDiff, Nat.reduceLT, reduceIte, reduceCtorEq, Nat.reduceEqDiff, Nat.reduceSub, Nat.reduceAdd]; simp [prodD, prodL, hc]))
      · have hc := prodC2 hp (Or.inl h3)
        refine HereO.opP T_ok (OpP.build built_44 rfl rfl rfl rfl) ?_
        simp only [Try.results41, go_sem, Nat.reduceMul, Nat.reduceLeDiff, Nat.reduceLT, reduceIte, reduceCtorEq, Nat.reduceEqDiff, Nat.reduceSub, Nat.reduceAdd]
        refine HereO.storeAgg T_ok rfl (by simp only [go_sem, Nat.reduceMul, Nat.reduceLeDiff, Nat.reduceLT, reduceIte, reduceCtorEq, Nat.reduceEqDiff, Nat.reduceSub, Nat.reduceAdd] <;> rfl) (by simp only [go_sem, Nat.reduceMul, Nat.reduceLeDiff, Nat.reduceLT, reduceIte, reduceCtorEq, Nat.reduceEqDiff, Nat.reduceSub, Nat.reduceAdd] <;> rfl) rfl (by simp only [go_sem, Nat.reduceMul, Nat.reduceLeDiff, Nat.reduceLT, reduceIte, reduceCtorEq, Nat.reduceEqDiff, Nat.reduceSub, Nat.reduceAdd] <;> rfl) (by first | rfl | (simp only [go_sem, Nat.reduceMul, Nat.reduceLeDiff, Nat.reduceLT, reduceIte, reduceCtorEq, Nat.reduceEqDiff, Nat.reduceSub, Nat.reduceAdd] <;> rfl)) rfl rfl ?_
        simp only [Try.results41, go_sem, Nat.reduceMul, Nat.reduceLeDiff, Nat.reduceLT, reduceIte, reduceCtorEq, Nat.reduceEqDiff, Nat.reduceSub, Nat.reduceAdd]
        exact RetC.conv (Conv.nilIn (c := 110) (tt := 44) (l := [.v (.int .i64 0), .v nilV]) 1 520 (.row 2 []) rfl (by decide) (by decide) (by rfl) rfl) (RetC.of (RetT.one 520 (by simp only [Try.results41, go_sem, Nat.reduceMul, Nat.reduceLeDiff, Nat.reduceLT, reduceIte, reduceCtorEq, Nat.reduceEqDiff, Nat.reduceSub, Nat.reduceAdd]; rfl) (by simp only [Try.results41, go_sem, Nat.reduceMul, Nat.reduceLeDiff, Nat.reduceLT, reduceIte, reduceCtorEq, Nat.reduceEqDiff, Nat.reduceSub, Nat.reduceAdd]; simp [prodD, prodL, hc, I]) (by simp only [Try.results41, go_sem, Nat.reduceMul, Nat.reduceLeDiff, Nat.reduceLT, reduceIte, reduceCtorEq, Nat.reduceEqDiff, Nat.reduceSub, Nat.reduceAdd]; simp [prodD, prodL, hc, I])))
    · have hc := prodC1 (t := t) (b := b) (d := d) (v := v) (a := a) (e := e) (w := w) (fun q => h2 (codeC0 q.1 q.2.2.1 (Cocs1.2 q.2.2.2.2)))
      rw [codeC_nz h2]
      refine HereO.opP T_ok (OpP.build built_44 rfl rfl rfl rfl) ?_
      simp only [Try.results41, go_sem, Nat.reduceMul, Nat.reduceLeDiff, Nat.reduceLT, reduceIte, reduceCtorEq, Nat.reduceEqDiff, Nat.reduceSub, Nat.reduceAdd]
      refine HereO.storeAgg T_ok rfl (by simp only [go_sem, Nat.reduceMul, Nat.reduceLeDiff, Nat.reduceLT, reduceIte, reduceCtorEq, Nat.reduceEqDiff, Nat.reduceSub, Nat.reduceAdd] <;> rfl) (by simp only [go_sem, Nat.reduceMul, Nat.reduceLeDiff, Nat.reduceLT, reduceIte, reduceCtorEq, Nat.reduceEqDiff, Nat.reduceSub, Nat.reduceAdd] <;> rfl) rfl (by simp only [go_sem, Nat.reduceMul, Nat.reduceLeDiff, Nat.reduceLT, reduceIte, reduceCtorEq, Nat.reduceEqDiff, Nat.reduceSub, Nat.reduceAdd] <;> rfl) (by first | rfl | (simp only [go_sem, Nat.reduceMul, Nat.reduceLeDiff, Nat.reduceLT, reduceIte, reduceCtorEq, Nat.reduceEqDiff, Nat.reduceSub, Nat.reduceAdd] <;> rfl)) rfl rfl ?_
      simp only [Try.results41, go_sem, Nat.reduceMul, Nat.reduceLeDiff, Nat.reduceLT, reduceIte, reduceCtorEq, Nat.reduceEqDiff, Nat.reduceSub, Nat.reduceAdd]
      exact RetC.conv (Conv.nilIn (c := 110) (tt := 44) (l := [.v (.int .i64 0), .v nilV]) 1 520 (.row 2 []) rfl (by decide) (by decide) (by rfl) rfl) (RetC.of (RetT.one 520 (by simp only [Try.results41, go_sem, Nat.reduceMul, Nat.reduceLeDiff, Nat.reduceLT, reduceIte, reduceCtorEq, Nat.reduceEqDiff, Nat.reduceSub, Nat.reduceAdd]; rfl) (by simp only [Try.results41, go_sem, Nat.reduceMul, Nat.reduceLeDiff, Nat.reduceLT, reduceIte, reduceCtorEq, Nat.reduceEqDiff, Nat.reduceSub, Nat.reduceAdd]; simp [prodD, prodL, hc, I]) (by simp only [Try.results41, go_sem, Nat.reduceMul, Nat.reduceLeDiff, Nat.reduceLT, reduceIte, reduceCtorEq, Nat.reduceEqDiff, Nat.reduceSub, Nat.reduceAdd]; simp [prodD, prodL, hc, I])))
  · have hc := prodC1 (t := t) (b := b) (d := d) (v := v) (a := a) (e := e) (w := w) (fun q => h1 (codeC0 q.1 q.2.1 (Cocs1.2 q.2.2.2.1)))
    rw [codeC_nz h1]
    refine HereO.opP T_ok (OpP.build built_44 rfl rfl rfl rfl) ?_
    simp only [Try.results41, go_sem, Nat.reduceMul, Nat.reduceLeDiff, Nat.reduceLT, reduceIte, reduceCtorEq, Nat.reduceEqDiff, Nat.reduceSub, Nat.reduceAdd]
    refine HereO.storeAgg T_ok rfl (by simp only [go_sem, Nat.reduceMul, Nat.reduceLeDiff, Nat.reduceLT, reduceIte, reduceCtorEq, Nat.reduceEqDiff, Nat.reduceSub, Nat.reduceAdd] <;> rfl) (by simp only [go_sem, Nat.reduceMul, Nat.reduceLeDiff, Nat.reduceLT, reduceIte, reduceCtorEq, Nat.reduceEqDiff, Nat.reduceSub, Nat.reduceAdd] <;> rfl) rfl (by simp only [go_sem, Nat.reduceMul, Nat.reduceLeDiff, Nat.reduceLT, reduceIte, reduceCtorEq, Nat.reduceEqDiff, Nat.reduceSub, Nat.reduceAdd] <;> rfl) (by first | rfl | (simp only [go_sem, Nat.reduceMul, Nat.reduceLeDiff, Nat.reduceLT, reduceIte, reduceCtorEq, Nat.reduceEqDiff, Nat.reduceSub, Nat.reduceAdd] <;> rfl)) rfl rfl ?_
    simp only [Try.results41, go_sem, Nat.reduceMul, Nat.reduceLeDiff, Nat.reduceLT, reduceIte, reduceCtorEq, Nat.reduceEqDiff, Nat.reduceSub, Nat.reduceAdd]
    exact RetC.conv (Conv.nilIn (c := 110) (tt := 44) (l := [.v (.int .i64 0), .v nilV]) 1 520 (.row 2 []) rfl (by decide) (by decide) (by rfl) rfl) (RetC.of (RetT.one 520 (by simp only [Try.results41, go_sem, Nat.reduceMul, Nat.reduceLeDiff, Nat.reduceLT, reduceIte, reduceCtorEq, Nat.reduceEqDiff, Nat.reduceSub, Nat.reduceAdd]; rfl) (by simp only [Try.results41, go_sem, Nat.reduceMul, Nat.reduceLeDiff, Nat.reduceLT, reduceIte, reduceCtorEq, Nat.reduceEqDiff, Nat.reduceSub, Nat.reduceAdd]; simp [prodD, prodL, hc, I]) (by simp only [Try.results41, go_sem, Nat.reduceMul, Nat.reduceLeDiff, Nat.reduceLT, reduceIte, reduceCtorEq, Nat.reduceEqDiff, Nat.reduceSub, Nat.reduceAdd]; simp [prodD, prodL, hc, I])))
end Go.Proofs.Ytifpnficdjbljaa
