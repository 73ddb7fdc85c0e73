/- Contracts: subgroups, closed masks. -/
import Derived.Test.YtipdgkohfmpilaaSb
import Derived.Test.YtipdgkohfmpilaaPd
namespace Go.Proofs.Ytipdgkohfmpilaa
open Go.RowKit
set_option linter.unusedVariables false
set_option linter.unusedSimpArgs false
set_option maxRecDepth 100000

/-! ### Subgroups -/
theorem subgroup_spec (t : List (List Int)) (hg : Grp t) (l : List Int) (hS : AreIn t.length l) (hl : l.length ≤ 1048576) : Spec Try.prog 41 [.agg [.rds (II t)], .rd (I l)] (.own 0) [.row 2 (I (genL t l))] := by
  have h8 := hg.2.1
  refine Spec.of_code T_ok Try.func41 rfl Try.ntmps41 Try.call41 (Nat.le_of_ble_eq_true rfl) rfl rfl (CodeV_sound T_ok (by kernel_rfl) rfl ?_)
  simp only [Try.results41, go_sem, Nat.reduceMul, Nat.reduceLeDiff, Nat.reduceLT, reduceIte, reduceCtorEq, Nat.reduceEqDiff, Nat.reduceSub, Nat.reduceAdd]
  refine HereO.buildRow T_ok 110 (I [0]) rfl rfl rfl (by decide) rfl (by first | rfl | (simp only [go_sem, Nat.reduceMul, Nat.reduceLeDiff, Nat.reduceLT, reduceIte, reduceCtorEq, Nat.reduceEqDiff, Nat.reduceSub, Nat.reduceAdd] <;> rfl)) rfl (by decide) ?_
  simp only [Try.results41, go_sem, Nat.reduceMul, Nat.reduceLeDiff, Nat.reduceLT, reduceIte, reduceCtorEq, Nat.reduceEqDiff, Nat.reduceSub, Nat.reduceAdd]
  refine Here.loopV T_ok (κ := Nat × List Int) (fun s => SubI t l s.2 s.1 0 ∧ s.1 ≤ s.2.length) (fun s => t.length + 1 - s.1) (fun s => [(1, .rd (I l)), (2, .box [.rds (II t)]), (5, .own 110), (6, .v (.int .i64 s.1))]) (fun s => [(110, .row 2 (I s.2))]) (0, [0]) ⟨subI_0 t l, by simp⟩ (by simp only [Try.results41, go_sem, Nat.reduceMul, Nat.reduceLeDiff, Nat.reduceLT, reduceIte, reduceCtorEq, Nat.reduceEqDiff, Nat.reduceSub, Nat.reduceAdd]; simp) (by simp only [Try.results41, go_sem, Nat.reduceMul, Nat.reduceLeDiff, Nat.reduceLT, reduceIte, reduceCtorEq, Nat.reduceEqDiff, Nat.reduceSub, Nat.reduceAdd]) ?_
  rintro ⟨i, L⟩ ⟨hI, hi⟩
  dsimp only at hI hi ⊢
  have hlen := subI_len hg hS hI
  simp only [Try.results41, go_sem, Nat.reduceMul, Nat.reduceLeDiff, Nat.reduceLT, reduceIte, reduceCtorEq, Nat.reduceEqDiff, Nat.reduceSub, Nat.reduceAdd]
  refine ⟨fun h2 => ?_, fun h2 => ?_⟩
  · refine Here.loopV T_ok (κ := Nat × List Int) (fun s => SubI t l s.2 i s.1 ∧ s.1 ≤ l.length ∧ i < s.2.length) (fun s => l.length - s.1) (fun s => [(1, .rd (I l)), (2, .box [.rds (II t)]), (5, .own 110), (6, .v (.int .i64 i)), (17, .rd (I l)), (18, .v (.int .i64 l.length)), (19, .v (.int .i64 s.1))]) (fun s => [(110, .row 2 (I s.2))]) (0, L) ⟨hI, by simp, by dsimp only; omega⟩ (by simp only [Try.results41, go_sem, Nat.reduceMul, Nat.reduceLeDiff, Nat.reduceLT, reduceIte, reduceCtorEq, Nat.reduceEqDiff, Nat.reduceSub, Nat.reduceAdd]; simp) (by simp only [Try.results41, go_sem, Nat.reduceMul, Nat.reduceLeDiff, Nat.reduceLT, reduceIte, reduceCtorEq, Nat.reduceEqDiff, Nat.reduceSub, Nat.reduceAdd]) ?_
    rintro ⟨k, M⟩ ⟨hJ, hk, hM⟩
    dsimp only at hJ hk hM ⊢
    have hlen := subI_len hg hS hJ
    simp only [Try.results41, go_sem, Nat.reduceMul, Nat.reduceLeDiff, Nat.reduceLT, reduceIte, reduceCtorEq, Nat.reduceEqDiff, Nat.reduceSub, Nat.reduceAdd]
    refine ⟨fun h3 => ?_, fun h3 => ?_⟩
    · obtain ⟨x, hx, hxl, hxg⟩ := subI_at hg hS hJ hM
      have ha := hS k (by omega)
      obtain ⟨a, hae⟩ := Int.eq_ofNat_of_zero_le ha.1
      have hal : a < t.length := by omega
      refine ⟨⟨by omega, by omega⟩, ?_⟩
      rw [hae]
      refine Here.draw T_ok mixed_ok (by kernel_rfl) ?_
      simp only [Try.results41, go_sem, Nat.reduceMul, Nat.reduceLeDiff, Nat.reduceLT, reduceIte, reduceCtorEq, Nat.reduceEqDiff, Nat.reduceSub, Nat.reduceAdd]
      rw [hx]
      refine ⟨⟨by omega, by omega⟩, by omega, ?_⟩
      refine ⟨_, OpP.buildRd T_ok (I [(x : Int), (a : Int)]) rfl rfl rfl (by decide) rfl (by first | rfl | (simp only [go_sem, Nat.reduceMul, Nat.reduceLeDiff, Nat.reduceLT, reduceIte, reduceCtorEq, Nat.reduceEqDiff, Nat.reduceSub, Nat.reduceAdd] <;> rfl)) rfl, ?_⟩
      simp only [Try.results41, go_sem, Nat.reduceMul, Nat.reduceLeDiff, Nat.reduceLT, reduceIte, reduceCtorEq, Nat.reduceEqDiff, Nat.reduceSub, Nat.reduceAdd]
      refine ⟨_, OpP.call' rfl rfl (times2_spec t hg x a hxl hal) (by simp only [go_sem, Nat.reduceMul, Nat.reduceLeDiff, Nat.reduceLT, reduceIte, reduceCtorEq, Nat.reduceEqDiff, Nat.reduceSub, Nat.reduceAdd, List.toList_toArray] <;> first | rfl | exact ⟨rfl, rfl⟩) rfl, ?_⟩
      simp only [Try.results41, go_sem, Nat.reduceMul, Nat.reduceLeDiff, Nat.reduceLT, reduceIte, reduceCtorEq, Nat.reduceEqDiff, Nat.reduceSub, Nat.reduceAdd]
      refine HereO.call T_ok rfl rfl (Contains_spec M (em t x a) (by omega)) (by simp only [go_sem, Nat.reduceMul, Nat.reduceLeDiff, Nat.reduceLT, reduceIte, reduceCtorEq, Nat.reduceEqDiff, Nat.reduceSub, Nat.reduceAdd, List.toList_toArray] <;> first | rfl | exact ⟨rfl, rfl⟩) rfl ?_
      simp only [Try.results41, go_sem, Nat.reduceMul, Nat.reduceLeDiff, Nat.reduceLT, reduceIte, reduceCtorEq, Nat.reduceEqDiff, Nat.reduceSub, Nat.reduceAdd]
      have he : em t (M.getD i 0).toNat (l.getD k 0).toNat = em t x a := by rw [hx, hae]; rfl
      refine ⟨fun h4 => ?_, fun h4 => ?_⟩
      · have hnew := subI_new hJ hM (by omega) (by rw [he]; exact fun q => h4 (has_mem.2 q))
        rw [he] at hnew
        have hnl := subI_len hg hS hnew
        refine HereO.buildRow T_ok 140 (I [((em t x a : Nat) : Int)]) rfl rfl rfl (by decide) rfl (by first | rfl | (simp only [go_sem, Nat.reduceMul, Nat.reduceLeDiff, Nat.reduceLT, reduceIte, reduceCtorEq, Nat.reduceEqDiff, Nat.reduceSub, Nat.reduceAdd] <;> rfl)) rfl (by decide) ?_
        simp only [Try.results41, go_sem, Nat.reduceMul, Nat.reduceLeDiff, Nat.reduceLT, reduceIte, reduceCtorEq, Nat.reduceEqDiff, Nat.reduceSub, Nat.reduceAdd]
        refine HereO.append T_ok (I [((em t x a : Nat) : Int)]) rfl rfl (by decide) (by simp only [go_sem, Nat.reduceMul, Nat.reduceLeDiff, Nat.reduceLT, reduceIte, reduceCtorEq, Nat.reduceEqDiff, Nat.reduceSub, Nat.reduceAdd] <;> rfl) (by decide) (by simp only [go_sem, Nat.reduceMul, Nat.reduceLeDiff, Nat.reduceLT, reduceIte, reduceCtorEq, Nat.reduceEqDiff, Nat.reduceSub, Nat.reduceAdd] <;> rfl) (by simp only [go_sem, Nat.reduceMul, Nat.reduceLeDiff, Nat.reduceLT, reduceIte, reduceCtorEq, Nat.reduceEqDiff, Nat.reduceSub, Nat.reduceAdd] <;> rfl) (.own 140 _ _ (by decide) (by simp only [go_sem, Nat.reduceMul, Nat.reduceLeDiff, Nat.reduceLT, reduceIte, reduceCtorEq, Nat.reduceEqDiff, Nat.reduceSub, Nat.reduceAdd] <;> rfl)) (I_one _) (by first | (simp only [II_len]; omega) | simp only [I_len, II_len, upTo_len, tab_len, cnt_len, List.length_append, List.length_cons, List.length_nil, List.length_replicate]; omega) ?_
        simp only [Try.results41, go_sem, Nat.reduceMul, Nat.reduceLeDiff, Nat.reduceLT, reduceIte, reduceCtorEq, Nat.reduceEqDiff, Nat.reduceSub, Nat.reduceAdd]
        rw [I_append]
        exact ⟨by unfold InR; omega, (k + 1, M ++ [((em t x a : Nat) : Int)]), ⟨hnew, by dsimp only; omega, by simp; omega⟩, by dsimp only; omega, by push_cast; rfl, rfl⟩
      · exact ⟨by unfold InR; omega, (k + 1, M), ⟨subI_in hJ (by rw [he]; exact has_mem.1 h4), by dsimp only; omega, hM⟩, by dsimp only; omega, by push_cast; rfl, rfl⟩
    · obtain rfl : k = l.length := by omega
      exact ⟨by unfold InR; omega, (i + 1, M), ⟨subI_row hJ, by dsimp only; omega⟩, by dsimp only; omega, by push_cast; rfl, rfl⟩
  · refine HereO.callM T_ok 41 [110] rfl rfl (Sort_spec L (by omega)) (by simp only [go_sem, Nat.reduceMul, Nat.reduceLeDiff, Nat.reduceLT, reduceIte, reduceCtorEq, Nat.reduceEqDiff, Nat.reduceSub, Nat.reduceAdd, List.toList_toArray, ↓reduceIte]) rfl (by decide) (by decide) rfl rfl rfl (Nat.le_of_ble_eq_true rfl) ?_
    simp only [Try.results41, go_sem, Nat.reduceMul, Nat.reduceLeDiff, Nat.reduceLT, reduceIte, reduceCtorEq, Nat.reduceEqDiff, Nat.reduceSub, Nat.reduceAdd]
    refine RetT.one 110 (by simp only [Try.results41, go_sem, Nat.reduceMul, Nat.reduceLeDiff, Nat.reduceLT, reduceIte, reduceCtorEq, Nat.reduceEqDiff, Nat.reduceSub, Nat.reduceAdd]; rfl) rfl ?_
    simp only [Try.results41, go_sem, Nat.reduceMul, Nat.reduceLeDiff, Nat.reduceLT, reduceIte, reduceCtorEq, Nat.reduceEqDiff, Nat.reduceSub, Nat.reduceAdd]
    rw [subI_end hg hS hI (by omega) (sortI_sorted L) (sortI_perm L)]
theorem l01Closed_spec (t : List (List Int)) (hg : Grp t) (m : Nat) (hm : m < 2 ^ t.length) : Spec Try.prog 31 [.agg [.rds (II t)], .v (.int .i64 m)] (.v (.int .i64 (closeN t m))) [] := by
  have h8 := hg.2.1
  have hm8 : m < 256 := Nat.lt_of_lt_of_le hm (by have := Nat.pow_le_pow_right (n := 2) (by decide) h8; exact this)
  have hr : ∀ a, a < t.length → (t.getD a []).length = t.length := fun a ha => (hg.2.2.1 a ha).1
  have he : ∀ a b, a < t.length → b < t.length → (t.getD a []).getD b 0 = em t a b := fun a b ha hb => by have := em_ee hg ha hb; unfold ee at this; exact this
  have hor : orV .i64 m 1 = ((m ||| 2 ^ 0 : Nat) : Int) := or_fact m hm8 0 (by decide)
  refine Spec.of_code T_ok Try.func31 rfl Try.ntmps31 Try.call31 (Nat.le_of_ble_eq_true rfl) rfl rfl (CodeV_sound T_ok (by kernel_rfl) rfl ?_)
  simp only [Try.results31, go_sem, Nat.reduceMul, Nat.reduceLeDiff, Nat.reduceLT, reduceIte, reduceCtorEq, Nat.reduceEqDiff, Nat.reduceSub, Nat.reduceAdd]
  refine Here.loopV T_ok (κ := Nat × Bool) (fun s => CloI t m s.1 ∧ (s.2 = false → ClosedM t s.1)) (fun s => 2 * (256 - s.1) + (if s.2 then 1 else 0)) (fun s => [(1, .v (.int .i64 s.1)), (2, .box [.rds (II t)]), (5, .v (.bool s.2))]) (fun _ => []) (m ||| 2 ^ 0, true) ⟨cloI_0 hg hm, fun h => by cases h⟩ (by simp only [Try.results31, go_sem, Nat.reduceMul, Nat.reduceLeDiff, Nat.reduceLT, reduceIte, reduceCtorEq, Nat.reduceEqDiff, Nat.reduceSub, Nat.reduceAdd]; rw [hor]) trivial ?_
  rintro ⟨c, b⟩ ⟨hC, hcl⟩
  dsimp only at hC hcl ⊢
  simp only [Try.results31, go_sem, Nat.reduceMul, Nat.reduceLeDiff, Nat.reduceLT, reduceIte, reduceCtorEq, Nat.reduceEqDiff, Nat.reduceSub, Nat.reduceAdd]
  refine ⟨fun h2 => ?_, fun h2 => ?_⟩
  · subst h2
    refine HereO.callOwn T_ok 14 rfl rfl (l01List_spec c hC.1) (by simp only [go_sem, Nat.reduceMul, Nat.reduceLeDiff, Nat.reduceLT, reduceIte, reduceCtorEq, Nat.reduceEqDiff, Nat.reduceSub, Nat.reduceAdd, List.toList_toArray] <;> first | rfl | exact ⟨rfl, rfl⟩) rfl (by simp) rfl ?_
    simp only [Try.results31, go_sem, Nat.reduceMul, Nat.reduceLeDiff, Nat.reduceLT, reduceIte, reduceCtorEq, Nat.reduceEqDiff, Nat.reduceSub, Nat.reduceAdd]
    refine Here.loopV T_ok (κ := Nat × Nat) (fun s => RowI t c s.2 s.1 0 ∧ CloI t m s.2 ∧ s.1 ≤ (bitsL c).length) (fun s => (bitsL c).length - s.1) (fun s => [(1, .v (.int .i64 s.2)), (2, .box [.rds (II t)]), (5, .v (.bool (decide (c < s.2)))), (6, .own 1224), (7, .v (.int .i64 s.1))]) (fun _ => [(1224, .row 2 (I (bitsL c)))]) (0, c) ⟨rowI_0 t c, hC, by simp⟩ (by simp only [Try.results31, go_sem, Nat.reduceMul, Nat.reduceLeDiff, Nat.reduceLT, reduceIte, reduceCtorEq, Nat.reduceEqDiff, Nat.reduceSub, Nat.reduceAdd]; simp) (by simp only [Try.results31, go_sem, Nat.reduceMul, Nat.reduceLeDiff, Nat.reduceLT, reduceIte, reduceCtorEq, Nat.reduceEqDiff, Nat.reduceSub, Nat.reduceAdd]) ?_
    rintro ⟨i, d⟩ ⟨hR, hD, hi⟩
    dsimp only at hR hD hi ⊢
    have hlen := bitsL_len c
    simp only [Try.results31, go_sem, Nat.reduceMul, Nat.reduceLeDiff, Nat.reduceLT, reduceIte, reduceCtorEq, Nat.reduceEqDiff, Nat.reduceSub, Nat.reduceAdd]
    refine ⟨fun h3 => ?_, fun h3 => ?_⟩
    · refine Here.loopV T_ok (κ := Nat × Nat) (fun s => RowI t c s.2 i s.1 ∧ CloI t m s.2 ∧ s.1 ≤ (bitsL c).length) (fun s => (bitsL c).length - s.1) (fun s => [(1, .v (.int .i64 s.2)), (2, .box [.rds (II t)]), (5, .v (.bool (decide (c < s.2)))), (6, .own 1224), (7, .v (.int .i64 i)), (8, .v (.int .i64 s.1))]) (fun _ => [(1224, .row 2 (I (bitsL c)))]) (0, d) ⟨hR, hD, by simp⟩ (by simp only [Try.results31, go_sem, Nat.reduceMul, Nat.reduceLeDiff, Nat.reduceLT, reduceIte, reduceCtorEq, Nat.reduceEqDiff, Nat.reduceSub, Nat.reduceAdd]; simp) (by simp only [Try.results31, go_sem, Nat.reduceMul, Nat.reduceLeDiff, Nat.reduceLT, reduceIte, reduceCtorEq, Nat.reduceEqDiff, Nat.reduceSub, Nat.reduceAdd]) ?_
      rintro ⟨k, e⟩ ⟨hR, hE, hk⟩
      dsimp only at hR hE hk ⊢
      simp only [Try.results31, go_sem, Nat.reduceMul, Nat.reduceLeDiff, Nat.reduceLT, reduceIte, reduceCtorEq, Nat.reduceEqDiff, Nat.reduceSub, Nat.reduceAdd]
      refine ⟨fun h4 => ?_, fun h4 => ?_⟩
      · have hin := cloI_in hg hm hC
        obtain ⟨x, hx⟩ := Int.eq_ofNat_of_zero_le (hin i (by omega)).1
        obtain ⟨y, hy⟩ := Int.eq_ofNat_of_zero_le (hin k (by omega)).1
        have hxl : x < t.length := by have := (hin i (by omega)).2; omega
        have hyl : y < t.length := by have := (hin k (by omega)).2; omega
        have hlt := em_lt hg hxl hyl
        have hgx : Gen t (bitsL m) x := by have := hC.2.2.2 _ (mem_bitsL.1 (getD_mem (l := bitsL c) (j := i) (by omega) 0)).2; rwa [hx] at this
        have hgy : Gen t (bitsL m) y := by have := hC.2.2.2 _ (mem_bitsL.1 (getD_mem (l := bitsL c) (j := k) (by omega) 0)).2; rwa [hy] at this
        have hs := shl_fact (em t x y) (by omega)
        refine Here.draw T_ok mixed_ok (by kernel_rfl) ?_
        simp only [Try.results31, go_sem, Nat.reduceMul, Nat.reduceLeDiff, Nat.reduceLT, reduceIte, reduceCtorEq, Nat.reduceEqDiff, Nat.reduceSub, Nat.reduceAdd]
        rw [hx, hy]
        simp only [Int.toNat_natCast]
        rw [hr x hxl, he x y hxl hyl, hs.1]
        have hem : em t ((bitsL c).getD i 0).toNat ((bitsL c).getD k 0).toNat = em t x y := by rw [hx, hy]; rfl
        rw [and_fact e hE.1 (em t x y) (by omega), or_fact e hE.1 (em t x y) (by omega)]
        refine ⟨⟨by omega, by omega⟩, by omega, ⟨by omega, by omega⟩, ⟨by omega, by omega⟩, by omega, ⟨by omega, by omega⟩, fun h5 => ?_, fun h5 => ?_⟩
        · have hb : e.testBit (em t x y) = false := by
            cases q : e.testBit (em t x y) with
            | false => rfl
            | true => rw [q, if_pos rfl] at h5; have := Nat.two_pow_pos (em t x y); omega
          have hnew := rowI_new hR (by rw [hem]; exact hb)
          rw [hem] at hnew
          exact ⟨by unfold InR; omega, (k + 1, e ||| 2 ^ em t x y), ⟨hnew.1, cloI_step hg hm hE hgx hgy, by dsimp only; omega⟩, by dsimp only; omega, rfl, (decide_eq_true hnew.2).symm, by push_cast; rfl⟩
        · have hb : e.testBit (em t x y) = true := by
            cases q : e.testBit (em t x y) with
            | true => rfl
            | false => rw [q] at h5; exact absurd rfl h5
          exact ⟨by unfold InR; omega, (k + 1, e), ⟨rowI_in hR (by rw [hem]; exact hb), hE, by dsimp only; omega⟩, by dsimp only; omega, rfl, rfl, by push_cast; rfl⟩
      · obtain rfl : k = (bitsL c).length := by omega
        exact ⟨by unfold InR; omega, (i + 1, e), ⟨rowI_row hR, hE, by dsimp only; omega⟩, by dsimp only; omega, by rfl, by rfl, by push_cast; rfl⟩
    · obtain rfl : i = (bitsL c).length := by omega
      refine ⟨(d, decide (c < d)), ⟨hD, fun h4 => ?_⟩, ?_, rfl, rfl⟩
      · have h5 := of_decide_eq_false h4
        have h6 := hR.1
        dsimp only
        obtain rfl : c = d := by omega
        exact rowI_end hC.1 hR (Nat.le_refl _)
      · have h6 := hR.1
        have h7 := hD.1
        dsimp only
        by_cases h5 : c < d
        · rw [decide_eq_true h5, if_pos rfl]; omega
        · rw [decide_eq_false h5, if_neg (by simp)]; omega
  · rw [cloI_end hg hm hC (hcl h2)]
end Go.Proofs.Ytipdgkohfmpilaa

namespace Go.Proofs.Ytipdgkohfmpilaa
open Go.RowKit
set_option linter.unusedVariables false
set_option linter.unusedSimpArgs false
set_option maxRecDepth 100000

noncomputable def subL (t : List (List Int)) (l : List Int) : List Int := if setE t l = 0 then genL t l else []
theorem subL_ok (t : List (List Int)) (l : List Int) (hl : l.length ≤ 1048576) : (subL t l).length ≤ 1048576 := by
  unfold subL
  split
  · rename_i h
    have h8 := (setE_ok h).1.2.1
    have := genL_len t l
    omega
  · simp
end Go.Proofs.Ytipdgkohfmpilaa
