/- Contracts: what the laws of changes read. -/
import Derived.Test.YtcjhojdlfnpgjaaBa
import Derived.Test.YtcjhojdlfnpgjaaFc
import Derived.Test.YtcjhojdlfnpgjaaDg
import Derived.Test.YtcjhojdlfnpgjaaDh
import Derived.Test.YtcjhojdlfnpgjaaDf
namespace Go.Proofs.Ytcjhojdlfnpgjaa
open Go.RowKit
set_option linter.unusedVariables false
set_option linter.unusedSimpArgs false
set_option maxRecDepth 100000

theorem big_spec (bs : List Int) (hl : (bs.length : Int) ≤ 9223372036854775807) : Spec Try.prog 4 [.rd (BY bs)] (.v (.bool (decide (4096 < bs.length)))) [] := by
  refine Spec.of_code T_ok Try.func4 rfl Try.ntmps4 Try.call4 (Nat.le_of_ble_eq_true rfl) rfl rfl (CodeV_sound T_ok (by kernel_rfl) rfl ?_)
  simp only [Try.results4, go_sem, Nat.reduceMul, Nat.reduceLeDiff, Nat.reduceLT, reduceIte, reduceCtorEq, Nat.reduceEqDiff, Nat.reduceSub, Nat.reduceAdd]
  exact decide_eq_decide.2 (by omega)
theorem likeInts_spec (l m : List Int) (hl : l.length ≤ 1048576) : Spec Try.prog 24 [.rd (I l), .rd (I m)] (.v (.bool (decide (l = m)))) [] := by
  refine Spec.of_code T_ok Try.func24 rfl Try.ntmps24 Try.call24 (Nat.le_of_ble_eq_true rfl) rfl rfl (CodeV_sound T_ok (by kernel_rfl) rfl ?_)
  simp only [Try.results24, go_sem, Nat.reduceMul, Nat.reduceLeDiff, Nat.reduceLT, reduceIte, reduceCtorEq, Nat.reduceEqDiff, Nat.reduceSub, Nat.reduceAdd]
  refine ⟨fun h => (decide_eq_false fun e => h (by rw [e])).symm, fun h => ?_⟩
  refine Here.loopV T_ok (fun k => k ≤ l.length ∧ ∀ j, j < k → l.getD j 0 = m.getD j 0) (fun k => l.length - k) (fun k => [(0, .rd (I l)), (1, .rd (I m)), (5, .v (.int .i64 k))]) (fun _ => []) 0 (by simp) (by simp only [Try.results24, go_sem, Nat.reduceMul, Nat.reduceLeDiff, Nat.reduceLT, reduceIte, reduceCtorEq, Nat.reduceEqDiff, Nat.reduceSub, Nat.reduceAdd]; rfl) trivial ?_
  rintro k ⟨hk, hj⟩
  simp only [Try.results24, go_sem, Nat.reduceMul, Nat.reduceLeDiff, Nat.reduceLT, reduceIte, reduceCtorEq, Nat.reduceEqDiff, Nat.reduceSub, Nat.reduceAdd]
  refine ⟨fun h2 => ?_, fun h2 => (decide_eq_true (getD_eq (d := 0) (by omega) fun j h => hj j (by omega))).symm⟩
  refine Here.draw T_ok mixed_ok (by kernel_rfl) ?_
  simp only [Try.results24, go_sem, Nat.reduceMul, Nat.reduceLeDiff, Nat.reduceLT, reduceIte, reduceCtorEq, Nat.reduceEqDiff, Nat.reduceSub, Nat.reduceAdd]
  refine ⟨by omega, by omega, fun h3 => (decide_eq_false fun e => h3 (by rw [e])).symm, fun h3 => ⟨by unfold InR; omega, k + 1, ⟨by omega, fun j h => ?_⟩, by omega, rfl⟩⟩
  by_cases e : j = k
  · subst e; exact h3
  · exact hj j (by omega)
theorem module9_spec (m : Int) (l : List Int) (m' : Int) (l' : List Int) (hl : l.length ≤ 1048576) : Spec Try.prog 8 [.agg [.v (.int .i64 m), .rd (I l)], .agg [.v (.int .i64 m'), .rd (I l')]] (.v (.bool (decide (m = m' ∧ l = l')))) [] := by
  refine Spec.of_code T_ok Try.func8 rfl Try.ntmps8 Try.call8 (Nat.le_of_ble_eq_true rfl) rfl rfl (CodeV_sound T_ok (by kernel_rfl) rfl ?_)
  simp only [Try.results8, go_sem, Nat.reduceMul, Nat.reduceLeDiff, Nat.reduceLT, reduceIte, reduceCtorEq, Nat.reduceEqDiff, Nat.reduceSub, Nat.reduceAdd]
  refine ⟨fun h => ?_, fun h => ?_⟩
  · refine HereO.call T_ok rfl rfl (likeInts_spec l l' hl) (by simp only [go_sem, Nat.reduceMul, Nat.reduceLeDiff, Nat.reduceLT, reduceIte, reduceCtorEq, Nat.reduceEqDiff, Nat.reduceSub, Nat.reduceAdd, List.toList_toArray] <;> first | rfl | exact ⟨rfl, rfl⟩) rfl ?_
    simp only [Try.results8, go_sem, Nat.reduceMul, Nat.reduceLeDiff, Nat.reduceLT, reduceIte, reduceCtorEq, Nat.reduceEqDiff, Nat.reduceSub, Nat.reduceAdd]
    exact decide_eq_decide.2 ⟨fun q => ⟨h, q⟩, fun q => q.2⟩
  · exact (decide_eq_false fun q => h q.1).symm
theorem hasInt_spec (l : List Int) (x : Int) (hl : l.length ≤ 1048576) : Spec Try.prog 14 [.rd (I l), .v (.int .i64 x)] (.v (.bool (decide (x ∈ l)))) [] := by
  refine Spec.of_code T_ok Try.func14 rfl Try.ntmps14 Try.call14 (Nat.le_of_ble_eq_true rfl) rfl rfl (CodeV_sound T_ok (by kernel_rfl) rfl ?_)
  simp only [Try.results14, go_sem, Nat.reduceMul, Nat.reduceLeDiff, Nat.reduceLT, reduceIte, reduceCtorEq, Nat.reduceEqDiff, Nat.reduceSub, Nat.reduceAdd]
  refine Here.loopV T_ok (fun k => k ≤ l.length ∧ ∀ j, j < k → l.getD j 0 ≠ x) (fun k => l.length - k) (fun k => [(0, .rd (I l)), (1, .v (.int .i64 x)), (5, .v (.int .i64 k))]) (fun _ => []) 0 (by simp) (by simp only [Try.results14, go_sem, Nat.reduceMul, Nat.reduceLeDiff, Nat.reduceLT, reduceIte, reduceCtorEq, Nat.reduceEqDiff, Nat.reduceSub, Nat.reduceAdd]; rfl) trivial ?_
  rintro k ⟨hk, hj⟩
  simp only [Try.results14, go_sem, Nat.reduceMul, Nat.reduceLeDiff, Nat.reduceLT, reduceIte, reduceCtorEq, Nat.reduceEqDiff, Nat.reduceSub, Nat.reduceAdd]
  refine ⟨fun h2 => ?_, fun h2 => (decide_eq_false fun e => ?_).symm⟩
  · refine ⟨by omega, fun h3 => (decide_eq_true ?_).symm, fun h3 => ⟨by unfold InR; omega, k + 1, ⟨by omega, fun j h => ?_⟩, by omega, rfl⟩⟩
    · rw [← h3, List.getD_eq_getElem?_getD, List.getElem?_eq_getElem (by omega)]
      exact List.getElem_mem _
    · by_cases e : j = k
      · subst e; exact h3
      · exact hj j (by omega)
  · obtain ⟨i, hi, rfl⟩ := List.getElem_of_mem e
    refine hj i (by omega) ?_
    rw [List.getD_eq_getElem?_getD, List.getElem?_eq_getElem hi]
    rfl
end Go.Proofs.Ytcjhojdlfnpgjaa

namespace Go.Proofs.Ytcjhojdlfnpgjaa
open Go.RowKit
set_option linter.unusedVariables false
set_option linter.unusedSimpArgs false
set_option maxRecDepth 100000

theorem red_tm {m q x : Int} (hq : 2 ≤ q) (hm : 2 ≤ m) (hd : m.tmod q = 0) (hx : 0 ≤ x) : (x.tmod m).tmod q = x.tmod q := by
  rw [Int.tmod_eq_emod_of_nonneg hx, Int.tmod_eq_emod_of_nonneg (Int.emod_nonneg _ (by omega)), Int.tmod_eq_emod_of_nonneg hx]
  rw [Int.tmod_eq_emod_of_nonneg (by omega)] at hd
  exact Int.emod_emod_of_dvd x (Int.dvd_of_emod_eq_zero hd)
theorem red_unit {m q u : Int} (hq : 2 ≤ q) (hm : 2 ≤ m) (hd : m.tmod q = 0) (hu : Unit1 m u) : Unit1 q (u.tmod q) := by
  obtain ⟨u1, u2, u3⟩ := hu
  rw [Int.tmod_eq_emod_of_nonneg (by omega)] at hd
  have hdv : q.toNat ∣ m.toNat := by
    obtain ⟨c, hc⟩ := Int.dvd_of_emod_eq_zero hd
    have hc0 : 0 ≤ c := by
      rcases Int.lt_or_le c 0 with h | h
      · have := Int.mul_neg_of_pos_of_neg (show (0 : Int) < q by omega) h
        omega
      · exact h
    exact ⟨c.toNat, by rw [hc, Int.toNat_mul (by omega) hc0]⟩
  have hg : Nat.gcd u.toNat q.toNat = 1 := by
    have : Nat.gcd u.toNat q.toNat ∣ Nat.gcd u.toNat m.toNat := Nat.dvd_gcd (Nat.gcd_dvd_left _ _) (Nat.dvd_trans (Nat.gcd_dvd_right _ _) hdv)
    rw [u3] at this
    exact Nat.dvd_one.1 this
  rw [Int.tmod_eq_emod_of_nonneg (by omega)]
  have e : (u % q).toNat = u.toNat % q.toNat := Int.toNat_emod (by omega) (by omega)
  have hg2 : Nat.gcd (u % q).toNat q.toNat = 1 := by
    rw [e, ← hg, Nat.gcd_comm u.toNat q.toNat, Nat.gcd_rec q.toNat u.toNat]
  have h0 := Int.emod_nonneg u (show q ≠ 0 by omega)
  have h1 := Int.emod_lt_of_pos u (show (0 : Int) < q by omega)
  refine ⟨?_, h1, hg2⟩
  rcases Int.lt_or_eq_of_le h0 with h | h
  · omega
  · rw [← h] at hg2
    simp at hg2
    omega
theorem red_mod {t : List (List Int)} {m q : Int} {l : List Int} (hg : Grp t) (hM : Mod t m l) (hq : 2 ≤ q ∧ q ≤ m) (hd : m.tmod q = 0) : Mod t q (upTo (redU q l) t.length) := by
  obtain ⟨⟨m1, m2⟩, hl, hu, hx⟩ := hM
  refine ⟨⟨hq.1, by omega⟩, upTo_len _ _, fun j hj => ?_, fun a ha b hb => ?_⟩
  · rw [upTo_len] at hj
    rw [upTo_get _ hj]
    exact red_unit hq.1 m1 hd (hu j (by omega))
  · rw [upTo_len] at ha hb
    obtain ⟨e1, e2⟩ := (hg.2.2.1 a ha).2 b hb
    rw [upTo_get _ ha, upTo_get _ hb, upTo_get _ (by omega)]
    unfold redU
    rw [hx a (by omega) b (by omega)]
    obtain ⟨u1, _⟩ := hu a (by omega)
    obtain ⟨v1, _⟩ := hu b (by omega)
    have huv := Int.mul_nonneg (show 0 ≤ l.getD a 0 by omega) (show 0 ≤ l.getD b 0 by omega)
    have ea : (l.getD a 0).tmod q = l.getD a 0 % q := Int.tmod_eq_emod_of_nonneg (by omega)
    have eb : (l.getD b 0).tmod q = l.getD b 0 % q := Int.tmod_eq_emod_of_nonneg (by omega)
    rw [red_tm hq.1 m1 hd huv, ea, eb, Int.tmod_eq_emod_of_nonneg huv, Int.tmod_eq_emod_of_nonneg (Int.mul_nonneg (Int.emod_nonneg _ (by omega)) (Int.emod_nonneg _ (by omega))), Int.mul_emod]
theorem red_ok {t : List (List Int)} {m q : Int} {l : List Int} (h : codeRM t m l q = 0) : Grp t ∧ Mod t q (redL t m l q) ∧ redM t m l q = q ∧ codeM t [(m, l), (redM t m l q, redL t m l q)] = 0 ∧ (1 : Int) ∈ mapsL t m l (redM t m l q) (redL t m l q) := by
  have hM : redM t m l q = q := by unfold redM; rw [if_pos h]
  have hL : redL t m l q = upTo (redU q l) t.length := by unfold redL; rw [if_pos h]
  have hc := h
  unfold codeRM at hc
  split at hc
  case isFalse => omega
  rename_i hc1
  split at hc
  case isFalse => omega
  rename_i hq
  obtain ⟨hg, hm⟩ := codeM1_ok hc1
  have hr := red_mod hg hm hq.1 hq.2
  rw [hM, hL]
  have hcode : codeM t [(m, l), (q, upTo (redU q l) t.length)] = 0 := by
    unfold codeM
    rw [if_pos]
    refine ⟨hg, fun x hx => ?_⟩
    simp only [List.mem_cons, List.not_mem_nil, or_false] at hx
    rcases hx with rfl | rfl
    · exact hm
    · exact hr
  refine ⟨hg, hr, rfl, hcode, ?_⟩
  unfold mapsL
  rw [if_pos hcode, List.mem_filter]
  refine ⟨?_, ?_⟩
  · unfold cnt upTo
    simp only [List.mem_map, List.mem_range]
    exact ⟨1, by omega, rfl⟩
  · unfold mapB
    refine decide_eq_true ⟨by simpa using hq.2, fun x hx => ?_⟩
    unfold MapP
    rw [upTo_get _ hx]
    unfold redU
    have h1 := (hm.2.2.1 x (by have := hm.2.1; omega)).1
    rw [Int.one_mul, Int.one_mul, Int.tmod_eq_emod_of_nonneg (by omega), Int.tmod_eq_emod_of_nonneg (Int.emod_nonneg _ (by omega))]
    exact (Int.emod_emod_of_dvd _ (Int.dvd_refl _)).symm
theorem red_bad {t : List (List Int)} {m q : Int} {l : List Int} (h : ¬ codeRM t m l q = 0) : redM t m l q = 0 := by unfold redM; rw [if_neg h]
theorem rst_ok {t u : List (List Int)} {p : List Int} {m : Int} {l : List Int} (h : codeRs t u p m l = 0) : codeG t = 0 ∧ modV t (rstM t u p m l) (rstL t u p m l) = true ∧ rstM t u p m l = m := by
  have hM : rstM t u p m l = m := by unfold rstM; rw [if_pos h]
  have hL : rstL t u p m l = upTo (rstU l p) t.length := by unfold rstL; rw [if_pos h]
  have hc := h
  unfold codeRs at hc
  split at hc
  case isFalse => omega
  rename_i h1
  split at hc
  case isFalse => omega
  rename_i h2
  split at hc
  case isFalse => omega
  rename_i h3
  obtain ⟨hg, hu, hm⟩ := h1
  obtain ⟨hp, hi⟩ := h2
  obtain ⟨⟨m1, m2⟩, hl, hun, hx⟩ := hm
  have hin : ∀ a, a < t.length → (p.getD a 0).toNat < l.length ∧ 0 ≤ p.getD a 0 := fun a ha => by
    obtain ⟨q1, q2⟩ := hi a (by omega)
    omega
  rw [hM, hL]
  refine ⟨by unfold codeG; rw [if_pos hg], decide_eq_true ⟨hg, ⟨m1, m2⟩, upTo_len _ _, fun j hj => ?_, fun a ha b hb => ?_⟩, rfl⟩
  · rw [upTo_len] at hj
    rw [upTo_get _ hj]
    exact hun _ (hin j hj).1
  · rw [upTo_len] at ha hb
    obtain ⟨e1, e2⟩ := (hg.2.2.1 a ha).2 b hb
    rw [upTo_get _ ha, upTo_get _ hb, upTo_get _ (by omega)]
    unfold rstU
    rw [h3 a (by omega) b (by omega) (by omega)]
    exact hx _ (hin a ha).1 _ (hin b hb).1
end Go.Proofs.Ytcjhojdlfnpgjaa
