/- Contracts: masks and lists of elements; sets. -/
import Derived.Test.YtdbkiomhoonclaaSa
import Derived.Test.YtdbkiomhoonclaaSm
import Derived.Test.YtdbkiomhoonclaaGe
namespace Go.Proofs.Ytdbkiomhoonclaa
open Go.RowKit
set_option linter.unusedVariables false
set_option linter.unusedSimpArgs false
set_option maxRecDepth 100000

theorem l01Bits_spec (n : Nat) (l : List Int) (hn : n ≤ 8) (h : AreIn n l) (hl : l.length ≤ 1048576) : Spec Try.prog 43 [.rd (I l)] (.v (.int .i64 (bitsM l))) [] := by
  obtain ⟨B, h0, hn', hlt, hst⟩ : ∃ B : Nat → Nat, B 0 = 0 ∧ B l.length = bitsM l ∧ (∀ i, B i < 256) ∧ ∀ i, i < l.length → B i ||| 2 ^ (l.getD i 0).toNat = B (i + 1) :=
    ⟨fun i => bitsM (l.take i), by show bitsM (l.take 0) = 0; rw [List.take_zero]; exact bitsM_nil, by show bitsM (l.take l.length) = bitsM l; rw [List.take_length], fun i => bitsM_lt8 hn (areIn_take h i), fun i hi => bitsM_step hn h hi⟩
  rw [← hn']
  refine Spec.of_code T_ok Try.func43 rfl Try.ntmps43 Try.call43 (Nat.le_of_ble_eq_true rfl) rfl rfl (CodeV_sound T_ok (by kernel_rfl) rfl ?_)
  simp only [Try.results43, go_sem, Nat.reduceMul, Nat.reduceLeDiff, Nat.reduceLT, reduceIte, reduceCtorEq, Nat.reduceEqDiff, Nat.reduceSub, Nat.reduceAdd]
  refine Here.loopV T_ok (fun i => i ≤ l.length) (fun i => l.length - i) (fun i => [(0, .rd (I l)), (3, .v (.int .i64 (B i : Nat))), (4, .v (.int .i64 i))]) (fun _ => []) 0 (by simp) (by simp only [Try.results43, go_sem, Nat.reduceMul, Nat.reduceLeDiff, Nat.reduceLT, reduceIte, reduceCtorEq, Nat.reduceEqDiff, Nat.reduceSub, Nat.reduceAdd]; simp [h0]) trivial ?_
  intro i hi
  simp only [Try.results43, go_sem, Nat.reduceMul, Nat.reduceLeDiff, Nat.reduceLT, reduceIte, reduceCtorEq, Nat.reduceEqDiff, Nat.reduceSub, Nat.reduceAdd]
  refine ⟨fun h2 => ?_, fun h2 => by rw [show i = l.length by omega]⟩
  have hx := h i (by omega)
  obtain ⟨x, hxe⟩ := Int.eq_ofNat_of_zero_le hx.1
  have hs := hst i (by omega)
  rw [hxe, Int.toNat_natCast] at hs
  rw [hxe, (shl_fact x (by omega)).1, or_fact _ (hlt i) x (by omega), hs]
  exact ⟨⟨by omega, by omega⟩, by unfold InR; omega, i + 1, by omega, by omega, rfl, by push_cast; rfl⟩
/-- The numbers of a mask below v. -/
def bitsLt (m v : Nat) : List Int := (cnt v).filter fun x => m.testBit x.toNat
theorem bitsLt_succ (m v : Nat) : bitsLt m (v + 1) = bitsLt m v ++ (if m.testBit v then [(v : Int)] else []) := by
  unfold bitsLt cnt
  rw [upTo_succ, List.filter_append]
  congr 1
  by_cases e : m.testBit v = true
  · rw [if_pos e]; simp [e]
  · rw [if_neg e]; simp [e]
theorem bitsLt_len (m : Nat) : ∀ v, (bitsLt m v).length ≤ v := fun v => by
  have h := List.length_filter_le (fun x : Int => m.testBit x.toNat) (cnt v)
  have e : (cnt v).length = v := by simp [cnt, upTo]
  unfold bitsLt
  omega
theorem l01List_spec (m : Nat) (hm : m < 256) : Spec Try.prog 41 [.v (.int .i64 m)] (.own 0) [.row 2 (I (bitsL m))] := by
  refine Spec.of_code T_ok Try.func41 rfl Try.ntmps41 Try.call41 (Nat.le_of_ble_eq_true rfl) rfl rfl (CodeV_sound T_ok (by kernel_rfl) rfl ?_)
  simp only [Try.results41, go_sem, Nat.reduceMul, Nat.reduceLeDiff, Nat.reduceLT, reduceIte, reduceCtorEq, Nat.reduceEqDiff, Nat.reduceSub, Nat.reduceAdd]
  refine HereO.buildRow T_ok 120 (I []) rfl rfl rfl (by decide) rfl (by first | rfl | (simp only [go_sem, Nat.reduceMul, Nat.reduceLeDiff, Nat.reduceLT, reduceIte, reduceCtorEq, Nat.reduceEqDiff, Nat.reduceSub, Nat.reduceAdd] <;> rfl)) rfl (by decide) ?_
  simp only [Try.results41, go_sem, Nat.reduceMul, Nat.reduceLeDiff, Nat.reduceLT, reduceIte, reduceCtorEq, Nat.reduceEqDiff, Nat.reduceSub, Nat.reduceAdd]
  refine Here.loopV T_ok (fun v => v ≤ 8) (fun v => 8 - v) (fun v => [(0, .v (.int .i64 m)), (3, .own 120), (4, .v (.int .i64 v))]) (fun v => [(120, .row 2 (I (bitsLt m v)))]) 0 (by simp) (by simp only [Try.results41, go_sem, Nat.reduceMul, Nat.reduceLeDiff, Nat.reduceLT, reduceIte, reduceCtorEq, Nat.reduceEqDiff, Nat.reduceSub, Nat.reduceAdd]; simp) (by simp only [Try.results41, go_sem, Nat.reduceMul, Nat.reduceLeDiff, Nat.reduceLT, reduceIte, reduceCtorEq, Nat.reduceEqDiff, Nat.reduceSub, Nat.reduceAdd]; simp [bitsLt, cnt, upTo, I]) ?_
  intro v hv
  simp only [Try.results41, go_sem, Nat.reduceMul, Nat.reduceLeDiff, Nat.reduceLT, reduceIte, reduceCtorEq, Nat.reduceEqDiff, Nat.reduceSub, Nat.reduceAdd]
  refine ⟨fun h2 => ?_, fun h2 => ?_⟩
  · have hb := bit_fact m hm v (by omega)
    have hbl := bitsLt_len m v
    rw [(shl_fact v (by omega)).2, hb]
    refine ⟨fun h3 => ?_, fun h3 => ?_⟩
    · have hbt : m.testBit v = true := by
        cases e : m.testBit v with
        | true => rfl
        | false => rw [e] at h3; simp at h3
      refine HereO.buildRow T_ok 140 (I [(v : Int)]) rfl rfl rfl (by decide) rfl (by first | rfl | (simp only [go_sem, Nat.reduceMul, Nat.reduceLeDiff, Nat.reduceLT, reduceIte, reduceCtorEq, Nat.reduceEqDiff, Nat.reduceSub, Nat.reduceAdd] <;> rfl)) rfl (by decide) ?_
      simp only [Try.results41, go_sem, Nat.reduceMul, Nat.reduceLeDiff, Nat.reduceLT, reduceIte, reduceCtorEq, Nat.reduceEqDiff, Nat.reduceSub, Nat.reduceAdd]
      refine HereO.append T_ok (I [(v : Int)]) rfl rfl (by decide) (by simp only [go_sem, Nat.reduceMul, Nat.reduceLeDiff, Nat.reduceLT, reduceIte, reduceCtorEq, Nat.reduceEqDiff, Nat.reduceSub, Nat.reduceAdd] <;> rfl) (by decide) (by simp only [go_sem, Nat.reduceMul, Nat.reduceLeDiff, Nat.reduceLT, reduceIte, reduceCtorEq, Nat.reduceEqDiff, Nat.reduceSub, Nat.reduceAdd] <;> rfl) (by simp only [go_sem, Nat.reduceMul, Nat.reduceLeDiff, Nat.reduceLT, reduceIte, reduceCtorEq, Nat.reduceEqDiff, Nat.reduceSub, Nat.reduceAdd] <;> rfl) (.own 140 _ _ (by decide) (by simp only [go_sem, Nat.reduceMul, Nat.reduceLeDiff, Nat.reduceLT, reduceIte, reduceCtorEq, Nat.reduceEqDiff, Nat.reduceSub, Nat.reduceAdd] <;> rfl)) (I_one _) (by first | (simp only [II_len]; omega) | simp only [I_len, II_len, upTo_len, tab_len, cnt_len, List.length_append, List.length_cons, List.length_nil, List.length_replicate]; omega) ?_
      simp only [Try.results41, go_sem, Nat.reduceMul, Nat.reduceLeDiff, Nat.reduceLT, reduceIte, reduceCtorEq, Nat.reduceEqDiff, Nat.reduceSub, Nat.reduceAdd]
      rw [I_append]
      refine ⟨by unfold InR; omega, v + 1, by omega, by omega, by push_cast; rfl, ?_⟩
      rw [bitsLt_succ, if_pos hbt]
    · have hbt : m.testBit v = false := by
        cases e : m.testBit v with
        | false => rfl
        | true => rw [e] at h3; simp at h3
      refine ⟨by unfold InR; omega, v + 1, by omega, by omega, by push_cast; rfl, ?_⟩
      rw [bitsLt_succ, if_neg (by rw [hbt]; decide), List.append_nil]
  · have : v = 8 := by omega
    subst this
    refine RetT.one 120 (by simp only [Try.results41, go_sem, Nat.reduceMul, Nat.reduceLeDiff, Nat.reduceLT, reduceIte, reduceCtorEq, Nat.reduceEqDiff, Nat.reduceSub, Nat.reduceAdd]; rfl) rfl ?_
    simp only [Try.results41, go_sem, Nat.reduceMul, Nat.reduceLeDiff, Nat.reduceLT, reduceIte, reduceCtorEq, Nat.reduceEqDiff, Nat.reduceSub, Nat.reduceAdd]
    rfl
/-! ### Sets -/
def AscD (l : List Int) : Prop := ∀ k, k < l.length → 0 < k → l.getD (k - 1) 0 < l.getD k 0
instance (l : List Int) : Decidable (AscD l) := by unfold AscD; exact Nat.decidableBallLT _ _
def setE (t : List (List Int)) (l : List Int) : Int := if Grp t then (if AscD l ∧ AreIn t.length l then 0 else 2) else 1
theorem setE_ok {t : List (List Int)} {l : List Int} (h : setE t l = 0) : Grp t ∧ AscD l ∧ AreIn t.length l := by
  unfold setE at h
  split at h
  · rename_i hg
    split at h
    · rename_i q; exact ⟨hg, q⟩
    · omega
  · omega
theorem ascD_asc : ∀ {l : List Int}, AscD l → Asc l
  | [], _ => List.Pairwise.nil
  | [x], _ => List.pairwise_singleton _ _
  | x :: y :: l, h => by
    have ih : Asc (y :: l) := ascD_asc fun k hk h0 => by
      have := h (k + 1) (by simpa using hk) (by omega)
      rwa [show k + 1 - 1 = (k - 1) + 1 by omega, List.getD_cons_succ, List.getD_cons_succ] at this
    have h1 := h 1 (by simp) (by omega)
    simp only [Nat.sub_self, List.getD_cons_zero, List.getD_cons_succ] at h1
    unfold Asc at ih ⊢
    refine List.pairwise_cons.2 ⟨fun z hz => ?_, ih⟩
    rcases List.mem_cons.1 hz with q | q
    · rw [q]; exact h1
    · have := (List.pairwise_cons.1 ih).1 z q; omega
theorem set_len {n : Nat} {l : List Int} (h : AscD l) (hi : AreIn n l) : l.length ≤ n := nodup_len (ascD_asc h).nodup fun x hx => areIn_mem hi hx
theorem isSet_spec (t : List (List Int)) (l : List Int) (hl : l.length ≤ 1048576) : Spec Try.prog 84 [.agg [.rds (II t)], .rd (I l)] (.v (.bool (decide (AscD l ∧ AreIn t.length l)))) [] := by
  refine Spec.of_code T_ok Try.func84 rfl Try.ntmps84 Try.call84 (Nat.le_of_ble_eq_true rfl) rfl rfl (CodeV_sound T_ok (by kernel_rfl) rfl ?_)
  simp only [Try.results84, go_sem, Nat.reduceMul, Nat.reduceLeDiff, Nat.reduceLT, reduceIte, reduceCtorEq, Nat.reduceEqDiff, Nat.reduceSub, Nat.reduceAdd]
  refine Here.loopV T_ok (fun k => k ≤ l.length ∧ ∀ j, j < k → 0 < j → l.getD (j - 1) 0 < l.getD j 0) (fun k => l.length - k) (fun k => [(1, .rd (I l)), (2, .box [.rds (II t)]), (7, .rd (I l)), (8, .v (.int .i64 l.length)), (9, .v (.int .i64 k))]) (fun _ => []) 0 (by simp) (by simp only [Try.results84, go_sem, Nat.reduceMul, Nat.reduceLeDiff, Nat.reduceLT, reduceIte, reduceCtorEq, Nat.reduceEqDiff, Nat.reduceSub, Nat.reduceAdd]; simp) trivial ?_
  rintro k ⟨hk, hs⟩
  simp only [Try.results84, go_sem, Nat.reduceMul, Nat.reduceLeDiff, Nat.reduceLT, reduceIte, reduceCtorEq, Nat.reduceEqDiff, Nat.reduceSub, Nat.reduceAdd]
  refine ⟨fun h2 => ⟨⟨by omega, by omega⟩, fun h3 => ⟨by unfold InR; omega, ⟨by omega, by omega⟩, fun h4 => ?_, fun h4 => ⟨by unfold InR; omega, k + 1, ⟨by omega, fun j hj h0 => ?_⟩, by omega, by push_cast; rfl⟩⟩, fun h3 => ⟨by unfold InR; omega, k + 1, ⟨by omega, fun j hj h0 => by omega⟩, by omega, by push_cast; rfl⟩⟩, fun h2 => ?_⟩
  · rw [show ((k : Int) - 1).toNat = k - 1 by omega] at h4
    symm
    exact decide_eq_false fun q => by have := q.1 k (by omega) (by omega); omega
  · rw [show ((k : Int) - 1).toNat = k - 1 by omega] at h4
    by_cases e : j = k
    · subst e; omega
    · exact hs j (by omega) h0
  · refine HereO.call T_ok rfl rfl (order_spec t) (by simp only [go_sem, Nat.reduceMul, Nat.reduceLeDiff, Nat.reduceLT, reduceIte, reduceCtorEq, Nat.reduceEqDiff, Nat.reduceSub, Nat.reduceAdd, List.toList_toArray] <;> first | rfl | exact ⟨rfl, rfl⟩) rfl ?_
    simp only [Try.results84, go_sem, Nat.reduceMul, Nat.reduceLeDiff, Nat.reduceLT, reduceIte, reduceCtorEq, Nat.reduceEqDiff, Nat.reduceSub, Nat.reduceAdd]
    refine HereO.call T_ok rfl rfl (areIn_spec t.length l hl) (by simp only [go_sem, Nat.reduceMul, Nat.reduceLeDiff, Nat.reduceLT, reduceIte, reduceCtorEq, Nat.reduceEqDiff, Nat.reduceSub, Nat.reduceAdd, List.toList_toArray] <;> first | rfl | exact ⟨rfl, rfl⟩) rfl ?_
    simp only [Try.results84, go_sem, Nat.reduceMul, Nat.reduceLeDiff, Nat.reduceLT, reduceIte, reduceCtorEq, Nat.reduceEqDiff, Nat.reduceSub, Nat.reduceAdd]
    have ha : AscD l := fun j hj h0 => hs j (by omega) h0
    simp [ha]
theorem setCode_spec (t : List (List Int)) (l : List Int) (hl : l.length ≤ 1048576) : Spec Try.prog 45 [.agg [.rds (II t)], .rd (I l)] (.v (.int .i64 (setE t l))) [] := by
  refine Spec.of_code T_ok Try.func45 rfl Try.ntmps45 Try.call45 (Nat.le_of_ble_eq_true rfl) rfl rfl (CodeV_sound T_ok (by kernel_rfl) rfl ?_)
  simp only [Try.results45, go_sem, Nat.reduceMul, Nat.reduceLeDiff, Nat.reduceLT, reduceIte, reduceCtorEq, Nat.reduceEqDiff, Nat.reduceSub, Nat.reduceAdd]
  refine HereO.call T_ok rfl rfl (IsGroup_spec t) (by simp only [go_sem, Nat.reduceMul, Nat.reduceLeDiff, Nat.reduceLT, reduceIte, reduceCtorEq, Nat.reduceEqDiff, Nat.reduceSub, Nat.reduceAdd, List.toList_toArray] <;> first | rfl | exact ⟨rfl, rfl⟩) rfl ?_
  simp only [Try.results45, go_sem, Nat.reduceMul, Nat.reduceLeDiff, Nat.reduceLT, reduceIte, reduceCtorEq, Nat.reduceEqDiff, Nat.reduceSub, Nat.reduceAdd]
  refine ⟨fun h => ?_, fun h => ?_⟩
  · simp [setE, h]
  · refine HereO.call T_ok rfl rfl (isSet_spec t l hl) (by simp only [go_sem, Nat.reduceMul, Nat.reduceLeDiff, Nat.reduceLT, reduceIte, reduceCtorEq, Nat.reduceEqDiff, Nat.reduceSub, Nat.reduceAdd, List.toList_toArray] <;> first | rfl | exact ⟨rfl, rfl⟩) rfl ?_
    simp only [Try.results45, go_sem, Nat.reduceMul, Nat.reduceLeDiff, Nat.reduceLT, reduceIte, reduceCtorEq, Nat.reduceEqDiff, Nat.reduceSub, Nat.reduceAdd]
    exact ⟨fun h2 => by simp only [setE, if_pos h]; rw [if_neg h2], fun h2 => by simp only [setE, if_pos h]; rw [if_pos h2]⟩
theorem l01Set_spec (t : List (List Int)) (l : List Int) (hl : l.length ≤ 1048576) : Spec Try.prog 40 [.agg [.rds (II t)], .rd (I l)] (.v (.int .i64 (setE t l))) [] := by
  refine Spec.of_code T_ok Try.func40 rfl Try.ntmps40 Try.call40 (Nat.le_of_ble_eq_true rfl) rfl rfl (CodeV_sound T_ok (by kernel_rfl) rfl ?_)
  simp only [Try.results40, go_sem, Nat.reduceMul, Nat.reduceLeDiff, Nat.reduceLT, reduceIte, reduceCtorEq, Nat.reduceEqDiff, Nat.reduceSub, Nat.reduceAdd]
  refine HereO.call T_ok rfl rfl (l01Elements_spec t l hl) (by simp only [go_sem, Nat.reduceMul, Nat.reduceLeDiff, Nat.reduceLT, reduceIte, reduceCtorEq, Nat.reduceEqDiff, Nat.reduceSub, Nat.reduceAdd, List.toList_toArray] <;> first | rfl | exact ⟨rfl, rfl⟩) rfl ?_
  simp only [Try.results40, go_sem, Nat.reduceMul, Nat.reduceLeDiff, Nat.reduceLT, reduceIte, reduceCtorEq, Nat.reduceEqDiff, Nat.reduceSub, Nat.reduceAdd]
  refine ⟨fun h => ?_, fun h => ?_⟩
  · unfold codeE at h
    unfold setE codeE
    by_cases hg : Grp t
    · rw [if_pos hg] at h
      by_cases q : AreIn t.length l
      · rw [if_pos q] at h; exact absurd rfl h
      · rw [if_pos hg, if_pos hg, if_neg q, if_neg (fun r => q r.2)]
    · rw [if_neg hg, if_neg hg]
  · obtain ⟨hg, hin⟩ := codeE_ok h
    refine Here.loopV T_ok (fun i => 1 ≤ i ∧ (i ≤ l.length ∨ i = 1) ∧ ∀ j, j < i → 0 < j → l.getD (j - 1) 0 < l.getD j 0) (fun i => l.length + 1 - i) (fun i => [(1, .rd (I l)), (6, .v (.int .i64 i))]) (fun _ => []) 1 ⟨by omega, .inr rfl, fun j hj h0 => by omega⟩ (by simp only [Try.results40, go_sem, Nat.reduceMul, Nat.reduceLeDiff, Nat.reduceLT, reduceIte, reduceCtorEq, Nat.reduceEqDiff, Nat.reduceSub, Nat.reduceAdd]; simp) trivial ?_
    rintro k ⟨h1, hk, hs⟩
    simp only [Try.results40, go_sem, Nat.reduceMul, Nat.reduceLeDiff, Nat.reduceLT, reduceIte, reduceCtorEq, Nat.reduceEqDiff, Nat.reduceSub, Nat.reduceAdd]
    refine ⟨fun h2 => ?_, fun h2 => ?_⟩
    · refine Here.draw T_ok mixed_ok (by kernel_rfl) ?_
      simp only [Try.results40, go_sem, Nat.reduceMul, Nat.reduceLeDiff, Nat.reduceLT, reduceIte, reduceCtorEq, Nat.reduceEqDiff, Nat.reduceSub, Nat.reduceAdd]
      rw [show ((k : Int) - 1).toNat = k - 1 by omega]
      refine ⟨⟨by omega, by omega⟩, by unfold InR; omega, ⟨by omega, by omega⟩, fun h4 => ?_, fun h4 => ⟨by unfold InR; omega, k + 1, ⟨by omega, by omega, fun j hj h0 => ?_⟩, by omega, by push_cast; rfl⟩⟩
      · unfold setE
        rw [if_pos hg, if_neg]
        intro q
        have := q.1 k (by omega) (by omega); omega
      · by_cases e : j = k
        · subst e; omega
        · exact hs j (by omega) h0
    · have ha : AscD l := fun j hj h0 => hs j (by omega) h0
      simp [setE, hg, ha, hin]
end Go.Proofs.Ytdbkiomhoonclaa
