/- Contracts: masks and lists of elements; sets. -/
import Derived.Test.YtipdgkohfmpilaaSa
import Derived.Test.YtipdgkohfmpilaaSm
import Derived.Test.YtipdgkohfmpilaaGe
namespace Go.Proofs.Ytipdgkohfmpilaa
open Go.RowKit
set_option linter.unusedVariables false
set_option linter.unusedSimpArgs false
set_option maxRecDepth 100000

/-- The numbers of a mask below v. -/
def bitsLt (m v : Nat) : List Int := (cnt v).filter fun x => m.testBit x.toNat
theorem bitsLt_succ (m v : Nat) : bitsLt m (v + 1) = bitsLt m v ++ (if m.testBit v then [(v : Int)] else []) := by
  unfold bitsLt cnt
  rw [upTo_succ, List.filter_append]
  congr 1
  by_cases e : m.testBit v = true
  · rw [if_pos e]; simp [e]
  · rw [if_neg e]; simp [e]
theorem bitsLt_len (m : Nat) : ∀ v, (bitsLt m v).length ≤ v := fun v => by
  have h := List.length_filter_le (fun x : Int => m.testBit x.toNat) (cnt v)
  have e : (cnt v).length = v := by simp [cnt, upTo]
  unfold bitsLt
  omega
theorem l01List_spec (m : Nat) (hm : m < 256) : Spec Try.prog 32 [.v (.int .i64 m)] (.own 0) [.row 2 (I (bitsL m))] := by
  refine Spec.of_code T_ok Try.func32 rfl Try.ntmps32 Try.call32 (Nat.le_of_ble_eq_true rfl) rfl rfl (CodeV_sound T_ok (by kernel_rfl) rfl ?_)
  simp only [Try.results32, go_sem, Nat.reduceMul, Nat.reduceLeDiff, Nat.reduceLT, reduceIte, reduceCtorEq, Nat.reduceEqDiff, Nat.reduceSub, Nat.reduceAdd]
  refine HereO.buildRow T_ok 120 (I []) rfl rfl rfl (by decide) rfl (by first | rfl | (simp only [go_sem, Nat.reduceMul, Nat.reduceLeDiff, Nat.reduceLT, reduceIte, reduceCtorEq, Nat.reduceEqDiff, Nat.reduceSub, Nat.reduceAdd] <;> rfl)) rfl (by decide) ?_
  simp only [Try.results32, go_sem, Nat.reduceMul, Nat.reduceLeDiff, Nat.reduceLT, reduceIte, reduceCtorEq, Nat.reduceEqDiff, Nat.reduceSub, Nat.reduceAdd]
  refine Here.loopV T_ok (fun v => v ≤ 8) (fun v => 8 - v) (fun v => [(0, .v (.int .i64 m)), (3, .own 120), (4, .v (.int .i64 v))]) (fun v => [(120, .row 2 (I (bitsLt m v)))]) 0 (by simp) (by simp only [Try.results32, go_sem, Nat.reduceMul, Nat.reduceLeDiff, Nat.reduceLT, reduceIte, reduceCtorEq, Nat.reduceEqDiff, Nat.reduceSub, Nat.reduceAdd]; simp) (by simp only [Try.results32, go_sem, Nat.reduceMul, Nat.reduceLeDiff, Nat.reduceLT, reduceIte, reduceCtorEq, Nat.reduceEqDiff, Nat.reduceSub, Nat.reduceAdd]; simp [bitsLt, cnt, upTo, I]) ?_
  intro v hv
  simp only [Try.results32, go_sem, Nat.reduceMul, Nat.reduceLeDiff, Nat.reduceLT, reduceIte, reduceCtorEq, Nat.reduceEqDiff, Nat.reduceSub, Nat.reduceAdd]
  refine ⟨fun h2 => ?_, fun h2 => ?_⟩
  · have hb := bit_fact m hm v (by omega)
    have hbl := bitsLt_len m v
    rw [(shl_fact v (by omega)).2, hb]
    refine ⟨fun h3 => ?_, fun h3 => ?_⟩
    · have hbt : m.testBit v = true := by
        cases e : m.testBit v with
        | true => rfl
        | false => rw [e] at h3; simp at h3
      refine HereO.buildRow T_ok 140 (I [(v : Int)]) rfl rfl rfl (by decide) rfl (by first | rfl | (simp only [go_sem, Nat.reduceMul, Nat.reduceLeDiff, Nat.reduceLT, reduceIte, reduceCtorEq, Nat.reduceEqDiff, Nat.reduceSub, Nat.reduceAdd] <;> rfl)) rfl (by decide) ?_
      simp only [Try.results32, go_sem, Nat.reduceMul, Nat.reduceLeDiff, Nat.reduceLT, reduceIte, reduceCtorEq, Nat.reduceEqDiff, Nat.reduceSub, Nat.reduceAdd]
      refine HereO.append T_ok (I [(v : Int)]) rfl rfl (by decide) (by simp only [go_sem, Nat.reduceMul, Nat.reduceLeDiff, Nat.reduceLT, reduceIte, reduceCtorEq, Nat.reduceEqDiff, Nat.reduceSub, Nat.reduceAdd] <;> rfl) (by decide) (by simp only [go_sem, Nat.reduceMul, Nat.reduceLeDiff, Nat.reduceLT, reduceIte, reduceCtorEq, Nat.reduceEqDiff, Nat.reduceSub, Nat.reduceAdd] <;> rfl) (by simp only [go_sem, Nat.reduceMul, Nat.reduceLeDiff, Nat.reduceLT, reduceIte, reduceCtorEq, Nat.reduceEqDiff, Nat.reduceSub, Nat.reduceAdd] <;> rfl) (.own 140 _ _ (by decide) (by simp only [go_sem, Nat.reduceMul, Nat.reduceLeDiff, Nat.reduceLT, reduceIte, reduceCtorEq, Nat.reduceEqDiff, Nat.reduceSub, Nat.reduceAdd] <;> rfl)) (I_one _) (by first | (simp only [II_len]; omega) | simp only [I_len, II_len, upTo_len, tab_len, cnt_len, List.length_append, List.length_cons, List.length_nil, List.length_replicate]; omega) ?_
      simp only [Try.results32, go_sem, Nat.reduceMul, Nat.reduceLeDiff, Nat.reduceLT, reduceIte, reduceCtorEq, Nat.reduceEqDiff, Nat.reduceSub, Nat.reduceAdd]
      rw [I_append]
      refine ⟨by unfold InR; omega, v + 1, by omega, by omega, by push_cast; rfl, ?_⟩
      rw [bitsLt_succ, if_pos hbt]
    · have hbt : m.testBit v = false := by
        cases e : m.testBit v with
        | false => rfl
        | true => rw [e] at h3; simp at h3
      refine ⟨by unfold InR; omega, v + 1, by omega, by omega, by push_cast; rfl, ?_⟩
      rw [bitsLt_succ, if_neg (by rw [hbt]; decide), List.append_nil]
  · have : v = 8 := by omega
    subst this
    refine RetT.one 120 (by simp only [Try.results32, go_sem, Nat.reduceMul, Nat.reduceLeDiff, Nat.reduceLT, reduceIte, reduceCtorEq, Nat.reduceEqDiff, Nat.reduceSub, Nat.reduceAdd]; rfl) rfl ?_
    simp only [Try.results32, go_sem, Nat.reduceMul, Nat.reduceLeDiff, Nat.reduceLT, reduceIte, reduceCtorEq, Nat.reduceEqDiff, Nat.reduceSub, Nat.reduceAdd]
    rfl
/-! ### Sets -/
def AscD (l : List Int) : Prop := ∀ k, k < l.length → 0 < k → l.getD (k - 1) 0 < l.getD k 0
instance (l : List Int) : Decidable (AscD l) := by unfold AscD; exact Nat.decidableBallLT _ _
def setE (t : List (List Int)) (l : List Int) : Int := if Grp t then (if AscD l ∧ AreIn t.length l then 0 else 2) else 1
theorem setE_ok {t : List (List Int)} {l : List Int} (h : setE t l = 0) : Grp t ∧ AscD l ∧ AreIn t.length l := by
  unfold setE at h
  split at h
  · rename_i hg
    split at h
    · rename_i q; exact ⟨hg, q⟩
    · omega
  · omega
theorem ascD_asc : ∀ {l : List Int}, AscD l → Asc l
  | [], _ => List.Pairwise.nil
  | [x], _ => List.pairwise_singleton _ _
  | x :: y :: l, h => by
    have ih : Asc (y :: l) := ascD_asc fun k hk h0 => by
      have := h (k + 1) (by simpa using hk) (by omega)
      rwa [show k + 1 - 1 = (k - 1) + 1 by omega, List.getD_cons_succ, List.getD_cons_succ] at this
    have h1 := h 1 (by simp) (by omega)
    simp only [Nat.sub_self, List.getD_cons_zero, List.getD_cons_succ] at h1
    unfold Asc at ih ⊢
    refine List.pairwise_cons.2 ⟨fun z hz => ?_, ih⟩
    rcases List.mem_cons.1 hz with q | q
    · rw [q]; exact h1
    · have := (List.pairwise_cons.1 ih).1 z q; omega
theorem set_len {n : Nat} {l : List Int} (h : AscD l) (hi : AreIn n l) : l.length ≤ n := nodup_len (ascD_asc h).nodup fun x hx => areIn_mem hi hx
end Go.Proofs.Ytipdgkohfmpilaa
