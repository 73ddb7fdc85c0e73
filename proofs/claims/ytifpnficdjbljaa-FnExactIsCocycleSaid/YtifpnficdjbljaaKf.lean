/- Contracts: BoundaryOf, IsCocycle. -/
import Derived.Test.YtifpnficdjbljaaKe
import Derived.Test.YtifpnficdjbljaaVv
namespace Go.Proofs.Ytifpnficdjbljaa
open Go.RowKit
set_option linter.unusedVariables false
set_option linter.unusedSimpArgs false
set_option maxRecDepth 100000

def joinL (t : List (List Int)) (l : List Int) (i : Nat) : List Int := l.take i ++ [ee t (l.getD i 0).toNat (l.getD (i + 1) 0).toNat] ++ l.drop (i + 2)
def sgnI : Nat → Int
  | 0 => -1
  | i + 1 => -sgnI i
theorem sgnI_or : ∀ i, sgnI i = 1 ∨ sgnI i = -1
  | 0 => .inr rfl
  | i + 1 => by rcases sgnI_or i with h | h <;> simp [sgnI, h]
def bdN (t : List (List Int)) (k v l : List Int) : Nat → Int
  | 0 => k.getD (l.getD 0 0).toNat 0 * atV (t.length - 1) v (l.drop 1)
  | i + 1 => bdN t k v l i + sgnI i * atV (t.length - 1) v (joinL t l i)
def bdV (t : List (List Int)) (k v l : List Int) (n : Nat) : Int := bdN t k v l n + sgnI n * atV (t.length - 1) v (l.take n)
theorem joinL_len {t : List (List Int)} {l : List Int} {i : Nat} (h : i + 1 < l.length) : (joinL t l i).length = l.length - 1 := by
  unfold joinL; simp; omega
theorem app_in {n : Int} {a b : List Int} (ha : AreIn n a) (hb : AreIn n b) : AreIn n (a ++ b) := by
  intro j hj
  rw [List.length_append] at hj
  by_cases q : j < a.length
  · have := ha j q
    rwa [List.getD_eq_getElem?_getD, List.getElem?_append_left q, ← List.getD_eq_getElem?_getD]
  · have := hb (j - a.length) (by omega)
    rwa [List.getD_eq_getElem?_getD, List.getElem?_append_right (by omega), ← List.getD_eq_getElem?_getD]
theorem joinL_in {t : List (List Int)} (hg : Grp t) {l : List Int} (hl : AreIn t.length l) {i : Nat} (h : i + 1 < l.length) : AreIn t.length (joinL t l i) := by
  have h1 := hl i (by omega)
  have h2 := hl (i + 1) h
  have h3 := (hg.2.2.1 (l.getD i 0).toNat (by omega)).2 (l.getD (i + 1) 0).toNat (by omega)
  exact app_in (app_in (take_in hl i) (one_in.2 h3)) (drop_in hl (i + 2))
theorem mul_le12 {a b : Int} (ha : 0 ≤ a ∧ a ≤ 12) (hb : 0 ≤ b ∧ b ≤ 12) : 0 ≤ a * b ∧ a * b ≤ 144 :=
  ⟨Int.mul_nonneg ha.1 hb.1, Int.le_trans (Int.mul_le_mul ha.2 hb.2 hb.1 (by omega)) (by omega)⟩
theorem sg_le {s x : Int} (hs : s = 1 ∨ s = -1) (hx : 0 ≤ x ∧ x ≤ 12) : -12 ≤ s * x ∧ s * x ≤ 12 := by
  rcases hs with h | h <;> rw [h] <;> omega
theorem bdN_le {t : List (List Int)} (hg : Grp t) {m : Int} {k : List Int} (hm : Mod t m k) {v l : List Int} (hv : AreIn m v) (hl : AreIn t.length l) (h0 : 0 < l.length) : ∀ i, i < l.length → -12 * i ≤ bdN t k v l i ∧ bdN t k v l i ≤ 144 + 12 * i
  | 0, _ => by
    have h12 := hm.1
    have h1 := atV_in (b := t.length - 1) (l := l.drop 1) (by omega) hv
    have h3 := hl 0 h0
    have hk := hm.2.1
    have h4 := unit_at' (units_ge' hm) (x := (l.getD 0 0).toNat) (by omega)
    have := mul_le12 (a := k.getD (l.getD 0 0).toNat 0) (b := atV (t.length - 1) v (l.drop 1)) (by omega) (by omega)
    unfold bdN
    omega
  | i + 1, hi => by
    have ih := bdN_le hg hm hv hl h0 i (by omega)
    have h12 := hm.1
    have h1 := atV_in (b := t.length - 1) (l := joinL t l i) (by omega) hv
    have := sg_le (sgnI_or i) (x := atV (t.length - 1) v (joinL t l i)) (by omega)
    unfold bdN
    omega
theorem boundaryAt_spec (t : List (List Int)) (hg : Grp t) (m : Int) (k : List Int) (hm : Mod t m k) (n : Nat) (v l : List Int) (hl : l.length = n + 1) (hn : n ≤ 3) (hi : AreIn t.length l) (hv : AreIn m v) (hvl : v.length = (t.length - 1) ^ n) :
    Spec Try.prog 98 [.agg [.rds (II t)], .agg [.v (.int .i64 m), .rd (I k)], .agg [.v (.int .i64 n), .rd (I v)], .rd (I l)] (.v (.int .i64 (bdV t k v l n))) [] := by
  have h12 := hm.1
  have hk := hm.2.1
  have hl0 := hi 0 (by omega)
  have hu := unit_at' (units_ge' hm) (x := (l.getD 0 0).toNat) (by omega)
  have hd1 : (l.drop 1).length = n := by simp; omega
  have hat := atV_in (b := t.length - 1) (l := l.drop 1) (by omega) hv
  have hp := mul_le12 (a := k.getD (l.getD 0 0).toNat 0) (b := atV (t.length - 1) v (l.drop 1)) (by omega) (by omega)
  have hbd := bdN_le hg hm hv hi (by omega)
  refine Spec.of_code T_ok Try.func98 rfl Try.ntmps98 Try.call98 (Nat.le_of_ble_eq_true rfl) rfl rfl (CodeV_sound T_ok (by kernel_rfl) rfl ?_)
  simp only [Try.results98, go_sem, Nat.reduceMul, Nat.reduceLeDiff, Nat.reduceLT, reduceIte, reduceCtorEq, Nat.reduceEqDiff, Nat.reduceSub, Nat.reduceAdd]
  rw [hl, show ((n + 1 : Nat) : Int) - 1 = (n : Int) by omega]
  refine ⟨by unfold InR; omega, ?_⟩
  refine Here.draw T_ok mixed_ok (by kernel_rfl) ?_
  simp only [Try.results98, go_sem, Nat.reduceMul, Nat.reduceLeDiff, Nat.reduceLT, reduceIte, reduceCtorEq, Nat.reduceEqDiff, Nat.reduceSub, Nat.reduceAdd]
  refine ⟨by omega, by omega, ?_⟩
  refine ⟨_, OpP.dropI T_ok (l := l) 1 rfl rfl (by simp only [go_sem, Nat.reduceMul, Nat.reduceLeDiff, Nat.reduceLT, reduceIte, reduceCtorEq, Nat.reduceEqDiff, Nat.reduceSub, Nat.reduceAdd] <;> rfl) ⟨.i64, rfl⟩ (by omega), ?_⟩
  simp only [Try.results98, go_sem, Nat.reduceMul, Nat.reduceLeDiff, Nat.reduceLT, reduceIte, reduceCtorEq, Nat.reduceEqDiff, Nat.reduceSub, Nat.reduceAdd]
  refine ⟨_, OpP.call' rfl rfl (at_spec t hg n v (l.drop 1) (by omega) (drop_in hi 1) (by rw [hd1]; exact hvl)) (by simp only [go_sem, Nat.reduceMul, Nat.reduceLeDiff, Nat.reduceLT, reduceIte, reduceCtorEq, Nat.reduceEqDiff, Nat.reduceSub, Nat.reduceAdd, List.toList_toArray] <;> first | rfl | exact ⟨rfl, rfl⟩) rfl, ?_⟩
  simp only [Try.results98, go_sem, Nat.reduceMul, Nat.reduceLeDiff, Nat.reduceLT, reduceIte, reduceCtorEq, Nat.reduceEqDiff, Nat.reduceSub, Nat.reduceAdd]
  refine ⟨by unfold InR; omega, ?_⟩
  refine Here.loopV T_ok (fun i => i ≤ n) (fun i => n - i) (fun i => [(3, .rd (I l)), (4, .box [.rds (II t)]), (6, .box [.v (.int .i64 n), .rd (I v)]), (9, .v (.int .i64 n)), (10, .v (.int .i64 (bdN t k v l i))), (11, .v (.int .i64 (sgnI i))), (30, .v (.int .i64 n)), (31, .v (.int .i64 i))]) (fun _ => []) 0 (by simp) (by simp only [Try.results98, go_sem, Nat.reduceMul, Nat.reduceLeDiff, Nat.reduceLT, reduceIte, reduceCtorEq, Nat.reduceEqDiff, Nat.reduceSub, Nat.reduceAdd]; simp [bdN, sgnI]) trivial ?_
  intro i hin
  simp only [Try.results98, go_sem, Nat.reduceMul, Nat.reduceLeDiff, Nat.reduceLT, reduceIte, reduceCtorEq, Nat.reduceEqDiff, Nat.reduceSub, Nat.reduceAdd]
  refine ⟨fun h2 => ?_, fun h2 => ?_⟩
  · have hj1 := hi i (by omega)
    have hj2 := hi (i + 1) (by omega)
    have hti := take_in hi i
    have hjl := joinL_len (t := t) (l := l) (i := i) (by omega)
    have hji := joinL_in hg hi (i := i) (by omega)
    have hbi := hbd i (by omega)
    have hbi1 := hbd (i + 1) (by omega)
    have htl : (l.take i).length = i := by simp; omega
    have hdl : (l.drop (i + 2)).length = l.length - (i + 2) := by simp
    refine Here.drawC T_ok [.c, .f, .f, .f, .c, .f, .f, .f, .f, .f, .f, .f, .f, .f, .f, .f, .p, .p, .c] [3, 12, 4] (Nat.le_of_ble_eq_true rfl) mixed_ok (by kernel_rfl) (by kernel_rfl) (by kernel_rfl) (by simp only [List.mem_cons, List.not_mem_nil, or_false, forall_eq_or_imp, forall_eq, go_sem, Nat.reduceMul, Nat.reduceLeDiff, Nat.reduceLT, reduceIte, reduceCtorEq, Nat.reduceEqDiff, Nat.reduceSub, Nat.reduceAdd]) ?_
    simp only [Try.results98, go_sem, Nat.reduceMul, Nat.reduceLeDiff, Nat.reduceLT, reduceIte, reduceCtorEq, Nat.reduceEqDiff, Nat.reduceSub, Nat.reduceAdd]
    refine HereC.buildRow T_ok 134 (I []) rfl rfl rfl (by decide) rfl (by first | rfl | (simp only [go_sem, Nat.reduceMul, Nat.reduceLeDiff, Nat.reduceLT, reduceIte, reduceCtorEq, Nat.reduceEqDiff, Nat.reduceSub, Nat.reduceAdd] <;> rfl)) rfl (by decide) ?_
    simp only [Try.results98, go_sem, Nat.reduceMul, Nat.reduceLeDiff, Nat.reduceLT, reduceIte, reduceCtorEq, Nat.reduceEqDiff, Nat.reduceSub, Nat.reduceAdd]
    refine ⟨_, fun _ => OpP.takeI T_ok (l := l) i rfl rfl (by simp only [go_sem, Nat.reduceMul, Nat.reduceLeDiff, Nat.reduceLT, reduceIte, reduceCtorEq, Nat.reduceEqDiff, Nat.reduceSub, Nat.reduceAdd] <;> rfl) ⟨_, (by simp only [go_sem, Nat.reduceMul, Nat.reduceLeDiff, Nat.reduceLT, reduceIte, reduceCtorEq, Nat.reduceEqDiff, Nat.reduceSub, Nat.reduceAdd] <;> rfl)⟩ (by omega), (by simp only [go_sem, Nat.reduceMul, Nat.reduceLeDiff, Nat.reduceLT, reduceIte, reduceCtorEq, Nat.reduceEqDiff, Nat.reduceSub, Nat.reduceAdd]), ?_⟩
    simp only [Try.results98, go_sem, Nat.reduceMul, Nat.reduceLeDiff, Nat.reduceLT, reduceIte, reduceCtorEq, Nat.reduceEqDiff, Nat.reduceSub, Nat.reduceAdd]
    refine HereC.append T_ok (I (l.take i)) rfl rfl (by decide) (by simp only [go_sem, Nat.reduceMul, Nat.reduceLeDiff, Nat.reduceLT, reduceIte, reduceCtorEq, Nat.reduceEqDiff, Nat.reduceSub, Nat.reduceAdd] <;> rfl) (by decide) (by simp only [go_sem, Nat.reduceMul, Nat.reduceLeDiff, Nat.reduceLT, reduceIte, reduceCtorEq, Nat.reduceEqDiff, Nat.reduceSub, Nat.reduceAdd] <;> rfl) (by simp only [go_sem, Nat.reduceMul, Nat.reduceLeDiff, Nat.reduceLT, reduceIte, reduceCtorEq, Nat.reduceEqDiff, Nat.reduceSub, Nat.reduceAdd] <;> rfl) (I_one _) (by simp only [I_len, II_len, upTo_len, tab_len, cnt_len, List.length_append, List.length_cons, List.length_nil, List.length_replicate]; omega) ?_
    simp only [Try.results98, go_sem, Nat.reduceMul, Nat.reduceLeDiff, Nat.reduceLT, reduceIte, reduceCtorEq, Nat.reduceEqDiff, Nat.reduceSub, Nat.reduceAdd]
    refine ⟨⟨by omega, by omega⟩, by unfold InR; omega, ⟨by omega, by omega⟩, ?_⟩
    refine ⟨_, fun _ => OpP.buildRd T_ok (I [l.getD i 0, l.getD (i + 1) 0]) rfl rfl rfl (by decide) rfl rfl rfl, (by simp only [go_sem, Nat.reduceMul, Nat.reduceLeDiff, Nat.reduceLT, reduceIte, reduceCtorEq, Nat.reduceEqDiff, Nat.reduceSub, Nat.reduceAdd]), ?_⟩
    simp only [Try.results98, go_sem, Nat.reduceMul, Nat.reduceLeDiff, Nat.reduceLT, reduceIte, reduceCtorEq, Nat.reduceEqDiff, Nat.reduceSub, Nat.reduceAdd]
    refine ⟨_, OpP.call' rfl rfl (times_spec t [l.getD i 0, l.getD (i + 1) 0] hg (app_in (one_in.2 hj1) (one_in.2 hj2)) (by simp)) (by simp only [go_sem, Nat.reduceMul, Nat.reduceLeDiff, Nat.reduceLT, reduceIte, reduceCtorEq, Nat.reduceEqDiff, Nat.reduceSub, Nat.reduceAdd, List.toList_toArray] <;> first | rfl | exact ⟨rfl, rfl⟩) rfl, ?_⟩
    simp only [Try.results98, go_sem, Nat.reduceMul, Nat.reduceLeDiff, Nat.reduceLT, reduceIte, reduceCtorEq, Nat.reduceEqDiff, Nat.reduceSub, Nat.reduceAdd]
    rw [tm_two hg hj1]
    refine ⟨_, OpP.buildRd T_ok (I [ee t (l.getD i 0).toNat (l.getD (i + 1) 0).toNat]) rfl rfl rfl (by decide) rfl (by first | rfl | (simp only [go_sem, Nat.reduceMul, Nat.reduceLeDiff, Nat.reduceLT, reduceIte, reduceCtorEq, Nat.reduceEqDiff, Nat.reduceSub, Nat.reduceAdd] <;> rfl)) rfl, ?_⟩
    simp only [Try.results98, go_sem, Nat.reduceMul, Nat.reduceLeDiff, Nat.reduceLT, reduceIte, reduceCtorEq, Nat.reduceEqDiff, Nat.reduceSub, Nat.reduceAdd]
    refine HereC.append T_ok (I [ee t (l.getD i 0).toNat (l.getD (i + 1) 0).toNat]) rfl rfl (by decide) (by simp only [go_sem, Nat.reduceMul, Nat.reduceLeDiff, Nat.reduceLT, reduceIte, reduceCtorEq, Nat.reduceEqDiff, Nat.reduceSub, Nat.reduceAdd] <;> rfl) (by decide) (by simp only [go_sem, Nat.reduceMul, Nat.reduceLeDiff, Nat.reduceLT, reduceIte, reduceCtorEq, Nat.reduceEqDiff, Nat.reduceSub, Nat.reduceAdd] <;> rfl) (by simp only [go_sem, Nat.reduceMul, Nat.reduceLeDiff, Nat.reduceLT, reduceIte, reduceCtorEq, Nat.reduceEqDiff, Nat.reduceSub, Nat.reduceAdd] <;> rfl) (I_one _) (by simp only [I_len, II_len, upTo_len, tab_len, cnt_len, List.length_append, List.length_cons, List.length_nil, List.length_replicate]; omega) ?_
    simp only [Try.results98, go_sem, Nat.reduceMul, Nat.reduceLeDiff, Nat.reduceLT, reduceIte, reduceCtorEq, Nat.reduceEqDiff, Nat.reduceSub, Nat.reduceAdd]
    refine Here.drawC T_ok [.f, .f, .f, .f, .p, .p, .p, .p, .p, .c, .p, .p, .p] [10, 11, 6, 4] (Nat.le_of_ble_eq_true rfl) mixed_ok (by kernel_rfl) (by kernel_rfl) (by kernel_rfl) (by simp only [List.mem_cons, List.not_mem_nil, or_false, forall_eq_or_imp, forall_eq, go_sem, Nat.reduceMul, Nat.reduceLeDiff, Nat.reduceLT, reduceIte, reduceCtorEq, Nat.reduceEqDiff, Nat.reduceSub, Nat.reduceAdd]) ?_
    simp only [Try.results98, go_sem, Nat.reduceMul, Nat.reduceLeDiff, Nat.reduceLT, reduceIte, reduceCtorEq, Nat.reduceEqDiff, Nat.reduceSub, Nat.reduceAdd]
    refine ⟨by unfold InR; omega, ?_⟩
    refine ⟨_, OpP.dropI T_ok (l := l) (i + 2) rfl rfl (by simp only [go_sem, Nat.reduceMul, Nat.reduceLeDiff, Nat.reduceLT, reduceIte, reduceCtorEq, Nat.reduceEqDiff, Nat.reduceSub, Nat.reduceAdd] <;> rfl) ⟨_, by simp only [Try.results98, go_sem, Nat.reduceMul, Nat.reduceLeDiff, Nat.reduceLT, reduceIte, reduceCtorEq, Nat.reduceEqDiff, Nat.reduceSub, Nat.reduceAdd]; exact ⟨rfl, by omega⟩⟩ (by omega), ?_⟩
    simp only [Try.results98, go_sem, Nat.reduceMul, Nat.reduceLeDiff, Nat.reduceLT, reduceIte, reduceCtorEq, Nat.reduceEqDiff, Nat.reduceSub, Nat.reduceAdd]
    refine HereC.append T_ok (I (l.drop (i + 2))) rfl rfl (by decide) (by simp only [go_sem, Nat.reduceMul, Nat.reduceLeDiff, Nat.reduceLT, reduceIte, reduceCtorEq, Nat.reduceEqDiff, Nat.reduceSub, Nat.reduceAdd] <;> rfl) (by decide) (by simp only [go_sem, Nat.reduceMul, Nat.reduceLeDiff, Nat.reduceLT, reduceIte, reduceCtorEq, Nat.reduceEqDiff, Nat.reduceSub, Nat.reduceAdd] <;> rfl) (by simp only [go_sem, Nat.reduceMul, Nat.reduceLeDiff, Nat.reduceLT, reduceIte, reduceCtorEq, Nat.reduceEqDiff, Nat.reduceSub, Nat.reduceAdd] <;> rfl) (I_one _) (by simp only [I_len, II_len, upTo_len, tab_len, cnt_len, List.length_append, List.length_cons, List.length_nil, List.length_replicate]; omega) ?_
    simp only [Try.results98, go_sem, Nat.reduceMul, Nat.reduceLeDiff, Nat.reduceLT, reduceIte, reduceCtorEq, Nat.reduceEqDiff, Nat.reduceSub, Nat.reduceAdd]
    rw [I_append, I_append, I_append, List.nil_append, show l.take i ++ [ee t (l.getD i 0).toNat (l.getD (i + 1) 0).toNat] ++ l.drop (i + 2) = joinL t l i from rfl]
    refine ⟨_, OpP.call' rfl rfl (at_spec t hg n v (joinL t l i) (by omega) hji (by rw [hjl, hl]; exact hvl)) (by simp only [go_sem, Nat.reduceMul, Nat.reduceLeDiff, Nat.reduceLT, reduceIte, reduceCtorEq, Nat.reduceEqDiff, Nat.reduceSub, Nat.reduceAdd, List.toList_toArray] <;> first | rfl | exact ⟨rfl, rfl⟩) rfl, ?_⟩
    simp only [Try.results98, go_sem, Nat.reduceMul, Nat.reduceLeDiff, Nat.reduceLT, reduceIte, reduceCtorEq, Nat.reduceEqDiff, Nat.reduceSub, Nat.reduceAdd]
    have hs := sgnI_or i
    have hatj := atV_in (b := t.length - 1) (l := joinL t l i) (by omega) hv
    have hsx := sg_le hs (x := atV (t.length - 1) v (joinL t l i)) (by omega)
    exact ⟨by unfold InR; omega, by unfold InR; omega, by unfold InR; omega, by unfold InR; omega, i + 1, by omega, by omega, rfl, by rw [sgnI]; omega, by push_cast; rfl⟩
  · have : i = n := by omega
    subst this
    have hs := sgnI_or i
    have hta := take_in hi i
    have htl : (l.take i).length = i := by simp; omega
    have hbi := hbd i (by omega)
    have hatj := atV_in (b := t.length - 1) (l := l.take i) (by omega) hv
    have hsx := sg_le hs (x := atV (t.length - 1) v (l.take i)) (by omega)
    refine Here.draw T_ok mixed_ok (by kernel_rfl) ?_
    simp only [Try.results98, go_sem, Nat.reduceMul, Nat.reduceLeDiff, Nat.reduceLT, reduceIte, reduceCtorEq, Nat.reduceEqDiff, Nat.reduceSub, Nat.reduceAdd]
    refine ⟨_, OpP.takeI T_ok (l := l) i rfl rfl (by simp only [go_sem, Nat.reduceMul, Nat.reduceLeDiff, Nat.reduceLT, reduceIte, reduceCtorEq, Nat.reduceEqDiff, Nat.reduceSub, Nat.reduceAdd] <;> rfl) ⟨_, (by simp only [go_sem, Nat.reduceMul, Nat.reduceLeDiff, Nat.reduceLT, reduceIte, reduceCtorEq, Nat.reduceEqDiff, Nat.reduceSub, Nat.reduceAdd] <;> rfl)⟩ (by omega), ?_⟩
    simp only [Try.results98, go_sem, Nat.reduceMul, Nat.reduceLeDiff, Nat.reduceLT, reduceIte, reduceCtorEq, Nat.reduceEqDiff, Nat.reduceSub, Nat.reduceAdd]
    refine ⟨_, OpP.call' rfl rfl (at_spec t hg i v (l.take i) (by omega) hta (by rw [htl]; exact hvl)) (by simp only [go_sem, Nat.reduceMul, Nat.reduceLeDiff, Nat.reduceLT, reduceIte, reduceCtorEq, Nat.reduceEqDiff, Nat.reduceSub, Nat.reduceAdd, List.toList_toArray] <;> first | rfl | exact ⟨rfl, rfl⟩) rfl, ?_⟩
    simp only [Try.results98, go_sem, Nat.reduceMul, Nat.reduceLeDiff, Nat.reduceLT, reduceIte, reduceCtorEq, Nat.reduceEqDiff, Nat.reduceSub, Nat.reduceAdd]
    exact ⟨by unfold InR; omega, by unfold InR; omega, rfl⟩
theorem l03Side_spec (t : List (List Int)) (hg : Grp t) (m : Int) (k : List Int) (hm : Mod t m k) (n : Nat) (v l : List Int) (hl : l.length = n + 1) (hn : n ≤ 3) (hi : AreIn t.length l) (hv : AreIn m v) (hvl : v.length = (t.length - 1) ^ n) :
    Spec Try.prog 95 [.agg [.rds (II t)], .agg [.v (.int .i64 m), .rd (I k)], .agg [.v (.int .i64 n), .rd (I v)], .rd (I l)] (.v (.int .i64 (bdV t k v l n % m))) [] := by
  have h12 := hm.1
  have hk := hm.2.1
  have hl0 := hi 0 (by omega)
  have hu := unit_at' (units_ge' hm) (x := (l.getD 0 0).toNat) (by omega)
  have hd1 : (l.drop 1).length = n := by simp; omega
  have hat := atV_in (b := t.length - 1) (l := l.drop 1) (by omega) hv
  have hp := mul_le12 (a := k.getD (l.getD 0 0).toNat 0) (b := atV (t.length - 1) v (l.drop 1)) (by omega) (by omega)
  have hbd := bdN_le hg hm hv hi (by omega)
  refine Spec.of_code T_ok Try.func95 rfl Try.ntmps95 Try.call95 (Nat.le_of_ble_eq_true rfl) rfl rfl (CodeV_sound T_ok (by kernel_rfl) rfl ?_)
  simp only [Try.results95, go_sem, Nat.reduceMul, Nat.reduceLeDiff, Nat.reduceLT, reduceIte, reduceCtorEq, Nat.reduceEqDiff, Nat.reduceSub, Nat.reduceAdd]
  rw [hl, show ((n + 1 : Nat) : Int) - 1 = (n : Int) by omega]
  refine ⟨by unfold InR; omega, ?_⟩
  refine Here.draw T_ok mixed_ok (by kernel_rfl) ?_
  simp only [Try.results95, go_sem, Nat.reduceMul, Nat.reduceLeDiff, Nat.reduceLT, reduceIte, reduceCtorEq, Nat.reduceEqDiff, Nat.reduceSub, Nat.reduceAdd]
  refine ⟨by omega, by omega, ?_⟩
  refine ⟨_, OpP.dropI T_ok (l := l) 1 rfl rfl (by simp only [go_sem, Nat.reduceMul, Nat.reduceLeDiff, Nat.reduceLT, reduceIte, reduceCtorEq, Nat.reduceEqDiff, Nat.reduceSub, Nat.reduceAdd] <;> rfl) ⟨.i64, rfl⟩ (by omega), ?_⟩
  simp only [Try.results95, go_sem, Nat.reduceMul, Nat.reduceLeDiff, Nat.reduceLT, reduceIte, reduceCtorEq, Nat.reduceEqDiff, Nat.reduceSub, Nat.reduceAdd]
  refine ⟨_, OpP.call' rfl rfl (l03At_spec t hg n v (l.drop 1) (by omega) (drop_in hi 1) (by rw [hd1]; exact hvl)) (by simp only [go_sem, Nat.reduceMul, Nat.reduceLeDiff, Nat.reduceLT, reduceIte, reduceCtorEq, Nat.reduceEqDiff, Nat.reduceSub, Nat.reduceAdd, List.toList_toArray] <;> first | rfl | exact ⟨rfl, rfl⟩) rfl, ?_⟩
  simp only [Try.results95, go_sem, Nat.reduceMul, Nat.reduceLeDiff, Nat.reduceLT, reduceIte, reduceCtorEq, Nat.reduceEqDiff, Nat.reduceSub, Nat.reduceAdd]
  refine ⟨by unfold InR; omega, ?_⟩
  refine Here.loopV T_ok (fun i => i ≤ n) (fun i => n - i) (fun i => [(3, .rd (I l)), (4, .box [.rds (II t)]), (5, .box [.v (.int .i64 m), .rd (I k)]), (6, .box [.v (.int .i64 n), .rd (I v)]), (9, .v (.int .i64 n)), (10, .v (.int .i64 (bdN t k v l i))), (11, .v (.int .i64 (sgnI i))), (12, .v (.int .i64 i))]) (fun _ => []) 0 (by simp) (by simp only [Try.results95, go_sem, Nat.reduceMul, Nat.reduceLeDiff, Nat.reduceLT, reduceIte, reduceCtorEq, Nat.reduceEqDiff, Nat.reduceSub, Nat.reduceAdd]; simp [bdN, sgnI]) trivial ?_
  intro i hin
  simp only [Try.results95, go_sem, Nat.reduceMul, Nat.reduceLeDiff, Nat.reduceLT, reduceIte, reduceCtorEq, Nat.reduceEqDiff, Nat.reduceSub, Nat.reduceAdd]
  refine ⟨fun h2 => ?_, fun h2 => ?_⟩
  · have hj1 := hi i (by omega)
    have hj2 := hi (i + 1) (by omega)
    have hti := take_in hi i
    have hjl := joinL_len (t := t) (l := l) (i := i) (by omega)
    have hji := joinL_in hg hi (i := i) (by omega)
    have hbi := hbd i (by omega)
    have hbi1 := hbd (i + 1) (by omega)
    have htl : (l.take i).length = i := by simp; omega
    have hdl : (l.drop (i + 2)).length = l.length - (i + 2) := by simp
    have hs := sgnI_or i
    have hatj := atV_in (b := t.length - 1) (l := joinL t l i) (by omega) hv
    have hsx := sg_le hs (x := atV (t.length - 1) v (joinL t l i)) (by omega)
    refine Here.drawSB T_ok [⟨3, 138, 2, I (l.take i), [], false⟩] 20 (Nat.le_of_ble_eq_true rfl) mixed_ok (by kernel_rfl) (by kernel_rfl) (by kernel_rfl) (by simp) (by simp) ?_
    simp only [Try.results95, go_sem, Nat.reduceMul, Nat.reduceLeDiff, Nat.reduceLT, reduceIte, reduceCtorEq, Nat.reduceEqDiff, Nat.reduceSub, Nat.reduceAdd]
    refine HereN.op (OpP.takeI T_ok (l := l) i rfl rfl (by simp only [go_sem, Nat.reduceMul, Nat.reduceLeDiff, Nat.reduceLT, reduceIte, reduceCtorEq, Nat.reduceEqDiff, Nat.reduceSub, Nat.reduceAdd] <;> rfl) ⟨_, (by simp only [go_sem, Nat.reduceMul, Nat.reduceLeDiff, Nat.reduceLT, reduceIte, reduceCtorEq, Nat.reduceEqDiff, Nat.reduceSub, Nat.reduceAdd] <;> rfl)⟩ (by omega)) (by simp only [Try.results95, go_sem, Nat.reduceMul, Nat.reduceLeDiff, Nat.reduceLT, reduceIte, reduceCtorEq, Nat.reduceEqDiff, Nat.reduceSub, Nat.reduceAdd]) ?_
    simp only [Try.results95, go_sem, Nat.reduceMul, Nat.reduceLeDiff, Nat.reduceLT, reduceIte, reduceCtorEq, Nat.reduceEqDiff, Nat.reduceSub, Nat.reduceAdd]
    refine HereN.birth (List.mem_cons_self ..) rfl rfl (OpN.call rfl rfl (l01Own_spec (l.take i) (by omega)) (by simp only [go_sem, Nat.reduceMul, Nat.reduceLeDiff, Nat.reduceLT, reduceIte, reduceCtorEq, Nat.reduceEqDiff, Nat.reduceSub, Nat.reduceAdd, List.toList_toArray] <;> first | rfl | exact ⟨rfl, rfl⟩)) (by simp only [Try.results95, go_sem, Nat.reduceMul, Nat.reduceLeDiff, Nat.reduceLT, reduceIte, reduceCtorEq, Nat.reduceEqDiff, Nat.reduceSub, Nat.reduceAdd]) ?_
    simp only [Try.results95, go_sem, Nat.reduceMul, Nat.reduceLeDiff, Nat.reduceLT, reduceIte, reduceCtorEq, Nat.reduceEqDiff, Nat.reduceSub, Nat.reduceAdd]
    rw [show ((i : Int) + 1).toNat = i + 1 by omega]
    have hrl := (hg.2.2.1 (l.getD i 0).toNat (by omega)).1
    refine ⟨⟨by omega, by omega⟩, hj1, by unfold InR; omega, ⟨by omega, by omega⟩, ⟨by omega, by omega⟩, ?_⟩
    refine HereN.op (OpP.buildRd T_ok (I [ee t (l.getD i 0).toNat (l.getD (i + 1) 0).toNat]) rfl rfl rfl (by decide) rfl rfl rfl) (by simp only [Try.results95, go_sem, Nat.reduceMul, Nat.reduceLeDiff, Nat.reduceLT, reduceIte, reduceCtorEq, Nat.reduceEqDiff, Nat.reduceSub, Nat.reduceAdd]) ?_
    simp only [Try.results95, go_sem, Nat.reduceMul, Nat.reduceLeDiff, Nat.reduceLT, reduceIte, reduceCtorEq, Nat.reduceEqDiff, Nat.reduceSub, Nat.reduceAdd]
    refine HereE.of (Conv.born (id := 138) (e := 2) (vs := I (l.take i)) 38 rfl (by simp only [Try.results95, go_sem, Nat.reduceMul, Nat.reduceLeDiff, Nat.reduceLT, reduceIte, reduceCtorEq, Nat.reduceEqDiff, Nat.reduceSub, Nat.reduceAdd])) ?_
    simp only [Try.results95, go_sem, Nat.reduceMul, Nat.reduceLeDiff, Nat.reduceLT, reduceIte, reduceCtorEq, Nat.reduceEqDiff, Nat.reduceSub, Nat.reduceAdd]
    refine HereO.append T_ok (I [ee t (l.getD i 0).toNat (l.getD (i + 1) 0).toNat]) rfl rfl (by decide) (by simp only [go_sem, Nat.reduceMul, Nat.reduceLeDiff, Nat.reduceLT, reduceIte, reduceCtorEq, Nat.reduceEqDiff, Nat.reduceSub, Nat.reduceAdd] <;> rfl) (by decide) (by simp only [go_sem, Nat.reduceMul, Nat.reduceLeDiff, Nat.reduceLT, reduceIte, reduceCtorEq, Nat.reduceEqDiff, Nat.reduceSub, Nat.reduceAdd] <;> rfl) (by simp only [go_sem, Nat.reduceMul, Nat.reduceLeDiff, Nat.reduceLT, reduceIte, reduceCtorEq, Nat.reduceEqDiff, Nat.reduceSub, Nat.reduceAdd] <;> rfl) (.rd _) (I_one _) (by simp only [I_len, II_len, upTo_len, tab_len, cnt_len, List.length_append, List.length_cons, List.length_nil, List.length_replicate]; omega) ?_
    simp only [Try.results95, go_sem, Nat.reduceMul, Nat.reduceLeDiff, Nat.reduceLT, reduceIte, reduceCtorEq, Nat.reduceEqDiff, Nat.reduceSub, Nat.reduceAdd]
    refine ⟨by unfold InR; omega, ?_⟩
    refine HereO.opP T_ok (OpP.dropI T_ok (l := l) (i + 2) rfl rfl (by simp only [go_sem, Nat.reduceMul, Nat.reduceLeDiff, Nat.reduceLT, reduceIte, reduceCtorEq, Nat.reduceEqDiff, Nat.reduceSub, Nat.reduceAdd] <;> rfl) ⟨_, by simp only [Try.results95, go_sem, Nat.reduceMul, Nat.reduceLeDiff, Nat.reduceLT, reduceIte, reduceCtorEq, Nat.reduceEqDiff, Nat.reduceSub, Nat.reduceAdd]; exact ⟨rfl, by omega⟩⟩ (by omega)) ?_
    simp only [Try.results95, go_sem, Nat.reduceMul, Nat.reduceLeDiff, Nat.reduceLT, reduceIte, reduceCtorEq, Nat.reduceEqDiff, Nat.reduceSub, Nat.reduceAdd]
    refine HereO.append T_ok (I (l.drop (i + 2))) rfl rfl (by decide) (by simp only [go_sem, Nat.reduceMul, Nat.reduceLeDiff, Nat.reduceLT, reduceIte, reduceCtorEq, Nat.reduceEqDiff, Nat.reduceSub, Nat.reduceAdd] <;> rfl) (by decide) (by simp only [go_sem, Nat.reduceMul, Nat.reduceLeDiff, Nat.reduceLT, reduceIte, reduceCtorEq, Nat.reduceEqDiff, Nat.reduceSub, Nat.reduceAdd] <;> rfl) (by simp only [go_sem, Nat.reduceMul, Nat.reduceLeDiff, Nat.reduceLT, reduceIte, reduceCtorEq, Nat.reduceEqDiff, Nat.reduceSub, Nat.reduceAdd] <;> rfl) (.rd _) (I_one _) (by simp only [I_len, II_len, upTo_len, tab_len, cnt_len, List.length_append, List.length_cons, List.length_nil, List.length_replicate]; omega) ?_
    simp only [Try.results95, go_sem, Nat.reduceMul, Nat.reduceLeDiff, Nat.reduceLT, reduceIte, reduceCtorEq, Nat.reduceEqDiff, Nat.reduceSub, Nat.reduceAdd]
    rw [I_append, I_append, show l.take i ++ [ee t (l.getD i 0).toNat (l.getD (i + 1) 0).toNat] ++ l.drop (i + 2) = joinL t l i from rfl]
    refine HereO.call T_ok rfl rfl (l03At_spec t hg n v (joinL t l i) (by omega) hji (by rw [hjl, hl]; exact hvl)) (by simp only [go_sem, Nat.reduceMul, Nat.reduceLeDiff, Nat.reduceLT, reduceIte, reduceCtorEq, Nat.reduceEqDiff, Nat.reduceSub, Nat.reduceAdd, List.toList_toArray] <;> first | rfl | exact ⟨rfl, rfl⟩) rfl ?_
    simp only [Try.results95, go_sem, Nat.reduceMul, Nat.reduceLeDiff, Nat.reduceLT, reduceIte, reduceCtorEq, Nat.reduceEqDiff, Nat.reduceSub, Nat.reduceAdd]
    exact ⟨by unfold InR; omega, by unfold InR; omega, by unfold InR; omega, by unfold InR; omega, i + 1, by omega, by omega, rfl, by rw [sgnI]; omega, by push_cast; rfl⟩
  · have : i = n := by omega
    subst this
    have hs := sgnI_or i
    have hta := take_in hi i
    have htl : (l.take i).length = i := by simp; omega
    have hbi := hbd i (by omega)
    have hatj := atV_in (b := t.length - 1) (l := l.take i) (by omega) hv
    have hsx := sg_le hs (x := atV (t.length - 1) v (l.take i)) (by omega)
    refine Here.draw T_ok mixed_ok (by kernel_rfl) ?_
    simp only [Try.results95, go_sem, Nat.reduceMul, Nat.reduceLeDiff, Nat.reduceLT, reduceIte, reduceCtorEq, Nat.reduceEqDiff, Nat.reduceSub, Nat.reduceAdd]
    refine ⟨_, OpP.takeI T_ok (l := l) i rfl rfl (by simp only [go_sem, Nat.reduceMul, Nat.reduceLeDiff, Nat.reduceLT, reduceIte, reduceCtorEq, Nat.reduceEqDiff, Nat.reduceSub, Nat.reduceAdd] <;> rfl) ⟨_, (by simp only [go_sem, Nat.reduceMul, Nat.reduceLeDiff, Nat.reduceLT, reduceIte, reduceCtorEq, Nat.reduceEqDiff, Nat.reduceSub, Nat.reduceAdd] <;> rfl)⟩ (by omega), ?_⟩
    simp only [Try.results95, go_sem, Nat.reduceMul, Nat.reduceLeDiff, Nat.reduceLT, reduceIte, reduceCtorEq, Nat.reduceEqDiff, Nat.reduceSub, Nat.reduceAdd]
    refine ⟨_, OpP.call' rfl rfl (l03At_spec t hg i v (l.take i) (by omega) hta (by rw [htl]; exact hvl)) (by simp only [go_sem, Nat.reduceMul, Nat.reduceLeDiff, Nat.reduceLT, reduceIte, reduceCtorEq, Nat.reduceEqDiff, Nat.reduceSub, Nat.reduceAdd, List.toList_toArray] <;> first | rfl | exact ⟨rfl, rfl⟩) rfl, ?_⟩
    simp only [Try.results95, go_sem, Nat.reduceMul, Nat.reduceLeDiff, Nat.reduceLT, reduceIte, reduceCtorEq, Nat.reduceEqDiff, Nat.reduceSub, Nat.reduceAdd]
    refine ⟨by unfold InR; omega, by unfold InR; omega, ?_⟩
    refine ⟨_, OpP.call' rfl rfl (l01Mod12_spec (bdV t k v l i) m (by omega) (by omega) (by unfold bdV; omega)) (by simp only [go_sem, Nat.reduceMul, Nat.reduceLeDiff, Nat.reduceLT, reduceIte, reduceCtorEq, Nat.reduceEqDiff, Nat.reduceSub, Nat.reduceAdd, List.toList_toArray] <;> first | rfl | exact ⟨rfl, rfl⟩) rfl, ?_⟩
    simp only [Try.results95, go_sem, Nat.reduceMul, Nat.reduceLeDiff, Nat.reduceLT, reduceIte, reduceCtorEq, Nat.reduceEqDiff, Nat.reduceSub, Nat.reduceAdd]
theorem bd1_spec (t : List (List Int)) (hg : Grp t) (m : Int) (k : List Int) (hm : Mod t m k) (n : Nat) (v l : List Int) (hl : l.length = n + 1) (hn : n ≤ 3) (hi : AreIn t.length l) (hv : AreIn m v) (hvl : v.length = (t.length - 1) ^ n) :
    Spec Try.prog 97 [.rd (I l), .box [.rds (II t)], .box [.v (.int .i64 m), .rd (I k)], .box [.v (.int .i64 n), .rd (I v)]] (.v (.int .i64 (bdV t k v l n))) [] := by
  refine Spec.of_code T_ok Try.func97 rfl Try.ntmps97 Try.call97 (Nat.le_of_ble_eq_true rfl) rfl rfl (CodeV_sound T_ok (by kernel_rfl) rfl ?_)
  simp only [Try.results97, go_sem, Nat.reduceMul, Nat.reduceLeDiff, Nat.reduceLT, reduceIte, reduceCtorEq, Nat.reduceEqDiff, Nat.reduceSub, Nat.reduceAdd]
  refine HereO.call T_ok rfl rfl (boundaryAt_spec t hg m k hm n v l hl hn hi hv hvl) (by simp only [go_sem, Nat.reduceMul, Nat.reduceLeDiff, Nat.reduceLT, reduceIte, reduceCtorEq, Nat.reduceEqDiff, Nat.reduceSub, Nat.reduceAdd, List.toList_toArray] <;> first | rfl | exact ⟨rfl, rfl⟩) rfl ?_
  simp only [Try.results97, go_sem, Nat.reduceMul, Nat.reduceLeDiff, Nat.reduceLT, reduceIte, reduceCtorEq, Nat.reduceEqDiff, Nat.reduceSub, Nat.reduceAdd]
def bdL (t : List (List Int)) (m : Int) (k v : List Int) (n : Nat) : List Int := upTo (fun i => bdV t k v (lst (t.length - 1) (n + 1) i) n % m) ((t.length - 1) ^ (n + 1))
theorem bdV_le {t : List (List Int)} (hg : Grp t) {m : Int} {k : List Int} (hm : Mod t m k) {v l : List Int} (hv : AreIn m v) (hl : AreIn t.length l) {n : Nat} (hn : l.length = n + 1) (h3 : n ≤ 3) : -1000000 ≤ bdV t k v l n ∧ bdV t k v l n ≤ 1000000 := by
  have h12 := hm.1
  have h1 := bdN_le hg hm hv hl (by omega) n (by omega)
  have h2 := atV_in (b := t.length - 1) (l := l.take n) (by omega) hv
  have h3 := sg_le (sgnI_or n) (x := atV (t.length - 1) v (l.take n)) (by omega)
  unfold bdV
  omega
theorem boundary_spec (t : List (List Int)) (hg : Grp t) (m : Int) (k : List Int) (hm : Mod t m k) (n : Nat) (v : List Int) (hn : n ≤ 3) (hv : AreIn m v) (hvl : v.length = (t.length - 1) ^ n) :
    Spec Try.prog 74 [.agg [.rds (II t)], .agg [.v (.int .i64 m), .rd (I k)], .agg [.v (.int .i64 n), .rd (I v)]] (.agg [.v (.int .i64 ((n + 1 : Nat) : Int)), .own 0]) [.row 2 (I (bdL t m k v n))] := by
  unfold bdL
  refine Spec.of_code T_ok Try.func74 rfl Try.ntmps74 Try.call74 (Nat.le_of_ble_eq_true rfl) rfl rfl (CodeV_sound T_ok (by kernel_rfl) rfl ?_)
  simp only [Try.results74, go_sem, Nat.reduceMul, Nat.reduceLeDiff, Nat.reduceLT, reduceIte, reduceCtorEq, Nat.reduceEqDiff, Nat.reduceSub, Nat.reduceAdd]
  refine HereO.alloc T_ok 106 rfl rfl (by decide) ?_
  simp only [Try.results74, go_sem, Nat.reduceMul, Nat.reduceLeDiff, Nat.reduceLT, reduceIte, reduceCtorEq, Nat.reduceEqDiff, Nat.reduceSub, Nat.reduceAdd]
  refine ⟨by unfold InR; omega, ?_⟩
  rw [show (n : Int) + 1 = ((n + 1 : Nat) : Int) by push_cast; rfl]
  have hL : ∀ i, i < (t.length - 1) ^ (n + 1) → AreIn t.length (lst (t.length - 1) (n + 1) i) := fun i hi => lst_in hg.1 (n + 1) i (pow_two hi)
  refine HereO.callOwn T_ok 14 rfl rfl (told_spec t hg m hm.1 (n + 1) (by omega) 97 [.box [.rds (II t)], .box [.v (.int .i64 m), .rd (I k)], .box [.v (.int .i64 n), .rd (I v)]] (Fix.cons (Fix.box (Fix.rds _)) (Fix.cons (Fix.box (Fix.cons (Fix.v _) (Fix.rd _))) (Fix.box (Fix.cons (Fix.v _) (Fix.rd _))))) (fun i => bdV t k v (lst (t.length - 1) (n + 1) i) n) (fun i hi => bd1_spec t hg m k hm n v _ (lst_len ..) hn (hL i hi) hv hvl) (fun i hi => bdV_le hg hm hv (hL i hi) (lst_len ..) hn)) (by simp only [go_sem, Nat.reduceMul, Nat.reduceLeDiff, Nat.reduceLT, reduceIte, reduceCtorEq, Nat.reduceEqDiff, Nat.reduceSub, Nat.reduceAdd, List.toList_toArray] <;> first | rfl | exact ⟨rfl, rfl⟩) rfl (by simp) rfl ?_
  simp only [Try.results74, go_sem, Nat.reduceMul, Nat.reduceLeDiff, Nat.reduceLT, reduceIte, reduceCtorEq, Nat.reduceEqDiff, Nat.reduceSub, Nat.reduceAdd]
  refine HereO.storeAgg T_ok rfl (by simp only [go_sem, Nat.reduceMul, Nat.reduceLeDiff, Nat.reduceLT, reduceIte, reduceCtorEq, Nat.reduceEqDiff, Nat.reduceSub, Nat.reduceAdd] <;> rfl) (by simp only [go_sem, Nat.reduceMul, Nat.reduceLeDiff, Nat.reduceLT, reduceIte, reduceCtorEq, Nat.reduceEqDiff, Nat.reduceSub, Nat.reduceAdd] <;> rfl) rfl (by simp only [go_sem, Nat.reduceMul, Nat.reduceLeDiff, Nat.reduceLT, reduceIte, reduceCtorEq, Nat.reduceEqDiff, Nat.reduceSub, Nat.reduceAdd] <;> rfl) (by first | rfl | (simp only [go_sem, Nat.reduceMul, Nat.reduceLeDiff, Nat.reduceLT, reduceIte, reduceCtorEq, Nat.reduceEqDiff, Nat.reduceSub, Nat.reduceAdd] <;> rfl)) rfl rfl ?_
  simp only [Try.results74, go_sem, Nat.reduceMul, Nat.reduceLeDiff, Nat.reduceLT, reduceIte, reduceCtorEq, Nat.reduceEqDiff, Nat.reduceSub, Nat.reduceAdd]
  refine RetT.one 1224 (by simp only [Try.results74, go_sem, Nat.reduceMul, Nat.reduceLeDiff, Nat.reduceLT, reduceIte, reduceCtorEq, Nat.reduceEqDiff, Nat.reduceSub, Nat.reduceAdd]; rfl) rfl ?_
  simp only [Try.results74, go_sem, Nat.reduceMul, Nat.reduceLeDiff, Nat.reduceLT, reduceIte, reduceCtorEq, Nat.reduceEqDiff, Nat.reduceSub, Nat.reduceAdd]
theorem l03Boundary_spec (t : List (List Int)) (hg : Grp t) (m : Int) (k : List Int) (hm : Mod t m k) (n : Nat) (v : List Int) (hn : n ≤ 3) (hv : AreIn m v) (hvl : v.length = (t.length - 1) ^ n) :
    Spec Try.prog 73 [.agg [.rds (II t)], .agg [.v (.int .i64 m), .rd (I k)], .agg [.v (.int .i64 n), .rd (I v)]] (.agg [.v (.int .i64 ((n + 1 : Nat) : Int)), .own 0]) [.row 2 (I (bdL t m k v n))] := by
  have h1 := hg.1
  have h8 := hg.2.1
  have hN := pow7 (b := t.length - 1) (by omega) (j := n + 1) (by omega)
  have hcells := l03Cells4_spec t hg (n + 1) (by omega)
  unfold bdL
  generalize hNe : (t.length - 1) ^ (n + 1) = N at *
  refine Spec.of_code T_ok Try.func73 rfl Try.ntmps73 Try.call73 (Nat.le_of_ble_eq_true rfl) rfl rfl (CodeV_sound T_ok (by kernel_rfl) rfl ?_)
  simp only [Try.results73, go_sem, Nat.reduceMul, Nat.reduceLeDiff, Nat.reduceLT, reduceIte, reduceCtorEq, Nat.reduceEqDiff, Nat.reduceSub, Nat.reduceAdd]
  refine HereO.alloc T_ok 106 rfl rfl (by decide) ?_
  simp only [Try.results73, go_sem, Nat.reduceMul, Nat.reduceLeDiff, Nat.reduceLT, reduceIte, reduceCtorEq, Nat.reduceEqDiff, Nat.reduceSub, Nat.reduceAdd]
  refine ⟨by unfold InR; omega, ?_⟩
  rw [show (n : Int) + 1 = ((n + 1 : Nat) : Int) by push_cast; rfl]
  refine HereO.buildRow T_ok 120 (I []) rfl rfl rfl (by decide) rfl (by first | rfl | (simp only [go_sem, Nat.reduceMul, Nat.reduceLeDiff, Nat.reduceLT, reduceIte, reduceCtorEq, Nat.reduceEqDiff, Nat.reduceSub, Nat.reduceAdd] <;> rfl)) rfl (by decide) ?_
  simp only [Try.results73, go_sem, Nat.reduceMul, Nat.reduceLeDiff, Nat.reduceLT, reduceIte, reduceCtorEq, Nat.reduceEqDiff, Nat.reduceSub, Nat.reduceAdd]
  refine HereO.opP T_ok (OpP.build built_44 rfl rfl rfl rfl) ?_
  simp only [Try.results73, go_sem, Nat.reduceMul, Nat.reduceLeDiff, Nat.reduceLT, reduceIte, reduceCtorEq, Nat.reduceEqDiff, Nat.reduceSub, Nat.reduceAdd]
  refine HereO.alloc T_ok 108 rfl rfl (by decide) ?_
  simp only [Try.results73, go_sem, Nat.reduceMul, Nat.reduceLeDiff, Nat.reduceLT, reduceIte, reduceCtorEq, Nat.reduceEqDiff, Nat.reduceSub, Nat.reduceAdd]
  refine HereO.storeAgg T_ok rfl (by simp only [go_sem, Nat.reduceMul, Nat.reduceLeDiff, Nat.reduceLT, reduceIte, reduceCtorEq, Nat.reduceEqDiff, Nat.reduceSub, Nat.reduceAdd] <;> rfl) (by simp only [go_sem, Nat.reduceMul, Nat.reduceLeDiff, Nat.reduceLT, reduceIte, reduceCtorEq, Nat.reduceEqDiff, Nat.reduceSub, Nat.reduceAdd] <;> rfl) rfl (by simp only [go_sem, Nat.reduceMul, Nat.reduceLeDiff, Nat.reduceLT, reduceIte, reduceCtorEq, Nat.reduceEqDiff, Nat.reduceSub, Nat.reduceAdd] <;> rfl) (by first | rfl | (simp only [go_sem, Nat.reduceMul, Nat.reduceLeDiff, Nat.reduceLT, reduceIte, reduceCtorEq, Nat.reduceEqDiff, Nat.reduceSub, Nat.reduceAdd] <;> rfl)) rfl rfl ?_
  simp only [Try.results73, go_sem, Nat.reduceMul, Nat.reduceLeDiff, Nat.reduceLT, reduceIte, reduceCtorEq, Nat.reduceEqDiff, Nat.reduceSub, Nat.reduceAdd]
  refine Here.loopV T_ok (fun i => i ≤ N) (fun i => N - i) (fun i => [(3, .box [.rds (II t)]), (4, .box [.v (.int .i64 m), .rd (I k)]), (5, .box [.v (.int .i64 n), .rd (I v)]), (6, .ptr 106 0), (7, .v (.int .i64 ((n + 1 : Nat) : Int))), (8, .ptr 108 0), (9, .v (.int .i64 i))]) (fun i => [(106, .cells 44 [.v (.int .i64 0), .v nilV]), (108, .cells 44 [.v (.int .i64 ((n + 1 : Nat) : Int)), .own 120]), (120, .row 2 (I (upTo (fun i => bdV t k v (lst (t.length - 1) (n + 1) i) n % m) i)))]) 0 (by simp) (by simp only [Try.results73, go_sem, Nat.reduceMul, Nat.reduceLeDiff, Nat.reduceLT, reduceIte, reduceCtorEq, Nat.reduceEqDiff, Nat.reduceSub, Nat.reduceAdd]; simp) (by simp only [Try.results73, go_sem, Nat.reduceMul, Nat.reduceLeDiff, Nat.reduceLT, reduceIte, reduceCtorEq, Nat.reduceEqDiff, Nat.reduceSub, Nat.reduceAdd]; simp [upTo, I, nilV]) ?_
  intro i hi
  simp only [Try.results73, go_sem, Nat.reduceMul, Nat.reduceLeDiff, Nat.reduceLT, reduceIte, reduceCtorEq, Nat.reduceEqDiff, Nat.reduceSub, Nat.reduceAdd]
  refine HereO.call T_ok rfl rfl (hcells) (by simp only [go_sem, Nat.reduceMul, Nat.reduceLeDiff, Nat.reduceLT, reduceIte, reduceCtorEq, Nat.reduceEqDiff, Nat.reduceSub, Nat.reduceAdd, List.toList_toArray] <;> first | rfl | exact ⟨rfl, rfl⟩) rfl ?_
  simp only [Try.results73, go_sem, Nat.reduceMul, Nat.reduceLeDiff, Nat.reduceLT, reduceIte, reduceCtorEq, Nat.reduceEqDiff, Nat.reduceSub, Nat.reduceAdd]
  refine ⟨fun h2 => ?_, fun h2 => ?_⟩
  · have hiN : i < N := by omega
    have hLi := lst_in h1 (n + 1) i (pow_two (by rw [hNe]; exact hiN))
    refine Here.drawS T_ok 11 (Nat.le_of_ble_eq_true rfl) mixed_ok (by kernel_rfl) (by kernel_rfl) ?_
    simp only [Try.results73, go_sem, Nat.reduceMul, Nat.reduceLeDiff, Nat.reduceLT, reduceIte, reduceCtorEq, Nat.reduceEqDiff, Nat.reduceSub, Nat.reduceAdd]
    refine ⟨_, OpP.call' rfl rfl (l03List_spec t h1 h8 (n + 1) i (by omega) (pow_two (by rw [hNe]; exact hiN)) (by omega)) (by simp only [go_sem, Nat.reduceMul, Nat.reduceLeDiff, Nat.reduceLT, reduceIte, reduceCtorEq, Nat.reduceEqDiff, Nat.reduceSub, Nat.reduceAdd, List.toList_toArray] <;> first | rfl | exact ⟨rfl, rfl⟩) rfl, ?_⟩
    simp only [Try.results73, go_sem, Nat.reduceMul, Nat.reduceLeDiff, Nat.reduceLT, reduceIte, reduceCtorEq, Nat.reduceEqDiff, Nat.reduceSub, Nat.reduceAdd]
    refine ⟨_, OpP.call' rfl rfl (l03Side_spec t hg m k hm n v (lst (t.length - 1) (n + 1) i) (lst_len ..) hn hLi hv hvl) (by simp only [go_sem, Nat.reduceMul, Nat.reduceLeDiff, Nat.reduceLT, reduceIte, reduceCtorEq, Nat.reduceEqDiff, Nat.reduceSub, Nat.reduceAdd, List.toList_toArray] <;> first | rfl | exact ⟨rfl, rfl⟩) rfl, ?_⟩
    simp only [Try.results73, go_sem, Nat.reduceMul, Nat.reduceLeDiff, Nat.reduceLT, reduceIte, reduceCtorEq, Nat.reduceEqDiff, Nat.reduceSub, Nat.reduceAdd]
    refine ⟨_, OpP.buildRd T_ok (I [bdV t k v (lst (t.length - 1) (n + 1) i) n % m]) rfl rfl rfl (by decide) rfl (by first | rfl | (simp only [go_sem, Nat.reduceMul, Nat.reduceLeDiff, Nat.reduceLT, reduceIte, reduceCtorEq, Nat.reduceEqDiff, Nat.reduceSub, Nat.reduceAdd] <;> rfl)) rfl, ?_⟩
    simp only [Try.results73, go_sem, Nat.reduceMul, Nat.reduceLeDiff, Nat.reduceLT, reduceIte, reduceCtorEq, Nat.reduceEqDiff, Nat.reduceSub, Nat.reduceAdd]
    refine HereO.append T_ok (I [bdV t k v (lst (t.length - 1) (n + 1) i) n % m]) rfl rfl (by decide) (by simp only [go_sem, Nat.reduceMul, Nat.reduceLeDiff, Nat.reduceLT, reduceIte, reduceCtorEq, Nat.reduceEqDiff, Nat.reduceSub, Nat.reduceAdd] <;> rfl) (by decide) (by simp only [go_sem, Nat.reduceMul, Nat.reduceLeDiff, Nat.reduceLT, reduceIte, reduceCtorEq, Nat.reduceEqDiff, Nat.reduceSub, Nat.reduceAdd] <;> rfl) (by simp only [go_sem, Nat.reduceMul, Nat.reduceLeDiff, Nat.reduceLT, reduceIte, reduceCtorEq, Nat.reduceEqDiff, Nat.reduceSub, Nat.reduceAdd] <;> rfl) (.rd _) (I_one _) (by simp only [I_len, II_len, upTo_len, tab_len, cnt_len, List.length_append, List.length_cons, List.length_nil, List.length_replicate]; omega) ?_
    simp only [Try.results73, go_sem, Nat.reduceMul, Nat.reduceLeDiff, Nat.reduceLT, reduceIte, reduceCtorEq, Nat.reduceEqDiff, Nat.reduceSub, Nat.reduceAdd]
    refine HereO.store T_ok rfl (by simp only [go_sem, Nat.reduceMul, Nat.reduceLeDiff, Nat.reduceLT, reduceIte, reduceCtorEq, Nat.reduceEqDiff, Nat.reduceSub, Nat.reduceAdd] <;> rfl) (by simp only [go_sem, Nat.reduceMul, Nat.reduceLeDiff, Nat.reduceLT, reduceIte, reduceCtorEq, Nat.reduceEqDiff, Nat.reduceSub, Nat.reduceAdd] <;> rfl) rfl (by simp only [go_sem, Nat.reduceMul, Nat.reduceLeDiff, Nat.reduceLT, reduceIte, reduceCtorEq, Nat.reduceEqDiff, Nat.reduceSub, Nat.reduceAdd] <;> rfl) rfl (by first | rfl | (simp only [go_sem, Nat.reduceMul, Nat.reduceLeDiff, Nat.reduceLT, reduceIte, reduceCtorEq, Nat.reduceEqDiff, Nat.reduceSub, Nat.reduceAdd] <;> rfl)) (Nat.le_of_ble_eq_true rfl) ?_
    simp only [Try.results73, go_sem, Nat.reduceMul, Nat.reduceLeDiff, Nat.reduceLT, reduceIte, reduceCtorEq, Nat.reduceEqDiff, Nat.reduceSub, Nat.reduceAdd]
    rw [I_append]
    refine ⟨by unfold InR; omega, i + 1, by omega, by omega, by push_cast; rfl, ?_⟩
    rw [upTo_succ]
  · have : i = N := by omega
    subst this
    refine HereO.storeAgg T_ok rfl (by simp only [go_sem, Nat.reduceMul, Nat.reduceLeDiff, Nat.reduceLT, reduceIte, reduceCtorEq, Nat.reduceEqDiff, Nat.reduceSub, Nat.reduceAdd] <;> rfl) (by simp only [go_sem, Nat.reduceMul, Nat.reduceLeDiff, Nat.reduceLT, reduceIte, reduceCtorEq, Nat.reduceEqDiff, Nat.reduceSub, Nat.reduceAdd] <;> rfl) rfl (by simp only [go_sem, Nat.reduceMul, Nat.reduceLeDiff, Nat.reduceLT, reduceIte, reduceCtorEq, Nat.reduceEqDiff, Nat.reduceSub, Nat.reduceAdd] <;> rfl) (by first | rfl | (simp only [go_sem, Nat.reduceMul, Nat.reduceLeDiff, Nat.reduceLT, reduceIte, reduceCtorEq, Nat.reduceEqDiff, Nat.reduceSub, Nat.reduceAdd] <;> rfl)) rfl rfl ?_
    simp only [Try.results73, go_sem, Nat.reduceMul, Nat.reduceLeDiff, Nat.reduceLT, reduceIte, reduceCtorEq, Nat.reduceEqDiff, Nat.reduceSub, Nat.reduceAdd]
    refine RetT.one 120 (by simp only [Try.results73, go_sem, Nat.reduceMul, Nat.reduceLeDiff, Nat.reduceLT, reduceIte, reduceCtorEq, Nat.reduceEqDiff, Nat.reduceSub, Nat.reduceAdd]; rfl) rfl ?_
    simp only [Try.results73, go_sem, Nat.reduceMul, Nat.reduceLeDiff, Nat.reduceLT, reduceIte, reduceCtorEq, Nat.reduceEqDiff, Nat.reduceSub, Nat.reduceAdd]
theorem run_field_coc (a b : Value) (w : World) : (Instr.field 44 (.agg #[a, b]) 1).run Try.prog w = .ok b w := by
  simp [Instr.field, Try.runUnderlying44, part, asAgg, Try.sizeOf31]
theorem OpP.field_coc {o : Oper} {ρ : Operand → LV} {σ : Nat → Option OC} {x : Operand} {a b : LV} (ho : o.op = .field 44 x 1) (hx : ρ x = .agg [a, b]) : OpP Try.prog o ρ σ b := by
  intro w0 w ι fp s f hI hσ hρ
  have hv := hI.ev x
  rw [hρ x (by simp [ho, Op.operands]), hx] at hv
  simp only [LRel, LRels] at hv
  obtain ⟨ys, hy, y1, r1, rfl, h1, y2, r2, rfl, h2, rfl⟩ := hv
  have hr : (execOp (evV f) o).run Try.prog w = .ok (.value y2) w := by
    simp only [execOp, ho, hy, Sem.run_bind, run_field_coc, Result.andThen_ok, Sem.run_pure]
  rw [hr]
  exact .value _ s _ w ι fp hI h2 ⟨rfl, rfl⟩
def allZ (l : List Int) : Prop := ∀ j, j < l.length → l.getD j 0 = 0
instance (l : List Int) : Decidable (allZ l) := by unfold allZ; exact Nat.decidableBallLT _ _
def bdC (t : List (List Int)) (m : Int) (l : List Int) (d : Int) (v : List Int) : Int := if codeC t m l [(d, v)] = 0 then (if d = 3 then 2 else 0) else 1
def bdD (t : List (List Int)) (m : Int) (l : List Int) (d : Int) (v : List Int) : Int := if bdC t m l d v = 0 then d + 1 else 0
def bdR (t : List (List Int)) (m : Int) (l : List Int) (d : Int) (v : List Int) : List Int := if bdC t m l d v = 0 then bdL t m l v d.toNat else []
theorem bdR_ok (t : List (List Int)) (m : Int) (l : List Int) (d : Int) (v : List Int) : (bdR t m l d v).length ≤ 1048576 := by
  unfold bdR
  split
  · rename_i h
    unfold bdC at h
    split at h
    · rename_i hc
      obtain ⟨hg, hm, hf⟩ := codeC_ok hc
      have := Coc_deg (Cocs1.1 hf)
      have := pow7 (b := t.length - 1) (by have := hg.2.1; omega) (j := d.toNat + 1) (by omega)
      unfold bdL
      rw [upTo_len]
      omega
    · omega
  · simp
theorem implBoundaryOf (t : List (List Int)) (m : Int) (l : List Int) (d : Int) (v : List Int) :
    Spec Try.prog 38 [.agg [.rds (II t)], .agg [.v (.int .i64 m), .rd (I l)], .agg [.v (.int .i64 d), .rd (I v)]] (.tup [.agg [.v (.int .i64 (bdD t m l d v)), .own 0], .v (.int .i64 (bdC t m l d v))]) [.row 2 (I (bdR t m l d v))] := by
  refine Spec.of_codeC T_ok Try.func38 rfl Try.ntmps38 Try.call38 (Nat.le_of_ble_eq_true rfl) rfl rfl (CodeV_sound T_ok (by kernel_rfl) rfl ?_)
  simp only [Try.results38, go_sem, Nat.reduceMul, Nat.reduceLeDiff, Nat.reduceLT, reduceIte, reduceCtorEq, Nat.reduceEqDiff, Nat.reduceSub, Nat.reduceAdd]
  refine HereO.alloc T_ok 106 rfl rfl (by decide) ?_
  simp only [Try.results38, go_sem, Nat.reduceMul, Nat.reduceLeDiff, Nat.reduceLT, reduceIte, reduceCtorEq, Nat.reduceEqDiff, Nat.reduceSub, Nat.reduceAdd]
  refine HereO.opP T_ok (OpP.buildA sl2_94 (MM [(d, v)]) rfl rfl (by decide) (by decide) rfl rfl) ?_
  simp only [Try.results38, go_sem, Nat.reduceMul, Nat.reduceLeDiff, Nat.reduceLT, reduceIte, reduceCtorEq, Nat.reduceEqDiff, Nat.reduceSub, Nat.reduceAdd]
  refine HereO.call T_ok rfl rfl (cochainCode_spec t m l [(d, v)] (by simp)) (by simp only [go_sem, Nat.reduceMul, Nat.reduceLeDiff, Nat.reduceLT, reduceIte, reduceCtorEq, Nat.reduceEqDiff, Nat.reduceSub, Nat.reduceAdd, List.toList_toArray] <;> first | rfl | exact ⟨rfl, rfl⟩) rfl ?_
  simp only [Try.results38, go_sem, Nat.reduceMul, Nat.reduceLeDiff, Nat.reduceLT, reduceIte, reduceCtorEq, Nat.reduceEqDiff, Nat.reduceSub, Nat.reduceAdd]
  refine ⟨fun h => ?_, fun h => ?_⟩
  · have hc : bdC t m l d v = 1 := by unfold bdC; rw [if_neg h]
    rw [codeC_nz h]
    refine HereO.opP T_ok (OpP.build built_44 rfl rfl rfl rfl) ?_
    simp only [Try.results38, go_sem, Nat.reduceMul, Nat.reduceLeDiff, Nat.reduceLT, reduceIte, reduceCtorEq, Nat.reduceEqDiff, Nat.reduceSub, Nat.reduceAdd]
    refine HereO.storeAgg T_ok rfl (by simp only [go_sem, Nat.reduceMul, Nat.reduceLeDiff, Nat.reduceLT, reduceIte, reduceCtorEq, Nat.reduceEqDiff, Nat.reduceSub, Nat.reduceAdd] <;> rfl) (by simp only [go_sem, Nat.reduceMul, Nat.reduceLeDiff, Nat.reduceLT, reduceIte, reduceCtorEq, Nat.reduceEqDiff, Nat.reduceSub, Nat.reduceAdd] <;> rfl) rfl (by simp only [go_sem, Nat.reduceMul, Nat.reduceLeDiff, Nat.reduceLT, reduceIte, reduceCtorEq, Nat.reduceEqDiff, Nat.reduceSub, Nat.reduceAdd] <;> rfl) (by first | rfl | (simp only [go_sem, Nat.reduceMul, Nat.reduceLeDiff, Nat.reduceLT, reduceIte, reduceCtorEq, Nat.reduceEqDiff, Nat.reduceSub, Nat.reduceAdd] <;> rfl)) rfl rfl ?_
    simp only [Try.results38, go_sem, Nat.reduceMul, Nat.reduceLeDiff, Nat.reduceLT, reduceIte, reduceCtorEq, Nat.reduceEqDiff, Nat.reduceSub, Nat.reduceAdd]
    exact RetC.conv (Conv.nilIn (c := 106) (tt := 44) (l := [.v (.int .i64 0), .v nilV]) 1 520 (.row 2 []) rfl (by decide) (by decide) (by rfl) rfl) (RetC.of (RetT.one 520 (by simp only [Try.results38, go_sem, Nat.reduceMul, Nat.reduceLeDiff, Nat.reduceLT, reduceIte, reduceCtorEq, Nat.reduceEqDiff, Nat.reduceSub, Nat.reduceAdd]; rfl) (by simp only [Try.results38, go_sem, Nat.reduceMul, Nat.reduceLeDiff, Nat.reduceLT, reduceIte, reduceCtorEq, Nat.reduceEqDiff, Nat.reduceSub, Nat.reduceAdd]; simp [bdD, bdR, hc, I]) (by simp only [Try.results38, go_sem, Nat.reduceMul, Nat.reduceLeDiff, Nat.reduceLT, reduceIte, reduceCtorEq, Nat.reduceEqDiff, Nat.reduceSub, Nat.reduceAdd]; simp [bdD, bdR, hc, I])))
  · obtain ⟨hg, hm, hf⟩ := codeC_ok h
    have hco := Cocs1.1 hf
    have hd := Coc_deg hco
    refine ⟨fun h3 => ?_, fun h3 => ?_⟩
    · have hc : bdC t m l d v = 2 := by unfold bdC; rw [if_pos h, if_pos h3]
      refine HereO.opP T_ok (OpP.build built_44 rfl rfl rfl rfl) ?_
      simp only [Try.results38, go_sem, Nat.reduceMul, Nat.reduceLeDiff, Nat.reduceLT, reduceIte, reduceCtorEq, Nat.reduceEqDiff, Nat.reduceSub, Nat.reduceAdd]
      refine HereO.storeAgg T_ok rfl (by simp only [go_sem, Nat.reduceMul, Nat.reduceLeDiff, Nat.reduceLT, reduceIte, reduceCtorEq, Nat.reduceEqDiff, Nat.reduceSub, Nat.reduceAdd] <;> rfl) (by simp only [go_sem, Nat.reduceMul, Nat.reduceLeDiff, Nat.reduceLT, reduceIte, reduceCtorEq, Nat.reduceEqDiff, Nat.reduceSub, Nat.reduceAdd] <;> rfl) rfl (by simp only [go_sem, Nat.reduceMul, Nat.reduceLeDiff, Nat.reduceLT, reduceIte, reduceCtorEq, Nat.reduceEqDiff, Nat.reduceSub, Nat.reduceAdd] <;> rfl) (by first | rfl | (simp only [go_sem, Nat.reduceMul, Nat.reduceLeDiff, Nat.reduceLT, reduceIte, reduceCtorEq, Nat.reduceEqDiff, Nat.reduceSub, Nat.reduceAdd] <;> rfl)) rfl rfl ?_
      simp only [Try.results38, go_sem, Nat.reduceMul, Nat.reduceLeDiff, Nat.reduceLT, reduceIte, reduceCtorEq, Nat.reduceEqDiff, Nat.reduceSub, Nat.reduceAdd]
      exact RetC.conv (Conv.nilIn (c := 106) (tt := 44) (l := [.v (.int .i64 0), .v nilV]) 1 520 (.row 2 []) rfl (by decide) (by decide) (by rfl) rfl) (RetC.of (RetT.one 520 (by simp only [Try.results38, go_sem, Nat.reduceMul, Nat.reduceLeDiff, Nat.reduceLT, reduceIte, reduceCtorEq, Nat.reduceEqDiff, Nat.reduceSub, Nat.reduceAdd]; rfl) (by simp only [Try.results38, go_sem, Nat.reduceMul, Nat.reduceLeDiff, Nat.reduceLT, reduceIte, reduceCtorEq, Nat.reduceEqDiff, Nat.reduceSub, Nat.reduceAdd]; simp [bdD, bdR, hc, I]) (by simp only [Try.results38, go_sem, Nat.reduceMul, Nat.reduceLeDiff, Nat.reduceLT, reduceIte, reduceCtorEq, Nat.reduceEqDiff, Nat.reduceSub, Nat.reduceAdd]; simp [bdD, bdR, hc, I])))
    · have hc : bdC t m l d v = 0 := by unfold bdC; rw [if_pos h, if_neg h3]
      obtain ⟨n, rfl⟩ := Int.eq_ofNat_of_zero_le hd.1
      refine HereO.callOwn T_ok 25 rfl rfl (boundary_spec t hg m l hm n v (by omega) (Coc_in hco) (Coc_len hg.1 hco)) (by simp only [go_sem, Nat.reduceMul, Nat.reduceLeDiff, Nat.reduceLT, reduceIte, reduceCtorEq, Nat.reduceEqDiff, Nat.reduceSub, Nat.reduceAdd, List.toList_toArray] <;> first | rfl | exact ⟨rfl, rfl⟩) rfl (by simp) rfl ?_
      simp only [Try.results38, go_sem, Nat.reduceMul, Nat.reduceLeDiff, Nat.reduceLT, reduceIte, reduceCtorEq, Nat.reduceEqDiff, Nat.reduceSub, Nat.reduceAdd]
      refine HereO.storeAgg T_ok rfl (by simp only [go_sem, Nat.reduceMul, Nat.reduceLeDiff, Nat.reduceLT, reduceIte, reduceCtorEq, Nat.reduceEqDiff, Nat.reduceSub, Nat.reduceAdd] <;> rfl) (by simp only [go_sem, Nat.reduceMul, Nat.reduceLeDiff, Nat.reduceLT, reduceIte, reduceCtorEq, Nat.reduceEqDiff, Nat.reduceSub, Nat.reduceAdd] <;> rfl) rfl (by simp only [go_sem, Nat.reduceMul, Nat.reduceLeDiff, Nat.reduceLT, reduceIte, reduceCtorEq, Nat.reduceEqDiff, Nat.reduceSub, Nat.reduceAdd] <;> rfl) (by first | rfl | (simp only [go_sem, Nat.reduceMul, Nat.reduceLeDiff, Nat.reduceLT, reduceIte, reduceCtorEq, Nat.reduceEqDiff, Nat.reduceSub, Nat.reduceAdd] <;> rfl)) rfl rfl ?_
      simp only [Try.results38, go_sem, Nat.reduceMul, Nat.reduceLeDiff, Nat.reduceLT, reduceIte, reduceCtorEq, Nat.reduceEqDiff, Nat.reduceSub, Nat.reduceAdd]
      exact RetC.of (RetT.one 1400 (by simp only [Try.results38, go_sem, Nat.reduceMul, Nat.reduceLeDiff, Nat.reduceLT, reduceIte, reduceCtorEq, Nat.reduceEqDiff, Nat.reduceSub, Nat.reduceAdd]; rfl) (by simp only [Try.results38, go_sem, Nat.reduceMul, Nat.reduceLeDiff, Nat.reduceLT, reduceIte, reduceCtorEq, Nat.reduceEqDiff, Nat.reduceSub, Nat.reduceAdd]; simp [bdD, bdR, hc]) (by simp only [Try.results38, go_sem, Nat.reduceMul, Nat.reduceLeDiff, Nat.reduceLT, reduceIte, reduceCtorEq, Nat.reduceEqDiff, Nat.reduceSub, Nat.reduceAdd]; simp [bdD, bdR, hc]))
theorem specBoundaryOf (t : List (List Int)) (m : Int) (l : List Int) (d : Int) (v : List Int) :
    Spec Try.prog 37 [.agg [.rds (II t)], .agg [.v (.int .i64 m), .rd (I l)], .agg [.v (.int .i64 d), .rd (I v)]] (.tup [.agg [.v (.int .i64 (bdD t m l d v)), .own 0], .v (.int .i64 (bdC t m l d v))]) [.row 2 (I (bdR t m l d v))] := by
  refine Spec.of_codeC T_ok Try.func37 rfl Try.ntmps37 Try.call37 (Nat.le_of_ble_eq_true rfl) rfl rfl (CodeV_sound T_ok (by kernel_rfl) rfl ?_)
  simp only [Try.results37, go_sem, Nat.reduceMul, Nat.reduceLeDiff, Nat.reduceLT, reduceIte, reduceCtorEq, Nat.reduceEqDiff, Nat.reduceSub, Nat.reduceAdd]
  refine HereO.alloc T_ok 106 rfl rfl (by decide) ?_
  simp only [Try.results37, go_sem, Nat.reduceMul, Nat.reduceLeDiff, Nat.reduceLT, reduceIte, reduceCtorEq, Nat.reduceEqDiff, Nat.reduceSub, Nat.reduceAdd]
  refine HereO.opP T_ok (OpP.buildA sl2_94 (MM [(d, v)]) rfl rfl (by decide) (by decide) rfl rfl) ?_
  simp only [Try.results37, go_sem, Nat.reduceMul, Nat.reduceLeDiff, Nat.reduceLT, reduceIte, reduceCtorEq, Nat.reduceEqDiff, Nat.reduceSub, Nat.reduceAdd]
  refine HereO.call T_ok rfl rfl (l03Code_spec t m l [(d, v)] (by simp)) (by simp only [go_sem, Nat.reduceMul, Nat.reduceLeDiff, Nat.reduceLT, reduceIte, reduceCtorEq, Nat.reduceEqDiff, Nat.reduceSub, Nat.reduceAdd, List.toList_toArray] <;> first | rfl | exact ⟨rfl, rfl⟩) rfl ?_
  simp only [Try.results37, go_sem, Nat.reduceMul, Nat.reduceLeDiff, Nat.reduceLT, reduceIte, reduceCtorEq, Nat.reduceEqDiff, Nat.reduceSub, Nat.reduceAdd]
  refine ⟨fun h => ?_, fun h => ⟨fun _ => ?_, fun q => absurd q h⟩⟩
  · obtain ⟨hg, hm, hf⟩ := codeC_ok h
    have hco := Cocs1.1 hf
    have hd := Coc_deg hco
    refine ⟨fun h3 => ⟨fun _ => ?_, fun q => absurd q (by decide)⟩, fun h3 => ⟨fun q => absurd h q, fun _ => ?_⟩⟩
    · have hc : bdC t m l d v = 2 := by unfold bdC; rw [if_pos h, if_pos h3]
      refine HereO.opP T_ok (OpP.build built_44 rfl rfl rfl rfl) ?_
      simp only [Try.results37, go_sem, Nat.reduceMul, Nat.reduceLeDiff, Nat.reduceLT, reduceIte, reduceCtorEq, Nat.reduceEqDiff, Nat.reduceSub, Nat.reduceAdd]
      refine HereO.storeAgg T_ok rfl (by simp only [go_sem, Nat.reduceMul, Nat.reduceLeDiff, Nat.reduceLT, reduceIte, reduceCtorEq, Nat.reduceEqDiff, Nat.reduceSub, Nat.reduceAdd] <;> rfl) (by simp only [go_sem, Nat.reduceMul, Nat.reduceLeDiff, Nat.reduceLT, reduceIte, reduceCtorEq, Nat.reduceEqDiff, Nat.reduceSub, Nat.reduceAdd] <;> rfl) rfl (by simp only [go_sem, Nat.reduceMul, Nat.reduceLeDiff, Nat.reduceLT, reduceIte, reduceCtorEq, Nat.reduceEqDiff, Nat.reduceSub, Nat.reduceAdd] <;> rfl) (by first | rfl | (simp only [go_sem, Nat.reduceMul, Nat.reduceLeDiff, Nat.reduceLT, reduceIte, reduceCtorEq, Nat.reduceEqDiff, Nat.reduceSub, Nat.reduceAdd] <;> rfl)) rfl rfl ?_
      simp only [Try.results37, go_sem, Nat.reduceMul, Nat.reduceLeDiff, Nat.reduceLT, reduceIte, reduceCtorEq, Nat.reduceEqDiff, Nat.reduceSub, Nat.reduceAdd]
      exact RetC.conv (Conv.nilIn (c := 106) (tt := 44) (l := [.v (.int .i64 0), .v nilV]) 1 520 (.row 2 []) rfl (by decide) (by decide) (by rfl) rfl) (RetC.of (RetT.one 520 (by simp only [Try.results37, go_sem, Nat.reduceMul, Nat.reduceLeDiff, Nat.reduceLT, reduceIte, reduceCtorEq, Nat.reduceEqDiff, Nat.reduceSub, Nat.reduceAdd]; rfl) (by simp only [Try.results37, go_sem, Nat.reduceMul, Nat.reduceLeDiff, Nat.reduceLT, reduceIte, reduceCtorEq, Nat.reduceEqDiff, Nat.reduceSub, Nat.reduceAdd]; simp [bdD, bdR, hc, I]) (by simp only [Try.results37, go_sem, Nat.reduceMul, Nat.reduceLeDiff, Nat.reduceLT, reduceIte, reduceCtorEq, Nat.reduceEqDiff, Nat.reduceSub, Nat.reduceAdd]; simp [bdD, bdR, hc, I])))
    · have hc : bdC t m l d v = 0 := by unfold bdC; rw [if_pos h, if_neg h3]
      obtain ⟨n, rfl⟩ := Int.eq_ofNat_of_zero_le hd.1
      refine HereO.callOwn T_ok 28 rfl rfl (l03Boundary_spec t hg m l hm n v (by omega) (Coc_in hco) (Coc_len hg.1 hco)) (by simp only [go_sem, Nat.reduceMul, Nat.reduceLeDiff, Nat.reduceLT, reduceIte, reduceCtorEq, Nat.reduceEqDiff, Nat.reduceSub, Nat.reduceAdd, List.toList_toArray] <;> first | rfl | exact ⟨rfl, rfl⟩) rfl (by simp) rfl ?_
      simp only [Try.results37, go_sem, Nat.reduceMul, Nat.reduceLeDiff, Nat.reduceLT, reduceIte, reduceCtorEq, Nat.reduceEqDiff, Nat.reduceSub, Nat.reduceAdd]
      refine HereO.storeAgg T_ok rfl (by simp only [go_sem, Nat.reduceMul, Nat.reduceLeDiff, Nat.reduceLT, reduceIte, reduceCtorEq, Nat.reduceEqDiff, Nat.reduceSub, Nat.reduceAdd] <;> rfl) (by simp only [go_sem, Nat.reduceMul, Nat.reduceLeDiff, Nat.reduceLT, reduceIte, reduceCtorEq, Nat.reduceEqDiff, Nat.reduceSub, Nat.reduceAdd] <;> rfl) rfl (by simp only [go_sem, Nat.reduceMul, Nat.reduceLeDiff, Nat.reduceLT, reduceIte, reduceCtorEq, Nat.reduceEqDiff, Nat.reduceSub, Nat.reduceAdd] <;> rfl) (by first | rfl | (simp only [go_sem, Nat.reduceMul, Nat.reduceLeDiff, Nat.reduceLT, reduceIte, reduceCtorEq, Nat.reduceEqDiff, Nat.reduceSub, Nat.reduceAdd] <;> rfl)) rfl rfl ?_
      simp only [Try.results37, go_sem, Nat.reduceMul, Nat.reduceLeDiff, Nat.reduceLT, reduceIte, reduceCtorEq, Nat.reduceEqDiff, Nat.reduceSub, Nat.reduceAdd]
      exact RetC.of (RetT.one 1448 (by simp only [Try.results37, go_sem, Nat.reduceMul, Nat.reduceLeDiff, Nat.reduceLT, reduceIte, reduceCtorEq, Nat.reduceEqDiff, Nat.reduceSub, Nat.reduceAdd]; rfl) (by simp only [Try.results37, go_sem, Nat.reduceMul, Nat.reduceLeDiff, Nat.reduceLT, reduceIte, reduceCtorEq, Nat.reduceEqDiff, Nat.reduceSub, Nat.reduceAdd]; simp [bdD, bdR, hc]) (by simp only [Try.results37, go_sem, Nat.reduceMul, Nat.reduceLeDiff, Nat.reduceLT, reduceIte, reduceCtorEq, Nat.reduceEqDiff, Nat.reduceSub, Nat.reduceAdd]; simp [bdD, bdR, hc]))
  · have hc : bdC t m l d v = 1 := by unfold bdC; rw [if_neg h]
    rw [codeC_nz h]
    refine HereO.opP T_ok (OpP.build built_44 rfl rfl rfl rfl) ?_
    simp only [Try.results37, go_sem, Nat.reduceMul, Nat.reduceLeDiff, Nat.reduceLT, reduceIte, reduceCtorEq, Nat.reduceEqDiff, Nat.reduceSub, Nat.reduceAdd]
    refine HereO.storeAgg T_ok rfl (by simp only [go_sem, Nat.reduceMul, Nat.reduceLeDiff, Nat.reduceLT, reduceIte, reduceCtorEq, Nat.reduceEqDiff, Nat.reduceSub, Nat.reduceAdd] <;> rfl) (by simp only [go_sem, Nat.reduceMul, Nat.reduceLeDiff, Nat.reduceLT, reduceIte, reduceCtorEq, Nat.reduceEqDiff, Nat.reduceSub, Nat.reduceAdd] <;> rfl) rfl (by simp only [go_sem, Nat.reduceMul, Nat.reduceLeDiff, Nat.reduceLT, reduceIte, reduceCtorEq, Nat.reduceEqDiff, Nat.reduceSub, Nat.reduceAdd] <;> rfl) (by first | rfl | (simp only [go_sem, Nat.reduceMul, Nat.reduceLeDiff, Nat.reduceLT, reduceIte, reduceCtorEq, Nat.reduceEqDiff, Nat.reduceSub, Nat.reduceAdd] <;> rfl)) rfl rfl ?_
    simp only [Try.results37, go_sem, Nat.reduceMul, Nat.reduceLeDiff, Nat.reduceLT, reduceIte, reduceCtorEq, Nat.reduceEqDiff, Nat.reduceSub, Nat.reduceAdd]
    exact RetC.conv (Conv.nilIn (c := 106) (tt := 44) (l := [.v (.int .i64 0), .v nilV]) 1 520 (.row 2 []) rfl (by decide) (by decide) (by rfl) rfl) (RetC.of (RetT.one 520 (by simp only [Try.results37, go_sem, Nat.reduceMul, Nat.reduceLeDiff, Nat.reduceLT, reduceIte, reduceCtorEq, Nat.reduceEqDiff, Nat.reduceSub, Nat.reduceAdd]; rfl) (by simp only [Try.results37, go_sem, Nat.reduceMul, Nat.reduceLeDiff, Nat.reduceLT, reduceIte, reduceCtorEq, Nat.reduceEqDiff, Nat.reduceSub, Nat.reduceAdd]; simp [bdD, bdR, hc, I]) (by simp only [Try.results37, go_sem, Nat.reduceMul, Nat.reduceLeDiff, Nat.reduceLT, reduceIte, reduceCtorEq, Nat.reduceEqDiff, Nat.reduceSub, Nat.reduceAdd]; simp [bdD, bdR, hc, I])))
theorem isCocycle_spec (t : List (List Int)) (hg : Grp t) (m : Int) (k : List Int) (hm : Mod t m k) (n : Nat) (v : List Int) (hn : n ≤ 3) (hv : AreIn m v) (hvl : v.length = (t.length - 1) ^ n) :
    Spec Try.prog 76 [.agg [.rds (II t)], .agg [.v (.int .i64 m), .rd (I k)], .agg [.v (.int .i64 n), .rd (I v)]] (.v (.bool (decide (allZ (bdL t m k v n))))) [] := by
  refine Spec.of_code T_ok Try.func76 rfl Try.ntmps76 Try.call76 (Nat.le_of_ble_eq_true rfl) rfl rfl (CodeV_sound T_ok (by kernel_rfl) rfl ?_)
  simp only [Try.results76, go_sem, Nat.reduceMul, Nat.reduceLeDiff, Nat.reduceLT, reduceIte, reduceCtorEq, Nat.reduceEqDiff, Nat.reduceSub, Nat.reduceAdd]
  refine HereO.call T_ok rfl rfl (boundary_spec t hg m k hm n v hn hv hvl) (by simp only [go_sem, Nat.reduceMul, Nat.reduceLeDiff, Nat.reduceLT, reduceIte, reduceCtorEq, Nat.reduceEqDiff, Nat.reduceSub, Nat.reduceAdd, List.toList_toArray] <;> first | rfl | exact ⟨rfl, rfl⟩) rfl ?_
  simp only [Try.results76, go_sem, Nat.reduceMul, Nat.reduceLeDiff, Nat.reduceLT, reduceIte, reduceCtorEq, Nat.reduceEqDiff, Nat.reduceSub, Nat.reduceAdd]
  refine HereO.opP T_ok (OpP.field_coc rfl rfl) ?_
  simp only [Try.results76, go_sem, Nat.reduceMul, Nat.reduceLeDiff, Nat.reduceLT, reduceIte, reduceCtorEq, Nat.reduceEqDiff, Nat.reduceSub, Nat.reduceAdd]
  have hLl : (bdL t m k v n).length ≤ 2401 := by
    have := pow7 (b := t.length - 1) (by have := hg.2.1; omega) (j := n + 1) (by omega)
    unfold bdL
    rw [upTo_len]
    exact this
  generalize bdL t m k v n = L at *
  refine Here.loopV T_ok (fun i => i ≤ L.length ∧ ∀ j, j < i → L.getD j 0 = 0) (fun i => L.length - i) (fun i => [(13, .rd (I L)), (14, .v (.int .i64 L.length)), (15, .v (.int .i64 i))]) (fun _ => []) 0 (by simp) (by simp only [Try.results76, go_sem, Nat.reduceMul, Nat.reduceLeDiff, Nat.reduceLT, reduceIte, reduceCtorEq, Nat.reduceEqDiff, Nat.reduceSub, Nat.reduceAdd]; simp) trivial ?_
  rintro i ⟨hi, hz⟩
  simp only [Try.results76, go_sem, Nat.reduceMul, Nat.reduceLeDiff, Nat.reduceLT, reduceIte, reduceCtorEq, Nat.reduceEqDiff, Nat.reduceSub, Nat.reduceAdd]
  refine ⟨fun h2 => ⟨⟨by omega, by omega⟩, fun h4 => (decide_eq_false fun q => h4 (q i (by omega))).symm, fun h4 => ⟨by unfold InR; omega, i + 1, ⟨by omega, fun j hj => ?_⟩, by omega, by push_cast; rfl⟩⟩, fun h2 => (decide_eq_true fun j hj => hz j (by omega)).symm⟩
  by_cases e : j = i
  · rw [e]; exact h4
  · exact hz j (by omega)
theorem l03Cocycle_spec (t : List (List Int)) (hg : Grp t) (m : Int) (k : List Int) (hm : Mod t m k) (n : Nat) (v : List Int) (hn : n ≤ 3) (hv : AreIn m v) (hvl : v.length = (t.length - 1) ^ n) :
    Spec Try.prog 75 [.agg [.rds (II t)], .agg [.v (.int .i64 m), .rd (I k)], .agg [.v (.int .i64 n), .rd (I v)]] (.v (.bool (decide (allZ (bdL t m k v n))))) [] := by
  have h1 := hg.1
  have h8 := hg.2.1
  have hN := pow7 (b := t.length - 1) (by omega) (j := n + 1) (by omega)
  have hcells := l03Cells4_spec t hg (n + 1) (by omega)
  have hlen : (bdL t m k v n).length = (t.length - 1) ^ (n + 1) := by unfold bdL; rw [upTo_len]
  have hget : ∀ i, i < (t.length - 1) ^ (n + 1) → (bdL t m k v n).getD i 0 = bdV t k v (lst (t.length - 1) (n + 1) i) n % m := fun i hi => by unfold bdL; rw [upTo_get _ hi]
  refine Spec.of_code T_ok Try.func75 rfl Try.ntmps75 Try.call75 (Nat.le_of_ble_eq_true rfl) rfl rfl (CodeV_sound T_ok (by kernel_rfl) rfl ?_)
  simp only [Try.results75, go_sem, Nat.reduceMul, Nat.reduceLeDiff, Nat.reduceLT, reduceIte, reduceCtorEq, Nat.reduceEqDiff, Nat.reduceSub, Nat.reduceAdd]
  refine Here.loopV T_ok (fun i => i ≤ (t.length - 1) ^ (n + 1) ∧ ∀ j, j < i → (bdL t m k v n).getD j 0 = 0) (fun i => (t.length - 1) ^ (n + 1) - i) (fun i => [(3, .box [.rds (II t)]), (4, .box [.v (.int .i64 m), .rd (I k)]), (5, .box [.v (.int .i64 n), .rd (I v)]), (7, .v (.int .i64 i))]) (fun _ => []) 0 (by simp) (by simp only [Try.results75, go_sem, Nat.reduceMul, Nat.reduceLeDiff, Nat.reduceLT, reduceIte, reduceCtorEq, Nat.reduceEqDiff, Nat.reduceSub, Nat.reduceAdd]; simp) trivial ?_
  rintro i ⟨hi, hz⟩
  simp only [Try.results75, go_sem, Nat.reduceMul, Nat.reduceLeDiff, Nat.reduceLT, reduceIte, reduceCtorEq, Nat.reduceEqDiff, Nat.reduceSub, Nat.reduceAdd]
  refine ⟨by unfold InR; omega, ?_⟩
  rw [show (n : Int) + 1 = ((n + 1 : Nat) : Int) by push_cast; rfl]
  refine HereO.call T_ok rfl rfl (hcells) (by simp only [go_sem, Nat.reduceMul, Nat.reduceLeDiff, Nat.reduceLT, reduceIte, reduceCtorEq, Nat.reduceEqDiff, Nat.reduceSub, Nat.reduceAdd, List.toList_toArray] <;> first | rfl | exact ⟨rfl, rfl⟩) rfl ?_
  simp only [Try.results75, go_sem, Nat.reduceMul, Nat.reduceLeDiff, Nat.reduceLT, reduceIte, reduceCtorEq, Nat.reduceEqDiff, Nat.reduceSub, Nat.reduceAdd]
  refine ⟨fun h2 => ?_, fun h2 => ?_⟩
  · have hLi := lst_in h1 (n + 1) i (pow_two (i := i) (by omega))
    refine Here.draw T_ok mixed_ok (by kernel_rfl) ?_
    simp only [Try.results75, go_sem, Nat.reduceMul, Nat.reduceLeDiff, Nat.reduceLT, reduceIte, reduceCtorEq, Nat.reduceEqDiff, Nat.reduceSub, Nat.reduceAdd]
    refine ⟨by unfold InR; omega, ?_⟩
    rw [show (n : Int) + 1 = ((n + 1 : Nat) : Int) by push_cast; rfl]
    refine ⟨_, OpP.call' rfl rfl (l03List_spec t h1 h8 (n + 1) i (by omega) (pow_two (i := i) (by omega)) (by omega)) (by simp only [go_sem, Nat.reduceMul, Nat.reduceLeDiff, Nat.reduceLT, reduceIte, reduceCtorEq, Nat.reduceEqDiff, Nat.reduceSub, Nat.reduceAdd, List.toList_toArray] <;> first | rfl | exact ⟨rfl, rfl⟩) rfl, ?_⟩
    simp only [Try.results75, go_sem, Nat.reduceMul, Nat.reduceLeDiff, Nat.reduceLT, reduceIte, reduceCtorEq, Nat.reduceEqDiff, Nat.reduceSub, Nat.reduceAdd]
    refine ⟨_, OpP.call' rfl rfl (l03Side_spec t hg m k hm n v (lst (t.length - 1) (n + 1) i) (lst_len ..) hn hLi hv hvl) (by simp only [go_sem, Nat.reduceMul, Nat.reduceLeDiff, Nat.reduceLT, reduceIte, reduceCtorEq, Nat.reduceEqDiff, Nat.reduceSub, Nat.reduceAdd, List.toList_toArray] <;> first | rfl | exact ⟨rfl, rfl⟩) rfl, ?_⟩
    simp only [Try.results75, go_sem, Nat.reduceMul, Nat.reduceLeDiff, Nat.reduceLT, reduceIte, reduceCtorEq, Nat.reduceEqDiff, Nat.reduceSub, Nat.reduceAdd]
    have hgi := hget i (by omega)
    refine ⟨fun h4 => (decide_eq_false fun q => h4 (by rw [← hgi]; exact q i (by omega))).symm, fun h4 => ⟨by unfold InR; omega, i + 1, ⟨by omega, fun j hj => ?_⟩, by omega, by push_cast; rfl⟩⟩
    by_cases e : j = i
    · rw [e, hgi]; exact h4
    · exact hz j (by omega)
  · exact (decide_eq_true fun j hj => hz j (by omega)).symm
def cyV (t : List (List Int)) (m : Int) (l : List Int) (d : Int) (v : List Int) : Bool := decide (codeC t m l [(d, v)] = 0 ∧ allZ (bdL t m l v d.toNat))
def cyC (t : List (List Int)) (m : Int) (l : List Int) (d : Int) (v : List Int) : Int := codeC t m l [(d, v)]
theorem implIsCocycle (t : List (List Int)) (m : Int) (l : List Int) (d : Int) (v : List Int) : Spec Try.prog 40 [.agg [.rds (II t)], .agg [.v (.int .i64 m), .rd (I l)], .agg [.v (.int .i64 d), .rd (I v)]] (.tup [.v (.bool (cyV t m l d v)), .v (.int .i64 (cyC t m l d v))]) [] := by
  refine Spec.of_code T_ok Try.func40 rfl Try.ntmps40 Try.call40 (Nat.le_of_ble_eq_true rfl) rfl rfl (CodeV_sound T_ok (by kernel_rfl) rfl ?_)
  simp only [Try.results40, go_sem, Nat.reduceMul, Nat.reduceLeDiff, Nat.reduceLT, reduceIte, reduceCtorEq, Nat.reduceEqDiff, Nat.reduceSub, Nat.reduceAdd]
  refine HereO.opP T_ok (OpP.buildA sl2_94 (MM [(d, v)]) rfl rfl (by decide) (by decide) rfl rfl) ?_
  simp only [Try.results40, go_sem, Nat.reduceMul, Nat.reduceLeDiff, Nat.reduceLT, reduceIte, reduceCtorEq, Nat.reduceEqDiff, Nat.reduceSub, Nat.reduceAdd]
  refine HereO.call T_ok rfl rfl (cochainCode_spec t m l [(d, v)] (by simp)) (by simp only [go_sem, Nat.reduceMul, Nat.reduceLeDiff, Nat.reduceLT, reduceIte, reduceCtorEq, Nat.reduceEqDiff, Nat.reduceSub, Nat.reduceAdd, List.toList_toArray] <;> first | rfl | exact ⟨rfl, rfl⟩) rfl ?_
  simp only [Try.results40, go_sem, Nat.reduceMul, Nat.reduceLeDiff, Nat.reduceLT, reduceIte, reduceCtorEq, Nat.reduceEqDiff, Nat.reduceSub, Nat.reduceAdd]
  refine ⟨fun h => by simp [cyV, cyC, h], fun h => ?_⟩
  obtain ⟨hg, hm, hf⟩ := codeC_ok h
  have hco := Cocs1.1 hf
  have hd := Coc_deg hco
  obtain ⟨n, rfl⟩ := Int.eq_ofNat_of_zero_le hd.1
  refine HereO.call T_ok rfl rfl (isCocycle_spec t hg m l hm n v (by omega) (Coc_in hco) (Coc_len hg.1 hco)) (by simp only [go_sem, Nat.reduceMul, Nat.reduceLeDiff, Nat.reduceLT, reduceIte, reduceCtorEq, Nat.reduceEqDiff, Nat.reduceSub, Nat.reduceAdd, List.toList_toArray] <;> first | rfl | exact ⟨rfl, rfl⟩) rfl ?_
  simp only [Try.results40, go_sem, Nat.reduceMul, Nat.reduceLeDiff, Nat.reduceLT, reduceIte, reduceCtorEq, Nat.reduceEqDiff, Nat.reduceSub, Nat.reduceAdd]
  simp [cyV, cyC, h]
theorem specIsCocycle (t : List (List Int)) (m : Int) (l : List Int) (d : Int) (v : List Int) : Spec Try.prog 39 [.agg [.rds (II t)], .agg [.v (.int .i64 m), .rd (I l)], .agg [.v (.int .i64 d), .rd (I v)]] (.tup [.v (.bool (cyV t m l d v)), .v (.int .i64 (cyC t m l d v))]) [] := by
  refine Spec.of_code T_ok Try.func39 rfl Try.ntmps39 Try.call39 (Nat.le_of_ble_eq_true rfl) rfl rfl (CodeV_sound T_ok (by kernel_rfl) rfl ?_)
  simp only [Try.results39, go_sem, Nat.reduceMul, Nat.reduceLeDiff, Nat.reduceLT, reduceIte, reduceCtorEq, Nat.reduceEqDiff, Nat.reduceSub, Nat.reduceAdd]
  refine HereO.opP T_ok (OpP.buildA sl2_94 (MM [(d, v)]) rfl rfl (by decide) (by decide) rfl rfl) ?_
  simp only [Try.results39, go_sem, Nat.reduceMul, Nat.reduceLeDiff, Nat.reduceLT, reduceIte, reduceCtorEq, Nat.reduceEqDiff, Nat.reduceSub, Nat.reduceAdd]
  refine HereO.call T_ok rfl rfl (l03Code_spec t m l [(d, v)] (by simp)) (by simp only [go_sem, Nat.reduceMul, Nat.reduceLeDiff, Nat.reduceLT, reduceIte, reduceCtorEq, Nat.reduceEqDiff, Nat.reduceSub, Nat.reduceAdd, List.toList_toArray] <;> first | rfl | exact ⟨rfl, rfl⟩) rfl ?_
  simp only [Try.results39, go_sem, Nat.reduceMul, Nat.reduceLeDiff, Nat.reduceLT, reduceIte, reduceCtorEq, Nat.reduceEqDiff, Nat.reduceSub, Nat.reduceAdd]
  refine ⟨fun h => by simp [cyV, cyC, h], fun h => ?_⟩
  obtain ⟨hg, hm, hf⟩ := codeC_ok h
  have hco := Cocs1.1 hf
  have hd := Coc_deg hco
  obtain ⟨n, rfl⟩ := Int.eq_ofNat_of_zero_le hd.1
  refine HereO.call T_ok rfl rfl (l03Cocycle_spec t hg m l hm n v (by omega) (Coc_in hco) (Coc_len hg.1 hco)) (by simp only [go_sem, Nat.reduceMul, Nat.reduceLeDiff, Nat.reduceLT, reduceIte, reduceCtorEq, Nat.reduceEqDiff, Nat.reduceSub, Nat.reduceAdd, List.toList_toArray] <;> first | rfl | exact ⟨rfl, rfl⟩) rfl ?_
  simp only [Try.results39, go_sem, Nat.reduceMul, Nat.reduceLeDiff, Nat.reduceLT, reduceIte, reduceCtorEq, Nat.reduceEqDiff, Nat.reduceSub, Nat.reduceAdd]
  simp [cyV, cyC, h]
end Go.Proofs.Ytifpnficdjbljaa
