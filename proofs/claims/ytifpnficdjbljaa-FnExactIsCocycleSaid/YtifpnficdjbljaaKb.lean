/- Contracts: values of cochains; cochains that functions tell; ValueOf, AddCochains. -/
import Derived.Test.YtifpnficdjbljaaKa
import Derived.Test.YtifpnficdjbljaaCa
import Derived.Test.YtifpnficdjbljaaGe
import Derived.Test.YtifpnficdjbljaaHb
import Derived.Test.YtifpnficdjbljaaEa
import Derived.Test.YtifpnficdjbljaaGc
namespace Go.Proofs.Ytifpnficdjbljaa
open Go.RowKit
set_option linter.unusedVariables false
set_option linter.unusedSimpArgs false
set_option maxRecDepth 100000

theorem set_self' {α : Type} : ∀ (l : List α) (j : Nat) (y : α), l[j]? = some y → l.set j y = l
  | [], _, _, h => by simp at h
  | x :: l, 0, y, h => by simp at h; simp [h]
  | x :: l, j + 1, y, h => by simp only [List.set_cons_succ]; rw [set_self' l j y (by simpa using h)]
/-- In a variable lies a part of a row that is the whole of it: it is the row. -/
theorem Conv.subCell {s : St} {c tt id e : Nat} {l : List LV} {vs : List Value} (j : Nat) (hc : s.σ c = some (.cells tt l)) (hj : l[j]? = some (.sub id 0 vs.length)) (hσ : s.σ id = some (.row e vs)) : Conv s (s.set c (.cells tt (l.set j (.own id)))) := by
  intro w0 w ι fp f hI
  refine ⟨ι, fp, ?_⟩
  have hFF : FF (s.set c (.cells tt (l.set j (.own id)))).σ fp = FF s.σ fp := by
    funext k
    apply propext
    constructor
    · rintro ⟨i, oc, h1, h2⟩
      by_cases e1 : i = c
      · subst e1; exact ⟨_, _, hc, h2⟩
      · simp only [St.set, if_neg e1] at h1; exact ⟨i, oc, h1, h2⟩
    · rintro ⟨i, oc, h1, h2⟩
      by_cases e1 : i = c
      · subst e1; exact ⟨_, _, by simp only [St.set, if_pos]; rfl, h2⟩
      · exact ⟨i, oc, by simp only [St.set, if_neg e1]; exact h1, h2⟩
  refine ⟨fun i => ?_, fun i oc hi => ?_, fun i i' oc oc' k h1 h2 h3 h4 => ?_, hI.bel, fun k hk => hI.low k (by rwa [hFF] at hk), hI.fix⟩
  · rw [hFF]; exact hI.fr i
  · rw [hFF]
    by_cases e1 : i = c
    · subst e1
      simp only [St.set, if_true, Option.some.injEq] at hi
      subst hi
      obtain ⟨b, ys, g1, g2, g3, g4, g5⟩ := hI.ob _ _ hc
      refine ⟨b, ys, g1, g2, g3, g4, ?_⟩
      obtain ⟨y, hy, hr⟩ := g5.get j _ hj
      simp only [LRel] at hr
      obtain ⟨A, N, cc, k1, k2, A', k3, k4, k5⟩ := hr
      obtain ⟨v, q1, q2, q3⟩ := hI.ob id _ hσ
      rw [k1] at q1
      simp only [Option.some.injEq] at q1
      obtain ⟨A2, c2, q4⟩ := own_len q2
      rw [← q1] at q4
      simp only [Value.slice.injEq] at q4
      have hown : LRel ι (FF s.σ fp) w (.own id) y := by
        simp only [LRel]
        rw [k1, k3, k4 trivial, q4.2.1, Nat.sub_zero]
      have := g5.set hown j
      rwa [set_self' _ _ _ hy] at this
    · simp only [St.set, if_neg e1] at hi
      exact hI.ob i oc hi
  · have key : ∀ i oc, (s.set c (.cells tt (l.set j (.own id)))).σ i = some oc → ∃ oc', s.σ i = some oc' := fun i oc h => by
      by_cases e1 : i = c
      · subst e1; exact ⟨_, hc⟩
      · simp only [St.set, if_neg e1] at h; exact ⟨_, h⟩
    obtain ⟨o1, p1⟩ := key i oc h1
    obtain ⟨o2, p2⟩ := key i' oc' h2
    exact hI.dis i i' o1 o2 k p1 p2 h3 h4
theorem mod_nn (x m : Int) (h0 : 0 < m) : (x.tmod m + m).tmod m = x % m ∧ -m < x.tmod m ∧ x.tmod m < m := by
  have h1 := Int.lt_tmod_of_pos x h0
  have h2 := Int.tmod_lt_of_pos x h0
  refine ⟨?_, h1, h2⟩
  rw [Int.tmod_eq_emod_of_nonneg (by omega)]
  have h3 : x.tmod m = x - m * x.tdiv m := by have := Int.mul_tdiv_add_tmod x m; omega
  rw [h3, Int.add_emod_right, Int.sub_emod, Int.mul_emod_right, Int.sub_zero, Int.emod_emod]
theorem l01Mod12_spec (x m : Int) (h0 : 1 ≤ m) (h1 : m ≤ 12) (hx : -1000000000 ≤ x ∧ x ≤ 1000000000) : Spec Try.prog 94 [.v (.int .i64 x), .v (.int .i64 m)] (.v (.int .i64 (x % m))) [] := by
  obtain ⟨h2, h3, h4⟩ := mod_nn x m (by omega)
  refine Spec.of_code T_ok Try.func94 rfl Try.ntmps94 Try.call94 (Nat.le_of_ble_eq_true rfl) rfl rfl (CodeV_sound T_ok (by kernel_rfl) rfl ?_)
  simp only [Try.results94, go_sem, Nat.reduceMul, Nat.reduceLeDiff, Nat.reduceLT, reduceIte, reduceCtorEq, Nat.reduceEqDiff, Nat.reduceSub, Nat.reduceAdd]
  exact ⟨by omega, by unfold InR; omega, by omega, h2⟩
theorem pow7 {b j : Nat} (hb : b ≤ 7) (hj : j ≤ 4) : b ^ j ≤ 2401 := Nat.le_trans (Nat.pow_le_pow_left hb j) (Nat.pow_le_pow_right (by decide) hj)
/-! ### Values at lists -/
def NoZ (l : List Int) : Prop := ∀ j, j < l.length → l.getD j 0 ≠ 0
instance (l : List Int) : Decidable (NoZ l) := Nat.decidableBallLT _ _
def cellN (b : Nat) : List Int → Nat → Nat
  | [], a => a
  | x :: l, a => cellN b l (a * b + (x.toNat - 1))
def atV (b : Nat) (v l : List Int) : Int := if NoZ l then v.getD (cellN b l 0) 0 else 0
theorem cellN_take (b : Nat) : ∀ (l : List Int) (a k : Nat), k < l.length → cellN b (l.take (k + 1)) a = cellN b (l.take k) a * b + ((l.getD k 0).toNat - 1)
  | [], _, _, h => by simp at h
  | x :: l, a, 0, _ => by simp [cellN]
  | x :: l, a, k + 1, h => by
    simp only [List.take_succ_cons, cellN, List.getD_cons_succ]
    exact cellN_take b l _ k (by simpa using h)
theorem cellN_lt (b : Nat) : ∀ (l : List Int) (a : Nat), (∀ x ∈ l, 1 ≤ x ∧ x ≤ b) → cellN b l a < (a + 1) * b ^ l.length
  | [], a, _ => by simp [cellN]
  | x :: l, a, h => by
    have hx := h x (by simp)
    have ih := cellN_lt b l (a * b + (x.toNat - 1)) fun y hy => h y (by simp [hy])
    simp only [cellN, List.length_cons]
    refine Nat.lt_of_lt_of_le ih ?_
    rw [Nat.pow_succ, Nat.mul_comm (b ^ l.length) b, ← Nat.mul_assoc]
    refine Nat.mul_le_mul_right _ ?_
    rw [Nat.add_mul, Nat.one_mul]
    omega
theorem nz_range {n : Nat} {l : List Int} (hi : AreIn n l) {k : Nat} (hk : k ≤ l.length) (hz : ∀ j, j < k → l.getD j 0 ≠ 0) : ∀ x ∈ l.take k, 1 ≤ x ∧ x ≤ ((n - 1 : Nat) : Int) := by
  intro x hx
  obtain ⟨j, hj, rfl⟩ := List.mem_iff_getElem.1 hx
  rw [List.getElem_take]
  simp only [List.length_take] at hj
  have h1 := hi j (by omega)
  have h2 := hz j (by omega)
  rw [List.getD_eq_getElem?_getD, List.getElem?_eq_getElem (by omega), Option.getD_some] at h1 h2
  omega
theorem cell_bound {n : Nat} {l : List Int} (hn : n ≤ 8) (hl : l.length ≤ 4) (hi : AreIn n l) {k : Nat} (hk : k ≤ l.length) (hz : ∀ j, j < k → l.getD j 0 ≠ 0) : cellN (n - 1) (l.take k) 0 < (n - 1) ^ k ∧ (n - 1) ^ k ≤ 2401 := by
  have h := cellN_lt (n - 1) (l.take k) 0 (nz_range hi hk hz)
  rw [Nat.zero_add, Nat.one_mul, List.length_take, Nat.min_eq_left hk] at h
  exact ⟨h, pow7 (by omega) (by omega)⟩
/-- One step more. -/
theorem cell_next {n : Nat} {l : List Int} (h1 : 1 ≤ n) (hn : n ≤ 8) (hl : l.length ≤ 4) (hi : AreIn n l) {k : Nat} (hk : k < l.length) (hz : ∀ j, j < k → l.getD j 0 ≠ 0) (hx : l.getD k 0 ≠ 0) :
    InR ((n : Int) - 1) ∧ InR ((cellN (n - 1) (l.take k) 0 : Int) * ((n : Int) - 1)) ∧ InR ((cellN (n - 1) (l.take k) 0 : Int) * ((n : Int) - 1) + l.getD k 0) ∧ InR ((cellN (n - 1) (l.take k) 0 : Int) * ((n : Int) - 1) + l.getD k 0 - 1) ∧ (cellN (n - 1) (l.take k) 0 : Int) * ((n : Int) - 1) + l.getD k 0 - 1 = (cellN (n - 1) (l.take (k + 1)) 0 : Int) := by
  have hb := cell_bound hn hl hi (Nat.le_of_lt hk) hz
  have hr := hi k hk
  have e1 : (n : Int) - 1 = ((n - 1 : Nat) : Int) := by omega
  rw [e1, cellN_take (n - 1) l 0 k hk]
  have hm : cellN (n - 1) (l.take k) 0 * (n - 1) ≤ 2401 * 7 := Nat.mul_le_mul (by omega) (by omega)
  have e2 : (cellN (n - 1) (l.take k) 0 : Int) * ((n - 1 : Nat) : Int) = ((cellN (n - 1) (l.take k) 0 * (n - 1) : Nat) : Int) := by push_cast; rfl
  rw [e2]
  generalize cellN (n - 1) (l.take k) 0 * (n - 1) = q at *
  generalize l.getD k 0 = x at *
  refine ⟨by unfold InR; omega, by unfold InR; omega, by unfold InR; omega, by unfold InR; omega, by omega⟩
theorem cell_spec (t : List (List Int)) (hg : Grp t) (l : List Int) (hl : l.length ≤ 4) (hi : AreIn t.length l) : Spec Try.prog 92 [.agg [.rds (II t)], .rd (I l)] (.v (.int .i64 (if NoZ l then (cellN (t.length - 1) l 0 : Int) else -1))) [] := by
  refine Spec.of_code T_ok Try.func92 rfl Try.ntmps92 Try.call92 (Nat.le_of_ble_eq_true rfl) rfl rfl (CodeV_sound T_ok (by kernel_rfl) rfl ?_)
  simp only [Try.results92, go_sem, Nat.reduceMul, Nat.reduceLeDiff, Nat.reduceLT, reduceIte, reduceCtorEq, Nat.reduceEqDiff, Nat.reduceSub, Nat.reduceAdd]
  refine Here.loopV T_ok (fun k => k ≤ l.length ∧ ∀ j, j < k → l.getD j 0 ≠ 0) (fun k => l.length - k) (fun k => [(2, .box [.rds (II t)]), (5, .v (.int .i64 (cellN (t.length - 1) (l.take k) 0 : Nat))), (8, .rd (I l)), (9, .v (.int .i64 l.length)), (10, .v (.int .i64 k))]) (fun _ => []) 0 (by simp) (by simp only [Try.results92, go_sem, Nat.reduceMul, Nat.reduceLeDiff, Nat.reduceLT, reduceIte, reduceCtorEq, Nat.reduceEqDiff, Nat.reduceSub, Nat.reduceAdd]; simp [cellN]) trivial ?_
  rintro k ⟨hk, hz⟩
  simp only [Try.results92, go_sem, Nat.reduceMul, Nat.reduceLeDiff, Nat.reduceLT, reduceIte, reduceCtorEq, Nat.reduceEqDiff, Nat.reduceSub, Nat.reduceAdd]
  refine ⟨fun h2 => ⟨⟨by omega, by omega⟩, fun h3 => ?_, fun h3 => ?_⟩, fun h2 => ?_⟩
  · rw [if_neg]; exact fun q => q k (by omega) h3
  · refine HereO.call T_ok rfl rfl (order_spec t) (by simp only [go_sem, Nat.reduceMul, Nat.reduceLeDiff, Nat.reduceLT, reduceIte, reduceCtorEq, Nat.reduceEqDiff, Nat.reduceSub, Nat.reduceAdd, List.toList_toArray]) rfl ?_
    simp only [Try.results92, go_sem, Nat.reduceMul, Nat.reduceLeDiff, Nat.reduceLT, reduceIte, reduceCtorEq, Nat.reduceEqDiff, Nat.reduceSub, Nat.reduceAdd]
    obtain ⟨b1, b2, b3, b4, b5⟩ := cell_next hg.1 hg.2.1 hl hi (k := k) (by omega) hz h3
    refine ⟨b1, b2, b3, b4, by unfold InR; omega, k + 1, ⟨by omega, fun j hj => ?_⟩, by omega, ?_⟩
    · by_cases e : j = k
      · rw [e]; exact h3
      · exact hz j (by omega)
    · simp only [List.getD_eq_getElem?_getD] at b5
      simp [b5]
  · have : k = l.length := by omega
    subst this
    rw [if_pos (show NoZ l from hz), List.take_length]
theorem at_spec (t : List (List Int)) (hg : Grp t) (d : Int) (v l : List Int) (hl : l.length ≤ 4) (hi : AreIn t.length l) (hv : v.length = (t.length - 1) ^ l.length) : Spec Try.prog 70 [.agg [.v (.int .i64 d), .rd (I v)], .agg [.rds (II t)], .rd (I l)] (.v (.int .i64 (atV (t.length - 1) v l))) [] := by
  refine Spec.of_code T_ok Try.func70 rfl Try.ntmps70 Try.call70 (Nat.le_of_ble_eq_true rfl) rfl rfl (CodeV_sound T_ok (by kernel_rfl) rfl ?_)
  simp only [Try.results70, go_sem, Nat.reduceMul, Nat.reduceLeDiff, Nat.reduceLT, reduceIte, reduceCtorEq, Nat.reduceEqDiff, Nat.reduceSub, Nat.reduceAdd]
  refine HereO.call T_ok rfl rfl (cell_spec t hg l hl hi) (by simp only [go_sem, Nat.reduceMul, Nat.reduceLeDiff, Nat.reduceLT, reduceIte, reduceCtorEq, Nat.reduceEqDiff, Nat.reduceSub, Nat.reduceAdd, List.toList_toArray]) rfl ?_
  simp only [Try.results70, go_sem, Nat.reduceMul, Nat.reduceLeDiff, Nat.reduceLT, reduceIte, reduceCtorEq, Nat.reduceEqDiff, Nat.reduceSub, Nat.reduceAdd]
  by_cases hz : NoZ l
  · have hb := cell_bound hg.2.1 hl hi (Nat.le_refl _) hz
    rw [List.take_length] at hb
    rw [if_pos hz, atV, if_pos hz]
    refine ⟨fun _ => ⟨⟨by omega, by omega⟩, ?_⟩, fun h => by omega⟩
    simp
  · rw [if_neg hz, atV, if_neg hz]
    exact ⟨fun h => by omega, fun _ => rfl⟩
theorem l03At_spec (t : List (List Int)) (hg : Grp t) (d : Int) (v l : List Int) (hl : l.length ≤ 4) (hi : AreIn t.length l) (hv : v.length = (t.length - 1) ^ l.length) : Spec Try.prog 66 [.agg [.rds (II t)], .agg [.v (.int .i64 d), .rd (I v)], .rd (I l)] (.v (.int .i64 (atV (t.length - 1) v l))) [] := by
  refine Spec.of_code T_ok Try.func66 rfl Try.ntmps66 Try.call66 (Nat.le_of_ble_eq_true rfl) rfl rfl (CodeV_sound T_ok (by kernel_rfl) rfl ?_)
  simp only [Try.results66, go_sem, Nat.reduceMul, Nat.reduceLeDiff, Nat.reduceLT, reduceIte, reduceCtorEq, Nat.reduceEqDiff, Nat.reduceSub, Nat.reduceAdd]
  refine Here.loopV T_ok (fun k => k ≤ l.length ∧ ∀ j, j < k → l.getD j 0 ≠ 0) (fun k => l.length - k) (fun k => [(2, .rd (I l)), (3, .box [.rds (II t)]), (4, .box [.v (.int .i64 d), .rd (I v)]), (7, .v (.int .i64 (cellN (t.length - 1) (l.take k) 0 : Nat))), (8, .v (.int .i64 k))]) (fun _ => []) 0 (by simp) (by simp only [Try.results66, go_sem, Nat.reduceMul, Nat.reduceLeDiff, Nat.reduceLT, reduceIte, reduceCtorEq, Nat.reduceEqDiff, Nat.reduceSub, Nat.reduceAdd]; simp [cellN]) trivial ?_
  rintro k ⟨hk, hz⟩
  simp only [Try.results66, go_sem, Nat.reduceMul, Nat.reduceLeDiff, Nat.reduceLT, reduceIte, reduceCtorEq, Nat.reduceEqDiff, Nat.reduceSub, Nat.reduceAdd]
  refine ⟨fun h2 => ⟨⟨by omega, by omega⟩, fun h3 => ?_, fun h3 => ?_⟩, fun h2 => ?_⟩
  · rw [atV, if_neg]; exact fun q => q k (by omega) h3
  · obtain ⟨b1, b2, b3, b4, b5⟩ := cell_next hg.1 hg.2.1 hl hi (k := k) (by omega) hz h3
    refine Here.draw T_ok mixed_ok (by kernel_rfl) ?_
    simp only [Try.results66, go_sem, Nat.reduceMul, Nat.reduceLeDiff, Nat.reduceLT, reduceIte, reduceCtorEq, Nat.reduceEqDiff, Nat.reduceSub, Nat.reduceAdd]
    refine ⟨_, OpP.call' rfl rfl (l01N_spec t) (by simp only [go_sem, Nat.reduceMul, Nat.reduceLeDiff, Nat.reduceLT, reduceIte, reduceCtorEq, Nat.reduceEqDiff, Nat.reduceSub, Nat.reduceAdd, List.toList_toArray]) rfl, ?_⟩
    simp only [Try.results66, go_sem, Nat.reduceMul, Nat.reduceLeDiff, Nat.reduceLT, reduceIte, reduceCtorEq, Nat.reduceEqDiff, Nat.reduceSub, Nat.reduceAdd]
    refine ⟨b1, b2, ⟨by omega, by omega⟩, b3, b4, by unfold InR; omega, k + 1, ⟨by omega, fun j hj => ?_⟩, by omega, ?_⟩
    · by_cases e : j = k
      · rw [e]; exact h3
      · exact hz j (by omega)
    · simp only [List.getD_eq_getElem?_getD] at b5
      simp [b5]
  · have : k = l.length := by omega
    subst this
    have hb := cell_bound hg.2.1 hl hi (Nat.le_refl _) hz
    rw [List.take_length] at hb ⊢
    rw [atV, if_pos (show NoZ l from hz)]
    refine ⟨⟨by omega, by omega⟩, rfl⟩
def codeV (t : List (List Int)) (m : Int) (u : List Int) (d : Int) (v l : List Int) : Int := if codeC t m u [(d, v)] = 0 then (if (l.length : Int) = d ∧ AreIn t.length l then 0 else 2) else 1
def valV (t : List (List Int)) (m : Int) (u : List Int) (d : Int) (v l : List Int) : Int := if codeV t m u d v l = 0 then atV (t.length - 1) v l else 0
theorem coc_pow {t : List (List Int)} (hg : Grp t) {m d : Int} {v : List Int} (h : Coc t m d v) {k : Nat} (hk : (k : Int) = d) : v.length = (t.length - 1) ^ k := by
  have h1 := h.2.1
  have h0 := hg.1
  subst hk
  rw [Int.toNat_natCast, show (t.length : Int) - 1 = ((t.length - 1 : Nat) : Int) by omega] at h1
  exact_mod_cast h1
theorem implValueOf (t : List (List Int)) (m : Int) (u : List Int) (d : Int) (v l : List Int) (hl : l.length ≤ 1048576) : Spec Try.prog 33 [.agg [.rds (II t)], .agg [.v (.int .i64 m), .rd (I u)], .agg [.v (.int .i64 d), .rd (I v)], .rd (I l)] (.tup [.v (.int .i64 (valV t m u d v l)), .v (.int .i64 (codeV t m u d v l))]) [] := by
  refine Spec.of_code T_ok Try.func33 rfl Try.ntmps33 Try.call33 (Nat.le_of_ble_eq_true rfl) rfl rfl (CodeV_sound T_ok (by kernel_rfl) rfl ?_)
  simp only [Try.results33, go_sem, Nat.reduceMul, Nat.reduceLeDiff, Nat.reduceLT, reduceIte, reduceCtorEq, Nat.reduceEqDiff, Nat.reduceSub, Nat.reduceAdd]
  refine HereO.opP T_ok (OpP.buildA sl2_94 (MM [(d, v)]) rfl rfl (by decide) (by decide) rfl rfl) ?_
  simp only [Try.results33, go_sem, Nat.reduceMul, Nat.reduceLeDiff, Nat.reduceLT, reduceIte, reduceCtorEq, Nat.reduceEqDiff, Nat.reduceSub, Nat.reduceAdd]
  refine HereO.call T_ok rfl rfl (cochainCode_spec t m u [(d, v)] (by simp)) (by simp only [go_sem, Nat.reduceMul, Nat.reduceLeDiff, Nat.reduceLT, reduceIte, reduceCtorEq, Nat.reduceEqDiff, Nat.reduceSub, Nat.reduceAdd, List.toList_toArray]) rfl ?_
  simp only [Try.results33, go_sem, Nat.reduceMul, Nat.reduceLeDiff, Nat.reduceLT, reduceIte, reduceCtorEq, Nat.reduceEqDiff, Nat.reduceSub, Nat.reduceAdd]
  refine ⟨fun h => ?_, fun h => ?_⟩
  · have hc : codeV t m u d v l = 1 := by unfold codeV; rw [if_neg h]
    have := codeC_nz h
    simp [valV, hc, this]
  · obtain ⟨hg, hm, hf⟩ := codeC_ok h
    have hf := Cocs1.1 hf
    have hz : ∀ (h2 : (l.length : Int) = d) (h3 : AreIn t.length l), Spec Try.prog 70 [.agg [.v (.int .i64 d), .rd (I v)], .agg [.rds (II t)], .rd (I l)] (.v (.int .i64 (atV (t.length - 1) v l))) [] := fun h2 h3 => at_spec t hg d v l (by have := hf.1; omega) h3 (coc_pow hg hf h2)
    refine ⟨fun h2 => ?_, fun h2 => ?_⟩
    · refine HereO.call T_ok rfl rfl (order_spec t) (by simp only [go_sem, Nat.reduceMul, Nat.reduceLeDiff, Nat.reduceLT, reduceIte, reduceCtorEq, Nat.reduceEqDiff, Nat.reduceSub, Nat.reduceAdd, List.toList_toArray]) rfl ?_
      simp only [Try.results33, go_sem, Nat.reduceMul, Nat.reduceLeDiff, Nat.reduceLT, reduceIte, reduceCtorEq, Nat.reduceEqDiff, Nat.reduceSub, Nat.reduceAdd]
      refine HereO.call T_ok rfl rfl (areIn_spec t.length l hl) (by simp only [go_sem, Nat.reduceMul, Nat.reduceLeDiff, Nat.reduceLT, reduceIte, reduceCtorEq, Nat.reduceEqDiff, Nat.reduceSub, Nat.reduceAdd, List.toList_toArray]) rfl ?_
      simp only [Try.results33, go_sem, Nat.reduceMul, Nat.reduceLeDiff, Nat.reduceLT, reduceIte, reduceCtorEq, Nat.reduceEqDiff, Nat.reduceSub, Nat.reduceAdd]
      refine ⟨fun h3 => ?_, fun h3 => ?_⟩
      · have hc : codeV t m u d v l = 2 := by unfold codeV; rw [if_pos h, if_neg fun q => h3 q.2]
        simp [valV, hc]
      · have hc : codeV t m u d v l = 0 := by unfold codeV; rw [if_pos h, if_pos ⟨h2, h3⟩]
        refine HereO.call T_ok rfl rfl (hz h2 h3) (by simp only [go_sem, Nat.reduceMul, Nat.reduceLeDiff, Nat.reduceLT, reduceIte, reduceCtorEq, Nat.reduceEqDiff, Nat.reduceSub, Nat.reduceAdd, List.toList_toArray]) rfl ?_
        simp only [Try.results33, go_sem, Nat.reduceMul, Nat.reduceLeDiff, Nat.reduceLT, reduceIte, reduceCtorEq, Nat.reduceEqDiff, Nat.reduceSub, Nat.reduceAdd]
        simp [valV, hc]
    · have hc : codeV t m u d v l = 2 := by unfold codeV; rw [if_pos h, if_neg fun q => h2 q.1]
      simp [valV, hc]
theorem specValueOf (t : List (List Int)) (m : Int) (u : List Int) (d : Int) (v l : List Int) (hl : l.length ≤ 1048576) : Spec Try.prog 31 [.agg [.rds (II t)], .agg [.v (.int .i64 m), .rd (I u)], .agg [.v (.int .i64 d), .rd (I v)], .rd (I l)] (.tup [.v (.int .i64 (valV t m u d v l)), .v (.int .i64 (codeV t m u d v l))]) [] := by
  refine Spec.of_code T_ok Try.func31 rfl Try.ntmps31 Try.call31 (Nat.le_of_ble_eq_true rfl) rfl rfl (CodeV_sound T_ok (by kernel_rfl) rfl ?_)
  simp only [Try.results31, go_sem, Nat.reduceMul, Nat.reduceLeDiff, Nat.reduceLT, reduceIte, reduceCtorEq, Nat.reduceEqDiff, Nat.reduceSub, Nat.reduceAdd]
  refine HereO.opP T_ok (OpP.buildA sl2_94 (MM [(d, v)]) rfl rfl (by decide) (by decide) rfl rfl) ?_
  simp only [Try.results31, go_sem, Nat.reduceMul, Nat.reduceLeDiff, Nat.reduceLT, reduceIte, reduceCtorEq, Nat.reduceEqDiff, Nat.reduceSub, Nat.reduceAdd]
  refine HereO.call T_ok rfl rfl (l03Code_spec t m u [(d, v)] (by simp)) (by simp only [go_sem, Nat.reduceMul, Nat.reduceLeDiff, Nat.reduceLT, reduceIte, reduceCtorEq, Nat.reduceEqDiff, Nat.reduceSub, Nat.reduceAdd, List.toList_toArray]) rfl ?_
  simp only [Try.results31, go_sem, Nat.reduceMul, Nat.reduceLeDiff, Nat.reduceLT, reduceIte, reduceCtorEq, Nat.reduceEqDiff, Nat.reduceSub, Nat.reduceAdd]
  refine ⟨fun h => ?_, fun h => ⟨fun _ => ?_, fun q => absurd q h⟩⟩
  · obtain ⟨hg, hm, hf⟩ := codeC_ok h
    have hf := Cocs1.1 hf
    refine ⟨fun h2 => ?_, fun h2 => ⟨fun _ => ?_, fun q => absurd q (by decide)⟩⟩
    · refine HereO.call T_ok rfl rfl (l01Elements_spec t l hl) (by simp only [go_sem, Nat.reduceMul, Nat.reduceLeDiff, Nat.reduceLT, reduceIte, reduceCtorEq, Nat.reduceEqDiff, Nat.reduceSub, Nat.reduceAdd, List.toList_toArray]) rfl ?_
      simp only [Try.results31, go_sem, Nat.reduceMul, Nat.reduceLeDiff, Nat.reduceLT, reduceIte, reduceCtorEq, Nat.reduceEqDiff, Nat.reduceSub, Nat.reduceAdd]
      refine ⟨fun h3 => ⟨fun _ => ?_, fun q => absurd q (by decide)⟩, fun h3 => ⟨fun q => absurd h q, fun _ => ?_⟩⟩
      · have hc : codeV t m u d v l = 2 := by
          unfold codeV
          rw [if_pos h, if_neg]
          exact fun q => h3 (by unfold codeE; rw [if_pos hg, if_pos q.2])
        simp [valV, hc]
      · have h4 := (codeE_ok h3).2
        have hc : codeV t m u d v l = 0 := by unfold codeV; rw [if_pos h, if_pos ⟨h2, h4⟩]
        refine HereO.call T_ok rfl rfl (l03At_spec t hg d v l (by have := hf.1; omega) h4 (coc_pow hg hf h2)) (by simp only [go_sem, Nat.reduceMul, Nat.reduceLeDiff, Nat.reduceLT, reduceIte, reduceCtorEq, Nat.reduceEqDiff, Nat.reduceSub, Nat.reduceAdd, List.toList_toArray]) rfl ?_
        simp only [Try.results31, go_sem, Nat.reduceMul, Nat.reduceLeDiff, Nat.reduceLT, reduceIte, reduceCtorEq, Nat.reduceEqDiff, Nat.reduceSub, Nat.reduceAdd]
        simp [valV, hc]
    · have hc : codeV t m u d v l = 2 := by unfold codeV; rw [if_pos h, if_neg fun q => h2 q.1]
      simp [valV, hc]
  · have hc : codeV t m u d v l = 1 := by unfold codeV; rw [if_neg h]
    have := codeC_nz h
    simp [valV, hc, this]
end Go.Proofs.Ytifpnficdjbljaa
