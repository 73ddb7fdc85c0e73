/- Subgroups sorted: the order of sets; plain laws; l01Before; Contracts: the subgroups of a group by the reference; Contracts: the draw of a group and of a subgroup of it. -/
import Derived.Test.YtcjhojdlfnpgjaaGreatK25
import Derived.Test.YtcjhojdlfnpgjaaGreatK26
import Derived.Test.YtcjhojdlfnpgjaaGreatK24
set_option linter.unusedVariables false
set_option linter.unusedSimpArgs false
set_option maxRecDepth 100000
namespace Go.Proofs.YtcjhojdlfnpgjaaGreat
open Go.RowKit
def rowB : List Int → List Int → Bool
  | x :: a, y :: b => if x = y then rowB a b else decide (x < y)
  | _, _ => false
def bfr (a b : List Int) : Bool := if a.length = b.length then rowB a b else decide (a.length < b.length)
theorem rowB_self : ∀ a : List Int, rowB a a = false
  | [] => rfl
  | x :: a => by simp only [rowB, if_true, rowB_self a]
theorem rowB_trans : ∀ {a b c : List Int}, a.length = b.length → b.length = c.length → rowB a b = true → rowB b c = true → rowB a c = true
  | [], [], [], _, _, h, _ => by simp [rowB] at h
  | x :: a, y :: b, z :: c, h1, h2, h3, h4 => by
    simp only [rowB] at h3 h4 ⊢
    by_cases e1 : x = y
    · subst e1
      rw [if_pos rfl] at h3
      by_cases e2 : x = z
      · rw [if_pos e2] at h4 ⊢; exact rowB_trans (by simpa using h1) (by simpa using h2) h3 h4
      · rw [if_neg e2] at h4 ⊢; exact h4
    · rw [if_neg e1] at h3
      have h3' := of_decide_eq_true h3
      by_cases e2 : y = z
      · subst e2; rw [if_neg e1]; exact h3
      · rw [if_neg e2] at h4
        have h4' := of_decide_eq_true h4
        rw [if_neg (by omega)]
        exact decide_eq_true (by omega)
theorem rowB_total : ∀ {a b : List Int}, a.length = b.length → a = b ∨ rowB a b = true ∨ rowB b a = true
  | [], [], _ => .inl rfl
  | x :: a, y :: b, h => by
    simp only [rowB]
    by_cases e : x = y
    · subst e
      simp only [if_true]
      rcases rowB_total (a := a) (b := b) (by simpa using h) with h | h | h
      · exact .inl (by rw [h])
      · exact .inr (.inl h)
      · exact .inr (.inr h)
    · rw [if_neg e, if_neg (Ne.symm e)]
      rcases Int.lt_or_gt_of_ne e with h | h
      · exact .inr (.inl (decide_eq_true h))
      · exact .inr (.inr (decide_eq_true h))
theorem bfr_self (a : List Int) : bfr a a = false := by unfold bfr; rw [if_pos rfl, rowB_self]
theorem bfr_trans {a b c : List Int} (h1 : bfr a b = true) (h2 : bfr b c = true) : bfr a c = true := by
  unfold bfr at *
  by_cases e1 : a.length = b.length
  · rw [if_pos e1] at h1
    by_cases e2 : b.length = c.length
    · rw [if_pos e2] at h2; rw [if_pos (e1.trans e2)]; exact rowB_trans e1 e2 h1 h2
    · rw [if_neg e2] at h2; have := of_decide_eq_true h2; rw [if_neg (by omega)]; exact decide_eq_true (by omega)
  · rw [if_neg e1] at h1
    have h1' := of_decide_eq_true h1
    by_cases e2 : b.length = c.length
    · rw [if_neg (by omega)]; exact decide_eq_true (by omega)
    · rw [if_neg e2] at h2; have := of_decide_eq_true h2; rw [if_neg (by omega)]; exact decide_eq_true (by omega)
theorem bfr_total (a b : List Int) : a = b ∨ bfr a b = true ∨ bfr b a = true := by
  unfold bfr
  by_cases e : a.length = b.length
  · rw [if_pos e, if_pos e.symm]; exact rowB_total e
  · rw [if_neg e, if_neg (Ne.symm e)]
    rcases Nat.lt_or_gt_of_ne e with h | h
    · exact .inr (.inl (decide_eq_true h))
    · exact .inr (.inr (decide_eq_true h))
theorem bfr_asymm {a b : List Int} (h : bfr a b = true) : bfr b a = false := by
  cases q : bfr b a with
  | false => rfl
  | true => have := bfr_trans h q; rw [bfr_self] at this; cases this
def bfe (a b : List Int) : Bool := bfr a b || decide (a = b)
theorem bfe_of {a b : List Int} (h : bfr b a = false) : bfe a b = true := by
  unfold bfe
  rcases bfr_total a b with h1 | h1 | h1
  · rw [decide_eq_true h1, Bool.or_true]
  · rw [h1, Bool.true_or]
  · rw [h1] at h; cases h
theorem bfe_trans (a b c : List Int) (h1 : bfe a b = true) (h2 : bfe b c = true) : bfe a c = true := by
  unfold bfe at *
  rw [Bool.or_eq_true, decide_eq_true_iff] at *
  rcases h1 with h1 | rfl
  · rcases h2 with h2 | rfl
    · exact .inl (bfr_trans h1 h2)
    · exact .inl h1
  · exact h2
theorem bfe_total (a b : List Int) : (bfe a b || bfe b a) = true := by
  rcases bfr_total a b with h | h | h
  · subst h; simp [bfe]
  · simp [bfe, h]
  · simp [bfe, h]
theorem bfe_anti {a b : List Int} (h1 : bfe a b = true) (h2 : bfe b a = true) : a = b := by
  unfold bfe at *
  rw [Bool.or_eq_true, decide_eq_true_iff] at *
  rcases h1 with h1 | h1
  · rcases h2 with h2 | h2
    · rw [bfr_asymm h1] at h2; cases h2
    · exact h2.symm
  · exact h1
noncomputable def subsA (t : List (List Int)) (N : Nat) : List (List Int) := ((List.range N).filter fun m => decide (closeN t m = m)).map bitsL
noncomputable def subsL (t : List (List Int)) : List (List Int) := (subsA t (2 ^ t.length)).mergeSort bfe
theorem subsL_eq {t : List (List Int)} {L : List (List Int)} (hp : L.Perm (subsA t (2 ^ t.length))) (hs : L.Pairwise fun a b => bfe a b = true) : L = subsL t := by
  have h1 : (subsL t).Perm (subsA t (2 ^ t.length)) := List.mergeSort_perm _ _
  have h2 : (subsL t).Pairwise fun a b => bfe a b = true := List.pairwise_mergeSort bfe_trans bfe_total _
  exact List.Perm.eq_of_pairwise (fun a b _ _ h3 h4 => bfe_anti h3 h4) hs h2 (hp.trans h1.symm)
theorem closed_odd {t : List (List Int)} {m : Nat} (h : closeN t m = m) : m % 2 = 1 := by
  have : (closeN t m).testBit 0 = true := by
    rw [closeN, maskN_bit, Bool.and_eq_true, genP_iff]
    exact ⟨by decide, .zero⟩
  rw [h, Nat.testBit_zero] at this
  simpa using this
theorem subsA_one (t : List (List Int)) : subsA t 1 = [] := by
  unfold subsA
  have : ¬ closeN t 0 = 0 := fun h => by have := closed_odd h; omega
  simp [List.range_succ, this]
theorem subsA_step (t : List (List Int)) {m : Nat} (hm : m % 2 = 1) : subsA t (m + 2) = subsA t m ++ (if closeN t m = m then [bitsL m] else []) := by
  unfold subsA
  have : ¬ closeN t (m + 1) = m + 1 := fun h => by have := closed_odd h; omega
  rw [List.range_succ, List.range_succ, List.filter_append, List.filter_append, List.map_append, List.map_append]
  simp only [List.filter_cons, List.filter_nil, decide_eq_false this]
  by_cases h : closeN t m = m
  · simp [h]
  · simp [h]
theorem subsA_even (t : List (List Int)) {m : Nat} (hm : m % 2 = 0) : subsA t (m + 1) = subsA t m := by
  unfold subsA
  have : ¬ closeN t m = m := fun h => by have := closed_odd h; omega
  rw [List.range_succ, List.filter_append, List.map_append]
  simp [this]
theorem subsA_len (t : List (List Int)) (N : Nat) : (subsA t N).length ≤ N := by
  unfold subsA
  rw [List.length_map]
  exact Nat.le_trans (List.length_filter_le _ _) (by simp)
theorem subsA_row {t : List (List Int)} {N : Nat} {r : List Int} (h : r ∈ subsA t N) : r.length ≤ 8 := by
  unfold subsA at h
  obtain ⟨m, _, rfl⟩ := List.mem_map.1 h
  exact bitsL_len m
theorem ins_sorted {L : List (List Int)} {x : List Int} {p : Nat} (hs : L.Pairwise fun a b => bfe a b = true) (hp : p ≤ L.length) (h1 : ∀ j, p ≤ j → j < L.length → bfr x (L.getD j []) = true) (h2 : p = 0 ∨ bfr x (L.getD (p - 1) []) = false) :
    (L.take p ++ x :: L.drop p).Pairwise fun a b => bfe a b = true := by
  have hx : ∀ a ∈ L.take p, bfe a x = true := by
    intro a ha
    rcases h2 with h2 | h2
    · subst h2; simp at ha
    · have h3 := bfe_of h2
      obtain ⟨j, hj, rfl⟩ := List.mem_iff_getElem.1 ha
      simp only [List.length_take] at hj
      rw [List.getElem_take]
      by_cases e : j = p - 1
      · subst e
        rw [List.getD_eq_getElem?_getD, List.getElem?_eq_getElem (by omega), Option.getD_some] at h3
        exact h3
      · have h4 := List.pairwise_iff_getElem.1 hs j (p - 1) (by omega) (by omega) (by omega)
        rw [List.getD_eq_getElem?_getD, List.getElem?_eq_getElem (by omega), Option.getD_some] at h3
        exact bfe_trans _ _ _ h4 h3
  have hy : ∀ b ∈ L.drop p, bfe x b = true := by
    intro b hb
    obtain ⟨j, hj, rfl⟩ := List.mem_iff_getElem.1 hb
    simp only [List.length_drop] at hj
    have := h1 (p + j) (by omega) (by omega)
    rw [List.getD_eq_getElem?_getD, List.getElem?_eq_getElem (by omega), Option.getD_some] at this
    rw [List.getElem_drop]
    unfold bfe
    rw [this, Bool.true_or]
  rw [← List.take_append_drop p L, List.pairwise_append] at hs
  rw [List.pairwise_append, List.pairwise_cons]
  refine ⟨hs.1, ⟨hy, hs.2.1⟩, fun a ha b hb => ?_⟩
  rcases List.mem_cons.1 hb with rfl | hb
  · exact hx a ha
  · exact hs.2.2 a ha b hb
theorem ins_perm (L : List (List Int)) (x : List Int) (p : Nat) : (L.take p ++ x :: L.drop p).Perm (L ++ [x]) := by
  have h1 : (L.take p ++ x :: L.drop p).Perm (x :: (L.take p ++ L.drop p)) := List.perm_middle
  rw [List.take_append_drop] at h1
  exact h1.trans (List.perm_append_singleton x L).symm
def GapT (L M : List (List Int)) (p : Nat) : Prop := M.length = L.length + 1 ∧ p ≤ L.length ∧ (∀ j, j < p → M.getD j [] = L.getD j []) ∧ ∀ j, p < j → j ≤ L.length → M.getD j [] = L.getD (j - 1) []
theorem gap_0 (L : List (List Int)) : GapT L (L ++ [[]]) L.length := by
  refine ⟨by simp, Nat.le_refl _, fun j hj => ?_, fun j h1 h2 => by omega⟩
  rw [List.getD_eq_getElem?_getD, List.getD_eq_getElem?_getD, List.getElem?_append_left hj]
theorem gap_step {L M : List (List Int)} {p : Nat} (h : GapT L M p) (hp : 0 < p) : GapT L (M.set p (M.getD (p - 1) [])) (p - 1) := by
  obtain ⟨h1, h2, h3, h4⟩ := h
  refine ⟨by rw [List.length_set]; exact h1, by omega, fun j hj => ?_, fun j hj hl => ?_⟩
  · rw [← h3 j (by omega), List.getD_eq_getElem?_getD, List.getElem?_set, if_neg (by omega), List.getD_eq_getElem?_getD]
  · by_cases e : p = j
    · subst e
      rw [List.getD_eq_getElem?_getD, List.getElem?_set, if_pos rfl, if_pos (by omega), Option.getD_some, h3 _ (by omega)]
    · rw [← h4 j (by omega) hl, List.getD_eq_getElem?_getD, List.getElem?_set, if_neg e, List.getD_eq_getElem?_getD]
theorem gap_end {L M : List (List Int)} {p : Nat} (h : GapT L M p) (x : List Int) : M.set p x = L.take p ++ x :: L.drop p := by
  obtain ⟨h1, h2, h3, h4⟩ := h
  have gd : ∀ {l : List (List Int)} {j : Nat} (hj : j < l.length), l[j]? = some (l.getD j []) := fun hj => by rw [List.getD_eq_getElem?_getD, List.getElem?_eq_getElem hj, Option.getD_some]
  refine List.ext_getElem? fun j => ?_
  by_cases hj : j ≤ L.length
  · rw [List.getElem?_set]
    by_cases e : p = j
    · subst e
      rw [if_pos rfl, if_pos (by omega), List.getElem?_append_right (by simp; omega)]
      simp [Nat.min_eq_left h2]
    · rw [if_neg e, gd (by omega)]
      rcases Nat.lt_or_gt_of_ne e with q | q
      · rw [h4 j q hj, List.getElem?_append_right (by simp; omega), List.length_take, Nat.min_eq_left h2, show j - p = (j - 1 - p) + 1 by omega, List.getElem?_cons_succ, List.getElem?_drop, show p + (j - 1 - p) = j - 1 by omega, gd (by omega)]
      · rw [h3 j q, List.getElem?_append_left (by simp; omega), List.getElem?_take_of_lt q, gd (by omega)]
  · rw [List.getElem?_eq_none (by simp; omega), List.getElem?_eq_none (by simp; omega)]
def SubsI (t : List (List Int)) (m : Nat) (L : List (List Int)) : Prop := m % 2 = 1 ∧ m ≤ 2 ^ t.length + 1 ∧ L.Perm (subsA t m) ∧ L.Pairwise fun a b => bfe a b = true
theorem rowB_drop {a b : List Int} {k : Nat} (hl : a.length = b.length) (hk : k < a.length) : rowB (a.drop k) (b.drop k) = if a.getD k 0 = b.getD k 0 then rowB (a.drop (k + 1)) (b.drop (k + 1)) else decide (a.getD k 0 < b.getD k 0) := by
  rw [List.drop_eq_getElem_cons hk, List.drop_eq_getElem_cons (show k < b.length by omega)]
  simp only [rowB, List.getD_eq_getElem?_getD, List.getElem?_eq_getElem hk, List.getElem?_eq_getElem (show k < b.length by omega), Option.getD_some]
theorem l01Before_spec (a b : List Int) (ha : a.length ≤ 1048576) (hb : b.length ≤ 1048576) : Spec Tryz.prog 103 [.rd (I a), .rd (I b)] (.v (.bool (bfr a b))) [] := by
  refine Spec.of_code T_ok Tryz.func103 rfl Tryz.ntmps103 Tryz.call103 (Nat.le_of_ble_eq_true rfl) rfl rfl (CodeV_sound T_ok (by kernel_rfl) rfl ?_)
  refine WW ?_
  refine ⟨fun h => ?_, fun h => ?_⟩
  · have hne : ¬ a.length = b.length := fun q => h (by rw [q])
    unfold bfr
    rw [if_neg hne]
    simp
  · have hlen : a.length = b.length := by omega
    have hbf : bfr a b = rowB a b := by unfold bfr; rw [if_pos hlen]
    rw [hbf]
    refine Here.loopV T_ok (fun k => k ≤ a.length ∧ rowB a b = rowB (a.drop k) (b.drop k)) (fun k => a.length - k) (fun k => [(0, .rd (I a)), (1, .rd (I b)), (5, .v (.int .i64 k))]) (fun _ => []) 0 (by simp) (by simp only [go_sem, Nat.reduceMul, Nat.reduceLeDiff, Nat.reduceLT, reduceIte, reduceCtorEq, Nat.reduceEqDiff, Nat.reduceSub, Nat.reduceAdd]; simp) trivial ?_
    rintro k ⟨hk, hj⟩
    refine WW ?_
    refine ⟨fun h2 => ?_, fun h2 => ?_⟩
    · have hd := rowB_drop hlen (k := k) (by omega)
      refine Here.draw T_ok mixed_ok (by kernel_rfl) ?_
      refine WW ?_
      refine ⟨⟨by omega, by omega⟩, ⟨by omega, by omega⟩, fun h3 => ?_, fun h3 => ?_⟩
      · refine Here.draw T_ok mixed_ok (by kernel_rfl) ?_
        refine WW ?_
        rw [hj, hd, if_neg h3]
        refine ⟨⟨by omega, by omega⟩, ⟨by omega, by omega⟩, ?_⟩
        rfl
      · exact ⟨by unfold InR; omega, k + 1, ⟨by omega, by rw [hj, hd, if_pos h3]⟩, by omega, by push_cast; rfl⟩
    · obtain rfl : k = a.length := by omega
      rw [hj, List.drop_of_length_le (Nat.le_refl _)]
      rfl
end Go.Proofs.YtcjhojdlfnpgjaaGreat
namespace Go.Proofs.YtcjhojdlfnpgjaaGreat
open Go.RowKit
theorem shl_fact8 : ∀ x : Nat, x < 9 → shlW .i64 1 (IntKind.u64.wrap (x : Int)) = ((2 ^ x : Nat) : Int) ∧ IntKind.u64.wrap (x : Int) = x := by rw [shlW_eq]; decide +kernel
theorem II_setGet (M : List (List Int)) (j : Nat) : (II M).set j (I (M.getD j [])) = II M := by
  rw [II_set]
  congr 1
  refine List.ext_getElem? fun x => ?_
  rw [List.getElem?_set]
  by_cases e : j = x
  · subst e
    by_cases h : j < M.length
    · rw [if_pos rfl, if_pos h, List.getD_eq_getElem?_getD, List.getElem?_eq_getElem h, Option.getD_some]
    · rw [if_pos rfl, if_neg h, List.getElem?_eq_none (by omega)]
  · rw [if_neg e]
theorem gapL {L M : List (List Int)} {p : Nat} (h : GapT L M p) (hr : ∀ r ∈ L, r.length ≤ 8) (hp : 0 < p) : (M.getD (p - 1) []).length ≤ 8 := by
  rw [h.2.2.1 _ (by omega)]
  refine hr _ ?_
  rw [List.getD_eq_getElem?_getD, List.getElem?_eq_getElem (by have := h.2.1; omega), Option.getD_some]
  exact List.getElem_mem _
theorem l01Subgroups_spec (t : List (List Int)) (hg : Grp t) : Spec Tryz.prog 84 [.agg [.rds (II t)]] (.own 0) [.rows 27 2 (II (subsL t))] := by
  have h8 := hg.2.1
  have hpw : 2 ^ t.length ≤ 256 := by have := Nat.pow_le_pow_right (n := 2) (by decide) h8; exact this
  have hev : 2 ^ t.length % 2 = 0 := by have := hg.1; rw [show t.length = (t.length - 1) + 1 by omega, Nat.pow_succ]; omega
  have hsh := shl_fact8 t.length (by omega)
  refine Spec.of_code T_ok Tryz.func84 rfl Tryz.ntmps84 Tryz.call84 (Nat.le_of_ble_eq_true rfl) rfl rfl (CodeV_sound T_ok (by kernel_rfl) rfl ?_)
  refine WW ?_
  refine HereO.buildRow T_ok 120 [] rfl rfl rfl (by decide) rfl rfl rfl (by decide) ?_
  refine WW ?_
  refine HereV.conv (Conv.rows (id := 120) (e := 27) 2 0 (by first | rfl | (simp only [go_sem, Nat.reduceMul, Nat.reduceLeDiff, Nat.reduceLT, reduceIte, reduceCtorEq, Nat.reduceEqDiff, Nat.reduceSub, Nat.reduceAdd]; rfl))) ?_
  refine Here.loopV T_ok (κ := Nat × List (List Int)) (fun s => SubsI t s.1 s.2) (fun s => 2 ^ t.length + 2 - s.1) (fun s => [(1, .box [.rds (II t)]), (3, .own 120), (4, .v (.int .i64 s.1))]) (fun s => [(120, .rows 27 2 (II s.2))]) (1, []) ⟨by decide, by have := Nat.two_pow_pos t.length; dsimp only; omega, by rw [subsA_one], by simp⟩ (by simp only [go_sem, Nat.reduceMul, Nat.reduceLeDiff, Nat.reduceLT, reduceIte, reduceCtorEq, Nat.reduceEqDiff, Nat.reduceSub, Nat.reduceAdd]; simp) (by simp only [go_sem, Nat.reduceMul, Nat.reduceLeDiff, Nat.reduceLT, reduceIte, reduceCtorEq, Nat.reduceEqDiff, Nat.reduceSub, Nat.reduceAdd]; first | done | simp [II]) ?_
  rintro ⟨m, L⟩ ⟨hm, hm2, hp, hs⟩
  dsimp only at hm hm2 hp hs ⊢
  have hLl : L.length ≤ 257 := by have := hp.length_eq; have := subsA_len t m; omega
  have hLr : ∀ r ∈ L, r.length ≤ 8 := fun r hr => subsA_row (hp.mem_iff.1 hr)
  refine WW ?_
  refine HereO.call T_ok rfl rfl (l01N_spec t) SA rfl ?_
  refine WW ?_
  rw [hsh.1]
  refine ⟨fun h2 => ?_, fun h2 => ?_⟩
  · have hm1 : m < 2 ^ t.length := by omega
    refine HereO.call T_ok rfl rfl (l01Closed_spec t hg m hm1) SA rfl ?_
    refine WW ?_
    refine ⟨fun h3 => ?_, fun h3 => ?_⟩
    · have hne : ¬ closeN t m = m := fun q => h3 (by rw [q])
      exact ⟨by unfold InR; omega, (m + 2, L), ⟨by dsimp only; omega, by dsimp only; omega, by dsimp only; rw [subsA_step t hm, if_neg hne, List.append_nil]; exact hp, hs⟩, by dsimp only; omega, by push_cast; rfl, rfl⟩
    · refine HereO.callOwn T_ok 22 rfl rfl (l01List_spec m (by omega)) SA rfl (by simp) rfl ?_
      refine WW ?_
      refine HereO.buildRowL T_ok 150 ([.own 1352]) rfl rfl rfl (by decide) rfl SS rfl (by decide) SS ?_
      refine WW ?_
      refine HereO.appendHole T_ok (id := 120) (j := 150) (i := 1352) rfl rfl (by decide) SS (by decide) SS SS SS SS (by decide) (by decide) (by rw [II_len]; omega) ?_
      refine WW ?_
      have hcl : closeN t m = m := by omega
      have fin : ∀ (p : Nat) (M : List (List Int)), GapT L M p → (∀ j, p ≤ j → j < L.length → bfr (bitsL m) (L.getD j []) = true) → (p = 0 ∨ bfr (bitsL m) (L.getD (p - 1) []) = false) → (II M).set p (I (bitsL m)) = II (L.take p ++ bitsL m :: L.drop p) ∧ SubsI t (m + 2) (L.take p ++ bitsL m :: L.drop p) := fun p M hG hb h1 =>
        ⟨by rw [II_set, gap_end hG], by omega, by omega, by rw [subsA_step t hm, if_pos hcl]; exact (ins_perm L _ p).trans (hp.append_right _), ins_sorted hs hG.2.1 hb h1⟩
      refine Here.loopV T_ok (κ := Nat × List (List Int)) (fun s => GapT L s.2 s.1 ∧ ∀ j, s.1 ≤ j → j < L.length → bfr (bitsL m) (L.getD j []) = true) (fun s => s.1) (fun s => [(1, .box [.rds (II t)]), (3, .own 120), (4, .v (.int .i64 m)), (5, .own 1352), (6, .v (.int .i64 s.1))]) (fun s => [(120, .gap 27 2 (II s.2) s.1), (1352, .row 2 (I (bitsL m)))]) (L.length, L ++ [[]]) ⟨gap_0 L, fun j h1 h2 => by dsimp only at h1; omega⟩ (by simp only [go_sem, Nat.reduceMul, Nat.reduceLeDiff, Nat.reduceLT, reduceIte, reduceCtorEq, Nat.reduceEqDiff, Nat.reduceSub, Nat.reduceAdd]; first | done | simp [II]) (by simp only [go_sem, Nat.reduceMul, Nat.reduceLeDiff, Nat.reduceLT, reduceIte, reduceCtorEq, Nat.reduceEqDiff, Nat.reduceSub, Nat.reduceAdd]; first | done | simp [II, I]) ?_
      rintro ⟨p, M⟩ ⟨hG, hb⟩
      dsimp only at hG hb ⊢
      have hM := hG.1
      have hpL := hG.2.1
      have hbl := bitsL_len m
      refine WW ?_
      refine ⟨fun h4 => ?_, fun h4 => ?_⟩
      · have hM8 := gapL hG hLr (p := p) (by omega)
        have hMp : M.getD (p - 1) [] = L.getD (p - 1) [] := hG.2.2.1 _ (by omega)
        have hpn : ((p : Int) - 1).toNat = p - 1 := by omega
        refine ⟨by unfold InR; omega, ?_⟩
        refine HereO.opP T_ok (OpP.indexGap T_ok rfl rfl rfl rfl rfl (by omega) (by rw [II_len]; omega)) ?_
        refine WW ?_
        rw [hpn]
        refine HereO.openTwo T_ok 200 rfl rfl rfl rfl (by omega) (by rw [II_len]; omega) (by decide) (by decide) ?_
        rw [II_get]
        refine WW ?_
        refine HereO.call T_ok rfl rfl (l01Before_spec (bitsL m) (M.getD (p - 1) []) (by omega) (by omega)) SA rfl ?_
        refine WW ?_
        refine ⟨fun h5 => ?_, fun h5 => ?_⟩
        · refine ⟨by unfold InR; omega, ?_⟩
          refine HereO.conv (Conv.shutTwo 200 (id := 120) (e := 27) (e' := 2) (i := p) (k := p - 1) (tt := II M) (vs := I (M.getD (p - 1) [])) (by decide) (by omega) rfl rfl) ?_
          rw [II_setGet]
          refine HereO.opP T_ok (OpP.indexGap T_ok rfl rfl rfl rfl rfl (by omega) (by rw [II_len]; omega)) ?_
          refine WW ?_
          rw [hpn]
          refine HereO.openTwo T_ok 201 rfl rfl rfl rfl (by omega) (by rw [II_len]; omega) (by decide) (by decide) ?_
          rw [II_get]
          refine WW ?_
          refine HereO.opP T_ok (OpP.indexTwo T_ok rfl rfl rfl rfl rfl (by omega) (by rw [II_len]; omega)) ?_
          refine WW ?_
          refine HereO.storeMove T_ok (i := p) (m := p - 1) rfl rfl rfl rfl rfl rfl (by decide) (by omega) ?_
          rw [II_set]
          refine WW ?_
          exact ⟨by unfold InR; omega, (p - 1, M.set p (M.getD (p - 1) [])), ⟨gap_step hG (by omega), fun j hj hl => by
            by_cases e : j = p - 1
            · subst e; rw [← hMp]; exact h5
            · exact hb j (by dsimp only at hj; omega) hl⟩, by dsimp only; omega, by dsimp only; omega, rfl⟩
        · obtain ⟨f1, f2⟩ := fin p M hG hb (.inr (by rw [← hMp]; exact h5))
          refine HereO.conv (Conv.shutTwo 200 (id := 120) (e := 27) (e' := 2) (i := p) (k := p - 1) (tt := II M) (vs := I (M.getD (p - 1) [])) (by decide) (by omega) rfl rfl) ?_
          rw [II_setGet]
          refine HereO.opP T_ok (OpP.indexGap T_ok rfl rfl rfl rfl rfl (by omega) (by rw [II_len]; omega)) ?_
          refine WW ?_
          refine HereO.storeFill T_ok (i := p) rfl rfl rfl rfl rfl rfl (by decide) ?_
          rw [f1]
          refine WW ?_
          exact ⟨by unfold InR; omega, (m + 2, L.take p ++ bitsL m :: L.drop p), f2, by dsimp only; omega, by push_cast; rfl, rfl⟩
      · obtain rfl : p = 0 := by omega
        obtain ⟨f1, f2⟩ := fin 0 M hG hb (.inl rfl)
        refine HereO.opP T_ok (OpP.indexGap T_ok rfl rfl rfl rfl rfl (by omega) (by rw [II_len]; omega)) ?_
        refine WW ?_
        refine HereO.storeFill T_ok (i := 0) rfl rfl rfl rfl rfl rfl (by decide) ?_
        rw [f1]
        refine WW ?_
        exact ⟨by unfold InR; omega, (m + 2, L.take 0 ++ bitsL m :: L.drop 0), f2, by dsimp only; omega, by push_cast; rfl, rfl⟩
  · obtain rfl : m = 2 ^ t.length + 1 := by omega
    rw [subsA_even t hev] at hp
    refine RetT.one 120 SE rfl ?_
    refine WW ?_
    rw [subsL_eq hp hs]
end Go.Proofs.YtcjhojdlfnpgjaaGreat
namespace Go.Proofs.YtcjhojdlfnpgjaaGreat
open Go.RowKit
theorem subs_pos {t : List (List Int)} (hg : Grp t) : 0 < (subsL t).length := by
  have hS : AreIn t.length ([] : List Int) := fun j hj => by simp at hj
  have hin : AreIn t.length (genL t []) := fun j hj => (mem_genL.1 (getD_mem hj 0)).1
  have hid : genL t (genL t []) = genL t [] := (genL_eq (genL_asc t []) fun x => by
    rw [mem_genL]
    exact ⟨fun q => ⟨q.1, gen_of hg hin (mem_genL.2 q)⟩, fun q => ⟨q.1, gen_idem hg hS (fun a ha => ⟨(mem_genL.1 ha).1.1, (mem_genL.1 ha).2⟩) q.2⟩⟩).symm
  have hc : closeN t (bitsM (genL t [])) = bitsM (genL t []) := (sub_iff hg hin (genL_asc t [])).2 hid
  have hm : bitsL (bitsM (genL t [])) ∈ subsA t (2 ^ t.length) := by
    unfold subsA
    exact List.mem_map.2 ⟨_, List.mem_filter.2 ⟨List.mem_range.2 (bitsM_lt hg.2.1 hin), decide_eq_true hc⟩, rfl⟩
  unfold subsL
  rw [List.length_mergeSort]
  exact List.length_pos_of_mem hm
theorem subs_row {t : List (List Int)} {j : Nat} (hj : j < (subsL t).length) : ((subsL t).getD j []).length ≤ 8 := by
  rw [List.getD_eq_getElem?_getD, List.getElem?_eq_getElem hj, Option.getD_some]
  have h1 := List.getElem_mem hj
  unfold subsL at h1
  exact subsA_row ((List.mergeSort_perm _ _).mem_iff.1 h1)
noncomputable def sgA (bs : List Int) (t : List (List Int)) (s : Int × Int) : List Int × Int × Int := if (nx bs 10 (nx bs (subsL t).length s).2).1 = 0 then dsV bs (nx bs 10 (nx bs (subsL t).length s).2).2 t.length else ((subsL t).getD (nx bs (subsL t).length s).1.toNat [], (nx bs 10 (nx bs (subsL t).length s).2).2)
noncomputable def sgV (bs : List Int) : List (List Int) × List Int := ((badV bs (drG bs nms (src0 bs)).1 (sgA bs (drG bs nms (src0 bs)).1 (drG bs nms (src0 bs)).2).2).1, (sgA bs (drG bs nms (src0 bs)).1 (drG bs nms (src0 bs)).2).1)
theorem sgA_ok {bs : List Int} (hb : Bytes bs) {t : List (List Int)} (hg : Grp t) {s : Int × Int} (hs : At bs s) : (sgA bs t s).1.length ≤ 9 ∧ At bs (sgA bs t s).2 := by
  have h8 := hg.2.1
  have hp := subs_pos hg
  obtain ⟨a1, a2, a3⟩ := nx_ok hb ((subsL t).length : Nat) hs
  have a2' := a2 (by omega)
  obtain ⟨_, _, b3⟩ := nx_ok hb 10 a3
  obtain ⟨d1, d2⟩ := dsV_ok hb b3 t.length
  unfold sgA
  split
  · exact ⟨by omega, d2⟩
  · exact ⟨by have := subs_row (t := t) (j := (nx bs (subsL t).length s).1.toNat) (by omega); dsimp only; omega, b3⟩
theorem sgV_ok {bs : List Int} (hb : Bytes bs) : Sp (sgV bs).1 ∧ (sgV bs).2.length ≤ 9 := by
  have h0 := src0_at bs
  have hg := drG_grp hb (names := nms) (by decide) (fun k hk => (nms_fact k hk).2.1) h0
  obtain ⟨h1, h2⟩ := drG_ok hb (names := nms) (by decide) (fun k hk => (nms_fact k hk).2.1) h0
  obtain ⟨h3, h4⟩ := sgA_ok hb hg h2
  exact ⟨(badV_ok hb h1 h4).1, h3⟩
set_option maxHeartbeats 4000000 in
theorem l01DrawSubgroup_spec (bs : List Int) (hb : Bytes bs) : SpecM Tryz.prog 33 [.own 0] [.ghost (BY bs)] (.tup [.agg [.own 1], .own 2]) [none, some (.frz (II (sgV bs).1)), some (.row 2 (I (sgV bs).2))] := by
  have h0 := src0_at bs
  have hg := drG_grp hb (names := nms) (by decide) (fun k hk => (nms_fact k hk).2.1) h0
  obtain ⟨h1, h2⟩ := drG_ok hb (names := nms) (by decide) (fun k hk => (nms_fact k hk).2.1) h0
  have hd := l01Draw_spec bs hb _ h0
  unfold sgV
  generalize drG bs nms (src0 bs) = a at *
  obtain ⟨t, s1⟩ := a
  dsimp only at h1 h2 hd hg ⊢
  have h8 := hg.2.1
  have hp := subs_pos hg
  obtain ⟨a1, a2, a3⟩ := nx_ok hb ((subsL t).length : Nat) h2
  have a2' := a2 (by omega)
  obtain ⟨_, _, b3⟩ := nx_ok hb 10 a3
  obtain ⟨d1, d2⟩ := dsV_ok hb b3 t.length
  have hrow := subs_row (t := t) (j := (nx bs (subsL t).length s1).1.toNat) (by omega)
  refine SpecM.of_code' T_ok Tryz.func33 rfl Tryz.ntmps33 Tryz.call33 (Nat.le_of_ble_eq_true rfl) (Nat.le_of_ble_eq_true rfl) (Nat.le_of_ble_eq_true rfl) rfl rfl (CodeV_sound T_ok (by kernel_rfl) rfl ?_)
  refine WW ?_
  refine HereO.alloc T_ok 102 rfl rfl (by decide) ?_
  refine WW ?_
  refine HereO.callM T_ok 8 [0] rfl rfl (l01From_spec bs hb) SC rfl (by decide) (by decide) rfl rfl rfl (Nat.le_of_ble_eq_true rfl) ?_
  refine WW ?_
  refine HereO.callM T_ok 10 [1129,0] rfl rfl (hd) SC rfl (by decide) (by decide) rfl rfl rfl (Nat.le_of_ble_eq_true rfl) ?_
  refine WW ?_
  refine HereO.alloc T_ok 105 rfl rfl (by decide) ?_
  refine WW ?_
  refine HereO.storeAgg T_ok rfl SS SS rfl SS SR rfl rfl ?_
  refine WW ?_
  refine HereO.callOwn T_ok 13 rfl rfl (l01Subgroups_spec t hg) SA rfl (by simp) rfl ?_
  refine WW ?_
  refine HereO.callM T_ok 18 [1129,0] rfl rfl (l01Next_spec bs hb ((subsL t).length : Nat) _ h2) SC rfl (by decide) (by decide) rfl rfl rfl (Nat.le_of_ble_eq_true rfl) ?_
  refine WW ?_
  refine ⟨⟨a1, a2'⟩, ?_⟩
  refine HereO.openRow T_ok 200 rfl rfl rfl rfl (by rw [II_len]; omega) (by decide) (by decide) ?_
  refine WW ?_
  refine HereO.callOwn T_ok 21 rfl rfl (ownR_spec ((subsL t).getD (nx bs (subsL t).length s1).1.toNat []) (by omega)) SA rfl (by simp) rfl ?_
  refine WW ?_
  refine HereO.callM T_ok 23 [1129,0] rfl rfl (l01Next_spec bs hb 10 _ a3) SC rfl (by decide) (by decide) rfl rfl rfl (Nat.le_of_ble_eq_true rfl) ?_
  refine WW ?_
  refine ⟨fun hz => ?_, fun hz => ?_⟩
  · have e : sgA bs t s1 = dsV bs (nx bs 10 (nx bs (subsL t).length s1).2).2 t.length := by unfold sgA; rw [if_pos hz]
    rw [e]
    refine HereO.call T_ok rfl rfl (l01N_spec t) SA rfl ?_
    refine WW ?_
    refine HereO.callM T_ok 28 [1129,0] rfl rfl (l01DrawSet_spec bs hb t.length (by omega) _ b3) SC rfl (by decide) (by decide) rfl rfl rfl (Nat.le_of_ble_eq_true rfl) ?_
    refine WW ?_
    refine HereO.callM T_ok 31 [1129,0,1162] rfl rfl (l01Bad_spec bs hb t h1 _ d2) SC rfl (by decide) (by decide) rfl rfl rfl (Nat.le_of_ble_eq_true rfl) ?_
    refine WW ?_
    refine HereO.storeAgg T_ok rfl SS SS rfl SS SR rfl rfl ?_
    refine WW ?_
    refine RetM.new2' 1499 1450 (by decide) (by decide) (by decide) SE rfl ?_ ?_
    · (simp only [go_sem, Nat.reduceMul, Nat.reduceLeDiff, Nat.reduceLT, reduceIte, reduceCtorEq, Nat.reduceEqDiff, Nat.reduceSub, Nat.reduceAdd]) <;> rfl
    · (simp only [go_sem, Nat.reduceMul, Nat.reduceLeDiff, Nat.reduceLT, reduceIte, reduceCtorEq, Nat.reduceEqDiff, Nat.reduceSub, Nat.reduceAdd]) <;> rfl
  · have e : sgA bs t s1 = ((subsL t).getD (nx bs (subsL t).length s1).1.toNat [], (nx bs 10 (nx bs (subsL t).length s1).2).2) := by unfold sgA; rw [if_neg hz]
    rw [e]
    refine HereO.callM T_ok 31 [1129,0,1162] rfl rfl (l01Bad_spec bs hb t h1 _ b3) SC rfl (by decide) (by decide) rfl rfl rfl (Nat.le_of_ble_eq_true rfl) ?_
    refine WW ?_
    refine HereO.storeAgg T_ok rfl SS SS rfl SS SR rfl rfl ?_
    refine WW ?_
    refine RetM.new2' 1499 1336 (by decide) (by decide) (by decide) SE rfl ?_ ?_
    · (simp only [go_sem, Nat.reduceMul, Nat.reduceLeDiff, Nat.reduceLT, reduceIte, reduceCtorEq, Nat.reduceEqDiff, Nat.reduceSub, Nat.reduceAdd]) <;> rfl
    · (simp only [go_sem, Nat.reduceMul, Nat.reduceLeDiff, Nat.reduceLT, reduceIte, reduceCtorEq, Nat.reduceEqDiff, Nat.reduceSub, Nat.reduceAdd]) <;> rfl
theorem DrawQuotientOf_spec (bs : List Int) (hb : Bytes bs) : SpecF Tryz.prog 5 [.rd (BY bs)] tabR (fun y => Sp y.1 ∧ y.2.length ≤ 9) := by
  obtain ⟨h1, h2⟩ := sgV_ok hb
  refine SpecF.of_code T_ok Tryz.func5 rfl Tryz.ntmps5 Tryz.call5 (Nat.le_of_ble_eq_true rfl) (Here.conv (Conv.ghost 0 200 (by decide) rfl) (CodeV_sound T_ok (by kernel_rfl) rfl ?_))
  refine WW ?_
  refine HereO.alloc T_ok 102 rfl rfl (by decide) ?_
  refine WW ?_
  refine HereO.callM T_ok 8 [200] rfl rfl (l01DrawSubgroup_spec bs hb) SC rfl (by decide) (by decide) rfl rfl rfl (Nat.le_of_ble_eq_true rfl) ?_
  refine WW ?_
  refine HereO.alloc T_ok 104 rfl rfl (by decide) ?_
  refine WW ?_
  refine HereO.storeAgg T_ok rfl SS SS rfl SS SR rfl rfl ?_
  refine WW ?_
  refine HereO.storeAgg T_ok rfl SS SS rfl SS SR rfl rfl ?_
  refine WW ?_
  refine RetF.of (res := tabR) (Q := fun y => Sp y.1 ∧ y.2.length ≤ 9) ((sgV bs).1, (sgV bs).2) (.tup [.agg [.own 0], .own 1]) [.frz (II (sgV bs).1), .row 2 (I (sgV bs).2)] ⟨h1, h2⟩ rfl rfl rfl ?_
  refine RetC.of (RetT.two 1129 1130 (by decide) SE rfl ?_ ?_)
  · (simp only [go_sem, Nat.reduceMul, Nat.reduceLeDiff, Nat.reduceLT, reduceIte, reduceCtorEq, Nat.reduceEqDiff, Nat.reduceSub, Nat.reduceAdd]) <;> rfl
  · (simp only [go_sem, Nat.reduceMul, Nat.reduceLeDiff, Nat.reduceLT, reduceIte, reduceCtorEq, Nat.reduceEqDiff, Nat.reduceSub, Nat.reduceAdd]) <;> rfl
end Go.Proofs.YtcjhojdlfnpgjaaGreat
