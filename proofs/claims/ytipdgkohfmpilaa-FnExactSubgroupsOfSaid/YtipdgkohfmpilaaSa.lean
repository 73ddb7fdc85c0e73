/- Contracts: slices.Sort at twelve elements or fewer. -/
import Derived.Test.YtipdgkohfmpilaaPc
import Derived.Test.YtipdgkohfmpilaaVv
namespace Go.Proofs.Ytipdgkohfmpilaa
open Go.RowKit
set_option linter.unusedVariables false
set_option linter.unusedSimpArgs false
set_option maxRecDepth 100000

theorem cmpNaN_spec (x : Int) : Spec Try.prog 59 [.v (.int .i64 x)] (.v (.bool false)) [] := by
  refine Spec.of_code T_ok Try.func59 rfl Try.ntmps59 Try.call59 (Nat.le_of_ble_eq_true rfl) rfl rfl (CodeV_sound T_ok (by kernel_rfl) rfl ?_)
  simp only [Try.results59, go_sem, Nat.reduceMul, Nat.reduceLeDiff, Nat.reduceLT, reduceIte, reduceCtorEq, Nat.reduceEqDiff, Nat.reduceSub, Nat.reduceAdd]
theorem cmpLess_spec (x y : Int) : Spec Try.prog 72 [.v (.int .i64 x), .v (.int .i64 y)] (.v (.bool (decide (x < y)))) [] := by
  refine Spec.of_code T_ok Try.func72 rfl Try.ntmps72 Try.call72 (Nat.le_of_ble_eq_true rfl) rfl rfl (CodeV_sound T_ok (by kernel_rfl) rfl ?_)
  simp only [Try.results72, go_sem, Nat.reduceMul, Nat.reduceLeDiff, Nat.reduceLT, reduceIte, reduceCtorEq, Nat.reduceEqDiff, Nat.reduceSub, Nat.reduceAdd]
  refine HereO.call T_ok rfl rfl (cmpNaN_spec x) (by simp only [go_sem, Nat.reduceMul, Nat.reduceLeDiff, Nat.reduceLT, reduceIte, reduceCtorEq, Nat.reduceEqDiff, Nat.reduceSub, Nat.reduceAdd, List.toList_toArray] <;> first | rfl | exact ⟨rfl, rfl⟩) rfl ?_
  simp only [Try.results72, go_sem, Nat.reduceMul, Nat.reduceLeDiff, Nat.reduceLT, reduceIte, reduceCtorEq, Nat.reduceEqDiff, Nat.reduceSub, Nat.reduceAdd]
/-! ### Sorted lists -/
def sortI (xs : List Int) : List Int := xs.mergeSort fun x y => decide (x ≤ y)
theorem sortI_perm (xs : List Int) : (sortI xs).Perm xs := List.mergeSort_perm _ _
theorem sortI_sorted (xs : List Int) : (sortI xs).Pairwise (· ≤ ·) := by
  have := List.pairwise_mergeSort (le := fun (x y : Int) => decide (x ≤ y)) (fun a b c h1 h2 => by simp at h1 h2 ⊢; omega) (fun a b => by simp; omega) xs
  exact this.imp (by intro a b h; simpa using h)
theorem sorted_eq : ∀ {l m : List Int}, l.Pairwise (· ≤ ·) → m.Pairwise (· ≤ ·) → l.Perm m → l = m
  | [], m, _, _, h => (List.nil_perm.1 h).symm
  | x :: l, [], _, _, h => by have := h.length_eq; simp at this
  | x :: l, y :: m, h1, h2, h => by
    rw [List.pairwise_cons] at h1 h2
    have e : x = y := by
      have a1 : x ∈ y :: m := h.mem_iff.1 (by simp)
      have a2 : y ∈ x :: l := h.mem_iff.2 (by simp)
      rcases List.mem_cons.1 a1 with q | q
      · exact q
      · rcases List.mem_cons.1 a2 with q2 | q2
        · exact q2.symm
        · have := h2.1 x q; have := h1.1 y q2; omega
    subst e
    rw [sorted_eq h1.2 h2.2 (List.Perm.cons_inv h)]
theorem sortI_eq {l xs : List Int} (h1 : l.Pairwise (· ≤ ·)) (h2 : l.Perm xs) : l = sortI xs := sorted_eq h1 (sortI_sorted xs) (h2.trans (sortI_perm xs).symm)
/-- Two numbers side by side change places. -/
def swapL (l : List Int) (j : Nat) : List Int := (l.set j (l.getD (j - 1) 0)).set (j - 1) (l.getD j 0)
theorem swapL_len (l : List Int) (j : Nat) : (swapL l j).length = l.length := by simp [swapL]
theorem swapL_perm {l : List Int} {j : Nat} (h0 : 0 < j) (h : j < l.length) : (swapL l j).Perm l := by
  have := List.set_set_perm (i := j) (j := j - 1) h (by omega)
  unfold swapL
  rw [List.getD_eq_getElem?_getD, List.getD_eq_getElem?_getD, List.getElem?_eq_getElem h, List.getElem?_eq_getElem (show j - 1 < l.length by omega)]
  exact this
theorem swapL_get {l : List Int} {j : Nat} (h0 : 0 < j) (h : j < l.length) (x : Nat) : (swapL l j).getD x 0 = if x = j then l.getD (j - 1) 0 else if x = j - 1 then l.getD j 0 else l.getD x 0 := by
  unfold swapL
  rw [set_getD, set_getD, List.length_set]
  by_cases e1 : x = j
  · subst e1; rw [if_neg (by omega), if_pos ⟨rfl, h⟩, if_pos rfl]
  · rw [if_neg e1]
    by_cases e2 : x = j - 1
    · subst e2; rw [if_pos ⟨rfl, by omega⟩, if_pos rfl]
    · rw [if_neg e2, if_neg (by omega), if_neg (by omega)]
def SortTo (l : List Int) (i : Nat) : Prop := ∀ a b, a < b → b < i → l.getD a 0 ≤ l.getD b 0
/-- Sorted up to i, but for the element at j, which lies no higher than those behind it. -/
def SortBut (l : List Int) (i j : Nat) : Prop := ∀ a b, a < b → b ≤ i → b ≠ j → l.getD a 0 ≤ l.getD b 0
theorem sortBut_start {l : List Int} {i : Nat} (h : SortTo l i) : SortBut l i i := fun a b h1 h2 h3 => h a b h1 (by omega)
theorem sortBut_end {l : List Int} {i j : Nat} (hj : j ≤ i) (h : SortBut l i j) (he : 0 < j → l.getD (j - 1) 0 ≤ l.getD j 0) : SortTo l (i + 1) := fun a b h1 h2 => by
  by_cases e : b = j
  · subst e
    have h3 := he (by omega)
    by_cases e2 : a = b - 1
    · rw [e2]; exact h3
    · have := h a (b - 1) (by omega) (by omega) (by omega); omega
  · exact h a b h1 (by omega) e
theorem sortBut_step {l : List Int} {i j : Nat} (h0 : 0 < j) (hj : j ≤ i) (hi : i < l.length) (h : SortBut l i j) (hlt : l.getD j 0 < l.getD (j - 1) 0) : SortBut (swapL l j) i (j - 1) := fun a b h1 h2 h3 => by
  rw [swapL_get h0 (by omega), swapL_get h0 (by omega)]
  by_cases eb : b = j
  · rw [if_pos eb]
    by_cases ea : a = j - 1
    · rw [if_neg (by omega), if_pos ea]; omega
    · rw [if_neg (by omega), if_neg ea]; exact h a (j - 1) (by omega) (by omega) (by omega)
  · rw [if_neg eb, if_neg h3]
    have hb := h
    by_cases ea : a = j
    · rw [if_pos ea]; have := h (j - 1) b (by omega) h2 eb; exact this
    · rw [if_neg ea]
      by_cases ea2 : a = j - 1
      · rw [if_pos ea2]
        by_cases q : j < b
        · exact h j b q h2 eb
        · omega
      · rw [if_neg ea2]; exact h a b h1 h2 eb
theorem sortTo_all {l : List Int} (h : SortTo l l.length) : l.Pairwise (· ≤ ·) := by
  rw [List.pairwise_iff_getElem]
  intro i j hi hj hij
  have := h i j hij hj
  rwa [List.getD_eq_getElem?_getD, List.getD_eq_getElem?_getD, List.getElem?_eq_getElem hi, List.getElem?_eq_getElem hj, Option.getD_some, Option.getD_some] at this
theorem insertion_spec (xs : List Int) (h12 : xs.length ≤ 12) : SpecM Try.prog 66 [.own 0, .v (.int .i64 0), .v (.int .i64 xs.length)] [.row 2 (I xs)] (.tup []) [some (.row 2 (I (sortI xs)))] := by
  refine SpecM.of_code' T_ok Try.func66 rfl Try.ntmps66 Try.call66 (Nat.le_of_ble_eq_true rfl) (Nat.le_of_ble_eq_true rfl) (Nat.le_of_ble_eq_true rfl) rfl rfl (CodeV_sound T_ok (by kernel_rfl) rfl ?_)
  simp only [Try.results66, go_sem, Nat.reduceMul, Nat.reduceLeDiff, Nat.reduceLT, reduceIte, reduceCtorEq, Nat.reduceEqDiff, Nat.reduceSub, Nat.reduceAdd]
  refine ⟨by unfold InR; omega, ?_⟩
  refine Here.loopV T_ok (κ := Nat × List Int) (fun g => 1 ≤ g.1 ∧ (g.1 ≤ xs.length ∨ g.1 = 1) ∧ g.2.Perm xs ∧ SortTo g.2 g.1) (fun g => xs.length - g.1) (fun g => [(0, .own 0), (1, .v (.int .i64 0)), (2, .v (.int .i64 xs.length)), (6, .v (.int .i64 g.1))]) (fun g => [(0, .row 2 (I g.2))]) (1, xs) ⟨by simp, .inr rfl, List.Perm.refl _, fun a b h1 h2 => by omega⟩ (by simp only [Try.results66, go_sem, Nat.reduceMul, Nat.reduceLeDiff, Nat.reduceLT, reduceIte, reduceCtorEq, Nat.reduceEqDiff, Nat.reduceSub, Nat.reduceAdd]; simp) (by simp only [Try.results66, go_sem, Nat.reduceMul, Nat.reduceLeDiff, Nat.reduceLT, reduceIte, reduceCtorEq, Nat.reduceEqDiff, Nat.reduceSub, Nat.reduceAdd]) ?_
  rintro ⟨i, L⟩ ⟨hi1, hi, hp, hs⟩
  dsimp only at hi1 hi hp hs
  have hlen := hp.length_eq
  simp only [Try.results66, go_sem, Nat.reduceMul, Nat.reduceLeDiff, Nat.reduceLT, reduceIte, reduceCtorEq, Nat.reduceEqDiff, Nat.reduceSub, Nat.reduceAdd]
  refine ⟨fun h2 => ?_, fun h2 => ?_⟩
  · refine Here.loopV T_ok (κ := Nat × List Int) (fun g => g.1 ≤ i ∧ g.2.Perm xs ∧ SortBut g.2 i g.1) (fun g => g.1) (fun g => [(0, .own 0), (1, .v (.int .i64 0)), (2, .v (.int .i64 xs.length)), (6, .v (.int .i64 i)), (7, .v (.int .i64 g.1))]) (fun g => [(0, .row 2 (I g.2))]) (i, L) ⟨Nat.le_refl _, hp, sortBut_start hs⟩ (by simp only [Try.results66, go_sem, Nat.reduceMul, Nat.reduceLeDiff, Nat.reduceLT, reduceIte, reduceCtorEq, Nat.reduceEqDiff, Nat.reduceSub, Nat.reduceAdd]) (by simp only [Try.results66, go_sem, Nat.reduceMul, Nat.reduceLeDiff, Nat.reduceLT, reduceIte, reduceCtorEq, Nat.reduceEqDiff, Nat.reduceSub, Nat.reduceAdd]) ?_
    rintro ⟨j, M⟩ ⟨hj, hpM, hsM⟩
    dsimp only at hj hpM hsM
    have hlM := hpM.length_eq
    simp only [Try.results66, go_sem, Nat.reduceMul, Nat.reduceLeDiff, Nat.reduceLT, reduceIte, reduceCtorEq, Nat.reduceEqDiff, Nat.reduceSub, Nat.reduceAdd]
    have ej : ((j : Int) - 1).toNat = j - 1 := by omega
    refine Here.draw T_ok mixed_ok (by kernel_rfl) ?_
    simp only [Try.results66, go_sem, Nat.reduceMul, Nat.reduceLeDiff, Nat.reduceLT, reduceIte, reduceCtorEq, Nat.reduceEqDiff, Nat.reduceSub, Nat.reduceAdd]
    rw [ej]
    refine ⟨fun h3 => ?_, fun h3 => ?_⟩
    · refine ⟨⟨by omega, by omega⟩, by omega, by unfold InR; omega, ⟨by omega, by omega⟩, by omega, ?_⟩
      refine ⟨_, OpP.call' rfl rfl (cmpLess_spec (M.getD j 0) (M.getD (j - 1) 0)) (by simp only [go_sem, Nat.reduceMul, Nat.reduceLeDiff, Nat.reduceLT, reduceIte, reduceCtorEq, Nat.reduceEqDiff, Nat.reduceSub, Nat.reduceAdd, List.toList_toArray] <;> first | rfl | exact ⟨rfl, rfl⟩) rfl, ?_⟩
      simp only [Try.results66, go_sem, Nat.reduceMul, Nat.reduceLeDiff, Nat.reduceLT, reduceIte, reduceCtorEq, Nat.reduceEqDiff, Nat.reduceSub, Nat.reduceAdd]
      refine ⟨fun h4 => ?_, fun h4 => ?_⟩
      · refine Here.drawC T_ok [.p, .p, .f, .f, .f, .p, .p, .p, .p, .p, .p, .p, .p, .p, .p, .c, .p, .c] [0, 7] [] [] (Nat.le_of_ble_eq_true rfl) mixed_ok (by kernel_rfl) (by kernel_rfl) (by kernel_rfl) (by simp only [List.mem_cons, List.not_mem_nil, or_false, forall_eq_or_imp, forall_eq, go_sem, Nat.reduceMul, Nat.reduceLeDiff, Nat.reduceLT, reduceIte, reduceCtorEq, Nat.reduceEqDiff, Nat.reduceSub, Nat.reduceAdd] <;> first | exact calm_ptr_ne rfl | exact calm_ne rfl | exact ⟨calm_ptr_ne rfl, calm_ptr_ne rfl⟩ | exact ⟨calm_ptr_ne rfl, calm_ptr_ne rfl, calm_ptr_ne rfl⟩ | exact ⟨calm_ptr_ne rfl, calm_knot (by simp only [go_sem, Nat.reduceMul, Nat.reduceLeDiff, Nat.reduceLT, reduceIte, reduceCtorEq, Nat.reduceEqDiff, Nat.reduceSub, Nat.reduceAdd] <;> exact calm_ptr_ne rfl)⟩ | ((repeat' apply And.intro) <;> first | exact calm_ptr_ne rfl | exact calm_ne rfl)) ?_
        simp only [Try.results66, go_sem, Nat.reduceMul, Nat.reduceLeDiff, Nat.reduceLT, reduceIte, reduceCtorEq, Nat.reduceEqDiff, Nat.reduceSub, Nat.reduceAdd]
        rw [ej]
        refine ⟨by unfold InR; omega, by unfold InR; omega, ⟨by omega, by omega⟩, by omega, ⟨by omega, by omega⟩, by omega, ⟨by omega, by omega⟩, ?_⟩
        refine HereC.storeRow T_ok (vs := I M) (u := .int .i64 (M.getD (j - 1) 0)) rfl (by simp only [go_sem, Nat.reduceMul, Nat.reduceLeDiff, Nat.reduceLT, reduceIte, reduceCtorEq, Nat.reduceEqDiff, Nat.reduceSub, Nat.reduceAdd] <;> rfl) (by simp only [go_sem, Nat.reduceMul, Nat.reduceLeDiff, Nat.reduceLT, reduceIte, reduceCtorEq, Nat.reduceEqDiff, Nat.reduceSub, Nat.reduceAdd] <;> rfl) rfl (by simp only [go_sem, Nat.reduceMul, Nat.reduceLeDiff, Nat.reduceLT, reduceIte, reduceCtorEq, Nat.reduceEqDiff, Nat.reduceSub, Nat.reduceAdd] <;> rfl) rfl (by rw [I_len]; omega) (keeps_nil _ _) ?_
        simp only [Try.results66, go_sem, Nat.reduceMul, Nat.reduceLeDiff, Nat.reduceLT, reduceIte, reduceCtorEq, Nat.reduceEqDiff, Nat.reduceSub, Nat.reduceAdd]
        rw [I_set]
        have hl2 : (M.set j (M.getD (j - 1) 0)).length = M.length := by simp
        rw [ej]
        refine ⟨⟨by omega, by omega⟩, ?_⟩
        refine HereC.storeRow T_ok (vs := I (M.set j (M.getD (j - 1) 0))) (u := .int .i64 (M.getD j 0)) rfl (by simp only [go_sem, Nat.reduceMul, Nat.reduceLeDiff, Nat.reduceLT, reduceIte, reduceCtorEq, Nat.reduceEqDiff, Nat.reduceSub, Nat.reduceAdd] <;> rfl) (by simp only [go_sem, Nat.reduceMul, Nat.reduceLeDiff, Nat.reduceLT, reduceIte, reduceCtorEq, Nat.reduceEqDiff, Nat.reduceSub, Nat.reduceAdd] <;> rfl) rfl (by simp only [go_sem, Nat.reduceMul, Nat.reduceLeDiff, Nat.reduceLT, reduceIte, reduceCtorEq, Nat.reduceEqDiff, Nat.reduceSub, Nat.reduceAdd] <;> rfl) rfl (by rw [I_len, hl2]; omega) (keeps_nil _ _) ?_
        simp only [Try.results66, go_sem, Nat.reduceMul, Nat.reduceLeDiff, Nat.reduceLT, reduceIte, reduceCtorEq, Nat.reduceEqDiff, Nat.reduceSub, Nat.reduceAdd]
        rw [I_set]
        exact ⟨by unfold InR; omega, (j - 1, swapL M j), ⟨by dsimp only; omega, (swapL_perm (by omega) (by omega)).trans hpM, sortBut_step (by omega) hj (by omega) hsM h4⟩, by dsimp only; omega, by dsimp only; omega, rfl⟩
      · have hse := sortBut_end hj hsM (fun _ => by omega)
        exact ⟨by unfold InR; omega, (i + 1, M), ⟨by dsimp only; omega, .inl (by dsimp only; omega), hpM, hse⟩, by dsimp only; omega, by push_cast; rfl, rfl⟩
    · have hse := sortBut_end hj hsM (fun _ => by omega)
      exact ⟨by unfold InR; omega, (i + 1, M), ⟨by dsimp only; omega, .inl (by dsimp only; omega), hpM, hse⟩, by dsimp only; omega, by push_cast; rfl, rfl⟩
  · refine RetM.one0 (by simp only [Try.results66, go_sem, Nat.reduceMul, Nat.reduceLeDiff, Nat.reduceLT, reduceIte, reduceCtorEq, Nat.reduceEqDiff, Nat.reduceSub, Nat.reduceAdd]; rfl) rfl ?_
    simp only [Try.results66, go_sem, Nat.reduceMul, Nat.reduceLeDiff, Nat.reduceLT, reduceIte, reduceCtorEq, Nat.reduceEqDiff, Nat.reduceSub, Nat.reduceAdd]
    rw [sortI_eq (sortTo_all (fun a b h1 h3 => hs a b h1 (by omega))) hp]
theorem byteAt_le (b : ByteArray) (i : Nat) : 0 ≤ byteAt b i ∧ byteAt b i ≤ 255 := by
  unfold byteAt
  have := (b.toList.getD i 0).toNat_lt
  omega
theorem inR_byte (b : ByteArray) (i : Nat) : InR (byteAt b i) := by have := byteAt_le b i; unfold InR; omega
theorem inR_byte0 (b : ByteArray) (i : Nat) : InR (0 + byteAt b i) := by have := byteAt_le b i; unfold InR; omega
theorem bitsLen64_spec (n : Nat) (h : n ≤ 12) : ∃ r, Spec Try.prog 58 [.v (.int .u64 n)] (.v (.int .i64 r)) [] := by
  have hw : IntKind.u8.wrap (n : Int) = n := by
    have : ∀ n : Nat, n ≤ 12 → IntKind.u8.wrap (n : Int) = n := by decide +kernel
    exact this n h
  apply Exists.intro
  refine Spec.of_code T_ok Try.func58 rfl Try.ntmps58 Try.call58 (Nat.le_of_ble_eq_true rfl) rfl rfl (CodeV_sound T_ok (by kernel_rfl) rfl ?_)
  simp only [Try.results58, go_sem, Nat.reduceMul, Nat.reduceLeDiff, Nat.reduceLT, reduceIte, reduceCtorEq, Nat.reduceEqDiff, Nat.reduceSub, Nat.reduceAdd]
  refine ⟨fun q => absurd q (by omega), fun _ => ⟨fun q => absurd q (by omega), fun _ => ⟨fun q => absurd q (by omega), fun _ => ?_⟩⟩⟩
  rw [hw]
  refine HereO.opP T_ok (OpP.index (i := n) Try.underlying9 rfl rfl rfl (Nat.lt_of_le_of_lt h (by decide +kernel))) ?_
  simp only [Try.results58, go_sem, Nat.reduceMul, Nat.reduceLeDiff, Nat.reduceLT, reduceIte, reduceCtorEq, Nat.reduceEqDiff, Nat.reduceSub, Nat.reduceAdd]
  exact ⟨inR_byte _ _, inR_byte0 _ _, rfl⟩
theorem bitsLen_spec (n : Nat) (r : Int) (h : Spec Try.prog 58 [.v (.int .u64 n)] (.v (.int .i64 r)) []) : Spec Try.prog 43 [.v (.int .u64 n)] (.v (.int .i64 r)) [] := by
  refine Spec.of_code T_ok Try.func43 rfl Try.ntmps43 Try.call43 (Nat.le_of_ble_eq_true rfl) rfl rfl (CodeV_sound T_ok (by kernel_rfl) rfl ?_)
  simp only [Try.results43, go_sem, Nat.reduceMul, Nat.reduceLeDiff, Nat.reduceLT, reduceIte, reduceCtorEq, Nat.reduceEqDiff, Nat.reduceSub, Nat.reduceAdd]
  refine HereO.call T_ok rfl rfl (h) (by simp only [go_sem, Nat.reduceMul, Nat.reduceLeDiff, Nat.reduceLT, reduceIte, reduceCtorEq, Nat.reduceEqDiff, Nat.reduceSub, Nat.reduceAdd, List.toList_toArray] <;> first | rfl | exact ⟨rfl, rfl⟩) rfl ?_
  simp only [Try.results43, go_sem, Nat.reduceMul, Nat.reduceLeDiff, Nat.reduceLT, reduceIte, reduceCtorEq, Nat.reduceEqDiff, Nat.reduceSub, Nat.reduceAdd]
theorem pdq_spec (xs : List Int) (h12 : xs.length ≤ 12) (r : Int) : SpecM Try.prog 60 [.own 0, .v (.int .i64 0), .v (.int .i64 xs.length), .v (.int .i64 r)] [.row 2 (I xs)] (.tup []) [some (.row 2 (I (sortI xs)))] := by
  have hi := insertion_spec xs h12
  refine SpecM.of_code' T_ok Try.func60 rfl Try.ntmps60 Try.call60 (Nat.le_of_ble_eq_true rfl) (Nat.le_of_ble_eq_true rfl) (Nat.le_of_ble_eq_true rfl) rfl rfl (CodeV_sound T_ok (by kernel_rfl) rfl ?_)
  simp only [Try.results60, go_sem, Nat.reduceMul, Nat.reduceLeDiff, Nat.reduceLT, reduceIte, reduceCtorEq, Nat.reduceEqDiff, Nat.reduceSub, Nat.reduceAdd]
  refine Here.loopV T_ok (κ := Unit) (fun _ => True) (fun _ => 0) (fun _ => [(0, .own 0), (1, .v (.int .i64 0)), (2, .v (.int .i64 xs.length)), (3, .v (.int .i64 r)), (8, .v (.bool true)), (9, .v (.bool true))]) (fun _ => [(0, .row 2 (I xs))]) () trivial (by simp only [Try.results60, go_sem, Nat.reduceMul, Nat.reduceLeDiff, Nat.reduceLT, reduceIte, reduceCtorEq, Nat.reduceEqDiff, Nat.reduceSub, Nat.reduceAdd]) (by simp only [Try.results60, go_sem, Nat.reduceMul, Nat.reduceLeDiff, Nat.reduceLT, reduceIte, reduceCtorEq, Nat.reduceEqDiff, Nat.reduceSub, Nat.reduceAdd]) ?_
  rintro _ _
  simp only [Try.results60, go_sem, Nat.reduceMul, Nat.reduceLeDiff, Nat.reduceLT, reduceIte, reduceCtorEq, Nat.reduceEqDiff, Nat.reduceSub, Nat.reduceAdd]
  refine ⟨by unfold InR; omega, fun _ => ?_, fun q => absurd q (by omega)⟩
  refine HereO.callM T_ok 600 [0] rfl rfl (hi) (by simp only [go_sem, Nat.reduceMul, Nat.reduceLeDiff, Nat.reduceLT, reduceIte, reduceCtorEq, Nat.reduceEqDiff, Nat.reduceSub, Nat.reduceAdd, List.toList_toArray, ↓reduceIte]) rfl (by decide) (by decide) rfl rfl rfl (Nat.le_of_ble_eq_true rfl) ?_
  simp only [Try.results60, go_sem, Nat.reduceMul, Nat.reduceLeDiff, Nat.reduceLT, reduceIte, reduceCtorEq, Nat.reduceEqDiff, Nat.reduceSub, Nat.reduceAdd]
  refine RetM.one0 (by simp only [Try.results60, go_sem, Nat.reduceMul, Nat.reduceLeDiff, Nat.reduceLT, reduceIte, reduceCtorEq, Nat.reduceEqDiff, Nat.reduceSub, Nat.reduceAdd]; rfl) rfl ?_
  simp only [Try.results60, go_sem, Nat.reduceMul, Nat.reduceLeDiff, Nat.reduceLT, reduceIte, reduceCtorEq, Nat.reduceEqDiff, Nat.reduceSub, Nat.reduceAdd]
theorem Sort_spec (xs : List Int) (h12 : xs.length ≤ 12) : SpecM Try.prog 48 [.own 0] [.row 2 (I xs)] (.tup []) [some (.row 2 (I (sortI xs)))] := by
  have hw : IntKind.u64.wrap (xs.length : Int) = xs.length := by
    have : ∀ n : Nat, n ≤ 12 → IntKind.u64.wrap (n : Int) = n := by decide +kernel
    exact this _ h12
  obtain ⟨r, hr⟩ := bitsLen64_spec xs.length h12
  have hr2 : Spec Try.prog 43 [.v (.int .u64 xs.length)] (.v (.int .i64 r)) [] := bitsLen_spec _ _ hr
  have hi := pdq_spec xs h12 r
  refine SpecM.of_code' T_ok Try.func48 rfl Try.ntmps48 Try.call48 (Nat.le_of_ble_eq_true rfl) (Nat.le_of_ble_eq_true rfl) (Nat.le_of_ble_eq_true rfl) rfl rfl (CodeV_sound T_ok (by kernel_rfl) rfl ?_)
  simp only [Try.results48, go_sem, Nat.reduceMul, Nat.reduceLeDiff, Nat.reduceLT, reduceIte, reduceCtorEq, Nat.reduceEqDiff, Nat.reduceSub, Nat.reduceAdd]
  rw [hw]
  refine HereO.call T_ok rfl rfl (hr2) (by simp only [go_sem, Nat.reduceMul, Nat.reduceLeDiff, Nat.reduceLT, reduceIte, reduceCtorEq, Nat.reduceEqDiff, Nat.reduceSub, Nat.reduceAdd, List.toList_toArray] <;> first | rfl | exact ⟨rfl, rfl⟩) rfl ?_
  simp only [Try.results48, go_sem, Nat.reduceMul, Nat.reduceLeDiff, Nat.reduceLT, reduceIte, reduceCtorEq, Nat.reduceEqDiff, Nat.reduceSub, Nat.reduceAdd]
  refine HereO.callM T_ok 600 [0] rfl rfl (hi) (by simp only [go_sem, Nat.reduceMul, Nat.reduceLeDiff, Nat.reduceLT, reduceIte, reduceCtorEq, Nat.reduceEqDiff, Nat.reduceSub, Nat.reduceAdd, List.toList_toArray, ↓reduceIte]) rfl (by decide) (by decide) rfl rfl rfl (Nat.le_of_ble_eq_true rfl) ?_
  simp only [Try.results48, go_sem, Nat.reduceMul, Nat.reduceLeDiff, Nat.reduceLT, reduceIte, reduceCtorEq, Nat.reduceEqDiff, Nat.reduceSub, Nat.reduceAdd]
  refine RetM.one0 (by simp only [Try.results48, go_sem, Nat.reduceMul, Nat.reduceLeDiff, Nat.reduceLT, reduceIte, reduceCtorEq, Nat.reduceEqDiff, Nat.reduceSub, Nat.reduceAdd]; rfl) rfl ?_
  simp only [Try.results48, go_sem, Nat.reduceMul, Nat.reduceLeDiff, Nat.reduceLT, reduceIte, reduceCtorEq, Nat.reduceEqDiff, Nat.reduceSub, Nat.reduceAdd]
end Go.Proofs.Ytipdgkohfmpilaa
