/- Contracts: products of three and four, conjugates, DerivedOf. -/
import Derived.Test.YtdbkiomhoonclaaSd
import Derived.Test.YtdbkiomhoonclaaDe
namespace Go.Proofs.Ytdbkiomhoonclaa
open Go.RowKit
set_option linter.unusedVariables false
set_option linter.unusedSimpArgs false
set_option maxRecDepth 100000

theorem tm_3 {t : List (List Int)} (hg : Grp t) {a b c : Nat} (ha : a < t.length) (hb : b < t.length) (hc : c < t.length) : tm t [(a : Int), b, c] = (em t (em t a b) c : Nat) := by
  have h0 := (hg.2.2.2 a ha).1.1
  simp only [tm, List.foldl_cons, List.foldl_nil, Int.toNat_zero, Int.toNat_natCast]
  rw [h0, Int.toNat_natCast, em_ee hg ha hb, Int.toNat_natCast, em_ee hg (em_lt hg ha hb) hc]
theorem tm_4 {t : List (List Int)} (hg : Grp t) {a b c d : Nat} (ha : a < t.length) (hb : b < t.length) (hc : c < t.length) (hd : d < t.length) : tm t [(a : Int), b, c, d] = (em t (em t (em t a b) c) d : Nat) := by
  have h0 := (hg.2.2.2 a ha).1.1
  simp only [tm, List.foldl_cons, List.foldl_nil, Int.toNat_zero, Int.toNat_natCast]
  rw [h0, Int.toNat_natCast, em_ee hg ha hb, Int.toNat_natCast, em_ee hg (em_lt hg ha hb) hc, Int.toNat_natCast, em_ee hg (em_lt hg (em_lt hg ha hb) hc) hd]
theorem areIn_nat {n : Nat} {l : List Nat} (h : ∀ x ∈ l, x < n) : AreIn n (l.map fun x : Nat => (x : Int)) := fun j hj => by
  have hj' : j < l.length := by simpa using hj
  have e : (l.map fun x : Nat => (x : Int)).getD j 0 = ((l[j] : Nat) : Int) := by rw [List.getD_eq_getElem?_getD, List.getElem?_eq_getElem hj]; simp
  rw [e]
  have := h _ (List.getElem_mem hj')
  omega
theorem times3_spec (t : List (List Int)) (hg : Grp t) (a b c : Nat) (ha : a < t.length) (hb : b < t.length) (hc : c < t.length) : Spec Try.prog 53 [.agg [.rds (II t)], .rd (I [(a : Int), (b : Int), (c : Int)])] (.v (.int .i64 (em t (em t a b) c : Nat))) [] := by
  have := times_spec t [(a : Int), b, c] hg (areIn_nat (n := t.length) (l := [a, b, c]) (by simp; omega)) (by simp)
  rwa [tm_3 hg ha hb hc] at this
theorem times4_spec (t : List (List Int)) (hg : Grp t) (a b c d : Nat) (ha : a < t.length) (hb : b < t.length) (hc : c < t.length) (hd : d < t.length) : Spec Try.prog 53 [.agg [.rds (II t)], .rd (I [(a : Int), (b : Int), (c : Int), (d : Int)])] (.v (.int .i64 (em t (em t (em t a b) c) d : Nat))) [] := by
  have := times_spec t [(a : Int), b, c, d] hg (areIn_nat (n := t.length) (l := [a, b, c, d]) (by simp; omega)) (by simp)
  rwa [tm_4 hg ha hb hc hd] at this
/-- c a c'. -/
def cjN (t : List (List Int)) (c a : Nat) : Nat := em t (em t c a) (invN t c)
theorem cj_lt {t : List (List Int)} (hg : Grp t) {c a : Nat} (hc : c < t.length) (ha : a < t.length) : cjN t c a < t.length := em_lt hg (em_lt hg hc ha) (invN_is hg hc).2.1
theorem conjugate_spec (t : List (List Int)) (hg : Grp t) (c a : Nat) (hc : c < t.length) (ha : a < t.length) : Spec Try.prog 88 [.agg [.rds (II t)], .v (.int .i64 c), .v (.int .i64 a)] (.v (.int .i64 (cjN t c a))) [] := by
  refine Spec.of_code T_ok Try.func88 rfl Try.ntmps88 Try.call88 (Nat.le_of_ble_eq_true rfl) rfl rfl (CodeV_sound T_ok (by kernel_rfl) rfl ?_)
  simp only [Try.results88, go_sem, Nat.reduceMul, Nat.reduceLeDiff, Nat.reduceLT, reduceIte, reduceCtorEq, Nat.reduceEqDiff, Nat.reduceSub, Nat.reduceAdd]
  refine Here.draw T_ok mixed_ok (by kernel_rfl) ?_
  simp only [Try.results88, go_sem, Nat.reduceMul, Nat.reduceLeDiff, Nat.reduceLT, reduceIte, reduceCtorEq, Nat.reduceEqDiff, Nat.reduceSub, Nat.reduceAdd]
  refine ⟨_, OpP.call' rfl rfl (inverse_spec t hg c hc) (by simp only [go_sem, Nat.reduceMul, Nat.reduceLeDiff, Nat.reduceLT, reduceIte, reduceCtorEq, Nat.reduceEqDiff, Nat.reduceSub, Nat.reduceAdd, List.toList_toArray] <;> first | rfl | exact ⟨rfl, rfl⟩) rfl, ?_⟩
  simp only [Try.results88, go_sem, Nat.reduceMul, Nat.reduceLeDiff, Nat.reduceLT, reduceIte, reduceCtorEq, Nat.reduceEqDiff, Nat.reduceSub, Nat.reduceAdd]
  refine ⟨_, OpP.buildRd T_ok (I [(c : Int), (a : Int), (invN t c : Int)]) rfl rfl rfl (by decide) rfl (by first | rfl | (simp only [go_sem, Nat.reduceMul, Nat.reduceLeDiff, Nat.reduceLT, reduceIte, reduceCtorEq, Nat.reduceEqDiff, Nat.reduceSub, Nat.reduceAdd] <;> rfl)) rfl, ?_⟩
  simp only [Try.results88, go_sem, Nat.reduceMul, Nat.reduceLeDiff, Nat.reduceLT, reduceIte, reduceCtorEq, Nat.reduceEqDiff, Nat.reduceSub, Nat.reduceAdd]
  refine ⟨_, OpP.call' rfl rfl (times3_spec t hg c a (invN t c) hc ha (invN_is hg hc).2.1) (by simp only [go_sem, Nat.reduceMul, Nat.reduceLeDiff, Nat.reduceLT, reduceIte, reduceCtorEq, Nat.reduceEqDiff, Nat.reduceSub, Nat.reduceAdd, List.toList_toArray] <;> first | rfl | exact ⟨rfl, rfl⟩) rfl, ?_⟩
  simp only [Try.results88, go_sem, Nat.reduceMul, Nat.reduceLeDiff, Nat.reduceLT, reduceIte, reduceCtorEq, Nat.reduceEqDiff, Nat.reduceSub, Nat.reduceAdd]
  rfl
theorem l01Conjugate_spec (t : List (List Int)) (hg : Grp t) (a c : Nat) (ha : a < t.length) (hc : c < t.length) : Spec Try.prog 49 [.agg [.rds (II t)], .v (.int .i64 a), .v (.int .i64 c)] (.v (.int .i64 (cjN t c a))) [] := by
  have hr : ∀ a, a < t.length → (t.getD a []).length = t.length := fun a ha => (hg.2.2.1 a ha).1
  have he : ∀ a b, a < t.length → b < t.length → (t.getD a []).getD b 0 = em t a b := fun a b ha hb => by have := em_ee hg ha hb; unfold ee at this; exact this
  have h1 := em_lt hg hc ha
  have h2 := (invN_is hg hc).2.1
  refine Spec.of_code T_ok Try.func49 rfl Try.ntmps49 Try.call49 (Nat.le_of_ble_eq_true rfl) rfl rfl (CodeV_sound T_ok (by kernel_rfl) rfl ?_)
  simp only [Try.results49, go_sem, Nat.reduceMul, Nat.reduceLeDiff, Nat.reduceLT, reduceIte, reduceCtorEq, Nat.reduceEqDiff, Nat.reduceSub, Nat.reduceAdd]
  refine Here.draw T_ok mixed_ok (by kernel_rfl) ?_
  simp only [Try.results49, go_sem, Nat.reduceMul, Nat.reduceLeDiff, Nat.reduceLT, reduceIte, reduceCtorEq, Nat.reduceEqDiff, Nat.reduceSub, Nat.reduceAdd]
  rw [he c a hc ha]
  simp only [Int.toNat_natCast]
  rw [hr c hc]
  refine ⟨⟨by omega, by omega⟩, ⟨by omega, by omega⟩, ⟨by omega, by omega⟩, ?_⟩
  refine ⟨_, OpP.call' rfl rfl (l01Inverse_spec t hg c hc) (by simp only [go_sem, Nat.reduceMul, Nat.reduceLeDiff, Nat.reduceLT, reduceIte, reduceCtorEq, Nat.reduceEqDiff, Nat.reduceSub, Nat.reduceAdd, List.toList_toArray] <;> first | rfl | exact ⟨rfl, rfl⟩) rfl, ?_⟩
  simp only [Try.results49, go_sem, Nat.reduceMul, Nat.reduceLeDiff, Nat.reduceLT, reduceIte, reduceCtorEq, Nat.reduceEqDiff, Nat.reduceSub, Nat.reduceAdd]
  rw [hr _ h1, he _ _ h1 h2]
  exact ⟨⟨by omega, by omega⟩, rfl⟩
/-! ### The derived subgroup -/
/-- a b a' b'. -/
def comT (t : List (List Int)) (a b : Nat) : Nat := em t (em t (em t a b) (invN t a)) (invN t b)
theorem com_lt {t : List (List Int)} (hg : Grp t) {a b : Nat} (ha : a < t.length) (hb : b < t.length) : comT t a b < t.length := em_lt hg (em_lt hg (em_lt hg ha hb) (invN_is hg ha).2.1) (invN_is hg hb).2.1
/-- A commutator of the rows so far. -/
def ComP (t : List (List Int)) (a b : Nat) (x : Int) : Prop := ∃ c d, c < t.length ∧ d < t.length ∧ (c < a ∨ c = a ∧ d < b) ∧ x = (comT t c d : Nat)
theorem comP_0 {t : List (List Int)} {x : Int} : ¬ ComP t 0 0 x := by rintro ⟨c, d, _, _, h, _⟩; omega
theorem comP_step {t : List (List Int)} {a b : Nat} (ha : a < t.length) (hb : b < t.length) {x : Int} : ComP t a (b + 1) x ↔ ComP t a b x ∨ x = (comT t a b : Nat) := by
  constructor
  · rintro ⟨c, d, hc, hd, h, rfl⟩
    by_cases e : c = a ∧ d = b
    · rw [e.1, e.2]; exact .inr rfl
    · exact .inl ⟨c, d, hc, hd, by omega, rfl⟩
  · rintro (⟨c, d, hc, hd, h, rfl⟩ | rfl)
    · exact ⟨c, d, hc, hd, by omega, rfl⟩
    · exact ⟨a, b, ha, hb, by omega, rfl⟩
theorem comP_row {t : List (List Int)} {a : Nat} {x : Int} : ComP t a t.length x ↔ ComP t (a + 1) 0 x := by
  constructor
  · rintro ⟨c, d, hc, hd, h, rfl⟩; exact ⟨c, d, hc, hd, by omega, rfl⟩
  · rintro ⟨c, d, hc, hd, h, rfl⟩; exact ⟨c, d, hc, hd, by omega, rfl⟩
open Classical in
noncomputable def comAll (t : List (List Int)) : List Int := (cnt t.length).filter fun x => decide (ComP t t.length 0 x)
theorem mem_comAll {t : List (List Int)} (hg : Grp t) {x : Int} : x ∈ comAll t ↔ ComP t t.length 0 x := by
  unfold comAll
  rw [List.mem_filter, mem_cnt]
  simp only [decide_eq_true_eq]
  constructor
  · rintro ⟨_, h⟩; exact h
  · intro h
    refine ⟨?_, h⟩
    obtain ⟨c, d, hc, hd, _, rfl⟩ := h
    have := com_lt hg hc hd
    omega
theorem comAll_in {t : List (List Int)} (hg : Grp t) : AreIn t.length (comAll t) := fun j hj => by
  obtain ⟨c, d, hc, hd, _, e⟩ := (mem_comAll hg).1 (getD_mem hj 0)
  have := com_lt hg hc hd
  omega
theorem genL_com {t : List (List Int)} (hg : Grp t) {l : List Int} (h : ∀ x, x ∈ l ↔ ComP t t.length 0 x) : genL t l = genL t (comAll t) :=
  genL_congr fun x => ⟨gen_sub fun a ha => (mem_comAll hg).2 ((h a).1 ha), gen_sub fun a ha => (h a).2 ((mem_comAll hg).1 ha)⟩
/-- The mask of the commutators so far, and of 0. -/
def ComM (t : List (List Int)) (c a b : Nat) : Prop := c < 2 ^ t.length ∧ ∀ x : Nat, c.testBit x = true ↔ x = 0 ∨ ComP t a b x
theorem comM_0 {t : List (List Int)} (hg : Grp t) : ComM t 1 0 0 := by
  refine ⟨by have := Nat.pow_le_pow_right (n := 2) (by decide) hg.1; omega, fun x => ?_⟩
  rw [show (1 : Nat) = 2 ^ 0 from rfl, Nat.testBit_two_pow, decide_eq_true_iff]
  exact ⟨fun h => .inl h.symm, fun h => h.elim Eq.symm fun h => absurd h comP_0⟩
theorem comM_step {t : List (List Int)} (hg : Grp t) {c a b : Nat} (ha : a < t.length) (hb : b < t.length) (h : ComM t c a b) : ComM t (c ||| 2 ^ comT t a b) a (b + 1) := by
  have hl := com_lt hg ha hb
  refine ⟨Nat.or_lt_two_pow h.1 (Nat.pow_lt_pow_right (by decide) hl), fun x => ?_⟩
  rw [bit_or, Bool.or_eq_true, h.2 x, decide_eq_true_iff, comP_step ha hb]
  constructor
  · rintro ((q | q) | q)
    · exact .inl q
    · exact .inr (.inl q)
    · exact .inr (.inr (by rw [q]))
  · rintro (q | q | q)
    · exact .inl (.inl q)
    · exact .inl (.inr q)
    · exact .inr (by omega)
theorem comM_row {t : List (List Int)} {c a : Nat} (h : ComM t c a t.length) : ComM t c (a + 1) 0 := ⟨h.1, fun x => by rw [h.2 x, comP_row]⟩
theorem genL_mask {t : List (List Int)} (hg : Grp t) {c : Nat} (h : ComM t c t.length 0) : bitsL (closeN t c) = genL t (comAll t) := by
  rw [bitsL_close hg h.1]
  refine genL_congr fun x => ⟨fun q => gen_idem hg (comAll_in hg) (fun a ha => ?_) q, fun q => gen_sub (fun a ha => ?_) q⟩
  · have h1 := mem_bitsL.1 ha
    refine ⟨h1.1.1, ?_⟩
    rcases (h.2 _).1 h1.2 with e | e
    · rw [e]; exact .zero
    · rw [Int.toNat_of_nonneg h1.1.1] at e
      exact gen_of hg (comAll_in hg) ((mem_comAll hg).2 e)
  · have h1 := (mem_comAll hg).1 ha
    obtain ⟨c', d, hc, hd, _, rfl⟩ := id h1
    have := com_lt hg hc hd
    have := hg.2.1
    exact mem_bitsL.2 ⟨⟨by omega, by omega⟩, (h.2 _).2 (.inr h1)⟩
noncomputable def derL (t : List (List Int)) : List Int := if Grp t then genL t (comAll t) else []
theorem derL_ok (t : List (List Int)) : (derL t).length ≤ 1048576 := by
  unfold derL
  split
  · rename_i h
    have h8 := h.2.1
    have := genL_len t (comAll t)
    omega
  · simp
theorem implDerivedOf (t : List (List Int)) : Spec Try.prog 22 [.agg [.rds (II t)]] (.tup [.own 0, .v (.int .i64 (codeG t))]) [.row 2 (I (derL t))] := by
  refine Spec.of_codeC T_ok Try.func22 rfl Try.ntmps22 Try.call22 (Nat.le_of_ble_eq_true rfl) rfl rfl (CodeV_sound T_ok (by kernel_rfl) rfl ?_)
  simp only [Try.results22, go_sem, Nat.reduceMul, Nat.reduceLeDiff, Nat.reduceLT, reduceIte, reduceCtorEq, Nat.reduceEqDiff, Nat.reduceSub, Nat.reduceAdd]
  refine HereO.call T_ok rfl rfl (IsGroup_spec t) (by simp only [go_sem, Nat.reduceMul, Nat.reduceLeDiff, Nat.reduceLT, reduceIte, reduceCtorEq, Nat.reduceEqDiff, Nat.reduceSub, Nat.reduceAdd, List.toList_toArray] <;> first | rfl | exact ⟨rfl, rfl⟩) rfl ?_
  simp only [Try.results22, go_sem, Nat.reduceMul, Nat.reduceLeDiff, Nat.reduceLT, reduceIte, reduceCtorEq, Nat.reduceEqDiff, Nat.reduceSub, Nat.reduceAdd]
  refine ⟨fun h => ?_, fun h => ?_⟩
  · exact RetC.conv (Conv.nilAt 2 150 (.row 2 []) (by decide) rfl) (RetC.of (RetT.one 150 (by simp only [Try.results22, go_sem, Nat.reduceMul, Nat.reduceLeDiff, Nat.reduceLT, reduceIte, reduceCtorEq, Nat.reduceEqDiff, Nat.reduceSub, Nat.reduceAdd]; rfl) (by simp only [Try.results22, go_sem, Nat.reduceMul, Nat.reduceLeDiff, Nat.reduceLT, reduceIte, reduceCtorEq, Nat.reduceEqDiff, Nat.reduceSub, Nat.reduceAdd] <;> simp [derL, codeG, h, I]) (by simp only [Try.results22, go_sem, Nat.reduceMul, Nat.reduceLeDiff, Nat.reduceLT, reduceIte, reduceCtorEq, Nat.reduceEqDiff, Nat.reduceSub, Nat.reduceAdd] <;> simp [derL, codeG, h, I])))
  · have hg := h
    have h8 := h.2.1
    refine HereO.buildRow T_ok 110 (I []) rfl rfl rfl (by decide) rfl (by first | rfl | (simp only [go_sem, Nat.reduceMul, Nat.reduceLeDiff, Nat.reduceLT, reduceIte, reduceCtorEq, Nat.reduceEqDiff, Nat.reduceSub, Nat.reduceAdd] <;> rfl)) rfl (by decide) ?_
    simp only [Try.results22, go_sem, Nat.reduceMul, Nat.reduceLeDiff, Nat.reduceLT, reduceIte, reduceCtorEq, Nat.reduceEqDiff, Nat.reduceSub, Nat.reduceAdd]
    refine HereO.call T_ok rfl rfl (order_spec t) (by simp only [go_sem, Nat.reduceMul, Nat.reduceLeDiff, Nat.reduceLT, reduceIte, reduceCtorEq, Nat.reduceEqDiff, Nat.reduceSub, Nat.reduceAdd, List.toList_toArray] <;> first | rfl | exact ⟨rfl, rfl⟩) rfl ?_
    simp only [Try.results22, go_sem, Nat.reduceMul, Nat.reduceLeDiff, Nat.reduceLT, reduceIte, reduceCtorEq, Nat.reduceEqDiff, Nat.reduceSub, Nat.reduceAdd]
    refine Here.loopV T_ok (κ := Nat × List Int) (fun s => s.1 ≤ t.length ∧ s.2.length = t.length * s.1 ∧ ∀ x, x ∈ s.2 ↔ ComP t s.1 0 x) (fun s => t.length - s.1) (fun s => [(1, .box [.rds (II t)]), (4, .own 110), (12, .v (.int .i64 t.length)), (13, .v (.int .i64 s.1))]) (fun s => [(110, .row 2 (I s.2))]) (0, []) ⟨by simp, by simp, fun x => by simp only [List.not_mem_nil, false_iff]; exact comP_0⟩ (by simp only [Try.results22, go_sem, Nat.reduceMul, Nat.reduceLeDiff, Nat.reduceLT, reduceIte, reduceCtorEq, Nat.reduceEqDiff, Nat.reduceSub, Nat.reduceAdd]; simp) (by simp only [Try.results22, go_sem, Nat.reduceMul, Nat.reduceLeDiff, Nat.reduceLT, reduceIte, reduceCtorEq, Nat.reduceEqDiff, Nat.reduceSub, Nat.reduceAdd]) ?_
    rintro ⟨a, L⟩ ⟨ha, hL, hx⟩
    dsimp only at ha hL hx ⊢
    simp only [Try.results22, go_sem, Nat.reduceMul, Nat.reduceLeDiff, Nat.reduceLT, reduceIte, reduceCtorEq, Nat.reduceEqDiff, Nat.reduceSub, Nat.reduceAdd]
    refine ⟨fun h2 => ?_, fun h2 => ?_⟩
    · refine HereO.call T_ok rfl rfl (order_spec t) (by simp only [go_sem, Nat.reduceMul, Nat.reduceLeDiff, Nat.reduceLT, reduceIte, reduceCtorEq, Nat.reduceEqDiff, Nat.reduceSub, Nat.reduceAdd, List.toList_toArray] <;> first | rfl | exact ⟨rfl, rfl⟩) rfl ?_
      simp only [Try.results22, go_sem, Nat.reduceMul, Nat.reduceLeDiff, Nat.reduceLT, reduceIte, reduceCtorEq, Nat.reduceEqDiff, Nat.reduceSub, Nat.reduceAdd]
      refine Here.loopV T_ok (κ := Nat × List Int) (fun s => s.1 ≤ t.length ∧ s.2.length = t.length * a + s.1 ∧ ∀ x, x ∈ s.2 ↔ ComP t a s.1 x) (fun s => t.length - s.1) (fun s => [(1, .box [.rds (II t)]), (4, .own 110), (5, .v (.int .i64 a)), (12, .v (.int .i64 t.length)), (13, .v (.int .i64 a)), (17, .v (.int .i64 t.length)), (18, .v (.int .i64 s.1))]) (fun s => [(110, .row 2 (I s.2))]) (0, L) ⟨by simp, by simpa using hL, hx⟩ (by simp only [Try.results22, go_sem, Nat.reduceMul, Nat.reduceLeDiff, Nat.reduceLT, reduceIte, reduceCtorEq, Nat.reduceEqDiff, Nat.reduceSub, Nat.reduceAdd]; simp) (by simp only [Try.results22, go_sem, Nat.reduceMul, Nat.reduceLeDiff, Nat.reduceLT, reduceIte, reduceCtorEq, Nat.reduceEqDiff, Nat.reduceSub, Nat.reduceAdd]) ?_
      rintro ⟨b, M⟩ ⟨hb, hM, hy⟩
      dsimp only at hb hM hy ⊢
      simp only [Try.results22, go_sem, Nat.reduceMul, Nat.reduceLeDiff, Nat.reduceLT, reduceIte, reduceCtorEq, Nat.reduceEqDiff, Nat.reduceSub, Nat.reduceAdd]
      refine ⟨fun h3 => ?_, fun h3 => ?_⟩
      · have hal : a < t.length := by omega
        have hbl : b < t.length := by omega
        have hle : t.length * a ≤ 8 * 8 := Nat.mul_le_mul h8 (by omega)
        refine Here.drawS T_ok 13 (Nat.le_of_ble_eq_true rfl) mixed_ok (by kernel_rfl) (by kernel_rfl) ?_
        simp only [Try.results22, go_sem, Nat.reduceMul, Nat.reduceLeDiff, Nat.reduceLT, reduceIte, reduceCtorEq, Nat.reduceEqDiff, Nat.reduceSub, Nat.reduceAdd]
        refine ⟨_, OpP.call' rfl rfl (inverse_spec t hg a hal) (by simp only [go_sem, Nat.reduceMul, Nat.reduceLeDiff, Nat.reduceLT, reduceIte, reduceCtorEq, Nat.reduceEqDiff, Nat.reduceSub, Nat.reduceAdd, List.toList_toArray] <;> first | rfl | exact ⟨rfl, rfl⟩) rfl, ?_⟩
        simp only [Try.results22, go_sem, Nat.reduceMul, Nat.reduceLeDiff, Nat.reduceLT, reduceIte, reduceCtorEq, Nat.reduceEqDiff, Nat.reduceSub, Nat.reduceAdd]
        refine ⟨_, OpP.call' rfl rfl (inverse_spec t hg b hbl) (by simp only [go_sem, Nat.reduceMul, Nat.reduceLeDiff, Nat.reduceLT, reduceIte, reduceCtorEq, Nat.reduceEqDiff, Nat.reduceSub, Nat.reduceAdd, List.toList_toArray] <;> first | rfl | exact ⟨rfl, rfl⟩) rfl, ?_⟩
        simp only [Try.results22, go_sem, Nat.reduceMul, Nat.reduceLeDiff, Nat.reduceLT, reduceIte, reduceCtorEq, Nat.reduceEqDiff, Nat.reduceSub, Nat.reduceAdd]
        refine ⟨_, OpP.buildRd T_ok (I [(a : Int), (b : Int), (invN t a : Int), (invN t b : Int)]) rfl rfl rfl (by decide) rfl (by first | rfl | (simp only [go_sem, Nat.reduceMul, Nat.reduceLeDiff, Nat.reduceLT, reduceIte, reduceCtorEq, Nat.reduceEqDiff, Nat.reduceSub, Nat.reduceAdd] <;> rfl)) rfl, ?_⟩
        simp only [Try.results22, go_sem, Nat.reduceMul, Nat.reduceLeDiff, Nat.reduceLT, reduceIte, reduceCtorEq, Nat.reduceEqDiff, Nat.reduceSub, Nat.reduceAdd]
        refine ⟨_, OpP.call' rfl rfl (times4_spec t hg a b (invN t a) (invN t b) hal hbl (invN_is hg hal).2.1 (invN_is hg hbl).2.1) (by simp only [go_sem, Nat.reduceMul, Nat.reduceLeDiff, Nat.reduceLT, reduceIte, reduceCtorEq, Nat.reduceEqDiff, Nat.reduceSub, Nat.reduceAdd, List.toList_toArray] <;> first | rfl | exact ⟨rfl, rfl⟩) rfl, ?_⟩
        simp only [Try.results22, go_sem, Nat.reduceMul, Nat.reduceLeDiff, Nat.reduceLT, reduceIte, reduceCtorEq, Nat.reduceEqDiff, Nat.reduceSub, Nat.reduceAdd]
        refine ⟨_, OpP.buildRd T_ok (I [((comT t a b : Nat) : Int)]) rfl rfl rfl (by decide) rfl (by first | rfl | (simp only [go_sem, Nat.reduceMul, Nat.reduceLeDiff, Nat.reduceLT, reduceIte, reduceCtorEq, Nat.reduceEqDiff, Nat.reduceSub, Nat.reduceAdd] <;> rfl)) rfl, ?_⟩
        simp only [Try.results22, go_sem, Nat.reduceMul, Nat.reduceLeDiff, Nat.reduceLT, reduceIte, reduceCtorEq, Nat.reduceEqDiff, Nat.reduceSub, Nat.reduceAdd]
        refine HereO.append T_ok (I [((comT t a b : Nat) : Int)]) rfl rfl (by decide) (by simp only [go_sem, Nat.reduceMul, Nat.reduceLeDiff, Nat.reduceLT, reduceIte, reduceCtorEq, Nat.reduceEqDiff, Nat.reduceSub, Nat.reduceAdd] <;> rfl) (by decide) (by simp only [go_sem, Nat.reduceMul, Nat.reduceLeDiff, Nat.reduceLT, reduceIte, reduceCtorEq, Nat.reduceEqDiff, Nat.reduceSub, Nat.reduceAdd] <;> rfl) (by simp only [go_sem, Nat.reduceMul, Nat.reduceLeDiff, Nat.reduceLT, reduceIte, reduceCtorEq, Nat.reduceEqDiff, Nat.reduceSub, Nat.reduceAdd] <;> rfl) (.rd _) (I_one _) (by first | (simp only [II_len]; omega) | simp only [I_len, II_len, upTo_len, tab_len, cnt_len, List.length_append, List.length_cons, List.length_nil, List.length_replicate]; omega) ?_
        simp only [Try.results22, go_sem, Nat.reduceMul, Nat.reduceLeDiff, Nat.reduceLT, reduceIte, reduceCtorEq, Nat.reduceEqDiff, Nat.reduceSub, Nat.reduceAdd]
        rw [I_append]
        refine ⟨by unfold InR; omega, (b + 1, M ++ [((comT t a b : Nat) : Int)]), ⟨by dsimp only; omega, by simp; omega, fun x => ?_⟩, by dsimp only; omega, by push_cast; rfl, rfl⟩
        rw [comP_step hal hbl, ← hy]
        simp
      · obtain rfl : b = t.length := by omega
        refine ⟨by unfold InR; omega, (a + 1, M), ⟨by dsimp only; omega, by dsimp only; rw [hM, Nat.mul_add, Nat.mul_one], fun x => ?_⟩, by dsimp only; omega, by push_cast; rfl, rfl⟩
        rw [hy, comP_row]
    · obtain rfl : a = t.length := by omega
      have hle : t.length * t.length ≤ 8 * 8 := Nat.mul_le_mul h8 h8
      have hin : AreIn t.length L := fun j hj => by
        obtain ⟨c, d, hc, hd, _, e⟩ := (hx _).1 (getD_mem hj 0)
        have := com_lt hg hc hd
        omega
      refine HereO.callOwn T_ok 39 rfl rfl (subgroup_spec t hg L hin (by omega)) (by simp only [go_sem, Nat.reduceMul, Nat.reduceLeDiff, Nat.reduceLT, reduceIte, reduceCtorEq, Nat.reduceEqDiff, Nat.reduceSub, Nat.reduceAdd, List.toList_toArray] <;> first | rfl | exact ⟨rfl, rfl⟩) rfl (by simp) rfl ?_
      simp only [Try.results22, go_sem, Nat.reduceMul, Nat.reduceLeDiff, Nat.reduceLT, reduceIte, reduceCtorEq, Nat.reduceEqDiff, Nat.reduceSub, Nat.reduceAdd]
      exact RetC.of (RetT.one 1624 (by simp only [Try.results22, go_sem, Nat.reduceMul, Nat.reduceLeDiff, Nat.reduceLT, reduceIte, reduceCtorEq, Nat.reduceEqDiff, Nat.reduceSub, Nat.reduceAdd]; rfl) (by simp only [Try.results22, go_sem, Nat.reduceMul, Nat.reduceLeDiff, Nat.reduceLT, reduceIte, reduceCtorEq, Nat.reduceEqDiff, Nat.reduceSub, Nat.reduceAdd] <;> simp [derL, codeG, h, genL_com hg hx]) (by simp only [Try.results22, go_sem, Nat.reduceMul, Nat.reduceLeDiff, Nat.reduceLT, reduceIte, reduceCtorEq, Nat.reduceEqDiff, Nat.reduceSub, Nat.reduceAdd] <;> simp [derL, codeG, h, genL_com hg hx]))
theorem specDerivedOf (t : List (List Int)) : Spec Try.prog 21 [.agg [.rds (II t)]] (.tup [.own 0, .v (.int .i64 (codeG t))]) [.row 2 (I (derL t))] := by
  refine Spec.of_codeC T_ok Try.func21 rfl Try.ntmps21 Try.call21 (Nat.le_of_ble_eq_true rfl) rfl rfl (CodeV_sound T_ok (by kernel_rfl) rfl ?_)
  simp only [Try.results21, go_sem, Nat.reduceMul, Nat.reduceLeDiff, Nat.reduceLT, reduceIte, reduceCtorEq, Nat.reduceEqDiff, Nat.reduceSub, Nat.reduceAdd]
  refine HereO.call T_ok rfl rfl (l01Is_spec t) (by simp only [go_sem, Nat.reduceMul, Nat.reduceLeDiff, Nat.reduceLT, reduceIte, reduceCtorEq, Nat.reduceEqDiff, Nat.reduceSub, Nat.reduceAdd, List.toList_toArray] <;> first | rfl | exact ⟨rfl, rfl⟩) rfl ?_
  simp only [Try.results21, go_sem, Nat.reduceMul, Nat.reduceLeDiff, Nat.reduceLT, reduceIte, reduceCtorEq, Nat.reduceEqDiff, Nat.reduceSub, Nat.reduceAdd]
  refine ⟨fun h => ?_, fun h => ?_⟩
  · exact RetC.conv (Conv.nilAt 2 150 (.row 2 []) (by decide) rfl) (RetC.of (RetT.one 150 (by simp only [Try.results21, go_sem, Nat.reduceMul, Nat.reduceLeDiff, Nat.reduceLT, reduceIte, reduceCtorEq, Nat.reduceEqDiff, Nat.reduceSub, Nat.reduceAdd]; rfl) (by simp only [Try.results21, go_sem, Nat.reduceMul, Nat.reduceLeDiff, Nat.reduceLT, reduceIte, reduceCtorEq, Nat.reduceEqDiff, Nat.reduceSub, Nat.reduceAdd] <;> simp [derL, codeG, h, I]) (by simp only [Try.results21, go_sem, Nat.reduceMul, Nat.reduceLeDiff, Nat.reduceLT, reduceIte, reduceCtorEq, Nat.reduceEqDiff, Nat.reduceSub, Nat.reduceAdd] <;> simp [derL, codeG, h, I])))
  · have hg := h
    have h8 := h.2.1
    have hr : ∀ a, a < t.length → (t.getD a []).length = t.length := fun a ha => (hg.2.2.1 a ha).1
    have he : ∀ a b, a < t.length → b < t.length → (t.getD a []).getD b 0 = em t a b := fun a b ha hb => by have := em_ee hg ha hb; unfold ee at this; exact this
    refine Here.loopV T_ok (κ := Nat × Nat) (fun s => s.1 ≤ t.length ∧ ComM t s.2 s.1 0) (fun s => t.length - s.1) (fun s => [(1, .box [.rds (II t)]), (4, .v (.int .i64 s.2)), (5, .v (.int .i64 s.1))]) (fun _ => []) (0, 1) ⟨by simp, comM_0 hg⟩ (by simp only [Try.results21, go_sem, Nat.reduceMul, Nat.reduceLeDiff, Nat.reduceLT, reduceIte, reduceCtorEq, Nat.reduceEqDiff, Nat.reduceSub, Nat.reduceAdd]; simp) trivial ?_
    rintro ⟨a, c⟩ ⟨ha, hc⟩
    dsimp only at ha hc ⊢
    simp only [Try.results21, go_sem, Nat.reduceMul, Nat.reduceLeDiff, Nat.reduceLT, reduceIte, reduceCtorEq, Nat.reduceEqDiff, Nat.reduceSub, Nat.reduceAdd]
    refine HereO.call T_ok rfl rfl (l01N_spec t) (by simp only [go_sem, Nat.reduceMul, Nat.reduceLeDiff, Nat.reduceLT, reduceIte, reduceCtorEq, Nat.reduceEqDiff, Nat.reduceSub, Nat.reduceAdd, List.toList_toArray] <;> first | rfl | exact ⟨rfl, rfl⟩) rfl ?_
    simp only [Try.results21, go_sem, Nat.reduceMul, Nat.reduceLeDiff, Nat.reduceLT, reduceIte, reduceCtorEq, Nat.reduceEqDiff, Nat.reduceSub, Nat.reduceAdd]
    refine ⟨fun h2 => ?_, fun h2 => ?_⟩
    · refine Here.loopV T_ok (κ := Nat × Nat) (fun s => s.1 ≤ t.length ∧ ComM t s.2 a s.1) (fun s => t.length - s.1) (fun s => [(1, .box [.rds (II t)]), (4, .v (.int .i64 s.2)), (5, .v (.int .i64 a)), (6, .v (.int .i64 s.1))]) (fun _ => []) (0, c) ⟨by simp, hc⟩ (by simp only [Try.results21, go_sem, Nat.reduceMul, Nat.reduceLeDiff, Nat.reduceLT, reduceIte, reduceCtorEq, Nat.reduceEqDiff, Nat.reduceSub, Nat.reduceAdd]; simp) trivial ?_
      rintro ⟨b, d⟩ ⟨hb, hd⟩
      dsimp only at hb hd ⊢
      simp only [Try.results21, go_sem, Nat.reduceMul, Nat.reduceLeDiff, Nat.reduceLT, reduceIte, reduceCtorEq, Nat.reduceEqDiff, Nat.reduceSub, Nat.reduceAdd]
      refine HereO.call T_ok rfl rfl (l01N_spec t) (by simp only [go_sem, Nat.reduceMul, Nat.reduceLeDiff, Nat.reduceLT, reduceIte, reduceCtorEq, Nat.reduceEqDiff, Nat.reduceSub, Nat.reduceAdd, List.toList_toArray] <;> first | rfl | exact ⟨rfl, rfl⟩) rfl ?_
      simp only [Try.results21, go_sem, Nat.reduceMul, Nat.reduceLeDiff, Nat.reduceLT, reduceIte, reduceCtorEq, Nat.reduceEqDiff, Nat.reduceSub, Nat.reduceAdd]
      refine ⟨fun h3 => ?_, fun h3 => ?_⟩
      · have hal : a < t.length := by omega
        have hbl : b < t.length := by omega
        have hcj := cj_lt hg hal hbl
        have hiv := (invN_is hg hbl).2.1
        have hlt := com_lt hg hal hbl
        have hd8 : d < 256 := Nat.lt_of_lt_of_le hd.1 (by have := Nat.pow_le_pow_right (n := 2) (by decide) h8; exact this)
        have hs := shl_fact (comT t a b) (by omega)
        refine Here.draw T_ok mixed_ok (by kernel_rfl) ?_
        simp only [Try.results21, go_sem, Nat.reduceMul, Nat.reduceLeDiff, Nat.reduceLT, reduceIte, reduceCtorEq, Nat.reduceEqDiff, Nat.reduceSub, Nat.reduceAdd]
        refine ⟨_, OpP.call' rfl rfl (l01Conjugate_spec t hg b a hbl hal) (by simp only [go_sem, Nat.reduceMul, Nat.reduceLeDiff, Nat.reduceLT, reduceIte, reduceCtorEq, Nat.reduceEqDiff, Nat.reduceSub, Nat.reduceAdd, List.toList_toArray] <;> first | rfl | exact ⟨rfl, rfl⟩) rfl, ?_⟩
        simp only [Try.results21, go_sem, Nat.reduceMul, Nat.reduceLeDiff, Nat.reduceLT, reduceIte, reduceCtorEq, Nat.reduceEqDiff, Nat.reduceSub, Nat.reduceAdd]
        refine ⟨⟨by omega, by omega⟩, ?_⟩
        refine ⟨_, OpP.call' rfl rfl (l01Inverse_spec t hg b hbl) (by simp only [go_sem, Nat.reduceMul, Nat.reduceLeDiff, Nat.reduceLT, reduceIte, reduceCtorEq, Nat.reduceEqDiff, Nat.reduceSub, Nat.reduceAdd, List.toList_toArray] <;> first | rfl | exact ⟨rfl, rfl⟩) rfl, ?_⟩
        simp only [Try.results21, go_sem, Nat.reduceMul, Nat.reduceLeDiff, Nat.reduceLT, reduceIte, reduceCtorEq, Nat.reduceEqDiff, Nat.reduceSub, Nat.reduceAdd]
        rw [hr _ hcj, he _ _ hcj hiv]
        rw [show em t (cjN t a b) (invN t b) = comT t a b from rfl, hs.1, or_fact d hd8 (comT t a b) (by omega)]
        exact ⟨⟨by omega, by omega⟩, by unfold InR; omega, (b + 1, d ||| 2 ^ comT t a b), ⟨by dsimp only; omega, comM_step hg hal hbl hd⟩, by dsimp only; omega, rfl, by push_cast; rfl⟩
      · obtain rfl : b = t.length := by omega
        exact ⟨by unfold InR; omega, (a + 1, d), ⟨by dsimp only; omega, comM_row hd⟩, by dsimp only; omega, by rfl, by push_cast; rfl⟩
    · obtain rfl : a = t.length := by omega
      refine HereO.call T_ok rfl rfl (l01Closed_spec t hg c hc.1) (by simp only [go_sem, Nat.reduceMul, Nat.reduceLeDiff, Nat.reduceLT, reduceIte, reduceCtorEq, Nat.reduceEqDiff, Nat.reduceSub, Nat.reduceAdd, List.toList_toArray] <;> first | rfl | exact ⟨rfl, rfl⟩) rfl ?_
      simp only [Try.results21, go_sem, Nat.reduceMul, Nat.reduceLeDiff, Nat.reduceLT, reduceIte, reduceCtorEq, Nat.reduceEqDiff, Nat.reduceSub, Nat.reduceAdd]
      have hw := l01List_spec (closeN t c) (closeN_lt _ _)
      rw [genL_mask hg hc] at hw
      refine HereO.callOwn T_ok 44 rfl rfl (hw) (by simp only [go_sem, Nat.reduceMul, Nat.reduceLeDiff, Nat.reduceLT, reduceIte, reduceCtorEq, Nat.reduceEqDiff, Nat.reduceSub, Nat.reduceAdd, List.toList_toArray] <;> first | rfl | exact ⟨rfl, rfl⟩) rfl (by simp) rfl ?_
      simp only [Try.results21, go_sem, Nat.reduceMul, Nat.reduceLeDiff, Nat.reduceLT, reduceIte, reduceCtorEq, Nat.reduceEqDiff, Nat.reduceSub, Nat.reduceAdd]
      exact RetC.of (RetT.one 1704 (by simp only [Try.results21, go_sem, Nat.reduceMul, Nat.reduceLeDiff, Nat.reduceLT, reduceIte, reduceCtorEq, Nat.reduceEqDiff, Nat.reduceSub, Nat.reduceAdd]; rfl) (by simp only [Try.results21, go_sem, Nat.reduceMul, Nat.reduceLeDiff, Nat.reduceLT, reduceIte, reduceCtorEq, Nat.reduceEqDiff, Nat.reduceSub, Nat.reduceAdd] <;> simp [derL, codeG, h]) (by simp only [Try.results21, go_sem, Nat.reduceMul, Nat.reduceLeDiff, Nat.reduceLT, reduceIte, reduceCtorEq, Nat.reduceEqDiff, Nat.reduceSub, Nat.reduceAdd] <;> simp [derL, codeG, h]))
end Go.Proofs.Ytdbkiomhoonclaa
