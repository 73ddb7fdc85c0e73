/- Plain facts of groups: what is made by some elements, masks, cosets, renumbering, lists in order. -/
import Derived.Test.YtcjhojdlfnpgjaaGreatK16
import Derived.Test.YtcjhojdlfnpgjaaGreatK17
set_option linter.unusedVariables false
set_option linter.unusedSimpArgs false
set_option maxRecDepth 100000
namespace Go.Proofs.YtcjhojdlfnpgjaaGreat
open Go.RowKit
inductive Gen (t : List (List Int)) (S : List Int) : Nat → Prop
  | zero : Gen t S 0
  | step {x : Nat} (hx : Gen t S x) (a : Int) (ha : a ∈ S) : Gen t S (em t x a.toNat)
theorem areIn_mem {n : Int} {l : List Int} (h : AreIn n l) {a : Int} (ha : a ∈ l) : 0 ≤ a ∧ a < n := by
  obtain ⟨j, hj, rfl⟩ := List.mem_iff_getElem.1 ha
  have := h j hj
  rwa [List.getD_eq_getElem?_getD, List.getElem?_eq_getElem hj, Option.getD_some] at this
section
variable {t : List (List Int)} (hg : Grp t) {S : List Int} (hS : AreIn t.length S)
include hg hS
theorem gen_lt {x : Nat} (h : Gen t S x) : x < t.length := by
  induction h with
  | zero => have := hg.1; omega
  | step hx a ha ih => have := areIn_mem hS ha; exact em_lt hg ih (by omega)
theorem gen_mul {x y : Nat} (hx : Gen t S x) (hy : Gen t S y) : Gen t S (em t x y) := by
  have hxl := gen_lt hg hS hx
  induction hy with
  | zero => rw [em_zr hg hxl]; exact hx
  | step hy a ha ih =>
    have h1 := areIn_mem hS ha
    rw [← em_assoc hg hxl (gen_lt hg hS hy) (by omega)]
    exact .step ih a ha
theorem gen_of {a : Int} (ha : a ∈ S) : Gen t S a.toNat := by
  have h1 := areIn_mem hS ha
  have := Gen.step (t := t) (S := S) .zero a ha
  rwa [em_zl hg (by omega)] at this
theorem gen_idem {S' : List Int} (h : ∀ a ∈ S', 0 ≤ a ∧ Gen t S a.toNat) {x : Nat} (hx : Gen t S' x) : Gen t S x := by
  induction hx with
  | zero => exact .zero
  | step _ a ha ih => exact gen_mul hg hS ih (h a ha).2
end
theorem gen_sub {t : List (List Int)} {S S' : List Int} (h : ∀ a ∈ S', a ∈ S) {x : Nat} (hx : Gen t S' x) : Gen t S x := by
  induction hx with
  | zero => exact .zero
  | step _ a ha ih => exact .step ih a (h a ha)
theorem gen_in {t : List (List Int)} {S : List Int} {Q : Nat → Prop} (h0 : Q 0) (h1 : ∀ x, Q x → ∀ a ∈ S, Q (em t x a.toNat)) {x : Nat} (hx : Gen t S x) : Q x := by
  induction hx with
  | zero => exact h0
  | step _ a ha ih => exact h1 _ ih a ha
open Classical in
noncomputable def genB (t : List (List Int)) (S : List Int) (x : Int) : Bool := decide (Gen t S x.toNat)
theorem genB_iff {t : List (List Int)} {S : List Int} {x : Int} : genB t S x = true ↔ Gen t S x.toNat := by unfold genB; simp
noncomputable def genL (t : List (List Int)) (S : List Int) : List Int := (cnt t.length).filter (genB t S)
theorem mem_cnt {n : Nat} {x : Int} : x ∈ cnt n ↔ 0 ≤ x ∧ x < n := by
  unfold cnt upTo
  rw [List.mem_map]
  constructor
  · rintro ⟨a, ha, rfl⟩; have := List.mem_range.1 ha; omega
  · intro h; exact ⟨x.toNat, List.mem_range.2 (by omega), by omega⟩
theorem mem_genL {t : List (List Int)} {S : List Int} {x : Int} : x ∈ genL t S ↔ (0 ≤ x ∧ x < t.length) ∧ Gen t S x.toNat := by
  unfold genL
  rw [List.mem_filter, mem_cnt, genB_iff]
def Asc (l : List Int) : Prop := l.Pairwise (· < ·)
theorem cnt_asc (n : Nat) : Asc (cnt n) := by
  unfold Asc cnt upTo
  rw [List.pairwise_map]
  exact List.pairwise_lt_range.imp (by intros; omega)
theorem Asc.filter {l : List Int} (h : Asc l) (p : Int → Bool) : Asc (l.filter p) := List.Pairwise.filter _ h
theorem asc_ext : ∀ {l m : List Int}, Asc l → Asc m → (∀ x, x ∈ l ↔ x ∈ m) → l = m
  | [], [], _, _, _ => rfl
  | [], y :: m, _, _, h => by have := (h y).2 (by simp); cases this
  | x :: l, [], _, _, h => by have := (h x).1 (by simp); cases this
  | x :: l, y :: m, h1, h2, h => by
    unfold Asc at h1 h2
    rw [List.pairwise_cons] at h1 h2
    have e : x = y := by
      rcases List.mem_cons.1 ((h x).1 (by simp)) with q | q
      · exact q
      · rcases List.mem_cons.1 ((h y).2 (by simp)) with q2 | q2
        · exact q2.symm
        · have := h1.1 y q2; have := h2.1 x q; omega
    subst e
    congr 1
    refine asc_ext h1.2 h2.2 fun z => ?_
    have hz := h z
    simp only [List.mem_cons] at hz
    constructor
    · intro q
      rcases hz.1 (.inr q) with r | r
      · subst r; have := h1.1 _ q; omega
      · exact r
    · intro q
      rcases hz.2 (.inr q) with r | r
      · subst r; have := h2.1 _ q; omega
      · exact r
theorem genL_asc (t : List (List Int)) (S : List Int) : Asc (genL t S) := (cnt_asc _).filter _
theorem genL_eq {t : List (List Int)} {S l : List Int} (hl : Asc l) (h : ∀ x, x ∈ l ↔ (0 ≤ x ∧ x < t.length) ∧ Gen t S x.toNat) : l = genL t S := asc_ext hl (genL_asc t S) fun x => by rw [h, mem_genL]
theorem genL_congr {t : List (List Int)} {S S' : List Int} (h : ∀ x, Gen t S x ↔ Gen t S' x) : genL t S = genL t S' := genL_eq (genL_asc t S) fun x => by rw [mem_genL, h]
theorem filter_len_le {p : Int → Bool} {l : List Int} : (l.filter p).length ≤ l.length := List.length_filter_le _ _
theorem genL_len (t : List (List Int)) (S : List Int) : (genL t S).length ≤ t.length := by
  have h := filter_len_le (p := genB t S) (l := cnt t.length)
  have e : (cnt t.length).length = t.length := by simp [cnt, upTo]
  unfold genL
  omega
theorem nodup_len {n : Nat} {l : List Int} (h : l.Nodup) (hl : ∀ x ∈ l, 0 ≤ x ∧ x < n) : l.length ≤ n := by
  apply Classical.byContradiction
  intro hn
  have hm : ∀ k, k < l.length → l.getD k 0 ∈ l := fun k hk => by
    rw [List.getD_eq_getElem?_getD, List.getElem?_eq_getElem hk, Option.getD_some]; exact List.getElem_mem _
  obtain ⟨i, j, hij, hj, he⟩ := pigeon n (fun k => (l.getD k 0).toNat) fun k hk => by have := hl _ (hm k (by omega)); show (l.getD k 0).toNat < n; omega
  have h1 := hl _ (hm i (by omega))
  have h2 := hl _ (hm j (by omega))
  have he' : l.getD i 0 = l.getD j 0 := by
    have : (l.getD i 0).toNat = (l.getD j 0).toNat := he
    omega
  rw [List.getD_eq_getElem?_getD, List.getD_eq_getElem?_getD, List.getElem?_eq_getElem (show i < l.length by omega), List.getElem?_eq_getElem (show j < l.length by omega), Option.getD_some, Option.getD_some] at he'
  have := (List.nodup_iff_pairwise_ne.1 h)
  exact List.pairwise_iff_getElem.1 this i j (by omega) (by omega) hij he'
theorem Asc.nodup {l : List Int} (h : Asc l) : l.Nodup := List.nodup_iff_pairwise_ne.2 (List.Pairwise.imp (fun h => by omega) h)
theorem asc_of_sorted {l : List Int} (h : l.Pairwise (· ≤ ·)) (hn : l.Nodup) : Asc l := by
  have := (List.nodup_iff_pairwise_ne.1 hn)
  exact (List.Pairwise.and h this).imp (by intro a b h; have := h.1; have := h.2; omega)
def maskN (p : Nat → Bool) : Nat → Nat
  | 0 => 0
  | k + 1 => maskN p k ||| (if p k then 2 ^ k else 0)
theorem maskN_bit (p : Nat → Bool) : ∀ (k a : Nat), (maskN p k).testBit a = (decide (a < k) && p a)
  | 0, a => by simp [maskN]
  | k + 1, a => by
    rw [maskN, Nat.testBit_or, maskN_bit p k a]
    by_cases h : p k = true
    · rw [if_pos h, Nat.testBit_two_pow]
      by_cases e : k = a
      · subst e; simp [h]
      · rw [decide_eq_false e, Bool.or_false]
        congr 1
        rw [decide_eq_decide]; omega
    · rw [if_neg h, Nat.zero_testBit, Bool.or_false]
      by_cases e : k = a
      · subst e; simp at h; simp [h]
      · congr 1
        rw [decide_eq_decide]; omega
theorem maskN_lt (p : Nat → Bool) (k : Nat) : maskN p k < 2 ^ k := by
  apply Nat.lt_pow_two_of_testBit
  intro i hi
  rw [maskN_bit, decide_eq_false (by omega)]; rfl
theorem mask_ext {m m' : Nat} (h : m < 256) (h' : m' < 256) (hb : ∀ a, a < 8 → m.testBit a = m'.testBit a) : m = m' := by
  apply Nat.eq_of_testBit_eq
  intro a
  by_cases ha : a < 8
  · exact hb a ha
  · have e : 2 ^ 8 ≤ 2 ^ a := Nat.pow_le_pow_right (by decide) (by omega)
    rw [Nat.testBit_lt_two_pow (Nat.lt_of_lt_of_le h e), Nat.testBit_lt_two_pow (Nat.lt_of_lt_of_le h' e)]
def bitsL (m : Nat) : List Int := (cnt 8).filter fun x => m.testBit x.toNat
theorem mem_bitsL {m : Nat} {x : Int} : x ∈ bitsL m ↔ (0 ≤ x ∧ x < 8) ∧ m.testBit x.toNat = true := by
  unfold bitsL
  rw [List.mem_filter, mem_cnt]; rfl
theorem sub_end {t : List (List Int)} (hg : Grp t) {S : List Int} (hS : AreIn t.length S) {out l : List Int} (h0 : (0 : Int) ∈ out) (hn : out.Nodup) (hgen : ∀ x ∈ out, 0 ≤ x ∧ Gen t S x.toNat)
    (hcl : ∀ x ∈ out, ∀ a ∈ S, ((em t x.toNat a.toNat : Nat) : Int) ∈ out) (hs : l.Pairwise (· ≤ ·)) (hp : l.Perm out) : l = genL t S := by
  refine genL_eq (asc_of_sorted hs (hp.nodup_iff.2 hn)) fun x => ?_
  rw [hp.mem_iff]
  constructor
  · intro h
    have h1 := hgen x h
    have h2 := gen_lt hg hS h1.2
    exact ⟨⟨h1.1, by omega⟩, h1.2⟩
  · rintro ⟨h1, h2⟩
    have key : ∀ y : Nat, Gen t S y → (y : Int) ∈ out := fun y hy => gen_in (Q := fun y => ((y : Nat) : Int) ∈ out) h0 (fun y hy a ha => by have := hcl _ hy a ha; rwa [Int.toNat_natCast] at this) hy
    have := key _ h2
    rwa [Int.toNat_of_nonneg h1.1] at this
open Classical in
noncomputable def genP (t : List (List Int)) (S : List Int) (a : Nat) : Bool := decide (Gen t S a)
theorem genP_iff {t : List (List Int)} {S : List Int} {a : Nat} : genP t S a = true ↔ Gen t S a := by unfold genP; simp
noncomputable def closeN (t : List (List Int)) (m : Nat) : Nat := maskN (genP t (bitsL m)) 8
theorem closeN_lt (t : List (List Int)) (m : Nat) : closeN t m < 256 := maskN_lt _ 8
theorem bitsL_in {n m : Nat} (hm : m < 2 ^ n) : AreIn n (bitsL m) := by
  intro j hj
  have : (bitsL m).getD j 0 ∈ bitsL m := by rw [List.getD_eq_getElem?_getD, List.getElem?_eq_getElem hj, Option.getD_some]; exact List.getElem_mem _
  have h := mem_bitsL.1 this
  refine ⟨h.1.1, ?_⟩
  apply Classical.byContradiction
  intro hn
  have : m.testBit ((bitsL m).getD j 0).toNat = false := Nat.testBit_lt_two_pow (Nat.lt_of_lt_of_le hm (Nat.pow_le_pow_right (by decide) (by omega)))
  rw [this] at h
  exact absurd h.2 (by simp)
theorem bitsL_close {t : List (List Int)} (hg : Grp t) {m : Nat} (hm : m < 2 ^ t.length) : bitsL (closeN t m) = genL t (bitsL m) := by
  refine genL_eq ((cnt_asc _).filter _) fun x => ?_
  rw [mem_bitsL, closeN, maskN_bit, Bool.and_eq_true, genP_iff, decide_eq_true_iff]
  have h8 := hg.2.1
  constructor
  · rintro ⟨h1, h2, h3⟩; have := gen_lt hg (bitsL_in hm) h3; exact ⟨⟨h1.1, by omega⟩, h3⟩
  · rintro ⟨h1, h3⟩; exact ⟨⟨h1.1, by omega⟩, by omega, h3⟩
theorem close_end {t : List (List Int)} (hg : Grp t) {m c : Nat} (hm : m < 2 ^ t.length) (hc : c < 256) (hgen : ∀ a, c.testBit a = true → Gen t (bitsL m) a) (h0 : c.testBit 0 = true) (hS : ∀ a, m.testBit a = true → c.testBit a = true)
    (hcl : ∀ x y, c.testBit x = true → c.testBit y = true → c.testBit (em t x y) = true) : c = closeN t m := by
  refine mask_ext hc (closeN_lt t m) fun a ha => ?_
  rw [closeN, maskN_bit, decide_eq_true ha, Bool.true_and, Bool.eq_iff_iff, genP_iff]
  refine ⟨hgen a, fun h => gen_in (Q := fun a => c.testBit a = true) h0 (fun x hx b hb => ?_) h⟩
  have h1 := mem_bitsL.1 hb
  exact hcl _ _ hx (hS _ h1.2)
def bitsM (l : List Int) : Nat := maskN (fun a => decide ((a : Int) ∈ l)) 8
theorem bitsM_lt {n : Nat} {l : List Int} (hn : n ≤ 8) (h : AreIn n l) : bitsM l < 2 ^ n := by
  apply Nat.lt_pow_two_of_testBit
  intro i hi
  rw [bitsM, maskN_bit]
  by_cases e : ((i : Nat) : Int) ∈ l
  · have := areIn_mem h e; omega
  · rw [decide_eq_false e, Bool.and_false]
theorem bitsM_bit {n : Nat} {l : List Int} (hn : n ≤ 8) (h : AreIn n l) (a : Nat) : (bitsM l).testBit a = decide ((a : Int) ∈ l) := by
  rw [bitsM, maskN_bit]
  by_cases e : ((a : Nat) : Int) ∈ l
  · have := areIn_mem h e; rw [decide_eq_true e, decide_eq_true (by omega)]; rfl
  · rw [decide_eq_false e, Bool.and_false]
theorem mem_bitsLM {n : Nat} {l : List Int} (hn : n ≤ 8) (h : AreIn n l) {x : Int} : x ∈ bitsL (bitsM l) ↔ x ∈ l := by
  rw [mem_bitsL, bitsM_bit hn h, decide_eq_true_iff]
  constructor
  · rintro ⟨h1, h2⟩; rwa [Int.toNat_of_nonneg h1.1] at h2
  · intro h2; have h1 := areIn_mem h h2; exact ⟨⟨h1.1, by omega⟩, by rwa [Int.toNat_of_nonneg h1.1]⟩
theorem gen_bits {t : List (List Int)} (hg : Grp t) {l : List Int} (h : AreIn t.length l) (x : Nat) : Gen t (bitsL (bitsM l)) x ↔ Gen t l x :=
  ⟨gen_sub fun a ha => (mem_bitsLM hg.2.1 h).1 ha, gen_sub fun a ha => (mem_bitsLM hg.2.1 h).2 ha⟩
theorem genL_bits {t : List (List Int)} (hg : Grp t) {l : List Int} (h : AreIn t.length l) : bitsL (closeN t (bitsM l)) = genL t l := by
  rw [bitsL_close hg (bitsM_lt hg.2.1 h)]
  exact genL_congr (gen_bits hg h)
theorem sub_iff {t : List (List Int)} (hg : Grp t) {l : List Int} (h : AreIn t.length l) (ha : Asc l) : closeN t (bitsM l) = bitsM l ↔ genL t l = l := by
  have h8 := hg.2.1
  constructor
  · intro e
    rw [← genL_bits hg h, e]
    exact asc_ext ((cnt_asc _).filter _) ha fun x => mem_bitsLM h8 h
  · intro e
    refine mask_ext (closeN_lt _ _) (Nat.lt_of_lt_of_le (bitsM_lt h8 h) (Nat.pow_le_pow_right (by decide) h8)) fun a ha8 => ?_
    rw [closeN, maskN_bit, decide_eq_true ha8, Bool.true_and, bitsM_bit h8 h, Bool.eq_iff_iff, genP_iff, gen_bits hg h, decide_eq_true_iff]
    have := mem_genL (t := t) (S := l) (x := (a : Int))
    rw [e, Int.toNat_natCast] at this
    rw [this]
    exact ⟨fun q => ⟨by have := gen_lt hg h q; omega, q⟩, fun q => q.2⟩
theorem sub_zero {t : List (List Int)} (hg : Grp t) {l : List Int} (e : genL t l = l) : (0 : Int) ∈ l := by
  rw [← e, mem_genL]
  have := hg.1
  exact ⟨⟨by omega, by omega⟩, .zero⟩
theorem asc_head {l : List Int} (h : Asc l) (h0 : (0 : Int) ∈ l) (hp : ∀ x ∈ l, 0 ≤ x) : l ≠ [] ∧ l.getD 0 0 = 0 := by
  cases l with
  | nil => cases h0
  | cons x l =>
    refine ⟨by simp, ?_⟩
    simp only [List.getD_cons_zero]
    rcases List.mem_cons.1 h0 with q | q
    · exact q.symm
    · have h1 := (List.pairwise_cons.1 h).1 0 q
      have h2 := hp x (by simp)
      omega
def cosIn (t : List (List Int)) (h : List Int) (a : Nat) (k : Int) (num : List Int) : List Int := h.foldl (fun num b => num.set (em t a b.toNat) k) num
def cosStep (t : List (List Int)) (h : List Int) (s : List Int × List Int) (a : Nat) : List Int × List Int :=
  if 0 ≤ s.2.getD a 0 then s else (s.1 ++ [(a : Int)], cosIn t h a s.1.length s.2)
def cosN (t : List (List Int)) (h : List Int) : Nat → List Int × List Int
  | 0 => ([], List.replicate t.length (-1))
  | k + 1 => cosStep t h (cosN t h k) k
def pos (l : List Int) : List Int := l.map fun x => max x 0
def metM (l : List Int) : Nat := maskN (fun a => decide (0 ≤ l.getD a (-1))) 8
theorem set_getD (l : List Int) (i j : Nat) (x d : Int) : (l.set i x).getD j d = if i = j ∧ i < l.length then x else l.getD j d := by
  rw [List.getD_eq_getElem?_getD, List.getD_eq_getElem?_getD, List.getElem?_set]
  by_cases e : i = j
  · subst e
    by_cases h : i < l.length
    · simp [h]
    · simp [h]
  · simp [e]
theorem cosIn_len (t : List (List Int)) : ∀ (h : List Int) (a : Nat) (k : Int) (num : List Int), (cosIn t h a k num).length = num.length
  | [], _, _, _ => rfl
  | b :: h, a, k, num => by rw [cosIn, List.foldl_cons, ← cosIn, cosIn_len t h, List.length_set]
theorem cosN_len (t : List (List Int)) (h : List Int) : ∀ k, (cosN t h k).2.length = t.length
  | 0 => by simp [cosN]
  | k + 1 => by
    rw [cosN, cosStep]
    split
    · exact cosN_len t h k
    · rw [cosIn_len]; exact cosN_len t h k
theorem cosIn_get (t : List (List Int)) : ∀ (h : List Int) (a : Nat) (k : Int) (num : List Int) (x : Nat) (d : Int), (cosIn t h a k num).getD x d = num.getD x d ∨ (cosIn t h a k num).getD x d = k
  | [], _, _, _, _, _ => .inl rfl
  | b :: h, a, k, num, x, d => by
    rw [cosIn, List.foldl_cons, ← cosIn]
    rcases cosIn_get t h a k (num.set (em t a b.toNat) k) x d with q | q
    · rw [q, set_getD]
      split
      · exact .inr rfl
      · exact .inl rfl
    · exact .inr q
theorem cosIn_hit (t : List (List Int)) : ∀ (h : List Int) (a : Nat) (k : Int) (num : List Int) (b : Int) (d : Int), b ∈ h → em t a b.toNat < num.length → (cosIn t h a k num).getD (em t a b.toNat) d = k
  | c :: h, a, k, num, b, d, hb, hl => by
    rw [cosIn, List.foldl_cons, ← cosIn]
    by_cases q : b ∈ h
    · exact cosIn_hit t h a k _ b d q (by rw [List.length_set]; exact hl)
    · have e : b = c := by rcases List.mem_cons.1 hb with r | r; exact r; exact absurd r q
      subst e
      rcases cosIn_get t h a k (num.set (em t a b.toNat) k) (em t a b.toNat) d with r | r
      · rw [r, set_getD, if_pos ⟨rfl, hl⟩]
      · exact r
theorem cosN_ok {t : List (List Int)} (hg : Grp t) {h : List Int} (hh : AreIn t.length h) (h0 : (0 : Int) ∈ h) : ∀ k, k ≤ t.length →
    (cosN t h k).1.length ≤ k ∧ (∀ x ∈ (cosN t h k).1, 0 ≤ x ∧ x < t.length) ∧ (∀ x, x < t.length → -1 ≤ (cosN t h k).2.getD x 0 ∧ (cosN t h k).2.getD x 0 < (cosN t h k).1.length) ∧ ∀ x, x < k → 0 ≤ (cosN t h k).2.getD x 0
  | 0, _ => by
    refine ⟨by simp [cosN], by simp [cosN], fun x hx => ?_, fun x hx => by omega⟩
    simp only [cosN, List.getD_eq_getElem?_getD, List.getElem?_replicate, if_pos hx]
    simp
  | k + 1, hk => by
    obtain ⟨h1, h2, h3, h4⟩ := cosN_ok hg hh h0 k (by omega)
    rw [cosN, cosStep]
    have hlen := cosN_len t h k
    split
    · rename_i q
      refine ⟨by omega, h2, h3, fun x hx => ?_⟩
      by_cases e : x = k
      · rw [e]; exact q
      · exact h4 x (by omega)
    · rename_i q
      have hz : em t k (0 : Int).toNat = k := em_zr hg (by omega)
      refine ⟨by simp; omega, fun x hx => ?_, fun x hx => ?_, fun x hx => ?_⟩
      · rcases List.mem_append.1 hx with r | r
        · exact h2 x r
        · have := List.mem_singleton.1 r; omega
      · rcases cosIn_get t h k (cosN t h k).1.length (cosN t h k).2 x 0 with r | r
        · have := h3 x hx; simp only [r, List.length_append, List.length_singleton]; omega
        · simp only [r, List.length_append, List.length_singleton]; omega
      · by_cases e : x = k
        · have := cosIn_hit t h k (cosN t h k).1.length (cosN t h k).2 0 0 h0 (by rw [hz, hlen]; omega)
          rw [hz] at this
          subst e
          simp only [this]
          omega
        · have := h4 x (by omega)
          rcases cosIn_get t h k (cosN t h k).1.length (cosN t h k).2 x 0 with r | r
          · simp only [r]; exact this
          · simp only [r]; omega
theorem pos_get (l : List Int) (x : Nat) : (pos l).getD x 0 = max (l.getD x 0) 0 := by
  unfold pos
  rw [List.getD_eq_getElem?_getD, List.getD_eq_getElem?_getD, List.getElem?_map]
  cases l[x]? <;> simp
theorem pos_set (l : List Int) (i : Nat) {x : Int} (h : 0 ≤ x) : pos (l.set i x) = (pos l).set i x := by
  unfold pos
  rw [List.map_set, Int.max_eq_left h]
theorem pos_len (l : List Int) : (pos l).length = l.length := by simp [pos]
theorem getD_eq' {d : Int} {l m : List Int} (hlen : l.length = m.length) (h : ∀ j, j < l.length → l.getD j d = m.getD j d) : l = m := by
  apply List.ext_getElem hlen
  intro i h1 h2
  have := h i h1
  rwa [List.getD_eq_getElem?_getD, List.getD_eq_getElem?_getD, List.getElem?_eq_getElem h1, List.getElem?_eq_getElem h2, Option.getD_some, Option.getD_some] at this
theorem pos_end {l : List Int} (h : ∀ x, x < l.length → 0 ≤ l.getD x 0) : pos l = l := getD_eq' (d := 0) (pos_len l) fun j hj => by
  rw [pos_len] at hj
  rw [pos_get]
  have := h j hj
  omega
theorem metM_lt (l : List Int) : metM l < 256 := maskN_lt _ 8
theorem metM_bit {l : List Int} (hl : l.length ≤ 8) (a : Nat) : (metM l).testBit a = decide (0 ≤ l.getD a (-1)) := by
  rw [metM, maskN_bit]
  by_cases h : a < 8
  · rw [decide_eq_true h, Bool.true_and]
  · have : l.getD a (-1) = -1 := by rw [List.getD_eq_getElem?_getD, List.getElem?_eq_none (by omega)]; rfl
    rw [this]; simp
theorem metM_set {l : List Int} (hl : l.length ≤ 8) {i : Nat} {x : Int} (hi : i < l.length) (h : 0 ≤ x) : metM (l.set i x) = metM l ||| 2 ^ i := by
  apply Nat.eq_of_testBit_eq
  intro a
  rw [metM_bit (by rw [List.length_set]; exact hl), Nat.testBit_or, metM_bit hl, Nat.testBit_two_pow, set_getD]
  by_cases e : i = a
  · subst e; simp [hi, h]
  · simp [e]
def Perm0 (n : Nat) (p : List Int) : Prop := p.length = n ∧ AreIn n p ∧ (∀ i j, i < n → j < n → p.getD i 0 = p.getD j 0 → i = j) ∧ p.getD 0 0 = 0
theorem getD_mem {l : List Int} {j : Nat} (hj : j < l.length) (d : Int) : l.getD j d ∈ l := by
  rw [List.getD_eq_getElem?_getD, List.getElem?_eq_getElem hj, Option.getD_some]; exact List.getElem_mem _
theorem nodup_inj {l : List Int} : l.Nodup ↔ ∀ i j, i < l.length → j < l.length → l.getD i 0 = l.getD j 0 → i = j := by
  rw [List.nodup_iff_pairwise_ne, List.pairwise_iff_getElem]
  have e : ∀ i (h : i < l.length), l.getD i 0 = l[i] := fun i h => by rw [List.getD_eq_getElem?_getD, List.getElem?_eq_getElem h, Option.getD_some]
  constructor
  · intro h i j hi hj he
    rw [e i hi, e j hj] at he
    rcases Nat.lt_trichotomy i j with q | q | q
    · exact absurd he (h i j hi hj q)
    · exact q
    · exact absurd he.symm (h j i hj hi q)
  · intro h i j hi hj hij he
    have := h i j hi hj (by rw [e i hi, e j hj]; exact he)
    omega
theorem sorted_cnt {n : Nat} {p s : List Int} (hs : s.Pairwise (· ≤ ·)) (hp : s.Perm p) : s = cnt n ↔ p.length = n ∧ AreIn n p ∧ ∀ i j, i < n → j < n → p.getD i 0 = p.getD j 0 → i = j := by
  have hcl : (cnt n).length = n := by simp [cnt, upTo]
  constructor
  · rintro rfl
    have hl : p.length = n := by rw [← hp.length_eq, hcl]
    refine ⟨hl, fun j hj => mem_cnt.1 (hp.mem_iff.2 (getD_mem hj 0)), ?_⟩
    have := nodup_inj.1 (hp.nodup_iff.1 (cnt_asc n).nodup)
    rw [hl] at this
    exact this
  · rintro ⟨hl, hi, hj⟩
    have hn : p.Nodup := nodup_inj.2 (by rw [hl]; exact hj)
    refine asc_ext (asc_of_sorted hs (hp.nodup_iff.2 hn)) (cnt_asc n) fun x => ?_
    rw [hp.mem_iff, mem_cnt]
    refine ⟨fun h => areIn_mem hi h, fun h => ?_⟩
    apply Classical.byContradiction
    intro hx
    -- n + 1 numbers below n, all different
    have h1 : (x :: p).Nodup := List.nodup_cons.2 ⟨hx, hn⟩
    have := nodup_len (n := n) h1 (fun y hy => by
      rcases List.mem_cons.1 hy with q | q
      · rw [q]; exact h
      · exact areIn_mem hi q)
    simp at this
    omega
theorem perm_onto {n : Nat} {p : List Int} (h : Perm0 n p) {x : Nat} (hx : x < n) : ∃ i, i < n ∧ p.getD i 0 = x := by
  apply Classical.byContradiction
  intro hc
  have hn : p.Nodup := nodup_inj.2 (by rw [h.1]; exact h.2.2.1)
  have hnot : ((x : Nat) : Int) ∉ p := fun hm => by
    obtain ⟨i, hi, he⟩ := List.mem_iff_getElem.1 hm
    exact hc ⟨i, by rw [← h.1]; exact hi, by rw [List.getD_eq_getElem?_getD, List.getElem?_eq_getElem hi, Option.getD_some, he]⟩
  have := nodup_len (n := n) (List.nodup_cons.2 ⟨hnot, hn⟩) (fun y hy => by
    rcases List.mem_cons.1 hy with q | q
    · omega
    · exact areIn_mem h.2.1 q)
  simp at this
  have := h.1
  omega
theorem ix_perm {n : Nat} {p : List Int} (h : Perm0 n p) {i : Nat} (hi : i < n) : ix p (p.getD i 0) = i :=
  ix_at (by rw [h.1]; exact hi) rfl fun j hj he => by have := h.2.2.1 j i (by omega) hi he; omega
def renF (t : List (List Int)) (p : List Int) (a b : Nat) : Int := p.getD (em t (ix p a).toNat (ix p b).toNat) 0
theorem ren_end {t T : List (List Int)} {p : List Int} (hp : Perm0 t.length p) (hl : T.length = t.length) (hr : ∀ a, a < t.length → (T.getD a []).length = t.length)
    (hT : ∀ a b, a < t.length → b < t.length → ee T (p.getD a 0).toNat (p.getD b 0).toNat = p.getD (em t a b) 0) : T = tab (renF t p) t.length t.length := by
  apply List.ext_getElem (by rw [hl, tab_len])
  intro x h1 h2
  have hx : x < t.length := by omega
  have e1 : T[x] = T.getD x [] := by rw [List.getD_eq_getElem?_getD, List.getElem?_eq_getElem h1, Option.getD_some]
  have e2 : (tab (renF t p) t.length t.length)[x] = upTo (renF t p x) t.length := by rw [← tab_row hx, List.getD_eq_getElem?_getD, List.getElem?_eq_getElem h2, Option.getD_some]
  rw [e1, e2]
  refine getD_eq' (d := 0) (by rw [hr x hx, upTo_len]) fun y hy => ?_
  rw [hr x hx] at hy
  rw [upTo_get _ hy]
  obtain ⟨a, ha, hpa⟩ := perm_onto hp hx
  obtain ⟨b, hb, hpb⟩ := perm_onto hp hy
  have := hT a b ha hb
  rw [hpa, hpb] at this
  unfold ee at this
  rw [Int.toNat_natCast, Int.toNat_natCast] at this
  rw [this, renF, ← hpa, ← hpb, ix_perm hp ha, ix_perm hp hb]
  rfl
def lexB : List Int → List Int → Bool
  | x :: a, y :: b => if x = y then lexB a b else decide (x < y)
  | _, _ => false
def befB (a b : List Int) : Bool := if a.length = b.length then lexB a b else decide (a.length < b.length)
def InOrd (l : List (List Int)) : Prop := l.Pairwise fun a b => befB a b = true
end Go.Proofs.YtcjhojdlfnpgjaaGreat
