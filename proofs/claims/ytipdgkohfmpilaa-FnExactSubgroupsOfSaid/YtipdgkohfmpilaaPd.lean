/- Plain laws of the loops that make subgroups, masks and cosets. -/
import Derived.Test.YtipdgkohfmpilaaPc
import Derived.Test.YtipdgkohfmpilaaSm
namespace Go.Proofs.Ytipdgkohfmpilaa
open Go.RowKit
set_option linter.unusedVariables false
set_option linter.unusedSimpArgs false
set_option maxRecDepth 100000

theorem has_mem {l : List Int} {x : Int} : Has l x ↔ x ∈ l := by
  unfold Has
  rw [List.mem_iff_getElem]
  constructor
  · rintro ⟨j, hj, h⟩
    exact ⟨j, hj, by rwa [List.getD_eq_getElem?_getD, List.getElem?_eq_getElem hj, Option.getD_some] at h⟩
  · rintro ⟨j, hj, h⟩
    exact ⟨j, hj, by rwa [List.getD_eq_getElem?_getD, List.getElem?_eq_getElem hj, Option.getD_some]⟩
theorem getD_app1 {l m : List Int} {j : Nat} (h : j < l.length) (d : Int) : (l ++ m).getD j d = l.getD j d := by
  rw [List.getD_eq_getElem?_getD, List.getD_eq_getElem?_getD, List.getElem?_append_left h]
/-- The loop of subgroup: row i is done up to its k-th element. -/
def SubI (t : List (List Int)) (S L : List Int) (i k : Nat) : Prop :=
  L.Nodup ∧ (0 : Int) ∈ L ∧ (∀ x ∈ L, 0 ≤ x ∧ Gen t S x.toNat) ∧ ∀ j a, j < L.length → a < S.length → (j < i ∨ j = i ∧ a < k) → ((em t (L.getD j 0).toNat (S.getD a 0).toNat : Nat) : Int) ∈ L
theorem subI_0 (t : List (List Int)) (S : List Int) : SubI t S [0] 0 0 := ⟨by simp, by simp, by simp; exact .zero, fun j a _ _ h => by omega⟩
theorem subI_len {t : List (List Int)} (hg : Grp t) {S L : List Int} (hS : AreIn t.length S) {i k : Nat} (h : SubI t S L i k) : L.length ≤ t.length :=
  nodup_len h.1 fun x hx => by have h1 := h.2.2.1 x hx; have := gen_lt hg hS h1.2; omega
theorem subI_at {t : List (List Int)} (hg : Grp t) {S L : List Int} (hS : AreIn t.length S) {i k : Nat} (h : SubI t S L i k) {j : Nat} (hj : j < L.length) : ∃ x : Nat, L.getD j 0 = x ∧ x < t.length ∧ Gen t S x := by
  have h1 := h.2.2.1 _ (getD_mem hj 0)
  exact ⟨(L.getD j 0).toNat, (Int.toNat_of_nonneg h1.1).symm, gen_lt hg hS h1.2, h1.2⟩
theorem subI_in {t : List (List Int)} {S L : List Int} {i k : Nat} (h : SubI t S L i k) (he : ((em t (L.getD i 0).toNat (S.getD k 0).toNat : Nat) : Int) ∈ L) : SubI t S L i (k + 1) :=
  ⟨h.1, h.2.1, h.2.2.1, fun j a hj ha hd => by
    by_cases e : j = i ∧ a = k
    · rw [e.1, e.2]; exact he
    · exact h.2.2.2 j a hj ha (by omega)⟩
theorem subI_new {t : List (List Int)} {S L : List Int} {i k : Nat} (h : SubI t S L i k) (hi : i < L.length) (hk : k < S.length) (he : ((em t (L.getD i 0).toNat (S.getD k 0).toNat : Nat) : Int) ∉ L) : SubI t S (L ++ [((em t (L.getD i 0).toNat (S.getD k 0).toNat : Nat) : Int)]) i (k + 1) := by
  refine ⟨(List.perm_append_singleton _ L).nodup_iff.2 (List.nodup_cons.2 ⟨he, h.1⟩), by simp [h.2.1], fun x hx => ?_, fun j a hj ha hd => ?_⟩
  · rcases List.mem_append.1 hx with q | q
    · exact h.2.2.1 x q
    · rw [List.mem_singleton.1 q, Int.toNat_natCast]
      exact ⟨by omega, .step (h.2.2.1 _ (getD_mem hi 0)).2 _ (getD_mem hk 0)⟩
  · have hj' : j < L.length := by simp at hj; omega
    rw [getD_app1 hj']
    by_cases e : j = i ∧ a = k
    · rw [e.1, e.2]; simp
    · exact List.mem_append_left _ (h.2.2.2 j a hj' ha (by omega))
theorem subI_row {t : List (List Int)} {S L : List Int} {i : Nat} (h : SubI t S L i S.length) : SubI t S L (i + 1) 0 :=
  ⟨h.1, h.2.1, h.2.2.1, fun j a hj ha hd => h.2.2.2 j a hj ha (by omega)⟩
theorem subI_end {t : List (List Int)} (hg : Grp t) {S L l : List Int} (hS : AreIn t.length S) {i : Nat} (h : SubI t S L i 0) (hi : L.length ≤ i) (hs : l.Pairwise (· ≤ ·)) (hp : l.Perm L) : l = genL t S :=
  sub_end hg hS h.2.1 h.1 h.2.2.1 (fun x hx a ha => by
    obtain ⟨j, hj, rfl⟩ := has_mem.2 hx
    obtain ⟨b, hb, rfl⟩ := has_mem.2 ha
    exact h.2.2.2 j b hj hb (.inl (by omega))) hs hp
/-! ### Masks -/
theorem bit_or (m x a : Nat) : (m ||| 2 ^ x).testBit a = (m.testBit a || decide (x = a)) := by
  rw [Nat.testBit_or, Nat.testBit_two_pow]
/-- The mask so far. -/
def CloI (t : List (List Int)) (m c : Nat) : Prop := c < 256 ∧ c.testBit 0 = true ∧ (∀ a, m.testBit a = true → c.testBit a = true) ∧ ∀ a, c.testBit a = true → Gen t (bitsL m) a
theorem bit_lt {m a : Nat} (hm : m < 256) (h : m.testBit a = true) : a < 8 := by
  apply Classical.byContradiction
  intro hn
  rw [Nat.testBit_lt_two_pow (Nat.lt_of_lt_of_le hm (by have := Nat.pow_le_pow_right (n := 2) (by decide) (show 8 ≤ a by omega); exact this))] at h
  cases h
theorem gen_bit {t : List (List Int)} (hg : Grp t) {m : Nat} (hm : m < 2 ^ t.length) {a : Nat} (h : m.testBit a = true) : Gen t (bitsL m) a := by
  have h8 : m < 256 := Nat.lt_of_lt_of_le hm (by have := Nat.pow_le_pow_right (n := 2) (by decide) hg.2.1; exact this)
  have := bit_lt h8 h
  have := gen_of hg (bitsL_in hm) (a := (a : Int)) (mem_bitsL.2 ⟨⟨by omega, by omega⟩, h⟩)
  exact this
theorem cloI_0 {t : List (List Int)} (hg : Grp t) {m : Nat} (hm : m < 2 ^ t.length) : CloI t m (m ||| 2 ^ 0) := by
  have h8 : m < 256 := Nat.lt_of_lt_of_le hm (by have := Nat.pow_le_pow_right (n := 2) (by decide) hg.2.1; exact this)
  refine ⟨or_lt h8 (by decide), by rw [bit_or]; simp, fun a h => by rw [bit_or, h]; rfl, fun a h => ?_⟩
  rw [bit_or] at h
  by_cases e : 0 = a
  · rw [← e]; exact .zero
  · rw [decide_eq_false e, Bool.or_false] at h
    exact gen_bit hg hm h
theorem cloI_in {t : List (List Int)} (hg : Grp t) {m c : Nat} (hm : m < 2 ^ t.length) (h : CloI t m c) : AreIn t.length (bitsL c) := fun j hj => by
  have h1 := mem_bitsL.1 (getD_mem hj 0)
  have := gen_lt hg (bitsL_in hm) (h.2.2.2 _ h1.2)
  omega
theorem cloI_step {t : List (List Int)} (hg : Grp t) {m c : Nat} (hm : m < 2 ^ t.length) (h : CloI t m c) {x y : Nat} (hx : Gen t (bitsL m) x) (hy : Gen t (bitsL m) y) : CloI t m (c ||| 2 ^ em t x y) := by
  have hS := bitsL_in hm
  have h3 := gen_mul hg hS hx hy
  have h4 := gen_lt hg hS h3
  have := hg.2.1
  refine ⟨or_lt h.1 (by omega), by rw [bit_or, h.2.1]; rfl, fun a q => by rw [bit_or, h.2.2.1 a q]; rfl, fun a q => ?_⟩
  rw [bit_or] at q
  by_cases e : em t x y = a
  · rw [← e]; exact h3
  · rw [decide_eq_false e, Bool.or_false] at q
    exact h.2.2.2 a q
/-- A round of the closing: from c0, row i done up to its k-th element. -/
def RowI (t : List (List Int)) (c0 c i k : Nat) : Prop := c0 ≤ c ∧ (∀ a, c0.testBit a = true → c.testBit a = true) ∧
  ∀ j a, j < (bitsL c0).length → a < (bitsL c0).length → (j < i ∨ j = i ∧ a < k) → c.testBit (em t ((bitsL c0).getD j 0).toNat ((bitsL c0).getD a 0).toNat) = true
theorem rowI_0 (t : List (List Int)) (c : Nat) : RowI t c c 0 0 := ⟨Nat.le_refl _, fun a h => h, fun j a _ _ h => by omega⟩
theorem rowI_in {t : List (List Int)} {c0 c i k : Nat} (h : RowI t c0 c i k) (he : c.testBit (em t ((bitsL c0).getD i 0).toNat ((bitsL c0).getD k 0).toNat) = true) : RowI t c0 c i (k + 1) :=
  ⟨h.1, h.2.1, fun j a hj ha hd => by
    by_cases e : j = i ∧ a = k
    · rw [e.1, e.2]; exact he
    · exact h.2.2 j a hj ha (by omega)⟩
theorem rowI_new {t : List (List Int)} {c0 c i k : Nat} (h : RowI t c0 c i k) (he : c.testBit (em t ((bitsL c0).getD i 0).toNat ((bitsL c0).getD k 0).toNat) = false) : RowI t c0 (c ||| 2 ^ em t ((bitsL c0).getD i 0).toNat ((bitsL c0).getD k 0).toNat) i (k + 1) ∧ c0 < c ||| 2 ^ em t ((bitsL c0).getD i 0).toNat ((bitsL c0).getD k 0).toNat := by
  have h1 : c ≤ c ||| 2 ^ em t ((bitsL c0).getD i 0).toNat ((bitsL c0).getD k 0).toNat := Nat.left_le_or
  have h2 : c ≠ c ||| 2 ^ em t ((bitsL c0).getD i 0).toNat ((bitsL c0).getD k 0).toNat := fun q => by
    have := bit_or c (em t ((bitsL c0).getD i 0).toNat ((bitsL c0).getD k 0).toNat) (em t ((bitsL c0).getD i 0).toNat ((bitsL c0).getD k 0).toNat)
    rw [← q, he] at this
    simp at this
  have h0 := h.1
  refine ⟨⟨by omega, fun a q => by rw [bit_or, h.2.1 a q]; rfl, fun j a hj ha hd => ?_⟩, by omega⟩
  rw [bit_or]
  by_cases e : j = i ∧ a = k
  · rw [e.1, e.2]; simp
  · rw [h.2.2 j a hj ha (by omega)]; rfl
theorem rowI_row {t : List (List Int)} {c0 c i : Nat} (h : RowI t c0 c i (bitsL c0).length) : RowI t c0 c (i + 1) 0 :=
  ⟨h.1, h.2.1, fun j a hj ha hd => h.2.2 j a hj ha (by omega)⟩
/-- Nothing new in a whole round: the mask is closed. -/
def ClosedM (t : List (List Int)) (c : Nat) : Prop := ∀ x y, c.testBit x = true → c.testBit y = true → c.testBit (em t x y) = true
theorem rowI_end {t : List (List Int)} {c i : Nat} (hc : c < 256) (h : RowI t c c i 0) (hi : (bitsL c).length ≤ i) : ClosedM t c := fun x y hx hy => by
  have key : ∀ x : Nat, c.testBit x = true → ∃ j, j < (bitsL c).length ∧ ((bitsL c).getD j 0).toNat = x := fun x hx => by
    have := bit_lt hc hx
    obtain ⟨j, hj, e⟩ := has_mem.2 (mem_bitsL.2 ⟨⟨by omega, by omega⟩, hx⟩ : (x : Int) ∈ bitsL c)
    exact ⟨j, hj, by rw [e]; rfl⟩
  obtain ⟨j, hj, ej⟩ := key x hx
  obtain ⟨k, hk, ek⟩ := key y hy
  have := h.2.2 j k hj hk (.inl (by omega))
  rwa [ej, ek] at this
theorem cloI_end {t : List (List Int)} (hg : Grp t) {m c : Nat} (hm : m < 2 ^ t.length) (h : CloI t m c) (hc : ClosedM t c) : c = closeN t m :=
  close_end hg hm h.1 h.2.2.2 h.2.1 h.2.2.1 hc
theorem bitsL_len (m : Nat) : (bitsL m).length ≤ 8 := by
  have h := List.length_filter_le (fun x : Int => m.testBit x.toNat) (cnt 8)
  have e : (cnt 8).length = 8 := by simp [cnt, upTo]
  unfold bitsL
  omega
/-! ### Cosets -/
theorem cosIn_snoc {t : List (List Int)} {h : List Int} {a : Nat} {k : Int} {num : List Int} {i : Nat} (hi : i < h.length) : cosIn t (h.take (i + 1)) a k num = (cosIn t (h.take i) a k num).set (em t a (h.getD i 0).toNat) k := by
  unfold cosIn
  rw [List.take_succ_eq_append_getElem hi, List.foldl_append, List.getD_eq_getElem?_getD, List.getElem?_eq_getElem hi, Option.getD_some]
  rfl
end Go.Proofs.Ytipdgkohfmpilaa
