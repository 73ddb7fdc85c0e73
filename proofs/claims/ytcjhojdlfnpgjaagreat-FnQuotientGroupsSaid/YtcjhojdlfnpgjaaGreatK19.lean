/- Plain laws of sorting in place: parts permuted, parts in order, heaps. -/
import Derived.Test.YtcjhojdlfnpgjaaGreatK18
import Derived.Test.YtcjhojdlfnpgjaaGreatK15
set_option linter.unusedVariables false
set_option linter.unusedSimpArgs false
set_option maxRecDepth 100000
namespace Go.Proofs.YtcjhojdlfnpgjaaGreat
open Go.RowKit
section
variable {α : Type} (d : α)
def PIn (a b : Nat) (xs ys : List α) : Prop := ys.Perm xs ∧ (∀ i, i < a ∨ b ≤ i → ys.getD i d = xs.getD i d) ∧ ∀ i, a ≤ i → i < b → ∃ j, a ≤ j ∧ j < b ∧ ys.getD i d = xs.getD j d
def swL (l : List α) (i j : Nat) : List α := (l.set i (l.getD j d)).set j (l.getD i d)
variable {d}
theorem PIn.len {a b : Nat} {xs ys : List α} (h : PIn d a b xs ys) : ys.length = xs.length := h.1.length_eq
theorem PIn.refl (a b : Nat) (xs : List α) : PIn d a b xs xs := ⟨List.Perm.refl _, fun _ _ => rfl, fun i h1 h2 => ⟨i, h1, h2, rfl⟩⟩
theorem PIn.trans {a b : Nat} {xs ys zs : List α} (h : PIn d a b xs ys) (h' : PIn d a b ys zs) : PIn d a b xs zs :=
  ⟨h'.1.trans h.1, fun i hi => (h'.2.1 i hi).trans (h.2.1 i hi), fun i h1 h2 => by
    obtain ⟨j, h3, h4, e⟩ := h'.2.2 i h1 h2
    obtain ⟨k, h5, h6, e2⟩ := h.2.2 j h3 h4
    exact ⟨k, h5, h6, e.trans e2⟩⟩
theorem PIn.mono {a b a' b' : Nat} {xs ys : List α} (h : PIn d a b xs ys) (ha : a' ≤ a) (hb : b ≤ b') : PIn d a' b' xs ys :=
  ⟨h.1, fun i hi => h.2.1 i (by omega), fun i h1 h2 => by
    by_cases q : a ≤ i ∧ i < b
    · obtain ⟨j, h3, h4, e⟩ := h.2.2 i q.1 q.2
      exact ⟨j, by omega, by omega, e⟩
    · exact ⟨i, h1, h2, h.2.1 i (by omega)⟩⟩
theorem PIn.all {a b : Nat} {xs ys : List α} (h : PIn d a b xs ys) {p : α → Prop} (hp : ∀ i, a ≤ i → i < b → p (xs.getD i d)) : ∀ i, a ≤ i → i < b → p (ys.getD i d) := fun i h1 h2 => by
  obtain ⟨j, h3, h4, e⟩ := h.2.2 i h1 h2
  rw [e]; exact hp j h3 h4
theorem setD (l : List α) (i j : Nat) (x : α) : (l.set i x).getD j d = if i = j ∧ i < l.length then x else l.getD j d := by
  rw [List.getD_eq_getElem?_getD, List.getD_eq_getElem?_getD, List.getElem?_set]
  by_cases e : i = j
  · subst e
    by_cases h : i < l.length
    · simp [h]
    · simp [h]
  · simp [e]
theorem swL_len (l : List α) (i j : Nat) : (swL d l i j).length = l.length := by simp [swL]
theorem swL_get {l : List α} {i j : Nat} (hi : i < l.length) (hj : j < l.length) (x : Nat) : (swL d l i j).getD x d = if x = j then l.getD i d else if x = i then l.getD j d else l.getD x d := by
  unfold swL
  rw [setD, setD, List.length_set]
  by_cases e : j = x
  · subst e; simp [hj]
  · by_cases e2 : i = x
    · subst e2; simp [e, hi, Ne.symm e]
    · simp [e, e2, Ne.symm e, Ne.symm e2]
theorem swL_self {l : List α} {i : Nat} : swL d l i i = l := by
  unfold swL
  rw [List.set_set]
  by_cases h : i < l.length
  · rw [List.getD_eq_getElem?_getD, List.getElem?_eq_getElem h, Option.getD_some, List.set_getElem_self]
  · rw [List.set_eq_of_length_le (by omega)]
theorem swL_lt {l : List α} {i j : Nat} (hij : i < j) (hj : j < l.length) : (swL d l i j).Perm l := by
  have hi : i < l.length := by omega
  have e : l = l.take i ++ l[i] :: ((l.drop (i + 1)).take (j - (i + 1)) ++ l[j] :: l.drop (j + 1)) := by
    conv => lhs; rw [← List.take_append_drop i l, List.drop_eq_getElem_cons hi]
    congr 2
    conv => lhs; rw [← List.take_append_drop (j - (i + 1)) (l.drop (i + 1)), List.drop_drop]
    rw [show i + 1 + (j - (i + 1)) = j by omega, List.drop_eq_getElem_cons hj]
  have e2 : swL d l i j = l.take i ++ l[j] :: ((l.drop (i + 1)).take (j - (i + 1)) ++ l[i] :: l.drop (j + 1)) := by
    apply List.ext_getElem?
    intro x
    have g1 : l.getD i d = l[i] := by rw [List.getD_eq_getElem?_getD, List.getElem?_eq_getElem hi, Option.getD_some]
    have g2 : l.getD j d = l[j] := by rw [List.getD_eq_getElem?_getD, List.getElem?_eq_getElem hj, Option.getD_some]
    unfold swL
    rw [g1, g2, List.getElem?_set, List.getElem?_set, List.length_set]
    have h1 : (l.take i).length = i := by simp; omega
    have h2 : ((l.drop (i + 1)).take (j - (i + 1))).length = j - (i + 1) := by simp; omega
    by_cases c1 : x < i
    · rw [List.getElem?_append_left (by omega), List.getElem?_take_of_lt c1, if_neg (by omega), if_neg (by omega)]
    · rw [List.getElem?_append_right (by omega), h1]
      by_cases c2 : x = i
      · subst c2
        rw [Nat.sub_self, List.getElem?_cons_zero, if_neg (by omega), if_pos rfl, if_pos hi]
      · rw [show x - i = (x - i - 1) + 1 by omega, List.getElem?_cons_succ]
        by_cases c3 : x < j
        · rw [List.getElem?_append_left (by omega), List.getElem?_take_of_lt (by omega), List.getElem?_drop, if_neg (by omega), if_neg (by omega)]
          congr 1; omega
        · rw [List.getElem?_append_right (by omega), h2]
          by_cases c4 : x = j
          · subst c4
            rw [show x - i - 1 - (x - (i + 1)) = 0 by omega, List.getElem?_cons_zero, if_pos rfl, if_pos hj]
          · rw [show x - i - 1 - (j - (i + 1)) = (x - j - 1) + 1 by omega, List.getElem?_cons_succ, List.getElem?_drop, if_neg (by omega), if_neg (by omega)]
            congr 1; omega
  rw [e2]
  conv => rhs; rw [e]
  refine List.Perm.append_left _ ?_
  exact ((List.Perm.cons _ List.perm_middle).trans (List.Perm.swap _ _ _)).trans (List.Perm.cons _ List.perm_middle.symm)
theorem swL_comm {l : List α} {i j : Nat} : swL d l i j = swL d l j i := by
  by_cases e : i = j
  · rw [e]
  · unfold swL; rw [List.set_comm _ _ e]
theorem swL_perm {l : List α} {i j : Nat} (hi : i < l.length) (hj : j < l.length) : (swL d l i j).Perm l := by
  rcases Nat.lt_trichotomy i j with h | h | h
  · exact swL_lt h hj
  · subst h; rw [swL_self]
  · rw [swL_comm]; exact swL_lt h hi
theorem PIn.swap {a b : Nat} {l : List α} {i j : Nat} (hi : a ≤ i) (hi2 : i < b) (hj : a ≤ j) (hj2 : j < b) (hb : b ≤ l.length) : PIn d a b l (swL d l i j) := by
  refine ⟨swL_perm (by omega) (by omega), fun x hx => ?_, fun x h1 h2 => ?_⟩
  · rw [swL_get (by omega) (by omega), if_neg (by omega), if_neg (by omega)]
  · rw [swL_get (by omega) (by omega)]
    split
    · exact ⟨i, hi, hi2, rfl⟩
    · split
      · exact ⟨j, hj, hj2, rfl⟩
      · exact ⟨x, h1, h2, rfl⟩
variable (lt : α → α → Bool)
structure SWO : Prop where
  irr : ∀ x, lt x x = false
  tr : ∀ x y z, lt x y = true → lt y z = true → lt x z = true
  ntr : ∀ x y z, lt x y = false → lt y z = false → lt x z = false
def SIn (d : α) (a b : Nat) (l : List α) : Prop := ∀ i j, a ≤ i → i < j → j < b → lt (l.getD j d) (l.getD i d) = false
variable {lt}
theorem SWO.asym (h : SWO lt) {x y : α} (hxy : lt x y = true) : lt y x = false := by
  cases e : lt y x with
  | false => rfl
  | true => have := h.tr _ _ _ hxy e; rw [h.irr] at this; cases this
theorem SIn.congr {a b : Nat} {l m : List α} (h : SIn lt d a b l) (e : ∀ i, a ≤ i → i < b → m.getD i d = l.getD i d) : SIn lt d a b m := fun i j h1 h2 h3 => by
  rw [e i h1 (by omega), e j (by omega) h3]; exact h i j h1 h2 h3
theorem SIn.short {a b : Nat} {l : List α} (h : b ≤ a + 1) : SIn lt d a b l := fun i j h1 h2 h3 => by omega
def SBut (lt : α → α → Bool) (d : α) (a : Nat) (l : List α) (i j : Nat) : Prop := ∀ p q, a ≤ p → p < q → q ≤ i → q ≠ j → lt (l.getD q d) (l.getD p d) = false
theorem sbut_start {a i : Nat} {l : List α} (h : SIn lt d a i l) : SBut lt d a l i i := fun p q h0 h1 h2 h3 => h p q h0 h1 (by omega)
theorem sbut_end {a i j : Nat} {l : List α} (hw : SWO lt) (hj : j ≤ i) (ha : a ≤ j) (h : SBut lt d a l i j) (he : a < j → lt (l.getD j d) (l.getD (j - 1) d) = false) : SIn lt d a (i + 1) l := fun p q h0 h1 h2 => by
  by_cases e : q = j
  · subst e
    have h3 := he (by omega)
    by_cases e2 : p = q - 1
    · rw [e2]; exact h3
    · exact hw.ntr _ _ _ h3 (h p (q - 1) h0 (by omega) (by omega) (by omega))
  · exact h p q h0 h1 (by omega) e
theorem sbut_step {a i j : Nat} {l : List α} (hw : SWO lt) (ha : a < j) (hj : j ≤ i) (hi : i < l.length) (h : SBut lt d a l i j) (hlt : lt (l.getD j d) (l.getD (j - 1) d) = true) : SBut lt d a (swL d l j (j - 1)) i (j - 1) := fun p q h0 h1 h2 h3 => by
  rw [swL_get (by omega) (by omega), swL_get (by omega) (by omega), if_neg h3]
  by_cases e : q = j
  · subst e
    rw [if_pos rfl]
    by_cases e2 : p = q - 1
    · rw [if_pos e2]; exact hw.asym hlt
    · rw [if_neg e2, if_neg (by omega)]
      exact h p (q - 1) h0 (by omega) (by omega) (by omega)
  · rw [if_neg e]
    by_cases e2 : p = j - 1
    · rw [if_pos e2]
      have h5 := h j q (by omega) (by omega) (by omega) e
      exact h5
    · rw [if_neg e2]
      by_cases e3 : p = j
      · rw [if_pos e3]
        exact h (j - 1) q (by omega) (by omega) (by omega) e
      · rw [if_neg e3]
        exact h p q h0 h1 h2 e
def Hp (lt : α → α → Bool) (d : α) (l : List α) (first lo hi : Nat) : Prop := ∀ i c, lo ≤ i → (c = 2 * i + 1 ∨ c = 2 * i + 2) → c < hi → lt (l.getD (first + i) d) (l.getD (first + c) d) = false
def HpBut (lt : α → α → Bool) (d : α) (l : List α) (first lo hi root : Nat) : Prop :=
  (∀ i c, lo ≤ i → i ≠ root → (c = 2 * i + 1 ∨ c = 2 * i + 2) → c < hi → lt (l.getD (first + i) d) (l.getD (first + c) d) = false) ∧
  ∀ i c, lo ≤ i → (root = 2 * i + 1 ∨ root = 2 * i + 2) → (c = 2 * root + 1 ∨ c = 2 * root + 2) → c < hi → lt (l.getD (first + i) d) (l.getD (first + c) d) = false
theorem hpBut_start {l : List α} {first lo hi : Nat} (h : Hp lt d l first (lo + 1) hi) : HpBut lt d l first lo hi lo := ⟨fun i c h1 h2 h3 h4 => h i c (by omega) h3 h4, fun i c h1 h2 => by omega⟩
theorem hpBut_end {l : List α} {first lo hi root : Nat} (h : HpBut lt d l first lo hi root) (he : ∀ c, (c = 2 * root + 1 ∨ c = 2 * root + 2) → c < hi → lt (l.getD (first + root) d) (l.getD (first + c) d) = false) : Hp lt d l first lo hi := fun i c h1 h2 h3 => by
  by_cases e : i = root
  · rw [e] at h2 ⊢; exact he c h2 h3
  · exact h.1 i c h1 e h2 h3
theorem hpBut_step {l : List α} {first lo hi root c : Nat} (hw : SWO lt) (h : HpBut lt d l first lo hi root) (hlo : lo ≤ root) (hc : c = 2 * root + 1 ∨ c = 2 * root + 2) (hch : c < hi) (hl : first + hi ≤ l.length)
    (hg : ∀ c', (c' = 2 * root + 1 ∨ c' = 2 * root + 2) → c' < hi → lt (l.getD (first + c) d) (l.getD (first + c') d) = false) (hlt : lt (l.getD (first + root) d) (l.getD (first + c) d) = true) :
    HpBut lt d (swL d l (first + root) (first + c)) first lo hi c := by
  have get : ∀ x, (swL d l (first + root) (first + c)).getD (first + x) d = if x = c then l.getD (first + root) d else if x = root then l.getD (first + c) d else l.getD (first + x) d := fun x => by
    rw [swL_get (by omega) (by omega)]
    by_cases e : x = c
    · subst e; simp
    · by_cases e2 : x = root
      · subst e2; simp [e]
      · rw [if_neg (by omega), if_neg (by omega), if_neg e, if_neg e2]
  constructor
  · intro i k h1 h2 h3 h4
    rw [get, get, if_neg h2]
    by_cases e : i = root
    · subst e
      rw [if_pos rfl]
      by_cases e2 : k = c
      · rw [if_pos e2]; exact hw.asym hlt
      · rw [if_neg e2, if_neg (by omega)]; exact hg k h3 h4
    · rw [if_neg e]
      by_cases e2 : k = c
      · omega
      · rw [if_neg e2]
        by_cases e3 : k = root
        · subst e3
          rw [if_pos rfl]
          exact h.2 i c h1 h3 hc hch
        · rw [if_neg e3]; exact h.1 i k h1 e h3 h4
  · intro i k h1 h2 h3 h4
    have hir : i = root := by omega
    subst hir
    rw [get, get, if_neg (by omega), if_pos rfl, if_neg (by omega), if_neg (by omega)]
    exact h.1 c k (by omega) (by omega) h3 h4
theorem Hp.top {l : List α} {first hi : Nat} (hw : SWO lt) (h : Hp lt d l first 0 hi) : ∀ j, j < hi → lt (l.getD first d) (l.getD (first + j) d) = false := fun j => by
  induction j using Nat.strongRecOn with
  | _ j ih =>
    intro hj
    by_cases e : j = 0
    · subst e; exact hw.irr _
    · have h1 := ih ((j - 1) / 2) (by omega) (by omega)
      exact hw.ntr _ _ _ h1 (h ((j - 1) / 2) j (by omega) (by omega) hj)
def Prt (Q : α → Bool) (d : α) (a b i j : Nat) (l : List α) : Prop := a < i ∧ i ≤ j + 1 ∧ j < b ∧ (∀ k, a < k → k < i → Q (l.getD k d) = true) ∧ ∀ k, j < k → k < b → Q (l.getD k d) = false
variable {Q : α → Bool}
theorem prt_0 {a b : Nat} (h : a < b) (l : List α) : Prt Q d a b (a + 1) (b - 1) l := ⟨by omega, by omega, by omega, fun k h1 h2 => by omega, fun k h1 h2 => by omega⟩
theorem prt_i {a b i j : Nat} {l : List α} (h : Prt Q d a b i j l) (hij : i ≤ j) (hq : Q (l.getD i d) = true) : Prt Q d a b (i + 1) j l := ⟨by have := h.1; omega, by omega, h.2.2.1, fun k h1 h2 => by
  by_cases e : k = i
  · rw [e]; exact hq
  · exact h.2.2.2.1 k h1 (by omega), h.2.2.2.2⟩
theorem prt_j {a b i j : Nat} {l : List α} (h : Prt Q d a b i j l) (hij : i ≤ j) (hq : Q (l.getD j d) = false) : Prt Q d a b i (j - 1) l := ⟨h.1, by have := h.1; omega, by have := h.2.2.1; omega, h.2.2.2.1, fun k h1 h2 => by
  by_cases e : k = j
  · rw [e]; exact hq
  · exact h.2.2.2.2 k (by omega) h2⟩
theorem prt_sw {a b i j : Nat} {l : List α} (h : Prt Q d a b i j l) (hij : i ≤ j) (hb : b ≤ l.length) (h1 : Q (l.getD i d) = false) (h2 : Q (l.getD j d) = true) : Prt Q d a b (i + 1) (j - 1) (swL d l i j) ∧ i < j := by
  have hne : i ≠ j := fun e => by rw [e, h2] at h1; cases h1
  obtain ⟨g1, g2, g3, g4, g5⟩ := h
  have hget := fun x => swL_get (d := d) (l := l) (i := i) (j := j) (by omega) (by omega) x
  refine ⟨⟨by omega, by omega, by omega, fun k h3 h4 => ?_, fun k h3 h4 => ?_⟩, by omega⟩
  · rw [hget, if_neg (by omega)]
    by_cases e : k = i
    · rw [if_pos e]; exact h2
    · rw [if_neg e]; exact g4 k h3 (by omega)
  · rw [hget]
    by_cases e : k = j
    · rw [if_pos e]; exact h1
    · rw [if_neg e, if_neg (by omega)]; exact g5 k (by omega) h4
def PPost (lt : α → α → Bool) (d : α) (a b m : Nat) (l : List α) : Prop := a ≤ m ∧ m < b ∧ (∀ k, a ≤ k → k < m → lt (l.getD k d) (l.getD m d) = true) ∧ ∀ k, m < k → k < b → lt (l.getD k d) (l.getD m d) = false
theorem prt_end {a b i j : Nat} {l : List α} {p : α} (hp : l.getD a d = p) (h : Prt (fun x => lt x p) d a b i j l) (hij : j < i) (hb : b ≤ l.length) : PPost lt d a b j (swL d l j a) := by
  obtain ⟨g1, g2, g3, g4, g5⟩ := h
  have hget := fun x => swL_get (d := d) (l := l) (i := j) (j := a) (by omega) (by omega) x
  have hj : (swL d l j a).getD j d = p := by
    rw [hget]
    by_cases e : j = a
    · rw [if_pos e, e]; exact hp
    · rw [if_neg e, if_pos rfl]; exact hp
  refine ⟨by omega, g3, fun k h1 h2 => ?_, fun k h1 h2 => ?_⟩
  · rw [hj, hget]
    by_cases e : k = a
    · rw [if_pos e]; exact g4 j (by omega) (by omega)
    · rw [if_neg e, if_neg (by omega)]; exact g4 k (by omega) (by omega)
  · rw [hj, hget, if_neg (by omega), if_neg (by omega)]
    exact g5 k (by omega) h2
def Mid (lt : α → α → Bool) (d : α) (a0 b0 a b : Nat) (l : List α) : Prop := a0 ≤ a ∧ a ≤ b ∧ b ≤ b0 ∧ SIn lt d a0 a l ∧ SIn lt d b b0 l ∧ (∀ i j, a0 ≤ i → i < a → a ≤ j → j < b0 → lt (l.getD j d) (l.getD i d) = false) ∧ ∀ i j, a0 ≤ i → i < b → b ≤ j → j < b0 → lt (l.getD j d) (l.getD i d) = false
theorem mid_0 {a b : Nat} (h : a ≤ b) (l : List α) : Mid lt d a b a b l := ⟨Nat.le_refl _, h, Nat.le_refl _, SIn.short (by omega), SIn.short (by omega), fun i j h1 h2 => by omega, fun i j h1 h2 h3 h4 => by omega⟩
theorem mid_perm {a0 b0 a b : Nat} {l m : List α} (h : Mid lt d a0 b0 a b l) (hp : PIn d a b l m) : Mid lt d a0 b0 a b m := by
  obtain ⟨g1, g2, g3, g4, g5, g6, g7⟩ := h
  have low : ∀ i, i < a ∨ b ≤ i → m.getD i d = l.getD i d := fun i hi => hp.2.1 i hi
  refine ⟨g1, g2, g3, g4.congr fun i h1 h2 => low i (by omega), g5.congr fun i h1 h2 => low i (by omega), fun i j h1 h2 h3 h4 => ?_, fun i j h1 h2 h3 h4 => ?_⟩
  · rw [low i (by omega)]
    by_cases e : j < b
    · exact hp.all (p := fun x => lt x (l.getD i d) = false) (fun k h5 h6 => g6 i k h1 h2 h5 (by omega)) j h3 e
    · rw [low j (by omega)]; exact g6 i j h1 h2 h3 h4
  · rw [low j (by omega)]
    by_cases e : a ≤ i
    · exact hp.all (p := fun x => lt (l.getD j d) x = false) (fun k h5 h6 => g7 k j (by omega) h6 h3 h4) i e h2
    · rw [low i (by omega)]; exact g7 i j h1 h2 h3 h4
theorem mid_end {a0 b0 a b : Nat} {l : List α} (h : Mid lt d a0 b0 a b l) (hs : SIn lt d a b l) : SIn lt d a0 b0 l := fun i j h1 h2 h3 => by
  obtain ⟨g1, g2, g3, g4, g5, g6, g7⟩ := h
  by_cases c1 : j < a
  · exact g4 i j h1 h2 c1
  · by_cases c2 : b ≤ i
    · exact g5 i j c2 h2 h3
    · by_cases c3 : i < a
      · exact g6 i j h1 c3 (by omega) h3
      · by_cases c4 : b ≤ j
        · exact g7 i j h1 (by omega) c4 h3
        · exact hs i j (by omega) h2 (by omega)
theorem mid_left {a0 b0 a b m : Nat} {l : List α} (hw : SWO lt) (h : Mid lt d a0 b0 a b l) (hp : PPost lt d a b m l) (hs : SIn lt d a m l) : Mid lt d a0 b0 (m + 1) b l := by
  obtain ⟨g1, g2, g3, g4, g5, g6, g7⟩ := h
  obtain ⟨p1, p2, p3, p4⟩ := hp
  have lm : ∀ i, a ≤ i → i < m → ∀ x, lt x (l.getD m d) = false → lt x (l.getD i d) = false := fun i h1 h2 x hx => hw.ntr _ _ _ hx (hw.asym (p3 i h1 h2))
  refine ⟨by omega, by omega, g3, fun i j h1 h2 h3 => ?_, g5, fun i j h1 h2 h3 h4 => ?_, g7⟩
  · by_cases c1 : j < a
    · exact g4 i j h1 h2 c1
    · by_cases c2 : i < a
      · exact g6 i j h1 c2 (by omega) (by omega)
      · by_cases c3 : j < m
        · exact hs i j (by omega) h2 c3
        · have : j = m := by omega
          subst this
          exact hw.asym (p3 i (by omega) h2)
  · by_cases c1 : i < a
    · exact g6 i j h1 c1 (by omega) h4
    · have hjm : lt (l.getD j d) (l.getD m d) = false := by
        by_cases c2 : j < b
        · exact p4 j (by omega) c2
        · exact g7 m j (by omega) (by omega) (by omega) h4
      by_cases c3 : i = m
      · rw [c3]; exact hjm
      · exact lm i (by omega) (by omega) _ hjm
theorem mid_right {a0 b0 a b m : Nat} {l : List α} (hw : SWO lt) (h : Mid lt d a0 b0 a b l) (hp : PPost lt d a b m l) (hs : SIn lt d (m + 1) b l) : Mid lt d a0 b0 a m l := by
  obtain ⟨g1, g2, g3, g4, g5, g6, g7⟩ := h
  obtain ⟨p1, p2, p3, p4⟩ := hp
  have hm : ∀ j, m ≤ j → j < b0 → lt (l.getD j d) (l.getD m d) = false := fun j h1 h2 => by
    by_cases e : j = m
    · rw [e]; exact hw.irr _
    · by_cases c : j < b
      · exact p4 j (by omega) c
      · exact g7 m j (by omega) (by omega) (by omega) h2
  refine ⟨g1, p1, by omega, g4, fun i j h1 h2 h3 => ?_, g6, fun i j h1 h2 h3 h4 => ?_⟩
  · by_cases c1 : b ≤ i
    · exact g5 i j c1 h2 h3
    · by_cases c2 : b ≤ j
      · exact g7 i j (by omega) (by omega) c2 h3
      · by_cases c3 : i = m
        · rw [c3]; exact hm j (by omega) h3
        · exact hs i j (by omega) h2 (by omega)
  · by_cases c1 : i < a
    · exact g6 i j h1 c1 (by omega) h4
    · exact hw.ntr _ _ _ (hm j h3 h4) (hw.asym (p3 i (by omega) h2))
theorem mid_equal {a0 b0 a b m : Nat} {l : List α} (hw : SWO lt) (h : Mid lt d a0 b0 a b l) (ham : a < m) (hmb : m ≤ b) {p : α} (h1 : ∀ k, a ≤ k → k < m → lt p (l.getD k d) = false ∧ lt (l.getD k d) p = false) (h2 : ∀ k, m ≤ k → k < b → lt p (l.getD k d) = true) : Mid lt d a0 b0 m b l := by
  obtain ⟨g1, g2, g3, g4, g5, g6, g7⟩ := h
  have alike : ∀ i j, a ≤ i → i < m → a ≤ j → j < m → lt (l.getD j d) (l.getD i d) = false := fun i j h3 h4 h5 h6 => hw.ntr _ _ _ (h1 j h5 h6).2 (h1 i h3 h4).1
  refine ⟨by omega, hmb, g3, fun i j h3 h4 h5 => ?_, g5, fun i j h3 h4 h5 h6 => ?_, g7⟩
  · by_cases c1 : j < a
    · exact g4 i j h3 h4 c1
    · by_cases c2 : i < a
      · exact g6 i j h3 c2 (by omega) (by omega)
      · exact alike i j (by omega) (by omega) (by omega) h5
  · by_cases c1 : i < a
    · exact g6 i j h3 c1 (by omega) h6
    · by_cases c2 : j < b
      · exact hw.ntr _ _ _ (hw.asym (h2 j h5 c2)) (h1 i (by omega) h4).1
      · exact g7 i j h3 (by omega) (by omega) h6
end
end Go.Proofs.YtcjhojdlfnpgjaaGreat
