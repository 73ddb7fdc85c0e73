/- Plain facts of groups: what is made by some elements, masks, cosets, renumbering, lists in order. -/
import Derived.Test.YtcjhojdlfnpgjaaGreatDoorHa
import Derived.Test.YtcjhojdlfnpgjaaGreatDoorPa
import Derived.Test.YtcjhojdlfnpgjaaGreatDoorEe
namespace Go.Proofs.YtcjhojdlfnpgjaaGreatDoor
open Go.RowKit
set_option linter.unusedVariables false
set_option linter.unusedSimpArgs false
set_option maxRecDepth 100000

/-- What is made by some elements, one behind the other. -/
inductive Gen (t : List (List Int)) (S : List Int) : Nat → Prop
  | zero : Gen t S 0
  | step {x : Nat} (hx : Gen t S x) (a : Int) (ha : a ∈ S) : Gen t S (em t x a.toNat)
theorem areIn_mem {n : Int} {l : List Int} (h : AreIn n l) {a : Int} (ha : a ∈ l) : 0 ≤ a ∧ a < n := by
  obtain ⟨j, hj, rfl⟩ := List.mem_iff_getElem.1 ha
  have := h j hj
  rwa [List.getD_eq_getElem?_getD, List.getElem?_eq_getElem hj, Option.getD_some] at this
section
variable {t : List (List Int)} (hg : Grp t) {S : List Int} (hS : AreIn t.length S)
include hg hS
end
open Classical in
noncomputable def genB (t : List (List Int)) (S : List Int) (x : Int) : Bool := decide (Gen t S x.toNat)
theorem genB_iff {t : List (List Int)} {S : List Int} {x : Int} : genB t S x = true ↔ Gen t S x.toNat := by unfold genB; simp
noncomputable def genL (t : List (List Int)) (S : List Int) : List Int := (cnt t.length).filter (genB t S)
theorem mem_cnt {n : Nat} {x : Int} : x ∈ cnt n ↔ 0 ≤ x ∧ x < n := by
  unfold cnt upTo
  rw [List.mem_map]
  constructor
  · rintro ⟨a, ha, rfl⟩; have := List.mem_range.1 ha; omega
  · intro h; exact ⟨x.toNat, List.mem_range.2 (by omega), by omega⟩
theorem mem_genL {t : List (List Int)} {S : List Int} {x : Int} : x ∈ genL t S ↔ (0 ≤ x ∧ x < t.length) ∧ Gen t S x.toNat := by
  unfold genL
  rw [List.mem_filter, mem_cnt, genB_iff]
/-- Strictly ascending. -/
def Asc (l : List Int) : Prop := l.Pairwise (· < ·)
theorem Asc.filter {l : List Int} (h : Asc l) (p : Int → Bool) : Asc (l.filter p) := List.Pairwise.filter _ h
/-- A list without repetitions of numbers below n is no longer than n. -/
theorem nodup_len {n : Nat} {l : List Int} (h : l.Nodup) (hl : ∀ x ∈ l, 0 ≤ x ∧ x < n) : l.length ≤ n := by
  apply Classical.byContradiction
  intro hn
  have hm : ∀ k, k < l.length → l.getD k 0 ∈ l := fun k hk => by
    rw [List.getD_eq_getElem?_getD, List.getElem?_eq_getElem hk, Option.getD_some]; exact List.getElem_mem _
  obtain ⟨i, j, hij, hj, he⟩ := pigeon n (fun k => (l.getD k 0).toNat) fun k hk => by have := hl _ (hm k (by omega)); show (l.getD k 0).toNat < n; omega
  have h1 := hl _ (hm i (by omega))
  have h2 := hl _ (hm j (by omega))
  have he' : l.getD i 0 = l.getD j 0 := by
    have : (l.getD i 0).toNat = (l.getD j 0).toNat := he
    omega
  rw [List.getD_eq_getElem?_getD, List.getD_eq_getElem?_getD, List.getElem?_eq_getElem (show i < l.length by omega), List.getElem?_eq_getElem (show j < l.length by omega), Option.getD_some, Option.getD_some] at he'
  have := (List.nodup_iff_pairwise_ne.1 h)
  exact List.pairwise_iff_getElem.1 this i j (by omega) (by omega) hij he'
/-! ### Sorting -/
/-! ### Masks -/
def maskN (p : Nat → Bool) : Nat → Nat
  | 0 => 0
  | k + 1 => maskN p k ||| (if p k then 2 ^ k else 0)
/-- The numbers of a mask. -/
def bitsL (m : Nat) : List Int := (cnt 8).filter fun x => m.testBit x.toNat
/-! ### Subgroups made by elements -/
open Classical in
noncomputable def genP (t : List (List Int)) (S : List Int) (a : Nat) : Bool := decide (Gen t S a)
/-- The mask of what the elements of a mask make. -/
noncomputable def closeN (t : List (List Int)) (m : Nat) : Nat := maskN (genP t (bitsL m)) 8
/-- The mask of a list. -/
def bitsM (l : List Int) : Nat := maskN (fun a => decide ((a : Int) ∈ l)) 8
theorem sub_zero {t : List (List Int)} (hg : Grp t) {l : List Int} (e : genL t l = l) : (0 : Int) ∈ l := by
  rw [← e, mem_genL]
  have := hg.1
  exact ⟨⟨by omega, by omega⟩, .zero⟩
/-! ### Cosets -/
/-- One element: the least elements of the cosets, and the number of each element's coset (-1: not yet met). -/
def cosIn (t : List (List Int)) (h : List Int) (a : Nat) (k : Int) (num : List Int) : List Int := h.foldl (fun num b => num.set (em t a b.toNat) k) num
def cosStep (t : List (List Int)) (h : List Int) (s : List Int × List Int) (a : Nat) : List Int × List Int :=
  if 0 ≤ s.2.getD a 0 then s else (s.1 ++ [(a : Int)], cosIn t h a s.1.length s.2)
def cosN (t : List (List Int)) (h : List Int) : Nat → List Int × List Int
  | 0 => ([], List.replicate t.length (-1))
  | k + 1 => cosStep t h (cosN t h k) k
def pos (l : List Int) : List Int := l.map fun x => max x 0
def metM (l : List Int) : Nat := maskN (fun a => decide (0 ≤ l.getD a (-1))) 8
theorem getD_eq' {d : Int} {l m : List Int} (hlen : l.length = m.length) (h : ∀ j, j < l.length → l.getD j d = m.getD j d) : l = m := by
  apply List.ext_getElem hlen
  intro i h1 h2
  have := h i h1
  rwa [List.getD_eq_getElem?_getD, List.getD_eq_getElem?_getD, List.getElem?_eq_getElem h1, List.getElem?_eq_getElem h2, Option.getD_some, Option.getD_some] at this
/-! ### Renumbering -/
/-- All numbers from 0 to n - 1, 0 first. -/
def Perm0 (n : Nat) (p : List Int) : Prop := p.length = n ∧ AreIn n p ∧ (∀ i j, i < n → j < n → p.getD i 0 = p.getD j 0 → i = j) ∧ p.getD 0 0 = 0
theorem nodup_inj {l : List Int} : l.Nodup ↔ ∀ i j, i < l.length → j < l.length → l.getD i 0 = l.getD j 0 → i = j := by
  rw [List.nodup_iff_pairwise_ne, List.pairwise_iff_getElem]
  have e : ∀ i (h : i < l.length), l.getD i 0 = l[i] := fun i h => by rw [List.getD_eq_getElem?_getD, List.getElem?_eq_getElem h, Option.getD_some]
  constructor
  · intro h i j hi hj he
    rw [e i hi, e j hj] at he
    rcases Nat.lt_trichotomy i j with q | q | q
    · exact absurd he (h i j hi hj q)
    · exact q
    · exact absurd he.symm (h j i hj hi q)
  · intro h i j hi hj hij he
    have := h i j hi hj (by rw [e i hi, e j hj]; exact he)
    omega
theorem perm_onto {n : Nat} {p : List Int} (h : Perm0 n p) {x : Nat} (hx : x < n) : ∃ i, i < n ∧ p.getD i 0 = x := by
  apply Classical.byContradiction
  intro hc
  have hn : p.Nodup := nodup_inj.2 (by rw [h.1]; exact h.2.2.1)
  have hnot : ((x : Nat) : Int) ∉ p := fun hm => by
    obtain ⟨i, hi, he⟩ := List.mem_iff_getElem.1 hm
    exact hc ⟨i, by rw [← h.1]; exact hi, by rw [List.getD_eq_getElem?_getD, List.getElem?_eq_getElem hi, Option.getD_some, he]⟩
  have := nodup_len (n := n) (List.nodup_cons.2 ⟨hnot, hn⟩) (fun y hy => by
    rcases List.mem_cons.1 hy with q | q
    · omega
    · exact areIn_mem h.2.1 q)
  simp at this
  have := h.1
  omega
theorem ix_perm {n : Nat} {p : List Int} (h : Perm0 n p) {i : Nat} (hi : i < n) : ix p (p.getD i 0) = i :=
  ix_at (by rw [h.1]; exact hi) rfl fun j hj he => by have := h.2.2.1 j i (by omega) hi he; omega
def renF (t : List (List Int)) (p : List Int) (a b : Nat) : Int := p.getD (em t (ix p a).toNat (ix p b).toNat) 0
/-- A table that is written through a permutation. -/
theorem ren_end {t T : List (List Int)} {p : List Int} (hp : Perm0 t.length p) (hl : T.length = t.length) (hr : ∀ a, a < t.length → (T.getD a []).length = t.length)
    (hT : ∀ a b, a < t.length → b < t.length → ee T (p.getD a 0).toNat (p.getD b 0).toNat = p.getD (em t a b) 0) : T = tab (renF t p) t.length t.length := by
  apply List.ext_getElem (by rw [hl, tab_len])
  intro x h1 h2
  have hx : x < t.length := by omega
  have e1 : T[x] = T.getD x [] := by rw [List.getD_eq_getElem?_getD, List.getElem?_eq_getElem h1, Option.getD_some]
  have e2 : (tab (renF t p) t.length t.length)[x] = upTo (renF t p x) t.length := by rw [← tab_row hx, List.getD_eq_getElem?_getD, List.getElem?_eq_getElem h2, Option.getD_some]
  rw [e1, e2]
  refine getD_eq' (d := 0) (by rw [hr x hx, upTo_len]) fun y hy => ?_
  rw [hr x hx] at hy
  rw [upTo_get _ hy]
  obtain ⟨a, ha, hpa⟩ := perm_onto hp hx
  obtain ⟨b, hb, hpb⟩ := perm_onto hp hy
  have := hT a b ha hb
  rw [hpa, hpb] at this
  unfold ee at this
  rw [Int.toNat_natCast, Int.toNat_natCast] at this
  rw [this, renF, ← hpa, ← hpb, ix_perm hp ha, ix_perm hp hb]
  rfl
/-! ### Lists in order -/
/-- By the length, and then element by element. -/
def lexB : List Int → List Int → Bool
  | x :: a, y :: b => if x = y then lexB a b else decide (x < y)
  | _, _ => false
def befB (a b : List Int) : Bool := if a.length = b.length then lexB a b else decide (a.length < b.length)
def InOrd (l : List (List Int)) : Prop := l.Pairwise fun a b => befB a b = true
end Go.Proofs.YtcjhojdlfnpgjaaGreatDoor
