/- Plain laws: the search for modules. -/
import Derived.Test.YtcjhojdlfnpgjaaGreatDoorGd
namespace Go.Proofs.YtcjhojdlfnpgjaaGreatDoor
open Go.RowKit
set_option linter.unusedVariables false
set_option linter.unusedSimpArgs false
set_option maxRecDepth 100000

theorem rangeFlat_succ {α : Type} (f : Nat → List α) (i : Nat) : (List.range (i + 1)).flatMap f = (List.range i).flatMap f ++ f i := by
  rw [List.range_succ, List.flatMap_append]
  simp
theorem rangeFlat_congr {α : Type} {f g : Nat → List α} : ∀ {n : Nat}, (∀ a, a < n → f a = g a) → (List.range n).flatMap f = (List.range n).flatMap g
  | 0, _ => rfl
  | n + 1, h => by rw [rangeFlat_succ, rangeFlat_succ, rangeFlat_congr fun a ha => h a (by omega), h n (by omega)]
theorem rangeFlat_len {α : Type} {f : Nat → List α} {B : Nat} (h : ∀ a, (f a).length ≤ B) : ∀ i, ((List.range i).flatMap f).length ≤ i * B
  | 0 => by simp
  | i + 1 => by
    rw [rangeFlat_succ, List.length_append]
    have := rangeFlat_len h i
    have := h i
    rw [Nat.succ_mul]
    omega
theorem getD_snoc_lt {l : List Int} {x : Int} {j : Nat} (h : j < l.length) : (l ++ [x]).getD j 0 = l.getD j 0 := by
  rw [List.getD_eq_getElem?_getD, List.getD_eq_getElem?_getD, List.getElem?_append, if_pos h]
theorem getD_snoc_eq {l : List Int} {x : Int} {j : Nat} (h : j = l.length) : (l ++ [x]).getD j 0 = x := by
  subst h
  rw [List.getD_eq_getElem?_getD, List.getElem?_append, if_neg (by omega)]
  simp
theorem take_set_snoc {R l : List Int} {n : Nat} {x : Int} (h : R.take n = l) (hn : n < R.length) : (R.set n x).take (n + 1) = l ++ [x] := by
  rw [List.take_succ_eq_append_getElem (by simpa using hn)]
  simp [List.take_set_of_le, h]
theorem I_takeN (R : List Int) (n : Nat) : (I R).take n = I (R.take n) := by simp [I, List.map_take]

/-- Units of the first elements go together. -/
def Fine (t : List (List Int)) (m : Int) (w : List Int) : Prop := ∀ a, a < w.length → ∀ b, b < w.length → ee t a b < w.length → w.getD (ee t a b).toNat 0 = (w.getD a 0 * w.getD b 0).tmod m
instance (t : List (List Int)) (m : Int) (w : List Int) : Decidable (Fine t m w) := by unfold Fine; infer_instance
/-- The program's search. -/
def dfsM (t : List (List Int)) (m : Int) : Nat → List Int → List (List Int)
  | 0, l => if Mod t m l then [l] else []
  | k + 1, l => (List.range m.toNat).flatMap fun (u : Nat) => if Unit1 m u ∧ Fine t m (l ++ [(u : Int)]) then dfsM t m k (l ++ [(u : Int)]) else []
def UnitS (m : Int) (l : List Int) (u : Nat) : Prop := 1 ≤ u ∧ Nat.gcd u m.toNat = 1 ∧ (0 < l.length ∨ u = 1)
instance (m : Int) (l : List Int) (u : Nat) : Decidable (UnitS m l u) := by unfold UnitS; infer_instance
/-- The reference's search. -/
def dfsS (t : List (List Int)) (m : Int) : Nat → List Int → List (List Int)
  | 0, l => if Fine t m l then [l] else []
  | k + 1, l => if Fine t m l then (List.range m.toNat).flatMap fun (u : Nat) => if UnitS m l u then dfsS t m k (l ++ [(u : Int)]) else [] else []
def Units (m : Int) (l : List Int) : Prop := ∀ j, j < l.length → Unit1 m (l.getD j 0)
theorem Units.snoc {m : Int} {l : List Int} {u : Int} (h : Units m l) (hu : Unit1 m u) : Units m (l ++ [u]) := by
  intro j hj
  by_cases e : j < l.length
  · rw [getD_snoc_lt e]; exact h j e
  · rw [getD_snoc_eq (by simp at hj; omega)]; exact hu
theorem dfsS_not {t : List (List Int)} {m : Int} {l : List Int} (h : ¬ Fine t m l) : ∀ k, dfsS t m k l = []
  | 0 => by rw [dfsS, if_neg h]
  | k + 1 => by rw [dfsS, if_neg h]
theorem dfsM_S {t : List (List Int)} {m : Int} (hg : Grp t) (hm : 2 ≤ m ∧ m ≤ 12) : ∀ (k : Nat) (l : List Int), l.length + k = t.length → Fine t m l → Units m l → (0 < l.length → l.getD 0 0 = 1) → dfsM t m k l = dfsS t m k l
  | 0, l, hl, hf, hu, h1 => by
    have hM : Mod t m l := ⟨hm, by omega, hu, fun a ha b hb => hf a ha b hb (by
      have := (hg.2.2.1 a (by omega)).2 b (by omega)
      omega)⟩
    rw [dfsM, dfsS, if_pos hf, if_pos hM]
  | k + 1, l, hl, hf, hu, h1 => by
    rw [dfsM, dfsS, if_pos hf]
    refine rangeFlat_congr fun u hum => ?_
    by_cases e : UnitS m l u
    · have hU : Unit1 m u := ⟨by have := e.1; omega, by omega, by simpa using e.2.1⟩
      rw [if_pos e]
      by_cases hfi : Fine t m (l ++ [(u : Int)])
      · rw [if_pos ⟨hU, hfi⟩]
        refine dfsM_S hg hm k _ (by simp; omega) hfi (hu.snoc hU) fun _ => ?_
        by_cases e0 : 0 < l.length
        · rw [getD_snoc_lt e0]; exact h1 e0
        · rw [getD_snoc_eq (by omega)]
          have := e.2.2.resolve_left e0
          rw [this]; rfl
      · rw [if_neg fun q => hfi q.2, dfsS_not hfi]
    · rw [if_neg e, if_neg]
      rintro ⟨hU, hfi⟩
      refine e ⟨by have := hU.1; omega, by simpa using hU.2.2, ?_⟩
      by_cases e0 : 0 < l.length
      · exact .inl e0
      · refine .inr ?_
        have hnil : l = [] := List.eq_nil_of_length_eq_zero (by omega)
        subst hnil
        have e00 := (hg.2.2.2 0 (by have := hg.1; omega)).1.1
        have := hfi 0 (by simp) 0 (by simp) (by rw [e00]; simp)
        rw [e00] at this
        have := unit_one hm hU (by simpa using this)
        omega
theorem dfsM_len {t : List (List Int)} {m : Int} (hm : m ≤ 12) : ∀ (k : Nat) (l : List Int), (dfsM t m k l).length ≤ 12 ^ k
  | 0, l => by rw [dfsM]; split <;> simp
  | k + 1, l => by
    have h : ∀ u : Nat, (if Unit1 m u ∧ Fine t m (l ++ [(u : Int)]) then dfsM t m k (l ++ [(u : Int)]) else []).length ≤ 12 ^ k := fun u => by
      split
      · exact dfsM_len hm k _
      · simp
    have h2 := rangeFlat_len h m.toNat
    have h3 : m.toNat * 12 ^ k ≤ 12 * 12 ^ k := Nat.mul_le_mul_right _ (by omega)
    rw [Nat.pow_succ]
    unfold dfsM
    omega
theorem dfsS_len {t : List (List Int)} {m : Int} (hm : m ≤ 12) : ∀ (k : Nat) (l : List Int), (dfsS t m k l).length ≤ 12 ^ k
  | 0, l => by rw [dfsS]; split <;> simp
  | k + 1, l => by
    have h : ∀ u : Nat, (if UnitS m l u then dfsS t m k (l ++ [(u : Int)]) else []).length ≤ 12 ^ k := fun u => by
      split
      · exact dfsS_len hm k _
      · simp
    have h2 := rangeFlat_len h m.toNat
    have h3 : m.toNat * 12 ^ k ≤ 12 * 12 ^ k := Nat.mul_le_mul_right _ (by omega)
    rw [Nat.pow_succ]
    unfold dfsS
    split
    · omega
    · simp
theorem Fine_nil (t : List (List Int)) (m : Int) : Fine t m [] := fun a ha => by simp at ha
theorem dfsM_Mod {t : List (List Int)} {m : Int} : ∀ (k : Nat) (l p : List Int), p ∈ dfsM t m k l → Mod t m p
  | 0, l, p, h => by
    rw [dfsM] at h
    split at h
    · simp only [List.mem_singleton] at h; subst h; assumption
    · cases h
  | k + 1, l, p, h => by
    rw [dfsM, List.mem_flatMap] at h
    obtain ⟨u, _, h⟩ := h
    split at h
    · exact dfsM_Mod k _ p h
    · cases h
/-- Every module is found. -/
theorem dfsM_has {t : List (List Int)} {m : Int} (hg : Grp t) {p : List Int} (hp : Mod t m p) : ∀ (k i : Nat), i + k = t.length → p ∈ dfsM t m k (p.take i)
  | 0, i, h => by
    rw [dfsM, List.take_of_length_le (by have := hp.2.1; omega), if_pos hp]
    simp
  | k + 1, i, h => by
    have hl := hp.2.1
    have hi : i < p.length := by omega
    have ht : p.take (i + 1) = p.take i ++ [p.getD i 0] := by
      rw [List.take_succ_eq_append_getElem hi, List.getD_eq_getElem?_getD, List.getElem?_eq_getElem hi]; rfl
    have hu := hp.2.2.1 i hi
    obtain ⟨u, hu'⟩ := Int.eq_ofNat_of_zero_le (show 0 ≤ p.getD i 0 by have := hu.1; omega)
    rw [dfsM, List.mem_flatMap]
    refine ⟨u, List.mem_range.2 (by have := hu.2.1; omega), ?_⟩
    rw [hu'] at ht hu
    have hf : Fine t m (p.take i ++ [(u : Int)]) := by
      rw [← ht]
      intro a ha b hb hab
      simp only [List.length_take] at ha hb hab
      have g : ∀ j, j < i + 1 → (p.take (i + 1)).getD j 0 = p.getD j 0 := fun j hj => by
        rw [List.getD_eq_getElem?_getD, List.getElem?_take, if_pos hj, ← List.getD_eq_getElem?_getD]
      have hs := (hg.2.2.1 a (by omega)).2 b (by omega)
      rw [g a (by omega), g b (by omega), g _ (by omega)]
      exact hp.2.2.2 a (by omega) b (by omega)
    rw [if_pos ⟨hu, hf⟩, ← ht]
    exact dfsM_has hg hp k (i + 1) (by omega)
theorem dfsM_get {t : List (List Int)} {m : Int} (hg : Grp t) {p : List Int} (hp : Mod t m p) : p ∈ dfsM t m t.length [] := by
  have := dfsM_has hg hp t.length 0 (by omega)
  simpa using this
/-- The trivial module. -/
theorem Mod_ones {t : List (List Int)} {m : Int} (hg : Grp t) (hm : 2 ≤ m ∧ m ≤ 12) : Mod t m (List.replicate t.length 1) := by
  have g : ∀ j, j < t.length → (List.replicate t.length (1 : Int)).getD j 0 = 1 := fun j hj => by
    rw [List.getD_eq_getElem?_getD, List.getElem?_replicate, if_pos hj]; rfl
  refine ⟨hm, by simp, fun j hj => ?_, fun a ha b hb => ?_⟩
  · rw [g j (by simpa using hj)]
    exact ⟨by omega, by omega, by simp⟩
  · simp only [List.length_replicate] at ha hb
    have hs := (hg.2.2.1 a ha).2 b hb
    rw [g a ha, g b hb, g _ (by omega)]
    obtain ⟨m', rfl⟩ := Int.eq_ofNat_of_zero_le (show 0 ≤ m by omega)
    simp only [Int.mul_one]
    have : m' = m' := rfl
    exact (Int.tmod_eq_of_lt (by omega) (by omega)).symm

/-- Lists of modules as they lie in memory. -/
def mq (q : List (Int × List Int)) : List (Value × List Value) := q.map fun p => (.int .i64 p.1, I p.2)
theorem mq_len (q : List (Int × List Int)) : (mq q).length = q.length := by simp [mq]
theorem mq_at {q : List (Int × List Int)} {i : Nat} (h : i < q.length) : (mq q)[i]? = some (.int .i64 q[i].1, I q[i].2) := by simp [mq, List.getElem?_eq_getElem h]
theorem mq_snoc (q : List (Int × List Int)) (m : Int) (l : List Int) : mq q ++ [(.int .i64 m, I l)] = mq (q ++ [(m, l)]) := by simp [mq]
def withM (m : Int) (L : List (List Int)) : List (Int × List Int) := L.map fun l => (m, l)
theorem withM_app (m : Int) (a b : List (List Int)) : withM m (a ++ b) = withM m a ++ withM m b := by simp [withM]
theorem withM_len (m : Int) (a : List (List Int)) : (withM m a).length = a.length := by simp [withM]
/-- All modules of a group with a modulus; the code. -/
def modsR (t : List (List Int)) (m : Int) : List (Int × List Int) := if Grp t ∧ 2 ≤ m ∧ m ≤ 12 then withM m (dfsM t m t.length []) else []
def codeMs (t : List (List Int)) (m : Int) : Int := if Grp t then (if 2 ≤ m ∧ m ≤ 12 then 0 else 2) else 1
theorem dfs_all {t : List (List Int)} {m : Int} (hg : Grp t) (hm : 2 ≤ m ∧ m ≤ 12) : dfsS t m t.length [] = dfsM t m t.length [] :=
  (dfsM_S hg hm t.length [] (by simp) (Fine_nil t m) (fun j hj => by simp at hj) (fun h => by simp at h)).symm
end Go.Proofs.YtcjhojdlfnpgjaaGreatDoor
