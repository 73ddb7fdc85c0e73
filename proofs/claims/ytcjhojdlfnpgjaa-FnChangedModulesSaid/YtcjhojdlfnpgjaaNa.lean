/- Plain laws: the search for modules. -/
import Derived.Test.YtcjhojdlfnpgjaaGd
import Derived.Test.YtcjhojdlfnpgjaaWc
namespace Go.Proofs.Ytcjhojdlfnpgjaa
open Go.RowKit
set_option linter.unusedVariables false
set_option linter.unusedSimpArgs false
set_option maxRecDepth 100000

theorem rangeFlat_succ {α : Type} (f : Nat → List α) (i : Nat) : (List.range (i + 1)).flatMap f = (List.range i).flatMap f ++ f i := by
  rw [List.range_succ, List.flatMap_append]
  simp
theorem rangeFlat_congr {α : Type} {f g : Nat → List α} : ∀ {n : Nat}, (∀ a, a < n → f a = g a) → (List.range n).flatMap f = (List.range n).flatMap g
  | 0, _ => rfl
  | n + 1, h => by rw [rangeFlat_succ, rangeFlat_succ, rangeFlat_congr fun a ha => h a (by omega), h n (by omega)]
theorem rangeFlat_len {α : Type} {f : Nat → List α} {B : Nat} (h : ∀ a, (f a).length ≤ B) : ∀ i, ((List.range i).flatMap f).length ≤ i * B
  | 0 => by simp
  | i + 1 => by
    rw [rangeFlat_succ, List.length_append]
    have := rangeFlat_len h i
    have := h i
    rw [Nat.succ_mul]
    omega
theorem getD_snoc_lt {l : List Int} {x : Int} {j : Nat} (h : j < l.length) : (l ++ [x]).getD j 0 = l.getD j 0 := by
  rw [List.getD_eq_getElem?_getD, List.getD_eq_getElem?_getD, List.getElem?_append, if_pos h]
theorem getD_snoc_eq {l : List Int} {x : Int} {j : Nat} (h : j = l.length) : (l ++ [x]).getD j 0 = x := by
  subst h
  rw [List.getD_eq_getElem?_getD, List.getElem?_append, if_neg (by omega)]
  simp
theorem take_set_snoc {R l : List Int} {n : Nat} {x : Int} (h : R.take n = l) (hn : n < R.length) : (R.set n x).take (n + 1) = l ++ [x] := by
  rw [List.take_succ_eq_append_getElem (by simpa using hn)]
  simp [List.take_set_of_le, h]
theorem I_takeN (R : List Int) (n : Nat) : (I R).take n = I (R.take n) := by simp [I, List.map_take]

/-- Units of the first elements go together. -/
def Fine (t : List (List Int)) (m : Int) (w : List Int) : Prop := ∀ a, a < w.length → ∀ b, b < w.length → ee t a b < w.length → w.getD (ee t a b).toNat 0 = (w.getD a 0 * w.getD b 0).tmod m
instance (t : List (List Int)) (m : Int) (w : List Int) : Decidable (Fine t m w) := by unfold Fine; infer_instance
/-- The program's search. -/
def dfsM (t : List (List Int)) (m : Int) : Nat → List Int → List (List Int)
  | 0, l => if Mod t m l then [l] else []
  | k + 1, l => (List.range m.toNat).flatMap fun (u : Nat) => if Unit1 m u ∧ Fine t m (l ++ [(u : Int)]) then dfsM t m k (l ++ [(u : Int)]) else []
def UnitS (m : Int) (l : List Int) (u : Nat) : Prop := 1 ≤ u ∧ Nat.gcd u m.toNat = 1 ∧ (0 < l.length ∨ u = 1)
instance (m : Int) (l : List Int) (u : Nat) : Decidable (UnitS m l u) := by unfold UnitS; infer_instance
/-- The reference's search. -/
def dfsS (t : List (List Int)) (m : Int) : Nat → List Int → List (List Int)
  | 0, l => if Fine t m l then [l] else []
  | k + 1, l => if Fine t m l then (List.range m.toNat).flatMap fun (u : Nat) => if UnitS m l u then dfsS t m k (l ++ [(u : Int)]) else [] else []
def Units (m : Int) (l : List Int) : Prop := ∀ j, j < l.length → Unit1 m (l.getD j 0)
theorem Units.snoc {m : Int} {l : List Int} {u : Int} (h : Units m l) (hu : Unit1 m u) : Units m (l ++ [u]) := by
  intro j hj
  by_cases e : j < l.length
  · rw [getD_snoc_lt e]; exact h j e
  · rw [getD_snoc_eq (by simp at hj; omega)]; exact hu
theorem dfsS_not {t : List (List Int)} {m : Int} {l : List Int} (h : ¬ Fine t m l) : ∀ k, dfsS t m k l = []
  | 0 => by rw [dfsS, if_neg h]
  | k + 1 => by rw [dfsS, if_neg h]
theorem dfsM_S {t : List (List Int)} {m : Int} (hg : Grp t) (hm : 2 ≤ m ∧ m ≤ 12) : ∀ (k : Nat) (l : List Int), l.length + k = t.length → Fine t m l → Units m l → (0 < l.length → l.getD 0 0 = 1) → dfsM t m k l = dfsS t m k l
  | 0, l, hl, hf, hu, h1 => by
    have hM : Mod t m l := ⟨hm, by omega, hu, fun a ha b hb => hf a ha b hb (by
      have := (hg.2.2.1 a (by omega)).2 b (by omega)
      omega)⟩
    rw [dfsM, dfsS, if_pos hf, if_pos hM]
  | k + 1, l, hl, hf, hu, h1 => by
    rw [dfsM, dfsS, if_pos hf]
    refine rangeFlat_congr fun u hum => ?_
    by_cases e : UnitS m l u
    · have hU : Unit1 m u := ⟨by have := e.1; omega, by omega, by simpa using e.2.1⟩
      rw [if_pos e]
      by_cases hfi : Fine t m (l ++ [(u : Int)])
      · rw [if_pos ⟨hU, hfi⟩]
        refine dfsM_S hg hm k _ (by simp; omega) hfi (hu.snoc hU) fun _ => ?_
        by_cases e0 : 0 < l.length
        · rw [getD_snoc_lt e0]; exact h1 e0
        · rw [getD_snoc_eq (by omega)]
          have := e.2.2.resolve_left e0
          rw [this]; rfl
      · rw [if_neg fun q => hfi q.2, dfsS_not hfi]
    · rw [if_neg e, if_neg]
      rintro ⟨hU, hfi⟩
      refine e ⟨by have := hU.1; omega, by simpa using hU.2.2, ?_⟩
      by_cases e0 : 0 < l.length
      · exact .inl e0
      · refine .inr ?_
        have hnil : l = [] := List.eq_nil_of_length_eq_zero (by omega)
        subst hnil
        have e00 := (hg.2.2.2 0 (by have := hg.1; omega)).1.1
        have := hfi 0 (by simp) 0 (by simp) (by rw [e00]; simp)
        rw [e00] at this
        have := unit_one hm hU (by simpa using this)
        omega
theorem dfsM_len {t : List (List Int)} {m : Int} (hm : m ≤ 12) : ∀ (k : Nat) (l : List Int), (dfsM t m k l).length ≤ 12 ^ k
  | 0, l => by rw [dfsM]; split <;> simp
  | k + 1, l => by
    have h : ∀ u : Nat, (if Unit1 m u ∧ Fine t m (l ++ [(u : Int)]) then dfsM t m k (l ++ [(u : Int)]) else []).length ≤ 12 ^ k := fun u => by
      split
      · exact dfsM_len hm k _
      · simp
    have h2 := rangeFlat_len h m.toNat
    have h3 : m.toNat * 12 ^ k ≤ 12 * 12 ^ k := Nat.mul_le_mul_right _ (by omega)
    rw [Nat.pow_succ]
    unfold dfsM
    omega
theorem dfsS_len {t : List (List Int)} {m : Int} (hm : m ≤ 12) : ∀ (k : Nat) (l : List Int), (dfsS t m k l).length ≤ 12 ^ k
  | 0, l => by rw [dfsS]; split <;> simp
  | k + 1, l => by
    have h : ∀ u : Nat, (if UnitS m l u then dfsS t m k (l ++ [(u : Int)]) else []).length ≤ 12 ^ k := fun u => by
      split
      · exact dfsS_len hm k _
      · simp
    have h2 := rangeFlat_len h m.toNat
    have h3 : m.toNat * 12 ^ k ≤ 12 * 12 ^ k := Nat.mul_le_mul_right _ (by omega)
    rw [Nat.pow_succ]
    unfold dfsS
    split
    · omega
    · simp
theorem dfsS_ext {t : List (List Int)} {m : Int} : ∀ (k : Nat) (l p : List Int), p ∈ dfsS t m k l → p.length = l.length + k
  | 0, l, p, h => by
    rw [dfsS] at h
    split at h
    · simp only [List.mem_singleton] at h; subst h; rfl
    · cases h
  | k + 1, l, p, h => by
    rw [dfsS] at h
    split at h
    · rw [List.mem_flatMap] at h
      obtain ⟨u, _, h⟩ := h
      split at h
      · have := dfsS_ext k _ p h
        simp at this; omega
      · cases h
    · cases h
theorem Fine_nil (t : List (List Int)) (m : Int) : Fine t m [] := fun a ha => by simp at ha
theorem dfsM_Mod {t : List (List Int)} {m : Int} : ∀ (k : Nat) (l p : List Int), p ∈ dfsM t m k l → Mod t m p
  | 0, l, p, h => by
    rw [dfsM] at h
    split at h
    · simp only [List.mem_singleton] at h; subst h; assumption
    · cases h
  | k + 1, l, p, h => by
    rw [dfsM, List.mem_flatMap] at h
    obtain ⟨u, _, h⟩ := h
    split at h
    · exact dfsM_Mod k _ p h
    · cases h
/-- Every module is found. -/
theorem dfsM_has {t : List (List Int)} {m : Int} (hg : Grp t) {p : List Int} (hp : Mod t m p) : ∀ (k i : Nat), i + k = t.length → p ∈ dfsM t m k (p.take i)
  | 0, i, h => by
    rw [dfsM, List.take_of_length_le (by have := hp.2.1; omega), if_pos hp]
    simp
  | k + 1, i, h => by
    have hl := hp.2.1
    have hi : i < p.length := by omega
    have ht : p.take (i + 1) = p.take i ++ [p.getD i 0] := by
      rw [List.take_succ_eq_append_getElem hi, List.getD_eq_getElem?_getD, List.getElem?_eq_getElem hi]; rfl
    have hu := hp.2.2.1 i hi
    obtain ⟨u, hu'⟩ := Int.eq_ofNat_of_zero_le (show 0 ≤ p.getD i 0 by have := hu.1; omega)
    rw [dfsM, List.mem_flatMap]
    refine ⟨u, List.mem_range.2 (by have := hu.2.1; omega), ?_⟩
    rw [hu'] at ht hu
    have hf : Fine t m (p.take i ++ [(u : Int)]) := by
      rw [← ht]
      intro a ha b hb hab
      simp only [List.length_take] at ha hb hab
      have g : ∀ j, j < i + 1 → (p.take (i + 1)).getD j 0 = p.getD j 0 := fun j hj => by
        rw [List.getD_eq_getElem?_getD, List.getElem?_take, if_pos hj, ← List.getD_eq_getElem?_getD]
      have hs := (hg.2.2.1 a (by omega)).2 b (by omega)
      rw [g a (by omega), g b (by omega), g _ (by omega)]
      exact hp.2.2.2 a (by omega) b (by omega)
    rw [if_pos ⟨hu, hf⟩, ← ht]
    exact dfsM_has hg hp k (i + 1) (by omega)
theorem dfsM_get {t : List (List Int)} {m : Int} (hg : Grp t) {p : List Int} (hp : Mod t m p) : p ∈ dfsM t m t.length [] := by
  have := dfsM_has hg hp t.length 0 (by omega)
  simpa using this
/-- The trivial module. -/
theorem Mod_ones {t : List (List Int)} {m : Int} (hg : Grp t) (hm : 2 ≤ m ∧ m ≤ 12) : Mod t m (List.replicate t.length 1) := by
  have g : ∀ j, j < t.length → (List.replicate t.length (1 : Int)).getD j 0 = 1 := fun j hj => by
    rw [List.getD_eq_getElem?_getD, List.getElem?_replicate, if_pos hj]; rfl
  refine ⟨hm, by simp, fun j hj => ?_, fun a ha b hb => ?_⟩
  · rw [g j (by simpa using hj)]
    exact ⟨by omega, by omega, by simp⟩
  · simp only [List.length_replicate] at ha hb
    have hs := (hg.2.2.1 a ha).2 b hb
    rw [g a ha, g b hb, g _ (by omega)]
    obtain ⟨m', rfl⟩ := Int.eq_ofNat_of_zero_le (show 0 ≤ m by omega)
    simp only [Int.mul_one]
    have : m' = m' := rfl
    exact (Int.tmod_eq_of_lt (by omega) (by omega)).symm

/-- Lists of modules as they lie in memory. -/
def mq (q : List (Int × List Int)) : List (Value × List Value) := q.map fun p => (.int .i64 p.1, I p.2)
theorem mq_len (q : List (Int × List Int)) : (mq q).length = q.length := by simp [mq]
theorem mq_at {q : List (Int × List Int)} {i : Nat} (h : i < q.length) : (mq q)[i]? = some (.int .i64 q[i].1, I q[i].2) := by simp [mq, List.getElem?_eq_getElem h]
theorem mq_snoc (q : List (Int × List Int)) (m : Int) (l : List Int) : mq q ++ [(.int .i64 m, I l)] = mq (q ++ [(m, l)]) := by simp [mq]
theorem mq_set (q : List (Int × List Int)) (i : Nat) (m : Int) (l : List Int) : (mq q).set i (.int .i64 m, I l) = mq (q.set i (m, l)) := by simp [mq]
def withM (m : Int) (L : List (List Int)) : List (Int × List Int) := L.map fun l => (m, l)
theorem withM_app (m : Int) (a b : List (List Int)) : withM m (a ++ b) = withM m a ++ withM m b := by simp [withM]
theorem withM_len (m : Int) (a : List (List Int)) : (withM m a).length = a.length := by simp [withM]
/-- All modules of a group with a modulus; the code. -/
def modsR (t : List (List Int)) (m : Int) : List (Int × List Int) := if Grp t ∧ 2 ≤ m ∧ m ≤ 12 then withM m (dfsM t m t.length []) else []
def codeMs (t : List (List Int)) (m : Int) : Int := if Grp t then (if 2 ≤ m ∧ m ≤ 12 then 0 else 2) else 1
theorem dfs_all {t : List (List Int)} {m : Int} (hg : Grp t) (hm : 2 ≤ m ∧ m ≤ 12) : dfsS t m t.length [] = dfsM t m t.length [] :=
  (dfsM_S hg hm t.length [] (by simp) (Fine_nil t m) (fun j hj => by simp at hj) (fun h => by simp at h)).symm
end Go.Proofs.Ytcjhojdlfnpgjaa

namespace Go.Proofs.Ytcjhojdlfnpgjaa
open Go.RowKit
set_option linter.unusedVariables false
set_option linter.unusedSimpArgs false
set_option maxRecDepth 100000

theorem sl2m_ok : Sl2m Try.prog 73 29 := ⟨Try.underlying73, Try.t29, .agg #[.int .i64 0, .slice none 0 0], by kernel_rfl, by kernel_rfl, by kernel_rfl, by kernel_rfl, by decide⟩
theorem l01OwnM_spec (l : List Int) (hl : l.length ≤ 1099511627776) : Spec Try.prog 74 [.rd (I l)] (.own 0) [.row 2 (I l)] := by
  refine Spec.of_codeC T_ok Try.func74 rfl Try.ntmps74 Try.call74 (Nat.le_of_ble_eq_true rfl) rfl rfl (CodeV_sound T_ok (by kernel_rfl) rfl ?_)
  simp only [Try.results74, go_sem, Nat.reduceMul, Nat.reduceLeDiff, Nat.reduceLT, reduceIte, reduceCtorEq, Nat.reduceEqDiff, Nat.reduceSub, Nat.reduceAdd]
  refine HereO.buildRow T_ok 120 (I []) rfl rfl rfl (by decide) rfl (by first | rfl | (simp only [go_sem, Nat.reduceMul, Nat.reduceLeDiff, Nat.reduceLT, reduceIte, reduceCtorEq, Nat.reduceEqDiff, Nat.reduceSub, Nat.reduceAdd] <;> rfl)) rfl (by decide) ?_
  simp only [Try.results74, go_sem, Nat.reduceMul, Nat.reduceLeDiff, Nat.reduceLT, reduceIte, reduceCtorEq, Nat.reduceEqDiff, Nat.reduceSub, Nat.reduceAdd]
  refine HereO.append T_ok (I l) rfl rfl (by decide) (by simp only [go_sem, Nat.reduceMul, Nat.reduceLeDiff, Nat.reduceLT, reduceIte, reduceCtorEq, Nat.reduceEqDiff, Nat.reduceSub, Nat.reduceAdd] <;> rfl) (by decide) (by simp only [go_sem, Nat.reduceMul, Nat.reduceLeDiff, Nat.reduceLT, reduceIte, reduceCtorEq, Nat.reduceEqDiff, Nat.reduceSub, Nat.reduceAdd] <;> rfl) (by simp only [go_sem, Nat.reduceMul, Nat.reduceLeDiff, Nat.reduceLT, reduceIte, reduceCtorEq, Nat.reduceEqDiff, Nat.reduceSub, Nat.reduceAdd] <;> rfl) (.rd _) (I_one _) (by rw [I_len, I_len]; simpa using hl) ?_
  simp only [Try.results74, go_sem, Nat.reduceMul, Nat.reduceLeDiff, Nat.reduceLT, reduceIte, reduceCtorEq, Nat.reduceEqDiff, Nat.reduceSub, Nat.reduceAdd]
  exact RetC.of (RetT.one 120 (by simp only [Try.results74, go_sem, Nat.reduceMul, Nat.reduceLeDiff, Nat.reduceLT, reduceIte, reduceCtorEq, Nat.reduceEqDiff, Nat.reduceSub, Nat.reduceAdd]; rfl) (by simp only [Try.results74, go_sem, Nat.reduceMul, Nat.reduceLeDiff, Nat.reduceLT, reduceIte, reduceCtorEq, Nat.reduceEqDiff, Nat.reduceSub, Nat.reduceAdd] <;> simp [I]) (by simp only [Try.results74, go_sem, Nat.reduceMul, Nat.reduceLeDiff, Nat.reduceLT, reduceIte, reduceCtorEq, Nat.reduceEqDiff, Nat.reduceSub, Nat.reduceAdd] <;> simp [I]))
theorem I_snocB (l : List Int) (u : Int) : I (l ++ [u]) = I l ++ I [u] := by simp [I]
/-- What is looked at for the elements a and b. -/
def FineA (t : List (List Int)) (m : Int) (l : List Int) (a b : Nat) : Prop := ee t a b < l.length → l.getD (ee t a b).toNat 0 = (l.getD a 0 * l.getD b 0).tmod m
def GoS (t : List (List Int)) (m : Int) (k : Nat) : Prop := ∀ (l : List Int) (outs : List (Int × List Int)), l.length + k = t.length → Units m l → outs.length + 12 ^ k ≤ 1099511627776 →
    SpecM Try.prog 77 [.agg [.rds (II t)], .v (.int .i64 m), .rd (I l), .own 0] [.mods 29 2 (mq outs)] (.own 1) [none, some (.mods 29 2 (mq (outs ++ withM m (dfsS t m k l))))]
theorem go_zero (t : List (List Int)) (m : Int) (hg : Grp t) (hm : 2 ≤ m ∧ m ≤ 12) : GoS t m 0 := by
  have h8 := hg.2.1
  intro l outs hl hu ho
  refine SpecM.of_code' T_ok Try.func77 rfl Try.ntmps77 Try.call77 (Nat.le_of_ble_eq_true rfl) (Nat.le_of_ble_eq_true rfl) (Nat.le_of_ble_eq_true rfl) rfl rfl (Here.conv (Conv.moveO 3 50 (by decide) rfl rfl rfl) (CodeV_sound T_ok (by kernel_rfl) rfl ?_))
  simp only [Try.results77, go_sem, Nat.reduceMul, Nat.reduceLeDiff, Nat.reduceLT, reduceIte, reduceCtorEq, Nat.reduceEqDiff, Nat.reduceSub, Nat.reduceAdd]
  refine Here.loopV T_ok (κ := Nat) (fun i => i ≤ l.length ∧ ∀ a, a < i → ∀ b, b < l.length → FineA t m l a b) (fun i => l.length - i) (fun i => [(1, .v (.int .i64 m)), (2, .rd (I l)), (3, .own 50), (4, .box [.rds (II t)]), (9, .v (.int .i64 l.length)), (10, .v (.int .i64 i))]) (fun _ => [(50, .mods 29 2 (mq outs))]) 0 ⟨by omega, fun a ha => absurd ha (by omega)⟩ (by simp only [Try.results77, go_sem, Nat.reduceMul, Nat.reduceLeDiff, Nat.reduceLT, reduceIte, reduceCtorEq, Nat.reduceEqDiff, Nat.reduceSub, Nat.reduceAdd]; simp) (by simp only [Try.results77, go_sem, Nat.reduceMul, Nat.reduceLeDiff, Nat.reduceLT, reduceIte, reduceCtorEq, Nat.reduceEqDiff, Nat.reduceSub, Nat.reduceAdd]) ?_
  rintro a ⟨h1, h2⟩
  simp only [Try.results77, go_sem, Nat.reduceMul, Nat.reduceLeDiff, Nat.reduceLT, reduceIte, reduceCtorEq, Nat.reduceEqDiff, Nat.reduceSub, Nat.reduceAdd]
  refine ⟨fun h3 => ?_, fun h3 => ⟨fun h4 => ?_, fun h4 => ?_⟩⟩
  · refine Here.loopV T_ok (κ := Nat) (fun b => b ≤ l.length ∧ ∀ b', b' < b → FineA t m l a b') (fun b => l.length - b) (fun b => [(1, .v (.int .i64 m)), (2, .rd (I l)), (3, .own 50), (4, .box [.rds (II t)]), (9, .v (.int .i64 l.length)), (10, .v (.int .i64 a)), (11, .v (.int .i64 b))]) (fun _ => [(50, .mods 29 2 (mq outs))]) 0 ⟨by omega, fun b hb => absurd hb (by omega)⟩ (by simp only [Try.results77, go_sem, Nat.reduceMul, Nat.reduceLeDiff, Nat.reduceLT, reduceIte, reduceCtorEq, Nat.reduceEqDiff, Nat.reduceSub, Nat.reduceAdd]; simp) (by simp only [Try.results77, go_sem, Nat.reduceMul, Nat.reduceLeDiff, Nat.reduceLT, reduceIte, reduceCtorEq, Nat.reduceEqDiff, Nat.reduceSub, Nat.reduceAdd]) ?_
    rintro b ⟨h5, h6⟩
    simp only [Try.results77, go_sem, Nat.reduceMul, Nat.reduceLeDiff, Nat.reduceLT, reduceIte, reduceCtorEq, Nat.reduceEqDiff, Nat.reduceSub, Nat.reduceAdd]
    refine ⟨fun h7 => ?_, fun h7 => ⟨by unfold InR; omega, a + 1, ⟨by omega, fun a' ha' => ?_⟩, by omega, by push_cast; rfl⟩⟩
    · have hs := (hg.2.2.1 a (by omega)).2 b (by omega)
      have hsr := (hg.2.2.1 a (by omega)).1
      have hua := hu a (by omega)
      have hub := hu b (by omega)
      have hp0 : 0 ≤ l.getD a 0 * l.getD b 0 := Int.mul_nonneg (by have := hua.1; omega) (by have := hub.1; omega)
      have hp1 : l.getD a 0 * l.getD b 0 ≤ 12 * 12 := Int.mul_le_mul (by have := hua.2.1; omega) (by have := hub.2.1; omega) (by have := hub.1; omega) (by decide)
      have hstep : FineA t m l a b → ∀ b', b' < b + 1 → FineA t m l a b' := fun h b' hb' => by
        by_cases e : b' = b
        · rw [e]; exact h
        · exact h6 b' (by omega)
      unfold ee at hs
      refine ⟨⟨by omega, by omega⟩, ⟨by omega, by omega⟩, ?_⟩
      refine Here.draw T_ok mixed_ok (by kernel_rfl) ?_
      simp only [Try.results77, go_sem, Nat.reduceMul, Nat.reduceLeDiff, Nat.reduceLT, reduceIte, reduceCtorEq, Nat.reduceEqDiff, Nat.reduceSub, Nat.reduceAdd]
      refine ⟨fun h8 => ⟨⟨by omega, by omega⟩, ⟨by omega, by omega⟩, ⟨by omega, by omega⟩, by unfold InR; omega, by omega, fun h9 => ?_, fun h9 => ⟨by unfold InR; omega, b + 1, ⟨by omega, hstep fun _ => h9⟩, by omega, by push_cast; rfl⟩⟩, fun h8 => ⟨by unfold InR; omega, b + 1, ⟨by omega, hstep fun h => absurd h h8⟩, by omega, by push_cast; rfl⟩⟩
      have hno : ¬ Fine t m l := fun q => h9 (q a (by omega) b (by omega) h8)
      refine RetM.one1 50 (by decide) (by simp only [Try.results77, go_sem, Nat.reduceMul, Nat.reduceLeDiff, Nat.reduceLT, reduceIte, reduceCtorEq, Nat.reduceEqDiff, Nat.reduceSub, Nat.reduceAdd]; rfl) rfl ?_
      simp only [Try.results77, go_sem, Nat.reduceMul, Nat.reduceLeDiff, Nat.reduceLT, reduceIte, reduceCtorEq, Nat.reduceEqDiff, Nat.reduceSub, Nat.reduceAdd]
      rw [dfsS_not hno, withM]
      simp
    · by_cases e : a' = a
      · subst e; exact fun b hb => h6 b (by omega)
      · exact h2 a' (by omega)
  · have hf : Fine t m l := fun a' ha' b' hb' => h2 a' (by omega) b' (by omega)
    refine HereO.callOwn T_ok 30 rfl rfl (l01OwnM_spec l (by omega)) (by simp only [go_sem, Nat.reduceMul, Nat.reduceLeDiff, Nat.reduceLT, reduceIte, reduceCtorEq, Nat.reduceEqDiff, Nat.reduceSub, Nat.reduceAdd, List.toList_toArray] <;> first | rfl | exact ⟨rfl, rfl⟩) rfl (by simp) rfl ?_
    simp only [Try.results77, go_sem, Nat.reduceMul, Nat.reduceLeDiff, Nat.reduceLT, reduceIte, reduceCtorEq, Nat.reduceEqDiff, Nat.reduceSub, Nat.reduceAdd]
    refine HereO.opP T_ok (OpP.build built_29 rfl rfl rfl rfl) ?_
    simp only [Try.results77, go_sem, Nat.reduceMul, Nat.reduceLeDiff, Nat.reduceLT, reduceIte, reduceCtorEq, Nat.reduceEqDiff, Nat.reduceSub, Nat.reduceAdd]
    refine HereO.opP T_ok (OpP.buildA sl2_73 ([(.v (.int .i64 m), .own 1480)]) rfl rfl (by decide) (by decide) rfl rfl) ?_
    simp only [Try.results77, go_sem, Nat.reduceMul, Nat.reduceLeDiff, Nat.reduceLT, reduceIte, reduceCtorEq, Nat.reduceEqDiff, Nat.reduceSub, Nat.reduceAdd]
    refine HereO.appendMods T_ok (id := 50) (j := 1480) rfl sl2m_ok (by simp only [go_sem, Nat.reduceMul, Nat.reduceLeDiff, Nat.reduceLT, reduceIte, reduceCtorEq, Nat.reduceEqDiff, Nat.reduceSub, Nat.reduceAdd] <;> rfl) (by decide) (by simp only [go_sem, Nat.reduceMul, Nat.reduceLeDiff, Nat.reduceLT, reduceIte, reduceCtorEq, Nat.reduceEqDiff, Nat.reduceSub, Nat.reduceAdd] <;> rfl) (by simp only [go_sem, Nat.reduceMul, Nat.reduceLeDiff, Nat.reduceLT, reduceIte, reduceCtorEq, Nat.reduceEqDiff, Nat.reduceSub, Nat.reduceAdd] <;> rfl) (by simp only [go_sem, Nat.reduceMul, Nat.reduceLeDiff, Nat.reduceLT, reduceIte, reduceCtorEq, Nat.reduceEqDiff, Nat.reduceSub, Nat.reduceAdd] <;> rfl) (by decide) rfl (by rw [mq_len]; simp at ho; omega) ?_
    simp only [Try.results77, go_sem, Nat.reduceMul, Nat.reduceLeDiff, Nat.reduceLT, reduceIte, reduceCtorEq, Nat.reduceEqDiff, Nat.reduceSub, Nat.reduceAdd]
    refine RetM.one1 50 (by decide) (by simp only [Try.results77, go_sem, Nat.reduceMul, Nat.reduceLeDiff, Nat.reduceLT, reduceIte, reduceCtorEq, Nat.reduceEqDiff, Nat.reduceSub, Nat.reduceAdd]; rfl) rfl ?_
    simp only [Try.results77, go_sem, Nat.reduceMul, Nat.reduceLeDiff, Nat.reduceLT, reduceIte, reduceCtorEq, Nat.reduceEqDiff, Nat.reduceSub, Nat.reduceAdd]
    rw [mq_snoc, dfsS, if_pos hf]
    rfl
  · omega
set_option maxHeartbeats 8000000 in
theorem go_succ (t : List (List Int)) (m : Int) (hg : Grp t) (hm : 2 ≤ m ∧ m ≤ 12) (k : Nat) (ih : GoS t m k) : GoS t m (k + 1) := by
  have h8 := hg.2.1
  intro l outs hl hu ho
  refine SpecM.of_code' T_ok Try.func77 rfl Try.ntmps77 Try.call77 (Nat.le_of_ble_eq_true rfl) (Nat.le_of_ble_eq_true rfl) (Nat.le_of_ble_eq_true rfl) rfl rfl (Here.conv (Conv.moveO 3 50 (by decide) rfl rfl rfl) (CodeV_sound T_ok (by kernel_rfl) rfl ?_))
  simp only [Try.results77, go_sem, Nat.reduceMul, Nat.reduceLeDiff, Nat.reduceLT, reduceIte, reduceCtorEq, Nat.reduceEqDiff, Nat.reduceSub, Nat.reduceAdd]
  refine Here.loopV T_ok (κ := Nat) (fun i => i ≤ l.length ∧ ∀ a, a < i → ∀ b, b < l.length → FineA t m l a b) (fun i => l.length - i) (fun i => [(1, .v (.int .i64 m)), (2, .rd (I l)), (3, .own 50), (4, .box [.rds (II t)]), (9, .v (.int .i64 l.length)), (10, .v (.int .i64 i))]) (fun _ => [(50, .mods 29 2 (mq outs))]) 0 ⟨by omega, fun a ha => absurd ha (by omega)⟩ (by simp only [Try.results77, go_sem, Nat.reduceMul, Nat.reduceLeDiff, Nat.reduceLT, reduceIte, reduceCtorEq, Nat.reduceEqDiff, Nat.reduceSub, Nat.reduceAdd]; simp) (by simp only [Try.results77, go_sem, Nat.reduceMul, Nat.reduceLeDiff, Nat.reduceLT, reduceIte, reduceCtorEq, Nat.reduceEqDiff, Nat.reduceSub, Nat.reduceAdd]) ?_
  rintro a ⟨h1, h2⟩
  simp only [Try.results77, go_sem, Nat.reduceMul, Nat.reduceLeDiff, Nat.reduceLT, reduceIte, reduceCtorEq, Nat.reduceEqDiff, Nat.reduceSub, Nat.reduceAdd]
  refine ⟨fun h3 => ?_, fun h3 => ⟨fun h4 => ?_, fun h4 => ?_⟩⟩
  · refine Here.loopV T_ok (κ := Nat) (fun b => b ≤ l.length ∧ ∀ b', b' < b → FineA t m l a b') (fun b => l.length - b) (fun b => [(1, .v (.int .i64 m)), (2, .rd (I l)), (3, .own 50), (4, .box [.rds (II t)]), (9, .v (.int .i64 l.length)), (10, .v (.int .i64 a)), (11, .v (.int .i64 b))]) (fun _ => [(50, .mods 29 2 (mq outs))]) 0 ⟨by omega, fun b hb => absurd hb (by omega)⟩ (by simp only [Try.results77, go_sem, Nat.reduceMul, Nat.reduceLeDiff, Nat.reduceLT, reduceIte, reduceCtorEq, Nat.reduceEqDiff, Nat.reduceSub, Nat.reduceAdd]; simp) (by simp only [Try.results77, go_sem, Nat.reduceMul, Nat.reduceLeDiff, Nat.reduceLT, reduceIte, reduceCtorEq, Nat.reduceEqDiff, Nat.reduceSub, Nat.reduceAdd]) ?_
    rintro b ⟨h5, h6⟩
    simp only [Try.results77, go_sem, Nat.reduceMul, Nat.reduceLeDiff, Nat.reduceLT, reduceIte, reduceCtorEq, Nat.reduceEqDiff, Nat.reduceSub, Nat.reduceAdd]
    refine ⟨fun h7 => ?_, fun h7 => ⟨by unfold InR; omega, a + 1, ⟨by omega, fun a' ha' => ?_⟩, by omega, by push_cast; rfl⟩⟩
    · have hs := (hg.2.2.1 a (by omega)).2 b (by omega)
      have hsr := (hg.2.2.1 a (by omega)).1
      have hua := hu a (by omega)
      have hub := hu b (by omega)
      have hp0 : 0 ≤ l.getD a 0 * l.getD b 0 := Int.mul_nonneg (by have := hua.1; omega) (by have := hub.1; omega)
      have hp1 : l.getD a 0 * l.getD b 0 ≤ 12 * 12 := Int.mul_le_mul (by have := hua.2.1; omega) (by have := hub.2.1; omega) (by have := hub.1; omega) (by decide)
      have hstep : FineA t m l a b → ∀ b', b' < b + 1 → FineA t m l a b' := fun h b' hb' => by
        by_cases e : b' = b
        · rw [e]; exact h
        · exact h6 b' (by omega)
      unfold ee at hs
      refine ⟨⟨by omega, by omega⟩, ⟨by omega, by omega⟩, ?_⟩
      refine Here.draw T_ok mixed_ok (by kernel_rfl) ?_
      simp only [Try.results77, go_sem, Nat.reduceMul, Nat.reduceLeDiff, Nat.reduceLT, reduceIte, reduceCtorEq, Nat.reduceEqDiff, Nat.reduceSub, Nat.reduceAdd]
      refine ⟨fun h8 => ⟨⟨by omega, by omega⟩, ⟨by omega, by omega⟩, ⟨by omega, by omega⟩, by unfold InR; omega, by omega, fun h9 => ?_, fun h9 => ⟨by unfold InR; omega, b + 1, ⟨by omega, hstep fun _ => h9⟩, by omega, by push_cast; rfl⟩⟩, fun h8 => ⟨by unfold InR; omega, b + 1, ⟨by omega, hstep fun h => absurd h h8⟩, by omega, by push_cast; rfl⟩⟩
      have hno : ¬ Fine t m l := fun q => h9 (q a (by omega) b (by omega) h8)
      refine RetM.one1 50 (by decide) (by simp only [Try.results77, go_sem, Nat.reduceMul, Nat.reduceLeDiff, Nat.reduceLT, reduceIte, reduceCtorEq, Nat.reduceEqDiff, Nat.reduceSub, Nat.reduceAdd]; rfl) rfl ?_
      simp only [Try.results77, go_sem, Nat.reduceMul, Nat.reduceLeDiff, Nat.reduceLT, reduceIte, reduceCtorEq, Nat.reduceEqDiff, Nat.reduceSub, Nat.reduceAdd]
      rw [dfsS_not hno, withM]
      simp
    · by_cases e : a' = a
      · subst e; exact fun b hb => h6 b (by omega)
      · exact h2 a' (by omega)
  · omega
  · have hf : Fine t m l := fun a' ha' b' hb' => h2 a' (by omega) b' (by omega)
    have hlen : l.length < t.length := by omega
    refine Here.loopV T_ok (κ := Nat × Bool) (fun g => 1 ≤ g.1 ∧ g.1 ≤ m.toNat) (fun g => m.toNat - g.1) (fun g => [(1, .v (.int .i64 m)), (2, .rd (I l)), (3, .own (cond g.2 51 50)), (4, .box [.rds (II t)]), (9, .v (.int .i64 l.length)), (13, .v (.int .i64 g.1))]) (fun g => [(cond g.2 51 50, .mods 29 2 (mq (outs ++ withM m ((List.range g.1).flatMap fun (u : Nat) => if UnitS m l u then dfsS t m k (l ++ [(u : Int)]) else []))))]) (1, false) ⟨by simp, by dsimp only; omega⟩ (by simp only [Try.results77, go_sem, Nat.reduceMul, Nat.reduceLeDiff, Nat.reduceLT, reduceIte, reduceCtorEq, Nat.reduceEqDiff, Nat.reduceSub, Nat.reduceAdd]; simp) (by simp only [Try.results77, go_sem, Nat.reduceMul, Nat.reduceLeDiff, Nat.reduceLT, reduceIte, reduceCtorEq, Nat.reduceEqDiff, Nat.reduceSub, Nat.reduceAdd]; simp [UnitS, withM]) ?_
    rintro ⟨u, b⟩ ⟨h5, h6⟩
    dsimp only at h5 h6
    have hdl : ∀ i : Nat, ((List.range i).flatMap fun (u : Nat) => if UnitS m l u then dfsS t m k (l ++ [(u : Int)]) else []).length ≤ i * 12 ^ k := fun i => rangeFlat_len (fun a => by
      split
      · exact dfsS_len hm.2 k _
      · simp) i
    have hd := hdl u
    have hpw3 : (u + 1) * 12 ^ k = u * 12 ^ k + 12 ^ k := Nat.succ_mul _ _
    have hpw4 : 12 ^ (k + 1) = 12 ^ k * 12 := Nat.pow_succ ..
    cases b <;> dsimp only [cond]
    all_goals simp only [Try.results77, go_sem, Nat.reduceMul, Nat.reduceLeDiff, Nat.reduceLT, reduceIte, reduceCtorEq, Nat.reduceEqDiff, Nat.reduceSub, Nat.reduceAdd]
    · refine ⟨fun h7 => ?_, fun h7 => ?_⟩
      · have hpw2 : (u + 1) * 12 ^ k ≤ 12 * 12 ^ k := Nat.mul_le_mul_right _ (by omega)
        refine HereO.call T_ok rfl rfl (l01Gcd_spec' u m ⟨by omega, by omega⟩ ⟨by omega, by omega⟩) (by simp only [go_sem, Nat.reduceMul, Nat.reduceLeDiff, Nat.reduceLT, reduceIte, reduceCtorEq, Nat.reduceEqDiff, Nat.reduceSub, Nat.reduceAdd, List.toList_toArray] <;> first | rfl | exact ⟨rfl, rfl⟩) rfl ?_
        simp only [Try.results77, go_sem, Nat.reduceMul, Nat.reduceLeDiff, Nat.reduceLT, reduceIte, reduceCtorEq, Nat.reduceEqDiff, Nat.reduceSub, Nat.reduceAdd]
        have hskip : ¬ UnitS m l u → (outs ++ withM m ((List.range u).flatMap fun (u : Nat) => if UnitS m l u then dfsS t m k (l ++ [(u : Int)]) else [])) = (outs ++ withM m ((List.range (u + 1)).flatMap fun (u : Nat) => if UnitS m l u then dfsS t m k (l ++ [(u : Int)]) else [])) := fun h => by rw [rangeFlat_succ, if_neg h, List.append_nil]
        have hstep : UnitS m l u → mq ((outs ++ withM m ((List.range u).flatMap fun (u : Nat) => if UnitS m l u then dfsS t m k (l ++ [(u : Int)]) else [])) ++ withM m (dfsS t m k (l ++ [(u : Int)]))) = mq (outs ++ withM m ((List.range (u + 1)).flatMap fun (u : Nat) => if UnitS m l u then dfsS t m k (l ++ [(u : Int)]) else [])) := fun h => by rw [rangeFlat_succ, if_pos h, withM_app, List.append_assoc]
        refine ⟨fun h8 => ⟨fun h9 => ⟨fun h10 => ?_, fun h10 => ⟨by unfold InR; omega, (u + 1, false), ⟨by dsimp only; omega, by dsimp only; omega⟩, by dsimp only; omega, ⟨rfl, by push_cast; rfl⟩, by dsimp only; rw [if_pos rfl, hskip fun q => h10 (by have := q.2.2.resolve_left (by omega); omega)]⟩⟩, fun h9 => ?_⟩, fun h8 => ⟨by unfold InR; omega, (u + 1, false), ⟨by dsimp only; omega, by dsimp only; omega⟩, by dsimp only; omega, ⟨rfl, by push_cast; rfl⟩, by dsimp only; rw [if_pos rfl, hskip fun q => h8 (by have := q.2.1; omega)]⟩⟩
        · skip
          have hU : UnitS m l u := ⟨by omega, by omega, .inr (by omega)⟩
          have hU1 : Unit1 m u := ⟨by omega, h7, by simpa using hU.2.1⟩
          have hc := ih (l ++ [(u : Int)]) (outs ++ withM m ((List.range u).flatMap fun (u : Nat) => if UnitS m l u then dfsS t m k (l ++ [(u : Int)]) else [])) (by simp; omega) (hu.snoc hU1) (by rw [List.length_append, withM_len]; omega)
          rw [I_snocB] at hc
          refine Here.drawC T_ok [.f, .f, .f, .c, .f, .f, .c, .f, .c, .p] [1, 2, 3, 4, 13] [1480, 1481, 1482, 1483, 1484, 1485, 1486, 1487, 1488, 1489, 1490, 1491, 1492, 1493, 1494, 1495, 1496, 1497, 1498, 1499, 1500, 1501, 1502, 1503, 1504, 1505, 1506, 1507, 1508, 1509, 1510, 1511, 51] [] (Nat.le_of_ble_eq_true rfl) mixed_ok (by kernel_rfl) (by kernel_rfl) (by kernel_rfl) (by simp only [List.mem_cons, List.not_mem_nil, or_false, forall_eq_or_imp, forall_eq, go_sem, Nat.reduceMul, Nat.reduceLeDiff, Nat.reduceLT, reduceIte, reduceCtorEq, Nat.reduceEqDiff, Nat.reduceSub, Nat.reduceAdd] <;> first | exact calm_ptr_ne rfl | exact calm_ne rfl | exact ⟨calm_ptr_ne rfl, calm_ptr_ne rfl⟩ | exact ⟨calm_ptr_ne rfl, calm_ptr_ne rfl, calm_ptr_ne rfl⟩ | exact ⟨calm_ptr_ne rfl, calm_knot (by simp only [go_sem, Nat.reduceMul, Nat.reduceLeDiff, Nat.reduceLT, reduceIte, reduceCtorEq, Nat.reduceEqDiff, Nat.reduceSub, Nat.reduceAdd] <;> exact calm_ptr_ne rfl)⟩ | ((repeat' apply And.intro) <;> first | exact calm_ptr_ne rfl | exact calm_ne rfl)) ?_
          simp only [Try.results77, go_sem, Nat.reduceMul, Nat.reduceLeDiff, Nat.reduceLT, reduceIte, reduceCtorEq, Nat.reduceEqDiff, Nat.reduceSub, Nat.reduceAdd]
          refine HereC.callOwn 30 rfl rfl (l01OwnM_spec l (by omega)) (by simp only [go_sem, Nat.reduceMul, Nat.reduceLeDiff, Nat.reduceLT, reduceIte, reduceCtorEq, Nat.reduceEqDiff, Nat.reduceSub, Nat.reduceAdd, List.toList_toArray] <;> first | rfl | exact ⟨rfl, rfl⟩) rfl (by simp) rfl (inK_shift (by decide)) (by first | exact keeps_nil _ _ | (simp only [keeps_cons, keeps_nil', go_sem, Nat.reduceMul, Nat.reduceLeDiff, Nat.reduceLT, reduceIte, reduceCtorEq, Nat.reduceEqDiff, Nat.reduceSub, Nat.reduceAdd] <;> rfl)) ?_
          simp only [Try.results77, go_sem, Nat.reduceMul, Nat.reduceLeDiff, Nat.reduceLT, reduceIte, reduceCtorEq, Nat.reduceEqDiff, Nat.reduceSub, Nat.reduceAdd]
          refine ⟨_, fun _ _ => OpP.buildRd T_ok [.int .i64 u] rfl rfl rfl (by decide) rfl (by simp only [go_sem, Nat.reduceMul, Nat.reduceLeDiff, Nat.reduceLT, reduceIte, reduceCtorEq, Nat.reduceEqDiff, Nat.reduceSub, Nat.reduceAdd] <;> rfl) rfl, (by simp only [go_sem, Nat.reduceMul, Nat.reduceLeDiff, Nat.reduceLT, reduceIte, reduceCtorEq, Nat.reduceEqDiff, Nat.reduceSub, Nat.reduceAdd]), ?_⟩
          simp only [Try.results77, go_sem, Nat.reduceMul, Nat.reduceLeDiff, Nat.reduceLT, reduceIte, reduceCtorEq, Nat.reduceEqDiff, Nat.reduceSub, Nat.reduceAdd]
          refine HereC.append T_ok (I [(u : Int)]) rfl rfl (by decide) (by simp only [go_sem, Nat.reduceMul, Nat.reduceLeDiff, Nat.reduceLT, reduceIte, reduceCtorEq, Nat.reduceEqDiff, Nat.reduceSub, Nat.reduceAdd] <;> rfl) (by decide) (by simp only [go_sem, Nat.reduceMul, Nat.reduceLeDiff, Nat.reduceLT, reduceIte, reduceCtorEq, Nat.reduceEqDiff, Nat.reduceSub, Nat.reduceAdd] <;> rfl) (by simp only [go_sem, Nat.reduceMul, Nat.reduceLeDiff, Nat.reduceLT, reduceIte, reduceCtorEq, Nat.reduceEqDiff, Nat.reduceSub, Nat.reduceAdd] <;> rfl) (I_one _) (by rw [I_len, I_len]; simp; omega) rfl (keeps_nil _ _) ?_
          simp only [Try.results77, go_sem, Nat.reduceMul, Nat.reduceLeDiff, Nat.reduceLT, reduceIte, reduceCtorEq, Nat.reduceEqDiff, Nat.reduceSub, Nat.reduceAdd]
          refine ⟨calm_ne rfl, ?_⟩
          refine HereC.callMM 31 [50] 51 (by decide) rfl (by simp only [go_sem, Nat.reduceMul, Nat.reduceLeDiff, Nat.reduceLT, reduceIte, reduceCtorEq, Nat.reduceEqDiff, Nat.reduceSub, Nat.reduceAdd] <;> rfl) hc (by simp only [go_sem, Nat.reduceMul, Nat.reduceLeDiff, Nat.reduceLT, reduceIte, reduceCtorEq, Nat.reduceEqDiff, Nat.reduceSub, Nat.reduceAdd, List.toList_toArray, ↓reduceIte]) rfl (by decide) (by decide) rfl rfl rfl (Nat.le_of_ble_eq_true rfl) rfl rfl rfl (inK_mm rfl rfl rfl) (keeps_nil _ _) ?_
          simp only [Try.results77, go_sem, Nat.reduceMul, Nat.reduceLeDiff, Nat.reduceLT, reduceIte, reduceCtorEq, Nat.reduceEqDiff, Nat.reduceSub, Nat.reduceAdd]
          exact ⟨by unfold InR; omega, (u + 1, true), ⟨by dsimp only; omega, by dsimp only; omega⟩, by dsimp only; omega, ⟨rfl, by push_cast; rfl⟩, by dsimp only; rw [if_pos rfl, hstep hU]⟩
        · skip
          have hU : UnitS m l u := ⟨by omega, by omega, .inl (by omega)⟩
          have hU1 : Unit1 m u := ⟨by omega, h7, by simpa using hU.2.1⟩
          have hc := ih (l ++ [(u : Int)]) (outs ++ withM m ((List.range u).flatMap fun (u : Nat) => if UnitS m l u then dfsS t m k (l ++ [(u : Int)]) else [])) (by simp; omega) (hu.snoc hU1) (by rw [List.length_append, withM_len]; omega)
          rw [I_snocB] at hc
          refine Here.drawC T_ok [.f, .f, .f, .c, .f, .f, .c, .f, .c, .p] [1, 2, 3, 4, 13] [1480, 1481, 1482, 1483, 1484, 1485, 1486, 1487, 1488, 1489, 1490, 1491, 1492, 1493, 1494, 1495, 1496, 1497, 1498, 1499, 1500, 1501, 1502, 1503, 1504, 1505, 1506, 1507, 1508, 1509, 1510, 1511, 51] [] (Nat.le_of_ble_eq_true rfl) mixed_ok (by kernel_rfl) (by kernel_rfl) (by kernel_rfl) (by simp only [List.mem_cons, List.not_mem_nil, or_false, forall_eq_or_imp, forall_eq, go_sem, Nat.reduceMul, Nat.reduceLeDiff, Nat.reduceLT, reduceIte, reduceCtorEq, Nat.reduceEqDiff, Nat.reduceSub, Nat.reduceAdd] <;> first | exact calm_ptr_ne rfl | exact calm_ne rfl | exact ⟨calm_ptr_ne rfl, calm_ptr_ne rfl⟩ | exact ⟨calm_ptr_ne rfl, calm_ptr_ne rfl, calm_ptr_ne rfl⟩ | exact ⟨calm_ptr_ne rfl, calm_knot (by simp only [go_sem, Nat.reduceMul, Nat.reduceLeDiff, Nat.reduceLT, reduceIte, reduceCtorEq, Nat.reduceEqDiff, Nat.reduceSub, Nat.reduceAdd] <;> exact calm_ptr_ne rfl)⟩ | ((repeat' apply And.intro) <;> first | exact calm_ptr_ne rfl | exact calm_ne rfl)) ?_
          simp only [Try.results77, go_sem, Nat.reduceMul, Nat.reduceLeDiff, Nat.reduceLT, reduceIte, reduceCtorEq, Nat.reduceEqDiff, Nat.reduceSub, Nat.reduceAdd]
          refine HereC.callOwn 30 rfl rfl (l01OwnM_spec l (by omega)) (by simp only [go_sem, Nat.reduceMul, Nat.reduceLeDiff, Nat.reduceLT, reduceIte, reduceCtorEq, Nat.reduceEqDiff, Nat.reduceSub, Nat.reduceAdd, List.toList_toArray] <;> first | rfl | exact ⟨rfl, rfl⟩) rfl (by simp) rfl (inK_shift (by decide)) (by first | exact keeps_nil _ _ | (simp only [keeps_cons, keeps_nil', go_sem, Nat.reduceMul, Nat.reduceLeDiff, Nat.reduceLT, reduceIte, reduceCtorEq, Nat.reduceEqDiff, Nat.reduceSub, Nat.reduceAdd] <;> rfl)) ?_
          simp only [Try.results77, go_sem, Nat.reduceMul, Nat.reduceLeDiff, Nat.reduceLT, reduceIte, reduceCtorEq, Nat.reduceEqDiff, Nat.reduceSub, Nat.reduceAdd]
          refine ⟨_, fun _ _ => OpP.buildRd T_ok [.int .i64 u] rfl rfl rfl (by decide) rfl (by simp only [go_sem, Nat.reduceMul, Nat.reduceLeDiff, Nat.reduceLT, reduceIte, reduceCtorEq, Nat.reduceEqDiff, Nat.reduceSub, Nat.reduceAdd] <;> rfl) rfl, (by simp only [go_sem, Nat.reduceMul, Nat.reduceLeDiff, Nat.reduceLT, reduceIte, reduceCtorEq, Nat.reduceEqDiff, Nat.reduceSub, Nat.reduceAdd]), ?_⟩
          simp only [Try.results77, go_sem, Nat.reduceMul, Nat.reduceLeDiff, Nat.reduceLT, reduceIte, reduceCtorEq, Nat.reduceEqDiff, Nat.reduceSub, Nat.reduceAdd]
          refine HereC.append T_ok (I [(u : Int)]) rfl rfl (by decide) (by simp only [go_sem, Nat.reduceMul, Nat.reduceLeDiff, Nat.reduceLT, reduceIte, reduceCtorEq, Nat.reduceEqDiff, Nat.reduceSub, Nat.reduceAdd] <;> rfl) (by decide) (by simp only [go_sem, Nat.reduceMul, Nat.reduceLeDiff, Nat.reduceLT, reduceIte, reduceCtorEq, Nat.reduceEqDiff, Nat.reduceSub, Nat.reduceAdd] <;> rfl) (by simp only [go_sem, Nat.reduceMul, Nat.reduceLeDiff, Nat.reduceLT, reduceIte, reduceCtorEq, Nat.reduceEqDiff, Nat.reduceSub, Nat.reduceAdd] <;> rfl) (I_one _) (by rw [I_len, I_len]; simp; omega) rfl (keeps_nil _ _) ?_
          simp only [Try.results77, go_sem, Nat.reduceMul, Nat.reduceLeDiff, Nat.reduceLT, reduceIte, reduceCtorEq, Nat.reduceEqDiff, Nat.reduceSub, Nat.reduceAdd]
          refine ⟨calm_ne rfl, ?_⟩
          refine HereC.callMM 31 [50] 51 (by decide) rfl (by simp only [go_sem, Nat.reduceMul, Nat.reduceLeDiff, Nat.reduceLT, reduceIte, reduceCtorEq, Nat.reduceEqDiff, Nat.reduceSub, Nat.reduceAdd] <;> rfl) hc (by simp only [go_sem, Nat.reduceMul, Nat.reduceLeDiff, Nat.reduceLT, reduceIte, reduceCtorEq, Nat.reduceEqDiff, Nat.reduceSub, Nat.reduceAdd, List.toList_toArray, ↓reduceIte]) rfl (by decide) (by decide) rfl rfl rfl (Nat.le_of_ble_eq_true rfl) rfl rfl rfl (inK_mm rfl rfl rfl) (keeps_nil _ _) ?_
          simp only [Try.results77, go_sem, Nat.reduceMul, Nat.reduceLeDiff, Nat.reduceLT, reduceIte, reduceCtorEq, Nat.reduceEqDiff, Nat.reduceSub, Nat.reduceAdd]
          exact ⟨by unfold InR; omega, (u + 1, true), ⟨by dsimp only; omega, by dsimp only; omega⟩, by dsimp only; omega, ⟨rfl, by push_cast; rfl⟩, by dsimp only; rw [if_pos rfl, hstep hU]⟩
      · obtain rfl : u = m.toNat := by omega
        refine RetM.one1 50 (by decide) (by simp only [Try.results77, go_sem, Nat.reduceMul, Nat.reduceLeDiff, Nat.reduceLT, reduceIte, reduceCtorEq, Nat.reduceEqDiff, Nat.reduceSub, Nat.reduceAdd]; rfl) rfl ?_
        simp only [Try.results77, go_sem, Nat.reduceMul, Nat.reduceLeDiff, Nat.reduceLT, reduceIte, reduceCtorEq, Nat.reduceEqDiff, Nat.reduceSub, Nat.reduceAdd]
        rw [dfsS, if_pos hf]
    · refine ⟨fun h7 => ?_, fun h7 => ?_⟩
      · have hpw2 : (u + 1) * 12 ^ k ≤ 12 * 12 ^ k := Nat.mul_le_mul_right _ (by omega)
        refine HereO.call T_ok rfl rfl (l01Gcd_spec' u m ⟨by omega, by omega⟩ ⟨by omega, by omega⟩) (by simp only [go_sem, Nat.reduceMul, Nat.reduceLeDiff, Nat.reduceLT, reduceIte, reduceCtorEq, Nat.reduceEqDiff, Nat.reduceSub, Nat.reduceAdd, List.toList_toArray] <;> first | rfl | exact ⟨rfl, rfl⟩) rfl ?_
        simp only [Try.results77, go_sem, Nat.reduceMul, Nat.reduceLeDiff, Nat.reduceLT, reduceIte, reduceCtorEq, Nat.reduceEqDiff, Nat.reduceSub, Nat.reduceAdd]
        have hskip : ¬ UnitS m l u → (outs ++ withM m ((List.range u).flatMap fun (u : Nat) => if UnitS m l u then dfsS t m k (l ++ [(u : Int)]) else [])) = (outs ++ withM m ((List.range (u + 1)).flatMap fun (u : Nat) => if UnitS m l u then dfsS t m k (l ++ [(u : Int)]) else [])) := fun h => by rw [rangeFlat_succ, if_neg h, List.append_nil]
        have hstep : UnitS m l u → mq ((outs ++ withM m ((List.range u).flatMap fun (u : Nat) => if UnitS m l u then dfsS t m k (l ++ [(u : Int)]) else [])) ++ withM m (dfsS t m k (l ++ [(u : Int)]))) = mq (outs ++ withM m ((List.range (u + 1)).flatMap fun (u : Nat) => if UnitS m l u then dfsS t m k (l ++ [(u : Int)]) else [])) := fun h => by rw [rangeFlat_succ, if_pos h, withM_app, List.append_assoc]
        refine ⟨fun h8 => ⟨fun h9 => ⟨fun h10 => ?_, fun h10 => ⟨by unfold InR; omega, (u + 1, true), ⟨by dsimp only; omega, by dsimp only; omega⟩, by dsimp only; omega, ⟨rfl, by push_cast; rfl⟩, by dsimp only; rw [if_pos rfl, hskip fun q => h10 (by have := q.2.2.resolve_left (by omega); omega)]⟩⟩, fun h9 => ?_⟩, fun h8 => ⟨by unfold InR; omega, (u + 1, true), ⟨by dsimp only; omega, by dsimp only; omega⟩, by dsimp only; omega, ⟨rfl, by push_cast; rfl⟩, by dsimp only; rw [if_pos rfl, hskip fun q => h8 (by have := q.2.1; omega)]⟩⟩
        · skip
          have hU : UnitS m l u := ⟨by omega, by omega, .inr (by omega)⟩
          have hU1 : Unit1 m u := ⟨by omega, h7, by simpa using hU.2.1⟩
          have hc := ih (l ++ [(u : Int)]) (outs ++ withM m ((List.range u).flatMap fun (u : Nat) => if UnitS m l u then dfsS t m k (l ++ [(u : Int)]) else [])) (by simp; omega) (hu.snoc hU1) (by rw [List.length_append, withM_len]; omega)
          rw [I_snocB] at hc
          refine Here.drawC T_ok [.f, .f, .f, .c, .f, .f, .c, .f, .c, .p] [1, 2, 3, 4, 13] [1480, 1481, 1482, 1483, 1484, 1485, 1486, 1487, 1488, 1489, 1490, 1491, 1492, 1493, 1494, 1495, 1496, 1497, 1498, 1499, 1500, 1501, 1502, 1503, 1504, 1505, 1506, 1507, 1508, 1509, 1510, 1511, 50] [] (Nat.le_of_ble_eq_true rfl) mixed_ok (by kernel_rfl) (by kernel_rfl) (by kernel_rfl) (by simp only [List.mem_cons, List.not_mem_nil, or_false, forall_eq_or_imp, forall_eq, go_sem, Nat.reduceMul, Nat.reduceLeDiff, Nat.reduceLT, reduceIte, reduceCtorEq, Nat.reduceEqDiff, Nat.reduceSub, Nat.reduceAdd] <;> first | exact calm_ptr_ne rfl | exact calm_ne rfl | exact ⟨calm_ptr_ne rfl, calm_ptr_ne rfl⟩ | exact ⟨calm_ptr_ne rfl, calm_ptr_ne rfl, calm_ptr_ne rfl⟩ | exact ⟨calm_ptr_ne rfl, calm_knot (by simp only [go_sem, Nat.reduceMul, Nat.reduceLeDiff, Nat.reduceLT, reduceIte, reduceCtorEq, Nat.reduceEqDiff, Nat.reduceSub, Nat.reduceAdd] <;> exact calm_ptr_ne rfl)⟩ | ((repeat' apply And.intro) <;> first | exact calm_ptr_ne rfl | exact calm_ne rfl)) ?_
          simp only [Try.results77, go_sem, Nat.reduceMul, Nat.reduceLeDiff, Nat.reduceLT, reduceIte, reduceCtorEq, Nat.reduceEqDiff, Nat.reduceSub, Nat.reduceAdd]
          refine HereC.callOwn 30 rfl rfl (l01OwnM_spec l (by omega)) (by simp only [go_sem, Nat.reduceMul, Nat.reduceLeDiff, Nat.reduceLT, reduceIte, reduceCtorEq, Nat.reduceEqDiff, Nat.reduceSub, Nat.reduceAdd, List.toList_toArray] <;> first | rfl | exact ⟨rfl, rfl⟩) rfl (by simp) rfl (inK_shift (by decide)) (by first | exact keeps_nil _ _ | (simp only [keeps_cons, keeps_nil', go_sem, Nat.reduceMul, Nat.reduceLeDiff, Nat.reduceLT, reduceIte, reduceCtorEq, Nat.reduceEqDiff, Nat.reduceSub, Nat.reduceAdd] <;> rfl)) ?_
          simp only [Try.results77, go_sem, Nat.reduceMul, Nat.reduceLeDiff, Nat.reduceLT, reduceIte, reduceCtorEq, Nat.reduceEqDiff, Nat.reduceSub, Nat.reduceAdd]
          refine ⟨_, fun _ _ => OpP.buildRd T_ok [.int .i64 u] rfl rfl rfl (by decide) rfl (by simp only [go_sem, Nat.reduceMul, Nat.reduceLeDiff, Nat.reduceLT, reduceIte, reduceCtorEq, Nat.reduceEqDiff, Nat.reduceSub, Nat.reduceAdd] <;> rfl) rfl, (by simp only [go_sem, Nat.reduceMul, Nat.reduceLeDiff, Nat.reduceLT, reduceIte, reduceCtorEq, Nat.reduceEqDiff, Nat.reduceSub, Nat.reduceAdd]), ?_⟩
          simp only [Try.results77, go_sem, Nat.reduceMul, Nat.reduceLeDiff, Nat.reduceLT, reduceIte, reduceCtorEq, Nat.reduceEqDiff, Nat.reduceSub, Nat.reduceAdd]
          refine HereC.append T_ok (I [(u : Int)]) rfl rfl (by decide) (by simp only [go_sem, Nat.reduceMul, Nat.reduceLeDiff, Nat.reduceLT, reduceIte, reduceCtorEq, Nat.reduceEqDiff, Nat.reduceSub, Nat.reduceAdd] <;> rfl) (by decide) (by simp only [go_sem, Nat.reduceMul, Nat.reduceLeDiff, Nat.reduceLT, reduceIte, reduceCtorEq, Nat.reduceEqDiff, Nat.reduceSub, Nat.reduceAdd] <;> rfl) (by simp only [go_sem, Nat.reduceMul, Nat.reduceLeDiff, Nat.reduceLT, reduceIte, reduceCtorEq, Nat.reduceEqDiff, Nat.reduceSub, Nat.reduceAdd] <;> rfl) (I_one _) (by rw [I_len, I_len]; simp; omega) rfl (keeps_nil _ _) ?_
          simp only [Try.results77, go_sem, Nat.reduceMul, Nat.reduceLeDiff, Nat.reduceLT, reduceIte, reduceCtorEq, Nat.reduceEqDiff, Nat.reduceSub, Nat.reduceAdd]
          refine ⟨calm_ne rfl, ?_⟩
          refine HereC.callMM 31 [51] 50 (by decide) rfl (by simp only [go_sem, Nat.reduceMul, Nat.reduceLeDiff, Nat.reduceLT, reduceIte, reduceCtorEq, Nat.reduceEqDiff, Nat.reduceSub, Nat.reduceAdd] <;> rfl) hc (by simp only [go_sem, Nat.reduceMul, Nat.reduceLeDiff, Nat.reduceLT, reduceIte, reduceCtorEq, Nat.reduceEqDiff, Nat.reduceSub, Nat.reduceAdd, List.toList_toArray, ↓reduceIte]) rfl (by decide) (by decide) rfl rfl rfl (Nat.le_of_ble_eq_true rfl) rfl rfl rfl (inK_mm rfl rfl rfl) (keeps_nil _ _) ?_
          simp only [Try.results77, go_sem, Nat.reduceMul, Nat.reduceLeDiff, Nat.reduceLT, reduceIte, reduceCtorEq, Nat.reduceEqDiff, Nat.reduceSub, Nat.reduceAdd]
          exact ⟨by unfold InR; omega, (u + 1, false), ⟨by dsimp only; omega, by dsimp only; omega⟩, by dsimp only; omega, ⟨rfl, by push_cast; rfl⟩, by dsimp only; rw [if_pos rfl, hstep hU]⟩
        · skip
          have hU : UnitS m l u := ⟨by omega, by omega, .inl (by omega)⟩
          have hU1 : Unit1 m u := ⟨by omega, h7, by simpa using hU.2.1⟩
          have hc := ih (l ++ [(u : Int)]) (outs ++ withM m ((List.range u).flatMap fun (u : Nat) => if UnitS m l u then dfsS t m k (l ++ [(u : Int)]) else [])) (by simp; omega) (hu.snoc hU1) (by rw [List.length_append, withM_len]; omega)
          rw [I_snocB] at hc
          refine Here.drawC T_ok [.f, .f, .f, .c, .f, .f, .c, .f, .c, .p] [1, 2, 3, 4, 13] [1480, 1481, 1482, 1483, 1484, 1485, 1486, 1487, 1488, 1489, 1490, 1491, 1492, 1493, 1494, 1495, 1496, 1497, 1498, 1499, 1500, 1501, 1502, 1503, 1504, 1505, 1506, 1507, 1508, 1509, 1510, 1511, 50] [] (Nat.le_of_ble_eq_true rfl) mixed_ok (by kernel_rfl) (by kernel_rfl) (by kernel_rfl) (by simp only [List.mem_cons, List.not_mem_nil, or_false, forall_eq_or_imp, forall_eq, go_sem, Nat.reduceMul, Nat.reduceLeDiff, Nat.reduceLT, reduceIte, reduceCtorEq, Nat.reduceEqDiff, Nat.reduceSub, Nat.reduceAdd] <;> first | exact calm_ptr_ne rfl | exact calm_ne rfl | exact ⟨calm_ptr_ne rfl, calm_ptr_ne rfl⟩ | exact ⟨calm_ptr_ne rfl, calm_ptr_ne rfl, calm_ptr_ne rfl⟩ | exact ⟨calm_ptr_ne rfl, calm_knot (by simp only [go_sem, Nat.reduceMul, Nat.reduceLeDiff, Nat.reduceLT, reduceIte, reduceCtorEq, Nat.reduceEqDiff, Nat.reduceSub, Nat.reduceAdd] <;> exact calm_ptr_ne rfl)⟩ | ((repeat' apply And.intro) <;> first | exact calm_ptr_ne rfl | exact calm_ne rfl)) ?_
          simp only [Try.results77, go_sem, Nat.reduceMul, Nat.reduceLeDiff, Nat.reduceLT, reduceIte, reduceCtorEq, Nat.reduceEqDiff, Nat.reduceSub, Nat.reduceAdd]
          refine HereC.callOwn 30 rfl rfl (l01OwnM_spec l (by omega)) (by simp only [go_sem, Nat.reduceMul, Nat.reduceLeDiff, Nat.reduceLT, reduceIte, reduceCtorEq, Nat.reduceEqDiff, Nat.reduceSub, Nat.reduceAdd, List.toList_toArray] <;> first | rfl | exact ⟨rfl, rfl⟩) rfl (by simp) rfl (inK_shift (by decide)) (by first | exact keeps_nil _ _ | (simp only [keeps_cons, keeps_nil', go_sem, Nat.reduceMul, Nat.reduceLeDiff, Nat.reduceLT, reduceIte, reduceCtorEq, Nat.reduceEqDiff, Nat.reduceSub, Nat.reduceAdd] <;> rfl)) ?_
          simp only [Try.results77, go_sem, Nat.reduceMul, Nat.reduceLeDiff, Nat.reduceLT, reduceIte, reduceCtorEq, Nat.reduceEqDiff, Nat.reduceSub, Nat.reduceAdd]
          refine ⟨_, fun _ _ => OpP.buildRd T_ok [.int .i64 u] rfl rfl rfl (by decide) rfl (by simp only [go_sem, Nat.reduceMul, Nat.reduceLeDiff, Nat.reduceLT, reduceIte, reduceCtorEq, Nat.reduceEqDiff, Nat.reduceSub, Nat.reduceAdd] <;> rfl) rfl, (by simp only [go_sem, Nat.reduceMul, Nat.reduceLeDiff, Nat.reduceLT, reduceIte, reduceCtorEq, Nat.reduceEqDiff, Nat.reduceSub, Nat.reduceAdd]), ?_⟩
          simp only [Try.results77, go_sem, Nat.reduceMul, Nat.reduceLeDiff, Nat.reduceLT, reduceIte, reduceCtorEq, Nat.reduceEqDiff, Nat.reduceSub, Nat.reduceAdd]
          refine HereC.append T_ok (I [(u : Int)]) rfl rfl (by decide) (by simp only [go_sem, Nat.reduceMul, Nat.reduceLeDiff, Nat.reduceLT, reduceIte, reduceCtorEq, Nat.reduceEqDiff, Nat.reduceSub, Nat.reduceAdd] <;> rfl) (by decide) (by simp only [go_sem, Nat.reduceMul, Nat.reduceLeDiff, Nat.reduceLT, reduceIte, reduceCtorEq, Nat.reduceEqDiff, Nat.reduceSub, Nat.reduceAdd] <;> rfl) (by simp only [go_sem, Nat.reduceMul, Nat.reduceLeDiff, Nat.reduceLT, reduceIte, reduceCtorEq, Nat.reduceEqDiff, Nat.reduceSub, Nat.reduceAdd] <;> rfl) (I_one _) (by rw [I_len, I_len]; simp; omega) rfl (keeps_nil _ _) ?_
          simp only [Try.results77, go_sem, Nat.reduceMul, Nat.reduceLeDiff, Nat.reduceLT, reduceIte, reduceCtorEq, Nat.reduceEqDiff, Nat.reduceSub, Nat.reduceAdd]
          refine ⟨calm_ne rfl, ?_⟩
          refine HereC.callMM 31 [51] 50 (by decide) rfl (by simp only [go_sem, Nat.reduceMul, Nat.reduceLeDiff, Nat.reduceLT, reduceIte, reduceCtorEq, Nat.reduceEqDiff, Nat.reduceSub, Nat.reduceAdd] <;> rfl) hc (by simp only [go_sem, Nat.reduceMul, Nat.reduceLeDiff, Nat.reduceLT, reduceIte, reduceCtorEq, Nat.reduceEqDiff, Nat.reduceSub, Nat.reduceAdd, List.toList_toArray, ↓reduceIte]) rfl (by decide) (by decide) rfl rfl rfl (Nat.le_of_ble_eq_true rfl) rfl rfl rfl (inK_mm rfl rfl rfl) (keeps_nil _ _) ?_
          simp only [Try.results77, go_sem, Nat.reduceMul, Nat.reduceLeDiff, Nat.reduceLT, reduceIte, reduceCtorEq, Nat.reduceEqDiff, Nat.reduceSub, Nat.reduceAdd]
          exact ⟨by unfold InR; omega, (u + 1, false), ⟨by dsimp only; omega, by dsimp only; omega⟩, by dsimp only; omega, ⟨rfl, by push_cast; rfl⟩, by dsimp only; rw [if_pos rfl, hstep hU]⟩
      · obtain rfl : u = m.toNat := by omega
        refine RetM.one1 51 (by decide) (by simp only [Try.results77, go_sem, Nat.reduceMul, Nat.reduceLeDiff, Nat.reduceLT, reduceIte, reduceCtorEq, Nat.reduceEqDiff, Nat.reduceSub, Nat.reduceAdd]; rfl) rfl ?_
        simp only [Try.results77, go_sem, Nat.reduceMul, Nat.reduceLeDiff, Nat.reduceLT, reduceIte, reduceCtorEq, Nat.reduceEqDiff, Nat.reduceSub, Nat.reduceAdd]
        rw [dfsS, if_pos hf]
theorem go_spec (t : List (List Int)) (m : Int) (hg : Grp t) (hm : 2 ≤ m ∧ m ≤ 12) : ∀ k, GoS t m k
  | 0 => go_zero t m hg hm
  | k + 1 => go_succ t m hg hm k (go_spec t m hg hm k)
theorem l02All_spec (t : List (List Int)) (m : Int) (hg : Grp t) (hm : 2 ≤ m ∧ m ≤ 12) : Spec Try.prog 76 [.agg [.rds (II t)], .v (.int .i64 m)] (.own 0) [.mods 29 2 (mq (withM m (dfsM t m t.length [])))] := by
  have h8 := hg.2.1
  have hp8 : 12 ^ t.length ≤ 12 ^ 8 := Nat.pow_le_pow_right (by decide) h8
  have hc := go_spec t m hg hm t.length [] [] (by simp) (fun j hj => by simp at hj) (by simp at hp8 ⊢; omega)
  rw [dfs_all hg hm] at hc
  refine Spec.of_codeC T_ok Try.func76 rfl Try.ntmps76 Try.call76 (Nat.le_of_ble_eq_true rfl) rfl rfl (CodeV_sound T_ok (by kernel_rfl) rfl ?_)
  simp only [Try.results76, go_sem, Nat.reduceMul, Nat.reduceLeDiff, Nat.reduceLT, reduceIte, reduceCtorEq, Nat.reduceEqDiff, Nat.reduceSub, Nat.reduceAdd]
  refine HereO.buildRow T_ok 120 (I []) rfl rfl rfl (by decide) rfl (by first | rfl | (simp only [go_sem, Nat.reduceMul, Nat.reduceLeDiff, Nat.reduceLT, reduceIte, reduceCtorEq, Nat.reduceEqDiff, Nat.reduceSub, Nat.reduceAdd] <;> rfl)) rfl (by decide) ?_
  simp only [Try.results76, go_sem, Nat.reduceMul, Nat.reduceLeDiff, Nat.reduceLT, reduceIte, reduceCtorEq, Nat.reduceEqDiff, Nat.reduceSub, Nat.reduceAdd]
  refine HereO.makeMods T_ok 2 rfl sl2m_ok 130 (by decide) ?_
  simp only [Try.results76, go_sem, Nat.reduceMul, Nat.reduceLeDiff, Nat.reduceLT, reduceIte, reduceCtorEq, Nat.reduceEqDiff, Nat.reduceSub, Nat.reduceAdd]
  refine HereO.callM T_ok 31 [130] rfl rfl (hc) (by simp only [go_sem, Nat.reduceMul, Nat.reduceLeDiff, Nat.reduceLT, reduceIte, reduceCtorEq, Nat.reduceEqDiff, Nat.reduceSub, Nat.reduceAdd, List.toList_toArray, ↓reduceIte]) rfl (by decide) (by decide) rfl rfl rfl (Nat.le_of_ble_eq_true rfl) ?_
  simp only [Try.results76, go_sem, Nat.reduceMul, Nat.reduceLeDiff, Nat.reduceLT, reduceIte, reduceCtorEq, Nat.reduceEqDiff, Nat.reduceSub, Nat.reduceAdd]
  exact RetC.of (RetT.one 1497 (by simp only [Try.results76, go_sem, Nat.reduceMul, Nat.reduceLeDiff, Nat.reduceLT, reduceIte, reduceCtorEq, Nat.reduceEqDiff, Nat.reduceSub, Nat.reduceAdd]; rfl) (by simp only [Try.results76, go_sem, Nat.reduceMul, Nat.reduceLeDiff, Nat.reduceLT, reduceIte, reduceCtorEq, Nat.reduceEqDiff, Nat.reduceSub, Nat.reduceAdd] <;> simp [mq]) (by simp only [Try.results76, go_sem, Nat.reduceMul, Nat.reduceLeDiff, Nat.reduceLT, reduceIte, reduceCtorEq, Nat.reduceEqDiff, Nat.reduceSub, Nat.reduceAdd] <;> simp [mq]))
end Go.Proofs.Ytcjhojdlfnpgjaa
