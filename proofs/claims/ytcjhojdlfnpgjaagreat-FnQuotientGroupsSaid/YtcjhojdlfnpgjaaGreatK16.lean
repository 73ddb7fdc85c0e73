/- Plain facts of groups told by tables: products, powers, orders; Contracts: orders and powers of elements; Contracts: what the laws use to tell memory apart: marks that are written into rows, and looked for; Contracts: OrdersOf; Contracts: groups made of functions. -/
import Derived.Test.YtcjhojdlfnpgjaaGreatK15
import Derived.Test.YtcjhojdlfnpgjaaGreatK10
import Derived.Test.YtcjhojdlfnpgjaaGreatK14
set_option linter.unusedVariables false
set_option linter.unusedSimpArgs false
set_option maxRecDepth 100000
namespace Go.Proofs.YtcjhojdlfnpgjaaGreat
def em (t : List (List Int)) (a b : Nat) : Nat := (ee t a b).toNat
def pwN (t : List (List Int)) (a : Nat) : Nat → Nat
  | 0 => 0
  | k + 1 => em t (pwN t a k) a
section
variable {t : List (List Int)} (hg : Grp t)
include hg
theorem em_ee {a b : Nat} (ha : a < t.length) (hb : b < t.length) : ee t a b = em t a b := by
  have := (hg.2.2.1 a ha).2 b hb
  unfold em; omega
theorem em_lt {a b : Nat} (ha : a < t.length) (hb : b < t.length) : em t a b < t.length := by
  have := (hg.2.2.1 a ha).2 b hb
  unfold em; omega
theorem em_assoc {a b c : Nat} (ha : a < t.length) (hb : b < t.length) (hc : c < t.length) : em t (em t a b) c = em t a (em t b c) := by
  have := (hg.2.2.2 a ha).2 b hb c hc
  unfold Assoc at this
  unfold em; rw [this]
theorem em_zl {a : Nat} (ha : a < t.length) : em t 0 a = a := by
  have := (hg.2.2.2 a ha).1.1
  unfold em; omega
theorem em_zr {a : Nat} (ha : a < t.length) : em t a 0 = a := by
  have := (hg.2.2.2 a ha).1.2.1
  unfold em; omega
theorem em_inv {a : Nat} (ha : a < t.length) : ∃ b, b < t.length ∧ em t a b = 0 ∧ em t b a = 0 := by
  obtain ⟨b, h1, h2, h3⟩ := hg.left ha
  exact ⟨b, h1, by unfold em; omega, by unfold em; omega⟩
theorem em_cancel {x y a : Nat} (hx : x < t.length) (hy : y < t.length) (ha : a < t.length) (h : em t x a = em t y a) : x = y := by
  obtain ⟨b, h1, h2, h3⟩ := em_inv hg ha
  have e1 := em_assoc hg hx ha h1
  have e2 := em_assoc hg hy ha h1
  rw [h2, em_zr hg hx] at e1
  rw [h2, em_zr hg hy] at e2
  rw [← e1, ← e2, h]
theorem inv_unique {a b c : Nat} (ha : a < t.length) (hb : b < t.length) (hc : c < t.length) (h1 : em t a b = 0) (h2 : em t a c = 0) : b = c := by
  obtain ⟨d, g1, g2, g3⟩ := em_inv hg ha
  have e1 := em_assoc hg g1 ha hb
  have e2 := em_assoc hg g1 ha hc
  rw [h1, g3, em_zl hg hb, em_zr hg g1] at e1
  rw [h2, g3, em_zl hg hc, em_zr hg g1] at e2
  omega
theorem pwN_lt {a : Nat} (ha : a < t.length) : ∀ k, pwN t a k < t.length
  | 0 => hg.1
  | k + 1 => em_lt hg (pwN_lt ha k) ha
theorem pwN_add {a : Nat} (ha : a < t.length) (i : Nat) : ∀ j, pwN t a (i + j) = em t (pwN t a i) (pwN t a j)
  | 0 => (em_zr hg (pwN_lt hg ha i)).symm
  | j + 1 => by
    show em t (pwN t a (i + j)) a = em t (pwN t a i) (em t (pwN t a j) a)
    rw [pwN_add ha i j, em_assoc hg (pwN_lt hg ha i) (pwN_lt hg ha j) ha]
end
theorem pigeon : ∀ (n : Nat) (f : Nat → Nat), (∀ k, k ≤ n → f k < n) → ∃ i j, i < j ∧ j ≤ n ∧ f i = f j
  | 0, f, h => absurd (h 0 (Nat.le_refl _)) (by omega)
  | n + 1, f, h => by
    by_cases he : ∃ k, k ≤ n ∧ f k = f (n + 1)
    · obtain ⟨k, h1, h2⟩ := he
      exact ⟨k, n + 1, by omega, Nat.le_refl _, h2⟩
    · have hne : ∀ k, k ≤ n → f k ≠ f (n + 1) := fun k hk e => he ⟨k, hk, e⟩
      have hl := h (n + 1) (Nat.le_refl _)
      obtain ⟨i, j, h1, h2, h3⟩ := pigeon n (fun k => if f k = n then f (n + 1) else f k) (fun k hk => by
        have a1 := hne k hk
        have a2 := h k (by omega)
        show (if f k = n then f (n + 1) else f k) < n
        split <;> omega)
      refine ⟨i, j, h1, by omega, ?_⟩
      have a1 := hne i (by omega)
      have a2 := hne j (by omega)
      split at h3 <;> split at h3 <;> omega
def ordN (t : List (List Int)) (a : Nat) : Nat := match (List.range t.length).find? (fun k => pwN t a (k + 1) == 0) with | some k => k + 1 | none => 0
theorem ordN_is {t : List (List Int)} {a k : Nat} (h1 : 1 ≤ k) (hk : k ≤ t.length) (h2 : pwN t a k = 0) (h3 : ∀ j, 1 ≤ j → j < k → pwN t a j ≠ 0) : ordN t a = k := by
  have : (List.range t.length).find? (fun k => pwN t a (k + 1) == 0) = some (k - 1) := by
    rw [List.find?_range_eq_some]
    refine ⟨by simp [show k - 1 + 1 = k by omega, h2], List.mem_range.2 (by omega), fun j hj => ?_⟩
    simpa using h3 (j + 1) (by omega) (by omega)
  unfold ordN
  rw [this]
  show k - 1 + 1 = k
  omega
theorem ordN_spec {t : List (List Int)} (hg : Grp t) {a : Nat} (ha : a < t.length) : 1 ≤ ordN t a ∧ ordN t a ≤ t.length ∧ pwN t a (ordN t a) = 0 ∧ ∀ j, 1 ≤ j → j < ordN t a → pwN t a j ≠ 0 := by
  have ex : ∃ k, 1 ≤ k ∧ k ≤ t.length ∧ pwN t a k = 0 := by
    obtain ⟨i, j, h1, h2, h3⟩ := pigeon t.length (pwN t a) (fun k _ => pwN_lt hg ha k)
    refine ⟨j - i, by omega, by omega, ?_⟩
    have e := pwN_add hg ha (j - i) i
    rw [show j - i + i = j by omega, ← h3] at e
    have e2 : em t 0 (pwN t a i) = em t (pwN t a (j - i)) (pwN t a i) := by rw [em_zl hg (pwN_lt hg ha i)]; exact e
    exact (em_cancel hg hg.1 (pwN_lt hg ha _) (pwN_lt hg ha i) e2).symm
  have least : ∃ k, 1 ≤ k ∧ k ≤ t.length ∧ pwN t a k = 0 ∧ ∀ j, 1 ≤ j → j < k → pwN t a j ≠ 0 := by
    obtain ⟨k, h1, h2, h3⟩ := ex
    induction k using Nat.strongRecOn with
    | _ k ih =>
      by_cases h : ∀ j, 1 ≤ j → j < k → pwN t a j ≠ 0
      · exact ⟨k, h1, h2, h3, h⟩
      · have : ∃ j, 1 ≤ j ∧ j < k ∧ pwN t a j = 0 := by
          apply Classical.byContradiction
          intro hn
          exact h fun j g1 g2 g3 => hn ⟨j, g1, g2, g3⟩
        obtain ⟨j, g1, g2, g3⟩ := this
        exact ih j g2 g1 (by omega) g3
  obtain ⟨k, h1, h2, h3, h4⟩ := least
  rw [ordN_is h1 h2 h3 h4]
  exact ⟨h1, h2, h3, h4⟩
end Go.Proofs.YtcjhojdlfnpgjaaGreat
namespace Go.Proofs.YtcjhojdlfnpgjaaGreat
section
variable {t : List (List Int)} (hg : Grp t)
include hg
end
end Go.Proofs.YtcjhojdlfnpgjaaGreat
namespace Go.Proofs.YtcjhojdlfnpgjaaGreat
open Go.RowKit
theorem times2_spec (t : List (List Int)) (hg : Grp t) (a b : Nat) (ha : a < t.length) (hb : b < t.length) : Spec Tryz.prog 44 [.agg [.rds (II t)], .rd (I [(a : Int), (b : Int)])] (.v (.int .i64 (em t a b))) [] := by
  have hab : AreIn t.length [(a : Int), b] := by
    intro j hj
    match j, hj with
    | 0, _ => simp; omega
    | 1, _ => simp; omega
  have := times_spec t [(a : Int), b] hg hab (by simp)
  rwa [tm_two hg (by omega), Int.toNat_natCast, Int.toNat_natCast, em_ee hg ha hb] at this
def invN (t : List (List Int)) (a : Nat) : Nat := (ix (t.getD a []) 0).toNat
theorem invN_is {t : List (List Int)} (hg : Grp t) {a : Nat} (ha : a < t.length) : ix (t.getD a []) 0 = invN t a ∧ invN t a < t.length ∧ em t a (invN t a) = 0 := by
  have hh := (hg.2.2.2 a ha).1.2.2
  have hr := (hg.2.2.1 a ha).1
  rcases ix_cases (t.getD a []) 0 with ⟨h1, _⟩ | ⟨k, h1, h2, h3⟩
  · exact absurd hh h1
  · have : invN t a = k := by unfold invN; rw [h1]; rfl
    rw [this]
    refine ⟨h1, by omega, ?_⟩
    unfold em ee
    rw [h3]; rfl
theorem inverse_spec (t : List (List Int)) (hg : Grp t) (a : Nat) (ha : a < t.length) : Spec Tryz.prog 45 [.agg [.rds (II t)], .v (.int .i64 a)] (.v (.int .i64 (invN t a))) [] := by
  have h8 := hg.2.1
  have hr := (hg.2.2.1 a ha).1
  refine Spec.of_code T_ok Tryz.func45 rfl Tryz.ntmps45 Tryz.call45 (Nat.le_of_ble_eq_true rfl) rfl rfl (CodeV_sound T_ok (by kernel_rfl) rfl ?_)
  refine WW ?_
  refine ⟨by omega, ?_⟩
  refine HereO.call T_ok rfl rfl (Index_spec (t.getD a []) 0 (by omega)) SA rfl ?_
  refine WW ?_
  exact (invN_is hg ha).1
theorem tmod_as (x m : Int) : x.tmod m = if 0 ≤ x then x % m else -((-x) % m) := by
  split
  · rename_i h; exact Int.tmod_eq_emod_of_nonneg h
  · rename_i h
    have e : x.tmod m = -((-x).tmod m) := by rw [Int.neg_tmod, Int.neg_neg]
    rw [e, Int.tmod_eq_emod_of_nonneg (by omega)]
theorem mod_eq {x m : Int} (h0 : 1 ≤ m) (h1 : m ≤ 8) : (x.tmod m + m).tmod m = x % m ∧ -m < x.tmod m ∧ x.tmod m < m := by
  rw [tmod_as (x.tmod m + m), tmod_as x]
  have hm : m = 1 ∨ m = 2 ∨ m = 3 ∨ m = 4 ∨ m = 5 ∨ m = 6 ∨ m = 7 ∨ m = 8 := by omega
  rcases hm with rfl | rfl | rfl | rfl | rfl | rfl | rfl | rfl <;> split <;> split <;> omega
theorem l01Mod_spec (x m : Int) (h0 : 1 ≤ m) (h1 : m ≤ 8) (hx : -1000000 ≤ x ∧ x ≤ 1000000) : Spec Tryz.prog 127 [.v (.int .i64 x), .v (.int .i64 m)] (.v (.int .i64 (x % m))) [] := by
  refine Spec.of_code T_ok Tryz.func127 rfl Tryz.ntmps127 Tryz.call127 (Nat.le_of_ble_eq_true rfl) rfl rfl (CodeV_sound T_ok (by kernel_rfl) rfl ?_)
  refine WW ?_
  obtain ⟨h2, h3, h4⟩ := mod_eq (x := x) h0 h1
  exact ⟨by omega, by unfold InR; omega, by omega, h2⟩
end Go.Proofs.YtcjhojdlfnpgjaaGreat
namespace Go.Proofs.YtcjhojdlfnpgjaaGreat
open Go.RowKit
def marks (k : Int) : Nat → List Int
  | 0 => []
  | n + 1 => marks k n ++ [k + n]
def heldS : List Int → Int → Int
  | [], k => k
  | x :: xs, k => if x = k then heldS xs (k + 1) else -1
def marksS (k : Int) : List (List Int) → List (List Int)
  | [] => []
  | r :: t => marks k r.length :: marksS (k + r.length) t
def cellsOf : List (List Int) → Nat
  | [] => 0
  | r :: t => r.length + cellsOf t
def OkRows (t : List (List Int)) : Prop := t.length ≤ 1048576 ∧ (∀ a, a < t.length → (t.getD a []).length ≤ 1048576) ∧ (cellsOf t : Int) ≤ 1099511627776
end Go.Proofs.YtcjhojdlfnpgjaaGreat
namespace Go.Proofs.YtcjhojdlfnpgjaaGreat
open Go.RowKit
def upTo (f : Nat → Int) (n : Nat) : List Int := (List.range n).map f
theorem upTo_succ (f : Nat → Int) (n : Nat) : upTo f (n + 1) = upTo f n ++ [f n] := by simp [upTo, List.range_succ]
theorem upTo_len (f : Nat → Int) (n : Nat) : (upTo f n).length = n := by simp [upTo]
theorem upTo_get (f : Nat → Int) {n i : Nat} (h : i < n) : (upTo f n).getD i 0 = f i := by
  rw [List.getD_eq_getElem?_getD, upTo, List.getElem?_map, List.getElem?_range h]
  rfl
def ordersL (t : List (List Int)) : List Int := if Grp t then upTo (fun a => (ordN t a : Int)) t.length else []
end Go.Proofs.YtcjhojdlfnpgjaaGreat
namespace Go.Proofs.YtcjhojdlfnpgjaaGreat
open Go.RowKit
structure Fix (caps : List LV) : Prop where
  b : ∀ σ, closeBs σ caps = caps
  k : ∀ q, kills q caps = caps
  m : ∀ σ is, toMs σ is caps = caps
theorem Fix.box {l : List LV} (h : Fix l) : Fix [.box l] := ⟨fun σ => by simp only [closeBs, closeB, h.b], fun q => by simp only [kills, kill, h.k], fun σ is => by simp only [toMs, toM, h.m]⟩
theorem Fix.fn {g : Nat} {l : List LV} (h : Fix l) : Fix [.fn g l] := ⟨fun σ => by simp only [closeBs, closeB, h.b], fun q => by simp only [kills, kill, h.k], fun σ is => by simp only [toMs, toM, h.m]⟩
theorem Fix.nil : Fix [] := ⟨fun _ => rfl, fun _ => rfl, fun _ _ => rfl⟩
theorem Fix.v (x : Value) : Fix [.v x] := ⟨fun _ => rfl, fun _ => rfl, fun _ _ => rfl⟩
theorem Fix.rds (x : List (List Value)) : Fix [.rds x] := ⟨fun _ => rfl, fun _ => rfl, fun _ _ => rfl⟩
theorem Fix.rd (x : List Value) : Fix [.rd x] := ⟨fun _ => rfl, fun _ => rfl, fun _ _ => rfl⟩
theorem Fix.cons {x : LV} {l : List LV} (h1 : Fix [x]) (h2 : Fix l) : Fix (x :: l) := by
  have b1 : ∀ σ, closeB σ x = x := fun σ => by have := h1.b σ; simp only [closeBs, List.cons.injEq, and_true] at this; exact this
  have k1 : ∀ q, kill q x = x := fun σ => by have := h1.k σ; simp only [kills, List.cons.injEq, and_true] at this; exact this
  have m1 : ∀ σ is, toM σ is x = x := fun σ is => by have := h1.m σ is; simp only [toMs, List.cons.injEq, and_true] at this; exact this
  exact ⟨fun σ => by simp only [closeBs, h2.b, b1], fun q => by simp only [kills, h2.k, k1], fun σ is => by simp only [toMs, h2.m, m1]⟩
def firstF (p : Int → Bool) : List Int → Nat
  | [] => 0
  | x :: l => if p x then 0 else firstF p l + 1
theorem firstF_eq (p : Int → Bool) : ∀ (l : List Int) (k : Nat), k ≤ l.length → (∀ j, j < k → p (l.getD j 0) = false) → (k < l.length → p (l.getD k 0) = true) → firstF p l = k
  | [], k, hk, _, _ => by simp at hk; subst hk; rfl
  | x :: l, 0, _, _, h2 => by have := h2 (by simp); simp at this; simp [firstF, this]
  | x :: l, k + 1, hk, h1, h2 => by
    have h0 := h1 0 (by omega)
    simp at h0
    have := firstF_eq p l k (by simpa using hk) (fun j hj => by have := h1 (j + 1) (by omega); simpa using this) (fun h => by have := h2 (by simpa using h); simpa using this)
    simp [firstF, h0, this]
def idxF (p : Int → Bool) (l : List Int) : Int := if firstF p l < l.length then firstF p l else -1
theorem IndexFunc_spec (xs : List Int) (g : Nat) (caps : List LV) (hc : Fix caps) (p : Int → Bool) (hp : ∀ j, j < xs.length → Spec Tryz.prog g (.v (.int .i64 (xs.getD j 0)) :: caps) (.v (.bool (p (xs.getD j 0)))) []) (hl : xs.length ≤ 1099511627776) :
    Spec Tryz.prog 126 [.rd (I xs), .fn g caps] (.v (.int .i64 (idxF p xs))) [] := by
  refine Spec.of_code T_ok Tryz.func126 rfl Tryz.ntmps126 Tryz.call126 (Nat.le_of_ble_eq_true rfl) rfl rfl (CodeV_sound T_ok (by kernel_rfl) rfl ?_)
  refine WW ?_
  refine Here.loopV T_ok (fun k => k ≤ xs.length ∧ ∀ j, j < k → p (xs.getD j 0) = false) (fun k => xs.length - k) (fun k => [(0, .rd (I xs)), (1, .fn g caps), (7, .v (.int .i64 xs.length)), (8, .v (.int .i64 k))]) (fun k => []) 0 (by simp) SE trivial ?_
  rintro k ⟨hk, hj⟩
  refine WW ?_
  refine ⟨fun h2 => ⟨by omega, ?_⟩, fun h2 => ?_⟩
  · refine HereO.call T_ok rfl rfl (hp k (by omega)) (by simp only [go_sem, Nat.reduceMul, Nat.reduceLeDiff, Nat.reduceLT, reduceIte, reduceCtorEq, Nat.reduceEqDiff, Nat.reduceSub, Nat.reduceAdd, List.toList_toArray, hc.b]) rfl ?_
    refine WW ?_
    refine ⟨fun h3 => ?_, fun h3 => ⟨by unfold InR; omega, k + 1, ⟨by omega, fun j hj' => ?_⟩, by omega, rfl⟩⟩
    · unfold idxF
      rw [firstF_eq p xs k hk hj (fun _ => h3), if_pos (by omega)]
    · by_cases e : j = k
      · subst e; exact h3
      · exact hj j (by omega)
  · unfold idxF
    rw [firstF_eq p xs k hk hj (fun h => by omega), if_neg (by omega)]
theorem ContainsFunc_spec (xs : List Int) (g : Nat) (caps : List LV) (hc : Fix caps) (p : Int → Bool) (hp : ∀ j, j < xs.length → Spec Tryz.prog g (.v (.int .i64 (xs.getD j 0)) :: caps) (.v (.bool (p (xs.getD j 0)))) []) (hl : xs.length ≤ 1099511627776) :
    Spec Tryz.prog 108 [.rd (I xs), .fn g caps] (.v (.bool (xs.any p))) [] := by
  refine Spec.of_code T_ok Tryz.func108 rfl Tryz.ntmps108 Tryz.call108 (Nat.le_of_ble_eq_true rfl) rfl rfl (CodeV_sound T_ok (by kernel_rfl) rfl ?_)
  refine WW ?_
  refine HereO.call T_ok rfl rfl (IndexFunc_spec xs g caps hc p hp hl) (by simp only [go_sem, Nat.reduceMul, Nat.reduceLeDiff, Nat.reduceLT, reduceIte, reduceCtorEq, Nat.reduceEqDiff, Nat.reduceSub, Nat.reduceAdd, List.toList_toArray, hc.b]) rfl ?_
  refine WW ?_
  have key : ∀ l : List Int, decide (firstF p l < l.length) = l.any p := by
    intro l
    induction l with
    | nil => rfl
    | cons x l ih =>
      unfold firstF
      cases h : p x with
      | true => simp [h]
      | false => simp only [Bool.false_eq_true, if_false, List.length_cons, List.any_cons, h, Bool.false_or, ← ih]; simp
  rw [← key xs]
  unfold idxF
  by_cases h : firstF p xs < xs.length
  · rw [if_pos h, decide_eq_true h]; simp
  · rw [if_neg h, decide_eq_false h]; rfl
theorem filter_take {p : Int → Bool} {xs : List Int} {j : Nat} (hj : j < xs.length) : (xs.take (j + 1)).filter p = (xs.take j).filter p ++ (if p (xs.getD j 0) then [xs.getD j 0] else []) := by
  rw [List.take_succ_eq_append_getElem hj, List.filter_append]
  congr 1
  rw [List.getD_eq_getElem?_getD, List.getElem?_eq_getElem hj, Option.getD_some, List.filter_cons]
  split <;> rfl
theorem filter_first {p : Int → Bool} : ∀ {xs : List Int}, (xs.take (firstF p xs)).filter (fun x => !p x) = xs.take (firstF p xs)
  | [] => rfl
  | x :: l => by
    unfold firstF
    cases h : p x with
    | true => simp
    | false => simp [h, filter_first (xs := l)]
theorem filter_all {p : Int → Bool} {xs : List Int} (h : ¬ firstF p xs < xs.length) : xs.filter (fun x => !p x) = xs := by
  have := filter_first (p := p) (xs := xs)
  rwa [List.take_of_length_le (by omega)] at this
theorem set_take {W : List Int} {i : Nat} {x : Int} (h : i < W.length) : (W.set i x).take (i + 1) = W.take i ++ [x] := by
  rw [List.take_succ_eq_append_getElem (by simpa using h)]
  simp [List.take_set_of_le]
theorem firstF_at {p : Int → Bool} : ∀ {xs : List Int}, firstF p xs < xs.length → p (xs.getD (firstF p xs) 0) = true
  | [], h => by simp at h
  | x :: l, h => by
    unfold firstF at h ⊢
    cases hx : p x with
    | true => simp [hx]
    | false =>
      simp only [hx, Bool.false_eq_true, if_false] at h ⊢
      have := firstF_at (p := p) (xs := l) (by simpa using h)
      simpa using this
theorem DeleteFunc_spec (xs : List Int) (g : Nat) (caps : List LV) (hc : Fix caps) (p : Int → Bool) (hp : ∀ j, j < xs.length → Spec Tryz.prog g (.v (.int .i64 (xs.getD j 0)) :: caps) (.v (.bool (p (xs.getD j 0)))) []) (hl : xs.length ≤ 1099511627776) :
    SpecM Tryz.prog 124 [.own 0, .fn g caps] [.row 2 (I xs)] (.own 1) [none, some (.row 2 (I (xs.filter fun x => !p x)))] := by
  refine SpecM.of_codeC T_ok Tryz.func124 rfl Tryz.ntmps124 Tryz.call124 (Nat.le_of_ble_eq_true rfl) (Nat.le_of_ble_eq_true rfl) (Nat.le_of_ble_eq_true rfl) rfl rfl (CodeV_sound T_ok (by kernel_rfl) rfl ?_)
  refine WW ?_
  refine HereO.call T_ok rfl rfl (IndexFunc_spec xs g caps hc p hp hl) (by simp only [go_sem, Nat.reduceMul, Nat.reduceLeDiff, Nat.reduceLT, reduceIte, reduceCtorEq, Nat.reduceEqDiff, Nat.reduceSub, Nat.reduceAdd, List.toList_toArray, hc.b, osF]) rfl ?_
  refine WW ?_
  refine ⟨fun h => ?_, fun h => ?_⟩
  · have hn : ¬ firstF p xs < xs.length := fun q => by unfold idxF at h; rw [if_pos q] at h; omega
    refine RetMC.conv (Conv.move 4 150 (id := 0) (e := 2) (vs := I xs) (by decide) SW SW) (RetMC.of (RetM.one1 150 (by decide) SE ?_ ?_))
    · rfl
    · refine WW ?_
      rw [filter_all hn]
  · have hn : firstF p xs < xs.length := Classical.byContradiction fun q => h (by unfold idxF; rw [if_neg q])
    have hi : idxF p xs = (firstF p xs : Nat) := by unfold idxF; rw [if_pos hn]
    rw [hi]
    refine ⟨by unfold InR; omega, ?_⟩
    refine Here.loopV T_ok (κ := Nat × Nat × List Int) (fun k => k.1 < k.2.1 ∧ k.2.1 ≤ xs.length ∧ k.2.2.length = xs.length ∧ k.2.2.take k.1 = (xs.take k.2.1).filter (fun x => !p x) ∧ ∀ m, k.2.1 ≤ m → k.2.2.getD m 0 = xs.getD m 0) (fun k => xs.length - k.2.1)
      (fun k => [(0, .own 0), (1, .fn g caps), (5, .v (.int .i64 k.1)), (6, .v (.int .i64 k.2.1))]) (fun k => [(0, .row 2 (I k.2.2))]) (firstF p xs, firstF p xs + 1, xs) ⟨by simp, by simp; omega, rfl, ?_, fun _ _ => rfl⟩ (by simp only [go_sem, Nat.reduceMul, Nat.reduceLeDiff, Nat.reduceLT, reduceIte, reduceCtorEq, Nat.reduceEqDiff, Nat.reduceSub, Nat.reduceAdd]; simp) SW ?_
    · simp only
      rw [filter_take hn, firstF_at hn, filter_first]
      simp
    rintro ⟨i, j, W⟩ ⟨h1, h2, h3, h4, h5⟩
    simp only at h1 h2 h3 h4 h5
    refine WW ?_
    rw [h3]
    refine ⟨fun h6 => ⟨by omega, by omega, ?_⟩, fun h6 => ?_⟩
    · rw [h5 j (Nat.le_refl _)]
      refine HereO.call T_ok rfl rfl (hp j (by omega)) (by simp only [go_sem, Nat.reduceMul, Nat.reduceLeDiff, Nat.reduceLT, reduceIte, reduceCtorEq, Nat.reduceEqDiff, Nat.reduceSub, Nat.reduceAdd, List.toList_toArray, hc.b]) rfl ?_
      refine WW ?_
      have hft := filter_take (p := fun x => !p x) (xs := xs) (j := j) (by omega)
      have hfl : ((xs.take j).filter (fun x => !p x)).length = i := by rw [← h4]; simp; omega
      refine ⟨fun h7 => ⟨⟨by omega, by omega⟩, ?_⟩, fun h7 => ?_⟩
      · refine HereO.storeRow T_ok rfl rfl rfl rfl rfl rfl (by rw [I_len]; omega) ?_
        refine WW ?_
        refine ⟨by unfold InR; omega, by unfold InR; omega, (i + 1, j + 1, W.set i (xs.getD j 0)), ⟨by simp; omega, by simp only; omega, by simp; omega, ?_, fun m hm => ?_⟩, by simp only; omega, ⟨by simp, by simp⟩, by rw [I_set]⟩
        · rw [hft, h7, ← h4, set_take (by omega)]
          simp
        · simp only at hm ⊢
          rw [← h5 m (by omega)]
          simp only [List.getD_eq_getElem?_getD]
          rw [List.getElem?_set_ne (by omega)]
      · refine ⟨by unfold InR; omega, (i, j + 1, W), ⟨by simp only; omega, by simp only; omega, h3, ?_, fun m hm => h5 m (by simp only at hm; omega)⟩, by simp only; omega, ⟨rfl, by simp⟩, rfl⟩
        simp only
        rw [hft, h7, ← h4]
        simp
    · have hj : j = xs.length := by omega
      subst hj
      rw [List.take_length] at h4
      refine HereO.slice T_ok i xs.length rfl rfl rfl rfl ⟨_, rfl⟩ (by simp [cutAt, I_len, h3]) (by omega) (by rw [I_len]; omega) ?_
      refine WW ?_
      refine HereO.clear T_ok rfl rfl rfl rfl rfl ?_
      refine WW ?_
      refine HereO.slice T_ok 0 i rfl rfl rfl rfl rfl ⟨_, rfl⟩ (by omega) (by simp [I_len]; omega) ?_
      refine WW ?_
      refine RetMC.conv (Conv.prefix_ 4 150 (id := 0) (n := i - 0) (e := 2) (vs := (I W).take i ++ List.replicate (xs.length - i) (.int .i64 0) ++ (I W).drop (i + (xs.length - i))) (by decide) (by decide) SW SW) (RetMC.of (RetM.one1 150 (by decide) SE ?_ ?_))
      · rfl
      · refine WW ?_
        rw [Nat.sub_zero, List.append_assoc, List.take_append_of_le_length (by simp [I_len]; omega), List.take_take, Nat.min_self, ← h4]
        simp [I, List.map_take]
def cnt (n : Nat) : List Int := upTo (fun a => (a : Int)) n
theorem counting_spec (n : Nat) (hn : n ≤ 4096) : Spec Tryz.prog 66 [.v (.int .i64 n)] (.own 0) [.row 2 (I (cnt n))] := by
  refine Spec.of_code T_ok Tryz.func66 rfl Tryz.ntmps66 Tryz.call66 (Nat.le_of_ble_eq_true rfl) rfl rfl (CodeV_sound T_ok (by kernel_rfl) rfl ?_)
  refine WW ?_
  refine HereO.buildRow T_ok 104 (I []) rfl rfl rfl (by decide) rfl SS rfl (by decide) ?_
  refine WW ?_
  refine Here.loopV T_ok (fun k => k ≤ n) (fun k => n - k) (fun k => [(3, .own 104), (6, .v (.int .i64 n)), (7, .v (.int .i64 k))]) (fun k => [(104, .row 2 (I (cnt k)))]) 0 (by simp) SE SE ?_
  intro k hk
  refine WW ?_
  refine ⟨fun h2 => ?_, fun h2 => ?_⟩
  · refine HereO.buildRow T_ok 119 (I [(k : Int)]) rfl rfl rfl (by decide) rfl SS rfl (by decide) ?_
    refine WW ?_
    refine HereO.append T_ok (I [(k : Int)]) rfl rfl (by decide) SS (by decide) SS SS (.own 119 _ _ (by decide) SS) (I_one _) (by rw [I_len, I_len, cnt, upTo_len]; simp; omega) ?_
    refine WW ?_
    exact ⟨by unfold InR; omega, k + 1, by omega, by omega, rfl, by rw [I_append, cnt, cnt, upTo_succ]⟩
  · have : k = n := by omega
    subst this
    refine RetT.one 104 SE rfl ?_
    exact WW trivial
theorem cnt_get {n j : Nat} (h : j < (cnt n).length) : (cnt n).getD j 0 = j := by
  unfold cnt at h ⊢
  rw [upTo_len] at h
  rw [upTo_get _ h]
theorem cnt_len (n : Nat) : (cnt n).length = n := upTo_len _ _
theorem those1_spec (g : Nat) (caps : List LV) (hc : Fix caps) (x : Int) (b : Bool) (hp : Spec Tryz.prog g (.v (.int .i64 x) :: caps) (.v (.bool b)) []) : Spec Tryz.prog 125 [.v (.int .i64 x), .box [.fn g caps]] (.v (.bool (!b))) [] := by
  refine Spec.of_code T_ok Tryz.func125 rfl Tryz.ntmps125 Tryz.call125 (Nat.le_of_ble_eq_true rfl) rfl rfl (CodeV_sound T_ok (by kernel_rfl) rfl ?_)
  refine WW ?_
  refine HereO.call T_ok rfl rfl hp (by simp only [go_sem, Nat.reduceMul, Nat.reduceLeDiff, Nat.reduceLT, reduceIte, reduceCtorEq, Nat.reduceEqDiff, Nat.reduceSub, Nat.reduceAdd, List.toList_toArray, hc.b]) rfl ?_
  exact WW trivial
theorem those_spec (t : List (List Int)) (hn : t.length ≤ 4096) (g : Nat) (caps : List LV) (hc : Fix caps) (p : Int → Bool) (hp : ∀ j : Nat, j < t.length → Spec Tryz.prog g (.v (.int .i64 j) :: caps) (.v (.bool (p j))) []) : Spec Tryz.prog 106 [.agg [.rds (II t)], .fn g caps] (.own 0) [.row 2 (I ((cnt t.length).filter p))] := by
  refine Spec.of_code T_ok Tryz.func106 rfl Tryz.ntmps106 Tryz.call106 (Nat.le_of_ble_eq_true rfl) rfl rfl (CodeV_sound T_ok (by kernel_rfl) rfl ?_)
  refine WW ?_
  refine HereO.call T_ok rfl rfl (order_spec t) SA rfl ?_
  refine WW ?_
  refine HereO.callOwn T_ok 7 rfl rfl (counting_spec t.length hn) SA rfl (by simp) rfl ?_
  refine WW ?_
  have := DeleteFunc_spec (cnt t.length) 125 [.box [.fn g caps]] (Fix.box (Fix.fn hc)) (fun x => !p x) (fun j hj => by
    rw [cnt_get hj]
    exact those1_spec g caps hc j _ (hp j (by rw [cnt_len] at hj; exact hj))) (by rw [cnt_len]; omega)
  simp only [Bool.not_not] at this
  refine HereO.callM T_ok 9 [1112] rfl rfl this (by simp only [go_sem, Nat.reduceMul, Nat.reduceLeDiff, Nat.reduceLT, reduceIte, reduceCtorEq, Nat.reduceEqDiff, Nat.reduceSub, Nat.reduceAdd, List.toList_toArray, ↓reduceIte, hc.m, hc.k]) rfl (by decide) (by decide) rfl rfl rfl (Nat.le_of_ble_eq_true rfl) ?_
  refine WW ?_
  refine RetT.one 1145 SE rfl ?_
  exact WW trivial
end Go.Proofs.YtcjhojdlfnpgjaaGreat
namespace Go.Proofs.YtcjhojdlfnpgjaaGreat
open Go.RowKit
def tab (f : Nat → Nat → Int) (n m : Nat) : List (List Int) := (List.range m).map fun a => upTo (f a) n
theorem tab_succ (f : Nat → Nat → Int) (n m : Nat) : tab f n (m + 1) = tab f n m ++ [upTo (f m) n] := by simp [tab, List.range_succ]
theorem tab_len (f : Nat → Nat → Int) (n m : Nat) : (tab f n m).length = m := by simp [tab]
theorem made_spec (n : Nat) (hn : n ≤ 4096) (g : Nat) (caps : List LV) (hc : Fix caps) (f : Nat → Nat → Int) (hp : ∀ a b : Nat, a < n → b < n → Spec Tryz.prog g (.v (.int .i64 a) :: .v (.int .i64 b) :: caps) (.v (.int .i64 (f a b))) []) :
    Spec Tryz.prog 67 [.v (.int .i64 n), .fn g caps] (.agg [.own 0]) [.rows 27 2 (II (tab f n n))] := by
  refine Spec.of_code T_ok Tryz.func67 rfl Tryz.ntmps67 Tryz.call67 (Nat.le_of_ble_eq_true rfl) rfl rfl (CodeV_sound T_ok (by kernel_rfl) rfl ?_)
  refine WW ?_
  refine HereO.alloc T_ok 104 rfl rfl (by decide) ?_
  refine WW ?_
  refine HereO.opP T_ok (OpP.build built_26 rfl rfl rfl rfl) ?_
  refine WW ?_
  refine HereO.alloc T_ok 105 rfl rfl (by decide) ?_
  refine WW ?_
  refine HereO.storeAgg T_ok rfl SS SS rfl SS rfl rfl rfl ?_
  refine WW ?_
  refine HereV.conv (Conv.nilIn (c := 105) (tt := 26) (l := [.v nilV]) 0 120 (.rows 27 2 []) rfl (by decide) (by decide) (by rfl) rfl) ?_
  refine Here.loopV T_ok (fun k => k ≤ n) (fun k => n - k) (fun k => [(1, .fn g caps), (0, .v (.int .i64 n)), (4, .ptr 104 0), (5, .ptr 105 0), (10, .v (.int .i64 n)), (11, .v (.int .i64 k))]) (fun k => [(104, .cells 26 [.v nilV]), (105, .cells 26 [.own 120]), (120, .rows 27 2 (II (tab f n k)))]) 0 (by simp) (by simp only [go_sem, Nat.reduceMul, Nat.reduceLeDiff, Nat.reduceLT, reduceIte, reduceCtorEq, Nat.reduceEqDiff, Nat.reduceSub, Nat.reduceAdd]; simp [hc.k]) (by simp only [go_sem, Nat.reduceMul, Nat.reduceLeDiff, Nat.reduceLT, reduceIte, reduceCtorEq, Nat.reduceEqDiff, Nat.reduceSub, Nat.reduceAdd]; simp [tab, II, nilV]) ?_
  intro k hk
  refine WW ?_
  refine ⟨fun h2 => ?_, fun h2 => ?_⟩
  · refine HereO.buildRow T_ok 130 (I []) rfl rfl rfl (by decide) rfl SS rfl (by decide) ?_
    refine WW ?_
    refine Here.loopV T_ok (fun j => j ≤ n) (fun j => n - j) (fun j => [(1, .fn g caps), (0, .v (.int .i64 n)), (4, .ptr 104 0), (5, .ptr 105 0), (6, .v (.int .i64 k)), (7, .own 130), (10, .v (.int .i64 n)), (11, .v (.int .i64 k)), (15, .v (.int .i64 n)), (16, .v (.int .i64 j))])
      (fun j => [(104, .cells 26 [.v nilV]), (105, .cells 26 [.own 120]), (120, .rows 27 2 (II (tab f n k))), (130, .row 2 (I (upTo (f k) j)))]) 0 (by simp) (by simp only [go_sem, Nat.reduceMul, Nat.reduceLeDiff, Nat.reduceLT, reduceIte, reduceCtorEq, Nat.reduceEqDiff, Nat.reduceSub, Nat.reduceAdd]; simp [hc.k]) (by simp only [go_sem, Nat.reduceMul, Nat.reduceLeDiff, Nat.reduceLT, reduceIte, reduceCtorEq, Nat.reduceEqDiff, Nat.reduceSub, Nat.reduceAdd]; simp [upTo, I]) ?_
    intro j hj
    refine WW ?_
    refine ⟨fun h3 => ?_, fun h3 => ?_⟩
    · refine HereO.call T_ok rfl rfl (hp k j (by omega) (by omega)) (by simp only [go_sem, Nat.reduceMul, Nat.reduceLeDiff, Nat.reduceLT, reduceIte, reduceCtorEq, Nat.reduceEqDiff, Nat.reduceSub, Nat.reduceAdd, hc.b]) rfl ?_
      refine WW ?_
      refine HereO.buildRow T_ok 140 (I [f k j]) rfl rfl rfl (by decide) rfl SS rfl (by decide) ?_
      refine WW ?_
      refine HereO.append T_ok (I [f k j]) rfl rfl (by decide) SS (by decide) SS SS (.own 140 _ _ (by decide) SS) (I_one _) (by rw [I_len, I_len, upTo_len]; simp; omega) ?_
      refine WW ?_
      refine ⟨by unfold InR; omega, j + 1, by omega, by omega, ?_, by rw [I_append, upTo_succ]⟩
      simp [hc.k]
    · have : j = n := by omega
      subst this
      refine HereO.buildRowL T_ok 150 [.own 130] rfl rfl rfl (by decide) rfl SS rfl (by decide) SS ?_
      refine WW ?_
      refine HereO.appendRows T_ok (id := 120) (j := 150) (i := 130) rfl rfl (by decide) SS (by decide) SS SS SS SS (by decide) (by decide) (by rw [II_len, tab_len]; omega) ?_
      refine WW ?_
      refine HereO.store T_ok rfl SS SS rfl SS rfl SS (by decide) ?_
      refine WW ?_
      refine ⟨by unfold InR; omega, k + 1, by omega, by omega, ?_, ?_⟩
      · simp [hc.k]
      · simp [II_append, tab_succ]
  · have : k = n := by omega
    subst this
    refine HereO.storeAgg T_ok rfl SS SS rfl SS SS rfl rfl ?_
    refine WW ?_
    refine RetT.one 120 SE rfl ?_
    exact WW trivial
end Go.Proofs.YtcjhojdlfnpgjaaGreat
