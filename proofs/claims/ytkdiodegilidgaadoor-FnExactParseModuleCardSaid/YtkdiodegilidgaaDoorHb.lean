/- Contracts: the standard library's slices with functions, counting, those. -/
import Derived.Test.YtkdiodegilidgaaDoorHa
namespace Go.Proofs.YtkdiodegilidgaaDoor
open Go.RowKit
set_option linter.unusedVariables false
set_option linter.unusedSimpArgs false
set_option maxRecDepth 100000

/-- What a closure holds is read only. -/
structure Fix (caps : List LV) : Prop where
  b : ∀ σ, closeBs σ caps = caps
  k : ∀ q, kills q caps = caps
  m : ∀ σ is, toMs σ is caps = caps
theorem Fix.box {l : List LV} (h : Fix l) : Fix [.box l] := ⟨fun σ => by simp only [closeBs, closeB, h.b], fun q => by simp only [kills, kill, h.k], fun σ is => by simp only [toMs, toM, h.m]⟩
theorem Fix.fn {g : Nat} {l : List LV} (h : Fix l) : Fix [.fn g l] := ⟨fun σ => by simp only [closeBs, closeB, h.b], fun q => by simp only [kills, kill, h.k], fun σ is => by simp only [toMs, toM, h.m]⟩
theorem Fix.nil : Fix [] := ⟨fun _ => rfl, fun _ => rfl, fun _ _ => rfl⟩
theorem Fix.v (x : Value) : Fix [.v x] := ⟨fun _ => rfl, fun _ => rfl, fun _ _ => rfl⟩
theorem Fix.rds (x : List (List Value)) : Fix [.rds x] := ⟨fun _ => rfl, fun _ => rfl, fun _ _ => rfl⟩
theorem Fix.rd (x : List Value) : Fix [.rd x] := ⟨fun _ => rfl, fun _ => rfl, fun _ _ => rfl⟩
theorem Fix.cons {x : LV} {l : List LV} (h1 : Fix [x]) (h2 : Fix l) : Fix (x :: l) := by
  have b1 : ∀ σ, closeB σ x = x := fun σ => by have := h1.b σ; simp only [closeBs, List.cons.injEq, and_true] at this; exact this
  have k1 : ∀ q, kill q x = x := fun σ => by have := h1.k σ; simp only [kills, List.cons.injEq, and_true] at this; exact this
  have m1 : ∀ σ is, toM σ is x = x := fun σ is => by have := h1.m σ is; simp only [toMs, List.cons.injEq, and_true] at this; exact this
  exact ⟨fun σ => by simp only [closeBs, h2.b, b1], fun q => by simp only [kills, h2.k, k1], fun σ is => by simp only [toMs, h2.m, m1]⟩

/-- The place of the first that is so, -1 if there is none. -/
def firstF (p : Int → Bool) : List Int → Nat
  | [] => 0
  | x :: l => if p x then 0 else firstF p l + 1
theorem firstF_le (p : Int → Bool) : ∀ l, firstF p l ≤ l.length
  | [] => Nat.le_refl _
  | x :: l => by unfold firstF; split <;> simp [firstF_le p l]
theorem firstF_eq (p : Int → Bool) : ∀ (l : List Int) (k : Nat), k ≤ l.length → (∀ j, j < k → p (l.getD j 0) = false) → (k < l.length → p (l.getD k 0) = true) → firstF p l = k
  | [], k, hk, _, _ => by simp at hk; subst hk; rfl
  | x :: l, 0, _, _, h2 => by have := h2 (by simp); simp at this; simp [firstF, this]
  | x :: l, k + 1, hk, h1, h2 => by
    have h0 := h1 0 (by omega)
    simp at h0
    have := firstF_eq p l k (by simpa using hk) (fun j hj => by have := h1 (j + 1) (by omega); simpa using this) (fun h => by have := h2 (by simpa using h); simpa using this)
    simp [firstF, h0, this]
def idxF (p : Int → Bool) (l : List Int) : Int := if firstF p l < l.length then firstF p l else -1

theorem filter_take {p : Int → Bool} {xs : List Int} {j : Nat} (hj : j < xs.length) : (xs.take (j + 1)).filter p = (xs.take j).filter p ++ (if p (xs.getD j 0) then [xs.getD j 0] else []) := by
  rw [List.take_succ_eq_append_getElem hj, List.filter_append]
  congr 1
  rw [List.getD_eq_getElem?_getD, List.getElem?_eq_getElem hj, Option.getD_some, List.filter_cons]
  split <;> rfl
theorem filter_first {p : Int → Bool} : ∀ {xs : List Int}, (xs.take (firstF p xs)).filter (fun x => !p x) = xs.take (firstF p xs)
  | [] => rfl
  | x :: l => by
    unfold firstF
    cases h : p x with
    | true => simp
    | false => simp [h, filter_first (xs := l)]
theorem filter_all {p : Int → Bool} {xs : List Int} (h : ¬ firstF p xs < xs.length) : xs.filter (fun x => !p x) = xs := by
  have := filter_first (p := p) (xs := xs)
  rwa [List.take_of_length_le (by omega)] at this
theorem set_take {W : List Int} {i : Nat} {x : Int} (h : i < W.length) : (W.set i x).take (i + 1) = W.take i ++ [x] := by
  rw [List.take_succ_eq_append_getElem (by simpa using h)]
  simp [List.take_set_of_le]
theorem firstF_at {p : Int → Bool} : ∀ {xs : List Int}, firstF p xs < xs.length → p (xs.getD (firstF p xs) 0) = true
  | [], h => by simp at h
  | x :: l, h => by
    unfold firstF at h ⊢
    cases hx : p x with
    | true => simp [hx]
    | false =>
      simp only [hx, Bool.false_eq_true, if_false] at h ⊢
      have := firstF_at (p := p) (xs := l) (by simpa using h)
      simpa using this

def cnt (n : Nat) : List Int := upTo (fun a => (a : Int)) n
theorem cnt_get {n j : Nat} (h : j < (cnt n).length) : (cnt n).getD j 0 = j := by
  unfold cnt at h ⊢
  rw [upTo_len] at h
  rw [upTo_get _ h]
theorem cnt_len (n : Nat) : (cnt n).length = n := upTo_len _ _
end Go.Proofs.YtkdiodegilidgaaDoor
