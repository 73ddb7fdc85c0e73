/- Contracts: OrdersOf. -/
import Derived.Test.YtcjhojdlfnpgjaaGreatDoorGe
import Derived.Test.YtcjhojdlfnpgjaaGreatDoorMa
namespace Go.Proofs.YtcjhojdlfnpgjaaGreatDoor
open Go.RowKit
set_option linter.unusedVariables false
set_option linter.unusedSimpArgs false
set_option maxRecDepth 100000

def upTo (f : Nat → Int) (n : Nat) : List Int := (List.range n).map f
theorem upTo_succ (f : Nat → Int) (n : Nat) : upTo f (n + 1) = upTo f n ++ [f n] := by simp [upTo, List.range_succ]
theorem upTo_len (f : Nat → Int) (n : Nat) : (upTo f n).length = n := by simp [upTo]
theorem upTo_get (f : Nat → Int) {n i : Nat} (h : i < n) : (upTo f n).getD i 0 = f i := by
  rw [List.getD_eq_getElem?_getD, upTo, List.getElem?_map, List.getElem?_range h]
  rfl

def ordersL (t : List (List Int)) : List Int := if Grp t then upTo (fun a => (ordN t a : Int)) t.length else []
end Go.Proofs.YtcjhojdlfnpgjaaGreatDoor

namespace Go.Proofs.YtcjhojdlfnpgjaaGreatDoor
open Go.RowKit
set_option linter.unusedVariables false
set_option linter.unusedSimpArgs false
set_option maxRecDepth 100000

/-- What a closure holds is read only. -/
structure Fix (caps : List LV) : Prop where
  b : ∀ σ, closeBs σ caps = caps
  k : ∀ q, kills q caps = caps
  m : ∀ σ is, toMs σ is caps = caps
theorem Fix.box {l : List LV} (h : Fix l) : Fix [.box l] := ⟨fun σ => by simp only [closeBs, closeB, h.b], fun q => by simp only [kills, kill, h.k], fun σ is => by simp only [toMs, toM, h.m]⟩
theorem Fix.fn {g : Nat} {l : List LV} (h : Fix l) : Fix [.fn g l] := ⟨fun σ => by simp only [closeBs, closeB, h.b], fun q => by simp only [kills, kill, h.k], fun σ is => by simp only [toMs, toM, h.m]⟩
theorem Fix.nil : Fix [] := ⟨fun _ => rfl, fun _ => rfl, fun _ _ => rfl⟩
theorem Fix.v (x : Value) : Fix [.v x] := ⟨fun _ => rfl, fun _ => rfl, fun _ _ => rfl⟩
theorem Fix.rds (x : List (List Value)) : Fix [.rds x] := ⟨fun _ => rfl, fun _ => rfl, fun _ _ => rfl⟩
theorem Fix.rd (x : List Value) : Fix [.rd x] := ⟨fun _ => rfl, fun _ => rfl, fun _ _ => rfl⟩
theorem Fix.cons {x : LV} {l : List LV} (h1 : Fix [x]) (h2 : Fix l) : Fix (x :: l) := by
  have b1 : ∀ σ, closeB σ x = x := fun σ => by have := h1.b σ; simp only [closeBs, List.cons.injEq, and_true] at this; exact this
  have k1 : ∀ q, kill q x = x := fun σ => by have := h1.k σ; simp only [kills, List.cons.injEq, and_true] at this; exact this
  have m1 : ∀ σ is, toM σ is x = x := fun σ is => by have := h1.m σ is; simp only [toMs, List.cons.injEq, and_true] at this; exact this
  exact ⟨fun σ => by simp only [closeBs, h2.b, b1], fun q => by simp only [kills, h2.k, k1], fun σ is => by simp only [toMs, h2.m, m1]⟩

/-- The place of the first that is so, -1 if there is none. -/
def firstF (p : Int → Bool) : List Int → Nat
  | [] => 0
  | x :: l => if p x then 0 else firstF p l + 1
def idxF (p : Int → Bool) (l : List Int) : Int := if firstF p l < l.length then firstF p l else -1

def cnt (n : Nat) : List Int := upTo (fun a => (a : Int)) n
theorem cnt_len (n : Nat) : (cnt n).length = n := upTo_len _ _
end Go.Proofs.YtcjhojdlfnpgjaaGreatDoor
