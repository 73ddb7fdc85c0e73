/- A calculus of verification conditions over logical values: the logical values, and how they lie in memory. -/
import Derived.WalkKit
import Derived.Below
import Derived.Maps.AppendAt
import Derived.Laws.MakeOwn
import Derived.Deep.OwnRows
namespace Go.Proofs.Ytdbkiomhoonclaa
open Go.RowKit

inductive LV where
  | v (x : Value)
  | junk
  | rd (vs : List Value)
  | rds (t : List (List Value))
  | rdL (l : List LV)
  | agg (l : List LV)
  | tup (l : List LV)
  | box (l : List LV)
  | pc (x : LV)
  | own (id : Nat)
  | ptr (id off : Nat)
  | pe (id i : Nat)
  | sub (id i n : Nat)
  | rdA (k : Nat) (l : List LV)
  | fn (g : Nat) (caps : List LV)
  deriving Inhabited

theorem add_block (a : Addr) (n : Nat) : (a.add n).block = a.block := by unfold Addr.add; split <;> rfl

/-- A row of one-cell elements that is only read. -/
def RD (F : Nat → Prop) (w : World) (A : Option Addr) (vs : List Value) : Prop :=
  vs.length ≤ 9223372036854775807 ∧ (0 < vs.length → ∃ ad, A = some ad ∧ ¬ F ad.block ∧ ∀ j u, vs[j]? = some u → w.cell? (ad.add j) = some u)

def RS (F : Nat → Prop) (w : World) (vs : List Value) (y : Value) : Prop := ∃ A c, y = .slice A vs.length c ∧ vs.length ≤ c ∧ RD F w A vs
def RRow (F : Nat → Prop) (w : World) : List (List Value) → List Value → Prop
  | [], hs => hs = []
  | r :: t, hs => ∃ h hs', hs = h :: hs' ∧ RS F w r h ∧ RRow F w t hs'

mutual
def LRel (ι : Nat → Option Value) (F : Nat → Prop) (w : World) : LV → Value → Prop
  | .v x, y => y = x
  | .junk, _ => True
  | .rd vs, y => RS F w vs y
  | .rds t, y => ∃ hs, RS F w hs y ∧ RRow F w t hs
  | .rdL l, y => ∃ ys, RS F w ys y ∧ LRels ι F w l ys
  | .agg l, y => ∃ ys, y = .agg (List.toArray ys) ∧ LRels ι F w l ys
  | .tup l, y => ∃ ys, y = .tuple (List.toArray ys) ∧ LRels ι F w l ys
  | .box l, y => ∃ p ys, y = .pointer (some p) ∧ (∀ j u, ys[j]? = some u → ¬ F p.block ∧ w.cell? (p.add j) = some u) ∧ LRels ι F w l ys
  | .rdA k l, y => ∃ A m c ys, y = .slice A m c ∧ ys.length = m * k ∧ m ≤ c ∧ m ≤ 9223372036854775807 ∧ (0 < m → ∃ ad, A = some ad ∧ ∀ j u, ys[j]? = some u → ¬ F ad.block ∧ w.cell? (ad.add j) = some u) ∧ LRels ι F w l ys
  | .pc x, y => ∃ p u, y = .pointer (some p) ∧ ¬ F p.block ∧ w.cell? p = some u ∧ LRel ι F w x u
  | .own id, y => ι id = some y
  | .ptr id off, y => ∃ b, ι id = some (.pointer (some ⟨b, 0, none⟩)) ∧ y = .pointer (some ⟨b, off, none⟩)
  | .pe id i, y => ∃ g n c, ι id = some (.slice (some ⟨g, 0, none⟩) n c) ∧ y = .pointer (some ⟨g, i, none⟩)
  | .sub id i n, y => ∃ A N c, ι id = some (.slice A N c) ∧ i + n ≤ N ∧ ∃ A', y = .slice A' n (c - i) ∧ (i = 0 → A' = A) ∧ (0 < n → ∃ g, A = some ⟨g, 0, none⟩ ∧ A' = some ⟨g, i, none⟩)
  | .fn g caps, y => ∃ ys, y = .func (.func g) #[] (List.toArray ys) ∧ LRels ι F w caps ys
def LRels (ι : Nat → Option Value) (F : Nat → Prop) (w : World) : List LV → List Value → Prop
  | [], ys => ys = []
  | x :: l, ys => ∃ y r, ys = y :: r ∧ LRel ι F w x y ∧ LRels ι F w l r
end

/-- Readable cells stay. -/
def Keeps (F F' : Nat → Prop) (w w' : World) : Prop := ∀ p u, ¬ F p.block → w.cell? p = some u → w'.cell? p = some u ∧ ¬ F' p.block

theorem RD.keeps {F F' : Nat → Prop} {w w' : World} {A : Option Addr} {vs : List Value} (h : RD F w A vs) (k : Keeps F F' w w') : RD F' w' A vs := by
  refine ⟨h.1, fun hp => ?_⟩
  obtain ⟨ad, e, hF, hc⟩ := h.2 hp
  refine ⟨ad, e, ?_, fun j u hu => (k _ _ (by rw [add_block]; exact hF) (hc j u hu)).1⟩
  have := (k _ _ (by rw [add_block]; exact hF) (hc 0 vs[0] (List.getElem?_eq_getElem hp))).2
  rwa [add_block] at this
theorem RS.keeps {F F' : Nat → Prop} {w w' : World} {vs : List Value} {y : Value} (h : RS F w vs y) (k : Keeps F F' w w') : RS F' w' vs y := by
  obtain ⟨A, c, e, hc, h⟩ := h
  exact ⟨A, c, e, hc, h.keeps k⟩
theorem RRow.keeps {F F' : Nat → Prop} {w w' : World} (k : Keeps F F' w w') : ∀ {t : List (List Value)} {hs : List Value}, RRow F w t hs → RRow F' w' t hs
  | [], _, h => h
  | _ :: _, _, ⟨x, hs', e, h1, h2⟩ => ⟨x, hs', e, h1.keeps k, RRow.keeps k h2⟩

mutual
/-- References to objects that are gone are forgotten. -/
def kill (q : Nat → Bool) : LV → LV
  | .rdL l => .rdL (kills q l)
  | .agg l => .agg (kills q l)
  | .tup l => .tup (kills q l)
  | .box l => .box (kills q l)
  | .rdA k l => .rdA k (kills q l)
  | .pc x => .pc (kill q x)
  | .own id => if q id then .junk else .own id
  | .ptr id off => if q id then .junk else .ptr id off
  | .pe id i => if q id then .junk else .pe id i
  | .sub id i n => if q id then .junk else .sub id i n
  | .fn g caps => .fn g (kills q caps)
  | .v x => .v x
  | .junk => .junk
  | .rd vs => .rd vs
  | .rds t => .rds t
def kills (q : Nat → Bool) : List LV → List LV
  | [] => []
  | x :: l => kill q x :: kills q l
end

mutual
/-- References to objects are given other numbers. -/
def ren (m : Nat → Nat) : LV → LV
  | .rdL l => .rdL (rens m l)
  | .agg l => .agg (rens m l)
  | .tup l => .tup (rens m l)
  | .box l => .box (rens m l)
  | .rdA k l => .rdA k (rens m l)
  | .pc x => .pc (ren m x)
  | .own id => .own (m id)
  | .ptr id off => .ptr (m id) off
  | .pe id i => .pe (m id) i
  | .sub id i n => .sub (m id) i n
  | .fn g caps => .fn g (rens m caps)
  | .v x => .v x
  | .junk => .junk
  | .rd vs => .rd vs
  | .rds t => .rds t
def rens (m : Nat → Nat) : List LV → List LV
  | [] => []
  | x :: l => ren m x :: rens m l
end

mutual
theorem LRel.keeps {ι ι' : Nat → Option Value} {F F' : Nat → Prop} {w w' : World} (hι : ∀ id v, ι id = some v → ι' id = some v) (k : Keeps F F' w w') : ∀ {x : LV} {y : Value}, LRel ι F w x y → LRel ι' F' w' x y
  | .v _, _, h => by simp only [LRel] at *; exact h
  | .junk, _, _ => by simp only [LRel]
  | .rd _, _, h => by simp only [LRel] at *; exact h.keeps k
  | .rds _, _, h => by
    simp only [LRel] at *
    obtain ⟨hs, h1, h2⟩ := h
    exact ⟨hs, h1.keeps k, h2.keeps k⟩
  | .rdL _, _, h => by
    simp only [LRel] at *
    obtain ⟨ys, e, h⟩ := h
    exact ⟨ys, e.keeps k, LRels.keeps hι k h⟩
  | .agg _, _, h => by
    simp only [LRel] at *
    obtain ⟨ys, e, h⟩ := h
    exact ⟨ys, e, LRels.keeps hι k h⟩
  | .tup _, _, h => by
    simp only [LRel] at *
    obtain ⟨ys, e, h⟩ := h
    exact ⟨ys, e, LRels.keeps hι k h⟩
  | .box l, _, h => by
    simp only [LRel] at *
    obtain ⟨b, ys, e, hc, h⟩ := h
    exact ⟨b, ys, e, fun j u hu => have q := hc j u hu; have r := k (b.add j) u (by rw [add_block]; exact q.1) q.2; ⟨by have := r.2; rwa [add_block] at this, r.1⟩, LRels.keeps hι k h⟩
  | .rdA _ l, _, h => by
    simp only [LRel] at *
    obtain ⟨A, m, c, ys, e, h1, h2, h3, h4, h⟩ := h
    refine ⟨A, m, c, ys, e, h1, h2, h3, fun hm => ?_, LRels.keeps hι k h⟩
    obtain ⟨ad, hA, hc⟩ := h4 hm
    exact ⟨ad, hA, fun j u hu => have q := hc j u hu; have r := k (ad.add j) u (by rw [add_block]; exact q.1) q.2; ⟨by have := r.2; rwa [add_block] at this, r.1⟩⟩
  | .pc _, _, h => by
    simp only [LRel] at *
    obtain ⟨p, u, e, hF, hc, h⟩ := h
    exact ⟨p, u, e, (k _ _ hF hc).2, (k _ _ hF hc).1, LRel.keeps hι k h⟩
  | .own _, _, h => by simp only [LRel] at *; exact hι _ _ h
  | .ptr _ _, _, h => by
    simp only [LRel] at *
    obtain ⟨b, h, e⟩ := h
    exact ⟨b, hι _ _ h, e⟩
  | .pe _ _, _, h => by
    simp only [LRel] at *
    obtain ⟨g, n, c, h, e⟩ := h
    exact ⟨g, n, c, hι _ _ h, e⟩
  | .sub _ _ _, _, h => by
    simp only [LRel] at *
    obtain ⟨A, N, c, h, e⟩ := h
    exact ⟨A, N, c, hι _ _ h, e⟩
  | .fn _ _, _, h => by
    simp only [LRel] at *
    obtain ⟨ys, e, h⟩ := h
    exact ⟨ys, e, LRels.keeps hι k h⟩
theorem LRels.keeps {ι ι' : Nat → Option Value} {F F' : Nat → Prop} {w w' : World} (hι : ∀ id v, ι id = some v → ι' id = some v) (k : Keeps F F' w w') : ∀ {l : List LV} {ys : List Value}, LRels ι F w l ys → LRels ι' F' w' l ys
  | [], _, h => by simp only [LRels] at *; exact h
  | _ :: _, _, h => by
    simp only [LRels] at *
    obtain ⟨y, r, e, h1, h2⟩ := h
    exact ⟨y, r, e, LRel.keeps hι k h1, LRels.keeps hι k h2⟩
end

mutual
theorem LRel.kills {ι ι' : Nat → Option Value} {F F' : Nat → Prop} {w w' : World} {q : Nat → Bool} (hι : ∀ id v, q id = false → ι id = some v → ι' id = some v) (k : Keeps F F' w w') : ∀ {x : LV} {y : Value}, LRel ι F w x y → LRel ι' F' w' (kill q x) y
  | .v _, _, h => by simp only [LRel, kill] at *; exact h
  | .junk, _, _ => by simp only [LRel, kill]
  | .rd _, _, h => by simp only [LRel, kill] at *; exact h.keeps k
  | .rds _, _, h => by
    simp only [LRel, kill] at *
    obtain ⟨hs, h1, h2⟩ := h
    exact ⟨hs, h1.keeps k, h2.keeps k⟩
  | .rdL _, _, h => by
    simp only [LRel, kill] at *
    obtain ⟨ys, e, h⟩ := h
    exact ⟨ys, e.keeps k, LRels.kills hι k h⟩
  | .agg _, _, h => by
    simp only [LRel, kill] at *
    obtain ⟨ys, e, h⟩ := h
    exact ⟨ys, e, LRels.kills hι k h⟩
  | .tup _, _, h => by
    simp only [LRel, kill] at *
    obtain ⟨ys, e, h⟩ := h
    exact ⟨ys, e, LRels.kills hι k h⟩
  | .box l, _, h => by
    simp only [LRel, kill] at *
    obtain ⟨b, ys, e, hc, h⟩ := h
    exact ⟨b, ys, e, fun j u hu => have q := hc j u hu; have r := k (b.add j) u (by rw [add_block]; exact q.1) q.2; ⟨by have := r.2; rwa [add_block] at this, r.1⟩, LRels.kills hι k h⟩
  | .rdA _ l, _, h => by
    simp only [LRel, kill] at *
    obtain ⟨A, m, c, ys, e, h1, h2, h3, h4, h⟩ := h
    refine ⟨A, m, c, ys, e, h1, h2, h3, fun hm => ?_, LRels.kills hι k h⟩
    obtain ⟨ad, hA, hc⟩ := h4 hm
    exact ⟨ad, hA, fun j u hu => have q := hc j u hu; have r := k (ad.add j) u (by rw [add_block]; exact q.1) q.2; ⟨by have := r.2; rwa [add_block] at this, r.1⟩⟩
  | .pc _, _, h => by
    simp only [LRel, kill] at *
    obtain ⟨p, u, e, hF, hc, h⟩ := h
    exact ⟨p, u, e, (k _ _ hF hc).2, (k _ _ hF hc).1, LRel.kills hι k h⟩
  | .own id, _, h => by
    simp only [LRel, kill] at *
    cases hq : q id with
    | true => simp [LRel]
    | false => simp only [Bool.false_eq_true, if_false, LRel]; exact hι _ _ hq h
  | .ptr id _, _, h => by
    simp only [LRel, kill] at *
    obtain ⟨b, h, e⟩ := h
    cases hq : q id with
    | true => simp [LRel]
    | false => simp only [Bool.false_eq_true, if_false, LRel]; exact ⟨b, hι _ _ hq h, e⟩
  | .pe id _, _, h => by
    simp only [LRel, kill] at *
    obtain ⟨g, n, c, h, e⟩ := h
    cases hq : q id with
    | true => simp [LRel]
    | false => simp only [Bool.false_eq_true, if_false, LRel]; exact ⟨g, n, c, hι _ _ hq h, e⟩
  | .sub id _ _, _, h => by
    simp only [LRel, kill] at *
    obtain ⟨A, N, c, h, e⟩ := h
    cases hq : q id with
    | true => simp [LRel]
    | false => simp only [Bool.false_eq_true, if_false, LRel]; exact ⟨A, N, c, hι _ _ hq h, e⟩
  | .fn _ _, _, h => by
    simp only [LRel, kill] at *
    obtain ⟨ys, e, h⟩ := h
    exact ⟨ys, e, LRels.kills hι k h⟩
theorem LRels.kills {ι ι' : Nat → Option Value} {F F' : Nat → Prop} {w w' : World} {q : Nat → Bool} (hι : ∀ id v, q id = false → ι id = some v → ι' id = some v) (k : Keeps F F' w w') : ∀ {l : List LV} {ys : List Value}, LRels ι F w l ys → LRels ι' F' w' (kills q l) ys
  | [], _, h => by simp only [LRels, kills] at *; exact h
  | _ :: _, _, h => by
    simp only [LRels, kills] at *
    obtain ⟨y, r, e, h1, h2⟩ := h
    exact ⟨y, r, e, LRel.kills hι k h1, LRels.kills hι k h2⟩
end

mutual
theorem LRel.rens {ι : Nat → Option Value} {F : Nat → Prop} {w : World} {m : Nat → Nat} : ∀ {x : LV} {y : Value}, LRel (fun i => ι (m i)) F w x y → LRel ι F w (ren m x) y
  | .v _, _, h => by simp only [LRel, ren] at *; exact h
  | .junk, _, _ => by simp only [LRel, ren]
  | .rd _, _, h => by simp only [LRel, ren] at *; exact h
  | .rds _, _, h => by
    simp only [LRel, ren] at *
    obtain ⟨hs, h1, h2⟩ := h
    exact ⟨hs, h1, h2⟩
  | .rdL _, _, h => by
    simp only [LRel, ren] at *
    obtain ⟨ys, e, h⟩ := h
    exact ⟨ys, e, LRels.rens h⟩
  | .agg _, _, h => by
    simp only [LRel, ren] at *
    obtain ⟨ys, e, h⟩ := h
    exact ⟨ys, e, LRels.rens h⟩
  | .tup _, _, h => by
    simp only [LRel, ren] at *
    obtain ⟨ys, e, h⟩ := h
    exact ⟨ys, e, LRels.rens h⟩
  | .box l, _, h => by
    simp only [LRel, ren] at *
    obtain ⟨b, ys, e, hc, h⟩ := h
    exact ⟨b, ys, e, hc, LRels.rens h⟩
  | .rdA _ l, _, h => by
    simp only [LRel, ren] at *
    obtain ⟨A, m, c, ys, e, h1, h2, h3, h4, h⟩ := h
    exact ⟨A, m, c, ys, e, h1, h2, h3, h4, LRels.rens h⟩
  | .pc _, _, h => by
    simp only [LRel, ren] at *
    obtain ⟨p, u, e, hF, hc, h⟩ := h
    exact ⟨p, u, e, hF, hc, LRel.rens h⟩
  | .own _, _, h => by simp only [LRel, ren] at *; exact h
  | .ptr _ _, _, h => by
    simp only [LRel, ren] at *
    obtain ⟨b, h, e⟩ := h
    exact ⟨b, h, e⟩
  | .pe _ _, _, h => by
    simp only [LRel, ren] at *
    obtain ⟨g, n, c, h, e⟩ := h
    exact ⟨g, n, c, h, e⟩
  | .sub _ _ _, _, h => by
    simp only [LRel, ren] at *
    obtain ⟨A, N, c, h, e⟩ := h
    exact ⟨A, N, c, h, e⟩
  | .fn _ _, _, h => by
    simp only [LRel, ren] at *
    obtain ⟨ys, e, h⟩ := h
    exact ⟨ys, e, LRels.rens h⟩
theorem LRels.rens {ι : Nat → Option Value} {F : Nat → Prop} {w : World} {m : Nat → Nat} : ∀ {l : List LV} {ys : List Value}, LRels (fun i => ι (m i)) F w l ys → LRels ι F w (Go.Proofs.Ytdbkiomhoonclaa.rens m l) ys
  | [], _, h => by simp only [LRels, Go.Proofs.Ytdbkiomhoonclaa.rens] at *; exact h
  | _ :: _, _, h => by
    simp only [LRels, Go.Proofs.Ytdbkiomhoonclaa.rens] at *
    obtain ⟨y, r, e, h1, h2⟩ := h
    exact ⟨y, r, e, LRel.rens h1, LRels.rens h2⟩
end

end Go.Proofs.Ytdbkiomhoonclaa
