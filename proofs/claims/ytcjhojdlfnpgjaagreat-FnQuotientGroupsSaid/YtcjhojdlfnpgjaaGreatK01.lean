/- A calculus of verification conditions over logical values: the logical values, and how they lie in memory. -/
import Derived.WalkKit
import Derived.Below
import Derived.Maps.AppendAt
import Derived.Laws.MakeOwn
import Derived.Deep.OwnRows
import Derived.Deep.LoopGhost
set_option linter.unusedVariables false
set_option linter.unusedSimpArgs false
set_option maxRecDepth 100000
namespace Go.Proofs.YtcjhojdlfnpgjaaGreat
open Go.RowKit
def Sme (P Q : Prop) : Prop := P = Q
theorem WW {P Q : Prop} (hq : Q) (h : Sme P Q := by (simp only [go_sem, Nat.reduceMul, Nat.reduceLeDiff, Nat.reduceLT, reduceIte, reduceCtorEq, Nat.reduceEqDiff, Nat.reduceSub, Nat.reduceAdd]); exact rfl) : P := by unfold Sme at h; rw [h]; exact hq
theorem SS {P : Prop} (h : P := by simp only [go_sem, Nat.reduceMul, Nat.reduceLeDiff, Nat.reduceLT, reduceIte, reduceCtorEq, Nat.reduceEqDiff, Nat.reduceSub, Nat.reduceAdd] <;> rfl) : P := h
theorem SW {P : Prop} (h : P := by simp only [go_sem, Nat.reduceMul, Nat.reduceLeDiff, Nat.reduceLT, reduceIte, reduceCtorEq, Nat.reduceEqDiff, Nat.reduceSub, Nat.reduceAdd]) : P := h
theorem SA {P : Prop} (h : P := by simp only [go_sem, Nat.reduceMul, Nat.reduceLeDiff, Nat.reduceLT, reduceIte, reduceCtorEq, Nat.reduceEqDiff, Nat.reduceSub, Nat.reduceAdd, List.toList_toArray] <;> first | rfl | exact ⟨rfl, rfl⟩) : P := h
theorem SC {P : Prop} (h : P := by simp only [go_sem, Nat.reduceMul, Nat.reduceLeDiff, Nat.reduceLT, reduceIte, reduceCtorEq, Nat.reduceEqDiff, Nat.reduceSub, Nat.reduceAdd, List.toList_toArray, ↓reduceIte]) : P := h
theorem SR {P : Prop} (h : P := by first | rfl | (simp only [go_sem, Nat.reduceMul, Nat.reduceLeDiff, Nat.reduceLT, reduceIte, reduceCtorEq, Nat.reduceEqDiff, Nat.reduceSub, Nat.reduceAdd] <;> rfl)) : P := h
theorem SE {P : Prop} (h : P := by simp only [go_sem, Nat.reduceMul, Nat.reduceLeDiff, Nat.reduceLT, reduceIte, reduceCtorEq, Nat.reduceEqDiff, Nat.reduceSub, Nat.reduceAdd]; rfl) : P := h
theorem SK {P : Prop} (h : P := by first | exact keeps_nil _ _ | (simp only [keeps_cons, keeps_nil', go_sem, Nat.reduceMul, Nat.reduceLeDiff, Nat.reduceLT, reduceIte, reduceCtorEq, Nat.reduceEqDiff, Nat.reduceSub, Nat.reduceAdd] <;> first | rfl | exact ⟨rfl, rfl⟩ | ((repeat' apply And.intro) <;> rfl))) : P := h
theorem SL {P : Prop} (h : P := by first | (simp only [II_len]; omega) | simp only [I_len, II_len, upTo_len, tab_len, cnt_len, List.length_append, List.length_cons, List.length_nil, List.length_replicate]; omega) : P := h
inductive LV where
  | v (x : Value)
  | junk
  | rd (vs : List Value)
  | rds (t : List (List Value))
  | rdL (l : List LV)
  | agg (l : List LV)
  | tup (l : List LV)
  | box (l : List LV)
  | pc (x : LV)
  | own (id : Nat)
  | ptr (id off : Nat)
  | pe (id i : Nat)
  | sub (id i n : Nat)
  | rdA (k : Nat) (l : List LV)
  | fn (g : Nat) (caps : List LV)
  deriving Inhabited
theorem add_block (a : Addr) (n : Nat) : (a.add n).block = a.block := by unfold Addr.add; split <;> rfl
def RD (F : Nat → Prop) (w : World) (A : Option Addr) (vs : List Value) : Prop :=
  vs.length ≤ 9223372036854775807 ∧ (0 < vs.length → ∃ ad, A = some ad ∧ ¬ F ad.block ∧ ∀ j u, vs[j]? = some u → w.cell? (ad.add j) = some u)
def RS (F : Nat → Prop) (w : World) (vs : List Value) (y : Value) : Prop := ∃ A c, y = .slice A vs.length c ∧ vs.length ≤ c ∧ RD F w A vs
def RRow (F : Nat → Prop) (w : World) : List (List Value) → List Value → Prop
  | [], hs => hs = []
  | r :: t, hs => ∃ h hs', hs = h :: hs' ∧ RS F w r h ∧ RRow F w t hs'
mutual
def LRel (ι : Nat → Option Value) (F : Nat → Prop) (w : World) : LV → Value → Prop
  | .v x, y => y = x
  | .junk, _ => True
  | .rd vs, y => RS F w vs y
  | .rds t, y => ∃ hs, RS F w hs y ∧ RRow F w t hs
  | .rdL l, y => ∃ ys, RS F w ys y ∧ LRels ι F w l ys
  | .agg l, y => ∃ ys, y = .agg (List.toArray ys) ∧ LRels ι F w l ys
  | .tup l, y => ∃ ys, y = .tuple (List.toArray ys) ∧ LRels ι F w l ys
  | .box l, y => ∃ p ys, y = .pointer (some p) ∧ (∀ j u, ys[j]? = some u → ¬ F p.block ∧ w.cell? (p.add j) = some u) ∧ LRels ι F w l ys
  | .rdA k l, y => ∃ A m c ys, y = .slice A m c ∧ ys.length = m * k ∧ m ≤ c ∧ m ≤ 9223372036854775807 ∧ (0 < m → ∃ ad, A = some ad ∧ ∀ j u, ys[j]? = some u → ¬ F ad.block ∧ w.cell? (ad.add j) = some u) ∧ LRels ι F w l ys
  | .pc x, y => ∃ p u, y = .pointer (some p) ∧ ¬ F p.block ∧ w.cell? p = some u ∧ LRel ι F w x u
  | .own id, y => ι id = some y
  | .ptr id off, y => ∃ b, ι id = some (.pointer (some ⟨b, 0, none⟩)) ∧ y = .pointer (some ⟨b, off, none⟩)
  | .pe id i, y => ∃ g n c, ι id = some (.slice (some ⟨g, 0, none⟩) n c) ∧ y = .pointer (some ⟨g, i, none⟩)
  | .sub id i n, y => ∃ A N c, ι id = some (.slice A N c) ∧ i + n ≤ N ∧ ∃ A', y = .slice A' n (c - i) ∧ (i = 0 → A' = A) ∧ (0 < n → ∃ g, A = some ⟨g, 0, none⟩ ∧ A' = some ⟨g, i, none⟩)
  | .fn g caps, y => ∃ ys, y = .func (.func g) #[] (List.toArray ys) ∧ LRels ι F w caps ys
def LRels (ι : Nat → Option Value) (F : Nat → Prop) (w : World) : List LV → List Value → Prop
  | [], ys => ys = []
  | x :: l, ys => ∃ y r, ys = y :: r ∧ LRel ι F w x y ∧ LRels ι F w l r
end
def Keeps (F F' : Nat → Prop) (w w' : World) : Prop := ∀ p u, ¬ F p.block → w.cell? p = some u → w'.cell? p = some u ∧ ¬ F' p.block
theorem RD.keeps {F F' : Nat → Prop} {w w' : World} {A : Option Addr} {vs : List Value} (h : RD F w A vs) (k : Keeps F F' w w') : RD F' w' A vs := by
  refine ⟨h.1, fun hp => ?_⟩
  obtain ⟨ad, e, hF, hc⟩ := h.2 hp
  refine ⟨ad, e, ?_, fun j u hu => (k _ _ (by rw [add_block]; exact hF) (hc j u hu)).1⟩
  have := (k _ _ (by rw [add_block]; exact hF) (hc 0 vs[0] (List.getElem?_eq_getElem hp))).2
  rwa [add_block] at this
theorem RS.keeps {F F' : Nat → Prop} {w w' : World} {vs : List Value} {y : Value} (h : RS F w vs y) (k : Keeps F F' w w') : RS F' w' vs y := by
  obtain ⟨A, c, e, hc, h⟩ := h
  exact ⟨A, c, e, hc, h.keeps k⟩
theorem RRow.keeps {F F' : Nat → Prop} {w w' : World} (k : Keeps F F' w w') : ∀ {t : List (List Value)} {hs : List Value}, RRow F w t hs → RRow F' w' t hs
  | [], _, h => h
  | _ :: _, _, ⟨x, hs', e, h1, h2⟩ => ⟨x, hs', e, h1.keeps k, RRow.keeps k h2⟩
mutual
def kill (q : Nat → Bool) : LV → LV
  | .rdL l => .rdL (kills q l)
  | .agg l => .agg (kills q l)
  | .tup l => .tup (kills q l)
  | .box l => .box (kills q l)
  | .rdA k l => .rdA k (kills q l)
  | .pc x => .pc (kill q x)
  | .own id => if q id then .junk else .own id
  | .ptr id off => if q id then .junk else .ptr id off
  | .pe id i => if q id then .junk else .pe id i
  | .sub id i n => if q id then .junk else .sub id i n
  | .fn g caps => .fn g (kills q caps)
  | .v x => .v x
  | .junk => .junk
  | .rd vs => .rd vs
  | .rds t => .rds t
def kills (q : Nat → Bool) : List LV → List LV
  | [] => []
  | x :: l => kill q x :: kills q l
end
mutual
def ren (m : Nat → Nat) : LV → LV
  | .rdL l => .rdL (rens m l)
  | .agg l => .agg (rens m l)
  | .tup l => .tup (rens m l)
  | .box l => .box (rens m l)
  | .rdA k l => .rdA k (rens m l)
  | .pc x => .pc (ren m x)
  | .own id => .own (m id)
  | .ptr id off => .ptr (m id) off
  | .pe id i => .pe (m id) i
  | .sub id i n => .sub (m id) i n
  | .fn g caps => .fn g (rens m caps)
  | .v x => .v x
  | .junk => .junk
  | .rd vs => .rd vs
  | .rds t => .rds t
def rens (m : Nat → Nat) : List LV → List LV
  | [] => []
  | x :: l => ren m x :: rens m l
end
mutual
theorem LRel.keeps {ι ι' : Nat → Option Value} {F F' : Nat → Prop} {w w' : World} (hι : ∀ id v, ι id = some v → ι' id = some v) (k : Keeps F F' w w') : ∀ {x : LV} {y : Value}, LRel ι F w x y → LRel ι' F' w' x y
  | .v _, _, h => by simp only [LRel] at *; exact h
  | .junk, _, _ => by simp only [LRel]
  | .rd _, _, h => by simp only [LRel] at *; exact h.keeps k
  | .rds _, _, h => by
    simp only [LRel] at *
    obtain ⟨hs, h1, h2⟩ := h
    exact ⟨hs, h1.keeps k, h2.keeps k⟩
  | .rdL _, _, h => by
    simp only [LRel] at *
    obtain ⟨ys, e, h⟩ := h
    exact ⟨ys, e.keeps k, LRels.keeps hι k h⟩
  | .agg _, _, h => by
    simp only [LRel] at *
    obtain ⟨ys, e, h⟩ := h
    exact ⟨ys, e, LRels.keeps hι k h⟩
  | .tup _, _, h => by
    simp only [LRel] at *
    obtain ⟨ys, e, h⟩ := h
    exact ⟨ys, e, LRels.keeps hι k h⟩
  | .box l, _, h => by
    simp only [LRel] at *
    obtain ⟨b, ys, e, hc, h⟩ := h
    exact ⟨b, ys, e, fun j u hu => have q := hc j u hu; have r := k (b.add j) u (by rw [add_block]; exact q.1) q.2; ⟨by have := r.2; rwa [add_block] at this, r.1⟩, LRels.keeps hι k h⟩
  | .rdA _ l, _, h => by
    simp only [LRel] at *
    obtain ⟨A, m, c, ys, e, h1, h2, h3, h4, h⟩ := h
    refine ⟨A, m, c, ys, e, h1, h2, h3, fun hm => ?_, LRels.keeps hι k h⟩
    obtain ⟨ad, hA, hc⟩ := h4 hm
    exact ⟨ad, hA, fun j u hu => have q := hc j u hu; have r := k (ad.add j) u (by rw [add_block]; exact q.1) q.2; ⟨by have := r.2; rwa [add_block] at this, r.1⟩⟩
  | .pc _, _, h => by
    simp only [LRel] at *
    obtain ⟨p, u, e, hF, hc, h⟩ := h
    exact ⟨p, u, e, (k _ _ hF hc).2, (k _ _ hF hc).1, LRel.keeps hι k h⟩
  | .own _, _, h => by simp only [LRel] at *; exact hι _ _ h
  | .ptr _ _, _, h => by
    simp only [LRel] at *
    obtain ⟨b, h, e⟩ := h
    exact ⟨b, hι _ _ h, e⟩
  | .pe _ _, _, h => by
    simp only [LRel] at *
    obtain ⟨g, n, c, h, e⟩ := h
    exact ⟨g, n, c, hι _ _ h, e⟩
  | .sub _ _ _, _, h => by
    simp only [LRel] at *
    obtain ⟨A, N, c, h, e⟩ := h
    exact ⟨A, N, c, hι _ _ h, e⟩
  | .fn _ _, _, h => by
    simp only [LRel] at *
    obtain ⟨ys, e, h⟩ := h
    exact ⟨ys, e, LRels.keeps hι k h⟩
theorem LRels.keeps {ι ι' : Nat → Option Value} {F F' : Nat → Prop} {w w' : World} (hι : ∀ id v, ι id = some v → ι' id = some v) (k : Keeps F F' w w') : ∀ {l : List LV} {ys : List Value}, LRels ι F w l ys → LRels ι' F' w' l ys
  | [], _, h => by simp only [LRels] at *; exact h
  | _ :: _, _, h => by
    simp only [LRels] at *
    obtain ⟨y, r, e, h1, h2⟩ := h
    exact ⟨y, r, e, LRel.keeps hι k h1, LRels.keeps hι k h2⟩
end
mutual
theorem LRel.kills {ι ι' : Nat → Option Value} {F F' : Nat → Prop} {w w' : World} {q : Nat → Bool} (hι : ∀ id v, q id = false → ι id = some v → ι' id = some v) (k : Keeps F F' w w') : ∀ {x : LV} {y : Value}, LRel ι F w x y → LRel ι' F' w' (kill q x) y
  | .v _, _, h => by simp only [LRel, kill] at *; exact h
  | .junk, _, _ => by simp only [LRel, kill]
  | .rd _, _, h => by simp only [LRel, kill] at *; exact h.keeps k
  | .rds _, _, h => by
    simp only [LRel, kill] at *
    obtain ⟨hs, h1, h2⟩ := h
    exact ⟨hs, h1.keeps k, h2.keeps k⟩
  | .rdL _, _, h => by
    simp only [LRel, kill] at *
    obtain ⟨ys, e, h⟩ := h
    exact ⟨ys, e.keeps k, LRels.kills hι k h⟩
  | .agg _, _, h => by
    simp only [LRel, kill] at *
    obtain ⟨ys, e, h⟩ := h
    exact ⟨ys, e, LRels.kills hι k h⟩
  | .tup _, _, h => by
    simp only [LRel, kill] at *
    obtain ⟨ys, e, h⟩ := h
    exact ⟨ys, e, LRels.kills hι k h⟩
  | .box l, _, h => by
    simp only [LRel, kill] at *
    obtain ⟨b, ys, e, hc, h⟩ := h
    exact ⟨b, ys, e, fun j u hu => have q := hc j u hu; have r := k (b.add j) u (by rw [add_block]; exact q.1) q.2; ⟨by have := r.2; rwa [add_block] at this, r.1⟩, LRels.kills hι k h⟩
  | .rdA _ l, _, h => by
    simp only [LRel, kill] at *
    obtain ⟨A, m, c, ys, e, h1, h2, h3, h4, h⟩ := h
    refine ⟨A, m, c, ys, e, h1, h2, h3, fun hm => ?_, LRels.kills hι k h⟩
    obtain ⟨ad, hA, hc⟩ := h4 hm
    exact ⟨ad, hA, fun j u hu => have q := hc j u hu; have r := k (ad.add j) u (by rw [add_block]; exact q.1) q.2; ⟨by have := r.2; rwa [add_block] at this, r.1⟩⟩
  | .pc _, _, h => by
    simp only [LRel, kill] at *
    obtain ⟨p, u, e, hF, hc, h⟩ := h
    exact ⟨p, u, e, (k _ _ hF hc).2, (k _ _ hF hc).1, LRel.kills hι k h⟩
  | .own id, _, h => by
    simp only [LRel, kill] at *
    cases hq : q id with
    | true => simp [LRel]
    | false => simp only [Bool.false_eq_true, if_false, LRel]; exact hι _ _ hq h
  | .ptr id _, _, h => by
    simp only [LRel, kill] at *
    obtain ⟨b, h, e⟩ := h
    cases hq : q id with
    | true => simp [LRel]
    | false => simp only [Bool.false_eq_true, if_false, LRel]; exact ⟨b, hι _ _ hq h, e⟩
  | .pe id _, _, h => by
    simp only [LRel, kill] at *
    obtain ⟨g, n, c, h, e⟩ := h
    cases hq : q id with
    | true => simp [LRel]
    | false => simp only [Bool.false_eq_true, if_false, LRel]; exact ⟨g, n, c, hι _ _ hq h, e⟩
  | .sub id _ _, _, h => by
    simp only [LRel, kill] at *
    obtain ⟨A, N, c, h, e⟩ := h
    cases hq : q id with
    | true => simp [LRel]
    | false => simp only [Bool.false_eq_true, if_false, LRel]; exact ⟨A, N, c, hι _ _ hq h, e⟩
  | .fn _ _, _, h => by
    simp only [LRel, kill] at *
    obtain ⟨ys, e, h⟩ := h
    exact ⟨ys, e, LRels.kills hι k h⟩
theorem LRels.kills {ι ι' : Nat → Option Value} {F F' : Nat → Prop} {w w' : World} {q : Nat → Bool} (hι : ∀ id v, q id = false → ι id = some v → ι' id = some v) (k : Keeps F F' w w') : ∀ {l : List LV} {ys : List Value}, LRels ι F w l ys → LRels ι' F' w' (kills q l) ys
  | [], _, h => by simp only [LRels, kills] at *; exact h
  | _ :: _, _, h => by
    simp only [LRels, kills] at *
    obtain ⟨y, r, e, h1, h2⟩ := h
    exact ⟨y, r, e, LRel.kills hι k h1, LRels.kills hι k h2⟩
end
mutual
theorem LRel.rens {ι : Nat → Option Value} {F : Nat → Prop} {w : World} {m : Nat → Nat} : ∀ {x : LV} {y : Value}, LRel (fun i => ι (m i)) F w x y → LRel ι F w (ren m x) y
  | .v _, _, h => by simp only [LRel, ren] at *; exact h
  | .junk, _, _ => by simp only [LRel, ren]
  | .rd _, _, h => by simp only [LRel, ren] at *; exact h
  | .rds _, _, h => by
    simp only [LRel, ren] at *
    obtain ⟨hs, h1, h2⟩ := h
    exact ⟨hs, h1, h2⟩
  | .rdL _, _, h => by
    simp only [LRel, ren] at *
    obtain ⟨ys, e, h⟩ := h
    exact ⟨ys, e, LRels.rens h⟩
  | .agg _, _, h => by
    simp only [LRel, ren] at *
    obtain ⟨ys, e, h⟩ := h
    exact ⟨ys, e, LRels.rens h⟩
  | .tup _, _, h => by
    simp only [LRel, ren] at *
    obtain ⟨ys, e, h⟩ := h
    exact ⟨ys, e, LRels.rens h⟩
  | .box l, _, h => by
    simp only [LRel, ren] at *
    obtain ⟨b, ys, e, hc, h⟩ := h
    exact ⟨b, ys, e, hc, LRels.rens h⟩
  | .rdA _ l, _, h => by
    simp only [LRel, ren] at *
    obtain ⟨A, m, c, ys, e, h1, h2, h3, h4, h⟩ := h
    exact ⟨A, m, c, ys, e, h1, h2, h3, h4, LRels.rens h⟩
  | .pc _, _, h => by
    simp only [LRel, ren] at *
    obtain ⟨p, u, e, hF, hc, h⟩ := h
    exact ⟨p, u, e, hF, hc, LRel.rens h⟩
  | .own _, _, h => by simp only [LRel, ren] at *; exact h
  | .ptr _ _, _, h => by
    simp only [LRel, ren] at *
    obtain ⟨b, h, e⟩ := h
    exact ⟨b, h, e⟩
  | .pe _ _, _, h => by
    simp only [LRel, ren] at *
    obtain ⟨g, n, c, h, e⟩ := h
    exact ⟨g, n, c, h, e⟩
  | .sub _ _ _, _, h => by
    simp only [LRel, ren] at *
    obtain ⟨A, N, c, h, e⟩ := h
    exact ⟨A, N, c, h, e⟩
  | .fn _ _, _, h => by
    simp only [LRel, ren] at *
    obtain ⟨ys, e, h⟩ := h
    exact ⟨ys, e, LRels.rens h⟩
theorem LRels.rens {ι : Nat → Option Value} {F : Nat → Prop} {w : World} {m : Nat → Nat} : ∀ {l : List LV} {ys : List Value}, LRels (fun i => ι (m i)) F w l ys → LRels ι F w (Go.Proofs.YtcjhojdlfnpgjaaGreat.rens m l) ys
  | [], _, h => by simp only [LRels, Go.Proofs.YtcjhojdlfnpgjaaGreat.rens] at *; exact h
  | _ :: _, _, h => by
    simp only [LRels, Go.Proofs.YtcjhojdlfnpgjaaGreat.rens] at *
    obtain ⟨y, r, e, h1, h2⟩ := h
    exact ⟨y, r, e, LRel.rens h1, LRels.rens h2⟩
end
end Go.Proofs.YtcjhojdlfnpgjaaGreat
namespace Go.Proofs.YtcjhojdlfnpgjaaGreat
open Go.RowKit
inductive OC where
  | cells (t : Nat) (l : List LV)
  | row (e : Nat) (vs : List Value)
  | rowL (e : Nat) (l : List LV)
  | rows (e e' : Nat) (t : List (List Value))
  | hole (e e' : Nat) (t : List (List Value)) (i : Nat) (j : Option Nat)
  | late (e : Nat) (vs : List Value)
  | cust (A : Value → Value → World → (Nat → Prop) → Prop) (r : LV) (j : Option Nat)
  | ghost (vs : List Value)
  deriving Inhabited
def killO (q : Nat → Bool) : OC → OC
  | .cells t l => .cells t (kills q l)
  | .rowL e l => .rowL e (kills q l)
  | .hole e e' t i j => .hole e e' t i (j.filter fun k => !q k)
  | .cust A r j => .cust A r (j.filter fun k => !q k)
  | o => o
def AOk (A : Value → Value → World → (Nat → Prop) → Prop) (r : LV) : Prop := ∀ v y w fp, A v y w fp → v.oneCell' = true ∧ (∀ w' : World, (∀ k, fp k → w'.heap[k]? = w.heap[k]?) → A v y w' fp) ∧ ∀ ι F, (∀ k, fp k → ¬ F k) → LRel ι F w r v
def OwnAll (w : World) (base e : Nat) (fp : Nat → Prop) : List (List Value) → List Value → Prop
  | [], hs => hs = []
  | r :: t, hs => ∃ h hs', hs = h :: hs' ∧ w.ownsRow base e 1 h r.length r ∧ (∀ k, h.ownBlock = some k → fp k) ∧ OwnAll w base e (fun k => fp k ∧ h.ownBlock ≠ some k) t hs'
def ORel (ι : Nat → Option Value) (F : Nat → Prop) (w : World) (base : Nat) (fp : Nat → Prop) (id : Nat) : OC → Prop
  | .cells t l => ∃ b ys, ι id = some (.pointer (some ⟨b, 0, none⟩)) ∧ base ≤ b ∧ (∀ k, fp k ↔ k = b) ∧ w.heap[b]? = some (.cells (List.toArray ys) t (0, 0)) ∧ LRels ι F w l ys
  | .row e vs => ∃ v, ι id = some v ∧ w.ownsRow base e 1 v vs.length vs ∧ (∀ k, fp k ↔ v.ownBlock = some k)
  | .rowL e l => ∃ v ys, ι id = some v ∧ w.ownsRow base e 1 v ys.length ys ∧ (∀ k, fp k ↔ v.ownBlock = some k) ∧ LRels ι F w l ys
  | .rows e e' t => ∃ v hs, ι id = some v ∧ w.ownsRow base e 1 v hs.length hs ∧ (∀ k, v.ownBlock = some k → fp k) ∧ OwnAll w base e' (fun k => fp k ∧ v.ownBlock ≠ some k) t hs ∧ (∀ k, fp k → base ≤ k ∧ k < w.heap.size)
  | .hole e e' t i jo => ∃ v hs y, ι id = some v ∧ w.ownsRow base e 1 v hs.length hs ∧ (∀ k, v.ownBlock = some k → fp k) ∧ OwnAll w base e' (fun k => fp k ∧ v.ownBlock ≠ some k) (t.set i []) (hs.set i (.slice none 0 0)) ∧ (∀ k, fp k → base ≤ k ∧ k < w.heap.size) ∧ hs[i]? = some y ∧ ∀ j, jo = some j → ι j = some y
  | .late e vs => (ι id = some (.bool false) ∧ ∀ k, ¬ fp k) ∨ (∃ v, ι id = some v ∧ w.ownsRow base e 1 v vs.length vs ∧ (∀ k, fp k ↔ v.ownBlock = some k)) ∨ ∃ b, ι id = some (.pointer (some ⟨b, 0, none⟩)) ∧ base ≤ b ∧ (∀ k, fp k ↔ k = b) ∧ w.heap[b]? = some (.cells (List.toArray vs) e (0, 0))
  | .cust A r jo => ∃ v y, ι id = some v ∧ AOk A r ∧ A v y w fp ∧ (∀ k, fp k → base ≤ k ∧ k < w.heap.size) ∧ ∀ j, jo = some j → ι j = some y
  | .ghost vs => ∃ v, ι id = some v ∧ (∀ k, ¬ fp k) ∧ RS F w vs v
structure St where
  lf : Nat → LV
  σ : Nat → Option OC
def FF (σ : Nat → Option OC) (fp : Nat → Nat → Prop) (k : Nat) : Prop := ∃ id oc, σ id = some oc ∧ fp id k
structure Base where
  w : World
  B : Nat → Prop
  fix : Nat → Option Value
  hi : ∀ id, 16 ≤ id → fix id = none
structure Kept (b : Base) (w : World) : Prop where
  os : w.os = b.w.os
  tape : w.tape = b.w.tape
  output : w.output = b.w.output
  size : b.w.heap.size ≤ w.heap.size
  block : ∀ k, k < b.w.heap.size → ¬ b.B k → w.heap[k]? = b.w.heap[k]?
structure Inv (w0 : Base) (w : World) (ι : Nat → Option Value) (fp : Nat → Nat → Prop) (s : St) (f : Nat → Value) : Prop where
  fr : ∀ i, LRel ι (FF s.σ fp) w (s.lf i) (f i)
  ob : ∀ id oc, s.σ id = some oc → ORel ι (FF s.σ fp) w 0 (fp id) id oc
  dis : ∀ id id' oc oc' k, s.σ id = some oc → s.σ id' = some oc' → fp id k → fp id' k → id = id'
  bel : Kept w0 w
  low : ∀ k, FF s.σ fp k → w0.w.heap.size ≤ k ∨ w0.B k
  fix : ∀ id v, w0.fix id = some v → ι id = some v
def updL (f : Nat → LV) (d : Nat) (x : LV) : Nat → LV := fun i => if i = d then x else f i
def updV (f : Nat → Value) (d : Nat) (x : Value) : Nat → Value := fun i => if i = d then x else f i
def St.put (s : St) : Option Tmp → LV → St
  | some d, x => ⟨updL s.lf d x, s.σ⟩
  | none, _ => s
def putV (f : Nat → Value) : Option Tmp → Value → Nat → Value
  | some d, x => updV f d x
  | none, _ => f
def evL (s : St) : Operand → LV
  | .tmp t => s.lf t
  | .const v => .v v
  | .global g => .v (.pointer (some ⟨g, 0, none⟩))
  | .func g => .fn g []
def evV (f : Nat → Value) : Operand → Value
  | .tmp t => f t
  | .const v => v
  | .global g => .pointer (some ⟨g, 0, none⟩)
  | .func g => .func (.func g) #[] #[]
structure FR (n : Nat) (f : Nat → Value) (a : Act) : Prop where
  size : a.tmps.size = n
  defers : a.defers = []
  val : ∀ i, a.tmps.getD i undef = f i
theorem FR.eval {n : Nat} {f : Nat → Value} {a : Act} (h : FR n f a) : a.eval = evV f := by
  funext x
  cases x with
  | tmp t => exact h.val t
  | _ => rfl
theorem FR.put {n : Nat} {f : Nat → Value} {a : Act} (h : FR n f a) (dst : Option Tmp) (hd : ∀ d, dst = some d → d < n) (v : Value) : FR n (putV f dst v) (a.put dst v) := by
  cases dst with
  | none => exact h
  | some d =>
    have hlt := hd d rfl
    refine ⟨by simp [Act.put, h.size], h.defers, fun i => ?_⟩
    have hv := h.val i
    simp only [Act.put, putV, updV, Array.getD_eq_getD_getElem?] at *
    by_cases e : i = d
    · subst e
      rw [if_pos rfl, Array.getElem?_setIfInBounds_self, if_pos (by rw [h.size]; exact hlt)]
      rfl
    · rw [if_neg e, Array.getElem?_setIfInBounds_ne (Ne.symm e)]
      exact hv
theorem Inv.put {w0 : Base} {w : World} {ι : Nat → Option Value} {fp : Nat → Nat → Prop} {s : St} {f : Nat → Value} (h : Inv w0 w ι fp s f) (dst : Option Tmp) {x : LV} {v : Value} (hx : LRel ι (FF s.σ fp) w x v) : Inv w0 w ι fp (s.put dst x) (putV f dst v) := by
  cases dst with
  | none => exact h
  | some d =>
    refine ⟨fun i => ?_, h.ob, h.dis, h.bel, h.low, h.fix⟩
    show LRel ι (FF s.σ fp) w (updL s.lf d x i) (updV f d v i)
    unfold updL updV
    by_cases e : i = d
    · rw [if_pos e, if_pos e]; exact hx
    · rw [if_neg e, if_neg e]; exact h.fr i
theorem Inv.ev {w0 : Base} {w : World} {ι : Nat → Option Value} {fp : Nat → Nat → Prop} {s : St} {f : Nat → Value} (h : Inv w0 w ι fp s f) (x : Operand) : LRel ι (FF s.σ fp) w (evL s x) (evV f x) := by
  cases x with
  | tmp t => exact h.fr t
  | func g => simp only [evL, evV, LRel, LRels]; exact ⟨[], rfl, rfl⟩
  | _ => simp only [evL, evV, LRel]
inductive Out (P : Program) (w0 : Base) (f : Nat → Value) (K : LV → St → Prop) : Result Next → Prop
  | value (r : LV) (s : St) (v : Value) (w : World) (ι : Nat → Option Value) (fp : Nat → Nat → Prop) (hI : Inv w0 w ι fp s f) (hr : LRel ι (FF s.σ fp) w r v) (hK : K r s) : Out P w0 f K (.ok (.value v) w)
  | skip (s : St) (w : World) (ι : Nat → Option Value) (fp : Nat → Nat → Prop) (hI : Inv w0 w ι fp s f) (hK : K .junk s) : Out P w0 f K (.ok .skip w)
  | enter (g : FuncId) (args : Array Value) (w : World) (hc : Calls P g args w fun e w' => ∃ r s v ι fp, e = .returned v ∧ Inv w0 w' ι fp s f ∧ LRel ι (FF s.σ fp) w' r v ∧ K r s) : Out P w0 f K (.ok (.enter g args) w)
def OpT (P : Program) (o : Oper) (s : St) (K : LV → St → Prop) : Prop :=
  ∀ w0 w ι fp f, Inv w0 w ι fp s f → Out P w0 f K ((execOp (evV f) o).run P w)
def After (n : Nat) (w0 : Base) (K : St → Prop) (a : Act) (w : World) : Prop := ∃ s f ι fp, FR n f a ∧ Inv w0 w ι fp s f ∧ K s
theorem OpT.wp {P : Program} {o : Oper} {s : St} {K : LV → St → Prop} (h : OpT P o s K) {n : Nat} (hd : ∀ d, o.dst = some d → d < n) {w0 : Base} {w : World} {ι : Nat → Option Value} {fp : Nat → Nat → Prop} {f : Nat → Value} {a : Act} (hf : FR n f a) (hI : Inv w0 w ι fp s f)
    {next : Act → World → Prop} {Q : Exit → Act → World → Prop} (hn : ∀ a' w', After n w0 (fun s' => ∃ r s1, K r s1 ∧ s' = s1.put o.dst r) a' w' → next a' w') : o.wp P a w next Q := by
  have H := h w0 w ι fp f hI
  unfold Oper.wp
  rw [hf.eval]
  generalize (execOp (evV f) o).run P w = R at H
  cases H with
  | value r s1 v w1 ι1 fp1 hI1 hr hK =>
    rw [Oper.upon_value]
    exact hn _ _ ⟨_, _, _, _, hf.put o.dst hd v, hI1.put o.dst hr, r, s1, hK, rfl⟩
  | skip s1 w1 ι1 fp1 hI1 hK =>
    rw [Oper.upon_skip]
    exact hn _ _ ⟨_, _, _, _, hf.put o.dst hd undef, hI1.put o.dst (by simp only [LRel]), .junk, s1, hK, rfl⟩
  | enter g args w1 hc =>
    rw [Oper.upon_enter]
    refine hc.mono ?_
    rintro e w2 ⟨r, s1, v, ι1, fp1, rfl, hI1, hr, hK⟩
    exact hn _ _ ⟨_, _, _, _, hf.put o.dst hd v, hI1.put o.dst hr, r, s1, hK, rfl⟩
def OpsT (P : Program) (all : Array Oper) (n : Nat) (l : List Oper) (s : St) (K : St → Prop) : Prop :=
  ∀ w0 w ι fp f a Q, FR n f a → Inv w0 w ι fp s f → (∀ a' w', After n w0 K a' w' → Q .normal a' w') → wpList P all Q l a w
theorem OpsT.nil {P : Program} {all : Array Oper} {n : Nat} {s : St} {K : St → Prop} (h : K s) : OpsT P all n [] s K :=
  fun _ _ _ _ _ _ _ hf hI hQ => hQ _ _ ⟨_, _, _, _, hf, hI, h⟩
theorem OpsT.mono {P : Program} {all : Array Oper} {n : Nat} {l : List Oper} {s : St} {K K' : St → Prop} (h : OpsT P all n l s K) (hk : ∀ s, K s → K' s) : OpsT P all n l s K' :=
  fun w0 w ι fp f a Q hf hI hQ => h w0 w ι fp f a Q hf hI fun a' w' ⟨s1, f1, ι1, fp1, h1, h2, h3⟩ => hQ _ _ ⟨s1, f1, ι1, fp1, h1, h2, hk _ h3⟩
theorem OpsT.cons {P : Program} {all : Array Oper} {n : Nat} {o : Oper} {l : List Oper} {s : St} {K : St → Prop} (hg : o.guard = none) (hd : ∀ d, o.dst = some d → d < n)
    (h : OpT P o s fun r s' => OpsT P all n l (s'.put o.dst r) K) : OpsT P all n (o :: l) s K := by
  intro w0 w ι fp f a Q hf hI hQ
  refine wpList_plain hg fun K' hK' => h.wp hd hf hI ?_
  rintro a' w' ⟨s1, f1, ι1, fp1, hf1, hI1, r, s2, hK, rfl⟩
  exact hK' _ _ (hK w0 w' ι1 fp1 f1 a' Q hf1 hI1 hQ)
def slotOf (all : Array Oper) (j : Nat) : Nat := ((all[j]?).bind (·.dst)).getD 0
theorem yielded_of {n : Nat} {f : Nat → Value} {a : Act} (hf : FR n f a) (all : Array Oper) (j d : Nat) (hj : (all[j]?).bind (·.dst) = some d) (hd : d < n) :
    yielded all a.tmps j = match f d with | .bool b => some b | _ => none := by
  unfold yielded
  rw [hj]
  have hs : d < a.tmps.size := by rw [hf.size]; exact hd
  have hv := hf.val d
  simp only [Array.getD_eq_getD_getElem?, Array.getElem?_eq_getElem hs, Option.getD_some] at hv
  simp only [Option.bind_some, Array.getElem?_eq_getElem hs, hv]
  cases f d <;> rfl
theorem OpsT.guarded {P : Program} {all : Array Oper} {n : Nat} {o : Oper} {l : List Oper} {s : St} {K : St → Prop} {j d : Nat} {want : Bool} (hg : o.guard = some (j, want)) (hd : ∀ d, o.dst = some d → d < n)
    (hj : (all[j]?).bind (·.dst) = some d) (hdn : d < n) {t : Bool} (ht : s.lf d = .v (.bool t))
    (h1 : t = want → OpT P o s fun r s' => OpsT P all n l (s'.put o.dst r) K) (h2 : ¬ t = want → OpsT P all n l (s.put o.dst (.v undef)) K) : OpsT P all n (o :: l) s K := by
  intro w0 w ι fp f a Q hf hI hQ
  have hv := hI.fr d
  rw [ht] at hv
  simp only [LRel] at hv
  have hy := yielded_of hf all j d hj hdn
  rw [hv] at hy
  refine wpList_step fun K' hK' => ?_
  by_cases e : t = want
  · have hw : Region.wanted o (yielded all a.tmps) = true := by simp [Region.wanted, hg, hy, e]
    rw [if_pos hw]
    refine (h1 e).wp hd hf hI ?_
    rintro a' w' ⟨s1, f1, ι1, fp1, hf1, hI1, r, s2, hK, rfl⟩
    exact hK' _ _ (hK w0 w' ι1 fp1 f1 a' Q hf1 hI1 hQ)
  · have hw : Region.wanted o (yielded all a.tmps) = false := by simp [Region.wanted, hg, hy, e]
    rw [if_neg (by rw [hw]; decide)]
    exact hK' _ _ (h2 e w0 w ι fp _ _ Q (hf.put o.dst hd undef) (hI.put o.dst (by simp only [LRel])) hQ)
theorem OpsT.off {P : Program} {all : Array Oper} {n : Nat} {o : Oper} {l : List Oper} {s : St} {K : St → Prop} {j d : Nat} {want : Bool} (hg : o.guard = some (j, want)) (hd : ∀ d, o.dst = some d → d < n)
    (hj : (all[j]?).bind (·.dst) = some d) (hdn : d < n) (ht : s.lf d = .v undef) (h2 : OpsT P all n l (s.put o.dst (.v undef)) K) : OpsT P all n (o :: l) s K := by
  intro w0 w ι fp f a Q hf hI hQ
  have hv := hI.fr d
  rw [ht] at hv
  simp only [LRel] at hv
  have hy := yielded_of hf all j d hj hdn
  rw [hv] at hy
  refine wpList_step fun K' hK' => ?_
  have hw : Region.wanted o (yielded all a.tmps) = false := by simp [Region.wanted, hg, hy, undef]
  rw [if_neg (by rw [hw]; decide)]
  exact hK' _ _ (h2 w0 w ι fp _ _ Q (hf.put o.dst hd undef) (hI.put o.dst (by simp only [LRel])) hQ)
def Post (n : Nat) (w0 : Base) (N : St → Prop) (X : Nat → St → Prop) (R : St → Prop) : Exit → Act → World → Prop
  | .normal, a, w => After n w0 N a w
  | .exit j, a, w => After n w0 (X j) a w
  | .ret, a, w => After n w0 R a w
  | _, _, _ => False
def CodeT (P : Program) (n : Nat) (c : Code) (s : St) (N : St → Prop) (X : Nat → St → Prop) (R : St → Prop) : Prop :=
  ∀ w0 w ι fp f a, FR n f a → Inv w0 w ι fp s f → c.wp P (Post n w0 N X R) a w
theorem After.mono {n : Nat} {w0 : Base} {K K' : St → Prop} {a : Act} {w : World} (h : After n w0 K a w) (hk : ∀ s, K s → K' s) : After n w0 K' a w :=
  let ⟨s, f, ι, fp, h1, h2, h3⟩ := h
  ⟨s, f, ι, fp, h1, h2, hk _ h3⟩
section
variable {P : Program} {n : Nat} {s : St} {N : St → Prop} {X : Nat → St → Prop} {R : St → Prop}
theorem CodeT.skip (h : N s) : CodeT P n .skip s N X R := fun _ _ _ _ _ _ hf hI => wp_skip ⟨_, _, _, _, hf, hI, h⟩
theorem CodeT.exit {id : Nat} (h : X id s) : CodeT P n (.exit id) s N X R := fun _ _ _ _ _ _ hf hI => wp_exit ⟨_, _, _, _, hf, hI, h⟩
theorem CodeT.ret (h : R s) : CodeT P n .ret s N X R := fun _ _ _ _ _ _ hf hI => wp_ret ⟨_, _, _, _, hf, hI, h⟩
theorem CodeT.mono {c : Code} {N' : St → Prop} {X' : Nat → St → Prop} {R' : St → Prop} (h : CodeT P n c s N X R) (hN : ∀ s, N s → N' s) (hX : ∀ j s, X j s → X' j s) (hR : ∀ s, R s → R' s) : CodeT P n c s N' X' R' :=
  fun w0 w ι fp f a hf hI => Code.wp_mono (fun e a w q => by
    cases e <;> simp only [Post] at q ⊢
    · exact q.mono hN
    · exact q.mono (hX _)
    · exact q.mono hR) (h w0 w ι fp f a hf hI)
theorem CodeT.seq {x y : Code} (h : CodeT P n x s (fun s' => CodeT P n y s' N X R) X R) : CodeT P n (.seq x y) s N X R :=
  fun w0 w ι fp f a hf hI => wp_seq (Code.wp_mono (fun e a w q => by
    cases e <;> simp only [Post, Exit.then] at q ⊢ <;> try exact q
    obtain ⟨s1, f1, ι1, fp1, h1, h2, h3⟩ := q
    exact h3 _ _ _ _ _ _ h1 h2) (h w0 w ι fp f a hf hI))
theorem CodeT.cond {c : Operand} {x y : Code} {t : Bool} (hc : evL s c = .v (.bool t)) (h1 : t = true → CodeT P n x s N X R) (h2 : t = false → CodeT P n y s N X R) : CodeT P n (.cond c x y) s N X R := by
  intro w0 w ι fp f a hf hI
  have hv := hI.ev c
  rw [hc] at hv
  simp only [LRel] at hv
  refine wp_cond (t := t) (by rw [hf.eval]; exact hv) ?_
  cases t with
  | true => exact h1 rfl w0 w ι fp f a hf hI
  | false => exact h2 rfl w0 w ι fp f a hf hI
def inX (id : Nat) (N : St → Prop) (X : Nat → St → Prop) : Nat → St → Prop := fun j s => if j = id then N s else X j s
theorem CodeT.block {id : Nat} {c : Code} (h : CodeT P n c s N (inX id N X) R) : CodeT P n (.block id c) s N X R :=
  fun w0 w ι fp f a hf hI => wp_block (Code.wp_mono (fun e a w q => by
    cases e <;> simp only [Post, Exit.inBlock] at q ⊢ <;> try exact q
    rename_i j
    unfold inX at q
    by_cases e : j = id
    · rw [if_pos e]
      exact q.mono (fun s hs => by rwa [if_pos e] at hs)
    · rw [if_neg e]
      exact q.mono (fun s hs => by rwa [if_neg e] at hs)) (h w0 w ι fp f a hf hI))
theorem CodeT.region {id : Nat} {ops : List Oper} (h : OpsT P ops.toArray n ops s N) : CodeT P n (.region id ops.toArray false) s N X R :=
  fun w0 w ι fp f a hf hI => wp_region_lit (h w0 w ι fp f a _ hf hI fun _ _ q => q)
def mkF : List (Nat × LV) → Nat → LV
  | [], _ => .junk
  | (i, x) :: l, j => if j = i then x else mkF l j
def mkO : List (Nat × OC) → Nat → Option OC
  | [], _ => none
  | (i, x) :: l, j => if j = i then some x else mkO l j
def mkS (l : List (Nat × LV)) (o : List (Nat × OC)) : St := ⟨mkF l, mkO o⟩
structure Le (s s' : St) : Prop where
  lf : ∀ i, s'.lf i = .junk ∨ s'.lf i = s.lf i
  σ : ∀ i, s'.σ i = none ∨ s'.σ i = s.σ i
theorem Inv.le {w0 : Base} {w : World} {ι : Nat → Option Value} {fp : Nat → Nat → Prop} {s s' : St} {f : Nat → Value} (h : Inv w0 w ι fp s f) (hle : Le s s') : Inv w0 w ι fp s' f := by
  have hs : ∀ i oc, s'.σ i = some oc → s.σ i = some oc := fun i oc hi => by
    rcases hle.σ i with h0 | h0
    · rw [h0] at hi; cases hi
    · rw [← h0]; exact hi
  have hF : ∀ k, FF s'.σ fp k → FF s.σ fp k := fun k ⟨id, oc, h1, h2⟩ => ⟨id, oc, hs _ _ h1, h2⟩
  have hk : Keeps (FF s.σ fp) (FF s'.σ fp) w w := fun p u hp hc => ⟨hc, fun hq => hp (hF _ hq)⟩
  refine ⟨fun i => ?_, fun id oc hi => ?_, fun id id' oc oc' k h1 h2 => h.dis id id' oc oc' k (hs _ _ h1) (hs _ _ h2), h.bel, fun k hk => h.low k (hF k hk), h.fix⟩
  · rcases hle.lf i with h0 | h0
    · rw [h0]; simp only [LRel]
    · rw [h0]; exact (h.fr i).keeps (fun _ _ e => e) hk
  · have ho := h.ob id oc (hs _ _ hi)
    cases oc with
    | cells t l =>
      obtain ⟨b, ys, h1, h2, h3, h4, h5⟩ := ho
      exact ⟨b, ys, h1, h2, h3, h4, h5.keeps (fun _ _ e => e) hk⟩
    | row e vs => exact ho
    | rowL e l =>
      obtain ⟨v, ys, h1, h2, h3, h4⟩ := ho
      exact ⟨v, ys, h1, h2, h3, h4.keeps (fun _ _ e => e) hk⟩
    | rows e e' t => exact ho
    | hole e e' t i j => exact ho
    | late e vs => exact ho
    | cust A r j => exact ho
    | ghost vs =>
      obtain ⟨v, h1, h2, h3⟩ := ho
      exact ⟨v, h1, h2, h3.keeps hk⟩
theorem CodeT.le {c : Code} {s' : St} (hle : Le s s') (h : CodeT P n c s' N X R) : CodeT P n c s N X R :=
  fun w0 w ι fp f a hf hI => h w0 w ι fp f a hf (hI.le hle)
theorem CodeT.loop {c : Code} (I : Nat → St → Prop) (m : Nat) (h0 : ∃ s', Le s s' ∧ I m s')
    (round : ∀ m s, I m s → CodeT P n c s (fun s' => ∃ s'' m', m' < m ∧ Le s' s'' ∧ I m' s'') X R) : CodeT P n (.loop c) s N X R := by
  intro w0 w ι fp f a hf hI
  obtain ⟨s1, hle, hi⟩ := h0
  refine wp_loop_ghost (fun m a w => ∃ s ι fp f, I m s ∧ FR n f a ∧ Inv w0 w ι fp s f) m ⟨s1, ι, fp, f, hi, hf, hI.le hle⟩ ?_
  rintro m a w ⟨s, ι, fp, f, hi, hf, hI⟩
  refine Code.wp_mono (fun e a w q => ?_) (round m s hi w0 w ι fp f a hf hI)
  cases e <;> simp only [Post, Exit.then] at q ⊢ <;> try exact q
  obtain ⟨s2, f2, ι2, fp2, h1, h2, s3, m', hm, hle', hi'⟩ := q
  exact ⟨m', hm, s3, ι2, fp2, f2, hi', h1, h2.le hle'⟩
end
end Go.Proofs.YtcjhojdlfnpgjaaGreat
namespace Go.Proofs.YtcjhojdlfnpgjaaGreat
open Go.RowKit
structure TT where
  sc : Nat → Bool
  ag : Nat → Option Nat
  fo : Nat → Nat → Option Nat
  sl : Nat → Option Nat
  ik : Nat → Option IntKind
  bo : Nat → Bool
  el : Nat → Option (Nat × Value × Nat)
  zr : Nat → Option Value
  ea : Nat → Option Nat
structure TT.Ok (T : TT) (P : Program) : Prop where
  sc : ∀ t, T.sc t = true → ∀ w, (isAgg t).run P w = .ok false w
  ag : ∀ t k, T.ag t = some k → ∀ w, (isAgg t).run P w = .ok true w ∧ (sizeOf t).run P w = .ok k w
  fo : ∀ t j o, T.fo t j = some o → ∀ w a, (Instr.fieldAt t (.pointer (some a)) j).run P w = .ok (.pointer (some (a.add o))) w
  ik : ∀ t k, T.ik t = some k → P.underlying t = some (.int k)
  bo : ∀ t, T.bo t = true → P.underlying t = some .bool
  el : ∀ t e z b, T.el t = some (e, z, b) → P.underlying t = some (.slice e) ∧ ∃ i, P.info? e = some i ∧ i.zero = some z ∧ i.size = 1 ∧ i.bytes = b ∧ z.cells = #[z]
  zr : ∀ t z, T.zr t = some z → ∀ w, (zeroValue t).run P w = .ok z w
  ea : ∀ t e, T.ea t = some e → P.underlying t = some (.slice e) ∧ ∃ i z, P.info? e = some i ∧ i.zero = some z ∧ i.size = 1 ∧ z.cells.size = 1
  s1 : ∀ t, T.sc t = true → ∀ w, (sizeOf t).run P w = .ok 1 w
  sl : ∀ t e, T.sl t = some e → ∀ w, (underlying t).run P w = .ok (.slice e) w ∧ (sizeOf e).run P w = .ok 1 w
def InR (x : Int) : Prop := -9223372036854775808 ≤ x ∧ x ≤ 9223372036854775807
def andV (k : IntKind) (x y : Int) : Int := k.wrap (BitVec.ofInt k.bits x &&& BitVec.ofInt k.bits y).toNat
def orV (k : IntKind) (x y : Int) : Int := k.wrap (BitVec.ofInt k.bits x ||| BitVec.ofInt k.bits y).toNat
def xorV (k : IntKind) (x y : Int) : Int := k.wrap (BitVec.ofInt k.bits x ^^^ BitVec.ofInt k.bits y).toNat
def shlV (k : IntKind) (x y : Int) : Int := k.wrap (x * 2 ^ (min y.toNat k.bits))
def shrV (k : IntKind) (x y : Int) : Int := x.fdiv (2 ^ (min y.toNat k.bits))
def BinV (T : TT) (t : Nat) : BinOp → Value → Value → (Value → Prop) → Prop
  | .add, .int .i64 a, .int .i64 b, K => InR (a + b) ∧ K (.int .i64 (a + b))
  | .sub, .int .i64 a, .int .i64 b, K => InR (a - b) ∧ K (.int .i64 (a - b))
  | .mul, .int .i64 a, .int .i64 b, K => InR (a * b) ∧ K (.int .i64 (a * b))
  | .quo, .int .i64 a, .int .i64 b, K => b ≠ 0 ∧ InR (a.tdiv b) ∧ K (.int .i64 (a.tdiv b))
  | .rem, .int .i64 a, .int .i64 b, K => b ≠ 0 ∧ K (.int .i64 (a.tmod b))
  | .add, .int .u64 a, .int .u64 b, K => K (.int .u64 (IntKind.u64.wrap (a + b)))
  | .mul, .int .u64 a, .int .u64 b, K => K (.int .u64 (IntKind.u64.wrap (a * b)))
  | .sub, .int .u8 a, .int .u8 b, K => K (.int .u8 (IntKind.u8.wrap (a - b)))
  | .sub, .int .u64 a, .int .u64 b, K => K (.int .u64 (IntKind.u64.wrap (a - b)))
  | .add, .int .u8 a, .int .u8 b, K => K (.int .u8 (IntKind.u8.wrap (a + b)))
  | .eql, .int k a, .int k' b, K => k = k' ∧ K (.bool (a == b))
  | .neq, .int k a, .int k' b, K => k = k' ∧ K (.bool (a != b))
  | .lss, .int k a, .int k' b, K => k = k' ∧ K (.bool (decide (a < b)))
  | .leq, .int k a, .int k' b, K => k = k' ∧ K (.bool (decide (a ≤ b)))
  | .gtr, .int k a, .int k' b, K => k = k' ∧ K (.bool (decide (a > b)))
  | .geq, .int k a, .int k' b, K => k = k' ∧ K (.bool (decide (a ≥ b)))
  | .eql, .string a, .string b, K => K (.bool (a.toList == b.toList))
  | .neq, .string a, .string b, K => K (.bool (!(a.toList == b.toList)))
  | .eql, .bool a, .bool b, K => T.bo t = true ∧ K (.bool (a == b))
  | .neq, .bool a, .bool b, K => T.bo t = true ∧ K (.bool (!(a == b)))
  | .and, .int k a, .int k' b, K => k = k' ∧ K (.int k (andV k a b))
  | .or, .int k a, .int k' b, K => k = k' ∧ K (.int k (orV k a b))
  | .xor, .int k a, .int k' b, K => k = k' ∧ K (.int k (xorV k a b))
  | .shl, .int k a, .int _ b, K => 0 ≤ b ∧ K (.int k (shlV k a b))
  | .shr, .int k a, .int _ b, K => 0 ≤ b ∧ K (.int k (shrV k a b))
  | .add, .string a, .string b, K => a.size + b.size ≤ 9223372036854775807 ∧ K (.string (a ++ b))
  | _, _, _, _ => False
theorem wrapI {x : Int} (h : InR x) : IntKind.i64.wrap x = x := by
  obtain ⟨h1, h2⟩ := h
  rw [IntKind.wrap_i64]
  omega
theorem run_eqB {P : Program} {t : Nat} (ht : P.underlying t = some .bool) (a b : Bool) (w : World) : (Op.equal t (.bool a) (.bool b)).run P w = .ok (a == b) w := by
  have h : ∀ d, (Op.equalIn (d + 1) t (.bool a) (.bool b)).run P w = .ok (a == b) w := fun d => by simp [Op.equalIn, run_underlying ht]
  simp [Op.equal, Op.maxDepth, h 9999]
theorem BinV.sound' {P : Program} {T : TT} (hT : T.Ok P) {b : BinOp} {t : Nat} {x y : Value} {X Y : Operand} {K : Value → Prop} (h : BinV T t b x y K) :
    ∃ v, (∀ w, (do eqGuard b t X Y x y; binOp b t x y : Sem Value).run P w = .ok v w) ∧ K v := by
  unfold BinV at h
  split at h
  · obtain ⟨h1, h2⟩ := h; exact ⟨_, fun w => by simp [eqGuard, binOp, Op.intArith, wrapI h1], h2⟩
  · obtain ⟨h1, h2⟩ := h; exact ⟨_, fun w => by simp [eqGuard, binOp, Op.intArith, wrapI h1], h2⟩
  · obtain ⟨h1, h2⟩ := h; exact ⟨_, fun w => by simp [eqGuard, binOp, Op.intArith, wrapI h1], h2⟩
  · obtain ⟨h0, h1, h2⟩ := h; exact ⟨_, fun w => by simp [eqGuard, binOp, Op.intDiv, h0, wrapI h1], h2⟩
  · obtain ⟨h0, h2⟩ := h; exact ⟨_, fun w => by simp [eqGuard, binOp, Op.intDiv, h0], h2⟩
  · exact ⟨_, fun w => by simp [eqGuard, binOp, Op.intArith], h⟩
  · exact ⟨_, fun w => by simp [eqGuard, binOp, Op.intArith], h⟩
  · exact ⟨_, fun w => by simp [eqGuard, binOp, Op.intArith], h⟩
  · exact ⟨_, fun w => by simp [eqGuard, binOp, Op.intArith], h⟩
  · exact ⟨_, fun w => by simp [eqGuard, binOp, Op.intArith], h⟩
  · obtain ⟨rfl, h2⟩ := h; exact ⟨_, fun w => by simp [eqGuard, binOp, Op.intCmp], h2⟩
  · obtain ⟨rfl, h2⟩ := h; exact ⟨_, fun w => by simp [eqGuard, binOp, Op.intCmp], h2⟩
  · obtain ⟨rfl, h2⟩ := h; exact ⟨_, fun w => by simp [eqGuard, binOp, Op.intCmp], h2⟩
  · obtain ⟨rfl, h2⟩ := h; exact ⟨_, fun w => by simp [eqGuard, binOp, Op.intCmp], h2⟩
  · obtain ⟨rfl, h2⟩ := h; exact ⟨_, fun w => by simp [eqGuard, binOp, Op.intCmp], h2⟩
  · obtain ⟨rfl, h2⟩ := h; exact ⟨_, fun w => by simp [eqGuard, binOp, Op.intCmp], h2⟩
  · exact ⟨_, fun w => by simp [eqGuard, binOp, Op.stringOp], h⟩
  · exact ⟨_, fun w => by simp [eqGuard, binOp, Op.stringOp], h⟩
  · obtain ⟨h1, h2⟩ := h; exact ⟨_, fun w => by simp [eqGuard, binOp, run_eqB (hT.bo t h1)], h2⟩
  · obtain ⟨h1, h2⟩ := h; exact ⟨_, fun w => by simp [eqGuard, binOp, run_eqB (hT.bo t h1)], h2⟩
  · obtain ⟨rfl, h2⟩ := h; exact ⟨_, fun w => by simp [eqGuard, binOp, Op.intBits, andV], h2⟩
  · obtain ⟨rfl, h2⟩ := h; exact ⟨_, fun w => by simp [eqGuard, binOp, Op.intBits, orV], h2⟩
  · obtain ⟨rfl, h2⟩ := h; exact ⟨_, fun w => by simp [eqGuard, binOp, Op.intBits, xorV], h2⟩
  · obtain ⟨h1, h2⟩ := h; exact ⟨_, fun w => by simp [eqGuard, binOp, Op.shift, shlV, Int.not_lt.2 h1], h2⟩
  · obtain ⟨h1, h2⟩ := h; exact ⟨_, fun w => by simp [eqGuard, binOp, Op.shift, shrV, Int.not_lt.2 h1], h2⟩
  · obtain ⟨h1, h2⟩ := h; exact ⟨_, fun w => by simp only [eqGuard, binOp, Op.stringOp]; rw [if_neg (c := _ > IntKind.i64.max) (by rw [show IntKind.i64.max = 9223372036854775807 from rfl]; omega)]; simp, h2⟩
  · exact h.elim
def dv (vs : List Value) (n : Nat) : Value := vs.getD n (.int .i64 0)
def OpP (P : Program) (o : Oper) (ρ : Operand → LV) (σ : Nat → Option OC) (r : LV) : Prop :=
  ∀ w0 w ι fp s f, Inv w0 w ι fp s f → s.σ = σ → (∀ x ∈ o.op.operands, evL s x = ρ x) → Out P w0 f (fun r' s' => r' = r ∧ s' = s) ((execOp (evV f) o).run P w)
def opL (P : Program) (T : TT) (o : Oper) (ρ : Operand → LV) (σ : Nat → Option OC) (K : LV → Prop) : Prop :=
  match o.op with
  | .move x | .assign x => K (ρ x)
  | .pick c a b => match ρ c with
    | .v (.bool t) => (t = true → K (ρ a)) ∧ (t = false → K (ρ b))
    | _ => False
  | .binOp b t x y _ => match ρ x, ρ y with
    | .v x, .v y => BinV T t b x y fun v => K (.v v)
    | _, _ => False
  | .unOp .not _ x => match ρ x with
    | .v (.bool t) => K (.v (.bool !t))
    | _ => False
  | .unOp .neg _ x => match ρ x with
    | .v (.int .i64 a) => InR (0 - a) ∧ K (.v (.int .i64 (0 - a)))
    | _ => False
  | .extract x j => match ρ x with
    | .tup l => match l[j]? with | some y => K y | none => False
    | _ => False
  | .box _ x => match ρ x with
    | .agg l => K (.box l)
    | .v (.int k a) => K (.box [.v (.int k a)])
    | .v (.string a) => K (.box [.v (.string a)])
    | .rd a => K (.box [.rd a])
    | .rds a => K (.box [.rds a])
    | .rdL a => K (.box [.rdL a])
    | .fn g c => K (.box [.fn g c])
    | _ => False
  | .load t x => match ρ x with
    | .pc y => match T.ag t with
      | none => T.sc t = true ∧ K y
      | some k => k = 1 ∧ K (.agg [y])
    | .box l => match T.ag t with
      | some k => l.length = k ∧ K (.agg l)
      | none => match l with
        | y :: _ => T.sc t = true ∧ K y
        | [] => False
    | .ptr id off => match σ id with
      | some (.cells _ l) => match T.ag t with
        | some k => off = 0 ∧ l.length = k ∧ K (.agg l)
        | none => match l[off]? with
          | some y => T.sc t = true ∧ K y
          | none => False
      | _ => False
    | .pe id i => match σ id with
      | some (.row _ vs) => T.sc t = true ∧ i < vs.length ∧ K (.v (dv vs i))
      | _ => False
    | _ => ∃ r, K r ∧ OpP P o ρ σ r
  | .fieldAddr t x j => match T.fo t j with
    | none => False
    | some o => match ρ x with
      | .box l => match l[o]? with | some y => K (.pc y) | none => False
      | .ptr id off => K (.ptr id (off + o))
      | _ => False
  | .nilCheck x => match ρ x with
    | .ptr id off => K (.ptr id off)
    | _ => ∃ r, K r ∧ OpP P o ρ σ r
  | .indexAddr t x i => match T.sl t, ρ i with
    | some _, .v (.int _ i) => match ρ x with
      | .rd vs => 0 ≤ i ∧ i < (vs.length : Int) ∧ K (.pc (.v (dv vs i.toNat)))
      | .rds vs => 0 ≤ i ∧ i < (vs.length : Int) ∧ K (.pc (.rd (vs.getD i.toNat [])))
      | .rdL vs => 0 ≤ i ∧ i < (vs.length : Int) ∧ K (.pc (vs.getD i.toNat .junk))
      | .own id => match σ id with
        | some (.row _ vs) => 0 ≤ i ∧ i < (vs.length : Int) ∧ K (.pe id i.toNat)
        | some (.rows _ _ vs) => 0 ≤ i ∧ i < (vs.length : Int) ∧ K (.pe id i.toNat)
        | _ => False
      | _ => ∃ r, K r ∧ OpP P o ρ σ r
    | _, _ => ∃ r, K r ∧ OpP P o ρ σ r
  | .convert a t x => match T.ik a, T.ik t, ρ x with
    | some _, some .i64, .v (.int _ n) => InR n ∧ K (.v (.int .i64 n))
    | some _, some k, .v (.int _ n) => K (.v (.int k (k.wrap n)))
    | _, _, _ => ∃ r, K r ∧ OpP P o ρ σ r
  | .makeFunc (.func g) first caps => if first = #[] then K (.fn g (caps.toList.map ρ)) else (∃ r, K r ∧ OpP P o ρ σ r)
  | .call c => match c.callee with
    | .builtin .len => match c.args[0]?, c.argTypes[0]? with
      | some x, some t => match ρ x with
        | .rd vs => (T.sl t).isSome = true ∧ K (.v (.int .i64 vs.length))
        | .rds vs => (T.sl t).isSome = true ∧ K (.v (.int .i64 vs.length))
        | .rdL vs => (T.sl t).isSome = true ∧ K (.v (.int .i64 vs.length))
        | .own id => match σ id with
          | some (.row _ vs) => (T.sl t).isSome = true ∧ K (.v (.int .i64 vs.length))
          | some (.rows _ _ vs) => (T.sl t).isSome = true ∧ K (.v (.int .i64 vs.length))
          | some (.rowL _ vs) => (T.sl t).isSome = true ∧ K (.v (.int .i64 vs.length))
          | _ => False
        | _ => ∃ r, K r ∧ OpP P o ρ σ r
      | _, _ => ∃ r, K r ∧ OpP P o ρ σ r
    | _ => ∃ r, K r ∧ OpP P o ρ σ r
  | _ => ∃ r, K r ∧ OpP P o ρ σ r
theorem LRels.length {ι : Nat → Option Value} {F : Nat → Prop} {w : World} : ∀ {l : List LV} {ys : List Value}, LRels ι F w l ys → ys.length = l.length
  | [], _, h => by simp only [LRels] at h; rw [h]; rfl
  | _ :: _, _, h => by
    simp only [LRels] at h
    obtain ⟨y, r, e, h1, h2⟩ := h
    rw [e]; simp [h2.length]
theorem LRels.get {ι : Nat → Option Value} {F : Nat → Prop} {w : World} : ∀ {l : List LV} {ys : List Value} (j : Nat) (x : LV), LRels ι F w l ys → l[j]? = some x → ∃ y, ys[j]? = some y ∧ LRel ι F w x y
  | [], _, _, _, _, hj => by simp at hj
  | _ :: _, _, j, x, h, hj => by
    simp only [LRels] at h
    obtain ⟨y, r, e, h1, h2⟩ := h
    subst e
    cases j with
    | zero => simp at hj; subst hj; exact ⟨y, rfl, h1⟩
    | succ j => simpa using LRels.get j x h2 (by simpa using hj)
theorem LRels.map {ι : Nat → Option Value} {F : Nat → Prop} {w : World} {f : Nat → Value} {s : St} (h : ∀ x, LRel ι F w (evL s x) (evV f x)) : ∀ l : List Operand, LRels ι F w (l.map (evL s)) (l.map (evV f))
  | [] => by simp [LRels]
  | x :: l => by simp only [List.map_cons, LRels]; exact ⟨_, _, rfl, h x, LRels.map h l⟩
theorem LRels.map' {ι : Nat → Option Value} {F : Nat → Prop} {w : World} {f : Nat → Value} {ρ : Operand → LV} : ∀ {l : List Operand}, (∀ x ∈ l, LRel ι F w (ρ x) (evV f x)) → LRels ι F w (l.map ρ) (l.map (evV f))
  | [], _ => by simp [LRels]
  | x :: l, h => by simp only [List.map_cons, LRels]; exact ⟨_, _, rfl, h x (by simp), LRels.map' fun y hy => h y (by simp [hy])⟩
theorem run_loadCellsFrom' (P : Program) (w : World) (a : Addr) : ∀ (ys : List Value) (i : Nat) (acc : Array Value), (∀ j u, ys[j]? = some u → w.cell? (a.add (i + j)) = some u) →
    (loadCellsFrom a i ys.length acc).run P w = .ok (acc ++ ys.toArray) w
  | [], i, acc, h => by simp [loadCellsFrom]
  | y :: ys, i, acc, h => by
    have h0 := h 0 y rfl
    simp only [List.length_cons, loadCellsFrom, Sem.run_bind, run_load]
    rw [show i = i + 0 from rfl, h0]
    simp only [Result.andThen_ok, Nat.add_zero]
    rw [run_loadCellsFrom' P w a ys (i + 1) _ (fun j u hu => by rw [show i + 1 + j = i + (j + 1) by omega]; exact h (j + 1) u (by simpa using hu))]
    simp
theorem run_loadAt_sc {P : Program} {T : TT} (hT : T.Ok P) {t : Nat} (ht : T.sc t = true) {w : World} {p : Addr} {u : Value} (hc : w.cell? p = some u) : (Instr.loadAt t (.pointer (some p))).run P w = .ok u w := by
  simp [Instr.loadAt, Instr.sureAddr, loadVar, hT.sc t ht w, hc]
theorem run_loadAt_ag {P : Program} {T : TT} (hT : T.Ok P) {t : Nat} {ys : List Value} (ht : T.ag t = some ys.length) {w : World} {b : Nat} (hc : ∀ j u, ys[j]? = some u → w.cell? ⟨b, j, none⟩ = some u) : (Instr.loadAt t (.pointer (some ⟨b, 0, none⟩))).run P w = .ok (.agg ys.toArray) w := by
  obtain ⟨h1, h2⟩ := hT.ag t _ ht w
  have := run_loadCellsFrom' P w ⟨b, 0, none⟩ ys 0 #[] (fun j u hu => by
    have ha : (⟨b, 0, none⟩ : Addr).add (0 + j) = ⟨b, j, none⟩ := by unfold Addr.add; split <;> simp_all
    rw [ha]; exact hc j u hu)
  simp [Instr.loadAt, Instr.sureAddr, loadVar, h1, h2, loadCells, this]
theorem run_loadAt_agP {P : Program} {T : TT} (hT : T.Ok P) {t : Nat} {ys : List Value} (ht : T.ag t = some ys.length) {w : World} {p : Addr} (hc : ∀ j u, ys[j]? = some u → w.cell? (p.add j) = some u) : (Instr.loadAt t (.pointer (some p))).run P w = .ok (.agg ys.toArray) w := by
  obtain ⟨h1, h2⟩ := hT.ag t _ ht w
  have := run_loadCellsFrom' P w p ys 0 #[] (fun j u hu => by
    rw [Nat.zero_add]; exact hc j u hu)
  simp [Instr.loadAt, Instr.sureAddr, loadVar, h1, h2, loadCells, this]
theorem cell_at {w : World} {b : Nat} {ys : List Value} {t : Nat} {fr : Nat × Nat} (h : w.heap[b]? = some (.cells (List.toArray ys) t fr)) (j : Nat) : w.cell? ⟨b, j, none⟩ = ys[j]? := by
  simp [World.cell?, h]
theorem add0 (b j : Nat) : (⟨b, 0, none⟩ : Addr).add j = ⟨b, j, none⟩ := by unfold Addr.add; split <;> simp_all
theorem add_add (b i j : Nat) : (⟨b, i, none⟩ : Addr).add j = ⟨b, i + j, none⟩ := by unfold Addr.add; split <;> simp_all
theorem dv_get {vs : List Value} {i : Nat} (h : i < vs.length) : vs[i]? = some (dv vs i) := by
  simp [dv, List.getD_eq_getElem?_getD, List.getElem?_eq_getElem h]
theorem own_cell {w : World} {base e : Nat} {v : Value} {vs : List Value} (h : w.ownsRow base e 1 v vs.length vs) {i : Nat} (hi : i < vs.length) : ∃ g cap, v = .slice (some ⟨g, 0, none⟩) vs.length cap ∧ w.cell? ⟨g, i, none⟩ = some (dv vs i) := by
  rcases h.2 with ⟨_, h0⟩ | ⟨g, cap, cur, rfl, _⟩
  · omega
  · refine ⟨g, cap, rfl, ?_⟩
    have := h.cells (g := g) rfl i _ (dv_get hi)
    rwa [add0] at this
theorem own_len {w : World} {base e : Nat} {v : Value} {n : Nat} {vs : List Value} (h : w.ownsRow base e 1 v n vs) : ∃ A cap, v = .slice A n cap := by
  rcases h.2 with ⟨rfl, h0⟩ | ⟨g, cap, cur, rfl, _⟩
  · subst h0; exact ⟨none, 0, rfl⟩
  · exact ⟨_, cap, rfl⟩
section
variable {P : Program} {o : Oper} {ρ : Operand → LV} {σ : Nat → Option OC} {K : LV → Prop}
theorem OpP.pure_ {r : LV} (hK : K r) (h : ∀ w0 w ι fp s f, Inv w0 w ι fp s f → s.σ = σ → (∀ x ∈ o.op.operands, LRel ι (FF σ fp) w (ρ x) (evV f x)) → ∃ v, (execOp (evV f) o).run P w = .ok (.value v) w ∧ LRel ι (FF σ fp) w r v) : ∃ r, K r ∧ OpP P o ρ σ r := by
  refine ⟨r, hK, fun w0 w ι fp s f hI hσ hx => ?_⟩
  obtain ⟨v, hr, hv⟩ := h w0 w ι fp s f hI hσ fun x hm => by rw [← hx x hm, ← hσ]; exact hI.ev x
  rw [hr]
  exact .value r s v w ι fp hI (by rw [hσ]; exact hv) ⟨rfl, rfl⟩
end
end Go.Proofs.YtcjhojdlfnpgjaaGreat
namespace Go.Proofs.YtcjhojdlfnpgjaaGreat
open Go.RowKit
section
variable {P : Program} {T : TT} {s : St} {K : LV → St → Prop}
theorem box_cells {ι : Nat → Option Value} {F : Nat → Prop} {w : World} {l : List LV} {ys : List Value} (hl : LRels ι F w l ys) (t : Nat) (hF : ¬ F w.heap.size) (hk : ∀ k, F k → k < w.heap.size) :
    LRel ι F (w.alloc (.cells ys.toArray t)) (.box l) (.pointer (some ⟨w.heap.size, 0, none⟩)) := by
  simp only [LRel]
  refine ⟨⟨w.heap.size, 0, none⟩, ys, rfl, fun j u hu => ⟨hF, ?_⟩, hl.keeps (fun _ _ e => e) fun p u hp hc => ⟨?_, hp⟩⟩
  · rw [add0, World.cell?_alloc_new]; simpa using hu
  · rw [World.cell?_alloc_lt (h := World.block_lt_of_cell? _ _ hc)]; exact hc
theorem ORel.lt {ι : Nat → Option Value} {F : Nat → Prop} {w : World} {base : Nat} {fp : Nat → Prop} {id : Nat} {oc : OC} (h : ORel ι F w base fp id oc) : ∀ k, fp k → base ≤ k ∧ k < w.heap.size := by
  intro k hk
  cases oc with
  | cells t l =>
    obtain ⟨b, ys, h1, h2, h3, h4, h5⟩ := h
    rw [(h3 k).1 hk]
    exact ⟨h2, (Array.getElem?_eq_some_iff.1 h4).1⟩
  | row e vs =>
    obtain ⟨v, h1, h2, h3⟩ := h
    exact h2.lt k ((h3 k).1 hk)
  | rowL e l =>
    obtain ⟨v, ys, h1, h2, h3, h4⟩ := h
    exact h2.lt k ((h3 k).1 hk)
  | rows e e' t =>
    obtain ⟨v, hs, h1, h2, h3, h4, h5⟩ := h
    exact h5 k hk
  | hole e e' t i j =>
    obtain ⟨v, hs, y, h1, h2, h3, h4, h5, _⟩ := h
    exact h5 k hk
  | cust A r j =>
    obtain ⟨v, y, h1, h2, h3, h4, h5⟩ := h
    exact h4 k hk
  | ghost vs =>
    obtain ⟨v, h1, h2, h3⟩ := h
    exact (h2 k hk).elim
  | late e vs =>
    rcases h with h | ⟨v, h1, h2, h3⟩ | ⟨b, h1, h2, h3, h4⟩
    · exact (h.2 k hk).elim
    · exact h2.lt k ((h3 k).1 hk)
    · rw [(h3 k).1 hk]
      exact ⟨h2, (Array.getElem?_eq_some_iff.1 h4).1⟩
theorem Inv.lt {w0 : Base} {w : World} {ι : Nat → Option Value} {fp : Nat → Nat → Prop} {f : Nat → Value} (h : Inv w0 w ι fp s f) : ∀ k, FF s.σ fp k → (w0.w.heap.size ≤ k ∨ w0.B k) ∧ k < w.heap.size :=
  fun k hk => ⟨h.low k hk, let ⟨id, oc, h1, h2⟩ := hk; ((h.ob id oc h1).lt k h2).2⟩
theorem OwnAll.keeps {w w' : World} {base e : Nat} : ∀ {t : List (List Value)} {hs : List Value} {fp : Nat → Prop}, OwnAll w base e fp t hs → (∀ k, fp k → w'.heap[k]? = w.heap[k]?) → OwnAll w' base e fp t hs
  | [], _, _, h, _ => h
  | r :: t, hs, fp, ⟨h, hs', e1, h1, h2, h3⟩, hk => by
    refine ⟨h, hs', e1, ?_, h2, h3.keeps fun k hk' => hk k hk'.1⟩
    refine ⟨h1.1, ?_⟩
    rcases h1.2 with hn | ⟨g, cap, cur, rfl, hb, hg, rest⟩
    · exact .inl hn
    · exact .inr ⟨g, cap, cur, rfl, hb, by rw [hk g (h2 g rfl)]; exact hg, rest⟩
theorem own_keeps {w w' : World} {base e n : Nat} {v : Value} {vs : List Value} (h : w.ownsRow base e 1 v n vs) (hk : ∀ k, v.ownBlock = some k → w'.heap[k]? = w.heap[k]?) : w'.ownsRow base e 1 v n vs := by
  refine ⟨h.1, ?_⟩
  rcases h.2 with hn | ⟨g, cap, cur, rfl, hb, hg, rest⟩
  · exact .inl hn
  · exact .inr ⟨g, cap, cur, rfl, hb, by rw [hk g rfl]; exact hg, rest⟩
theorem ORel.keeps {ι ι' : Nat → Option Value} {F F' : Nat → Prop} {w w' : World} {base : Nat} {fp : Nat → Prop} {id : Nat} {oc : OC} (h : ORel ι F w base fp id oc)
    (hι : ∀ id v, ι id = some v → ι' id = some v) (k : Keeps F F' w w') (hs : w.heap.size ≤ w'.heap.size) (hb : ∀ k, fp k → w'.heap[k]? = w.heap[k]?) : ORel ι' F' w' base fp id oc := by
  cases oc with
  | cells t l =>
    obtain ⟨b, ys, h1, h2, h3, h4, h5⟩ := h
    exact ⟨b, ys, hι _ _ h1, h2, h3, by rw [hb b ((h3 b).2 rfl)]; exact h4, h5.keeps hι k⟩
  | row e vs =>
    obtain ⟨v, h1, h2, h3⟩ := h
    exact ⟨v, hι _ _ h1, own_keeps h2 fun k hk => hb k ((h3 k).2 hk), h3⟩
  | rowL e l =>
    obtain ⟨v, ys, h1, h2, h3, h4⟩ := h
    exact ⟨v, ys, hι _ _ h1, own_keeps h2 fun k hk => hb k ((h3 k).2 hk), h3, h4.keeps hι k⟩
  | rows e e' t =>
    obtain ⟨v, hs', h1, h2, h3, h4, h5⟩ := h
    exact ⟨v, hs', hι _ _ h1, own_keeps h2 fun k hk => hb k (h3 k hk), h3, h4.keeps fun k hk => hb k hk.1, fun k hk => ⟨(h5 k hk).1, by have := (h5 k hk).2; omega⟩⟩
  | hole e e' t i j =>
    obtain ⟨v, hs', y, h1, h2, h3, h4, h5, h6, h7⟩ := h
    exact ⟨v, hs', y, hι _ _ h1, own_keeps h2 fun k hk => hb k (h3 k hk), h3, h4.keeps fun k hk => hb k hk.1, fun k hk => ⟨(h5 k hk).1, by have := (h5 k hk).2; omega⟩, h6, fun j hj => hι _ _ (h7 j hj)⟩
  | cust A r j =>
    obtain ⟨v, y, h1, h2, h3, h4, h5⟩ := h
    exact ⟨v, y, hι _ _ h1, h2, (h2 v y w fp h3).2.1 w' hb, fun k hk => ⟨(h4 k hk).1, by have := (h4 k hk).2; omega⟩, fun j hj => hι _ _ (h5 j hj)⟩
  | ghost vs =>
    obtain ⟨v, h1, h2, h3⟩ := h
    exact ⟨v, hι _ _ h1, h2, h3.keeps k⟩
  | late e vs =>
    rcases h with h | ⟨v, h1, h2, h3⟩ | ⟨b, h1, h2, h3, h4⟩
    · exact .inl ⟨hι _ _ h.1, h.2⟩
    · exact .inr (.inl ⟨v, hι _ _ h1, own_keeps h2 fun k hk => hb k ((h3 k).2 hk), h3⟩)
    · exact .inr (.inr ⟨b, hι _ _ h1, h2, h3, by rw [hb b ((h3 b).2 rfl)]; exact h4⟩)
theorem Kept.below {b : Base} {w w' : World} (h : Kept b w) (hb : Below w.heap.size w w') : Kept b w' :=
  ⟨hb.os.trans h.os, hb.tape.trans h.tape, hb.output.trans h.output, Nat.le_trans h.size hb.size, fun k hk hB => (hb.block k (Nat.lt_of_lt_of_le hk h.size)).trans (h.block k hk hB)⟩
theorem Kept.refl (b : Base) : Kept b b.w := ⟨rfl, rfl, rfl, Nat.le_refl _, fun _ _ _ => rfl⟩
theorem Inv.step {w0 : Base} {w w' : World} {ι : Nat → Option Value} {fp : Nat → Nat → Prop} {f : Nat → Value} (h : Inv w0 w ι fp s f) (hb : Below w.heap.size w w') : Inv w0 w' ι fp s f := by
  have hk : Keeps (FF s.σ fp) (FF s.σ fp) w w' := fun p u hp hc => ⟨(hb.cell (World.block_lt_of_cell? _ _ hc)).trans hc, hp⟩
  refine ⟨fun i => (h.fr i).keeps (fun _ _ e => e) hk, fun id oc hi => (h.ob id oc hi).keeps (fun _ _ e => e) hk hb.size fun k hk' => hb.block k ((h.ob id oc hi).lt k hk').2, h.dis, h.bel.below hb, h.low, h.fix⟩
theorem Inv.grow {w0 : Base} {w : World} {ι : Nat → Option Value} {fp : Nat → Nat → Prop} {f : Nat → Value} (h : Inv w0 w ι fp s f) (o : Obj) : Inv w0 (w.alloc o) ι fp s f :=
  h.step ((Below.refl _ w).alloc (Nat.le_refl _) o)
theorem run_conv {P : Program} {a t : Nat} {k0 k k' : IntKind} (ha : P.underlying a = some (.int k0)) (ht : P.underlying t = some (.int k')) (n : Int) (w : World) : (convert a t (.int k n)).run P w = .ok (.int k' (k'.wrap n)) w := by
  simp [convert, run_underlying ha, run_underlying ht, Conv.intToInt]
theorem opL_sound (hT : T.Ok P) {o : Oper} {ρ : Operand → LV} {σ : Nat → Option OC} {K : LV → Prop} (h : opL P T o ρ σ K) : ∃ r, K r ∧ OpP P o ρ σ r := by
  obtain ⟨dst, op, type, pos, after, guard⟩ := o
  cases op with
  | move x => exact OpP.pure_ h fun w0 w ι fp s f hI hS ha => ⟨_, by simp [execOp], ha x (by simp [Op.operands])⟩
  | assign x => exact OpP.pure_ h fun w0 w ι fp s f hI hS ha => ⟨_, by simp [execOp], ha x (by simp [Op.operands])⟩
  | pick c a b =>
    simp only [opL] at h
    split at h <;> try exact h.elim
    rename_i t ht
    have hc : ∀ {w : World} {ι : Nat → Option Value} {F : Nat → Prop} {f : Nat → Value}, LRel ι F w (ρ c) (evV f c) → evV f c = .bool t := by
      intro w ι F f hv
      rw [ht] at hv
      simpa only [LRel] using hv
    cases t with
    | true => exact OpP.pure_ (h.1 rfl) fun w0 w ι fp s f hI hS ha => ⟨evV f a, by simp [execOp, hc (ha c (by simp [Op.operands])), asBool], ha a (by simp [Op.operands])⟩
    | false => exact OpP.pure_ (h.2 rfl) fun w0 w ι fp s f hI hS ha => ⟨evV f b, by simp [execOp, hc (ha c (by simp [Op.operands])), asBool], ha b (by simp [Op.operands])⟩
  | binOp b t x y t' =>
    simp only [opL] at h
    split at h <;> try exact h.elim
    rename_i x' y' hx hy
    obtain ⟨v, hr, hv⟩ : ∃ v, (∀ w, (do eqGuard b t x y x' y'; binOp b t x' y' : Sem Value).run P w = .ok v w) ∧ K (.v v) := BinV.sound' hT h
    refine OpP.pure_ hv fun w0 w ι fp s f hI hS ha => ⟨v, ?_, by simp only [LRel]⟩
    have hvx := ha x (by simp [Op.operands])
    have hvy := ha y (by simp [Op.operands])
    rw [hx] at hvx
    rw [hy] at hvy
    simp only [LRel] at hvx hvy
    have hr := hr w
    simp only [execOp, hvx, hvy, Sem.run_bind] at hr ⊢
    rw [hr]; rfl
  | unOp u t x =>
    cases u with
    | not =>
      simp only [opL] at h
      split at h <;> try exact h.elim
      rename_i b hb
      refine OpP.pure_ h fun w0 w ι fp s f hI hS ha => ⟨.bool !b, ?_, by simp only [LRel]⟩
      have hv := ha x (by simp [Op.operands])
      rw [hb] at hv
      simp only [LRel] at hv
      simp [execOp, hv, Op.unary]
    | neg =>
      simp only [opL] at h
      split at h <;> try exact h.elim
      rename_i a hneg
      refine OpP.pure_ h.2 fun w0 w ι fp s f hI hS ha => ⟨.int .i64 (0 - a), ?_, by simp only [LRel]⟩
      have hv := ha x (by simp [Op.operands])
      rw [hneg] at hv
      simp only [LRel] at hv
      have hw := wrapI h.1
      simp [execOp, hv, Op.unary, Op.intArith] at hw ⊢
      exact hw
    | _ => exact h
  | extract x j =>
    simp only [opL] at h
    split at h <;> try exact h.elim
    rename_i l hl
    split at h <;> try exact h.elim
    rename_i y hy
    refine OpP.pure_ h fun w0 w ι fp s f hI hS ha => ?_
    have hv := ha x (by simp [Op.operands])
    rw [hl] at hv
    simp only [LRel] at hv
    obtain ⟨ys, e, hys⟩ := hv
    obtain ⟨u, hu, hr⟩ := LRels.get j y hys hy
    exact ⟨u, by simp [execOp, e, Instr.extract, hu], hr⟩
  | box t x =>
    have key : ∀ l : List LV, K (.box l) → (∀ (ι : Nat → Option Value) F w v, LRel ι F w (ρ x) v → ∃ ys, v.cells = List.toArray ys ∧ LRels ι F w l ys) → ∃ r, K r ∧ OpP P ⟨dst, .box t x, type, pos, after, guard⟩ ρ σ r := by
      intro l hK hl
      refine ⟨_, hK, fun w0 w ι fp s f hI hS ha => ?_⟩
      obtain ⟨ys, e, hys⟩ := hl _ _ _ _ (hI.ev x |> fun q => by rw [ha x (by simp [Op.operands])] at q; exact q)
      have hr : (execOp (evV f) ⟨dst, .box t x, type, pos, after, guard⟩).run P w = .ok (.value (.pointer (some ⟨w.heap.size, 0, none⟩))) (w.alloc (.cells ys.toArray t)) := by
        simp [execOp, Instr.box, newVar, newRow, e]
      rw [hr]
      have hlt := hI.lt
      exact .value (.box l) s _ _ ι fp (hI.grow _) (box_cells hys t (fun hq => by have := (hlt _ hq).2; omega) fun k hk => (hlt k hk).2) ⟨rfl, rfl⟩
    have key1 : ∀ y : LV, ρ x = y → (∀ (ι : Nat → Option Value) F w v, LRel ι F w y v → v.cells = #[v]) → K (.box [y]) → ∃ r, K r ∧ OpP P ⟨dst, .box t x, type, pos, after, guard⟩ ρ σ r := by
      intro y hx hy hK
      refine key _ hK fun ι F w v hv => ⟨[v], ?_, ?_⟩
      · rw [hx] at hv
        rw [hy _ _ _ _ hv]
      · simp only [LRels]
        exact ⟨v, [], rfl, by rw [← hx]; exact hv, rfl⟩
    simp only [opL] at h
    split at h <;> rename_i hx
    · exact key _ h fun ι F w v hv => by
        rw [hx] at hv; simp only [LRel] at hv
        obtain ⟨ys, e, hys⟩ := hv
        exact ⟨ys, by rw [e]; rfl, hys⟩
    · exact key1 _ hx (fun ι F w v hv => by simp only [LRel] at hv; subst hv; rfl) h
    · exact key1 _ hx (fun ι F w v hv => by simp only [LRel] at hv; subst hv; rfl) h
    · exact key1 _ hx (fun ι F w v hv => by simp only [LRel, RS] at hv; obtain ⟨A, c, e, _⟩ := hv; subst e; rfl) h
    · exact key1 _ hx (fun ι F w v hv => by simp only [LRel, RS] at hv; obtain ⟨hs, ⟨A, c, e, _⟩, _⟩ := hv; subst e; rfl) h
    · exact key1 _ hx (fun ι F w v hv => by simp only [LRel, RS] at hv; obtain ⟨hs, ⟨A, c, e, _⟩, _⟩ := hv; subst e; rfl) h
    · exact key1 _ hx (fun ι F w v hv => by simp only [LRel] at hv; obtain ⟨ys, e, _⟩ := hv; subst e; rfl) h
    · exact h.elim
  | load t x =>
    simp only [opL] at h
    split at h
    · rename_i y hx
      split at h
      · refine OpP.pure_ h.2 fun w0 w ι fp s f hI hS ha => ?_
        have hv := ha x (by simp [Op.operands])
        rw [hx] at hv
        simp only [LRel] at hv
        obtain ⟨p, u, e, hF, hc, hr⟩ := hv
        exact ⟨u, by simp [execOp, e, run_loadAt_sc hT h.1 hc], hr⟩
      · rename_i k hk
        obtain ⟨rfl, hK⟩ := h
        refine OpP.pure_ hK fun w0 w ι fp s f hI hS ha => ?_
        have hv := ha x (by simp [Op.operands])
        rw [hx] at hv
        simp only [LRel] at hv
        obtain ⟨p, u, e, hF, hc, hr⟩ := hv
        refine ⟨.agg #[u], ?_, by simp only [LRel, LRels]; exact ⟨[u], rfl, u, [], rfl, hr, rfl⟩⟩
        obtain ⟨h1, h2⟩ := hT.ag t _ hk w
        have := run_loadCellsFrom' P w p [u] 0 #[] (fun j u' hu => by
          match j, hu with
          | 0, hu => simp only [List.getElem?_cons_zero, Option.some.injEq] at hu; subst hu; rw [show p.add 0 = p by simp [Addr.add]]; exact hc
          | j + 1, hu => simp at hu)
        simp only [List.length_cons, List.length_nil, Nat.zero_add] at this
        simp [execOp, e, Instr.loadAt, Instr.sureAddr, loadVar, h1, h2, loadCells, this]
    · rename_i l hx
      split at h
      · rename_i k hk
        refine OpP.pure_ h.2 fun w0 w ι fp s f hI hS ha => ?_
        have hv := ha x (by simp [Op.operands])
        rw [hx] at hv
        simp only [LRel] at hv
        obtain ⟨b, ys, e, hc, hr⟩ := hv
        have hlen := hr.length
        refine ⟨_, by simp only [execOp, e, Sem.run_bind]; rw [run_loadAt_agP hT (by rw [hk, hlen, h.1]) (fun j u hu => (hc j u hu).2)]; rfl, ?_⟩
        simp only [LRel]
        exact ⟨ys, rfl, hr⟩
      · split at h <;> try exact h.elim
        rename_i y l'
        refine OpP.pure_ h.2 fun w0 w ι fp s f hI hS ha => ?_
        have hv := ha x (by simp [Op.operands])
        rw [hx] at hv
        simp only [LRel] at hv
        obtain ⟨b, ys, e, hc, hr⟩ := hv
        obtain ⟨u, hu, hru⟩ := LRels.get 0 y hr rfl
        exact ⟨u, by simp [execOp, e, run_loadAt_sc hT h.1 (show w.cell? b = some u from by have := (hc 0 u hu).2; rwa [show b.add 0 = b from by simp [Addr.add]] at this)], hru⟩
    · rename_i id off hx
      split at h <;> try exact h.elim
      rename_i t' l hσ
      have obj : ∀ {w0 w ι fp s f}, Inv w0 w ι fp s f → s.σ = σ → LRel ι (FF σ fp) w (ρ x) (evV f x) → ∃ b ys, evV f x = .pointer (some ⟨b, off, none⟩) ∧ (∀ j, w.cell? ⟨b, j, none⟩ = ys[j]?) ∧ LRels ι (FF σ fp) w l ys := by
        intro w0 w ι fp s f hI hS hv
        subst hS
        rw [hx] at hv
        simp only [LRel] at hv
        obtain ⟨b, e1, e2⟩ := hv
        obtain ⟨b', ys, h1, h2, h3, h4, h5⟩ := hI.ob id _ hσ
        rw [e1] at h1
        simp only [Option.some.injEq, Value.pointer.injEq, Addr.mk.injEq, and_true] at h1
        subst h1
        exact ⟨b, ys, e2, fun j => cell_at h4 j, h5⟩
      split at h
      · rename_i k hk
        obtain ⟨rfl, hl, hK⟩ := h
        refine OpP.pure_ hK fun w0 w ι fp s f hI hS ha => ?_
        obtain ⟨b, ys, e, hc, hr⟩ := obj hI hS (ha x (by simp [Op.operands]))
        have hlen := hr.length
        refine ⟨_, by simp only [execOp, e, Sem.run_bind]; rw [run_loadAt_ag hT (by rw [hk, hlen, hl]) (fun j u hu => by rw [hc j, hu])]; rfl, ?_⟩
        simp only [LRel]
        exact ⟨ys, rfl, hr⟩
      · split at h <;> try exact h.elim
        rename_i y hy
        refine OpP.pure_ h.2 fun w0 w ι fp s f hI hS ha => ?_
        obtain ⟨b, ys, e, hc, hr⟩ := obj hI hS (ha x (by simp [Op.operands]))
        obtain ⟨u, hu, hru⟩ := LRels.get off y hr hy
        exact ⟨u, by simp [execOp, e, run_loadAt_sc hT h.1 ((hc off).trans hu)], hru⟩
    · rename_i id i hx
      split at h <;> try exact h.elim
      rename_i e' vs hσ
      obtain ⟨ht, hi, hK⟩ := h
      refine OpP.pure_ hK fun w0 w ι fp s f hI hS ha => ?_
      have hv := ha x (by simp [Op.operands])
      rw [hx] at hv
      simp only [LRel] at hv
      obtain ⟨g, n, c, e1, e2⟩ := hv
      obtain ⟨v, h1, h2, h3⟩ := hI.ob id _ (by rw [hS]; exact hσ)
      obtain ⟨g', cap, e3, hc⟩ := own_cell h2 hi
      rw [e1] at h1
      simp only [Option.some.injEq] at h1
      rw [← h1] at e3
      simp only [Value.slice.injEq, Option.some.injEq, Addr.mk.injEq, and_true] at e3
      obtain ⟨rfl, _, _⟩ := e3
      exact ⟨dv vs i, by simp [execOp, e2, run_loadAt_sc hT ht hc], by simp only [LRel]⟩
    · exact h
  | fieldAddr t x j =>
    simp only [opL] at h
    split at h <;> try exact h.elim
    rename_i off hoff
    split at h <;> try exact h.elim
    · rename_i l hx
      split at h <;> try exact h.elim
      rename_i y hy
      refine OpP.pure_ h fun w0 w ι fp s f hI hS ha => ?_
      have hv := ha x (by simp [Op.operands])
      rw [hx] at hv
      simp only [LRel] at hv
      obtain ⟨b, ys, e, hc, hr⟩ := hv
      obtain ⟨u, hu, hru⟩ := LRels.get off y hr hy
      refine ⟨_, by simp only [execOp, e, Sem.run_bind]; rw [hT.fo _ _ _ hoff]; rfl, ?_⟩
      simp only [LRel]
      exact ⟨_, u, rfl, by rw [add_block]; exact (hc off u hu).1, (hc off u hu).2, hru⟩
    · rename_i id off' hx
      refine OpP.pure_ h fun w0 w ι fp s f hI hS ha => ?_
      have hv := ha x (by simp [Op.operands])
      rw [hx] at hv
      simp only [LRel] at hv
      obtain ⟨b, e1, e2⟩ := hv
      refine ⟨_, by simp only [execOp, e2, Sem.run_bind]; rw [hT.fo _ _ _ hoff]; rfl, ?_⟩
      simp only [LRel, add_add]
      exact ⟨b, e1, rfl⟩
  | indexAddr t x i =>
    simp only [opL] at h
    split at h <;> try exact h
    rename_i e k i' ht hi
    have iv : ∀ {w : World} {ι : Nat → Option Value} {F : Nat → Prop} {f : Nat → Value}, LRel ι F w (ρ i) (evV f i) → evV f i = .int k i' := by
      intro w ι F f hv
      rw [hi] at hv
      simpa only [LRel] using hv
    have run : ∀ {f w ad n c}, evV f x = .slice (some ad) n c → evV f i = .int k i' → 0 ≤ i' → i' < (n : Int) → (execOp (evV f) ⟨dst, .indexAddr t x i, type, pos, after, guard⟩).run P w = .ok (.value (.pointer (some (ad.add i'.toNat)))) w := by
      intro f w ad n c e1 e2 h0 h1
      obtain ⟨hu, hs⟩ := hT.sl t e ht w
      simp [execOp, e1, e2, Instr.indexAt, asIntOf, hu, hs, h0, h1]
    split at h
    · rename_i vs hx
      obtain ⟨h0, h1, hK⟩ := h
      refine OpP.pure_ hK fun w0 w ι fp s f hI hS ha => ?_
      have hv := ha x (by simp [Op.operands])
      rw [hx] at hv
      simp only [LRel, RS] at hv
      obtain ⟨A, c, e1, hlc, hR⟩ := hv
      obtain ⟨ad, rfl, hF, hc⟩ := hR.2 (by omega)
      refine ⟨_, run e1 (iv (ha i (by simp [Op.operands]))) h0 h1, ?_⟩
      simp only [LRel]
      exact ⟨_, _, rfl, by rw [add_block]; exact hF, hc i'.toNat _ (dv_get (by omega)), rfl⟩
    · rename_i vs hx
      obtain ⟨h0, h1, hK⟩ := h
      refine OpP.pure_ hK fun w0 w ι fp s f hI hS ha => ?_
      have hv := ha x (by simp [Op.operands])
      rw [hx] at hv
      simp only [LRel, RS] at hv
      obtain ⟨hs, ⟨A, c, e1, hlc, hR⟩, hrow⟩ := hv
      have hget : ∀ {t : List (List Value)} {hs : List Value} (j : Nat), RRow (FF σ fp) w t hs → j < t.length → ∃ u, hs[j]? = some u ∧ RS (FF σ fp) w (t.getD j []) u := by
        intro t
        induction t with
        | nil => intro hs j _ hj; simp at hj
        | cons r t ih =>
          rintro hs j ⟨u, hs', rfl, h1, h2⟩ hj
          cases j with
          | zero => exact ⟨u, rfl, h1⟩
          | succ j => simpa using ih j h2 (by simpa using hj)
      have hlen : ∀ {t : List (List Value)} {hs : List Value}, RRow (FF σ fp) w t hs → hs.length = t.length := by
        intro t
        induction t with
        | nil => intro hs h; rw [show hs = [] from h]; rfl
        | cons r t ih => rintro hs ⟨u, hs', rfl, h1, h2⟩; simp [ih h2]
      have hl := hlen hrow
      obtain ⟨ad, rfl, hF, hc⟩ := hR.2 (by omega)
      obtain ⟨u, hu, hru⟩ := hget i'.toNat hrow (by omega)
      refine ⟨_, run e1 (iv (ha i (by simp [Op.operands]))) h0 (by omega), ?_⟩
      simp only [LRel]
      exact ⟨_, u, rfl, by rw [add_block]; exact hF, hc i'.toNat _ hu, hru⟩
    · rename_i vs hx
      obtain ⟨h0, h1, hK⟩ := h
      refine OpP.pure_ hK fun w0 w ι fp s f hI hS ha => ?_
      have hv := ha x (by simp [Op.operands])
      rw [hx] at hv
      simp only [LRel, RS] at hv
      obtain ⟨hs, ⟨A, c, e1, hlc, hR⟩, hrow⟩ := hv
      have hl := hrow.length
      obtain ⟨ad, rfl, hF, hc⟩ := hR.2 (by omega)
      obtain ⟨u, hu, hru⟩ := LRels.get i'.toNat (vs.getD i'.toNat .junk) hrow (by rw [List.getD_eq_getElem?_getD, List.getElem?_eq_getElem (by omega)]; rfl)
      refine ⟨_, run e1 (iv (ha i (by simp [Op.operands]))) h0 (by omega), ?_⟩
      simp only [LRel]
      exact ⟨_, u, rfl, by rw [add_block]; exact hF, hc i'.toNat _ hu, hru⟩
    · rename_i id hx
      split at h <;> try exact h.elim
      · rename_i e' vs hσ
        obtain ⟨h0, h1, hK⟩ := h
        refine OpP.pure_ hK fun w0 w ι fp s f hI hS ha => ?_
        have hv := ha x (by simp [Op.operands])
        rw [hx] at hv
        simp only [LRel] at hv
        obtain ⟨v, g1, g2, g3⟩ := hI.ob id _ (by rw [hS]; exact hσ)
        rw [hv] at g1
        simp only [Option.some.injEq] at g1
        obtain ⟨g', cap, e3, hc⟩ := own_cell g2 (i := i'.toNat) (by omega)
        rw [← g1] at e3
        refine ⟨_, run e3 (iv (ha i (by simp [Op.operands]))) h0 h1, ?_⟩
        simp only [LRel, add0]
        exact ⟨g', _, _, by rw [hv, e3], rfl⟩
      · rename_i e' e'' vs hσ
        obtain ⟨h0, h1, hK⟩ := h
        refine OpP.pure_ hK fun w0 w ι fp s f hI hS ha => ?_
        have hv := ha x (by simp [Op.operands])
        rw [hx] at hv
        simp only [LRel] at hv
        obtain ⟨v, hs, g1, g2, g3, g4, g5⟩ := hI.ob id _ (by rw [hS]; exact hσ)
        rw [hv] at g1
        simp only [Option.some.injEq] at g1
        have hl : ∀ {t : List (List Value)} {hs : List Value} {q : Nat → Prop}, OwnAll w 0 e'' q t hs → hs.length = t.length := by
          intro t
          induction t with
          | nil => intro hs q h; rw [show hs = [] from h]; rfl
          | cons r t ih => rintro hs q ⟨u, hs', rfl, h1, h2, h3⟩; simp [ih h3]
        have hlen := hl g4
        obtain ⟨g', cap, e3, hc⟩ := own_cell g2 (i := i'.toNat) (by omega)
        rw [← g1] at e3
        refine ⟨_, run e3 (iv (ha i (by simp [Op.operands]))) h0 (by omega), ?_⟩
        simp only [LRel, add0]
        exact ⟨g', _, _, by rw [hv, e3], rfl⟩
    · exact h
  | nilCheck x =>
    simp only [opL] at h
    split at h
    · rename_i id off hx
      refine OpP.pure_ h fun w0 w ι fp s f hI hS ha => ?_
      have hv := ha x (by simp [Op.operands])
      rw [hx] at hv
      simp only [LRel] at hv
      obtain ⟨b, e1, e2⟩ := hv
      refine ⟨_, by simp only [execOp, e2]; rfl, ?_⟩
      simp only [LRel]
      exact ⟨b, e1, rfl⟩
    · exact h
  | makeFunc fn first caps =>
    cases fn with
    | func g =>
      by_cases hfst : first = #[]
      · subst hfst
        simp only [opL, if_true] at h
        refine OpP.pure_ h fun w0 w ι fp s f hI hS ha => ⟨.func (.func g) #[] (caps.toList.map (evV f)).toArray, ?_, ?_⟩
        · simp [execOp, Instr.makeFunc]
          rw [← Array.toList_map]
        · simp only [LRel]
          exact ⟨_, rfl, LRels.map' (fun x hx => ha x (by simp [Op.operands]; simpa using hx))⟩
      · simp only [opL, if_neg hfst] at h
        exact h
    | _ => exact h
  | call c =>
    obtain ⟨callee, args, argTypes⟩ := c
    by_cases hlen : callee = .builtin .len
    · subst hlen
      simp only [opL] at h
      split at h <;> try exact h
      rename_i x t hx0 ht0
      have hx0m : x ∈ args := Array.mem_of_getElem? hx0
      have run : ∀ {f w A n c}, (T.sl t).isSome = true → evV f x = .slice A n c → (execOp (evV f) ⟨dst, .call { callee := .builtin .len, args := args, argTypes := argTypes }, type, pos, after, guard⟩).run P w = .ok (.value (.int .i64 n)) w := by
        intro f w A n c ht e
        obtain ⟨e', he⟩ := Option.isSome_iff_exists.1 ht
        have hu := (hT.sl t e' he w).1
        simp [execOp, resolve, invoke, builtin, Builtin.len_, hx0, ht0, e, hu, goInt]
      split at h
      · rename_i vs hx
        refine OpP.pure_ h.2 fun w0 w ι fp s f hI hS ha => ?_
        have hv := ha x (by simp [Op.operands, Call.operands, hx0m])
        rw [hx] at hv
        simp only [LRel, RS] at hv
        obtain ⟨A, c, e, _⟩ := hv
        exact ⟨_, run h.1 e, by simp only [LRel]⟩
      · rename_i vs hx
        refine OpP.pure_ h.2 fun w0 w ι fp s f hI hS ha => ?_
        have hv := ha x (by simp [Op.operands, Call.operands, hx0m])
        rw [hx] at hv
        simp only [LRel, RS] at hv
        obtain ⟨hs, ⟨A, c, e, _⟩, hr⟩ := hv
        refine ⟨_, run h.1 e, ?_⟩
        have hl : ∀ {t : List (List Value)} {hs : List Value}, RRow (FF σ fp) w t hs → hs.length = t.length := by
          intro t
          induction t with
          | nil => intro hs h; rw [show hs = [] from h]; rfl
          | cons r t ih => rintro hs ⟨u, hs', rfl, h1, h2⟩; simp [ih h2]
        simp only [LRel, hl hr]
      · rename_i vs hx
        refine OpP.pure_ h.2 fun w0 w ι fp s f hI hS ha => ?_
        have hv := ha x (by simp [Op.operands, Call.operands, hx0m])
        rw [hx] at hv
        simp only [LRel, RS] at hv
        obtain ⟨hs, ⟨A, c, e, _⟩, hr⟩ := hv
        exact ⟨_, run h.1 e, by simp only [LRel, hr.length]⟩
      · rename_i id hx
        have own : ∀ {w : World} {ι : Nat → Option Value} {F : Nat → Prop} {f : Nat → Value}, LRel ι F w (ρ x) (evV f x) → ι id = some (evV f x) := by
          intro w ι F f hv
          rw [hx] at hv
          simpa only [LRel] using hv
        split at h <;> try exact h.elim
        · rename_i e' vs hσ
          refine OpP.pure_ h.2 fun w0 w ι fp s f hI hS ha => ?_
          obtain ⟨v, g1, g2, g3⟩ := hI.ob id _ (by rw [hS]; exact hσ)
          rw [own (ha x (by simp [Op.operands, Call.operands, hx0m]))] at g1
          simp only [Option.some.injEq] at g1
          obtain ⟨A, cap, e3⟩ := own_len g2
          exact ⟨_, run h.1 (g1.trans e3), by simp only [LRel]⟩
        · rename_i e' e'' vs hσ
          refine OpP.pure_ h.2 fun w0 w ι fp s f hI hS ha => ?_
          obtain ⟨v, hs, g1, g2, g3, g4, g5⟩ := hI.ob id _ (by rw [hS]; exact hσ)
          rw [own (ha x (by simp [Op.operands, Call.operands, hx0m]))] at g1
          simp only [Option.some.injEq] at g1
          obtain ⟨A, cap, e3⟩ := own_len g2
          have hl : ∀ {t : List (List Value)} {hs : List Value} {q : Nat → Prop}, OwnAll w 0 e'' q t hs → hs.length = t.length := by
            intro t
            induction t with
            | nil => intro hs q h; rw [show hs = [] from h]; rfl
            | cons r t ih => rintro hs q ⟨u, hs', rfl, h1, h2, h3⟩; simp [ih h3]
          exact ⟨_, run h.1 (g1.trans e3), by simp only [LRel, hl g4]⟩
        · rename_i e' vs hσ
          refine OpP.pure_ h.2 fun w0 w ι fp s f hI hS ha => ?_
          obtain ⟨v, ys, g1, g2, g3, g4⟩ := hI.ob id _ (by rw [hS]; exact hσ)
          rw [own (ha x (by simp [Op.operands, Call.operands, hx0m]))] at g1
          simp only [Option.some.injEq] at g1
          obtain ⟨A, cap, e3⟩ := own_len g2
          exact ⟨_, run h.1 (g1.trans e3), by simp only [LRel, g4.length]⟩
      · exact h
    · unfold opL at h
      cases callee with
      | builtin b => cases b <;> first | exact absurd rfl hlen | exact h
      | _ => exact h
  | convert a t x =>
    simp only [opL] at h
    split at h
    · rename_i k0 k n hk0 hk hx
      refine OpP.pure_ h.2 fun w0 w ι fp s f hI hS ha => ⟨.int .i64 n, ?_, by simp only [LRel]⟩
      have hv := ha x (by simp [Op.operands])
      rw [hx] at hv
      simp only [LRel] at hv
      have hc := run_conv (P := P) (k := k) (hT.ik a _ hk0) (hT.ik t _ hk) n w
      simp only [execOp, hv, Sem.run_bind, hc, Result.andThen_ok, wrapI h.1, Sem.run_pure]
    · rename_i k0 k' k n hne hk0 hk hx
      refine OpP.pure_ h fun w0 w ι fp s f hI hS ha => ⟨.int k' (k'.wrap n), ?_, by simp only [LRel]⟩
      have hv := ha x (by simp [Op.operands])
      rw [hx] at hv
      simp only [LRel] at hv
      have hc := run_conv (P := P) (k := k) (hT.ik a _ hk0) (hT.ik t _ hk) n w
      simp only [execOp, hv, Sem.run_bind, hc, Result.andThen_ok, Sem.run_pure]
    · exact h
  | _ => exact h
theorem OpP.opT {o : Oper} {s : St} {K : LV → St → Prop} {r : LV} (h : OpP P o (evL s) s.σ r) (hK : K r s) : OpT P o s K := by
  intro w0 w ι fp f hI
  have H := h w0 w ι fp s f hI rfl fun _ _ => rfl
  generalize (execOp (evV f) o).run P w = R at H ⊢
  cases H with
  | value r' s' v w1 ι1 fp1 hI1 hr hq => obtain ⟨rfl, rfl⟩ := hq; exact .value _ _ v w1 ι1 fp1 hI1 hr hK
  | skip s' w1 ι1 fp1 hI1 hq => obtain ⟨rfl, rfl⟩ := hq; exact .skip _ w1 ι1 fp1 hI1 hK
  | enter g args w1 hc =>
    refine .enter g args w1 (hc.mono ?_)
    rintro e w2 ⟨r', s', v, ι1, fp1, rfl, hI1, hr, rfl, rfl⟩
    exact ⟨_, _, v, ι1, fp1, rfl, hI1, hr, hK⟩
def turns : Op → Bool
  | .alloc _ | .store .. | .build .. | .buildSlice .. | .makeSlice .. | .slice .. => true
  | .call c => match c.callee with
    | .builtin .append => true
    | .value _ => true
    | _ => false
  | _ => false
end
def opV (P : Program) (T : TT) (o : Oper) (s : St) (K : LV → St → Prop) : Prop :=
  if turns o.op then OpT P o s K else opL P T o (evL s) s.σ fun r => K r s
end Go.Proofs.YtcjhojdlfnpgjaaGreat
