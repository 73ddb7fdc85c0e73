/- A calculus of verification conditions over logical values: a call that writes into rows of the caller's own, at the caller; a row of a row of rows by itself. -/
import Derived.Test.YtdbkiomhoonclaaVq
namespace Go.Proofs.Ytdbkiomhoonclaa
open Go.RowKit
set_option linter.unusedVariables false
set_option linter.unusedSimpArgs false

/-! ### One row of a row of rows -/
theorem OwnAll.mono' {w : World} {base e : Nat} {fp fp' : Nat → Prop} {t : List (List Value)} {hs : List Value} (h : OwnAll w base e fp t hs) (hm : ∀ k, fp k → fp' k) : OwnAll w base e fp' t hs := h.mono hm
theorem OwnAll.at_ {w : World} {base e : Nat} : ∀ {t : List (List Value)} {hs : List Value} {fp : Nat → Prop} (i : Nat) {y : Value}, OwnAll w base e fp t hs → hs[i]? = some y → w.ownsRow base e 1 y (t.getD i []).length (t.getD i []) ∧ (∀ k, y.ownBlock = some k → fp k) ∧ i < t.length
  | [], hs, fp, i, y, h, hy => by simp only [OwnAll] at h; subst h; simp at hy
  | r :: t, hs, fp, 0, y, ⟨h, hs', e1, h1, h2, h3⟩, hy => by subst e1; simp at hy; subst hy; exact ⟨by simpa using h1, h2, by simp⟩
  | r :: t, hs, fp, i + 1, y, ⟨h, hs', e1, h1, h2, h3⟩, hy => by
    subst e1
    obtain ⟨g1, g2, g3⟩ := h3.at_ i (by simpa using hy)
    exact ⟨by simpa using g1, fun k hk => (g2 k hk).1, by simpa using g3⟩
theorem OwnAll.hole {w : World} {base e : Nat} : ∀ {t : List (List Value)} {hs : List Value} {fp : Nat → Prop} (i : Nat) {y : Value}, OwnAll w base e fp t hs → hs[i]? = some y → OwnAll w base e (fun k => fp k ∧ y.ownBlock ≠ some k) (t.set i []) (hs.set i (.slice none 0 0))
  | [], hs, fp, i, y, h, hy => by simp only [OwnAll] at h; subst h; simp at hy
  | r :: t, hs, fp, 0, y, ⟨h, hs', e1, h1, h2, h3⟩, hy => by
    subst e1
    simp at hy
    subst hy
    exact ⟨_, hs', rfl, World.ownsRow_nil _ _ _ _, fun k hk => by simp [Value.ownBlock] at hk, h3.mono fun k hk => ⟨hk, by simp [Value.ownBlock]⟩⟩
  | r :: t, hs, fp, i + 1, y, ⟨h, hs', e1, h1, h2, h3⟩, hy => by
    subst e1
    have hy' : hs'[i]? = some y := by simpa using hy
    obtain ⟨g1, g2, g3⟩ := h3.at_ i hy'
    exact ⟨h, _, rfl, h1, fun k hk => ⟨h2 k hk, fun e => (g2 k e).2 hk⟩, (h3.hole i hy').mono fun k hk => ⟨⟨hk.1.1, hk.2⟩, hk.1.2⟩⟩
theorem OwnAll.len {w : World} {base e : Nat} : ∀ {t : List (List Value)} {hs : List Value} {fp : Nat → Prop}, OwnAll w base e fp t hs → hs.length = t.length
  | [], hs, fp, h => by simp only [OwnAll] at h; subst h; rfl
  | r :: t, hs, fp, ⟨h, hs', e1, h1, h2, h3⟩ => by subst e1; simp [h3.len]

section
variable {P : Program} {T : TT}

theorem OpT.openRow (hT : T.Ok P) {o : Oper} {s : St} {K : LV → St → Prop} {t e e' : Nat} {a : Operand} {id i : Nat} {tt : List (List Value)} (j : Nat) (ho : o.op = .load t a) (ha : evL s a = .pe id i) (hσ : s.σ id = some (.rows e e' tt))
    (ht : T.sc t = true) (hi : i < tt.length) (hj : 16 ≤ j) (hji : j ≠ id) (hK : K (.own j) ((s.fresh j (.row e' (tt.getD i []))).set id (.hole e e' tt i (some j)))) : OpT P o s K := by
  intro w0 w ι fp f hI
  have hav := hI.ev a
  rw [ha] at hav
  simp only [LRel] at hav
  obtain ⟨g, n, c, e1, e2⟩ := hav
  obtain ⟨v, hs, g1, g2, g3, g4, g5⟩ := hI.ob id _ hσ
  rw [e1] at g1
  simp only [Option.some.injEq] at g1
  subst g1
  have hlen := g4.len
  obtain ⟨y, hy⟩ : ∃ y, hs[i]? = some y := ⟨hs[i]'(by omega), List.getElem?_eq_getElem _⟩
  have hcell : w.cell? ⟨g, i, none⟩ = some y := by
    have := g2.cells (g := g) rfl i y hy
    rwa [add0] at this
  obtain ⟨k1, k2, k3⟩ := g4.at_ i hy
  have hr : (execOp (evV f) o).run P w = .ok (.value y) w := by
    have := run_loadAt_sc hT ht hcell
    simp [execOp, ho, e2, this]
  rw [hr]
  have hFs : ∀ k, FF ((s.fresh j (.row e' (tt.getD i []))).set id (.hole e e' tt i (some j))).σ (fun q => if q = j then fun k => y.ownBlock = some k else if q = id then fun k => fp id k ∧ y.ownBlock ≠ some k else fp q) k → FF s.σ fp k := by
    rintro k ⟨q, oc, h1, h2⟩
    by_cases q1 : q = j
    · rw [if_pos q1] at h2
      exact ⟨id, _, hσ, (k2 k h2).1⟩
    · rw [if_neg q1] at h2
      by_cases q2 : q = id
      · rw [if_pos q2] at h2; exact ⟨id, _, hσ, h2.1⟩
      · rw [if_neg q2] at h2
        simp only [St.set, St.fresh, St.turn, if_neg q1, if_neg q2] at h1
        rw [if_neg (by simpa using q1)] at h1
        cases hq : s.σ q with
        | none => rw [hq] at h1; cases h1
        | some oc' => exact ⟨q, oc', hq, h2⟩
  have hk : Keeps (FF s.σ fp) (FF ((s.fresh j (.row e' (tt.getD i []))).set id (.hole e e' tt i (some j))).σ (fun q => if q = j then fun k => y.ownBlock = some k else if q = id then fun k => fp id k ∧ y.ownBlock ≠ some k else fp q)) w w :=
    fun p u hp hc => ⟨hc, fun hq => hp (hFs _ hq)⟩
  have hι : ∀ q v, (q == j) = false → ι q = some v → updI ι j y q = some v := kill_is fun q hq => by simp only [updI, if_neg hq]
  have old : ∀ q oc, q ≠ j → q ≠ id → ((s.fresh j (.row e' (tt.getD i []))).set id (.hole e e' tt i (some j))).σ q = some oc → ∃ oc', s.σ q = some oc' ∧ oc = killO (fun x => x == j) oc' := by
    intro q oc q1 q2 h1
    simp only [St.set, St.fresh, St.turn, if_neg q1, if_neg q2] at h1
    rw [if_neg (by simpa using q1)] at h1
    cases hq : s.σ q with
    | none => rw [hq] at h1; cases h1
    | some oc' => rw [hq] at h1; simp only [Option.map_some, Option.some.injEq] at h1; exact ⟨oc', rfl, h1.symm⟩
  refine .value _ _ _ _ (updI ι j y) (fun q => if q = j then fun k => y.ownBlock = some k else if q = id then fun k => fp id k ∧ y.ownBlock ≠ some k else fp q) ⟨fun x => (hI.fr x).kills hι hk, fun q oc hq => ?_, fun q q' oc oc' k h1 h2 d1 d2 => ?_, hI.bel, fun k hk => hI.low k (hFs k hk), updI_fix hI hj y⟩ (by simp only [LRel, updI, if_true]) hK
  · by_cases q1 : q = j
    · subst q1
      simp only [St.set, St.fresh, St.turn, if_neg hji, if_true, Option.some.injEq] at hq
      subst hq
      simp only [if_true]
      exact ⟨y, by simp [updI], k1, fun k => Iff.rfl⟩
    · simp only [if_neg q1]
      by_cases q2 : q = id
      · subst q2
        simp only [St.set, if_true, Option.some.injEq] at hq
        subst hq
        simp only [if_true]
        exact ⟨_, hs, y, by simp only [updI, if_neg q1]; exact e1, g2, fun k hk => ⟨g3 k hk, fun e => (k2 k e).2 hk⟩, (g4.hole i hy).mono fun k hk => ⟨⟨hk.1.1, hk.2⟩, hk.1.2⟩, fun k hk => g5 k hk.1, hy, fun x hx => by cases hx; simp [updI]⟩
      · simp only [if_neg q2]
        obtain ⟨oc', ho', rfl⟩ := old q oc q1 q2 hq
        exact (hI.ob q oc' ho').kills (by simpa using q1) hι hk (Nat.le_refl _) fun _ _ => rfl
  · have cl : ∀ q oc, q ≠ j → q ≠ id → ((s.fresh j (.row e' (tt.getD i []))).set id (.hole e e' tt i (some j))).σ q = some oc → fp q k → fp id k → False := by
      intro q oc q1 q2 hq a1 a2
      obtain ⟨oc', ho', _⟩ := old q oc q1 q2 hq
      exact q2 (hI.dis _ _ _ _ k ho' hσ a1 a2)
    by_cases q1 : q = j
    · by_cases q1' : q' = j
      · rw [q1, q1']
      · simp only [if_pos q1] at d1
        simp only [if_neg q1'] at d2
        by_cases q2' : q' = id
        · simp only [if_pos q2'] at d2; exact (d2.2 d1).elim
        · simp only [if_neg q2'] at d2; exact (cl q' oc' q1' q2' h2 d2 (k2 k d1).1).elim
    · simp only [if_neg q1] at d1
      by_cases q2 : q = id
      · simp only [if_pos q2] at d1
        by_cases q1' : q' = j
        · simp only [if_pos q1'] at d2; exact (d1.2 d2).elim
        · simp only [if_neg q1'] at d2
          by_cases q2' : q' = id
          · rw [q2, q2']
          · simp only [if_neg q2'] at d2; exact (cl q' oc' q1' q2' h2 d2 d1.1).elim
      · simp only [if_neg q2] at d1
        by_cases q1' : q' = j
        · simp only [if_pos q1'] at d2; exact (cl q oc q1 q2 h1 d1 (k2 k d2).1).elim
        · simp only [if_neg q1'] at d2
          by_cases q2' : q' = id
          · simp only [if_pos q2'] at d2; exact (cl q oc q1 q2 h1 d1 d2.1).elim
          · simp only [if_neg q2'] at d2
            obtain ⟨o1, ho1, _⟩ := old q oc q1 q2 h1
            obtain ⟨o2, ho2, _⟩ := old q' oc' q1' q2' h2
            exact hI.dis _ _ _ _ k ho1 ho2 d1 d2

def St.shut (s : St) (j id : Nat) (oc : OC) : St := ⟨s.lf, fun q => if q = j then none else if q = id then some oc else s.σ q⟩
/-- The row lies in its row of rows again. -/
theorem Conv.shut {s : St} {id e e' i : Nat} {tt : List (List Value)} {vs : List Value} (j : Nat) (hji : j ≠ id) (hσ : s.σ id = some (.hole e e' tt i (some j))) (hj : s.σ j = some (.row e' vs)) : Conv s (s.shut j id (.rows e e' (tt.set i vs))) := by
  intro w0 w ι fp f hI
  obtain ⟨v, hs, y, g1, g2, g3, g4, g5, g6, g7⟩ := hI.ob id _ hσ
  obtain ⟨y', p1, p2, p3⟩ := hI.ob j _ hj
  have := g7 j rfl
  rw [p1] at this
  simp only [Option.some.injEq] at this
  subst this
  have hdis : ∀ k, fp id k → fp j k → False := fun k a b => hji (hI.dis _ _ _ _ k hj hσ b a)
  have hFs : ∀ k, FF (s.shut j id (.rows e e' (tt.set i vs))).σ (fun q => if q = id then fun k => fp id k ∨ fp j k else fp q) k → FF s.σ fp k := by
    rintro k ⟨q, oc, h1, h2⟩
    simp only [St.shut] at h1
    by_cases q1 : q = j
    · rw [if_pos q1] at h1; cases h1
    · rw [if_neg q1] at h1
      by_cases q2 : q = id
      · rw [if_pos q2] at h2
        rcases h2 with h2 | h2
        · exact ⟨id, _, hσ, h2⟩
        · exact ⟨j, _, hj, h2⟩
      · rw [if_neg q2] at h1 h2; exact ⟨q, oc, h1, h2⟩
  have hk : Keeps (FF s.σ fp) (FF (s.shut j id (.rows e e' (tt.set i vs))).σ (fun q => if q = id then fun k => fp id k ∨ fp j k else fp q)) w w := fun p u hp hc => ⟨hc, fun hq => hp (hFs _ hq)⟩
  refine ⟨ι, fun q => if q = id then fun k => fp id k ∨ fp j k else fp q, fun x => (hI.fr x).keeps (fun _ _ e => e) hk, fun q oc hq => ?_, fun q q' oc oc' k h1 h2 d1 d2 => ?_, hI.bel, fun k hk => hI.low k (hFs k hk), hI.fix⟩
  · simp only [St.shut] at hq
    by_cases q1 : q = j
    · rw [if_pos q1] at hq; cases hq
    · rw [if_neg q1] at hq
      by_cases q2 : q = id
      · subst q2
        simp only [if_true, Option.some.injEq] at hq
        subst hq
        simp only [if_true]
        have hset : hs.set i y' = hs := by
          refine List.ext_getElem? fun x => ?_
          rw [List.getElem?_set]
          by_cases e : i = x
          · subst e; rw [if_pos rfl, if_pos (List.getElem?_eq_some_iff.1 g6).1, g6]
          · rw [if_neg e]
        have := g4.set (h0 := y') (r := vs) i p2 fun k hk h => hdis k h.1 ((p3 k).2 hk)
        simp only [List.set_set, hset] at this
        refine ⟨v, hs, g1, g2, fun k hk => .inl (g3 k hk), this.mono ?_, fun k hk => ?_⟩
        · rintro k (h | h)
          · exact ⟨.inl h.1, h.2⟩
          · exact ⟨.inr ((p3 k).2 h), fun e => hdis k (g3 k e) ((p3 k).2 h)⟩
        · rcases hk with hk | hk
          · exact g5 k hk
          · exact p2.lt k ((p3 k).1 hk)
      · rw [if_neg q2] at hq
        simp only [if_neg q2]
        exact (hI.ob q oc hq).keeps (fun _ _ e => e) hk (Nat.le_refl _) fun _ _ => rfl
  · simp only [St.shut] at h1 h2
    by_cases q1 : q = j
    · rw [if_pos q1] at h1; cases h1
    · by_cases q1' : q' = j
      · rw [if_pos q1'] at h2; cases h2
      · rw [if_neg q1] at h1
        rw [if_neg q1'] at h2
        by_cases q2 : q = id
        · by_cases q2' : q' = id
          · rw [q2, q2']
          · simp only [if_pos q2] at d1
            simp only [if_neg q2'] at d2
            rw [if_neg q2'] at h2
            rcases d1 with d1 | d1
            · exact (q2' (hI.dis _ _ _ _ k h2 hσ d2 d1)).elim
            · exact (q1' (hI.dis _ _ _ _ k h2 hj d2 d1)).elim
        · simp only [if_neg q2] at d1
          rw [if_neg q2] at h1
          by_cases q2' : q' = id
          · simp only [if_pos q2'] at d2
            rcases d2 with d2 | d2
            · exact (q2 (hI.dis _ _ _ _ k h1 hσ d1 d2)).elim
            · exact (q1 (hI.dis _ _ _ _ k h1 hj d1 d2)).elim
          · simp only [if_neg q2'] at d2
            rw [if_neg q2'] at h2
            exact hI.dis _ _ _ _ k h1 h2 d1 d2

/-! ### A call that writes -/
def posOf : List Nat → Nat → Option Nat
  | [], _ => none
  | a :: l, j => if j = a then some 0 else (posOf l j).map (· + 1)
theorem posOf_some : ∀ {l : List Nat} {j i : Nat}, posOf l j = some i → i < l.length ∧ l.getD i 0 = j
  | [], j, i, h => by cases h
  | a :: l, j, i, h => by
    simp only [posOf] at h
    split at h
    · rename_i e; cases h; subst e; simp
    · cases hp : posOf l j with
      | none => rw [hp] at h; cases h
      | some x =>
        rw [hp] at h
        simp only [Option.map_some, Option.some.injEq] at h
        subst h
        obtain ⟨h1, h2⟩ := posOf_some hp
        exact ⟨by simpa using h1, by simpa using h2⟩

mutual
/-- What lies in a variable, as a call sees it. -/
def toA (σ : Nat → Option OC) (is : List Nat) : LV → LV
  | .rdL l => .rdL (toAs σ is l)
  | .agg l => .agg (toAs σ is l)
  | .tup l => .tup (toAs σ is l)
  | .box l => .box (toAs σ is l)
  | .rdA k l => .rdA k (toAs σ is l)
  | .pc x => .pc (toA σ is x)
  | .own id => match posOf is id with
    | some i => .own i
    | none => match σ id with
      | some (.row _ vs) => .rd vs
      | some (.rows _ _ t) => .rds t
      | _ => .junk
  | .ptr _ _ => .junk
  | .pe _ _ => .junk
  | .sub _ _ _ => .junk
  | .fn g caps => .fn g (toAs σ is caps)
  | .v x => .v x
  | .junk => .junk
  | .rd vs => .rd vs
  | .rds t => .rds t
def toAs (σ : Nat → Option OC) (is : List Nat) : List LV → List LV
  | [] => []
  | x :: l => toA σ is x :: toAs σ is l
end

mutual
/-- What a call is handed, in its own numbers: the rows 'is' as its own, the others to be read. -/
def toM (σ : Nat → Option OC) (is : List Nat) : LV → LV
  | .rdL l => .rdL (toMs σ is l)
  | .agg l => .agg (toMs σ is l)
  | .tup l => .tup (toMs σ is l)
  | .box l => .box (toMs σ is l)
  | .rdA k l => .rdA k (toMs σ is l)
  | .pc x => .pc (toM σ is x)
  | .own id => match posOf is id with
    | some i => .own i
    | none => match σ id with
      | some (.row _ vs) => .rd vs
      | some (.rows _ _ t) => .rds t
      | _ => .junk
  | .ptr id off => match posOf is id, off, σ id with
    | none, 0, some (.cells _ l) => .box (toAs σ is l)
    | _, _, _ => .junk
  | .pe _ _ => .junk
  | .sub _ _ _ => .junk
  | .fn g caps => .fn g (toMs σ is caps)
  | .v x => .v x
  | .junk => .junk
  | .rd vs => .rd vs
  | .rds t => .rds t
def toMs (σ : Nat → Option OC) (is : List Nat) : List LV → List LV
  | [] => []
  | x :: l => toM σ is x :: toMs σ is l
end

def idM (is : List Nat) (d i : Nat) : Nat := if i < is.length then is.getD i 0 else shift d i
def St.back (s : St) (d : Nat) (is : List Nat) (os' : List (Option OC)) : St :=
  ⟨fun i => kill (isShift d) (s.lf i), fun j => if isShift d j then (if j - (1000 + 16 * d) < is.length then none else osO os' (j - (1000 + 16 * d))) else match posOf is j with
    | some i => osO os' i
    | none => (s.σ j).map (killO (isShift d))⟩

section
variable {w0 : Base} {w : World} {ι : Nat → Option Value} {fp : Nat → Nat → Prop} {s : St} {f : Nat → Value} {is : List Nat} {os : List OC}

theorem inIs (hos : is.map s.σ = os.map some) {i : Nat} {oc : OC} (h : osF os i = some oc) : s.σ (is.getD i 0) = some oc ∧ i < is.length := by
  have hlen : is.length = os.length := by simpa using congrArg List.length hos
  have hi : i < os.length := (List.getElem?_eq_some_iff.1 h).1
  have h1 : (is.map s.σ)[i]? = (os.map some)[i]? := by rw [hos]
  unfold osF at h
  rw [List.getElem?_map, List.getElem?_map, h, List.getElem?_eq_getElem (by omega)] at h1
  simp only [Option.map_some, Option.some.injEq] at h1
  refine ⟨?_, by omega⟩
  rw [List.getD_eq_getElem?_getD, List.getElem?_eq_getElem (by omega), Option.getD_some]
  exact h1

mutual
theorem LRel.toA (hI : Inv w0 w ι fp s f) {F' : Nat → Prop} (hF : ∀ k, F' k → FF s.σ fp k) (hF2 : ∀ id oc k, s.σ id = some oc → posOf is id = none → fp id k → ¬ F' k) : ∀ {x : LV} {y : Value}, LRel ι (FF s.σ fp) w x y → LRel (fun i => ι (is.getD i 0)) F' w (toA s.σ is x) y
  | .v _, _, h => by simp only [LRel, Go.Proofs.Ytdbkiomhoonclaa.toA] at *; exact h
  | .junk, _, h => by simp only [LRel, Go.Proofs.Ytdbkiomhoonclaa.toA]
  | .rd _, _, h => by simp only [LRel, Go.Proofs.Ytdbkiomhoonclaa.toA] at *; exact h.keeps fun p u hp hc => ⟨hc, fun q => hp (hF _ q)⟩
  | .rds _, _, h => by
    simp only [LRel, Go.Proofs.Ytdbkiomhoonclaa.toA] at *
    obtain ⟨hs, h1, h2⟩ := h
    exact ⟨hs, h1.keeps fun p u hp hc => ⟨hc, fun q => hp (hF _ q)⟩, h2.keeps fun p u hp hc => ⟨hc, fun q => hp (hF _ q)⟩⟩
  | .rdL _, _, h => by
    simp only [LRel, Go.Proofs.Ytdbkiomhoonclaa.toA] at *
    obtain ⟨ys, e, h⟩ := h
    exact ⟨ys, e.keeps fun p u hp hc => ⟨hc, fun q => hp (hF _ q)⟩, LRels.toA hI hF hF2 h⟩
  | .agg _, _, h => by
    simp only [LRel, Go.Proofs.Ytdbkiomhoonclaa.toA] at *
    obtain ⟨ys, e, h⟩ := h
    exact ⟨ys, e, LRels.toA hI hF hF2 h⟩
  | .tup _, _, h => by
    simp only [LRel, Go.Proofs.Ytdbkiomhoonclaa.toA] at *
    obtain ⟨ys, e, h⟩ := h
    exact ⟨ys, e, LRels.toA hI hF hF2 h⟩
  | .box l, _, h => by
    simp only [LRel, Go.Proofs.Ytdbkiomhoonclaa.toA] at *
    obtain ⟨b, ys, e, hc, h⟩ := h
    exact ⟨b, ys, e, fun j u hu => ⟨fun q => (hc j u hu).1 (hF _ q), (hc j u hu).2⟩, LRels.toA hI hF hF2 h⟩
  | .rdA _ l, _, h => by
    simp only [LRel, Go.Proofs.Ytdbkiomhoonclaa.toA] at *
    obtain ⟨A, m, c, ys, e, h1, h2, h3, h4, h⟩ := h
    exact ⟨A, m, c, ys, e, h1, h2, h3, fun hm => (h4 hm).imp fun ad h => ⟨h.1, fun j u hu => ⟨fun q => (h.2 j u hu).1 (hF _ q), (h.2 j u hu).2⟩⟩, LRels.toA hI hF hF2 h⟩
  | .pc x, _, h => by
    simp only [LRel, Go.Proofs.Ytdbkiomhoonclaa.toA] at *
    obtain ⟨p, u, e, hn, hc, h⟩ := h
    exact ⟨p, u, e, fun q => hn (hF _ q), hc, LRel.toA hI hF hF2 h⟩
  | .own id, y, h => by
    simp only [LRel] at h
    unfold Go.Proofs.Ytdbkiomhoonclaa.toA
    split
    · rename_i i hp
      obtain ⟨h1, h2⟩ := posOf_some hp
      simp only [LRel]
      rw [h2]; exact h
    · rename_i hp
      split
      · rename_i vs hσ
        obtain ⟨v', h1, h2, h3⟩ := hI.ob id _ hσ
        rw [h] at h1
        simp only [Option.some.injEq] at h1
        subst h1
        simp only [LRel]
        exact own_RSF h2 fun k hk => hF2 id _ k hσ hp ((h3 k).2 hk)
      · rename_i t hσ
        obtain ⟨v', hs, h1, h2, h3, h4, h5⟩ := hI.ob id _ hσ
        rw [h] at h1
        simp only [Option.some.injEq] at h1
        subst h1
        simp only [LRel]
        exact ⟨hs, own_RSF h2 fun k hk => hF2 id _ k hσ hp (h3 k hk), h4.rrowF fun k hk => hF2 id _ k hσ hp hk.1⟩
      · simp only [LRel]
  | .ptr _ _, _, _ => by simp only [LRel, Go.Proofs.Ytdbkiomhoonclaa.toA]
  | .pe _ _, _, _ => by simp only [LRel, Go.Proofs.Ytdbkiomhoonclaa.toA]
  | .sub _ _ _, _, _ => by simp only [LRel, Go.Proofs.Ytdbkiomhoonclaa.toA]
  | .fn _ _, _, h => by
    simp only [LRel, Go.Proofs.Ytdbkiomhoonclaa.toA] at *
    obtain ⟨ys, e, h⟩ := h
    exact ⟨ys, e, LRels.toA hI hF hF2 h⟩
theorem LRels.toA (hI : Inv w0 w ι fp s f) {F' : Nat → Prop} (hF : ∀ k, F' k → FF s.σ fp k) (hF2 : ∀ id oc k, s.σ id = some oc → posOf is id = none → fp id k → ¬ F' k) : ∀ {l : List LV} {ys : List Value}, LRels ι (FF s.σ fp) w l ys → LRels (fun i => ι (is.getD i 0)) F' w (toAs s.σ is l) ys
  | [], _, h => by simp only [LRels, toAs] at *; exact h
  | _ :: _, _, h => by
    simp only [LRels, toAs] at *
    obtain ⟨y, r, e, h1, h2⟩ := h
    exact ⟨y, r, e, LRel.toA hI hF hF2 h1, LRels.toA hI hF hF2 h2⟩
end
mutual
theorem LRel.toM (hI : Inv w0 w ι fp s f) {F' : Nat → Prop} (hF : ∀ k, F' k → FF s.σ fp k) (hF2 : ∀ id oc k, s.σ id = some oc → posOf is id = none → fp id k → ¬ F' k) : ∀ {x : LV} {y : Value}, LRel ι (FF s.σ fp) w x y → LRel (fun i => ι (is.getD i 0)) F' w (toM s.σ is x) y
  | .v _, _, h => by simp only [LRel, Go.Proofs.Ytdbkiomhoonclaa.toM] at *; exact h
  | .junk, _, h => by simp only [LRel, Go.Proofs.Ytdbkiomhoonclaa.toM]
  | .rd _, _, h => by simp only [LRel, Go.Proofs.Ytdbkiomhoonclaa.toM] at *; exact h.keeps fun p u hp hc => ⟨hc, fun q => hp (hF _ q)⟩
  | .rds _, _, h => by
    simp only [LRel, Go.Proofs.Ytdbkiomhoonclaa.toM] at *
    obtain ⟨hs, h1, h2⟩ := h
    exact ⟨hs, h1.keeps fun p u hp hc => ⟨hc, fun q => hp (hF _ q)⟩, h2.keeps fun p u hp hc => ⟨hc, fun q => hp (hF _ q)⟩⟩
  | .rdL _, _, h => by
    simp only [LRel, Go.Proofs.Ytdbkiomhoonclaa.toM] at *
    obtain ⟨ys, e, h⟩ := h
    exact ⟨ys, e.keeps fun p u hp hc => ⟨hc, fun q => hp (hF _ q)⟩, LRels.toM hI hF hF2 h⟩
  | .agg _, _, h => by
    simp only [LRel, Go.Proofs.Ytdbkiomhoonclaa.toM] at *
    obtain ⟨ys, e, h⟩ := h
    exact ⟨ys, e, LRels.toM hI hF hF2 h⟩
  | .tup _, _, h => by
    simp only [LRel, Go.Proofs.Ytdbkiomhoonclaa.toM] at *
    obtain ⟨ys, e, h⟩ := h
    exact ⟨ys, e, LRels.toM hI hF hF2 h⟩
  | .box l, _, h => by
    simp only [LRel, Go.Proofs.Ytdbkiomhoonclaa.toM] at *
    obtain ⟨b, ys, e, hc, h⟩ := h
    exact ⟨b, ys, e, fun j u hu => ⟨fun q => (hc j u hu).1 (hF _ q), (hc j u hu).2⟩, LRels.toM hI hF hF2 h⟩
  | .rdA _ l, _, h => by
    simp only [LRel, Go.Proofs.Ytdbkiomhoonclaa.toM] at *
    obtain ⟨A, m, c, ys, e, h1, h2, h3, h4, h⟩ := h
    exact ⟨A, m, c, ys, e, h1, h2, h3, fun hm => (h4 hm).imp fun ad h => ⟨h.1, fun j u hu => ⟨fun q => (h.2 j u hu).1 (hF _ q), (h.2 j u hu).2⟩⟩, LRels.toM hI hF hF2 h⟩
  | .pc x, _, h => by
    simp only [LRel, Go.Proofs.Ytdbkiomhoonclaa.toM] at *
    obtain ⟨p, u, e, hn, hc, h⟩ := h
    exact ⟨p, u, e, fun q => hn (hF _ q), hc, LRel.toM hI hF hF2 h⟩
  | .own id, y, h => by
    simp only [LRel] at h
    unfold Go.Proofs.Ytdbkiomhoonclaa.toM
    split
    · rename_i i hp
      obtain ⟨h1, h2⟩ := posOf_some hp
      simp only [LRel]
      rw [h2]; exact h
    · rename_i hp
      split
      · rename_i vs hσ
        obtain ⟨v', h1, h2, h3⟩ := hI.ob id _ hσ
        rw [h] at h1
        simp only [Option.some.injEq] at h1
        subst h1
        simp only [LRel]
        exact own_RSF h2 fun k hk => hF2 id _ k hσ hp ((h3 k).2 hk)
      · rename_i t hσ
        obtain ⟨v', hs, h1, h2, h3, h4, h5⟩ := hI.ob id _ hσ
        rw [h] at h1
        simp only [Option.some.injEq] at h1
        subst h1
        simp only [LRel]
        exact ⟨hs, own_RSF h2 fun k hk => hF2 id _ k hσ hp (h3 k hk), h4.rrowF fun k hk => hF2 id _ k hσ hp hk.1⟩
      · simp only [LRel]
  | .ptr id off, y, h => by
    simp only [LRel] at h
    obtain ⟨b, h1, e⟩ := h
    unfold Go.Proofs.Ytdbkiomhoonclaa.toM
    split
    · rename_i tt l hp hσ
      obtain ⟨b', ys, g1, g2, g3, g4, g5⟩ := hI.ob id _ hσ
      rw [h1] at g1
      simp only [Option.some.injEq, Value.pointer.injEq, Addr.mk.injEq, and_true] at g1
      subst g1
      simp only [LRel]
      exact ⟨⟨b, 0, none⟩, ys, e, fun j u hu => ⟨hF2 id _ b hσ hp ((g3 b).2 rfl), by rw [add0, cell_at g4 j, hu]⟩, LRels.toA hI hF hF2 g5⟩
    · simp only [LRel]
  | .pe _ _, _, _ => by simp only [LRel, Go.Proofs.Ytdbkiomhoonclaa.toM]
  | .sub _ _ _, _, _ => by simp only [LRel, Go.Proofs.Ytdbkiomhoonclaa.toM]
  | .fn _ _, _, h => by
    simp only [LRel, Go.Proofs.Ytdbkiomhoonclaa.toM] at *
    obtain ⟨ys, e, h⟩ := h
    exact ⟨ys, e, LRels.toM hI hF hF2 h⟩
theorem LRels.toM (hI : Inv w0 w ι fp s f) {F' : Nat → Prop} (hF : ∀ k, F' k → FF s.σ fp k) (hF2 : ∀ id oc k, s.σ id = some oc → posOf is id = none → fp id k → ¬ F' k) : ∀ {l : List LV} {ys : List Value}, LRels ι (FF s.σ fp) w l ys → LRels (fun i => ι (is.getD i 0)) F' w (toMs s.σ is l) ys
  | [], _, h => by simp only [LRels, toMs] at *; exact h
  | _ :: _, _, h => by
    simp only [LRels, toMs] at *
    obtain ⟨y, r, e, h1, h2⟩ := h
    exact ⟨y, r, e, LRel.toM hI hF hF2 h1, LRels.toM hI hF hF2 h2⟩
end
end

theorem posOf_get : ∀ {l : List Nat} {i : Nat}, l.Nodup → i < l.length → posOf l (l.getD i 0) = some i
  | [], i, _, h => by simp at h
  | a :: l, 0, _, _ => by simp [posOf]
  | a :: l, i + 1, hn, h => by
    have hn' := List.nodup_cons.1 hn
    have hi : i < l.length := by simpa using h
    have hg : (a :: l).getD (i + 1) 0 = l.getD i 0 := by simp
    rw [hg]
    simp only [posOf]
    rw [if_neg, posOf_get hn'.2 hi]
    · rfl
    · intro e
      apply hn'.1
      rw [← e, List.getD_eq_getElem?_getD, List.getElem?_eq_getElem hi, Option.getD_some]
      exact List.getElem_mem _

theorem OpT.callM {o : Oper} {s : St} {K : LV → St → Prop} {fo : Operand} {as : Array Operand} {ts : Array TypeId} {g : Nat} {caps : List LV} {args : List LV} {r : LV} {os : List OC} {os' : List (Option OC)} (d : Nat) (is : List Nat) (ho : o.op = .call { callee := .value fo, args := as, argTypes := ts })
    (hf : evL s fo = .fn g caps) (hs : SpecM P g args os r os') (ha : toMs s.σ is (as.toList.map (evL s) ++ caps) = args) (hos : is.map s.σ = os.map some) (hnd : is.Nodup) (hsh : ∀ i ∈ is, isShift d i = false) (hp : plainL r = true) (hpo : os.all plainO = true) (hpo' : ∀ oc, some oc ∈ os' → plainO oc = true) (hl' : os'.length ≤ 16)
    (hK : K (ren (idM is d) r) (s.back d is os')) : OpT P o s K := by
  intro w0 w ι fp f hI
  have hv := hI.ev fo
  rw [hf] at hv
  simp only [LRel] at hv
  obtain ⟨cs, e, hc⟩ := hv
  have hlen : is.length = os.length := by simpa using congrArg List.length hos
  have hargs := LRels.toM (is := is) hI (F' := FF (osF os) fun i => fp (is.getD i 0)) (fun k ⟨i, oc, h1, h2⟩ => ⟨_, oc, (inIs hos h1).1, h2⟩)
    (fun id oc k h1 h2 h3 ⟨i, oc', h4, h5⟩ => by
      obtain ⟨h6, h7⟩ := inIs hos h4
      have := hI.dis _ _ _ _ k h1 h6 h3 h5
      rw [this, posOf_get hnd h7] at h2
      cases h2) ((LRels.map hI.ev as.toList).append hc)
  rw [ha] at hargs
  rw [run_call ho e hs.ent w]
  have hB : ∀ k, FF (osF os) (fun i => fp (is.getD i 0)) k → FF s.σ fp k := fun k ⟨i, oc, h1, h2⟩ => ⟨_, oc, (inIs hos h1).1, h2⟩
  refine .enter _ _ _ ((hs.run w (fun i => ι (is.getD i 0)) (fun i => fp (is.getD i 0)) _ (fun i oc h => ?_) (fun i i' oc oc' k h1 h2 h3 h4 => ?_) hargs).mono ?_)
  · have ho' := hI.ob _ oc (inIs hos h).1
    exact ho'.plain (List.all_eq_true.1 hpo oc (List.mem_of_getElem? h)) (fun v hv => hv) (Nat.le_refl _)
  · obtain ⟨a1, b1⟩ := inIs hos h1
    obtain ⟨a2, b2⟩ := inIs hos h2
    have := hI.dis _ _ _ _ k a1 a2 h3 h4
    have e1 := posOf_get hnd b1
    have e2 := posOf_get hnd b2
    rw [this, e2] at e1
    cases e1
    rfl
  rintro e w' ⟨v, ι2, fp2, rfl, hI2⟩
  have hlt := hI.lt
  have hsz : w.heap.size ≤ w'.heap.size := hI2.bel.size
  have low2 : ∀ i oc k, osO os' i = some oc → fp2 i k → w.heap.size ≤ k ∨ FF (osF os) (fun i => fp (is.getD i 0)) k := fun i oc k h1 h2 => hI2.low k ⟨i, oc, h1, h2⟩
  have hfix : ∀ i v, i < os.length → ι (is.getD i 0) = some v → ι2 i = some v := fun i v hi h => hI2.fix i v (by simp only [if_pos hi]; exact h)
  have hisv : ∀ i, i < os.length → ∃ v, ι (is.getD i 0) = some v := by
    intro i hi
    have h1 : osF os i = some os[i] := List.getElem?_eq_getElem hi
    have := hI.ob _ _ (inIs hos h1).1
    have hpl := List.all_eq_true.1 hpo os[i] (List.getElem_mem _)
    cases hoc : os[i] with
    | cells t l => rw [hoc] at hpl; simp [plainO] at hpl
    | rowL e l => rw [hoc] at hpl; simp [plainO] at hpl
    | hole e e' t i j => rw [hoc] at hpl; simp [plainO] at hpl
    | late e vs => rw [hoc] at hpl; simp [plainO] at hpl
    | row e vs => rw [hoc] at this; obtain ⟨v, h1, _⟩ := this; exact ⟨v, h1⟩
    | rows e e' t => rw [hoc] at this; obtain ⟨v, hs, h1, _⟩ := this; exact ⟨v, h1⟩
  -- the new numbers
  let ι' : Nat → Option Value := fun j => if isShift d j then ι2 (j - (1000 + 16 * d)) else ι j
  let fp' : Nat → Nat → Prop := fun j => if isShift d j then fp2 (j - (1000 + 16 * d)) else match posOf is j with | some i => fp2 i | none => fp j
  -- where an object of the new state comes from
  have src : ∀ j oc, (s.back d is os').σ j = some oc → (∃ i, osO os' i = some oc ∧ fp' j = fp2 i ∧ (∀ v, ι2 i = some v → ι' j = some v) ∧ (isShift d j = true ∧ j = 1000 + 16 * d + i ∧ is.length ≤ i ∨ posOf is j = some i ∧ isShift d j = false)) ∨ (isShift d j = false ∧ posOf is j = none ∧ fp' j = fp j ∧ ∃ oc', s.σ j = some oc' ∧ oc = killO (isShift d) oc') := by
    intro j oc h
    simp only [St.back] at h
    cases hj : isShift d j with
    | true =>
      rw [hj, if_pos rfl] at h
      split at h
      · cases h
      · rename_i hge
        refine .inl ⟨_, h, by simp only [fp', hj, if_true], fun v hv => by simp only [ι', hj, if_true]; exact hv, .inl ⟨rfl, ?_, by omega⟩⟩
        simp only [isShift, decide_eq_true_eq] at hj
        omega
    | false =>
      rw [hj, if_neg (by decide)] at h
      cases hp' : posOf is j with
      | some i =>
        rw [hp'] at h
        obtain ⟨hi1, hi2⟩ := posOf_some hp'
        refine .inl ⟨i, h, by simp only [fp', hj, Bool.false_eq_true, if_false, hp'], fun v hv => ?_, .inr ⟨rfl, rfl⟩⟩
        obtain ⟨v0, hv0⟩ := hisv i (by omega)
        have := hfix i v0 (by omega) hv0
        rw [hv] at this
        cases this
        simp only [ι', hj, Bool.false_eq_true, if_false]
        rw [← hi2]; exact hv0
      | none =>
        rw [hp'] at h
        refine .inr ⟨rfl, rfl, by simp only [fp', hj, Bool.false_eq_true, if_false, hp'], ?_⟩
        cases hs' : s.σ j with
        | none => simp only [hs'] at h; cases h
        | some oc' => simp only [hs', Option.map_some, Option.some.injEq] at h; exact ⟨oc', rfl, h.symm⟩
  have hF' : ∀ k, FF (s.back d is os').σ fp' k → w.heap.size ≤ k ∨ FF s.σ fp k := by
    rintro k ⟨j, oc, h1, h2⟩
    rcases src j oc h1 with ⟨i, g1, g2, _⟩ | ⟨_, _, g2, oc', g3, _⟩
    · rw [g2] at h2; exact (low2 i oc k g1 h2).imp_right (hB k)
    · rw [g2] at h2; exact .inr ⟨j, oc', g3, h2⟩
  have hk : Keeps (FF s.σ fp) (FF (s.back d is os').σ fp') w w' := fun p u hp hc => by
    have hlt' := World.block_lt_of_cell? _ _ hc
    refine ⟨(World.cell?_of_block (hI2.bel.block p.block hlt' fun h => hp (hB _ h))).trans hc, fun hq => ?_⟩
    rcases hF' _ hq with h | h
    · omega
    · exact hp h
  have hι : ∀ id v, isShift d id = false → ι id = some v → ι' id = some v := fun id v h e => by simp only [ι', h, Bool.false_eq_true, if_false]; exact e
  have hplO : ∀ i oc, osO os' i = some oc → plainO oc = true ∧ i < os'.length := by
    intro i oc h
    refine ⟨hpo' oc ?_, osO_lt h⟩
    unfold osO at h
    have := osO_lt (os := os') (i := i) (oc := oc) (by unfold osO; exact h)
    rw [List.getElem?_eq_getElem this] at h
    simp only [Option.join_some] at h
    rw [← h]
    exact List.getElem_mem _
  have blk : ∀ j oc', s.σ j = some oc' → posOf is j = none → ∀ k, fp j k → w'.heap[k]? = w.heap[k]? := by
    intro j oc' h1 h2 k h3
    refine hI2.bel.block k (hlt k ⟨j, oc', h1, h3⟩).2 fun ⟨i, oc2, h4, h5⟩ => ?_
    obtain ⟨h6, h7⟩ := inIs hos h4
    have := hI.dis _ _ _ _ k h1 h6 h3 h5
    rw [this, posOf_get hnd h7] at h2
    cases h2
  refine ⟨_, s.back d is os', v, ι', fp', rfl, ⟨fun i => (hI.fr i).kills hι hk, fun j oc hj => ?_, fun j j' oc oc' k h1 h2 d1 d2 => ?_, ⟨hI2.bel.os.trans hI.bel.os, hI2.bel.tape.trans hI.bel.tape, hI2.bel.output.trans hI.bel.output, Nat.le_trans hI.bel.size hsz, fun k hkl hkB => ?_⟩, fun k hk' => ?_, fun id v h => ?_⟩, ?_, hK⟩
  · rcases src j oc hj with ⟨i, g1, g2, g3, g4⟩ | ⟨g0, g1, g2, oc', g3, rfl⟩
    · rw [g2]
      exact (hI2.ob i oc g1).plain (hplO i oc g1).1 g3 (Nat.le_refl _)
    · rw [g2]
      exact (hI.ob j oc' g3).kills g0 hι hk hsz fun k hk' => blk j oc' g3 g1 k hk'
  · have cross : ∀ i oc j oc', osO os' i = some oc → fp2 i k → s.σ j = some oc' → posOf is j = none → fp j k → False := by
      intro i oc j oc' a1 a2 a3 a4 a5
      rcases low2 i oc k a1 a2 with h | ⟨i', oc2, h4, h5⟩
      · have := (hlt k ⟨j, oc', a3, a5⟩).2; omega
      · obtain ⟨h6, h7⟩ := inIs hos h4
        have := hI.dis _ _ _ _ k a3 h6 a5 h5
        rw [this, posOf_get hnd h7] at a4
        cases a4
    rcases src j oc h1 with ⟨i, g1, g2, g3, g4⟩ | ⟨g0, g1, g2, oc1, g3, _⟩
    · rcases src j' oc' h2 with ⟨i', g1', g2', g3', g4'⟩ | ⟨g0', g1', g2', oc1', g3', _⟩
      · rw [g2] at d1
        rw [g2'] at d2
        have := hI2.dis _ _ _ _ k g1 g1' d1 d2
        subst this
        rcases g4 with ⟨a, b, c⟩ | ⟨a, b⟩
        · rcases g4' with ⟨a', b', c'⟩ | ⟨a', b'⟩
          · omega
          · have := (posOf_some a').1; omega
        · rcases g4' with ⟨a', b', c'⟩ | ⟨a', b'⟩
          · have := (posOf_some a).1; omega
          · rw [← (posOf_some a).2, ← (posOf_some a').2]
      · rw [g2] at d1
        rw [g2'] at d2
        exact (cross i oc j' oc1' g1 d1 g3' g1' d2).elim
    · rcases src j' oc' h2 with ⟨i', g1', g2', g3', g4'⟩ | ⟨g0', g1', g2', oc1', g3', _⟩
      · rw [g2] at d1
        rw [g2'] at d2
        exact (cross i' oc' j oc1 g1' d2 g3 g1 d1).elim
      · rw [g2] at d1
        rw [g2'] at d2
        exact hI.dis _ _ _ _ k g3 g3' d1 d2
  · rw [hI2.bel.block k (Nat.lt_of_lt_of_le hkl hI.bel.size) fun h => ?_]
    · exact hI.bel.block k hkl hkB
    · rcases hI.low k (hB k h) with h' | h'
      · omega
      · exact hkB h'
  · rcases hF' k hk' with h | h
    · exact .inl (Nat.le_trans hI.bel.size h)
    · exact hI.low k h
  · have hj : isShift d id = false := by
      cases hj : isShift d id with
      | false => rfl
      | true =>
        simp only [isShift, decide_eq_true_eq] at hj
        rw [w0.hi id (by omega)] at h
        cases h
    simp only [ι', hj, Bool.false_eq_true, if_false]
    exact hI.fix id v h
  · have h0 := hI2.fr 0
    refine LRel.rens (LRel.plain (fun i v hi hv => ?_) hp h0)
    simp only [idM]
    split
    · rename_i hlt'
      obtain ⟨v0, hv0⟩ := hisv i (by omega)
      have := hfix i v0 (by omega) hv0
      rw [hv] at this
      cases this
      have hsf : isShift d (is.getD i 0) = false := hsh _ (by rw [List.getD_eq_getElem?_getD, List.getElem?_eq_getElem hlt', Option.getD_some]; exact List.getElem_mem _)
      simp only [ι', hsf, Bool.false_eq_true, if_false]
      exact hv0
    · have : isShift d (shift d i) = true := decide_eq_true ⟨Nat.le_add_right _ _, Nat.add_lt_add_left hi _⟩
      simp only [ι', this, if_true]
      rw [show shift d i - (1000 + 16 * d) = i from Nat.add_sub_cancel_left _ _]
      exact hv

section
variable {n : Nat} {all : Array Oper} {o : Oper} {l : List Oper} {s : St} {k : Kont}
theorem HereO.openRow (hT : T.Ok P) {t e e' : Nat} {a : Operand} {id i : Nat} {tt : List (List Value)} (j : Nat) (ho : o.op = .load t a) (ha : evL s a = .pe id i) (hσ : s.σ id = some (.rows e e' tt))
    (ht : T.sc t = true) (hi : i < tt.length) (hj : 16 ≤ j) (hji : j ≠ id) (h : OpsV P T n all l (((s.fresh j (.row e' (tt.getD i []))).set id (.hole e e' tt i (some j))).put o.dst (.own j)) k) : HereO P T n all o l s k :=
  HereO.of hT h fun hK => OpT.openRow hT j ho ha hσ ht hi hj hji hK
theorem HereO.callM (hT : T.Ok P) {fo : Operand} {as : Array Operand} {ts : Array TypeId} {g : Nat} {caps : List LV} {args : List LV} {r : LV} {os : List OC} {os' : List (Option OC)} (d : Nat) (is : List Nat) (ho : o.op = .call { callee := .value fo, args := as, argTypes := ts })
    (hf : evL s fo = .fn g caps) (hs : SpecM P g args os r os') (ha : toMs s.σ is (as.toList.map (evL s) ++ caps) = args) (hos : is.map s.σ = os.map some) (hnd : is.Nodup) (hsh : is.all (fun i => !isShift d i) = true) (hp : plainL r = true) (hpo : os.all plainO = true) (hpo' : os'.all (fun o => o.all plainO) = true) (hl' : os'.length ≤ 16)
    (h : OpsV P T n all l ((s.back d is os').put o.dst (ren (idM is d) r)) k) : HereO P T n all o l s k :=
  HereO.of hT h fun hK => OpT.callM d is ho hf hs ha hos hnd (fun i hi => by simpa using List.all_eq_true.1 hsh i hi) hp hpo (fun oc hoc => by have := List.all_eq_true.1 hpo' _ hoc; simpa using this) hl' hK
end

/-- Behind an operation whose result is a plain value the state is told in other words. -/
theorem OpT.post {o : Oper} {s s1 s2 : St} {K : LV → St → Prop} {x : Value} (h : OpT P o s fun r s' => r = .v x ∧ s' = s1) (hc : Conv s1 s2) (hK : K (.v x) s2) : OpT P o s K := by
  intro w0 w ι fp f hI
  have H := h w0 w ι fp f hI
  generalize (execOp (evV f) o).run P w = R at H
  cases H with
  | value r s' v w' ι' fp' hI' hr hK' =>
    obtain ⟨rfl, rfl⟩ := hK'
    obtain ⟨ι2, fp2, hI2⟩ := hc _ _ _ _ _ hI'
    exact .value _ _ v w' ι2 fp2 hI2 (by simp only [LRel] at hr ⊢; exact hr) hK
  | skip s' w' ι' fp' hI' hK' => cases hK'.1
  | enter g args w' hcall =>
    refine .enter _ _ _ (hcall.mono ?_)
    rintro e w2 ⟨r, s', v, ι', fp', rfl, hI', hr, rfl, rfl⟩
    obtain ⟨ι2, fp2, hI2⟩ := hc _ _ _ _ _ hI'
    exact ⟨_, _, v, ι2, fp2, rfl, hI2, by simp only [LRel] at hr ⊢; exact hr, hK⟩
theorem HereO.callMC (hT : T.Ok P) {n : Nat} {all : Array Oper} {o : Oper} {l : List Oper} {s : St} {k : Kont} {fo : Operand} {as : Array Operand} {ts : Array TypeId} {g : Nat} {caps : List LV} {args : List LV} {x : Value} {os : List OC} {os' : List (Option OC)} {s2 : St} (d : Nat) (is : List Nat) (ho : o.op = .call { callee := .value fo, args := as, argTypes := ts })
    (hf : evL s fo = .fn g caps) (hs : SpecM P g args os (.v x) os') (ha : toMs s.σ is (as.toList.map (evL s) ++ caps) = args) (hos : is.map s.σ = os.map some) (hnd : is.Nodup) (hsh : is.all (fun i => !isShift d i) = true) (hpo : os.all plainO = true) (hpo' : os'.all (fun o => o.all plainO) = true) (hl' : os'.length ≤ 16)
    (hc : Conv (s.back d is os') s2) (h : OpsV P T n all l (s2.put o.dst (.v x)) k) : HereO P T n all o l s k :=
  HereO.of hT h fun hK => OpT.post (OpT.callM d is ho hf hs ha hos hnd (fun i hi => by simpa using List.all_eq_true.1 hsh i hi) rfl hpo (fun oc hoc => by have := List.all_eq_true.1 hpo' _ hoc; simpa using this) hl' ⟨by simp only [ren], rfl⟩) hc hK
theorem SpecM.of_code' {P : Program} {T : TT} (hT : T.Ok P) {g n : Nat} {fn : Func} {c : Code} {args : List LV} {os : List OC} {r : LV} {os' : List (Option OC)} (hf : P.funcs[g]? = some fn) (hb : fn.body = some c) (hn : fn.ntmps = n) (ent : ∀ args w, (callFunc g args).run P w = .ok (.enter g args) w)
    (hl : args.length ≤ n) (hlen : os.length ≤ 16) (hlen' : os.length ≤ os'.length) (hp : plainL r = true) (hpo : os'.all (fun o => o.all plainO) = true) (h : Here P n c ⟨mkE args, osF os⟩ (.done (RetM T fn.results os.length r os'))) : SpecM P g args os r os' := by
  refine SpecM.of_code hT hf hb hn ent hl hlen hlen' hp (fun i oc hi => ?_) h
  have hlt := osO_lt hi
  unfold osO at hi
  rw [List.getElem?_eq_getElem hlt] at hi
  simp only [Option.join_some] at hi
  have := List.all_eq_true.1 hpo _ (List.getElem_mem hlt)
  rw [hi] at this
  simpa using this
theorem ms0 {i : Nat} (m : Nat) (hi : i < 1) : [0, m].getD i 0 = i := by
  match i, hi with
  | 0, _ => rfl
theorem RetM.one0 {results : Array ResultVar} {r : LV} {s : St} {rs : List LV} {oc : OC} (h : resLs T s results.toList = some rs) (h2 : tupL rs = ren (fun i => [0].getD i 0) r) (h3 : s.σ 0 = some oc) : RetM T results 1 r [some oc] s :=
  ⟨rs, [0], h, h2, rfl, by simp, fun i hi => (by
    match i, hi with
    | 0, _ => rfl), fun i oc' hi => by
    cases i with
    | zero => simp [osO] at hi; subst hi; simpa using h3
    | succ i => simp [osO] at hi⟩
theorem RetM.one1 {results : Array ResultVar} {r : LV} {s : St} {rs : List LV} {oc : OC} (m : Nat) (hm : m ≠ 0) (h : resLs T s results.toList = some rs) (h2 : tupL rs = ren (fun i => [0, m].getD i 0) r) (h3 : s.σ m = some oc) : RetM T results 1 r [none, some oc] s :=
  ⟨rs, [0, m], h, h2, rfl, by simpa using Ne.symm hm, fun i hi => ms0 m hi, fun i oc' hi => by
    match i with
    | 0 => simp [osO] at hi
    | 1 => simp [osO] at hi; subst hi; simpa using h3
    | i + 2 => simp [osO] at hi⟩
end
end Go.Proofs.Ytdbkiomhoonclaa
