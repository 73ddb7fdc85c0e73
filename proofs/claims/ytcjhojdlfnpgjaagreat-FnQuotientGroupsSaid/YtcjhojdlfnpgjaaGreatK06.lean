/- A calculus of verification conditions over logical values: a call that writes into rows of the caller's own, at the caller; a row of a row of rows by itself. -/
import Derived.Test.YtcjhojdlfnpgjaaGreatK05
set_option linter.unusedVariables false
set_option linter.unusedSimpArgs false
set_option maxRecDepth 100000
namespace Go.Proofs.YtcjhojdlfnpgjaaGreat
open Go.RowKit
theorem OwnAll.at_ {w : World} {base e : Nat} : ∀ {t : List (List Value)} {hs : List Value} {fp : Nat → Prop} (i : Nat) {y : Value}, OwnAll w base e fp t hs → hs[i]? = some y → w.ownsRow base e 1 y (t.getD i []).length (t.getD i []) ∧ (∀ k, y.ownBlock = some k → fp k) ∧ i < t.length
  | [], hs, fp, i, y, h, hy => by simp only [OwnAll] at h; subst h; simp at hy
  | r :: t, hs, fp, 0, y, ⟨h, hs', e1, h1, h2, h3⟩, hy => by subst e1; simp at hy; subst hy; exact ⟨by simpa using h1, h2, by simp⟩
  | r :: t, hs, fp, i + 1, y, ⟨h, hs', e1, h1, h2, h3⟩, hy => by
    subst e1
    obtain ⟨g1, g2, g3⟩ := h3.at_ i (by simpa using hy)
    exact ⟨by simpa using g1, fun k hk => (g2 k hk).1, by simpa using g3⟩
theorem OwnAll.hole {w : World} {base e : Nat} : ∀ {t : List (List Value)} {hs : List Value} {fp : Nat → Prop} (i : Nat) {y : Value}, OwnAll w base e fp t hs → hs[i]? = some y → OwnAll w base e (fun k => fp k ∧ y.ownBlock ≠ some k) (t.set i []) (hs.set i (.slice none 0 0))
  | [], hs, fp, i, y, h, hy => by simp only [OwnAll] at h; subst h; simp at hy
  | r :: t, hs, fp, 0, y, ⟨h, hs', e1, h1, h2, h3⟩, hy => by
    subst e1
    simp at hy
    subst hy
    exact ⟨_, hs', rfl, World.ownsRow_nil _ _ _ _, fun k hk => by simp [Value.ownBlock] at hk, h3.mono fun k hk => ⟨hk, by simp [Value.ownBlock]⟩⟩
  | r :: t, hs, fp, i + 1, y, ⟨h, hs', e1, h1, h2, h3⟩, hy => by
    subst e1
    have hy' : hs'[i]? = some y := by simpa using hy
    obtain ⟨g1, g2, g3⟩ := h3.at_ i hy'
    exact ⟨h, _, rfl, h1, fun k hk => ⟨h2 k hk, fun e => (g2 k e).2 hk⟩, (h3.hole i hy').mono fun k hk => ⟨⟨hk.1.1, hk.2⟩, hk.1.2⟩⟩
theorem OwnAll.len {w : World} {base e : Nat} : ∀ {t : List (List Value)} {hs : List Value} {fp : Nat → Prop}, OwnAll w base e fp t hs → hs.length = t.length
  | [], hs, fp, h => by simp only [OwnAll] at h; subst h; rfl
  | r :: t, hs, fp, ⟨h, hs', e1, h1, h2, h3⟩ => by subst e1; simp [h3.len]
section
variable {P : Program} {T : TT}
theorem OpT.openRow (hT : T.Ok P) {o : Oper} {s : St} {K : LV → St → Prop} {t e e' : Nat} {a : Operand} {id i : Nat} {tt : List (List Value)} (j : Nat) (ho : o.op = .load t a) (ha : evL s a = .pe id i) (hσ : s.σ id = some (.rows e e' tt))
    (ht : T.sc t = true) (hi : i < tt.length) (hj : 16 ≤ j) (hji : j ≠ id) (hK : K (.own j) ((s.fresh j (.row e' (tt.getD i []))).set id (.hole e e' tt i (some j)))) : OpT P o s K := by
  intro w0 w ι fp f hI
  have hav := hI.ev a
  rw [ha] at hav
  simp only [LRel] at hav
  obtain ⟨g, n, c, e1, e2⟩ := hav
  obtain ⟨v, hs, g1, g2, g3, g4, g5⟩ := hI.ob id _ hσ
  rw [e1] at g1
  simp only [Option.some.injEq] at g1
  subst g1
  have hlen := g4.len
  obtain ⟨y, hy⟩ : ∃ y, hs[i]? = some y := ⟨hs[i]'(by omega), List.getElem?_eq_getElem _⟩
  have hcell : w.cell? ⟨g, i, none⟩ = some y := by
    have := g2.cells (g := g) rfl i y hy
    rwa [add0] at this
  obtain ⟨k1, k2, k3⟩ := g4.at_ i hy
  have hr : (execOp (evV f) o).run P w = .ok (.value y) w := by
    have := run_loadAt_sc hT ht hcell
    simp [execOp, ho, e2, this]
  rw [hr]
  have hFs : ∀ k, FF ((s.fresh j (.row e' (tt.getD i []))).set id (.hole e e' tt i (some j))).σ (fun q => if q = j then fun k => y.ownBlock = some k else if q = id then fun k => fp id k ∧ y.ownBlock ≠ some k else fp q) k → FF s.σ fp k := by
    rintro k ⟨q, oc, h1, h2⟩
    by_cases q1 : q = j
    · rw [if_pos q1] at h2
      exact ⟨id, _, hσ, (k2 k h2).1⟩
    · rw [if_neg q1] at h2
      by_cases q2 : q = id
      · rw [if_pos q2] at h2; exact ⟨id, _, hσ, h2.1⟩
      · rw [if_neg q2] at h2
        simp only [St.set, St.fresh, St.turn, if_neg q1, if_neg q2] at h1
        rw [if_neg (by simpa using q1)] at h1
        cases hq : s.σ q with
        | none => rw [hq] at h1; cases h1
        | some oc' => exact ⟨q, oc', hq, h2⟩
  have hk : Keeps (FF s.σ fp) (FF ((s.fresh j (.row e' (tt.getD i []))).set id (.hole e e' tt i (some j))).σ (fun q => if q = j then fun k => y.ownBlock = some k else if q = id then fun k => fp id k ∧ y.ownBlock ≠ some k else fp q)) w w :=
    fun p u hp hc => ⟨hc, fun hq => hp (hFs _ hq)⟩
  have hι : ∀ q v, (q == j) = false → ι q = some v → updI ι j y q = some v := kill_is fun q hq => by simp only [updI, if_neg hq]
  have old : ∀ q oc, q ≠ j → q ≠ id → ((s.fresh j (.row e' (tt.getD i []))).set id (.hole e e' tt i (some j))).σ q = some oc → ∃ oc', s.σ q = some oc' ∧ oc = killO (fun x => x == j) oc' := by
    intro q oc q1 q2 h1
    simp only [St.set, St.fresh, St.turn, if_neg q1, if_neg q2] at h1
    rw [if_neg (by simpa using q1)] at h1
    cases hq : s.σ q with
    | none => rw [hq] at h1; cases h1
    | some oc' => rw [hq] at h1; simp only [Option.map_some, Option.some.injEq] at h1; exact ⟨oc', rfl, h1.symm⟩
  refine .value _ _ _ _ (updI ι j y) (fun q => if q = j then fun k => y.ownBlock = some k else if q = id then fun k => fp id k ∧ y.ownBlock ≠ some k else fp q) ⟨fun x => (hI.fr x).kills hι hk, fun q oc hq => ?_, fun q q' oc oc' k h1 h2 d1 d2 => ?_, hI.bel, fun k hk => hI.low k (hFs k hk), updI_fix hI hj y⟩ (by simp only [LRel, updI, if_true]) hK
  · by_cases q1 : q = j
    · subst q1
      simp only [St.set, St.fresh, St.turn, if_neg hji, if_true, Option.some.injEq] at hq
      subst hq
      simp only [if_true]
      exact ⟨y, by simp [updI], k1, fun k => Iff.rfl⟩
    · simp only [if_neg q1]
      by_cases q2 : q = id
      · subst q2
        simp only [St.set, if_true, Option.some.injEq] at hq
        subst hq
        simp only [if_true]
        exact ⟨_, hs, y, by simp only [updI, if_neg q1]; exact e1, g2, fun k hk => ⟨g3 k hk, fun e => (k2 k e).2 hk⟩, (g4.hole i hy).mono fun k hk => ⟨⟨hk.1.1, hk.2⟩, hk.1.2⟩, fun k hk => g5 k hk.1, hy, fun x hx => by cases hx; simp [updI]⟩
      · simp only [if_neg q2]
        obtain ⟨oc', ho', rfl⟩ := old q oc q1 q2 hq
        exact (hI.ob q oc' ho').kills (by simpa using q1) hι hk (Nat.le_refl _) fun _ _ => rfl
  · have cl : ∀ q oc, q ≠ j → q ≠ id → ((s.fresh j (.row e' (tt.getD i []))).set id (.hole e e' tt i (some j))).σ q = some oc → fp q k → fp id k → False := by
      intro q oc q1 q2 hq a1 a2
      obtain ⟨oc', ho', _⟩ := old q oc q1 q2 hq
      exact q2 (hI.dis _ _ _ _ k ho' hσ a1 a2)
    by_cases q1 : q = j
    · by_cases q1' : q' = j
      · rw [q1, q1']
      · simp only [if_pos q1] at d1
        simp only [if_neg q1'] at d2
        by_cases q2' : q' = id
        · simp only [if_pos q2'] at d2; exact (d2.2 d1).elim
        · simp only [if_neg q2'] at d2; exact (cl q' oc' q1' q2' h2 d2 (k2 k d1).1).elim
    · simp only [if_neg q1] at d1
      by_cases q2 : q = id
      · simp only [if_pos q2] at d1
        by_cases q1' : q' = j
        · simp only [if_pos q1'] at d2; exact (d1.2 d2).elim
        · simp only [if_neg q1'] at d2
          by_cases q2' : q' = id
          · rw [q2, q2']
          · simp only [if_neg q2'] at d2; exact (cl q' oc' q1' q2' h2 d2 d1.1).elim
      · simp only [if_neg q2] at d1
        by_cases q1' : q' = j
        · simp only [if_pos q1'] at d2; exact (cl q oc q1 q2 h1 d1 (k2 k d2).1).elim
        · simp only [if_neg q1'] at d2
          by_cases q2' : q' = id
          · simp only [if_pos q2'] at d2; exact (cl q oc q1 q2 h1 d1 d2.1).elim
          · simp only [if_neg q2'] at d2
            obtain ⟨o1, ho1, _⟩ := old q oc q1 q2 h1
            obtain ⟨o2, ho2, _⟩ := old q' oc' q1' q2' h2
            exact hI.dis _ _ _ _ k ho1 ho2 d1 d2
def St.shut (s : St) (j id : Nat) (oc : OC) : St := ⟨s.lf, fun q => if q = j then none else if q = id then some oc else s.σ q⟩
theorem Conv.shut {s : St} {id e e' i : Nat} {tt : List (List Value)} {vs : List Value} (j : Nat) (hji : j ≠ id) (hσ : s.σ id = some (.hole e e' tt i (some j))) (hj : s.σ j = some (.row e' vs)) : Conv s (s.shut j id (.rows e e' (tt.set i vs))) := by
  intro w0 w ι fp f hI
  obtain ⟨v, hs, y, g1, g2, g3, g4, g5, g6, g7⟩ := hI.ob id _ hσ
  obtain ⟨y', p1, p2, p3⟩ := hI.ob j _ hj
  have := g7 j rfl
  rw [p1] at this
  simp only [Option.some.injEq] at this
  subst this
  have hdis : ∀ k, fp id k → fp j k → False := fun k a b => hji (hI.dis _ _ _ _ k hj hσ b a)
  have hFs : ∀ k, FF (s.shut j id (.rows e e' (tt.set i vs))).σ (fun q => if q = id then fun k => fp id k ∨ fp j k else fp q) k → FF s.σ fp k := by
    rintro k ⟨q, oc, h1, h2⟩
    simp only [St.shut] at h1
    by_cases q1 : q = j
    · rw [if_pos q1] at h1; cases h1
    · rw [if_neg q1] at h1
      by_cases q2 : q = id
      · rw [if_pos q2] at h2
        rcases h2 with h2 | h2
        · exact ⟨id, _, hσ, h2⟩
        · exact ⟨j, _, hj, h2⟩
      · rw [if_neg q2] at h1 h2; exact ⟨q, oc, h1, h2⟩
  have hk : Keeps (FF s.σ fp) (FF (s.shut j id (.rows e e' (tt.set i vs))).σ (fun q => if q = id then fun k => fp id k ∨ fp j k else fp q)) w w := fun p u hp hc => ⟨hc, fun hq => hp (hFs _ hq)⟩
  refine ⟨ι, fun q => if q = id then fun k => fp id k ∨ fp j k else fp q, fun x => (hI.fr x).keeps (fun _ _ e => e) hk, fun q oc hq => ?_, fun q q' oc oc' k h1 h2 d1 d2 => ?_, hI.bel, fun k hk => hI.low k (hFs k hk), hI.fix⟩
  · simp only [St.shut] at hq
    by_cases q1 : q = j
    · rw [if_pos q1] at hq; cases hq
    · rw [if_neg q1] at hq
      by_cases q2 : q = id
      · subst q2
        simp only [if_true, Option.some.injEq] at hq
        subst hq
        simp only [if_true]
        have hset : hs.set i y' = hs := by
          refine List.ext_getElem? fun x => ?_
          rw [List.getElem?_set]
          by_cases e : i = x
          · subst e; rw [if_pos rfl, if_pos (List.getElem?_eq_some_iff.1 g6).1, g6]
          · rw [if_neg e]
        have := g4.set (h0 := y') (r := vs) i p2 fun k hk h => hdis k h.1 ((p3 k).2 hk)
        simp only [List.set_set, hset] at this
        refine ⟨v, hs, g1, g2, fun k hk => .inl (g3 k hk), this.mono ?_, fun k hk => ?_⟩
        · rintro k (h | h)
          · exact ⟨.inl h.1, h.2⟩
          · exact ⟨.inr ((p3 k).2 h), fun e => hdis k (g3 k e) ((p3 k).2 h)⟩
        · rcases hk with hk | hk
          · exact g5 k hk
          · exact p2.lt k ((p3 k).1 hk)
      · rw [if_neg q2] at hq
        simp only [if_neg q2]
        exact (hI.ob q oc hq).keeps (fun _ _ e => e) hk (Nat.le_refl _) fun _ _ => rfl
  · simp only [St.shut] at h1 h2
    by_cases q1 : q = j
    · rw [if_pos q1] at h1; cases h1
    · by_cases q1' : q' = j
      · rw [if_pos q1'] at h2; cases h2
      · rw [if_neg q1] at h1
        rw [if_neg q1'] at h2
        by_cases q2 : q = id
        · by_cases q2' : q' = id
          · rw [q2, q2']
          · simp only [if_pos q2] at d1
            simp only [if_neg q2'] at d2
            rw [if_neg q2'] at h2
            rcases d1 with d1 | d1
            · exact (q2' (hI.dis _ _ _ _ k h2 hσ d2 d1)).elim
            · exact (q1' (hI.dis _ _ _ _ k h2 hj d2 d1)).elim
        · simp only [if_neg q2] at d1
          rw [if_neg q2] at h1
          by_cases q2' : q' = id
          · simp only [if_pos q2'] at d2
            rcases d2 with d2 | d2
            · exact (q2 (hI.dis _ _ _ _ k h1 hσ d1 d2)).elim
            · exact (q1 (hI.dis _ _ _ _ k h1 hj d1 d2)).elim
          · simp only [if_neg q2'] at d2
            rw [if_neg q2'] at h2
            exact hI.dis _ _ _ _ k h1 h2 d1 d2
def posOf : List Nat → Nat → Option Nat
  | [], _ => none
  | a :: l, j => if j = a then some 0 else (posOf l j).map (· + 1)
theorem posOf_some : ∀ {l : List Nat} {j i : Nat}, posOf l j = some i → i < l.length ∧ l.getD i 0 = j
  | [], j, i, h => by cases h
  | a :: l, j, i, h => by
    simp only [posOf] at h
    split at h
    · rename_i e; cases h; subst e; simp
    · cases hp : posOf l j with
      | none => rw [hp] at h; cases h
      | some x =>
        rw [hp] at h
        simp only [Option.map_some, Option.some.injEq] at h
        subst h
        obtain ⟨h1, h2⟩ := posOf_some hp
        exact ⟨by simpa using h1, by simpa using h2⟩
mutual
def toA (σ : Nat → Option OC) (is : List Nat) : LV → LV
  | .rdL l => .rdL (toAs σ is l)
  | .agg l => .agg (toAs σ is l)
  | .tup l => .tup (toAs σ is l)
  | .box l => .box (toAs σ is l)
  | .rdA k l => .rdA k (toAs σ is l)
  | .pc x => .pc (toA σ is x)
  | .own id => match posOf is id with
    | some i => .own i
    | none => match σ id with
      | some (.row _ vs) => .rd vs
      | some (.rows _ _ t) => .rds t
      | some (.cust _ r _) => r
      | some (.ghost vs) => .rd vs
      | _ => .junk
  | .ptr _ _ => .junk
  | .pe _ _ => .junk
  | .sub _ _ _ => .junk
  | .fn g caps => .fn g (toAs σ is caps)
  | .v x => .v x
  | .junk => .junk
  | .rd vs => .rd vs
  | .rds t => .rds t
def toAs (σ : Nat → Option OC) (is : List Nat) : List LV → List LV
  | [] => []
  | x :: l => toA σ is x :: toAs σ is l
end
mutual
def toM (σ : Nat → Option OC) (is : List Nat) : LV → LV
  | .rdL l => .rdL (toMs σ is l)
  | .agg l => .agg (toMs σ is l)
  | .tup l => .tup (toMs σ is l)
  | .box l => .box (toMs σ is l)
  | .rdA k l => .rdA k (toMs σ is l)
  | .pc x => .pc (toM σ is x)
  | .own id => match posOf is id with
    | some i => .own i
    | none => match σ id with
      | some (.row _ vs) => .rd vs
      | some (.rows _ _ t) => .rds t
      | some (.cust _ r _) => r
      | some (.ghost vs) => .rd vs
      | _ => .junk
  | .ptr id off => match posOf is id with
    | some i => .ptr i off
    | none => match off, σ id with
      | 0, some (.cells _ l) => .box (toAs σ is l)
      | _, _ => .junk
  | .pe _ _ => .junk
  | .sub id j n => match posOf is id with
    | some i => .sub i j n
    | none => .junk
  | .fn g caps => .fn g (toMs σ is caps)
  | .v x => .v x
  | .junk => .junk
  | .rd vs => .rd vs
  | .rds t => .rds t
def toMs (σ : Nat → Option OC) (is : List Nat) : List LV → List LV
  | [] => []
  | x :: l => toM σ is x :: toMs σ is l
end
def idM (is : List Nat) (d i : Nat) : Nat := if i < is.length then is.getD i 0 else shift d i
def ghO : Option OC → Bool
  | some (.ghost _) => true
  | _ => false
theorem ghO_some {x : Option OC} (h : ghO x = true) : ∃ vs, x = some (.ghost vs) := by
  unfold ghO at h
  split at h
  · exact ⟨_, rfl⟩
  · cases h
def St.back (s : St) (d : Nat) (is : List Nat) (os' : List (Option OC)) : St :=
  ⟨fun i => kill (isShift d) (s.lf i), fun j => if isShift d j then (if j - (1000 + 16 * d) < is.length then none else (osO os' (j - (1000 + 16 * d))).map (renO (idM is d))) else match posOf is j with
    | some i => if ghO (s.σ j) = true then s.σ j else (osO os' i).map (renO (idM is d))
    | none => (s.σ j).map (killO (isShift d))⟩
section
variable {w0 : Base} {w : World} {ι : Nat → Option Value} {fp : Nat → Nat → Prop} {s : St} {f : Nat → Value} {is : List Nat} {os : List OC}
def toMO (σ : Nat → Option OC) (is : List Nat) : OC → OC
  | .cells t l => .cells t (toMs σ is l)
  | oc => oc
theorem inIs (hos : (is.map fun i => (s.σ i).map (toMO s.σ is)) = os.map some) {i : Nat} {oc : OC} (h : osF os i = some oc) : ∃ oc0, s.σ (is.getD i 0) = some oc0 ∧ oc = toMO s.σ is oc0 ∧ i < is.length := by
  have hlen : is.length = os.length := by simpa using congrArg List.length hos
  have hi : i < os.length := (List.getElem?_eq_some_iff.1 h).1
  have h1 : (is.map fun i => (s.σ i).map (toMO s.σ is))[i]? = (os.map some)[i]? := by rw [hos]
  unfold osF at h
  rw [List.getElem?_map, List.getElem?_map, h, List.getElem?_eq_getElem (by omega)] at h1
  simp only [Option.map_some, Option.some.injEq] at h1
  rw [List.getD_eq_getElem?_getD, List.getElem?_eq_getElem (by omega), Option.getD_some]
  cases hs : s.σ is[i] with
  | none => rw [hs] at h1; cases h1
  | some oc0 => rw [hs] at h1; simp only [Option.map_some, Option.some.injEq] at h1; exact ⟨oc0, rfl, h1.symm, by omega⟩
mutual
theorem LRel.toA (hI : Inv w0 w ι fp s f) {F' : Nat → Prop} (hF : ∀ k, F' k → FF s.σ fp k) (hF2 : ∀ id oc k, s.σ id = some oc → posOf is id = none → fp id k → ¬ F' k) : ∀ {x : LV} {y : Value}, LRel ι (FF s.σ fp) w x y → LRel (fun i => ι (is.getD i 0)) F' w (toA s.σ is x) y
  | .v _, _, h => by simp only [LRel, Go.Proofs.YtcjhojdlfnpgjaaGreat.toA] at *; exact h
  | .junk, _, h => by simp only [LRel, Go.Proofs.YtcjhojdlfnpgjaaGreat.toA]
  | .rd _, _, h => by simp only [LRel, Go.Proofs.YtcjhojdlfnpgjaaGreat.toA] at *; exact h.keeps fun p u hp hc => ⟨hc, fun q => hp (hF _ q)⟩
  | .rds _, _, h => by
    simp only [LRel, Go.Proofs.YtcjhojdlfnpgjaaGreat.toA] at *
    obtain ⟨hs, h1, h2⟩ := h
    exact ⟨hs, h1.keeps fun p u hp hc => ⟨hc, fun q => hp (hF _ q)⟩, h2.keeps fun p u hp hc => ⟨hc, fun q => hp (hF _ q)⟩⟩
  | .rdL _, _, h => by
    simp only [LRel, Go.Proofs.YtcjhojdlfnpgjaaGreat.toA] at *
    obtain ⟨ys, e, h⟩ := h
    exact ⟨ys, e.keeps fun p u hp hc => ⟨hc, fun q => hp (hF _ q)⟩, LRels.toA hI hF hF2 h⟩
  | .agg _, _, h => by
    simp only [LRel, Go.Proofs.YtcjhojdlfnpgjaaGreat.toA] at *
    obtain ⟨ys, e, h⟩ := h
    exact ⟨ys, e, LRels.toA hI hF hF2 h⟩
  | .tup _, _, h => by
    simp only [LRel, Go.Proofs.YtcjhojdlfnpgjaaGreat.toA] at *
    obtain ⟨ys, e, h⟩ := h
    exact ⟨ys, e, LRels.toA hI hF hF2 h⟩
  | .box l, _, h => by
    simp only [LRel, Go.Proofs.YtcjhojdlfnpgjaaGreat.toA] at *
    obtain ⟨b, ys, e, hc, h⟩ := h
    exact ⟨b, ys, e, fun j u hu => ⟨fun q => (hc j u hu).1 (hF _ q), (hc j u hu).2⟩, LRels.toA hI hF hF2 h⟩
  | .rdA _ l, _, h => by
    simp only [LRel, Go.Proofs.YtcjhojdlfnpgjaaGreat.toA] at *
    obtain ⟨A, m, c, ys, e, h1, h2, h3, h4, h⟩ := h
    exact ⟨A, m, c, ys, e, h1, h2, h3, fun hm => (h4 hm).imp fun ad h => ⟨h.1, fun j u hu => ⟨fun q => (h.2 j u hu).1 (hF _ q), (h.2 j u hu).2⟩⟩, LRels.toA hI hF hF2 h⟩
  | .pc x, _, h => by
    simp only [LRel, Go.Proofs.YtcjhojdlfnpgjaaGreat.toA] at *
    obtain ⟨p, u, e, hn, hc, h⟩ := h
    exact ⟨p, u, e, fun q => hn (hF _ q), hc, LRel.toA hI hF hF2 h⟩
  | .own id, y, h => by
    simp only [LRel] at h
    unfold Go.Proofs.YtcjhojdlfnpgjaaGreat.toA
    split
    · rename_i i hp
      obtain ⟨h1, h2⟩ := posOf_some hp
      simp only [LRel]
      rw [h2]; exact h
    · rename_i hp
      split
      · rename_i vs hσ
        obtain ⟨v', h1, h2, h3⟩ := hI.ob id _ hσ
        rw [h] at h1
        simp only [Option.some.injEq] at h1
        subst h1
        simp only [LRel]
        exact own_RSF h2 fun k hk => hF2 id _ k hσ hp ((h3 k).2 hk)
      · rename_i t hσ
        obtain ⟨v', hs, h1, h2, h3, h4, h5⟩ := hI.ob id _ hσ
        rw [h] at h1
        simp only [Option.some.injEq] at h1
        subst h1
        simp only [LRel]
        exact ⟨hs, own_RSF h2 fun k hk => hF2 id _ k hσ hp (h3 k hk), h4.rrowF fun k hk => hF2 id _ k hσ hp hk.1⟩
      · rename_i r jj hσ
        obtain ⟨v', y, h1, h2, h3, h4, h5⟩ := hI.ob id _ hσ
        rw [h] at h1
        simp only [Option.some.injEq] at h1
        subst h1
        exact (h2 _ _ _ _ h3).2.2 _ _ fun k hk => hF2 id _ k hσ hp hk
      · rename_i vs hσ
        obtain ⟨v', h1, h2, h3⟩ := hI.ob id _ hσ
        rw [h] at h1
        simp only [Option.some.injEq] at h1
        subst h1
        simp only [LRel]
        exact h3.keeps fun p u hp hc => ⟨hc, fun q => hp (hF _ q)⟩
      · simp only [LRel]
  | .ptr _ _, _, _ => by simp only [LRel, Go.Proofs.YtcjhojdlfnpgjaaGreat.toA]
  | .pe _ _, _, _ => by simp only [LRel, Go.Proofs.YtcjhojdlfnpgjaaGreat.toA]
  | .sub _ _ _, _, _ => by simp only [LRel, Go.Proofs.YtcjhojdlfnpgjaaGreat.toA]
  | .fn _ _, _, h => by
    simp only [LRel, Go.Proofs.YtcjhojdlfnpgjaaGreat.toA] at *
    obtain ⟨ys, e, h⟩ := h
    exact ⟨ys, e, LRels.toA hI hF hF2 h⟩
theorem LRels.toA (hI : Inv w0 w ι fp s f) {F' : Nat → Prop} (hF : ∀ k, F' k → FF s.σ fp k) (hF2 : ∀ id oc k, s.σ id = some oc → posOf is id = none → fp id k → ¬ F' k) : ∀ {l : List LV} {ys : List Value}, LRels ι (FF s.σ fp) w l ys → LRels (fun i => ι (is.getD i 0)) F' w (toAs s.σ is l) ys
  | [], _, h => by simp only [LRels, toAs] at *; exact h
  | _ :: _, _, h => by
    simp only [LRels, toAs] at *
    obtain ⟨y, r, e, h1, h2⟩ := h
    exact ⟨y, r, e, LRel.toA hI hF hF2 h1, LRels.toA hI hF hF2 h2⟩
end
mutual
theorem LRel.toM (hI : Inv w0 w ι fp s f) {F' : Nat → Prop} (hF : ∀ k, F' k → FF s.σ fp k) (hF2 : ∀ id oc k, s.σ id = some oc → posOf is id = none → fp id k → ¬ F' k) : ∀ {x : LV} {y : Value}, LRel ι (FF s.σ fp) w x y → LRel (fun i => ι (is.getD i 0)) F' w (toM s.σ is x) y
  | .v _, _, h => by simp only [LRel, Go.Proofs.YtcjhojdlfnpgjaaGreat.toM] at *; exact h
  | .junk, _, h => by simp only [LRel, Go.Proofs.YtcjhojdlfnpgjaaGreat.toM]
  | .rd _, _, h => by simp only [LRel, Go.Proofs.YtcjhojdlfnpgjaaGreat.toM] at *; exact h.keeps fun p u hp hc => ⟨hc, fun q => hp (hF _ q)⟩
  | .rds _, _, h => by
    simp only [LRel, Go.Proofs.YtcjhojdlfnpgjaaGreat.toM] at *
    obtain ⟨hs, h1, h2⟩ := h
    exact ⟨hs, h1.keeps fun p u hp hc => ⟨hc, fun q => hp (hF _ q)⟩, h2.keeps fun p u hp hc => ⟨hc, fun q => hp (hF _ q)⟩⟩
  | .rdL _, _, h => by
    simp only [LRel, Go.Proofs.YtcjhojdlfnpgjaaGreat.toM] at *
    obtain ⟨ys, e, h⟩ := h
    exact ⟨ys, e.keeps fun p u hp hc => ⟨hc, fun q => hp (hF _ q)⟩, LRels.toM hI hF hF2 h⟩
  | .agg _, _, h => by
    simp only [LRel, Go.Proofs.YtcjhojdlfnpgjaaGreat.toM] at *
    obtain ⟨ys, e, h⟩ := h
    exact ⟨ys, e, LRels.toM hI hF hF2 h⟩
  | .tup _, _, h => by
    simp only [LRel, Go.Proofs.YtcjhojdlfnpgjaaGreat.toM] at *
    obtain ⟨ys, e, h⟩ := h
    exact ⟨ys, e, LRels.toM hI hF hF2 h⟩
  | .box l, _, h => by
    simp only [LRel, Go.Proofs.YtcjhojdlfnpgjaaGreat.toM] at *
    obtain ⟨b, ys, e, hc, h⟩ := h
    exact ⟨b, ys, e, fun j u hu => ⟨fun q => (hc j u hu).1 (hF _ q), (hc j u hu).2⟩, LRels.toM hI hF hF2 h⟩
  | .rdA _ l, _, h => by
    simp only [LRel, Go.Proofs.YtcjhojdlfnpgjaaGreat.toM] at *
    obtain ⟨A, m, c, ys, e, h1, h2, h3, h4, h⟩ := h
    exact ⟨A, m, c, ys, e, h1, h2, h3, fun hm => (h4 hm).imp fun ad h => ⟨h.1, fun j u hu => ⟨fun q => (h.2 j u hu).1 (hF _ q), (h.2 j u hu).2⟩⟩, LRels.toM hI hF hF2 h⟩
  | .pc x, _, h => by
    simp only [LRel, Go.Proofs.YtcjhojdlfnpgjaaGreat.toM] at *
    obtain ⟨p, u, e, hn, hc, h⟩ := h
    exact ⟨p, u, e, fun q => hn (hF _ q), hc, LRel.toM hI hF hF2 h⟩
  | .own id, y, h => by
    simp only [LRel] at h
    unfold Go.Proofs.YtcjhojdlfnpgjaaGreat.toM
    split
    · rename_i i hp
      obtain ⟨h1, h2⟩ := posOf_some hp
      simp only [LRel]
      rw [h2]; exact h
    · rename_i hp
      split
      · rename_i vs hσ
        obtain ⟨v', h1, h2, h3⟩ := hI.ob id _ hσ
        rw [h] at h1
        simp only [Option.some.injEq] at h1
        subst h1
        simp only [LRel]
        exact own_RSF h2 fun k hk => hF2 id _ k hσ hp ((h3 k).2 hk)
      · rename_i t hσ
        obtain ⟨v', hs, h1, h2, h3, h4, h5⟩ := hI.ob id _ hσ
        rw [h] at h1
        simp only [Option.some.injEq] at h1
        subst h1
        simp only [LRel]
        exact ⟨hs, own_RSF h2 fun k hk => hF2 id _ k hσ hp (h3 k hk), h4.rrowF fun k hk => hF2 id _ k hσ hp hk.1⟩
      · rename_i r jj hσ
        obtain ⟨v', y, h1, h2, h3, h4, h5⟩ := hI.ob id _ hσ
        rw [h] at h1
        simp only [Option.some.injEq] at h1
        subst h1
        exact (h2 _ _ _ _ h3).2.2 _ _ fun k hk => hF2 id _ k hσ hp hk
      · rename_i vs hσ
        obtain ⟨v', h1, h2, h3⟩ := hI.ob id _ hσ
        rw [h] at h1
        simp only [Option.some.injEq] at h1
        subst h1
        simp only [LRel]
        exact h3.keeps fun p u hp hc => ⟨hc, fun q => hp (hF _ q)⟩
      · simp only [LRel]
  | .ptr id off, y, h => by
    simp only [LRel] at h
    obtain ⟨b, h1, e⟩ := h
    unfold Go.Proofs.YtcjhojdlfnpgjaaGreat.toM
    split
    · rename_i i hp
      obtain ⟨_, h2⟩ := posOf_some hp
      simp only [LRel]
      exact ⟨b, by rw [h2]; exact h1, e⟩
    rename_i hp
    split
    · rename_i tt l hσ
      obtain ⟨b', ys, g1, g2, g3, g4, g5⟩ := hI.ob id _ hσ
      rw [h1] at g1
      simp only [Option.some.injEq, Value.pointer.injEq, Addr.mk.injEq, and_true] at g1
      subst g1
      simp only [LRel]
      exact ⟨⟨b, 0, none⟩, ys, e, fun j u hu => ⟨hF2 id _ b hσ hp ((g3 b).2 rfl), by rw [add0, cell_at g4 j, hu]⟩, LRels.toA hI hF hF2 g5⟩
    · simp only [LRel]
  | .pe _ _, _, _ => by simp only [LRel, Go.Proofs.YtcjhojdlfnpgjaaGreat.toM]
  | .sub id j n, y, h => by
    simp only [LRel] at h
    unfold Go.Proofs.YtcjhojdlfnpgjaaGreat.toM
    split
    · rename_i i hp
      obtain ⟨_, h2⟩ := posOf_some hp
      simp only [LRel]
      rw [h2]
      exact h
    · simp only [LRel]
  | .fn _ _, _, h => by
    simp only [LRel, Go.Proofs.YtcjhojdlfnpgjaaGreat.toM] at *
    obtain ⟨ys, e, h⟩ := h
    exact ⟨ys, e, LRels.toM hI hF hF2 h⟩
theorem LRels.toM (hI : Inv w0 w ι fp s f) {F' : Nat → Prop} (hF : ∀ k, F' k → FF s.σ fp k) (hF2 : ∀ id oc k, s.σ id = some oc → posOf is id = none → fp id k → ¬ F' k) : ∀ {l : List LV} {ys : List Value}, LRels ι (FF s.σ fp) w l ys → LRels (fun i => ι (is.getD i 0)) F' w (toMs s.σ is l) ys
  | [], _, h => by simp only [LRels, toMs] at *; exact h
  | _ :: _, _, h => by
    simp only [LRels, toMs] at *
    obtain ⟨y, r, e, h1, h2⟩ := h
    exact ⟨y, r, e, LRel.toM hI hF hF2 h1, LRels.toM hI hF hF2 h2⟩
end
end
theorem posOf_get : ∀ {l : List Nat} {i : Nat}, l.Nodup → i < l.length → posOf l (l.getD i 0) = some i
  | [], i, _, h => by simp at h
  | a :: l, 0, _, _ => by simp [posOf]
  | a :: l, i + 1, hn, h => by
    have hn' := List.nodup_cons.1 hn
    have hi : i < l.length := by simpa using h
    have hg : (a :: l).getD (i + 1) 0 = l.getD i 0 := by simp
    rw [hg]
    simp only [posOf]
    rw [if_neg, posOf_get hn'.2 hi]
    · rfl
    · intro e
      apply hn'.1
      rw [← e, List.getD_eq_getElem?_getD, List.getElem?_eq_getElem hi, Option.getD_some]
      exact List.getElem_mem _
theorem OpT.callR {o : Oper} {s : St} {K : LV → St → Prop} {fo : Operand} {as : Array Operand} {ts : Array TypeId} {g : Nat} {caps : List LV} {args : List LV} {os : List OC} {R : LV → List (Option OC) → Prop} (d : Nat) (is : List Nat) (ho : o.op = .call { callee := .value fo, args := as, argTypes := ts })
    (hf : evL s fo = .fn g caps) (hs : SpecR P g args os R) (ha : toMs s.σ is (as.toList.map (evL s) ++ caps) = args) (hos : (is.map fun i => (s.σ i).map (toMO s.σ is)) = os.map some) (hnd : is.Nodup) (hsh : ∀ i ∈ is, isShift d i = false) (hpo : os.all plainO3 = true) (hR : ∀ r os', R r os' → plainL r = true ∧ (∀ oc, some oc ∈ os' → plainO2 oc = true) ∧ os'.length ≤ 16)
    (hK : ∀ r os', R r os' → K (ren (idM is d) r) (s.back d is os')) : OpT P o s K := by
  intro w0 w ι fp f hI
  have hv := hI.ev fo
  rw [hf] at hv
  simp only [LRel] at hv
  obtain ⟨cs, e, hc⟩ := hv
  have hlen : is.length = os.length := by simpa using congrArg List.length hos
  have hsub : ∀ k, FF (osF os) (fun i => fp (is.getD i 0)) k → FF s.σ fp k := fun k ⟨i, oc, h1, h2⟩ => let ⟨oc0, h3, _, _⟩ := inIs hos h1; ⟨_, oc0, h3, h2⟩
  have hapart : ∀ id oc k, s.σ id = some oc → posOf is id = none → fp id k → ¬ FF (osF os) (fun i => fp (is.getD i 0)) k := fun id oc k h1 h2 h3 ⟨i, oc', h4, h5⟩ => by
    obtain ⟨_, h6, _, h7⟩ := inIs hos h4
    have := hI.dis _ _ _ _ k h1 h6 h3 h5
    rw [this, posOf_get hnd h7] at h2
    cases h2
  have hargs := LRels.toM (is := is) hI (F' := FF (osF os) fun i => fp (is.getD i 0)) hsub hapart ((LRels.map hI.ev as.toList).append hc)
  rw [ha] at hargs
  rw [run_call ho e hs.ent w]
  have hB : ∀ k, FF (osF os) (fun i => fp (is.getD i 0)) k → FF s.σ fp k := fun k ⟨i, oc, h1, h2⟩ => let ⟨oc0, h3, _, _⟩ := inIs hos h1; ⟨_, oc0, h3, h2⟩
  refine .enter _ _ _ ((hs.run w (fun i => ι (is.getD i 0)) (fun i => fp (is.getD i 0)) _ (fun i oc h => ?_) (fun i i' oc oc' k h1 h2 h3 h4 => ?_) hargs).mono ?_)
  · obtain ⟨oc0, h3, h4, h5⟩ := inIs hos h
    have ho' := hI.ob _ oc0 h3
    have hpl := List.all_eq_true.1 hpo oc (List.mem_of_getElem? h)
    rw [h4] at hpl ⊢
    cases oc0 with
    | cells tt l =>
      obtain ⟨b, ys, g1, g2, g3, g4, g5⟩ := ho'
      exact ⟨b, ys, g1, g2, g3, g4, LRels.toM (is := is) hI hsub hapart g5⟩
    | row e vs => exact ORel.plain (oc := .row e vs) ho' rfl (fun v hv => hv) (Nat.le_refl _)
    | rows e e' tt => exact ORel.plain (oc := .rows e e' tt) ho' rfl (fun v hv => hv) (Nat.le_refl _)
    | ghost vs =>
      obtain ⟨v, g1, g2, g3⟩ := ho'
      exact ⟨v, g1, g2, g3.keeps fun p u hp hc => ⟨hc, fun q => hp (hsub _ q)⟩⟩
    | cust A r j => exact ORel.plain (oc := .cust A r j) ho' hpl (fun v hv => hv) (Nat.le_refl _)
    | rowL e l => simp [toMO, plainO3, plainO2] at hpl
    | hole e e' tt i j => simp [toMO, plainO3, plainO2] at hpl
    | late e vs => simp [toMO, plainO3, plainO2] at hpl
  · obtain ⟨_, a1, _, b1⟩ := inIs hos h1
    obtain ⟨_, a2, _, b2⟩ := inIs hos h2
    have := hI.dis _ _ _ _ k a1 a2 h3 h4
    have e1 := posOf_get hnd b1
    have e2 := posOf_get hnd b2
    rw [this, e2] at e1
    cases e1
    rfl
  rintro e w' ⟨r, os', hRr, v, ι2, fp2, rfl, hI2⟩
  obtain ⟨hp, hpo', hl'⟩ := hR r os' hRr
  have hlt := hI.lt
  have hsz : w.heap.size ≤ w'.heap.size := hI2.bel.size
  have low2 : ∀ i oc k, osO os' i = some oc → fp2 i k → w.heap.size ≤ k ∨ FF (osF os) (fun i => fp (is.getD i 0)) k := fun i oc k h1 h2 => hI2.low k ⟨i, oc, h1, h2⟩
  have hfix : ∀ i v, i < os.length → ι (is.getD i 0) = some v → ι2 i = some v := fun i v hi h => hI2.fix i v (by simp only [if_pos hi]; exact h)
  have hisv : ∀ i, i < os.length → ∃ v, ι (is.getD i 0) = some v := by
    intro i hi
    have h1 : osF os i = some os[i] := List.getElem?_eq_getElem hi
    obtain ⟨oc0, h3, h4, _⟩ := inIs hos h1
    have := hI.ob _ _ h3
    have hpl := List.all_eq_true.1 hpo os[i] (List.getElem_mem _)
    rw [h4] at hpl
    cases oc0 with
    | cells tt l => obtain ⟨b, ys, h1, _⟩ := this; exact ⟨_, h1⟩
    | rowL e l => simp [toMO, plainO3, plainO2] at hpl
    | hole e e' tt i j => simp [toMO, plainO3, plainO2] at hpl
    | late e vs => simp [toMO, plainO3, plainO2] at hpl
    | row e vs => obtain ⟨v, h1, _⟩ := this; exact ⟨v, h1⟩
    | rows e e' tt => obtain ⟨v, hs, h1, _⟩ := this; exact ⟨v, h1⟩
    | ghost vs => obtain ⟨v, h1, _⟩ := this; exact ⟨v, h1⟩
    | cust A r j => obtain ⟨v, y, h1, _⟩ := this; exact ⟨v, h1⟩
  -- the new numbers
  let ι' : Nat → Option Value := fun j => if isShift d j then ι2 (j - (1000 + 16 * d)) else ι j
  let fp' : Nat → Nat → Prop := fun j => if isShift d j then fp2 (j - (1000 + 16 * d)) else if ghO (s.σ j) = true then fp j else match posOf is j with | some i => fp2 i | none => fp j
  have hgh : ∀ j, ghO (s.σ j) = true → ∀ k, ¬ fp j k := fun j hj => by
    obtain ⟨vs, hvs⟩ := ghO_some hj
    obtain ⟨v, _, h, _⟩ := hI.ob j _ hvs
    exact h
  -- where an object of the new state comes from
  have src : ∀ j oc, (s.back d is os').σ j = some oc → (∃ i oc1, osO os' i = some oc1 ∧ oc = renO (idM is d) oc1 ∧ fp' j = fp2 i ∧ (∀ v, ι2 i = some v → ι' j = some v) ∧ (isShift d j = true ∧ j = 1000 + 16 * d + i ∧ is.length ≤ i ∨ posOf is j = some i ∧ isShift d j = false)) ∨ (isShift d j = false ∧ (posOf is j = none ∨ ghO (s.σ j) = true) ∧ fp' j = fp j ∧ ∃ oc', s.σ j = some oc' ∧ oc = killO (isShift d) oc') := by
    intro j oc h
    simp only [St.back] at h
    cases hj : isShift d j with
    | true =>
      rw [hj, if_pos rfl] at h
      split at h
      · cases h
      · rename_i hge
        obtain ⟨oc1, ho1, ho2⟩ := Option.map_eq_some_iff.1 h
        refine .inl ⟨_, oc1, ho1, ho2.symm, by simp only [fp', hj, if_true], fun v hv => by simp only [ι', hj, if_true]; exact hv, .inl ⟨rfl, ?_, by omega⟩⟩
        simp only [isShift, decide_eq_true_eq] at hj
        omega
    | false =>
      rw [hj, if_neg (by decide)] at h
      cases hp' : posOf is j with
      | some i =>
        rw [hp'] at h
        obtain ⟨hi1, hi2⟩ := posOf_some hp'
        by_cases hgj : ghO (s.σ j) = true
        · dsimp only at h
          rw [if_pos hgj] at h
          obtain ⟨vs, hvs⟩ := ghO_some hgj
          exact .inr ⟨rfl, .inr hgj, by simp only [fp', hj, Bool.false_eq_true, if_false, hgj, if_true], oc, h, by rw [hvs] at h; cases h; rfl⟩
        dsimp only at h
        rw [if_neg hgj] at h
        obtain ⟨oc1, ho1, ho2⟩ := Option.map_eq_some_iff.1 h
        refine .inl ⟨i, oc1, ho1, ho2.symm, by simp only [fp', hj, Bool.false_eq_true, if_false, hgj, hp'], fun v hv => ?_, .inr ⟨rfl, rfl⟩⟩
        obtain ⟨v0, hv0⟩ := hisv i (by omega)
        have := hfix i v0 (by omega) hv0
        rw [hv] at this
        cases this
        simp only [ι', hj, Bool.false_eq_true, if_false]
        rw [← hi2]; exact hv0
      | none =>
        rw [hp'] at h
        refine .inr ⟨rfl, .inl rfl, by simp only [fp', hj, Bool.false_eq_true, if_false, hp']; split <;> rfl, ?_⟩
        cases hs' : s.σ j with
        | none => simp only [hs'] at h; cases h
        | some oc' => simp only [hs', Option.map_some, Option.some.injEq] at h; exact ⟨oc', rfl, h.symm⟩
  have hF' : ∀ k, FF (s.back d is os').σ fp' k → w.heap.size ≤ k ∨ FF s.σ fp k := by
    rintro k ⟨j, oc, h1, h2⟩
    rcases src j oc h1 with ⟨i, oc1, g1, _, g2, _⟩ | ⟨_, _, g2, oc', g3, _⟩
    · rw [g2] at h2; exact (low2 i oc1 k g1 h2).imp_right (hB k)
    · rw [g2] at h2; exact .inr ⟨j, oc', g3, h2⟩
  have hk : Keeps (FF s.σ fp) (FF (s.back d is os').σ fp') w w' := fun p u hp hc => by
    have hlt' := World.block_lt_of_cell? _ _ hc
    refine ⟨(World.cell?_of_block (hI2.bel.block p.block hlt' fun h => hp (hB _ h))).trans hc, fun hq => ?_⟩
    rcases hF' _ hq with h | h
    · omega
    · exact hp h
  have hι : ∀ id v, isShift d id = false → ι id = some v → ι' id = some v := fun id v h e => by simp only [ι', h, Bool.false_eq_true, if_false]; exact e
  have hren : ∀ i v, i < 16 → ι2 i = some v → ι' (idM is d i) = some v := fun i v hi hv => by
    simp only [idM]
    split
    · rename_i hlt'
      obtain ⟨v0, hv0⟩ := hisv i (by omega)
      have := hfix i v0 (by omega) hv0
      rw [hv] at this
      cases this
      have hsf : isShift d (is.getD i 0) = false := hsh _ (by rw [List.getD_eq_getElem?_getD, List.getElem?_eq_getElem hlt', Option.getD_some]; exact List.getElem_mem _)
      simp only [ι', hsf, Bool.false_eq_true, if_false]
      exact hv0
    · have : isShift d (shift d i) = true := decide_eq_true ⟨Nat.le_add_right _ _, Nat.add_lt_add_left hi _⟩
      simp only [ι', this, if_true]
      rw [show shift d i - (1000 + 16 * d) = i from Nat.add_sub_cancel_left _ _]
      exact hv
  have hplO : ∀ i oc, osO os' i = some oc → plainO2 oc = true ∧ i < os'.length := by
    intro i oc h
    refine ⟨hpo' oc ?_, osO_lt h⟩
    unfold osO at h
    have := osO_lt (os := os') (i := i) (oc := oc) (by unfold osO; exact h)
    rw [List.getElem?_eq_getElem this] at h
    simp only [Option.join_some] at h
    rw [← h]
    exact List.getElem_mem _
  have blk : ∀ j oc', s.σ j = some oc' → (posOf is j = none ∨ ghO (s.σ j) = true) → ∀ k, fp j k → w'.heap[k]? = w.heap[k]? := by
    intro j oc' h1 h2 k h3
    replace h2 := h2.resolve_right fun e => hgh j e k h3
    refine hI2.bel.block k (hlt k ⟨j, oc', h1, h3⟩).2 fun ⟨i, oc2, h4, h5⟩ => ?_
    obtain ⟨_, h6, _, h7⟩ := inIs hos h4
    have := hI.dis _ _ _ _ k h1 h6 h3 h5
    rw [this, posOf_get hnd h7] at h2
    cases h2
  refine ⟨_, s.back d is os', v, ι', fp', rfl, ⟨fun i => (hI.fr i).kills hι hk, fun j oc hj => ?_, fun j j' oc oc' k h1 h2 d1 d2 => ?_, ⟨hI2.bel.os.trans hI.bel.os, hI2.bel.tape.trans hI.bel.tape, hI2.bel.output.trans hI.bel.output, Nat.le_trans hI.bel.size hsz, fun k hkl hkB => ?_⟩, fun k hk' => ?_, fun id v h => ?_⟩, ?_, hK r os' hRr⟩
  · rcases src j oc hj with ⟨i, oc1, g1, ge, g2, g3, g4⟩ | ⟨g0, g1, g2, oc', g3, rfl⟩
    · rw [g2, ge]
      exact ORel.renP (hI2.ob i oc1 g1) (hplO i oc1 g1).1 hren g3 (Nat.le_refl _)
    · rw [g2]
      exact (hI.ob j oc' g3).kills g0 hι hk hsz fun k hk' => blk j oc' g3 g1 k hk'
  · have cross : ∀ i oc j oc', osO os' i = some oc → fp2 i k → s.σ j = some oc' → (posOf is j = none ∨ ghO (s.σ j) = true) → fp j k → False := by
      intro i oc j oc' a1 a2 a3 a4 a5
      replace a4 := a4.resolve_right fun e => hgh j e k a5
      rcases low2 i oc k a1 a2 with h | ⟨i', oc2, h4, h5⟩
      · have := (hlt k ⟨j, oc', a3, a5⟩).2; omega
      · obtain ⟨_, h6, _, h7⟩ := inIs hos h4
        have := hI.dis _ _ _ _ k a3 h6 a5 h5
        rw [this, posOf_get hnd h7] at a4
        cases a4
    rcases src j oc h1 with ⟨i, o1, g1, _, g2, g3, g4⟩ | ⟨g0, g1, g2, oc1, g3, _⟩
    · rcases src j' oc' h2 with ⟨i', o1', g1', _, g2', g3', g4'⟩ | ⟨g0', g1', g2', oc1', g3', _⟩
      · rw [g2] at d1
        rw [g2'] at d2
        have := hI2.dis _ _ _ _ k g1 g1' d1 d2
        subst this
        rcases g4 with ⟨a, b, c⟩ | ⟨a, b⟩
        · rcases g4' with ⟨a', b', c'⟩ | ⟨a', b'⟩
          · omega
          · have := (posOf_some a').1; omega
        · rcases g4' with ⟨a', b', c'⟩ | ⟨a', b'⟩
          · have := (posOf_some a).1; omega
          · rw [← (posOf_some a).2, ← (posOf_some a').2]
      · rw [g2] at d1
        rw [g2'] at d2
        exact (cross i o1 j' oc1' g1 d1 g3' g1' d2).elim
    · rcases src j' oc' h2 with ⟨i', o1', g1', _, g2', g3', g4'⟩ | ⟨g0', g1', g2', oc1', g3', _⟩
      · rw [g2] at d1
        rw [g2'] at d2
        exact (cross i' o1' j oc1 g1' d2 g3 g1 d1).elim
      · rw [g2] at d1
        rw [g2'] at d2
        exact hI.dis _ _ _ _ k g3 g3' d1 d2
  · rw [hI2.bel.block k (Nat.lt_of_lt_of_le hkl hI.bel.size) fun h => ?_]
    · exact hI.bel.block k hkl hkB
    · rcases hI.low k (hB k h) with h' | h'
      · omega
      · exact hkB h'
  · rcases hF' k hk' with h | h
    · exact .inl (Nat.le_trans hI.bel.size h)
    · exact hI.low k h
  · have hj : isShift d id = false := by
      cases hj : isShift d id with
      | false => rfl
      | true =>
        simp only [isShift, decide_eq_true_eq] at hj
        rw [w0.hi id (by omega)] at h
        cases h
    simp only [ι', hj, Bool.false_eq_true, if_false]
    exact hI.fix id v h
  · have h0 := hI2.fr 0
    exact LRel.rens (LRel.plain hren hp h0)
theorem OpT.callM {o : Oper} {s : St} {K : LV → St → Prop} {fo : Operand} {as : Array Operand} {ts : Array TypeId} {g : Nat} {caps : List LV} {args : List LV} {r : LV} {os : List OC} {os' : List (Option OC)} (d : Nat) (is : List Nat) (ho : o.op = .call { callee := .value fo, args := as, argTypes := ts })
    (hf : evL s fo = .fn g caps) (hs : SpecM P g args os r os') (ha : toMs s.σ is (as.toList.map (evL s) ++ caps) = args) (hos : (is.map fun i => (s.σ i).map (toMO s.σ is)) = os.map some) (hnd : is.Nodup) (hsh : ∀ i ∈ is, isShift d i = false) (hp : plainL r = true) (hpo : os.all plainO3 = true) (hpo' : ∀ oc, some oc ∈ os' → plainO2 oc = true) (hl' : os'.length ≤ 16)
    (hK : K (ren (idM is d) r) (s.back d is os')) : OpT P o s K :=
  OpT.callR d is ho hf hs ha hos hnd hsh hpo (by rintro _ _ ⟨rfl, rfl⟩; exact ⟨hp, hpo', hl'⟩) (by rintro _ _ ⟨rfl, rfl⟩; exact hK)
section
variable {n : Nat} {all : Array Oper} {o : Oper} {l : List Oper} {s : St} {k : Kont}
theorem HereO.openRow (hT : T.Ok P) {t e e' : Nat} {a : Operand} {id i : Nat} {tt : List (List Value)} (j : Nat) (ho : o.op = .load t a) (ha : evL s a = .pe id i) (hσ : s.σ id = some (.rows e e' tt))
    (ht : T.sc t = true) (hi : i < tt.length) (hj : 16 ≤ j) (hji : j ≠ id) (h : OpsV P T n all l (((s.fresh j (.row e' (tt.getD i []))).set id (.hole e e' tt i (some j))).put o.dst (.own j)) k) : HereO P T n all o l s k :=
  HereO.of hT h fun hK => OpT.openRow hT j ho ha hσ ht hi hj hji hK
theorem HereO.callM (hT : T.Ok P) {fo : Operand} {as : Array Operand} {ts : Array TypeId} {g : Nat} {caps : List LV} {args : List LV} {r : LV} {os : List OC} {os' : List (Option OC)} (d : Nat) (is : List Nat) (ho : o.op = .call { callee := .value fo, args := as, argTypes := ts })
    (hf : evL s fo = .fn g caps) (hs : SpecM P g args os r os') (ha : toMs s.σ is (as.toList.map (evL s) ++ caps) = args) (hos : (is.map fun i => (s.σ i).map (toMO s.σ is)) = os.map some) (hnd : is.Nodup) (hsh : is.all (fun i => !isShift d i) = true) (hp : plainL r = true) (hpo : os.all plainO3 = true) (hpo' : os'.all (fun o => o.all plainO2) = true) (hl' : os'.length ≤ 16)
    (h : OpsV P T n all l ((s.back d is os').put o.dst (ren (idM is d) r)) k) : HereO P T n all o l s k :=
  HereO.of hT h fun hK => OpT.callM d is ho hf hs ha hos hnd (fun i hi => by simpa using List.all_eq_true.1 hsh i hi) hp hpo (fun oc hoc => by have := List.all_eq_true.1 hpo' _ hoc; simpa using this) hl' hK
end
def RetQ (T : TT) (results : Array ResultVar) (n : Nat) {κ : Type} (res : κ → LV) (out : κ → List (Option OC)) (Q : κ → Prop) (s : St) : Prop := ∃ y, Q y ∧ ∃ s', Conv s s' ∧ RetM T results n (res y) (out y) s'
theorem HereO.of_all (hT : T.Ok P) {n : Nat} {all : Array Oper} {o : Oper} {l : List Oper} {s : St} {k : Kont} {K : LV → St → Prop} (ho : OpT P o s K) (h : ∀ r s', K r s' → OpsV P T n all l (s'.put o.dst r) k) : HereO P T n all o l s k :=
  fun hl hk => ho.mono fun r s' hK => OpsV_sound hT hl hk (h r s' hK)
theorem HereO.callQ (hT : T.Ok P) {n : Nat} {all : Array Oper} {o : Oper} {l : List Oper} {s : St} {k : Kont} {fo : Operand} {as : Array Operand} {ts : Array TypeId} {g : Nat} {caps : List LV} {args : List LV} {os : List OC} {κ : Type} {res : κ → LV} {out : κ → List (Option OC)} {Q : κ → Prop} (d : Nat) (is : List Nat) (ho : o.op = .call { callee := .value fo, args := as, argTypes := ts })
    (hf : evL s fo = .fn g caps) (hs : SpecQ P g args os res out Q) (ha : toMs s.σ is (as.toList.map (evL s) ++ caps) = args) (hos : (is.map fun i => (s.σ i).map (toMO s.σ is)) = os.map some) (hnd : is.Nodup) (hsh : is.all (fun i => !isShift d i) = true) (hpo : os.all plainO3 = true) (hp : ∀ y, plainL (res y) = true) (hpo' : ∀ y, (out y).all (fun o => o.all plainO2) = true) (hl' : ∀ y, (out y).length ≤ 16)
    (h : ∀ y, Q y → OpsV P T n all l ((s.back d is (out y)).put o.dst (ren (idM is d) (res y))) k) : HereO P T n all o l s k :=
  HereO.of_all hT (K := fun r s' => ∃ y, Q y ∧ r = ren (idM is d) (res y) ∧ s' = s.back d is (out y)) (OpT.callR d is ho hf hs ha hos hnd (fun i hi => by simpa using List.all_eq_true.1 hsh i hi) hpo
    (by rintro _ _ ⟨y, _, rfl, rfl⟩; exact ⟨hp y, fun oc hoc => by have := List.all_eq_true.1 (hpo' y) _ hoc; simpa using this, hl' y⟩) (by rintro _ _ ⟨y, hy, rfl, rfl⟩; exact ⟨y, hy, rfl, rfl⟩))
    (by rintro r s' ⟨y, hy, rfl, rfl⟩; exact h y hy)
theorem OpT.post {o : Oper} {s s1 s2 : St} {K : LV → St → Prop} {x : Value} (h : OpT P o s fun r s' => r = .v x ∧ s' = s1) (hc : Conv s1 s2) (hK : K (.v x) s2) : OpT P o s K := by
  intro w0 w ι fp f hI
  have H := h w0 w ι fp f hI
  generalize (execOp (evV f) o).run P w = R at H
  cases H with
  | value r s' v w' ι' fp' hI' hr hK' =>
    obtain ⟨rfl, rfl⟩ := hK'
    obtain ⟨ι2, fp2, hI2⟩ := hc _ _ _ _ _ hI'
    exact .value _ _ v w' ι2 fp2 hI2 (by simp only [LRel] at hr ⊢; exact hr) hK
  | skip s' w' ι' fp' hI' hK' => cases hK'.1
  | enter g args w' hcall =>
    refine .enter _ _ _ (hcall.mono ?_)
    rintro e w2 ⟨r, s', v, ι', fp', rfl, hI', hr, rfl, rfl⟩
    obtain ⟨ι2, fp2, hI2⟩ := hc _ _ _ _ _ hI'
    exact ⟨_, _, v, ι2, fp2, rfl, hI2, by simp only [LRel] at hr ⊢; exact hr, hK⟩
theorem SpecM.of_code' {P : Program} {T : TT} (hT : T.Ok P) {g n : Nat} {fn : Func} {c : Code} {args : List LV} {os : List OC} {r : LV} {os' : List (Option OC)} (hf : P.funcs[g]? = some fn) (hb : fn.body = some c) (hn : fn.ntmps = n) (ent : ∀ args w, (callFunc g args).run P w = .ok (.enter g args) w)
    (hl : args.length ≤ n) (hlen : os.length ≤ 16) (hlen' : os.length ≤ os'.length) (hp : plainL r = true) (hpo : os'.all (fun o => o.all plainO2) = true) (h : Here P n c ⟨mkE args, osF os⟩ (.done (RetM T fn.results os.length r os'))) : SpecM P g args os r os' := by
  refine SpecM.of_code hT hf hb hn ent hl hlen hlen' hp (fun i oc hi => ?_) h
  have hlt := osO_lt hi
  unfold osO at hi
  rw [List.getElem?_eq_getElem hlt] at hi
  simp only [Option.join_some] at hi
  have := List.all_eq_true.1 hpo _ (List.getElem_mem hlt)
  rw [hi] at this
  simpa using this
theorem ms0 {i : Nat} (m : Nat) (hi : i < 1) : [0, m].getD i 0 = i := by
  match i, hi with
  | 0, _ => rfl
theorem RetM.one0 {results : Array ResultVar} {r : LV} {s : St} {rs : List LV} {oc : OC} (h : resLs T s results.toList = some rs) (h2 : tupL rs = ren (fun i => [0].getD i 0) r) (h3 : s.σ 0 = some (renO (fun i => [0].getD i 0) oc)) : RetM T results 1 r [some oc] s :=
  ⟨rs, [0], h, h2, rfl, by simp, fun i hi => (by
    match i, hi with
    | 0, _ => rfl), fun i oc' hi => by
    cases i with
    | zero => simp [osO] at hi; subst hi; simpa using h3
    | succ i => simp [osO] at hi⟩
theorem RetM.one1 {results : Array ResultVar} {r : LV} {s : St} {rs : List LV} {oc : OC} (m : Nat) (hm : m ≠ 0) (h : resLs T s results.toList = some rs) (h2 : tupL rs = ren (fun i => [0, m].getD i 0) r) (h3 : s.σ m = some (renO (fun i => [0, m].getD i 0) oc)) : RetM T results 1 r [none, some oc] s :=
  ⟨rs, [0, m], h, h2, rfl, by simpa using Ne.symm hm, fun i hi => ms0 m hi, fun i oc' hi => by
    match i with
    | 0 => simp [osO] at hi
    | 1 => simp [osO] at hi; subst hi; simpa using h3
    | i + 2 => simp [osO] at hi⟩
end
end Go.Proofs.YtcjhojdlfnpgjaaGreat
namespace Go.Proofs.YtcjhojdlfnpgjaaGreat
open Go.RowKit
def RetC (T : TT) (results : Array ResultVar) (r : LV) (os : List OC) (s : St) : Prop := ∃ s', Conv s s' ∧ RetT T results r os s'
theorem RetC.of {T : TT} {results : Array ResultVar} {r : LV} {os : List OC} {s : St} (h : RetT T results r os s) : RetC T results r os s := ⟨s, fun _ _ ι fp _ hI => ⟨ι, fp, hI⟩, h⟩
theorem RetC.conv {T : TT} {results : Array ResultVar} {r : LV} {os : List OC} {s s' : St} (hc : Conv s s') (h : RetC T results r os s') : RetC T results r os s := let ⟨s2, h1, h2⟩ := h; ⟨s2, hc.trans h1, h2⟩
def RetMC (T : TT) (results : Array ResultVar) (n : Nat) (r : LV) (os' : List (Option OC)) (s : St) : Prop := ∃ s', Conv s s' ∧ RetM T results n r os' s'
theorem RetMC.of {T : TT} {results : Array ResultVar} {n : Nat} {r : LV} {os' : List (Option OC)} {s : St} (h : RetM T results n r os' s) : RetMC T results n r os' s := ⟨s, fun _ _ ι fp _ hI => ⟨ι, fp, hI⟩, h⟩
theorem RetMC.conv {T : TT} {results : Array ResultVar} {n : Nat} {r : LV} {os' : List (Option OC)} {s s' : St} (hc : Conv s s') (h : RetMC T results n r os' s') : RetMC T results n r os' s := let ⟨s2, h1, h2⟩ := h; ⟨s2, hc.trans h1, h2⟩
theorem Here.done {P : Program} {n : Nat} {c : Code} {s : St} {R : St → Prop} (h : Here P n c s (.done fun s => ∃ s', Conv s s' ∧ R s')) : Here P n c s (.done R) := by
  have after : ∀ (w0 : Base) a w, After n w0 (fun s => ∃ s', Conv s s' ∧ R s') a w → After n w0 R a w := by
    rintro w0 a w ⟨s, f, ι, fp, h1, h2, s', h3, h4⟩
    obtain ⟨ι', fp', h5⟩ := h3 _ _ _ _ _ h2
    exact ⟨s', f, ι', fp', h1, h5, h4⟩
  intro w0 w ι fp f a hf hI
  refine Code.wp_mono (fun e a w q => ?_) (h w0 w ι fp f a hf hI)
  cases e <;> simp only [Post, KN] at q ⊢
  · exact after _ _ _ q
  · obtain ⟨_, _, _, _, _, _, h3⟩ := q; exact h3.elim
  · exact after _ _ _ q
theorem Spec.of_codeC {P : Program} {T : TT} (hT : T.Ok P) {g n : Nat} {fn : Func} {c : Code} {args : List LV} {r : LV} {os : List OC} (hf : P.funcs[g]? = some fn) (hb : fn.body = some c) (hn : fn.ntmps = n) (ent : ∀ args w, (callFunc g args).run P w = .ok (.enter g args) w)
    (hl : args.length ≤ n) (hp : plainL r = true) (hpo : os.all plainO = true) (h : Here P n c (entry args) (.done (RetC T fn.results r os))) : Spec P g args r os :=
  Spec.of_code hT hf hb hn ent hl hp hpo (Here.done h)
theorem osO_plain {os : List (Option OC)} (h : os.all (fun o => o.all plainO2) = true) (i : Nat) (oc : OC) (hi : osO os i = some oc) : plainO2 oc = true := by
  have hlt := osO_lt hi
  unfold osO at hi
  rw [List.getElem?_eq_getElem hlt] at hi
  simp only [Option.join_some] at hi
  have := List.all_eq_true.1 h _ (List.getElem_mem hlt)
  rw [hi] at this
  simpa using this
theorem SpecQ.of_code {P : Program} {T : TT} (hT : T.Ok P) {g n : Nat} {fn : Func} {c : Code} {args : List LV} {os : List OC} {κ : Type} {res : κ → LV} {out : κ → List (Option OC)} {Q : κ → Prop} (hf : P.funcs[g]? = some fn) (hb : fn.body = some c) (hn : fn.ntmps = n) (ent : ∀ args w, (callFunc g args).run P w = .ok (.enter g args) w)
    (hl : args.length ≤ n) (hlen : os.length ≤ 16) (hp : ∀ y, plainL (res y) = true) (hpo : ∀ y, (out y).all (fun o => o.all plainO2) = true) (h : Here P n c ⟨mkE args, osF os⟩ (.done (RetQ T fn.results os.length res out Q))) : SpecQ P g args os res out Q := by
  refine SpecR.of_code hT hf hb hn ent hl hlen (by rintro _ _ ⟨y, _, rfl, rfl⟩; exact ⟨hp y, osO_plain (hpo y)⟩) (Here.done (Here.mono_done ?_ h))
  rintro s ⟨y, hy, s', hc, hr⟩
  exact ⟨s', hc, _, _, ⟨y, hy, rfl, rfl⟩, hr⟩
theorem RetQ.of {T : TT} {results : Array ResultVar} {n : Nat} {κ : Type} {res : κ → LV} {out : κ → List (Option OC)} {Q : κ → Prop} {s : St} (y : κ) (hy : Q y) (h : RetM T results n (res y) (out y) s) : RetQ T results n res out Q s := ⟨y, hy, s, fun _ _ ι fp _ hI => ⟨ι, fp, hI⟩, h⟩
theorem SpecM.of_codeC {P : Program} {T : TT} (hT : T.Ok P) {g n : Nat} {fn : Func} {c : Code} {args : List LV} {os : List OC} {r : LV} {os' : List (Option OC)} (hf : P.funcs[g]? = some fn) (hb : fn.body = some c) (hn : fn.ntmps = n) (ent : ∀ args w, (callFunc g args).run P w = .ok (.enter g args) w)
    (hl : args.length ≤ n) (hlen : os.length ≤ 16) (hlen' : os.length ≤ os'.length) (hp : plainL r = true) (hpo : os'.all (fun o => o.all plainO2) = true) (h : Here P n c ⟨mkE args, osF os⟩ (.done (RetMC T fn.results os.length r os'))) : SpecM P g args os r os' :=
  SpecM.of_code' hT hf hb hn ent hl hlen hlen' hp hpo (Here.done h)
theorem LRels.eq_vs {ι : Nat → Option Value} {F : Nat → Prop} {w : World} : ∀ {vs ys : List Value}, LRels ι F w (vs.map .v) ys → ys = vs
  | [], ys, h => by simpa only [List.map_nil, LRels] using h
  | v :: vs, ys, h => by
    simp only [List.map_cons, LRels, LRel] at h
    obtain ⟨y, r, rfl, rfl, h2⟩ := h
    rw [LRels.eq_vs h2]
def isNil : Value → Bool
  | .slice none 0 0 => true
  | _ => false
theorem isNil_eq {v : Value} (h : isNil v = true) : v = nilV := by
  unfold isNil at h
  split at h
  · rfl
  · cases h
mutual
def nilSub (id : Nat) : LV → LV
  | .v x => if isNil x then .own id else .v x
  | .agg l => .agg (nilSubs id l)
  | .tup l => .tup (nilSubs id l)
  | .rd vs => .rd vs
  | .rds t => .rds t
  | .own j => .own j
  | .ptr i o => .ptr i o
  | .box l => .box l
  | .rdA k l => .rdA k l
  | .pc x => .pc x
  | .fn g l => .fn g l
  | .pe i j => .pe i j
  | .sub i j n => .sub i j n
  | .rdL l => .rdL l
  | .junk => .junk
def nilSubs (id : Nat) : List LV → List LV
  | [] => []
  | x :: l => nilSub id x :: nilSubs id l
end
mutual
theorem LRel.nilSub {ι : Nat → Option Value} {F : Nat → Prop} {w : World} {id : Nat} (hι : ι id = some nilV) : ∀ {x : LV} {y : Value}, LRel ι F w x y → LRel ι F w (nilSub id x) y
  | .v x, y, h => by
    simp only [Go.Proofs.YtcjhojdlfnpgjaaGreat.nilSub]
    split
    · rename_i hn
      have := isNil_eq hn
      simp only [LRel] at h ⊢
      rw [h, this]; exact hι
    · exact h
  | .agg l, y, h => by
    simp only [LRel, Go.Proofs.YtcjhojdlfnpgjaaGreat.nilSub] at *
    obtain ⟨ys, e, h⟩ := h
    exact ⟨ys, e, LRels.nilSub hι h⟩
  | .tup l, y, h => by
    simp only [LRel, Go.Proofs.YtcjhojdlfnpgjaaGreat.nilSub] at *
    obtain ⟨ys, e, h⟩ := h
    exact ⟨ys, e, LRels.nilSub hι h⟩
  | .rd vs, y, h => h
  | .rds t, y, h => h
  | .own j, y, h => h
  | .ptr i o, y, h => h
  | .box l, y, h => h
  | .rdA k l, y, h => h
  | .pc x, y, h => h
  | .fn g l, y, h => h
  | .pe i j, y, h => h
  | .sub i j n, y, h => h
  | .rdL l, y, h => h
  | .junk, y, h => h
theorem LRels.nilSub {ι : Nat → Option Value} {F : Nat → Prop} {w : World} {id : Nat} (hι : ι id = some nilV) : ∀ {l : List LV} {ys : List Value}, LRels ι F w l ys → LRels ι F w (nilSubs id l) ys
  | [], _, h => by simp only [LRels, nilSubs] at *; exact h
  | _ :: _, _, h => by
    simp only [LRels, nilSubs] at *
    obtain ⟨y, r, e, h1, h2⟩ := h
    exact ⟨y, r, e, LRel.nilSub hι h1, LRels.nilSub hι h2⟩
end
def nilO (oc : OC) : Bool := match oc with | .row _ [] => true | .rows _ _ [] => true | _ => false
theorem nilO_rel {ι : Nat → Option Value} {F : Nat → Prop} {w : World} {id : Nat} {oc : OC} (h : nilO oc = true) (hι : ι id = some nilV) : ORel ι F w 0 (fun _ => False) id oc := by
  unfold nilO at h
  split at h
  · exact ⟨nilV, hι, World.ownsRow_nil _ _ _ _, fun k => by simp [nilV, Value.ownBlock]⟩
  · exact ⟨nilV, [], hι, World.ownsRow_nil _ _ _ _, fun k hk => by simp [nilV, Value.ownBlock] at hk, rfl, fun k hk => hk.elim⟩
  · cases h
theorem Conv.nilAt {s : St} (j id : Nat) (oc : OC) (hid : 16 ≤ id) (ho : nilO oc = true) : Conv s ((s.fresh id oc).put (some j) (nilSub id ((s.fresh id oc).lf j))) := by
  intro w0 w ι fp f hI
  have h := hI.turn (w' := w) (ι' := updI ι id nilV) (fun i => i == id) id oc (fun _ => False) rfl rfl rfl (Nat.le_refl _) (fun k hk hn => rfl) (fun k hk => hk.elim) (kill_is fun j hj => by simp only [updI, if_neg hj]) (updI_fix hI hid nilV)
    (fun hk => nilO_rel ho (updI_self _ _ _))
  refine ⟨updI ι id nilV, fun j => if j = id then fun _ => False else fp j, ?_⟩
  have hf := LRel.nilSub (updI_self ι id nilV) (h.fr j)
  have := h.put (some j) hf
  have e : putV f (some j) (f j) = f := by funext i; simp only [putV, updV]; split <;> simp_all
  rw [e] at this
  exact this
theorem Conv.nilIn {s : St} {c tt : Nat} {l : List LV} (j id : Nat) (oc : OC) (ho : nilO oc = true) (hid : 16 ≤ id) (hc : c ≠ id) (hσ : s.σ c = some (.cells tt l)) (hj : l[j]? = some (.v nilV)) :
    Conv s ((s.fresh id oc).set c (.cells tt ((kills (fun i => i == id) l).set j (.own id)))) := by
  intro w0 w ι fp f hI
  have h := hI.turn (w' := w) (ι' := updI ι id nilV) (fun i => i == id) id oc (fun _ => False) rfl rfl rfl (Nat.le_refl _) (fun k hk hn => rfl) (fun k hk => hk.elim) (kill_is fun j hj => by simp only [updI, if_neg hj]) (updI_fix hI hid nilV)
    (fun hk => nilO_rel ho (updI_self _ _ _))
  refine ⟨updI ι id nilV, fun j => if j = id then fun _ => False else fp j, ?_⟩
  have hσ' : (s.fresh id oc).σ c = some (.cells tt (kills (fun i => i == id) l)) := by
    simp only [St.fresh, St.turn, if_neg hc, hσ, Option.map_some, killO]
    rw [if_neg (by simpa using hc)]
  obtain ⟨b, ys, g1, g2, g3, g4, g5⟩ := h.ob c _ hσ'
  have hkj : (kills (fun i => i == id) l)[j]? = some (.v nilV) := by
    have : ∀ (l : List LV) (j : Nat), l[j]? = some (.v nilV) → (kills (fun i => i == id) l)[j]? = some (.v nilV) := by
      intro l
      induction l with
      | nil => intro j h; simp at h
      | cons x l ih => intro j h; cases j with
        | zero => simp at h; subst h; simp [kills, kill]
        | succ j => simpa [kills] using ih j (by simpa using h)
    exact this l j hj
  have hys : ys.set j nilV = ys := by
    obtain ⟨y, hy, hr⟩ := LRels.get j _ g5 hkj
    simp only [LRel] at hr
    subst hr
    have hlt := (List.getElem?_eq_some_iff.1 hy).1
    refine List.ext_getElem? fun i => ?_
    rw [List.getElem?_set]
    by_cases e : j = i
    · subst e; rw [if_pos rfl, if_pos hlt, hy]
    · rw [if_neg e]
  have hw : w.setRow b (ys.set j nilV).toArray = w := by rw [hys]; exact setRow_self w b _ tt (0, 0) g4
  have := h.setCells hσ' g1 g4 g3 (LRels.set (x := .own id) (v := nilV) (by simp only [LRel]; exact updI_self _ _ _) j g5)
  rw [hw] at this
  exact this
theorem RetT.two {T : TT} {results : Array ResultVar} {r : LV} {s : St} {rs : List LV} {oc oc2 : OC} (m m2 : Nat) (hm : m ≠ m2) (h : resLs T s results.toList = some rs) (h2 : tupL rs = ren (fun i => [m, m2].getD i 0) r) (h3 : s.σ m = some oc) (h4 : s.σ m2 = some oc2) : RetT T results r [oc, oc2] s :=
  ⟨rs, [m, m2], h, h2, rfl, by simpa using hm, fun i oc' hi => by
    match i with
    | 0 => simp at hi; subst hi; simpa using h3
    | 1 => simp at hi; subst hi; simpa using h4
    | i + 2 => simp at hi⟩
def St.late (s : St) (id e : Nat) (vs : List Value) : St := ⟨fun i => kill (fun j => j == id) (s.lf i), fun j => if j = id then some (.late e vs) else (s.σ j).map (killO fun j => j == id)⟩
theorem Conv.late (s : St) (id e : Nat) (vs : List Value) (hid : 16 ≤ id) : Conv s (s.late id e vs) := by
  intro w0 w ι fp f hI
  have hF : ∀ k, FF (s.late id e vs).σ (fun j => if j = id then fun _ => False else fp j) k → FF s.σ fp k := by
    rintro k ⟨j, oc, h1, h2⟩
    by_cases q : j = id
    · rw [if_pos q] at h2; exact h2.elim
    · rw [if_neg q] at h2
      simp only [St.late, if_neg q] at h1
      cases hs : s.σ j with
      | none => rw [hs] at h1; cases h1
      | some oc' => exact ⟨j, oc', hs, h2⟩
  have hk : Keeps (FF s.σ fp) (FF (s.late id e vs).σ (fun j => if j = id then fun _ => False else fp j)) w w := fun p u hp hc => ⟨hc, fun hq => hp (hF _ hq)⟩
  have hι : ∀ j v, (j == id) = false → ι j = some v → (fun j => if j = id then some (.bool false) else ι j) j = some v := fun j v hj h => by
    have : j ≠ id := by simpa using hj
    simp only [if_neg this]; exact h
  refine ⟨fun j => if j = id then some (.bool false) else ι j, fun j => if j = id then fun _ => False else fp j, fun t => (hI.fr t).kills hι hk, fun j oc hj => ?_, fun j j' oc oc' k h1 h2 g1 g2 => ?_, hI.bel, fun k hk' => hI.low k (hF k hk'), fun j v h => ?_⟩
  · by_cases q : j = id
    · subst q
      simp only [St.late, if_true, Option.some.injEq] at hj
      subst hj
      exact .inl ⟨by simp only [if_true], fun k => by simp only [if_true]; exact fun h => h⟩
    · simp only [St.late, if_neg q] at hj
      simp only [if_neg q]
      cases hs : s.σ j with
      | none => rw [hs] at hj; cases hj
      | some oc' =>
        rw [hs] at hj
        simp only [Option.map_some, Option.some.injEq] at hj
        subst hj
        exact (hI.ob j oc' hs).kills (by simpa using q) hι hk (Nat.le_refl _) fun _ _ => rfl
  · by_cases q : j = id
    · simp only [if_pos q] at g1
    · by_cases q' : j' = id
      · simp only [if_pos q'] at g2
      · simp only [St.late, if_neg q] at h1
        simp only [St.late, if_neg q'] at h2
        simp only [if_neg q] at g1
        simp only [if_neg q'] at g2
        cases hs : s.σ j with
        | none => rw [hs] at h1; cases h1
        | some o1 =>
          cases hs' : s.σ j' with
          | none => rw [hs'] at h2; cases h2
          | some o2 => exact hI.dis _ _ _ _ k hs hs' g1 g2
  · have : j ≠ id := fun e => by rw [w0.hi j (by omega)] at h; cases h
    simp only [if_neg this]
    exact hI.fix j v h
theorem Conv.born {s : St} {id e : Nat} {vs : List Value} (t : Nat) (hσ : s.σ id = some (.late e vs)) (ht : s.lf t = .sub id 0 vs.length) : Conv s ((s.set id (.row e vs)).put (some t) (.own id)) := by
  intro w0 w ι fp f hI
  have hv := hI.fr t
  rw [ht] at hv
  simp only [LRel] at hv
  obtain ⟨A, N, c, h1, h2, A', h3, h4, h5⟩ := hv
  have hob : ∃ v, ι id = some v ∧ w.ownsRow 0 e 1 v vs.length vs ∧ (∀ k, fp id k ↔ v.ownBlock = some k) := by
    rcases hI.ob id _ hσ with ⟨g1, _⟩ | h | ⟨b, g1, _⟩
    · rw [h1] at g1; cases g1
    · exact h
    · rw [h1] at g1; cases g1
  obtain ⟨v, g1, g2, g3⟩ := hob
  rw [h1] at g1
  simp only [Option.some.injEq] at g1
  subst g1
  have hN : N = vs.length := by
    rcases g2.2 with ⟨q, _⟩ | ⟨_, _, _, q, _⟩ <;> simp only [Value.slice.injEq] at q <;> omega
  have hF : FF (s.set id (.row e vs)).σ fp = FF s.σ fp := by
    funext k
    apply propext
    constructor
    · rintro ⟨j, oc, a1, a2⟩
      by_cases q : j = id
      · exact ⟨id, _, hσ, by rw [← q]; exact a2⟩
      · simp only [St.set, if_neg q] at a1; exact ⟨j, oc, a1, a2⟩
    · rintro ⟨j, oc, a1, a2⟩
      by_cases q : j = id
      · exact ⟨id, .row e vs, by simp [St.set], by rw [← q]; exact a2⟩
      · exact ⟨j, oc, by simp only [St.set, if_neg q]; exact a1, a2⟩
  have hI' : Inv w0 w ι fp (s.set id (.row e vs)) f := by
    refine ⟨fun i => by rw [hF]; exact hI.fr i, fun j oc hj => ?_, fun j j' oc oc' k a1 a2 b1 b2 => ?_, hI.bel, fun k hk => hI.low k (by rw [← hF]; exact hk), hI.fix⟩
    · rw [hF]
      by_cases q : j = id
      · subst q
        simp only [St.set, if_true, Option.some.injEq] at hj
        subst hj
        exact ⟨_, h1, g2, g3⟩
      · simp only [St.set, if_neg q] at hj; exact hI.ob j oc hj
    · have : ∀ j oc, (s.set id (.row e vs)).σ j = some oc → ∃ oc', s.σ j = some oc' := by
        intro j oc hj
        by_cases q : j = id
        · exact ⟨_, by rw [q]; exact hσ⟩
        · simp only [St.set, if_neg q] at hj; exact ⟨oc, hj⟩
      obtain ⟨o1, c1⟩ := this _ _ a1
      obtain ⟨o2, c2⟩ := this _ _ a2
      exact hI.dis _ _ _ _ k c1 c2 b1 b2
  refine ⟨ι, fp, ?_⟩
  have hput := hI'.put (some t) (x := .own id) (v := f t) (by simp only [LRel]; rw [h1, h3, h4 trivial, hN]; rfl)
  have e : putV f (some t) (f t) = f := by funext i; simp only [putV, updV]; split <;> simp_all
  rw [e] at hput
  exact hput
theorem Conv.bornCell {s : St} {id e : Nat} {vs : List Value} (t : Nat) (hσ : s.σ id = some (.late e vs)) (ht : s.lf t = .ptr id 0) : Conv s (s.set id (.cells e (vs.map .v))) := by
  intro w0 w ι fp f hI
  have hv := hI.fr t
  rw [ht] at hv
  simp only [LRel] at hv
  obtain ⟨b, h1, h2⟩ := hv
  have hob : ORel ι (FF s.σ fp) w 0 (fp id) id (.cells e (vs.map .v)) := by
    rcases hI.ob id _ hσ with ⟨g1, _⟩ | ⟨v, g1, g2, _⟩ | ⟨b', g1, g2, g3, g4⟩
    · rw [h1] at g1; cases g1
    · rw [h1] at g1
      simp only [Option.some.injEq] at g1
      subst g1
      rcases g2.2 with ⟨q, _⟩ | ⟨_, _, _, q, _⟩ <;> cases q
    · exact ⟨b', vs, g1, g2, g3, g4, LRels.vs⟩
  have hF : FF (s.set id (.cells e (vs.map .v))).σ fp = FF s.σ fp := by
    funext k
    apply propext
    constructor
    · rintro ⟨j, oc, a1, a2⟩
      by_cases q : j = id
      · exact ⟨id, _, hσ, by rw [← q]; exact a2⟩
      · simp only [St.set, if_neg q] at a1; exact ⟨j, oc, a1, a2⟩
    · rintro ⟨j, oc, a1, a2⟩
      by_cases q : j = id
      · exact ⟨id, .cells e (vs.map .v), by simp [St.set], by rw [← q]; exact a2⟩
      · exact ⟨j, oc, by simp only [St.set, if_neg q]; exact a1, a2⟩
  refine ⟨ι, fp, fun i => by rw [hF]; exact hI.fr i, fun j oc hj => ?_, fun j j' oc oc' k a1 a2 b1 b2 => ?_, hI.bel, fun k hk => hI.low k (by rw [← hF]; exact hk), hI.fix⟩
  · rw [hF]
    by_cases q : j = id
    · subst q
      simp only [St.set, if_true, Option.some.injEq] at hj
      subst hj
      exact hob
    · simp only [St.set, if_neg q] at hj; exact hI.ob j oc hj
  · have : ∀ j oc, (s.set id (.cells e (vs.map .v))).σ j = some oc → ∃ oc', s.σ j = some oc' := by
      intro j oc hj
      by_cases q : j = id
      · exact ⟨_, by rw [q]; exact hσ⟩
      · simp only [St.set, if_neg q] at hj; exact ⟨oc, hj⟩
    obtain ⟨o1, c1⟩ := this _ _ a1
    obtain ⟨o2, c2⟩ := this _ _ a2
    exact hI.dis _ _ _ _ k c1 c2 b1 b2
section
variable {P : Program} {T : TT}
theorem OpN.makeSlice (hT : T.Ok P) {o : Oper} {ρ : Operand → LV} {σ : Nat → Option OC} {id t e : Nat} {z : Value} {bts : Nat} {x : Operand} {kk : IntKind} {m : Int} (ho : o.op = .makeSlice t x x) (ht : T.el t = some (e, z, bts)) (hx : ρ x = .v (.int kk m)) (hm0 : 0 ≤ m) (hm : m ≤ 4294967296) (hb : bts ≤ 64) :
    OpN P o ρ σ id e (List.replicate m.toNat z) := by
  intro w0 w ι fp s f hI hσ hρ hid hl hno hnoO
  subst hσ
  have hxv := hI.ev x
  rw [hρ x (by simp [ho, Op.operands]), hx] at hxv
  simp only [LRel] at hxv
  obtain ⟨hu, i, hi, hz, hs, rfl, hzc⟩ := hT.el t e z bts ht
  obtain ⟨m, rfl⟩ := Int.eq_ofNat_of_zero_le hm0
  have hbm : i.bytes * m ≤ 281474976710656 := by
    have := Nat.mul_le_mul hb (show m ≤ 4294967296 by omega)
    omega
  have hr := run_make (P := P) w t e i z hu hi hz kk kk m m (by omega) (Int.le_refl _) (by omega) (by omega)
  simp only [hs, Nat.mul_one, hzc] at hr
  have hr' : (execOp (evV f) o).run P w = .ok (.value (.slice (some ⟨w.heap.size, 0, none⟩) m m)) (w.alloc (.cells (madeCells #[z] m) e)) := by
    simp only [execOp, ho, hxv, Sem.run_bind, hr, Result.andThen_ok, Sem.run_pure, Int.toNat_natCast]
  rw [hr']
  have hown := World.ownsRow_lit (base := 0) (size := 1) (e := e) w (madeCells #[z] m) m (Nat.zero_le _) (by simp only [maxLen]; omega) (by rw [size_madeCells]; omega)
  rw [toList_madeCells_one] at hown
  obtain ⟨ι', fp', h1, h2⟩ := hI.birth (y := .slice (some ⟨w.heap.size, 0, none⟩) m m) hid hl hno hnoO ((Below.refl _ w).alloc (Nat.le_refl _) (.cells (madeCells #[z] m) e)) (by simpa using hown) (fun k hk => by simp [Value.ownBlock] at hk; omega)
  exact .value _ s _ _ ι' fp' h1 h2 ⟨rfl, rfl⟩
theorem OpN.buildRow (hT : T.Ok P) {o : Oper} {ρ : Operand → LV} {σ : Nat → Option OC} {id t e : Nat} {z : Value} {bts n : Nat} {parts : Array (Nat × Operand)} (vs : List Value) (ho : o.op = .buildSlice t n parts) (ht : T.el t = some (e, z, bts)) (hn : n = parts.toList.length) (hl : n ≤ 1000) (hp : partsIn 0 parts.toList = true)
    (hx : (parts.toList.map fun p => ρ p.2) = vs.map .v) (h1 : vs.all (·.oneCell') = true) : OpN P o ρ σ id e vs := by
  intro w0 w ι fp s f hI hσ hρ hid hlt hno hnoO
  subst hσ
  have hev : ∀ p ∈ parts.toList, evL s p.2 = ρ p.2 := fun p hm => hρ p.2 (by simp [ho, Op.operands]; exact ⟨p.1, by simpa using hm⟩)
  have hx2 : (parts.toList.map fun p => evL s p.2) = vs.map .v := by rw [← hx]; exact List.map_congr_left hev
  have hr := exec_buildSlice hT ho ht hn hl hp hI (by rw [hx2]; simpa [oneL, ownIs, List.all_eq_true] using h1)
  have hv : (parts.toList.map fun p => evV f p.2) = vs := by
    have := parts_lr hI parts.toList
    rw [hx2] at this
    exact LRels.eq_vs this
  rw [hv] at hr
  rw [hr]
  have hlen : n = vs.length := by rw [hn, ← List.length_map (f := fun p : Nat × Operand => evL s p.2), hx2, List.length_map]
  have hown := World.ownsRow_lit (base := 0) (size := 1) (e := e) w vs.toArray n (Nat.zero_le _) (by simp only [maxLen]; omega) (by simp; omega)
  obtain ⟨ι', fp', h3, h4⟩ := hI.birth (y := .slice (some ⟨w.heap.size, 0, none⟩) n n) hid hlt hno hnoO ((Below.refl _ w).alloc (Nat.le_refl _) (.cells vs.toArray e)) (by rw [← hlen]; simpa using hown) (fun k hk => by simp [Value.ownBlock] at hk; omega)
  exact .value _ s _ _ ι' fp' h3 h4 ⟨rfl, rfl⟩
theorem OpN.call {o : Oper} {ρ : Operand → LV} {σ : Nat → Option OC} {id e : Nat} {vs : List Value} {fo : Operand} {as : Array Operand} {ts : Array TypeId} {g : Nat} {caps : List LV} {args : List LV} (ho : o.op = .call { callee := .value fo, args := as, argTypes := ts })
    (hf : ρ fo = .fn g caps) (hs : Spec P g args (.own 0) [.row e vs]) (ha : closeBs σ (as.toList.map ρ ++ caps) = args) : OpN P o ρ σ id e vs := by
  intro w0 w ι fp s f hI hσ hx hid hlt hno hnoO
  subst hσ
  subst ha
  have hfo : evL s fo = .fn g caps := by rw [hx fo (by simp [ho, Op.operands, Call.operands]), hf]
  have has : as.toList.map (evL s) = as.toList.map ρ := List.map_congr_left fun x hm => hx x (by simp [ho, Op.operands, Call.operands]; right; simpa using hm)
  obtain ⟨cs, e1, hc⟩ := call_args hfo (as := as) hI
  rw [has] at hc
  rw [run_call ho e1 hs.ent w]
  refine .enter _ _ _ ((hs.run w _ hc).mono ?_)
  rintro e2 w' ⟨v, ι2, fp2, rfl, hI2⟩
  have h0 := hI2.fr 0
  simp only [mkF, if_true, LRel] at h0
  obtain ⟨v', k1, k2, k3⟩ := hI2.ob 0 (.row e vs) rfl
  rw [h0] at k1
  simp only [Option.some.injEq] at k1
  subst k1
  obtain ⟨ι', fp', h3, h4⟩ := hI.birth (y := v) hid hlt hno hnoO hI2.bel.toBelow k2 (fun k hk => (hI2.low k ⟨0, .row e vs, rfl, (k3 k).2 hk⟩).resolve_right fun q => q)
  exact ⟨_, s, v, ι', fp', rfl, h3, h4, rfl, rfl⟩
theorem OpN.alloc (hT : T.Ok P) {o : Oper} {ρ : Operand → LV} {σ : Nat → Option OC} {id t : Nat} {z : Value} {vs : List Value} (ho : o.op = .alloc t) (hz : T.zr t = some z) (hvs : z.cells.toList = vs) : OpN P o ρ σ id t vs true := by
  intro w0 w ι fp s f hI hσ hρ hid hlt hno hnoO
  subst hσ
  subst hvs
  have hr : (execOp (evV f) o).run P w = .ok (.value (.pointer (some ⟨w.heap.size, 0, none⟩))) (w.alloc (.cells z.cells t)) := by
    simp [execOp, ho, Instr.alloc, hT.zr t z hz, newVar, newRow]
  rw [hr]
  obtain ⟨ι', fp', h3, h4⟩ := hI.birthG (y := .pointer (some ⟨w.heap.size, 0, none⟩)) (g := fun k => k = w.heap.size) hid hlt hno hnoO ((Below.refl _ w).alloc (Nat.le_refl _) (.cells z.cells t))
    (fun ι F h => .inr (.inr ⟨w.heap.size, h, Nat.zero_le _, fun k => Iff.rfl, by rw [Array.toArray_toList]; exact heap_alloc_new w _⟩)) (fun k hk => Nat.le_of_eq hk.symm)
  refine .value _ s _ _ ι' fp' h3 ?_ ⟨rfl, rfl⟩
  simp only [bornL, LRel]
  exact ⟨_, h4, rfl⟩
theorem Conv.prefix_ {s : St} {id n e : Nat} {vs : List Value} (t id' : Nat) (hid : 16 ≤ id') (hne : id' ≠ id) (ht : s.lf t = .sub id 0 n) (hσ : s.σ id = some (.row e vs)) :
    Conv s ((s.turn (fun j => j == id || j == id') id' (.row e (vs.take n))).put (some t) (.own id')) := by
  intro w0 w ι fp f hI
  have hv := hI.fr t
  rw [ht] at hv
  simp only [LRel] at hv
  obtain ⟨A, N, c, h1, h2, A', h3, h4, h5⟩ := hv
  obtain ⟨v, g1, g2, g3⟩ := hI.ob id _ hσ
  rw [h1] at g1
  simp only [Option.some.injEq] at g1
  subst g1
  obtain rfl := h4 trivial
  simp only [Nat.zero_add, Nat.sub_zero] at h2 h3
  have hown : w.ownsRow 0 e 1 (.slice A' n c) (vs.take n).length (vs.take n) := by
    have hl := g2.1
    rcases g2.2 with ⟨q, q0⟩ | ⟨g, cap, cur, q, q1, q2, q3, q4, q5, q6⟩
    · simp only [Value.slice.injEq] at q
      obtain ⟨rfl, rfl, rfl⟩ := q
      have : n = 0 := by omega
      subst this
      have : vs = [] := List.eq_nil_of_length_eq_zero (by omega)
      subst this
      exact World.ownsRow_nil _ _ _ _
    · simp only [Value.slice.injEq] at q
      obtain ⟨rfl, rfl, rfl⟩ := q
      have hln : (vs.take n).length = n := by simp; omega
      refine ⟨by omega, .inr ⟨g, c, cur, by rw [hln], q1, q2, by omega, q4, q5, ?_⟩⟩
      rw [hln, Nat.mul_one, ← q6, List.take_take]
      congr 1
      omega
  have hob : ∀ k, (Value.slice A' n c).ownBlock = some k ↔ (Value.slice A' N c).ownBlock = some k := fun k => by cases A' <;> simp [Value.ownBlock]
  have h := hI.turn (w' := w) (ι' := updI ι id' (.slice A' n c)) (fun j => j == id || j == id') id' (.row e (vs.take n)) (fp id) rfl rfl rfl (Nat.le_refl _) (fun k hk hn => rfl) (fun k hk => .inl ⟨id, _, .inr (by simp), hσ, hk⟩)
    (fun j u hj hu => by
      simp only [Bool.or_eq_false_iff, beq_eq_false_iff_ne, ne_eq] at hj
      simp only [updI, if_neg hj.2]; exact hu) (updI_fix hI hid _)
    (fun hk => ⟨_, updI_self _ _ _, hown, fun k => (g3 k).trans (hob k).symm⟩)
  refine ⟨updI ι id' (.slice A' n c), fun j => if j = id' then fp id else fp j, ?_⟩
  have hput := h.put (some t) (x := .own id') (v := f t) (by simp only [LRel]; rw [updI_self, h3])
  have e1 : putV f (some t) (f t) = f := by funext i; simp only [putV, updV]; split <;> simp_all
  rw [e1] at hput
  exact hput
def cutAt (ρ : Operand → LV) (x : Option Operand) (d n : Nat) : Prop := match x with | none => n = d | some a => ∃ k, ρ a = .v (.int k n)
theorem OpT.slice (hT : T.Ok P) {o : Oper} {s : St} {K : LV → St → Prop} {t e : Nat} {z : Value} {bts : Nat} {x : Operand} {lo hi : Option Operand} {id : Nat} {vs : List Value} (l h : Nat) (ho : o.op = .slice t x lo hi none) (ht : T.el t = some (e, z, bts)) (hx : evL s x = .own id) (hσ : s.σ id = some (.row e vs))
    (hlo : cutAt (evL s) lo 0 l) (hhi : cutAt (evL s) hi vs.length h) (h1 : l ≤ h) (h2 : h ≤ vs.length) (hK : K (.sub id l (h - l)) s) : OpT P o s K := by
  intro w0 w ι fp f hI
  have hxv := hI.ev x
  rw [hx] at hxv
  simp only [LRel] at hxv
  obtain ⟨v, g1, g2, g3⟩ := hI.ob id _ hσ
  rw [hxv] at g1
  simp only [Option.some.injEq] at g1
  obtain ⟨hu, i, hi', hz, hs, rfl, hzc⟩ := hT.el t e z bts ht
  obtain ⟨A, c, N, hv, hN, hNc, hA⟩ : ∃ A c N, v = .slice A N c ∧ N = vs.length ∧ N ≤ c ∧ (0 < N → ∃ g, A = some ⟨g, 0, none⟩) := by
    have hl := g2.1
    rcases g2.2 with ⟨q, q0⟩ | ⟨g, cap, cur, q, q1, q2, q3, _⟩
    · exact ⟨none, 0, 0, q, by omega, Nat.le_refl _, fun h => by omega⟩
    · exact ⟨_, _, _, q, rfl, q3, fun _ => ⟨g, rfl⟩⟩
  subst hv
  subst hN
  have hue : P.underlying t = some (.slice (P.elem t)) := by
    have : P.elem t = e := by simp [Program.elem, hu]
    rw [this]; exact hu
  have hes : P.elem t = e := by simp [Program.elem, hu]
  have hsz : (sizeOf e).run P w = .ok 1 w := by simp [sizeOf, typeInfo, hi', hs]
  have hrun : (Instr.sliceAt t (.slice A vs.length c) (lo.map (evV f)) (hi.map (evV f)) none).run P w = .ok (sliced A l h c 1) w := by
    have hlv : ∀ a, lo = some a → ∃ k, evV f a = .int k l := fun a ha => by
      subst ha
      obtain ⟨k, hk⟩ := hlo
      have := hI.ev a
      rw [hk] at this
      simp only [LRel] at this
      exact ⟨k, this⟩
    have hhv : ∀ a, hi = some a → ∃ k, evV f a = .int k h := fun a ha => by
      subst ha
      obtain ⟨k, hk⟩ := hhi
      have := hI.ev a
      rw [hk] at this
      simp only [LRel] at this
      exact ⟨k, this⟩
    rw [run_sliceAt_slice (h := hue)]
    cases lo with
    | none =>
      simp only [cutAt] at hlo
      subst hlo
      cases hi with
      | none =>
        simp only [cutAt] at hhi
        subst hhi
        simp only [Option.map_none]
        rw [run_slice_all (ht := hue), hes, hsz]
        simp
      | some b =>
        obtain ⟨k, hk⟩ := hhv b rfl
        simp only [Option.map_none, Option.map_some, hk]
        rw [run_slice_h (ht := hue) (h0 := by omega) (h2 := by omega), hes, hsz]
        simp
    | some a =>
      obtain ⟨k, hk⟩ := hlv a rfl
      cases hi with
      | none =>
        simp only [cutAt] at hhi
        subst hhi
        simp only [Option.map_none, Option.map_some, hk]
        rw [run_slice_l (ht := hue) (h0 := by omega) (h1 := by omega), hes, hsz]
        simp
      | some b =>
        obtain ⟨k', hk'⟩ := hhv b rfl
        simp only [Option.map_some, hk, hk']
        rw [run_slice_lh (ht := hue) (h0 := by omega) (h1 := by omega) (h2 := by omega), hes, hsz]
        simp
  have hr : (execOp (evV f) o).run P w = .ok (.value (sliced A l h c 1)) w := by
    simp [execOp, ho, g1, hrun]
  rw [hr]
  refine .value _ s _ _ ι fp hI ?_ hK
  simp only [LRel]
  refine ⟨A, vs.length, c, by rw [hxv, g1], by omega, (if c = l then A else A.map (·.add (l * 1))), rfl, fun h0 => ?_, fun hpos => ?_⟩
  · subst h0
    split
    · rfl
    · cases A with
      | none => rfl
      | some a =>
        obtain ⟨b, off, tl⟩ := a
        cases tl <;> simp [Addr.add]
  · obtain ⟨g, rfl⟩ := hA (by omega)
    refine ⟨g, rfl, ?_⟩
    rw [if_neg (by omega)]
    simp only [Option.map_some, Nat.mul_one, add0]
theorem cut_take {α : Type} (L zs : List α) (N i n : Nat) (hN : N ≤ L.length) (hi : i + n ≤ N) (hz : zs.length = n) : (L.take i ++ zs ++ L.drop (i + n)).take N = (L.take N).take i ++ zs ++ (L.take N).drop (i + n) := by
  have hl : (L.take i ++ zs).length = i + n := by simp; omega
  rw [List.take_take, Nat.min_eq_left (by omega), List.drop_take, List.take_append, hl, List.take_of_length_le (by omega)]
theorem OpT.clear (hT : T.Ok P) {o : Oper} {s : St} {K : LV → St → Prop} {t e : Nat} {z : Value} {bts : Nat} {x : Operand} {id i n : Nat} {vs : List Value} (ho : o.op = .call { callee := .builtin .clear, args := #[x], argTypes := #[t] }) (ht : T.el t = some (e, z, bts)) (hx : evL s x = .sub id i n) (hσ : s.σ id = some (.row e vs)) (hz1 : z.oneCell' = true)
    (hK : K (.tup []) (s.set id (.row e (vs.take i ++ List.replicate n z ++ vs.drop (i + n))))) : OpT P o s K := by
  intro w0 w ι fp f hI
  have hxv := hI.ev x
  rw [hx] at hxv
  simp only [LRel] at hxv
  obtain ⟨A, N, c, h1, h2, A', h3, h4, h5⟩ := hxv
  obtain ⟨v, g1, g2, g3⟩ := hI.ob id _ hσ
  rw [h1] at g1
  simp only [Option.some.injEq] at g1
  subst g1
  obtain ⟨hu, ik, hi', hz, hs, rfl, hzc⟩ := hT.el t e z bts ht
  have hN : N = vs.length := by
    have hl := g2.1
    rcases g2.2 with ⟨q, q0⟩ | ⟨g, cap, cur, q, q1, q2, q3, _⟩ <;> simp only [Value.slice.injEq] at q <;> omega
  by_cases hn : n = 0
  · subst hn
    have hr : (execOp (evV f) o).run P w = .ok (.value (.tuple #[])) w := by
      have : (Builtin.clear_ #[t] o.type #[Value.slice A' 0 (c - i)]).run P w = .ok (.tuple #[]) w := by
        cases A' <;> simp [Builtin.clear_, run_underlying hu]
      simp only [execOp, ho, resolve, invoke, builtin, Sem.run_bind, Sem.run_pure, Result.andThen_ok, List.map_toArray, List.map_cons, List.map_nil, h3]
      simp [this]
    rw [hr]
    have hvs : vs.take i ++ List.replicate 0 z ++ vs.drop (i + 0) = vs := by simp
    have hset : s.set id (.row e (vs.take i ++ List.replicate 0 z ++ vs.drop (i + 0))) = s := by
      rw [hvs]
      unfold St.set
      cases s with
      | mk lf σ =>
        congr 1
        funext j
        by_cases q : j = id
        · rw [if_pos q, q]; exact hσ.symm
        · rw [if_neg q]
    rw [hset] at hK
    exact .value _ s _ _ ι fp hI (by simp only [LRel]; exact ⟨[], rfl, by simp only [LRels]⟩) hK
  · obtain ⟨g, rfl, rfl⟩ := h5 (by omega)
    rcases g2.2 with ⟨q, _⟩ | ⟨g', cap, cur, q, q1, q2, q3, q4, q5, q6⟩
    · cases q
    simp only [Value.slice.injEq, Option.some.injEq, Addr.mk.injEq, and_true] at q
    obtain ⟨rfl, rfl, rfl⟩ := q
    have hst := run_storeCells_at (P := P) g i e (List.replicate n z) 0 cur w q2 (by simp; omega) (by intro v hv; rw [List.eq_of_mem_replicate hv]; exact hz1)
    simp only [Nat.add_zero, List.length_replicate] at hst
    have hzv : (zeroValue e).run P w = .ok z w := by simp [zeroValue, typeInfo, hi', hz]
    have hzl : (Builtin.zeroCells z.cells n).toList = List.replicate n z := by
      rw [hzc]
      simp [Builtin.zeroCells]
      apply List.ext_getElem
      · simp
      · intro i h1 h2
        simp [Nat.mod_one]
    have hrun : (Builtin.clear_ #[t] o.type #[Value.slice (some ⟨g, i, none⟩) n (c - i)]).run P w = .ok (.tuple #[]) (w.setRow g (cur.toList.take i ++ List.replicate n z ++ cur.toList.drop (i + n)).toArray) := by
      obtain ⟨m, rfl⟩ : ∃ m, n = m + 1 := ⟨n - 1, by omega⟩
      simp only [Builtin.clear_, Sem.run_bind, run_underlying hu, Result.andThen_ok, List.getElem?_toArray, List.getElem?_cons_zero]
      simp only [Sem.run_bind, hzv, Result.andThen_ok, hzl, hst, Sem.run_pure]
    have hr : (execOp (evV f) o).run P w = .ok (.value (.tuple #[])) (w.setRow g (cur.toList.take i ++ List.replicate n z ++ cur.toList.drop (i + n)).toArray) := by
      simp only [execOp, ho, resolve, invoke, builtin, Sem.run_bind, Sem.run_pure, Result.andThen_ok, List.map_toArray, List.map_cons, List.map_nil, h3]
      simp [hrun]
    rw [hr]
    have hln : (vs.take i ++ List.replicate n z ++ vs.drop (i + n)).length = vs.length := by simp; omega
    have hcut : (cur.toList.take i ++ List.replicate n z ++ cur.toList.drop (i + n)).take vs.length = vs.take i ++ List.replicate n z ++ vs.drop (i + n) := by
      have hl : cur.toList.length = c := by simpa using q5
      rw [Nat.mul_one, hN] at q6
      have := cut_take cur.toList (List.replicate n z) vs.length i n (by omega) (by omega) (by simp)
      rw [q6] at this
      exact this
    have h := hI.turn (w' := w.setRow g (cur.toList.take i ++ List.replicate n z ++ cur.toList.drop (i + n)).toArray) (ι' := ι) (fun _ => false) id (.row e (vs.take i ++ List.replicate n z ++ vs.drop (i + n))) (fp id) rfl rfl rfl (by simp)
      (fun k hk hn' => setRow_other w g k _ (fun e' => hn' id _ (.inl rfl) hσ ((g3 k).2 (by rw [e']; rfl))))
      (fun k hk => .inl ⟨id, _, .inl rfl, hσ, hk⟩) (fun _ _ _ e => e) hI.fix
      (fun hk => ⟨_, h1, ⟨by omega, .inr ⟨g, c, _, by rw [hln, hN], Nat.zero_le _, setRow_heap w g _ _ _ _ q2, by rw [hln, ← hN]; exact q3, q4, by simp at q5 ⊢; omega, by rw [hln]; simpa using hcut⟩⟩, g3⟩)
    rw [turn_none, fp_self] at h
    exact .value _ _ _ _ ι fp h (by simp only [LRel]; exact ⟨[], rfl, by simp only [LRels]⟩) hK
theorem Conv.move {s : St} {id e : Nat} {vs : List Value} (t id' : Nat) (hid : 16 ≤ id') (ht : s.lf t = .own id) (hσ : s.σ id = some (.row e vs)) : Conv s ((s.turn (fun j => j == id || j == id') id' (.row e vs)).put (some t) (.own id')) := by
  intro w0 w ι fp f hI
  have hv := hI.fr t
  rw [ht] at hv
  simp only [LRel] at hv
  obtain ⟨v, g1, g2, g3⟩ := hI.ob id _ hσ
  rw [hv] at g1
  simp only [Option.some.injEq] at g1
  have h := hI.turn (w' := w) (ι' := updI ι id' v) (fun j => j == id || j == id') id' (.row e vs) (fp id) rfl rfl rfl (Nat.le_refl _) (fun k hk hn => rfl) (fun k hk => .inl ⟨id, _, .inr (by simp), hσ, hk⟩)
    (fun j u hj hu => by
      simp only [Bool.or_eq_false_iff, beq_eq_false_iff_ne, ne_eq] at hj
      simp only [updI, if_neg hj.2]; exact hu) (updI_fix hI hid _)
    (fun hk => ⟨v, updI_self _ _ _, g2, g3⟩)
  refine ⟨updI ι id' v, fun j => if j = id' then fp id else fp j, ?_⟩
  have hput := h.put (some t) (x := .own id') (v := f t) (by simp only [LRel]; rw [updI_self, g1])
  have e1 : putV f (some t) (f t) = f := by funext i; simp only [putV, updV]; split <;> simp_all
  rw [e1] at hput
  exact hput
section
variable {n : Nat} {all : Array Oper} {o : Oper} {l : List Oper} {s : St} {k : Kont}
theorem HereO.slice (hT : T.Ok P) {t e : Nat} {z : Value} {bts : Nat} {x : Operand} {lo hi : Option Operand} {id : Nat} {vs : List Value} (a h : Nat) (ho : o.op = .slice t x lo hi none) (ht : T.el t = some (e, z, bts)) (hx : evL s x = .own id) (hσ : s.σ id = some (.row e vs))
    (hlo : cutAt (evL s) lo 0 a) (hhi : cutAt (evL s) hi vs.length h) (h1 : a ≤ h) (h2 : h ≤ vs.length) (hK : OpsV P T n all l (s.put o.dst (.sub id a (h - a))) k) : HereO P T n all o l s k :=
  HereO.of hT hK fun hK => OpT.slice hT a h ho ht hx hσ hlo hhi h1 h2 hK
theorem HereO.clear (hT : T.Ok P) {t e : Nat} {z : Value} {bts : Nat} {x : Operand} {id i m : Nat} {vs : List Value} (ho : o.op = .call { callee := .builtin .clear, args := #[x], argTypes := #[t] }) (ht : T.el t = some (e, z, bts)) (hx : evL s x = .sub id i m) (hσ : s.σ id = some (.row e vs)) (hz1 : z.oneCell' = true)
    (hK : OpsV P T n all l ((s.set id (.row e (vs.take i ++ List.replicate m z ++ vs.drop (i + m)))).put o.dst (.tup [])) k) : HereO P T n all o l s k :=
  HereO.of hT hK fun hK => OpT.clear hT ho ht hx hσ hz1 hK
end
end
end Go.Proofs.YtcjhojdlfnpgjaaGreat
namespace Go.Proofs.YtcjhojdlfnpgjaaGreat
open Go.RowKit
mutual
theorem ment_kill {id : Nat} : ∀ x : LV, ment id (kill (fun j => j == id) x) = false
  | .rdL l => by simp only [kill, ment, ments_kill l]
  | .agg l => by simp only [kill, ment, ments_kill l]
  | .tup l => by simp only [kill, ment, ments_kill l]
  | .box l => by simp only [kill, ment, ments_kill l]
  | .rdA _ l => by simp only [kill, ment, ments_kill l]
  | .pc x => by simp only [kill, ment, ment_kill x]
  | .own j => by simp only [kill]; by_cases h : j = id <;> simp [ment, h]
  | .ptr j _ => by simp only [kill]; by_cases h : j = id <;> simp [ment, h]
  | .pe j _ => by simp only [kill]; by_cases h : j = id <;> simp [ment, h]
  | .sub j _ _ => by simp only [kill]; by_cases h : j = id <;> simp [ment, h]
  | .fn _ caps => by simp only [kill, ment, ments_kill caps]
  | .v _ => by simp only [kill, ment]
  | .junk => by simp only [kill, ment]
  | .rd _ => by simp only [kill, ment]
  | .rds _ => by simp only [kill, ment]
theorem ments_kill {id : Nat} : ∀ l : List LV, ments id (kills (fun j => j == id) l) = false
  | [] => by simp only [kills, ments]
  | x :: l => by simp only [kills, ments, ment_kill x, ments_kill l, Bool.or_self]
end
mutual
theorem ment_kill2 {id id' : Nat} : ∀ {x : LV}, ment id x = false → ment id (kill (fun j => j == id') x) = false
  | .rdL l, h => by simp only [ment] at h; simp only [kill, ment, ments_kill2 h]
  | .agg l, h => by simp only [ment] at h; simp only [kill, ment, ments_kill2 h]
  | .tup l, h => by simp only [ment] at h; simp only [kill, ment, ments_kill2 h]
  | .box l, h => by simp only [ment] at h; simp only [kill, ment, ments_kill2 h]
  | .rdA _ l, h => by simp only [ment] at h; simp only [kill, ment, ments_kill2 h]
  | .pc x, h => by simp only [ment] at h; simp only [kill, ment, ment_kill2 h]
  | .own j, h => by simp only [ment] at h; simp only [kill]; by_cases q : j = id' <;> simp_all [ment]
  | .ptr j _, h => by simp only [ment] at h; simp only [kill]; by_cases q : j = id' <;> simp_all [ment]
  | .pe j _, h => by simp only [ment] at h; simp only [kill]; by_cases q : j = id' <;> simp_all [ment]
  | .sub j _ _, h => by simp only [ment] at h; simp only [kill]; by_cases q : j = id' <;> simp_all [ment]
  | .fn _ caps, h => by simp only [ment] at h; simp only [kill, ment, ments_kill2 h]
  | .v _, _ => by simp only [kill, ment]
  | .junk, _ => by simp only [kill, ment]
  | .rd _, _ => by simp only [kill, ment]
  | .rds _, _ => by simp only [kill, ment]
theorem ments_kill2 {id id' : Nat} : ∀ {l : List LV}, ments id l = false → ments id (kills (fun j => j == id') l) = false
  | [], _ => by simp only [kills, ments]
  | x :: l, h => by
    simp only [ments, Bool.or_eq_false_iff] at h
    simp only [kills, ments, ment_kill2 h.1, ments_kill2 h.2, Bool.or_self]
end
theorem mentO_kill {id : Nat} (oc : OC) : mentO id (killO (fun j => j == id) oc) = false := by
  cases oc with
  | cells t l => simp only [killO, mentO, ments_kill]
  | rowL t l => simp only [killO, mentO, ments_kill]
  | hole e e' t i j =>
    simp only [killO, mentO]
    cases j with
    | none => rfl
    | some j =>
      by_cases e : j = id
      · subst e; simp [Option.filter]
      · simp [Option.filter, e]
  | cust A r j =>
    simp only [killO, mentO]
    cases j with
    | none => rfl
    | some j =>
      by_cases e : j = id
      · subst e; simp [Option.filter]
      · simp [Option.filter, e]
  | _ => rfl
theorem mentO_kill2 {id id' : Nat} {oc : OC} (h : mentO id oc = false) : mentO id (killO (fun j => j == id') oc) = false := by
  cases oc with
  | cells t l => simp only [mentO] at h; simp only [killO, mentO, ments_kill2 h]
  | rowL t l => simp only [mentO] at h; simp only [killO, mentO, ments_kill2 h]
  | hole e e' t i j =>
    simp only [killO, mentO] at h ⊢
    cases j with
    | none => rfl
    | some j =>
      by_cases e : j = id'
      · subst e; simp [Option.filter]
      · simpa [Option.filter, e] using h
  | cust A r j =>
    simp only [killO, mentO] at h ⊢
    cases j with
    | none => rfl
    | some j =>
      by_cases e : j = id'
      · subst e; simp [Option.filter]
      · simpa [Option.filter, e] using h
  | _ => rfl
def Awaits (s : St) (id : Nat) : Prop := 16 ≤ id ∧ (∀ t, ment id (s.lf t) = false) ∧ (∀ j oc, s.σ j = some oc → j ≠ id → mentO id oc = false) ∧ ∃ e vs, s.σ id = some (.late e vs)
theorem Awaits.new (s : St) {id e : Nat} {vs : List Value} (hid : 16 ≤ id) : Awaits (s.late id e vs) id := by
  refine ⟨hid, fun t => ment_kill _, fun j oc hj hne => ?_, ⟨e, vs, by simp only [St.late, if_true]⟩⟩
  simp only [St.late, if_neg hne] at hj
  cases hs : s.σ j with
  | none => rw [hs] at hj; cases hj
  | some o => rw [hs] at hj; simp only [Option.map_some, Option.some.injEq] at hj; subst hj; exact mentO_kill o
theorem Awaits.keep {s : St} {id id' e : Nat} {vs : List Value} (h : Awaits s id) (hne : id ≠ id') : Awaits (s.late id' e vs) id := by
  obtain ⟨h0, h1, h2, e0, vs0, h3⟩ := h
  refine ⟨h0, fun t => ment_kill2 (h1 t), fun j oc hj hne' => ?_, ⟨e0, vs0, by simp only [St.late, if_neg hne, h3, Option.map_some, killO]⟩⟩
  by_cases q : j = id'
  · subst q
    simp only [St.late, if_true, Option.some.injEq] at hj
    subst hj
    rfl
  · simp only [St.late, if_neg q] at hj
    cases hs : s.σ j with
    | none => rw [hs] at hj; cases hj
    | some o => rw [hs] at hj; simp only [Option.map_some, Option.some.injEq] at hj; subst hj; exact mentO_kill2 (h2 j o hs hne')
def St.lates (s : St) : List Birth → St
  | [] => s
  | b :: B => (s.late b.id b.e b.vs).lates B
theorem lates_ok : ∀ (B : List Birth) (s : St), (∀ b ∈ B, 16 ≤ b.id) → (B.map (·.id)).Nodup → Conv s (s.lates B) ∧ (∀ b ∈ B, Awaits (s.lates B) b.id) ∧ ∀ id, Awaits s id → id ∉ B.map (·.id) → Awaits (s.lates B) id
  | [], s, _, _ => ⟨fun _ _ ι fp _ hI => ⟨ι, fp, hI⟩, fun b hb => (List.not_mem_nil hb).elim, fun id h _ => h⟩
  | b :: B, s, h16, hnd => by
    simp only [List.map_cons, List.nodup_cons] at hnd
    have hb := h16 b (List.mem_cons_self ..)
    obtain ⟨h1, h2, h3⟩ := lates_ok B (s.late b.id b.e b.vs) (fun b' hb' => h16 b' (List.mem_cons_of_mem _ hb')) hnd.2
    refine ⟨(Conv.late s b.id b.e b.vs hb).trans h1, fun b' hb' => ?_, fun id hid hni => ?_⟩
    · rcases List.mem_cons.1 hb' with rfl | hb'
      · exact h3 _ (Awaits.new s hb) hnd.1
      · exact h2 b' hb'
    · simp only [List.map_cons, List.mem_cons, not_or] at hni
      exact h3 id (hid.keep hni.1) hni.2
section
variable {P : Program} {T : TT}
def inP (i : Nat) : List Nat → Prop
  | [] => False
  | j :: l => i = j ∨ inP i l
theorem inP_mem {i : Nat} : ∀ {l : List Nat}, inP i l → i ∈ l
  | [], h => h.elim
  | j :: l, h => h.elim (fun e => by rw [e]; exact List.mem_cons_self ..) fun h => List.mem_cons_of_mem _ (inP_mem h)
def okR : List Birth → Nat → LV → Prop
  | [], _, _ => True
  | b :: B, i, r => (ment b.id r = true → i = b.i ∨ inP i b.D) ∧ okR B i r
theorem okR_ok {i : Nat} {r : LV} : ∀ {B : List Birth}, okR B i r → okB B i r
  | [], _, b, hb, _ => by cases hb
  | b :: B, h, b', hb', hm => by
    rcases List.mem_cons.1 hb' with rfl | hb'
    · exact (h.1 hm).imp_right inP_mem
    · exact okR_ok h.2 b' hb' hm
def HereN (P : Program) (T : TT) (n : Nat) (B : List Birth) (i : Nat) (o : Oper) (l : List Oper) (s : St) (k : Kont) : Prop :=
  ∃ r, okB B i r ∧ (OpP P o (evL s) s.σ r ∨ o.dst.isSome = true ∧ ∃ b ∈ B, b.i = i ∧ r = bornL b.p b.id b.vs.length ∧ s.σ b.id = some (.late b.e b.vs) ∧ OpN P o (evL s) s.σ b.id b.e b.vs b.p) ∧ DrawN P T n B (i + 1) l (s.put o.dst r) k
theorem DrawN_nil {n : Nat} {B : List Birth} {i : Nat} {s : St} {k : Kont} : DrawN P T n B i [] s k = HereE P T n k s := by rw [DrawN]
def DrawM (P : Program) (T : TT) (n : Nat) (B : List Birth) (i : Nat) : List Oper → St → Kont → Prop
  | [], s, k => HereE P T n k s
  | o :: l, s, k => o.guard = none ∧ match opE T o.op (evL s) s.σ with
    | .val p r => p ∧ okR B i r ∧ DrawM P T n B (i + 1) l (s.put o.dst r) k
    | .hard => HereN P T n B i o l s k
    | _ => False
theorem DrawM_nil {n : Nat} {B : List Birth} {i : Nat} {s : St} {k : Kont} : DrawM P T n B i [] s k = HereE P T n k s := by rw [DrawM]
theorem DrawM_cons {n : Nat} {B : List Birth} {i : Nat} {o : Oper} {l : List Oper} {s : St} {k : Kont} : DrawM P T n B i (o :: l) s k = (o.guard = none ∧ match opE T o.op (evL s) s.σ with
    | .val p r => p ∧ okR B i r ∧ DrawM P T n B (i + 1) l (s.put o.dst r) k
    | .hard => HereN P T n B i o l s k
    | _ => False) := by rw [DrawM]
theorem DrawM_ok {n : Nat} {B : List Birth} {k : Kont} : ∀ {l : List Oper} {i : Nat} {s : St}, DrawM P T n B i l s k → DrawN P T n B i l s k
  | [], i, s, h => by rw [DrawM_nil] at h; rw [DrawN_nil]; exact h
  | o :: l, i, s, h => by
    rw [DrawM_cons] at h
    unfold DrawN
    refine ⟨h.1, ?_⟩
    have h2 := h.2
    generalize opE T o.op (evL s) s.σ = R at h2
    cases R with
    | val p r => exact ⟨h2.1, okR_ok h2.2.1, DrawM_ok h2.2.2⟩
    | hard => exact h2
    | two t a b => exact h2.elim
    | bad => exact h2.elim
theorem HereN.op {n : Nat} {B : List Birth} {i : Nat} {o : Oper} {l : List Oper} {s : St} {k : Kont} {r : LV} (h : OpP P o (evL s) s.σ r) (hok : okR B i r) (h2 : DrawM P T n B (i + 1) l (s.put o.dst r) k) : HereN P T n B i o l s k := ⟨r, okR_ok hok, .inl h, DrawM_ok h2⟩
theorem HereN.birth {n : Nat} {B : List Birth} {i : Nat} {o : Oper} {l : List Oper} {s : St} {k : Kont} {id e : Nat} {vs : List Value} {D : List Nat} {p : Bool} (hb : (⟨i, id, e, vs, D, p⟩ : Birth) ∈ B) (hd : o.dst.isSome = true) (hσ : s.σ id = some (.late e vs)) (h : OpN P o (evL s) s.σ id e vs p) (hok : okR B i (bornL p id vs.length)) (h2 : DrawM P T n B (i + 1) l (s.put o.dst (bornL p id vs.length)) k) : HereN P T n B i o l s k :=
  ⟨_, okR_ok hok, .inr ⟨hd, _, hb, rfl, rfl, hσ, h⟩, DrawM_ok h2⟩
theorem HereE.of {n : Nat} {k : Kont} {s s' : St} (hc : Conv s s') (h : Norm P T n k s') : HereE P T n k s := ⟨s', hc, h⟩
end
end Go.Proofs.YtcjhojdlfnpgjaaGreat
namespace Go.Proofs.YtcjhojdlfnpgjaaGreat
open Go.RowKit
theorem Addr.add_add' (a : Addr) (m n : Nat) : (a.add m).add n = a.add (m + n) := by
  unfold Addr.add
  by_cases h : m = 0 <;> by_cases h2 : n = 0 <;> simp_all [Nat.add_assoc]
section
variable {P : Program} {T : TT}
theorem OpP.lenStr {o : Oper} {ρ : Operand → LV} {σ : Nat → Option OC} {t : Nat} {x : Operand} {b : ByteArray} (hu : P.underlying t = some .string) (ho : o.op = .call { callee := .builtin .len, args := #[x], argTypes := #[t] }) (hx : ρ x = .v (.string b)) : OpP P o ρ σ (.v (.int .i64 b.size)) := by
  intro w0 w ι fp s f hI hσ hρ
  have hv := hI.ev x
  rw [hρ x (by simp [ho, Op.operands, Call.operands]), hx] at hv
  simp only [LRel] at hv
  have hr : (execOp (evV f) o).run P w = .ok (.value (.int .i64 b.size)) w := by
    simp only [execOp, ho, resolve, invoke, builtin, Sem.run_bind, Sem.run_pure, Result.andThen_ok, List.map_toArray, List.map_cons, List.map_nil, hv]
    simp [run_len_string _ _ _ _ hu, goInt]
  rw [hr]
  exact .value _ s _ w ι fp hI (by simp only [LRel]) ⟨rfl, rfl⟩
def byteAt (b : ByteArray) (i : Nat) : Int := (b.toList.getD i 0).toNat
theorem OpP.index {o : Oper} {ρ : Operand → LV} {σ : Nat → Option OC} {t : Nat} {x y : Operand} {b : ByteArray} {k : IntKind} {i : Nat} (hu : P.underlying t = some .string) (ho : o.op = .index t x y) (hx : ρ x = .v (.string b)) (hy : ρ y = .v (.int k i)) (hi : i < b.size) : OpP P o ρ σ (.v (.int .u8 (byteAt b i))) := by
  intro w0 w ι fp s f hI hσ hρ
  have hv := hI.ev x
  rw [hρ x (by simp [ho, Op.operands]), hx] at hv
  have hv2 := hI.ev y
  rw [hρ y (by simp [ho, Op.operands]), hy] at hv2
  simp only [LRel] at hv hv2
  have hb : ((b[i]'hi).toNat : Int) = byteAt b i := by
    unfold byteAt
    rw [List.getD_eq_getElem?_getD]
    have : b.toList[i]? = some (b[i]'hi) := by
      rw [ByteArray.toList_eq, Array.getElem?_toList]
      exact Array.getElem?_eq_getElem hi
    rw [this]
    rfl
  have hr : (execOp (evV f) o).run P w = .ok (.value (.int .u8 (byteAt b i))) w := by
    simp only [execOp, ho, hv, hv2, Sem.run_bind]
    rw [run_index_string _ _ _ _ _ hu, dif_pos ⟨by omega, by omega⟩]
    simp [← hb]
  rw [hr]
  exact .value _ s _ w ι fp hI (by simp only [LRel]) ⟨rfl, rfl⟩
theorem OpP.slice (hT : T.Ok P) {o : Oper} {ρ : Operand → LV} {σ : Nat → Option OC} {t e : Nat} {z : Value} {bts : Nat} {x : Operand} {lo hi : Option Operand} {vs : List Value} (l h : Nat) (ho : o.op = .slice t x lo hi none) (ht : T.el t = some (e, z, bts)) (hx : ρ x = .rd vs)
    (hlo : cutAt ρ lo 0 l) (hhi : cutAt ρ hi vs.length h) (h1 : l ≤ h) (h2 : h ≤ vs.length) : OpP P o ρ σ (.rd ((vs.take h).drop l)) := by
  intro w0 w ι fp s f hI hσ hρ
  have hxv := hI.ev x
  rw [hρ x (by simp [ho, Op.operands]), hx] at hxv
  simp only [LRel] at hxv
  obtain ⟨A, c, hv, hNc, hl, hA⟩ := hxv
  obtain ⟨hu, i, hi', hz, hs, rfl, hzc⟩ := hT.el t e z bts ht
  have hue : P.underlying t = some (.slice (P.elem t)) := by
    have : P.elem t = e := by simp [Program.elem, hu]
    rw [this]; exact hu
  have hes : P.elem t = e := by simp [Program.elem, hu]
  have hsz : (sizeOf e).run P w = .ok 1 w := by simp [sizeOf, typeInfo, hi', hs]
  have hrun : (Instr.sliceAt t (.slice A vs.length c) (lo.map (evV f)) (hi.map (evV f)) none).run P w = .ok (sliced A l h c 1) w := by
    have hlv : ∀ a, lo = some a → ∃ k, evV f a = .int k l := fun a ha => by
      subst ha
      obtain ⟨k, hk⟩ := hlo
      have := hI.ev a
      rw [hρ a (by simp [ho, Op.operands]), hk] at this
      simp only [LRel] at this
      exact ⟨k, this⟩
    have hhv : ∀ a, hi = some a → ∃ k, evV f a = .int k h := fun a ha => by
      subst ha
      obtain ⟨k, hk⟩ := hhi
      have := hI.ev a
      rw [hρ a (by simp [ho, Op.operands]), hk] at this
      simp only [LRel] at this
      exact ⟨k, this⟩
    rw [run_sliceAt_slice (h := hue)]
    cases lo with
    | none =>
      simp only [cutAt] at hlo
      subst hlo
      cases hi with
      | none =>
        simp only [cutAt] at hhi
        subst hhi
        simp only [Option.map_none]
        rw [run_slice_all (ht := hue), hes, hsz]
        simp
      | some b =>
        obtain ⟨k, hk⟩ := hhv b rfl
        simp only [Option.map_none, Option.map_some, hk]
        rw [run_slice_h (ht := hue) (h0 := by omega) (h2 := by omega), hes, hsz]
        simp
    | some a =>
      obtain ⟨k, hk⟩ := hlv a rfl
      cases hi with
      | none =>
        simp only [cutAt] at hhi
        subst hhi
        simp only [Option.map_none, Option.map_some, hk]
        rw [run_slice_l (ht := hue) (h0 := by omega) (h1 := by omega), hes, hsz]
        simp
      | some b =>
        obtain ⟨k', hk'⟩ := hhv b rfl
        simp only [Option.map_some, hk, hk']
        rw [run_slice_lh (ht := hue) (h0 := by omega) (h1 := by omega) (h2 := by omega), hes, hsz]
        simp
  have hr : (execOp (evV f) o).run P w = .ok (.value (sliced A l h c 1)) w := by
    simp [execOp, ho, hv, hrun]
  rw [hr]
  refine .value _ s _ _ ι fp hI ?_ ⟨rfl, rfl⟩
  simp only [LRel]
  have hlen : ((vs.take h).drop l).length = h - l := by simp; omega
  refine ⟨(if c = l then A else A.map (·.add (l * 1))), c - l, by rw [hlen]; rfl, by omega, by omega, fun hp => ?_⟩
  obtain ⟨ad, rfl, hF, hcell⟩ := hA (by omega)
  rw [if_neg (by omega)]
  refine ⟨ad.add l, by simp, by rw [add_block]; exact hF, fun j u hu => ?_⟩
  rw [List.getElem?_drop, List.getElem?_take] at hu
  split at hu
  · have := hcell (l + j) u hu
    rw [Addr.add_add']
    exact this
  · cases hu
def BuiltAt (P : Program) (t : Nat) (zl : List Value) : Prop := ∃ pl : Nat → Option (Nat × Nat), (∀ i, i < zl.length → pl i = some (i, 1)) ∧ ∀ parts, P.built t parts = Instr.fill pl zl.toArray parts
def setAll {α : Type} : List (Nat × α) → List α → List α
  | [], l => l
  | p :: ps, l => setAll ps (l.set p.1 p.2)
theorem fill_sets (pl : Nat → Option (Nat × Nat)) (n : Nat) (hpl : ∀ i, i < n → pl i = some (i, 1)) : ∀ (ps : List (Nat × Value)) (l : List Value), l.length = n → (∀ p ∈ ps, p.1 < n ∧ p.2.oneCell' = true) → Instr.fill pl l.toArray ps = some (setAll ps l).toArray
  | [], l, _, _ => rfl
  | (i, v) :: ps, l, hl, h => by
    obtain ⟨h0, h1⟩ := h (i, v) (List.mem_cons_self ..)
    have hcell := one_cells h1
    simp only [Instr.fill, hpl i h0, hcell]
    rw [if_neg (by simp; simp at h0; omega)]
    have hz : (#[v].zipIdx.foldl (fun cs (x : Value × Nat) => cs.setIfInBounds (i + x.2) x.1) l.toArray) = l.toArray.setIfInBounds i v := rfl
    simp only [hz, List.setIfInBounds_toArray]
    rw [fill_sets pl n hpl ps (l.set i v) (by simpa using hl) (fun p hp => h p (List.mem_cons_of_mem _ hp))]
    rfl
theorem LRels.setAll {ι : Nat → Option Value} {F : Nat → Prop} {w : World} : ∀ {ps : List (Nat × LV)} {qs : List (Nat × Value)} {l : List LV} {ys : List Value}, ps.map (·.1) = qs.map (·.1) → LRels ι F w (ps.map (·.2)) (qs.map (·.2)) → LRels ι F w l ys → LRels ι F w (Go.Proofs.YtcjhojdlfnpgjaaGreat.setAll ps l) (Go.Proofs.YtcjhojdlfnpgjaaGreat.setAll qs ys)
  | [], [], l, ys, _, _, h => h
  | [], _ :: _, _, _, h, _, _ => by simp at h
  | _ :: _, [], _, _, h, _, _ => by simp at h
  | (i, x) :: ps, (j, y) :: qs, l, ys, h1, h2, h3 => by
    simp only [List.map_cons, List.cons.injEq] at h1
    obtain ⟨rfl, h1'⟩ := h1
    simp only [List.map_cons, LRels] at h2
    obtain ⟨y', r, e, h4, h5⟩ := h2
    simp only [List.cons.injEq] at e
    obtain ⟨rfl, rfl⟩ := e
    have := LRels.setAll (ps := ps) (qs := qs) h1' h5 (LRels.set h4 i h3)
    exact this
theorem LRels.zl {ι : Nat → Option Value} {F : Nat → Prop} {w : World} : ∀ {ys : List Value}, LRels ι F w (ys.map .v) ys
  | [] => by simp only [List.map_nil, LRels]
  | y :: ys => by simp only [List.map_cons, LRels, LRel]; exact ⟨y, ys, rfl, rfl, LRels.zl⟩
theorem OpP.build {o : Oper} {ρ : Operand → LV} {σ : Nat → Option OC} {t : Nat} {zl : List Value} {parts : Array (Nat × Operand)} {r : List LV} (hb : BuiltAt P t zl) (ho : o.op = .build t parts) (hp : parts.toList.all (fun p => decide (p.1 < zl.length)) = true)
    (h1 : parts.toList.all (fun p => oneL (ρ p.2) && ownIs σ (ρ p.2)) = true) (hr : setAll (parts.toList.map fun p => (p.1, ρ p.2)) (zl.map .v) = r) : OpP P o ρ σ (.agg r) := by
  intro w0 w ι fp s f hI hσ hρ
  subst hr
  subst hσ
  obtain ⟨pl, hpl, hbu⟩ := hb
  have hev : ∀ p ∈ parts.toList, evL s p.2 = ρ p.2 := fun p hm => hρ p.2 (by simp [ho, Op.operands]; exact ⟨p.1, by simpa using hm⟩)
  have hone : ∀ p ∈ parts.toList, (evV f p.2).oneCell' = true := fun p hm => by
    have h := List.all_eq_true.1 h1 p hm
    rw [← hev p hm] at h
    simp only [Bool.and_eq_true] at h
    exact hI.own_one (hI.ev p.2) h.1 fun j hj => by have := h.2; rw [hj] at this; exact this
  have hfill := fill_sets pl zl.length hpl (parts.toList.map fun p => (p.1, evV f p.2)) zl rfl (fun p hm => by
    obtain ⟨q, hq, rfl⟩ := List.mem_map.1 hm
    exact ⟨by simpa using List.all_eq_true.1 hp q hq, hone q hq⟩)
  have hrun : (Instr.build t (parts.map fun (x : Nat × Operand) => (x.1, evV f x.2))).run P w = .ok (.agg (setAll (parts.toList.map fun p => (p.1, evV f p.2)) zl).toArray) w :=
    run_build w t _ _ (by rw [hbu, Array.toList_map]; exact hfill)
  have hr : (execOp (evV f) o).run P w = .ok (.value (.agg (setAll (parts.toList.map fun p => (p.1, evV f p.2)) zl).toArray)) w := by
    simp [execOp, ho, hrun]
  rw [hr]
  refine .value _ s _ w ι fp hI ?_ ⟨rfl, rfl⟩
  simp only [LRel]
  refine ⟨_, rfl, LRels.setAll (by simp) ?_ LRels.zl⟩
  rw [List.map_map, List.map_map]
  have key : ∀ l : List (Nat × Operand), (∀ p ∈ l, evL s p.2 = ρ p.2) → LRels ι (FF s.σ fp) w (l.map ((·.2) ∘ fun p => (p.1, ρ p.2))) (l.map ((·.2) ∘ fun p => (p.1, evV f p.2))) := by
    intro l
    induction l with
    | nil => intro _; simp only [List.map_nil, LRels]
    | cons p l ih =>
      intro h
      simp only [List.map_cons, LRels, Function.comp]
      refine ⟨_, _, rfl, ?_, ih fun q hq => h q (List.mem_cons_of_mem _ hq)⟩
      rw [← h p (List.mem_cons_self ..)]
      exact hI.ev p.2
  exact key _ hev
end
end Go.Proofs.YtcjhojdlfnpgjaaGreat
namespace Go.Proofs.YtcjhojdlfnpgjaaGreat
open Go.RowKit
def flat : List (LV × LV) → List LV
  | [] => []
  | x :: l => x.1 :: x.2 :: flat l
def Sl2 (P : Program) (t : Nat) : Prop := ∃ (e : Nat) (i : TypeInfo) (z : Value), P.underlying t = some (.slice e) ∧ P.info? e = some i ∧ i.size = 2 ∧ i.zero = some z ∧ z.cells.size = 2
section
variable {P : Program} {T : TT}
end
end Go.Proofs.YtcjhojdlfnpgjaaGreat
