/- A calculus of verification conditions over logical values: rows of structs of two cells, a plain value and a row of its own each. -/
import Derived.Test.YtcjhojdlfnpgjaaGreatK12
import Derived.Test.YtcjhojdlfnpgjaaGreatK06
set_option linter.unusedVariables false
set_option linter.unusedSimpArgs false
set_option maxRecDepth 100000
namespace Go.Proofs.YtcjhojdlfnpgjaaGreat
open Go.RowKit
def inter : List (Value × List Value) → List Value → List Value
  | p :: q, h :: hs => p.1 :: h :: inter q hs
  | _, _ => []
def lvq (q : List (Value × List Value)) : List (LV × LV) := q.map fun p => (.v p.1, .rd p.2)
def ModsA (e e' : Nat) (q : List (Value × List Value)) (v _y : Value) (w : World) (fp : Nat → Prop) : Prop :=
  ∃ hs, w.ownsRow 0 e 2 v q.length (inter q hs) ∧ (∀ k, v.ownBlock = some k → fp k) ∧ OwnAll w 0 e' (fun k => fp k ∧ v.ownBlock ≠ some k) (q.map (·.2)) hs ∧ (∀ p ∈ q, p.1.oneCell' = true)
def ModHoleA (e e' : Nat) (q : List (Value × List Value)) (i : Nat) (v y : Value) (w : World) (fp : Nat → Prop) : Prop :=
  ∃ hs, w.ownsRow 0 e 2 v q.length (inter q hs) ∧ (∀ k, v.ownBlock = some k → fp k) ∧ OwnAll w 0 e' (fun k => fp k ∧ v.ownBlock ≠ some k) ((q.map (·.2)).set i []) (hs.set i (.slice none 0 0)) ∧ (∀ p ∈ q, p.1.oneCell' = true) ∧ hs[i]? = some y
abbrev OC.mods (e e' : Nat) (q : List (Value × List Value)) : OC := .cust (ModsA e e' q) (.rdA 2 (flat (lvq q))) none
abbrev OC.modHole (e e' : Nat) (q : List (Value × List Value)) (i : Nat) (j : Option Nat) : OC := .cust (ModHoleA e e' q i) .junk j
def Sl2m (P : Program) (t e : Nat) : Prop := P.underlying t = some (.slice e) ∧ ∃ (i : TypeInfo) (z : Value), P.info? e = some i ∧ i.zero = some z ∧ i.size = 2 ∧ z.cells.size = 2 ∧ i.bytes ≤ 64
section
variable {P : Program} {T : TT}
theorem Inv.opened {w0 : Base} {w : World} {ι : Nat → Option Value} {fp : Nat → Nat → Prop} {s : St} {f : Nat → Value} (hI : Inv w0 w ι fp s f) {id j e' : Nat} {oc och : OC} {vs : List Value} {y : Value} (hσ : s.σ id = some oc) (hj : 16 ≤ j) (hji : j ≠ id) (k1 : w.ownsRow 0 e' 1 y vs.length vs) (k2 : ∀ k, y.ownBlock = some k → fp id k)
    (hnew : ∀ (ι' : Nat → Option Value) (F' : Nat → Prop), (∀ q v, q ≠ j → ι q = some v → ι' q = some v) → ι' j = some y → ORel ι' F' w 0 (fun k => fp id k ∧ y.ownBlock ≠ some k) id och) :
    ∃ ι' fp', Inv w0 w ι' fp' ((s.fresh j (.row e' vs)).set id och) f ∧ ι' j = some y := by
  have hFs : ∀ k, FF ((s.fresh j (.row e' vs)).set id och).σ (fun q => if q = j then fun k => y.ownBlock = some k else if q = id then fun k => fp id k ∧ y.ownBlock ≠ some k else fp q) k → FF s.σ fp k := by
    rintro k ⟨q, oc, h1, h2⟩
    by_cases q1 : q = j
    · rw [if_pos q1] at h2
      exact ⟨id, _, hσ, (k2 k h2)⟩
    · rw [if_neg q1] at h2
      by_cases q2 : q = id
      · rw [if_pos q2] at h2; exact ⟨id, _, hσ, h2.1⟩
      · rw [if_neg q2] at h2
        simp only [St.set, St.fresh, St.turn, if_neg q1, if_neg q2] at h1
        rw [if_neg (by simpa using q1)] at h1
        cases hq : s.σ q with
        | none => rw [hq] at h1; cases h1
        | some oc' => exact ⟨q, oc', hq, h2⟩
  have hk : Keeps (FF s.σ fp) (FF ((s.fresh j (.row e' vs)).set id och).σ (fun q => if q = j then fun k => y.ownBlock = some k else if q = id then fun k => fp id k ∧ y.ownBlock ≠ some k else fp q)) w w :=
    fun p u hp hc => ⟨hc, fun hq => hp (hFs _ hq)⟩
  have hι : ∀ q v, (q == j) = false → ι q = some v → updI ι j y q = some v := kill_is fun q hq => by simp only [updI, if_neg hq]
  have old : ∀ q oc, q ≠ j → q ≠ id → ((s.fresh j (.row e' vs)).set id och).σ q = some oc → ∃ oc', s.σ q = some oc' ∧ oc = killO (fun x => x == j) oc' := by
    intro q oc q1 q2 h1
    simp only [St.set, St.fresh, St.turn, if_neg q1, if_neg q2] at h1
    rw [if_neg (by simpa using q1)] at h1
    cases hq : s.σ q with
    | none => rw [hq] at h1; cases h1
    | some oc' => rw [hq] at h1; simp only [Option.map_some, Option.some.injEq] at h1; exact ⟨oc', rfl, h1.symm⟩
  refine ⟨updI ι j y, fun q => if q = j then fun k => y.ownBlock = some k else if q = id then fun k => fp id k ∧ y.ownBlock ≠ some k else fp q, ⟨fun x => (hI.fr x).kills hι hk, fun q oc hq => ?_, fun q q' oc oc' k h1 h2 d1 d2 => ?_, hI.bel, fun k hk => hI.low k (hFs k hk), updI_fix hI hj y⟩, by simp only [updI, if_true]⟩
  · by_cases q1 : q = j
    · subst q1
      simp only [St.set, St.fresh, St.turn, if_neg hji, if_true, Option.some.injEq] at hq
      subst hq
      simp only [if_true]
      exact ⟨y, by simp [updI], k1, fun k => Iff.rfl⟩
    · simp only [if_neg q1]
      by_cases q2 : q = id
      · subst q2
        simp only [St.set, if_true, Option.some.injEq] at hq
        subst hq
        simp only [if_true]
        exact hnew _ _ (fun q v hq e => by simp only [updI, if_neg hq]; exact e) (by simp [updI])
      · simp only [if_neg q2]
        obtain ⟨oc', ho', rfl⟩ := old q oc q1 q2 hq
        exact (hI.ob q oc' ho').kills (by simpa using q1) hι hk (Nat.le_refl _) fun _ _ => rfl
  · have cl : ∀ q oc, q ≠ j → q ≠ id → ((s.fresh j (.row e' vs)).set id och).σ q = some oc → fp q k → fp id k → False := by
      intro q oc q1 q2 hq a1 a2
      obtain ⟨oc', ho', _⟩ := old q oc q1 q2 hq
      exact q2 (hI.dis _ _ _ _ k ho' hσ a1 a2)
    by_cases q1 : q = j
    · by_cases q1' : q' = j
      · rw [q1, q1']
      · simp only [if_pos q1] at d1
        simp only [if_neg q1'] at d2
        by_cases q2' : q' = id
        · simp only [if_pos q2'] at d2; exact (d2.2 d1).elim
        · simp only [if_neg q2'] at d2; exact (cl q' oc' q1' q2' h2 d2 (k2 k d1)).elim
    · simp only [if_neg q1] at d1
      by_cases q2 : q = id
      · simp only [if_pos q2] at d1
        by_cases q1' : q' = j
        · simp only [if_pos q1'] at d2; exact (d1.2 d2).elim
        · simp only [if_neg q1'] at d2
          by_cases q2' : q' = id
          · rw [q2, q2']
          · simp only [if_neg q2'] at d2; exact (cl q' oc' q1' q2' h2 d2 d1.1).elim
      · simp only [if_neg q2] at d1
        by_cases q1' : q' = j
        · simp only [if_pos q1'] at d2; exact (cl q oc q1 q2 h1 d1 (k2 k d2)).elim
        · simp only [if_neg q1'] at d2
          by_cases q2' : q' = id
          · simp only [if_pos q2'] at d2; exact (cl q oc q1 q2 h1 d1 d2.1).elim
          · simp only [if_neg q2'] at d2
            obtain ⟨o1, ho1, _⟩ := old q oc q1 q2 h1
            obtain ⟨o2, ho2, _⟩ := old q' oc' q1' q2' h2
            exact hI.dis _ _ _ _ k ho1 ho2 d1 d2
mutual
theorem kill_kill (q q' : Nat → Bool) : ∀ x : LV, kill q (kill q' x) = kill (fun j => q j || q' j) x
  | .agg l => by simp only [kill, kills_kills q q' l]
  | .rdL l => by simp only [kill, kills_kills q q' l]
  | .tup l => by simp only [kill, kills_kills q q' l]
  | .box l => by simp only [kill, kills_kills q q' l]
  | .rdA _ l => by simp only [kill, kills_kills q q' l]
  | .pc x => by simp only [kill, kill_kill q q' x]
  | .own id => by
    by_cases h : q' id = true
    · simp [kill, h]
    · by_cases h2 : q id = true <;> simp [kill, h, h2]
  | .ptr id off => by
    by_cases h : q' id = true
    · simp [kill, h]
    · by_cases h2 : q id = true <;> simp [kill, h, h2]
  | .pe id i => by
    by_cases h : q' id = true
    · simp [kill, h]
    · by_cases h2 : q id = true <;> simp [kill, h, h2]
  | .sub id i n => by
    by_cases h : q' id = true
    · simp [kill, h]
    · by_cases h2 : q id = true <;> simp [kill, h, h2]
  | .fn g caps => by simp only [kill, kills_kills q q' caps]
  | .v x => by simp only [kill]
  | .junk => by simp only [kill]
  | .rd vs => by simp only [kill]
  | .rds t => by simp only [kill]
theorem kills_kills (q q' : Nat → Bool) : ∀ l : List LV, kills q (kills q' l) = kills (fun j => q j || q' j) l
  | [] => by simp only [kills]
  | x :: l => by simp only [kills, kill_kill q q' x, kills_kills q q' l]
end
theorem Inv.moveV {w0 : Base} {w : World} {ι : Nat → Option Value} {fp : Nat → Nat → Prop} {s : St} {f : Nat → Value} (hI : Inv w0 w ι fp s f) {i m : Nat} {oc : OC} {v : Value} (hm : 16 ≤ m) (hi : s.σ i = some oc) (hp : rowish oc = true) (hv : ι i = some v) : ∃ ι' fp', Inv w0 w ι' fp' (s.turn (fun q => q == m || q == i) m oc) f ∧ ι' m = some v := by
  have hob : ∀ F', ORel (updI ι m v) F' w 0 (fp i) m oc := by
    have := hI.ob i _ hi
    cases oc with
    | row e vs => obtain ⟨v', g1, g2, g3⟩ := this; rw [hv] at g1; cases g1; exact fun F' => ⟨v, updI_self _ _ _, g2, g3⟩
    | rows e e' t => obtain ⟨v', hs, g1, g2, g3, g4, g5⟩ := this; rw [hv] at g1; cases g1; exact fun F' => ⟨v, hs, updI_self _ _ _, g2, g3, g4, g5⟩
    | cells t l => cases hp
    | rowL e l => cases hp
    | hole e e' t i j => cases hp
    | late e vs => cases hp
    | ghost vs => cases hp
    | cust A r k => cases k with
      | some k => cases hp
      | none => obtain ⟨v', y, g1, g2, g3, g4, g5⟩ := this; rw [hv] at g1; cases g1; exact fun F' => ⟨v, y, updI_self _ _ _, g2, g3, g4, fun j hj => by cases hj⟩
  exact ⟨_, _, hI.turn (w' := w) (ι' := updI ι m v) (fun q => q == m || q == i) m oc (fp i) rfl rfl rfl (Nat.le_refl _) (fun k hk hn => rfl) (fun k hk => .inl ⟨i, oc, .inr (by simp), hi, hk⟩) (fun q u hq e => by
    simp only [Bool.or_eq_false_iff, beq_eq_false_iff_ne, ne_eq] at hq
    simp only [updI, if_neg hq.1]; exact e) (updI_fix hI hm v) (fun _ => hob _), updI_self _ _ _⟩
section
variable {n : Nat} {all : Array Oper} {o : Oper} {l : List Oper} {s : St} {k : Kont}
end
section
variable {K : List Nat} {G : (Nat → Option OC) → Prop} {n : Nat} {all : Array Oper} {ms : List Md} {o : Oper} {l : List Oper} {s : St} {k : Kont}
end
section
variable {n : Nat} {all : Array Oper} {o : Oper} {l : List Oper} {s : St} {k : Kont}
end
end
theorem kills_flatq (f : Nat → Bool) : ∀ q : List (Value × List Value), kills f (flat (lvq q)) = flat (lvq q)
  | [] => rfl
  | p :: q => by have := kills_flatq f q; simp only [lvq, List.map_cons, flat, kills, kill] at this ⊢; rw [this]
theorem rens_flatq (f : Nat → Nat) : ∀ q : List (Value × List Value), rens f (flat (lvq q)) = flat (lvq q)
  | [] => rfl
  | p :: q => by have := rens_flatq f q; simp only [lvq, List.map_cons, flat, rens, ren] at this ⊢; rw [this]
theorem closeAs_flatq (σ : Nat → Option OC) : ∀ q : List (Value × List Value), closeAs σ (flat (lvq q)) = flat (lvq q)
  | [] => rfl
  | p :: q => by have := closeAs_flatq σ q; simp only [lvq, List.map_cons, flat, closeAs, closeA] at this ⊢; rw [this]
theorem closeBs_flatq (σ : Nat → Option OC) : ∀ q : List (Value × List Value), closeBs σ (flat (lvq q)) = flat (lvq q)
  | [] => rfl
  | p :: q => by have := closeBs_flatq σ q; simp only [lvq, List.map_cons, flat, closeBs, closeB] at this ⊢; rw [this]
theorem toAs_flatq (σ : Nat → Option OC) (is : List Nat) : ∀ q : List (Value × List Value), toAs σ is (flat (lvq q)) = flat (lvq q)
  | [] => rfl
  | p :: q => by have := toAs_flatq σ is q; simp only [lvq, List.map_cons, flat, toAs, toA] at this ⊢; rw [this]
theorem toMs_flatq (σ : Nat → Option OC) (is : List Nat) : ∀ q : List (Value × List Value), toMs σ is (flat (lvq q)) = flat (lvq q)
  | [] => rfl
  | p :: q => by have := toMs_flatq σ is q; simp only [lvq, List.map_cons, flat, toMs, toM] at this ⊢; rw [this]
attribute [go_sem] Option.filter_none kills_flatq rens_flatq closeAs_flatq closeBs_flatq toAs_flatq toMs_flatq
end Go.Proofs.YtcjhojdlfnpgjaaGreat
