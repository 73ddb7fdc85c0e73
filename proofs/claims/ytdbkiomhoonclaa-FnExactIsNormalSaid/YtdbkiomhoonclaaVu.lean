/- A calculus of verification conditions over logical values: the walk through regions whose order is drawn, where rows are made. -/
import Derived.Test.YtdbkiomhoonclaaVs
namespace Go.Proofs.Ytdbkiomhoonclaa
open Go.RowKit
set_option linter.unusedVariables false
set_option linter.unusedSimpArgs false

mutual
theorem ment_kill {id : Nat} : ∀ x : LV, ment id (kill (fun j => j == id) x) = false
  | .rdL l => by simp only [kill, ment, ments_kill l]
  | .agg l => by simp only [kill, ment, ments_kill l]
  | .tup l => by simp only [kill, ment, ments_kill l]
  | .box l => by simp only [kill, ment, ments_kill l]
  | .rdA _ l => by simp only [kill, ment, ments_kill l]
  | .pc x => by simp only [kill, ment, ment_kill x]
  | .own j => by simp only [kill]; by_cases h : j = id <;> simp [ment, h]
  | .ptr j _ => by simp only [kill]; by_cases h : j = id <;> simp [ment, h]
  | .pe j _ => by simp only [kill]; by_cases h : j = id <;> simp [ment, h]
  | .sub j _ _ => by simp only [kill]; by_cases h : j = id <;> simp [ment, h]
  | .fn _ caps => by simp only [kill, ment, ments_kill caps]
  | .v _ => by simp only [kill, ment]
  | .junk => by simp only [kill, ment]
  | .rd _ => by simp only [kill, ment]
  | .rds _ => by simp only [kill, ment]
theorem ments_kill {id : Nat} : ∀ l : List LV, ments id (kills (fun j => j == id) l) = false
  | [] => by simp only [kills, ments]
  | x :: l => by simp only [kills, ments, ment_kill x, ments_kill l, Bool.or_self]
end
mutual
theorem ment_kill2 {id id' : Nat} : ∀ {x : LV}, ment id x = false → ment id (kill (fun j => j == id') x) = false
  | .rdL l, h => by simp only [ment] at h; simp only [kill, ment, ments_kill2 h]
  | .agg l, h => by simp only [ment] at h; simp only [kill, ment, ments_kill2 h]
  | .tup l, h => by simp only [ment] at h; simp only [kill, ment, ments_kill2 h]
  | .box l, h => by simp only [ment] at h; simp only [kill, ment, ments_kill2 h]
  | .rdA _ l, h => by simp only [ment] at h; simp only [kill, ment, ments_kill2 h]
  | .pc x, h => by simp only [ment] at h; simp only [kill, ment, ment_kill2 h]
  | .own j, h => by simp only [ment] at h; simp only [kill]; by_cases q : j = id' <;> simp_all [ment]
  | .ptr j _, h => by simp only [ment] at h; simp only [kill]; by_cases q : j = id' <;> simp_all [ment]
  | .pe j _, h => by simp only [ment] at h; simp only [kill]; by_cases q : j = id' <;> simp_all [ment]
  | .sub j _ _, h => by simp only [ment] at h; simp only [kill]; by_cases q : j = id' <;> simp_all [ment]
  | .fn _ caps, h => by simp only [ment] at h; simp only [kill, ment, ments_kill2 h]
  | .v _, _ => by simp only [kill, ment]
  | .junk, _ => by simp only [kill, ment]
  | .rd _, _ => by simp only [kill, ment]
  | .rds _, _ => by simp only [kill, ment]
theorem ments_kill2 {id id' : Nat} : ∀ {l : List LV}, ments id l = false → ments id (kills (fun j => j == id') l) = false
  | [], _ => by simp only [kills, ments]
  | x :: l, h => by
    simp only [ments, Bool.or_eq_false_iff] at h
    simp only [kills, ments, ment_kill2 h.1, ments_kill2 h.2, Bool.or_self]
end
theorem mentO_kill {id : Nat} (oc : OC) : mentO id (killO (fun j => j == id) oc) = false := by
  cases oc with
  | cells t l => simp only [killO, mentO, ments_kill]
  | rowL t l => simp only [killO, mentO, ments_kill]
  | hole e e' t i j =>
    simp only [killO, mentO]
    cases j with
    | none => rfl
    | some j =>
      by_cases e : j = id
      · subst e; simp [Option.filter]
      · simp [Option.filter, e]
  | _ => rfl
theorem mentO_kill2 {id id' : Nat} {oc : OC} (h : mentO id oc = false) : mentO id (killO (fun j => j == id') oc) = false := by
  cases oc with
  | cells t l => simp only [mentO] at h; simp only [killO, mentO, ments_kill2 h]
  | rowL t l => simp only [mentO] at h; simp only [killO, mentO, ments_kill2 h]
  | hole e e' t i j =>
    simp only [killO, mentO] at h ⊢
    cases j with
    | none => rfl
    | some j =>
      by_cases e : j = id'
      · subst e; simp [Option.filter]
      · simpa [Option.filter, e] using h
  | _ => rfl

def Awaits (s : St) (id : Nat) : Prop := 16 ≤ id ∧ (∀ t, ment id (s.lf t) = false) ∧ (∀ j oc, s.σ j = some oc → j ≠ id → mentO id oc = false) ∧ ∃ e vs, s.σ id = some (.late e vs)
theorem Awaits.new (s : St) {id e : Nat} {vs : List Value} (hid : 16 ≤ id) : Awaits (s.late id e vs) id := by
  refine ⟨hid, fun t => ment_kill _, fun j oc hj hne => ?_, ⟨e, vs, by simp only [St.late, if_true]⟩⟩
  simp only [St.late, if_neg hne] at hj
  cases hs : s.σ j with
  | none => rw [hs] at hj; cases hj
  | some o => rw [hs] at hj; simp only [Option.map_some, Option.some.injEq] at hj; subst hj; exact mentO_kill o
theorem Awaits.keep {s : St} {id id' e : Nat} {vs : List Value} (h : Awaits s id) (hne : id ≠ id') : Awaits (s.late id' e vs) id := by
  obtain ⟨h0, h1, h2, e0, vs0, h3⟩ := h
  refine ⟨h0, fun t => ment_kill2 (h1 t), fun j oc hj hne' => ?_, ⟨e0, vs0, by simp only [St.late, if_neg hne, h3, Option.map_some, killO]⟩⟩
  by_cases q : j = id'
  · subst q
    simp only [St.late, if_true, Option.some.injEq] at hj
    subst hj
    rfl
  · simp only [St.late, if_neg q] at hj
    cases hs : s.σ j with
    | none => rw [hs] at hj; cases hj
    | some o => rw [hs] at hj; simp only [Option.map_some, Option.some.injEq] at hj; subst hj; exact mentO_kill2 (h2 j o hs hne')

def St.lates (s : St) : List Birth → St
  | [] => s
  | b :: B => (s.late b.id b.e b.vs).lates B
theorem lates_ok : ∀ (B : List Birth) (s : St), (∀ b ∈ B, 16 ≤ b.id) → (B.map (·.id)).Nodup → Conv s (s.lates B) ∧ (∀ b ∈ B, Awaits (s.lates B) b.id) ∧ ∀ id, Awaits s id → id ∉ B.map (·.id) → Awaits (s.lates B) id
  | [], s, _, _ => ⟨fun _ _ ι fp _ hI => ⟨ι, fp, hI⟩, fun b hb => (List.not_mem_nil hb).elim, fun id h _ => h⟩
  | b :: B, s, h16, hnd => by
    simp only [List.map_cons, List.nodup_cons] at hnd
    have hb := h16 b (List.mem_cons_self ..)
    obtain ⟨h1, h2, h3⟩ := lates_ok B (s.late b.id b.e b.vs) (fun b' hb' => h16 b' (List.mem_cons_of_mem _ hb')) hnd.2
    refine ⟨(Conv.late s b.id b.e b.vs hb).trans h1, fun b' hb' => ?_, fun id hid hni => ?_⟩
    · rcases List.mem_cons.1 hb' with rfl | hb'
      · exact h3 _ (Awaits.new s hb) hnd.1
      · exact h2 b' hb'
    · simp only [List.map_cons, List.mem_cons, not_or] at hni
      exact h3 id (hid.keep hni.1) hni.2

section
variable {P : Program} {T : TT}
def inP (i : Nat) : List Nat → Prop
  | [] => False
  | j :: l => i = j ∨ inP i l
theorem inP_mem {i : Nat} : ∀ {l : List Nat}, inP i l → i ∈ l
  | [], h => h.elim
  | j :: l, h => h.elim (fun e => by rw [e]; exact List.mem_cons_self ..) fun h => List.mem_cons_of_mem _ (inP_mem h)
def okR : List Birth → Nat → LV → Prop
  | [], _, _ => True
  | b :: B, i, r => (ment b.id r = true → i = b.i ∨ inP i b.D) ∧ okR B i r
theorem okR_ok {i : Nat} {r : LV} : ∀ {B : List Birth}, okR B i r → okB B i r
  | [], _, b, hb, _ => by cases hb
  | b :: B, h, b', hb', hm => by
    rcases List.mem_cons.1 hb' with rfl | hb'
    · exact (h.1 hm).imp_right inP_mem
    · exact okR_ok h.2 b' hb' hm
/-- An operation that makes the row, or one that makes none. -/
def HereN (P : Program) (T : TT) (n : Nat) (B : List Birth) (i : Nat) (o : Oper) (l : List Oper) (s : St) (k : Kont) : Prop :=
  ∃ r, okB B i r ∧ (OpP P o (evL s) s.σ r ∨ o.dst.isSome = true ∧ ∃ b ∈ B, b.i = i ∧ r = bornL b.p b.id b.vs.length ∧ s.σ b.id = some (.late b.e b.vs) ∧ OpN P o (evL s) s.σ b.id b.e b.vs b.p) ∧ DrawN P T n B (i + 1) l (s.put o.dst r) k
theorem DrawN_nil {n : Nat} {B : List Birth} {i : Nat} {s : St} {k : Kont} : DrawN P T n B i [] s k = HereE P T n k s := by rw [DrawN]
/-- The walk's own form of it: by evaluation. -/
def DrawM (P : Program) (T : TT) (n : Nat) (B : List Birth) (i : Nat) : List Oper → St → Kont → Prop
  | [], s, k => HereE P T n k s
  | o :: l, s, k => o.guard = none ∧ match opE T o.op (evL s) s.σ with
    | .val p r => p ∧ okR B i r ∧ DrawM P T n B (i + 1) l (s.put o.dst r) k
    | .hard => HereN P T n B i o l s k
    | _ => False
theorem DrawM_nil {n : Nat} {B : List Birth} {i : Nat} {s : St} {k : Kont} : DrawM P T n B i [] s k = HereE P T n k s := by rw [DrawM]
theorem DrawM_cons {n : Nat} {B : List Birth} {i : Nat} {o : Oper} {l : List Oper} {s : St} {k : Kont} : DrawM P T n B i (o :: l) s k = (o.guard = none ∧ match opE T o.op (evL s) s.σ with
    | .val p r => p ∧ okR B i r ∧ DrawM P T n B (i + 1) l (s.put o.dst r) k
    | .hard => HereN P T n B i o l s k
    | _ => False) := by rw [DrawM]
theorem DrawM_ok {n : Nat} {B : List Birth} {k : Kont} : ∀ {l : List Oper} {i : Nat} {s : St}, DrawM P T n B i l s k → DrawN P T n B i l s k
  | [], i, s, h => by rw [DrawM_nil] at h; rw [DrawN_nil]; exact h
  | o :: l, i, s, h => by
    rw [DrawM_cons] at h
    unfold DrawN
    refine ⟨h.1, ?_⟩
    have h2 := h.2
    generalize opE T o.op (evL s) s.σ = R at h2
    cases R with
    | val p r => exact ⟨h2.1, okR_ok h2.2.1, DrawM_ok h2.2.2⟩
    | hard => exact h2
    | two t a b => exact h2.elim
    | bad => exact h2.elim
theorem HereN.op {n : Nat} {B : List Birth} {i : Nat} {o : Oper} {l : List Oper} {s : St} {k : Kont} {r : LV} (h : OpP P o (evL s) s.σ r) (hok : okR B i r) (h2 : DrawM P T n B (i + 1) l (s.put o.dst r) k) : HereN P T n B i o l s k := ⟨r, okR_ok hok, .inl h, DrawM_ok h2⟩
theorem HereN.birth {n : Nat} {B : List Birth} {i : Nat} {o : Oper} {l : List Oper} {s : St} {k : Kont} {id e : Nat} {vs : List Value} {D : List Nat} {p : Bool} (hb : (⟨i, id, e, vs, D, p⟩ : Birth) ∈ B) (hd : o.dst.isSome = true) (hσ : s.σ id = some (.late e vs)) (h : OpN P o (evL s) s.σ id e vs p) (hok : okR B i (bornL p id vs.length)) (h2 : DrawM P T n B (i + 1) l (s.put o.dst (bornL p id vs.length)) k) : HereN P T n B i o l s k :=
  ⟨_, okR_ok hok, .inr ⟨hd, _, hb, rfl, rfl, hσ, h⟩, DrawM_ok h2⟩
theorem HereE.of {n : Nat} {k : Kont} {s s' : St} (hc : Conv s s') (h : Norm P T n k s') : HereE P T n k s := ⟨s', hc, h⟩

theorem Here.drawB (hT : T.Ok P) {n id : Nat} {ops : Array Oper} {s : St} {k : Kont} (B : List Birth) (hm : P.follows .mixedOrders = true) (hd : drawOk ops = true)
    (hD : (B.all fun b => b.D.all fun j => match ops[j]? with | some o => o.after.any fun e => Region.binds .any e && (e.on == b.i || b.D.contains e.on) | none => false) = true)
    (h16 : ∀ b ∈ B, 16 ≤ b.id) (hnd : (B.map (·.id)).Nodup) (h : DrawM P T n B 0 ops.toList (s.lates B) k) : HereV P T n (.region id ops true) s k := by
  obtain ⟨h1, h2, _⟩ := lates_ok B s h16 hnd
  exact HereV.conv h1 (Here.drawN hT B hm hd hD (fun b hb => h2 b hb) (DrawM_ok h))
end
end Go.Proofs.Ytdbkiomhoonclaa
