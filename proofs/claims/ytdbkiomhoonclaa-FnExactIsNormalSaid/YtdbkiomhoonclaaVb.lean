/- A calculus of verification conditions over logical values: objects of the call's own, states, and what an operation, a list of operations and a piece of code do to them. -/
import Derived.Test.YtdbkiomhoonclaaVa
import Derived.Deep.LoopGhost
namespace Go.Proofs.Ytdbkiomhoonclaa
open Go.RowKit
set_option linter.unusedVariables false
set_option linter.unusedSimpArgs false

inductive OC where
  | cells (t : Nat) (l : List LV)
  | row (e : Nat) (vs : List Value)
  | rowL (e : Nat) (l : List LV)
  | rows (e e' : Nat) (t : List (List Value))
  | hole (e e' : Nat) (t : List (List Value)) (i : Nat) (j : Option Nat)
  | late (e : Nat) (vs : List Value)
  deriving Inhabited

def killO (q : Nat → Bool) : OC → OC
  | .cells t l => .cells t (kills q l)
  | .rowL e l => .rowL e (kills q l)
  | .hole e e' t i j => .hole e e' t i (j.filter fun k => !q k)
  | o => o

/-- Rows of the call's own that are the elements of a row: no two in one block. -/
def OwnAll (w : World) (base e : Nat) (fp : Nat → Prop) : List (List Value) → List Value → Prop
  | [], hs => hs = []
  | r :: t, hs => ∃ h hs', hs = h :: hs' ∧ w.ownsRow base e 1 h r.length r ∧ (∀ k, h.ownBlock = some k → fp k) ∧ OwnAll w base e (fun k => fp k ∧ h.ownBlock ≠ some k) t hs'

def ORel (ι : Nat → Option Value) (F : Nat → Prop) (w : World) (base : Nat) (fp : Nat → Prop) (id : Nat) : OC → Prop
  | .cells t l => ∃ b ys, ι id = some (.pointer (some ⟨b, 0, none⟩)) ∧ base ≤ b ∧ (∀ k, fp k ↔ k = b) ∧ w.heap[b]? = some (.cells (List.toArray ys) t (0, 0)) ∧ LRels ι F w l ys
  | .row e vs => ∃ v, ι id = some v ∧ w.ownsRow base e 1 v vs.length vs ∧ (∀ k, fp k ↔ v.ownBlock = some k)
  | .rowL e l => ∃ v ys, ι id = some v ∧ w.ownsRow base e 1 v ys.length ys ∧ (∀ k, fp k ↔ v.ownBlock = some k) ∧ LRels ι F w l ys
  | .rows e e' t => ∃ v hs, ι id = some v ∧ w.ownsRow base e 1 v hs.length hs ∧ (∀ k, v.ownBlock = some k → fp k) ∧ OwnAll w base e' (fun k => fp k ∧ v.ownBlock ≠ some k) t hs ∧ (∀ k, fp k → base ≤ k ∧ k < w.heap.size)
  | .hole e e' t i jo => ∃ v hs y, ι id = some v ∧ w.ownsRow base e 1 v hs.length hs ∧ (∀ k, v.ownBlock = some k → fp k) ∧ OwnAll w base e' (fun k => fp k ∧ v.ownBlock ≠ some k) (t.set i []) (hs.set i (.slice none 0 0)) ∧ (∀ k, fp k → base ≤ k ∧ k < w.heap.size) ∧ hs[i]? = some y ∧ ∀ j, jo = some j → ι j = some y
  | .late e vs => (ι id = some (.bool false) ∧ ∀ k, ¬ fp k) ∨ (∃ v, ι id = some v ∧ w.ownsRow base e 1 v vs.length vs ∧ (∀ k, fp k ↔ v.ownBlock = some k)) ∨ ∃ b, ι id = some (.pointer (some ⟨b, 0, none⟩)) ∧ base ≤ b ∧ (∀ k, fp k ↔ k = b) ∧ w.heap[b]? = some (.cells (List.toArray vs) e (0, 0))

structure St where
  lf : Nat → LV
  σ : Nat → Option OC

def FF (σ : Nat → Option OC) (fp : Nat → Nat → Prop) (k : Nat) : Prop := ∃ id oc, σ id = some oc ∧ fp id k

/-- Where a call began: its world; the blocks that were handed to it as its own; what refers to them. -/
structure Base where
  w : World
  B : Nat → Prop
  fix : Nat → Option Value
  hi : ∀ id, 16 ≤ id → fix id = none

/-- What was there when the call began, but what was handed to it, is as it was. -/
structure Kept (b : Base) (w : World) : Prop where
  os : w.os = b.w.os
  tape : w.tape = b.w.tape
  output : w.output = b.w.output
  size : b.w.heap.size ≤ w.heap.size
  block : ∀ k, k < b.w.heap.size → ¬ b.B k → w.heap[k]? = b.w.heap[k]?

structure Inv (w0 : Base) (w : World) (ι : Nat → Option Value) (fp : Nat → Nat → Prop) (s : St) (f : Nat → Value) : Prop where
  fr : ∀ i, LRel ι (FF s.σ fp) w (s.lf i) (f i)
  ob : ∀ id oc, s.σ id = some oc → ORel ι (FF s.σ fp) w 0 (fp id) id oc
  dis : ∀ id id' oc oc' k, s.σ id = some oc → s.σ id' = some oc' → fp id k → fp id' k → id = id'
  bel : Kept w0 w
  low : ∀ k, FF s.σ fp k → w0.w.heap.size ≤ k ∨ w0.B k
  fix : ∀ id v, w0.fix id = some v → ι id = some v

def updL (f : Nat → LV) (d : Nat) (x : LV) : Nat → LV := fun i => if i = d then x else f i
def updV (f : Nat → Value) (d : Nat) (x : Value) : Nat → Value := fun i => if i = d then x else f i
def St.put (s : St) : Option Tmp → LV → St
  | some d, x => ⟨updL s.lf d x, s.σ⟩
  | none, _ => s
def putV (f : Nat → Value) : Option Tmp → Value → Nat → Value
  | some d, x => updV f d x
  | none, _ => f
def evL (s : St) : Operand → LV
  | .tmp t => s.lf t
  | .const v => .v v
  | .global g => .v (.pointer (some ⟨g, 0, none⟩))
  | .func g => .fn g []
def evV (f : Nat → Value) : Operand → Value
  | .tmp t => f t
  | .const v => v
  | .global g => .pointer (some ⟨g, 0, none⟩)
  | .func g => .func (.func g) #[] #[]

structure FR (n : Nat) (f : Nat → Value) (a : Act) : Prop where
  size : a.tmps.size = n
  defers : a.defers = []
  val : ∀ i, a.tmps.getD i undef = f i

theorem FR.eval {n : Nat} {f : Nat → Value} {a : Act} (h : FR n f a) : a.eval = evV f := by
  funext x
  cases x with
  | tmp t => exact h.val t
  | _ => rfl

theorem FR.put {n : Nat} {f : Nat → Value} {a : Act} (h : FR n f a) (dst : Option Tmp) (hd : ∀ d, dst = some d → d < n) (v : Value) : FR n (putV f dst v) (a.put dst v) := by
  cases dst with
  | none => exact h
  | some d =>
    have hlt := hd d rfl
    refine ⟨by simp [Act.put, h.size], h.defers, fun i => ?_⟩
    have hv := h.val i
    simp only [Act.put, putV, updV, Array.getD_eq_getD_getElem?] at *
    by_cases e : i = d
    · subst e
      rw [if_pos rfl, Array.getElem?_setIfInBounds_self, if_pos (by rw [h.size]; exact hlt)]
      rfl
    · rw [if_neg e, Array.getElem?_setIfInBounds_ne (Ne.symm e)]
      exact hv

theorem Inv.put {w0 : Base} {w : World} {ι : Nat → Option Value} {fp : Nat → Nat → Prop} {s : St} {f : Nat → Value} (h : Inv w0 w ι fp s f) (dst : Option Tmp) {x : LV} {v : Value} (hx : LRel ι (FF s.σ fp) w x v) : Inv w0 w ι fp (s.put dst x) (putV f dst v) := by
  cases dst with
  | none => exact h
  | some d =>
    refine ⟨fun i => ?_, h.ob, h.dis, h.bel, h.low, h.fix⟩
    show LRel ι (FF s.σ fp) w (updL s.lf d x i) (updV f d v i)
    unfold updL updV
    by_cases e : i = d
    · rw [if_pos e, if_pos e]; exact hx
    · rw [if_neg e, if_neg e]; exact h.fr i

theorem Inv.ev {w0 : Base} {w : World} {ι : Nat → Option Value} {fp : Nat → Nat → Prop} {s : St} {f : Nat → Value} (h : Inv w0 w ι fp s f) (x : Operand) : LRel ι (FF s.σ fp) w (evL s x) (evV f x) := by
  cases x with
  | tmp t => exact h.fr t
  | func g => simp only [evL, evV, LRel, LRels]; exact ⟨[], rfl, rfl⟩
  | _ => simp only [evL, evV, LRel]

/-- What an operation comes to. -/
inductive Out (P : Program) (w0 : Base) (f : Nat → Value) (K : LV → St → Prop) : Result Next → Prop
  | value (r : LV) (s : St) (v : Value) (w : World) (ι : Nat → Option Value) (fp : Nat → Nat → Prop) (hI : Inv w0 w ι fp s f) (hr : LRel ι (FF s.σ fp) w r v) (hK : K r s) : Out P w0 f K (.ok (.value v) w)
  | skip (s : St) (w : World) (ι : Nat → Option Value) (fp : Nat → Nat → Prop) (hI : Inv w0 w ι fp s f) (hK : K .junk s) : Out P w0 f K (.ok .skip w)
  | enter (g : FuncId) (args : Array Value) (w : World) (hc : Calls P g args w fun e w' => ∃ r s v ι fp, e = .returned v ∧ Inv w0 w' ι fp s f ∧ LRel ι (FF s.σ fp) w' r v ∧ K r s) : Out P w0 f K (.ok (.enter g args) w)

def OpT (P : Program) (o : Oper) (s : St) (K : LV → St → Prop) : Prop :=
  ∀ w0 w ι fp f, Inv w0 w ι fp s f → Out P w0 f K ((execOp (evV f) o).run P w)

/-- The frames' part, behind an operation. -/
def After (n : Nat) (w0 : Base) (K : St → Prop) (a : Act) (w : World) : Prop := ∃ s f ι fp, FR n f a ∧ Inv w0 w ι fp s f ∧ K s

theorem OpT.wp {P : Program} {o : Oper} {s : St} {K : LV → St → Prop} (h : OpT P o s K) {n : Nat} (hd : ∀ d, o.dst = some d → d < n) {w0 : Base} {w : World} {ι : Nat → Option Value} {fp : Nat → Nat → Prop} {f : Nat → Value} {a : Act} (hf : FR n f a) (hI : Inv w0 w ι fp s f)
    {next : Act → World → Prop} {Q : Exit → Act → World → Prop} (hn : ∀ a' w', After n w0 (fun s' => ∃ r s1, K r s1 ∧ s' = s1.put o.dst r) a' w' → next a' w') : o.wp P a w next Q := by
  have H := h w0 w ι fp f hI
  unfold Oper.wp
  rw [hf.eval]
  generalize (execOp (evV f) o).run P w = R at H
  cases H with
  | value r s1 v w1 ι1 fp1 hI1 hr hK =>
    rw [Oper.upon_value]
    exact hn _ _ ⟨_, _, _, _, hf.put o.dst hd v, hI1.put o.dst hr, r, s1, hK, rfl⟩
  | skip s1 w1 ι1 fp1 hI1 hK =>
    rw [Oper.upon_skip]
    exact hn _ _ ⟨_, _, _, _, hf.put o.dst hd undef, hI1.put o.dst (by simp only [LRel]), .junk, s1, hK, rfl⟩
  | enter g args w1 hc =>
    rw [Oper.upon_enter]
    refine hc.mono ?_
    rintro e w2 ⟨r, s1, v, ι1, fp1, rfl, hI1, hr, hK⟩
    exact hn _ _ ⟨_, _, _, _, hf.put o.dst hd v, hI1.put o.dst hr, r, s1, hK, rfl⟩

/-- A list of operations ('all': the whole region, for the guards). -/
def OpsT (P : Program) (all : Array Oper) (n : Nat) (l : List Oper) (s : St) (K : St → Prop) : Prop :=
  ∀ w0 w ι fp f a Q, FR n f a → Inv w0 w ι fp s f → (∀ a' w', After n w0 K a' w' → Q .normal a' w') → wpList P all Q l a w

theorem OpsT.nil {P : Program} {all : Array Oper} {n : Nat} {s : St} {K : St → Prop} (h : K s) : OpsT P all n [] s K :=
  fun _ _ _ _ _ _ _ hf hI hQ => hQ _ _ ⟨_, _, _, _, hf, hI, h⟩

theorem OpsT.mono {P : Program} {all : Array Oper} {n : Nat} {l : List Oper} {s : St} {K K' : St → Prop} (h : OpsT P all n l s K) (hk : ∀ s, K s → K' s) : OpsT P all n l s K' :=
  fun w0 w ι fp f a Q hf hI hQ => h w0 w ι fp f a Q hf hI fun a' w' ⟨s1, f1, ι1, fp1, h1, h2, h3⟩ => hQ _ _ ⟨s1, f1, ι1, fp1, h1, h2, hk _ h3⟩

theorem OpsT.cons {P : Program} {all : Array Oper} {n : Nat} {o : Oper} {l : List Oper} {s : St} {K : St → Prop} (hg : o.guard = none) (hd : ∀ d, o.dst = some d → d < n)
    (h : OpT P o s fun r s' => OpsT P all n l (s'.put o.dst r) K) : OpsT P all n (o :: l) s K := by
  intro w0 w ι fp f a Q hf hI hQ
  refine wpList_plain hg fun K' hK' => h.wp hd hf hI ?_
  rintro a' w' ⟨s1, f1, ι1, fp1, hf1, hI1, r, s2, hK, rfl⟩
  exact hK' _ _ (hK w0 w' ι1 fp1 f1 a' Q hf1 hI1 hQ)

/-- The slot of a guard. -/
def slotOf (all : Array Oper) (j : Nat) : Nat := ((all[j]?).bind (·.dst)).getD 0

theorem yielded_of {n : Nat} {f : Nat → Value} {a : Act} (hf : FR n f a) (all : Array Oper) (j d : Nat) (hj : (all[j]?).bind (·.dst) = some d) (hd : d < n) :
    yielded all a.tmps j = match f d with | .bool b => some b | _ => none := by
  unfold yielded
  rw [hj]
  have hs : d < a.tmps.size := by rw [hf.size]; exact hd
  have hv := hf.val d
  simp only [Array.getD_eq_getD_getElem?, Array.getElem?_eq_getElem hs, Option.getD_some] at hv
  simp only [Option.bind_some, Array.getElem?_eq_getElem hs, hv]
  cases f d <;> rfl

theorem OpsT.guarded {P : Program} {all : Array Oper} {n : Nat} {o : Oper} {l : List Oper} {s : St} {K : St → Prop} {j d : Nat} {want : Bool} (hg : o.guard = some (j, want)) (hd : ∀ d, o.dst = some d → d < n)
    (hj : (all[j]?).bind (·.dst) = some d) (hdn : d < n) {t : Bool} (ht : s.lf d = .v (.bool t))
    (h1 : t = want → OpT P o s fun r s' => OpsT P all n l (s'.put o.dst r) K) (h2 : ¬ t = want → OpsT P all n l (s.put o.dst (.v undef)) K) : OpsT P all n (o :: l) s K := by
  intro w0 w ι fp f a Q hf hI hQ
  have hv := hI.fr d
  rw [ht] at hv
  simp only [LRel] at hv
  have hy := yielded_of hf all j d hj hdn
  rw [hv] at hy
  refine wpList_step fun K' hK' => ?_
  by_cases e : t = want
  · have hw : Region.wanted o (yielded all a.tmps) = true := by simp [Region.wanted, hg, hy, e]
    rw [if_pos hw]
    refine (h1 e).wp hd hf hI ?_
    rintro a' w' ⟨s1, f1, ι1, fp1, hf1, hI1, r, s2, hK, rfl⟩
    exact hK' _ _ (hK w0 w' ι1 fp1 f1 a' Q hf1 hI1 hQ)
  · have hw : Region.wanted o (yielded all a.tmps) = false := by simp [Region.wanted, hg, hy, e]
    rw [if_neg (by rw [hw]; decide)]
    exact hK' _ _ (h2 e w0 w ι fp _ _ Q (hf.put o.dst hd undef) (hI.put o.dst (by simp only [LRel])) hQ)

theorem OpsT.off {P : Program} {all : Array Oper} {n : Nat} {o : Oper} {l : List Oper} {s : St} {K : St → Prop} {j d : Nat} {want : Bool} (hg : o.guard = some (j, want)) (hd : ∀ d, o.dst = some d → d < n)
    (hj : (all[j]?).bind (·.dst) = some d) (hdn : d < n) (ht : s.lf d = .v undef) (h2 : OpsT P all n l (s.put o.dst (.v undef)) K) : OpsT P all n (o :: l) s K := by
  intro w0 w ι fp f a Q hf hI hQ
  have hv := hI.fr d
  rw [ht] at hv
  simp only [LRel] at hv
  have hy := yielded_of hf all j d hj hdn
  rw [hv] at hy
  refine wpList_step fun K' hK' => ?_
  have hw : Region.wanted o (yielded all a.tmps) = false := by simp [Region.wanted, hg, hy, undef]
  rw [if_neg (by rw [hw]; decide)]
  exact hK' _ _ (h2 w0 w ι fp _ _ Q (hf.put o.dst hd undef) (hI.put o.dst (by simp only [LRel])) hQ)

/-! ### Code -/
def Post (n : Nat) (w0 : Base) (N : St → Prop) (X : Nat → St → Prop) (R : St → Prop) : Exit → Act → World → Prop
  | .normal, a, w => After n w0 N a w
  | .exit j, a, w => After n w0 (X j) a w
  | .ret, a, w => After n w0 R a w
  | _, _, _ => False

def CodeT (P : Program) (n : Nat) (c : Code) (s : St) (N : St → Prop) (X : Nat → St → Prop) (R : St → Prop) : Prop :=
  ∀ w0 w ι fp f a, FR n f a → Inv w0 w ι fp s f → c.wp P (Post n w0 N X R) a w

theorem After.mono {n : Nat} {w0 : Base} {K K' : St → Prop} {a : Act} {w : World} (h : After n w0 K a w) (hk : ∀ s, K s → K' s) : After n w0 K' a w :=
  let ⟨s, f, ι, fp, h1, h2, h3⟩ := h
  ⟨s, f, ι, fp, h1, h2, hk _ h3⟩

section
variable {P : Program} {n : Nat} {s : St} {N : St → Prop} {X : Nat → St → Prop} {R : St → Prop}

theorem CodeT.skip (h : N s) : CodeT P n .skip s N X R := fun _ _ _ _ _ _ hf hI => wp_skip ⟨_, _, _, _, hf, hI, h⟩
theorem CodeT.exit {id : Nat} (h : X id s) : CodeT P n (.exit id) s N X R := fun _ _ _ _ _ _ hf hI => wp_exit ⟨_, _, _, _, hf, hI, h⟩
theorem CodeT.ret (h : R s) : CodeT P n .ret s N X R := fun _ _ _ _ _ _ hf hI => wp_ret ⟨_, _, _, _, hf, hI, h⟩

theorem CodeT.mono {c : Code} {N' : St → Prop} {X' : Nat → St → Prop} {R' : St → Prop} (h : CodeT P n c s N X R) (hN : ∀ s, N s → N' s) (hX : ∀ j s, X j s → X' j s) (hR : ∀ s, R s → R' s) : CodeT P n c s N' X' R' :=
  fun w0 w ι fp f a hf hI => Code.wp_mono (fun e a w q => by
    cases e <;> simp only [Post] at q ⊢
    · exact q.mono hN
    · exact q.mono (hX _)
    · exact q.mono hR) (h w0 w ι fp f a hf hI)

theorem CodeT.seq {x y : Code} (h : CodeT P n x s (fun s' => CodeT P n y s' N X R) X R) : CodeT P n (.seq x y) s N X R :=
  fun w0 w ι fp f a hf hI => wp_seq (Code.wp_mono (fun e a w q => by
    cases e <;> simp only [Post, Exit.then] at q ⊢ <;> try exact q
    obtain ⟨s1, f1, ι1, fp1, h1, h2, h3⟩ := q
    exact h3 _ _ _ _ _ _ h1 h2) (h w0 w ι fp f a hf hI))

theorem CodeT.cond {c : Operand} {x y : Code} {t : Bool} (hc : evL s c = .v (.bool t)) (h1 : t = true → CodeT P n x s N X R) (h2 : t = false → CodeT P n y s N X R) : CodeT P n (.cond c x y) s N X R := by
  intro w0 w ι fp f a hf hI
  have hv := hI.ev c
  rw [hc] at hv
  simp only [LRel] at hv
  refine wp_cond (t := t) (by rw [hf.eval]; exact hv) ?_
  cases t with
  | true => exact h1 rfl w0 w ι fp f a hf hI
  | false => exact h2 rfl w0 w ι fp f a hf hI

def inX (id : Nat) (N : St → Prop) (X : Nat → St → Prop) : Nat → St → Prop := fun j s => if j = id then N s else X j s

theorem CodeT.block {id : Nat} {c : Code} (h : CodeT P n c s N (inX id N X) R) : CodeT P n (.block id c) s N X R :=
  fun w0 w ι fp f a hf hI => wp_block (Code.wp_mono (fun e a w q => by
    cases e <;> simp only [Post, Exit.inBlock] at q ⊢ <;> try exact q
    rename_i j
    unfold inX at q
    by_cases e : j = id
    · rw [if_pos e]
      exact q.mono (fun s hs => by rwa [if_pos e] at hs)
    · rw [if_neg e]
      exact q.mono (fun s hs => by rwa [if_neg e] at hs)) (h w0 w ι fp f a hf hI))

theorem CodeT.region {id : Nat} {ops : List Oper} (h : OpsT P ops.toArray n ops s N) : CodeT P n (.region id ops.toArray false) s N X R :=
  fun w0 w ι fp f a hf hI => wp_region_lit (h w0 w ι fp f a _ hf hI fun _ _ q => q)

/-- What of a state is kept at a loop's head. -/
def mkF : List (Nat × LV) → Nat → LV
  | [], _ => .junk
  | (i, x) :: l, j => if j = i then x else mkF l j
def mkO : List (Nat × OC) → Nat → Option OC
  | [], _ => none
  | (i, x) :: l, j => if j = i then some x else mkO l j
def mkS (l : List (Nat × LV)) (o : List (Nat × OC)) : St := ⟨mkF l, mkO o⟩

/-- A state that tells less. -/
structure Le (s s' : St) : Prop where
  lf : ∀ i, s'.lf i = .junk ∨ s'.lf i = s.lf i
  σ : ∀ i, s'.σ i = none ∨ s'.σ i = s.σ i

theorem Inv.le {w0 : Base} {w : World} {ι : Nat → Option Value} {fp : Nat → Nat → Prop} {s s' : St} {f : Nat → Value} (h : Inv w0 w ι fp s f) (hle : Le s s') : Inv w0 w ι fp s' f := by
  have hs : ∀ i oc, s'.σ i = some oc → s.σ i = some oc := fun i oc hi => by
    rcases hle.σ i with h0 | h0
    · rw [h0] at hi; cases hi
    · rw [← h0]; exact hi
  have hF : ∀ k, FF s'.σ fp k → FF s.σ fp k := fun k ⟨id, oc, h1, h2⟩ => ⟨id, oc, hs _ _ h1, h2⟩
  have hk : Keeps (FF s.σ fp) (FF s'.σ fp) w w := fun p u hp hc => ⟨hc, fun hq => hp (hF _ hq)⟩
  refine ⟨fun i => ?_, fun id oc hi => ?_, fun id id' oc oc' k h1 h2 => h.dis id id' oc oc' k (hs _ _ h1) (hs _ _ h2), h.bel, fun k hk => h.low k (hF k hk), h.fix⟩
  · rcases hle.lf i with h0 | h0
    · rw [h0]; simp only [LRel]
    · rw [h0]; exact (h.fr i).keeps (fun _ _ e => e) hk
  · have ho := h.ob id oc (hs _ _ hi)
    cases oc with
    | cells t l =>
      obtain ⟨b, ys, h1, h2, h3, h4, h5⟩ := ho
      exact ⟨b, ys, h1, h2, h3, h4, h5.keeps (fun _ _ e => e) hk⟩
    | row e vs => exact ho
    | rowL e l =>
      obtain ⟨v, ys, h1, h2, h3, h4⟩ := ho
      exact ⟨v, ys, h1, h2, h3, h4.keeps (fun _ _ e => e) hk⟩
    | rows e e' t => exact ho
    | hole e e' t i j => exact ho
    | late e vs => exact ho

theorem CodeT.le {c : Code} {s' : St} (hle : Le s s') (h : CodeT P n c s' N X R) : CodeT P n c s N X R :=
  fun w0 w ι fp f a hf hI => h w0 w ι fp f a hf (hI.le hle)

theorem CodeT.loop {c : Code} (I : Nat → St → Prop) (m : Nat) (h0 : ∃ s', Le s s' ∧ I m s')
    (round : ∀ m s, I m s → CodeT P n c s (fun s' => ∃ s'' m', m' < m ∧ Le s' s'' ∧ I m' s'') X R) : CodeT P n (.loop c) s N X R := by
  intro w0 w ι fp f a hf hI
  obtain ⟨s1, hle, hi⟩ := h0
  refine wp_loop_ghost (fun m a w => ∃ s ι fp f, I m s ∧ FR n f a ∧ Inv w0 w ι fp s f) m ⟨s1, ι, fp, f, hi, hf, hI.le hle⟩ ?_
  rintro m a w ⟨s, ι, fp, f, hi, hf, hI⟩
  refine Code.wp_mono (fun e a w q => ?_) (round m s hi w0 w ι fp f a hf hI)
  cases e <;> simp only [Post, Exit.then] at q ⊢ <;> try exact q
  obtain ⟨s2, f2, ι2, fp2, h1, h2, s3, m', hm, hle', hi'⟩ := q
  exact ⟨m', hm, s3, ι2, fp2, f2, hi', h1, h2.le hle'⟩
end
end Go.Proofs.Ytdbkiomhoonclaa
