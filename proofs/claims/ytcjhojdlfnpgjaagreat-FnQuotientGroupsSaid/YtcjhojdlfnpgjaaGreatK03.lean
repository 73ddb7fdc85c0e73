/- A calculus of verification conditions over logical values: regions whose order is drawn. -/
import Derived.Test.YtcjhojdlfnpgjaaGreatK02
import Derived.Orders
set_option linter.unusedVariables false
set_option linter.unusedSimpArgs false
set_option maxRecDepth 100000
namespace Go.Proofs.YtcjhojdlfnpgjaaGreat
open Go.RowKit
theorem OpP.call {P : Program} {o : Oper} {ρ : Operand → LV} {σ : Nat → Option OC} {fo : Operand} {as : Array Operand} {ts : Array TypeId} {g : Nat} {caps : List LV} {r : LV} {os : List OC} (ho : o.op = .call { callee := .value fo, args := as, argTypes := ts })
    (hf : ρ fo = .fn g caps) (hs : Spec P g (closeBs σ (as.toList.map ρ ++ caps)) r os) (hp : plainL r = true) : OpP P o ρ σ (closeA (osF os) r) := by
  intro w0 w ι fp s f hI hσ hx
  have hfo : evL s fo = .fn g caps := by rw [hx fo (by simp [ho, Op.operands, Call.operands]), hf]
  have has : as.toList.map (evL s) = as.toList.map ρ := List.map_congr_left fun x hm => hx x (by simp [ho, Op.operands, Call.operands]; right; simpa using hm)
  obtain ⟨cs, e, hc⟩ := call_args hfo (as := as) hI
  rw [hσ, has] at hc
  rw [run_call ho e hs.ent w]
  refine .enter _ _ _ ((hs.run w _ hc).mono ?_)
  rintro e w' ⟨v, ι2, fp2, rfl, hI2⟩
  refine ⟨_, s, v, ι, fp, rfl, hI.step hI2.bel.toBelow, ?_, rfl, rfl⟩
  have h0 := hI2.fr 0
  exact LRel.frozen hI2.ob (fun k hk hq => by have := (hI.lt k hq).2; have := (hI2.low k hk).resolve_right (fun q => q); simp only [Base.of] at this; omega) hp h0
def Conv (s s' : St) : Prop := ∀ (w0 : Base) (w : World) (ι : Nat → Option Value) (fp : Nat → Nat → Prop) (f : Nat → Value), Inv w0 w ι fp s f → ∃ ι' fp', Inv w0 w ι' fp' s' f
mutual
def ment (id : Nat) : LV → Bool
  | .rdL l => ments id l
  | .agg l => ments id l
  | .tup l => ments id l
  | .box l => ments id l
  | .rdA _ l => ments id l
  | .pc x => ment id x
  | .own j => j == id
  | .ptr j _ => j == id
  | .pe j _ => j == id
  | .sub j _ _ => j == id
  | .fn _ caps => ments id caps
  | .v _ => false
  | .junk => false
  | .rd _ => false
  | .rds _ => false
def ments (id : Nat) : List LV → Bool
  | [] => false
  | x :: l => ment id x || ments id l
end
mutual
theorem kill_ment {id : Nat} : ∀ {x : LV}, ment id x = false → kill (fun j => j == id) x = x
  | .rdL l, h => by simp only [ment] at h; simp only [kill, kills_ment h]
  | .agg l, h => by simp only [ment] at h; simp only [kill, kills_ment h]
  | .tup l, h => by simp only [ment] at h; simp only [kill, kills_ment h]
  | .box l, h => by simp only [ment] at h; simp only [kill, kills_ment h]
  | .rdA _ l, h => by simp only [ment] at h; simp only [kill, kills_ment h]
  | .pc x, h => by simp only [ment] at h; simp only [kill, kill_ment h]
  | .own j, h => by simp only [ment] at h; simp only [kill, h]; rfl
  | .ptr j _, h => by simp only [ment] at h; simp only [kill, h]; rfl
  | .pe j _, h => by simp only [ment] at h; simp only [kill, h]; rfl
  | .sub j _ _, h => by simp only [ment] at h; simp only [kill, h]; rfl
  | .fn _ caps, h => by simp only [ment] at h; simp only [kill, kills_ment h]
  | .v _, _ => by simp only [kill]
  | .junk, _ => by simp only [kill]
  | .rd _, _ => by simp only [kill]
  | .rds _, _ => by simp only [kill]
theorem kills_ment {id : Nat} : ∀ {l : List LV}, ments id l = false → kills (fun j => j == id) l = l
  | [], _ => by simp only [kills]
  | x :: l, h => by
    simp only [ments, Bool.or_eq_false_iff] at h
    simp only [kills, kill_ment h.1, kills_ment h.2]
end
def mentO (id : Nat) : OC → Bool
  | .cells _ l => ments id l
  | .rowL _ l => ments id l
  | .hole _ _ _ _ j => j == some id
  | .cust _ _ j => j == some id
  | _ => false
theorem killO_ment {id : Nat} {oc : OC} (h : mentO id oc = false) : killO (fun j => j == id) oc = oc := by
  cases oc with
  | cells t l => simp only [mentO] at h; simp only [killO, kills_ment h]
  | rowL t l => simp only [mentO] at h; simp only [killO, kills_ment h]
  | hole e e' t i j =>
    simp only [mentO, beq_eq_false_iff_ne, ne_eq] at h
    simp only [killO]
    cases j with
    | none => rfl
    | some j =>
      have : j ≠ id := fun e => h (by rw [e])
      simp [Option.filter, this]
  | cust A r j =>
    simp only [mentO, beq_eq_false_iff_ne, ne_eq] at h
    simp only [killO]
    cases j with
    | none => rfl
    | some j =>
      have : j ≠ id := fun e => h (by rw [e])
      simp [Option.filter, this]
  | _ => rfl
def bornL (p : Bool) (id n : Nat) : LV := match p with | true => .ptr id 0 | false => .sub id 0 n
theorem bornL_f (id n : Nat) : bornL false id n = .sub id 0 n := rfl
theorem bornL_t (id n : Nat) : bornL true id n = .ptr id 0 := rfl
def OpN (P : Program) (o : Oper) (ρ : Operand → LV) (σ : Nat → Option OC) (id e : Nat) (vs : List Value) (p : Bool := false) : Prop :=
  ∀ w0 w ι fp s f, Inv w0 w ι fp s f → s.σ = σ → (∀ x ∈ o.op.operands, evL s x = ρ x) → 16 ≤ id → σ id = some (.late e vs) → (∀ t, ment id (s.lf t) = false) → (∀ j oc, σ j = some oc → j ≠ id → mentO id oc = false) →
    Out P w0 f (fun r' s' => r' = bornL p id vs.length ∧ s' = s) ((execOp (evV f) o).run P w)
theorem Inv.birthG {w0 : Base} {w w' : World} {ι : Nat → Option Value} {fp : Nat → Nat → Prop} {s : St} {f : Nat → Value} (hI : Inv w0 w ι fp s f) {id e : Nat} {vs : List Value} {y : Value} {g : Nat → Prop} (hid : 16 ≤ id) (hσ : s.σ id = some (.late e vs)) (hl : ∀ t, ment id (s.lf t) = false)
    (ho : ∀ j oc, s.σ j = some oc → j ≠ id → mentO id oc = false) (hb : Below w.heap.size w w') (hown : ∀ ι F, ι id = some y → ORel ι F w' 0 g id (.late e vs)) (hnew : ∀ k, g k → w.heap.size ≤ k) :
    ∃ ι' fp', Inv w0 w' ι' fp' s f ∧ ι' id = some y := by
  have hF : ∀ k, FF s.σ (fun j => if j = id then g else fp j) k → w.heap.size ≤ k ∨ FF s.σ fp k := by
    rintro k ⟨j, oc, h1, h2⟩
    by_cases e : j = id
    · rw [if_pos e] at h2; exact .inl (hnew k h2)
    · rw [if_neg e] at h2; exact .inr ⟨j, oc, h1, h2⟩
  have hk : Keeps (FF s.σ fp) (FF s.σ (fun j => if j = id then g else fp j)) w w' := fun p u hp hc =>
    have hl := World.block_lt_of_cell? _ _ hc
    ⟨(hb.cell hl).trans hc, fun hq => by
      rcases hF _ hq with h | h
      · omega
      · exact hp h⟩
  have hι : ∀ j v, (j == id) = false → ι j = some v → (fun j => if j = id then some y else ι j) j = some v := fun j v hj h => by
    have : j ≠ id := by simpa using hj
    simp only [if_neg this]; exact h
  refine ⟨fun j => if j = id then some y else ι j, fun j => if j = id then g else fp j, ⟨fun t => ?_, fun j oc hj => ?_, fun j j' oc oc' k h1 h2 g1 g2 => ?_, hI.bel.below hb, fun k hk' => ?_, fun j v h => ?_⟩, by simp only [if_true]⟩
  · have := (hI.fr t).kills hι hk
    rwa [kill_ment (hl t)] at this
  · by_cases e : j = id
    · subst e
      rw [hσ] at hj
      cases hj
      simp only [if_true]
      exact hown _ _ (by simp only [if_true])
    · have h0 := hI.ob j oc hj
      have := h0.kills (q := fun j => j == id) (by simpa using e) hι hk hb.size fun k hk' => hb.block k (h0.lt k hk').2
      rw [killO_ment (ho j oc hj e)] at this
      simp only [if_neg e]
      exact this
  · by_cases e : j = id
    · by_cases e' : j' = id
      · rw [e, e']
      · simp only [if_pos e] at g1
        simp only [if_neg e'] at g2
        have := ((hI.ob j' oc' h2).lt k g2).2
        have := hnew k g1
        omega
    · by_cases e' : j' = id
      · simp only [if_neg e] at g1
        simp only [if_pos e'] at g2
        have := ((hI.ob j oc h1).lt k g1).2
        have := hnew k g2
        omega
      · simp only [if_neg e] at g1
        simp only [if_neg e'] at g2
        exact hI.dis _ _ _ _ k h1 h2 g1 g2
  · rcases hF k hk' with h | h
    · exact .inl (Nat.le_trans hI.bel.size h)
    · exact hI.low k h
  · have : j ≠ id := fun e => by rw [w0.hi j (by omega)] at h; cases h
    simp only [if_neg this]
    exact hI.fix j v h
theorem Inv.birth {w0 : Base} {w w' : World} {ι : Nat → Option Value} {fp : Nat → Nat → Prop} {s : St} {f : Nat → Value} (hI : Inv w0 w ι fp s f) {id e : Nat} {vs : List Value} {y : Value} (hid : 16 ≤ id) (hσ : s.σ id = some (.late e vs)) (hl : ∀ t, ment id (s.lf t) = false)
    (ho : ∀ j oc, s.σ j = some oc → j ≠ id → mentO id oc = false) (hb : Below w.heap.size w w') (hown : w'.ownsRow 0 e 1 y vs.length vs) (hnew : ∀ k, y.ownBlock = some k → w.heap.size ≤ k) :
    ∃ ι' fp', Inv w0 w' ι' fp' s f ∧ LRel ι' (FF s.σ fp') w' (.sub id 0 vs.length) y := by
  obtain ⟨ι', fp', h1, h2⟩ := hI.birthG (g := fun k => y.ownBlock = some k) hid hσ hl ho hb (fun ι F h => .inr (.inl ⟨y, h, hown, fun k => Iff.rfl⟩)) hnew
  refine ⟨ι', fp', h1, ?_⟩
  simp only [LRel, h2]
  rcases hown.2 with ⟨rfl, h0⟩ | ⟨g, cap, cur, rfl, _⟩
  · exact ⟨none, 0, 0, rfl, by omega, none, by rw [h0], fun _ => rfl, fun h => by omega⟩
  · exact ⟨_, _, _, rfl, by omega, _, rfl, fun _ => rfl, fun _ => ⟨g, rfl, rfl⟩⟩
def BirthOk (all : Array Oper) (s0 sn : St) (i id : Nat) : Prop :=
  16 ≤ id ∧ (∀ t, ment id (s0.lf t) = false) ∧ (∀ j oc, s0.σ j = some oc → j ≠ id → mentO id oc = false) ∧ (∃ e vs, s0.σ id = some (.late e vs)) ∧
  ∃ D : List Nat, (∀ j ∈ D, ∃ o, all[j]? = some o ∧ ∃ e ∈ o.after, Region.binds .any e = true ∧ (e.on = i ∨ e.on ∈ D)) ∧ ∀ (j : Nat) (o : Oper) (d : Nat), all[j]? = some o → j ≠ i → o.dst = some d → ment id (sn.lf d) = true → j ∈ D
def DrawV (P : Program) (T : TT) (n : Nat) (all : Array Oper) : List Oper → St → Kont → Prop
  | [], s, k => Norm P T n k s
  | o :: l, s, k => match o.guard with
    | none => match opE T o.op (evL s) s.σ with
      | .val p r => p ∧ DrawV P T n all l (s.put o.dst r) k
      | .two t a b => (t = true → DrawV P T n all l (s.put o.dst a) k) ∧ (t = false → DrawV P T n all l (s.put o.dst b) k)
      | .hard => ∃ r, OpP P o (evL s) s.σ r ∧ DrawV P T n all l (s.put o.dst r) k
      | .bad => False
    | some (j, want) => match s.lf (slotOf all j) with
      | .v (.bool t) => (t = want → match opE T o.op (evL s) s.σ with
          | .val p r => p ∧ DrawV P T n all l ((s.gput (slotOf all j) want).put o.dst r) k
          | .two t' a b => (t' = true → DrawV P T n all l ((s.gput (slotOf all j) want).put o.dst a) k) ∧ (t' = false → DrawV P T n all l ((s.gput (slotOf all j) want).put o.dst b) k)
          | .hard => ∃ r, OpP P o (evL s) s.σ r ∧ DrawV P T n all l ((s.gput (slotOf all j) want).put o.dst r) k
          | .bad => False) ∧
          (t = !want → DrawV P T n all l ((s.gput (slotOf all j) (!want)).put o.dst (.v undef)) k)
      | x => undefLike x = true ∧ DrawV P T n all l (s.put o.dst (.v undef)) k
inductive LexD (P : Program) (BP : Oper → Nat → Prop) (all : Array Oper) : List Oper → St → St → Prop
  | nil (s : St) : LexD P BP all [] s s
  | run (o : Oper) (l : List Oper) (s s' : St) (r : LV) (hw : ∀ j want, o.guard = some (j, want) → s.lf (slotOf all j) = .v (.bool want)) (h : OpP P o (evL s) s.σ r) (hl : LexD P BP all l (s.put o.dst r) s') : LexD P BP all (o :: l) s s'
  | skip (o : Oper) (l : List Oper) (s s' : St) (j : Nat) (want : Bool) (x : Value) (hg : o.guard = some (j, want)) (hx : s.lf (slotOf all j) = .v x) (hn : x ≠ .bool want) (hl : LexD P BP all l (s.put o.dst (.v undef)) s') : LexD P BP all (o :: l) s s'
  | birth (o : Oper) (l : List Oper) (s s' : St) (id e : Nat) (vs : List Value) (p : Bool) (hg : o.guard = none) (hb : BP o id) (h : OpN P o (evL s) s.σ id e vs p) (hσ : s.σ id = some (.late e vs)) (hl : LexD P BP all l (s.put o.dst (bornL p id vs.length)) s') : LexD P BP all (o :: l) s s'
theorem opE_opP {P : Program} {T : TT} (hT : T.Ok P) {o : Oper} {s : St} (hok : okTy T o.op = true) {p : Prop} {r : LV} (h : opE T o.op (evL s) s.σ = .val p r) (hp : p) : OpP P o (evL s) s.σ r := by
  obtain ⟨r', rfl, hP⟩ := opL_sound hT (opE_val (P := P) hok h hp)
  exact hP
theorem opE_opP2 {P : Program} {T : TT} (hT : T.Ok P) {o : Oper} {s : St} {t : Bool} {a b : LV} (h : opE T o.op (evL s) s.σ = .two t a b) : OpP P o (evL s) s.σ (if t then a else b) := by
  obtain ⟨r', rfl, hP⟩ := opL_sound hT (opE_two (P := P) h)
  exact hP
theorem DrawV_lex {P : Program} {T : TT} (hT : T.Ok P) {n : Nat} {all : Array Oper} {k : Kont} : ∀ {l : List Oper} {s : St}, l.all (okO T n all) = true → DrawV P T n all l s k → ∃ s', LexD P (fun _ _ => False) all l s s' ∧ Norm P T n k s'
  | [], s, _, h => ⟨s, .nil s, h⟩
  | o :: l, s, hall, h => by
    simp only [List.all_cons, Bool.and_eq_true] at hall
    have two : ∀ {t : Bool} {a b : LV} {s1 : St}, opE T o.op (evL s1) s1.σ = .two t a b → (∀ j want, o.guard = some (j, want) → s1.lf (slotOf all j) = .v (.bool want)) → (t = true → DrawV P T n all l (s1.put o.dst a) k) → (t = false → DrawV P T n all l (s1.put o.dst b) k) → ∃ s', LexD P (fun _ _ => False) all (o :: l) s1 s' ∧ Norm P T n k s' := by
      intro t a b s1 hr hw h1 h2
      have hP := opE_opP2 (P := P) hT hr
      cases t with
      | true => obtain ⟨s', g1, g2⟩ := DrawV_lex hT hall.2 (h1 rfl); exact ⟨s', .run o l s1 s' _ hw hP g1, g2⟩
      | false => obtain ⟨s', g1, g2⟩ := DrawV_lex hT hall.2 (h2 rfl); exact ⟨s', .run o l s1 s' _ hw hP g1, g2⟩
    unfold DrawV at h
    split at h
    · rename_i hg
      have hw : ∀ j want, o.guard = some (j, want) → s.lf (slotOf all j) = .v (.bool want) := fun j want e => by rw [hg] at e; cases e
      split at h
      · rename_i p r hr
        obtain ⟨s', g1, g2⟩ := DrawV_lex hT hall.2 h.2
        exact ⟨s', .run o l s s' r hw (opE_opP hT (okO_ty hall.1) hr h.1) g1, g2⟩
      · rename_i t a b hr; exact two hr hw h.1 h.2
      · obtain ⟨r, hP, h⟩ := h
        obtain ⟨s', g1, g2⟩ := DrawV_lex hT hall.2 h
        exact ⟨s', .run o l s s' r hw hP g1, g2⟩
      · exact h.elim
    · rename_i j want hg
      split at h
      · rename_i t ht
        by_cases e : t = want
        · have h1 := h.1 e
          subst e
          have hw : ∀ j' want', o.guard = some (j', want') → s.lf (slotOf all j') = .v (.bool want') := fun j' want' e => by rw [hg] at e; cases e; exact ht
          rw [St.gput_same ht] at h1
          split at h1
          · rename_i p r hr
            obtain ⟨s', g1, g2⟩ := DrawV_lex hT hall.2 h1.2
            exact ⟨s', .run o l s s' r hw (opE_opP hT (okO_ty hall.1) hr h1.1) g1, g2⟩
          · rename_i t' a b hr; exact two hr hw h1.1 h1.2
          · obtain ⟨r, hP, h⟩ := h1
            obtain ⟨s', g1, g2⟩ := DrawV_lex hT hall.2 h
            exact ⟨s', .run o l s s' r hw hP g1, g2⟩
          · exact h1.elim
        · have e' : t = !want := by cases t <;> cases want <;> simp_all
          have h2 := h.2 e'
          rw [St.gput_same (by rw [ht, e'])] at h2
          obtain ⟨s', g1, g2⟩ := DrawV_lex hT hall.2 h2
          exact ⟨s', .skip o l s s' j want (.bool t) hg ht (fun q => by cases q; exact e rfl) g1, g2⟩
      · have hx : s.lf (slotOf all j) = .v undef := by
          have h1 := h.1
          unfold undefLike at h1
          split at h1
          · rename_i a ha
            rw [ha]
            have : a = #[] := by simpa using h1
            rw [this]; rfl
          · cases h1
        obtain ⟨s', g1, g2⟩ := DrawV_lex hT hall.2 h.2
        exact ⟨s', .skip o l s s' j want undef hg hx (fun q => by cases q) g1, g2⟩
def drawOk (ops : Array Oper) : Bool :=
  (List.range ops.size).all fun i => match ops[i]? with
    | none => false
    | some o => (o.after.all fun e => !Region.binds .any e || decide (e.on < i)) &&
      (List.range ops.size).all fun j => match (ops[j]?).bind (·.dst) with
        | none => true
        | some d => (i == j || (o.dst != some d)) && (!(o.looksAt ops).contains d || (decide (j < i) && o.after.any fun e => Region.binds .any e && e.on == j) || (decide (i < j) && (ops[j]?).any fun o' => o'.after.any fun e => Region.binds .any e && e.on == i))
theorem LexD.keeps {P : Program} {BP : Oper → Nat → Prop} {all : Array Oper} : ∀ {l : List Oper} {s s' : St}, LexD P BP all l s s' → s'.σ = s.σ ∧ ∀ t, (∀ o ∈ l, o.dst ≠ some t) → s'.lf t = s.lf t
  | _, _, _, .nil s => ⟨rfl, fun _ _ => rfl⟩
  | _, _, _, .run o l s s' r _ _ hl => by
    obtain ⟨h1, h2⟩ := hl.keeps
    refine ⟨h1.trans (by cases o.dst <;> rfl), fun t ht => (h2 t fun o' ho' => ht o' (List.mem_cons_of_mem _ ho')).trans ?_⟩
    have := ht o (List.mem_cons_self ..)
    cases hd : o.dst with
    | none => rfl
    | some d => simp only [St.put, updL]; rw [if_neg (fun e => this (by rw [hd, e]))]
  | _, _, _, .skip o l s s' _ _ _ _ _ _ hl => by
    obtain ⟨h1, h2⟩ := hl.keeps
    refine ⟨h1.trans (by cases o.dst <;> rfl), fun t ht => (h2 t fun o' ho' => ht o' (List.mem_cons_of_mem _ ho')).trans ?_⟩
    have := ht o (List.mem_cons_self ..)
    cases hd : o.dst with
    | none => rfl
    | some d => simp only [St.put, updL]; rw [if_neg (fun e => this (by rw [hd, e]))]
  | _, _, _, .birth o l s s' _ _ _ _ _ _ _ _ hl => by
    obtain ⟨h1, h2⟩ := hl.keeps
    refine ⟨h1.trans (by cases o.dst <;> rfl), fun t ht => (h2 t fun o' ho' => ht o' (List.mem_cons_of_mem _ ho')).trans ?_⟩
    have := ht o (List.mem_cons_self ..)
    cases hd : o.dst with
    | none => rfl
    | some d => simp only [St.put, updL]; rw [if_neg (fun e => this (by rw [hd, e]))]
def preF (all : Array Oper) (s0 sn : St) (i : Nat) (t : Nat) : LV := if (List.range i).any (fun j => (all[j]?).bind (·.dst) == some t) then sn.lf t else s0.lf t
def Does (P : Program) (BP : Oper → Nat → Prop) (all : Array Oper) (pr sn : St) (o : Oper) : Prop :=
  ((∀ j want, o.guard = some (j, want) → pr.lf (slotOf all j) = .v (.bool want)) ∧ ∃ r, OpP P o (evL pr) pr.σ r ∧ ∀ d, o.dst = some d → sn.lf d = r) ∨
  (∃ j want x, o.guard = some (j, want) ∧ pr.lf (slotOf all j) = .v x ∧ x ≠ .bool want ∧ ∀ d, o.dst = some d → sn.lf d = .v undef) ∨
  (o.guard = none ∧ ∃ id e vs p, BP o id ∧ OpN P o (evL pr) pr.σ id e vs p ∧ pr.σ id = some (.late e vs) ∧ ∀ d, o.dst = some d → sn.lf d = bornL p id vs.length)
theorem preF_succ {all : Array Oper} {s0 sn : St} {i : Nat} {o : Oper} (ho : all[i]? = some o) (t : Nat) : preF all s0 sn (i + 1) t = if o.dst = some t then sn.lf t else preF all s0 sn i t := by
  unfold preF
  rw [List.range_succ, List.any_append]
  simp only [List.any_cons, List.any_nil, Bool.or_false, ho, Option.bind_some]
  by_cases e : o.dst = some t
  · rw [if_pos e, if_pos (by simp [e])]
  · rw [if_neg e]
    have : (o.dst == some t) = false := by simpa using e
    rw [this, Bool.or_false]
theorem LexD.does {P : Program} {BP : Oper → Nat → Prop} {all : Array Oper} {s0 : St} : ∀ {l : List Oper} {s sn : St} (pre : List Oper), pre ++ l = all.toList → (∀ (i : Nat) (o : Oper), all[i]? = some o → ∀ (j : Nat) (o' : Oper), all[j]? = some o' → i ≠ j → ∀ d, o.dst = some d → o'.dst ≠ some d) → s = ⟨preF all s0 sn pre.length, s0.σ⟩ →
    LexD P BP all l s sn → ∀ (i : Nat) (o : Oper), all[i]? = some o → pre.length ≤ i → Does P BP all ⟨preF all s0 sn i, s0.σ⟩ sn o := by
  intro l
  induction l with
  | nil =>
    intro s sn pre hpre _ _ _ i o ho hi
    rw [List.append_nil] at hpre
    have h2 : all.toList[i]? = some o := by rw [Array.getElem?_toList]; exact ho
    rw [← hpre, List.getElem?_eq_none hi] at h2
    cases h2
  | cons o0 l ih =>
    intro s sn pre hpre hdis hs hlex i o ho hi
    have hpre' : (pre ++ [o0]) ++ l = all.toList := by rw [List.append_assoc]; exact hpre
    have hget : ∀ i, all[i]? = all.toList[i]? := fun i => by rw [Array.getElem?_toList]
    have h0 : all[pre.length]? = some o0 := by rw [hget, ← hpre]; simp
    have later : ∀ o' ∈ l, ∃ j : Nat, all[j]? = some o' ∧ pre.length < j := by
      intro o' ho'
      obtain ⟨m, hm⟩ := List.getElem?_of_mem ho'
      refine ⟨pre.length + 1 + m, ?_, by omega⟩
      rw [hget, ← hpre', List.getElem?_append_right (by simp)]
      simpa using hm
    have own : ∀ (x : LV), LexD P BP all l (s.put o0.dst x) sn → ∀ d, o0.dst = some d → sn.lf d = x := by
      intro x hl d hd
      rw [hl.keeps.2 d fun o' ho' hd' => ?_]
      · rw [hd]; simp [St.put, updL]
      · obtain ⟨j, hj, hlt⟩ := later o' ho'
        exact hdis _ _ h0 _ _ hj (by omega) d hd hd'
    have next : ∀ (x : LV), LexD P BP all l (s.put o0.dst x) sn → s.put o0.dst x = ⟨preF all s0 sn (pre ++ [o0]).length, s0.σ⟩ := by
      intro x hl
      have hx := own x hl
      have h1 : (s.put o0.dst x).lf = preF all s0 sn (pre ++ [o0]).length := by
        funext t
        rw [List.length_append, List.length_singleton, preF_succ h0]
        cases hd : o0.dst with
        | none => rw [hs, if_neg (by simp)]; rfl
        | some d =>
          simp only [St.put, updL]
          by_cases e : t = d
          · subst e; rw [if_pos rfl, if_pos rfl, hx t hd]
          · rw [if_neg e, if_neg (by simpa using fun q => e q.symm), hs]
      have h2 : (s.put o0.dst x).σ = s0.σ := by rw [hs]; cases o0.dst <;> rfl
      cases h3 : s.put o0.dst x with
      | mk a b => rw [h3] at h1 h2; simp only at h1 h2; rw [h1, h2]
    by_cases e : i = pre.length
    · subst e
      rw [h0] at ho
      cases ho
      rw [← hs]
      cases hlex with
      | run _ _ _ _ r hw hP hl => exact .inl ⟨hw, r, hP, own r hl⟩
      | skip _ _ _ _ j want x hg' hx hn hl => exact .inr (.inl ⟨j, want, x, hg', hx, hn, own _ hl⟩)
      | birth _ _ _ _ id e vs p hg' hb hN hσ hl => exact .inr (.inr ⟨hg', id, e, vs, p, hb, hN, hσ, own _ hl⟩)
    · cases hlex with
      | run _ _ _ _ r hw hP hl => exact ih (pre ++ [o0]) hpre' hdis (next _ hl) hl i o ho (by simp; omega)
      | skip _ _ _ _ j want x hg' hx hn hl => exact ih (pre ++ [o0]) hpre' hdis (next _ hl) hl i o ho (by simp; omega)
      | birth _ _ _ _ id e vs p hg' hb hN hσ hl => exact ih (pre ++ [o0]) hpre' hdis (next _ hl) hl i o ho (by simp; omega)
theorem not_wanted {o : Oper} {j : Nat} {want : Bool} {y : Nat → Option Bool} {x : Value} (hg : o.guard = some (j, want)) (hy : y j = match x with | .bool b => some b | _ => none) (hne : x ≠ .bool want) : Region.wanted o y = false := by
  simp only [Region.wanted, hg, hy]
  cases x <;> simp_all
def midS (all : Array Oper) (s0 sn : St) (listed : Array Bool) : St :=
  ⟨fun t => if (List.range all.size).any (fun j => listed.getD j false && ((all[j]?).bind (·.dst) == some t)) then sn.lf t else s0.lf t, s0.σ⟩
theorem midS_at {all : Array Oper} {s0 sn : St} {listed : Array Bool} {j : Nat} {o : Oper} {t : Nat} (ho : all[j]? = some o) (hd : o.dst = some t) (hl : listed.getD j false = true) : (midS all s0 sn listed).lf t = sn.lf t := by
  have hj : j < all.size := (Array.getElem?_eq_some_iff.1 ho).1
  unfold midS
  dsimp only
  rw [if_pos]
  rw [List.any_eq_true]
  exact ⟨j, List.mem_range.2 hj, by simp [hl, ho, hd]⟩
theorem midS_off {all : Array Oper} {s0 sn : St} {listed : Array Bool} {t : Nat} (h : ∀ o ∈ all.toList, o.dst ≠ some t) : (midS all s0 sn listed).lf t = s0.lf t := by
  unfold midS
  dsimp only
  rw [if_neg]
  intro hq
  rw [List.any_eq_true] at hq
  obtain ⟨j, hj, hb⟩ := hq
  have hlt := List.mem_range.1 hj
  simp only [Bool.and_eq_true, beq_iff_eq, Array.getElem?_eq_getElem hlt, Option.bind_some] at hb
  exact h all[j] (by simp) hb.2
theorem getD_set {a : Array Bool} {i j : Nat} (hi : i < a.size) : (a.setIfInBounds i true).getD j false = (if j = i then true else a.getD j false) := by
  simp only [Array.getD_eq_getD_getElem?]
  by_cases e : j = i
  · subst e
    rw [if_pos rfl, Array.getElem?_setIfInBounds_self, if_pos hi]
    rfl
  · rw [if_neg e, Array.getElem?_setIfInBounds_ne (Ne.symm e)]
set_option maxHeartbeats 1000000 in
theorem drawn_any {P : Program} {T : TT} (hT : T.Ok P) {n : Nat} {BP : Oper → Nat → Prop} {all : Array Oper} {s0 sn : St} (hB : ∀ o id, BP o id → ∀ (i : Nat), all[i]? = some o → BirthOk all s0 sn i id) (hok : all.toList.all (okO T n all) = true) (hd : drawOk all = true) (hdoes : ∀ (i : Nat) (o : Oper), all[i]? = some o → Does P BP all ⟨preF all s0 sn i, s0.σ⟩ sn o) (hσ : sn.σ = s0.σ) (hoff : ∀ t, (∀ o ∈ all.toList, o.dst ≠ some t) → sn.lf t = s0.lf t)
    {w0 : Base} {Q : Exit → Act → World → Prop} (hQ : ∀ a' w', After n w0 (fun s => s = sn) a' w' → Q .normal a' w') :
    ∀ (fuel : Nat) (listed : Array Bool) (a : Act) (w : World) (ι : Nat → Option Value) (fp : Nat → Nat → Prop) (f : Nat → Value), listed.size = all.size → (∀ i, i < all.size → fuel ≤ i → listed.getD i false = true ∨ (List.range all.size).countP (fun i => !listed.getD i false) ≤ fuel) → (List.range all.size).countP (fun i => !listed.getD i false) ≤ fuel →
      (∀ (j : Nat) (o : Oper), all[j]? = some o → listed.getD j false = true → ∀ e ∈ o.after, Region.binds .any e = true → listed.getD e.on false = true) → FR n f a → Inv w0 w ι fp (midS all s0 sn listed) f → wpAny P .any all Q fuel listed a w := by
  have hdr : ∀ (i : Nat) (o : Oper), all[i]? = some o → (∀ e ∈ o.after, Region.binds .any e = true → e.on < i) ∧ ∀ (j : Nat) (o' : Oper), all[j]? = some o' → ∀ d, o'.dst = some d → (i ≠ j → o.dst ≠ some d) ∧ (d ∈ o.looksAt all → (j < i ∧ ∃ e ∈ o.after, Region.binds .any e = true ∧ e.on = j) ∨ (i < j ∧ ∃ e ∈ o'.after, Region.binds .any e = true ∧ e.on = i)) := by
    intro i o ho
    have hi : i < all.size := (Array.getElem?_eq_some_iff.1 ho).1
    have h1 := List.all_eq_true.1 hd i (List.mem_range.2 hi)
    rw [ho] at h1
    simp only [Bool.and_eq_true, Array.all_eq_true', Bool.or_eq_true, Bool.not_eq_true', decide_eq_true_eq] at h1
    refine ⟨fun e he hb => (h1.1 e he).resolve_left (by rw [hb]; decide), fun j o' ho' d hd' => ?_⟩
    have hj : j < all.size := (Array.getElem?_eq_some_iff.1 ho').1
    have h2 := List.all_eq_true.1 h1.2 j (List.mem_range.2 hj)
    rw [ho'] at h2
    simp only [Option.bind_some, hd', Bool.and_eq_true, Bool.or_eq_true, beq_iff_eq, bne_iff_ne, Bool.not_eq_true', decide_eq_true_eq, Array.any_eq_true', Option.any_some] at h2
    refine ⟨fun hne => h2.1.resolve_left hne, fun hm => ?_⟩
    rcases h2.2 with (h3 | ⟨h3, e, he, h4, h5⟩) | ⟨h3, e, he, h4, h5⟩
    · exact absurd (List.contains_iff_mem.2 hm) (by rw [h3]; decide)
    · exact .inl ⟨h3, e, he, h4, h5⟩
    · exact .inr ⟨h3, e, he, h4, h5⟩
  have hready : ∀ (listed : Array Bool) (i : Nat), i ∈ Region.ready .any all listed → ∃ o, all[i]? = some o ∧ i < all.size ∧ listed.getD i true = false ∧ ∀ e ∈ o.after, Region.binds .any e = true → listed.getD e.on false = true := by
    intro listed i hm
    unfold Region.ready at hm
    rw [List.mem_filter] at hm
    obtain ⟨h1, h2⟩ := hm
    have hi := List.mem_range.1 h1
    simp only [Bool.and_eq_true, Bool.not_eq_true', Array.getElem?_eq_getElem hi, Option.map_some, Option.getD_some, Array.all_eq_true', Bool.or_eq_true] at h2
    refine ⟨all[i], Array.getElem?_eq_getElem hi, hi, h2.1, fun e he hb => ?_⟩
    rcases h2.2 e he with h3 | h3
    · rw [hb] at h3; cases h3
    · exact h3
  have hempty : ∀ (listed : Array Bool), listed.size = all.size → Region.ready .any all listed = [] → ∀ i, i < all.size → listed.getD i false = true := by
    intro listed hs he i
    induction i using Nat.strongRecOn with
    | ind i ih =>
      intro hi
      by_cases hl : listed.getD i false = true
      · exact hl
      · exfalso
        have hm : i ∈ Region.ready .any all listed := by
          unfold Region.ready
          rw [List.mem_filter]
          refine ⟨List.mem_range.2 hi, ?_⟩
          simp only [Bool.and_eq_true, Bool.not_eq_true', Array.getElem?_eq_getElem hi, Option.map_some, Option.getD_some, Array.all_eq_true', Bool.or_eq_true]
          refine ⟨?_, fun e he' => if hb : Region.binds .any e = true then .inr (ih _ ((hdr i _ (Array.getElem?_eq_getElem hi)).1 e he' hb) ?_) else .inl (by simpa using hb)⟩
          · have hs' : i < listed.size := by omega
            simp only [Array.getD_eq_getD_getElem?, Array.getElem?_eq_getElem hs', Option.getD_some] at hl ⊢
            simpa using hl
          · have := (hdr i _ (Array.getElem?_eq_getElem hi)).1 e he' hb
            omega
        rw [he] at hm
        cases hm
  have hfin : ∀ (listed : Array Bool), (∀ i, i < all.size → listed.getD i false = true) → midS all s0 sn listed = sn := by
    intro listed hl
    have h1 : (midS all s0 sn listed).lf = sn.lf := by
      funext t
      by_cases ht : ∀ o ∈ all.toList, o.dst ≠ some t
      · rw [midS_off ht, hoff t ht]
      · have ⟨o, ho, hdt⟩ : ∃ o ∈ all.toList, o.dst = some t := by
          apply Classical.byContradiction
          intro hq
          exact ht fun o ho hdt => hq ⟨o, ho, hdt⟩
        obtain ⟨j, hj⟩ := List.getElem?_of_mem ho
        rw [Array.getElem?_toList] at hj
        exact midS_at hj hdt (hl j (Array.getElem?_eq_some_iff.1 hj).1)
    cases sn with
    | mk lf σ =>
      cases hm : midS all s0 ⟨lf, σ⟩ listed with
      | mk lf' σ' =>
        rw [hm] at h1
        have h2 : σ' = s0.σ := by have := congrArg St.σ hm; exact this.symm
        simp only at h1 hσ
        rw [h1, h2, hσ]
  have hnone : ∀ (listed : Array Bool), (List.range all.size).countP (fun i => !listed.getD i false) ≤ 0 → ∀ i, i < all.size → listed.getD i false = true := by
    intro listed hc i hi
    have := List.countP_eq_zero.1 (Nat.le_zero.1 hc) i (List.mem_range.2 hi)
    simpa using this
  intro fuel
  induction fuel with
  | zero =>
    intro listed a w ι fp f hsz _ hc _ hf hI
    have hall := hnone listed hc
    rw [hfin listed hall] at hI
    refine ⟨?_, hQ _ _ ⟨_, f, ι, fp, hf, hI, rfl⟩⟩
    cases hr : Region.ready .any all listed with
    | nil => rfl
    | cons i l =>
      obtain ⟨o, ho, hi, hl, _⟩ := hready listed i (by rw [hr]; exact List.mem_cons_self ..)
      have := hall i hi
      have hs' : i < listed.size := by omega
      simp only [Array.getD_eq_getD_getElem?, Array.getElem?_eq_getElem hs', Option.getD_some] at hl this
      rw [hl] at this
      cases this
  | succ fuel ih =>
    intro listed a w ι fp f hsz _ hc hcl hf hI
    refine ⟨fun he => ?_, fun i hi => ?_⟩
    · rw [hfin listed (hempty listed hsz he)] at hI
      exact hQ _ _ ⟨_, f, ι, fp, hf, hI, rfl⟩
    · obtain ⟨o, ho, hilt, hl, hafter⟩ := hready listed i hi
      have hs' : i < listed.size := by omega
      have hl' : listed.getD i false = false := by
        simp only [Array.getD_eq_getD_getElem?, Array.getElem?_eq_getElem hs', Option.getD_some] at hl ⊢
        exact hl
      have hom : o ∈ all.toList := by
        have := List.mem_of_getElem? (l := all.toList) (i := i) (a := o) (by rw [Array.getElem?_toList]; exact ho)
        exact this
      have hoko := List.all_eq_true.1 hok o hom
      have hdst := okO_dst hoko
      -- what it looks at has its last value
      have look : ∀ t ∈ o.looksAt all, (midS all s0 sn listed).lf t = preF all s0 sn i t := by
        intro t ht
        by_cases hw : ∀ o' ∈ all.toList, o'.dst ≠ some t
        · rw [midS_off hw]; unfold preF; split <;> first | rfl | exact (hoff t hw).symm
        · have ⟨o', ho', hdt⟩ : ∃ o' ∈ all.toList, o'.dst = some t := by
            apply Classical.byContradiction
            intro hq
            exact hw fun o ho hdt => hq ⟨o, ho, hdt⟩
          obtain ⟨j, hj⟩ := List.getElem?_of_mem ho'
          rw [Array.getElem?_toList] at hj
          have only : ∀ j2, (all[j2]?).bind (·.dst) = some t → j2 = j := by
            intro j2 h2
            cases h3 : all[j2]? with
            | none => rw [h3] at h2; cases h2
            | some o2 =>
              rw [h3] at h2
              apply Classical.byContradiction
              intro hne
              exact ((hdr j2 o2 h3).2 j o' hj t hdt).1 hne h2
          rcases ((hdr i o ho).2 j o' hj t hdt).2 ht with ⟨hji, e, he, hb, hon⟩ | ⟨hij, e, he, hb, hon⟩
          · rw [midS_at hj hdt (by rw [← hon]; exact hafter e he hb)]
            unfold preF
            rw [if_pos]
            rw [List.any_eq_true]
            exact ⟨j, List.mem_range.2 hji, by simp [hj, hdt]⟩
          · have hnl : listed.getD j false = false := by
              cases hq : listed.getD j false with
              | false => rfl
              | true => have := hcl j o' hj hq e he hb; rw [hon, hl'] at this; cases this
            unfold midS preF
            dsimp only
            rw [if_neg, if_neg]
            · intro hq
              rw [List.any_eq_true] at hq
              obtain ⟨j2, h1, h2⟩ := hq
              have := only j2 (by simpa using h2)
              have := List.mem_range.1 h1
              omega
            · intro hq
              rw [List.any_eq_true] at hq
              obtain ⟨j2, _, h2⟩ := hq
              simp only [Bool.and_eq_true, beq_iff_eq] at h2
              have := only j2 h2.2
              subst this
              rw [hnl] at h2
              cases h2.1
      -- the state behind it
      have next : ∀ x, (∀ d, o.dst = some d → sn.lf d = x) → (midS all s0 sn listed).put o.dst x = midS all s0 sn (listed.setIfInBounds i true) := by
        intro x hx
        have hfun : ((midS all s0 sn listed).put o.dst x).lf = (midS all s0 sn (listed.setIfInBounds i true)).lf := by
          funext t
          by_cases e : o.dst = some t
          · rw [e, midS_at ho e (by rw [getD_set hs', if_pos rfl]), hx t e]
            simp [St.put, updL]
          · have h1 : ((midS all s0 sn listed).put o.dst x).lf t = (midS all s0 sn listed).lf t := by
              cases hd' : o.dst with
              | none => rfl
              | some d => simp only [St.put, updL]; rw [if_neg (fun q => e (by rw [hd', q]))]
            rw [h1]
            unfold midS
            have : (List.range all.size).any (fun j => listed.getD j false && ((all[j]?).bind (·.dst) == some t)) = (List.range all.size).any (fun j => (listed.setIfInBounds i true).getD j false && ((all[j]?).bind (·.dst) == some t)) := by
              congr 1
              funext j
              rw [getD_set hs']
              by_cases q : j = i
              · subst q
                rw [ho, if_pos rfl]
                have : (Option.bind (some o) (·.dst) == some t) = false := by simpa using e
                rw [this]; simp
              · rw [if_neg q]
            simp only [this]
        have hs2 : ((midS all s0 sn listed).put o.dst x).σ = (midS all s0 sn (listed.setIfInBounds i true)).σ := by cases o.dst <;> rfl
        cases h1 : (midS all s0 sn listed).put o.dst x with
        | mk a1 b1 =>
          cases h2 : midS all s0 sn (listed.setIfInBounds i true) with
          | mk a2 b2 =>
            rw [h1, h2] at hfun hs2
            simp only at hfun hs2
            rw [hfun, hs2]
      have hc' : (List.range all.size).countP (fun j => !(listed.setIfInBounds i true).getD j false) ≤ fuel := by
        have : (List.range all.size).countP (fun j => !(listed.setIfInBounds i true).getD j false) < (List.range all.size).countP (fun j => !listed.getD j false) := by
          have key : ∀ l : List Nat, i ∈ l → l.countP (fun j => !(listed.setIfInBounds i true).getD j false) < l.countP (fun j => !listed.getD j false) := by
            have mono : ∀ l : List Nat, l.countP (fun j => !(listed.setIfInBounds i true).getD j false) ≤ l.countP (fun j => !listed.getD j false) := fun l =>
              List.countP_mono_left fun j _ hj => by
                rw [getD_set hs'] at hj
                by_cases q : j = i
                · rw [if_pos q] at hj; cases hj
                · rwa [if_neg q] at hj
            intro l
            induction l with
            | nil => intro h; cases h
            | cons x l ihl =>
              intro hm
              rw [List.countP_cons, List.countP_cons]
              rcases List.mem_cons.1 hm with rfl | hm
              · have a1 : (!(listed.setIfInBounds i true).getD i false) = false := by rw [getD_set hs', if_pos rfl]; rfl
                have a2 : (!listed.getD i false) = true := by rw [hl']; rfl
                rw [a1, a2]
                have := mono l
                simp only [Bool.false_eq_true, if_false, if_true]
                omega
              · have a := ihl hm
                have b : (if (!(listed.setIfInBounds i true).getD x false) = true then 1 else 0) ≤ (if (!listed.getD x false) = true then 1 else 0) := by
                  rw [getD_set hs']
                  by_cases q : x = i
                  · rw [if_pos q]; simp
                  · rw [if_neg q]; exact Nat.le_refl _
                omega
          exact key _ (List.mem_range.2 hilt)
        omega
      have go : ∀ a' w' x ι' fp' f', (∀ d, o.dst = some d → sn.lf d = x) → FR n f' a' → Inv w0 w' ι' fp' ((midS all s0 sn listed).put o.dst x) f' → wpAny P .any all Q fuel (listed.setIfInBounds i true) a' w' := by
        intro a' w' x ι' fp' f' hx hf' hI'
        rw [next x hx] at hI'
        refine ih _ a' w' ι' fp' f' (by simpa using hsz) (fun _ _ _ => .inr hc') hc' (fun j o2 ho2 hj2 e he hb => ?_) hf' hI'
        rw [getD_set hs'] at hj2 ⊢
        by_cases q2 : e.on = i
        · rw [if_pos q2]
        · rw [if_neg q2]
          by_cases q : j = i
          · subst q
            rw [ho] at ho2
            cases ho2
            exact hafter e he hb
          · rw [if_neg q] at hj2
            exact hcl j o2 ho2 hj2 e he hb
      unfold wpOp
      rw [ho]
      dsimp only
      rcases hdoes i o ho with ⟨hw, r, hP, hr⟩ | ⟨j, want, x, hg, hx, hne, hu⟩ | ⟨hg, id, e, vs, p, hbp, hN, hlate, hu⟩
      · have hwant : Region.wanted o (yielded all a.tmps) = true := by
          cases hg : o.guard with
          | none => simp [Region.wanted, hg]
          | some p =>
            obtain ⟨j, want⟩ := p
            obtain ⟨hj, hjn⟩ := okO_guard hoko hg
            have hm : slotOf all j ∈ o.looksAt all := by
              unfold Oper.looksAt
              rw [hg]
              exact List.mem_append_right _ (by simp [hj])
            have hv := hI.fr (slotOf all j)
            rw [look _ hm, show preF all s0 sn i (slotOf all j) = _ from hw j want hg] at hv
            simp only [LRel] at hv
            have hy := yielded_of hf all j _ hj hjn
            rw [hv] at hy
            simp [Region.wanted, hg, hy]
        rw [if_pos hwant]
        left
        have hOT : OpT P o (midS all s0 sn listed) fun r' s' => r' = r ∧ s' = midS all s0 sn listed := by
          intro w0' w' ι' fp' f' hI'
          refine hP w0' w' ι' fp' _ f' hI' rfl fun x hm => ?_
          cases x with
          | tmp t => exact look t (by unfold Oper.looksAt; exact List.mem_append_left _ (List.mem_filterMap.2 ⟨.tmp t, by simpa using hm, rfl⟩))
          | _ => rfl
        refine hOT.wp hdst hf hI ?_
        rintro a' w' ⟨s', f', ι', fp', hf', hI', r', s1, ⟨rfl, rfl⟩, rfl⟩
        exact go a' w' _ ι' fp' f' hr hf' hI'
      · obtain ⟨hj, hjn⟩ := okO_guard hoko hg
        have hm : slotOf all j ∈ o.looksAt all := by
          unfold Oper.looksAt
          rw [hg]
          exact List.mem_append_right _ (by simp [hj])
        have hv := hI.fr (slotOf all j)
        rw [look _ hm, show preF all s0 sn i (slotOf all j) = _ from hx] at hv
        simp only [LRel] at hv
        have hy := yielded_of hf all j _ hj hjn
        rw [hv] at hy
        have hwant : Region.wanted o (yielded all a.tmps) = false := not_wanted hg hy hne
        rw [if_neg (by rw [hwant]; decide)]
        exact go _ w _ ι fp _ hu (hf.put o.dst hdst undef) (hI.put o.dst (by simp only [LRel]))
      · have hwant : Region.wanted o (yielded all a.tmps) = true := by simp [Region.wanted, hg]
        rw [if_pos hwant]
        left
        obtain ⟨b0, b1, b2, _, D, b4, b5⟩ := hB o id hbp i ho
        have noD : ∀ j, j ∈ D → listed.getD j false = false := by
          intro j
          induction j using Nat.strongRecOn with
          | ind j ihj =>
            intro hjD
            cases hlj : listed.getD j false with
            | false => rfl
            | true =>
              obtain ⟨oj, hoj, e', he', hb', hon⟩ := b4 j hjD
              have h1 := hcl j oj hoj hlj e' he' hb'
              have h2 := (hdr j oj hoj).1 e' he' hb'
              rcases hon with hon | hon
              · rw [hon, hl'] at h1; cases h1
              · rw [ihj _ h2 hon] at h1; cases h1
        have hno : ∀ t, ment id ((midS all s0 sn listed).lf t) = false := by
          intro t
          cases hm : ment id ((midS all s0 sn listed).lf t) with
          | false => rfl
          | true =>
            unfold midS at hm
            dsimp only at hm
            split at hm
            · rename_i hany
              rw [List.any_eq_true] at hany
              obtain ⟨j, hj, hjb⟩ := hany
              simp only [Bool.and_eq_true, beq_iff_eq] at hjb
              have hlt := List.mem_range.1 hj
              obtain ⟨hjl, hjb2⟩ := hjb
              rw [Array.getElem?_eq_getElem hlt] at hjb2
              have hji : j ≠ i := fun e => by rw [e, hl'] at hjl; cases hjl
              have := noD j (b5 j _ t (Array.getElem?_eq_getElem hlt) hji hjb2 hm)
              rw [hjl] at this
              cases this
            · rw [b1 t] at hm; cases hm
        have hOT : OpT P o (midS all s0 sn listed) fun r' s' => r' = bornL p id vs.length ∧ s' = midS all s0 sn listed := by
          intro w0' w' ι' fp' f' hI'
          refine hN w0' w' ι' fp' _ f' hI' rfl (fun x hm => ?_) b0 hlate hno b2
          cases x with
          | tmp t => exact look t (by unfold Oper.looksAt; exact List.mem_append_left _ (List.mem_filterMap.2 ⟨.tmp t, by simpa using hm, rfl⟩))
          | _ => rfl
        refine hOT.wp hdst hf hI ?_
        rintro a' w' ⟨s', f', ι', fp', hf', hI', r', s1, ⟨rfl, rfl⟩, rfl⟩
        exact go a' w' _ ι' fp' f' hu hf' hI'
set_option maxHeartbeats 1000000 in
theorem draw_lex {P : Program} {T : TT} (hT : T.Ok P) {n id : Nat} {BP : Oper → Nat → Prop} {ops : Array Oper} {s sn : St} {k : Kont} (hm : P.follows .mixedOrders = true) (hd : drawOk ops = true) (hB : ∀ o id, BP o id → ∀ (i : Nat), ops[i]? = some o → BirthOk ops s sn i id)
    (hok : ops.toList.all (okO T n ops) = true) (hlex : LexD P BP ops ops.toList s sn) (hN' : (KN P n k).1 sn) : Here P n (.region id ops true) s k := by
  have hdr : ∀ (i : Nat) (o : Oper), ops[i]? = some o → ∀ (j : Nat) (o' : Oper), ops[j]? = some o' → i ≠ j → ∀ d, o.dst = some d → o'.dst ≠ some d := by
    intro i o ho j o' ho' hne d hd1 hd2
    have hi : i < ops.size := (Array.getElem?_eq_some_iff.1 ho).1
    have hj : j < ops.size := (Array.getElem?_eq_some_iff.1 ho').1
    have h1 := List.all_eq_true.1 hd i (List.mem_range.2 hi)
    rw [ho] at h1
    simp only [Bool.and_eq_true] at h1
    have h2 := List.all_eq_true.1 h1.2 j (List.mem_range.2 hj)
    rw [ho'] at h2
    simp only [Option.bind_some, hd2, hd1, Bool.and_eq_true, Bool.or_eq_true, beq_iff_eq, bne_iff_ne, ne_eq, not_true_eq_false, or_false] at h2
    exact hne h2.1
  have hs0 : s = ⟨preF ops s sn 0, s.σ⟩ := by
    have : preF ops s sn 0 = s.lf := by funext t; simp [preF]
    rw [this]
  have hdoes : ∀ (i : Nat) (o : Oper), ops[i]? = some o → Does P BP ops ⟨preF ops s sn i, s.σ⟩ sn o := fun i o ho => LexD.does [] rfl hdr hs0 hlex i o ho (Nat.zero_le _)
  obtain ⟨hσ, hoff⟩ := hlex.keeps
  intro w0 w ι fp f a hf hI
  refine wp_region_any hm ?_
  have hI' : Inv w0 { w with drawn := w.drawn + 1 } ι fp (midS ops s sn (Array.replicate ops.size false)) f := by
    have : midS ops s sn (Array.replicate ops.size false) = s := by
      have h1 : (midS ops s sn (Array.replicate ops.size false)).lf = s.lf := by
        funext t
        unfold midS
        dsimp only
        rw [if_neg]
        intro hq
        rw [List.any_eq_true] at hq
        obtain ⟨j, hj, hb⟩ := hq
        have hlt := List.mem_range.1 hj
        simp [Array.getD_eq_getD_getElem?, Array.getElem?_replicate, hlt] at hb
      cases s with
      | mk lf σ =>
        cases hmid : midS ops ⟨lf, σ⟩ sn (Array.replicate ops.size false) with
        | mk a1 b1 =>
          rw [hmid] at h1
          have h2 := congrArg St.σ hmid
          simp only [midS] at h1 h2
          rw [h1, ← h2]
    rw [this]
    exact hI.step ((Below.refl _ w).drew)
  refine drawn_any hT hB hok hd hdoes hσ hoff (w0 := w0) (fun a' w' ⟨s', f', ι', fp', g1, g2, g3⟩ => ?_) ops.size _ a _ ι fp f (by simp) (fun i _ _ => .inr (Nat.le_trans List.countP_le_length (by simp))) (Nat.le_trans List.countP_le_length (by simp)) (fun j o ho hj => by
    have hlt := (Array.getElem?_eq_some_iff.1 ho).1
    simp [Array.getD_eq_getD_getElem?, Array.getElem?_replicate, hlt] at hj) hf hI'
  subst g3
  exact ⟨_, _, _, _, g1, g2, hN'⟩
theorem Here.draw {P : Program} {T : TT} (hT : T.Ok P) {n id : Nat} {ops : Array Oper} {s : St} {k : Kont} (hm : P.follows .mixedOrders = true) (hd : drawOk ops = true)
    (h : DrawV P T n ops ops.toList s k) : HereV P T n (.region id ops true) s k := by
  intro hok hk
  obtain ⟨sn, hlex, hN⟩ := DrawV_lex hT hok h
  exact draw_lex hT hm hd (fun o id h => h.elim) hok hlex ((sound_all hT k.wt).1 k sn (Nat.le_refl _) hk hN)
structure Birth where
  i : Nat
  id : Nat
  e : Nat
  vs : List Value
  D : List Nat
  p : Bool
def okB (B : List Birth) (i : Nat) (r : LV) : Prop := ∀ b ∈ B, ment b.id r = true → i = b.i ∨ i ∈ b.D
def HereE (P : Program) (T : TT) (n : Nat) (k : Kont) (s : St) : Prop := ∃ s', Conv s s' ∧ Norm P T n k s'
def DrawN (P : Program) (T : TT) (n : Nat) (B : List Birth) : Nat → List Oper → St → Kont → Prop
  | _, [], s, k => HereE P T n k s
  | i, o :: l, s, k => o.guard = none ∧ match opE T o.op (evL s) s.σ with
    | .val p r => p ∧ okB B i r ∧ DrawN P T n B (i + 1) l (s.put o.dst r) k
    | .hard => ∃ r, okB B i r ∧ (OpP P o (evL s) s.σ r ∨ o.dst.isSome = true ∧ ∃ b ∈ B, b.i = i ∧ r = bornL b.p b.id b.vs.length ∧ s.σ b.id = some (.late b.e b.vs) ∧ OpN P o (evL s) s.σ b.id b.e b.vs b.p) ∧ DrawN P T n B (i + 1) l (s.put o.dst r) k
    | _ => False
end Go.Proofs.YtcjhojdlfnpgjaaGreat
