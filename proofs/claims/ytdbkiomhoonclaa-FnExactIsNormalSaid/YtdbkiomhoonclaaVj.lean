/- A calculus of verification conditions over logical values: what turns or makes an object of the call's own. -/
import Derived.Test.YtdbkiomhoonclaaVi
import Derived.Laws.OwnMore
namespace Go.Proofs.Ytdbkiomhoonclaa
open Go.RowKit
set_option linter.unusedVariables false
set_option linter.unusedSimpArgs false

section
variable {P : Program} {T : TT}

mutual
theorem kill_none : ∀ x : LV, kill (fun _ => false) x = x
  | .agg l => by simp only [kill, kills_none l]
  | .rdL l => by simp only [kill, kills_none l]
  | .tup l => by simp only [kill, kills_none l]
  | .box l => by simp only [kill, kills_none l]
  | .rdA _ l => by simp only [kill, kills_none l]
  | .pc x => by simp only [kill, kill_none x]
  | .own id => by simp [kill]
  | .ptr id off => by simp [kill]
  | .pe id i => by simp [kill]
  | .sub id i n => by simp [kill]
  | .fn g caps => by simp only [kill, kills_none caps]
  | .v x => by simp only [kill]
  | .junk => by simp only [kill]
  | .rd vs => by simp only [kill]
  | .rds t => by simp only [kill]
theorem kills_none : ∀ l : List LV, kills (fun _ => false) l = l
  | [] => by simp only [kills]
  | x :: l => by simp only [kills, kill_none x, kills_none l]
end
theorem killO_none (o : OC) : killO (fun _ => false) o = o := by
  cases o with
  | hole e e' t i j => cases j <;> rfl
  | _ => simp [killO, kills_none]

/-- An object comes in (or is turned); the references that Q tells die; the objects that Q tells are gone into it. -/
def St.turn (s : St) (Q : Nat → Bool) (id : Nat) (oc : OC) : St :=
  ⟨fun i => kill Q (s.lf i), fun j => if j = id then some oc else if Q j then none else (s.σ j).map (killO Q)⟩

theorem Inv.turn {w0 : Base} {w w' : World} {ι ι' : Nat → Option Value} {fp : Nat → Nat → Prop} {s : St} {f : Nat → Value} (hI : Inv w0 w ι fp s f) (Q : Nat → Bool) (id : Nat) (oc : OC) (fpn : Nat → Prop)
    (hos : w'.os = w.os) (htape : w'.tape = w.tape) (hout : w'.output = w.output) (hsize : w.heap.size ≤ w'.heap.size)
    (hblk : ∀ k, k < w.heap.size → (∀ j o, (j = id ∨ Q j = true) → s.σ j = some o → ¬ fp j k) → w'.heap[k]? = w.heap[k]?)
    (hfpn : ∀ k, fpn k → (∃ j o, (j = id ∨ Q j = true) ∧ s.σ j = some o ∧ fp j k) ∨ w.heap.size ≤ k)
    (hι : ∀ j v, Q j = false → ι j = some v → ι' j = some v) (hfix : ∀ j v, w0.fix j = some v → ι' j = some v)
    (hob : Keeps (FF s.σ fp) (FF (s.turn Q id oc).σ fun j => if j = id then fpn else fp j) w w' → ORel ι' (FF (s.turn Q id oc).σ fun j => if j = id then fpn else fp j) w' 0 fpn id oc) :
    Inv w0 w' ι' (fun j => if j = id then fpn else fp j) (s.turn Q id oc) f := by
  have hlt := hI.lt
  have hF : ∀ k, FF (s.turn Q id oc).σ (fun j => if j = id then fpn else fp j) k → FF s.σ fp k ∨ w.heap.size ≤ k := by
    rintro k ⟨j, o, h1, h2⟩
    simp only [St.turn] at h1
    by_cases e : j = id
    · subst e
      simp only [if_true] at h2
      rcases hfpn k h2 with ⟨j', o', _, h3, h4⟩ | h
      · exact .inl ⟨j', o', h3, h4⟩
      · exact .inr h
    · simp only [if_neg e] at h1 h2
      split at h1
      · cases h1
      · cases hs : s.σ j with
        | none => rw [hs] at h1; cases h1
        | some o' => exact .inl ⟨j, o', hs, h2⟩
  have hk : Keeps (FF s.σ fp) (FF (s.turn Q id oc).σ fun j => if j = id then fpn else fp j) w w' := fun p u hp hc =>
    have hl := World.block_lt_of_cell? _ _ hc
    ⟨(World.cell?_of_block (hblk p.block hl fun j o _ h1 h2 => hp ⟨j, o, h1, h2⟩)).trans hc, fun hq => by
      rcases hF _ hq with h | h
      · exact hp h
      · omega⟩
  have old : ∀ j o, j ≠ id → (s.turn Q id oc).σ j = some o → ∃ o', s.σ j = some o' ∧ o = killO Q o' ∧ Q j = false := by
    intro j o e h
    simp only [St.turn, if_neg e] at h
    split at h
    · cases h
    · rename_i hq
      cases hs : s.σ j with
      | none => rw [hs] at h; cases h
      | some o' =>
        rw [hs] at h
        simp only [Option.map_some, Option.some.injEq] at h
        exact ⟨o', rfl, h.symm, by simpa using hq⟩
  refine ⟨fun i => (hI.fr i).kills hι hk, fun j o hj => ?_, fun j j' o o' k h1 h2 g1 g2 => ?_, ⟨hos.trans hI.bel.os, htape.trans hI.bel.tape, hout.trans hI.bel.output, Nat.le_trans hI.bel.size hsize, fun k hkl hB => ?_⟩, fun k hk' => (hF k hk').elim (hI.low k) fun h => .inl (Nat.le_trans hI.bel.size h), hfix⟩
  · by_cases e : j = id
    · subst e
      simp only [St.turn, if_true, Option.some.injEq] at hj
      subst hj
      simp only [if_true]
      exact hob hk
    · obtain ⟨o', hs, rfl, hq⟩ := old j o e hj
      simp only [if_neg e]
      refine (hI.ob j o' hs).kills hq hι hk hsize fun k hk' => ?_
      refine hblk k ((hI.ob j o' hs).lt k hk').2 fun j2 o2 hj2 h2 hk2 => ?_
      have := hI.dis _ _ _ _ k hs h2 hk' hk2
      subst this
      rcases hj2 with rfl | h
      · exact e rfl
      · rw [hq] at h; cases h
  · have one : ∀ j o, j ≠ id → (s.turn Q id oc).σ j = some o → fp j k → fpn k → False := by
      intro j o e h hk1 hk2
      obtain ⟨o', hs, rfl, hq⟩ := old j o e h
      rcases hfpn k hk2 with ⟨j2, o2, hj2, h3, h4⟩ | h5
      · have := hI.dis _ _ _ _ k hs h3 hk1 h4
        subst this
        rcases hj2 with rfl | h
        · exact e rfl
        · rw [hq] at h; cases h
      · have := ((hI.ob j o' hs).lt k hk1).2; omega
    by_cases e : j = id
    · by_cases e' : j' = id
      · rw [e, e']
      · subst e
        simp only [if_true, if_neg e'] at g1 g2
        exact (one j' o' e' h2 g2 g1).elim
    · by_cases e' : j' = id
      · subst e'
        simp only [if_true, if_neg e] at g1 g2
        exact (one j o e h1 g1 g2).elim
      · simp only [if_neg e, if_neg e'] at g1 g2
        obtain ⟨o1, hs1, _⟩ := old j o e h1
        obtain ⟨o2, hs2, _⟩ := old j' o' e' h2
        exact hI.dis _ _ _ _ k hs1 hs2 g1 g2
  · rw [hblk k (Nat.lt_of_lt_of_le hkl hI.bel.size) fun j o _ h1 h2 => ?_]
    · exact hI.bel.block k hkl hB
    · rcases hI.low k ⟨j, o, h1, h2⟩ with h | h
      · omega
      · exact hB h

def updI (ι : Nat → Option Value) (id : Nat) (v : Value) : Nat → Option Value := fun j => if j = id then some v else ι j
theorem updI_fix {w0 : Base} {w : World} {ι : Nat → Option Value} {fp : Nat → Nat → Prop} {s : St} {f : Nat → Value} (hI : Inv w0 w ι fp s f) {id : Nat} (hid : 16 ≤ id) (v : Value) : ∀ j u, w0.fix j = some u → updI ι id v j = some u := by
  intro j u h
  have : j ≠ id := fun e => by rw [w0.hi j (by omega)] at h; cases h
  simp only [updI, if_neg this]
  exact hI.fix j u h

/-- A new object. -/
def St.fresh (s : St) (id : Nat) (oc : OC) : St := s.turn (fun j => j == id) id oc

theorem kill_is {ι ι' : Nat → Option Value} {id : Nat} (h : ∀ j, j ≠ id → ι' j = ι j) : ∀ j v, (j == id) = false → ι j = some v → ι' j = some v := fun j v hj e => by
  rw [h j (by simpa using hj)]; exact e

/-- The new object may hold what was there: its content is told ahead of it. -/
theorem Inv.fresh {w0 : Base} {w : World} {ι : Nat → Option Value} {fp : Nat → Nat → Prop} {s : St} {f : Nat → Value} (hI : Inv w0 w ι fp s f) {id : Nat} (hid : 16 ≤ id) (o : Obj) (v : Value) (oc : OC) (fpn : Nat → Prop) (hfpn : ∀ k, fpn k → k = w.heap.size)
    (hob : Keeps (FF s.σ fp) (FF (s.fresh id oc).σ fun j => if j = id then fpn else fp j) w (w.alloc o) → ORel (updI ι id v) (FF (s.fresh id oc).σ fun j => if j = id then fpn else fp j) (w.alloc o) 0 fpn id oc) :
    Inv w0 (w.alloc o) (updI ι id v) (fun j => if j = id then fpn else fp j) (s.fresh id oc) f :=
  hI.turn (fun j => j == id) id oc fpn rfl rfl rfl (by simp) (fun k hk _ => Below.heap_alloc w _ k hk) (fun k hk => .inr (by rw [hfpn k hk]; exact Nat.le_refl _)) (kill_is fun j hj => by simp only [updI, if_neg hj]) (updI_fix hI hid v) hob

theorem LRels.vs {ι : Nat → Option Value} {F : Nat → Prop} {w : World} : ∀ {ys : List Value}, LRels ι F w (ys.map .v) ys
  | [] => by simp only [List.map_nil, LRels]
  | y :: ys => by simp only [List.map_cons, LRels, LRel]; exact ⟨y, ys, rfl, rfl, LRels.vs⟩

/-- A variable: its own zero value. -/
def zlv (z : Value) : List LV := z.cells.toList.map .v

theorem OpT.alloc (hT : T.Ok P) {o : Oper} {s : St} {K : LV → St → Prop} {t : Nat} {z : Value} (ho : o.op = .alloc t) (hz : T.zr t = some z) (id : Nat) (hid : 16 ≤ id) (hK : K (.ptr id 0) (s.fresh id (.cells t (zlv z)))) : OpT P o s K := by
  intro w0 w ι fp f hI
  have hr : (execOp (evV f) o).run P w = .ok (.value (.pointer (some ⟨w.heap.size, 0, none⟩))) (w.alloc (.cells z.cells t)) := by
    simp [execOp, ho, Instr.alloc, hT.zr t z hz, newVar, newRow]
  rw [hr]
  refine .value _ _ _ _ _ _ (hI.fresh hid (.cells z.cells t) (.pointer (some ⟨w.heap.size, 0, none⟩)) (.cells t (zlv z)) (fun k => k = w.heap.size) (fun _ h => h) fun _ => ?_) ?_ hK
  · refine ⟨w.heap.size, z.cells.toList, by simp [updI], Nat.zero_le _, fun k => Iff.rfl, by rw [Array.toArray_toList]; exact heap_alloc_new w _, ?_⟩
    exact LRels.vs
  · simp only [LRel]
    exact ⟨_, by simp [updI], rfl⟩

theorem run_storeAt {w : World} (hT : T.Ok P) {t : Nat} {ys : List Value} {b off : Nat} {tt : Nat} {v : Value} (hs : ∀ w, (sizeOf t).run P w = .ok v.cells.size w) (hb : w.heap[b]? = some (.cells (List.toArray ys) tt (0, 0))) (ho : off + v.cells.size ≤ ys.length) (h1 : ∀ u ∈ v.cells.toList, u.oneCell' = true) :
    (Instr.storeAt t (.pointer (some ⟨b, off, none⟩)) v).run P w = .ok () (w.setRow b (ys.take off ++ v.cells.toList ++ ys.drop (off + v.cells.size)).toArray) := by
  have := run_storeCells_at (P := P) b off tt v.cells.toList 0 (List.toArray ys) w hb (by simpa using ho) h1
  simp only [Nat.add_zero, Array.length_toList] at this
  simp [Instr.storeAt, Instr.sureAddr, storeVar, hs, this]

/-- What lies in one cell. -/
def oneL : LV → Bool
  | .v x => x.oneCell'
  | .rd _ | .rds _ | .rdL _ | .own _ | .ptr _ _ | .pe _ _ | .sub _ _ _ | .box _ | .pc _ | .fn _ _ | .rdA _ _ => true
  | _ => false

theorem oneL_cell {ι : Nat → Option Value} {F : Nat → Prop} {w : World} {x : LV} {v : Value} (h : oneL x = true) (hr : LRel ι F w x v) (hown : ∀ id, ι id = some v → v.oneCell' = true) : v.oneCell' = true := by
  cases x <;> simp only [oneL, Bool.false_eq_true] at h <;> simp only [LRel] at hr
  · subst hr; exact h
  · obtain ⟨A, c, rfl, _⟩ := hr; rfl
  · obtain ⟨hs, ⟨A, c, rfl, _⟩, _⟩ := hr; rfl
  · obtain ⟨hs, ⟨A, c, rfl, _⟩, _⟩ := hr; rfl
  · obtain ⟨b, ys, rfl, _⟩ := hr; rfl
  · obtain ⟨p, u, rfl, _⟩ := hr; rfl
  · exact hown _ hr
  · obtain ⟨b, _, rfl⟩ := hr; rfl
  · obtain ⟨g, n, c, _, rfl⟩ := hr; rfl
  · obtain ⟨A, N, c, _, _, A', rfl, _⟩ := hr; rfl
  · obtain ⟨A, m, c, ys, rfl, _⟩ := hr; rfl
  · obtain ⟨ys, rfl, _⟩ := hr; rfl

/-- The content of an object is told anew. -/
def St.set (s : St) (id : Nat) (oc : OC) : St := ⟨s.lf, fun j => if j = id then some oc else s.σ j⟩
theorem turn_none (s : St) (id : Nat) (oc : OC) : s.turn (fun _ => false) id oc = s.set id oc := by
  unfold St.turn St.set
  congr 1
  · funext i; exact kill_none _
  · funext j
    split
    · rfl
    · simp only [Bool.false_eq_true, if_false]
      cases s.σ j with
      | none => rfl
      | some o => simp only [Option.map_some, killO_none]

theorem Inv.own_one {w0 : Base} {w : World} {ι : Nat → Option Value} {fp : Nat → Nat → Prop} {s : St} {f : Nat → Value} (hI : Inv w0 w ι fp s f) {x : LV} {v : Value} (hr : LRel ι (FF s.σ fp) w x v) (h : oneL x = true) (hown : ∀ id, x = .own id → (s.σ id).isSome = true) : v.oneCell' = true := by
  cases x with
  | own id =>
    obtain ⟨oc, ho⟩ := Option.isSome_iff_exists.1 (hown id rfl)
    simp only [LRel] at hr
    have := hI.ob id oc ho
    cases oc with
    | cells t l =>
      obtain ⟨b, ys, h1, _⟩ := this
      rw [hr] at h1; simp only [Option.some.injEq] at h1; subst h1; rfl
    | row e vs =>
      obtain ⟨u, h1, h2, _⟩ := this
      rw [hr] at h1; simp only [Option.some.injEq] at h1; subst h1
      obtain ⟨A, cap, rfl⟩ := own_len h2; rfl
    | rowL e l =>
      obtain ⟨u, ys, h1, h2, _⟩ := this
      rw [hr] at h1; simp only [Option.some.injEq] at h1; subst h1
      obtain ⟨A, cap, rfl⟩ := own_len h2; rfl
    | rows e e' t =>
      obtain ⟨u, hs, h1, h2, _⟩ := this
      rw [hr] at h1; simp only [Option.some.injEq] at h1; subst h1
      obtain ⟨A, cap, rfl⟩ := own_len h2; rfl
    | hole e e' t i j =>
      obtain ⟨u, hs, y, h1, h2, _⟩ := this
      rw [hr] at h1; simp only [Option.some.injEq] at h1; subst h1
      obtain ⟨A, cap, rfl⟩ := own_len h2; rfl
    | late e vs =>
      rcases this with ⟨h1, _⟩ | ⟨u, h1, h2, _⟩ | ⟨b, h1, _⟩
      · rw [hr] at h1; simp only [Option.some.injEq] at h1; subst h1; rfl
      · rw [hr] at h1; simp only [Option.some.injEq] at h1; subst h1
        obtain ⟨A, cap, rfl⟩ := own_len h2; rfl
      · rw [hr] at h1; simp only [Option.some.injEq] at h1; subst h1; rfl
  | v y => simp only [LRel] at hr; subst hr; exact h
  | _ => exact oneL_cell h hr (fun id hid => by simp only [oneL, Bool.false_eq_true] at h <;> simp only [LRel] at hr <;> first | (obtain ⟨A, c, rfl, _⟩ := hr; rfl) | (obtain ⟨hs, ⟨A, c, rfl, _⟩, _⟩ := hr; rfl) | (obtain ⟨b, ys, rfl, _⟩ := hr; rfl) | (obtain ⟨b, _, rfl⟩ := hr; rfl) | (obtain ⟨g, n, c, _, rfl⟩ := hr; rfl) | (obtain ⟨A, N, c, _, _, A', rfl, _⟩ := hr; rfl) | (obtain ⟨A, m, c, ys, rfl, _⟩ := hr; rfl) | (obtain ⟨ys, rfl, _⟩ := hr; rfl))

theorem one_cells {v : Value} (h : v.oneCell' = true) : v.cells = #[v] := by cases v <;> first | rfl | simp [Value.oneCell'] at h

def ownIs (σ : Nat → Option OC) : LV → Bool
  | .own id => (σ id).isSome
  | _ => true

theorem LRels.set {ι : Nat → Option Value} {F : Nat → Prop} {w : World} {x : LV} {v : Value} (hx : LRel ι F w x v) : ∀ {l : List LV} {ys : List Value} (j : Nat), LRels ι F w l ys → LRels ι F w (l.set j x) (ys.set j v)
  | [], _, _, h => by simp only [LRels] at h; subst h; simp only [List.set_nil, LRels]
  | _ :: _, _, 0, h => by
    simp only [LRels] at h
    obtain ⟨y, r, rfl, h1, h2⟩ := h
    simp only [List.set_cons_zero, LRels]
    exact ⟨v, r, rfl, hx, h2⟩
  | _ :: _, _, j + 1, h => by
    simp only [LRels] at h
    obtain ⟨y, r, rfl, h1, h2⟩ := h
    simp only [List.set_cons_succ, LRels]
    exact ⟨y, _, rfl, h1, LRels.set hx j h2⟩

/-- A variable's cells are told anew. -/
theorem Inv.setCells {w0 : Base} {w : World} {ι : Nat → Option Value} {fp : Nat → Nat → Prop} {s : St} {f : Nat → Value} (hI : Inv w0 w ι fp s f) {id tt : Nat} {l l' : List LV} {b : Nat} {ys ys' : List Value} (hσ : s.σ id = some (.cells tt l)) (hid : ι id = some (.pointer (some ⟨b, 0, none⟩)))
    (hb : w.heap[b]? = some (.cells (List.toArray ys) tt (0, 0))) (hfp : ∀ k, fp id k ↔ k = b) (hl : LRels ι (FF s.σ fp) w l' ys') :
    Inv w0 (w.setRow b ys'.toArray) ι fp (s.set id (.cells tt l')) f := by
  have h := hI.turn (w' := w.setRow b ys'.toArray) (ι' := ι) (fun _ => false) id (.cells tt l') (fp id) rfl rfl rfl (by simp) (fun k hk hn => setRow_other w b k _ (fun e => hn id _ (.inl rfl) hσ ((hfp k).2 e)))
    (fun k hk => .inl ⟨id, _, .inl rfl, hσ, hk⟩) (fun _ _ _ e => e) hI.fix (fun hk => ⟨b, ys', hid, Nat.zero_le _, hfp, setRow_heap w b _ _ tt _ hb, hl.keeps (fun _ _ e => e) hk⟩)
  rw [turn_none] at h
  have e : (fun j => if j = id then fp id else fp j) = fp := by funext j; split <;> simp_all
  rwa [e] at h

theorem OpT.store (hT : T.Ok P) {o : Oper} {s : St} {K : LV → St → Prop} {t tt : Nat} {a x : Operand} {id off : Nat} {l : List LV} (ho : o.op = .store t a x) (ha : evL s a = .ptr id off) (hσ : s.σ id = some (.cells tt l))
    (ht : T.sc t = true) (h1 : oneL (evL s x) = true) (h2 : ownIs s.σ (evL s x) = true) (hoff : off < l.length) (hK : K .junk (s.set id (.cells tt (l.set off (evL s x))))) : OpT P o s K := by
  intro w0 w ι fp f hI
  have hav := hI.ev a
  rw [ha] at hav
  simp only [LRel] at hav
  obtain ⟨b, e1, e2⟩ := hav
  obtain ⟨b', ys, g1, g2, g3, g4, g5⟩ := hI.ob id _ hσ
  rw [e1] at g1
  simp only [Option.some.injEq, Value.pointer.injEq, Addr.mk.injEq, and_true] at g1
  subst g1
  have hxv := hI.ev x
  have hone := hI.own_one hxv h1 (fun j hj => by rw [hj] at h2; exact h2)
  have hc := one_cells hone
  have hlen := g5.length
  have hr : (execOp (evV f) o).run P w = .ok .skip (w.setRow b (ys.set off (evV f x)).toArray) := by
    have := run_storeAt (P := P) (T := T) (w := w) (t := t) (ys := ys) (b := b) (off := off) (tt := tt) (v := evV f x) hT (fun w => by rw [hc]; exact hT.s1 t ht w) g4 (by rw [hc]; simp; omega) (by rw [hc]; simpa using hone)
    simp only [execOp, ho, e2, Sem.run_bind, this, Result.andThen_ok, Sem.run_pure]
    congr 3
    rw [hc]
    have hlt : off < ys.length := by omega
    simp [List.set_eq_take_append_cons_drop, hlt]
  rw [hr]
  exact .skip _ _ _ _ (hI.setCells hσ e1 g4 g3 (LRels.set hxv off g5)) hK

theorem LRels.ones {ι : Nat → Option Value} {fp : Nat → Nat → Prop} {w0 : Base} {w : World} {s : St} {f : Nat → Value} (hI : Inv w0 w ι fp s f) : ∀ {l : List LV} {ys : List Value}, LRels ι (FF s.σ fp) w l ys → l.all (fun x => oneL x && ownIs s.σ x) = true → ∀ u ∈ ys, u.oneCell' = true
  | [], _, h, _, u, hu => by simp only [LRels] at h; subst h; cases hu
  | x :: l, _, h, ha, u, hu => by
    simp only [LRels] at h
    obtain ⟨y, r, rfl, h1, h2⟩ := h
    simp only [List.all_cons, Bool.and_eq_true] at ha
    cases hu with
    | head => exact hI.own_one h1 ha.1.1 (fun j hj => by subst hj; exact ha.1.2)
    | tail _ hu => exact LRels.ones hI h2 ha.2 u hu

/-- A struct is stored whole. -/
theorem OpT.storeAgg (hT : T.Ok P) {o : Oper} {s : St} {K : LV → St → Prop} {t tt : Nat} {a x : Operand} {id k : Nat} {l l' : List LV} (ho : o.op = .store t a x) (ha : evL s a = .ptr id 0) (hσ : s.σ id = some (.cells tt l))
    (ht : T.ag t = some k) (hx : evL s x = .agg l') (h1 : l'.all (fun x => oneL x && ownIs s.σ x) = true) (hl : l.length = k) (hl' : l'.length = k) (hK : K .junk (s.set id (.cells tt l'))) : OpT P o s K := by
  intro w0 w ι fp f hI
  have hav := hI.ev a
  rw [ha] at hav
  simp only [LRel] at hav
  obtain ⟨b, e1, e2⟩ := hav
  obtain ⟨b', ys, g1, g2, g3, g4, g5⟩ := hI.ob id _ hσ
  rw [e1] at g1
  simp only [Option.some.injEq, Value.pointer.injEq, Addr.mk.injEq, and_true] at g1
  subst g1
  have hxv := hI.ev x
  rw [hx] at hxv
  simp only [LRel] at hxv
  obtain ⟨xs, e3, hxs⟩ := hxv
  have hlen := g5.length
  have hlen' := hxs.length
  have hr : (execOp (evV f) o).run P w = .ok .skip (w.setRow b xs.toArray) := by
    have := run_storeAt (P := P) (T := T) (w := w) (t := t) (ys := ys) (b := b) (off := 0) (tt := tt) (v := .agg xs.toArray) hT (fun w => by rw [(hT.ag t k ht w).2]; simp [Value.cells, hlen', hl']) g4 (by simp [Value.cells]; omega) (by simpa [Value.cells] using LRels.ones hI hxs h1)
    simp only [execOp, ho, e2, e3, Sem.run_bind, this, Result.andThen_ok, Sem.run_pure]
    congr 3
    simp [Value.cells]
    omega
  rw [hr]
  exact .skip _ _ _ _ (hI.setCells hσ e1 g4 g3 hxs) hK

end
end Go.Proofs.Ytdbkiomhoonclaa
