/- A calculus of verification conditions over logical values: what turns or makes an object of the call's own. -/
import Derived.Test.YtcjhojdlfnpgjaaGreatK03
import Derived.Laws.OwnMore
import Derived.Maps.AppendAt
set_option linter.unusedVariables false
set_option linter.unusedSimpArgs false
set_option maxRecDepth 100000
namespace Go.Proofs.YtcjhojdlfnpgjaaGreat
open Go.RowKit
section
variable {P : Program} {T : TT}
mutual
theorem kill_none : ∀ x : LV, kill (fun _ => false) x = x
  | .agg l => by simp only [kill, kills_none l]
  | .rdL l => by simp only [kill, kills_none l]
  | .tup l => by simp only [kill, kills_none l]
  | .box l => by simp only [kill, kills_none l]
  | .rdA _ l => by simp only [kill, kills_none l]
  | .pc x => by simp only [kill, kill_none x]
  | .own id => by simp [kill]
  | .ptr id off => by simp [kill]
  | .pe id i => by simp [kill]
  | .sub id i n => by simp [kill]
  | .fn g caps => by simp only [kill, kills_none caps]
  | .v x => by simp only [kill]
  | .junk => by simp only [kill]
  | .rd vs => by simp only [kill]
  | .rds t => by simp only [kill]
theorem kills_none : ∀ l : List LV, kills (fun _ => false) l = l
  | [] => by simp only [kills]
  | x :: l => by simp only [kills, kill_none x, kills_none l]
end
theorem killO_none (o : OC) : killO (fun _ => false) o = o := by
  cases o with
  | hole e e' t i j => cases j <;> rfl
  | cust A r j => cases j <;> rfl
  | _ => simp [killO, kills_none]
def St.turn (s : St) (Q : Nat → Bool) (id : Nat) (oc : OC) : St :=
  ⟨fun i => kill Q (s.lf i), fun j => if j = id then some oc else if Q j then none else (s.σ j).map (killO Q)⟩
theorem Inv.turn {w0 : Base} {w w' : World} {ι ι' : Nat → Option Value} {fp : Nat → Nat → Prop} {s : St} {f : Nat → Value} (hI : Inv w0 w ι fp s f) (Q : Nat → Bool) (id : Nat) (oc : OC) (fpn : Nat → Prop)
    (hos : w'.os = w.os) (htape : w'.tape = w.tape) (hout : w'.output = w.output) (hsize : w.heap.size ≤ w'.heap.size)
    (hblk : ∀ k, k < w.heap.size → (∀ j o, (j = id ∨ Q j = true) → s.σ j = some o → ¬ fp j k) → w'.heap[k]? = w.heap[k]?)
    (hfpn : ∀ k, fpn k → (∃ j o, (j = id ∨ Q j = true) ∧ s.σ j = some o ∧ fp j k) ∨ w.heap.size ≤ k)
    (hι : ∀ j v, Q j = false → ι j = some v → ι' j = some v) (hfix : ∀ j v, w0.fix j = some v → ι' j = some v)
    (hob : Keeps (FF s.σ fp) (FF (s.turn Q id oc).σ fun j => if j = id then fpn else fp j) w w' → ORel ι' (FF (s.turn Q id oc).σ fun j => if j = id then fpn else fp j) w' 0 fpn id oc) :
    Inv w0 w' ι' (fun j => if j = id then fpn else fp j) (s.turn Q id oc) f := by
  have hlt := hI.lt
  have hF : ∀ k, FF (s.turn Q id oc).σ (fun j => if j = id then fpn else fp j) k → FF s.σ fp k ∨ w.heap.size ≤ k := by
    rintro k ⟨j, o, h1, h2⟩
    simp only [St.turn] at h1
    by_cases e : j = id
    · subst e
      simp only [if_true] at h2
      rcases hfpn k h2 with ⟨j', o', _, h3, h4⟩ | h
      · exact .inl ⟨j', o', h3, h4⟩
      · exact .inr h
    · simp only [if_neg e] at h1 h2
      split at h1
      · cases h1
      · cases hs : s.σ j with
        | none => rw [hs] at h1; cases h1
        | some o' => exact .inl ⟨j, o', hs, h2⟩
  have hk : Keeps (FF s.σ fp) (FF (s.turn Q id oc).σ fun j => if j = id then fpn else fp j) w w' := fun p u hp hc =>
    have hl := World.block_lt_of_cell? _ _ hc
    ⟨(World.cell?_of_block (hblk p.block hl fun j o _ h1 h2 => hp ⟨j, o, h1, h2⟩)).trans hc, fun hq => by
      rcases hF _ hq with h | h
      · exact hp h
      · omega⟩
  have old : ∀ j o, j ≠ id → (s.turn Q id oc).σ j = some o → ∃ o', s.σ j = some o' ∧ o = killO Q o' ∧ Q j = false := by
    intro j o e h
    simp only [St.turn, if_neg e] at h
    split at h
    · cases h
    · rename_i hq
      cases hs : s.σ j with
      | none => rw [hs] at h; cases h
      | some o' =>
        rw [hs] at h
        simp only [Option.map_some, Option.some.injEq] at h
        exact ⟨o', rfl, h.symm, by simpa using hq⟩
  refine ⟨fun i => (hI.fr i).kills hι hk, fun j o hj => ?_, fun j j' o o' k h1 h2 g1 g2 => ?_, ⟨hos.trans hI.bel.os, htape.trans hI.bel.tape, hout.trans hI.bel.output, Nat.le_trans hI.bel.size hsize, fun k hkl hB => ?_⟩, fun k hk' => (hF k hk').elim (hI.low k) fun h => .inl (Nat.le_trans hI.bel.size h), hfix⟩
  · by_cases e : j = id
    · subst e
      simp only [St.turn, if_true, Option.some.injEq] at hj
      subst hj
      simp only [if_true]
      exact hob hk
    · obtain ⟨o', hs, rfl, hq⟩ := old j o e hj
      simp only [if_neg e]
      refine (hI.ob j o' hs).kills hq hι hk hsize fun k hk' => ?_
      refine hblk k ((hI.ob j o' hs).lt k hk').2 fun j2 o2 hj2 h2 hk2 => ?_
      have := hI.dis _ _ _ _ k hs h2 hk' hk2
      subst this
      rcases hj2 with rfl | h
      · exact e rfl
      · rw [hq] at h; cases h
  · have one : ∀ j o, j ≠ id → (s.turn Q id oc).σ j = some o → fp j k → fpn k → False := by
      intro j o e h hk1 hk2
      obtain ⟨o', hs, rfl, hq⟩ := old j o e h
      rcases hfpn k hk2 with ⟨j2, o2, hj2, h3, h4⟩ | h5
      · have := hI.dis _ _ _ _ k hs h3 hk1 h4
        subst this
        rcases hj2 with rfl | h
        · exact e rfl
        · rw [hq] at h; cases h
      · have := ((hI.ob j o' hs).lt k hk1).2; omega
    by_cases e : j = id
    · by_cases e' : j' = id
      · rw [e, e']
      · subst e
        simp only [if_true, if_neg e'] at g1 g2
        exact (one j' o' e' h2 g2 g1).elim
    · by_cases e' : j' = id
      · subst e'
        simp only [if_true, if_neg e] at g1 g2
        exact (one j o e h1 g1 g2).elim
      · simp only [if_neg e, if_neg e'] at g1 g2
        obtain ⟨o1, hs1, _⟩ := old j o e h1
        obtain ⟨o2, hs2, _⟩ := old j' o' e' h2
        exact hI.dis _ _ _ _ k hs1 hs2 g1 g2
  · rw [hblk k (Nat.lt_of_lt_of_le hkl hI.bel.size) fun j o _ h1 h2 => ?_]
    · exact hI.bel.block k hkl hB
    · rcases hI.low k ⟨j, o, h1, h2⟩ with h | h
      · omega
      · exact hB h
def updI (ι : Nat → Option Value) (id : Nat) (v : Value) : Nat → Option Value := fun j => if j = id then some v else ι j
theorem updI_fix {w0 : Base} {w : World} {ι : Nat → Option Value} {fp : Nat → Nat → Prop} {s : St} {f : Nat → Value} (hI : Inv w0 w ι fp s f) {id : Nat} (hid : 16 ≤ id) (v : Value) : ∀ j u, w0.fix j = some u → updI ι id v j = some u := by
  intro j u h
  have : j ≠ id := fun e => by rw [w0.hi j (by omega)] at h; cases h
  simp only [updI, if_neg this]
  exact hI.fix j u h
def St.fresh (s : St) (id : Nat) (oc : OC) : St := s.turn (fun j => j == id) id oc
theorem kill_is {ι ι' : Nat → Option Value} {id : Nat} (h : ∀ j, j ≠ id → ι' j = ι j) : ∀ j v, (j == id) = false → ι j = some v → ι' j = some v := fun j v hj e => by
  rw [h j (by simpa using hj)]; exact e
theorem Inv.fresh {w0 : Base} {w : World} {ι : Nat → Option Value} {fp : Nat → Nat → Prop} {s : St} {f : Nat → Value} (hI : Inv w0 w ι fp s f) {id : Nat} (hid : 16 ≤ id) (o : Obj) (v : Value) (oc : OC) (fpn : Nat → Prop) (hfpn : ∀ k, fpn k → k = w.heap.size)
    (hob : Keeps (FF s.σ fp) (FF (s.fresh id oc).σ fun j => if j = id then fpn else fp j) w (w.alloc o) → ORel (updI ι id v) (FF (s.fresh id oc).σ fun j => if j = id then fpn else fp j) (w.alloc o) 0 fpn id oc) :
    Inv w0 (w.alloc o) (updI ι id v) (fun j => if j = id then fpn else fp j) (s.fresh id oc) f :=
  hI.turn (fun j => j == id) id oc fpn rfl rfl rfl (by simp) (fun k hk _ => Below.heap_alloc w _ k hk) (fun k hk => .inr (by rw [hfpn k hk]; exact Nat.le_refl _)) (kill_is fun j hj => by simp only [updI, if_neg hj]) (updI_fix hI hid v) hob
theorem LRels.vs {ι : Nat → Option Value} {F : Nat → Prop} {w : World} : ∀ {ys : List Value}, LRels ι F w (ys.map .v) ys
  | [] => by simp only [List.map_nil, LRels]
  | y :: ys => by simp only [List.map_cons, LRels, LRel]; exact ⟨y, ys, rfl, rfl, LRels.vs⟩
def zlv (z : Value) : List LV := z.cells.toList.map .v
theorem OpT.alloc (hT : T.Ok P) {o : Oper} {s : St} {K : LV → St → Prop} {t : Nat} {z : Value} (ho : o.op = .alloc t) (hz : T.zr t = some z) (id : Nat) (hid : 16 ≤ id) (hK : K (.ptr id 0) (s.fresh id (.cells t (zlv z)))) : OpT P o s K := by
  intro w0 w ι fp f hI
  have hr : (execOp (evV f) o).run P w = .ok (.value (.pointer (some ⟨w.heap.size, 0, none⟩))) (w.alloc (.cells z.cells t)) := by
    simp [execOp, ho, Instr.alloc, hT.zr t z hz, newVar, newRow]
  rw [hr]
  refine .value _ _ _ _ _ _ (hI.fresh hid (.cells z.cells t) (.pointer (some ⟨w.heap.size, 0, none⟩)) (.cells t (zlv z)) (fun k => k = w.heap.size) (fun _ h => h) fun _ => ?_) ?_ hK
  · refine ⟨w.heap.size, z.cells.toList, by simp [updI], Nat.zero_le _, fun k => Iff.rfl, by rw [Array.toArray_toList]; exact heap_alloc_new w _, ?_⟩
    exact LRels.vs
  · simp only [LRel]
    exact ⟨_, by simp [updI], rfl⟩
theorem run_storeAt {w : World} (hT : T.Ok P) {t : Nat} {ys : List Value} {b off : Nat} {tt : Nat} {v : Value} (hs : ∀ w, (sizeOf t).run P w = .ok v.cells.size w) (hb : w.heap[b]? = some (.cells (List.toArray ys) tt (0, 0))) (ho : off + v.cells.size ≤ ys.length) (h1 : ∀ u ∈ v.cells.toList, u.oneCell' = true) :
    (Instr.storeAt t (.pointer (some ⟨b, off, none⟩)) v).run P w = .ok () (w.setRow b (ys.take off ++ v.cells.toList ++ ys.drop (off + v.cells.size)).toArray) := by
  have := run_storeCells_at (P := P) b off tt v.cells.toList 0 (List.toArray ys) w hb (by simpa using ho) h1
  simp only [Nat.add_zero, Array.length_toList] at this
  simp [Instr.storeAt, Instr.sureAddr, storeVar, hs, this]
def oneL : LV → Bool
  | .v x => x.oneCell'
  | .rd _ | .rds _ | .rdL _ | .own _ | .ptr _ _ | .pe _ _ | .sub _ _ _ | .box _ | .pc _ | .fn _ _ | .rdA _ _ => true
  | _ => false
theorem oneL_cell {ι : Nat → Option Value} {F : Nat → Prop} {w : World} {x : LV} {v : Value} (h : oneL x = true) (hr : LRel ι F w x v) (hown : ∀ id, ι id = some v → v.oneCell' = true) : v.oneCell' = true := by
  cases x <;> simp only [oneL, Bool.false_eq_true] at h <;> simp only [LRel] at hr
  · subst hr; exact h
  · obtain ⟨A, c, rfl, _⟩ := hr; rfl
  · obtain ⟨hs, ⟨A, c, rfl, _⟩, _⟩ := hr; rfl
  · obtain ⟨hs, ⟨A, c, rfl, _⟩, _⟩ := hr; rfl
  · obtain ⟨b, ys, rfl, _⟩ := hr; rfl
  · obtain ⟨p, u, rfl, _⟩ := hr; rfl
  · exact hown _ hr
  · obtain ⟨b, _, rfl⟩ := hr; rfl
  · obtain ⟨g, n, c, _, rfl⟩ := hr; rfl
  · obtain ⟨A, N, c, _, _, A', rfl, _⟩ := hr; rfl
  · obtain ⟨A, m, c, ys, rfl, _⟩ := hr; rfl
  · obtain ⟨ys, rfl, _⟩ := hr; rfl
def St.set (s : St) (id : Nat) (oc : OC) : St := ⟨s.lf, fun j => if j = id then some oc else s.σ j⟩
theorem turn_none (s : St) (id : Nat) (oc : OC) : s.turn (fun _ => false) id oc = s.set id oc := by
  unfold St.turn St.set
  congr 1
  · funext i; exact kill_none _
  · funext j
    split
    · rfl
    · simp only [Bool.false_eq_true, if_false]
      cases s.σ j with
      | none => rfl
      | some o => simp only [Option.map_some, killO_none]
theorem Inv.own_one {w0 : Base} {w : World} {ι : Nat → Option Value} {fp : Nat → Nat → Prop} {s : St} {f : Nat → Value} (hI : Inv w0 w ι fp s f) {x : LV} {v : Value} (hr : LRel ι (FF s.σ fp) w x v) (h : oneL x = true) (hown : ∀ id, x = .own id → (s.σ id).isSome = true) : v.oneCell' = true := by
  cases x with
  | own id =>
    obtain ⟨oc, ho⟩ := Option.isSome_iff_exists.1 (hown id rfl)
    simp only [LRel] at hr
    have := hI.ob id oc ho
    cases oc with
    | cells t l =>
      obtain ⟨b, ys, h1, _⟩ := this
      rw [hr] at h1; simp only [Option.some.injEq] at h1; subst h1; rfl
    | row e vs =>
      obtain ⟨u, h1, h2, _⟩ := this
      rw [hr] at h1; simp only [Option.some.injEq] at h1; subst h1
      obtain ⟨A, cap, rfl⟩ := own_len h2; rfl
    | rowL e l =>
      obtain ⟨u, ys, h1, h2, _⟩ := this
      rw [hr] at h1; simp only [Option.some.injEq] at h1; subst h1
      obtain ⟨A, cap, rfl⟩ := own_len h2; rfl
    | rows e e' t =>
      obtain ⟨u, hs, h1, h2, _⟩ := this
      rw [hr] at h1; simp only [Option.some.injEq] at h1; subst h1
      obtain ⟨A, cap, rfl⟩ := own_len h2; rfl
    | hole e e' t i j =>
      obtain ⟨u, hs, y, h1, h2, _⟩ := this
      rw [hr] at h1; simp only [Option.some.injEq] at h1; subst h1
      obtain ⟨A, cap, rfl⟩ := own_len h2; rfl
    | cust A r j =>
      obtain ⟨u, y, h1, h2, h3, _⟩ := this
      rw [hr] at h1; simp only [Option.some.injEq] at h1; subst h1
      exact (h2 _ _ _ _ h3).1
    | ghost vs =>
      obtain ⟨u, h1, h2, h3⟩ := this
      rw [hr] at h1; simp only [Option.some.injEq] at h1; subst h1
      obtain ⟨A, cap, rfl, _⟩ := h3; rfl
    | late e vs =>
      rcases this with ⟨h1, _⟩ | ⟨u, h1, h2, _⟩ | ⟨b, h1, _⟩
      · rw [hr] at h1; simp only [Option.some.injEq] at h1; subst h1; rfl
      · rw [hr] at h1; simp only [Option.some.injEq] at h1; subst h1
        obtain ⟨A, cap, rfl⟩ := own_len h2; rfl
      · rw [hr] at h1; simp only [Option.some.injEq] at h1; subst h1; rfl
  | v y => simp only [LRel] at hr; subst hr; exact h
  | _ => exact oneL_cell h hr (fun id hid => by simp only [oneL, Bool.false_eq_true] at h <;> simp only [LRel] at hr <;> first | (obtain ⟨A, c, rfl, _⟩ := hr; rfl) | (obtain ⟨hs, ⟨A, c, rfl, _⟩, _⟩ := hr; rfl) | (obtain ⟨b, ys, rfl, _⟩ := hr; rfl) | (obtain ⟨b, _, rfl⟩ := hr; rfl) | (obtain ⟨g, n, c, _, rfl⟩ := hr; rfl) | (obtain ⟨A, N, c, _, _, A', rfl, _⟩ := hr; rfl) | (obtain ⟨A, m, c, ys, rfl, _⟩ := hr; rfl) | (obtain ⟨ys, rfl, _⟩ := hr; rfl))
theorem one_cells {v : Value} (h : v.oneCell' = true) : v.cells = #[v] := by cases v <;> first | rfl | simp [Value.oneCell'] at h
def ownIs (σ : Nat → Option OC) : LV → Bool
  | .own id => (σ id).isSome
  | _ => true
theorem LRels.set {ι : Nat → Option Value} {F : Nat → Prop} {w : World} {x : LV} {v : Value} (hx : LRel ι F w x v) : ∀ {l : List LV} {ys : List Value} (j : Nat), LRels ι F w l ys → LRels ι F w (l.set j x) (ys.set j v)
  | [], _, _, h => by simp only [LRels] at h; subst h; simp only [List.set_nil, LRels]
  | _ :: _, _, 0, h => by
    simp only [LRels] at h
    obtain ⟨y, r, rfl, h1, h2⟩ := h
    simp only [List.set_cons_zero, LRels]
    exact ⟨v, r, rfl, hx, h2⟩
  | _ :: _, _, j + 1, h => by
    simp only [LRels] at h
    obtain ⟨y, r, rfl, h1, h2⟩ := h
    simp only [List.set_cons_succ, LRels]
    exact ⟨y, _, rfl, h1, LRels.set hx j h2⟩
theorem Inv.setCells {w0 : Base} {w : World} {ι : Nat → Option Value} {fp : Nat → Nat → Prop} {s : St} {f : Nat → Value} (hI : Inv w0 w ι fp s f) {id tt : Nat} {l l' : List LV} {b : Nat} {ys ys' : List Value} (hσ : s.σ id = some (.cells tt l)) (hid : ι id = some (.pointer (some ⟨b, 0, none⟩)))
    (hb : w.heap[b]? = some (.cells (List.toArray ys) tt (0, 0))) (hfp : ∀ k, fp id k ↔ k = b) (hl : LRels ι (FF s.σ fp) w l' ys') :
    Inv w0 (w.setRow b ys'.toArray) ι fp (s.set id (.cells tt l')) f := by
  have h := hI.turn (w' := w.setRow b ys'.toArray) (ι' := ι) (fun _ => false) id (.cells tt l') (fp id) rfl rfl rfl (by simp) (fun k hk hn => setRow_other w b k _ (fun e => hn id _ (.inl rfl) hσ ((hfp k).2 e)))
    (fun k hk => .inl ⟨id, _, .inl rfl, hσ, hk⟩) (fun _ _ _ e => e) hI.fix (fun hk => ⟨b, ys', hid, Nat.zero_le _, hfp, setRow_heap w b _ _ tt _ hb, hl.keeps (fun _ _ e => e) hk⟩)
  rw [turn_none] at h
  have e : (fun j => if j = id then fp id else fp j) = fp := by funext j; split <;> simp_all
  rwa [e] at h
theorem OpT.store (hT : T.Ok P) {o : Oper} {s : St} {K : LV → St → Prop} {t tt : Nat} {a x : Operand} {id off : Nat} {l : List LV} (ho : o.op = .store t a x) (ha : evL s a = .ptr id off) (hσ : s.σ id = some (.cells tt l))
    (ht : T.sc t = true) (h1 : oneL (evL s x) = true) (h2 : ownIs s.σ (evL s x) = true) (hoff : off < l.length) (hK : K .junk (s.set id (.cells tt (l.set off (evL s x))))) : OpT P o s K := by
  intro w0 w ι fp f hI
  have hav := hI.ev a
  rw [ha] at hav
  simp only [LRel] at hav
  obtain ⟨b, e1, e2⟩ := hav
  obtain ⟨b', ys, g1, g2, g3, g4, g5⟩ := hI.ob id _ hσ
  rw [e1] at g1
  simp only [Option.some.injEq, Value.pointer.injEq, Addr.mk.injEq, and_true] at g1
  subst g1
  have hxv := hI.ev x
  have hone := hI.own_one hxv h1 (fun j hj => by rw [hj] at h2; exact h2)
  have hc := one_cells hone
  have hlen := g5.length
  have hr : (execOp (evV f) o).run P w = .ok .skip (w.setRow b (ys.set off (evV f x)).toArray) := by
    have := run_storeAt (P := P) (T := T) (w := w) (t := t) (ys := ys) (b := b) (off := off) (tt := tt) (v := evV f x) hT (fun w => by rw [hc]; exact hT.s1 t ht w) g4 (by rw [hc]; simp; omega) (by rw [hc]; simpa using hone)
    simp only [execOp, ho, e2, Sem.run_bind, this, Result.andThen_ok, Sem.run_pure]
    congr 3
    rw [hc]
    have hlt : off < ys.length := by omega
    simp [List.set_eq_take_append_cons_drop, hlt]
  rw [hr]
  exact .skip _ _ _ _ (hI.setCells hσ e1 g4 g3 (LRels.set hxv off g5)) hK
theorem LRels.ones {ι : Nat → Option Value} {fp : Nat → Nat → Prop} {w0 : Base} {w : World} {s : St} {f : Nat → Value} (hI : Inv w0 w ι fp s f) : ∀ {l : List LV} {ys : List Value}, LRels ι (FF s.σ fp) w l ys → l.all (fun x => oneL x && ownIs s.σ x) = true → ∀ u ∈ ys, u.oneCell' = true
  | [], _, h, _, u, hu => by simp only [LRels] at h; subst h; cases hu
  | x :: l, _, h, ha, u, hu => by
    simp only [LRels] at h
    obtain ⟨y, r, rfl, h1, h2⟩ := h
    simp only [List.all_cons, Bool.and_eq_true] at ha
    cases hu with
    | head => exact hI.own_one h1 ha.1.1 (fun j hj => by subst hj; exact ha.1.2)
    | tail _ hu => exact LRels.ones hI h2 ha.2 u hu
theorem OpT.storeAgg (hT : T.Ok P) {o : Oper} {s : St} {K : LV → St → Prop} {t tt : Nat} {a x : Operand} {id k : Nat} {l l' : List LV} (ho : o.op = .store t a x) (ha : evL s a = .ptr id 0) (hσ : s.σ id = some (.cells tt l))
    (ht : T.ag t = some k) (hx : evL s x = .agg l') (h1 : l'.all (fun x => oneL x && ownIs s.σ x) = true) (hl : l.length = k) (hl' : l'.length = k) (hK : K .junk (s.set id (.cells tt l'))) : OpT P o s K := by
  intro w0 w ι fp f hI
  have hav := hI.ev a
  rw [ha] at hav
  simp only [LRel] at hav
  obtain ⟨b, e1, e2⟩ := hav
  obtain ⟨b', ys, g1, g2, g3, g4, g5⟩ := hI.ob id _ hσ
  rw [e1] at g1
  simp only [Option.some.injEq, Value.pointer.injEq, Addr.mk.injEq, and_true] at g1
  subst g1
  have hxv := hI.ev x
  rw [hx] at hxv
  simp only [LRel] at hxv
  obtain ⟨xs, e3, hxs⟩ := hxv
  have hlen := g5.length
  have hlen' := hxs.length
  have hr : (execOp (evV f) o).run P w = .ok .skip (w.setRow b xs.toArray) := by
    have := run_storeAt (P := P) (T := T) (w := w) (t := t) (ys := ys) (b := b) (off := 0) (tt := tt) (v := .agg xs.toArray) hT (fun w => by rw [(hT.ag t k ht w).2]; simp [Value.cells, hlen', hl']) g4 (by simp [Value.cells]; omega) (by simpa [Value.cells] using LRels.ones hI hxs h1)
    simp only [execOp, ho, e2, e3, Sem.run_bind, this, Result.andThen_ok, Sem.run_pure]
    congr 3
    simp [Value.cells]
    omega
  rw [hr]
  exact .skip _ _ _ _ (hI.setCells hσ e1 g4 g3 hxs) hK
end
end Go.Proofs.YtcjhojdlfnpgjaaGreat
namespace Go.Proofs.YtcjhojdlfnpgjaaGreat
open Go.RowKit
section
variable {P : Program} {T : TT}
theorem updI_self (ι : Nat → Option Value) (id : Nat) (v : Value) : updI ι id v id = some v := by simp [updI]
theorem fp_self {α : Type} (fp : Nat → α) (id : Nat) : (fun j => if j = id then fp id else fp j) = fp := by funext j; split <;> simp_all
theorem Inv.setRow {w0 : Base} {w : World} {ι : Nat → Option Value} {fp : Nat → Nat → Prop} {s : St} {f : Nat → Value} (hI : Inv w0 w ι fp s f) {id e g n c : Nat} {vs : List Value} (hσ : s.σ id = some (.row e vs)) (hid : ι id = some (.slice (some ⟨g, 0, none⟩) n c)) (i : Nat) (u : Value) :
    Inv w0 (w.setCell ⟨g, i, none⟩ u) ι fp (s.set id (.row e (vs.set i u))) f := by
  obtain ⟨v, g1, g2, g3⟩ := hI.ob id _ hσ
  rw [hid] at g1
  simp only [Option.some.injEq] at g1
  subst g1
  have hn : n = vs.length := by
    rcases g2.2 with ⟨h, _⟩ | ⟨_, _, _, h, _⟩ <;> simp only [Value.slice.injEq] at h <;> simp_all
  subst hn
  obtain ⟨h1, h2⟩ := g2.stored i u
  have h := hI.turn (w' := w.setCell ⟨g, i, none⟩ u) (ι' := ι) (fun _ => false) id (.row e (vs.set i u)) (fp id) h2.os h2.tape h2.output h2.size (fun k hk hn => h2.block k hk (fun e => hn id _ (.inl rfl) hσ ((g3 k).2 (by rw [e]; rfl))))
    (fun k hk => .inl ⟨id, _, .inl rfl, hσ, hk⟩) (fun _ _ _ e => e) hI.fix (fun hk => ⟨_, hid, by rw [List.length_set]; exact h1, g3⟩)
  rw [turn_none, fp_self] at h
  exact h
theorem OpT.storeRow (hT : T.Ok P) {o : Oper} {s : St} {K : LV → St → Prop} {t e : Nat} {a x : Operand} {id i : Nat} {vs : List Value} {u : Value} (ho : o.op = .store t a x) (ha : evL s a = .pe id i) (hσ : s.σ id = some (.row e vs))
    (ht : T.sc t = true) (hx : evL s x = .v u) (h1 : u.oneCell' = true) (hi : i < vs.length) (hK : K .junk (s.set id (.row e (vs.set i u)))) : OpT P o s K := by
  intro w0 w ι fp f hI
  have hav := hI.ev a
  rw [ha] at hav
  simp only [LRel] at hav
  obtain ⟨g, n, c, e1, e2⟩ := hav
  have hxv := hI.ev x
  rw [hx] at hxv
  simp only [LRel] at hxv
  obtain ⟨v, g1, g2, g3⟩ := hI.ob id _ hσ
  rw [e1] at g1
  simp only [Option.some.injEq] at g1
  subst g1
  obtain ⟨g', cap, e3, hc⟩ := own_cell g2 hi
  simp only [Value.slice.injEq, Option.some.injEq, Addr.mk.injEq, and_true] at e3
  obtain ⟨rfl, rfl, rfl⟩ := e3
  have hfr := g2.frozenAt i
  have hr : (execOp (evV f) o).run P w = .ok .skip (w.setCell ⟨g, i, none⟩ u) := by
    simp [execOp, ho, e2, hxv, Instr.storeAt, Instr.sureAddr, storeVar, hT.s1 t ht w, one_cells h1, storeCells, run_store P w _ u _ h1, hc, hfr, add0, Addr.add]
  rw [hr]
  exact .skip _ _ _ _ (hI.setRow hσ e1 i u) hK
theorem OpT.makeSlice (hT : T.Ok P) {o : Oper} {s : St} {K : LV → St → Prop} {t e : Nat} {z : Value} {bts : Nat} {x : Operand} {kk : IntKind} {m : Int} (ho : o.op = .makeSlice t x x) (ht : T.el t = some (e, z, bts)) (hx : evL s x = .v (.int kk m)) (hm0 : 0 ≤ m) (hm : m ≤ 4294967296) (hb : bts ≤ 64)
    (id : Nat) (hid : 16 ≤ id) (hK : K (.own id) (s.fresh id (.row e (List.replicate m.toNat z)))) : OpT P o s K := by
  intro w0 w ι fp f hI
  have hxv := hI.ev x
  rw [hx] at hxv
  simp only [LRel] at hxv
  obtain ⟨hu, i, hi, hz, hs, rfl, hzc⟩ := hT.el t e z bts ht
  obtain ⟨m, rfl⟩ := Int.eq_ofNat_of_zero_le hm0
  have hbm : i.bytes * m ≤ 281474976710656 := by
    have := Nat.mul_le_mul hb (show m ≤ 4294967296 by omega)
    omega
  have hr := run_make (P := P) w t e i z hu hi hz kk kk m m (by omega) (Int.le_refl _) (by omega) (by omega)
  simp only [hs, Nat.mul_one, hzc] at hr
  have hr' : (execOp (evV f) o).run P w = .ok (.value (.slice (some ⟨w.heap.size, 0, none⟩) m m)) (w.alloc (.cells (madeCells #[z] m) e)) := by
    simp only [execOp, ho, hxv, Sem.run_bind, hr, Result.andThen_ok, Sem.run_pure, Int.toNat_natCast]
  rw [hr']
  have hown := World.ownsRow_lit (base := 0) (size := 1) (e := e) w (madeCells #[z] m) m (Nat.zero_le _) (by simp only [maxLen]; omega) (by rw [size_madeCells]; omega)
  rw [toList_madeCells_one] at hown
  refine .value _ _ _ _ _ _ (hI.fresh hid _ (.slice (some ⟨w.heap.size, 0, none⟩) m m) (.row e (List.replicate m z)) (fun k => k = w.heap.size) (fun _ h => h) fun _ => ?_) ?_ hK
  · exact ⟨_, updI_self _ _ _, by rw [List.length_replicate]; exact hown, fun k => by simp [Value.ownBlock, eq_comm]⟩
  · simp only [LRel]; simp [updI]
theorem fill_ones (pl : Nat → Option (Nat × Nat)) (hpl : ∀ i, pl i = some (i * 1, 1)) : ∀ (ps : List (Nat × Value)) (k : Nat) (cells : Array Value), (∀ j p, ps[j]? = some p → p.1 = k + j ∧ p.2.oneCell' = true) → cells.size = k + ps.length →
    Instr.fill pl cells ps = some (cells.toList.take k ++ ps.map (·.2)).toArray
  | [], k, cells, _, hc => by
    simp only [Instr.fill, List.map_nil, List.append_nil]
    rw [List.take_of_length_le (by simp at hc ⊢; omega)]
  | (i, v) :: ps, k, cells, h, hc => by
    have h0 := h 0 (i, v) rfl
    simp only [Nat.add_zero] at h0
    obtain ⟨rfl, h1⟩ := h0
    have hcell := one_cells h1
    simp only [List.length_cons] at hc
    have hlt : i < cells.size := by omega
    simp only [Instr.fill, hpl, hcell, Nat.mul_one]
    rw [if_neg (by simp; omega)]
    have hz : (#[v].zipIdx.foldl (fun cs (x : Value × Nat) => cs.setIfInBounds (i + x.2) x.1) cells) = cells.setIfInBounds i v := rfl
    have ih := fill_ones pl hpl ps (i + 1) (cells.setIfInBounds i v) (fun j p hj => by
      have := h (j + 1) p (by simpa using hj)
      exact ⟨by omega, this.2⟩) (by simp; omega)
    simp only [hz] 
    rw [ih]
    congr 2
    have hl : i < cells.toList.length := by simpa using hlt
    simp only [Array.toList_setIfInBounds, List.map_cons]
    rw [List.take_succ_eq_append_getElem (by simpa using hl)]
    simp [List.take_set_of_le]
def partsIn : Nat → List (Nat × Operand) → Bool
  | _, [] => true
  | k, (i, _) :: l => i == k && partsIn (k + 1) l
theorem partsIn_get : ∀ {k : Nat} {l : List (Nat × Operand)}, partsIn k l = true → ∀ j p, l[j]? = some p → p.1 = k + j
  | _, [], _, _, _, hj => by simp at hj
  | k, (i, x) :: l, h, j, p, hj => by
    simp only [partsIn, Bool.and_eq_true, beq_iff_eq] at h
    cases j with
    | zero => simp at hj; subst hj; exact h.1
    | succ j => have := partsIn_get h.2 j p (by simpa using hj); omega
theorem run_buildSlice (hT : T.Ok P) {t e : Nat} {z : Value} {bts : Nat} (ht : T.el t = some (e, z, bts)) (w : World) (ps : List (Nat × Value)) (hp : ∀ (j : Nat) (p : Nat × Value), ps[j]? = some p → p.1 = j ∧ p.2.oneCell' = true) (hl : ps.length ≤ 1000) :
    (Instr.buildSlice t ps.length ps.toArray).run P w = .ok (.slice (some ⟨w.heap.size, 0, none⟩) ps.length ps.length) (w.alloc (.cells (ps.map (·.2)).toArray e)) := by
  obtain ⟨hu, i, hi, hz, hs, rfl, hzc⟩ := hT.el t e z bts ht
  have hno : ¬ 16777216 < ps.length := by omega
  have hf : ∀ cells : Array Value, cells.size = ps.length → Instr.fill (fun i => some (i, 1)) cells ps = some (ps.map (·.2)).toArray := fun cells hc => by
    have := fill_ones (fun i => some (i * 1, 1)) (fun _ => rfl) ps 0 cells (fun j p hj => by have := hp j p hj; exact ⟨by omega, this.2⟩) (by omega)
    simpa using this
  by_cases hn : ps.length = 0
  · have : ps = [] := List.eq_nil_of_length_eq_zero hn
    subst this
    simp [Instr.buildSlice, run_underlying hu, sizeOf, typeInfo, hi, hs, newRow, Instr.fill, Array.range_zero']
  · simp [Instr.buildSlice, run_underlying hu, sizeOf, typeInfo, hi, hs, hn, hno, zeroValue, hz, hzc]
    rw [hf _ (by simp)]
    simp [newRow]
theorem parts_lr {w0 : Base} {w : World} {ι : Nat → Option Value} {fp : Nat → Nat → Prop} {s : St} {f : Nat → Value} (hI : Inv w0 w ι fp s f) (ps : List (Nat × Operand)) : LRels ι (FF s.σ fp) w (ps.map fun p => evL s p.2) (ps.map fun p => evV f p.2) := by
  have := LRels.map hI.ev (ps.map (·.2))
  simpa [List.map_map, Function.comp_def] using this
theorem exec_buildSlice (hT : T.Ok P) {o : Oper} {t e : Nat} {z : Value} {bts n : Nat} {parts : Array (Nat × Operand)} (ho : o.op = .buildSlice t n parts) (ht : T.el t = some (e, z, bts)) (hn : n = parts.toList.length) (hl : n ≤ 1000) (hp : partsIn 0 parts.toList = true)
    {s : St} {w0 : Base} {w : World} {ι : Nat → Option Value} {fp : Nat → Nat → Prop} {f : Nat → Value} (hI : Inv w0 w ι fp s f) (h1 : (parts.toList.map fun p => evL s p.2).all (fun x => oneL x && ownIs s.σ x) = true) :
    (execOp (evV f) o).run P w = .ok (.value (.slice (some ⟨w.heap.size, 0, none⟩) n n)) (w.alloc (.cells (parts.toList.map fun p => evV f p.2).toArray e)) := by
  have hones := LRels.ones hI (parts_lr hI parts.toList) h1
  have hr := run_buildSlice hT ht w (parts.toList.map fun p => (p.1, evV f p.2)) (fun j p hj => by
    simp only [List.getElem?_map, Option.map_eq_some_iff] at hj
    obtain ⟨q, hq, rfl⟩ := hj
    refine ⟨by have := partsIn_get hp j q hq; simpa using this, hones _ (List.mem_map.2 ⟨q, List.mem_of_getElem? hq, rfl⟩)⟩) (by simp at hn ⊢; omega)
  simp only [List.length_map, List.map_map, Function.comp_def] at hr
  rw [← hn] at hr
  have hpa : (List.map (fun p => (p.1, evV f p.2)) parts.toList).toArray = parts.map fun (i, x) => (i, evV f x) := by
    apply Array.ext'; simp
  rw [hpa] at hr
  simp only [execOp, ho, Sem.run_bind, hr, Result.andThen_ok, Sem.run_pure]
theorem OpT.buildRow (hT : T.Ok P) {o : Oper} {s : St} {K : LV → St → Prop} {t e : Nat} {z : Value} {bts n : Nat} {parts : Array (Nat × Operand)} (vs : List Value) (ho : o.op = .buildSlice t n parts) (ht : T.el t = some (e, z, bts)) (hn : n = parts.toList.length) (hl : n ≤ 1000) (hp : partsIn 0 parts.toList = true)
    (hx : (parts.toList.map fun p => evL s p.2) = vs.map .v) (h1 : vs.all (·.oneCell') = true) (id : Nat) (hid : 16 ≤ id) (hK : K (.own id) (s.fresh id (.row e vs))) : OpT P o s K := by
  intro w0 w ι fp f hI
  have hr := exec_buildSlice hT ho ht hn hl hp hI (by rw [hx]; simpa [oneL, ownIs, List.all_eq_true] using h1)
  have hv : (parts.toList.map fun p => evV f p.2) = vs := by
    have := parts_lr hI parts.toList
    rw [hx] at this
    clear hr hK h1 hx
    revert this
    generalize (parts.toList.map fun p => evV f p.2) = ys
    induction vs generalizing ys with
    | nil => intro h; simpa only [List.map_nil, LRels] using h
    | cons v vs ih =>
      intro h
      simp only [List.map_cons, LRels, LRel] at h
      obtain ⟨y, r, rfl, rfl, h2⟩ := h
      rw [ih r h2]
  rw [hv] at hr
  rw [hr]
  have hlen : n = vs.length := by rw [hn, ← List.length_map (f := fun p : Nat × Operand => evL s p.2), hx, List.length_map]
  have hown := World.ownsRow_lit (base := 0) (size := 1) (e := e) w vs.toArray n (Nat.zero_le _) (by simp only [maxLen]; omega) (by simp; omega)
  refine .value _ _ _ _ _ _ (hI.fresh hid _ (.slice (some ⟨w.heap.size, 0, none⟩) n n) (.row e vs) (fun k => k = w.heap.size) (fun _ h => h) fun _ => ?_) ?_ hK
  · exact ⟨_, updI_self _ _ _, by rw [← hlen]; simpa using hown, fun k => by simp [Value.ownBlock, eq_comm]⟩
  · simp only [LRel]; simp [updI]
theorem OpT.buildRowL (hT : T.Ok P) {o : Oper} {s : St} {K : LV → St → Prop} {t e : Nat} {z : Value} {bts n : Nat} {parts : Array (Nat × Operand)} (ho : o.op = .buildSlice t n parts) (ht : T.el t = some (e, z, bts)) (hn : n = parts.toList.length) (hl : n ≤ 1000) (hp : partsIn 0 parts.toList = true)
    (h1 : (parts.toList.map fun p => evL s p.2).all (fun x => oneL x && ownIs s.σ x) = true) (id : Nat) (hid : 16 ≤ id) (hno : kills (fun j => j == id) (parts.toList.map fun p => evL s p.2) = (parts.toList.map fun p => evL s p.2))
    (hK : K (.own id) (s.fresh id (.rowL e (parts.toList.map fun p => evL s p.2)))) : OpT P o s K := by
  intro w0 w ι fp f hI
  rw [exec_buildSlice hT ho ht hn hl hp hI h1]
  have hown := World.ownsRow_lit (base := 0) (size := 1) (e := e) w (parts.toList.map fun p => evV f p.2).toArray n (Nat.zero_le _) (by simp only [maxLen]; omega) (by simp at hn ⊢; omega)
  refine .value _ _ _ _ _ _ (hI.fresh hid _ (.slice (some ⟨w.heap.size, 0, none⟩) n n) (.rowL e (parts.toList.map fun p => evL s p.2)) (fun k => k = w.heap.size) (fun _ h => h) fun hk => ?_) ?_ hK
  · refine ⟨_, parts.toList.map fun p => evV f p.2, updI_self _ _ _, by rw [List.length_map, ← hn]; simpa using hown, fun k => by simp [Value.ownBlock, eq_comm], ?_⟩
    have hh := (parts_lr hI parts.toList).kills (ι' := updI ι id (.slice (some ⟨w.heap.size, 0, none⟩) n n)) (q := fun j => j == id) (kill_is fun j hj => by simp only [updI, if_neg hj]) hk
    rwa [hno] at hh
  · simp only [LRel]; simp [updI]
def cell0 (v : Value) : Value := v.cells.getD 0 undef
theorem fill_cells (pl : Nat → Option (Nat × Nat)) (hpl : ∀ i, pl i = some (i * 1, 1)) : ∀ (ps : List (Nat × Value)) (k : Nat) (cells : Array Value), (∀ (j : Nat) (p : Nat × Value), ps[j]? = some p → p.1 = k + j ∧ p.2.cells = #[cell0 p.2]) → cells.size = k + ps.length →
    Instr.fill pl cells ps = some (cells.toList.take k ++ ps.map (fun p => cell0 p.2)).toArray
  | [], k, cells, _, hc => by
    simp only [Instr.fill, List.map_nil, List.append_nil]
    rw [List.take_of_length_le (by simp at hc ⊢; omega)]
  | (i, v) :: ps, k, cells, h, hc => by
    have h0 := h 0 (i, v) rfl
    simp only [Nat.add_zero] at h0
    obtain ⟨rfl, hcell⟩ := h0
    simp only [List.length_cons] at hc
    have hlt : i < cells.size := by omega
    simp only [Instr.fill, hpl, Nat.mul_one]
    rw [hcell, if_neg (by simp; omega)]
    have hz : (#[cell0 v].zipIdx.foldl (fun cs (x : Value × Nat) => cs.setIfInBounds (i + x.2) x.1) cells) = cells.setIfInBounds i (cell0 v) := rfl
    have ih := fill_cells pl hpl ps (i + 1) (cells.setIfInBounds i (cell0 v)) (fun j p hj => by
      have := h (j + 1) p (by simpa using hj)
      exact ⟨by omega, this.2⟩) (by simp; omega)
    simp only [hz]
    rw [ih]
    congr 2
    have hl : i < cells.toList.length := by simpa using hlt
    simp only [Array.toList_setIfInBounds, List.map_cons]
    rw [List.take_succ_eq_append_getElem (by simpa using hl)]
    simp [List.take_set_of_le]
theorem run_buildAggs (hT : T.Ok P) {t e : Nat} (ht : T.ea t = some e) (w : World) (ps : List (Nat × Value)) (hp : ∀ (j : Nat) (p : Nat × Value), ps[j]? = some p → p.1 = j ∧ p.2.cells = #[cell0 p.2]) (hl : ps.length ≤ 1000) (h0 : ps.length ≠ 0) :
    (Instr.buildSlice t ps.length ps.toArray).run P w = .ok (.slice (some ⟨w.heap.size, 0, none⟩) ps.length ps.length) (w.alloc (.cells (ps.map (fun p => cell0 p.2)).toArray e)) := by
  obtain ⟨hu, i, z, hi, hz, hs, hzc⟩ := hT.ea t e ht
  have hno : ¬ 16777216 < ps.length := by omega
  have hf : ∀ cells : Array Value, cells.size = ps.length → Instr.fill (fun i => some (i, 1)) cells ps = some (ps.map (fun p => cell0 p.2)).toArray := fun cells hc => by
    have := fill_cells (fun i => some (i * 1, 1)) (fun _ => rfl) ps 0 cells (fun j p hj => by have := hp j p hj; exact ⟨by omega, this.2⟩) (by omega)
    simpa using this
  simp [Instr.buildSlice, run_underlying hu, sizeOf, typeInfo, hi, hs, h0, hno, zeroValue, hz]
  rw [hf _ (by simp)]
  simp [newRow]
theorem aggs_lr {ι : Nat → Option Value} {F : Nat → Prop} {w : World} : ∀ {ls : List LV} {ys : List Value}, LRels ι F w (ls.map fun x => .agg [x]) ys → LRels ι F w ls (ys.map cell0) ∧ ∀ y ∈ ys, y.cells = #[cell0 y]
  | [], ys, h => by simp only [List.map_nil, LRels] at h; subst h; exact ⟨by simp only [List.map_nil, LRels], fun y hy => by cases hy⟩
  | x :: ls, ys, h => by
    simp only [List.map_cons, LRels, LRel] at h
    obtain ⟨y, r, rfl, ⟨zs, rfl, z, q, rfl, hz, rfl⟩, h2⟩ := h
    obtain ⟨h3, h4⟩ := aggs_lr h2
    refine ⟨?_, fun y hy => ?_⟩
    · simp only [List.map_cons, LRels]; exact ⟨_, _, rfl, hz, h3⟩
    · cases hy with
      | head => rfl
      | tail _ hy => exact h4 y hy
theorem OpT.buildAggs (hT : T.Ok P) {o : Oper} {s : St} {K : LV → St → Prop} {t e n : Nat} {parts : Array (Nat × Operand)} (ls : List LV) (ho : o.op = .buildSlice t n parts) (ht : T.ea t = some e) (hn : n = parts.toList.length) (hn0 : n ≠ 0) (hl : n ≤ 1000) (hp : partsIn 0 parts.toList = true)
    (hx : (parts.toList.map fun p => evL s p.2) = ls.map fun x => .agg [x]) (id : Nat) (hid : 16 ≤ id) (hno : kills (fun j => j == id) ls = ls) (hK : K (.own id) (s.fresh id (.rowL e ls))) : OpT P o s K := by
  intro w0 w ι fp f hI
  have hlr := parts_lr hI parts.toList
  rw [hx] at hlr
  obtain ⟨h1, h2⟩ := aggs_lr hlr
  have hr := run_buildAggs hT ht w (parts.toList.map fun p => (p.1, evV f p.2)) (fun j p hj => by
    simp only [List.getElem?_map, Option.map_eq_some_iff] at hj
    obtain ⟨q, hq, rfl⟩ := hj
    exact ⟨by have := partsIn_get hp j q hq; simpa using this, h2 _ (List.mem_map.2 ⟨q, List.mem_of_getElem? hq, rfl⟩)⟩) (by simp at hn ⊢; omega) (by rw [List.length_map]; omega)
  simp only [List.length_map, List.map_map, Function.comp_def] at hr
  rw [← hn] at hr
  have hpa : (List.map (fun p => (p.1, evV f p.2)) parts.toList).toArray = parts.map fun (i, x) => (i, evV f x) := by
    apply Array.ext'; simp
  rw [hpa] at hr
  have hr' : (execOp (evV f) o).run P w = .ok (.value (.slice (some ⟨w.heap.size, 0, none⟩) n n)) (w.alloc (.cells (parts.toList.map fun p => cell0 (evV f p.2)).toArray e)) := by
    simp only [execOp, ho, Sem.run_bind, hr, Result.andThen_ok, Sem.run_pure]
  rw [hr']
  have hm : (parts.toList.map fun p => evV f p.2).map cell0 = parts.toList.map fun p => cell0 (evV f p.2) := by simp [List.map_map, Function.comp_def]
  rw [hm] at h1
  have hown := World.ownsRow_lit (base := 0) (size := 1) (e := e) w (parts.toList.map fun p => cell0 (evV f p.2)).toArray n (Nat.zero_le _) (by simp only [maxLen]; omega) (by simp at hn ⊢; omega)
  refine .value _ _ _ _ _ _ (hI.fresh hid _ (.slice (some ⟨w.heap.size, 0, none⟩) n n) (.rowL e ls) (fun k => k = w.heap.size) (fun _ h => h) fun hk => ?_) ?_ hK
  · refine ⟨_, parts.toList.map fun p => cell0 (evV f p.2), updI_self _ _ _, by rw [List.length_map, ← hn]; simpa using hown, fun k => by simp [Value.ownBlock, eq_comm], ?_⟩
    have hh := h1.kills (ι' := updI ι id (.slice (some ⟨w.heap.size, 0, none⟩) n n)) (q := fun j => j == id) (kill_is fun j hj => by simp only [updI, if_neg hj]) hk
    rwa [hno] at hh
  · simp only [LRel]; simp [updI]
end
end Go.Proofs.YtcjhojdlfnpgjaaGreat
namespace Go.Proofs.YtcjhojdlfnpgjaaGreat
open Go.RowKit
section
variable {P : Program} {T : TT}
inductive News (s : St) (id : Nat) : LV → List Value → Prop
  | rd (ws : List Value) : News s id (.rd ws) ws
  | own (j e : Nat) (ws : List Value) (hj : j ≠ id) (h : s.σ j = some (.row e ws)) : News s id (.own j) ws
theorem News.cells {w0 : Base} {w : World} {ι : Nat → Option Value} {fp : Nat → Nat → Prop} {s : St} {f : Nat → Value} (hI : Inv w0 w ι fp s f) {id : Nat} {x : LV} {ws : List Value} {v : Value} (h : News s id x ws) (hr : LRel ι (FF s.σ fp) w x v) :
    ∃ A c, v = .slice A ws.length c ∧ (0 < ws.length → ∃ a, A = some a ∧ ∀ j u, ws[j]? = some u → w.cell? (a.add j) = some u) := by
  cases h with
  | rd ws =>
    simp only [LRel, RS] at hr
    obtain ⟨A, c, e, _, hR⟩ := hr
    exact ⟨A, c, e, fun hp => let ⟨ad, e, _, h⟩ := hR.2 hp; ⟨ad, e, h⟩⟩
  | own j e ws hj h =>
    obtain ⟨u, h1, h2, h3⟩ := hI.ob j _ h
    simp only [LRel] at hr
    rw [hr] at h1
    simp only [Option.some.injEq] at h1
    subst h1
    rcases h2.2 with ⟨rfl, h0⟩ | ⟨g, cap, cur, rfl, _⟩
    · exact ⟨none, 0, by rw [h0], fun hp => by omega⟩
    · exact ⟨_, cap, rfl, fun _ => ⟨_, rfl, fun i u hu => h2.cells (g := g) rfl i u hu⟩⟩
theorem run_append_no (w : World) (base : Nat) (t ty e : TypeId) (i : TypeInfo) (size : Nat) (ht : P.underlying t = some (.slice e)) (hi : P.info? e = some i)
    (v : Value) (n : Nat) (xs : List Value) (hown : w.ownsRow base e size v n xs) (A : Option Addr) (c : Nat) (hA : A = none ∨ ∃ a, A = some a) :
    ∃ v', (Builtin.append_ #[t, t] ty #[v, .slice A 0 c]).run P w = .ok v' w ∧ w.ownsRow base e size v' n xs ∧ v'.ownBlock = v.ownBlock := by
  rcases hown.2 with ⟨rfl, rfl⟩ | ⟨g, cap, cur, rfl, _, _, hnc, _⟩
  · cases A with
    | none => exact ⟨.slice none 0 0, by simp [Builtin.append_, run_underlying ht, sizeOf, typeInfo, hi, Builtin.lenOf, Builtin.firstCells], hown, rfl⟩
    | some a => exact ⟨.slice none 0 0, by simp [Builtin.append_, run_underlying ht, sizeOf, typeInfo, hi, Builtin.lenOf, Builtin.firstCells, loadCells, loadCellsFrom], hown, rfl⟩
  · cases A with
    | none => exact ⟨_, by simp [Builtin.append_, run_underlying ht, sizeOf, typeInfo, hi, Builtin.lenOf, Builtin.firstCells, hnc, storeCells], hown, rfl⟩
    | some a => exact ⟨_, by simp [Builtin.append_, run_underlying ht, sizeOf, typeInfo, hi, Builtin.lenOf, Builtin.firstCells, hnc, storeCells, loadCells, loadCellsFrom], hown, rfl⟩
theorem run_append_row (hT : T.Ok P) {t e : Nat} {z : Value} {bts : Nat} (ht : T.el t = some (e, z, bts)) (hb : bts ≤ 64) (w : World) (ty : Nat) {v : Value} {xs ws : List Value} (hown : w.ownsRow 0 e 1 v xs.length xs) {A : Option Addr} {c : Nat}
    (hA : 0 < ws.length → ∃ a, A = some a ∧ ∀ j u, ws[j]? = some u → w.cell? (a.add j) = some u) (h1 : ∀ u ∈ ws, u.oneCell' = true) (hlen : xs.length + ws.length ≤ 1099511627776) :
    ∃ v' w', (Builtin.append_ #[t, t] ty #[v, .slice A ws.length c]).run P w = .ok v' w' ∧ w'.ownsRow 0 e 1 v' (xs ++ ws).length (xs ++ ws) ∧ w.grownBy w' v.ownBlock ∧ (v'.ownBlock = v.ownBlock ∨ v'.ownBlock = some w.heap.size) := by
  obtain ⟨hu, i, hi, hz, hs, rfl, hzc⟩ := hT.el t e z bts ht
  by_cases h0 : ws.length = 0
  · have : ws = [] := List.eq_nil_of_length_eq_zero h0
    subst this
    obtain ⟨v', hr, h2, h3⟩ := run_append_no (P := P) w 0 t ty e i 1 hu hi v xs.length xs hown A c (by cases A; exact .inl rfl; exact .inr ⟨_, rfl⟩)
    exact ⟨v', w, hr, by simpa using h2, ⟨rfl, rfl, rfl, Nat.le_refl _, fun _ _ _ => rfl⟩, .inl h3⟩
  · obtain ⟨a, rfl, hc⟩ := hA (by omega)
    have hbb : (xs.length + ws.length) * i.bytes ≤ 140737488355328 := by
      have := Nat.mul_le_mul hlen hb
      omega
    obtain ⟨v', w', hr, h2, h3, _, h5⟩ := run_append_own_at (P := P) w 0 t ty e i z 1 i.bytes hu hi hz hs rfl (by rw [hzc]; rfl) (by omega) v xs.length xs hown a ws.length c ws (by omega) hc h1 (by simp only [maxLen]; omega) hbb (Nat.zero_le _)
    exact ⟨v', w', hr, by rw [List.length_append]; exact h2, h3, h5⟩
theorem OpT.append (hT : T.Ok P) {o : Oper} {s : St} {K : LV → St → Prop} {t e : Nat} {z : Value} {bts : Nat} {a b : Operand} {id : Nat} {vs ws : List Value} (ho : o.op = .call { callee := .builtin .append, args := #[a, b], argTypes := #[t, t] })
    (ht : T.el t = some (e, z, bts)) (hb : bts ≤ 64) (ha : evL s a = .own id) (hid : 16 ≤ id) (hσ : s.σ id = some (.row e vs)) (hn : News s id (evL s b) ws) (h1 : ∀ u ∈ ws, u.oneCell' = true) (hlen : vs.length + ws.length ≤ 1099511627776)
    (hK : K (.own id) (s.fresh id (.row e (vs ++ ws)))) : OpT P o s K := by
  intro w0 w ι fp f hI
  have hav := hI.ev a
  rw [ha] at hav
  simp only [LRel] at hav
  obtain ⟨v, g1, g2, g3⟩ := hI.ob id _ hσ
  rw [hav] at g1
  simp only [Option.some.injEq] at g1
  subst g1
  obtain ⟨A, c, e2, hA⟩ := hn.cells hI (hI.ev b)
  obtain ⟨v', w', hr, h2, h3, h4⟩ := run_append_row (P := P) hT ht hb w o.type g2 hA h1 hlen (c := c)
  have hr' : (execOp (evV f) o).run P w = .ok (.value v') w' := by
    simp only [execOp, ho, resolve, invoke, builtin, Sem.run_bind, Sem.run_pure, Result.andThen_ok, List.map_toArray, List.map_cons, List.map_nil, e2, hr]
  rw [hr']
  refine .value _ _ _ _ _ _ (hI.turn (w' := w') (ι' := updI ι id v') (fun j => j == id) id (.row e (vs ++ ws)) (fun k => v'.ownBlock = some k) h3.os h3.tape h3.output h3.size (fun k hk hn => h3.block k hk fun e => hn id _ (.inl rfl) hσ ((g3 k).2 e.symm))
    (fun k hk => ?_) (kill_is fun j hj => by simp only [updI, if_neg hj]) (updI_fix hI hid v') fun _ => ⟨v', updI_self _ _ _, h2, fun k => Iff.rfl⟩) ?_ hK
  · rcases h4 with h4 | h4
    · exact .inl ⟨id, _, .inl rfl, hσ, (g3 k).2 (by rw [← h4]; exact hk)⟩
    · rw [h4] at hk
      simp only [Option.some.injEq] at hk
      exact .inr (by omega)
  · simp only [LRel]; exact updI_self _ _ _
theorem OwnAll.mono {w : World} {base e : Nat} : ∀ {t : List (List Value)} {hs : List Value} {fp fp' : Nat → Prop}, OwnAll w base e fp t hs → (∀ k, fp k → fp' k) → OwnAll w base e fp' t hs
  | [], _, _, _, h, _ => h
  | r :: t, hs, fp, fp', ⟨h, hs', e1, h1, h2, h3⟩, hf => ⟨h, hs', e1, h1, fun k hk => hf k (h2 k hk), h3.mono fun k hk => ⟨hf k hk.1, hk.2⟩⟩
theorem OwnAll.append {w : World} {base e : Nat} {r : List Value} {h0 : Value} : ∀ {t : List (List Value)} {hs : List Value} {fp : Nat → Prop}, OwnAll w base e fp t hs → w.ownsRow base e 1 h0 r.length r → (∀ k, h0.ownBlock = some k → ¬ fp k) →
    OwnAll w base e (fun k => fp k ∨ h0.ownBlock = some k) (t ++ [r]) (hs ++ [h0])
  | [], _, fp, h, hr, hd => by
    simp only [OwnAll] at h
    subst h
    exact ⟨h0, [], rfl, hr, fun k hk => .inr hk, rfl⟩
  | r' :: t, hs, fp, ⟨h, hs', e1, h1, h2, h3⟩, hr, hd => by
    subst e1
    refine ⟨h, hs' ++ [h0], rfl, h1, fun k hk => .inl (h2 k hk), ?_⟩
    refine (h3.append hr fun k hk hq => hd k hk hq.1).mono ?_
    rintro k (hk | hk)
    · exact ⟨.inl hk.1, hk.2⟩
    · exact ⟨.inr hk, fun e => hd k hk (h2 k e)⟩
theorem OwnAll.length {w : World} {base e : Nat} : ∀ {t : List (List Value)} {hs : List Value} {fp : Nat → Prop}, OwnAll w base e fp t hs → hs.length = t.length
  | [], _, _, h => by rw [show _ = [] from h]; rfl
  | r :: t, hs, fp, ⟨h, hs', e1, h1, h2, h3⟩ => by subst e1; simp [h3.length]
theorem OpT.appendRows (hT : T.Ok P) {o : Oper} {s : St} {K : LV → St → Prop} {t e e' : Nat} {z : Value} {bts : Nat} {a b : Operand} {id j k : Nat} {tt : List (List Value)} {vs : List Value} {e2 : Nat} (ho : o.op = .call { callee := .builtin .append, args := #[a, b], argTypes := #[t, t] })
    (ht : T.el t = some (e, z, bts)) (hb : bts ≤ 64) (ha : evL s a = .own id) (hid : 16 ≤ id) (hσ : s.σ id = some (.rows e e' tt)) (hbv : evL s b = .own j) (hj : s.σ j = some (.rowL e2 [.own k])) (hk : s.σ k = some (.row e' vs)) (hjid : j ≠ id) (hkid : k ≠ id) (hlen : tt.length + 1 ≤ 1099511627776)
    (hK : K (.own id) (s.turn (fun i => i == id || i == k) id (.rows e e' (tt ++ [vs])))) : OpT P o s K := by
  intro w0 w ι fp f hI
  have hav := hI.ev a
  rw [ha] at hav
  simp only [LRel] at hav
  obtain ⟨v, hs, g1, g2, g3, g4, g5⟩ := hI.ob id _ hσ
  rw [hav] at g1
  simp only [Option.some.injEq] at g1
  subst g1
  have hbv' := hI.ev b
  rw [hbv] at hbv'
  simp only [LRel] at hbv'
  obtain ⟨u, ys, q1, q2, q3, q4⟩ := hI.ob j _ hj
  rw [hbv'] at q1
  simp only [Option.some.injEq] at q1
  subst q1
  simp only [LRels, LRel] at q4
  obtain ⟨y, r, rfl, hy, rfl⟩ := q4
  obtain ⟨y', p1, p2, p3⟩ := hI.ob k _ hk
  rw [hy] at p1
  simp only [Option.some.injEq] at p1
  subst p1
  obtain ⟨A, c, e3, hA⟩ : ∃ A c, evV f b = .slice A [y].length c ∧ (0 < [y].length → ∃ a, A = some a ∧ ∀ j u, [y][j]? = some u → w.cell? (a.add j) = some u) := by
    rcases q2.2 with ⟨_, h0⟩ | ⟨g, cap, cur, e, _⟩
    · simp at h0
    · rw [e] at q2 ⊢
      exact ⟨_, cap, rfl, fun _ => ⟨_, rfl, fun i u hu => q2.cells (g := g) rfl i u hu⟩⟩
  have hone : ∀ u ∈ [y], u.oneCell' = true := by
    intro u hu
    simp only [List.mem_singleton] at hu
    subst hu
    obtain ⟨A, cap, rfl⟩ := own_len p2
    rfl
  obtain ⟨v', w', hr, h2, h3, h4⟩ := run_append_row (P := P) hT ht hb w o.type g2 hA hone (by rw [g4.length]; simpa using hlen) (c := c)
  have hr' : (execOp (evV f) o).run P w = .ok (.value v') w' := by
    simp only [execOp, ho, resolve, invoke, builtin, Sem.run_bind, Sem.run_pure, Result.andThen_ok, List.map_toArray, List.map_cons, List.map_nil, e3, hr]
  rw [hr']
  have hdis : ∀ q, fp id q → fp k q → False := fun q h1 h2 => hkid (hI.dis _ _ _ _ q hk hσ h2 h1)
  have hlt := hI.lt
  have hyold : ∀ q, y.ownBlock = some q → v'.ownBlock ≠ some q := by
    intro q hq hv
    have hq' : fp k q := (p3 q).2 hq
    rcases h4 with h4 | h4
    · rw [h4] at hv; exact hdis q (g3 q hv) hq'
    · rw [h4] at hv; simp only [Option.some.injEq] at hv; have := (hlt q ⟨k, _, hk, hq'⟩).2; omega
  have hnew : ∀ q, v'.ownBlock = some q → fp id q ∧ v'.ownBlock = (evV f a).ownBlock ∨ q = w.heap.size := by
    intro q hv
    rcases h4 with h4 | h4
    · exact .inl ⟨g3 q (by rw [← h4]; exact hv), h4⟩
    · rw [h4] at hv; simp only [Option.some.injEq] at hv; exact .inr hv.symm
  refine .value _ _ _ _ _ _ (hI.turn (w' := w') (ι' := updI ι id v') (fun i => i == id || i == k) id (.rows e e' (tt ++ [vs])) (fun q => fp id q ∨ fp k q ∨ v'.ownBlock = some q) h3.os h3.tape h3.output h3.size (fun q hq hn => h3.block q hq fun e => hn id _ (.inl rfl) hσ (g3 q e.symm))
    (fun q hq => ?_) (fun i u hi e => ?_) (updI_fix hI hid v') fun _ => ?_) ?_ hK
  · rcases hq with hq | hq | hq
    · exact .inl ⟨id, _, .inl rfl, hσ, hq⟩
    · exact .inl ⟨k, _, .inr (by simp), hk, hq⟩
    · rcases hnew q hq with h | h
      · exact .inl ⟨id, _, .inl rfl, hσ, h.1⟩
      · exact .inr (by omega)
  · simp only [Bool.or_eq_false_iff, beq_eq_false_iff_ne, ne_eq] at hi
    simp only [updI, if_neg hi.1]
    exact e
  · have keep4 : OwnAll w' 0 e' (fun q => fp id q ∧ (evV f a).ownBlock ≠ some q) tt hs := g4.keeps fun q hq => h3.block q (g5 q hq.1).2 fun e => hq.2 e.symm
    have keepy : w'.ownsRow 0 e' 1 y vs.length vs := own_keeps p2 fun q hq => h3.block q (p2.lt q hq).2 fun e => hdis q (g3 q e.symm) ((p3 q).2 hq)
    refine ⟨v', hs ++ [y], updI_self _ _ _, h2, fun q hq => .inr (.inr hq), ?_, fun q hq => ⟨Nat.zero_le _, ?_⟩⟩
    · refine (keep4.append keepy fun q hq h => hdis q h.1 ((p3 q).2 hq)).mono ?_
      rintro q (⟨h, hne⟩ | h)
      · refine ⟨.inl h, fun hv => ?_⟩
        rcases hnew q hv with h' | h'
        · rw [h'.2] at hv; exact hne hv
        · have := (hlt q ⟨id, _, hσ, h⟩).2; omega
      · exact ⟨.inr (.inl ((p3 q).2 h)), hyold q h⟩
    · rcases hq with hq | hq | hq
      · exact Nat.lt_of_lt_of_le (hlt q ⟨id, _, hσ, hq⟩).2 h3.size
      · exact Nat.lt_of_lt_of_le (hlt q ⟨k, _, hk, hq⟩).2 h3.size
      · exact (h2.lt q hq).2
  · simp only [LRel]; exact updI_self _ _ _
end
end Go.Proofs.YtcjhojdlfnpgjaaGreat
namespace Go.Proofs.YtcjhojdlfnpgjaaGreat
open Go.RowKit
section
variable {P : Program} {T : TT}
theorem OwnAll.set {w : World} {base e : Nat} {r : List Value} {h0 : Value} : ∀ {t : List (List Value)} {hs : List Value} {fp : Nat → Prop} (i : Nat), OwnAll w base e fp t hs → w.ownsRow base e 1 h0 r.length r → (∀ k, h0.ownBlock = some k → ¬ fp k) →
    OwnAll w base e (fun k => fp k ∨ h0.ownBlock = some k) (t.set i r) (hs.set i h0)
  | [], _, fp, i, h, hr, hd => by
    simp only [OwnAll] at h
    subst h
    simp only [List.set_nil, OwnAll]
  | r' :: t, hs, fp, 0, ⟨h, hs', e1, h1, h2, h3⟩, hr, hd => by
    subst e1
    exact ⟨h0, hs', rfl, hr, fun k hk => .inr hk, h3.mono fun k hk => ⟨.inl hk.1, fun e => hd k e hk.1⟩⟩
  | r' :: t, hs, fp, i + 1, ⟨h, hs', e1, h1, h2, h3⟩, hr, hd => by
    subst e1
    refine ⟨h, hs'.set i h0, rfl, h1, fun k hk => .inl (h2 k hk), ?_⟩
    refine (h3.set i hr fun k hk hq => hd k hk hq.1).mono ?_
    rintro k (hk | hk)
    · exact ⟨.inl hk.1, hk.2⟩
    · exact ⟨.inr hk, fun e => hd k hk (h2 k e)⟩
theorem Here.conv {n : Nat} {c : Code} {s s' : St} {k : Kont} (hc : Conv s s') (h : Here P n c s' k) : Here P n c s k := fun w0 w ι fp f a hf hI =>
  let ⟨ι', fp', hI'⟩ := hc w0 w ι fp f hI
  h w0 w ι' fp' f a hf hI'
theorem HereV.conv {n : Nat} {c : Code} {s s' : St} {k : Kont} (hc : Conv s s') (h : HereV P T n c s' k) : HereV P T n c s k := fun h1 h2 => Here.conv hc (h h1 h2)
theorem OpsT.conv {n : Nat} {all : Array Oper} {l : List Oper} {s s' : St} {K : St → Prop} (hc : Conv s s') (h : OpsT P all n l s' K) : OpsT P all n l s K := fun w0 w ι fp f a Q hf hI hQ =>
  let ⟨ι', fp', hI'⟩ := hc w0 w ι fp f hI
  h w0 w ι' fp' f a Q hf hI' hQ
theorem OpT.conv {o : Oper} {s s' : St} {K : LV → St → Prop} (hc : Conv s s') (h : OpT P o s' K) : OpT P o s K := fun w0 w ι fp f hI =>
  let ⟨ι', fp', hI'⟩ := hc w0 w ι fp f hI
  h w0 w ι' fp' f hI'
theorem HereO.conv {n : Nat} {all : Array Oper} {o : Oper} {l : List Oper} {s s' : St} {k : Kont} (hc : Conv s s') (h : HereO P T n all o l s' k) : HereO P T n all o l s k := fun hl hk => OpT.conv hc (h hl hk)
theorem Conv.trans {a b c : St} (h1 : Conv a b) (h2 : Conv b c) : Conv a c := fun w0 w ι fp f hI =>
  let ⟨ι', fp', hI'⟩ := h1 w0 w ι fp f hI
  h2 w0 w ι' fp' f hI'
theorem Conv.le {s s' : St} (h : Le s s') : Conv s s' := fun _ _ ι fp _ hI => ⟨ι, fp, hI.le h⟩
def nilV : Value := .slice none 0 0
theorem ownAll_nils (w : World) (e : Nat) : ∀ (n : Nat) (q : Nat → Prop), OwnAll w 0 e q (List.replicate n []) (List.replicate n nilV)
  | 0, _ => rfl
  | n + 1, q => ⟨nilV, List.replicate n nilV, rfl, World.ownsRow_nil _ _ _ _, fun k hk => by simp [nilV, Value.ownBlock] at hk, ownAll_nils w e n _⟩
theorem Conv.rows {s : St} {id e : Nat} (e' n : Nat) (hσ : s.σ id = some (.row e (List.replicate n nilV))) : Conv s (s.set id (.rows e e' (List.replicate n []))) := by
  intro w0 w ι fp f hI
  obtain ⟨v, g1, g2, g3⟩ := hI.ob id _ hσ
  have h := hI.turn (w' := w) (ι' := ι) (fun _ => false) id (.rows e e' (List.replicate n [])) (fp id) rfl rfl rfl (Nat.le_refl _) (fun k hk hn => rfl)
    (fun k hk => .inl ⟨id, _, .inl rfl, hσ, hk⟩) (fun _ _ _ e => e) hI.fix (fun hk => ⟨v, List.replicate n nilV, g1, g2, fun k hk => (g3 k).2 hk, ?_, fun k hk => g2.lt k ((g3 k).1 hk)⟩)
  · rw [turn_none, fp_self] at h
    exact ⟨_, _, h⟩
  · exact ownAll_nils w e' n _
section
variable {n : Nat} {all : Array Oper} {o : Oper} {l : List Oper} {s : St} {k : Kont}
theorem HereO.of (hT : T.Ok P) {s' : St} {r : LV} (h : OpsV P T n all l (s'.put o.dst r) k) (ho : ∀ {K : LV → St → Prop}, K r s' → OpT P o s K) : HereO P T n all o l s k :=
  fun hl hk => ho (K := fun r s' => OpsT P all n l (s'.put o.dst r) (KN P n k).1) (OpsV_sound hT hl hk h)
theorem HereO.call (hT : T.Ok P) {fo : Operand} {as : Array Operand} {ts : Array TypeId} {g : Nat} {caps : List LV} {args : List LV} {r : LV} {os : List OC} (ho : o.op = .call { callee := .value fo, args := as, argTypes := ts })
    (hf : evL s fo = .fn g caps) (hs : Spec P g args r os) (ha : closeBs s.σ (as.toList.map (evL s) ++ caps) = args) (hp : plainL r = true) (h : OpsV P T n all l (s.put o.dst (closeA (osF os) r)) k) : HereO P T n all o l s k :=
  HereO.of hT h fun hK => OpT.call ho hf (by rw [ha]; exact hs) hp hK
theorem HereO.callOwn (hT : T.Ok P) {fo : Operand} {as : Array Operand} {ts : Array TypeId} {g : Nat} {caps : List LV} {args : List LV} {r : LV} {os : List OC} (d : Nat) (ho : o.op = .call { callee := .value fo, args := as, argTypes := ts })
    (hf : evL s fo = .fn g caps) (hs : Spec P g args r os) (ha : closeBs s.σ (as.toList.map (evL s) ++ caps) = args) (hp : plainL r = true) (hlen : os.length ≤ 16) (hpo : os.all plainO = true) (h : OpsV P T n all l ((s.take d os).put o.dst (ren (shift d) r)) k) : HereO P T n all o l s k :=
  HereO.of hT h fun hK => OpT.callOwn ho hf (by rw [ha]; exact hs) hp hlen hpo hK
theorem HereO.alloc (hT : T.Ok P) {t : Nat} {z : Value} (id : Nat) (ho : o.op = .alloc t) (hz : T.zr t = some z) (hid : 16 ≤ id) (h : OpsV P T n all l ((s.fresh id (.cells t (zlv z))).put o.dst (.ptr id 0)) k) : HereO P T n all o l s k :=
  HereO.of hT h fun hK => OpT.alloc hT ho hz id hid hK
theorem HereO.store (hT : T.Ok P) {t tt : Nat} {a x : Operand} {id off : Nat} {c : List LV} {y : LV} (ho : o.op = .store t a x) (ha : evL s a = .ptr id off) (hσ : s.σ id = some (.cells tt c))
    (ht : T.sc t = true) (hx : evL s x = y) (h1 : oneL y = true) (h2 : ownIs s.σ y = true) (hoff : off < c.length) (h : OpsV P T n all l ((s.set id (.cells tt (c.set off y))).put o.dst .junk) k) : HereO P T n all o l s k := by
  subst hx
  exact HereO.of hT h fun hK => OpT.store hT ho ha hσ ht h1 h2 hoff hK
theorem HereO.storeAgg (hT : T.Ok P) {t tt kk : Nat} {a x : Operand} {id : Nat} {c c' : List LV} (ho : o.op = .store t a x) (ha : evL s a = .ptr id 0) (hσ : s.σ id = some (.cells tt c))
    (ht : T.ag t = some kk) (hx : evL s x = .agg c') (h1 : c'.all (fun x => oneL x && ownIs s.σ x) = true) (hc : c.length = kk) (hc' : c'.length = kk) (h : OpsV P T n all l ((s.set id (.cells tt c')).put o.dst .junk) k) : HereO P T n all o l s k :=
  HereO.of hT h fun hK => OpT.storeAgg hT ho ha hσ ht hx h1 hc hc' hK
theorem HereO.storeRow (hT : T.Ok P) {t e : Nat} {a x : Operand} {id i : Nat} {vs : List Value} {u : Value} (ho : o.op = .store t a x) (ha : evL s a = .pe id i) (hσ : s.σ id = some (.row e vs))
    (ht : T.sc t = true) (hx : evL s x = .v u) (h1 : u.oneCell' = true) (hi : i < vs.length) (h : OpsV P T n all l ((s.set id (.row e (vs.set i u))).put o.dst .junk) k) : HereO P T n all o l s k :=
  HereO.of hT h fun hK => OpT.storeRow hT ho ha hσ ht hx h1 hi hK
theorem HereO.makeSlice (hT : T.Ok P) {t e : Nat} {z : Value} {bts : Nat} {x : Operand} {kk : IntKind} {m : Int} (id : Nat) (ho : o.op = .makeSlice t x x) (ht : T.el t = some (e, z, bts)) (hx : evL s x = .v (.int kk m)) (hm0 : 0 ≤ m) (hm : m ≤ 4294967296) (hb : bts ≤ 64)
    (hid : 16 ≤ id) (h : OpsV P T n all l ((s.fresh id (.row e (List.replicate m.toNat z))).put o.dst (.own id)) k) : HereO P T n all o l s k :=
  HereO.of hT h fun hK => OpT.makeSlice hT ho ht hx hm0 hm hb id hid hK
theorem HereO.buildRow (hT : T.Ok P) {t e : Nat} {z : Value} {bts m : Nat} {parts : Array (Nat × Operand)} (id : Nat) (vs : List Value) (ho : o.op = .buildSlice t m parts) (ht : T.el t = some (e, z, bts)) (hn : m = parts.toList.length) (hm : m ≤ 1000) (hp : partsIn 0 parts.toList = true)
    (hx : (parts.toList.map fun p => evL s p.2) = vs.map .v) (h1 : vs.all (·.oneCell') = true) (hid : 16 ≤ id) (h : OpsV P T n all l ((s.fresh id (.row e vs)).put o.dst (.own id)) k) : HereO P T n all o l s k :=
  HereO.of hT h fun hK => OpT.buildRow hT vs ho ht hn hm hp hx h1 id hid hK
theorem HereO.buildRowL (hT : T.Ok P) {t e : Nat} {z : Value} {bts m : Nat} {parts : Array (Nat × Operand)} (id : Nat) (ls : List LV) (ho : o.op = .buildSlice t m parts) (ht : T.el t = some (e, z, bts)) (hn : m = parts.toList.length) (hm : m ≤ 1000) (hp : partsIn 0 parts.toList = true)
    (hx : (parts.toList.map fun p => evL s p.2) = ls) (h1 : ls.all (fun x => oneL x && ownIs s.σ x) = true) (hid : 16 ≤ id) (hno : kills (fun j => j == id) ls = ls) (h : OpsV P T n all l ((s.fresh id (.rowL e ls)).put o.dst (.own id)) k) : HereO P T n all o l s k := by
  subst hx
  exact HereO.of hT h fun hK => OpT.buildRowL hT ho ht hn hm hp h1 id hid hno hK
theorem HereO.buildAggs (hT : T.Ok P) {t e m : Nat} {parts : Array (Nat × Operand)} (id : Nat) (ls : List LV) (ho : o.op = .buildSlice t m parts) (ht : T.ea t = some e) (hn : m = parts.toList.length) (hn0 : m ≠ 0) (hm : m ≤ 1000) (hp : partsIn 0 parts.toList = true)
    (hx : (parts.toList.map fun p => evL s p.2) = ls.map fun x => .agg [x]) (hid : 16 ≤ id) (hno : kills (fun j => j == id) ls = ls) (h : OpsV P T n all l ((s.fresh id (.rowL e ls)).put o.dst (.own id)) k) : HereO P T n all o l s k :=
  HereO.of hT h fun hK => OpT.buildAggs hT ls ho ht hn hn0 hm hp hx id hid hno hK
theorem HereO.append (hT : T.Ok P) {t e : Nat} {z : Value} {bts : Nat} {a b : Operand} {id : Nat} {vs : List Value} {y : LV} (ws : List Value) (ho : o.op = .call { callee := .builtin .append, args := #[a, b], argTypes := #[t, t] })
    (ht : T.el t = some (e, z, bts)) (hb : bts ≤ 64) (ha : evL s a = .own id) (hid : 16 ≤ id) (hσ : s.σ id = some (.row e vs)) (hy : evL s b = y) (hn : News s id y ws) (h1 : ∀ u ∈ ws, u.oneCell' = true) (hlen : vs.length + ws.length ≤ 1099511627776)
    (h : OpsV P T n all l ((s.fresh id (.row e (vs ++ ws))).put o.dst (.own id)) k) : HereO P T n all o l s k := by
  subst hy
  exact HereO.of hT h fun hK => OpT.append hT ho ht hb ha hid hσ hn h1 hlen hK
theorem HereO.appendRows (hT : T.Ok P) {t e e' : Nat} {z : Value} {bts : Nat} {a b : Operand} {id j i : Nat} {tt : List (List Value)} {vs : List Value} {e2 : Nat} (ho : o.op = .call { callee := .builtin .append, args := #[a, b], argTypes := #[t, t] })
    (ht : T.el t = some (e, z, bts)) (hb : bts ≤ 64) (ha : evL s a = .own id) (hid : 16 ≤ id) (hσ : s.σ id = some (.rows e e' tt)) (hbv : evL s b = .own j) (hj : s.σ j = some (.rowL e2 [.own i])) (hi : s.σ i = some (.row e' vs)) (hjid : j ≠ id) (hkid : i ≠ id) (hlen : tt.length + 1 ≤ 1099511627776)
    (h : OpsV P T n all l ((s.turn (fun q => q == id || q == i) id (.rows e e' (tt ++ [vs]))).put o.dst (.own id)) k) : HereO P T n all o l s k :=
  HereO.of hT h fun hK => OpT.appendRows hT ho ht hb ha hid hσ hbv hj hi hjid hkid hlen hK
end
end
end Go.Proofs.YtcjhojdlfnpgjaaGreat
