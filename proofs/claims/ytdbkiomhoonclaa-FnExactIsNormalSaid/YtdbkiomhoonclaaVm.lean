/- A calculus of verification conditions over logical values: rows written into rows of rows; states in other words; the walk's words for operations. -/
import Derived.Test.YtdbkiomhoonclaaVl
namespace Go.Proofs.Ytdbkiomhoonclaa
open Go.RowKit
set_option linter.unusedVariables false
set_option linter.unusedSimpArgs false

section
variable {P : Program} {T : TT}

theorem OwnAll.set {w : World} {base e : Nat} {r : List Value} {h0 : Value} : ∀ {t : List (List Value)} {hs : List Value} {fp : Nat → Prop} (i : Nat), OwnAll w base e fp t hs → w.ownsRow base e 1 h0 r.length r → (∀ k, h0.ownBlock = some k → ¬ fp k) →
    OwnAll w base e (fun k => fp k ∨ h0.ownBlock = some k) (t.set i r) (hs.set i h0)
  | [], _, fp, i, h, hr, hd => by
    simp only [OwnAll] at h
    subst h
    simp only [List.set_nil, OwnAll]
  | r' :: t, hs, fp, 0, ⟨h, hs', e1, h1, h2, h3⟩, hr, hd => by
    subst e1
    exact ⟨h0, hs', rfl, hr, fun k hk => .inr hk, h3.mono fun k hk => ⟨.inl hk.1, fun e => hd k e hk.1⟩⟩
  | r' :: t, hs, fp, i + 1, ⟨h, hs', e1, h1, h2, h3⟩, hr, hd => by
    subst e1
    refine ⟨h, hs'.set i h0, rfl, h1, fun k hk => .inl (h2 k hk), ?_⟩
    refine (h3.set i hr fun k hk hq => hd k hk hq.1).mono ?_
    rintro k (hk | hk)
    · exact ⟨.inl hk.1, hk.2⟩
    · exact ⟨.inr hk, fun e => hd k hk (h2 k e)⟩

/-- A row is laid into a row of rows, and is its own from now on. -/
theorem OpT.storeRows (hT : T.Ok P) {o : Oper} {s : St} {K : LV → St → Prop} {t e e' : Nat} {a x : Operand} {id k i : Nat} {tt : List (List Value)} {vs : List Value} (ho : o.op = .store t a x) (ha : evL s a = .pe id i) (hσ : s.σ id = some (.rows e e' tt))
    (ht : T.sc t = true) (hx : evL s x = .own k) (hk : s.σ k = some (.row e' vs)) (hkid : k ≠ id) (hi : i < tt.length) (hK : K .junk (s.turn (fun i => i == k) id (.rows e e' (tt.set i vs)))) : OpT P o s K := by
  intro w0 w ι fp f hI
  have hav := hI.ev a
  rw [ha] at hav
  simp only [LRel] at hav
  obtain ⟨g, n, c, e1, e2⟩ := hav
  have hxv := hI.ev x
  rw [hx] at hxv
  simp only [LRel] at hxv
  obtain ⟨v, hs, g1, g2, g3, g4, g5⟩ := hI.ob id _ hσ
  rw [e1] at g1
  simp only [Option.some.injEq] at g1
  subst g1
  obtain ⟨y, p1, p2, p3⟩ := hI.ob k _ hk
  rw [hxv] at p1
  simp only [Option.some.injEq] at p1
  have hlen := g4.length
  obtain ⟨g', cap, e3, hc⟩ := own_cell g2 (i := i) (by omega)
  simp only [Value.slice.injEq, Option.some.injEq, Addr.mk.injEq, and_true] at e3
  obtain ⟨rfl, rfl, rfl⟩ := e3
  have h1 : y.oneCell' = true := by obtain ⟨A, cap, rfl⟩ := own_len p2; rfl
  have hfr := g2.frozenAt i
  have hr : (execOp (evV f) o).run P w = .ok .skip (w.setCell ⟨g, i, none⟩ y) := by
    simp [execOp, ho, e2, p1, Instr.storeAt, Instr.sureAddr, storeVar, hT.s1 t ht w, one_cells h1, storeCells, run_store P w _ y _ h1, hc, hfr, add0, Addr.add]
  rw [hr]
  obtain ⟨q1, q2⟩ := g2.stored i y
  have hdis : ∀ q, fp id q → fp k q → False := fun q h1 h2 => hkid (hI.dis _ _ _ _ q hk hσ h2 h1)
  have hlt := hI.lt
  refine .skip _ _ _ _ (hI.turn (w' := w.setCell ⟨g, i, none⟩ y) (ι' := ι) (fun i => i == k) id (.rows e e' (tt.set i vs)) (fun q => fp id q ∨ fp k q) q2.os q2.tape q2.output q2.size (fun q hq hn => q2.block q hq fun e => hn id _ (.inl rfl) hσ (g3 q (by rw [e]; rfl)))
    (fun q hq => ?_) (fun _ _ _ e => e) hI.fix fun _ => ?_) hK
  · rcases hq with hq | hq
    · exact .inl ⟨id, _, .inl rfl, hσ, hq⟩
    · exact .inl ⟨k, _, .inr (by simp), hk, hq⟩
  · have keep4 : OwnAll (w.setCell ⟨g, i, none⟩ y) 0 e' (fun q => fp id q ∧ (Value.slice (some ⟨g, 0, none⟩) hs.length c).ownBlock ≠ some q) tt hs := g4.keeps fun q hq => q2.block q (g5 q hq.1).2 fun e => hq.2 e.symm
    have keepy : (w.setCell ⟨g, i, none⟩ y).ownsRow 0 e' 1 y vs.length vs := own_keeps p2 fun q hq => q2.block q (p2.lt q hq).2 fun e => hdis q (g3 q e.symm) ((p3 q).2 hq)
    refine ⟨_, hs.set i y, e1, by rw [List.length_set]; exact q1, fun q hq => .inl (g3 q hq), ?_, fun q hq => ⟨Nat.zero_le _, ?_⟩⟩
    · refine (keep4.set i keepy fun q hq h => hdis q h.1 ((p3 q).2 hq)).mono ?_
      rintro q (⟨h, hne⟩ | h)
      · exact ⟨.inl h, hne⟩
      · exact ⟨.inr ((p3 q).2 h), fun e => hdis q (g3 q e) ((p3 q).2 h)⟩
    · rcases hq with hq | hq
      · exact Nat.lt_of_lt_of_le (hlt q ⟨id, _, hσ, hq⟩).2 q2.size
      · exact Nat.lt_of_lt_of_le (hlt q ⟨k, _, hk, hq⟩).2 q2.size

/-! ### States in other words -/

theorem Here.conv {n : Nat} {c : Code} {s s' : St} {k : Kont} (hc : Conv s s') (h : Here P n c s' k) : Here P n c s k := fun w0 w ι fp f a hf hI =>
  let ⟨ι', fp', hI'⟩ := hc w0 w ι fp f hI
  h w0 w ι' fp' f a hf hI'
theorem HereV.conv {n : Nat} {c : Code} {s s' : St} {k : Kont} (hc : Conv s s') (h : HereV P T n c s' k) : HereV P T n c s k := fun h1 h2 => Here.conv hc (h h1 h2)
theorem OpsT.conv {n : Nat} {all : Array Oper} {l : List Oper} {s s' : St} {K : St → Prop} (hc : Conv s s') (h : OpsT P all n l s' K) : OpsT P all n l s K := fun w0 w ι fp f a Q hf hI hQ =>
  let ⟨ι', fp', hI'⟩ := hc w0 w ι fp f hI
  h w0 w ι' fp' f a Q hf hI' hQ
theorem OpT.conv {o : Oper} {s s' : St} {K : LV → St → Prop} (hc : Conv s s') (h : OpT P o s' K) : OpT P o s K := fun w0 w ι fp f hI =>
  let ⟨ι', fp', hI'⟩ := hc w0 w ι fp f hI
  h w0 w ι' fp' f hI'
theorem HereO.conv {n : Nat} {all : Array Oper} {o : Oper} {l : List Oper} {s s' : St} {k : Kont} (hc : Conv s s') (h : HereO P T n all o l s' k) : HereO P T n all o l s k := fun hl hk => OpT.conv hc (h hl hk)
theorem Conv.trans {a b c : St} (h1 : Conv a b) (h2 : Conv b c) : Conv a c := fun w0 w ι fp f hI =>
  let ⟨ι', fp', hI'⟩ := h1 w0 w ι fp f hI
  h2 w0 w ι' fp' f hI'
theorem Conv.le {s s' : St} (h : Le s s') : Conv s s' := fun _ _ ι fp _ hI => ⟨ι, fp, hI.le h⟩

/-- A nil slice is a row of the call's own. -/
def nilV : Value := .slice none 0 0

theorem ownAll_nils (w : World) (e : Nat) : ∀ (n : Nat) (q : Nat → Prop), OwnAll w 0 e q (List.replicate n []) (List.replicate n nilV)
  | 0, _ => rfl
  | n + 1, q => ⟨nilV, List.replicate n nilV, rfl, World.ownsRow_nil _ _ _ _, fun k hk => by simp [nilV, Value.ownBlock] at hk, ownAll_nils w e n _⟩

/-- An empty row of the call's own is a row of rows. -/
theorem Conv.rows {s : St} {id e : Nat} (e' n : Nat) (hσ : s.σ id = some (.row e (List.replicate n nilV))) : Conv s (s.set id (.rows e e' (List.replicate n []))) := by
  intro w0 w ι fp f hI
  obtain ⟨v, g1, g2, g3⟩ := hI.ob id _ hσ
  have h := hI.turn (w' := w) (ι' := ι) (fun _ => false) id (.rows e e' (List.replicate n [])) (fp id) rfl rfl rfl (Nat.le_refl _) (fun k hk hn => rfl)
    (fun k hk => .inl ⟨id, _, .inl rfl, hσ, hk⟩) (fun _ _ _ e => e) hI.fix (fun hk => ⟨v, List.replicate n nilV, g1, g2, fun k hk => (g3 k).2 hk, ?_, fun k hk => g2.lt k ((g3 k).1 hk)⟩)
  · rw [turn_none, fp_self] at h
    exact ⟨_, _, h⟩
  · exact ownAll_nils w e' n _

/-- In a variable lies a nil slice: it is a row of rows of the call's own. -/
theorem Conv.nilRows {s : St} {c tt : Nat} {l : List LV} (j id e e' : Nat) (hid : 16 ≤ id) (hc : c ≠ id) (hσ : s.σ c = some (.cells tt l)) (hj : l[j]? = some (.v nilV)) :
    Conv s ((s.fresh id (.rows e e' [])).set c (.cells tt ((kills (fun i => i == id) l).set j (.own id)))) := by
  intro w0 w ι fp f hI
  have h := hI.turn (w' := w) (ι' := updI ι id nilV) (fun i => i == id) id (.rows e e' []) (fun _ => False) rfl rfl rfl (Nat.le_refl _) (fun k hk hn => rfl) (fun k hk => hk.elim) (kill_is fun j hj => by simp only [updI, if_neg hj]) (updI_fix hI hid nilV)
    (fun hk => ⟨nilV, [], updI_self _ _ _, World.ownsRow_nil _ _ _ _, fun k hk => by simp [nilV, Value.ownBlock] at hk, rfl, fun k hk => hk.elim⟩)
  refine ⟨updI ι id nilV, fun j => if j = id then fun _ => False else fp j, ?_⟩
  · have hσ' : (s.fresh id (.rows e e' [])).σ c = some (.cells tt (kills (fun i => i == id) l)) := by
      simp only [St.fresh, St.turn, if_neg hc, hσ, Option.map_some, killO]
      rw [if_neg (by simpa using hc)]
    obtain ⟨b, ys, g1, g2, g3, g4, g5⟩ := h.ob c _ hσ'
    have hlen := g5.length
    have hys : ys.set j nilV = ys := by
      have hkj : (kills (fun i => i == id) l)[j]? = some (.v nilV) := by
        have : ∀ (l : List LV) (j : Nat), l[j]? = some (.v nilV) → (kills (fun i => i == id) l)[j]? = some (.v nilV) := by
          intro l
          induction l with
          | nil => intro j h; simp at h
          | cons x l ih => intro j h; cases j with
            | zero => simp at h; subst h; simp [kills, kill]
            | succ j => simpa [kills] using ih j (by simpa using h)
        exact this l j hj
      obtain ⟨y, hy, hr⟩ := LRels.get j _ g5 hkj
      simp only [LRel] at hr
      subst hr
      have hlt := (List.getElem?_eq_some_iff.1 hy).1
      refine List.ext_getElem? fun i => ?_
      rw [List.getElem?_set]
      by_cases e : j = i
      · subst e; rw [if_pos rfl, if_pos hlt, hy]
      · rw [if_neg e]
    have hw : w.setRow b (ys.set j nilV).toArray = w := by rw [hys]; exact setRow_self w b _ tt (0, 0) g4
    have := h.setCells hσ' g1 g4 g3 (LRels.set (x := .own id) (v := nilV) (by simp only [LRel]; exact updI_self _ _ _) j g5)
    rw [hw] at this
    exact this

/-- In a slot lies a nil slice: it is a row of the call's own. -/
theorem Conv.nilRow {s : St} (j id e : Nat) (hid : 16 ≤ id) (hj : s.lf j = .v nilV) : Conv s ((s.fresh id (.row e [])).put (some j) (.own id)) := by
  intro w0 w ι fp f hI
  have h := hI.turn (w' := w) (ι' := updI ι id nilV) (fun i => i == id) id (.row e []) (fun _ => False) rfl rfl rfl (Nat.le_refl _) (fun k hk hn => rfl) (fun k hk => hk.elim) (kill_is fun j hj => by simp only [updI, if_neg hj]) (updI_fix hI hid nilV)
    (fun hk => ⟨nilV, updI_self _ _ _, World.ownsRow_nil _ _ _ _, fun k => by simp [nilV, Value.ownBlock]⟩)
  refine ⟨updI ι id nilV, fun j => if j = id then fun _ => False else fp j, ?_⟩
  · have hf := hI.fr j
    rw [hj] at hf
    simp only [LRel] at hf
    have := h.put (some j) (x := .own id) (v := nilV) (by simp only [LRel]; exact updI_self _ _ _)
    have e : putV f (some j) nilV = f := by funext i; simp only [putV, updV]; split <;> simp_all
    rw [e] at this
    exact this


/-! ### The walk's words -/
section
variable {n : Nat} {all : Array Oper} {o : Oper} {l : List Oper} {s : St} {k : Kont}

theorem HereO.of (hT : T.Ok P) {s' : St} {r : LV} (h : OpsV P T n all l (s'.put o.dst r) k) (ho : ∀ {K : LV → St → Prop}, K r s' → OpT P o s K) : HereO P T n all o l s k :=
  fun hl hk => ho (K := fun r s' => OpsT P all n l (s'.put o.dst r) (KN P n k).1) (OpsV_sound hT hl hk h)

theorem HereO.call (hT : T.Ok P) {fo : Operand} {as : Array Operand} {ts : Array TypeId} {g : Nat} {caps : List LV} {args : List LV} {r : LV} {os : List OC} (ho : o.op = .call { callee := .value fo, args := as, argTypes := ts })
    (hf : evL s fo = .fn g caps) (hs : Spec P g args r os) (ha : closeBs s.σ (as.toList.map (evL s) ++ caps) = args) (hp : plainL r = true) (h : OpsV P T n all l (s.put o.dst (closeA (osF os) r)) k) : HereO P T n all o l s k :=
  HereO.of hT h fun hK => OpT.call ho hf (by rw [ha]; exact hs) hp hK

theorem HereO.callOwn (hT : T.Ok P) {fo : Operand} {as : Array Operand} {ts : Array TypeId} {g : Nat} {caps : List LV} {args : List LV} {r : LV} {os : List OC} (d : Nat) (ho : o.op = .call { callee := .value fo, args := as, argTypes := ts })
    (hf : evL s fo = .fn g caps) (hs : Spec P g args r os) (ha : closeBs s.σ (as.toList.map (evL s) ++ caps) = args) (hp : plainL r = true) (hlen : os.length ≤ 16) (hpo : os.all plainO = true) (h : OpsV P T n all l ((s.take d os).put o.dst (ren (shift d) r)) k) : HereO P T n all o l s k :=
  HereO.of hT h fun hK => OpT.callOwn ho hf (by rw [ha]; exact hs) hp hlen hpo hK

theorem HereO.alloc (hT : T.Ok P) {t : Nat} {z : Value} (id : Nat) (ho : o.op = .alloc t) (hz : T.zr t = some z) (hid : 16 ≤ id) (h : OpsV P T n all l ((s.fresh id (.cells t (zlv z))).put o.dst (.ptr id 0)) k) : HereO P T n all o l s k :=
  HereO.of hT h fun hK => OpT.alloc hT ho hz id hid hK

theorem HereO.store (hT : T.Ok P) {t tt : Nat} {a x : Operand} {id off : Nat} {c : List LV} {y : LV} (ho : o.op = .store t a x) (ha : evL s a = .ptr id off) (hσ : s.σ id = some (.cells tt c))
    (ht : T.sc t = true) (hx : evL s x = y) (h1 : oneL y = true) (h2 : ownIs s.σ y = true) (hoff : off < c.length) (h : OpsV P T n all l ((s.set id (.cells tt (c.set off y))).put o.dst .junk) k) : HereO P T n all o l s k := by
  subst hx
  exact HereO.of hT h fun hK => OpT.store hT ho ha hσ ht h1 h2 hoff hK

theorem HereO.storeAgg (hT : T.Ok P) {t tt kk : Nat} {a x : Operand} {id : Nat} {c c' : List LV} (ho : o.op = .store t a x) (ha : evL s a = .ptr id 0) (hσ : s.σ id = some (.cells tt c))
    (ht : T.ag t = some kk) (hx : evL s x = .agg c') (h1 : c'.all (fun x => oneL x && ownIs s.σ x) = true) (hc : c.length = kk) (hc' : c'.length = kk) (h : OpsV P T n all l ((s.set id (.cells tt c')).put o.dst .junk) k) : HereO P T n all o l s k :=
  HereO.of hT h fun hK => OpT.storeAgg hT ho ha hσ ht hx h1 hc hc' hK

theorem HereO.storeRow (hT : T.Ok P) {t e : Nat} {a x : Operand} {id i : Nat} {vs : List Value} {u : Value} (ho : o.op = .store t a x) (ha : evL s a = .pe id i) (hσ : s.σ id = some (.row e vs))
    (ht : T.sc t = true) (hx : evL s x = .v u) (h1 : u.oneCell' = true) (hi : i < vs.length) (h : OpsV P T n all l ((s.set id (.row e (vs.set i u))).put o.dst .junk) k) : HereO P T n all o l s k :=
  HereO.of hT h fun hK => OpT.storeRow hT ho ha hσ ht hx h1 hi hK

theorem HereO.storeRows (hT : T.Ok P) {t e e' : Nat} {a x : Operand} {id j i : Nat} {tt : List (List Value)} {vs : List Value} (ho : o.op = .store t a x) (ha : evL s a = .pe id i) (hσ : s.σ id = some (.rows e e' tt))
    (ht : T.sc t = true) (hx : evL s x = .own j) (hj : s.σ j = some (.row e' vs)) (hji : j ≠ id) (hi : i < tt.length) (h : OpsV P T n all l ((s.turn (fun i => i == j) id (.rows e e' (tt.set i vs))).put o.dst .junk) k) : HereO P T n all o l s k :=
  HereO.of hT h fun hK => OpT.storeRows hT ho ha hσ ht hx hj hji hi hK

theorem HereO.makeSlice (hT : T.Ok P) {t e : Nat} {z : Value} {bts : Nat} {x : Operand} {kk : IntKind} {m : Int} (id : Nat) (ho : o.op = .makeSlice t x x) (ht : T.el t = some (e, z, bts)) (hx : evL s x = .v (.int kk m)) (hm0 : 0 ≤ m) (hm : m ≤ 4294967296) (hb : bts ≤ 64)
    (hid : 16 ≤ id) (h : OpsV P T n all l ((s.fresh id (.row e (List.replicate m.toNat z))).put o.dst (.own id)) k) : HereO P T n all o l s k :=
  HereO.of hT h fun hK => OpT.makeSlice hT ho ht hx hm0 hm hb id hid hK

theorem HereO.buildRow (hT : T.Ok P) {t e : Nat} {z : Value} {bts m : Nat} {parts : Array (Nat × Operand)} (id : Nat) (vs : List Value) (ho : o.op = .buildSlice t m parts) (ht : T.el t = some (e, z, bts)) (hn : m = parts.toList.length) (hm : m ≤ 1000) (hp : partsIn 0 parts.toList = true)
    (hx : (parts.toList.map fun p => evL s p.2) = vs.map .v) (h1 : vs.all (·.oneCell') = true) (hid : 16 ≤ id) (h : OpsV P T n all l ((s.fresh id (.row e vs)).put o.dst (.own id)) k) : HereO P T n all o l s k :=
  HereO.of hT h fun hK => OpT.buildRow hT vs ho ht hn hm hp hx h1 id hid hK

theorem HereO.buildRowL (hT : T.Ok P) {t e : Nat} {z : Value} {bts m : Nat} {parts : Array (Nat × Operand)} (id : Nat) (ls : List LV) (ho : o.op = .buildSlice t m parts) (ht : T.el t = some (e, z, bts)) (hn : m = parts.toList.length) (hm : m ≤ 1000) (hp : partsIn 0 parts.toList = true)
    (hx : (parts.toList.map fun p => evL s p.2) = ls) (h1 : ls.all (fun x => oneL x && ownIs s.σ x) = true) (hid : 16 ≤ id) (hno : kills (fun j => j == id) ls = ls) (h : OpsV P T n all l ((s.fresh id (.rowL e ls)).put o.dst (.own id)) k) : HereO P T n all o l s k := by
  subst hx
  exact HereO.of hT h fun hK => OpT.buildRowL hT ho ht hn hm hp h1 id hid hno hK

theorem HereO.buildAggs (hT : T.Ok P) {t e m : Nat} {parts : Array (Nat × Operand)} (id : Nat) (ls : List LV) (ho : o.op = .buildSlice t m parts) (ht : T.ea t = some e) (hn : m = parts.toList.length) (hn0 : m ≠ 0) (hm : m ≤ 1000) (hp : partsIn 0 parts.toList = true)
    (hx : (parts.toList.map fun p => evL s p.2) = ls.map fun x => .agg [x]) (hid : 16 ≤ id) (hno : kills (fun j => j == id) ls = ls) (h : OpsV P T n all l ((s.fresh id (.rowL e ls)).put o.dst (.own id)) k) : HereO P T n all o l s k :=
  HereO.of hT h fun hK => OpT.buildAggs hT ls ho ht hn hn0 hm hp hx id hid hno hK

theorem HereO.append (hT : T.Ok P) {t e : Nat} {z : Value} {bts : Nat} {a b : Operand} {id : Nat} {vs : List Value} {y : LV} (ws : List Value) (ho : o.op = .call { callee := .builtin .append, args := #[a, b], argTypes := #[t, t] })
    (ht : T.el t = some (e, z, bts)) (hb : bts ≤ 64) (ha : evL s a = .own id) (hid : 16 ≤ id) (hσ : s.σ id = some (.row e vs)) (hy : evL s b = y) (hn : News s id y ws) (h1 : ∀ u ∈ ws, u.oneCell' = true) (hlen : vs.length + ws.length ≤ 1099511627776)
    (h : OpsV P T n all l ((s.fresh id (.row e (vs ++ ws))).put o.dst (.own id)) k) : HereO P T n all o l s k := by
  subst hy
  exact HereO.of hT h fun hK => OpT.append hT ho ht hb ha hid hσ hn h1 hlen hK

theorem HereO.appendRows (hT : T.Ok P) {t e e' : Nat} {z : Value} {bts : Nat} {a b : Operand} {id j i : Nat} {tt : List (List Value)} {vs : List Value} {e2 : Nat} (ho : o.op = .call { callee := .builtin .append, args := #[a, b], argTypes := #[t, t] })
    (ht : T.el t = some (e, z, bts)) (hb : bts ≤ 64) (ha : evL s a = .own id) (hid : 16 ≤ id) (hσ : s.σ id = some (.rows e e' tt)) (hbv : evL s b = .own j) (hj : s.σ j = some (.rowL e2 [.own i])) (hi : s.σ i = some (.row e' vs)) (hjid : j ≠ id) (hkid : i ≠ id) (hlen : tt.length + 1 ≤ 1099511627776)
    (h : OpsV P T n all l ((s.turn (fun q => q == id || q == i) id (.rows e e' (tt ++ [vs]))).put o.dst (.own id)) k) : HereO P T n all o l s k :=
  HereO.of hT h fun hK => OpT.appendRows hT ho ht hb ha hid hσ hbv hj hi hjid hkid hlen hK
end

end
end Go.Proofs.Ytdbkiomhoonclaa
