/- A calculus of verification conditions over logical values: nil slices as rows of the call's own; results told in other words. -/
import Derived.Test.YtdbkiomhoonclaaVr
namespace Go.Proofs.Ytdbkiomhoonclaa
open Go.RowKit
set_option linter.unusedVariables false
set_option linter.unusedSimpArgs false

/-- What is handed back, told in other words. -/
def RetC (T : TT) (results : Array ResultVar) (r : LV) (os : List OC) (s : St) : Prop := ∃ s', Conv s s' ∧ RetT T results r os s'
theorem RetC.of {T : TT} {results : Array ResultVar} {r : LV} {os : List OC} {s : St} (h : RetT T results r os s) : RetC T results r os s := ⟨s, fun _ _ ι fp _ hI => ⟨ι, fp, hI⟩, h⟩
theorem RetC.conv {T : TT} {results : Array ResultVar} {r : LV} {os : List OC} {s s' : St} (hc : Conv s s') (h : RetC T results r os s') : RetC T results r os s := let ⟨s2, h1, h2⟩ := h; ⟨s2, hc.trans h1, h2⟩
def RetMC (T : TT) (results : Array ResultVar) (n : Nat) (r : LV) (os' : List (Option OC)) (s : St) : Prop := ∃ s', Conv s s' ∧ RetM T results n r os' s'

theorem RetMC.of {T : TT} {results : Array ResultVar} {n : Nat} {r : LV} {os' : List (Option OC)} {s : St} (h : RetM T results n r os' s) : RetMC T results n r os' s := ⟨s, fun _ _ ι fp _ hI => ⟨ι, fp, hI⟩, h⟩
theorem RetMC.conv {T : TT} {results : Array ResultVar} {n : Nat} {r : LV} {os' : List (Option OC)} {s s' : St} (hc : Conv s s') (h : RetMC T results n r os' s') : RetMC T results n r os' s := let ⟨s2, h1, h2⟩ := h; ⟨s2, hc.trans h1, h2⟩

theorem Here.done {P : Program} {n : Nat} {c : Code} {s : St} {R : St → Prop} (h : Here P n c s (.done fun s => ∃ s', Conv s s' ∧ R s')) : Here P n c s (.done R) := by
  have after : ∀ (w0 : Base) a w, After n w0 (fun s => ∃ s', Conv s s' ∧ R s') a w → After n w0 R a w := by
    rintro w0 a w ⟨s, f, ι, fp, h1, h2, s', h3, h4⟩
    obtain ⟨ι', fp', h5⟩ := h3 _ _ _ _ _ h2
    exact ⟨s', f, ι', fp', h1, h5, h4⟩
  intro w0 w ι fp f a hf hI
  refine Code.wp_mono (fun e a w q => ?_) (h w0 w ι fp f a hf hI)
  cases e <;> simp only [Post, KN] at q ⊢
  · exact after _ _ _ q
  · obtain ⟨_, _, _, _, _, _, h3⟩ := q; exact h3.elim
  · exact after _ _ _ q

theorem Spec.of_codeC {P : Program} {T : TT} (hT : T.Ok P) {g n : Nat} {fn : Func} {c : Code} {args : List LV} {r : LV} {os : List OC} (hf : P.funcs[g]? = some fn) (hb : fn.body = some c) (hn : fn.ntmps = n) (ent : ∀ args w, (callFunc g args).run P w = .ok (.enter g args) w)
    (hl : args.length ≤ n) (hp : plainL r = true) (hpo : os.all plainO = true) (h : Here P n c (entry args) (.done (RetC T fn.results r os))) : Spec P g args r os :=
  Spec.of_code hT hf hb hn ent hl hp hpo (Here.done h)
theorem SpecM.of_codeC {P : Program} {T : TT} (hT : T.Ok P) {g n : Nat} {fn : Func} {c : Code} {args : List LV} {os : List OC} {r : LV} {os' : List (Option OC)} (hf : P.funcs[g]? = some fn) (hb : fn.body = some c) (hn : fn.ntmps = n) (ent : ∀ args w, (callFunc g args).run P w = .ok (.enter g args) w)
    (hl : args.length ≤ n) (hlen : os.length ≤ 16) (hlen' : os.length ≤ os'.length) (hp : plainL r = true) (hpo : os'.all (fun o => o.all plainO) = true) (h : Here P n c ⟨mkE args, osF os⟩ (.done (RetMC T fn.results os.length r os'))) : SpecM P g args os r os' :=
  SpecM.of_code' hT hf hb hn ent hl hlen hlen' hp hpo (Here.done h)

theorem LRels.eq_vs {ι : Nat → Option Value} {F : Nat → Prop} {w : World} : ∀ {vs ys : List Value}, LRels ι F w (vs.map .v) ys → ys = vs
  | [], ys, h => by simpa only [List.map_nil, LRels] using h
  | v :: vs, ys, h => by
    simp only [List.map_cons, LRels, LRel] at h
    obtain ⟨y, r, rfl, rfl, h2⟩ := h
    rw [LRels.eq_vs h2]

/-! ### nil slices -/
def isNil : Value → Bool
  | .slice none 0 0 => true
  | _ => false
theorem isNil_eq {v : Value} (h : isNil v = true) : v = nilV := by
  unfold isNil at h
  split at h
  · rfl
  · cases h
mutual
/-- A nil slice is the row id. -/
def nilSub (id : Nat) : LV → LV
  | .v x => if isNil x then .own id else .v x
  | .agg l => .agg (nilSubs id l)
  | .tup l => .tup (nilSubs id l)
  | .rd vs => .rd vs
  | .rds t => .rds t
  | .own j => .own j
  | .ptr i o => .ptr i o
  | .box l => .box l
  | .rdA k l => .rdA k l
  | .pc x => .pc x
  | .fn g l => .fn g l
  | .pe i j => .pe i j
  | .sub i j n => .sub i j n
  | .rdL l => .rdL l
  | .junk => .junk
def nilSubs (id : Nat) : List LV → List LV
  | [] => []
  | x :: l => nilSub id x :: nilSubs id l
end
mutual
theorem LRel.nilSub {ι : Nat → Option Value} {F : Nat → Prop} {w : World} {id : Nat} (hι : ι id = some nilV) : ∀ {x : LV} {y : Value}, LRel ι F w x y → LRel ι F w (nilSub id x) y
  | .v x, y, h => by
    simp only [Go.Proofs.Ytdbkiomhoonclaa.nilSub]
    split
    · rename_i hn
      have := isNil_eq hn
      simp only [LRel] at h ⊢
      rw [h, this]; exact hι
    · exact h
  | .agg l, y, h => by
    simp only [LRel, Go.Proofs.Ytdbkiomhoonclaa.nilSub] at *
    obtain ⟨ys, e, h⟩ := h
    exact ⟨ys, e, LRels.nilSub hι h⟩
  | .tup l, y, h => by
    simp only [LRel, Go.Proofs.Ytdbkiomhoonclaa.nilSub] at *
    obtain ⟨ys, e, h⟩ := h
    exact ⟨ys, e, LRels.nilSub hι h⟩
  | .rd vs, y, h => h
  | .rds t, y, h => h
  | .own j, y, h => h
  | .ptr i o, y, h => h
  | .box l, y, h => h
  | .rdA k l, y, h => h
  | .pc x, y, h => h
  | .fn g l, y, h => h
  | .pe i j, y, h => h
  | .sub i j n, y, h => h
  | .rdL l, y, h => h
  | .junk, y, h => h
theorem LRels.nilSub {ι : Nat → Option Value} {F : Nat → Prop} {w : World} {id : Nat} (hι : ι id = some nilV) : ∀ {l : List LV} {ys : List Value}, LRels ι F w l ys → LRels ι F w (nilSubs id l) ys
  | [], _, h => by simp only [LRels, nilSubs] at *; exact h
  | _ :: _, _, h => by
    simp only [LRels, nilSubs] at *
    obtain ⟨y, r, e, h1, h2⟩ := h
    exact ⟨y, r, e, LRel.nilSub hι h1, LRels.nilSub hι h2⟩
end

def nilO (oc : OC) : Bool := match oc with | .row _ [] => true | .rows _ _ [] => true | _ => false
theorem nilO_rel {ι : Nat → Option Value} {F : Nat → Prop} {w : World} {id : Nat} {oc : OC} (h : nilO oc = true) (hι : ι id = some nilV) : ORel ι F w 0 (fun _ => False) id oc := by
  unfold nilO at h
  split at h
  · exact ⟨nilV, hι, World.ownsRow_nil _ _ _ _, fun k => by simp [nilV, Value.ownBlock]⟩
  · exact ⟨nilV, [], hι, World.ownsRow_nil _ _ _ _, fun k hk => by simp [nilV, Value.ownBlock] at hk, rfl, fun k hk => hk.elim⟩
  · cases h

/-- Nil slices in a slot are a row (or rows) of the call's own. -/
theorem Conv.nilAt {s : St} (j id : Nat) (oc : OC) (hid : 16 ≤ id) (ho : nilO oc = true) : Conv s ((s.fresh id oc).put (some j) (nilSub id ((s.fresh id oc).lf j))) := by
  intro w0 w ι fp f hI
  have h := hI.turn (w' := w) (ι' := updI ι id nilV) (fun i => i == id) id oc (fun _ => False) rfl rfl rfl (Nat.le_refl _) (fun k hk hn => rfl) (fun k hk => hk.elim) (kill_is fun j hj => by simp only [updI, if_neg hj]) (updI_fix hI hid nilV)
    (fun hk => nilO_rel ho (updI_self _ _ _))
  refine ⟨updI ι id nilV, fun j => if j = id then fun _ => False else fp j, ?_⟩
  have hf := LRel.nilSub (updI_self ι id nilV) (h.fr j)
  have := h.put (some j) hf
  have e : putV f (some j) (f j) = f := by funext i; simp only [putV, updV]; split <;> simp_all
  rw [e] at this
  exact this

/-- In a variable lies a nil slice: it is a row (or rows) of the call's own. -/
theorem Conv.nilIn {s : St} {c tt : Nat} {l : List LV} (j id : Nat) (oc : OC) (ho : nilO oc = true) (hid : 16 ≤ id) (hc : c ≠ id) (hσ : s.σ c = some (.cells tt l)) (hj : l[j]? = some (.v nilV)) :
    Conv s ((s.fresh id oc).set c (.cells tt ((kills (fun i => i == id) l).set j (.own id)))) := by
  intro w0 w ι fp f hI
  have h := hI.turn (w' := w) (ι' := updI ι id nilV) (fun i => i == id) id oc (fun _ => False) rfl rfl rfl (Nat.le_refl _) (fun k hk hn => rfl) (fun k hk => hk.elim) (kill_is fun j hj => by simp only [updI, if_neg hj]) (updI_fix hI hid nilV)
    (fun hk => nilO_rel ho (updI_self _ _ _))
  refine ⟨updI ι id nilV, fun j => if j = id then fun _ => False else fp j, ?_⟩
  have hσ' : (s.fresh id oc).σ c = some (.cells tt (kills (fun i => i == id) l)) := by
    simp only [St.fresh, St.turn, if_neg hc, hσ, Option.map_some, killO]
    rw [if_neg (by simpa using hc)]
  obtain ⟨b, ys, g1, g2, g3, g4, g5⟩ := h.ob c _ hσ'
  have hkj : (kills (fun i => i == id) l)[j]? = some (.v nilV) := by
    have : ∀ (l : List LV) (j : Nat), l[j]? = some (.v nilV) → (kills (fun i => i == id) l)[j]? = some (.v nilV) := by
      intro l
      induction l with
      | nil => intro j h; simp at h
      | cons x l ih => intro j h; cases j with
        | zero => simp at h; subst h; simp [kills, kill]
        | succ j => simpa [kills] using ih j (by simpa using h)
    exact this l j hj
  have hys : ys.set j nilV = ys := by
    obtain ⟨y, hy, hr⟩ := LRels.get j _ g5 hkj
    simp only [LRel] at hr
    subst hr
    have hlt := (List.getElem?_eq_some_iff.1 hy).1
    refine List.ext_getElem? fun i => ?_
    rw [List.getElem?_set]
    by_cases e : j = i
    · subst e; rw [if_pos rfl, if_pos hlt, hy]
    · rw [if_neg e]
  have hw : w.setRow b (ys.set j nilV).toArray = w := by rw [hys]; exact setRow_self w b _ tt (0, 0) g4
  have := h.setCells hσ' g1 g4 g3 (LRels.set (x := .own id) (v := nilV) (by simp only [LRel]; exact updI_self _ _ _) j g5)
  rw [hw] at this
  exact this

theorem RetT.two {T : TT} {results : Array ResultVar} {r : LV} {s : St} {rs : List LV} {oc oc2 : OC} (m m2 : Nat) (hm : m ≠ m2) (h : resLs T s results.toList = some rs) (h2 : tupL rs = ren (fun i => [m, m2].getD i 0) r) (h3 : s.σ m = some oc) (h4 : s.σ m2 = some oc2) : RetT T results r [oc, oc2] s :=
  ⟨rs, [m, m2], h, h2, rfl, by simpa using hm, fun i oc' hi => by
    match i with
    | 0 => simp at hi; subst hi; simpa using h3
    | 1 => simp at hi; subst hi; simpa using h4
    | i + 2 => simp at hi⟩

/-! ### Rows that come into being in a region whose order is drawn -/
/-- The state where rows are awaited. -/
def St.late (s : St) (id e : Nat) (vs : List Value) : St := ⟨fun i => kill (fun j => j == id) (s.lf i), fun j => if j = id then some (.late e vs) else (s.σ j).map (killO fun j => j == id)⟩
theorem Conv.late (s : St) (id e : Nat) (vs : List Value) (hid : 16 ≤ id) : Conv s (s.late id e vs) := by
  intro w0 w ι fp f hI
  have hF : ∀ k, FF (s.late id e vs).σ (fun j => if j = id then fun _ => False else fp j) k → FF s.σ fp k := by
    rintro k ⟨j, oc, h1, h2⟩
    by_cases q : j = id
    · rw [if_pos q] at h2; exact h2.elim
    · rw [if_neg q] at h2
      simp only [St.late, if_neg q] at h1
      cases hs : s.σ j with
      | none => rw [hs] at h1; cases h1
      | some oc' => exact ⟨j, oc', hs, h2⟩
  have hk : Keeps (FF s.σ fp) (FF (s.late id e vs).σ (fun j => if j = id then fun _ => False else fp j)) w w := fun p u hp hc => ⟨hc, fun hq => hp (hF _ hq)⟩
  have hι : ∀ j v, (j == id) = false → ι j = some v → (fun j => if j = id then some (.bool false) else ι j) j = some v := fun j v hj h => by
    have : j ≠ id := by simpa using hj
    simp only [if_neg this]; exact h
  refine ⟨fun j => if j = id then some (.bool false) else ι j, fun j => if j = id then fun _ => False else fp j, fun t => (hI.fr t).kills hι hk, fun j oc hj => ?_, fun j j' oc oc' k h1 h2 g1 g2 => ?_, hI.bel, fun k hk' => hI.low k (hF k hk'), fun j v h => ?_⟩
  · by_cases q : j = id
    · subst q
      simp only [St.late, if_true, Option.some.injEq] at hj
      subst hj
      exact .inl ⟨by simp only [if_true], fun k => by simp only [if_true]; exact fun h => h⟩
    · simp only [St.late, if_neg q] at hj
      simp only [if_neg q]
      cases hs : s.σ j with
      | none => rw [hs] at hj; cases hj
      | some oc' =>
        rw [hs] at hj
        simp only [Option.map_some, Option.some.injEq] at hj
        subst hj
        exact (hI.ob j oc' hs).kills (by simpa using q) hι hk (Nat.le_refl _) fun _ _ => rfl
  · by_cases q : j = id
    · simp only [if_pos q] at g1
    · by_cases q' : j' = id
      · simp only [if_pos q'] at g2
      · simp only [St.late, if_neg q] at h1
        simp only [St.late, if_neg q'] at h2
        simp only [if_neg q] at g1
        simp only [if_neg q'] at g2
        cases hs : s.σ j with
        | none => rw [hs] at h1; cases h1
        | some o1 =>
          cases hs' : s.σ j' with
          | none => rw [hs'] at h2; cases h2
          | some o2 => exact hI.dis _ _ _ _ k hs hs' g1 g2
  · have : j ≠ id := fun e => by rw [w0.hi j (by omega)] at h; cases h
    simp only [if_neg this]
    exact hI.fix j v h

/-- The row has been made. -/
theorem Conv.born {s : St} {id e : Nat} {vs : List Value} (t : Nat) (hσ : s.σ id = some (.late e vs)) (ht : s.lf t = .sub id 0 vs.length) : Conv s ((s.set id (.row e vs)).put (some t) (.own id)) := by
  intro w0 w ι fp f hI
  have hv := hI.fr t
  rw [ht] at hv
  simp only [LRel] at hv
  obtain ⟨A, N, c, h1, h2, A', h3, h4, h5⟩ := hv
  have hob : ∃ v, ι id = some v ∧ w.ownsRow 0 e 1 v vs.length vs ∧ (∀ k, fp id k ↔ v.ownBlock = some k) := by
    rcases hI.ob id _ hσ with ⟨g1, _⟩ | h | ⟨b, g1, _⟩
    · rw [h1] at g1; cases g1
    · exact h
    · rw [h1] at g1; cases g1
  obtain ⟨v, g1, g2, g3⟩ := hob
  rw [h1] at g1
  simp only [Option.some.injEq] at g1
  subst g1
  have hN : N = vs.length := by
    rcases g2.2 with ⟨q, _⟩ | ⟨_, _, _, q, _⟩ <;> simp only [Value.slice.injEq] at q <;> omega
  have hF : FF (s.set id (.row e vs)).σ fp = FF s.σ fp := by
    funext k
    apply propext
    constructor
    · rintro ⟨j, oc, a1, a2⟩
      by_cases q : j = id
      · exact ⟨id, _, hσ, by rw [← q]; exact a2⟩
      · simp only [St.set, if_neg q] at a1; exact ⟨j, oc, a1, a2⟩
    · rintro ⟨j, oc, a1, a2⟩
      by_cases q : j = id
      · exact ⟨id, .row e vs, by simp [St.set], by rw [← q]; exact a2⟩
      · exact ⟨j, oc, by simp only [St.set, if_neg q]; exact a1, a2⟩
  have hI' : Inv w0 w ι fp (s.set id (.row e vs)) f := by
    refine ⟨fun i => by rw [hF]; exact hI.fr i, fun j oc hj => ?_, fun j j' oc oc' k a1 a2 b1 b2 => ?_, hI.bel, fun k hk => hI.low k (by rw [← hF]; exact hk), hI.fix⟩
    · rw [hF]
      by_cases q : j = id
      · subst q
        simp only [St.set, if_true, Option.some.injEq] at hj
        subst hj
        exact ⟨_, h1, g2, g3⟩
      · simp only [St.set, if_neg q] at hj; exact hI.ob j oc hj
    · have : ∀ j oc, (s.set id (.row e vs)).σ j = some oc → ∃ oc', s.σ j = some oc' := by
        intro j oc hj
        by_cases q : j = id
        · exact ⟨_, by rw [q]; exact hσ⟩
        · simp only [St.set, if_neg q] at hj; exact ⟨oc, hj⟩
      obtain ⟨o1, c1⟩ := this _ _ a1
      obtain ⟨o2, c2⟩ := this _ _ a2
      exact hI.dis _ _ _ _ k c1 c2 b1 b2
  refine ⟨ι, fp, ?_⟩
  have hput := hI'.put (some t) (x := .own id) (v := f t) (by simp only [LRel]; rw [h1, h3, h4 trivial, hN]; rfl)
  have e : putV f (some t) (f t) = f := by funext i; simp only [putV, updV]; split <;> simp_all
  rw [e] at hput
  exact hput


/-- The variable has been made. -/
theorem Conv.bornCell {s : St} {id e : Nat} {vs : List Value} (t : Nat) (hσ : s.σ id = some (.late e vs)) (ht : s.lf t = .ptr id 0) : Conv s (s.set id (.cells e (vs.map .v))) := by
  intro w0 w ι fp f hI
  have hv := hI.fr t
  rw [ht] at hv
  simp only [LRel] at hv
  obtain ⟨b, h1, h2⟩ := hv
  have hob : ORel ι (FF s.σ fp) w 0 (fp id) id (.cells e (vs.map .v)) := by
    rcases hI.ob id _ hσ with ⟨g1, _⟩ | ⟨v, g1, g2, _⟩ | ⟨b', g1, g2, g3, g4⟩
    · rw [h1] at g1; cases g1
    · rw [h1] at g1
      simp only [Option.some.injEq] at g1
      subst g1
      rcases g2.2 with ⟨q, _⟩ | ⟨_, _, _, q, _⟩ <;> cases q
    · exact ⟨b', vs, g1, g2, g3, g4, LRels.vs⟩
  have hF : FF (s.set id (.cells e (vs.map .v))).σ fp = FF s.σ fp := by
    funext k
    apply propext
    constructor
    · rintro ⟨j, oc, a1, a2⟩
      by_cases q : j = id
      · exact ⟨id, _, hσ, by rw [← q]; exact a2⟩
      · simp only [St.set, if_neg q] at a1; exact ⟨j, oc, a1, a2⟩
    · rintro ⟨j, oc, a1, a2⟩
      by_cases q : j = id
      · exact ⟨id, .cells e (vs.map .v), by simp [St.set], by rw [← q]; exact a2⟩
      · exact ⟨j, oc, by simp only [St.set, if_neg q]; exact a1, a2⟩
  refine ⟨ι, fp, fun i => by rw [hF]; exact hI.fr i, fun j oc hj => ?_, fun j j' oc oc' k a1 a2 b1 b2 => ?_, hI.bel, fun k hk => hI.low k (by rw [← hF]; exact hk), hI.fix⟩
  · rw [hF]
    by_cases q : j = id
    · subst q
      simp only [St.set, if_true, Option.some.injEq] at hj
      subst hj
      exact hob
    · simp only [St.set, if_neg q] at hj; exact hI.ob j oc hj
  · have : ∀ j oc, (s.set id (.cells e (vs.map .v))).σ j = some oc → ∃ oc', s.σ j = some oc' := by
      intro j oc hj
      by_cases q : j = id
      · exact ⟨_, by rw [q]; exact hσ⟩
      · simp only [St.set, if_neg q] at hj; exact ⟨oc, hj⟩
    obtain ⟨o1, c1⟩ := this _ _ a1
    obtain ⟨o2, c2⟩ := this _ _ a2
    exact hI.dis _ _ _ _ k c1 c2 b1 b2

section
variable {P : Program} {T : TT}
theorem OpN.makeSlice (hT : T.Ok P) {o : Oper} {ρ : Operand → LV} {σ : Nat → Option OC} {id t e : Nat} {z : Value} {bts : Nat} {x : Operand} {kk : IntKind} {m : Int} (ho : o.op = .makeSlice t x x) (ht : T.el t = some (e, z, bts)) (hx : ρ x = .v (.int kk m)) (hm0 : 0 ≤ m) (hm : m ≤ 4294967296) (hb : bts ≤ 64) :
    OpN P o ρ σ id e (List.replicate m.toNat z) := by
  intro w0 w ι fp s f hI hσ hρ hid hl hno hnoO
  subst hσ
  have hxv := hI.ev x
  rw [hρ x (by simp [ho, Op.operands]), hx] at hxv
  simp only [LRel] at hxv
  obtain ⟨hu, i, hi, hz, hs, rfl, hzc⟩ := hT.el t e z bts ht
  obtain ⟨m, rfl⟩ := Int.eq_ofNat_of_zero_le hm0
  have hbm : i.bytes * m ≤ 281474976710656 := by
    have := Nat.mul_le_mul hb (show m ≤ 4294967296 by omega)
    omega
  have hr := run_make (P := P) w t e i z hu hi hz kk kk m m (by omega) (Int.le_refl _) (by omega) (by omega)
  simp only [hs, Nat.mul_one, hzc] at hr
  have hr' : (execOp (evV f) o).run P w = .ok (.value (.slice (some ⟨w.heap.size, 0, none⟩) m m)) (w.alloc (.cells (madeCells #[z] m) e)) := by
    simp only [execOp, ho, hxv, Sem.run_bind, hr, Result.andThen_ok, Sem.run_pure, Int.toNat_natCast]
  rw [hr']
  have hown := World.ownsRow_lit (base := 0) (size := 1) (e := e) w (madeCells #[z] m) m (Nat.zero_le _) (by simp only [maxLen]; omega) (by rw [size_madeCells]; omega)
  rw [toList_madeCells_one] at hown
  obtain ⟨ι', fp', h1, h2⟩ := hI.birth (y := .slice (some ⟨w.heap.size, 0, none⟩) m m) hid hl hno hnoO ((Below.refl _ w).alloc (Nat.le_refl _) (.cells (madeCells #[z] m) e)) (by simpa using hown) (fun k hk => by simp [Value.ownBlock] at hk; omega)
  exact .value _ s _ _ ι' fp' h1 h2 ⟨rfl, rfl⟩

theorem OpN.buildRow (hT : T.Ok P) {o : Oper} {ρ : Operand → LV} {σ : Nat → Option OC} {id t e : Nat} {z : Value} {bts n : Nat} {parts : Array (Nat × Operand)} (vs : List Value) (ho : o.op = .buildSlice t n parts) (ht : T.el t = some (e, z, bts)) (hn : n = parts.toList.length) (hl : n ≤ 1000) (hp : partsIn 0 parts.toList = true)
    (hx : (parts.toList.map fun p => ρ p.2) = vs.map .v) (h1 : vs.all (·.oneCell') = true) : OpN P o ρ σ id e vs := by
  intro w0 w ι fp s f hI hσ hρ hid hlt hno hnoO
  subst hσ
  have hev : ∀ p ∈ parts.toList, evL s p.2 = ρ p.2 := fun p hm => hρ p.2 (by simp [ho, Op.operands]; exact ⟨p.1, by simpa using hm⟩)
  have hx2 : (parts.toList.map fun p => evL s p.2) = vs.map .v := by rw [← hx]; exact List.map_congr_left hev
  have hr := exec_buildSlice hT ho ht hn hl hp hI (by rw [hx2]; simpa [oneL, ownIs, List.all_eq_true] using h1)
  have hv : (parts.toList.map fun p => evV f p.2) = vs := by
    have := parts_lr hI parts.toList
    rw [hx2] at this
    exact LRels.eq_vs this
  rw [hv] at hr
  rw [hr]
  have hlen : n = vs.length := by rw [hn, ← List.length_map (f := fun p : Nat × Operand => evL s p.2), hx2, List.length_map]
  have hown := World.ownsRow_lit (base := 0) (size := 1) (e := e) w vs.toArray n (Nat.zero_le _) (by simp only [maxLen]; omega) (by simp; omega)
  obtain ⟨ι', fp', h3, h4⟩ := hI.birth (y := .slice (some ⟨w.heap.size, 0, none⟩) n n) hid hlt hno hnoO ((Below.refl _ w).alloc (Nat.le_refl _) (.cells vs.toArray e)) (by rw [← hlen]; simpa using hown) (fun k hk => by simp [Value.ownBlock] at hk; omega)
  exact .value _ s _ _ ι' fp' h3 h4 ⟨rfl, rfl⟩

theorem OpN.call {o : Oper} {ρ : Operand → LV} {σ : Nat → Option OC} {id e : Nat} {vs : List Value} {fo : Operand} {as : Array Operand} {ts : Array TypeId} {g : Nat} {caps : List LV} {args : List LV} (ho : o.op = .call { callee := .value fo, args := as, argTypes := ts })
    (hf : ρ fo = .fn g caps) (hs : Spec P g args (.own 0) [.row e vs]) (ha : closeBs σ (as.toList.map ρ ++ caps) = args) : OpN P o ρ σ id e vs := by
  intro w0 w ι fp s f hI hσ hx hid hlt hno hnoO
  subst hσ
  subst ha
  have hfo : evL s fo = .fn g caps := by rw [hx fo (by simp [ho, Op.operands, Call.operands]), hf]
  have has : as.toList.map (evL s) = as.toList.map ρ := List.map_congr_left fun x hm => hx x (by simp [ho, Op.operands, Call.operands]; right; simpa using hm)
  obtain ⟨cs, e1, hc⟩ := call_args hfo (as := as) hI
  rw [has] at hc
  rw [run_call ho e1 hs.ent w]
  refine .enter _ _ _ ((hs.run w _ hc).mono ?_)
  rintro e2 w' ⟨v, ι2, fp2, rfl, hI2⟩
  have h0 := hI2.fr 0
  simp only [mkF, if_true, LRel] at h0
  obtain ⟨v', k1, k2, k3⟩ := hI2.ob 0 (.row e vs) rfl
  rw [h0] at k1
  simp only [Option.some.injEq] at k1
  subst k1
  obtain ⟨ι', fp', h3, h4⟩ := hI.birth (y := v) hid hlt hno hnoO hI2.bel.toBelow k2 (fun k hk => (hI2.low k ⟨0, .row e vs, rfl, (k3 k).2 hk⟩).resolve_right fun q => q)
  exact ⟨_, s, v, ι', fp', rfl, h3, h4, rfl, rfl⟩

theorem OpN.alloc (hT : T.Ok P) {o : Oper} {ρ : Operand → LV} {σ : Nat → Option OC} {id t : Nat} {z : Value} {vs : List Value} (ho : o.op = .alloc t) (hz : T.zr t = some z) (hvs : z.cells.toList = vs) : OpN P o ρ σ id t vs true := by
  intro w0 w ι fp s f hI hσ hρ hid hlt hno hnoO
  subst hσ
  subst hvs
  have hr : (execOp (evV f) o).run P w = .ok (.value (.pointer (some ⟨w.heap.size, 0, none⟩))) (w.alloc (.cells z.cells t)) := by
    simp [execOp, ho, Instr.alloc, hT.zr t z hz, newVar, newRow]
  rw [hr]
  obtain ⟨ι', fp', h3, h4⟩ := hI.birthG (y := .pointer (some ⟨w.heap.size, 0, none⟩)) (g := fun k => k = w.heap.size) hid hlt hno hnoO ((Below.refl _ w).alloc (Nat.le_refl _) (.cells z.cells t))
    (fun ι F h => .inr (.inr ⟨w.heap.size, h, Nat.zero_le _, fun k => Iff.rfl, by rw [Array.toArray_toList]; exact heap_alloc_new w _⟩)) (fun k hk => Nat.le_of_eq hk.symm)
  refine .value _ s _ _ ι' fp' h3 ?_ ⟨rfl, rfl⟩
  simp only [bornL, LRel]
  exact ⟨_, h4, rfl⟩

/-! ### Parts of rows of the call's own -/
theorem Conv.prefix_ {s : St} {id n e : Nat} {vs : List Value} (t id' : Nat) (hid : 16 ≤ id') (hne : id' ≠ id) (ht : s.lf t = .sub id 0 n) (hσ : s.σ id = some (.row e vs)) :
    Conv s ((s.turn (fun j => j == id || j == id') id' (.row e (vs.take n))).put (some t) (.own id')) := by
  intro w0 w ι fp f hI
  have hv := hI.fr t
  rw [ht] at hv
  simp only [LRel] at hv
  obtain ⟨A, N, c, h1, h2, A', h3, h4, h5⟩ := hv
  obtain ⟨v, g1, g2, g3⟩ := hI.ob id _ hσ
  rw [h1] at g1
  simp only [Option.some.injEq] at g1
  subst g1
  obtain rfl := h4 trivial
  simp only [Nat.zero_add, Nat.sub_zero] at h2 h3
  have hown : w.ownsRow 0 e 1 (.slice A' n c) (vs.take n).length (vs.take n) := by
    have hl := g2.1
    rcases g2.2 with ⟨q, q0⟩ | ⟨g, cap, cur, q, q1, q2, q3, q4, q5, q6⟩
    · simp only [Value.slice.injEq] at q
      obtain ⟨rfl, rfl, rfl⟩ := q
      have : n = 0 := by omega
      subst this
      have : vs = [] := List.eq_nil_of_length_eq_zero (by omega)
      subst this
      exact World.ownsRow_nil _ _ _ _
    · simp only [Value.slice.injEq] at q
      obtain ⟨rfl, rfl, rfl⟩ := q
      have hln : (vs.take n).length = n := by simp; omega
      refine ⟨by omega, .inr ⟨g, c, cur, by rw [hln], q1, q2, by omega, q4, q5, ?_⟩⟩
      rw [hln, Nat.mul_one, ← q6, List.take_take]
      congr 1
      omega
  have hob : ∀ k, (Value.slice A' n c).ownBlock = some k ↔ (Value.slice A' N c).ownBlock = some k := fun k => by cases A' <;> simp [Value.ownBlock]
  have h := hI.turn (w' := w) (ι' := updI ι id' (.slice A' n c)) (fun j => j == id || j == id') id' (.row e (vs.take n)) (fp id) rfl rfl rfl (Nat.le_refl _) (fun k hk hn => rfl) (fun k hk => .inl ⟨id, _, .inr (by simp), hσ, hk⟩)
    (fun j u hj hu => by
      simp only [Bool.or_eq_false_iff, beq_eq_false_iff_ne, ne_eq] at hj
      simp only [updI, if_neg hj.2]; exact hu) (updI_fix hI hid _)
    (fun hk => ⟨_, updI_self _ _ _, hown, fun k => (g3 k).trans (hob k).symm⟩)
  refine ⟨updI ι id' (.slice A' n c), fun j => if j = id' then fp id else fp j, ?_⟩
  have hput := h.put (some t) (x := .own id') (v := f t) (by simp only [LRel]; rw [updI_self, h3])
  have e1 : putV f (some t) (f t) = f := by funext i; simp only [putV, updV]; split <;> simp_all
  rw [e1] at hput
  exact hput

def cutAt (ρ : Operand → LV) (x : Option Operand) (d n : Nat) : Prop := match x with | none => n = d | some a => ∃ k, ρ a = .v (.int k n)
/-- A part of a row of the call's own. -/
theorem OpT.slice (hT : T.Ok P) {o : Oper} {s : St} {K : LV → St → Prop} {t e : Nat} {z : Value} {bts : Nat} {x : Operand} {lo hi : Option Operand} {id : Nat} {vs : List Value} (l h : Nat) (ho : o.op = .slice t x lo hi none) (ht : T.el t = some (e, z, bts)) (hx : evL s x = .own id) (hσ : s.σ id = some (.row e vs))
    (hlo : cutAt (evL s) lo 0 l) (hhi : cutAt (evL s) hi vs.length h) (h1 : l ≤ h) (h2 : h ≤ vs.length) (hK : K (.sub id l (h - l)) s) : OpT P o s K := by
  intro w0 w ι fp f hI
  have hxv := hI.ev x
  rw [hx] at hxv
  simp only [LRel] at hxv
  obtain ⟨v, g1, g2, g3⟩ := hI.ob id _ hσ
  rw [hxv] at g1
  simp only [Option.some.injEq] at g1
  obtain ⟨hu, i, hi', hz, hs, rfl, hzc⟩ := hT.el t e z bts ht
  obtain ⟨A, c, N, hv, hN, hNc, hA⟩ : ∃ A c N, v = .slice A N c ∧ N = vs.length ∧ N ≤ c ∧ (0 < N → ∃ g, A = some ⟨g, 0, none⟩) := by
    have hl := g2.1
    rcases g2.2 with ⟨q, q0⟩ | ⟨g, cap, cur, q, q1, q2, q3, _⟩
    · exact ⟨none, 0, 0, q, by omega, Nat.le_refl _, fun h => by omega⟩
    · exact ⟨_, _, _, q, rfl, q3, fun _ => ⟨g, rfl⟩⟩
  subst hv
  subst hN
  have hue : P.underlying t = some (.slice (P.elem t)) := by
    have : P.elem t = e := by simp [Program.elem, hu]
    rw [this]; exact hu
  have hes : P.elem t = e := by simp [Program.elem, hu]
  have hsz : (sizeOf e).run P w = .ok 1 w := by simp [sizeOf, typeInfo, hi', hs]
  have hrun : (Instr.sliceAt t (.slice A vs.length c) (lo.map (evV f)) (hi.map (evV f)) none).run P w = .ok (sliced A l h c 1) w := by
    have hlv : ∀ a, lo = some a → ∃ k, evV f a = .int k l := fun a ha => by
      subst ha
      obtain ⟨k, hk⟩ := hlo
      have := hI.ev a
      rw [hk] at this
      simp only [LRel] at this
      exact ⟨k, this⟩
    have hhv : ∀ a, hi = some a → ∃ k, evV f a = .int k h := fun a ha => by
      subst ha
      obtain ⟨k, hk⟩ := hhi
      have := hI.ev a
      rw [hk] at this
      simp only [LRel] at this
      exact ⟨k, this⟩
    rw [run_sliceAt_slice (h := hue)]
    cases lo with
    | none =>
      simp only [cutAt] at hlo
      subst hlo
      cases hi with
      | none =>
        simp only [cutAt] at hhi
        subst hhi
        simp only [Option.map_none]
        rw [run_slice_all (ht := hue), hes, hsz]
        simp
      | some b =>
        obtain ⟨k, hk⟩ := hhv b rfl
        simp only [Option.map_none, Option.map_some, hk]
        rw [run_slice_h (ht := hue) (h0 := by omega) (h2 := by omega), hes, hsz]
        simp
    | some a =>
      obtain ⟨k, hk⟩ := hlv a rfl
      cases hi with
      | none =>
        simp only [cutAt] at hhi
        subst hhi
        simp only [Option.map_none, Option.map_some, hk]
        rw [run_slice_l (ht := hue) (h0 := by omega) (h1 := by omega), hes, hsz]
        simp
      | some b =>
        obtain ⟨k', hk'⟩ := hhv b rfl
        simp only [Option.map_some, hk, hk']
        rw [run_slice_lh (ht := hue) (h0 := by omega) (h1 := by omega) (h2 := by omega), hes, hsz]
        simp
  have hr : (execOp (evV f) o).run P w = .ok (.value (sliced A l h c 1)) w := by
    simp [execOp, ho, g1, hrun]
  rw [hr]
  refine .value _ s _ _ ι fp hI ?_ hK
  simp only [LRel]
  refine ⟨A, vs.length, c, by rw [hxv, g1], by omega, (if c = l then A else A.map (·.add (l * 1))), rfl, fun h0 => ?_, fun hpos => ?_⟩
  · subst h0
    split
    · rfl
    · cases A with
      | none => rfl
      | some a =>
        obtain ⟨b, off, tl⟩ := a
        cases tl <;> simp [Addr.add]
  · obtain ⟨g, rfl⟩ := hA (by omega)
    refine ⟨g, rfl, ?_⟩
    rw [if_neg (by omega)]
    simp only [Option.map_some, Nat.mul_one, add0]

theorem cut_take {α : Type} (L zs : List α) (N i n : Nat) (hN : N ≤ L.length) (hi : i + n ≤ N) (hz : zs.length = n) : (L.take i ++ zs ++ L.drop (i + n)).take N = (L.take N).take i ++ zs ++ (L.take N).drop (i + n) := by
  have hl : (L.take i ++ zs).length = i + n := by simp; omega
  rw [List.take_take, Nat.min_eq_left (by omega), List.drop_take, List.take_append, hl, List.take_of_length_le (by omega)]
/-- A part of a row of the call's own is set to zeros. -/
theorem OpT.clear (hT : T.Ok P) {o : Oper} {s : St} {K : LV → St → Prop} {t e : Nat} {z : Value} {bts : Nat} {x : Operand} {id i n : Nat} {vs : List Value} (ho : o.op = .call { callee := .builtin .clear, args := #[x], argTypes := #[t] }) (ht : T.el t = some (e, z, bts)) (hx : evL s x = .sub id i n) (hσ : s.σ id = some (.row e vs)) (hz1 : z.oneCell' = true)
    (hK : K (.tup []) (s.set id (.row e (vs.take i ++ List.replicate n z ++ vs.drop (i + n))))) : OpT P o s K := by
  intro w0 w ι fp f hI
  have hxv := hI.ev x
  rw [hx] at hxv
  simp only [LRel] at hxv
  obtain ⟨A, N, c, h1, h2, A', h3, h4, h5⟩ := hxv
  obtain ⟨v, g1, g2, g3⟩ := hI.ob id _ hσ
  rw [h1] at g1
  simp only [Option.some.injEq] at g1
  subst g1
  obtain ⟨hu, ik, hi', hz, hs, rfl, hzc⟩ := hT.el t e z bts ht
  have hN : N = vs.length := by
    have hl := g2.1
    rcases g2.2 with ⟨q, q0⟩ | ⟨g, cap, cur, q, q1, q2, q3, _⟩ <;> simp only [Value.slice.injEq] at q <;> omega
  by_cases hn : n = 0
  · subst hn
    have hr : (execOp (evV f) o).run P w = .ok (.value (.tuple #[])) w := by
      have : (Builtin.clear_ #[t] o.type #[Value.slice A' 0 (c - i)]).run P w = .ok (.tuple #[]) w := by
        cases A' <;> simp [Builtin.clear_, run_underlying hu]
      simp only [execOp, ho, resolve, invoke, builtin, Sem.run_bind, Sem.run_pure, Result.andThen_ok, List.map_toArray, List.map_cons, List.map_nil, h3]
      simp [this]
    rw [hr]
    have hvs : vs.take i ++ List.replicate 0 z ++ vs.drop (i + 0) = vs := by simp
    have hset : s.set id (.row e (vs.take i ++ List.replicate 0 z ++ vs.drop (i + 0))) = s := by
      rw [hvs]
      unfold St.set
      cases s with
      | mk lf σ =>
        congr 1
        funext j
        by_cases q : j = id
        · rw [if_pos q, q]; exact hσ.symm
        · rw [if_neg q]
    rw [hset] at hK
    exact .value _ s _ _ ι fp hI (by simp only [LRel]; exact ⟨[], rfl, by simp only [LRels]⟩) hK
  · obtain ⟨g, rfl, rfl⟩ := h5 (by omega)
    rcases g2.2 with ⟨q, _⟩ | ⟨g', cap, cur, q, q1, q2, q3, q4, q5, q6⟩
    · cases q
    simp only [Value.slice.injEq, Option.some.injEq, Addr.mk.injEq, and_true] at q
    obtain ⟨rfl, rfl, rfl⟩ := q
    have hst := run_storeCells_at (P := P) g i e (List.replicate n z) 0 cur w q2 (by simp; omega) (by intro v hv; rw [List.eq_of_mem_replicate hv]; exact hz1)
    simp only [Nat.add_zero, List.length_replicate] at hst
    have hzv : (zeroValue e).run P w = .ok z w := by simp [zeroValue, typeInfo, hi', hz]
    have hzl : (Builtin.zeroCells z.cells n).toList = List.replicate n z := by
      rw [hzc]
      simp [Builtin.zeroCells]
      apply List.ext_getElem
      · simp
      · intro i h1 h2
        simp [Nat.mod_one]
    have hrun : (Builtin.clear_ #[t] o.type #[Value.slice (some ⟨g, i, none⟩) n (c - i)]).run P w = .ok (.tuple #[]) (w.setRow g (cur.toList.take i ++ List.replicate n z ++ cur.toList.drop (i + n)).toArray) := by
      obtain ⟨m, rfl⟩ : ∃ m, n = m + 1 := ⟨n - 1, by omega⟩
      simp only [Builtin.clear_, Sem.run_bind, run_underlying hu, Result.andThen_ok, List.getElem?_toArray, List.getElem?_cons_zero]
      simp only [Sem.run_bind, hzv, Result.andThen_ok, hzl, hst, Sem.run_pure]
    have hr : (execOp (evV f) o).run P w = .ok (.value (.tuple #[])) (w.setRow g (cur.toList.take i ++ List.replicate n z ++ cur.toList.drop (i + n)).toArray) := by
      simp only [execOp, ho, resolve, invoke, builtin, Sem.run_bind, Sem.run_pure, Result.andThen_ok, List.map_toArray, List.map_cons, List.map_nil, h3]
      simp [hrun]
    rw [hr]
    have hln : (vs.take i ++ List.replicate n z ++ vs.drop (i + n)).length = vs.length := by simp; omega
    have hcut : (cur.toList.take i ++ List.replicate n z ++ cur.toList.drop (i + n)).take vs.length = vs.take i ++ List.replicate n z ++ vs.drop (i + n) := by
      have hl : cur.toList.length = c := by simpa using q5
      rw [Nat.mul_one, hN] at q6
      have := cut_take cur.toList (List.replicate n z) vs.length i n (by omega) (by omega) (by simp)
      rw [q6] at this
      exact this
    have h := hI.turn (w' := w.setRow g (cur.toList.take i ++ List.replicate n z ++ cur.toList.drop (i + n)).toArray) (ι' := ι) (fun _ => false) id (.row e (vs.take i ++ List.replicate n z ++ vs.drop (i + n))) (fp id) rfl rfl rfl (by simp)
      (fun k hk hn' => setRow_other w g k _ (fun e' => hn' id _ (.inl rfl) hσ ((g3 k).2 (by rw [e']; rfl))))
      (fun k hk => .inl ⟨id, _, .inl rfl, hσ, hk⟩) (fun _ _ _ e => e) hI.fix
      (fun hk => ⟨_, h1, ⟨by omega, .inr ⟨g, c, _, by rw [hln, hN], Nat.zero_le _, setRow_heap w g _ _ _ _ q2, by rw [hln, ← hN]; exact q3, q4, by simp at q5 ⊢; omega, by rw [hln]; simpa using hcut⟩⟩, g3⟩)
    rw [turn_none, fp_self] at h
    exact .value _ _ _ _ ι fp h (by simp only [LRel]; exact ⟨[], rfl, by simp only [LRels]⟩) hK

theorem Conv.move {s : St} {id e : Nat} {vs : List Value} (t id' : Nat) (hid : 16 ≤ id') (ht : s.lf t = .own id) (hσ : s.σ id = some (.row e vs)) : Conv s ((s.turn (fun j => j == id || j == id') id' (.row e vs)).put (some t) (.own id')) := by
  intro w0 w ι fp f hI
  have hv := hI.fr t
  rw [ht] at hv
  simp only [LRel] at hv
  obtain ⟨v, g1, g2, g3⟩ := hI.ob id _ hσ
  rw [hv] at g1
  simp only [Option.some.injEq] at g1
  have h := hI.turn (w' := w) (ι' := updI ι id' v) (fun j => j == id || j == id') id' (.row e vs) (fp id) rfl rfl rfl (Nat.le_refl _) (fun k hk hn => rfl) (fun k hk => .inl ⟨id, _, .inr (by simp), hσ, hk⟩)
    (fun j u hj hu => by
      simp only [Bool.or_eq_false_iff, beq_eq_false_iff_ne, ne_eq] at hj
      simp only [updI, if_neg hj.2]; exact hu) (updI_fix hI hid _)
    (fun hk => ⟨v, updI_self _ _ _, g2, g3⟩)
  refine ⟨updI ι id' v, fun j => if j = id' then fp id else fp j, ?_⟩
  have hput := h.put (some t) (x := .own id') (v := f t) (by simp only [LRel]; rw [updI_self, g1])
  have e1 : putV f (some t) (f t) = f := by funext i; simp only [putV, updV]; split <;> simp_all
  rw [e1] at hput
  exact hput

section
variable {n : Nat} {all : Array Oper} {o : Oper} {l : List Oper} {s : St} {k : Kont}
theorem HereO.slice (hT : T.Ok P) {t e : Nat} {z : Value} {bts : Nat} {x : Operand} {lo hi : Option Operand} {id : Nat} {vs : List Value} (a h : Nat) (ho : o.op = .slice t x lo hi none) (ht : T.el t = some (e, z, bts)) (hx : evL s x = .own id) (hσ : s.σ id = some (.row e vs))
    (hlo : cutAt (evL s) lo 0 a) (hhi : cutAt (evL s) hi vs.length h) (h1 : a ≤ h) (h2 : h ≤ vs.length) (hK : OpsV P T n all l (s.put o.dst (.sub id a (h - a))) k) : HereO P T n all o l s k :=
  HereO.of hT hK fun hK => OpT.slice hT a h ho ht hx hσ hlo hhi h1 h2 hK
theorem HereO.clear (hT : T.Ok P) {t e : Nat} {z : Value} {bts : Nat} {x : Operand} {id i m : Nat} {vs : List Value} (ho : o.op = .call { callee := .builtin .clear, args := #[x], argTypes := #[t] }) (ht : T.el t = some (e, z, bts)) (hx : evL s x = .sub id i m) (hσ : s.σ id = some (.row e vs)) (hz1 : z.oneCell' = true)
    (hK : OpsV P T n all l ((s.set id (.row e (vs.take i ++ List.replicate m z ++ vs.drop (i + m)))).put o.dst (.tup [])) k) : HereO P T n all o l s k :=
  HereO.of hT hK fun hK => OpT.clear hT ho ht hx hσ hz1 hK
end
end
end Go.Proofs.Ytdbkiomhoonclaa
