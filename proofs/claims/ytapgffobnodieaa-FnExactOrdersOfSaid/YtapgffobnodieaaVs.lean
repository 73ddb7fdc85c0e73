/- A calculus of verification conditions over logical values: nil slices as rows of the call's own; results told in other words. -/
import Derived.Test.YtapgffobnodieaaVr
namespace Go.Proofs.Ytapgffobnodieaa
open Go.RowKit
set_option linter.unusedVariables false
set_option linter.unusedSimpArgs false

/-- What is handed back, told in other words. -/
def RetC (T : TT) (results : Array ResultVar) (r : LV) (os : List OC) (s : St) : Prop := ∃ s', Conv s s' ∧ RetT T results r os s'
theorem RetC.of {T : TT} {results : Array ResultVar} {r : LV} {os : List OC} {s : St} (h : RetT T results r os s) : RetC T results r os s := ⟨s, fun _ _ ι fp _ hI => ⟨ι, fp, hI⟩, h⟩
theorem RetC.conv {T : TT} {results : Array ResultVar} {r : LV} {os : List OC} {s s' : St} (hc : Conv s s') (h : RetC T results r os s') : RetC T results r os s := let ⟨s2, h1, h2⟩ := h; ⟨s2, hc.trans h1, h2⟩
def RetMC (T : TT) (results : Array ResultVar) (n : Nat) (r : LV) (os' : List (Option OC)) (s : St) : Prop := ∃ s', Conv s s' ∧ RetM T results n r os' s'

theorem Here.done {P : Program} {n : Nat} {c : Code} {s : St} {R : St → Prop} (h : Here P n c s (.done fun s => ∃ s', Conv s s' ∧ R s')) : Here P n c s (.done R) := by
  have after : ∀ (w0 : Base) a w, After n w0 (fun s => ∃ s', Conv s s' ∧ R s') a w → After n w0 R a w := by
    rintro w0 a w ⟨s, f, ι, fp, h1, h2, s', h3, h4⟩
    obtain ⟨ι', fp', h5⟩ := h3 _ _ _ _ _ h2
    exact ⟨s', f, ι', fp', h1, h5, h4⟩
  intro w0 w ι fp f a hf hI
  refine Code.wp_mono (fun e a w q => ?_) (h w0 w ι fp f a hf hI)
  cases e <;> simp only [Post, KN] at q ⊢
  · exact after _ _ _ q
  · obtain ⟨_, _, _, _, _, _, h3⟩ := q; exact h3.elim
  · exact after _ _ _ q

theorem Spec.of_codeC {P : Program} {T : TT} (hT : T.Ok P) {g n : Nat} {fn : Func} {c : Code} {args : List LV} {r : LV} {os : List OC} (hf : P.funcs[g]? = some fn) (hb : fn.body = some c) (hn : fn.ntmps = n) (ent : ∀ args w, (callFunc g args).run P w = .ok (.enter g args) w)
    (hl : args.length ≤ n) (hp : plainL r = true) (hpo : os.all plainO = true) (h : Here P n c (entry args) (.done (RetC T fn.results r os))) : Spec P g args r os :=
  Spec.of_code hT hf hb hn ent hl hp hpo (Here.done h)
theorem SpecM.of_codeC {P : Program} {T : TT} (hT : T.Ok P) {g n : Nat} {fn : Func} {c : Code} {args : List LV} {os : List OC} {r : LV} {os' : List (Option OC)} (hf : P.funcs[g]? = some fn) (hb : fn.body = some c) (hn : fn.ntmps = n) (ent : ∀ args w, (callFunc g args).run P w = .ok (.enter g args) w)
    (hl : args.length ≤ n) (hlen : os.length ≤ 16) (hlen' : os.length ≤ os'.length) (hp : plainL r = true) (hpo : os'.all (fun o => o.all plainO) = true) (h : Here P n c ⟨mkE args, osF os⟩ (.done (RetMC T fn.results os.length r os'))) : SpecM P g args os r os' :=
  SpecM.of_code' hT hf hb hn ent hl hlen hlen' hp hpo (Here.done h)

/-! ### nil slices -/
def isNil : Value → Bool
  | .slice none 0 0 => true
  | _ => false
theorem isNil_eq {v : Value} (h : isNil v = true) : v = nilV := by
  unfold isNil at h
  split at h
  · rfl
  · cases h
mutual
/-- A nil slice is the row id. -/
def nilSub (id : Nat) : LV → LV
  | .v x => if isNil x then .own id else .v x
  | .agg l => .agg (nilSubs id l)
  | .tup l => .tup (nilSubs id l)
  | .rd vs => .rd vs
  | .rds t => .rds t
  | .own j => .own j
  | .ptr i o => .ptr i o
  | .box l => .box l
  | .pc x => .pc x
  | .fn g l => .fn g l
  | .pe i j => .pe i j
  | .rdL l => .rdL l
  | .junk => .junk
def nilSubs (id : Nat) : List LV → List LV
  | [] => []
  | x :: l => nilSub id x :: nilSubs id l
end
mutual
theorem LRel.nilSub {ι : Nat → Option Value} {F : Nat → Prop} {w : World} {id : Nat} (hι : ι id = some nilV) : ∀ {x : LV} {y : Value}, LRel ι F w x y → LRel ι F w (nilSub id x) y
  | .v x, y, h => by
    simp only [Go.Proofs.Ytapgffobnodieaa.nilSub]
    split
    · rename_i hn
      have := isNil_eq hn
      simp only [LRel] at h ⊢
      rw [h, this]; exact hι
    · exact h
  | .agg l, y, h => by
    simp only [LRel, Go.Proofs.Ytapgffobnodieaa.nilSub] at *
    obtain ⟨ys, e, h⟩ := h
    exact ⟨ys, e, LRels.nilSub hι h⟩
  | .tup l, y, h => by
    simp only [LRel, Go.Proofs.Ytapgffobnodieaa.nilSub] at *
    obtain ⟨ys, e, h⟩ := h
    exact ⟨ys, e, LRels.nilSub hι h⟩
  | .rd vs, y, h => h
  | .rds t, y, h => h
  | .own j, y, h => h
  | .ptr i o, y, h => h
  | .box l, y, h => h
  | .pc x, y, h => h
  | .fn g l, y, h => h
  | .pe i j, y, h => h
  | .rdL l, y, h => h
  | .junk, y, h => h
theorem LRels.nilSub {ι : Nat → Option Value} {F : Nat → Prop} {w : World} {id : Nat} (hι : ι id = some nilV) : ∀ {l : List LV} {ys : List Value}, LRels ι F w l ys → LRels ι F w (nilSubs id l) ys
  | [], _, h => by simp only [LRels, nilSubs] at *; exact h
  | _ :: _, _, h => by
    simp only [LRels, nilSubs] at *
    obtain ⟨y, r, e, h1, h2⟩ := h
    exact ⟨y, r, e, LRel.nilSub hι h1, LRels.nilSub hι h2⟩
end

def nilO (oc : OC) : Bool := match oc with | .row _ [] => true | .rows _ _ [] => true | _ => false
theorem nilO_rel {ι : Nat → Option Value} {F : Nat → Prop} {w : World} {id : Nat} {oc : OC} (h : nilO oc = true) (hι : ι id = some nilV) : ORel ι F w 0 (fun _ => False) id oc := by
  unfold nilO at h
  split at h
  · exact ⟨nilV, hι, World.ownsRow_nil _ _ _ _, fun k => by simp [nilV, Value.ownBlock]⟩
  · exact ⟨nilV, [], hι, World.ownsRow_nil _ _ _ _, fun k hk => by simp [nilV, Value.ownBlock] at hk, rfl, fun k hk => hk.elim⟩
  · cases h

/-- Nil slices in a slot are a row (or rows) of the call's own. -/
theorem Conv.nilAt {s : St} (j id : Nat) (oc : OC) (hid : 16 ≤ id) (ho : nilO oc = true) : Conv s ((s.fresh id oc).put (some j) (nilSub id ((s.fresh id oc).lf j))) := by
  intro w0 w ι fp f hI
  have h := hI.turn (w' := w) (ι' := updI ι id nilV) (fun i => i == id) id oc (fun _ => False) rfl rfl rfl (Nat.le_refl _) (fun k hk hn => rfl) (fun k hk => hk.elim) (kill_is fun j hj => by simp only [updI, if_neg hj]) (updI_fix hI hid nilV)
    (fun hk => nilO_rel ho (updI_self _ _ _))
  refine ⟨updI ι id nilV, fun j => if j = id then fun _ => False else fp j, ?_⟩
  have hf := LRel.nilSub (updI_self ι id nilV) (h.fr j)
  have := h.put (some j) hf
  have e : putV f (some j) (f j) = f := by funext i; simp only [putV, updV]; split <;> simp_all
  rw [e] at this
  exact this

/-- In a variable lies a nil slice: it is a row (or rows) of the call's own. -/
theorem Conv.nilIn {s : St} {c tt : Nat} {l : List LV} (j id : Nat) (oc : OC) (ho : nilO oc = true) (hid : 16 ≤ id) (hc : c ≠ id) (hσ : s.σ c = some (.cells tt l)) (hj : l[j]? = some (.v nilV)) :
    Conv s ((s.fresh id oc).set c (.cells tt ((kills (fun i => i == id) l).set j (.own id)))) := by
  intro w0 w ι fp f hI
  have h := hI.turn (w' := w) (ι' := updI ι id nilV) (fun i => i == id) id oc (fun _ => False) rfl rfl rfl (Nat.le_refl _) (fun k hk hn => rfl) (fun k hk => hk.elim) (kill_is fun j hj => by simp only [updI, if_neg hj]) (updI_fix hI hid nilV)
    (fun hk => nilO_rel ho (updI_self _ _ _))
  refine ⟨updI ι id nilV, fun j => if j = id then fun _ => False else fp j, ?_⟩
  have hσ' : (s.fresh id oc).σ c = some (.cells tt (kills (fun i => i == id) l)) := by
    simp only [St.fresh, St.turn, if_neg hc, hσ, Option.map_some, killO]
    rw [if_neg (by simpa using hc)]
  obtain ⟨b, ys, g1, g2, g3, g4, g5⟩ := h.ob c _ hσ'
  have hkj : (kills (fun i => i == id) l)[j]? = some (.v nilV) := by
    have : ∀ (l : List LV) (j : Nat), l[j]? = some (.v nilV) → (kills (fun i => i == id) l)[j]? = some (.v nilV) := by
      intro l
      induction l with
      | nil => intro j h; simp at h
      | cons x l ih => intro j h; cases j with
        | zero => simp at h; subst h; simp [kills, kill]
        | succ j => simpa [kills] using ih j (by simpa using h)
    exact this l j hj
  have hys : ys.set j nilV = ys := by
    obtain ⟨y, hy, hr⟩ := LRels.get j _ g5 hkj
    simp only [LRel] at hr
    subst hr
    have hlt := (List.getElem?_eq_some_iff.1 hy).1
    refine List.ext_getElem? fun i => ?_
    rw [List.getElem?_set]
    by_cases e : j = i
    · subst e; rw [if_pos rfl, if_pos hlt, hy]
    · rw [if_neg e]
  have hw : w.setRow b (ys.set j nilV).toArray = w := by rw [hys]; exact setRow_self w b _ tt (0, 0) g4
  have := h.setCells hσ' g1 g4 g3 (LRels.set (x := .own id) (v := nilV) (by simp only [LRel]; exact updI_self _ _ _) j g5)
  rw [hw] at this
  exact this

theorem RetT.two {T : TT} {results : Array ResultVar} {r : LV} {s : St} {rs : List LV} {oc oc2 : OC} (m m2 : Nat) (hm : m ≠ m2) (h : resLs T s results.toList = some rs) (h2 : tupL rs = ren (fun i => [m, m2].getD i 0) r) (h3 : s.σ m = some oc) (h4 : s.σ m2 = some oc2) : RetT T results r [oc, oc2] s :=
  ⟨rs, [m, m2], h, h2, rfl, by simpa using hm, fun i oc' hi => by
    match i with
    | 0 => simp at hi; subst hi; simpa using h3
    | 1 => simp at hi; subst hi; simpa using h4
    | i + 2 => simp at hi⟩
end Go.Proofs.Ytapgffobnodieaa
