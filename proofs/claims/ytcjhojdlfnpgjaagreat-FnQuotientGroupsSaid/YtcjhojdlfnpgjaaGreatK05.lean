/- A calculus of verification conditions over logical values: a function's contract out of the conditions of its body; A calculus of verification conditions over logical values: calls that write into rows of the caller's own. -/
import Derived.Test.YtcjhojdlfnpgjaaGreatK02
import Derived.Test.YtcjhojdlfnpgjaaGreatK04
set_option linter.unusedVariables false
set_option linter.unusedSimpArgs false
set_option maxRecDepth 100000
namespace Go.Proofs.YtcjhojdlfnpgjaaGreat
open Go.RowKit
def mkE : List LV → Nat → LV
  | [], _ => .v undef
  | x :: l, i => if i = 0 then x else mkE l (i - 1)
def entry (args : List LV) : St := ⟨mkE args, fun _ => none⟩
def resL (T : TT) (s : St) : ResultVar → Option LV
  | .tmp t => some (s.lf t)
  | .cell a t => match s.lf a with
    | .ptr id off => match off, s.σ id with
      | 0, some (.cells _ l) => match T.ag t with
        | some k => if l.length = k then some (.agg l) else none
        | none => if T.sc t then l.head? else none
      | _, _ => none
    | _ => none
def resLs (T : TT) (s : St) : List ResultVar → Option (List LV)
  | [] => some []
  | r :: l => match resL T s r, resLs T s l with
    | some x, some xs => some (x :: xs)
    | _, _ => none
def tupL : List LV → LV
  | [x] => x
  | l => .tup l
def RetT (T : TT) (results : Array ResultVar) (r : LV) (os : List OC) (s : St) : Prop :=
  ∃ rs ms, resLs T s results.toList = some rs ∧ tupL rs = ren (fun i => (ms : List Nat).getD i 0) r ∧ ms.length = os.length ∧ ms.Nodup ∧ ∀ i oc, os[i]? = some oc → s.σ (ms.getD i 0) = some oc
theorem mkE_rel {w : World} : ∀ {args : List LV} {ys : List Value}, LRels noI noF w args ys → ∀ i, LRel noI noF w (mkE args i) ((ys[i]?).getD undef)
  | [], _, h, i => by
    simp only [LRels] at h
    subst h
    simp only [mkE, LRel]
    simp
  | x :: l, _, h, i => by
    simp only [LRels] at h
    obtain ⟨y, r, rfl, h1, h2⟩ := h
    unfold mkE
    by_cases e : i = 0
    · subst e; simpa using h1
    · rw [if_neg e]
      obtain ⟨j, rfl⟩ : ∃ j, i = j + 1 := ⟨i - 1, by omega⟩
      simpa using mkE_rel h2 j
theorem run_resL {P : Program} {T : TT} (hT : T.Ok P) {w0 : Base} {w : World} {ι : Nat → Option Value} {fp : Nat → Nat → Prop} {s : St} {f : Nat → Value} {n : Nat} {a : Act} (hf : FR n f a) (hI : Inv w0 w ι fp s f) {x : ResultVar} {y : LV} (h : resL T s x = some y) :
    ∃ v, ((match x with | .tmp t => pure (a.tmps.getD t undef) | .cell b t => do loadVar t (← asAddr (a.tmps.getD b undef)) : Sem Value)).run P w = .ok v w ∧ LRel ι (FF s.σ fp) w y v := by
  cases x with
  | tmp t =>
    simp only [resL, Option.some.injEq] at h
    subst h
    exact ⟨_, by simp only [Sem.run_pure, hf.val t], hI.fr t⟩
  | cell b t =>
    simp only [resL] at h
    split at h <;> try (cases h; done)
    rename_i id off hb
    split at h <;> try (cases h; done)
    rename_i t' l hσ
    have hv := hI.fr b
    rw [hb] at hv
    simp only [LRel] at hv
    obtain ⟨c, h1, h2⟩ := hv
    obtain ⟨c', ys, g1, g2, g3, g4, g5⟩ := hI.ob id _ hσ
    rw [h1] at g1
    simp only [Option.some.injEq, Value.pointer.injEq, Addr.mk.injEq, and_true] at g1
    subst g1
    simp only [hf.val b, h2]
    split at h
    · rename_i k hk
      split at h <;> try (cases h; done)
      rename_i hl
      simp only [Option.some.injEq] at h
      subst h
      have hlen := g5.length
      have := run_loadAt_ag hT (t := t) (ys := ys) (by rw [hk, hlen, hl]) (w := w) (b := c) (fun j u hu => by rw [cell_at g4 j, hu])
      refine ⟨.agg ys.toArray, ?_, by simp only [LRel]; exact ⟨ys, rfl, g5⟩⟩
      simpa [Instr.loadAt, Instr.sureAddr, asAddr] using this
    · split at h <;> try (cases h; done)
      rename_i hsc
      cases l with
      | nil => simp at h
      | cons z l =>
        simp only [List.head?_cons, Option.some.injEq] at h
        subst h
        obtain ⟨u, hu, hr⟩ := LRels.get 0 z g5 rfl
        have := run_loadAt_sc hT hsc ((cell_at g4 0).trans hu)
        refine ⟨u, ?_, hr⟩
        simpa [Instr.loadAt, Instr.sureAddr, asAddr] using this
theorem run_resLs {P : Program} {T : TT} (hT : T.Ok P) {w0 : Base} {w : World} {ι : Nat → Option Value} {fp : Nat → Nat → Prop} {s : St} {f : Nat → Value} {n : Nat} {a : Act} (hf : FR n f a) (hI : Inv w0 w ι fp s f) : ∀ {l : List ResultVar} {rs : List LV}, resLs T s l = some rs →
    ∃ vs, (l.mapM (fun x => (match x with | .tmp t => pure (a.tmps.getD t undef) | .cell b t => do loadVar t (← asAddr (a.tmps.getD b undef)) : Sem Value))).run P w = .ok vs w ∧ LRels ι (FF s.σ fp) w rs vs
  | [], rs, h => by
    simp only [resLs, Option.some.injEq] at h
    subst h
    exact ⟨[], by simp, by simp only [LRels]⟩
  | x :: l, rs, h => by
    simp only [resLs] at h
    split at h <;> try (cases h; done)
    rename_i y ys hy hys
    simp only [Option.some.injEq] at h
    subst h
    obtain ⟨v, h1, h2⟩ := run_resL hT hf hI hy
    obtain ⟨vs, h3, h4⟩ := run_resLs hT hf hI hys
    refine ⟨v :: vs, ?_, by simp only [LRels]; exact ⟨v, vs, rfl, h2, h4⟩⟩
    simp only [List.mapM_cons, Sem.run_bind, h1, Result.andThen_ok, h3, Sem.run_pure]
theorem run_results {P : Program} {T : TT} (hT : T.Ok P) {w0 : Base} {w : World} {ι : Nat → Option Value} {fp : Nat → Nat → Prop} {s : St} {f : Nat → Value} {n : Nat} {a : Act} (hf : FR n f a) (hI : Inv w0 w ι fp s f) {fn : Func} {rs : List LV} (h : resLs T s fn.results.toList = some rs) :
    ∃ v, (results fn a.tmps).run P w = .ok v w ∧ LRel ι (FF s.σ fp) w (tupL rs) v := by
  obtain ⟨vs, h1, h2⟩ := run_resLs hT hf hI h
  have hl := h2.length
  have hr : (results fn a.tmps).run P w = .ok (if h : (List.toArray vs).size = 1 then (List.toArray vs)[0] else .tuple (List.toArray vs)) w := by
    unfold results
    rw [Array.mapM_eq_mapM_toList]
    simp only [Sem.run_bind, Sem.run_map]
    exact congrArg (fun (R : Result (List Value)) => ((R.andThen fun a w' => Result.ok a.toArray w').andThen fun a w' => Sem.run P (pure (if h : a.size = 1 then a[0] else Value.tuple a)) w')) h1
  rw [hr]
  refine ⟨_, rfl, ?_⟩
  match vs, rs, hl, h2 with
  | [], [], _, _ => simp only [tupL, LRel]; exact ⟨[], rfl, by simp only [LRels]⟩
  | [v], [x], _, h2 =>
    simp only [LRels] at h2
    obtain ⟨y, r, e, h3, rfl⟩ := h2
    simp only [List.cons.injEq, and_true] at e
    subst e
    simpa [tupL] using h3
  | v1 :: v2 :: vs, x1 :: x2 :: rs, _, h2 =>
    simp only [tupL, LRel]
    refine ⟨v1 :: v2 :: vs, ?_, h2⟩
    rw [dif_neg (by simp)]
theorem Spec.of_code {P : Program} {T : TT} (hT : T.Ok P) {g n : Nat} {fn : Func} {c : Code} {args : List LV} {r : LV} {os : List OC} (hf : P.funcs[g]? = some fn) (hb : fn.body = some c) (hn : fn.ntmps = n) (ent : ∀ args w, (callFunc g args).run P w = .ok (.enter g args) w)
    (hl : args.length ≤ n) (hp : plainL r = true) (hpo : os.all plainO = true) (h : Here P n c (entry args) (.done (RetT T fn.results r os))) : Spec P g args r os := by
  refine ⟨ent, fun w ys hys => calls_of_wp hf hb ?_⟩
  have hlen := hys.length
  have hF : FR n (fun i => (ys[i]?).getD undef) { tmps := ys.toArray ++ Array.replicate (fn.ntmps - ys.toArray.size) undef, defers := [] } := by
    refine ⟨by simp [hn]; omega, rfl, fun i => ?_⟩
    simp only [Array.getD_eq_getD_getElem?, Array.getElem?_append, List.size_toArray, List.getElem?_toArray]
    by_cases hi : i < ys.length
    · rw [if_pos hi]
    · rw [if_neg hi, Array.getElem?_replicate, List.getElem?_eq_none (by omega)]
      split <;> rfl
  have hI : Inv (Base.of w) w noI (fun _ _ => False) (entry args) (fun i => (ys[i]?).getD undef) := by
    refine ⟨fun i => ?_, fun id oc h => (by cases h), fun _ _ _ _ _ h => (by cases h), Kept.refl _, fun k ⟨_, _, h, _⟩ => (by cases h), fun id v h => (by cases h)⟩
    exact (mkE_rel hys i).keeps (fun _ _ e => e) fun p u _ hc => ⟨hc, fun ⟨_, _, h, _⟩ => (by cases h)⟩
  have key : ∀ a w', After n (Base.of w) (RetT T fn.results r os) a w' → a.defers = [] ∧ ∃ v, (results fn a.tmps).run P w' = .ok v w' ∧ ∃ v' ι fp, Ending.returned v = .returned v' ∧ Inv (Base.of w) w' ι fp ⟨mkF [(0, r)], osF os⟩ fun _ => v' := by
    rintro a w' ⟨s, f, ι, fp, h1, h2, rs, ms, g1, g2, g3, g4, g5⟩
    obtain ⟨v, hr, hv⟩ := run_results hT h1 h2 g1
    refine ⟨h1.defers, v, hr, v, fun i => ι (ms.getD i 0), fun i => fp (ms.getD i 0), rfl, ?_⟩
    have hos : ∀ id oc, osF os id = some oc → s.σ (ms.getD id 0) = some oc ∧ id < ms.length := fun id oc hi => ⟨g5 id oc hi, by rw [g3]; exact (List.getElem?_eq_some_iff.1 hi).1⟩
    refine ⟨fun i => ?_, fun id oc hi => ?_, fun id id' oc oc' k a1 a2 b1 b2 => ?_, h2.bel, fun k ⟨id, oc, hi, hk⟩ => h2.low k ⟨_, oc, (hos id oc hi).1, hk⟩, fun id v h => (by cases h)⟩
    · show LRel _ _ _ (if i = 0 then r else .junk) v
      split
      · rw [g2] at hv
        exact LRel.plain (fun _ _ _ e => e) hp (LRel.unren hp hv)
      · simp only [LRel]
    · exact (h2.ob _ oc (hos id oc hi).1).plain (List.all_eq_true.1 hpo oc (List.mem_of_getElem? hi)) (fun _ e => e) (Nat.le_refl _)
    · have e := h2.dis _ _ _ _ k (hos id oc a1).1 (hos id' oc' a2).1 b1 b2
      have l1 := (hos id oc a1).2
      have l2 := (hos id' oc' a2).2
      simp only [List.getD_eq_getElem?_getD, List.getElem?_eq_getElem l1, List.getElem?_eq_getElem l2, Option.getD_some] at e
      exact (List.getElem_inj g4).1 e
  refine Code.wp_mono (fun e a w' q => ?_) (h (Base.of w) w _ _ _ _ hF hI)
  cases e <;> simp only [Post] at q
  · exact key a w' q
  · obtain ⟨_, _, _, _, _, _, h3⟩ := q; exact h3.elim
  · exact key a w' q
theorem RetT.plain {T : TT} {results : Array ResultVar} {r : LV} {s : St} {rs : List LV} (h : resLs T s results.toList = some rs) (h2 : tupL rs = ren (fun _ => 0) r) : RetT T results r [] s :=
  ⟨rs, [], h, by simpa using h2, rfl, List.nodup_nil, fun i oc hi => by simp at hi⟩
end Go.Proofs.YtcjhojdlfnpgjaaGreat
namespace Go.Proofs.YtcjhojdlfnpgjaaGreat
open Go.RowKit
def osO (os : List (Option OC)) (i : Nat) : Option OC := (os[i]?).join
theorem lt16 {n : Nat} (h : n ≤ 16) (ι : Nat → Option Value) : ∀ id, 16 ≤ id → (fun id => if id < n then ι id else none) id = none := fun id hid => if_neg (by omega)
def plainP : LV → Bool
  | .v _ => true
  | .own id => decide (id < 16)
  | .ptr id _ => decide (id < 16)
  | _ => false
def plainO2 : OC → Bool
  | .cells _ l => l.all plainP
  | .rowL _ _ => false
  | .hole _ _ _ _ _ => false
  | .late _ _ => false
  | .cust _ _ j => j.isNone
  | .ghost _ => false
  | _ => true
def plainO3 : OC → Bool
  | .ghost _ => true
  | oc => plainO2 oc
def renO (m : Nat → Nat) : OC → OC
  | .cells t l => .cells t (rens m l)
  | oc => oc
theorem LRel.plP {ι ι' : Nat → Option Value} {F F' : Nat → Prop} {w w' : World} (hι : ∀ id v, id < 16 → ι id = some v → ι' id = some v) {x : LV} {y : Value} (hp : plainP x = true) (h : LRel ι F w x y) : LRel ι' F' w' x y := by
  unfold Go.Proofs.YtcjhojdlfnpgjaaGreat.plainP at hp
  split at hp <;> first | (simp only [LRel] at h ⊢; exact h) | skip
  · simp only [LRel, decide_eq_true_eq] at *; exact hι _ _ hp h
  · simp only [LRel, decide_eq_true_eq] at *; obtain ⟨b, h1, h2⟩ := h; exact ⟨b, hι _ _ hp h1, h2⟩
  · cases hp
theorem LRel.unrenP {ι : Nat → Option Value} {F : Nat → Prop} {w : World} {m : Nat → Nat} {x : LV} {y : Value} (hp : plainP x = true) (h : LRel ι F w (ren m x) y) : LRel (fun i => ι (m i)) F w x y := by
  unfold Go.Proofs.YtcjhojdlfnpgjaaGreat.plainP at hp
  split at hp <;> first | (simp only [LRel, ren] at h ⊢; exact h) | cases hp
theorem LRels.plP {ι ι' : Nat → Option Value} {F F' : Nat → Prop} {w w' : World} (hι : ∀ id v, id < 16 → ι id = some v → ι' id = some v) : ∀ {l : List LV} {ys : List Value}, l.all plainP = true → LRels ι F w l ys → LRels ι' F' w' l ys
  | [], _, _, h => by simp only [LRels] at *; exact h
  | _ :: _, _, hp, h => by
    simp only [LRels, List.all_cons, Bool.and_eq_true] at *
    obtain ⟨y, r, e, h1, h2⟩ := h
    exact ⟨y, r, e, LRel.plP hι hp.1 h1, LRels.plP hι hp.2 h2⟩
theorem LRels.unrenP {ι : Nat → Option Value} {F : Nat → Prop} {w : World} {m : Nat → Nat} : ∀ {l : List LV} {ys : List Value}, l.all Go.Proofs.YtcjhojdlfnpgjaaGreat.plainP = true → LRels ι F w (Go.Proofs.YtcjhojdlfnpgjaaGreat.rens m l) ys → LRels (fun i => ι (m i)) F w l ys
  | [], _, _, h => by simp only [LRels, Go.Proofs.YtcjhojdlfnpgjaaGreat.rens] at *; exact h
  | _ :: _, _, hp, h => by
    simp only [LRels, List.all_cons, Go.Proofs.YtcjhojdlfnpgjaaGreat.rens, Bool.and_eq_true] at *
    obtain ⟨y, r, e, h1, h2⟩ := h
    exact ⟨y, r, e, LRel.unrenP hp.1 h1, LRels.unrenP hp.2 h2⟩
theorem ORel.unrenP {ι : Nat → Option Value} {F F' : Nat → Prop} {w : World} {base base' : Nat} {fp : Nat → Prop} {m : Nat → Nat} {i id : Nat} {oc : OC} (h : ORel ι F w base fp id (renO m oc)) (hid : m i = id) (hp : plainO2 oc = true) (hb : base' ≤ base) : ORel (fun i => ι (m i)) F' w base' fp i oc := by
  subst hid
  cases oc with
  | cells t l =>
    obtain ⟨b, ys, h1, h2, h3, h4, h5⟩ := h
    exact ⟨b, ys, h1, by omega, h3, h4, LRels.plP (fun _ _ _ e => e) hp (LRels.unrenP hp h5)⟩
  | row e vs => exact ORel.plain (oc := .row e vs) h rfl (fun _ e => e) hb
  | rows e e' t => exact ORel.plain (oc := .rows e e' t) h rfl (fun _ e => e) hb
  | cust A r j => exact ORel.plain (oc := .cust A r j) h hp (fun _ e => e) hb
  | rowL e l => simp [plainO2] at hp
  | hole e e' t i j => simp [plainO2] at hp
  | late e vs => simp [plainO2] at hp
  | ghost vs => simp [plainO2] at hp
theorem ORel.renP {ι ι' : Nat → Option Value} {F F' : Nat → Prop} {w : World} {base base' : Nat} {fp : Nat → Prop} {m : Nat → Nat} {i j : Nat} {oc : OC} (h : ORel ι F w base fp i oc) (hp : plainO2 oc = true) (hι : ∀ id v, id < 16 → ι id = some v → ι' (m id) = some v) (hj : ∀ v, ι i = some v → ι' j = some v) (hb : base' ≤ base) : ORel ι' F' w base' fp j (renO m oc) := by
  cases oc with
  | cells t l =>
    obtain ⟨b, ys, h1, h2, h3, h4, h5⟩ := h
    exact ⟨b, ys, hj _ h1, by omega, h3, h4, LRels.rens (LRels.plP hι hp h5)⟩
  | row e vs => exact ORel.plain (oc := .row e vs) h rfl hj hb
  | rows e e' t => exact ORel.plain (oc := .rows e e' t) h rfl hj hb
  | cust A r k => exact ORel.plain (oc := .cust A r k) h hp hj hb
  | rowL e l => simp [plainO2] at hp
  | hole e e' t i j => simp [plainO2] at hp
  | late e vs => simp [plainO2] at hp
  | ghost vs => simp [plainO2] at hp
structure SpecR (P : Program) (g : Nat) (args : List LV) (os : List OC) (R : LV → List (Option OC) → Prop) : Prop where
  ent : ∀ args w, (callFunc g args).run P w = .ok (.enter g args) w
  len : os.length ≤ 16
  run : ∀ w ι fp ys, (∀ id oc, osF os id = some oc → ORel ι (FF (osF os) fp) w 0 (fp id) id oc) → (∀ id id' oc oc' k, osF os id = some oc → osF os id' = some oc' → fp id k → fp id' k → id = id') → LRels ι (FF (osF os) fp) w args ys →
    Calls P g (List.toArray ys) w fun e w' => ∃ r os', R r os' ∧ ∃ v ι' fp', e = .returned v ∧ Inv ⟨w, FF (osF os) fp, fun id => if id < os.length then ι id else none, lt16 len ι⟩ w' ι' fp' ⟨mkF [(0, r)], osO os'⟩ fun _ => v
def SpecM (P : Program) (g : Nat) (args : List LV) (os : List OC) (r : LV) (os' : List (Option OC)) : Prop := SpecR P g args os fun r1 o1 => r1 = r ∧ o1 = os'
def SpecQ (P : Program) (g : Nat) (args : List LV) (os : List OC) {κ : Type} (res : κ → LV) (out : κ → List (Option OC)) (Q : κ → Prop) : Prop := SpecR P g args os fun r o => ∃ y, Q y ∧ r = res y ∧ o = out y
theorem mkE_relM {ι : Nat → Option Value} {F : Nat → Prop} {w : World} : ∀ {args : List LV} {ys : List Value}, LRels ι F w args ys → ∀ i, LRel ι F w (mkE args i) ((ys[i]?).getD undef)
  | [], _, h, i => by
    simp only [LRels] at h
    subst h
    simp only [mkE, LRel]
    simp
  | x :: l, _, h, i => by
    simp only [LRels] at h
    obtain ⟨y, r, rfl, h1, h2⟩ := h
    unfold mkE
    by_cases e : i = 0
    · subst e; simpa using h1
    · rw [if_neg e]
      obtain ⟨j, rfl⟩ : ∃ j, i = j + 1 := ⟨i - 1, by omega⟩
      simpa using mkE_relM h2 j
def RetM (T : TT) (results : Array ResultVar) (n : Nat) (r : LV) (os' : List (Option OC)) (s : St) : Prop :=
  ∃ rs ms, resLs T s results.toList = some rs ∧ tupL rs = ren (fun i => (ms : List Nat).getD i 0) r ∧ ms.length = os'.length ∧ ms.Nodup ∧ (∀ i, i < n → ms.getD i 0 = i) ∧ ∀ i oc, osO os' i = some oc → s.σ (ms.getD i 0) = some (renO (fun i => (ms : List Nat).getD i 0) oc)
theorem osO_lt {os : List (Option OC)} {i : Nat} {oc : OC} (h : osO os i = some oc) : i < os.length := by
  unfold osO at h
  cases hi : os[i]? with
  | none => rw [hi] at h; cases h
  | some x => exact (List.getElem?_eq_some_iff.1 hi).1
theorem SpecR.of_code {P : Program} {T : TT} (hT : T.Ok P) {g n : Nat} {fn : Func} {c : Code} {args : List LV} {os : List OC} {R : LV → List (Option OC) → Prop} (hf : P.funcs[g]? = some fn) (hb : fn.body = some c) (hn : fn.ntmps = n) (ent : ∀ args w, (callFunc g args).run P w = .ok (.enter g args) w)
    (hl : args.length ≤ n) (hlen : os.length ≤ 16) (hR : ∀ r os', R r os' → plainL r = true ∧ ∀ i oc, osO os' i = some oc → plainO2 oc = true) (h : Here P n c ⟨mkE args, osF os⟩ (.done fun s => ∃ r os', R r os' ∧ RetM T fn.results os.length r os' s)) : SpecR P g args os R := by
  refine ⟨ent, hlen, fun w ι0 fp0 ys hob hdis hys => calls_of_wp hf hb ?_⟩
  have hlenys := hys.length
  have hF : FR n (fun i => (ys[i]?).getD undef) { tmps := ys.toArray ++ Array.replicate (fn.ntmps - ys.toArray.size) undef, defers := [] } := by
    refine ⟨by simp [hn]; omega, rfl, fun i => ?_⟩
    simp only [Array.getD_eq_getD_getElem?, Array.getElem?_append, List.size_toArray, List.getElem?_toArray]
    by_cases hi : i < ys.length
    · rw [if_pos hi]
    · rw [if_neg hi, Array.getElem?_replicate, List.getElem?_eq_none (by omega)]
      split <;> rfl
  have hI : Inv ⟨w, FF (osF os) fp0, fun id => if id < os.length then ι0 id else none, lt16 hlen ι0⟩ w ι0 fp0 ⟨mkE args, osF os⟩ (fun i => (ys[i]?).getD undef) :=
    ⟨fun i => mkE_relM hys i, hob, hdis, Kept.refl _, fun k hk => .inr hk, fun id v h => by
      simp only at h
      split at h
      · exact h
      · cases h⟩
  have key : ∀ a w', After n ⟨w, FF (osF os) fp0, fun id => if id < os.length then ι0 id else none, lt16 hlen ι0⟩ (fun s => ∃ r os', R r os' ∧ RetM T fn.results os.length r os' s) a w' → a.defers = [] ∧ ∃ v, (results fn a.tmps).run P w' = .ok v w' ∧
      ∃ r os', R r os' ∧ ∃ v' ι fp, Ending.returned v = .returned v' ∧ Inv ⟨w, FF (osF os) fp0, fun id => if id < os.length then ι0 id else none, lt16 hlen ι0⟩ w' ι fp ⟨mkF [(0, r)], osO os'⟩ fun _ => v' := by
    rintro a w' ⟨s, f, ι, fp, h1, h2, r, os', hRr, rs, ms, g1, g2, g3, g4, g6, g5⟩
    obtain ⟨hp, hpo⟩ := hR r os' hRr
    obtain ⟨v, hr, hv⟩ := run_results hT h1 h2 g1
    refine ⟨h1.defers, v, hr, r, os', hRr, v, fun i => ι (ms.getD i 0), fun i => fp (ms.getD i 0), rfl, ?_⟩
    have hos : ∀ id oc, osO os' id = some oc → s.σ (ms.getD id 0) = some (renO (fun i => (ms : List Nat).getD i 0) oc) ∧ id < ms.length := fun id oc hi => ⟨g5 id oc hi, by rw [g3]; exact osO_lt hi⟩
    refine ⟨fun i => ?_, fun id oc hi => ?_, fun id id' oc oc' k a1 a2 b1 b2 => ?_, h2.bel, fun k ⟨id, oc, hi, hk⟩ => h2.low k ⟨_, _, (hos id oc hi).1, hk⟩, fun id v h => ?_⟩
    · show LRel _ _ _ (if i = 0 then r else .junk) v
      split
      · rw [g2] at hv
        exact LRel.plain (fun _ _ _ e => e) hp (LRel.unren hp hv)
      · simp only [LRel]
    · exact ORel.unrenP (h2.ob _ _ (hos id oc hi).1) rfl (hpo id oc hi) (Nat.le_refl _)
    · have e := h2.dis _ _ _ _ k (hos id oc a1).1 (hos id' oc' a2).1 b1 b2
      have l1 := (hos id oc a1).2
      have l2 := (hos id' oc' a2).2
      simp only [List.getD_eq_getElem?_getD, List.getElem?_eq_getElem l1, List.getElem?_eq_getElem l2, Option.getD_some] at e
      exact (List.getElem_inj g4).1 e
    · have hid : id < os.length := by
        apply Classical.byContradiction
        intro hn
        simp only [if_neg hn] at h
        cases h
      show ι (ms.getD id 0) = some v
      rw [g6 id hid]
      exact h2.fix id v h
  refine Code.wp_mono (fun e a w' q => ?_) (h _ w _ _ _ _ hF hI)
  cases e <;> simp only [Post] at q
  · exact key a w' q
  · obtain ⟨_, _, _, _, _, _, h3⟩ := q; exact h3.elim
  · exact key a w' q
theorem Here.mono_done {P : Program} {n : Nat} {c : Code} {s : St} {R R' : St → Prop} (hR : ∀ s, R s → R' s) (h : Here P n c s (.done R)) : Here P n c s (.done R') := by
  have after : ∀ (w0 : Base) a w, After n w0 R a w → After n w0 R' a w := by
    rintro w0 a w ⟨s, f, ι, fp, h1, h2, h3⟩
    exact ⟨s, f, ι, fp, h1, h2, hR _ h3⟩
  intro w0 w ι fp f a hf hI
  refine Code.wp_mono (fun e a w q => ?_) (h w0 w ι fp f a hf hI)
  cases e <;> simp only [Post] at q ⊢
  · exact after _ _ _ q
  · exact q
  · exact after _ _ _ q
theorem SpecM.of_code {P : Program} {T : TT} (hT : T.Ok P) {g n : Nat} {fn : Func} {c : Code} {args : List LV} {os : List OC} {r : LV} {os' : List (Option OC)} (hf : P.funcs[g]? = some fn) (hb : fn.body = some c) (hn : fn.ntmps = n) (ent : ∀ args w, (callFunc g args).run P w = .ok (.enter g args) w)
    (hl : args.length ≤ n) (hlen : os.length ≤ 16) (hlen' : os.length ≤ os'.length) (hp : plainL r = true) (hpo : ∀ i oc, osO os' i = some oc → plainO2 oc = true) (h : Here P n c ⟨mkE args, osF os⟩ (.done (RetM T fn.results os.length r os'))) : SpecM P g args os r os' := by
  refine SpecR.of_code hT hf hb hn ent hl hlen (by rintro _ _ ⟨rfl, rfl⟩; exact ⟨hp, hpo⟩) ?_
  refine Here.mono_done (fun s q => ?_) h
  exact ⟨r, os', ⟨rfl, rfl⟩, q⟩
end Go.Proofs.YtcjhojdlfnpgjaaGreat
