/- A calculus of verification conditions over logical values: variables for structs that come into being filled; rows that are read through an object; a struct taken out of a list. -/
import Derived.Test.YtcjhojdlfnpgjaaGreatK13
set_option linter.unusedVariables false
set_option linter.unusedSimpArgs false
set_option maxRecDepth 100000
namespace Go.Proofs.YtcjhojdlfnpgjaaGreat
open Go.RowKit
section
variable {P : Program} {T : TT}
theorem OpT.boxOwn {o : Oper} {s : St} {K : LV → St → Prop} {t : Nat} {x : Operand} {l : List LV} (ho : o.op = .box t x) (hx : evL s x = .agg l) (id : Nat) (hid : 16 ≤ id) (hno : kills (fun j => j == id) l = l) (hK : K (.ptr id 0) (s.fresh id (.cells t l))) : OpT P o s K := by
  intro w0 w ι fp f hI
  have hv := hI.ev x
  rw [hx] at hv
  simp only [LRel] at hv
  obtain ⟨ys, e, hl⟩ := hv
  have hr : (execOp (evV f) o).run P w = .ok (.value (.pointer (some ⟨w.heap.size, 0, none⟩))) (w.alloc (.cells ys.toArray t)) := by
    simp [execOp, ho, Instr.box, newVar, newRow, e, Value.cells]
  rw [hr]
  refine .value _ _ _ _ _ _ (hI.fresh hid (.cells ys.toArray t) (.pointer (some ⟨w.heap.size, 0, none⟩)) (.cells t l) (fun k => k = w.heap.size) (fun _ h => h) fun hk => ?_) ?_ hK
  · refine ⟨w.heap.size, ys, by simp [updI], Nat.zero_le _, fun k => Iff.rfl, heap_alloc_new w _, ?_⟩
    have hh := hl.kills (ι' := updI ι id (.pointer (some ⟨w.heap.size, 0, none⟩))) (q := fun j => j == id) (kill_is fun j hj => by simp only [updI, if_neg hj]) hk
    rwa [hno] at hh
  · simp only [LRel]
    exact ⟨_, by simp [updI], rfl⟩
theorem OpP.boxP {o : Oper} {ρ : Operand → LV} {σ : Nat → Option OC} {t : Nat} {x : Operand} {l : List LV} (ho : o.op = .box t x) (hx : ρ x = .agg l) : OpP P o ρ σ (.box l) := by
  intro w0 w ι fp s f hI hσ hρ
  have hv := hI.ev x
  rw [hρ x (by simp [ho, Op.operands]), hx] at hv
  simp only [LRel] at hv
  obtain ⟨ys, e, hl⟩ := hv
  have hr : (execOp (evV f) o).run P w = .ok (.value (.pointer (some ⟨w.heap.size, 0, none⟩))) (w.alloc (.cells ys.toArray t)) := by
    simp [execOp, ho, Instr.box, newVar, newRow, e, Value.cells]
  rw [hr]
  have hlt := hI.lt
  exact .value (.box l) s _ _ ι fp (hI.grow _) (box_cells hl t (fun hq => by have := (hlt _ hq).2; omega) fun k hk => (hlt k hk).2) ⟨rfl, rfl⟩
theorem Conv.freeze {s : St} {id e : Nat} {vs : List Value} (t : Nat) (ht : s.lf t = .own id) (hσ : s.σ id = some (.row e vs)) : Conv s ⟨updL s.lf t (.rd vs), fun i => if i = id then none else s.σ i⟩ := by
  intro w0 w ι fp f hI
  refine ⟨ι, fp, ?_⟩
  have hle : Le s ⟨s.lf, fun i => if i = id then none else s.σ i⟩ := ⟨fun i => .inr rfl, fun i => by
    by_cases e : i = id
    · exact .inl (by simp [e])
    · exact .inr (by simp [e])⟩
  have hI2 := hI.le hle
  have hv := hI.fr t
  rw [ht] at hv
  simp only [LRel] at hv
  obtain ⟨v, g1, g2, g3⟩ := hI.ob id _ hσ
  rw [hv] at g1
  simp only [Option.some.injEq] at g1
  subst g1
  have hput := hI2.put (some t) (x := .rd vs) (v := f t) (by
    simp only [LRel]
    refine own_RSF g2 fun k hk hF => ?_
    obtain ⟨i, oc, h1, h2⟩ := hF
    by_cases e : i = id
    · simp [e] at h1
    · simp only [if_neg e] at h1
      exact e (hI.dis i id _ _ k h1 hσ h2 ((g3 k).2 hk)))
  have e1 : putV f (some t) (f t) = f := by funext i; simp only [putV, updV]; split <;> simp_all
  rw [e1] at hput
  exact hput
theorem Conv.ghost {s : St} {vs : List Value} (t id : Nat) (hid : 16 ≤ id) (ht : s.lf t = .rd vs) : Conv s ((s.fresh id (.ghost vs)).put (some t) (.own id)) := by
  intro w0 w ι fp f hI
  have hv := hI.fr t
  rw [ht] at hv
  simp only [LRel] at hv
  have h := hI.turn (w' := w) (ι' := updI ι id (f t)) (fun j => j == id) id (.ghost vs) (fun _ => False) rfl rfl rfl (Nat.le_refl _) (fun k hk hn => rfl) (fun k hk => hk.elim) (kill_is fun j hj => by simp only [updI, if_neg hj]) (updI_fix hI hid (f t))
    (fun hk => ⟨f t, updI_self _ _ _, fun _ h => h, hv.keeps hk⟩)
  refine ⟨updI ι id (f t), fun j => if j = id then fun _ => False else fp j, ?_⟩
  have hput := h.put (some t) (x := .own id) (v := f t) (by simp only [LRel]; exact updI_self _ _ _)
  have e1 : putV f (some t) (f t) = f := by funext i; simp only [putV, updV]; split <;> simp_all
  rw [e1] at hput
  exact hput
theorem OpP.lenGhost (hT : T.Ok P) {o : Oper} {ρ : Operand → LV} {σ : Nat → Option OC} {t e : Nat} {z : Value} {bts : Nat} {x : Operand} {id : Nat} {vs : List Value} (ho : o.op = .call { callee := .builtin .len, args := #[x], argTypes := #[t] }) (ht : T.el t = some (e, z, bts)) (hx : ρ x = .own id) (hσ : σ id = some (.ghost vs)) : OpP P o ρ σ (.v (.int .i64 vs.length)) := by
  intro w0 w ι fp s f hI hS hρ
  obtain ⟨hu, _⟩ := hT.el t e z bts ht
  have hv := hI.ev x
  rw [hρ x (by simp [ho, Op.operands, Call.operands]), hx] at hv
  simp only [LRel] at hv
  obtain ⟨v, h1, _, A, c, rfl, _⟩ := hI.ob id _ (by rw [hS]; exact hσ)
  rw [hv] at h1
  simp only [Option.some.injEq] at h1
  have hue : P.underlying t = some (.slice (P.elem t)) := by
    have : P.elem t = e := by simp [Program.elem, hu]
    rw [this]; exact hu
  have hr : (execOp (evV f) o).run P w = .ok (.value (.int .i64 vs.length)) w := by
    simp only [execOp, ho, resolve, invoke, builtin, Sem.run_bind, Sem.run_pure, Result.andThen_ok, List.map_toArray, List.map_cons, List.map_nil, h1]
    simp [run_len_slice _ _ _ _ _ _ hue, goInt]
  rw [hr]
  exact .value _ s _ w ι fp hI (by simp only [LRel]) ⟨rfl, rfl⟩
theorem OpP.indexGhost (hT : T.Ok P) {o : Oper} {ρ : Operand → LV} {σ : Nat → Option OC} {t e : Nat} {z : Value} {bts : Nat} {x y : Operand} {id : Nat} {vs : List Value} {k : IntKind} {jj : Int} (ho : o.op = .indexAddr t x y) (ht : T.el t = some (e, z, bts)) (hx : ρ x = .own id) (hσ : σ id = some (.ghost vs)) (hy : ρ y = .v (.int k jj)) (h0 : 0 ≤ jj) (hjj : jj < vs.length) : OpP P o ρ σ (.pc (.v (dv vs jj.toNat))) := by
  obtain ⟨j, rfl⟩ := Int.eq_ofNat_of_zero_le h0
  have hj : j < vs.length := by omega
  simp only [Int.toNat_natCast]
  intro w0 w ι fp s f hI hS hρ
  obtain ⟨hu, ti, hi, hz, hsz, hby, hzc⟩ := hT.el t e z bts ht
  have hv := hI.ev x
  rw [hρ x (by simp [ho, Op.operands]), hx] at hv
  have hv2 := hI.ev y
  rw [hρ y (by simp [ho, Op.operands]), hy] at hv2
  simp only [LRel] at hv hv2
  obtain ⟨v, h1, _, A, c, rfl, hc, hrd⟩ := hI.ob id _ (by rw [hS]; exact hσ)
  rw [hv] at h1
  simp only [Option.some.injEq] at h1
  obtain ⟨ad, rfl, hF, hcell⟩ := hrd.2 (by omega)
  have hue : P.underlying t = some (.slice (P.elem t)) := by
    have : P.elem t = e := by simp [Program.elem, hu]
    rw [this]; exact hu
  have hes : P.elem t = e := by simp [Program.elem, hu]
  have hszr : (sizeOf e).run P w = .ok 1 w := by simp [sizeOf, typeInfo, hi, hsz]
  have hr : (execOp (evV f) o).run P w = .ok (.value (.pointer (some (ad.add j)))) w := by
    simp only [execOp, ho, h1, hv2, Sem.run_bind]
    rw [run_indexAt_slice _ _ _ _ _ _ _ hue, if_pos ⟨by omega, by omega⟩, hes, hszr]
    simp
  rw [hr]
  refine .value _ s _ w ι fp hI ?_ ⟨rfl, rfl⟩
  simp only [LRel]
  have hdv : vs[j]? = some (dv vs j) := by unfold dv; rw [List.getD_eq_getElem?_getD, List.getElem?_eq_getElem hj]; rfl
  exact ⟨_, _, rfl, by rw [add_block]; exact hF, hcell j _ hdv, rfl⟩
section
variable {n : Nat} {all : Array Oper} {o : Oper} {l : List Oper} {s : St} {k : Kont}
theorem HereO.boxOwn (hT : T.Ok P) {t : Nat} {x : Operand} {c : List LV} (id : Nat) (ho : o.op = .box t x) (hx : evL s x = .agg c) (hid : 16 ≤ id) (hno : kills (fun j => j == id) c = c) (h : OpsV P T n all l ((s.fresh id (.cells t c)).put o.dst (.ptr id 0)) k) : HereO P T n all o l s k :=
  HereO.of hT h fun hK => OpT.boxOwn ho hx id hid hno hK
end
structure SpecF (P : Program) (g : Nat) (args : List LV) {κ : Type} (res : κ → LV) (Q : κ → Prop) : Prop where
  ent : ∀ args w, (callFunc g args).run P w = .ok (.enter g args) w
  run : ∀ w ys, LRels noI noF w args ys → Calls P g (List.toArray ys) w fun e w' => ∃ y r os v ι fp, Q y ∧ plainL r = true ∧ closeA (osF os) r = res y ∧ e = .returned v ∧ Inv (Base.of w) w' ι fp ⟨mkF [(0, r)], osF os⟩ fun _ => v
def RetF (T : TT) (results : Array ResultVar) {κ : Type} (res : κ → LV) (Q : κ → Prop) (s : St) : Prop := ∃ y r os, Q y ∧ plainL r = true ∧ os.all plainO = true ∧ closeA (osF os) r = res y ∧ RetC T results r os s
theorem SpecF.of_code (hT : T.Ok P) {g n : Nat} {fn : Func} {c : Code} {args : List LV} {κ : Type} {res : κ → LV} {Q : κ → Prop} (hf : P.funcs[g]? = some fn) (hb : fn.body = some c) (hn : fn.ntmps = n) (ent : ∀ args w, (callFunc g args).run P w = .ok (.enter g args) w)
    (hl : args.length ≤ n) (h : Here P n c (entry args) (.done (RetF T fn.results res Q))) : SpecF P g args res Q := by
  refine ⟨ent, fun w ys hys => calls_of_wp hf hb ?_⟩
  have hlen := hys.length
  have hF : FR n (fun i => (ys[i]?).getD undef) { tmps := ys.toArray ++ Array.replicate (fn.ntmps - ys.toArray.size) undef, defers := [] } := by
    refine ⟨by simp [hn]; omega, rfl, fun i => ?_⟩
    simp only [Array.getD_eq_getD_getElem?, Array.getElem?_append, List.size_toArray, List.getElem?_toArray]
    by_cases hi : i < ys.length
    · rw [if_pos hi]
    · rw [if_neg hi, Array.getElem?_replicate, List.getElem?_eq_none (by omega)]
      split <;> rfl
  have hI : Inv (Base.of w) w noI (fun _ _ => False) (entry args) (fun i => (ys[i]?).getD undef) := by
    refine ⟨fun i => ?_, fun id oc h => (by cases h), fun _ _ _ _ _ h => (by cases h), Kept.refl _, fun k ⟨_, _, h, _⟩ => (by cases h), fun id v h => (by cases h)⟩
    exact (mkE_rel hys i).keeps (fun _ _ e => e) fun p u _ hc => ⟨hc, fun ⟨_, _, h, _⟩ => (by cases h)⟩
  have key : ∀ a w', After n (Base.of w) (RetF T fn.results res Q) a w' → a.defers = [] ∧ ∃ v, (results fn a.tmps).run P w' = .ok v w' ∧ ∃ y r os v' ι fp, Q y ∧ plainL r = true ∧ closeA (osF os) r = res y ∧ Ending.returned v = .returned v' ∧ Inv (Base.of w) w' ι fp ⟨mkF [(0, r)], osF os⟩ fun _ => v' := by
    rintro a w' ⟨s, f, ι0, fp0, h1, h20, y, r, os, hQ, hp, hpo, hcl, s', hcv, rs, ms, g1, g2, g3, g4, g5⟩
    obtain ⟨ι, fp, h2⟩ := hcv _ _ _ _ _ h20
    obtain ⟨v, hr, hv⟩ := run_results hT h1 h2 g1
    refine ⟨h1.defers, v, hr, y, r, os, v, fun i => ι (ms.getD i 0), fun i => fp (ms.getD i 0), hQ, hp, hcl, rfl, ?_⟩
    have hos : ∀ id oc, osF os id = some oc → s'.σ (ms.getD id 0) = some oc ∧ id < ms.length := fun id oc hi => ⟨g5 id oc hi, by rw [g3]; exact (List.getElem?_eq_some_iff.1 hi).1⟩
    refine ⟨fun i => ?_, fun id oc hi => ?_, fun id id' oc oc' k a1 a2 b1 b2 => ?_, h2.bel, fun k ⟨id, oc, hi, hk⟩ => h2.low k ⟨_, oc, (hos id oc hi).1, hk⟩, fun id v h => (by cases h)⟩
    · show LRel _ _ _ (if i = 0 then r else .junk) v
      split
      · rw [g2] at hv
        exact LRel.plain (fun _ _ _ e => e) hp (LRel.unren hp hv)
      · simp only [LRel]
    · exact (h2.ob _ oc (hos id oc hi).1).plain (List.all_eq_true.1 hpo oc (List.mem_of_getElem? hi)) (fun _ e => e) (Nat.le_refl _)
    · have e := h2.dis _ _ _ _ k (hos id oc a1).1 (hos id' oc' a2).1 b1 b2
      have l1 := (hos id oc a1).2
      have l2 := (hos id' oc' a2).2
      simp only [List.getD_eq_getElem?_getD, List.getElem?_eq_getElem l1, List.getElem?_eq_getElem l2, Option.getD_some] at e
      exact (List.getElem_inj g4).1 e
  refine Code.wp_mono (fun e a w q => ?_) (h (Base.of w) w _ _ _ _ hF hI)
  cases e <;> simp only [Post] at q
  · exact key a w q
  · obtain ⟨_, _, _, _, _, _, h3⟩ := q; exact h3.elim
  · exact key a w q
theorem RetF.of {results : Array ResultVar} {κ : Type} {res : κ → LV} {Q : κ → Prop} {s : St} (y : κ) (r : LV) (os : List OC) (hQ : Q y) (hp : plainL r = true) (hpo : os.all plainO = true) (hcl : closeA (osF os) r = res y) (h : RetC T results r os s) : RetF T results res Q s := ⟨y, r, os, hQ, hp, hpo, hcl, h⟩
section
variable {n : Nat} {all : Array Oper} {o : Oper} {l : List Oper} {s : St} {k : Kont}
theorem HereO.callF (hT : T.Ok P) {fo : Operand} {av : Array Operand} {ts : Array TypeId} {g : Nat} {caps : List LV} {args : List LV} {κ : Type} {res : κ → LV} {Q : κ → Prop} (ho : o.op = .call { callee := .value fo, args := av, argTypes := ts })
    (hf : evL s fo = .fn g caps) (hs : SpecF P g args res Q) (ha : closeBs s.σ (av.toList.map (evL s) ++ caps) = args) (h : ∀ y, Q y → OpsV P T n all l (s.put o.dst (res y)) k) : HereO P T n all o l s k := by
  refine HereO.of_all hT (K := fun r s' => ∃ y, Q y ∧ r = res y ∧ s' = s) ?_ (by rintro r s' ⟨y, hy, rfl, rfl⟩; exact h y hy)
  intro w0 w ι fp f hI
  subst ha
  obtain ⟨cs, e1, hc⟩ : ∃ cs, evV f fo = .func (.func g) #[] (List.toArray cs) ∧ LRels noI noF w (closeBs s.σ (av.toList.map (evL s) ++ caps)) (av.toList.map (evV f) ++ cs) := call_args hf hI
  rw [run_call ho e1 hs.ent w]
  refine .enter _ _ _ ((hs.run w _ hc).mono ?_)
  rintro e w' ⟨y, r, os, v, ι2, fp2, hQ, hp, hcl, rfl, hI2⟩
  refine ⟨_, s, v, ι, fp, rfl, hI.step hI2.bel.toBelow, ?_, y, hQ, rfl, rfl⟩
  have h0 := hI2.fr 0
  rw [← hcl]
  exact LRel.frozen hI2.ob (fun k hk hq => by have := (hI.lt k hq).2; have := (hI2.low k hk).resolve_right (fun q => q); simp only [Base.of] at this; omega) hp h0
end
section
variable {K : List Nat} {G : (Nat → Option OC) → Prop} {n : Nat} {all : Array Oper} {ms : List Md} {o : Oper} {l : List Oper} {s : St} {k : Kont}
theorem HereC.callM {fo : Operand} {av : Array Operand} {ts : Array TypeId} {g : Nat} {caps : List LV} {args : List LV} {r : LV} {os : List OC} {os' : List (Option OC)} (d : Nat) (is : List Nat) (ho : o.op = .call { callee := .value fo, args := av, argTypes := ts })
    (hf : evL s fo = .fn g caps) (hs : SpecM P g args os r os') (ha : toMs s.σ is (av.toList.map (evL s) ++ caps) = args) (hos : (is.map fun i => (s.σ i).map (toMO s.σ is)) = os.map some) (hnd : is.Nodup) (hsh : is.all (fun i => !isShift d i) = true) (hp : plainL r = true) (hpo : os.all plainO3 = true) (hpo' : os'.all (fun o => o.all plainO2) = true) (hl' : os'.length ≤ 16)
    (hk : inK K (isShift d)) (hG : G (s.back d is os').σ) (h : SV P T K G n all ms l ((s.back d is os').put o.dst (ren (idM is d) r)) k) : HereC P T K G n all ms o l s k := by
  refine ⟨isShift d, (s.back d is os').σ, ren (idM is d) r, hk, hG, fun s' hs' hx' => ?_, h⟩
  have hf' : evL s' fo = .fn g caps := by rw [hx' fo (by simp [ho, Op.operands, Call.operands]), hf]
  have has : av.toList.map (evL s') = av.toList.map (evL s) := List.map_congr_left fun x hx => hx' x (by simp [ho, Op.operands, Call.operands]; exact .inr (by simpa using hx))
  refine OpT.callM d is ho hf' hs (by rw [hs', has, ha]) (by rw [hs']; exact hos) hnd (fun i hi => by simpa using List.all_eq_true.1 hsh i hi) hp hpo (fun oc hoc => by have := List.all_eq_true.1 hpo' _ hoc; simpa using this) hl' ⟨rfl, ?_⟩
  unfold St.back
  dsimp only
  rw [hs']
theorem HereC.callMB {KP : List Nat} {σ0 : Nat → Option OC} {Bs : List Birth} {fo : Operand} {av : Array Operand} {ts : Array TypeId} {g : Nat} {caps : List LV} {args : List LV} {r : LV} {os : List OC} {os' : List (Option OC)} (haw : AwL Bs s.σ) (d : Nat) (is : List Nat) (ho : o.op = .call { callee := .value fo, args := av, argTypes := ts })
    (hf : evL s fo = .fn g caps) (hs : SpecM P g args os r os') (ha : toMs s.σ is (av.toList.map (evL s) ++ caps) = args) (hos : (is.map fun i => (s.σ i).map (toMO s.σ is)) = os.map some) (hnd : is.Nodup) (hsh : is.all (fun i => !isShift d i) = true) (hp : plainL r = true) (hpo : os.all plainO3 = true) (hpo' : os'.all (fun o => o.all plainO2) = true) (hl' : os'.length ≤ 16)
    (hk : inK K (isShift d)) (hG : keeps KP σ0 (s.back d is os').σ) (hb : (Bs.all fun b => !isShift d b.id && (posOf is b.id).isNone) = true) (h : AwL Bs (s.back d is os').σ → SV P T K (GB KP σ0 Bs) n all ms l ((s.back d is os').put o.dst (ren (idM is d) r)) k) : HereC P T K (GB KP σ0 Bs) n all ms o l s k :=
  have h2 := haw.back hb hpo'
  HereC.callM d is ho hf hs ha hos hnd hsh hp hpo hpo' hl' hk ⟨hG, h2⟩ (h h2)
theorem HereC.callOwnB {KP : List Nat} {σ0 : Nat → Option OC} {Bs : List Birth} {fo : Operand} {av : Array Operand} {ts : Array TypeId} {g : Nat} {caps : List LV} {args : List LV} {r : LV} {os : List OC} (haw : AwL Bs s.σ) (d : Nat) (ho : o.op = .call { callee := .value fo, args := av, argTypes := ts })
    (hf : evL s fo = .fn g caps) (hs : Spec P g args r os) (ha : closeBs s.σ (av.toList.map (evL s) ++ caps) = args) (hp : plainL r = true) (hlen : os.length ≤ 16) (hpo : os.all plainO = true) (hk : inK K (isShift d)) (hG : keeps KP σ0 (s.take d os).σ) (hb : (Bs.all fun b => !isShift d b.id) = true) (hb2 : os.all (fun o => Bs.all fun b => !mentO b.id o) = true)
    (h : AwL Bs (s.take d os).σ → SV P T K (GB KP σ0 Bs) n all ms l ((s.take d os).put o.dst (ren (shift d) r)) k) : HereC P T K (GB KP σ0 Bs) n all ms o l s k :=
  have h2 := haw.take hb hb2
  HereC.callOwn d ho hf hs ha hp hlen hpo hk ⟨hG, h2⟩ (h h2)
theorem calm_agg1 {x : LV} (h : calm K x) : calm K (.agg [x]) := fun Q hq => by simp only [kill, kills, h Q hq]
theorem HereF.loadAgg {KP : List Nat} {σ0 : Nat → Option OC} (hT : T.Ok P) {t kk : Nat} {x : Operand} {id : Nat} {tt : Nat} {c : List LV} (ho : o.op = .load t x) (hx : evL s x = .ptr id 0) (hok : okO T n all o = true)
    (hag : T.ag t = some kk) (hkp : KP.contains id = true) (hσ : σ0 id = some (.cells tt c)) (hc0 : c.length = kk) (hc : calm K (.agg c))
    (h : SV P T K (keeps KP σ0) n all ms l (s.put o.dst (.agg c)) k) : HereF P T K (keeps KP σ0) n all ms o l s k := by
  refine ⟨.agg c, fun σ hG => ?_, hc, h⟩
  have hσ' : σ id = some (.cells tt c) := by rw [hG id (List.contains_iff_mem.1 hkp)]; exact hσ
  have he : opE T o.op (evL s) σ = .val (0 = 0 ∧ c.length = kk) (.agg c) := by
    rw [ho]
    simp only [opE, hx, hσ', hag]
  exact opE_opP (P := P) (o := o) (s := ⟨s.lf, σ⟩) hT (okO_ty hok) (p := 0 = 0 ∧ c.length = kk) (r := .agg c) he ⟨rfl, hc0⟩
theorem HereF.loadAggB {KP : List Nat} {σ0 : Nat → Option OC} {Bs : List Birth} (hT : T.Ok P) {t kk : Nat} {x : Operand} {id : Nat} {tt : Nat} {c : List LV} (ho : o.op = .load t x) (hx : evL s x = .ptr id 0) (hok : okO T n all o = true)
    (hag : T.ag t = some kk) (hkp : KP.contains id = true) (hσ : σ0 id = some (.cells tt c)) (hc0 : c.length = kk) (hc : calm K (.agg c))
    (h : SV P T K (GB KP σ0 Bs) n all ms l (s.put o.dst (.agg c)) k) : HereF P T K (GB KP σ0 Bs) n all ms o l s k := by
  refine ⟨.agg c, fun σ hG => ?_, hc, h⟩
  have hσ' : σ id = some (.cells tt c) := by rw [hG.1 id (List.contains_iff_mem.1 hkp)]; exact hσ
  have he : opE T o.op (evL s) σ = .val (0 = 0 ∧ c.length = kk) (.agg c) := by
    rw [ho]
    simp only [opE, hx, hσ', hag]
  exact opE_opP (P := P) (o := o) (s := ⟨s.lf, σ⟩) hT (okO_ty hok) (p := 0 = 0 ∧ c.length = kk) (r := .agg c) he ⟨rfl, hc0⟩
end
end
end Go.Proofs.YtcjhojdlfnpgjaaGreat
namespace Go.Proofs.YtcjhojdlfnpgjaaGreat
open Go.RowKit
def RdsA (t : List (List Value)) (v _y : Value) (w : World) (fp : Nat → Prop) : Prop := LRel noI (fun k => ¬ fp k) w (.rds t) v
theorem RS_one {F : Nat → Prop} {w : World} {vs : List Value} {y : Value} (h : RS F w vs y) : y.oneCell' = true := by
  obtain ⟨A, c, rfl, _⟩ := h; rfl
theorem rds_ok (t : List (List Value)) : AOk (RdsA t) (.rds t) := by
  intro v y w fp h
  have h' := h
  simp only [RdsA, LRel] at h'
  obtain ⟨hs, h1, h2⟩ := h'
  refine ⟨RS_one h1, fun w' hw => ?_, fun ι F hF => ?_⟩
  · exact LRel.keeps (fun _ _ e => e) (fun p u hp hc => ⟨(World.cell?_of_block (hw _ (Classical.not_not.1 hp))).trans hc, hp⟩) h
  · exact LRel.keeps (fun _ _ e => by cases e) (fun p u hp hc => ⟨hc, hF _ (Classical.not_not.1 hp)⟩) h
abbrev OC.frz (t : List (List Value)) : OC := .cust (RdsA t) (.rds t) none
section
variable {P : Program} {T : TT}
theorem Conv.frz {s : St} {id e e' : Nat} {t : List (List Value)} (hσ : s.σ id = some (.rows e e' t)) : Conv s (s.set id (.frz t)) := by
  intro w0 w ι fp f hI
  obtain ⟨v, hs, g1, g2, g3, g4, g5⟩ := hI.ob id _ hσ
  have h := hI.turn (w' := w) (ι' := ι) (fun _ => false) id (.frz t) (fp id) rfl rfl rfl (Nat.le_refl _) (fun k hk hn => rfl)
    (fun k hk => .inl ⟨id, _, .inl rfl, hσ, hk⟩) (fun _ _ _ e => e) hI.fix (fun hk => ⟨v, v, g1, rds_ok t, ?_, g5, fun j hj => by cases hj⟩)
  · rw [turn_none, fp_self] at h
    exact ⟨_, _, h⟩
  · simp only [RdsA, LRel]
    exact ⟨hs, own_RSF g2 fun k hk q => q (g3 k hk), g4.rrowF fun k hk q => q hk.1⟩
theorem OpP.indexHole (hT : T.Ok P) {o : Oper} {ρ : Operand → LV} {σ : Nat → Option OC} {t e e' id i : Nat} {z : Value} {bts : Nat} {x y : Operand} {q : List (List Value)} {jo : Option Nat} {k : IntKind} {jj : Int} (ho : o.op = .indexAddr t x y) (ht : T.el t = some (e, z, bts)) (hx : ρ x = .own id) (hy : ρ y = .v (.int k jj)) (hσ : σ id = some (.hole e e' q i jo)) (h0 : 0 ≤ jj) (hjj : jj < q.length) : OpP P o ρ σ (.pe id jj.toNat) := by
  obtain ⟨j, rfl⟩ := Int.eq_ofNat_of_zero_le h0
  have hj : j < q.length := by omega
  simp only [Int.toNat_natCast]
  intro w0 w ι fp s f hI hS hρ
  obtain ⟨hu, ti, hi, hz, hsz, hby, hzc⟩ := hT.el t e z bts ht
  have hv := hI.ev x
  rw [hρ x (by simp [ho, Op.operands]), hx] at hv
  have hv2 := hI.ev y
  rw [hρ y (by simp [ho, Op.operands]), hy] at hv2
  simp only [LRel] at hv hv2
  obtain ⟨v, hs, y0, g1, g2, g3, g4, _⟩ := hI.ob id _ (by rw [hS]; exact hσ)
  have hl := g4.len
  simp only [List.length_set] at hl
  rcases g2.2 with ⟨_, hn⟩ | ⟨g, cap, cur, rfl, _⟩
  · omega
  have hvx := hv
  rw [g1] at hv
  simp only [Option.some.injEq] at hv
  have hue : P.underlying t = some (.slice (P.elem t)) := by
    have : P.elem t = e := by simp [Program.elem, hu]
    rw [this]; exact hu
  have hes : P.elem t = e := by simp [Program.elem, hu]
  have hszr : (sizeOf e).run P w = .ok 1 w := by simp [sizeOf, typeInfo, hi, hsz]
  have hr : (execOp (evV f) o).run P w = .ok (.value (.pointer (some ⟨g, j, none⟩))) w := by
    simp only [execOp, ho, ← hv, hv2, Sem.run_bind]
    rw [run_indexAt_slice _ _ _ _ _ _ _ hue, if_pos ⟨by omega, by omega⟩, hes, hszr]
    simp [add0]
  rw [hr]
  refine .value _ s _ w ι fp hI ?_ ⟨rfl, rfl⟩
  simp only [LRel]
  exact ⟨g, _, cap, g1, rfl⟩
theorem RRow.set' {F : Nat → Prop} {w : World} {r : List Value} {y : Value} : ∀ {t : List (List Value)} {hs : List Value} (i : Nat), RRow F w t hs → RS F w r y → RRow F w (t.set i r) (hs.set i y)
  | [], hs, i, h, hr => by
    have h0 : hs = [] := h
    subst h0
    simp only [List.set_nil]
    rfl
  | _ :: _, _, 0, ⟨x, hs', e, h1, h2⟩, hr => by subst e; exact ⟨y, hs', rfl, hr, h2⟩
  | _ :: _, _, i + 1, ⟨x, hs', e, h1, h2⟩, hr => by subst e; exact ⟨x, _, rfl, h1, RRow.set' i h2 hr⟩
theorem OpT.storeCut (hT : T.Ok P) {o : Oper} {s : St} {K : LV → St → Prop} {t e e' : Nat} {a x : Operand} {id j i c m : Nat} {tt : List (List Value)} {vs : List Value} (ho : o.op = .store t a x) (ha : evL s a = .pe id i) (hσ : s.σ id = some (.hole e e' tt i (some j)))
    (ht : T.sc t = true) (hx : evL s x = .sub j c m) (hj : s.σ j = some (.row e' vs)) (hji : j ≠ id) (hm : c + m = vs.length) (hK : K .junk (s.turn (fun q => q == j) id (.frz (tt.set i (vs.drop c))))) : OpT P o s K := by
  intro w0 w ι fp f hI
  have hav := hI.ev a
  rw [ha] at hav
  simp only [LRel] at hav
  obtain ⟨g, n, c0, e1, e2⟩ := hav
  have hxv := hI.ev x
  rw [hx] at hxv
  simp only [LRel] at hxv
  obtain ⟨A, N, cc, x1, x2, A', x3, x4, x5⟩ := hxv
  obtain ⟨v, hs, y, g1, g2, g3, g4, g5, g6, g7⟩ := hI.ob id _ hσ
  rw [e1] at g1
  simp only [Option.some.injEq] at g1
  subst g1
  obtain ⟨y', p1, p2, p3⟩ := hI.ob j _ hj
  have hlen : n = hs.length := by
    rcases g2.2 with ⟨h, _⟩ | ⟨_, _, _, h, _⟩ <;> simp only [Value.slice.injEq] at h <;> simp_all
  subst hlen
  have hcell : w.cell? ⟨g, i, none⟩ = some y := by
    have := g2.cells (g := g) rfl i y g6
    rwa [add0] at this
  have h1 : (evV f x).oneCell' = true := by rw [x3]; rfl
  have hr : (execOp (evV f) o).run P w = .ok .skip (w.setCell ⟨g, i, none⟩ (evV f x)) := by
    simp [execOp, ho, e2, Instr.storeAt, Instr.sureAddr, storeVar, hT.s1 t ht w, one_cells h1, storeCells, run_store P w _ (evV f x) _ h1, hcell, g2.frozenAt i, add0, Addr.add]
  rw [hr]
  obtain ⟨k1, k2⟩ := g2.stored i (evV f x)
  have hdis : ∀ k, fp id k → fp j k → False := fun k a b => hji (hI.dis _ _ _ _ k hj hσ b a)
  have hgid : fp id g := g3 g rfl
  have hgk : ∀ k, k ≠ g → (w.setCell ⟨g, i, none⟩ (evV f x)).heap[k]? = w.heap[k]? := fun k hk => heap_setCell_other w ⟨g, i, none⟩ k _ (fun e => hk (by simp [e]))
  have hrs : RS (fun k => ¬ (fp id k ∨ fp j k)) (w.setCell ⟨g, i, none⟩ (evV f x)) (vs.drop c) (evV f x) := by
    rw [x1] at p1
    simp only [Option.some.injEq] at p1
    subst p1
    obtain ⟨A2, c2, e3, hc2, hlv, hp2⟩ := own_RS p2
    simp only [Value.slice.injEq] at e3
    obtain ⟨rfl, rfl, rfl⟩ := e3
    have hd : (vs.drop c).length = m := by rw [List.length_drop]; omega
    refine ⟨A', cc - c, by rw [hd]; exact x3, by omega, by omega, fun hp => ?_⟩
    obtain ⟨g', rfl, rfl⟩ := x5 (by omega)
    have hg' : fp j g' := (p3 g').2 rfl
    refine ⟨_, rfl, fun q => q (.inr hg'), fun k u hu => ?_⟩
    rw [List.getElem?_drop] at hu
    obtain ⟨ad, he, _, hcells⟩ := hp2 (by omega)
    simp only [Option.some.injEq] at he
    subst he
    have := hcells (c + k) u hu
    rw [add0] at this
    have e4 : (⟨g', c, none⟩ : Addr).add k = ⟨g', c + k, none⟩ := by unfold Addr.add; split <;> simp_all
    rw [e4, World.cell?_of_block (hgk g' fun e => hdis g hgid (e ▸ hg'))]
    exact this
  refine .skip _ _ _ _ (hI.turn (w' := w.setCell ⟨g, i, none⟩ (evV f x)) (ι' := ι) (fun q => q == j) id (.frz (tt.set i (vs.drop c))) (fun k => fp id k ∨ fp j k) k2.os k2.tape k2.output k2.size
    (fun k hk hn => k2.block k hk fun e => hn id _ (.inl rfl) hσ (by rw [show k = g by simpa using e]; exact hgid)) (fun k hk => ?_) (fun _ _ _ e => e) hI.fix fun _ => ⟨_, y, e1, rds_ok _, ?_, fun k hk => ?_, fun j hj => by cases hj⟩) hK
  · rcases hk with hk | hk
    · exact .inl ⟨id, _, .inl rfl, hσ, hk⟩
    · exact .inl ⟨j, _, .inr (by simp), hj, hk⟩
  · simp only [RdsA, LRel]
    refine ⟨hs.set i (evV f x), ?_, ?_⟩
    · exact own_RSF k1 fun k hk q => q (.inl (g3 k hk))
    · have hk4 : OwnAll (w.setCell ⟨g, i, none⟩ (evV f x)) 0 e' (fun k => fp id k ∧ (Value.slice (some ⟨g, 0, none⟩) hs.length c0).ownBlock ≠ some k) (tt.set i []) (hs.set i (.slice none 0 0)) := g4.keeps fun k hk => hgk k fun e => hk.2 (by rw [e]; rfl)
      have := (hk4.rrowF (F := fun k => ¬ (fp id k ∨ fp j k)) fun k hk q => q (.inl hk.1)).set' i hrs
      simpa [List.set_set] using this
  · rcases hk with hk | hk
    · exact ⟨Nat.zero_le _, Nat.lt_of_lt_of_le (g5 k hk).2 k2.size⟩
    · exact ⟨Nat.zero_le _, Nat.lt_of_lt_of_le (p2.lt k ((p3 k).1 hk)).2 k2.size⟩
theorem Conv.moveAgg {s : St} {i : Nat} {oc : OC} (t m : Nat) (hm : 16 ≤ m) (ht : s.lf t = .agg [.own i]) (hi : s.σ i = some oc) (hp : rowish oc = true) : Conv s ((s.turn (fun q => q == m || q == i) m oc).put (some t) (.agg [.own m])) := by
  intro w0 w ι fp f hI
  have hv := hI.fr t
  rw [ht] at hv
  simp only [LRel, LRels] at hv
  obtain ⟨ys, e, y, r, rfl, hy, rfl⟩ := hv
  obtain ⟨ι', fp', h1, h2⟩ := hI.moveV hm hi hp hy
  refine ⟨ι', fp', ?_⟩
  have hput := h1.put (some t) (x := .agg [.own m]) (v := f t) (by simp only [LRel, LRels]; exact ⟨_, e, _, [], rfl, h2, rfl⟩)
  have e1 : putV f (some t) (f t) = f := by funext i; simp only [putV, updV]; split <;> simp_all
  rw [e1] at hput
  exact hput
section
variable {n : Nat} {all : Array Oper} {o : Oper} {l : List Oper} {s : St} {k : Kont}
theorem HereO.storeCut (hT : T.Ok P) {t e e' : Nat} {a x : Operand} {id j i c m : Nat} {tt : List (List Value)} {vs : List Value} (ho : o.op = .store t a x) (ha : evL s a = .pe id i) (hσ : s.σ id = some (.hole e e' tt i (some j)))
    (ht : T.sc t = true) (hx : evL s x = .sub j c m) (hj : s.σ j = some (.row e' vs)) (hji : j ≠ id) (hm : c + m = vs.length) (h : OpsV P T n all l ((s.turn (fun q => q == j) id (.frz (tt.set i (vs.drop c)))).put o.dst .junk) k) : HereO P T n all o l s k :=
  HereO.of hT h fun hK => OpT.storeCut hT ho ha hσ ht hx hj hji hm hK
theorem HereC.openRow {K : List Nat} {G : (Nat → Option OC) → Prop} {ms : List Md} (hT : T.Ok P) {t e e' : Nat} {a : Operand} {id i : Nat} {tt : List (List Value)} (j : Nat) (ho : o.op = .load t a) (ha : evL s a = .pe id i) (hσ : s.σ id = some (.rows e e' tt))
    (ht : T.sc t = true) (hi : i < tt.length) (hj : 16 ≤ j) (hji : j ≠ id) (hk : K.contains j = true) (hG : G ((s.fresh j (.row e' (tt.getD i []))).set id (.hole e e' tt i (some j))).σ)
    (h : SV P T K G n all ms l (((s.fresh j (.row e' (tt.getD i []))).set id (.hole e e' tt i (some j))).put o.dst (.own j)) k) : HereC P T K G n all ms o l s k := by
  refine ⟨fun x => x == j, ((s.fresh j (.row e' (tt.getD i []))).set id (.hole e e' tt i (some j))).σ, .own j, fun x hx => by rw [beq_iff_eq.1 hx]; exact hk, hG, fun s' hs' hx' => ?_, h⟩
  have ha' : evL s' a = .pe id i := by rw [hx' a (by simp [ho, Op.operands]), ha]
  refine OpT.openRow hT j ho ha' (by rw [hs']; exact hσ) ht hi hj hji ⟨rfl, ?_⟩
  unfold St.set St.fresh St.turn
  dsimp only
  rw [hs']
end
end
theorem RetT.three {T : TT} {results : Array ResultVar} {r : LV} {s : St} {rs : List LV} {a b c : OC} (m m2 m3 : Nat) (hm : [m, m2, m3].Nodup) (h : resLs T s results.toList = some rs) (h2 : tupL rs = ren (fun i => [m, m2, m3].getD i 0) r) (h3 : s.σ m = some a) (h4 : s.σ m2 = some b) (h5 : s.σ m3 = some c) : RetT T results r [a, b, c] s :=
  ⟨rs, [m, m2, m3], h, h2, rfl, hm, fun i oc' hi => by
    match i with
    | 0 => simp at hi; subst hi; simpa using h3
    | 1 => simp at hi; subst hi; simpa using h4
    | 2 => simp at hi; subst hi; simpa using h5
    | i + 3 => simp at hi⟩
theorem RetT.four {T : TT} {results : Array ResultVar} {r : LV} {s : St} {rs : List LV} {a b c d : OC} (m m2 m3 m4 : Nat) (hm : [m, m2, m3, m4].Nodup) (h : resLs T s results.toList = some rs) (h2 : tupL rs = ren (fun i => [m, m2, m3, m4].getD i 0) r) (h3 : s.σ m = some a) (h4 : s.σ m2 = some b) (h5 : s.σ m3 = some c) (h6 : s.σ m4 = some d) : RetT T results r [a, b, c, d] s :=
  ⟨rs, [m, m2, m3, m4], h, h2, rfl, hm, fun i oc' hi => by
    match i with
    | 0 => simp at hi; subst hi; simpa using h3
    | 1 => simp at hi; subst hi; simpa using h4
    | 2 => simp at hi; subst hi; simpa using h5
    | 3 => simp at hi; subst hi; simpa using h6
    | i + 4 => simp at hi⟩
theorem HereO.cutS {P : Program} {T : TT} {n : Nat} {all : Array Oper} {o : Oper} {l : List Oper} {s : St} {B : Code} {K : Kont} {ε : Type} (J : ε → Prop) (ev : ε → List (Nat × LV)) (eo : ε → List (Nat × OC))
    (h : HereO P T n all o l s (.back (fun s' => ∃ e, J e ∧ LeF s'.lf (ev e) ∧ LeO s'.σ (eo e)) K)) (hr : ∀ e, J e → HereV P T n B (mkS (ev e) (eo e)) K) : HereO P T n all o l s (.seq B K) := by
  intro hl hk
  simp only [okK, Bool.and_eq_true] at hk
  refine OpT.mono (h hl hk.2) fun r s' q => OpsT.mono q ?_
  rintro s2 ⟨e, hJ, h1, h2⟩
  exact CodeT.le (.mk' h1 h2) (hr e hJ hk.1 hk.2)
theorem HereV.cutK {P : Program} {T : TT} {n : Nat} {A B : Code} {s : St} {K : Kont} {ε : Type} (J : ε → Prop) (ev : ε → List (Nat × LV)) (eo : ε → List (Nat × OC))
    (h : HereV P T n A s (.back (fun s' => ∃ e, J e ∧ LeF s'.lf (ev e) ∧ LeO s'.σ (eo e)) K)) (hr : ∀ e, J e → HereV P T n B (mkS (ev e) (eo e)) K) : HereV P T n A s (.seq B K) := by
  intro hc hk
  simp only [okK, Bool.and_eq_true] at hk
  refine CodeT.mono (h hc hk.2) ?_ (fun _ _ q => q) (fun _ q => q)
  rintro s' ⟨e, hJ, h1, h2⟩
  exact CodeT.le (.mk' h1 h2) (hr e hJ hk.1 hk.2)
end Go.Proofs.YtcjhojdlfnpgjaaGreat
