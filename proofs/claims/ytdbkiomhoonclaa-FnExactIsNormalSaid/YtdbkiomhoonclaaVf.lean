/- A calculus of verification conditions over logical values: calls by contract, and a function's contract out of the conditions of its body. -/
import Derived.Test.YtdbkiomhoonclaaVe
namespace Go.Proofs.Ytdbkiomhoonclaa
open Go.RowKit
set_option linter.unusedVariables false
set_option linter.unusedSimpArgs false

mutual
/-- A result: whole numbers and the like, and rows of the call's own. -/
def plainL : LV → Bool
  | .v _ => true
  | .rdL _ => false
  | .agg l => plainLs l
  | .tup l => plainLs l
  | .own id => decide (id < 16)
  | _ => false
def plainLs : List LV → Bool
  | [] => true
  | x :: l => plainL x && plainLs l
end
def plainO : OC → Bool
  | .cells _ _ => false
  | .rowL _ _ => false
  | .hole _ _ _ _ _ => false
  | .late _ _ => false
  | _ => true

mutual
theorem LRel.plain {ι ι' : Nat → Option Value} {F F' : Nat → Prop} {w w' : World} (hι : ∀ id v, id < 16 → ι id = some v → ι' id = some v) : ∀ {x : LV} {y : Value}, plainL x = true → LRel ι F w x y → LRel ι' F' w' x y
  | .v _, _, _, h => by simp only [LRel] at *; exact h
  | .agg _, _, hp, h => by
    simp only [LRel, plainL] at *
    obtain ⟨ys, e, h⟩ := h
    exact ⟨ys, e, LRels.plain hι hp h⟩
  | .tup _, _, hp, h => by
    simp only [LRel, plainL] at *
    obtain ⟨ys, e, h⟩ := h
    exact ⟨ys, e, LRels.plain hι hp h⟩
  | .own _, _, hp, h => by
    simp only [LRel, plainL, decide_eq_true_eq] at *
    exact hι _ _ hp h
  | .junk, _, hp, _ => by simp [plainL] at hp
  | .rd _, _, hp, _ => by simp [plainL] at hp
  | .rds _, _, hp, _ => by simp [plainL] at hp
  | .rdL _, _, hp, _ => by simp [plainL] at hp
  | .box _, _, hp, _ => by simp [plainL] at hp
  | .rdA _ _, _, hp, _ => by simp [plainL] at hp
  | .pc _, _, hp, _ => by simp [plainL] at hp
  | .ptr _ _, _, hp, _ => by simp [plainL] at hp
  | .pe _ _, _, hp, _ => by simp [plainL] at hp
  | .sub _ _ _, _, hp, _ => by simp [plainL] at hp
  | .fn _ _, _, hp, _ => by simp [plainL] at hp
theorem LRels.plain {ι ι' : Nat → Option Value} {F F' : Nat → Prop} {w w' : World} (hι : ∀ id v, id < 16 → ι id = some v → ι' id = some v) : ∀ {l : List LV} {ys : List Value}, plainLs l = true → LRels ι F w l ys → LRels ι' F' w' l ys
  | [], _, _, h => by simp only [LRels] at *; exact h
  | _ :: _, _, hp, h => by
    simp only [LRels, plainLs, Bool.and_eq_true] at *
    obtain ⟨y, r, e, h1, h2⟩ := h
    exact ⟨y, r, e, LRel.plain hι hp.1 h1, LRels.plain hι hp.2 h2⟩
end

mutual
theorem LRel.unren {ι : Nat → Option Value} {F : Nat → Prop} {w : World} {m : Nat → Nat} : ∀ {x : LV} {y : Value}, plainL x = true → LRel ι F w (ren m x) y → LRel (fun i => ι (m i)) F w x y
  | .v _, _, _, h => by simp only [LRel, ren] at *; exact h
  | .agg _, _, hp, h => by
    simp only [LRel, plainL, ren] at *
    obtain ⟨ys, e, h⟩ := h
    exact ⟨ys, e, LRels.unren hp h⟩
  | .tup _, _, hp, h => by
    simp only [LRel, plainL, ren] at *
    obtain ⟨ys, e, h⟩ := h
    exact ⟨ys, e, LRels.unren hp h⟩
  | .own _, _, hp, h => by simp only [LRel, ren] at *; exact h
  | .junk, _, hp, _ => by simp [plainL] at hp
  | .rd _, _, hp, _ => by simp [plainL] at hp
  | .rds _, _, hp, _ => by simp [plainL] at hp
  | .rdL _, _, hp, _ => by simp [plainL] at hp
  | .box _, _, hp, _ => by simp [plainL] at hp
  | .rdA _ _, _, hp, _ => by simp [plainL] at hp
  | .pc _, _, hp, _ => by simp [plainL] at hp
  | .ptr _ _, _, hp, _ => by simp [plainL] at hp
  | .pe _ _, _, hp, _ => by simp [plainL] at hp
  | .sub _ _ _, _, hp, _ => by simp [plainL] at hp
  | .fn _ _, _, hp, _ => by simp [plainL] at hp
theorem LRels.unren {ι : Nat → Option Value} {F : Nat → Prop} {w : World} {m : Nat → Nat} : ∀ {l : List LV} {ys : List Value}, plainLs l = true → LRels ι F w (Go.Proofs.Ytdbkiomhoonclaa.rens m l) ys → LRels (fun i => ι (m i)) F w l ys
  | [], _, _, h => by simp only [LRels, Go.Proofs.Ytdbkiomhoonclaa.rens] at *; exact h
  | _ :: _, _, hp, h => by
    simp only [LRels, plainLs, Go.Proofs.Ytdbkiomhoonclaa.rens, Bool.and_eq_true] at *
    obtain ⟨y, r, e, h1, h2⟩ := h
    exact ⟨y, r, e, LRel.unren hp.1 h1, LRels.unren hp.2 h2⟩
end

theorem own_RSF {w : World} {base e n : Nat} {v : Value} {vs : List Value} {F : Nat → Prop} (h : w.ownsRow base e 1 v n vs) (hF : ∀ k, v.ownBlock = some k → ¬ F k) : RS F w vs v := by
  obtain ⟨A, c, e1, h1, h2, h3⟩ := own_RS h
  refine ⟨A, c, e1, h1, h2, fun hp => ?_⟩
  obtain ⟨ad, rfl, h4, h5⟩ := h3 hp
  exact ⟨ad, rfl, hF _ (by rw [e1]; rfl), h5⟩
theorem OwnAll.rrowF {w : World} {base e : Nat} {F : Nat → Prop} : ∀ {t : List (List Value)} {hs : List Value} {fp : Nat → Prop}, OwnAll w base e fp t hs → (∀ k, fp k → ¬ F k) → RRow F w t hs
  | [], _, _, h, _ => h
  | r :: t, hs, fp, ⟨h, hs', e1, h1, h2, h3⟩, hF => ⟨h, hs', e1, own_RSF h1 fun k hk => hF k (h2 k hk), h3.rrowF fun k hk => hF k hk.1⟩

section
variable {ι2 : Nat → Option Value} {F2 : Nat → Prop} {w : World} {base : Nat} {fp : Nat → Nat → Prop} {σ : Nat → Option OC} {ι : Nat → Option Value} {F : Nat → Prop}
mutual
/-- A result that is read from now on. -/
theorem LRel.frozen (H : ∀ id oc, σ id = some oc → ORel ι2 F2 w base (fp id) id oc) (hF : ∀ k, FF σ fp k → ¬ F k) : ∀ {x : LV} {y : Value}, plainL x = true → LRel ι2 F2 w x y → LRel ι F w (closeA σ x) y
  | .v _, _, _, h => by simp only [LRel, closeA] at *; exact h
  | .agg _, _, hp, h => by
    simp only [LRel, plainL, closeA] at *
    obtain ⟨ys, e, h⟩ := h
    exact ⟨ys, e, LRels.frozen H hF hp h⟩
  | .tup _, _, hp, h => by
    simp only [LRel, plainL, closeA] at *
    obtain ⟨ys, e, h⟩ := h
    exact ⟨ys, e, LRels.frozen H hF hp h⟩
  | .own id, y, hp, h => by
    simp only [LRel] at h
    unfold closeA
    split
    · rename_i vs hσ
      obtain ⟨v', h1, h2, h3⟩ := H id _ hσ
      rw [h] at h1
      simp only [Option.some.injEq] at h1
      subst h1
      simp only [LRel]
      exact own_RSF h2 fun k hk => hF k ⟨id, _, hσ, (h3 k).2 hk⟩
    · rename_i t hσ
      obtain ⟨v', hs, h1, h2, h3, h4, h5⟩ := H id _ hσ
      rw [h] at h1
      simp only [Option.some.injEq] at h1
      subst h1
      simp only [LRel]
      exact ⟨hs, own_RSF h2 fun k hk => hF k ⟨id, _, hσ, h3 k hk⟩, h4.rrowF fun k hk => hF k ⟨id, _, hσ, hk.1⟩⟩
    · simp only [LRel]
  | .junk, _, hp, _ => by simp [plainL] at hp
  | .rd _, _, hp, _ => by simp [plainL] at hp
  | .rds _, _, hp, _ => by simp [plainL] at hp
  | .rdL _, _, hp, _ => by simp [plainL] at hp
  | .box _, _, hp, _ => by simp [plainL] at hp
  | .rdA _ _, _, hp, _ => by simp [plainL] at hp
  | .pc _, _, hp, _ => by simp [plainL] at hp
  | .ptr _ _, _, hp, _ => by simp [plainL] at hp
  | .pe _ _, _, hp, _ => by simp [plainL] at hp
  | .sub _ _ _, _, hp, _ => by simp [plainL] at hp
  | .fn _ _, _, hp, _ => by simp [plainL] at hp
theorem LRels.frozen (H : ∀ id oc, σ id = some oc → ORel ι2 F2 w base (fp id) id oc) (hF : ∀ k, FF σ fp k → ¬ F k) : ∀ {l : List LV} {ys : List Value}, plainLs l = true → LRels ι2 F2 w l ys → LRels ι F w (closeAs σ l) ys
  | [], _, _, h => by simp only [LRels, closeAs] at *; exact h
  | _ :: _, _, hp, h => by
    simp only [LRels, plainLs, closeAs, Bool.and_eq_true] at *
    obtain ⟨y, r, e, h1, h2⟩ := h
    exact ⟨y, r, e, LRel.frozen H hF hp.1 h1, LRels.frozen H hF hp.2 h2⟩
end
end

theorem LRels.append {ι : Nat → Option Value} {F : Nat → Prop} {w : World} : ∀ {l l' : List LV} {ys ys' : List Value}, LRels ι F w l ys → LRels ι F w l' ys' → LRels ι F w (l ++ l') (ys ++ ys')
  | [], _, _, _, h, h' => by simp only [LRels] at h; subst h; exact h'
  | _ :: _, _, _, _, h, h' => by
    simp only [LRels] at h
    obtain ⟨y, r, rfl, h1, h2⟩ := h
    simp only [List.cons_append, LRels]
    exact ⟨y, _, rfl, h1, LRels.append h2 h'⟩

section
variable {P : Program} {o : Oper} {s : St} {K : LV → St → Prop}

theorem call_args {fo : Operand} {as : Array Operand} {g : Nat} {caps : List LV} (hf : evL s fo = .fn g caps) {w0 : Base} {w : World} {ι : Nat → Option Value} {fp : Nat → Nat → Prop} {f : Nat → Value} (hI : Inv w0 w ι fp s f) :
    ∃ cs, evV f fo = .func (.func g) #[] (List.toArray cs) ∧ LRels noI noF w (closeBs s.σ (as.toList.map (evL s) ++ caps)) (as.toList.map (evV f) ++ cs) := by
  have hv := hI.ev fo
  rw [hf] at hv
  simp only [LRel] at hv
  obtain ⟨cs, e, hc⟩ := hv
  exact ⟨cs, e, LRels.closeB hI.ob ((LRels.map hI.ev _).append hc)⟩

theorem run_call {fo : Operand} {as : Array Operand} {ts : Array TypeId} {g : Nat} (ho : o.op = .call { callee := .value fo, args := as, argTypes := ts }) {f : Nat → Value} {cs : List Value} (e : evV f fo = .func (.func g) #[] (List.toArray cs))
    (ent : ∀ args w, (callFunc g args).run P w = .ok (.enter g args) w) (w : World) : (execOp (evV f) o).run P w = .ok (.enter g (List.toArray (as.toList.map (evV f) ++ cs))) w := by
  have h2 : Array.map (evV f) as ++ List.toArray cs = List.toArray (as.toList.map (evV f) ++ cs) := by
    apply Array.ext'
    simp
  simp only [execOp, ho, resolve, e, Deferred.ofValue, Sem.run_bind, Sem.run_pure, Result.andThen_ok, invoke]
  rw [← h2, ← ent]
  simp

/-- A call whose result is read from now on (or is no row at all). -/
theorem OpT.call {fo : Operand} {as : Array Operand} {ts : Array TypeId} {g : Nat} {caps : List LV} {r : LV} {os : List OC} (ho : o.op = .call { callee := .value fo, args := as, argTypes := ts })
    (hf : evL s fo = .fn g caps) (hs : Spec P g (closeBs s.σ (as.toList.map (evL s) ++ caps)) r os) (hp : plainL r = true) (hK : K (closeA (osF os) r) s) : OpT P o s K := by
  intro w0 w ι fp f hI
  obtain ⟨cs, e, hc⟩ := call_args hf (as := as) hI
  rw [run_call ho e hs.ent w]
  refine .enter _ _ _ ((hs.run w _ hc).mono ?_)
  rintro e w' ⟨v, ι2, fp2, rfl, hI2⟩
  refine ⟨_, s, v, ι, fp, rfl, hI.step hI2.bel.toBelow, ?_, hK⟩
  have h0 := hI2.fr 0
  exact LRel.frozen hI2.ob (fun k hk hq => by have := (hI.lt k hq).2; have := (hI2.low k hk).resolve_right (fun q => q); simp only [Base.of] at this; omega) hp h0

/-- Objects that a call hands back take their place. -/
def shift (d i : Nat) : Nat := 1000 + 16 * d + i
def isShift (d j : Nat) : Bool := decide (1000 + 16 * d ≤ j ∧ j < 1000 + 16 * d + 16)
def St.take (s : St) (d : Nat) (os : List OC) : St :=
  ⟨fun i => kill (isShift d) (s.lf i), fun j => if isShift d j then os[j - (1000 + 16 * d)]? else (s.σ j).map (killO (isShift d))⟩

theorem ownsRow_base {w : World} {base base' e n : Nat} {v : Value} {vs : List Value} (h : w.ownsRow base e 1 v n vs) (hb : base' ≤ base) : w.ownsRow base' e 1 v n vs := by
  refine ⟨h.1, ?_⟩
  rcases h.2 with hn | ⟨g, cap, cur, rfl, hg, rest⟩
  · exact .inl hn
  · exact .inr ⟨g, cap, cur, rfl, by omega, rest⟩
theorem OwnAll.base {w : World} {base base' e : Nat} (hb : base' ≤ base) : ∀ {t : List (List Value)} {hs : List Value} {fp : Nat → Prop}, OwnAll w base e fp t hs → OwnAll w base' e fp t hs
  | [], _, _, h => h
  | r :: t, hs, fp, ⟨h, hs', e1, h1, h2, h3⟩ => ⟨h, hs', e1, ownsRow_base h1 hb, h2, h3.base hb⟩

/-- A plain object is an object wherever it is given a number. -/
theorem ORel.plain {ι ι' : Nat → Option Value} {F F' : Nat → Prop} {w : World} {base base' : Nat} {fp : Nat → Prop} {id id' : Nat} {oc : OC} (h : ORel ι F w base fp id oc) (hp : plainO oc = true) (hι : ∀ v, ι id = some v → ι' id' = some v) (hb : base' ≤ base) : ORel ι' F' w base' fp id' oc := by
  cases oc with
  | cells t l => simp [plainO] at hp
  | rowL e l => simp [plainO] at hp
  | hole e e' t i j => simp [plainO] at hp
  | late e vs => simp [plainO] at hp
  | row e vs =>
    obtain ⟨v, h1, h2, h3⟩ := h
    exact ⟨v, hι _ h1, ownsRow_base h2 hb, h3⟩
  | rows e e' t =>
    obtain ⟨v, hs, h1, h2, h3, h4, h5⟩ := h
    exact ⟨v, hs, hι _ h1, ownsRow_base h2 hb, h3, h4.base hb, fun k hk => ⟨by have := (h5 k hk).1; omega, (h5 k hk).2⟩⟩

theorem ORel.kills {ι ι' : Nat → Option Value} {F F' : Nat → Prop} {w w' : World} {base : Nat} {fp : Nat → Prop} {id : Nat} {oc : OC} {q : Nat → Bool} (h : ORel ι F w base fp id oc) (hid : q id = false)
    (hι : ∀ id v, q id = false → ι id = some v → ι' id = some v) (k : Keeps F F' w w') (hs : w.heap.size ≤ w'.heap.size) (hb : ∀ k, fp k → w'.heap[k]? = w.heap[k]?) : ORel ι' F' w' base fp id (killO q oc) := by
  cases oc with
  | cells t l =>
    obtain ⟨b, ys, h1, h2, h3, h4, h5⟩ := h
    exact ⟨b, ys, hι _ _ hid h1, h2, h3, by rw [hb b ((h3 b).2 rfl)]; exact h4, h5.kills hι k⟩
  | row e vs =>
    obtain ⟨v, h1, h2, h3⟩ := h
    exact ⟨v, hι _ _ hid h1, own_keeps h2 fun k hk => hb k ((h3 k).2 hk), h3⟩
  | rowL e l =>
    obtain ⟨v, ys, h1, h2, h3, h4⟩ := h
    exact ⟨v, ys, hι _ _ hid h1, own_keeps h2 fun k hk => hb k ((h3 k).2 hk), h3, h4.kills hι k⟩
  | rows e e' t =>
    obtain ⟨v, hs', h1, h2, h3, h4, h5⟩ := h
    exact ⟨v, hs', hι _ _ hid h1, own_keeps h2 fun k hk => hb k (h3 k hk), h3, h4.keeps fun k hk => hb k hk.1, fun k hk => ⟨(h5 k hk).1, by have := (h5 k hk).2; omega⟩⟩
  | hole e e' t i j =>
    obtain ⟨v, hs', y, h1, h2, h3, h4, h5, h6, h7⟩ := h
    refine ⟨v, hs', y, hι _ _ hid h1, own_keeps h2 fun k hk => hb k (h3 k hk), h3, h4.keeps fun k hk => hb k hk.1, fun k hk => ⟨(h5 k hk).1, by have := (h5 k hk).2; omega⟩, h6, fun a ha => ?_⟩
    obtain ⟨g1, g2⟩ := Option.filter_eq_some_iff.1 ha
    exact hι _ _ (by simpa using g2) (h7 a g1)
  | late e vs =>
    rcases h with h | ⟨v, h1, h2, h3⟩ | ⟨b, h1, h2, h3, h4⟩
    · exact .inl ⟨hι _ _ hid h.1, h.2⟩
    · exact .inr (.inl ⟨v, hι _ _ hid h1, own_keeps h2 fun k hk => hb k ((h3 k).2 hk), h3⟩)
    · exact .inr (.inr ⟨b, hι _ _ hid h1, h2, h3, by rw [hb b ((h3 b).2 rfl)]; exact h4⟩)

/-- Objects that came into being above the heap's size are taken over. -/
theorem Inv.take {w0 : Base} {w w' : World} {ι ι2 : Nat → Option Value} {fp fp2 : Nat → Nat → Prop} {f : Nat → Value} (hI : Inv w0 w ι fp s f) {os : List OC} (hl : os.length ≤ 16) (hp : os.all plainO = true) (d : Nat) (hb : Below w.heap.size w w')
    (hlow : ∀ k, FF (osF os) fp2 k → w.heap.size ≤ k) (hob : ∀ id oc, osF os id = some oc → ORel ι2 (FF (osF os) fp2) w' 0 (fp2 id) id oc) (hdis : ∀ id id' oc oc' k, osF os id = some oc → osF os id' = some oc' → fp2 id k → fp2 id' k → id = id') :
    Inv w0 w' (fun j => if isShift d j then ι2 (j - (1000 + 16 * d)) else ι j) (fun j => if isShift d j then fp2 (j - (1000 + 16 * d)) else fp j) (s.take d os) f := by
  have hlt := hI.lt
  have hF : ∀ k, FF (s.take d os).σ (fun j => if isShift d j then fp2 (j - (1000 + 16 * d)) else fp j) k → FF s.σ fp k ∨ w.heap.size ≤ k := by
    rintro k ⟨j, oc, h1, h2⟩
    simp only [St.take] at h1
    cases hj : isShift d j with
    | true =>
      rw [hj, if_pos rfl] at h1
      simp only [hj, if_true] at h2
      exact .inr (hlow k ⟨_, oc, h1, h2⟩)
    | false =>
      rw [hj, if_neg (by decide)] at h1
      simp only [hj, Bool.false_eq_true, if_false] at h2
      cases hs : s.σ j with
      | none => rw [hs] at h1; simp at h1
      | some oc' => exact .inl ⟨j, oc', hs, h2⟩
  have hk : Keeps (FF s.σ fp) (FF (s.take d os).σ (fun j => if isShift d j then fp2 (j - (1000 + 16 * d)) else fp j)) w w' := fun p u hp hc =>
    ⟨(hb.cell (World.block_lt_of_cell? _ _ hc)).trans hc, fun hq => by
      rcases hF _ hq with h | h
      · exact hp h
      · have := World.block_lt_of_cell? _ _ hc; omega⟩
  have hι : ∀ id v, isShift d id = false → ι id = some v → (if isShift d id then ι2 (id - (1000 + 16 * d)) else ι id) = some v := fun id v h e => by rw [h, if_neg (by decide)]; exact e
  have old : ∀ j oc, isShift d j = false → (s.take d os).σ j = some oc → ∃ oc', s.σ j = some oc' ∧ oc = killO (isShift d) oc' := by
    intro j oc hj h
    simp only [St.take, hj, Bool.false_eq_true, if_false] at h
    cases hs : s.σ j with
    | none => rw [hs] at h; simp at h
    | some oc' => rw [hs] at h; simp only [Option.map_some, Option.some.injEq] at h; exact ⟨oc', rfl, h.symm⟩
  have new : ∀ j oc, isShift d j = true → (s.take d os).σ j = some oc → osF os (j - (1000 + 16 * d)) = some oc := by
    intro j oc hj h
    simp only [St.take, hj, if_true] at h
    exact h
  refine ⟨fun i => ?_, fun id oc hi => ?_, fun id id' oc oc' k h1 h2 g1 g2 => ?_, hI.bel.below hb, fun k hk => (hF k hk).elim (hI.low k) fun h => .inl (Nat.le_trans hI.bel.size h), fun id v h => ?_⟩
  · exact (hI.fr i).kills hι hk
  · cases hj : isShift d id with
    | true =>
      have hn := new id oc hj hi
      have := hob _ oc hn
      simp only [hj, if_true]
      exact this.plain (List.all_eq_true.1 hp oc (List.mem_of_getElem? hn)) (fun v hv => by rw [hj, if_pos rfl]; exact hv) (Nat.le_refl _)
    | false =>
      obtain ⟨oc', hs, rfl⟩ := old id oc hj hi
      simp only [hj, Bool.false_eq_true, if_false]
      have ho := hI.ob id oc' hs
      exact ho.kills hj hι hk hb.size fun k hk' => hb.block k (ho.lt k hk').2
  · cases hj : isShift d id with
    | true =>
      simp only [hj, if_true] at g1
      have hn := new id oc hj h1
      cases hj' : isShift d id' with
      | true =>
        simp only [hj', if_true] at g2
        have := hdis _ _ _ _ k hn (new id' oc' hj' h2) g1 g2
        simp only [isShift, decide_eq_true_eq] at hj hj'
        omega
      | false =>
        simp only [hj', Bool.false_eq_true, if_false] at g2
        obtain ⟨oc'', hs, _⟩ := old id' oc' hj' h2
        have a1 := hlow k ⟨_, oc, hn, g1⟩
        have a2 := ((hI.ob id' oc'' hs).lt k g2).2
        omega
    | false =>
      simp only [hj, Bool.false_eq_true, if_false] at g1
      obtain ⟨oc1, hs1, _⟩ := old id oc hj h1
      cases hj' : isShift d id' with
      | true =>
        simp only [hj', if_true] at g2
        have hn := new id' oc' hj' h2
        have a1 := hlow k ⟨_, oc', hn, g2⟩
        have a2 := ((hI.ob id oc1 hs1).lt k g1).2
        omega
      | false =>
        simp only [hj', Bool.false_eq_true, if_false] at g2
        obtain ⟨oc2, hs2, _⟩ := old id' oc' hj' h2
        exact hI.dis _ _ _ _ k hs1 hs2 g1 g2
  · have hj : isShift d id = false := by
      cases hj : isShift d id with
      | false => rfl
      | true =>
        simp only [isShift, decide_eq_true_eq] at hj
        rw [w0.hi id (by omega)] at h
        cases h
    rw [hj, if_neg (by decide)]
    exact hI.fix id v h

/-- A call whose rows are the caller's own from now on. -/
theorem OpT.callOwn {fo : Operand} {as : Array Operand} {ts : Array TypeId} {g : Nat} {caps : List LV} {r : LV} {os : List OC} {d : Nat} (ho : o.op = .call { callee := .value fo, args := as, argTypes := ts })
    (hf : evL s fo = .fn g caps) (hs : Spec P g (closeBs s.σ (as.toList.map (evL s) ++ caps)) r os) (hp : plainL r = true) (hl : os.length ≤ 16) (hpo : os.all plainO = true) (hK : K (ren (shift d) r) (s.take d os)) : OpT P o s K := by
  intro w0 w ι fp f hI
  obtain ⟨cs, e, hc⟩ := call_args hf (as := as) hI
  rw [run_call ho e hs.ent w]
  refine .enter _ _ _ ((hs.run w _ hc).mono ?_)
  rintro e w' ⟨v, ι2, fp2, rfl, hI2⟩
  refine ⟨_, _, v, _, _, rfl, hI.take hl hpo d hI2.bel.toBelow (fun k hk => (hI2.low k hk).resolve_right fun q => q) hI2.ob hI2.dis, ?_, hK⟩
  have h0 := hI2.fr 0
  refine LRel.rens (LRel.plain (fun id v hid hv => ?_) hp h0)
  have : isShift d (shift d id) = true := decide_eq_true ⟨Nat.le_add_right _ _, Nat.add_lt_add_left hid _⟩
  rw [this, if_pos rfl, show shift d id - (1000 + 16 * d) = id from Nat.add_sub_cancel_left _ _]
  exact hv
end
end Go.Proofs.Ytdbkiomhoonclaa
