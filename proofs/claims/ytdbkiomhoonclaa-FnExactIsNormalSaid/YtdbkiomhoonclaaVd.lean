/- A calculus of verification conditions over logical values: the conditions of single operations suffice. -/
import Derived.Test.YtdbkiomhoonclaaVc
namespace Go.Proofs.Ytdbkiomhoonclaa
open Go.RowKit
set_option linter.unusedVariables false
set_option linter.unusedSimpArgs false

section
variable {P : Program} {T : TT} {s : St} {K : LV → St → Prop}

theorem box_cells {ι : Nat → Option Value} {F : Nat → Prop} {w : World} {l : List LV} {ys : List Value} (hl : LRels ι F w l ys) (t : Nat) (hF : ¬ F w.heap.size) (hk : ∀ k, F k → k < w.heap.size) :
    LRel ι F (w.alloc (.cells ys.toArray t)) (.box l) (.pointer (some ⟨w.heap.size, 0, none⟩)) := by
  simp only [LRel]
  refine ⟨⟨w.heap.size, 0, none⟩, ys, rfl, fun j u hu => ⟨hF, ?_⟩, hl.keeps (fun _ _ e => e) fun p u hp hc => ⟨?_, hp⟩⟩
  · rw [add0, World.cell?_alloc_new]; simpa using hu
  · rw [World.cell?_alloc_lt (h := World.block_lt_of_cell? _ _ hc)]; exact hc

theorem ORel.lt {ι : Nat → Option Value} {F : Nat → Prop} {w : World} {base : Nat} {fp : Nat → Prop} {id : Nat} {oc : OC} (h : ORel ι F w base fp id oc) : ∀ k, fp k → base ≤ k ∧ k < w.heap.size := by
  intro k hk
  cases oc with
  | cells t l =>
    obtain ⟨b, ys, h1, h2, h3, h4, h5⟩ := h
    rw [(h3 k).1 hk]
    exact ⟨h2, (Array.getElem?_eq_some_iff.1 h4).1⟩
  | row e vs =>
    obtain ⟨v, h1, h2, h3⟩ := h
    exact h2.lt k ((h3 k).1 hk)
  | rowL e l =>
    obtain ⟨v, ys, h1, h2, h3, h4⟩ := h
    exact h2.lt k ((h3 k).1 hk)
  | rows e e' t =>
    obtain ⟨v, hs, h1, h2, h3, h4, h5⟩ := h
    exact h5 k hk
  | hole e e' t i j =>
    obtain ⟨v, hs, y, h1, h2, h3, h4, h5, _⟩ := h
    exact h5 k hk
  | late e vs =>
    rcases h with h | ⟨v, h1, h2, h3⟩ | ⟨b, h1, h2, h3, h4⟩
    · exact (h.2 k hk).elim
    · exact h2.lt k ((h3 k).1 hk)
    · rw [(h3 k).1 hk]
      exact ⟨h2, (Array.getElem?_eq_some_iff.1 h4).1⟩

theorem Inv.lt {w0 : Base} {w : World} {ι : Nat → Option Value} {fp : Nat → Nat → Prop} {f : Nat → Value} (h : Inv w0 w ι fp s f) : ∀ k, FF s.σ fp k → (w0.w.heap.size ≤ k ∨ w0.B k) ∧ k < w.heap.size :=
  fun k hk => ⟨h.low k hk, let ⟨id, oc, h1, h2⟩ := hk; ((h.ob id oc h1).lt k h2).2⟩

/-- Objects stay where their blocks stay. -/
theorem OwnAll.keeps {w w' : World} {base e : Nat} : ∀ {t : List (List Value)} {hs : List Value} {fp : Nat → Prop}, OwnAll w base e fp t hs → (∀ k, fp k → w'.heap[k]? = w.heap[k]?) → OwnAll w' base e fp t hs
  | [], _, _, h, _ => h
  | r :: t, hs, fp, ⟨h, hs', e1, h1, h2, h3⟩, hk => by
    refine ⟨h, hs', e1, ?_, h2, h3.keeps fun k hk' => hk k hk'.1⟩
    refine ⟨h1.1, ?_⟩
    rcases h1.2 with hn | ⟨g, cap, cur, rfl, hb, hg, rest⟩
    · exact .inl hn
    · exact .inr ⟨g, cap, cur, rfl, hb, by rw [hk g (h2 g rfl)]; exact hg, rest⟩

theorem own_keeps {w w' : World} {base e n : Nat} {v : Value} {vs : List Value} (h : w.ownsRow base e 1 v n vs) (hk : ∀ k, v.ownBlock = some k → w'.heap[k]? = w.heap[k]?) : w'.ownsRow base e 1 v n vs := by
  refine ⟨h.1, ?_⟩
  rcases h.2 with hn | ⟨g, cap, cur, rfl, hb, hg, rest⟩
  · exact .inl hn
  · exact .inr ⟨g, cap, cur, rfl, hb, by rw [hk g rfl]; exact hg, rest⟩

theorem ORel.keeps {ι ι' : Nat → Option Value} {F F' : Nat → Prop} {w w' : World} {base : Nat} {fp : Nat → Prop} {id : Nat} {oc : OC} (h : ORel ι F w base fp id oc)
    (hι : ∀ id v, ι id = some v → ι' id = some v) (k : Keeps F F' w w') (hs : w.heap.size ≤ w'.heap.size) (hb : ∀ k, fp k → w'.heap[k]? = w.heap[k]?) : ORel ι' F' w' base fp id oc := by
  cases oc with
  | cells t l =>
    obtain ⟨b, ys, h1, h2, h3, h4, h5⟩ := h
    exact ⟨b, ys, hι _ _ h1, h2, h3, by rw [hb b ((h3 b).2 rfl)]; exact h4, h5.keeps hι k⟩
  | row e vs =>
    obtain ⟨v, h1, h2, h3⟩ := h
    exact ⟨v, hι _ _ h1, own_keeps h2 fun k hk => hb k ((h3 k).2 hk), h3⟩
  | rowL e l =>
    obtain ⟨v, ys, h1, h2, h3, h4⟩ := h
    exact ⟨v, ys, hι _ _ h1, own_keeps h2 fun k hk => hb k ((h3 k).2 hk), h3, h4.keeps hι k⟩
  | rows e e' t =>
    obtain ⟨v, hs', h1, h2, h3, h4, h5⟩ := h
    exact ⟨v, hs', hι _ _ h1, own_keeps h2 fun k hk => hb k (h3 k hk), h3, h4.keeps fun k hk => hb k hk.1, fun k hk => ⟨(h5 k hk).1, by have := (h5 k hk).2; omega⟩⟩
  | hole e e' t i j =>
    obtain ⟨v, hs', y, h1, h2, h3, h4, h5, h6, h7⟩ := h
    exact ⟨v, hs', y, hι _ _ h1, own_keeps h2 fun k hk => hb k (h3 k hk), h3, h4.keeps fun k hk => hb k hk.1, fun k hk => ⟨(h5 k hk).1, by have := (h5 k hk).2; omega⟩, h6, fun j hj => hι _ _ (h7 j hj)⟩
  | late e vs =>
    rcases h with h | ⟨v, h1, h2, h3⟩ | ⟨b, h1, h2, h3, h4⟩
    · exact .inl ⟨hι _ _ h.1, h.2⟩
    · exact .inr (.inl ⟨v, hι _ _ h1, own_keeps h2 fun k hk => hb k ((h3 k).2 hk), h3⟩)
    · exact .inr (.inr ⟨b, hι _ _ h1, h2, h3, by rw [hb b ((h3 b).2 rfl)]; exact h4⟩)

theorem Kept.below {b : Base} {w w' : World} (h : Kept b w) (hb : Below w.heap.size w w') : Kept b w' :=
  ⟨hb.os.trans h.os, hb.tape.trans h.tape, hb.output.trans h.output, Nat.le_trans h.size hb.size, fun k hk hB => (hb.block k (Nat.lt_of_lt_of_le hk h.size)).trans (h.block k hk hB)⟩
theorem Kept.refl (b : Base) : Kept b b.w := ⟨rfl, rfl, rfl, Nat.le_refl _, fun _ _ _ => rfl⟩

/-- A world in which all that was there is as it was. -/
theorem Inv.step {w0 : Base} {w w' : World} {ι : Nat → Option Value} {fp : Nat → Nat → Prop} {f : Nat → Value} (h : Inv w0 w ι fp s f) (hb : Below w.heap.size w w') : Inv w0 w' ι fp s f := by
  have hk : Keeps (FF s.σ fp) (FF s.σ fp) w w' := fun p u hp hc => ⟨(hb.cell (World.block_lt_of_cell? _ _ hc)).trans hc, hp⟩
  refine ⟨fun i => (h.fr i).keeps (fun _ _ e => e) hk, fun id oc hi => (h.ob id oc hi).keeps (fun _ _ e => e) hk hb.size fun k hk' => hb.block k ((h.ob id oc hi).lt k hk').2, h.dis, h.bel.below hb, h.low, h.fix⟩

theorem Inv.grow {w0 : Base} {w : World} {ι : Nat → Option Value} {fp : Nat → Nat → Prop} {f : Nat → Value} (h : Inv w0 w ι fp s f) (o : Obj) : Inv w0 (w.alloc o) ι fp s f :=
  h.step ((Below.refl _ w).alloc (Nat.le_refl _) o)

theorem run_conv {P : Program} {a t : Nat} {k0 k k' : IntKind} (ha : P.underlying a = some (.int k0)) (ht : P.underlying t = some (.int k')) (n : Int) (w : World) : (convert a t (.int k n)).run P w = .ok (.int k' (k'.wrap n)) w := by
  simp [convert, run_underlying ha, run_underlying ht, Conv.intToInt]

theorem opL_sound (hT : T.Ok P) {o : Oper} {ρ : Operand → LV} {σ : Nat → Option OC} {K : LV → Prop} (h : opL P T o ρ σ K) : ∃ r, K r ∧ OpP P o ρ σ r := by
  obtain ⟨dst, op, type, pos, after, guard⟩ := o
  cases op with
  | move x => exact OpP.pure_ h fun w0 w ι fp s f hI hS ha => ⟨_, by simp [execOp], ha x (by simp [Op.operands])⟩
  | assign x => exact OpP.pure_ h fun w0 w ι fp s f hI hS ha => ⟨_, by simp [execOp], ha x (by simp [Op.operands])⟩
  | pick c a b =>
    simp only [opL] at h
    split at h <;> try exact h.elim
    rename_i t ht
    have hc : ∀ {w : World} {ι : Nat → Option Value} {F : Nat → Prop} {f : Nat → Value}, LRel ι F w (ρ c) (evV f c) → evV f c = .bool t := by
      intro w ι F f hv
      rw [ht] at hv
      simpa only [LRel] using hv
    cases t with
    | true => exact OpP.pure_ (h.1 rfl) fun w0 w ι fp s f hI hS ha => ⟨evV f a, by simp [execOp, hc (ha c (by simp [Op.operands])), asBool], ha a (by simp [Op.operands])⟩
    | false => exact OpP.pure_ (h.2 rfl) fun w0 w ι fp s f hI hS ha => ⟨evV f b, by simp [execOp, hc (ha c (by simp [Op.operands])), asBool], ha b (by simp [Op.operands])⟩
  | binOp b t x y t' =>
    simp only [opL] at h
    split at h <;> try exact h.elim
    rename_i x' y' hx hy
    obtain ⟨v, hr, hv⟩ : ∃ v, (∀ w, (do eqGuard b t x y x' y'; binOp b t x' y' : Sem Value).run P w = .ok v w) ∧ K (.v v) := BinV.sound' hT h
    refine OpP.pure_ hv fun w0 w ι fp s f hI hS ha => ⟨v, ?_, by simp only [LRel]⟩
    have hvx := ha x (by simp [Op.operands])
    have hvy := ha y (by simp [Op.operands])
    rw [hx] at hvx
    rw [hy] at hvy
    simp only [LRel] at hvx hvy
    have hr := hr w
    simp only [execOp, hvx, hvy, Sem.run_bind] at hr ⊢
    rw [hr]; rfl
  | unOp u t x =>
    cases u with
    | not =>
      simp only [opL] at h
      split at h <;> try exact h.elim
      rename_i b hb
      refine OpP.pure_ h fun w0 w ι fp s f hI hS ha => ⟨.bool !b, ?_, by simp only [LRel]⟩
      have hv := ha x (by simp [Op.operands])
      rw [hb] at hv
      simp only [LRel] at hv
      simp [execOp, hv, Op.unary]
    | neg =>
      simp only [opL] at h
      split at h <;> try exact h.elim
      rename_i a hneg
      refine OpP.pure_ h.2 fun w0 w ι fp s f hI hS ha => ⟨.int .i64 (0 - a), ?_, by simp only [LRel]⟩
      have hv := ha x (by simp [Op.operands])
      rw [hneg] at hv
      simp only [LRel] at hv
      have hw := wrapI h.1
      simp [execOp, hv, Op.unary, Op.intArith] at hw ⊢
      exact hw
    | _ => exact h
  | extract x j =>
    simp only [opL] at h
    split at h <;> try exact h.elim
    rename_i l hl
    split at h <;> try exact h.elim
    rename_i y hy
    refine OpP.pure_ h fun w0 w ι fp s f hI hS ha => ?_
    have hv := ha x (by simp [Op.operands])
    rw [hl] at hv
    simp only [LRel] at hv
    obtain ⟨ys, e, hys⟩ := hv
    obtain ⟨u, hu, hr⟩ := LRels.get j y hys hy
    exact ⟨u, by simp [execOp, e, Instr.extract, hu], hr⟩
  | box t x =>
    have key : ∀ l : List LV, K (.box l) → (∀ (ι : Nat → Option Value) F w v, LRel ι F w (ρ x) v → ∃ ys, v.cells = List.toArray ys ∧ LRels ι F w l ys) → ∃ r, K r ∧ OpP P ⟨dst, .box t x, type, pos, after, guard⟩ ρ σ r := by
      intro l hK hl
      refine ⟨_, hK, fun w0 w ι fp s f hI hS ha => ?_⟩
      obtain ⟨ys, e, hys⟩ := hl _ _ _ _ (hI.ev x |> fun q => by rw [ha x (by simp [Op.operands])] at q; exact q)
      have hr : (execOp (evV f) ⟨dst, .box t x, type, pos, after, guard⟩).run P w = .ok (.value (.pointer (some ⟨w.heap.size, 0, none⟩))) (w.alloc (.cells ys.toArray t)) := by
        simp [execOp, Instr.box, newVar, newRow, e]
      rw [hr]
      have hlt := hI.lt
      exact .value (.box l) s _ _ ι fp (hI.grow _) (box_cells hys t (fun hq => by have := (hlt _ hq).2; omega) fun k hk => (hlt k hk).2) ⟨rfl, rfl⟩
    have key1 : ∀ y : LV, ρ x = y → (∀ (ι : Nat → Option Value) F w v, LRel ι F w y v → v.cells = #[v]) → K (.box [y]) → ∃ r, K r ∧ OpP P ⟨dst, .box t x, type, pos, after, guard⟩ ρ σ r := by
      intro y hx hy hK
      refine key _ hK fun ι F w v hv => ⟨[v], ?_, ?_⟩
      · rw [hx] at hv
        rw [hy _ _ _ _ hv]
      · simp only [LRels]
        exact ⟨v, [], rfl, by rw [← hx]; exact hv, rfl⟩
    simp only [opL] at h
    split at h <;> rename_i hx
    · exact key _ h fun ι F w v hv => by
        rw [hx] at hv; simp only [LRel] at hv
        obtain ⟨ys, e, hys⟩ := hv
        exact ⟨ys, by rw [e]; rfl, hys⟩
    · exact key1 _ hx (fun ι F w v hv => by simp only [LRel] at hv; subst hv; rfl) h
    · exact key1 _ hx (fun ι F w v hv => by simp only [LRel] at hv; subst hv; rfl) h
    · exact key1 _ hx (fun ι F w v hv => by simp only [LRel, RS] at hv; obtain ⟨A, c, e, _⟩ := hv; subst e; rfl) h
    · exact key1 _ hx (fun ι F w v hv => by simp only [LRel, RS] at hv; obtain ⟨hs, ⟨A, c, e, _⟩, _⟩ := hv; subst e; rfl) h
    · exact key1 _ hx (fun ι F w v hv => by simp only [LRel, RS] at hv; obtain ⟨hs, ⟨A, c, e, _⟩, _⟩ := hv; subst e; rfl) h
    · exact key1 _ hx (fun ι F w v hv => by simp only [LRel] at hv; obtain ⟨ys, e, _⟩ := hv; subst e; rfl) h
    · exact h.elim
  | load t x =>
    simp only [opL] at h
    split at h
    · rename_i y hx
      split at h
      · refine OpP.pure_ h.2 fun w0 w ι fp s f hI hS ha => ?_
        have hv := ha x (by simp [Op.operands])
        rw [hx] at hv
        simp only [LRel] at hv
        obtain ⟨p, u, e, hF, hc, hr⟩ := hv
        exact ⟨u, by simp [execOp, e, run_loadAt_sc hT h.1 hc], hr⟩
      · rename_i k hk
        obtain ⟨rfl, hK⟩ := h
        refine OpP.pure_ hK fun w0 w ι fp s f hI hS ha => ?_
        have hv := ha x (by simp [Op.operands])
        rw [hx] at hv
        simp only [LRel] at hv
        obtain ⟨p, u, e, hF, hc, hr⟩ := hv
        refine ⟨.agg #[u], ?_, by simp only [LRel, LRels]; exact ⟨[u], rfl, u, [], rfl, hr, rfl⟩⟩
        obtain ⟨h1, h2⟩ := hT.ag t _ hk w
        have := run_loadCellsFrom' P w p [u] 0 #[] (fun j u' hu => by
          match j, hu with
          | 0, hu => simp only [List.getElem?_cons_zero, Option.some.injEq] at hu; subst hu; rw [show p.add 0 = p by simp [Addr.add]]; exact hc
          | j + 1, hu => simp at hu)
        simp only [List.length_cons, List.length_nil, Nat.zero_add] at this
        simp [execOp, e, Instr.loadAt, Instr.sureAddr, loadVar, h1, h2, loadCells, this]
    · rename_i l hx
      split at h
      · rename_i k hk
        refine OpP.pure_ h.2 fun w0 w ι fp s f hI hS ha => ?_
        have hv := ha x (by simp [Op.operands])
        rw [hx] at hv
        simp only [LRel] at hv
        obtain ⟨b, ys, e, hc, hr⟩ := hv
        have hlen := hr.length
        refine ⟨_, by simp only [execOp, e, Sem.run_bind]; rw [run_loadAt_agP hT (by rw [hk, hlen, h.1]) (fun j u hu => (hc j u hu).2)]; rfl, ?_⟩
        simp only [LRel]
        exact ⟨ys, rfl, hr⟩
      · split at h <;> try exact h.elim
        rename_i y l'
        refine OpP.pure_ h.2 fun w0 w ι fp s f hI hS ha => ?_
        have hv := ha x (by simp [Op.operands])
        rw [hx] at hv
        simp only [LRel] at hv
        obtain ⟨b, ys, e, hc, hr⟩ := hv
        obtain ⟨u, hu, hru⟩ := LRels.get 0 y hr rfl
        exact ⟨u, by simp [execOp, e, run_loadAt_sc hT h.1 (show w.cell? b = some u from by have := (hc 0 u hu).2; rwa [show b.add 0 = b from by simp [Addr.add]] at this)], hru⟩
    · rename_i id off hx
      split at h <;> try exact h.elim
      rename_i t' l hσ
      have obj : ∀ {w0 w ι fp s f}, Inv w0 w ι fp s f → s.σ = σ → LRel ι (FF σ fp) w (ρ x) (evV f x) → ∃ b ys, evV f x = .pointer (some ⟨b, off, none⟩) ∧ (∀ j, w.cell? ⟨b, j, none⟩ = ys[j]?) ∧ LRels ι (FF σ fp) w l ys := by
        intro w0 w ι fp s f hI hS hv
        subst hS
        rw [hx] at hv
        simp only [LRel] at hv
        obtain ⟨b, e1, e2⟩ := hv
        obtain ⟨b', ys, h1, h2, h3, h4, h5⟩ := hI.ob id _ hσ
        rw [e1] at h1
        simp only [Option.some.injEq, Value.pointer.injEq, Addr.mk.injEq, and_true] at h1
        subst h1
        exact ⟨b, ys, e2, fun j => cell_at h4 j, h5⟩
      split at h
      · rename_i k hk
        obtain ⟨rfl, hl, hK⟩ := h
        refine OpP.pure_ hK fun w0 w ι fp s f hI hS ha => ?_
        obtain ⟨b, ys, e, hc, hr⟩ := obj hI hS (ha x (by simp [Op.operands]))
        have hlen := hr.length
        refine ⟨_, by simp only [execOp, e, Sem.run_bind]; rw [run_loadAt_ag hT (by rw [hk, hlen, hl]) (fun j u hu => by rw [hc j, hu])]; rfl, ?_⟩
        simp only [LRel]
        exact ⟨ys, rfl, hr⟩
      · split at h <;> try exact h.elim
        rename_i y hy
        refine OpP.pure_ h.2 fun w0 w ι fp s f hI hS ha => ?_
        obtain ⟨b, ys, e, hc, hr⟩ := obj hI hS (ha x (by simp [Op.operands]))
        obtain ⟨u, hu, hru⟩ := LRels.get off y hr hy
        exact ⟨u, by simp [execOp, e, run_loadAt_sc hT h.1 ((hc off).trans hu)], hru⟩
    · rename_i id i hx
      split at h <;> try exact h.elim
      rename_i e' vs hσ
      obtain ⟨ht, hi, hK⟩ := h
      refine OpP.pure_ hK fun w0 w ι fp s f hI hS ha => ?_
      have hv := ha x (by simp [Op.operands])
      rw [hx] at hv
      simp only [LRel] at hv
      obtain ⟨g, n, c, e1, e2⟩ := hv
      obtain ⟨v, h1, h2, h3⟩ := hI.ob id _ (by rw [hS]; exact hσ)
      obtain ⟨g', cap, e3, hc⟩ := own_cell h2 hi
      rw [e1] at h1
      simp only [Option.some.injEq] at h1
      rw [← h1] at e3
      simp only [Value.slice.injEq, Option.some.injEq, Addr.mk.injEq, and_true] at e3
      obtain ⟨rfl, _, _⟩ := e3
      exact ⟨dv vs i, by simp [execOp, e2, run_loadAt_sc hT ht hc], by simp only [LRel]⟩
    · exact h
  | fieldAddr t x j =>
    simp only [opL] at h
    split at h <;> try exact h.elim
    rename_i off hoff
    split at h <;> try exact h.elim
    · rename_i l hx
      split at h <;> try exact h.elim
      rename_i y hy
      refine OpP.pure_ h fun w0 w ι fp s f hI hS ha => ?_
      have hv := ha x (by simp [Op.operands])
      rw [hx] at hv
      simp only [LRel] at hv
      obtain ⟨b, ys, e, hc, hr⟩ := hv
      obtain ⟨u, hu, hru⟩ := LRels.get off y hr hy
      refine ⟨_, by simp only [execOp, e, Sem.run_bind]; rw [hT.fo _ _ _ hoff]; rfl, ?_⟩
      simp only [LRel]
      exact ⟨_, u, rfl, by rw [add_block]; exact (hc off u hu).1, (hc off u hu).2, hru⟩
    · rename_i id off' hx
      refine OpP.pure_ h fun w0 w ι fp s f hI hS ha => ?_
      have hv := ha x (by simp [Op.operands])
      rw [hx] at hv
      simp only [LRel] at hv
      obtain ⟨b, e1, e2⟩ := hv
      refine ⟨_, by simp only [execOp, e2, Sem.run_bind]; rw [hT.fo _ _ _ hoff]; rfl, ?_⟩
      simp only [LRel, add_add]
      exact ⟨b, e1, rfl⟩
  | indexAddr t x i =>
    simp only [opL] at h
    split at h <;> try exact h
    rename_i e k i' ht hi
    have iv : ∀ {w : World} {ι : Nat → Option Value} {F : Nat → Prop} {f : Nat → Value}, LRel ι F w (ρ i) (evV f i) → evV f i = .int k i' := by
      intro w ι F f hv
      rw [hi] at hv
      simpa only [LRel] using hv
    have run : ∀ {f w ad n c}, evV f x = .slice (some ad) n c → evV f i = .int k i' → 0 ≤ i' → i' < (n : Int) → (execOp (evV f) ⟨dst, .indexAddr t x i, type, pos, after, guard⟩).run P w = .ok (.value (.pointer (some (ad.add i'.toNat)))) w := by
      intro f w ad n c e1 e2 h0 h1
      obtain ⟨hu, hs⟩ := hT.sl t e ht w
      simp [execOp, e1, e2, Instr.indexAt, asIntOf, hu, hs, h0, h1]
    split at h
    · rename_i vs hx
      obtain ⟨h0, h1, hK⟩ := h
      refine OpP.pure_ hK fun w0 w ι fp s f hI hS ha => ?_
      have hv := ha x (by simp [Op.operands])
      rw [hx] at hv
      simp only [LRel, RS] at hv
      obtain ⟨A, c, e1, hlc, hR⟩ := hv
      obtain ⟨ad, rfl, hF, hc⟩ := hR.2 (by omega)
      refine ⟨_, run e1 (iv (ha i (by simp [Op.operands]))) h0 h1, ?_⟩
      simp only [LRel]
      exact ⟨_, _, rfl, by rw [add_block]; exact hF, hc i'.toNat _ (dv_get (by omega)), rfl⟩
    · rename_i vs hx
      obtain ⟨h0, h1, hK⟩ := h
      refine OpP.pure_ hK fun w0 w ι fp s f hI hS ha => ?_
      have hv := ha x (by simp [Op.operands])
      rw [hx] at hv
      simp only [LRel, RS] at hv
      obtain ⟨hs, ⟨A, c, e1, hlc, hR⟩, hrow⟩ := hv
      have hget : ∀ {t : List (List Value)} {hs : List Value} (j : Nat), RRow (FF σ fp) w t hs → j < t.length → ∃ u, hs[j]? = some u ∧ RS (FF σ fp) w (t.getD j []) u := by
        intro t
        induction t with
        | nil => intro hs j _ hj; simp at hj
        | cons r t ih =>
          rintro hs j ⟨u, hs', rfl, h1, h2⟩ hj
          cases j with
          | zero => exact ⟨u, rfl, h1⟩
          | succ j => simpa using ih j h2 (by simpa using hj)
      have hlen : ∀ {t : List (List Value)} {hs : List Value}, RRow (FF σ fp) w t hs → hs.length = t.length := by
        intro t
        induction t with
        | nil => intro hs h; rw [show hs = [] from h]; rfl
        | cons r t ih => rintro hs ⟨u, hs', rfl, h1, h2⟩; simp [ih h2]
      have hl := hlen hrow
      obtain ⟨ad, rfl, hF, hc⟩ := hR.2 (by omega)
      obtain ⟨u, hu, hru⟩ := hget i'.toNat hrow (by omega)
      refine ⟨_, run e1 (iv (ha i (by simp [Op.operands]))) h0 (by omega), ?_⟩
      simp only [LRel]
      exact ⟨_, u, rfl, by rw [add_block]; exact hF, hc i'.toNat _ hu, hru⟩
    · rename_i vs hx
      obtain ⟨h0, h1, hK⟩ := h
      refine OpP.pure_ hK fun w0 w ι fp s f hI hS ha => ?_
      have hv := ha x (by simp [Op.operands])
      rw [hx] at hv
      simp only [LRel, RS] at hv
      obtain ⟨hs, ⟨A, c, e1, hlc, hR⟩, hrow⟩ := hv
      have hl := hrow.length
      obtain ⟨ad, rfl, hF, hc⟩ := hR.2 (by omega)
      obtain ⟨u, hu, hru⟩ := LRels.get i'.toNat (vs.getD i'.toNat .junk) hrow (by rw [List.getD_eq_getElem?_getD, List.getElem?_eq_getElem (by omega)]; rfl)
      refine ⟨_, run e1 (iv (ha i (by simp [Op.operands]))) h0 (by omega), ?_⟩
      simp only [LRel]
      exact ⟨_, u, rfl, by rw [add_block]; exact hF, hc i'.toNat _ hu, hru⟩
    · rename_i id hx
      split at h <;> try exact h.elim
      · rename_i e' vs hσ
        obtain ⟨h0, h1, hK⟩ := h
        refine OpP.pure_ hK fun w0 w ι fp s f hI hS ha => ?_
        have hv := ha x (by simp [Op.operands])
        rw [hx] at hv
        simp only [LRel] at hv
        obtain ⟨v, g1, g2, g3⟩ := hI.ob id _ (by rw [hS]; exact hσ)
        rw [hv] at g1
        simp only [Option.some.injEq] at g1
        obtain ⟨g', cap, e3, hc⟩ := own_cell g2 (i := i'.toNat) (by omega)
        rw [← g1] at e3
        refine ⟨_, run e3 (iv (ha i (by simp [Op.operands]))) h0 h1, ?_⟩
        simp only [LRel, add0]
        exact ⟨g', _, _, by rw [hv, e3], rfl⟩
      · rename_i e' e'' vs hσ
        obtain ⟨h0, h1, hK⟩ := h
        refine OpP.pure_ hK fun w0 w ι fp s f hI hS ha => ?_
        have hv := ha x (by simp [Op.operands])
        rw [hx] at hv
        simp only [LRel] at hv
        obtain ⟨v, hs, g1, g2, g3, g4, g5⟩ := hI.ob id _ (by rw [hS]; exact hσ)
        rw [hv] at g1
        simp only [Option.some.injEq] at g1
        have hl : ∀ {t : List (List Value)} {hs : List Value} {q : Nat → Prop}, OwnAll w 0 e'' q t hs → hs.length = t.length := by
          intro t
          induction t with
          | nil => intro hs q h; rw [show hs = [] from h]; rfl
          | cons r t ih => rintro hs q ⟨u, hs', rfl, h1, h2, h3⟩; simp [ih h3]
        have hlen := hl g4
        obtain ⟨g', cap, e3, hc⟩ := own_cell g2 (i := i'.toNat) (by omega)
        rw [← g1] at e3
        refine ⟨_, run e3 (iv (ha i (by simp [Op.operands]))) h0 (by omega), ?_⟩
        simp only [LRel, add0]
        exact ⟨g', _, _, by rw [hv, e3], rfl⟩
    · exact h
  | makeFunc fn first caps =>
    cases fn with
    | func g =>
      by_cases hfst : first = #[]
      · subst hfst
        simp only [opL, if_true] at h
        refine OpP.pure_ h fun w0 w ι fp s f hI hS ha => ⟨.func (.func g) #[] (caps.toList.map (evV f)).toArray, ?_, ?_⟩
        · simp [execOp, Instr.makeFunc]
          rw [← Array.toList_map]
        · simp only [LRel]
          exact ⟨_, rfl, LRels.map' (fun x hx => ha x (by simp [Op.operands]; simpa using hx))⟩
      · simp only [opL, if_neg hfst] at h
        exact h
    | _ => exact h
  | call c =>
    obtain ⟨callee, args, argTypes⟩ := c
    by_cases hlen : callee = .builtin .len
    · subst hlen
      simp only [opL] at h
      split at h <;> try exact h
      rename_i x t hx0 ht0
      have hx0m : x ∈ args := Array.mem_of_getElem? hx0
      have run : ∀ {f w A n c}, (T.sl t).isSome = true → evV f x = .slice A n c → (execOp (evV f) ⟨dst, .call { callee := .builtin .len, args := args, argTypes := argTypes }, type, pos, after, guard⟩).run P w = .ok (.value (.int .i64 n)) w := by
        intro f w A n c ht e
        obtain ⟨e', he⟩ := Option.isSome_iff_exists.1 ht
        have hu := (hT.sl t e' he w).1
        simp [execOp, resolve, invoke, builtin, Builtin.len_, hx0, ht0, e, hu, goInt]
      split at h
      · rename_i vs hx
        refine OpP.pure_ h.2 fun w0 w ι fp s f hI hS ha => ?_
        have hv := ha x (by simp [Op.operands, Call.operands, hx0m])
        rw [hx] at hv
        simp only [LRel, RS] at hv
        obtain ⟨A, c, e, _⟩ := hv
        exact ⟨_, run h.1 e, by simp only [LRel]⟩
      · rename_i vs hx
        refine OpP.pure_ h.2 fun w0 w ι fp s f hI hS ha => ?_
        have hv := ha x (by simp [Op.operands, Call.operands, hx0m])
        rw [hx] at hv
        simp only [LRel, RS] at hv
        obtain ⟨hs, ⟨A, c, e, _⟩, hr⟩ := hv
        refine ⟨_, run h.1 e, ?_⟩
        have hl : ∀ {t : List (List Value)} {hs : List Value}, RRow (FF σ fp) w t hs → hs.length = t.length := by
          intro t
          induction t with
          | nil => intro hs h; rw [show hs = [] from h]; rfl
          | cons r t ih => rintro hs ⟨u, hs', rfl, h1, h2⟩; simp [ih h2]
        simp only [LRel, hl hr]
      · rename_i vs hx
        refine OpP.pure_ h.2 fun w0 w ι fp s f hI hS ha => ?_
        have hv := ha x (by simp [Op.operands, Call.operands, hx0m])
        rw [hx] at hv
        simp only [LRel, RS] at hv
        obtain ⟨hs, ⟨A, c, e, _⟩, hr⟩ := hv
        exact ⟨_, run h.1 e, by simp only [LRel, hr.length]⟩
      · rename_i id hx
        have own : ∀ {w : World} {ι : Nat → Option Value} {F : Nat → Prop} {f : Nat → Value}, LRel ι F w (ρ x) (evV f x) → ι id = some (evV f x) := by
          intro w ι F f hv
          rw [hx] at hv
          simpa only [LRel] using hv
        split at h <;> try exact h.elim
        · rename_i e' vs hσ
          refine OpP.pure_ h.2 fun w0 w ι fp s f hI hS ha => ?_
          obtain ⟨v, g1, g2, g3⟩ := hI.ob id _ (by rw [hS]; exact hσ)
          rw [own (ha x (by simp [Op.operands, Call.operands, hx0m]))] at g1
          simp only [Option.some.injEq] at g1
          obtain ⟨A, cap, e3⟩ := own_len g2
          exact ⟨_, run h.1 (g1.trans e3), by simp only [LRel]⟩
        · rename_i e' e'' vs hσ
          refine OpP.pure_ h.2 fun w0 w ι fp s f hI hS ha => ?_
          obtain ⟨v, hs, g1, g2, g3, g4, g5⟩ := hI.ob id _ (by rw [hS]; exact hσ)
          rw [own (ha x (by simp [Op.operands, Call.operands, hx0m]))] at g1
          simp only [Option.some.injEq] at g1
          obtain ⟨A, cap, e3⟩ := own_len g2
          have hl : ∀ {t : List (List Value)} {hs : List Value} {q : Nat → Prop}, OwnAll w 0 e'' q t hs → hs.length = t.length := by
            intro t
            induction t with
            | nil => intro hs q h; rw [show hs = [] from h]; rfl
            | cons r t ih => rintro hs q ⟨u, hs', rfl, h1, h2, h3⟩; simp [ih h3]
          exact ⟨_, run h.1 (g1.trans e3), by simp only [LRel, hl g4]⟩
        · rename_i e' vs hσ
          refine OpP.pure_ h.2 fun w0 w ι fp s f hI hS ha => ?_
          obtain ⟨v, ys, g1, g2, g3, g4⟩ := hI.ob id _ (by rw [hS]; exact hσ)
          rw [own (ha x (by simp [Op.operands, Call.operands, hx0m]))] at g1
          simp only [Option.some.injEq] at g1
          obtain ⟨A, cap, e3⟩ := own_len g2
          exact ⟨_, run h.1 (g1.trans e3), by simp only [LRel, g4.length]⟩
      · exact h
    · unfold opL at h
      cases callee with
      | builtin b => cases b <;> first | exact absurd rfl hlen | exact h
      | _ => exact h
  | convert a t x =>
    simp only [opL] at h
    split at h
    · rename_i k0 k n hk0 hk hx
      refine OpP.pure_ h.2 fun w0 w ι fp s f hI hS ha => ⟨.int .i64 n, ?_, by simp only [LRel]⟩
      have hv := ha x (by simp [Op.operands])
      rw [hx] at hv
      simp only [LRel] at hv
      have hc := run_conv (P := P) (k := k) (hT.ik a _ hk0) (hT.ik t _ hk) n w
      simp only [execOp, hv, Sem.run_bind, hc, Result.andThen_ok, wrapI h.1, Sem.run_pure]
    · rename_i k0 k' k n hne hk0 hk hx
      refine OpP.pure_ h fun w0 w ι fp s f hI hS ha => ⟨.int k' (k'.wrap n), ?_, by simp only [LRel]⟩
      have hv := ha x (by simp [Op.operands])
      rw [hx] at hv
      simp only [LRel] at hv
      have hc := run_conv (P := P) (k := k) (hT.ik a _ hk0) (hT.ik t _ hk) n w
      simp only [execOp, hv, Sem.run_bind, hc, Result.andThen_ok, Sem.run_pure]
    · exact h
  | _ => exact h

theorem OpP.opT {o : Oper} {s : St} {K : LV → St → Prop} {r : LV} (h : OpP P o (evL s) s.σ r) (hK : K r s) : OpT P o s K := by
  intro w0 w ι fp f hI
  have H := h w0 w ι fp s f hI rfl fun _ _ => rfl
  generalize (execOp (evV f) o).run P w = R at H ⊢
  cases H with
  | value r' s' v w1 ι1 fp1 hI1 hr hq => obtain ⟨rfl, rfl⟩ := hq; exact .value _ _ v w1 ι1 fp1 hI1 hr hK
  | skip s' w1 ι1 fp1 hI1 hq => obtain ⟨rfl, rfl⟩ := hq; exact .skip _ w1 ι1 fp1 hI1 hK
  | enter g args w1 hc =>
    refine .enter g args w1 (hc.mono ?_)
    rintro e w2 ⟨r', s', v, ι1, fp1, rfl, hI1, hr, rfl, rfl⟩
    exact ⟨_, _, v, ι1, fp1, rfl, hI1, hr, hK⟩

/-- The conditions of an operation; of those that turn an object of the call's own, the operation's own word. -/
def turns : Op → Bool
  | .alloc _ | .store .. | .build .. | .buildSlice .. | .makeSlice .. | .slice .. => true
  | .call c => match c.callee with
    | .builtin .append => true
    | .value _ => true
    | _ => false
  | _ => false
end

def opV (P : Program) (T : TT) (o : Oper) (s : St) (K : LV → St → Prop) : Prop :=
  if turns o.op then OpT P o s K else opL P T o (evL s) s.σ fun r => K r s

theorem opV_sound {P : Program} {T : TT} {s : St} {K : LV → St → Prop} (hT : T.Ok P) {o : Oper} (h : opV P T o s K) : OpT P o s K := by
  unfold opV at h
  split at h
  · exact h
  · obtain ⟨r, hK, hP⟩ := opL_sound hT h
    exact hP.opT hK
end Go.Proofs.Ytdbkiomhoonclaa
