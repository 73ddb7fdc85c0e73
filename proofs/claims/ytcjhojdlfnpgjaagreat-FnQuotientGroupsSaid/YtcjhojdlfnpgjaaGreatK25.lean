/- A calculus of verification conditions over logical values: rows that move within a table of the call's own; Contracts: slices.Sort at twelve elements or fewer. -/
import Derived.Test.YtcjhojdlfnpgjaaGreatK14
import Derived.Test.YtcjhojdlfnpgjaaGreatK18
import Derived.Test.YtcjhojdlfnpgjaaGreatK11
set_option linter.unusedVariables false
set_option linter.unusedSimpArgs false
set_option maxRecDepth 100000
namespace Go.Proofs.YtcjhojdlfnpgjaaGreat
open Go.RowKit
def TwoA (e e' : Nat) (t : List (List Value)) (i k : Nat) (v y : Value) (w : World) (fp : Nat → Prop) : Prop :=
  ∃ hs : List Value, w.ownsRow 0 e 1 v hs.length hs ∧ (∀ q, v.ownBlock = some q → fp q) ∧ OwnAll w 0 e' (fun q => fp q ∧ v.ownBlock ≠ some q) ((t.set i []).set k []) ((hs.set i nilV).set k nilV) ∧ i < hs.length ∧ hs[k]? = some y
theorem two_ok (e e' : Nat) (t : List (List Value)) (i k : Nat) : AOk (TwoA e e' t i k) .junk := by
  rintro v y w fp ⟨hs, h1, h2, h3, h4, h5⟩
  refine ⟨?_, fun w' hw => ⟨hs, own_keeps h1 fun k hk => hw k (h2 k hk), h2, h3.keeps fun k hk => hw k hk.1, h4, h5⟩, fun ι F hF => by simp only [LRel]⟩
  obtain ⟨A, cap, rfl⟩ := own_len h1; rfl
abbrev OC.two (e e' : Nat) (t : List (List Value)) (i k : Nat) (j : Option Nat) : OC := .cust (TwoA e e' t i k) .junk j
def GapA (e e' : Nat) (t : List (List Value)) (i : Nat) (v _y : Value) (w : World) (fp : Nat → Prop) : Prop :=
  ∃ hs : List Value, w.ownsRow 0 e 1 v hs.length hs ∧ (∀ q, v.ownBlock = some q → fp q) ∧ OwnAll w 0 e' (fun q => fp q ∧ v.ownBlock ≠ some q) (t.set i []) (hs.set i nilV) ∧ i < hs.length
theorem gap_ok (e e' : Nat) (t : List (List Value)) (i : Nat) : AOk (GapA e e' t i) .junk := by
  rintro v y w fp ⟨hs, h1, h2, h3, h4⟩
  refine ⟨?_, fun w' hw => ⟨hs, own_keeps h1 fun k hk => hw k (h2 k hk), h2, h3.keeps fun k hk => hw k hk.1, h4⟩, fun ι F hF => by simp only [LRel]⟩
  obtain ⟨A, cap, rfl⟩ := own_len h1; rfl
abbrev OC.gap (e e' : Nat) (t : List (List Value)) (i : Nat) : OC := .cust (GapA e e' t i) .junk none
section
variable {P : Program} {T : TT}
theorem OpT.appendHole (hT : T.Ok P) {o : Oper} {s : St} {K : LV → St → Prop} {t e e' : Nat} {z : Value} {bts : Nat} {a b : Operand} {id j k : Nat} {tt : List (List Value)} {vs : List Value} {e2 : Nat} (ho : o.op = .call { callee := .builtin .append, args := #[a, b], argTypes := #[t, t] })
    (ht : T.el t = some (e, z, bts)) (hb : bts ≤ 64) (ha : evL s a = .own id) (hid : 16 ≤ id) (hσ : s.σ id = some (.rows e e' tt)) (hbv : evL s b = .own j) (hj : s.σ j = some (.rowL e2 [.own k])) (hk : s.σ k = some (.row e' vs)) (hjid : j ≠ id) (hkid : k ≠ id) (hlen : tt.length + 1 ≤ 1099511627776)
    (hK : K (.own id) (s.turn (fun i => i == id) id (.gap e e' (tt ++ [[]]) tt.length))) : OpT P o s K := by
  intro w0 w ι fp f hI
  have hav := hI.ev a
  rw [ha] at hav
  simp only [LRel] at hav
  obtain ⟨v, hs, g1, g2, g3, g4, g5⟩ := hI.ob id _ hσ
  rw [hav] at g1
  simp only [Option.some.injEq] at g1
  subst g1
  have hbv' := hI.ev b
  rw [hbv] at hbv'
  simp only [LRel] at hbv'
  obtain ⟨u, ys, q1, q2, q3, q4⟩ := hI.ob j _ hj
  rw [hbv'] at q1
  simp only [Option.some.injEq] at q1
  subst q1
  simp only [LRels, LRel] at q4
  obtain ⟨y, r, rfl, hy, rfl⟩ := q4
  obtain ⟨y', p1, p2, p3⟩ := hI.ob k _ hk
  rw [hy] at p1
  simp only [Option.some.injEq] at p1
  subst p1
  obtain ⟨A, c, e3, hA⟩ : ∃ A c, evV f b = .slice A [y].length c ∧ (0 < [y].length → ∃ a, A = some a ∧ ∀ j u, [y][j]? = some u → w.cell? (a.add j) = some u) := by
    rcases q2.2 with ⟨_, h0⟩ | ⟨g, cap, cur, e, _⟩
    · simp at h0
    · rw [e] at q2 ⊢
      exact ⟨_, cap, rfl, fun _ => ⟨_, rfl, fun i u hu => q2.cells (g := g) rfl i u hu⟩⟩
  have hone : ∀ u ∈ [y], u.oneCell' = true := by
    intro u hu
    simp only [List.mem_singleton] at hu
    subst hu
    obtain ⟨A, cap, rfl⟩ := own_len p2
    rfl
  obtain ⟨v', w', hr, h2, h3, h4⟩ := run_append_row (P := P) hT ht hb w o.type g2 hA hone (by rw [g4.length]; simpa using hlen) (c := c)
  have hr' : (execOp (evV f) o).run P w = .ok (.value v') w' := by
    simp only [execOp, ho, resolve, invoke, builtin, Sem.run_bind, Sem.run_pure, Result.andThen_ok, List.map_toArray, List.map_cons, List.map_nil, e3, hr]
  rw [hr']
  have hlt := hI.lt
  have hnew : ∀ q, v'.ownBlock = some q → fp id q ∧ v'.ownBlock = (evV f a).ownBlock ∨ q = w.heap.size := by
    intro q hv
    rcases h4 with h4 | h4
    · exact .inl ⟨g3 q (by rw [← h4]; exact hv), h4⟩
    · rw [h4] at hv; simp only [Option.some.injEq] at hv; exact .inr hv.symm
  have hlen4 := g4.length
  refine .value _ _ _ _ _ _ (hI.turn (w' := w') (ι' := updI ι id v') (fun i => i == id) id (.gap e e' (tt ++ [[]]) tt.length) (fun q => fp id q ∨ v'.ownBlock = some q) h3.os h3.tape h3.output h3.size (fun q hq hn => h3.block q hq fun e => hn id _ (.inl rfl) hσ (g3 q e.symm))
    (fun q hq => ?_) (fun i u hi e => ?_) (updI_fix hI hid v') fun _ => ?_) ?_ hK
  · rcases hq with hq | hq
    · exact .inl ⟨id, _, .inl rfl, hσ, hq⟩
    · rcases hnew q hq with h | h
      · exact .inl ⟨id, _, .inl rfl, hσ, h.1⟩
      · exact .inr (by omega)
  · simp only [beq_eq_false_iff_ne, ne_eq] at hi
    simp only [updI, if_neg hi]
    exact e
  · have keep4 : OwnAll w' 0 e' (fun q => fp id q ∧ (evV f a).ownBlock ≠ some q) tt hs := g4.keeps fun q hq => h3.block q (g5 q hq.1).2 fun e => hq.2 e.symm
    refine ⟨v', nilV, updI_self _ _ _, gap_ok _ _ _ _, ⟨hs ++ [y], h2, fun q hq => .inr hq, ?_, ?_⟩, fun q hq => ⟨Nat.zero_le _, ?_⟩, fun j hj => by cases hj⟩
    · have e1 : (tt ++ [[]]).set tt.length [] = tt ++ [[]] := by simp
      have e2 : (hs ++ [y]).set tt.length nilV = hs ++ [.slice none 0 0] := by rw [← hlen4]; simp [nilV]
      rw [e1, e2]
      refine (keep4.append (r := []) (h0 := .slice none 0 0) (World.ownsRow_nil _ _ _ _) fun q hq => by simp [Value.ownBlock] at hq).mono ?_
      rintro q (⟨h, hne⟩ | h)
      · refine ⟨.inl h, fun hv => ?_⟩
        rcases hnew q hv with h' | h'
        · rw [h'.2] at hv; exact hne hv
        · have := (hlt q ⟨id, _, hσ, h⟩).2; omega
      · simp [Value.ownBlock] at h
    · rw [← hlen4]; simp
    · rcases hq with hq | hq
      · exact Nat.lt_of_lt_of_le (hlt q ⟨id, _, hσ, hq⟩).2 h3.size
      · exact (h2.lt q hq).2
  · simp only [LRel]; exact updI_self _ _ _
theorem OpT.openTwo (hT : T.Ok P) {o : Oper} {s : St} {K : LV → St → Prop} {t e e' : Nat} {a : Operand} {id i k : Nat} {tt : List (List Value)} (j : Nat) (ho : o.op = .load t a) (ha : evL s a = .pe id k) (hσ : s.σ id = some (.gap e e' tt i))
    (ht : T.sc t = true) (hik : i ≠ k) (hi : k < tt.length) (hj : 16 ≤ j) (hji : j ≠ id) (hK : K (.own j) ((s.fresh j (.row e' (tt.getD k []))).set id (.two e e' tt i k (some j)))) : OpT P o s K := by
  intro w0 w ι fp f hI
  have hav := hI.ev a
  rw [ha] at hav
  simp only [LRel] at hav
  obtain ⟨g, n, c, e1, e2⟩ := hav
  obtain ⟨v, y0, g1, _, ⟨hs, g2, g3, g4, g6⟩, g5, _⟩ := hI.ob id _ hσ
  rw [e1] at g1
  simp only [Option.some.injEq] at g1
  subst g1
  have hl := g4.length
  simp only [List.length_set] at hl
  obtain ⟨y, hy⟩ : ∃ y, hs[k]? = some y := ⟨hs[k]'(by omega), List.getElem?_eq_getElem _⟩
  have hy2 : (hs.set i nilV)[k]? = some y := by rw [List.getElem?_set, if_neg hik]; exact hy
  have hcell : w.cell? ⟨g, k, none⟩ = some y := by
    have := g2.cells (g := g) rfl k y hy
    rwa [add0] at this
  obtain ⟨k1, k2, k3⟩ := g4.at_ k hy2
  have hp : (tt.set i []).getD k [] = tt.getD k [] := by simp only [List.getD_eq_getElem?_getD, List.getElem?_set, if_neg hik]
  rw [hp] at k1
  have hr : (execOp (evV f) o).run P w = .ok (.value y) w := by
    have := run_loadAt_sc hT ht hcell
    simp [execOp, ho, e2, this]
  rw [hr]
  obtain ⟨ι', fp', h1, h2⟩ := hI.opened (och := .two e e' tt i k (some j)) hσ hj hji k1 (fun k hk => (k2 k hk).1) fun ι' F' ho hy' => ⟨_, y, ho _ _ (fun e => hji e.symm) e1, two_ok _ _ _ _ _, ⟨hs, g2, fun k hk => ⟨g3 k hk, fun e => (k2 k e).2 hk⟩, (g4.hole k hy2).mono fun k hk => ⟨⟨hk.1.1, hk.2⟩, hk.1.2⟩, g6, hy⟩, fun k hk => g5 k hk.1, fun x hx => by cases hx; exact hy'⟩
  exact .value _ _ _ _ ι' fp' h1 (by simp only [LRel]; exact h2) hK
theorem Conv.shutTwo {s : St} {id e e' i k : Nat} {tt : List (List Value)} {vs : List Value} (j : Nat) (hji : j ≠ id) (hik : i ≠ k) (hσ : s.σ id = some (.two e e' tt i k (some j))) (hj : s.σ j = some (.row e' vs)) : Conv s (s.turn (fun q => q == j) id (.gap e e' (tt.set k vs) i)) := by
  intro w0 w ι fp f hI
  obtain ⟨v, y, g1, _, ⟨hs, g2, g3, g4, g6, hy⟩, g5, g7⟩ := hI.ob id _ hσ
  obtain ⟨y', p1, p2, p3⟩ := hI.ob j _ hj
  have := g7 j rfl
  rw [p1] at this
  simp only [Option.some.injEq] at this
  subst this
  have hdis : ∀ k, fp id k → fp j k → False := fun k a b => hji (hI.dis _ _ _ _ k hj hσ b a)
  refine ⟨_, _, hI.turn (w' := w) (ι' := ι) (fun q => q == j) id (.gap e e' (tt.set k vs) i) (fun q => fp id q ∨ fp j q) rfl rfl rfl (Nat.le_refl _) (fun _ _ _ => rfl) (fun q hq => ?_) (fun _ _ _ e => e) hI.fix fun _ => ?_⟩
  · rcases hq with hq | hq
    · exact .inl ⟨id, _, .inl rfl, hσ, hq⟩
    · exact .inl ⟨j, _, .inr (by simp), hj, hq⟩
  · refine ⟨v, nilV, g1, gap_ok _ _ _ _, ⟨hs, g2, fun q hq => .inl (g3 q hq), ?_, g6⟩, fun q hq => ?_, fun j hj => by cases hj⟩
    · have h := g4.set (h0 := y') (r := vs) k p2 fun q hq h => hdis q h.1 ((p3 q).2 hq)
      have e1 : ((tt.set i []).set k []).set k vs = (tt.set k vs).set i [] := by rw [List.set_set, List.set_comm _ _ hik]
      have e2 : ((hs.set i nilV).set k nilV).set k y' = hs.set i nilV := by
        rw [List.set_set, List.set_comm _ _ hik]
        congr 1
        refine List.ext_getElem? fun x => ?_
        rw [List.getElem?_set]
        by_cases e : k = x
        · subst e; rw [if_pos rfl, if_pos (List.getElem?_eq_some_iff.1 hy).1, hy]
        · rw [if_neg e]
      rw [e1, e2] at h
      refine h.mono ?_
      rintro q (h | h)
      · exact ⟨.inl h.1, h.2⟩
      · exact ⟨.inr ((p3 q).2 h), fun e => hdis q (g3 q e) ((p3 q).2 h)⟩
    · rcases hq with hq | hq
      · exact g5 q hq
      · exact p2.lt q ((p3 q).1 hq)
theorem OpT.storeMove (hT : T.Ok P) {o : Oper} {s : St} {K : LV → St → Prop} {t e e' : Nat} {a x : Operand} {id j i k : Nat} {tt : List (List Value)} {vs : List Value} (ho : o.op = .store t a x) (ha : evL s a = .pe id i) (hσ : s.σ id = some (.two e e' tt i k (some j)))
    (ht : T.sc t = true) (hx : evL s x = .own j) (hj : s.σ j = some (.row e' vs)) (hji : j ≠ id) (hik : i ≠ k) (hK : K .junk (s.turn (fun q => q == j) id (.gap e e' (tt.set i vs) k))) : OpT P o s K := by
  intro w0 w ι fp f hI
  have hav := hI.ev a
  rw [ha] at hav
  simp only [LRel] at hav
  obtain ⟨g, n, c, e1, e2⟩ := hav
  have hxv := hI.ev x
  rw [hx] at hxv
  simp only [LRel] at hxv
  obtain ⟨v, y0, g1, _, ⟨hs, g2, g3, g4, g6, hy0⟩, g5, g7⟩ := hI.ob id _ hσ
  rw [e1] at g1
  simp only [Option.some.injEq] at g1
  subst g1
  obtain ⟨y, p1, p2, p3⟩ := hI.ob j _ hj
  rw [hxv] at p1
  simp only [Option.some.injEq] at p1
  have hlen := g4.length
  simp only [List.length_set] at hlen
  obtain ⟨g', cap, e3, hc⟩ := own_cell g2 (i := i) g6
  simp only [Value.slice.injEq, Option.some.injEq, Addr.mk.injEq, and_true] at e3
  obtain ⟨rfl, rfl, rfl⟩ := e3
  have h1 : y.oneCell' = true := by obtain ⟨A, cap, rfl⟩ := own_len p2; rfl
  have hfr := g2.frozenAt i
  have hr : (execOp (evV f) o).run P w = .ok .skip (w.setCell ⟨g, i, none⟩ y) := by
    simp [execOp, ho, e2, p1, Instr.storeAt, Instr.sureAddr, storeVar, hT.s1 t ht w, one_cells h1, storeCells, run_store P w _ y _ h1, hc, hfr, add0, Addr.add]
  rw [hr]
  obtain ⟨q1, q2⟩ := g2.stored i y
  have hdis : ∀ q, fp id q → fp j q → False := fun q h1 h2 => hji (hI.dis _ _ _ _ q hj hσ h2 h1)
  have hlt := hI.lt
  refine .skip _ _ _ _ (hI.turn (w' := w.setCell ⟨g, i, none⟩ y) (ι' := ι) (fun i => i == j) id (.gap e e' (tt.set i vs) k) (fun q => fp id q ∨ fp j q) q2.os q2.tape q2.output q2.size (fun q hq hn => q2.block q hq fun e => hn id _ (.inl rfl) hσ (g3 q (by rw [e]; rfl)))
    (fun q hq => ?_) (fun _ _ _ e => e) hI.fix fun _ => ?_) hK
  · rcases hq with hq | hq
    · exact .inl ⟨id, _, .inl rfl, hσ, hq⟩
    · exact .inl ⟨j, _, .inr (by simp), hj, hq⟩
  · have keep4 : OwnAll (w.setCell ⟨g, i, none⟩ y) 0 e' (fun q => fp id q ∧ (Value.slice (some ⟨g, 0, none⟩) hs.length c).ownBlock ≠ some q) ((tt.set i []).set k []) ((hs.set i nilV).set k nilV) := g4.keeps fun q hq => q2.block q (g5 q hq.1).2 fun e => hq.2 e.symm
    have keepy : (w.setCell ⟨g, i, none⟩ y).ownsRow 0 e' 1 y vs.length vs := own_keeps p2 fun q hq => q2.block q (p2.lt q hq).2 fun e => hdis q (g3 q e.symm) ((p3 q).2 hq)
    have hk0 : k < hs.length := (List.getElem?_eq_some_iff.1 hy0).1
    refine ⟨_, nilV, e1, gap_ok _ _ _ _, ⟨hs.set i y, by rw [List.length_set]; exact q1, fun q hq => .inl (g3 q hq), ?_, by rw [List.length_set]; exact hk0⟩, fun q hq => ⟨Nat.zero_le _, ?_⟩, fun j hj => by cases hj⟩
    · have h := keep4.set i keepy fun q hq h => hdis q h.1 ((p3 q).2 hq)
      have t1 : ((tt.set i []).set k []).set i vs = (tt.set i vs).set k [] := by rw [List.set_comm _ _ (Ne.symm hik), List.set_set]
      have t2 : ((hs.set i nilV).set k nilV).set i y = (hs.set i y).set k nilV := by rw [List.set_comm _ _ (Ne.symm hik), List.set_set]
      rw [t1, t2] at h
      refine h.mono ?_
      rintro q (⟨h, hne⟩ | h)
      · exact ⟨.inl h, hne⟩
      · exact ⟨.inr ((p3 q).2 h), fun e => hdis q (g3 q e) ((p3 q).2 h)⟩
    · rcases hq with hq | hq
      · exact Nat.lt_of_lt_of_le (hlt q ⟨id, _, hσ, hq⟩).2 q2.size
      · exact Nat.lt_of_lt_of_le (hlt q ⟨j, _, hj, hq⟩).2 q2.size
theorem OpT.storeFill (hT : T.Ok P) {o : Oper} {s : St} {K : LV → St → Prop} {t e e' : Nat} {a x : Operand} {id k i : Nat} {tt : List (List Value)} {vs : List Value} (ho : o.op = .store t a x) (ha : evL s a = .pe id i) (hσ : s.σ id = some (.gap e e' tt i))
    (ht : T.sc t = true) (hx : evL s x = .own k) (hk : s.σ k = some (.row e' vs)) (hkid : k ≠ id) (hK : K .junk (s.turn (fun i => i == k) id (.rows e e' (tt.set i vs)))) : OpT P o s K := by
  intro w0 w ι fp f hI
  have hav := hI.ev a
  rw [ha] at hav
  simp only [LRel] at hav
  obtain ⟨g, n, c, e1, e2⟩ := hav
  have hxv := hI.ev x
  rw [hx] at hxv
  simp only [LRel] at hxv
  obtain ⟨v, y0, g1, _, ⟨hs, g2, g3, g4, g6⟩, g5, _⟩ := hI.ob id _ hσ
  rw [e1] at g1
  simp only [Option.some.injEq] at g1
  subst g1
  obtain ⟨y, p1, p2, p3⟩ := hI.ob k _ hk
  rw [hxv] at p1
  simp only [Option.some.injEq] at p1
  obtain ⟨g', cap, e3, hc⟩ := own_cell g2 (i := i) g6
  simp only [Value.slice.injEq, Option.some.injEq, Addr.mk.injEq, and_true] at e3
  obtain ⟨rfl, rfl, rfl⟩ := e3
  have h1 : y.oneCell' = true := by obtain ⟨A, cap, rfl⟩ := own_len p2; rfl
  have hfr := g2.frozenAt i
  have hr : (execOp (evV f) o).run P w = .ok .skip (w.setCell ⟨g, i, none⟩ y) := by
    simp [execOp, ho, e2, p1, Instr.storeAt, Instr.sureAddr, storeVar, hT.s1 t ht w, one_cells h1, storeCells, run_store P w _ y _ h1, hc, hfr, add0, Addr.add]
  rw [hr]
  obtain ⟨q1, q2⟩ := g2.stored i y
  have hdis : ∀ q, fp id q → fp k q → False := fun q h1 h2 => hkid (hI.dis _ _ _ _ q hk hσ h2 h1)
  have hlt := hI.lt
  refine .skip _ _ _ _ (hI.turn (w' := w.setCell ⟨g, i, none⟩ y) (ι' := ι) (fun i => i == k) id (.rows e e' (tt.set i vs)) (fun q => fp id q ∨ fp k q) q2.os q2.tape q2.output q2.size (fun q hq hn => q2.block q hq fun e => hn id _ (.inl rfl) hσ (g3 q (by rw [e]; rfl)))
    (fun q hq => ?_) (fun _ _ _ e => e) hI.fix fun _ => ?_) hK
  · rcases hq with hq | hq
    · exact .inl ⟨id, _, .inl rfl, hσ, hq⟩
    · exact .inl ⟨k, _, .inr (by simp), hk, hq⟩
  · have keep4 : OwnAll (w.setCell ⟨g, i, none⟩ y) 0 e' (fun q => fp id q ∧ (Value.slice (some ⟨g, 0, none⟩) hs.length c).ownBlock ≠ some q) (tt.set i []) (hs.set i nilV) := g4.keeps fun q hq => q2.block q (g5 q hq.1).2 fun e => hq.2 e.symm
    have keepy : (w.setCell ⟨g, i, none⟩ y).ownsRow 0 e' 1 y vs.length vs := own_keeps p2 fun q hq => q2.block q (p2.lt q hq).2 fun e => hdis q (g3 q e.symm) ((p3 q).2 hq)
    refine ⟨_, hs.set i y, e1, by rw [List.length_set]; exact q1, fun q hq => .inl (g3 q hq), ?_, fun q hq => ⟨Nat.zero_le _, ?_⟩⟩
    · have h := keep4.set i keepy fun q hq h => hdis q h.1 ((p3 q).2 hq)
      simp only [List.set_set] at h
      refine h.mono ?_
      rintro q (⟨h, hne⟩ | h)
      · exact ⟨.inl h, hne⟩
      · exact ⟨.inr ((p3 q).2 h), fun e => hdis q (g3 q e) ((p3 q).2 h)⟩
    · rcases hq with hq | hq
      · exact Nat.lt_of_lt_of_le (hlt q ⟨id, _, hσ, hq⟩).2 q2.size
      · exact Nat.lt_of_lt_of_le (hlt q ⟨k, _, hk, hq⟩).2 q2.size
theorem OpP.indexTwo (hT : T.Ok P) {o : Oper} {ρ : Operand → LV} {σ : Nat → Option OC} {t e e' id i m : Nat} {z : Value} {bts : Nat} {x y : Operand} {q : List (List Value)} {jo : Option Nat} {k : IntKind} {jj : Int} (ho : o.op = .indexAddr t x y) (ht : T.el t = some (e, z, bts)) (hx : ρ x = .own id) (hy : ρ y = .v (.int k jj)) (hσ : σ id = some (.two e e' q i m jo)) (h0 : 0 ≤ jj) (hjj : jj < q.length) : OpP P o ρ σ (.pe id jj.toNat) := by
  obtain ⟨j, rfl⟩ := Int.eq_ofNat_of_zero_le h0
  have hj : j < q.length := by omega
  simp only [Int.toNat_natCast]
  intro w0 w ι fp s f hI hS hρ
  obtain ⟨hu, ti, hi, hz, hsz, hby, hzc⟩ := hT.el t e z bts ht
  have hv := hI.ev x
  rw [hρ x (by simp [ho, Op.operands]), hx] at hv
  have hv2 := hI.ev y
  rw [hρ y (by simp [ho, Op.operands]), hy] at hv2
  simp only [LRel] at hv hv2
  obtain ⟨v, y0, g1, _, ⟨hs, g2, g3, g4, g6, _⟩, _⟩ := hI.ob id _ (by rw [hS]; exact hσ)
  have hl := g4.length
  simp only [List.length_set] at hl
  rcases g2.2 with ⟨_, hn⟩ | ⟨g, cap, cur, rfl, _⟩
  · omega
  have hvx := hv
  rw [g1] at hv
  simp only [Option.some.injEq] at hv
  have hue : P.underlying t = some (.slice (P.elem t)) := by
    have : P.elem t = e := by simp [Program.elem, hu]
    rw [this]; exact hu
  have hes : P.elem t = e := by simp [Program.elem, hu]
  have hszr : (sizeOf e).run P w = .ok 1 w := by simp [sizeOf, typeInfo, hi, hsz]
  have hr : (execOp (evV f) o).run P w = .ok (.value (.pointer (some ⟨g, j, none⟩))) w := by
    simp only [execOp, ho, ← hv, hv2, Sem.run_bind]
    rw [run_indexAt_slice _ _ _ _ _ _ _ hue, if_pos ⟨by omega, by omega⟩, hes, hszr]
    simp [add0]
  rw [hr]
  refine .value _ s _ w ι fp hI ?_ ⟨rfl, rfl⟩
  simp only [LRel]
  exact ⟨g, _, cap, g1, rfl⟩
theorem OpP.indexGap (hT : T.Ok P) {o : Oper} {ρ : Operand → LV} {σ : Nat → Option OC} {t e e' id i : Nat} {z : Value} {bts : Nat} {x y : Operand} {q : List (List Value)} {k : IntKind} {jj : Int} (ho : o.op = .indexAddr t x y) (ht : T.el t = some (e, z, bts)) (hx : ρ x = .own id) (hy : ρ y = .v (.int k jj)) (hσ : σ id = some (.gap e e' q i)) (h0 : 0 ≤ jj) (hjj : jj < q.length) : OpP P o ρ σ (.pe id jj.toNat) := by
  obtain ⟨j, rfl⟩ := Int.eq_ofNat_of_zero_le h0
  have hj : j < q.length := by omega
  simp only [Int.toNat_natCast]
  intro w0 w ι fp s f hI hS hρ
  obtain ⟨hu, ti, hi, hz, hsz, hby, hzc⟩ := hT.el t e z bts ht
  have hv := hI.ev x
  rw [hρ x (by simp [ho, Op.operands]), hx] at hv
  have hv2 := hI.ev y
  rw [hρ y (by simp [ho, Op.operands]), hy] at hv2
  simp only [LRel] at hv hv2
  obtain ⟨v, y0, g1, _, ⟨hs, g2, g3, g4, g6⟩, _⟩ := hI.ob id _ (by rw [hS]; exact hσ)
  have hl := g4.length
  simp only [List.length_set] at hl
  rcases g2.2 with ⟨_, hn⟩ | ⟨g, cap, cur, rfl, _⟩
  · omega
  have hvx := hv
  rw [g1] at hv
  simp only [Option.some.injEq] at hv
  have hue : P.underlying t = some (.slice (P.elem t)) := by
    have : P.elem t = e := by simp [Program.elem, hu]
    rw [this]; exact hu
  have hes : P.elem t = e := by simp [Program.elem, hu]
  have hszr : (sizeOf e).run P w = .ok 1 w := by simp [sizeOf, typeInfo, hi, hsz]
  have hr : (execOp (evV f) o).run P w = .ok (.value (.pointer (some ⟨g, j, none⟩))) w := by
    simp only [execOp, ho, ← hv, hv2, Sem.run_bind]
    rw [run_indexAt_slice _ _ _ _ _ _ _ hue, if_pos ⟨by omega, by omega⟩, hes, hszr]
    simp [add0]
  rw [hr]
  refine .value _ s _ w ι fp hI ?_ ⟨rfl, rfl⟩
  simp only [LRel]
  exact ⟨g, _, cap, g1, rfl⟩
section
variable {n : Nat} {all : Array Oper} {o : Oper} {l : List Oper} {s : St} {k : Kont}
theorem HereO.appendHole (hT : T.Ok P) {t e e' : Nat} {z : Value} {bts : Nat} {a b : Operand} {id j i : Nat} {tt : List (List Value)} {vs : List Value} {e2 : Nat} (ho : o.op = .call { callee := .builtin .append, args := #[a, b], argTypes := #[t, t] })
    (ht : T.el t = some (e, z, bts)) (hb : bts ≤ 64) (ha : evL s a = .own id) (hid : 16 ≤ id) (hσ : s.σ id = some (.rows e e' tt)) (hbv : evL s b = .own j) (hj : s.σ j = some (.rowL e2 [.own i])) (hi : s.σ i = some (.row e' vs)) (hjid : j ≠ id) (hkid : i ≠ id) (hlen : tt.length + 1 ≤ 1099511627776)
    (h : OpsV P T n all l ((s.turn (fun q => q == id) id (.gap e e' (tt ++ [[]]) tt.length)).put o.dst (.own id)) k) : HereO P T n all o l s k :=
  HereO.of hT h fun hK => OpT.appendHole hT ho ht hb ha hid hσ hbv hj hi hjid hkid hlen hK
theorem HereO.openTwo (hT : T.Ok P) {t e e' : Nat} {a : Operand} {id i m : Nat} {tt : List (List Value)} (j : Nat) (ho : o.op = .load t a) (ha : evL s a = .pe id m) (hσ : s.σ id = some (.gap e e' tt i))
    (ht : T.sc t = true) (hik : i ≠ m) (hi : m < tt.length) (hj : 16 ≤ j) (hji : j ≠ id) (h : OpsV P T n all l (((s.fresh j (.row e' (tt.getD m []))).set id (.two e e' tt i m (some j))).put o.dst (.own j)) k) : HereO P T n all o l s k :=
  HereO.of hT h fun hK => OpT.openTwo hT j ho ha hσ ht hik hi hj hji hK
theorem HereO.storeMove (hT : T.Ok P) {t e e' : Nat} {a x : Operand} {id j i m : Nat} {tt : List (List Value)} {vs : List Value} (ho : o.op = .store t a x) (ha : evL s a = .pe id i) (hσ : s.σ id = some (.two e e' tt i m (some j)))
    (ht : T.sc t = true) (hx : evL s x = .own j) (hj : s.σ j = some (.row e' vs)) (hji : j ≠ id) (hik : i ≠ m) (h : OpsV P T n all l ((s.turn (fun q => q == j) id (.gap e e' (tt.set i vs) m)).put o.dst .junk) k) : HereO P T n all o l s k :=
  HereO.of hT h fun hK => OpT.storeMove hT ho ha hσ ht hx hj hji hik hK
theorem HereO.storeFill (hT : T.Ok P) {t e e' : Nat} {a x : Operand} {id j i : Nat} {tt : List (List Value)} {vs : List Value} (ho : o.op = .store t a x) (ha : evL s a = .pe id i) (hσ : s.σ id = some (.gap e e' tt i))
    (ht : T.sc t = true) (hx : evL s x = .own j) (hj : s.σ j = some (.row e' vs)) (hji : j ≠ id) (h : OpsV P T n all l ((s.turn (fun q => q == j) id (.rows e e' (tt.set i vs))).put o.dst .junk) k) : HereO P T n all o l s k :=
  HereO.of hT h fun hK => OpT.storeFill hT ho ha hσ ht hx hj hji hK
end
end
end Go.Proofs.YtcjhojdlfnpgjaaGreat
namespace Go.Proofs.YtcjhojdlfnpgjaaGreat
open Go.RowKit
theorem cmpNaN_spec (x : Int) : Spec Tryz.prog 133 [.v (.int .i64 x)] (.v (.bool false)) [] := by
  refine Spec.of_code T_ok Tryz.func133 rfl Tryz.ntmps133 Tryz.call133 (Nat.le_of_ble_eq_true rfl) rfl rfl (CodeV_sound T_ok (by kernel_rfl) rfl ?_)
  exact WW trivial
theorem cmpLess_spec (x y : Int) : Spec Tryz.prog 118 [.v (.int .i64 x), .v (.int .i64 y)] (.v (.bool (decide (x < y)))) [] := by
  refine Spec.of_code T_ok Tryz.func118 rfl Tryz.ntmps118 Tryz.call118 (Nat.le_of_ble_eq_true rfl) rfl rfl (CodeV_sound T_ok (by kernel_rfl) rfl ?_)
  refine WW ?_
  refine HereO.call T_ok rfl rfl (cmpNaN_spec x) SA rfl ?_
  exact WW trivial
def sortI (xs : List Int) : List Int := xs.mergeSort fun x y => decide (x ≤ y)
theorem sortI_perm (xs : List Int) : (sortI xs).Perm xs := List.mergeSort_perm _ _
theorem sortI_sorted (xs : List Int) : (sortI xs).Pairwise (· ≤ ·) := by
  have := List.pairwise_mergeSort (le := fun (x y : Int) => decide (x ≤ y)) (fun a b c h1 h2 => by simp at h1 h2 ⊢; omega) (fun a b => by simp; omega) xs
  exact this.imp (by intro a b h; simpa using h)
theorem sorted_eq : ∀ {l m : List Int}, l.Pairwise (· ≤ ·) → m.Pairwise (· ≤ ·) → l.Perm m → l = m
  | [], m, _, _, h => (List.nil_perm.1 h).symm
  | x :: l, [], _, _, h => by have := h.length_eq; simp at this
  | x :: l, y :: m, h1, h2, h => by
    rw [List.pairwise_cons] at h1 h2
    have e : x = y := by
      have a1 : x ∈ y :: m := h.mem_iff.1 (by simp)
      have a2 : y ∈ x :: l := h.mem_iff.2 (by simp)
      rcases List.mem_cons.1 a1 with q | q
      · exact q
      · rcases List.mem_cons.1 a2 with q2 | q2
        · exact q2.symm
        · have := h2.1 x q; have := h1.1 y q2; omega
    subst e
    rw [sorted_eq h1.2 h2.2 (List.Perm.cons_inv h)]
theorem sortI_eq {l xs : List Int} (h1 : l.Pairwise (· ≤ ·)) (h2 : l.Perm xs) : l = sortI xs := sorted_eq h1 (sortI_sorted xs) (h2.trans (sortI_perm xs).symm)
def swapL (l : List Int) (j : Nat) : List Int := (l.set j (l.getD (j - 1) 0)).set (j - 1) (l.getD j 0)
theorem swapL_perm {l : List Int} {j : Nat} (h0 : 0 < j) (h : j < l.length) : (swapL l j).Perm l := by
  have := List.set_set_perm (i := j) (j := j - 1) h (by omega)
  unfold swapL
  rw [List.getD_eq_getElem?_getD, List.getD_eq_getElem?_getD, List.getElem?_eq_getElem h, List.getElem?_eq_getElem (show j - 1 < l.length by omega)]
  exact this
theorem swapL_get {l : List Int} {j : Nat} (h0 : 0 < j) (h : j < l.length) (x : Nat) : (swapL l j).getD x 0 = if x = j then l.getD (j - 1) 0 else if x = j - 1 then l.getD j 0 else l.getD x 0 := by
  unfold swapL
  rw [set_getD, set_getD, List.length_set]
  by_cases e1 : x = j
  · subst e1; rw [if_neg (by omega), if_pos ⟨rfl, h⟩, if_pos rfl]
  · rw [if_neg e1]
    by_cases e2 : x = j - 1
    · subst e2; rw [if_pos ⟨rfl, by omega⟩, if_pos rfl]
    · rw [if_neg e2, if_neg (by omega), if_neg (by omega)]
def SortTo (l : List Int) (i : Nat) : Prop := ∀ a b, a < b → b < i → l.getD a 0 ≤ l.getD b 0
def SortBut (l : List Int) (i j : Nat) : Prop := ∀ a b, a < b → b ≤ i → b ≠ j → l.getD a 0 ≤ l.getD b 0
theorem sortBut_start {l : List Int} {i : Nat} (h : SortTo l i) : SortBut l i i := fun a b h1 h2 h3 => h a b h1 (by omega)
theorem sortBut_end {l : List Int} {i j : Nat} (hj : j ≤ i) (h : SortBut l i j) (he : 0 < j → l.getD (j - 1) 0 ≤ l.getD j 0) : SortTo l (i + 1) := fun a b h1 h2 => by
  by_cases e : b = j
  · subst e
    have h3 := he (by omega)
    by_cases e2 : a = b - 1
    · rw [e2]; exact h3
    · have := h a (b - 1) (by omega) (by omega) (by omega); omega
  · exact h a b h1 (by omega) e
theorem sortBut_step {l : List Int} {i j : Nat} (h0 : 0 < j) (hj : j ≤ i) (hi : i < l.length) (h : SortBut l i j) (hlt : l.getD j 0 < l.getD (j - 1) 0) : SortBut (swapL l j) i (j - 1) := fun a b h1 h2 h3 => by
  rw [swapL_get h0 (by omega), swapL_get h0 (by omega)]
  by_cases eb : b = j
  · rw [if_pos eb]
    by_cases ea : a = j - 1
    · rw [if_neg (by omega), if_pos ea]; omega
    · rw [if_neg (by omega), if_neg ea]; exact h a (j - 1) (by omega) (by omega) (by omega)
  · rw [if_neg eb, if_neg h3]
    have hb := h
    by_cases ea : a = j
    · rw [if_pos ea]; have := h (j - 1) b (by omega) h2 eb; exact this
    · rw [if_neg ea]
      by_cases ea2 : a = j - 1
      · rw [if_pos ea2]
        by_cases q : j < b
        · exact h j b q h2 eb
        · omega
      · rw [if_neg ea2]; exact h a b h1 h2 eb
theorem sortTo_all {l : List Int} (h : SortTo l l.length) : l.Pairwise (· ≤ ·) := by
  rw [List.pairwise_iff_getElem]
  intro i j hi hj hij
  have := h i j hij hj
  rwa [List.getD_eq_getElem?_getD, List.getD_eq_getElem?_getD, List.getElem?_eq_getElem hi, List.getElem?_eq_getElem hj, Option.getD_some, Option.getD_some] at this
theorem insertion_spec (xs : List Int) (h12 : xs.length ≤ 12) : SpecM Tryz.prog 112 [.own 0, .v (.int .i64 0), .v (.int .i64 xs.length)] [.row 2 (I xs)] (.tup []) [some (.row 2 (I (sortI xs)))] := by
  refine SpecM.of_code' T_ok Tryz.func112 rfl Tryz.ntmps112 Tryz.call112 (Nat.le_of_ble_eq_true rfl) (Nat.le_of_ble_eq_true rfl) (Nat.le_of_ble_eq_true rfl) rfl rfl (CodeV_sound T_ok (by kernel_rfl) rfl ?_)
  refine WW ?_
  refine ⟨by unfold InR; omega, ?_⟩
  refine Here.loopV T_ok (κ := Nat × List Int) (fun g => 1 ≤ g.1 ∧ (g.1 ≤ xs.length ∨ g.1 = 1) ∧ g.2.Perm xs ∧ SortTo g.2 g.1) (fun g => xs.length - g.1) (fun g => [(0, .own 0), (1, .v (.int .i64 0)), (2, .v (.int .i64 xs.length)), (6, .v (.int .i64 g.1))]) (fun g => [(0, .row 2 (I g.2))]) (1, xs) ⟨by simp, .inr rfl, List.Perm.refl _, fun a b h1 h2 => by omega⟩ (by simp only [go_sem, Nat.reduceMul, Nat.reduceLeDiff, Nat.reduceLT, reduceIte, reduceCtorEq, Nat.reduceEqDiff, Nat.reduceSub, Nat.reduceAdd]; simp) SW ?_
  rintro ⟨i, L⟩ ⟨hi1, hi, hp, hs⟩
  dsimp only at hi1 hi hp hs
  have hlen := hp.length_eq
  refine WW ?_
  refine ⟨fun h2 => ?_, fun h2 => ?_⟩
  · refine Here.loopV T_ok (κ := Nat × List Int) (fun g => g.1 ≤ i ∧ g.2.Perm xs ∧ SortBut g.2 i g.1) (fun g => g.1) (fun g => [(0, .own 0), (1, .v (.int .i64 0)), (2, .v (.int .i64 xs.length)), (6, .v (.int .i64 i)), (7, .v (.int .i64 g.1))]) (fun g => [(0, .row 2 (I g.2))]) (i, L) ⟨Nat.le_refl _, hp, sortBut_start hs⟩ SW SW ?_
    rintro ⟨j, M⟩ ⟨hj, hpM, hsM⟩
    dsimp only at hj hpM hsM
    have hlM := hpM.length_eq
    refine WW ?_
    have ej : ((j : Int) - 1).toNat = j - 1 := by omega
    refine Here.draw T_ok mixed_ok (by kernel_rfl) ?_
    refine WW ?_
    rw [ej]
    refine ⟨fun h3 => ?_, fun h3 => ?_⟩
    · refine ⟨⟨by omega, by omega⟩, by omega, by unfold InR; omega, ⟨by omega, by omega⟩, by omega, ?_⟩
      refine ⟨_, OpP.call' rfl rfl (cmpLess_spec (M.getD j 0) (M.getD (j - 1) 0)) SA rfl, ?_⟩
      refine WW ?_
      refine ⟨fun h4 => ?_, fun h4 => ?_⟩
      · refine Here.drawC T_ok [.p, .p, .f, .f, .f, .p, .p, .p, .p, .p, .p, .p, .p, .p, .p, .c, .p, .c] [0, 7] [] [] (Nat.le_of_ble_eq_true rfl) mixed_ok (by kernel_rfl) (by kernel_rfl) (by kernel_rfl) (by simp only [List.mem_cons, List.not_mem_nil, or_false, forall_eq_or_imp, forall_eq, go_sem, Nat.reduceMul, Nat.reduceLeDiff, Nat.reduceLT, reduceIte, reduceCtorEq, Nat.reduceEqDiff, Nat.reduceSub, Nat.reduceAdd] <;> first | exact calm_ptr_ne rfl | exact calm_ne rfl | exact ⟨calm_ptr_ne rfl, calm_ptr_ne rfl⟩ | exact ⟨calm_ptr_ne rfl, calm_ptr_ne rfl, calm_ptr_ne rfl⟩ | exact ⟨calm_ptr_ne rfl, calm_knot (by simp only [go_sem, Nat.reduceMul, Nat.reduceLeDiff, Nat.reduceLT, reduceIte, reduceCtorEq, Nat.reduceEqDiff, Nat.reduceSub, Nat.reduceAdd] <;> exact calm_ptr_ne rfl)⟩ | ((repeat' apply And.intro) <;> first | exact calm_ptr_ne rfl | exact calm_ne rfl)) ?_
        refine WW ?_
        rw [ej]
        refine ⟨by unfold InR; omega, by unfold InR; omega, ⟨by omega, by omega⟩, by omega, ⟨by omega, by omega⟩, by omega, ⟨by omega, by omega⟩, ?_⟩
        refine HereC.storeRow T_ok (vs := I M) (u := .int .i64 (M.getD (j - 1) 0)) rfl SS SS rfl SS rfl (by rw [I_len]; omega) (keeps_nil _ _) ?_
        refine WW ?_
        rw [I_set]
        have hl2 : (M.set j (M.getD (j - 1) 0)).length = M.length := by simp
        rw [ej]
        refine ⟨⟨by omega, by omega⟩, ?_⟩
        refine HereC.storeRow T_ok (vs := I (M.set j (M.getD (j - 1) 0))) (u := .int .i64 (M.getD j 0)) rfl SS SS rfl SS rfl (by rw [I_len, hl2]; omega) (keeps_nil _ _) ?_
        refine WW ?_
        rw [I_set]
        exact ⟨by unfold InR; omega, (j - 1, swapL M j), ⟨by dsimp only; omega, (swapL_perm (by omega) (by omega)).trans hpM, sortBut_step (by omega) hj (by omega) hsM h4⟩, by dsimp only; omega, by dsimp only; omega, rfl⟩
      · have hse := sortBut_end hj hsM (fun _ => by omega)
        exact ⟨by unfold InR; omega, (i + 1, M), ⟨by dsimp only; omega, .inl (by dsimp only; omega), hpM, hse⟩, by dsimp only; omega, by push_cast; rfl, rfl⟩
    · have hse := sortBut_end hj hsM (fun _ => by omega)
      exact ⟨by unfold InR; omega, (i + 1, M), ⟨by dsimp only; omega, .inl (by dsimp only; omega), hpM, hse⟩, by dsimp only; omega, by push_cast; rfl, rfl⟩
  · refine RetM.one0 SE rfl ?_
    refine WW ?_
    rw [sortI_eq (sortTo_all (fun a b h1 h3 => hs a b h1 (by omega))) hp]
theorem byteAt_le (b : ByteArray) (i : Nat) : 0 ≤ byteAt b i ∧ byteAt b i ≤ 255 := by
  unfold byteAt
  have := (b.toList.getD i 0).toNat_lt
  omega
theorem inR_byte (b : ByteArray) (i : Nat) : InR (byteAt b i) := by have := byteAt_le b i; unfold InR; omega
theorem inR_byte0 (b : ByteArray) (i : Nat) : InR (0 + byteAt b i) := by have := byteAt_le b i; unfold InR; omega
theorem bitsLen64_spec (n : Nat) (h : n ≤ 12) : ∃ r, Spec Tryz.prog 122 [.v (.int .u64 n)] (.v (.int .i64 r)) [] := by
  have hw : IntKind.u8.wrap (n : Int) = n := by
    have : ∀ n : Nat, n ≤ 12 → IntKind.u8.wrap (n : Int) = n := by decide +kernel
    exact this n h
  apply Exists.intro
  refine Spec.of_code T_ok Tryz.func122 rfl Tryz.ntmps122 Tryz.call122 (Nat.le_of_ble_eq_true rfl) rfl rfl (CodeV_sound T_ok (by kernel_rfl) rfl ?_)
  refine WW ?_
  refine ⟨fun q => absurd q (by omega), fun _ => ⟨fun q => absurd q (by omega), fun _ => ⟨fun q => absurd q (by omega), fun _ => ?_⟩⟩⟩
  rw [hw]
  refine HereO.opP T_ok (OpP.index (i := n) Tryz.underlying9 rfl rfl rfl (Nat.lt_of_le_of_lt h (by decide +kernel))) ?_
  refine WW ?_
  exact ⟨inR_byte _ _, inR_byte0 _ _, rfl⟩
theorem bitsLen_spec (n : Nat) (r : Int) (h : Spec Tryz.prog 122 [.v (.int .u64 n)] (.v (.int .i64 r)) []) : Spec Tryz.prog 101 [.v (.int .u64 n)] (.v (.int .i64 r)) [] := by
  refine Spec.of_code T_ok Tryz.func101 rfl Tryz.ntmps101 Tryz.call101 (Nat.le_of_ble_eq_true rfl) rfl rfl (CodeV_sound T_ok (by kernel_rfl) rfl ?_)
  refine WW ?_
  refine HereO.call T_ok rfl rfl (h) SA rfl ?_
  exact WW trivial
theorem pdq_spec (xs : List Int) (h12 : xs.length ≤ 12) (r : Int) : SpecM Tryz.prog 100 [.own 0, .v (.int .i64 0), .v (.int .i64 xs.length), .v (.int .i64 r)] [.row 2 (I xs)] (.tup []) [some (.row 2 (I (sortI xs)))] := by
  have hi := insertion_spec xs h12
  refine SpecM.of_code' T_ok Tryz.func100 rfl Tryz.ntmps100 Tryz.call100 (Nat.le_of_ble_eq_true rfl) (Nat.le_of_ble_eq_true rfl) (Nat.le_of_ble_eq_true rfl) rfl rfl (CodeV_sound T_ok (by kernel_rfl) rfl ?_)
  refine WW ?_
  refine Here.loopV T_ok (κ := Unit) (fun _ => True) (fun _ => 0) (fun _ => [(0, .own 0), (1, .v (.int .i64 0)), (2, .v (.int .i64 xs.length)), (3, .v (.int .i64 r)), (8, .v (.bool true)), (9, .v (.bool true))]) (fun _ => [(0, .row 2 (I xs))]) () trivial SW SW ?_
  rintro _ _
  refine WW ?_
  refine ⟨by unfold InR; omega, fun _ => ?_, fun q => absurd q (by omega)⟩
  refine HereO.callM T_ok 600 [0] rfl rfl (hi) SC rfl (by decide) (by decide) rfl rfl rfl (Nat.le_of_ble_eq_true rfl) ?_
  refine WW ?_
  refine RetM.one0 SE rfl ?_
  exact WW trivial
theorem Sort_spec (xs : List Int) (h12 : xs.length ≤ 12) : SpecM Tryz.prog 64 [.own 0] [.row 2 (I xs)] (.tup []) [some (.row 2 (I (sortI xs)))] := by
  have hw : IntKind.u64.wrap (xs.length : Int) = xs.length := by
    have : ∀ n : Nat, n ≤ 12 → IntKind.u64.wrap (n : Int) = n := by decide +kernel
    exact this _ h12
  obtain ⟨r, hr⟩ := bitsLen64_spec xs.length h12
  have hr2 : Spec Tryz.prog 101 [.v (.int .u64 xs.length)] (.v (.int .i64 r)) [] := bitsLen_spec _ _ hr
  have hi := pdq_spec xs h12 r
  refine SpecM.of_code' T_ok Tryz.func64 rfl Tryz.ntmps64 Tryz.call64 (Nat.le_of_ble_eq_true rfl) (Nat.le_of_ble_eq_true rfl) (Nat.le_of_ble_eq_true rfl) rfl rfl (CodeV_sound T_ok (by kernel_rfl) rfl ?_)
  refine WW ?_
  rw [hw]
  refine HereO.call T_ok rfl rfl (hr2) SA rfl ?_
  refine WW ?_
  refine HereO.callM T_ok 600 [0] rfl rfl (hi) SC rfl (by decide) (by decide) rfl rfl rfl (Nat.le_of_ble_eq_true rfl) ?_
  refine WW ?_
  refine RetM.one0 SE rfl ?_
  exact WW trivial
end Go.Proofs.YtcjhojdlfnpgjaaGreat
