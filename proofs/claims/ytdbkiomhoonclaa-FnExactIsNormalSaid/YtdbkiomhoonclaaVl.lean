/- A calculus of verification conditions over logical values: append, structs, and states that are told in other words. -/
import Derived.Test.YtdbkiomhoonclaaVk
import Derived.Maps.AppendAt
namespace Go.Proofs.Ytdbkiomhoonclaa
open Go.RowKit
set_option linter.unusedVariables false
set_option linter.unusedSimpArgs false

section
variable {P : Program} {T : TT}

/-- The values of a row that is only read. -/
inductive News (s : St) (id : Nat) : LV → List Value → Prop
  | rd (ws : List Value) : News s id (.rd ws) ws
  | own (j e : Nat) (ws : List Value) (hj : j ≠ id) (h : s.σ j = some (.row e ws)) : News s id (.own j) ws

theorem News.cells {w0 : Base} {w : World} {ι : Nat → Option Value} {fp : Nat → Nat → Prop} {s : St} {f : Nat → Value} (hI : Inv w0 w ι fp s f) {id : Nat} {x : LV} {ws : List Value} {v : Value} (h : News s id x ws) (hr : LRel ι (FF s.σ fp) w x v) :
    ∃ A c, v = .slice A ws.length c ∧ (0 < ws.length → ∃ a, A = some a ∧ ∀ j u, ws[j]? = some u → w.cell? (a.add j) = some u) := by
  cases h with
  | rd ws =>
    simp only [LRel, RS] at hr
    obtain ⟨A, c, e, _, hR⟩ := hr
    exact ⟨A, c, e, fun hp => let ⟨ad, e, _, h⟩ := hR.2 hp; ⟨ad, e, h⟩⟩
  | own j e ws hj h =>
    obtain ⟨u, h1, h2, h3⟩ := hI.ob j _ h
    simp only [LRel] at hr
    rw [hr] at h1
    simp only [Option.some.injEq] at h1
    subst h1
    rcases h2.2 with ⟨rfl, h0⟩ | ⟨g, cap, cur, rfl, _⟩
    · exact ⟨none, 0, by rw [h0], fun hp => by omega⟩
    · exact ⟨_, cap, rfl, fun _ => ⟨_, rfl, fun i u hu => h2.cells (g := g) rfl i u hu⟩⟩

theorem run_append_no (w : World) (base : Nat) (t ty e : TypeId) (i : TypeInfo) (size : Nat) (ht : P.underlying t = some (.slice e)) (hi : P.info? e = some i)
    (v : Value) (n : Nat) (xs : List Value) (hown : w.ownsRow base e size v n xs) (A : Option Addr) (c : Nat) (hA : A = none ∨ ∃ a, A = some a) :
    ∃ v', (Builtin.append_ #[t, t] ty #[v, .slice A 0 c]).run P w = .ok v' w ∧ w.ownsRow base e size v' n xs ∧ v'.ownBlock = v.ownBlock := by
  rcases hown.2 with ⟨rfl, rfl⟩ | ⟨g, cap, cur, rfl, _, _, hnc, _⟩
  · cases A with
    | none => exact ⟨.slice none 0 0, by simp [Builtin.append_, run_underlying ht, sizeOf, typeInfo, hi, Builtin.lenOf, Builtin.firstCells], hown, rfl⟩
    | some a => exact ⟨.slice none 0 0, by simp [Builtin.append_, run_underlying ht, sizeOf, typeInfo, hi, Builtin.lenOf, Builtin.firstCells, loadCells, loadCellsFrom], hown, rfl⟩
  · cases A with
    | none => exact ⟨_, by simp [Builtin.append_, run_underlying ht, sizeOf, typeInfo, hi, Builtin.lenOf, Builtin.firstCells, hnc, storeCells], hown, rfl⟩
    | some a => exact ⟨_, by simp [Builtin.append_, run_underlying ht, sizeOf, typeInfo, hi, Builtin.lenOf, Builtin.firstCells, hnc, storeCells, loadCells, loadCellsFrom], hown, rfl⟩

theorem run_append_row (hT : T.Ok P) {t e : Nat} {z : Value} {bts : Nat} (ht : T.el t = some (e, z, bts)) (hb : bts ≤ 64) (w : World) (ty : Nat) {v : Value} {xs ws : List Value} (hown : w.ownsRow 0 e 1 v xs.length xs) {A : Option Addr} {c : Nat}
    (hA : 0 < ws.length → ∃ a, A = some a ∧ ∀ j u, ws[j]? = some u → w.cell? (a.add j) = some u) (h1 : ∀ u ∈ ws, u.oneCell' = true) (hlen : xs.length + ws.length ≤ 1099511627776) :
    ∃ v' w', (Builtin.append_ #[t, t] ty #[v, .slice A ws.length c]).run P w = .ok v' w' ∧ w'.ownsRow 0 e 1 v' (xs ++ ws).length (xs ++ ws) ∧ w.grownBy w' v.ownBlock ∧ (v'.ownBlock = v.ownBlock ∨ v'.ownBlock = some w.heap.size) := by
  obtain ⟨hu, i, hi, hz, hs, rfl, hzc⟩ := hT.el t e z bts ht
  by_cases h0 : ws.length = 0
  · have : ws = [] := List.eq_nil_of_length_eq_zero h0
    subst this
    obtain ⟨v', hr, h2, h3⟩ := run_append_no (P := P) w 0 t ty e i 1 hu hi v xs.length xs hown A c (by cases A; exact .inl rfl; exact .inr ⟨_, rfl⟩)
    exact ⟨v', w, hr, by simpa using h2, ⟨rfl, rfl, rfl, Nat.le_refl _, fun _ _ _ => rfl⟩, .inl h3⟩
  · obtain ⟨a, rfl, hc⟩ := hA (by omega)
    have hbb : (xs.length + ws.length) * i.bytes ≤ 140737488355328 := by
      have := Nat.mul_le_mul hlen hb
      omega
    obtain ⟨v', w', hr, h2, h3, _, h5⟩ := run_append_own_at (P := P) w 0 t ty e i z 1 i.bytes hu hi hz hs rfl (by rw [hzc]; rfl) (by omega) v xs.length xs hown a ws.length c ws (by omega) hc h1 (by simp only [maxLen]; omega) hbb (Nat.zero_le _)
    exact ⟨v', w', hr, by rw [List.length_append]; exact h2, h3, h5⟩

theorem OpT.append (hT : T.Ok P) {o : Oper} {s : St} {K : LV → St → Prop} {t e : Nat} {z : Value} {bts : Nat} {a b : Operand} {id : Nat} {vs ws : List Value} (ho : o.op = .call { callee := .builtin .append, args := #[a, b], argTypes := #[t, t] })
    (ht : T.el t = some (e, z, bts)) (hb : bts ≤ 64) (ha : evL s a = .own id) (hid : 16 ≤ id) (hσ : s.σ id = some (.row e vs)) (hn : News s id (evL s b) ws) (h1 : ∀ u ∈ ws, u.oneCell' = true) (hlen : vs.length + ws.length ≤ 1099511627776)
    (hK : K (.own id) (s.fresh id (.row e (vs ++ ws)))) : OpT P o s K := by
  intro w0 w ι fp f hI
  have hav := hI.ev a
  rw [ha] at hav
  simp only [LRel] at hav
  obtain ⟨v, g1, g2, g3⟩ := hI.ob id _ hσ
  rw [hav] at g1
  simp only [Option.some.injEq] at g1
  subst g1
  obtain ⟨A, c, e2, hA⟩ := hn.cells hI (hI.ev b)
  obtain ⟨v', w', hr, h2, h3, h4⟩ := run_append_row (P := P) hT ht hb w o.type g2 hA h1 hlen (c := c)
  have hr' : (execOp (evV f) o).run P w = .ok (.value v') w' := by
    simp only [execOp, ho, resolve, invoke, builtin, Sem.run_bind, Sem.run_pure, Result.andThen_ok, List.map_toArray, List.map_cons, List.map_nil, e2, hr]
  rw [hr']
  refine .value _ _ _ _ _ _ (hI.turn (w' := w') (ι' := updI ι id v') (fun j => j == id) id (.row e (vs ++ ws)) (fun k => v'.ownBlock = some k) h3.os h3.tape h3.output h3.size (fun k hk hn => h3.block k hk fun e => hn id _ (.inl rfl) hσ ((g3 k).2 e.symm))
    (fun k hk => ?_) (kill_is fun j hj => by simp only [updI, if_neg hj]) (updI_fix hI hid v') fun _ => ⟨v', updI_self _ _ _, h2, fun k => Iff.rfl⟩) ?_ hK
  · rcases h4 with h4 | h4
    · exact .inl ⟨id, _, .inl rfl, hσ, (g3 k).2 (by rw [← h4]; exact hk)⟩
    · rw [h4] at hk
      simp only [Option.some.injEq] at hk
      exact .inr (by omega)
  · simp only [LRel]; exact updI_self _ _ _

/-! ### Rows of rows -/
theorem OwnAll.mono {w : World} {base e : Nat} : ∀ {t : List (List Value)} {hs : List Value} {fp fp' : Nat → Prop}, OwnAll w base e fp t hs → (∀ k, fp k → fp' k) → OwnAll w base e fp' t hs
  | [], _, _, _, h, _ => h
  | r :: t, hs, fp, fp', ⟨h, hs', e1, h1, h2, h3⟩, hf => ⟨h, hs', e1, h1, fun k hk => hf k (h2 k hk), h3.mono fun k hk => ⟨hf k hk.1, hk.2⟩⟩

theorem OwnAll.append {w : World} {base e : Nat} {r : List Value} {h0 : Value} : ∀ {t : List (List Value)} {hs : List Value} {fp : Nat → Prop}, OwnAll w base e fp t hs → w.ownsRow base e 1 h0 r.length r → (∀ k, h0.ownBlock = some k → ¬ fp k) →
    OwnAll w base e (fun k => fp k ∨ h0.ownBlock = some k) (t ++ [r]) (hs ++ [h0])
  | [], _, fp, h, hr, hd => by
    simp only [OwnAll] at h
    subst h
    exact ⟨h0, [], rfl, hr, fun k hk => .inr hk, rfl⟩
  | r' :: t, hs, fp, ⟨h, hs', e1, h1, h2, h3⟩, hr, hd => by
    subst e1
    refine ⟨h, hs' ++ [h0], rfl, h1, fun k hk => .inl (h2 k hk), ?_⟩
    refine (h3.append hr fun k hk hq => hd k hk hq.1).mono ?_
    rintro k (hk | hk)
    · exact ⟨.inl hk.1, hk.2⟩
    · exact ⟨.inr hk, fun e => hd k hk (h2 k e)⟩

theorem OwnAll.length {w : World} {base e : Nat} : ∀ {t : List (List Value)} {hs : List Value} {fp : Nat → Prop}, OwnAll w base e fp t hs → hs.length = t.length
  | [], _, _, h => by rw [show _ = [] from h]; rfl
  | r :: t, hs, fp, ⟨h, hs', e1, h1, h2, h3⟩ => by subst e1; simp [h3.length]

/-- A row is appended to a row of rows, and is its own from now on. -/
theorem OpT.appendRows (hT : T.Ok P) {o : Oper} {s : St} {K : LV → St → Prop} {t e e' : Nat} {z : Value} {bts : Nat} {a b : Operand} {id j k : Nat} {tt : List (List Value)} {vs : List Value} {e2 : Nat} (ho : o.op = .call { callee := .builtin .append, args := #[a, b], argTypes := #[t, t] })
    (ht : T.el t = some (e, z, bts)) (hb : bts ≤ 64) (ha : evL s a = .own id) (hid : 16 ≤ id) (hσ : s.σ id = some (.rows e e' tt)) (hbv : evL s b = .own j) (hj : s.σ j = some (.rowL e2 [.own k])) (hk : s.σ k = some (.row e' vs)) (hjid : j ≠ id) (hkid : k ≠ id) (hlen : tt.length + 1 ≤ 1099511627776)
    (hK : K (.own id) (s.turn (fun i => i == id || i == k) id (.rows e e' (tt ++ [vs])))) : OpT P o s K := by
  intro w0 w ι fp f hI
  have hav := hI.ev a
  rw [ha] at hav
  simp only [LRel] at hav
  obtain ⟨v, hs, g1, g2, g3, g4, g5⟩ := hI.ob id _ hσ
  rw [hav] at g1
  simp only [Option.some.injEq] at g1
  subst g1
  have hbv' := hI.ev b
  rw [hbv] at hbv'
  simp only [LRel] at hbv'
  obtain ⟨u, ys, q1, q2, q3, q4⟩ := hI.ob j _ hj
  rw [hbv'] at q1
  simp only [Option.some.injEq] at q1
  subst q1
  simp only [LRels, LRel] at q4
  obtain ⟨y, r, rfl, hy, rfl⟩ := q4
  obtain ⟨y', p1, p2, p3⟩ := hI.ob k _ hk
  rw [hy] at p1
  simp only [Option.some.injEq] at p1
  subst p1
  obtain ⟨A, c, e3, hA⟩ : ∃ A c, evV f b = .slice A [y].length c ∧ (0 < [y].length → ∃ a, A = some a ∧ ∀ j u, [y][j]? = some u → w.cell? (a.add j) = some u) := by
    rcases q2.2 with ⟨_, h0⟩ | ⟨g, cap, cur, e, _⟩
    · simp at h0
    · rw [e] at q2 ⊢
      exact ⟨_, cap, rfl, fun _ => ⟨_, rfl, fun i u hu => q2.cells (g := g) rfl i u hu⟩⟩
  have hone : ∀ u ∈ [y], u.oneCell' = true := by
    intro u hu
    simp only [List.mem_singleton] at hu
    subst hu
    obtain ⟨A, cap, rfl⟩ := own_len p2
    rfl
  obtain ⟨v', w', hr, h2, h3, h4⟩ := run_append_row (P := P) hT ht hb w o.type g2 hA hone (by rw [g4.length]; simpa using hlen) (c := c)
  have hr' : (execOp (evV f) o).run P w = .ok (.value v') w' := by
    simp only [execOp, ho, resolve, invoke, builtin, Sem.run_bind, Sem.run_pure, Result.andThen_ok, List.map_toArray, List.map_cons, List.map_nil, e3, hr]
  rw [hr']
  have hdis : ∀ q, fp id q → fp k q → False := fun q h1 h2 => hkid (hI.dis _ _ _ _ q hk hσ h2 h1)
  have hlt := hI.lt
  have hyold : ∀ q, y.ownBlock = some q → v'.ownBlock ≠ some q := by
    intro q hq hv
    have hq' : fp k q := (p3 q).2 hq
    rcases h4 with h4 | h4
    · rw [h4] at hv; exact hdis q (g3 q hv) hq'
    · rw [h4] at hv; simp only [Option.some.injEq] at hv; have := (hlt q ⟨k, _, hk, hq'⟩).2; omega
  have hnew : ∀ q, v'.ownBlock = some q → fp id q ∧ v'.ownBlock = (evV f a).ownBlock ∨ q = w.heap.size := by
    intro q hv
    rcases h4 with h4 | h4
    · exact .inl ⟨g3 q (by rw [← h4]; exact hv), h4⟩
    · rw [h4] at hv; simp only [Option.some.injEq] at hv; exact .inr hv.symm
  refine .value _ _ _ _ _ _ (hI.turn (w' := w') (ι' := updI ι id v') (fun i => i == id || i == k) id (.rows e e' (tt ++ [vs])) (fun q => fp id q ∨ fp k q ∨ v'.ownBlock = some q) h3.os h3.tape h3.output h3.size (fun q hq hn => h3.block q hq fun e => hn id _ (.inl rfl) hσ (g3 q e.symm))
    (fun q hq => ?_) (fun i u hi e => ?_) (updI_fix hI hid v') fun _ => ?_) ?_ hK
  · rcases hq with hq | hq | hq
    · exact .inl ⟨id, _, .inl rfl, hσ, hq⟩
    · exact .inl ⟨k, _, .inr (by simp), hk, hq⟩
    · rcases hnew q hq with h | h
      · exact .inl ⟨id, _, .inl rfl, hσ, h.1⟩
      · exact .inr (by omega)
  · simp only [Bool.or_eq_false_iff, beq_eq_false_iff_ne, ne_eq] at hi
    simp only [updI, if_neg hi.1]
    exact e
  · have keep4 : OwnAll w' 0 e' (fun q => fp id q ∧ (evV f a).ownBlock ≠ some q) tt hs := g4.keeps fun q hq => h3.block q (g5 q hq.1).2 fun e => hq.2 e.symm
    have keepy : w'.ownsRow 0 e' 1 y vs.length vs := own_keeps p2 fun q hq => h3.block q (p2.lt q hq).2 fun e => hdis q (g3 q e.symm) ((p3 q).2 hq)
    refine ⟨v', hs ++ [y], updI_self _ _ _, h2, fun q hq => .inr (.inr hq), ?_, fun q hq => ⟨Nat.zero_le _, ?_⟩⟩
    · refine (keep4.append keepy fun q hq h => hdis q h.1 ((p3 q).2 hq)).mono ?_
      rintro q (⟨h, hne⟩ | h)
      · refine ⟨.inl h, fun hv => ?_⟩
        rcases hnew q hv with h' | h'
        · rw [h'.2] at hv; exact hne hv
        · have := (hlt q ⟨id, _, hσ, h⟩).2; omega
      · exact ⟨.inr (.inl ((p3 q).2 h)), hyold q h⟩
    · rcases hq with hq | hq | hq
      · exact Nat.lt_of_lt_of_le (hlt q ⟨id, _, hσ, hq⟩).2 h3.size
      · exact Nat.lt_of_lt_of_le (hlt q ⟨k, _, hk, hq⟩).2 h3.size
      · exact (h2.lt q hq).2
  · simp only [LRel]; exact updI_self _ _ _

end
end Go.Proofs.Ytdbkiomhoonclaa
