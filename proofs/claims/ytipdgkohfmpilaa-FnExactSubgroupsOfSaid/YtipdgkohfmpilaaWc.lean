/- A calculus of verification conditions over logical values: rows of structs of two cells, a plain value and a row of its own each. -/
import Derived.Test.YtipdgkohfmpilaaWa
import Derived.Test.YtipdgkohfmpilaaVr
namespace Go.Proofs.Ytipdgkohfmpilaa
open Go.RowKit
set_option linter.unusedVariables false
set_option linter.unusedSimpArgs false

def inter : List (Value × List Value) → List Value → List Value
  | p :: q, h :: hs => p.1 :: h :: inter q hs
  | _, _ => []
def lvq (q : List (Value × List Value)) : List (LV × LV) := q.map fun p => (.v p.1, .rd p.2)
theorem lvq_len (q : List (Value × List Value)) : (lvq q).length = q.length := by simp [lvq]
theorem inter_len : ∀ {q : List (Value × List Value)} {hs : List Value}, hs.length = q.length → (inter q hs).length = q.length * 2
  | [], [], _ => rfl
  | p :: q, h :: hs, e => by
    simp only [inter, List.length_cons]
    rw [inter_len (by simpa using e)]
    omega
  | [], _ :: _, e => by simp at e
  | _ :: _, [], e => by simp at e
theorem inter_snoc {p : Value × List Value} {h : Value} : ∀ {q : List (Value × List Value)} {hs : List Value}, hs.length = q.length → inter (q ++ [p]) (hs ++ [h]) = inter q hs ++ [p.1, h]
  | [], [], _ => rfl
  | x :: q, y :: hs, e => by simp only [List.cons_append, inter, inter_snoc (q := q) (hs := hs) (by simpa using e)]
  | [], _ :: _, e => by simp at e
  | _ :: _, [], e => by simp at e
theorem inter_one : ∀ {q : List (Value × List Value)} {hs : List Value} {i : Nat} {h : Value}, hs.length = q.length → hs[i]? = some h → (inter q hs)[i * 2 + 1]? = some h
  | [], [], i, h, _, e => by simp at e
  | x :: q, y :: hs, 0, h, _, e => by simpa [inter] using e
  | x :: q, y :: hs, i + 1, h, l, e => by
    have := inter_one (q := q) (hs := hs) (i := i) (h := h) (by simpa using l) (by simpa using e)
    rw [show (i + 1) * 2 + 1 = i * 2 + 1 + 1 + 1 by omega]
    simpa [inter] using this
  | [], _ :: _, _, _, e, _ => by simp at e
  | _ :: _, [], _, _, e, _ => by simp at e
theorem inter_zero : ∀ {q : List (Value × List Value)} {hs : List Value} {i : Nat} {p : Value × List Value}, hs.length = q.length → q[i]? = some p → (inter q hs)[i * 2]? = some p.1
  | [], [], i, p, _, e => by simp at e
  | x :: q, y :: hs, 0, p, _, e => by simp at e; simp [inter, e]
  | x :: q, y :: hs, i + 1, p, l, e => by
    have := inter_zero (q := q) (hs := hs) (i := i) (p := p) (by simpa using l) (by simpa using e)
    rw [show (i + 1) * 2 = i * 2 + 1 + 1 by omega]
    simpa [inter] using this
  | [], _ :: _, _, _, e, _ => by simp at e
  | _ :: _, [], _, _, e, _ => by simp at e
theorem inter_set {m : Value} : ∀ {q : List (Value × List Value)} {hs : List Value} {i : Nat} {p : Value × List Value}, hs.length = q.length → q[i]? = some p → (inter q hs).set (i * 2) m = inter (q.set i (m, p.2)) hs
  | [], [], i, p, _, e => by simp at e
  | x :: q, y :: hs, 0, p, _, e => by simp [inter]
  | x :: q, y :: hs, i + 1, p, l, e => by
    have := inter_set (m := m) (q := q) (hs := hs) (i := i) (p := p) (by simpa using l) (by simpa using e)
    rw [show (i + 1) * 2 = i * 2 + 1 + 1 by omega]
    simpa [inter] using this
  | [], _ :: _, _, _, e, _ => by simp at e
  | _ :: _, [], _, _, e, _ => by simp at e
theorem inter_snd {vs : List Value} : ∀ {q : List (Value × List Value)} {hs : List Value} {i : Nat} {p : Value × List Value}, hs.length = q.length → q[i]? = some p → inter (q.set i (p.1, vs)) hs = inter q hs
  | [], [], i, p, _, e => by simp at e
  | x :: q, y :: hs, 0, p, _, e => by simp at e; simp [inter, e]
  | x :: q, y :: hs, i + 1, p, l, e => by
    have := inter_snd (vs := vs) (q := q) (hs := hs) (i := i) (p := p) (by simpa using l) (by simpa using e)
    simpa [inter] using this
  | [], _ :: _, _, _, e, _ => by simp at e
  | _ :: _, [], _, _, e, _ => by simp at e

theorem own_keepsN {w w' : World} {base e n size : Nat} {v : Value} {vs : List Value} (h : w.ownsRow base e size v n vs) (hk : ∀ k, v.ownBlock = some k → w'.heap[k]? = w.heap[k]?) : w'.ownsRow base e size v n vs := by
  refine ⟨h.1, ?_⟩
  rcases h.2 with hn | ⟨g, cap, cur, rfl, hb, hg, rest⟩
  · exact .inl hn
  · exact .inr ⟨g, cap, cur, rfl, hb, by rw [hk g rfl]; exact hg, rest⟩
theorem own_lenN {w : World} {base e n size : Nat} {v : Value} {vs : List Value} (h : w.ownsRow base e size v n vs) : ∃ A cap, v = .slice A n cap := by
  rcases h.2 with ⟨rfl, rfl⟩ | ⟨g, cap, cur, rfl, _⟩
  · exact ⟨_, _, rfl⟩
  · exact ⟨_, _, rfl⟩

def ModsA (e e' : Nat) (q : List (Value × List Value)) (v _y : Value) (w : World) (fp : Nat → Prop) : Prop :=
  ∃ hs, w.ownsRow 0 e 2 v q.length (inter q hs) ∧ (∀ k, v.ownBlock = some k → fp k) ∧ OwnAll w 0 e' (fun k => fp k ∧ v.ownBlock ≠ some k) (q.map (·.2)) hs ∧ (∀ p ∈ q, p.1.oneCell' = true)
def ModHoleA (e e' : Nat) (q : List (Value × List Value)) (i : Nat) (v y : Value) (w : World) (fp : Nat → Prop) : Prop :=
  ∃ hs, w.ownsRow 0 e 2 v q.length (inter q hs) ∧ (∀ k, v.ownBlock = some k → fp k) ∧ OwnAll w 0 e' (fun k => fp k ∧ v.ownBlock ≠ some k) ((q.map (·.2)).set i []) (hs.set i (.slice none 0 0)) ∧ (∀ p ∈ q, p.1.oneCell' = true) ∧ hs[i]? = some y
abbrev OC.mods (e e' : Nat) (q : List (Value × List Value)) : OC := .cust (ModsA e e' q) (.rdA 2 (flat (lvq q))) none
abbrev OC.modHole (e e' : Nat) (q : List (Value × List Value)) (i : Nat) (j : Option Nat) : OC := .cust (ModHoleA e e' q i) .junk j

theorem mods_lr {ι : Nat → Option Value} {F : Nat → Prop} {w : World} {e' : Nat} : ∀ {q : List (Value × List Value)} {hs : List Value} {fp : Nat → Prop}, OwnAll w 0 e' fp (q.map (·.2)) hs → (∀ k, fp k → ¬ F k) → LRels ι F w (flat (lvq q)) (inter q hs)
  | [], hs, fp, h, hF => by simp only [lvq, List.map_nil, flat, inter, LRels]
  | p :: q, hs, fp, ⟨h, hs', e1, h1, h2, h3⟩, hF => by
    subst e1
    have ih := mods_lr (ι := ι) (q := q) h3 fun k hk => hF k hk.1
    simp only [lvq] at ih
    simp only [lvq, List.map_cons, flat, inter, LRels, LRel]
    exact ⟨_, _, rfl, rfl, h, _, rfl, own_RSF h1 fun k hk => hF k (h2 k hk), ih⟩
theorem mods_ok (e e' : Nat) (q : List (Value × List Value)) : AOk (ModsA e e' q) (.rdA 2 (flat (lvq q))) := by
  rintro v y w fp ⟨hs, h1, h2, h3, h4⟩
  refine ⟨?_, fun w' hw => ⟨hs, own_keepsN h1 fun k hk => hw k (h2 k hk), h2, h3.keeps fun k hk => hw k hk.1, h4⟩, fun ι F hF => ?_⟩
  · obtain ⟨A, cap, rfl⟩ := own_lenN h1; rfl
  · simp only [LRel]
    have hlr := mods_lr (ι := ι) (F := F) h3 fun k hk => hF k hk.1
    have h1' := h1
    rcases h1.2 with ⟨rfl, h0⟩ | ⟨g, cap, cur, rfl, hb, hg, hn, hm, _⟩
    · exact ⟨none, 0, 0, inter q hs, rfl, by rw [h1'.1, h0], Nat.le_refl _, by omega, fun h => absurd h (by omega), hlr⟩
    · simp only [maxLen] at hm
      exact ⟨_, q.length, cap, inter q hs, rfl, h1'.1, hn, by omega, fun _ => ⟨_, rfl, fun j u hu => ⟨hF g (h2 g rfl), h1'.cells (g := g) rfl j u hu⟩⟩, hlr⟩
theorem modHole_ok (e e' : Nat) (q : List (Value × List Value)) (i : Nat) : AOk (ModHoleA e e' q i) .junk := by
  rintro v y w fp ⟨hs, h1, h2, h3, h4, h5⟩
  refine ⟨?_, fun w' hw => ⟨hs, own_keepsN h1 fun k hk => hw k (h2 k hk), h2, h3.keeps fun k hk => hw k hk.1, h4, h5⟩, fun ι F hF => by simp only [LRel]⟩
  obtain ⟨A, cap, rfl⟩ := own_lenN h1; rfl

/-- A type of rows of structs of two cells. -/
def Sl2m (P : Program) (t e : Nat) : Prop := P.underlying t = some (.slice e) ∧ ∃ (i : TypeInfo) (z : Value), P.info? e = some i ∧ i.zero = some z ∧ i.size = 2 ∧ z.cells.size = 2 ∧ i.bytes ≤ 64

section
variable {P : Program} {T : TT}
theorem OpT.appendMods {o : Oper} {s : St} {K : LV → St → Prop} {t e e' : Nat} {a b : Operand} {id j : Nat} {q : List (Value × List Value)} {m : Value} {vs : List Value} (ho : o.op = .call { callee := .builtin .append, args := #[a, b], argTypes := #[t, t] })
    (ht : Sl2m P t e) (ha : evL s a = .own id) (hid : 16 ≤ id) (hσ : s.σ id = some (.mods e e' q)) (hb : evL s b = .rdA 2 [.v m, .own j]) (hj : s.σ j = some (.row e' vs)) (hjid : j ≠ id) (hm1 : m.oneCell' = true) (hlen : q.length + 1 ≤ 1099511627776)
    (hK : K (.own id) (s.turn (fun i => i == id || i == j) id (.mods e e' (q ++ [(m, vs)])))) : OpT P o s K := by
  intro w0 w ι fp f hI
  obtain ⟨hu, i, z, hi, hz, hsz, hzc, hby⟩ := ht
  have hav := hI.ev a
  rw [ha] at hav
  simp only [LRel] at hav
  obtain ⟨v, y0, g1, _, ⟨hs, g2, g3, g4, g6⟩, g5, _⟩ := hI.ob id _ hσ
  rw [hav] at g1
  simp only [Option.some.injEq] at g1
  subst g1
  have hbv' := hI.ev b
  rw [hb] at hbv'
  simp only [LRel, LRels] at hbv'
  obtain ⟨A, mm, c, ys, e1, e2, e3, e4, e5, y1, r1, rfl, rfl, y2, r2, rfl, hy2, rfl⟩ := hbv'
  obtain rfl : mm = 1 := by simp at e2; omega
  obtain ⟨ad, rfl, hc⟩ := e5 (by omega)
  obtain ⟨y', p1, p2, p3⟩ := hI.ob j _ hj
  rw [hy2] at p1
  simp only [Option.some.injEq] at p1
  subst p1
  have hy1 : y2.oneCell' = true := by obtain ⟨A, cap, rfl⟩ := own_len p2; rfl
  have hl := g4.length
  simp only [List.length_map] at hl
  obtain ⟨v', w', hr, h2, h3, _, h4⟩ := run_append_own_at (P := P) w 0 t o.type e i z 2 i.bytes hu hi hz hsz rfl hzc (by omega) (evV f a) q.length (inter q hs) g2 ad 1 c [y1, y2] (by simp) (fun j u hu => (hc j u hu).2)
    (by simp [hm1, hy1]) (by simp only [maxLen]; omega) (by have := Nat.mul_le_mul hlen hby; omega) (Nat.zero_le _)
  have hr' : (execOp (evV f) o).run P w = .ok (.value v') w' := by
    simp only [execOp, ho, resolve, invoke, builtin, Sem.run_bind, Sem.run_pure, Result.andThen_ok, List.map_toArray, List.map_cons, List.map_nil, e1, hr]
  rw [hr']
  have hdis : ∀ q, fp id q → fp j q → False := fun q h1 h2 => hjid (hI.dis _ _ _ _ q hj hσ h2 h1)
  have hlt := hI.lt
  have hnew : ∀ q, v'.ownBlock = some q → fp id q ∧ v'.ownBlock = (evV f a).ownBlock ∨ q = w.heap.size := by
    intro q hv
    rcases h4 with h4 | h4
    · exact .inl ⟨g3 q (by rw [← h4]; exact hv), h4⟩
    · rw [h4] at hv; simp only [Option.some.injEq] at hv; exact .inr hv.symm
  refine .value _ _ _ _ _ _ (hI.turn (w' := w') (ι' := updI ι id v') (fun i => i == id || i == j) id (.mods e e' (q ++ [(y1, vs)])) (fun q => fp id q ∨ fp j q ∨ v'.ownBlock = some q) h3.os h3.tape h3.output h3.size (fun q hq hn => h3.block q hq fun e => hn id _ (.inl rfl) hσ (g3 q e.symm))
    (fun q hq => ?_) (fun i u hi e => ?_) (updI_fix hI hid v') fun _ => ?_) ?_ hK
  · rcases hq with hq | hq | hq
    · exact .inl ⟨id, _, .inl rfl, hσ, hq⟩
    · exact .inl ⟨j, _, .inr (by simp), hj, hq⟩
    · rcases hnew q hq with h | h
      · exact .inl ⟨id, _, .inl rfl, hσ, h.1⟩
      · exact .inr (by omega)
  · simp only [Bool.or_eq_false_iff, beq_eq_false_iff_ne, ne_eq] at hi
    simp only [updI, if_neg hi.1]
    exact e
  · have keep4 : OwnAll w' 0 e' (fun q => fp id q ∧ (evV f a).ownBlock ≠ some q) (q.map (·.2)) hs := g4.keeps fun q hq => h3.block q (g5 q hq.1).2 fun e => hq.2 e.symm
    have keepj : w'.ownsRow 0 e' 1 y2 vs.length vs := own_keepsN p2 fun q hq => h3.block q (p2.lt q hq).2 fun e => hdis q (g3 q e.symm) ((p3 q).2 hq)
    refine ⟨v', nilV, updI_self _ _ _, mods_ok _ _ _, ⟨hs ++ [y2], ?_, fun q hq => .inr (.inr hq), ?_, fun p hp => ?_⟩, fun q hq => ⟨Nat.zero_le _, ?_⟩, fun j hj => by cases hj⟩
    · rw [inter_snoc hl, List.length_append]; exact h2
    · rw [List.map_append]
      refine (keep4.append keepj fun q hq h => hdis q h.1 ((p3 q).2 hq)).mono ?_
      rintro q (⟨h, hne⟩ | h)
      · refine ⟨.inl h, fun hv => ?_⟩
        rcases hnew q hv with h' | h'
        · rw [h'.2] at hv; exact hne hv
        · have := (hlt q ⟨id, _, hσ, h⟩).2; omega
      · have hjq := (p3 q).2 h
        refine ⟨.inr (.inl hjq), fun hv => ?_⟩
        rcases hnew q hv with h' | h'
        · exact hdis q h'.1 hjq
        · have := (hlt q ⟨j, _, hj, hjq⟩).2; omega
    · rcases List.mem_append.1 hp with hp | hp
      · exact g6 p hp
      · simp only [List.mem_singleton] at hp; subst hp; exact hm1
    · rcases hq with hq | hq | hq
      · exact Nat.lt_of_lt_of_le (hlt q ⟨id, _, hσ, hq⟩).2 h3.size
      · exact Nat.lt_of_lt_of_le (hlt q ⟨j, _, hj, hq⟩).2 h3.size
      · rcases hnew q hq with h | h
        · exact Nat.lt_of_lt_of_le (hlt q ⟨id, _, hσ, h.1⟩).2 h3.size
        · exact (h2.lt q hq).2
  · simp only [LRel]; exact updI_self _ _ _

/-- An empty list of structs is made. -/
theorem OpT.makeMods {o : Oper} {s : St} {K : LV → St → Prop} {t e : Nat} (e' : Nat) (ho : o.op = .buildSlice t 0 #[]) (ht : Sl2m P t e) (id : Nat) (hid : 16 ≤ id) (hK : K (.own id) (s.fresh id (.mods e e' []))) : OpT P o s K := by
  intro w0 w ι fp f hI
  obtain ⟨hu, i, z, hi, hz, hsz, hzc, hby⟩ := ht
  have hr : (execOp (evV f) o).run P w = .ok (.value (.slice (some ⟨w.heap.size, 0, none⟩) 0 0)) (w.alloc (.cells #[] e)) := by
    simp [execOp, ho, Instr.buildSlice, run_underlying hu, sizeOf, typeInfo, hi, hsz, Instr.fill, newRow, show Array.range 0 = #[] from rfl]
  rw [hr]
  have hown := World.ownsRow_lit (base := 0) (size := 2) (e := e) w #[] 0 (Nat.zero_le _) (by simp only [maxLen]; omega) (by simp)
  refine .value _ _ _ _ _ _ (hI.fresh hid _ (.slice (some ⟨w.heap.size, 0, none⟩) 0 0) (.mods e e' []) (fun k => k = w.heap.size) (fun _ h => h) fun _ => ?_) ?_ hK
  · exact ⟨_, nilV, updI_self _ _ _, mods_ok _ _ _, ⟨[], hown, fun k hk => by simp [Value.ownBlock] at hk; exact hk.symm, rfl, fun p hp => by cases hp⟩, fun k hk => by subst hk; exact ⟨Nat.zero_le _, by simp⟩, fun j hj => by cases hj⟩
  · simp only [LRel]; exact updI_self _ _ _

theorem mods_at {ι : Nat → Option Value} {F : Nat → Prop} {w : World} {fp : Nat → Prop} {id e e' : Nat} {q : List (Value × List Value)} (h : ORel ι F w 0 fp id (.mods e e' q)) : ∃ A c, ι id = some (.slice A q.length c) ∧ (0 < q.length → ∃ g, A = some ⟨g, 0, none⟩) := by
  obtain ⟨v, y0, g1, _, ⟨hs, g2, _⟩, _⟩ := h
  rcases g2.2 with ⟨rfl, h0⟩ | ⟨g, cap, cur, rfl, _⟩
  · exact ⟨none, 0, by rw [g1, h0], fun h => by omega⟩
  · exact ⟨_, cap, g1, fun _ => ⟨g, rfl⟩⟩

theorem OpP.lenMods {o : Oper} {ρ : Operand → LV} {σ : Nat → Option OC} {t e e' id : Nat} {x : Operand} {q : List (Value × List Value)} (hs : Sl2m P t e) (ho : o.op = .call { callee := .builtin .len, args := #[x], argTypes := #[t] }) (hx : ρ x = .own id) (hσ : σ id = some (.mods e e' q)) : OpP P o ρ σ (.v (.int .i64 q.length)) := by
  intro w0 w ι fp s f hI hS hρ
  have hv := hI.ev x
  rw [hρ x (by simp [ho, Op.operands, Call.operands]), hx] at hv
  simp only [LRel] at hv
  obtain ⟨A, c, h1, _⟩ := mods_at (hI.ob id _ (by rw [hS]; exact hσ))
  rw [hv] at h1
  simp only [Option.some.injEq] at h1
  have hue : P.underlying t = some (.slice (P.elem t)) := by
    have : P.elem t = e := by simp [Program.elem, hs.1]
    rw [this]; exact hs.1
  have hr : (execOp (evV f) o).run P w = .ok (.value (.int .i64 q.length)) w := by
    simp only [execOp, ho, resolve, invoke, builtin, Sem.run_bind, Sem.run_pure, Result.andThen_ok, List.map_toArray, List.map_cons, List.map_nil, h1]
    simp [run_len_slice _ _ _ _ _ _ hue, goInt]
  rw [hr]
  exact .value _ s _ w ι fp hI (by simp only [LRel]) ⟨rfl, rfl⟩
theorem OpP.indexMods {o : Oper} {ρ : Operand → LV} {σ : Nat → Option OC} {t e e' id : Nat} {x y : Operand} {q : List (Value × List Value)} {k : IntKind} {j : Nat} (hs : Sl2m P t e) (ho : o.op = .indexAddr t x y) (hx : ρ x = .own id) (hy : ρ y = .v (.int k j)) (hσ : σ id = some (.mods e e' q)) (hj : j < q.length) : OpP P o ρ σ (.pe id (j * 2)) := by
  intro w0 w ι fp s f hI hS hρ
  obtain ⟨hu, i, z, hi, hz, hsz, hzc, hby⟩ := hs
  have hv := hI.ev x
  rw [hρ x (by simp [ho, Op.operands]), hx] at hv
  have hv2 := hI.ev y
  rw [hρ y (by simp [ho, Op.operands]), hy] at hv2
  simp only [LRel] at hv hv2
  obtain ⟨A, c, h1, h2⟩ := mods_at (hI.ob id _ (by rw [hS]; exact hσ))
  obtain ⟨g, rfl⟩ := h2 (by omega)
  have hvx := hv
  rw [h1] at hv
  simp only [Option.some.injEq] at hv
  have hue : P.underlying t = some (.slice (P.elem t)) := by
    have : P.elem t = e := by simp [Program.elem, hu]
    rw [this]; exact hu
  have hes : P.elem t = e := by simp [Program.elem, hu]
  have hszr : (sizeOf e).run P w = .ok 2 w := by simp [sizeOf, typeInfo, hi, hsz]
  have hr : (execOp (evV f) o).run P w = .ok (.value (.pointer (some ⟨g, j * 2, none⟩))) w := by
    simp only [execOp, ho, ← hv, hv2, Sem.run_bind]
    rw [run_indexAt_slice _ _ _ _ _ _ _ hue, if_pos ⟨by omega, by omega⟩, hes, hszr]
    simp [add0]
  rw [hr]
  refine .value _ s _ w ι fp hI ?_ ⟨rfl, rfl⟩
  simp only [LRel]
  exact ⟨g, _, c, h1, rfl⟩
theorem OpP.fieldPe {o : Oper} {ρ : Operand → LV} {σ : Nat → Option OC} {t id i j : Nat} {x : Operand} (hT : T.Ok P) (ho : o.op = .fieldAddr t x j) (ht : T.fo t j = some j) (hx : ρ x = .pe id i) : OpP P o ρ σ (.pe id (i + j)) := by
  intro w0 w ι fp s f hI hS hρ
  have hv := hI.ev x
  rw [hρ x (by simp [ho, Op.operands]), hx] at hv
  simp only [LRel] at hv
  obtain ⟨g, n, c, h1, h2⟩ := hv
  have hr : (execOp (evV f) o).run P w = .ok (.value (.pointer (some ⟨g, i + j, none⟩))) w := by
    simp only [execOp, ho, h2, Sem.run_bind]
    rw [hT.fo _ _ _ ht]
    simp only [Result.andThen_ok, Sem.run_pure]
    congr 4
    unfold Addr.add; split <;> simp_all
  rw [hr]
  refine .value _ s _ w ι fp hI ?_ ⟨rfl, rfl⟩
  simp only [LRel]
  exact ⟨g, n, c, h1, rfl⟩

/-- The plain cell of a struct in a row of structs is written. -/
theorem OpT.storeMod (hT : T.Ok P) {o : Oper} {s : St} {K : LV → St → Prop} {t e e' : Nat} {a x : Operand} {id i : Nat} {q : List (Value × List Value)} {p : Value × List Value} {u : Value} (ho : o.op = .store t a x) (ha : evL s a = .pe id (i * 2)) (hσ : s.σ id = some (.mods e e' q))
    (ht : T.sc t = true) (hx : evL s x = .v u) (h1 : u.oneCell' = true) (hi : q[i]? = some p) (hK : K .junk (s.set id (.mods e e' (q.set i (u, p.2))))) : OpT P o s K := by
  intro w0 w ι fp f hI
  have hav := hI.ev a
  rw [ha] at hav
  simp only [LRel] at hav
  obtain ⟨g, n, c, e1, e2⟩ := hav
  have hxv := hI.ev x
  rw [hx] at hxv
  simp only [LRel] at hxv
  obtain ⟨v, y0, g1, _, ⟨hs, g2, g3, g4, g6⟩, g5, _⟩ := hI.ob id _ hσ
  rw [e1] at g1
  simp only [Option.some.injEq] at g1
  subst g1
  have hl := g4.length
  simp only [List.length_map] at hl
  obtain ⟨_, _, e3⟩ := own_lenN g2
  simp only [Value.slice.injEq] at e3
  obtain ⟨_, rfl, _⟩ := e3
  have hcell : w.cell? ⟨g, i * 2, none⟩ = some p.1 := by
    have := g2.cells (g := g) rfl (i * 2) p.1 (inter_zero hl hi)
    rwa [add0] at this
  have hfr := g2.frozenAt (i * 2)
  have hr : (execOp (evV f) o).run P w = .ok .skip (w.setCell ⟨g, i * 2, none⟩ u) := by
    simp [execOp, ho, e2, hxv, Instr.storeAt, Instr.sureAddr, storeVar, hT.s1 t ht w, one_cells h1, storeCells, run_store P w _ u _ h1, hcell, hfr, add0, Addr.add]
  rw [hr]
  obtain ⟨k1, k2⟩ := g2.stored (i * 2) u
  have h := hI.turn (w' := w.setCell ⟨g, i * 2, none⟩ u) (ι' := ι) (fun _ => false) id (.mods e e' (q.set i (u, p.2))) (fp id) k2.os k2.tape k2.output k2.size (fun k hk hn => k2.block k hk (fun e => hn id _ (.inl rfl) hσ (g3 k (by rw [e]; rfl))))
    (fun k hk => .inl ⟨id, _, .inl rfl, hσ, hk⟩) (fun _ _ _ e => e) hI.fix (fun hk => ⟨_, y0, e1, mods_ok _ _ _, ⟨hs, ?_, g3, ?_, fun x hx => ?_⟩, fun k hk => ⟨Nat.zero_le _, Nat.lt_of_lt_of_le (g5 k hk).2 k2.size⟩, fun j hj => by cases hj⟩)
  · rw [turn_none, fp_self] at h
    exact .skip _ _ _ _ h hK
  · rw [← inter_set hl hi, List.length_set]; exact k1
  · have hm : (q.set i (u, p.2)).map (·.2) = q.map (·.2) := by
      refine List.ext_getElem? fun x => ?_
      rw [List.getElem?_map, List.getElem?_set, List.getElem?_map]
      by_cases ex : i = x
      · subst ex; rw [if_pos rfl, if_pos (List.getElem?_eq_some_iff.1 hi).1, hi]; rfl
      · rw [if_neg ex]
    rw [hm]
    exact g4.keeps fun k hk => k2.block k (g5 k hk.1).2 fun e => hk.2 (by simp [Value.ownBlock] at e ⊢; exact e.symm)
  · rcases List.mem_or_eq_of_mem_set hx with hx | hx
    · exact g6 x hx
    · subst hx; exact h1

/-- An object is opened: a row of it stands by itself. -/
theorem Inv.opened {w0 : Base} {w : World} {ι : Nat → Option Value} {fp : Nat → Nat → Prop} {s : St} {f : Nat → Value} (hI : Inv w0 w ι fp s f) {id j e' : Nat} {oc och : OC} {vs : List Value} {y : Value} (hσ : s.σ id = some oc) (hj : 16 ≤ j) (hji : j ≠ id) (k1 : w.ownsRow 0 e' 1 y vs.length vs) (k2 : ∀ k, y.ownBlock = some k → fp id k)
    (hnew : ∀ (ι' : Nat → Option Value) (F' : Nat → Prop), (∀ q v, q ≠ j → ι q = some v → ι' q = some v) → ι' j = some y → ORel ι' F' w 0 (fun k => fp id k ∧ y.ownBlock ≠ some k) id och) :
    ∃ ι' fp', Inv w0 w ι' fp' ((s.fresh j (.row e' vs)).set id och) f ∧ ι' j = some y := by
  have hFs : ∀ k, FF ((s.fresh j (.row e' vs)).set id och).σ (fun q => if q = j then fun k => y.ownBlock = some k else if q = id then fun k => fp id k ∧ y.ownBlock ≠ some k else fp q) k → FF s.σ fp k := by
    rintro k ⟨q, oc, h1, h2⟩
    by_cases q1 : q = j
    · rw [if_pos q1] at h2
      exact ⟨id, _, hσ, (k2 k h2)⟩
    · rw [if_neg q1] at h2
      by_cases q2 : q = id
      · rw [if_pos q2] at h2; exact ⟨id, _, hσ, h2.1⟩
      · rw [if_neg q2] at h2
        simp only [St.set, St.fresh, St.turn, if_neg q1, if_neg q2] at h1
        rw [if_neg (by simpa using q1)] at h1
        cases hq : s.σ q with
        | none => rw [hq] at h1; cases h1
        | some oc' => exact ⟨q, oc', hq, h2⟩
  have hk : Keeps (FF s.σ fp) (FF ((s.fresh j (.row e' vs)).set id och).σ (fun q => if q = j then fun k => y.ownBlock = some k else if q = id then fun k => fp id k ∧ y.ownBlock ≠ some k else fp q)) w w :=
    fun p u hp hc => ⟨hc, fun hq => hp (hFs _ hq)⟩
  have hι : ∀ q v, (q == j) = false → ι q = some v → updI ι j y q = some v := kill_is fun q hq => by simp only [updI, if_neg hq]
  have old : ∀ q oc, q ≠ j → q ≠ id → ((s.fresh j (.row e' vs)).set id och).σ q = some oc → ∃ oc', s.σ q = some oc' ∧ oc = killO (fun x => x == j) oc' := by
    intro q oc q1 q2 h1
    simp only [St.set, St.fresh, St.turn, if_neg q1, if_neg q2] at h1
    rw [if_neg (by simpa using q1)] at h1
    cases hq : s.σ q with
    | none => rw [hq] at h1; cases h1
    | some oc' => rw [hq] at h1; simp only [Option.map_some, Option.some.injEq] at h1; exact ⟨oc', rfl, h1.symm⟩
  refine ⟨updI ι j y, fun q => if q = j then fun k => y.ownBlock = some k else if q = id then fun k => fp id k ∧ y.ownBlock ≠ some k else fp q, ⟨fun x => (hI.fr x).kills hι hk, fun q oc hq => ?_, fun q q' oc oc' k h1 h2 d1 d2 => ?_, hI.bel, fun k hk => hI.low k (hFs k hk), updI_fix hI hj y⟩, by simp only [updI, if_true]⟩
  · by_cases q1 : q = j
    · subst q1
      simp only [St.set, St.fresh, St.turn, if_neg hji, if_true, Option.some.injEq] at hq
      subst hq
      simp only [if_true]
      exact ⟨y, by simp [updI], k1, fun k => Iff.rfl⟩
    · simp only [if_neg q1]
      by_cases q2 : q = id
      · subst q2
        simp only [St.set, if_true, Option.some.injEq] at hq
        subst hq
        simp only [if_true]
        exact hnew _ _ (fun q v hq e => by simp only [updI, if_neg hq]; exact e) (by simp [updI])
      · simp only [if_neg q2]
        obtain ⟨oc', ho', rfl⟩ := old q oc q1 q2 hq
        exact (hI.ob q oc' ho').kills (by simpa using q1) hι hk (Nat.le_refl _) fun _ _ => rfl
  · have cl : ∀ q oc, q ≠ j → q ≠ id → ((s.fresh j (.row e' vs)).set id och).σ q = some oc → fp q k → fp id k → False := by
      intro q oc q1 q2 hq a1 a2
      obtain ⟨oc', ho', _⟩ := old q oc q1 q2 hq
      exact q2 (hI.dis _ _ _ _ k ho' hσ a1 a2)
    by_cases q1 : q = j
    · by_cases q1' : q' = j
      · rw [q1, q1']
      · simp only [if_pos q1] at d1
        simp only [if_neg q1'] at d2
        by_cases q2' : q' = id
        · simp only [if_pos q2'] at d2; exact (d2.2 d1).elim
        · simp only [if_neg q2'] at d2; exact (cl q' oc' q1' q2' h2 d2 (k2 k d1)).elim
    · simp only [if_neg q1] at d1
      by_cases q2 : q = id
      · simp only [if_pos q2] at d1
        by_cases q1' : q' = j
        · simp only [if_pos q1'] at d2; exact (d1.2 d2).elim
        · simp only [if_neg q1'] at d2
          by_cases q2' : q' = id
          · rw [q2, q2']
          · simp only [if_neg q2'] at d2; exact (cl q' oc' q1' q2' h2 d2 d1.1).elim
      · simp only [if_neg q2] at d1
        by_cases q1' : q' = j
        · simp only [if_pos q1'] at d2; exact (cl q oc q1 q2 h1 d1 (k2 k d2)).elim
        · simp only [if_neg q1'] at d2
          by_cases q2' : q' = id
          · simp only [if_pos q2'] at d2; exact (cl q oc q1 q2 h1 d1 d2.1).elim
          · simp only [if_neg q2'] at d2
            obtain ⟨o1, ho1, _⟩ := old q oc q1 q2 h1
            obtain ⟨o2, ho2, _⟩ := old q' oc' q1' q2' h2
            exact hI.dis _ _ _ _ k ho1 ho2 d1 d2

theorem OpT.openMod (hT : T.Ok P) {o : Oper} {s : St} {K : LV → St → Prop} {t e e' : Nat} {a : Operand} {id i : Nat} {q : List (Value × List Value)} {p : Value × List Value} (j : Nat) (ho : o.op = .load t a) (ha : evL s a = .pe id (i * 2 + 1)) (hσ : s.σ id = some (.mods e e' q))
    (ht : T.sc t = true) (hi : q[i]? = some p) (hj : 16 ≤ j) (hji : j ≠ id) (hK : K (.own j) ((s.fresh j (.row e' p.2)).set id (.modHole e e' q i (some j)))) : OpT P o s K := by
  intro w0 w ι fp f hI
  have hav := hI.ev a
  rw [ha] at hav
  simp only [LRel] at hav
  obtain ⟨g, n, c, e1, e2⟩ := hav
  obtain ⟨v, y0, g1, _, ⟨hs, g2, g3, g4, g6⟩, g5, _⟩ := hI.ob id _ hσ
  rw [e1] at g1
  simp only [Option.some.injEq] at g1
  subst g1
  have hl := g4.length
  simp only [List.length_map] at hl
  have hil := (List.getElem?_eq_some_iff.1 hi).1
  obtain ⟨y, hy⟩ : ∃ y, hs[i]? = some y := ⟨hs[i]'(by omega), List.getElem?_eq_getElem _⟩
  have hcell : w.cell? ⟨g, i * 2 + 1, none⟩ = some y := by
    have := g2.cells (g := g) rfl (i * 2 + 1) y (inter_one hl hy)
    rwa [add0] at this
  obtain ⟨k1, k2, k3⟩ := g4.at_ i hy
  have hp : (q.map (·.2)).getD i [] = p.2 := by simp [List.getD_eq_getElem?_getD, List.getElem?_map, hi]
  rw [hp] at k1
  have hr : (execOp (evV f) o).run P w = .ok (.value y) w := by
    have := run_loadAt_sc hT ht hcell
    simp [execOp, ho, e2, this]
  rw [hr]
  obtain ⟨ι', fp', h1, h2⟩ := hI.opened (och := .modHole e e' q i (some j)) hσ hj hji k1 (fun k hk => (k2 k hk).1) fun ι' F' ho hy' => ⟨_, y, ho _ _ (fun e => hji e.symm) e1, modHole_ok _ _ _ _, ⟨hs, g2, fun k hk => ⟨g3 k hk, fun e => (k2 k e).2 hk⟩, (g4.hole i hy).mono fun k hk => ⟨⟨hk.1.1, hk.2⟩, hk.1.2⟩, g6, hy⟩, fun k hk => g5 k hk.1, fun x hx => by cases hx; exact hy'⟩
  exact .value _ _ _ _ ι' fp' h1 (by simp only [LRel]; exact h2) hK

theorem Conv.shutMod {s : St} {id e e' i : Nat} {q : List (Value × List Value)} {p : Value × List Value} {vs : List Value} (j : Nat) (hji : j ≠ id) (hi : q[i]? = some p) (hσ : s.σ id = some (.modHole e e' q i (some j))) (hj : s.σ j = some (.row e' vs)) : Conv s (s.shut j id (.mods e e' (q.set i (p.1, vs)))) := by
  intro w0 w ι fp f hI
  obtain ⟨v, y, g1, _, ⟨hs, g2, g3, g4, g6, hy⟩, g5, g7⟩ := hI.ob id _ hσ
  obtain ⟨y', p1, p2, p3⟩ := hI.ob j _ hj
  have := g7 j rfl
  rw [p1] at this
  simp only [Option.some.injEq] at this
  subst this
  have hdis : ∀ k, fp id k → fp j k → False := fun k a b => hji (hI.dis _ _ _ _ k hj hσ b a)
  have hFs : ∀ k, FF (s.shut j id (.mods e e' (q.set i (p.1, vs)))).σ (fun x => if x = id then fun k => fp id k ∨ fp j k else fp x) k → FF s.σ fp k := by
    rintro k ⟨x, oc, h1, h2⟩
    simp only [St.shut] at h1
    by_cases q1 : x = j
    · rw [if_pos q1] at h1; cases h1
    · rw [if_neg q1] at h1
      by_cases q2 : x = id
      · rw [if_pos q2] at h2
        rcases h2 with h2 | h2
        · exact ⟨id, _, hσ, h2⟩
        · exact ⟨j, _, hj, h2⟩
      · rw [if_neg q2] at h1 h2; exact ⟨x, oc, h1, h2⟩
  have hk : Keeps (FF s.σ fp) (FF (s.shut j id (.mods e e' (q.set i (p.1, vs)))).σ (fun x => if x = id then fun k => fp id k ∨ fp j k else fp x)) w w := fun p u hp hc => ⟨hc, fun hq => hp (hFs _ hq)⟩
  refine ⟨ι, fun x => if x = id then fun k => fp id k ∨ fp j k else fp x, fun x => (hI.fr x).keeps (fun _ _ e => e) hk, fun x oc hq => ?_, fun x x' oc oc' k h1 h2 d1 d2 => ?_, hI.bel, fun k hk => hI.low k (hFs k hk), hI.fix⟩
  · simp only [St.shut] at hq
    by_cases q1 : x = j
    · rw [if_pos q1] at hq; cases hq
    · rw [if_neg q1] at hq
      by_cases q2 : x = id
      · subst q2
        simp only [if_true, Option.some.injEq] at hq
        subst hq
        simp only [if_true]
        have hl : hs.length = q.length := by
          have := g4.length
          simpa using this
        have hset : hs.set i y' = hs := by
          refine List.ext_getElem? fun x => ?_
          rw [List.getElem?_set]
          by_cases e : i = x
          · subst e; rw [if_pos rfl, if_pos (List.getElem?_eq_some_iff.1 hy).1, hy]
          · rw [if_neg e]
        have := g4.set (h0 := y') (r := vs) i p2 fun k hk h => hdis k h.1 ((p3 k).2 hk)
        simp only [List.set_set, hset] at this
        have hm : (q.set i (p.1, vs)).map (·.2) = (q.map (·.2)).set i vs := by rw [List.map_set]
        refine ⟨v, nilV, g1, mods_ok _ _ _, ⟨hs, by rw [inter_snd hl hi, List.length_set]; exact g2, fun k hk => .inl (g3 k hk), ?_, fun x hx => ?_⟩, fun k hk => ?_, fun j hj => by cases hj⟩
        · rw [hm]
          refine this.mono ?_
          rintro k (h | h)
          · exact ⟨.inl h.1, h.2⟩
          · exact ⟨.inr ((p3 k).2 h), fun e => hdis k (g3 k e) ((p3 k).2 h)⟩
        · rcases List.mem_or_eq_of_mem_set hx with hx | hx
          · exact g6 x hx
          · subst hx; exact g6 p (List.mem_of_getElem? hi)
        · rcases hk with hk | hk
          · exact g5 k hk
          · exact p2.lt k ((p3 k).1 hk)
      · rw [if_neg q2] at hq
        simp only [if_neg q2]
        exact (hI.ob x oc hq).keeps (fun _ _ e => e) hk (Nat.le_refl _) fun _ _ => rfl
  · simp only [St.shut] at h1 h2
    by_cases q1 : x = j
    · rw [if_pos q1] at h1; cases h1
    · by_cases q1' : x' = j
      · rw [if_pos q1'] at h2; cases h2
      · rw [if_neg q1] at h1
        rw [if_neg q1'] at h2
        by_cases q2 : x = id
        · by_cases q2' : x' = id
          · rw [q2, q2']
          · simp only [if_pos q2] at d1
            simp only [if_neg q2'] at d2
            rw [if_neg q2'] at h2
            rcases d1 with d1 | d1
            · exact (q2' (hI.dis _ _ _ _ k h2 hσ d2 d1)).elim
            · exact (q1' (hI.dis _ _ _ _ k h2 hj d2 d1)).elim
        · simp only [if_neg q2] at d1
          rw [if_neg q2] at h1
          by_cases q2' : x' = id
          · simp only [if_pos q2'] at d2
            rcases d2 with d2 | d2
            · exact (q2 (hI.dis _ _ _ _ k h1 hσ d1 d2)).elim
            · exact (q1 (hI.dis _ _ _ _ k h1 hj d1 d2)).elim
          · simp only [if_neg q2'] at d2
            rw [if_neg q2'] at h2
            exact hI.dis _ _ _ _ k h1 h2 d1 d2

/-! ### An object is given another number -/
mutual
theorem kill_kill (q q' : Nat → Bool) : ∀ x : LV, kill q (kill q' x) = kill (fun j => q j || q' j) x
  | .agg l => by simp only [kill, kills_kills q q' l]
  | .rdL l => by simp only [kill, kills_kills q q' l]
  | .tup l => by simp only [kill, kills_kills q q' l]
  | .box l => by simp only [kill, kills_kills q q' l]
  | .rdA _ l => by simp only [kill, kills_kills q q' l]
  | .pc x => by simp only [kill, kill_kill q q' x]
  | .own id => by
    by_cases h : q' id = true
    · simp [kill, h]
    · by_cases h2 : q id = true <;> simp [kill, h, h2]
  | .ptr id off => by
    by_cases h : q' id = true
    · simp [kill, h]
    · by_cases h2 : q id = true <;> simp [kill, h, h2]
  | .pe id i => by
    by_cases h : q' id = true
    · simp [kill, h]
    · by_cases h2 : q id = true <;> simp [kill, h, h2]
  | .sub id i n => by
    by_cases h : q' id = true
    · simp [kill, h]
    · by_cases h2 : q id = true <;> simp [kill, h, h2]
  | .fn g caps => by simp only [kill, kills_kills q q' caps]
  | .v x => by simp only [kill]
  | .junk => by simp only [kill]
  | .rd vs => by simp only [kill]
  | .rds t => by simp only [kill]
theorem kills_kills (q q' : Nat → Bool) : ∀ l : List LV, kills q (kills q' l) = kills (fun j => q j || q' j) l
  | [] => by simp only [kills]
  | x :: l => by simp only [kills, kill_kill q q' x, kills_kills q q' l]
end
theorem Inv.moveV {w0 : Base} {w : World} {ι : Nat → Option Value} {fp : Nat → Nat → Prop} {s : St} {f : Nat → Value} (hI : Inv w0 w ι fp s f) {i m : Nat} {oc : OC} {v : Value} (hm : 16 ≤ m) (hi : s.σ i = some oc) (hp : rowish oc = true) (hv : ι i = some v) : ∃ ι' fp', Inv w0 w ι' fp' (s.turn (fun q => q == m || q == i) m oc) f ∧ ι' m = some v := by
  have hob : ∀ F', ORel (updI ι m v) F' w 0 (fp i) m oc := by
    have := hI.ob i _ hi
    cases oc with
    | row e vs => obtain ⟨v', g1, g2, g3⟩ := this; rw [hv] at g1; cases g1; exact fun F' => ⟨v, updI_self _ _ _, g2, g3⟩
    | rows e e' t => obtain ⟨v', hs, g1, g2, g3, g4, g5⟩ := this; rw [hv] at g1; cases g1; exact fun F' => ⟨v, hs, updI_self _ _ _, g2, g3, g4, g5⟩
    | cells t l => cases hp
    | rowL e l => cases hp
    | hole e e' t i j => cases hp
    | late e vs => cases hp
    | ghost vs => cases hp
    | cust A r k => cases k with
      | some k => cases hp
      | none => obtain ⟨v', y, g1, g2, g3, g4, g5⟩ := this; rw [hv] at g1; cases g1; exact fun F' => ⟨v, y, updI_self _ _ _, g2, g3, g4, fun j hj => by cases hj⟩
  exact ⟨_, _, hI.turn (w' := w) (ι' := updI ι m v) (fun q => q == m || q == i) m oc (fp i) rfl rfl rfl (Nat.le_refl _) (fun k hk hn => rfl) (fun k hk => .inl ⟨i, oc, .inr (by simp), hi, hk⟩) (fun q u hq e => by
    simp only [Bool.or_eq_false_iff, beq_eq_false_iff_ne, ne_eq] at hq
    simp only [updI, if_neg hq.1]; exact e) (updI_fix hI hm v) (fun _ => hob _), updI_self _ _ _⟩
theorem Conv.moveO {s : St} {i : Nat} {oc : OC} (t m : Nat) (hm : 16 ≤ m) (ht : s.lf t = .own i) (hi : s.σ i = some oc) (hp : rowish oc = true) : Conv s ((s.turn (fun q => q == m || q == i) m oc).put (some t) (.own m)) := by
  intro w0 w ι fp f hI
  have hv := hI.fr t
  rw [ht] at hv
  simp only [LRel] at hv
  obtain ⟨ι', fp', h1, h2⟩ := hI.moveV hm hi hp hv
  refine ⟨ι', fp', ?_⟩
  have hput := h1.put (some t) (x := .own m) (v := f t) (by simp only [LRel]; exact h2)
  have e1 : putV f (some t) (f t) = f := by funext i; simp only [putV, updV]; split <;> simp_all
  rw [e1] at hput
  exact hput
/-- The result of an operation is an object that is given another number. -/
theorem OpT.moved {o : Oper} {s s1 : St} {K : LV → St → Prop} {i m : Nat} {oc : OC} (hm : 16 ≤ m) (h : OpT P o s fun r s' => r = .own i ∧ s' = s1) (hi : s1.σ i = some oc) (hp : rowish oc = true) (hK : K (.own m) (s1.turn (fun q => q == m || q == i) m oc)) : OpT P o s K := by
  intro w0 w ι fp f hI
  have H := h w0 w ι fp f hI
  generalize (execOp (evV f) o).run P w = R at H
  cases H with
  | value r s' v w' ι' fp' hI' hr hK' =>
    obtain ⟨rfl, rfl⟩ := hK'
    simp only [LRel] at hr
    obtain ⟨ι2, fp2, hI2, h2⟩ := hI'.moveV hm hi hp hr
    exact .value _ _ v w' ι2 fp2 hI2 (by simp only [LRel]; exact h2) hK
  | skip s' w' ι' fp' hI' hK' => cases hK'.1
  | enter g args w' hcall =>
    refine .enter _ _ _ (hcall.mono ?_)
    rintro e w2 ⟨r, s', v, ι', fp', rfl, hI', hr, rfl, rfl⟩
    simp only [LRel] at hr
    obtain ⟨ι2, fp2, hI2, h2⟩ := hI'.moveV hm hi hp hr
    exact ⟨_, _, v, ι2, fp2, rfl, hI2, by simp only [LRel]; exact h2, hK⟩
theorem OpT.callMM {o : Oper} {s : St} {K : LV → St → Prop} {fo : Operand} {av : Array Operand} {ts : Array TypeId} {g : Nat} {caps : List LV} {args : List LV} {r : LV} {os : List OC} {os' : List (Option OC)} {i : Nat} {oc : OC} (d : Nat) (is : List Nat) (m : Nat) (hm : 16 ≤ m) (ho : o.op = .call { callee := .value fo, args := av, argTypes := ts })
    (hf : evL s fo = .fn g caps) (hs : SpecM P g args os r os') (ha : toMs s.σ is (av.toList.map (evL s) ++ caps) = args) (hos : (is.map fun i => (s.σ i).map (toMO s.σ is)) = os.map some) (hnd : is.Nodup) (hsh : is.all (fun i => !isShift d i) = true) (hp : plainL r = true) (hpo : os.all plainO3 = true) (hpo' : os'.all (fun o => o.all plainO2) = true) (hl' : os'.length ≤ 16)
    (hr : ren (idM is d) r = .own i) (hi : (s.back d is os').σ i = some oc) (hro : rowish oc = true) (hK : K (.own m) ((s.back d is os').turn (fun q => q == m || q == i) m oc)) : OpT P o s K :=
  OpT.moved hm (OpT.callM (K := fun r' s' => r' = .own i ∧ s' = s.back d is os') d is ho hf hs ha hos hnd (fun i hi => by simpa using List.all_eq_true.1 hsh i hi) hp hpo (fun oc hoc => by have := List.all_eq_true.1 hpo' _ hoc; simpa using this) hl' ⟨hr, rfl⟩) hi hro hK

/-- Nil slices in a slot are a list of structs of the call's own. -/
theorem Conv.nilMods {s : St} (j id e e' : Nat) (hid : 16 ≤ id) : Conv s ((s.fresh id (.mods e e' [])).put (some j) (nilSub id ((s.fresh id (.mods e e' [])).lf j))) := by
  intro w0 w ι fp f hI
  have h := hI.turn (w' := w) (ι' := updI ι id nilV) (fun i => i == id) id (.mods e e' []) (fun _ => False) rfl rfl rfl (Nat.le_refl _) (fun k hk hn => rfl) (fun k hk => hk.elim) (kill_is fun j hj => by simp only [updI, if_neg hj]) (updI_fix hI hid nilV)
    (fun hk => ⟨nilV, nilV, updI_self _ _ _, mods_ok _ _ _, ⟨[], World.ownsRow_nil _ _ _ _, fun k hk => by simp [nilV, Value.ownBlock] at hk, rfl, fun p hp => by cases hp⟩, fun k hk => hk.elim, fun j hj => by cases hj⟩)
  refine ⟨updI ι id nilV, fun j => if j = id then fun _ => False else fp j, ?_⟩
  have hf := LRel.nilSub (updI_self ι id nilV) (h.fr j)
  have := h.put (some j) hf
  have e : putV f (some j) (f j) = f := by funext i; simp only [putV, updV]; split <;> simp_all
  rw [e] at this
  exact this

theorem OpP.indexSub {o : Oper} {ρ : Operand → LV} {σ : Nat → Option OC} (hT : T.Ok P) {t e : Nat} {z : Value} {bts : Nat} {x y : Operand} {id i m : Nat} {k : IntKind} {jj : Int} (ho : o.op = .indexAddr t x y) (ht : T.el t = some (e, z, bts)) (hx : ρ x = .sub id i m) (hy : ρ y = .v (.int k jj)) (h0 : 0 ≤ jj) (hjj : jj < m) : OpP P o ρ σ (.pe id (i + jj.toNat)) := by
  obtain ⟨j, rfl⟩ := Int.eq_ofNat_of_zero_le h0
  have hj : j < m := by omega
  simp only [Int.toNat_natCast]
  intro w0 w ι fp s f hI hS hρ
  obtain ⟨hu, ti, hi, hz, hsz, hby, hzc⟩ := hT.el t e z bts ht
  have hv := hI.ev x
  rw [hρ x (by simp [ho, Op.operands]), hx] at hv
  have hv2 := hI.ev y
  rw [hρ y (by simp [ho, Op.operands]), hy] at hv2
  simp only [LRel] at hv hv2
  obtain ⟨A, N, c, h1, h2, A', hv, h3, h4⟩ := hv
  obtain ⟨g, rfl, rfl⟩ := h4 (by omega)
  have hue : P.underlying t = some (.slice (P.elem t)) := by
    have : P.elem t = e := by simp [Program.elem, hu]
    rw [this]; exact hu
  have hes : P.elem t = e := by simp [Program.elem, hu]
  have hszr : (sizeOf e).run P w = .ok 1 w := by simp [sizeOf, typeInfo, hi, hsz]
  have hr : (execOp (evV f) o).run P w = .ok (.value (.pointer (some ⟨g, i + j, none⟩))) w := by
    simp only [execOp, ho, hv, hv2, Sem.run_bind]
    rw [run_indexAt_slice _ _ _ _ _ _ _ hue, if_pos ⟨by omega, by omega⟩, hes, hszr]
    simp only [Result.andThen_ok, Sem.run_pure]
    congr 4
    unfold Addr.add; split <;> simp_all
  rw [hr]
  refine .value _ s _ w ι fp hI ?_ ⟨rfl, rfl⟩
  simp only [LRel]
  exact ⟨g, N, c, h1, rfl⟩
theorem set_selfW {α : Type} : ∀ (l : List α) (j : Nat) (y : α), l[j]? = some y → l.set j y = l
  | [], _, _, h => by simp at h
  | x :: l, 0, y, h => by simp at h; simp [h]
  | x :: l, j + 1, y, h => by simp only [List.set_cons_succ]; rw [set_selfW l j y (by simpa using h)]
/-- In a variable lies a part of a row that is the whole of it: it is the row. -/
theorem Conv.subCellW {s : St} {c tt id e : Nat} {l : List LV} {vs : List Value} (j : Nat) (hc : s.σ c = some (.cells tt l)) (hj : l[j]? = some (.sub id 0 vs.length)) (hσ : s.σ id = some (.row e vs)) : Conv s (s.set c (.cells tt (l.set j (.own id)))) := by
  intro w0 w ι fp f hI
  refine ⟨ι, fp, ?_⟩
  have hFF : FF (s.set c (.cells tt (l.set j (.own id)))).σ fp = FF s.σ fp := by
    funext k
    apply propext
    constructor
    · rintro ⟨i, oc, h1, h2⟩
      by_cases e1 : i = c
      · subst e1; exact ⟨_, _, hc, h2⟩
      · simp only [St.set, if_neg e1] at h1; exact ⟨i, oc, h1, h2⟩
    · rintro ⟨i, oc, h1, h2⟩
      by_cases e1 : i = c
      · subst e1; exact ⟨_, _, by simp only [St.set, if_pos]; rfl, h2⟩
      · exact ⟨i, oc, by simp only [St.set, if_neg e1]; exact h1, h2⟩
  refine ⟨fun i => ?_, fun i oc hi => ?_, fun i i' oc oc' k h1 h2 h3 h4 => ?_, hI.bel, fun k hk => hI.low k (by rwa [hFF] at hk), hI.fix⟩
  · rw [hFF]; exact hI.fr i
  · rw [hFF]
    by_cases e1 : i = c
    · subst e1
      simp only [St.set, if_true, Option.some.injEq] at hi
      subst hi
      obtain ⟨b, ys, g1, g2, g3, g4, g5⟩ := hI.ob _ _ hc
      refine ⟨b, ys, g1, g2, g3, g4, ?_⟩
      obtain ⟨y, hy, hr⟩ := g5.get j _ hj
      simp only [LRel] at hr
      obtain ⟨A, N, cc, k1, k2, A', k3, k4, k5⟩ := hr
      obtain ⟨v, q1, q2, q3⟩ := hI.ob id _ hσ
      rw [k1] at q1
      simp only [Option.some.injEq] at q1
      obtain ⟨A2, c2, q4⟩ := own_len q2
      rw [← q1] at q4
      simp only [Value.slice.injEq] at q4
      have hown : LRel ι (FF s.σ fp) w (.own id) y := by
        simp only [LRel]
        rw [k1, k3, k4 trivial, q4.2.1, Nat.sub_zero]
      have := g5.set hown j
      rwa [set_selfW _ _ _ hy] at this
    · simp only [St.set, if_neg e1] at hi
      exact hI.ob i oc hi
  · have key : ∀ i oc, (s.set c (.cells tt (l.set j (.own id)))).σ i = some oc → ∃ oc', s.σ i = some oc' := fun i oc h => by
      by_cases e1 : i = c
      · subst e1; exact ⟨_, hc⟩
      · simp only [St.set, if_neg e1] at h; exact ⟨_, h⟩
    obtain ⟨o1, p1⟩ := key i oc h1
    obtain ⟨o2, p2⟩ := key i' oc' h2
    exact hI.dis i i' o1 o2 k p1 p2 h3 h4
/-! ### The walk's words -/
section
variable {n : Nat} {all : Array Oper} {o : Oper} {l : List Oper} {s : St} {k : Kont}
theorem HereO.appendMods (hT : T.Ok P) {t e e' : Nat} {a b : Operand} {id j : Nat} {q : List (Value × List Value)} {m : Value} {vs : List Value} (ho : o.op = .call { callee := .builtin .append, args := #[a, b], argTypes := #[t, t] })
    (ht : Sl2m P t e) (ha : evL s a = .own id) (hid : 16 ≤ id) (hσ : s.σ id = some (.mods e e' q)) (hb : evL s b = .rdA 2 [.v m, .own j]) (hj : s.σ j = some (.row e' vs)) (hjid : j ≠ id) (hm1 : m.oneCell' = true) (hlen : q.length + 1 ≤ 1099511627776)
    (h : OpsV P T n all l ((s.turn (fun i => i == id || i == j) id (.mods e e' (q ++ [(m, vs)]))).put o.dst (.own id)) k) : HereO P T n all o l s k :=
  HereO.of hT h fun hK => OpT.appendMods ho ht ha hid hσ hb hj hjid hm1 hlen hK
theorem HereO.makeMods (hT : T.Ok P) {t e : Nat} (e' : Nat) (ho : o.op = .buildSlice t 0 #[]) (ht : Sl2m P t e) (id : Nat) (hid : 16 ≤ id) (h : OpsV P T n all l ((s.fresh id (.mods e e' [])).put o.dst (.own id)) k) : HereO P T n all o l s k :=
  HereO.of hT h fun hK => OpT.makeMods e' ho ht id hid hK
theorem HereO.storeMod (hT : T.Ok P) {t e e' : Nat} {a x : Operand} {id i : Nat} {q : List (Value × List Value)} {p : Value × List Value} {u : Value} (ho : o.op = .store t a x) (ha : evL s a = .pe id (i * 2)) (hσ : s.σ id = some (.mods e e' q))
    (ht : T.sc t = true) (hx : evL s x = .v u) (h1 : u.oneCell' = true) (hi : q[i]? = some p) (h : OpsV P T n all l ((s.set id (.mods e e' (q.set i (u, p.2)))).put o.dst .junk) k) : HereO P T n all o l s k :=
  HereO.of hT h fun hK => OpT.storeMod hT ho ha hσ ht hx h1 hi hK
theorem HereO.openMod (hT : T.Ok P) {t e e' : Nat} {a : Operand} {id i : Nat} {q : List (Value × List Value)} {p : Value × List Value} (j : Nat) (ho : o.op = .load t a) (ha : evL s a = .pe id (i * 2 + 1)) (hσ : s.σ id = some (.mods e e' q))
    (ht : T.sc t = true) (hi : q[i]? = some p) (hj : 16 ≤ j) (hji : j ≠ id) (h : OpsV P T n all l (((s.fresh j (.row e' p.2)).set id (.modHole e e' q i (some j))).put o.dst (.own j)) k) : HereO P T n all o l s k :=
  HereO.of hT h fun hK => OpT.openMod hT j ho ha hσ ht hi hj hji hK
theorem HereO.callMM (hT : T.Ok P) {fo : Operand} {av : Array Operand} {ts : Array TypeId} {g : Nat} {caps : List LV} {args : List LV} {r : LV} {os : List OC} {os' : List (Option OC)} {i : Nat} {oc : OC} (d : Nat) (is : List Nat) (m : Nat) (hm : 16 ≤ m) (ho : o.op = .call { callee := .value fo, args := av, argTypes := ts })
    (hf : evL s fo = .fn g caps) (hs : SpecM P g args os r os') (ha : toMs s.σ is (av.toList.map (evL s) ++ caps) = args) (hos : (is.map fun i => (s.σ i).map (toMO s.σ is)) = os.map some) (hnd : is.Nodup) (hsh : is.all (fun i => !isShift d i) = true) (hp : plainL r = true) (hpo : os.all plainO3 = true) (hpo' : os'.all (fun o => o.all plainO2) = true) (hl' : os'.length ≤ 16)
    (hr : ren (idM is d) r = .own i) (hi : (s.back d is os').σ i = some oc) (hro : rowish oc = true) (h : OpsV P T n all l (((s.back d is os').turn (fun q => q == m || q == i) m oc).put o.dst (.own m)) k) : HereO P T n all o l s k :=
  HereO.of hT h fun hK => OpT.callMM d is m hm ho hf hs ha hos hnd hsh hp hpo hpo' hl' hr hi hro hK
end
section
variable {K : List Nat} {G : (Nat → Option OC) → Prop} {n : Nat} {all : Array Oper} {ms : List Md} {o : Oper} {l : List Oper} {s : St} {k : Kont}
theorem inK_mm {d m i : Nat} (h1 : K.contains m = true) (h2 : K.contains i = true) (h : ((List.range 16).all fun i => K.contains (1000 + 16 * d + i)) = true) : inK K (fun j => (j == m || j == i) || isShift d j) := fun j hj => by
  simp only [Bool.or_eq_true, beq_iff_eq] at hj
  rcases hj with (rfl | rfl) | hj
  · exact h1
  · exact h2
  · exact inK_shift h j hj
theorem HereC.callMM {fo : Operand} {av : Array Operand} {ts : Array TypeId} {g : Nat} {caps : List LV} {args : List LV} {r : LV} {os : List OC} {os' : List (Option OC)} {i : Nat} {oc : OC} (d : Nat) (is : List Nat) (m : Nat) (hm : 16 ≤ m) (ho : o.op = .call { callee := .value fo, args := av, argTypes := ts })
    (hf : evL s fo = .fn g caps) (hs : SpecM P g args os r os') (ha : toMs s.σ is (av.toList.map (evL s) ++ caps) = args) (hos : (is.map fun i => (s.σ i).map (toMO s.σ is)) = os.map some) (hnd : is.Nodup) (hsh : is.all (fun i => !isShift d i) = true) (hp : plainL r = true) (hpo : os.all plainO3 = true) (hpo' : os'.all (fun o => o.all plainO2) = true) (hl' : os'.length ≤ 16)
    (hr : ren (idM is d) r = .own i) (hi : (s.back d is os').σ i = some oc) (hro : rowish oc = true) (hk : inK K (fun j => (j == m || j == i) || isShift d j)) (hG : G ((s.back d is os').turn (fun q => q == m || q == i) m oc).σ)
    (h : SV P T K G n all ms l (((s.back d is os').turn (fun q => q == m || q == i) m oc).put o.dst (.own m)) k) : HereC P T K G n all ms o l s k := by
  have e1 : ∀ t, kill (fun j => (j == m || j == i) || isShift d j) (s.lf t) = ((s.back d is os').turn (fun q => q == m || q == i) m oc).lf t := fun t => by
    rw [← kill_kill (fun q => q == m || q == i) (isShift d)]; rfl
  refine ⟨fun j => (j == m || j == i) || isShift d j, ((s.back d is os').turn (fun q => q == m || q == i) m oc).σ, .own m, hk, hG, fun s' hs' hx' => ?_, ?_⟩
  · have hf' : evL s' fo = .fn g caps := by rw [hx' fo (by simp [ho, Op.operands, Call.operands]), hf]
    have has : av.toList.map (evL s') = av.toList.map (evL s) := List.map_congr_left fun x hx => hx' x (by simp [ho, Op.operands, Call.operands]; exact .inr (by simpa using hx))
    refine OpT.callMM (i := i) (oc := oc) d is m hm ho hf' hs (by rw [hs', has, ha]) (by rw [hs']; exact hos) hnd hsh hp hpo hpo' hl' hr (by simp only [St.back] at hi ⊢; rw [hs']; exact hi) hro ⟨rfl, ?_⟩
    unfold St.turn St.back
    dsimp only
    rw [hs']
    congr 1
    funext t
    rw [← kill_kill (fun q => q == m || q == i) (isShift d)]
  · have : (⟨fun t => kill (fun j => (j == m || j == i) || isShift d j) (s.lf t), ((s.back d is os').turn (fun q => q == m || q == i) m oc).σ⟩ : St) = (s.back d is os').turn (fun q => q == m || q == i) m oc := by
      cases h0 : (s.back d is os').turn (fun q => q == m || q == i) m oc with
      | mk lf σ =>
        congr 1
        funext t
        rw [e1 t, h0]
    rw [this]
    exact h
end
section
variable {n : Nat} {all : Array Oper} {o : Oper} {l : List Oper} {s : St} {k : Kont}
/-- A call that hands back nothing, behind which the state is told in other words. -/
theorem HereO.callQT (hT : T.Ok P) {fo : Operand} {xs : Array Operand} {ts : Array TypeId} {g : Nat} {caps : List LV} {args : List LV} {os : List OC} {κ : Type} {out : κ → List (Option OC)} {Q : κ → Prop} {s2 : κ → St} (d : Nat) (is : List Nat) (ho : o.op = .call { callee := .value fo, args := xs, argTypes := ts })
    (hf : evL s fo = .fn g caps) (hs : SpecQ P g args os (fun _ => .tup []) out Q) (ha : toMs s.σ is (xs.toList.map (evL s) ++ caps) = args) (hos : (is.map fun i => (s.σ i).map (toMO s.σ is)) = os.map some) (hnd : is.Nodup) (hsh : is.all (fun i => !isShift d i) = true) (hpo : os.all plainO3 = true) (hpo' : ∀ y, (out y).all (fun o => o.all plainO2) = true) (hl' : ∀ y, (out y).length ≤ 16)
    (hc : ∀ y, Q y → Conv (s.back d is (out y)) (s2 y)) (h : ∀ y, Q y → OpsV P T n all l ((s2 y).put o.dst (.tup [])) k) : HereO P T n all o l s k := by
  refine HereO.of_all hT (K := fun r s' => ∃ y, Q y ∧ r = .tup [] ∧ s' = s2 y) ?_ (by rintro r s' ⟨y, hy, rfl, rfl⟩; exact h y hy)
  intro w0 w ι fp f hI
  have H := OpT.callR (K := fun r s' => ∃ y, Q y ∧ r = ren (idM is d) (.tup []) ∧ s' = s.back d is (out y)) d is ho hf hs ha hos hnd (fun i hi => by simpa using List.all_eq_true.1 hsh i hi) hpo
    (by rintro _ _ ⟨y, _, rfl, rfl⟩; exact ⟨rfl, fun oc hoc => by have := List.all_eq_true.1 (hpo' y) _ hoc; simpa using this, hl' y⟩) (by rintro _ _ ⟨y, hy, rfl, rfl⟩; exact ⟨y, hy, rfl, rfl⟩) w0 w ι fp f hI
  generalize (execOp (evV f) o).run P w = R at H
  cases H with
  | value r s' v w' ι' fp' hI' hr hK' =>
    obtain ⟨y, hy, rfl, rfl⟩ := hK'
    obtain ⟨ι2, fp2, hI2⟩ := hc y hy _ _ _ _ _ hI'
    exact .value _ _ v w' ι2 fp2 hI2 (by simp only [ren, rens, LRel, LRels] at hr ⊢; exact hr) ⟨y, hy, rfl, rfl⟩
  | skip s' w' ι' fp' hI' hK' => obtain ⟨y, hy, h1, _⟩ := hK'; simp only [ren] at h1; cases h1
  | enter g args w' hcall =>
    refine .enter _ _ _ (hcall.mono ?_)
    rintro e w2 ⟨r, s', v, ι', fp', rfl, hI', hr, y, hy, rfl, rfl⟩
    obtain ⟨ι2, fp2, hI2⟩ := hc y hy _ _ _ _ _ hI'
    exact ⟨_, _, v, ι2, fp2, rfl, hI2, by simp only [ren, rens, LRel, LRels] at hr ⊢; exact hr, y, hy, rfl, rfl⟩
end
end
theorem kills_flatq (f : Nat → Bool) : ∀ q : List (Value × List Value), kills f (flat (lvq q)) = flat (lvq q)
  | [] => rfl
  | p :: q => by have := kills_flatq f q; simp only [lvq, List.map_cons, flat, kills, kill] at this ⊢; rw [this]
theorem rens_flatq (f : Nat → Nat) : ∀ q : List (Value × List Value), rens f (flat (lvq q)) = flat (lvq q)
  | [] => rfl
  | p :: q => by have := rens_flatq f q; simp only [lvq, List.map_cons, flat, rens, ren] at this ⊢; rw [this]
theorem closeAs_flatq (σ : Nat → Option OC) : ∀ q : List (Value × List Value), closeAs σ (flat (lvq q)) = flat (lvq q)
  | [] => rfl
  | p :: q => by have := closeAs_flatq σ q; simp only [lvq, List.map_cons, flat, closeAs, closeA] at this ⊢; rw [this]
theorem closeBs_flatq (σ : Nat → Option OC) : ∀ q : List (Value × List Value), closeBs σ (flat (lvq q)) = flat (lvq q)
  | [] => rfl
  | p :: q => by have := closeBs_flatq σ q; simp only [lvq, List.map_cons, flat, closeBs, closeB] at this ⊢; rw [this]
theorem toAs_flatq (σ : Nat → Option OC) (is : List Nat) : ∀ q : List (Value × List Value), toAs σ is (flat (lvq q)) = flat (lvq q)
  | [] => rfl
  | p :: q => by have := toAs_flatq σ is q; simp only [lvq, List.map_cons, flat, toAs, toA] at this ⊢; rw [this]
theorem toMs_flatq (σ : Nat → Option OC) (is : List Nat) : ∀ q : List (Value × List Value), toMs σ is (flat (lvq q)) = flat (lvq q)
  | [] => rfl
  | p :: q => by have := toMs_flatq σ is q; simp only [lvq, List.map_cons, flat, toMs, toM] at this ⊢; rw [this]
attribute [go_sem] Option.filter_none kills_flatq rens_flatq closeAs_flatq closeBs_flatq toAs_flatq toMs_flatq
end Go.Proofs.Ytipdgkohfmpilaa
