/- A calculus of verification conditions over logical values: slices within their capacity; a closure that captures the variable it lies in. -/
import Derived.Test.YtcjhojdlfnpgjaaGreatK11
set_option linter.unusedVariables false
set_option linter.unusedSimpArgs false
set_option maxRecDepth 100000
namespace Go.Proofs.YtcjhojdlfnpgjaaGreat
open Go.RowKit
section
variable {P : Program} {T : TT}
theorem OpT.makeSub (hT : T.Ok P) {o : Oper} {s : St} {K : LV → St → Prop} {t e : Nat} {z : Value} {bts : Nat} {x y : Operand} {kk : IntKind} {m : Nat} (ho : o.op = .makeSlice t x y) (ht : T.el t = some (e, z, bts)) (hx : evL s x = .v (.int kk 0)) (hy : evL s y = .v (.int kk m)) (hm : m ≤ 4294967296) (hb : bts ≤ 64)
    (id : Nat) (hid : 16 ≤ id) (hK : K (.sub id 0 0) (s.fresh id (.row e (List.replicate m z)))) : OpT P o s K := by
  intro w0 w ι fp f hI
  have hxv := hI.ev x
  have hyv := hI.ev y
  rw [hx] at hxv
  rw [hy] at hyv
  simp only [LRel] at hxv hyv
  obtain ⟨hu, i, hi, hz, hs, rfl, hzc⟩ := hT.el t e z bts ht
  have hbm : i.bytes * m ≤ 281474976710656 := by
    have := Nat.mul_le_mul hb (show m ≤ 4294967296 by omega)
    omega
  have hr := run_make (P := P) w t e i z hu hi hz kk kk 0 m (by omega) (by omega) (by omega) (by omega)
  simp only [hs, Nat.mul_one, hzc] at hr
  have hr' : (execOp (evV f) o).run P w = .ok (.value (.slice (some ⟨w.heap.size, 0, none⟩) 0 m)) (w.alloc (.cells (madeCells #[z] m) e)) := by
    simp only [execOp, ho, hxv, hyv, Sem.run_bind, hr, Result.andThen_ok, Sem.run_pure, Int.toNat_natCast]
    rfl
  rw [hr']
  have hown := World.ownsRow_lit (base := 0) (size := 1) (e := e) w (madeCells #[z] m) m (Nat.zero_le _) (by simp only [maxLen]; omega) (by rw [size_madeCells]; omega)
  rw [toList_madeCells_one] at hown
  refine .value _ _ _ _ _ _ (hI.fresh hid _ (.slice (some ⟨w.heap.size, 0, none⟩) m m) (.row e (List.replicate m z)) (fun k => k = w.heap.size) (fun _ h => h) fun _ => ?_) ?_ hK
  · exact ⟨_, updI_self _ _ _, by rw [List.length_replicate]; exact hown, fun k => by simp [Value.ownBlock, eq_comm]⟩
  · simp only [LRel]
    exact ⟨_, m, m, updI_self _ _ _, by omega, _, rfl, fun _ => rfl, fun h => absurd h (by omega)⟩
theorem run_append_in (hT : T.Ok P) {t e : Nat} {z : Value} {bts : Nat} (ht : T.el t = some (e, z, bts)) (w : World) (ty : Nat) {g n cap : Nat} {v u : Value} {a : Addr} {c : Nat} (hn : n + 1 ≤ cap) (ha : w.cell? (a.add 0) = some u) (h1 : u.oneCell' = true) (hcell : w.cell? ⟨g, n, none⟩ = some v) (hfr : w.frozen? ⟨g, n, none⟩ = false) :
    (Builtin.append_ #[t, t] ty #[.slice (some ⟨g, 0, none⟩) n cap, .slice (some a) 1 c]).run P w = .ok (.slice (some ⟨g, 0, none⟩) (n + 1) cap) (w.setCell ⟨g, n, none⟩ u) := by
  obtain ⟨hu, i, hi, hz, hs, rfl, hzc⟩ := hT.el t e z bts ht
  have ha' : w.cell? a = some u := by simpa [Addr.add] using ha
  simp [Builtin.append_, run_underlying hu, sizeOf, typeInfo, hi, hs, Builtin.lenOf, Builtin.firstCells, loadCells, loadCellsFrom, hn, storeCells]
  rw [ha]
  have hz0 : ∀ x : Addr, x.add 0 = x := fun x => by simp [Addr.add]
  simp [storeCells, add0, hz0, run_store P w _ u _ h1, hcell, hfr]
theorem OpT.appendSub (hT : T.Ok P) {o : Oper} {s : St} {K : LV → St → Prop} {t e : Nat} {z : Value} {bts : Nat} {a b : Operand} {id n : Nat} {vs : List Value} {u : Value} (ho : o.op = .call { callee := .builtin .append, args := #[a, b], argTypes := #[t, t] })
    (ht : T.el t = some (e, z, bts)) (ha : evL s a = .sub id 0 n) (hσ : s.σ id = some (.row e vs)) (hnw : News s id (evL s b) [u]) (h1 : u.oneCell' = true) (hn : n < vs.length)
    (hK : K (.sub id 0 (n + 1)) (s.set id (.row e (vs.set n u)))) : OpT P o s K := by
  intro w0 w ι fp f hI
  have hav := hI.ev a
  rw [ha] at hav
  simp only [LRel] at hav
  obtain ⟨A, N, c, e1, hle, A', e2, hA', hp'⟩ := hav
  obtain ⟨v, g1, g2, g3⟩ := hI.ob id _ hσ
  rw [e1] at g1
  simp only [Option.some.injEq] at g1
  subst g1
  obtain ⟨g, cap, e3, hcell⟩ := own_cell g2 hn
  simp only [Value.slice.injEq] at e3
  obtain ⟨rfl, rfl, rfl⟩ := e3
  have hcl : vs.length ≤ c := by
    obtain ⟨A2, c2, e4, h4, _⟩ := own_RS g2
    simp only [Value.slice.injEq] at e4
    obtain ⟨_, _, rfl⟩ := e4
    exact h4
  obtain ⟨B, c2, e4, hB⟩ := hnw.cells hI (hI.ev b)
  obtain ⟨ad, rfl, hc⟩ := hB (by simp)
  have hr := run_append_in (P := P) hT ht w o.type (g := g) (n := n) (cap := c) (c := c2) (v := dv vs n) (u := u) (by omega) (hc 0 u rfl) h1 hcell (g2.frozenAt n)
  have hr' : (execOp (evV f) o).run P w = .ok (.value (.slice (some ⟨g, 0, none⟩) (n + 1) c)) (w.setCell ⟨g, n, none⟩ u) := by
    have e5 : evV f a = .slice (some ⟨g, 0, none⟩) n c := by rw [e2, hA' trivial]; rfl
    simp only [execOp, ho, resolve, invoke, builtin, Sem.run_bind, Sem.run_pure, Result.andThen_ok, List.map_toArray, List.map_cons, List.map_nil, e5, e4, List.length_cons, List.length_nil, Nat.zero_add, hr]
  rw [hr']
  refine .value _ _ _ _ _ _ (hI.setRow hσ e1 n u) ?_ hK
  simp only [LRel]
  exact ⟨_, _, c, e1, by omega, _, rfl, fun _ => rfl, fun _ => ⟨g, rfl, rfl⟩⟩
def knotX (g : Nat) (caps : List LV) : Nat → LV
  | 0 => .junk
  | k + 1 => .box [.fn g (caps ++ [knotX g caps k])]
theorem LRels.last {ι : Nat → Option Value} {F F' : Nat → Prop} {w : World} {x x' : LV} (hk : Keeps F F' w w) (hx : ∀ v, LRel ι F w x v → LRel ι F' w x' v) : ∀ {l : List LV} {vs : List Value}, LRels ι F w (l ++ [x]) vs → LRels ι F' w (l ++ [x']) vs
  | [], vs, h => by
    simp only [List.nil_append, LRels] at h ⊢
    obtain ⟨y, r, e, h1, h2⟩ := h
    exact ⟨y, r, e, hx y h1, h2⟩
  | z :: l, vs, h => by
    simp only [List.cons_append, LRels] at h ⊢
    obtain ⟨y, r, e, h1, h2⟩ := h
    exact ⟨y, r, e, h1.keeps (fun _ _ e => e) hk, LRels.last hk hx h2⟩
theorem Conv.knot {s : St} {id tt g : Nat} {caps : List LV} (j k : Nat) (hσ : s.σ id = some (.cells tt [.fn g (caps ++ [.ptr id 0])])) (hj : s.lf j = .ptr id 0) : Conv s ⟨fun i => if i = j then knotX g caps k else s.lf i, fun i => if i = id then none else s.σ i⟩ := by
  intro w0 w ι fp f hI
  refine ⟨ι, fp, ?_⟩
  have hle : Le s ⟨fun i => if i = j then .junk else s.lf i, fun i => if i = id then none else s.σ i⟩ := ⟨fun i => by
    by_cases e : i = j
    · exact .inl (by simp [e])
    · exact .inr (by simp [e]), fun i => by
    by_cases e : i = id
    · exact .inl (by simp [e])
    · exact .inr (by simp [e])⟩
  have hI2 := hI.le hle
  obtain ⟨b, ys, h1, h2, h3, h4, h5⟩ := hI.ob id _ hσ
  have hF : ∀ q, FF (fun i => if i = id then none else s.σ i) fp q → FF s.σ fp q := fun q ⟨i, oc, h6, h7⟩ => by
    by_cases e : i = id
    · simp [e] at h6
    · simp only [if_neg e] at h6; exact ⟨i, oc, h6, h7⟩
  have hnb : ¬ FF (fun i => if i = id then none else s.σ i) fp b := fun ⟨i, oc, h6, h7⟩ => by
    by_cases e : i = id
    · simp [e] at h6
    · simp only [if_neg e] at h6
      exact e (hI.dis i id _ _ b h6 hσ h7 ((h3 b).2 rfl))
  have hk : Keeps (FF s.σ fp) (FF (fun i => if i = id then none else s.σ i) fp) w w := fun p u hp hc => ⟨hc, fun hq => hp (hF _ hq)⟩
  simp only [LRels] at h5
  obtain ⟨y, r, rfl, h6, h7⟩ := h5
  have h7' : r = [] := by simpa only [LRels] using h7
  subst h7'
  simp only [LRel] at h6
  obtain ⟨vs, rfl, h8⟩ := h6
  have hread : ∀ k, LRel ι (FF (fun i => if i = id then none else s.σ i) fp) w (knotX g caps k) (.pointer (some ⟨b, 0, none⟩)) := by
    intro k
    induction k with
    | zero => simp only [knotX, LRel]
    | succ k ih =>
      simp only [knotX, LRel, LRels]
      refine ⟨⟨b, 0, none⟩, _, rfl, fun q u hu => ⟨hnb, by rw [add0, cell_at h4 q]; exact hu⟩, _, _, rfl, ⟨_, rfl, ?_⟩, rfl⟩
      refine LRels.last hk (fun v hv => ?_) h8
      simp only [LRel] at hv
      obtain ⟨b', h9, h10⟩ := hv
      rw [h1] at h9
      simp only [Option.some.injEq, Value.pointer.injEq, Addr.mk.injEq, and_true] at h9
      subst h9
      rw [h10]
      exact ih
  refine ⟨fun i => ?_, hI2.ob, hI2.dis, hI2.bel, hI2.low, hI2.fix⟩
  by_cases e : i = j
  · subst e
    have hv := hI.fr i
    rw [hj] at hv
    simp only [LRel] at hv
    obtain ⟨b', h9, h10⟩ := hv
    rw [h1] at h9
    simp only [Option.some.injEq, Value.pointer.injEq, Addr.mk.injEq, and_true] at h9
    subst h9
    rw [h10]
    simpa using hread k
  · have := hI2.fr i
    simpa [e] using this
end
end Go.Proofs.YtcjhojdlfnpgjaaGreat
namespace Go.Proofs.YtcjhojdlfnpgjaaGreat
open Go.RowKit
section
variable {P : Program} {T : TT}
theorem kills_app (q : Nat → Bool) : ∀ a b : List LV, kills q (a ++ b) = kills q a ++ kills q b
  | [], b => by simp only [List.nil_append, kills]
  | x :: a, b => by simp only [List.cons_append, kills, kills_app q a b]
theorem kill_knot (q : Nat → Bool) (g : Nat) (caps : List LV) : ∀ k, kill q (knotX g caps k) = knotX g (kills q caps) k
  | 0 => by simp only [knotX, kill]
  | k + 1 => by simp only [knotX, kill, kills, kills_app, kill_knot q g caps k]
theorem toMs_app (σ : Nat → Option OC) (is : List Nat) : ∀ a b : List LV, toMs σ is (a ++ b) = toMs σ is a ++ toMs σ is b
  | [], b => by simp only [List.nil_append, toMs]
  | x :: a, b => by simp only [List.cons_append, toMs, toMs_app σ is a b]
theorem toM_knot (σ : Nat → Option OC) (is : List Nat) (g : Nat) (caps : List LV) : ∀ k, toM σ is (knotX g caps k) = knotX g (toMs σ is caps) k
  | 0 => by simp only [knotX, toM]
  | k + 1 => by simp only [knotX, toM, toMs, toMs_app, toM_knot σ is g caps k]
theorem knot_succ (g : Nat) (caps : List LV) (k : Nat) : knotX g caps (k + 1) = .box [.fn g (caps ++ [knotX g caps k])] := rfl
theorem calm_fn {K : List Nat} (g : Nat) (l : List LV) : calm K (.fn g l) = calms K l := propext ⟨fun h Q hq => by have := h Q hq; simpa only [kill, LV.fn.injEq, true_and] using this, fun h Q hq => by simp only [kill, h Q hq]⟩
theorem calm_knot {K : List Nat} {g : Nat} {caps : List LV} {k : Nat} (h : calms K caps) : calm K (knotX g caps k) := fun Q hq => by rw [kill_knot, h Q hq]
def rowish : OC → Bool
  | .row _ _ => true
  | .rows _ _ _ => true
  | .cust _ _ j => j.isNone
  | _ => false
theorem Conv.moveIn {s : St} {c tt i : Nat} {l : List LV} {oc : OC} (j m : Nat) (hm : 16 ≤ m) (hc : c ≠ m) (hci : c ≠ i) (hσ : s.σ c = some (.cells tt l)) (hj : l[j]? = some (.own i)) (hi : s.σ i = some oc) (hp : rowish oc = true) :
    Conv s ((s.turn (fun q => q == m || q == i) m oc).set c (.cells tt ((kills (fun q => q == m || q == i) l).set j (.own m)))) := by
  intro w0 w ι fp f hI
  obtain ⟨v, hv, hob⟩ : ∃ v, ι i = some v ∧ ∀ F', ORel (updI ι m v) F' w 0 (fp i) m oc := by
    have := hI.ob i _ hi
    cases oc with
    | row e vs => obtain ⟨v, g1, g2, g3⟩ := this; exact ⟨v, g1, fun F' => ⟨v, updI_self _ _ _, g2, g3⟩⟩
    | rows e e' t => obtain ⟨v, hs, g1, g2, g3, g4, g5⟩ := this; exact ⟨v, g1, fun F' => ⟨v, hs, updI_self _ _ _, g2, g3, g4, g5⟩⟩
    | cells t l => cases hp
    | rowL e l => cases hp
    | hole e e' t i j => cases hp
    | cust A r k => cases k with
      | some k => cases hp
      | none => obtain ⟨v, y, g1, g2, g3, g4, g5⟩ := this; exact ⟨v, g1, fun F' => ⟨v, y, updI_self _ _ _, g2, g3, g4, fun j hj => by cases hj⟩⟩
    | late e vs => cases hp
    | ghost vs => cases hp
  have h := hI.turn (w' := w) (ι' := updI ι m v) (fun q => q == m || q == i) m oc (fp i) rfl rfl rfl (Nat.le_refl _) (fun k hk hn => rfl) (fun k hk => .inl ⟨i, oc, .inr (by simp), hi, hk⟩) (fun q u hq e => by
    simp only [Bool.or_eq_false_iff, beq_eq_false_iff_ne, ne_eq] at hq
    simp only [updI, if_neg hq.1]; exact e) (updI_fix hI hm v) (fun _ => hob _)
  refine ⟨updI ι m v, fun q => if q = m then fp i else fp q, ?_⟩
  have hσ' : (s.turn (fun q => q == m || q == i) m oc).σ c = some (.cells tt (kills (fun q => q == m || q == i) l)) := by
    simp only [St.turn, if_neg hc, hσ, Option.map_some, killO]
    rw [if_neg (by simp [hc, hci])]
  obtain ⟨b, ys, g1, g2, g3, g4, g5⟩ := h.ob c _ hσ'
  obtain ⟨b', ys', a1, a2, a3, a4, a5⟩ := hI.ob c _ hσ
  simp only [updI, if_neg hc] at g1
  rw [a1] at g1
  simp only [Option.some.injEq, Value.pointer.injEq, Addr.mk.injEq, and_true] at g1
  subst g1
  rw [a4] at g4
  simp only [Option.some.injEq, Obj.cells.injEq, and_true] at g4
  have e0 : ys' = ys := by simpa using g4
  subst e0
  obtain ⟨y, hy, hr⟩ := LRels.get j _ a5 hj
  simp only [LRel] at hr
  rw [hv] at hr
  simp only [Option.some.injEq] at hr
  subst hr
  have hlt := (List.getElem?_eq_some_iff.1 hy).1
  have hys : ys'.set j v = ys' := by
    refine List.ext_getElem? fun x => ?_
    rw [List.getElem?_set]
    by_cases e : j = x
    · subst e; rw [if_pos rfl, if_pos hlt, hy]
    · rw [if_neg e]
  have hw : w.setRow b' (ys'.set j v).toArray = w := by rw [hys]; exact setRow_self w b' _ tt (0, 0) a4
  have := h.setCells hσ' (by simp only [updI, if_neg hc]; exact a1) a4 g3 (LRels.set (x := .own m) (v := v) (by simp only [LRel]; exact updI_self _ _ _) j g5)
  rw [hw] at this
  exact this
theorem OwnAll.ones {w : World} {base e : Nat} : ∀ {t : List (List Value)} {hs : List Value} {fp : Nat → Prop}, OwnAll w base e fp t hs → ∀ u ∈ hs, u.oneCell' = true
  | [], hs, fp, h, u, hu => by simp only [OwnAll] at h; subst h; cases hu
  | r :: t, hs, fp, ⟨h, hs', e1, h1, h2, h3⟩, u, hu => by
    subst e1
    rcases List.mem_cons.1 hu with q | q
    · subst q; obtain ⟨A, cap, rfl⟩ := own_len h1; rfl
    · exact h3.ones u q
theorem OwnAll.appendAll {w : World} {base e : Nat} {t2 : List (List Value)} {hs2 : List Value} {fp2 : Nat → Prop} (H2 : OwnAll w base e fp2 t2 hs2) : ∀ {t : List (List Value)} {hs : List Value} {fp : Nat → Prop}, OwnAll w base e fp t hs → (∀ k, fp k → fp2 k → False) → OwnAll w base e (fun k => fp k ∨ fp2 k) (t ++ t2) (hs ++ hs2)
  | [], hs, fp, h, hd => by simp only [OwnAll] at h; subst h; exact H2.mono fun k hk => .inr hk
  | r :: t, hs, fp, ⟨h, hs', e1, h1, h2, h3⟩, hd => by
    subst e1
    refine ⟨h, hs' ++ hs2, rfl, h1, fun k hk => .inl (h2 k hk), (OwnAll.appendAll H2 h3 fun k hk hq => hd k hk.1 hq).mono ?_⟩
    rintro k (hk | hk)
    · exact ⟨.inl hk.1, hk.2⟩
    · exact ⟨.inr hk, fun e => hd k (h2 k e) hk⟩
theorem OpT.appendAll (hT : T.Ok P) {o : Oper} {s : St} {K : LV → St → Prop} {t e e' : Nat} {z : Value} {bts : Nat} {a b : Operand} {id j : Nat} {tt t2 : List (List Value)} (ho : o.op = .call { callee := .builtin .append, args := #[a, b], argTypes := #[t, t] })
    (ht : T.el t = some (e, z, bts)) (hb : bts ≤ 64) (ha : evL s a = .own id) (hid : 16 ≤ id) (hσ : s.σ id = some (.rows e e' tt)) (hbv : evL s b = .own j) (hj : s.σ j = some (.rows e e' t2)) (hjid : j ≠ id) (hlen : tt.length + t2.length ≤ 1099511627776)
    (hK : K (.own id) (s.turn (fun i => i == id || i == j) id (.rows e e' (tt ++ t2)))) : OpT P o s K := by
  intro w0 w ι fp f hI
  have hav := hI.ev a
  rw [ha] at hav
  simp only [LRel] at hav
  obtain ⟨v, hs, g1, g2, g3, g4, g5⟩ := hI.ob id _ hσ
  rw [hav] at g1
  simp only [Option.some.injEq] at g1
  subst g1
  have hbv' := hI.ev b
  rw [hbv] at hbv'
  simp only [LRel] at hbv'
  obtain ⟨u, hs2, q1, q2, q3, q4, q5⟩ := hI.ob j _ hj
  rw [hbv'] at q1
  simp only [Option.some.injEq] at q1
  subst q1
  obtain ⟨A, c, e3, hA⟩ : ∃ A c, evV f b = .slice A hs2.length c ∧ (0 < hs2.length → ∃ a, A = some a ∧ ∀ j u, hs2[j]? = some u → w.cell? (a.add j) = some u) := by
    rcases q2.2 with ⟨e0, h0⟩ | ⟨g, cap, cur, e, _⟩
    · exact ⟨none, 0, by rw [e0, h0], fun h => by omega⟩
    · rw [e] at q2 ⊢
      exact ⟨_, cap, rfl, fun _ => ⟨_, rfl, fun i u hu => q2.cells (g := g) rfl i u hu⟩⟩
  obtain ⟨v', w', hr, h2, h3, h4⟩ := run_append_row (P := P) hT ht hb w o.type g2 hA q4.ones (by rw [g4.length, q4.length]; exact hlen) (c := c)
  have hr' : (execOp (evV f) o).run P w = .ok (.value v') w' := by
    simp only [execOp, ho, resolve, invoke, builtin, Sem.run_bind, Sem.run_pure, Result.andThen_ok, List.map_toArray, List.map_cons, List.map_nil, e3, hr]
  rw [hr']
  have hdis : ∀ q, fp id q → fp j q → False := fun q h1 h2 => hjid (hI.dis _ _ _ _ q hj hσ h2 h1)
  have hlt := hI.lt
  have hnew : ∀ q, v'.ownBlock = some q → fp id q ∧ v'.ownBlock = (evV f a).ownBlock ∨ q = w.heap.size := by
    intro q hv
    rcases h4 with h4 | h4
    · exact .inl ⟨g3 q (by rw [← h4]; exact hv), h4⟩
    · rw [h4] at hv; simp only [Option.some.injEq] at hv; exact .inr hv.symm
  refine .value _ _ _ _ _ _ (hI.turn (w' := w') (ι' := updI ι id v') (fun i => i == id || i == j) id (.rows e e' (tt ++ t2)) (fun q => fp id q ∨ fp j q ∨ v'.ownBlock = some q) h3.os h3.tape h3.output h3.size (fun q hq hn => h3.block q hq fun e => hn id _ (.inl rfl) hσ (g3 q e.symm))
    (fun q hq => ?_) (fun i u hi e => ?_) (updI_fix hI hid v') fun _ => ?_) ?_ hK
  · rcases hq with hq | hq | hq
    · exact .inl ⟨id, _, .inl rfl, hσ, hq⟩
    · exact .inl ⟨j, _, .inr (by simp), hj, hq⟩
    · rcases hnew q hq with h | h
      · exact .inl ⟨id, _, .inl rfl, hσ, h.1⟩
      · exact .inr (by omega)
  · simp only [Bool.or_eq_false_iff, beq_eq_false_iff_ne, ne_eq] at hi
    simp only [updI, if_neg hi.1]
    exact e
  · have keep4 : OwnAll w' 0 e' (fun q => fp id q ∧ (evV f a).ownBlock ≠ some q) tt hs := g4.keeps fun q hq => h3.block q (g5 q hq.1).2 fun e => hq.2 e.symm
    have keep5 : OwnAll w' 0 e' (fun q => fp j q ∧ (evV f b).ownBlock ≠ some q) t2 hs2 := q4.keeps fun q hq => h3.block q (q5 q hq.1).2 fun e => hdis q (g3 q e.symm) hq.1
    refine ⟨v', hs ++ hs2, updI_self _ _ _, h2, fun q hq => .inr (.inr hq), ?_, fun q hq => ⟨Nat.zero_le _, ?_⟩⟩
    · refine (OwnAll.appendAll keep5 keep4 fun q h1 h2 => hdis q h1.1 h2.1).mono ?_
      rintro q (⟨h, hne⟩ | ⟨h, hne⟩)
      · refine ⟨.inl h, fun hv => ?_⟩
        rcases hnew q hv with h' | h'
        · rw [h'.2] at hv; exact hne hv
        · have := (hlt q ⟨id, _, hσ, h⟩).2; omega
      · refine ⟨.inr (.inl h), fun hv => ?_⟩
        rcases hnew q hv with h' | h'
        · exact hdis q h'.1 h
        · have := (hlt q ⟨j, _, hj, h⟩).2; omega
    · rcases hq with hq | hq | hq
      · exact Nat.lt_of_lt_of_le (hlt q ⟨id, _, hσ, hq⟩).2 h3.size
      · exact Nat.lt_of_lt_of_le (hlt q ⟨j, _, hj, hq⟩).2 h3.size
      · rcases hnew q hq with h | h
        · exact Nat.lt_of_lt_of_le (hlt q ⟨id, _, hσ, h.1⟩).2 h3.size
        · exact (h2.lt q hq).2
  · simp only [LRel]; exact updI_self _ _ _
theorem Conv.oneRow {s : St} {id k e e' : Nat} {vs : List Value} (hne : k ≠ id) (hσ : s.σ id = some (.rowL e [.own k])) (hk : s.σ k = some (.row e' vs)) : Conv s (s.turn (fun q => q == k) id (.rows e e' [vs])) := by
  intro w0 w ι fp f hI
  obtain ⟨u, ys, q1, q2, q3, q4⟩ := hI.ob id _ hσ
  simp only [LRels, LRel] at q4
  obtain ⟨y, r, rfl, hy, rfl⟩ := q4
  obtain ⟨y', p1, p2, p3⟩ := hI.ob k _ hk
  rw [hy] at p1
  simp only [Option.some.injEq] at p1
  subst p1
  have hdis : ∀ q, fp id q → fp k q → False := fun q h1 h2 => hne (hI.dis _ _ _ _ q hk hσ h2 h1)
  refine ⟨_, _, hI.turn (w' := w) (ι' := ι) (fun q => q == k) id (.rows e e' [vs]) (fun q => fp id q ∨ fp k q) rfl rfl rfl (Nat.le_refl _) (fun k hk hn => rfl) (fun q hq => ?_) (fun _ _ _ e => e) hI.fix (fun _ => ⟨u, [y], q1, q2, fun q hq => .inl ((q3 q).2 hq), ?_, fun q hq => ?_⟩)⟩
  · rcases hq with hq | hq
    · exact .inl ⟨id, _, .inl rfl, hσ, hq⟩
    · exact .inl ⟨k, _, .inr (by simp), hk, hq⟩
  · exact ⟨y, [], rfl, p2, fun q hq => ⟨.inr ((p3 q).2 hq), fun e => hdis q ((q3 q).2 e) ((p3 q).2 hq)⟩, rfl⟩
  · rcases hq with hq | hq
    · exact q2.lt q ((q3 q).1 hq)
    · exact p2.lt q ((p3 q).1 hq)
section
variable {n : Nat} {all : Array Oper} {o : Oper} {l : List Oper} {s : St} {k : Kont}
theorem HereO.appendAll (hT : T.Ok P) {t e e' : Nat} {z : Value} {bts : Nat} {a b : Operand} {id j : Nat} {tt t2 : List (List Value)} (ho : o.op = .call { callee := .builtin .append, args := #[a, b], argTypes := #[t, t] })
    (ht : T.el t = some (e, z, bts)) (hb : bts ≤ 64) (ha : evL s a = .own id) (hid : 16 ≤ id) (hσ : s.σ id = some (.rows e e' tt)) (hbv : evL s b = .own j) (hj : s.σ j = some (.rows e e' t2)) (hjid : j ≠ id) (hlen : tt.length + t2.length ≤ 1099511627776)
    (h : OpsV P T n all l ((s.turn (fun i => i == id || i == j) id (.rows e e' (tt ++ t2))).put o.dst (.own id)) k) : HereO P T n all o l s k :=
  HereO.of hT h fun hK => OpT.appendAll hT ho ht hb ha hid hσ hbv hj hjid hlen hK
theorem HereO.appendSub (hT : T.Ok P) {t e : Nat} {z : Value} {bts : Nat} {a b : Operand} {id m : Nat} {vs : List Value} {u : Value} {y : LV} (ho : o.op = .call { callee := .builtin .append, args := #[a, b], argTypes := #[t, t] })
    (ht : T.el t = some (e, z, bts)) (ha : evL s a = .sub id 0 m) (hσ : s.σ id = some (.row e vs)) (hy : evL s b = y) (hn : News s id y [u]) (h1 : u.oneCell' = true) (hlen : m < vs.length)
    (h : OpsV P T n all l ((s.set id (.row e (vs.set m u))).put o.dst (.sub id 0 (m + 1))) k) : HereO P T n all o l s k := by
  subst hy
  exact HereO.of hT h fun hK => OpT.appendSub hT ho ht ha hσ hn h1 hlen hK
theorem HereO.callQC (hT : T.Ok P) {fo : Operand} {xs : Array Operand} {ts : Array TypeId} {g : Nat} {caps : List LV} {args : List LV} {os : List OC} {κ : Type} {x : κ → Value} {out : κ → List (Option OC)} {Q : κ → Prop} {s2 : κ → St} (d : Nat) (is : List Nat) (ho : o.op = .call { callee := .value fo, args := xs, argTypes := ts })
    (hf : evL s fo = .fn g caps) (hs : SpecQ P g args os (fun y => .v (x y)) out Q) (ha : toMs s.σ is (xs.toList.map (evL s) ++ caps) = args) (hos : (is.map fun i => (s.σ i).map (toMO s.σ is)) = os.map some) (hnd : is.Nodup) (hsh : is.all (fun i => !isShift d i) = true) (hpo : os.all plainO3 = true) (hpo' : ∀ y, (out y).all (fun o => o.all plainO2) = true) (hl' : ∀ y, (out y).length ≤ 16)
    (hc : ∀ y, Q y → Conv (s.back d is (out y)) (s2 y)) (h : ∀ y, Q y → OpsV P T n all l ((s2 y).put o.dst (.v (x y))) k) : HereO P T n all o l s k := by
  refine HereO.of_all hT (K := fun r s' => ∃ y, Q y ∧ r = .v (x y) ∧ s' = s2 y) ?_ (by rintro r s' ⟨y, hy, rfl, rfl⟩; exact h y hy)
  intro w0 w ι fp f hI
  have H := OpT.callR (K := fun r s' => ∃ y, Q y ∧ r = ren (idM is d) (.v (x y)) ∧ s' = s.back d is (out y)) d is ho hf hs ha hos hnd (fun i hi => by simpa using List.all_eq_true.1 hsh i hi) hpo
    (by rintro _ _ ⟨y, _, rfl, rfl⟩; exact ⟨rfl, fun oc hoc => by have := List.all_eq_true.1 (hpo' y) _ hoc; simpa using this, hl' y⟩) (by rintro _ _ ⟨y, hy, rfl, rfl⟩; exact ⟨y, hy, rfl, rfl⟩) w0 w ι fp f hI
  generalize (execOp (evV f) o).run P w = R at H
  cases H with
  | value r s' v w' ι' fp' hI' hr hK' =>
    obtain ⟨y, hy, rfl, rfl⟩ := hK'
    obtain ⟨ι2, fp2, hI2⟩ := hc y hy _ _ _ _ _ hI'
    exact .value _ _ v w' ι2 fp2 hI2 (by simp only [ren, LRel] at hr ⊢; exact hr) ⟨y, hy, rfl, rfl⟩
  | skip s' w' ι' fp' hI' hK' => obtain ⟨y, hy, h1, _⟩ := hK'; simp only [ren] at h1; cases h1
  | enter g args w' hcall =>
    refine .enter _ _ _ (hcall.mono ?_)
    rintro e w2 ⟨r, s', v, ι', fp', rfl, hI', hr, y, hy, rfl, rfl⟩
    obtain ⟨ι2, fp2, hI2⟩ := hc y hy _ _ _ _ _ hI'
    exact ⟨_, _, v, ι2, fp2, rfl, hI2, by simp only [ren, LRel] at hr ⊢; exact hr, y, hy, rfl, rfl⟩
end
theorem HereC.makeSub {K : List Nat} {G : (Nat → Option OC) → Prop} {n : Nat} {all : Array Oper} {ms : List Md} {o : Oper} {l : List Oper} {s : St} {k : Kont} (hT : T.Ok P) {t e : Nat} {z : Value} {bts : Nat} {x y : Operand} {kk : IntKind} {m : Nat} (id : Nat) (ho : o.op = .makeSlice t x y) (ht : T.el t = some (e, z, bts)) (hx : evL s x = .v (.int kk 0)) (hy : evL s y = .v (.int kk m)) (hm : m ≤ 4294967296) (hb : bts ≤ 64)
    (hid : 16 ≤ id) (hk : K.contains id = true) (hG : G (s.fresh id (.row e (List.replicate m z))).σ) (h : SV P T K G n all ms l ((s.fresh id (.row e (List.replicate m z))).put o.dst (.sub id 0 0)) k) : HereC P T K G n all ms o l s k := by
  refine ⟨fun j => j == id, (s.fresh id (.row e (List.replicate m z))).σ, .sub id 0 0, fun j hj => by rw [beq_iff_eq.1 hj]; exact hk, hG, fun s' hs' hx' => ?_, h⟩
  have hx2 : evL s' x = .v (.int kk 0) := by rw [hx' x (by simp [ho, Op.operands]), hx]
  have hy2 : evL s' y = .v (.int kk m) := by rw [hx' y (by simp [ho, Op.operands]), hy]
  refine OpT.makeSub hT ho ht hx2 hy2 hm hb id hid ⟨rfl, ?_⟩
  unfold St.fresh St.turn
  rw [hs']
theorem OpP.lenSub {o : Oper} {ρ : Operand → LV} {σ : Nat → Option OC} (hT : T.Ok P) {t e : Nat} {z : Value} {bts : Nat} {x : Operand} {id i m : Nat} (ho : o.op = .call { callee := .builtin .len, args := #[x], argTypes := #[t] }) (ht : T.el t = some (e, z, bts)) (hx : ρ x = .sub id i m) : OpP P o ρ σ (.v (.int .i64 m)) := by
  intro w0 w ι fp s f hI hσ hρ
  obtain ⟨hu, _⟩ := hT.el t e z bts ht
  have hv := hI.ev x
  rw [hρ x (by simp [ho, Op.operands, Call.operands]), hx] at hv
  simp only [LRel] at hv
  obtain ⟨A, N, c, h1, h2, A', hv, _⟩ := hv
  have hue : P.underlying t = some (.slice (P.elem t)) := by
    have : P.elem t = e := by simp [Program.elem, hu]
    rw [this]; exact hu
  have hr : (execOp (evV f) o).run P w = .ok (.value (.int .i64 m)) w := by
    simp only [execOp, ho, resolve, invoke, builtin, Sem.run_bind, Sem.run_pure, Result.andThen_ok, List.map_toArray, List.map_cons, List.map_nil, hv]
    simp [run_len_slice _ _ _ _ _ _ hue, goInt]
  rw [hr]
  exact .value _ s _ w ι fp hI (by simp only [LRel]) ⟨rfl, rfl⟩
theorem RetM.three {results : Array ResultVar} {r : LV} {s : St} {rs : List LV} {a b c : OC} (m : Nat) (hm : 3 ≤ m) (h : resLs T s results.toList = some rs) (h2 : tupL rs = ren (fun i => [0, 1, 2, m].getD i 0) r) (h3 : s.σ 0 = some (renO (fun i => [0, 1, 2, m].getD i 0) a)) (h4 : s.σ 1 = some (renO (fun i => [0, 1, 2, m].getD i 0) b)) (h5 : s.σ m = some (renO (fun i => [0, 1, 2, m].getD i 0) c)) : RetM T results 3 r [some a, some b, none, some c] s :=
  ⟨rs, [0, 1, 2, m], h, h2, rfl, by simp; omega, fun i hi => (by
    match i, hi with
    | 0, _ => rfl
    | 1, _ => rfl
    | 2, _ => rfl), fun i oc hi => by
    match i with
    | 0 => simp [osO] at hi; subst hi; simpa using h3
    | 1 => simp [osO] at hi; subst hi; simpa using h4
    | 2 => simp [osO] at hi
    | 3 => simp [osO] at hi; subst hi; simpa using h5
    | i + 4 => simp [osO] at hi⟩
theorem RetM.three' {results : Array ResultVar} {r : LV} {s : St} {rs : List LV} {b c : OC} (m : Nat) (hm : 3 ≤ m) (h : resLs T s results.toList = some rs) (h2 : tupL rs = ren (fun i => [0, 1, 2, m].getD i 0) r) (h4 : s.σ 1 = some (renO (fun i => [0, 1, 2, m].getD i 0) b)) (h5 : s.σ m = some (renO (fun i => [0, 1, 2, m].getD i 0) c)) : RetM T results 3 r [none, some b, none, some c] s :=
  ⟨rs, [0, 1, 2, m], h, h2, rfl, by simp; omega, fun i hi => (by
    match i, hi with
    | 0, _ => rfl
    | 1, _ => rfl
    | 2, _ => rfl), fun i oc hi => by
    match i with
    | 0 => simp [osO] at hi
    | 1 => simp [osO] at hi; subst hi; simpa using h4
    | 2 => simp [osO] at hi
    | 3 => simp [osO] at hi; subst hi; simpa using h5
    | i + 4 => simp [osO] at hi⟩
theorem RetM.two {results : Array ResultVar} {r : LV} {s : St} {rs : List LV} {a c : OC} (m : Nat) (hm : 2 ≤ m) (h : resLs T s results.toList = some rs) (h2 : tupL rs = ren (fun i => [0, 1, m].getD i 0) r) (h3 : s.σ 0 = some (renO (fun i => [0, 1, m].getD i 0) a)) (h5 : s.σ m = some (renO (fun i => [0, 1, m].getD i 0) c)) : RetM T results 2 r [some a, none, some c] s :=
  ⟨rs, [0, 1, m], h, h2, rfl, by simp; omega, fun i hi => (by
    match i, hi with
    | 0, _ => rfl
    | 1, _ => rfl), fun i oc hi => by
    match i with
    | 0 => simp [osO] at hi; subst hi; simpa using h3
    | 1 => simp [osO] at hi
    | 2 => simp [osO] at hi; subst hi; simpa using h5
    | i + 3 => simp [osO] at hi⟩
end
attribute [go_sem] calm_fn kill_knot toM_knot
end Go.Proofs.YtcjhojdlfnpgjaaGreat
