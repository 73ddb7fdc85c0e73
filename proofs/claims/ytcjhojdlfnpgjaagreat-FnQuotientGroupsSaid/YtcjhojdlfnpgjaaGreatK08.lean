/- A calculus of verification conditions over logical values: copy; parts of own rows in drawn regions; a drawn region whose first operation is free. -/
import Derived.Test.YtcjhojdlfnpgjaaGreatK07
import Derived.Laws.CopyRow
import Derived.Laws.IdiomCopy
set_option linter.unusedVariables false
set_option linter.unusedSimpArgs false
set_option maxRecDepth 100000
namespace Go.Proofs.YtcjhojdlfnpgjaaGreat
open Go.RowKit
section
variable {P : Program} {T : TT}
inductive Vals (s : St) : LV → List Value → Prop
  | rd (ws : List Value) : Vals s (.rd ws) ws
  | own (j e : Nat) (ws : List Value) (h : s.σ j = some (.row e ws)) : Vals s (.own j) ws
  | sub (j i n e : Nat) (vs : List Value) (h : s.σ j = some (.row e vs)) (hi : i + n ≤ vs.length) : Vals s (.sub j i n) ((vs.drop i).take n)
theorem own_at {w : World} {base e : Nat} {v : Value} {vs : List Value} (h : w.ownsRow base e 1 v vs.length vs) : ∃ A c, v = .slice A vs.length c ∧ (0 < vs.length → ∃ g cur, A = some ⟨g, 0, none⟩ ∧ w.heap[g]? = some (.cells cur e (0, 0)) ∧ cur.size = c ∧ cur.toList.take vs.length = vs ∧ vs.length ≤ c ∧ c ≤ maxLen) := by
  rcases h.2 with ⟨q, q0⟩ | ⟨g, cap, cur, q, q1, q2, q3, q4, q5, q6⟩
  · exact ⟨none, 0, by rw [q, q0], fun h => by omega⟩
  · exact ⟨_, cap, q, fun _ => ⟨g, cur, rfl, q2, by simpa using q5, by simpa using q6, q3, q4⟩⟩
theorem Vals.cells {w0 : Base} {w : World} {ι : Nat → Option Value} {fp : Nat → Nat → Prop} {s : St} {f : Nat → Value} (hI : Inv w0 w ι fp s f) {x : LV} {ws : List Value} {v : Value} (h : Vals s x ws) (hr : LRel ι (FF s.σ fp) w x v) :
    ∃ A c, v = .slice A ws.length c ∧ (0 < ws.length → ∃ a, A = some a ∧ ∀ j u, ws[j]? = some u → w.cell? (a.add j) = some u) := by
  cases h with
  | rd ws =>
    simp only [LRel] at hr
    obtain ⟨A, c, e, hc, h⟩ := hr
    refine ⟨A, c, e, fun hp => ?_⟩
    obtain ⟨ad, h1, h2, h3⟩ := h.2 hp
    exact ⟨ad, h1, h3⟩
  | own j e ws hσ =>
    simp only [LRel] at hr
    obtain ⟨v', g1, g2, g3⟩ := hI.ob j _ hσ
    rw [hr] at g1
    simp only [Option.some.injEq] at g1
    subst g1
    obtain ⟨A, c, h1, h2⟩ := own_at g2
    refine ⟨A, c, h1, fun hp => ?_⟩
    obtain ⟨g, cur, rfl, h3, h4, h5, h6, h7⟩ := h2 hp
    refine ⟨_, rfl, fun i u hu => ?_⟩
    rw [add0]
    simp only [World.cell?, h3]
    rw [← h5] at hu
    have hi : i < ws.length := by
      have := (List.getElem?_eq_some_iff.1 hu).1
      simp at this; omega
    rw [List.getElem?_take_of_lt hi] at hu
    simpa using hu
  | sub j i n e vs hσ hi =>
    simp only [LRel] at hr
    obtain ⟨A, N, c, h1, h2, A', h3, h4, h5⟩ := hr
    obtain ⟨v', g1, g2, g3⟩ := hI.ob j _ hσ
    rw [h1] at g1
    simp only [Option.some.injEq] at g1
    subst g1
    have hlen : ((vs.drop i).take n).length = n := by simp; omega
    rw [hlen]
    refine ⟨A', c - i, h3, fun hp => ?_⟩
    obtain ⟨g, hA, hA'⟩ := h5 hp
    obtain ⟨A2, c2, k1, k2⟩ := own_at g2
    simp only [Value.slice.injEq] at k1
    obtain ⟨rfl, k3, rfl⟩ := k1
    obtain ⟨g', cur, k4, k5, k6, k7, k8, k9⟩ := k2 (by omega)
    rw [hA] at k4
    simp only [Option.some.injEq, Addr.mk.injEq, and_true] at k4
    subst k4
    refine ⟨_, hA', fun q u hu => ?_⟩
    rw [add_add]
    simp only [World.cell?, k5]
    have hq : q < n := by
      have := (List.getElem?_eq_some_iff.1 hu).1
      omega
    rw [List.getElem?_take_of_lt hq, List.getElem?_drop, ← k7] at hu
    rw [List.getElem?_take_of_lt (by omega)] at hu
    simpa using hu
theorem St.set_same {s : St} {id : Nat} {oc : OC} (h : s.σ id = some oc) : s.set id oc = s := by
  unfold St.set
  cases s with
  | mk lf σ =>
    congr 1
    funext j
    by_cases q : j = id
    · rw [if_pos q, q]; exact h.symm
    · rw [if_neg q]
theorem OpT.copy (hT : T.Ok P) {o : Oper} {s : St} {K : LV → St → Prop} {t t' e : Nat} {z : Value} {bts : Nat} {x y : Operand} {id i n : Nat} {vs ws : List Value} (ho : o.op = .call { callee := .builtin .copy, args := #[x, y], argTypes := #[t, t'] }) (ht : T.el t = some (e, z, bts))
    (hx : (evL s x = .own id ∧ i = 0 ∧ n = vs.length) ∨ (evL s x = .sub id i n ∧ i + n ≤ vs.length)) (hσ : s.σ id = some (.row e vs)) (hy : Vals s (evL s y) ws) (h1 : ∀ u ∈ ws, u.oneCell' = true)
    (hK : K (.v (.int .i64 ((min ws.length n : Nat) : Int))) (s.set id (.row e (vs.take i ++ ws.take (min ws.length n) ++ vs.drop (i + min ws.length n))))) : OpT P o s K := by
  intro w0 w ι fp f hI
  obtain ⟨v, g1, g2, g3⟩ := hI.ob id _ hσ
  obtain ⟨hu, ik, hi', hz, hs, rfl, hzc⟩ := hT.el t e z bts ht
  obtain ⟨Ay, cy, ey, hcy⟩ := hy.cells hI (hI.ev y)
  have hsz : (P.info? e).map (·.size) = some 1 := by rw [hi']; simp [hs]
  have hd : ∃ A' c', evV f x = .slice A' n c' ∧ i + n ≤ vs.length ∧ (0 < n → ∃ g c cur, v = .slice (some ⟨g, 0, none⟩) vs.length c ∧ A' = some ⟨g, i, none⟩ ∧ w.heap[g]? = some (.cells cur e (0, 0)) ∧ cur.size = c ∧ cur.toList.take vs.length = vs ∧ vs.length ≤ c ∧ c ≤ maxLen) := by
    have hxv := hI.ev x
    obtain ⟨A2, c2, k1, k2⟩ := own_at g2
    rcases hx with ⟨hx, rfl, rfl⟩ | ⟨hx, hin⟩
    · rw [hx] at hxv
      simp only [LRel] at hxv
      rw [hxv] at g1
      simp only [Option.some.injEq] at g1
      subst g1
      refine ⟨A2, c2, k1, by omega, fun hp => ?_⟩
      obtain ⟨g, cur, rfl, k5, k6, k7, k8, k9⟩ := k2 hp
      exact ⟨g, c2, cur, k1, rfl, k5, k6, k7, k8, k9⟩
    · rw [hx] at hxv
      simp only [LRel] at hxv
      obtain ⟨A, N, c, q1, q2, A', q3, q4, q5⟩ := hxv
      rw [q1] at g1
      simp only [Option.some.injEq] at g1
      subst g1
      simp only [Value.slice.injEq] at k1
      obtain ⟨rfl, rfl, rfl⟩ := k1
      refine ⟨A', c - i, q3, hin, fun hp => ?_⟩
      obtain ⟨g, hA, hA'⟩ := q5 hp
      obtain ⟨g', cur, k4, k5, k6, k7, k8, k9⟩ := k2 (by omega)
      rw [hA] at k4
      simp only [Option.some.injEq, Addr.mk.injEq, and_true] at k4
      subst k4
      exact ⟨g, c, cur, by rw [hA], hA', k5, k6, k7, k8, k9⟩
  obtain ⟨A', c', ex, hin, hA⟩ := hd
  by_cases hn : Nat.min ws.length n = 0
  · have hr : (execOp (evV f) o).run P w = .ok (.value (goInt 0)) w := by
      have := run_copy_none (P := P) w t t' o.type e A' Ay n c' ws.length cy hu hsz hn
      simp only [execOp, ho, resolve, invoke, builtin, Sem.run_bind, Sem.run_pure, Result.andThen_ok, List.map_toArray, List.map_cons, List.map_nil, ex, ey, this]
    have hm : min ws.length n = 0 := hn
    rw [hr]
    have e2 : vs.take i ++ ws.take (min ws.length n) ++ vs.drop (i + min ws.length n) = vs := by rw [hm]; simp
    rw [e2, St.set_same hσ, hm] at hK
    exact .value _ s _ _ ι fp hI (by simp only [LRel, goInt]; rfl) hK
  · have hnw : 0 < ws.length := by
      apply Classical.byContradiction
      intro q
      exact hn (by show Nat.min ws.length n = 0; rw [show ws.length = 0 by omega]; exact Nat.zero_min n)
    have hnn : 0 < n := by
      apply Classical.byContradiction
      intro q
      exact hn (by show Nat.min ws.length n = 0; rw [show n = 0 by omega]; exact Nat.min_zero _)
    obtain ⟨g, c, cur, rfl, rfl, k5, k6, k7, k8, k9⟩ := hA hnn
    obtain ⟨a, rfl, hc⟩ := hcy hnw
    have hk : (ws.take (min ws.length n)).length = min ws.length n := by simp
    have hcur : cur.toList.length = c := by simpa using k6
    have hrun := run_copy_row (P := P) w t t' o.type e g i n c' a ws.length cy cur e (ws.take (min ws.length n)) hu hsz k5 (by rw [hk])
      (fun j u hu => hc j u (by
        have hj := (List.getElem?_eq_some_iff.1 hu).1
        rw [hk] at hj
        rwa [List.getElem?_take_of_lt hj] at hu)) (by rw [hk]; omega) (fun u hu => h1 u (List.mem_of_mem_take hu))
    rw [hk] at hrun
    generalize hZ : cur.toList.take i ++ ws.take (min ws.length n) ++ cur.toList.drop (i + min ws.length n) = Z at hrun
    have hr : (execOp (evV f) o).run P w = .ok (.value (goInt ((min ws.length n : Nat) : Int))) (w.setRow g Z.toArray) := by
      simp only [execOp, ho, resolve, invoke, builtin, Sem.run_bind, Sem.run_pure, Result.andThen_ok, List.map_toArray, List.map_cons, List.map_nil, ex, ey, hrun]
    rw [hr]
    have hln : (vs.take i ++ ws.take (min ws.length n) ++ vs.drop (i + min ws.length n)).length = vs.length := by simp; omega
    have hZl : Z.length = c := by rw [← hZ]; simp; omega
    have hcut : Z.take vs.length = vs.take i ++ ws.take (min ws.length n) ++ vs.drop (i + min ws.length n) := by
      have := cut_take cur.toList (ws.take (min ws.length n)) vs.length i (min ws.length n) (by omega) (by omega) hk
      rw [k7, hZ] at this
      exact this
    have h := hI.turn (w' := w.setRow g Z.toArray) (ι' := ι) (fun _ => false) id (.row e (vs.take i ++ ws.take (min ws.length n) ++ vs.drop (i + min ws.length n))) (fp id) rfl rfl rfl (by simp)
      (fun k hk hn' => setRow_other w g k _ (fun e' => hn' id _ (.inl rfl) hσ ((g3 k).2 (by rw [e']; rfl))))
      (fun k hk => .inl ⟨id, _, .inl rfl, hσ, hk⟩) (fun _ _ _ e => e) hI.fix
      (fun hk => ⟨_, g1, ⟨by omega, .inr ⟨g, c, _, by rw [hln], Nat.zero_le _, setRow_heap w g _ _ _ _ k5, by rw [hln]; exact k8, k9, by simp [hZl], by rw [hln]; simpa using hcut⟩⟩, g3⟩)
    rw [turn_none, fp_self] at h
    exact .value _ _ _ _ ι fp h (by simp only [LRel, goInt]) hK
theorem HereO.copy (hT : T.Ok P) {nn : Nat} {all : Array Oper} {l : List Oper} {k : Kont} {o : Oper} {s : St} {t t' e : Nat} {z : Value} {bts : Nat} {x y : Operand} (id i n : Nat) {vs : List Value} (ws : List Value) (ho : o.op = .call { callee := .builtin .copy, args := #[x, y], argTypes := #[t, t'] }) (ht : T.el t = some (e, z, bts))
    (hx : (evL s x = .own id ∧ i = 0 ∧ n = vs.length) ∨ (evL s x = .sub id i n ∧ i + n ≤ vs.length)) (hσ : s.σ id = some (.row e vs)) (hy : Vals s (evL s y) ws) (h1 : ∀ u ∈ ws, u.oneCell' = true)
    (hK : OpsV P T nn all l ((s.set id (.row e (vs.take i ++ ws.take (min ws.length n) ++ vs.drop (i + min ws.length n)))).put o.dst (.v (.int .i64 ((min ws.length n : Nat) : Int)))) k) : HereO P T nn all o l s k :=
  HereO.of hT hK fun hK => OpT.copy hT ho ht hx hσ hy h1 hK
theorem OpP.sliceOwn (hT : T.Ok P) {o : Oper} {ρ : Operand → LV} {σ : Nat → Option OC} {t e : Nat} {z : Value} {bts : Nat} {x : Operand} {lo hi : Option Operand} {id : Nat} {vs : List Value} (l h : Nat) (ho : o.op = .slice t x lo hi none) (ht : T.el t = some (e, z, bts)) (hx : ρ x = .own id) (hσ : σ id = some (.row e vs))
    (hlo : cutAt ρ lo 0 l) (hhi : cutAt ρ hi vs.length h) (h1 : l ≤ h) (h2 : h ≤ vs.length) : OpP P o ρ σ (.sub id l (h - l)) := by
  intro w0 w ι fp s f hI hs hρ
  have hm : ∀ y, y ∈ o.op.operands → evL s y = ρ y := hρ
  refine OpT.slice hT (K := fun r' s' => r' = .sub id l (h - l) ∧ s' = s) l h ho ht (by rw [hm x (by simp [ho, Op.operands]), hx]) (by rw [hs]; exact hσ) ?_ ?_ h1 h2 ⟨rfl, rfl⟩ w0 w ι fp f hI
  · cases lo with
    | none => exact hlo
    | some a => obtain ⟨k, hk⟩ := hlo; exact ⟨k, by rw [hm a (by simp [ho, Op.operands]), hk]⟩
  · cases hi with
    | none => exact hhi
    | some a => obtain ⟨k, hk⟩ := hhi; exact ⟨k, by rw [hm a (by simp [ho, Op.operands]), hk]⟩
end
def seqOkJ (all : Array Oper) (m : Nat) (J : List Nat) : Bool := (List.range all.size).all fun i => decide (i < m) || (List.range i).all fun j => J.contains j || (waits all i).contains j
theorem seqOkJ_at {all : Array Oper} {m : Nat} {J : List Nat} (h : seqOkJ all m J = true) {i j : Nat} (hi : i < all.size) (hm : m ≤ i) (hj : j < i) : j ∈ J ∨ j ∈ waits all i := by
  have := List.all_eq_true.1 h i (List.mem_range.2 hi)
  simp only [Bool.or_eq_true, decide_eq_true_eq] at this
  have h2 := List.all_eq_true.1 (this.resolve_left (by omega)) j (List.mem_range.2 hj)
  simpa using h2
theorem ready_afterJ {all : Array Oper} {listed : Array Bool} {m : Nat} {J : List Nat} (hs : seqOkJ all m J = true) (hcl : ∀ (j : Nat) (o : Oper), all[j]? = some o → listed.getD j false = true → ∀ e ∈ o.after, Region.binds .any e = true → listed.getD e.on false = true) {i : Nat} (hi : i ∈ Region.ready .any all listed) (hm : m ≤ i) : ∀ j, j < i → j ∉ J → listed.getD j false = true := by
  obtain ⟨o, ho, hlt, _, he⟩ := ready_mem.1 hi
  intro j hj hJ
  refine waits_listed hcl (fun j hj => ?_) j ((seqOkJ_at hs hlt hm hj).resolve_left hJ)
  obtain ⟨e, h1, h2, rfl⟩ := (direct_mem ho).1 hj
  exact he e h1 h2
theorem seqAnyJ {P : Program} {all : Array Oper} {Q : Exit → Act → World → Prop} {m : Nat} {J : List Nat} (hJ : ∀ j ∈ J, j < m) (hs : seqOkJ all m J = true) (hlow : ∀ (i : Nat) (o : Oper), all[i]? = some o → ∀ e ∈ o.after, Region.binds .any e = true → e.on < i) :
    ∀ (r k fuel : Nat) (listed : Array Bool) (a : Act) (w : World), k + r = all.size → m ≤ k → listed.size = all.size → (∀ i, i < all.size → listed.getD i false = decide (i < k)) → r ≤ fuel → wpList P all Q (all.toList.drop k) a w → wpAny P .any all Q fuel listed a w := by
  intro r
  induction r with
  | zero =>
    intro k fuel listed a w hk hm hsz hl hf h
    have hno : Region.ready .any all listed = [] := by
      cases hr : Region.ready .any all listed with
      | nil => rfl
      | cons i l =>
        obtain ⟨o, ho, hlt, h1, _⟩ := ready_mem.1 (show i ∈ Region.ready .any all listed by rw [hr]; exact List.mem_cons_self ..)
        have h2 := hl i hlt
        have hs' : i < listed.size := by omega
        simp only [Array.getD_eq_getD_getElem?, Array.getElem?_eq_getElem hs', Option.getD_some] at h1 h2
        rw [h1] at h2
        simp at h2
        omega
    rw [List.drop_of_length_le (by simp; omega)] at h
    cases fuel with
    | zero => exact ⟨hno, h⟩
    | succ f => exact ⟨fun _ => h, fun i hi => by rw [hno] at hi; cases hi⟩
  | succ r ih =>
    intro k fuel listed a w hk hm hsz hl hf h
    obtain ⟨f, rfl⟩ : ∃ f, fuel = f + 1 := ⟨fuel - 1, by omega⟩
    have hklt : k < all.size := by omega
    have hcl : ∀ (j : Nat) (o : Oper), all[j]? = some o → listed.getD j false = true → ∀ e ∈ o.after, Region.binds .any e = true → listed.getD e.on false = true := by
      intro j o ho hj e he hb
      have hjl := (Array.getElem?_eq_some_iff.1 ho).1
      have h1 := hlow j o ho e he hb
      rw [hl j hjl] at hj
      rw [hl e.on (by omega)]
      simp at hj ⊢
      omega
    have hkr : k ∈ Region.ready .any all listed := by
      refine ready_mem.2 ⟨all[k], Array.getElem?_eq_getElem hklt, hklt, ?_, fun e he hb => ?_⟩
      · have h2 := hl k hklt
        have hs' : k < listed.size := by omega
        simp only [Array.getD_eq_getD_getElem?, Array.getElem?_eq_getElem hs', Option.getD_some] at h2 ⊢
        rw [h2]; simp
      · have := hlow k _ (Array.getElem?_eq_getElem hklt) e he hb
        rw [hl e.on (by omega)]
        simpa using this
    refine ⟨fun he => (by rw [he] at hkr; cases hkr), fun i hi => ?_⟩
    have hik : i = k := by
      obtain ⟨o, ho, hlt, h1, _⟩ := ready_mem.1 hi
      have h2 := hl i hlt
      have hs' : i < listed.size := by omega
      simp only [Array.getD_eq_getD_getElem?, Array.getElem?_eq_getElem hs', Option.getD_some] at h1 h2
      rw [h1] at h2
      simp at h2
      apply Classical.byContradiction
      intro hne
      have := ready_afterJ hs hcl hi (by omega) k (by omega) (fun q => by have := hJ k q; omega)
      rw [hl k hklt] at this
      simp at this
    subst hik
    rw [List.drop_eq_getElem_cons (by simpa using hklt)] at h
    have hstep : wpOp P all Q i (wpList P all Q (all.toList.drop (i + 1))) a w := by
      unfold wpOp
      rw [Array.getElem?_eq_getElem hklt]
      unfold wpList at h
      simpa using h
    refine wpOp_mono (fun a' w' h' => ?_) hstep
    refine ih (i + 1) f _ a' w' (by omega) (by omega) (by simpa using hsz) (fun j hj => ?_) (by omega) h'
    rw [getD_set (by omega)]
    by_cases e : j = i
    · rw [if_pos e, e]; simp
    · rw [if_neg e, hl j hj]
      simp
      omega
def isSel : Op → Bool
  | .select _ _ => true
  | _ => false
def tmpIn (d : Nat) (l : List Operand) : Bool := l.any fun x => match x with | .tmp t => t == d | _ => false
def isFree : Op → Bool
  | .move (.tmp _) => true
  | .extract (.tmp _) _ => true
  | _ => false
def freeOk (all : Array Oper) (m : Nat) (J : List Nat) : Bool :=
  J.all fun j => match all[j]? with
    | none => false
    | some oj => isFree oj.op && oj.guard.isNone && (match oj.dst with
      | none => false
      | some d => oj.after.all (fun e => !Region.binds .any e || !J.contains e.on) &&
        (List.range all.size).all fun i => i == j || (decide (i < m) && !J.contains i) || match all[i]? with
          | none => false
          | some o => o.guard.isNone && !isSel o.op && ((o.after.any fun e => Region.binds .any e && e.on == j) || (!tmpIn d o.op.operands.toList && o.dst != some d && (match o.dst with | none => true | some q => !tmpIn q oj.op.operands.toList))))
theorem tmpIn_iff {d : Nat} {l : List Operand} : tmpIn d l = true ↔ Operand.tmp d ∈ l := by
  unfold tmpIn
  rw [List.any_eq_true]
  constructor
  · rintro ⟨x, hx, h⟩
    cases x with
    | tmp t => rw [beq_iff_eq.1 h] at hx; exact hx
    | _ => cases h
  · intro h; exact ⟨_, h, by simp⟩
theorem freeOk_at {all : Array Oper} {m : Nat} {J : List Nat} (h : freeOk all m J = true) {j : Nat} (hj : j ∈ J) : ∃ oj d, all[j]? = some oj ∧ oj.guard = none ∧ oj.dst = some d ∧ (∀ e ∈ oj.after, Region.binds .any e = true → e.on ∉ J) ∧ isFree oj.op = true ∧
    ∀ (i : Nat) (o : Oper), all[i]? = some o → (m ≤ i ∨ i ∈ J) → i ≠ j → o.guard = none ∧ (∀ cs b, o.op ≠ .select cs b) ∧ ((∃ e ∈ o.after, Region.binds .any e = true ∧ e.on = j) ∨ ((∀ y ∈ o.op.operands, y ≠ .tmp d) ∧ o.dst ≠ some d ∧ ∀ y ∈ oj.op.operands, ∀ x, y = .tmp x → o.dst ≠ some x)) := by
  have h := List.all_eq_true.1 h j hj
  cases hoj : all[j]? with
  | none => rw [hoj] at h; cases h
  | some oj =>
  rw [hoj] at h
  dsimp only at h
  cases hd : oj.dst with
  | none => rw [hd] at h; simp at h
  | some d =>
  rw [hd] at h
  simp only [Bool.and_eq_true, Option.isNone_iff_eq_none] at h
  obtain ⟨⟨h1, h2⟩, h3, h4⟩ := h
  refine ⟨oj, d, rfl, h2, hd, fun e he hb => ?_, h1, fun i o ho hi hne => ?_⟩
  · have := Array.all_eq_true'.1 h3 e he
    simp only [hb, Bool.not_true, Bool.false_or, Bool.not_eq_true'] at this
    intro q
    rw [List.contains_iff_mem.2 q] at this; cases this
  · have hlt := (Array.getElem?_eq_some_iff.1 ho).1
    have h := List.all_eq_true.1 h4 i (List.mem_range.2 hlt)
    have e1 : (i == j) = false := by simpa using hne
    have e2 : (decide (i < m) && !J.contains i) = false := by
      rcases hi with hi | hi
      · rw [decide_eq_false (by omega)]; rfl
      · rw [List.contains_iff_mem.2 hi]; simp
    rw [e1, e2, ho] at h
    simp only [Bool.false_or, Bool.and_eq_true, Option.isNone_iff_eq_none, Bool.not_eq_true', Bool.or_eq_true, bne_iff_ne, Array.any_eq_true', beq_iff_eq] at h
    obtain ⟨⟨g1, g2⟩, g3⟩ := h
    refine ⟨g1, (fun cs b q => by rw [q] at g2; cases g2), ?_⟩
    rcases g3 with ⟨e, he, hb, hon⟩ | ⟨⟨g4, g5⟩, g6⟩
    · exact .inl ⟨e, he, hb, hon⟩
    · refine .inr ⟨fun y hy q => ?_, g5, fun y hy x q hx => ?_⟩
      · subst q
        rw [tmpIn_iff.2 (by simpa using hy)] at g4; cases g4
      · subst q
        rw [hx] at g6
        dsimp only at g6
        rw [tmpIn_iff.2 (by simpa using hy)] at g6; cases g6
theorem put_comm (a : Act) (d : Nat) (v : Value) (dst : Option Tmp) (r : Value) (h1 : dst ≠ some d) : (a.put (some d) v).put dst r = (a.put dst r).put (some d) v := by
  cases dst with
  | none => rfl
  | some e =>
    have hne : e ≠ d := fun q => h1 (by rw [q])
    simp only [Act.put]
    congr 1
    exact Array.setIfInBounds_comm _ _ (Ne.symm hne)
theorem eval_put (a : Act) (dst : Option Tmp) (r : Value) (y : Operand) (h : ∀ x, y = .tmp x → dst ≠ some x) : (a.put dst r).eval y = a.eval y := by
  cases y with
  | tmp x =>
    cases dst with
    | none => rfl
    | some e =>
      have hne : e ≠ x := fun q => h x rfl (by rw [q])
      simp only [Act.eval, Act.put, Array.getD_eq_getD_getElem?]
      rw [Array.getElem?_setIfInBounds_ne hne]
  | _ => rfl
theorem free_nosel {o : Op} (h : isFree o = true) : ∀ cs b, o ≠ .select cs b := fun cs b q => by subst q; cases h
theorem free_exec {P : Program} {o : Oper} (h : isFree o.op = true) (ρ : Operand → Value) (w : World) : (∃ v, ∀ w2, (execOp ρ o).run P w2 = .ok (.value v) w2) ∨ ∀ (a : Act) (K : Act → World → Prop) (Q : Exit → Act → World → Prop), (∀ c a w, ¬ Q (.panic c) a w) → ¬ o.upon P a K Q ((execOp ρ o).run P w) := by
  cases e : o.op with
  | move x => exact .inl ⟨ρ x, fun w2 => by simp [execOp, e]⟩
  | extract x j =>
    cases hx : ρ x with
    | tuple vs =>
      cases hj : vs[j]? with
      | some v => exact .inl ⟨v, fun w2 => by simp [execOp, e, Instr.extract, hx, hj]⟩
      | none => refine .inr fun a K Q hQ hu => ?_; simp [execOp, e, Instr.extract, hx, hj, Oper.upon] at hu
    | _ => refine .inr fun a K Q hQ hu => ?_; simp [execOp, e, Instr.extract, hx, Oper.upon] at hu
  | _ => rw [e] at h; cases h
theorem hoistJ {P : Program} {ops : Array Oper} {Q : Exit → Act → World → Prop} (hQp : ∀ c a w, ¬ Q (.panic c) a w) (hQo : ¬ LetsOut Q) {j d : Nat} {oj : Oper} (hoj : ops[j]? = some oj) (hgj : oj.guard = none) (hdj : oj.dst = some d) (hfj : isFree oj.op = true) :
    ∀ (fuel : Nat) (listed : Array Bool) (a : Act) (w : World) (v : Value), listed.size = ops.size → listed.getD j true = false → (∀ e ∈ oj.after, Region.binds .any e = true → listed.getD e.on false = true) →
      (∀ (i : Nat) (o : Oper), ops[i]? = some o → listed.getD i false = false → i ≠ j → o.guard = none ∧ (∀ cs b, o.op ≠ .select cs b) ∧ ((∃ e ∈ o.after, Region.binds .any e = true ∧ e.on = j) ∨ ((∀ y ∈ o.op.operands, y ≠ .tmp d) ∧ o.dst ≠ some d ∧ ∀ y ∈ oj.op.operands, ∀ x, y = .tmp x → o.dst ≠ some x))) →
      (∀ w2, (execOp a.eval oj).run P w2 = .ok (.value v) w2) → wpAny P .any ops Q fuel (listed.setIfInBounds j true) (a.put (some d) v) w → wpAny P .any ops Q (fuel + 1) listed a w := by
  have hjlt : j < ops.size := (Array.getElem?_eq_some_iff.1 hoj).1
  have toF : ∀ (listed : Array Bool) (i : Nat), i < listed.size → listed.getD i true = false → listed.getD i false = false := fun listed i hs hl => by
    simp only [Array.getD_eq_getD_getElem?, Array.getElem?_eq_getElem hs, Option.getD_some] at hl ⊢
    exact hl
  -- an operation other than the free one
  have hoper : ∀ (listed : Array Bool), listed.size = ops.size → listed.getD j true = false → (∀ (i : Nat) (o : Oper), ops[i]? = some o → listed.getD i false = false → i ≠ j → o.guard = none ∧ (∀ cs b, o.op ≠ .select cs b) ∧ ((∃ e ∈ o.after, Region.binds .any e = true ∧ e.on = j) ∨ ((∀ y ∈ o.op.operands, y ≠ .tmp d) ∧ o.dst ≠ some d ∧ ∀ y ∈ oj.op.operands, ∀ x, y = .tmp x → o.dst ≠ some x))) →
      ∀ i, i ∈ Region.ready .any ops listed → i ≠ j → i ∈ Region.ready .any ops (listed.setIfInBounds j true) ∧ ∃ o, ops[i]? = some o ∧ o.guard = none ∧ (∀ cs b, o.op ≠ .select cs b) ∧ (∀ y ∈ o.op.operands, y ≠ .tmp d) ∧ o.dst ≠ some d ∧ ∀ y ∈ oj.op.operands, ∀ x, y = .tmp x → o.dst ≠ some x := by
    intro listed hsz hl hoth i hi hne
    obtain ⟨o, ho, hlt, h1, h2⟩ := ready_mem.1 hi
    obtain ⟨g1, g2, g3⟩ := hoth i o ho (toF listed i (by omega) h1) hne
    have hsj : j < listed.size := by omega
    rcases g3 with ⟨e, he, hb, hon⟩ | g3
    · have := h2 e he hb
      rw [hon, toF listed j hsj hl] at this; cases this
    · refine ⟨ready_mem.2 ⟨o, ho, hlt, ?_, fun e he hb => ?_⟩, o, ho, g1, g2, g3⟩
      · have hs' : i < listed.size := by omega
        simp only [Array.getD_eq_getD_getElem?, Array.getElem?_eq_getElem hs'] at h1
        simp only [Array.getD_eq_getD_getElem?, Array.getElem?_setIfInBounds_ne (Ne.symm hne), Array.getElem?_eq_getElem hs']
        exact h1
      · rw [getD_set hsj]
        split
        · rfl
        · exact h2 e he hb
  have hfirst : ∀ (fuel : Nat) (listed : Array Bool) (a : Act) (w : World) (v : Value), (∀ w2, (execOp a.eval oj).run P w2 = .ok (.value v) w2) → wpAny P .any ops Q fuel (listed.setIfInBounds j true) (a.put (some d) v) w → wpOp P ops Q j (wpAny P .any ops Q fuel (listed.setIfInBounds j true)) a w := by
    intro fuel listed a w v hv H
    unfold wpOp
    rw [hoj]
    simp only [Region.wanted, hgj, if_true]
    left
    unfold Oper.wp
    rw [hv w, Oper.upon_value, hdj]
    exact H
  intro fuel
  induction fuel with
  | zero =>
    intro listed a w v hsz hl hed hoth hv H
    refine ⟨fun he => ?_, fun i hi => ?_⟩
    · have : j ∈ Region.ready .any ops listed := ready_mem.2 ⟨oj, hoj, hjlt, hl, hed⟩
      rw [he] at this; cases this
    by_cases hij : i = j
    · subst hij
      exact hfirst 0 listed a w v hv H
    · obtain ⟨h3, _⟩ := hoper listed hsz hl hoth i hi hij
      rw [H.1] at h3; cases h3
  | succ f ih =>
    intro listed a w v hsz hl hed hoth hv H
    refine ⟨fun he => ?_, fun i hi => ?_⟩
    · have : j ∈ Region.ready .any ops listed := ready_mem.2 ⟨oj, hoj, hjlt, hl, hed⟩
      rw [he] at this; cases this
    by_cases hij : i = j
    · subst hij
      exact hfirst (f + 1) listed a w v hv H
    · obtain ⟨h3, o, ho, g1, g2, g3, g4, g5⟩ := hoper listed hsz hl hoth i hi hij
      have his : i < listed.size := by have := (Array.getElem?_eq_some_iff.1 ho).1; omega
      have hstep := H.2 i h3
      have hcomm : (listed.setIfInBounds j true).setIfInBounds i true = (listed.setIfInBounds i true).setIfInBounds j true := Array.setIfInBounds_comm _ _ (Ne.symm hij)
      rw [hcomm] at hstep
      have hl2 : (listed.setIfInBounds i true).getD j true = false := by
        simp only [Array.getD_eq_getD_getElem?, Array.getElem?_setIfInBounds_ne hij] at hl ⊢
        exact hl
      have hed2 : ∀ e ∈ oj.after, Region.binds .any e = true → (listed.setIfInBounds i true).getD e.on false = true := fun e he hb => by
        rw [getD_set his]
        split
        · rfl
        · exact hed e he hb
      have hoth2 : ∀ (i' : Nat) (o : Oper), ops[i']? = some o → (listed.setIfInBounds i true).getD i' false = false → i' ≠ j → o.guard = none ∧ (∀ cs b, o.op ≠ .select cs b) ∧ ((∃ e ∈ o.after, Region.binds .any e = true ∧ e.on = j) ∨ ((∀ y ∈ o.op.operands, y ≠ .tmp d) ∧ o.dst ≠ some d ∧ ∀ y ∈ oj.op.operands, ∀ x, y = .tmp x → o.dst ≠ some x)) := fun i' o' ho' hi' hne => by
        refine hoth i' o' ho' ?_ hne
        rw [getD_set his] at hi'
        by_cases q : i' = i
        · rw [if_pos q] at hi'; cases hi'
        · rwa [if_neg q] at hi'
      have hev : ∀ (b : Act) (r : Value), (∀ y, b.eval y = a.eval y) → ∀ w2, (execOp (b.put o.dst r).eval oj).run P w2 = .ok (.value v) w2 := fun b r hb w2 => by
        have : execOp (b.put o.dst r).eval oj = execOp a.eval oj := execOp_congr oj (free_nosel hfj) fun y hy => by rw [eval_put b o.dst r y (g5 y hy), hb]
        rw [this]; exact hv w2
      have hnext : ∀ (r : Value) (w' : World), wpAny P .any ops Q f ((listed.setIfInBounds i true).setIfInBounds j true) ((a.put (some d) v).put o.dst r) w' → wpAny P .any ops Q (f + 1) (listed.setIfInBounds i true) (a.put o.dst r) w' := by
        intro r w' hk
        refine ih (listed.setIfInBounds i true) (a.put o.dst r) w' v (by simpa using hsz) hl2 hed2 hoth2 (hev a r fun _ => rfl) ?_
        rw [← put_comm a d v o.dst r g4]
        exact hk
      have hnextD : ∀ (q : Deferred) (w' : World), wpAny P .any ops Q f ((listed.setIfInBounds i true).setIfInBounds j true) (({ (a.put (some d) v) with defers := q :: (a.put (some d) v).defers } : Act).put o.dst undef) w' → wpAny P .any ops Q (f + 1) (listed.setIfInBounds i true) (({ a with defers := q :: a.defers } : Act).put o.dst undef) w' := by
        intro q w' hk
        refine ih (listed.setIfInBounds i true) _ w' v (by simpa using hsz) hl2 hed2 hoth2 (hev { a with defers := q :: a.defers } undef fun y => by cases y <;> rfl) ?_
        rw [← put_comm { a with defers := q :: a.defers } d v o.dst undef g4]
        exact hk
      unfold wpOp at hstep ⊢
      rw [ho] at hstep ⊢
      simp only [Region.wanted, g1, if_true] at hstep ⊢
      rcases hstep with hstep | ⟨_, hlo⟩
      · left
        unfold Oper.wp at hstep ⊢
        have hexec : execOp (a.put (some d) v).eval o = execOp a.eval o := execOp_congr o g2 fun y hy => eval_put a (some d) v y fun x hx q => g3 y hy (by rw [hx]; cases q; rfl)
        rw [hexec] at hstep
        generalize (execOp a.eval o).run P w = R at hstep ⊢
        cases R with
        | ok n w' =>
          cases n <;> simp only [Oper.upon] at hstep ⊢
          case value v => exact hnext v w' hstep
          case skip => exact hnext _ w' hstep
          case defer q => exact hnextD q w' hstep
          case enter g args =>
            refine Calls.mono hstep ?_
            intro e w'' he
            cases e with
            | returned v => exact hnext v w'' he
            | panicked c => exact absurd he (hQp _ _ _)
            | outgrown => exact absurd he hQo
          case row row args => exact Rows.mono hstep fun v w'' he => hnext v w'' he
        | halt y w' => cases y <;> simp only [Oper.upon] at hstep ⊢; exact absurd hstep (hQp _ _ _)
      · exact absurd hlo hQo
set_option maxHeartbeats 1000000 in
theorem drawn_preJ {P : Program} {T : TT} (hT : T.Ok P) {n : Nat} {BP : Oper → Nat → Prop} {all : Array Oper} {s0 sn : St} {m : Nat} (hmle : m ≤ all.size) {J : List Nat} (hJ : ∀ j ∈ J, j < m) (hseq : seqOkJ all m J = true) (hfree : freeOk all m J = true) (hB : ∀ o id, BP o id → ∀ (i : Nat), i < m → all[i]? = some o → BirthM all m s0 sn i id) (hok : all.toList.all (okO T n all) = true) (hd : drawOk all = true) (hdoes : ∀ (i : Nat) (o : Oper), i < m → all[i]? = some o → Does P BP all ⟨preF all s0 sn i, s0.σ⟩ sn o) (hσ : sn.σ = s0.σ) (hoff : ∀ t, (∀ (i : Nat) (o : Oper), i < m → all[i]? = some o → o.dst ≠ some t) → sn.lf t = s0.lf t)
    {w0 : Base} {Q : Exit → Act → World → Prop} (hQp : ∀ c a w, ¬ Q (.panic c) a w) (hQo : ¬ LetsOut Q) (hQ : ∀ a' w', After n w0 (fun s => s = sn) a' w' → wpList P all Q (all.toList.drop m) a' w') :
    ∀ (fuel : Nat) (listed : Array Bool) (a : Act) (w : World) (ι : Nat → Option Value) (fp : Nat → Nat → Prop) (f : Nat → Value), listed.size = all.size → (List.range all.size).countP (fun i => !listed.getD i false) ≤ fuel →
      (∀ (j : Nat) (o : Oper), all[j]? = some o → listed.getD j false = true → ∀ e ∈ o.after, Region.binds .any e = true → listed.getD e.on false = true) → (∀ i, m ≤ i → listed.getD i false = false) → FR n f a → Inv w0 w ι fp (midM m all s0 sn listed) f → wpAny P .any all Q fuel listed a w := by
  have hdr : ∀ (i : Nat) (o : Oper), all[i]? = some o → (∀ e ∈ o.after, Region.binds .any e = true → e.on < i) ∧ ∀ (j : Nat) (o' : Oper), all[j]? = some o' → ∀ d, o'.dst = some d → (i ≠ j → o.dst ≠ some d) ∧ (d ∈ o.looksAt all → (j < i ∧ ∃ e ∈ o.after, Region.binds .any e = true ∧ e.on = j) ∨ (i < j ∧ ∃ e ∈ o'.after, Region.binds .any e = true ∧ e.on = i)) := by
    intro i o ho
    have hi : i < all.size := (Array.getElem?_eq_some_iff.1 ho).1
    have h1 := List.all_eq_true.1 hd i (List.mem_range.2 hi)
    rw [ho] at h1
    simp only [Bool.and_eq_true, Array.all_eq_true', Bool.or_eq_true, Bool.not_eq_true', decide_eq_true_eq] at h1
    refine ⟨fun e he hb => (h1.1 e he).resolve_left (by rw [hb]; decide), fun j o' ho' d hd' => ?_⟩
    have hj : j < all.size := (Array.getElem?_eq_some_iff.1 ho').1
    have h2 := List.all_eq_true.1 h1.2 j (List.mem_range.2 hj)
    rw [ho'] at h2
    simp only [Option.bind_some, hd', Bool.and_eq_true, Bool.or_eq_true, beq_iff_eq, bne_iff_ne, Bool.not_eq_true', decide_eq_true_eq, Array.any_eq_true', Option.any_some] at h2
    refine ⟨fun hne => h2.1.resolve_left hne, fun hm => ?_⟩
    rcases h2.2 with (h3 | ⟨h3, e, he, h4, h5⟩) | ⟨h3, e, he, h4, h5⟩
    · exact absurd (List.contains_iff_mem.2 hm) (by rw [h3]; decide)
    · exact .inl ⟨h3, e, he, h4, h5⟩
    · exact .inr ⟨h3, e, he, h4, h5⟩
  have hfin : ∀ (listed : Array Bool), (∀ i, i < m → listed.getD i false = true) → midM m all s0 sn listed = sn := by
    intro listed hl
    have h1 : (midM m all s0 sn listed).lf = sn.lf := by
      funext t
      by_cases ht : ∀ (i : Nat) (o : Oper), i < m → all[i]? = some o → o.dst ≠ some t
      · rw [midM_off ht, hoff t ht]
      · have ⟨i, o, hi, ho, hdt⟩ : ∃ (i : Nat) (o : Oper), i < m ∧ all[i]? = some o ∧ o.dst = some t := by
          apply Classical.byContradiction
          intro hq
          exact ht fun i o hi ho hdt => hq ⟨i, o, hi, ho, hdt⟩
        exact midM_at hi ho hdt (hl i hi)
    cases sn with
    | mk lf σ =>
      cases hmm : midM m all s0 ⟨lf, σ⟩ listed with
      | mk lf' σ' =>
        rw [hmm] at h1
        have h2 : σ' = s0.σ := by have := congrArg St.σ hmm; exact this.symm
        simp only at h1 hσ
        rw [h1, h2, hσ]
  have hphase : ∀ (fuel : Nat) (listed : Array Bool) (a : Act) (w : World) (ι : Nat → Option Value) (fp : Nat → Nat → Prop) (f : Nat → Value), listed.size = all.size → (List.range all.size).countP (fun i => !listed.getD i false) ≤ fuel → (∀ i, m ≤ i → listed.getD i false = false) → FR n f a → Inv w0 w ι fp (midM m all s0 sn listed) f → (∀ i, i < m → listed.getD i false = true) → wpAny P .any all Q fuel listed a w := by
    intro fuel listed a w ι fp f hsz hc hoffs hf hI hall
    rw [hfin listed hall] at hI
    refine seqAnyJ hJ hseq (fun i o ho => (hdr i o ho).1) (all.size - m) m fuel listed a w (by omega) (Nat.le_refl _) hsz (fun i hi => ?_) ?_ (hQ _ _ ⟨_, f, ι, fp, hf, hI, rfl⟩)
    · by_cases e : i < m
      · rw [hall i e]; simp [e]
      · rw [hoffs i (by omega)]; simp [e]
    · refine Nat.le_trans ?_ hc
      have key : ∀ k, k ≤ all.size → k - m ≤ (List.range k).countP (fun i => !listed.getD i false) := by
        intro k
        induction k with
        | zero => intro _; simp
        | succ k ihk =>
          intro hk
          rw [List.range_succ, List.countP_append]
          have := ihk (by omega)
          by_cases e : m ≤ k
          · have h1 : [k].countP (fun i => !listed.getD i false) = 1 := by rw [List.countP_singleton, hoffs k e]; rfl
            omega
          · omega
      exact key _ (Nat.le_refl _)
  intro fuel
  induction fuel with
  | zero =>
    intro listed a w ι fp f hsz hc _ hoffs hf hI
    refine hphase 0 listed a w ι fp f hsz hc hoffs hf hI fun i hi => ?_
    have := List.countP_eq_zero.1 (Nat.le_zero.1 hc) i (List.mem_range.2 (by omega))
    simpa using this
  | succ fuel ih =>
    intro listed a w ι fp f hsz hc hcl hoffs hf hI
    have step : ∀ i, i ∈ Region.ready .any all listed → i < m → wpOp P all Q i (wpAny P .any all Q fuel (listed.setIfInBounds i true)) a w := by
      intro i hi him
      obtain ⟨o, ho, hilt, hl, hafter⟩ := ready_mem.1 hi
      have hs' : i < listed.size := by omega
      have hl' : listed.getD i false = false := by
        simp only [Array.getD_eq_getD_getElem?, Array.getElem?_eq_getElem hs', Option.getD_some] at hl ⊢
        exact hl
      have hom : o ∈ all.toList := by
        have := List.mem_of_getElem? (l := all.toList) (i := i) (a := o) (by rw [Array.getElem?_toList]; exact ho)
        exact this
      have hoko := List.all_eq_true.1 hok o hom
      have hdst := okO_dst hoko
      -- what it looks at has its last value
      have look : ∀ t ∈ o.looksAt all, (midM m all s0 sn listed).lf t = preF all s0 sn i t := by
        intro t ht
        by_cases hw : ∀ (j : Nat) (o' : Oper), j < m → all[j]? = some o' → o'.dst ≠ some t
        · rw [midM_off hw]; unfold preF; split <;> first | rfl | exact (hoff t hw).symm
        · have ⟨j, o', hjm, hj, hdt⟩ : ∃ (j : Nat) (o' : Oper), j < m ∧ all[j]? = some o' ∧ o'.dst = some t := by
            apply Classical.byContradiction
            intro hq
            exact hw fun j o hj ho hdt => hq ⟨j, o, hj, ho, hdt⟩
          have only : ∀ j2, (all[j2]?).bind (·.dst) = some t → j2 = j := by
            intro j2 h2
            cases h3 : all[j2]? with
            | none => rw [h3] at h2; cases h2
            | some o2 =>
              rw [h3] at h2
              apply Classical.byContradiction
              intro hne
              exact ((hdr j2 o2 h3).2 j o' hj t hdt).1 hne h2
          rcases ((hdr i o ho).2 j o' hj t hdt).2 ht with ⟨hji, e, he, hb, hon⟩ | ⟨hij, e, he, hb, hon⟩
          · rw [midM_at hjm hj hdt (by rw [← hon]; exact hafter e he hb)]
            unfold preF
            rw [if_pos]
            rw [List.any_eq_true]
            exact ⟨j, List.mem_range.2 hji, by simp [hj, hdt]⟩
          · have hnl : listed.getD j false = false := by
              cases hq : listed.getD j false with
              | false => rfl
              | true => have := hcl j o' hj hq e he hb; rw [hon, hl'] at this; cases this
            unfold midM preF
            dsimp only
            rw [if_neg, if_neg]
            · intro hq
              rw [List.any_eq_true] at hq
              obtain ⟨j2, h1, h2⟩ := hq
              have := only j2 (by simpa using h2)
              have := List.mem_range.1 h1
              omega
            · intro hq
              rw [List.any_eq_true] at hq
              obtain ⟨j2, _, h2⟩ := hq
              simp only [Bool.and_eq_true, beq_iff_eq] at h2
              have := only j2 h2.2
              subst this
              rw [hnl] at h2
              cases h2.1
      -- the state behind it
      have next : ∀ x, (∀ d, o.dst = some d → sn.lf d = x) → (midM m all s0 sn listed).put o.dst x = midM m all s0 sn (listed.setIfInBounds i true) := by
        intro x hx
        have hfun : ((midM m all s0 sn listed).put o.dst x).lf = (midM m all s0 sn (listed.setIfInBounds i true)).lf := by
          funext t
          by_cases e : o.dst = some t
          · rw [e, midM_at him ho e (by rw [getD_set hs', if_pos rfl]), hx t e]
            simp [St.put, updL]
          · have h1 : ((midM m all s0 sn listed).put o.dst x).lf t = (midM m all s0 sn listed).lf t := by
              cases hd' : o.dst with
              | none => rfl
              | some d => simp only [St.put, updL]; rw [if_neg (fun q => e (by rw [hd', q]))]
            rw [h1]
            unfold midM
            have : (List.range m).any (fun j => listed.getD j false && ((all[j]?).bind (·.dst) == some t)) = (List.range m).any (fun j => (listed.setIfInBounds i true).getD j false && ((all[j]?).bind (·.dst) == some t)) := by
              congr 1
              funext j
              rw [getD_set hs']
              by_cases q : j = i
              · subst q
                rw [ho, if_pos rfl]
                have : (Option.bind (some o) (·.dst) == some t) = false := by simpa using e
                rw [this]; simp
              · rw [if_neg q]
            simp only [this]
        have hs2 : ((midM m all s0 sn listed).put o.dst x).σ = (midM m all s0 sn (listed.setIfInBounds i true)).σ := by cases o.dst <;> rfl
        cases h1 : (midM m all s0 sn listed).put o.dst x with
        | mk a1 b1 =>
          cases h2 : midM m all s0 sn (listed.setIfInBounds i true) with
          | mk a2 b2 =>
            rw [h1, h2] at hfun hs2
            simp only at hfun hs2
            rw [hfun, hs2]
      have hc' : (List.range all.size).countP (fun j => !(listed.setIfInBounds i true).getD j false) ≤ fuel := by
        have : (List.range all.size).countP (fun j => !(listed.setIfInBounds i true).getD j false) < (List.range all.size).countP (fun j => !listed.getD j false) := by
          have key : ∀ l : List Nat, i ∈ l → l.countP (fun j => !(listed.setIfInBounds i true).getD j false) < l.countP (fun j => !listed.getD j false) := by
            have mono : ∀ l : List Nat, l.countP (fun j => !(listed.setIfInBounds i true).getD j false) ≤ l.countP (fun j => !listed.getD j false) := fun l =>
              List.countP_mono_left fun j _ hj => by
                rw [getD_set hs'] at hj
                by_cases q : j = i
                · rw [if_pos q] at hj; cases hj
                · rwa [if_neg q] at hj
            intro l
            induction l with
            | nil => intro h; cases h
            | cons x l ihl =>
              intro hm
              rw [List.countP_cons, List.countP_cons]
              rcases List.mem_cons.1 hm with rfl | hm
              · have a1 : (!(listed.setIfInBounds i true).getD i false) = false := by rw [getD_set hs', if_pos rfl]; rfl
                have a2 : (!listed.getD i false) = true := by rw [hl']; rfl
                rw [a1, a2]
                have := mono l
                simp only [Bool.false_eq_true, if_false, if_true]
                omega
              · have a := ihl hm
                have b : (if (!(listed.setIfInBounds i true).getD x false) = true then 1 else 0) ≤ (if (!listed.getD x false) = true then 1 else 0) := by
                  rw [getD_set hs']
                  by_cases q : x = i
                  · rw [if_pos q]; simp
                  · rw [if_neg q]; exact Nat.le_refl _
                omega
          exact key _ (List.mem_range.2 hilt)
        omega
      have go : ∀ a' w' x ι' fp' f', (∀ d, o.dst = some d → sn.lf d = x) → FR n f' a' → Inv w0 w' ι' fp' ((midM m all s0 sn listed).put o.dst x) f' → wpAny P .any all Q fuel (listed.setIfInBounds i true) a' w' := by
        intro a' w' x ι' fp' f' hx hf' hI'
        rw [next x hx] at hI'
        refine ih _ a' w' ι' fp' f' (by simpa using hsz) hc' (fun j o2 ho2 hj2 e he hb => ?_) (fun j hj => by rw [getD_set hs', if_neg (by omega)]; exact hoffs j hj) hf' hI'
        rw [getD_set hs'] at hj2 ⊢
        by_cases q2 : e.on = i
        · rw [if_pos q2]
        · rw [if_neg q2]
          by_cases q : j = i
          · subst q
            rw [ho] at ho2
            cases ho2
            exact hafter e he hb
          · rw [if_neg q] at hj2
            exact hcl j o2 ho2 hj2 e he hb
      unfold wpOp
      rw [ho]
      dsimp only
      rcases hdoes i o him ho with ⟨hw, r, hP, hr⟩ | ⟨j, want, x, hg, hx, hne, hu⟩ | ⟨hg, id, e, vs, p, hbp, hN, hlate, hu⟩
      · have hwant : Region.wanted o (yielded all a.tmps) = true := by
          cases hg : o.guard with
          | none => simp [Region.wanted, hg]
          | some p =>
            obtain ⟨j, want⟩ := p
            obtain ⟨hj, hjn⟩ := okO_guard hoko hg
            have hm : slotOf all j ∈ o.looksAt all := by
              unfold Oper.looksAt
              rw [hg]
              exact List.mem_append_right _ (by simp [hj])
            have hv := hI.fr (slotOf all j)
            rw [look _ hm, show preF all s0 sn i (slotOf all j) = _ from hw j want hg] at hv
            simp only [LRel] at hv
            have hy := yielded_of hf all j _ hj hjn
            rw [hv] at hy
            simp [Region.wanted, hg, hy]
        rw [if_pos hwant]
        left
        have hOT : OpT P o (midM m all s0 sn listed) fun r' s' => r' = r ∧ s' = midM m all s0 sn listed := by
          intro w0' w' ι' fp' f' hI'
          refine hP w0' w' ι' fp' _ f' hI' rfl fun x hm => ?_
          cases x with
          | tmp t => exact look t (by unfold Oper.looksAt; exact List.mem_append_left _ (List.mem_filterMap.2 ⟨.tmp t, by simpa using hm, rfl⟩))
          | _ => rfl
        refine hOT.wp hdst hf hI ?_
        rintro a' w' ⟨s', f', ι', fp', hf', hI', r', s1, ⟨rfl, rfl⟩, rfl⟩
        exact go a' w' _ ι' fp' f' hr hf' hI'
      · obtain ⟨hj, hjn⟩ := okO_guard hoko hg
        have hm : slotOf all j ∈ o.looksAt all := by
          unfold Oper.looksAt
          rw [hg]
          exact List.mem_append_right _ (by simp [hj])
        have hv := hI.fr (slotOf all j)
        rw [look _ hm, show preF all s0 sn i (slotOf all j) = _ from hx] at hv
        simp only [LRel] at hv
        have hy := yielded_of hf all j _ hj hjn
        rw [hv] at hy
        have hwant : Region.wanted o (yielded all a.tmps) = false := not_wanted' hg hy hne
        rw [if_neg (by rw [hwant]; decide)]
        exact go _ w _ ι fp _ hu (hf.put o.dst hdst undef) (hI.put o.dst (by simp only [LRel]))
      · have hwant : Region.wanted o (yielded all a.tmps) = true := by simp [Region.wanted, hg]
        rw [if_pos hwant]
        left
        obtain ⟨b0, b1, b2, _, D, b4, b5⟩ := hB o id hbp i him ho
        have noD : ∀ j, j ∈ D → listed.getD j false = false := by
          intro j
          induction j using Nat.strongRecOn with
          | ind j ihj =>
            intro hjD
            cases hlj : listed.getD j false with
            | false => rfl
            | true =>
              obtain ⟨oj, hoj, e', he', hb', hon⟩ := b4 j hjD
              have h1 := hcl j oj hoj hlj e' he' hb'
              have h2 := (hdr j oj hoj).1 e' he' hb'
              rcases hon with hon | hon
              · rw [hon, hl'] at h1; cases h1
              · rw [ihj _ h2 hon] at h1; cases h1
        have hno : ∀ t, ment id ((midM m all s0 sn listed).lf t) = false := by
          intro t
          cases hm : ment id ((midM m all s0 sn listed).lf t) with
          | false => rfl
          | true =>
            unfold midM at hm
            dsimp only at hm
            split at hm
            · rename_i hany
              rw [List.any_eq_true] at hany
              obtain ⟨j, hj, hjb⟩ := hany
              simp only [Bool.and_eq_true, beq_iff_eq] at hjb
              have hjm := List.mem_range.1 hj
              have hlt : j < all.size := by omega
              obtain ⟨hjl, hjb2⟩ := hjb
              rw [Array.getElem?_eq_getElem hlt] at hjb2
              have hji : j ≠ i := fun e => by rw [e, hl'] at hjl; cases hjl
              have := noD j (b5 j _ t hjm (Array.getElem?_eq_getElem hlt) hji hjb2 hm)
              rw [hjl] at this
              cases this
            · rw [b1 t] at hm; cases hm
        have hOT : OpT P o (midM m all s0 sn listed) fun r' s' => r' = bornL p id vs.length ∧ s' = midM m all s0 sn listed := by
          intro w0' w' ι' fp' f' hI'
          refine hN w0' w' ι' fp' _ f' hI' rfl (fun x hm => ?_) b0 hlate hno b2
          cases x with
          | tmp t => exact look t (by unfold Oper.looksAt; exact List.mem_append_left _ (List.mem_filterMap.2 ⟨.tmp t, by simpa using hm, rfl⟩))
          | _ => rfl
        refine hOT.wp hdst hf hI ?_
        rintro a' w' ⟨s', f', ι', fp', hf', hI', r', s1, ⟨rfl, rfl⟩, rfl⟩
        exact go a' w' _ ι' fp' f' hu hf' hI'
    by_cases hall : ∀ i, i < m → listed.getD i false = true
    · exact hphase _ listed a w ι fp f hsz hc hoffs hf hI hall
    by_cases hallJ : ∀ i, i < m → i ∉ J → listed.getD i false = true
    · have ⟨j, hjm, hjl⟩ : ∃ j, j < m ∧ listed.getD j false = false := by
        apply Classical.byContradiction
        intro hq
        refine hall fun i hi => ?_
        cases hv : listed.getD i false with
        | true => rfl
        | false => exact absurd ⟨i, hi, hv⟩ hq
      have hjJ : j ∈ J := by
        apply Classical.byContradiction
        intro hq
        rw [hallJ j hjm hq] at hjl; cases hjl
      obtain ⟨oj, d, hoj, hgj, hdj, haj, hopj, hothj⟩ := freeOk_at hfree hjJ
      have hjlt : j < all.size := (Array.getElem?_eq_some_iff.1 hoj).1
      have hjs : j < listed.size := by omega
      have hjl' : listed.getD j true = false := by
        simp only [Array.getD_eq_getD_getElem?, Array.getElem?_eq_getElem hjs, Option.getD_some] at hjl ⊢
        exact hjl
      have hedge : ∀ e ∈ oj.after, Region.binds .any e = true → listed.getD e.on false = true := fun e he hb => hallJ e.on (by have := (hdr j oj hoj).1 e he hb; omega) (haj e he hb)
      have hst := step j (ready_mem.2 ⟨oj, hoj, hjlt, hjl', hedge⟩) hjm
      have hoth2 : ∀ (i : Nat) (o : Oper), all[i]? = some o → listed.getD i false = false → i ≠ j → o.guard = none ∧ (∀ cs b, o.op ≠ .select cs b) ∧ ((∃ e ∈ o.after, Region.binds .any e = true ∧ e.on = j) ∨ ((∀ y ∈ o.op.operands, y ≠ .tmp d) ∧ o.dst ≠ some d ∧ ∀ y ∈ oj.op.operands, ∀ x, y = .tmp x → o.dst ≠ some x)) := fun i o ho hil hne => by
        refine hothj i o ho ?_ hne
        by_cases him : i < m
        · right
          apply Classical.byContradiction
          intro hq
          rw [hallJ i him hq] at hil; cases hil
        · left; omega
      unfold wpOp at hst
      rw [hoj] at hst
      simp only [Region.wanted, hgj, if_true] at hst
      have hst := hst.resolve_right fun q => hQo q.2
      unfold Oper.wp at hst
      obtain ⟨v, hv⟩ | hbad := free_exec (P := P) hopj a.eval w
      · rw [hv w, Oper.upon_value, hdj] at hst
        exact hoistJ hQp hQo hoj hgj hdj hopj fuel listed a w v hsz hjl' hedge hoth2 hv hst
      · exact absurd hst (hbad a _ Q hQp)
    refine ⟨fun he => (hall ?_).elim, fun i hi => step i hi ?_⟩
    · intro i
      induction i using Nat.strongRecOn with
      | ind i ihi =>
        intro him
        by_cases hl : listed.getD i false = true
        · exact hl
        · exfalso
          have hilt : i < all.size := by omega
          have hmem : i ∈ Region.ready .any all listed := by
            refine ready_mem.2 ⟨all[i], Array.getElem?_eq_getElem hilt, hilt, ?_, fun e he' hb => ?_⟩
            · have hs' : i < listed.size := by omega
              simp only [Array.getD_eq_getD_getElem?, Array.getElem?_eq_getElem hs', Option.getD_some] at hl ⊢
              simpa using hl
            · have := (hdr i _ (Array.getElem?_eq_getElem hilt)).1 e he' hb
              exact ihi _ this (by omega)
          rw [he] at hmem
          cases hmem
    · apply Classical.byContradiction
      intro hge
      exact hallJ fun j hj hjJ => ready_afterJ hseq hcl hi (by omega) j (by omega) hjJ
theorem draw_lexSJ {P : Program} {T : TT} (hT : T.Ok P) {n id m : Nat} {BP : Oper → Nat → Prop} {ops : Array Oper} {s sn : St} {k : Kont} (hmle : m ≤ ops.size) (hm : P.follows .mixedOrders = true) (hd : drawOk ops = true) {J : List Nat} (hJ : ∀ j ∈ J, j < m) (hs : seqOkJ ops m J = true) (hfree : freeOk ops m J = true)
    (hB : ∀ o id, BP o id → ∀ (i : Nat), i < m → ops[i]? = some o → BirthM ops m s sn i id) (hok : ops.toList.all (okO T n ops) = true) (hlex : LexD P BP ops (ops.toList.take m) s sn) (hN : OpsT P ops n (ops.toList.drop m) sn (KN P n k).1) : Here P n (.region id ops true) s k := by
  have hdr := hdis_of hd
  have hlen : (ops.toList.take m).length = m := by simp; omega
  have hs0 : s = ⟨preF ops s sn 0, s.σ⟩ := by
    have : preF ops s sn 0 = s.lf := by funext t; simp [preF]
    rw [this]
  have hdoes : ∀ (i : Nat) (o : Oper), i < m → ops[i]? = some o → Does P BP ops ⟨preF ops s sn i, s.σ⟩ sn o := fun i o hi ho => LexD.does' [] (fun i x h => take_get (m := m) h) hdr hs0 hlex i o ho (Nat.zero_le _) (by rw [List.nil_append, hlen]; exact hi)
  obtain ⟨hσ, hoff⟩ := hlex.keeps
  intro w0 w ι fp f a hf hI
  refine wp_region_any hm ?_
  have hI' : Inv w0 { w with drawn := w.drawn + 1 } ι fp (midM m ops s sn (Array.replicate ops.size false)) f := by
    have : midM m ops s sn (Array.replicate ops.size false) = s := by
      have h1 : (midM m ops s sn (Array.replicate ops.size false)).lf = s.lf := by
        funext t
        unfold midM
        dsimp only
        rw [if_neg]
        intro hq
        rw [List.any_eq_true] at hq
        obtain ⟨j, hj, hb⟩ := hq
        have hlt : j < ops.size := by have := List.mem_range.1 hj; omega
        simp [Array.getD_eq_getD_getElem?, Array.getElem?_replicate, hlt] at hb
      cases s with
      | mk lf σ =>
        cases hmid : midM m ops ⟨lf, σ⟩ sn (Array.replicate ops.size false) with
        | mk a1 b1 =>
          rw [hmid] at h1
          have h2 := congrArg St.σ hmid
          simp only [midM] at h1 h2
          rw [h1, ← h2]
    rw [this]
    exact hI.step ((Below.refl _ w).drew)
  refine drawn_preJ hT hmle hJ hs hfree hB hok hd hdoes hσ (fun t ht => hoff t fun o ho => ?_) (w0 := w0) (fun c a w h => h) (fun ⟨a, w, h⟩ => h) (fun a' w' ⟨s', f', ι', fp', g1, g2, g3⟩ => ?_) ops.size _ a _ ι fp f (by simp) (Nat.le_trans List.countP_le_length (by simp)) (fun j o ho hj => by
    have hlt := (Array.getElem?_eq_some_iff.1 ho).1
    simp [Array.getD_eq_getD_getElem?, Array.getElem?_replicate, hlt] at hj) (fun i _ => by
      simp only [Array.getD_eq_getD_getElem?, Array.getElem?_replicate]
      split <;> rfl) hf hI'
  · obtain ⟨i, hi⟩ := List.getElem?_of_mem ho
    have him : i < m := by have := (List.getElem?_eq_some_iff.1 hi).1; omega
    exact ht i o him (take_get hi)
  · subst g3
    exact hN w0 w' ι' fp' f' a' _ g1 g2 fun a2 w2 h2 => h2
theorem Here.drawSJ {P : Program} {T : TT} (hT : T.Ok P) {n id : Nat} {ops : Array Oper} {s : St} {k : Kont} (m : Nat) (J : List Nat) (hJ : ∀ j ∈ J, j < m) (hmle : m ≤ ops.size) (hm : P.follows .mixedOrders = true) (hd : drawOk ops = true) (hs : seqOkJ ops m J = true) (hfree : freeOk ops m J = true)
    (h : DrawV P T n ops (ops.toList.take m) s (.back (fun s => OpsV P T n ops (ops.toList.drop m) s k) k)) : HereV P T n (.region id ops true) s k := by
  intro hok hk
  have hok' : ops.toList.all (okO T n ops) = true := hok
  obtain ⟨sn, hlex, hN⟩ := DrawV_lex hT (l := ops.toList.take m) (List.all_eq_true.2 fun x hx => List.all_eq_true.1 hok' x (List.mem_of_mem_take hx)) h
  have hN' : OpsV P T n ops (ops.toList.drop m) sn k := by unfold Norm at hN; exact hN
  exact draw_lexSJ hT hmle hm hd hJ hs hfree (fun o id h => h.elim) hok' hlex (OpsV_sound hT (List.all_eq_true.2 fun x hx => List.all_eq_true.1 hok' x (List.mem_of_mem_drop hx)) hk hN')
end Go.Proofs.YtcjhojdlfnpgjaaGreat
