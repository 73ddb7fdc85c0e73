/- A calculus of verification conditions over logical values: drawn regions in which some operations turn objects of the call's own, one behind the other, while others may come whenever. -/
import Derived.Test.YtcjhojdlfnpgjaaGreatK08
set_option linter.unusedVariables false
set_option linter.unusedSimpArgs false
set_option maxRecDepth 100000
namespace Go.Proofs.YtcjhojdlfnpgjaaGreat
open Go.RowKit
def closedL (all : Array Oper) (L : Nat → Bool) : Prop := ∀ (j : Nat) (o : Oper), all[j]? = some o → L j = true → ∀ e ∈ o.after, Region.binds .any e = true → L e.on = true
theorem drawOk_at {all : Array Oper} (hd : drawOk all = true) : ∀ (i : Nat) (o : Oper), all[i]? = some o → (∀ e ∈ o.after, Region.binds .any e = true → e.on < i) ∧ ∀ (j : Nat) (o' : Oper), all[j]? = some o' → ∀ d, o'.dst = some d → (i ≠ j → o.dst ≠ some d) ∧ (d ∈ o.looksAt all → (j < i ∧ ∃ e ∈ o.after, Region.binds .any e = true ∧ e.on = j) ∨ (i < j ∧ ∃ e ∈ o'.after, Region.binds .any e = true ∧ e.on = i)) := by
  intro i o ho
  have hi : i < all.size := (Array.getElem?_eq_some_iff.1 ho).1
  have h1 := List.all_eq_true.1 hd i (List.mem_range.2 hi)
  rw [ho] at h1
  simp only [Bool.and_eq_true, Array.all_eq_true', Bool.or_eq_true, Bool.not_eq_true', decide_eq_true_eq] at h1
  refine ⟨fun e he hb => (h1.1 e he).resolve_left (by rw [hb]; decide), fun j o' ho' d hd' => ?_⟩
  have hj : j < all.size := (Array.getElem?_eq_some_iff.1 ho').1
  have h2 := List.all_eq_true.1 h1.2 j (List.mem_range.2 hj)
  rw [ho'] at h2
  simp only [Option.bind_some, hd', Bool.and_eq_true, Bool.or_eq_true, beq_iff_eq, bne_iff_ne, Bool.not_eq_true', decide_eq_true_eq, Array.any_eq_true', Option.any_some] at h2
  refine ⟨fun hne => h2.1.resolve_left hne, fun hm => ?_⟩
  rcases h2.2 with (h3 | ⟨h3, e, he, h4, h5⟩) | ⟨h3, e, he, h4, h5⟩
  · exact absurd (List.contains_iff_mem.2 hm) (by rw [h3]; decide)
  · exact .inl ⟨h3, e, he, h4, h5⟩
  · exact .inr ⟨h3, e, he, h4, h5⟩
theorem waits_L {all : Array Oper} {L : Nat → Bool} (hcl : closedL all L) {i : Nat} (hi : ∀ j ∈ direct all i, L j = true) : ∀ j ∈ waits all i, L j = true := by
  unfold waits
  have key : ∀ (l S : List Nat), (∀ j ∈ S, L j = true) → ∀ j ∈ l.foldl (fun S j => if S.contains j then direct all j ++ S else S) S, L j = true := by
    intro l
    induction l with
    | nil => intro S h; exact h
    | cons x l ih =>
      intro S h
      simp only [List.foldl_cons]
      refine ih _ ?_
      split
      · rename_i hx
        intro j hj
        rcases List.mem_append.1 hj with hj | hj
        · cases ho : all[x]? with
          | none => unfold direct at hj; rw [ho] at hj; cases hj
          | some o =>
            obtain ⟨e, h1, h2, rfl⟩ := (direct_mem ho).1 hj
            exact hcl x o ho (h x (by simpa using hx)) e h1 h2
        · exact h j hj
      · exact h
  exact key _ _ hi
theorem count_set {all : Array Oper} {listed : Array Bool} {i fuel : Nat} (hs' : i < listed.size) (hlt : i < all.size) (hl' : listed.getD i false = false) (hc : (List.range all.size).countP (fun i => !listed.getD i false) ≤ fuel + 1) : (List.range all.size).countP (fun j => !(listed.setIfInBounds i true).getD j false) ≤ fuel := by
  have : (List.range all.size).countP (fun j => !(listed.setIfInBounds i true).getD j false) < (List.range all.size).countP (fun j => !listed.getD j false) := by
    have key : ∀ l : List Nat, i ∈ l → l.countP (fun j => !(listed.setIfInBounds i true).getD j false) < l.countP (fun j => !listed.getD j false) := by
      have mono : ∀ l : List Nat, l.countP (fun j => !(listed.setIfInBounds i true).getD j false) ≤ l.countP (fun j => !listed.getD j false) := fun l =>
        List.countP_mono_left fun j _ hj => by
          rw [getD_set hs'] at hj
          by_cases q : j = i
          · rw [if_pos q] at hj; cases hj
          · rwa [if_neg q] at hj
      intro l
      induction l with
      | nil => intro h; cases h
      | cons x l ihl =>
        intro hm
        rw [List.countP_cons, List.countP_cons]
        rcases List.mem_cons.1 hm with rfl | hm
        · have a1 : (!(listed.setIfInBounds i true).getD i false) = false := by rw [getD_set hs', if_pos rfl]; rfl
          have a2 : (!listed.getD i false) = true := by rw [hl']; rfl
          rw [a1, a2]
          have := mono l
          simp only [Bool.false_eq_true, if_false, if_true]
          omega
        · have a := ihl hm
          have b : (if (!(listed.setIfInBounds i true).getD x false) = true then 1 else 0) ≤ (if (!listed.getD x false) = true then 1 else 0) := by
            rw [getD_set hs']
            by_cases q : x = i
            · rw [if_pos q]; simp
            · rw [if_neg q]; exact Nat.le_refl _
          omega
    exact key _ (List.mem_range.2 hlt)
  omega
theorem drawn_mid {P : Program} {T : TT} {n : Nat} {all : Array Oper} {m : Nat} (hmle : m ≤ all.size) (hseq : seqOk all m = true) (hok : all.toList.all (okO T n all) = true) (hd : drawOk all = true) (Mid : (Nat → Bool) → St) (hguard : ∀ (i : Nat) (o : Oper), i < m → all[i]? = some o → o.guard = none)
    (hstep : ∀ (L : Nat → Bool) (i : Nat) (o : Oper), i < m → all[i]? = some o → closedL all L → L i = false → (∀ e ∈ o.after, Region.binds .any e = true → L e.on = true) → OpT P o (Mid L) fun r s' => s'.put o.dst r = Mid (fun j => L j || j == i))
    {w0 : Base} {Q : Exit → Act → World → Prop} (hQ : ∀ a' w', After n w0 (fun s => s = Mid (fun i => decide (i < m))) a' w' → wpList P all Q (all.toList.drop m) a' w') :
    ∀ (fuel : Nat) (listed : Array Bool) (a : Act) (w : World) (ι : Nat → Option Value) (fp : Nat → Nat → Prop) (f : Nat → Value), listed.size = all.size → (List.range all.size).countP (fun i => !listed.getD i false) ≤ fuel →
      closedL all (fun i => listed.getD i false) → (∀ i, m ≤ i → listed.getD i false = false) → FR n f a → Inv w0 w ι fp (Mid fun i => listed.getD i false) f → wpAny P .any all Q fuel listed a w := by
  have hdr := drawOk_at hd
  have hphase : ∀ (fuel : Nat) (listed : Array Bool) (a : Act) (w : World) (ι : Nat → Option Value) (fp : Nat → Nat → Prop) (f : Nat → Value), listed.size = all.size → (List.range all.size).countP (fun i => !listed.getD i false) ≤ fuel → (∀ i, m ≤ i → listed.getD i false = false) → FR n f a → Inv w0 w ι fp (Mid fun i => listed.getD i false) f → (∀ i, i < m → listed.getD i false = true) → wpAny P .any all Q fuel listed a w := by
    intro fuel listed a w ι fp f hsz hc hoffs hf hI hall
    have hL : (fun i => listed.getD i false) = fun i => decide (i < m) := by
      funext i
      by_cases e : i < m
      · rw [hall i e]; simp [e]
      · rw [hoffs i (by omega)]; simp [e]
    rw [hL] at hI
    refine seqAny hseq (fun i o ho => (hdr i o ho).1) (all.size - m) m fuel listed a w (by omega) (Nat.le_refl _) hsz (fun i hi => congrFun hL i) ?_ (hQ _ _ ⟨_, f, ι, fp, hf, hI, rfl⟩)
    refine Nat.le_trans ?_ hc
    have key : ∀ k, k ≤ all.size → k - m ≤ (List.range k).countP (fun i => !listed.getD i false) := by
      intro k
      induction k with
      | zero => intro _; simp
      | succ k ihk =>
        intro hk
        rw [List.range_succ, List.countP_append]
        have := ihk (by omega)
        by_cases e : m ≤ k
        · have h1 : [k].countP (fun i => !listed.getD i false) = 1 := by rw [List.countP_singleton, hoffs k e]; rfl
          omega
        · omega
    exact key _ (Nat.le_refl _)
  intro fuel
  induction fuel with
  | zero =>
    intro listed a w ι fp f hsz hc _ hoffs hf hI
    refine hphase 0 listed a w ι fp f hsz hc hoffs hf hI fun i hi => ?_
    have := List.countP_eq_zero.1 (Nat.le_zero.1 hc) i (List.mem_range.2 (by omega))
    simpa using this
  | succ fuel ih =>
    intro listed a w ι fp f hsz hc hcl hoffs hf hI
    by_cases hall : ∀ i, i < m → listed.getD i false = true
    · exact hphase _ listed a w ι fp f hsz hc hoffs hf hI hall
    have step : ∀ i, i ∈ Region.ready .any all listed → i < m → wpOp P all Q i (wpAny P .any all Q fuel (listed.setIfInBounds i true)) a w := by
      intro i hi him
      obtain ⟨o, ho, hilt, hl, hafter⟩ := ready_mem.1 hi
      have hs' : i < listed.size := by omega
      have hl' : listed.getD i false = false := by
        simp only [Array.getD_eq_getD_getElem?, Array.getElem?_eq_getElem hs', Option.getD_some] at hl ⊢
        exact hl
      have hom : o ∈ all.toList := List.mem_of_getElem? (l := all.toList) (i := i) (a := o) (by rw [Array.getElem?_toList]; exact ho)
      have hoko := List.all_eq_true.1 hok o hom
      unfold wpOp
      rw [ho]
      have hwant : Region.wanted o (yielded all a.tmps) = true := by simp [Region.wanted, hguard i o him ho]
      dsimp only
      rw [if_pos hwant]
      left
      refine (hstep (fun j => listed.getD j false) i o him ho hcl hl' hafter).wp (okO_dst hoko) hf hI ?_
      rintro a' w' ⟨s', f', ι', fp', hf', hI', r, s1, hK, rfl⟩
      have hnew : (fun j => listed.getD j false || j == i) = fun j => (listed.setIfInBounds i true).getD j false := by
        funext j
        rw [getD_set hs']
        by_cases q : j = i
        · rw [if_pos q]; simp [q]
        · rw [if_neg q]; simp [q]
      rw [hK, hnew] at hI'
      refine ih _ a' w' ι' fp' f' (by simpa using hsz) (count_set hs' hilt hl' hc) (fun j o2 ho2 hj2 e he hb => ?_) (fun j hj => by rw [getD_set hs', if_neg (by omega)]; exact hoffs j hj) hf' hI'
      dsimp only at hj2 ⊢
      rw [getD_set hs'] at hj2 ⊢
      by_cases q2 : e.on = i
      · rw [if_pos q2]
      · rw [if_neg q2]
        by_cases q : j = i
        · subst q
          rw [ho] at ho2
          cases ho2
          exact hafter e he hb
        · rw [if_neg q] at hj2
          exact hcl j o2 ho2 hj2 e he hb
    refine ⟨fun he => (hall ?_).elim, fun i hi => step i hi ?_⟩
    · intro i
      induction i using Nat.strongRecOn with
      | ind i ihi =>
        intro him
        by_cases hl : listed.getD i false = true
        · exact hl
        · exfalso
          have hilt : i < all.size := by omega
          have hmem : i ∈ Region.ready .any all listed := by
            refine ready_mem.2 ⟨all[i], Array.getElem?_eq_getElem hilt, hilt, ?_, fun e he' hb => ?_⟩
            · have hs' : i < listed.size := by omega
              simp only [Array.getD_eq_getD_getElem?, Array.getElem?_eq_getElem hs', Option.getD_some] at hl ⊢
              simpa using hl
            · have := (hdr i _ (Array.getElem?_eq_getElem hilt)).1 e he' hb
              exact ihi _ this (by omega)
          rw [he] at hmem
          cases hmem
    · apply Classical.byContradiction
      intro hge
      exact hall fun j hj => ready_after hseq hcl hi (by omega) j (by omega)
inductive Md | p | f | c | b (id : Nat)
deriving DecidableEq
def isF : Md → Bool
  | .f => true
  | .b _ => true
  | _ => false
def calm (K : List Nat) (x : LV) : Prop := ∀ Q : Nat → Bool, (∀ j, Q j = true → K.contains j = true) → kill Q x = x
def inK (K : List Nat) (Q : Nat → Bool) : Prop := ∀ j, Q j = true → K.contains j = true
section
variable (all : Array Oper) (m : Nat) (s0 : St) (C : Nat → Bool) (R : Nat → LV) (QQ : Nat → Nat → Bool) (SS : Nat → Nat → Option OC)
def dstIs (j t : Nat) : Bool := (all[j]?).bind (·.dst) == some t
def kfold (L : Nat → Bool) (lo : Nat) (x : LV) : LV := ((List.range m).filter fun c => C c && L c && decide (lo ≤ c)).foldl (fun x c => kill (QQ c) x) x
def midC (L : Nat → Bool) : St :=
  ⟨fun t => match (List.range m).find? fun j => L j && dstIs all j t with
    | some j => kfold m C QQ L (j + 1) (R j)
    | none => kfold m C QQ L 0 (s0.lf t),
   match ((List.range m).filter fun c => C c && L c).getLast? with
    | some c => SS c
    | none => s0.σ⟩
end
section
variable {all : Array Oper} {m : Nat} {s0 : St} {C : Nat → Bool} {R : Nat → LV} {QQ : Nat → Nat → Bool} {SS : Nat → Nat → Option OC}
theorem kfold_congr {L L' : Nat → Bool} {lo : Nat} (x : LV) (h : ∀ c, c < m → C c = true → lo ≤ c → L c = L' c) : kfold m C QQ L lo x = kfold m C QQ L' lo x := by
  unfold kfold
  congr 1
  refine List.filter_congr fun c hc => ?_
  have hlt := List.mem_range.1 hc
  by_cases h1 : C c = true
  · by_cases h2 : lo ≤ c
    · rw [h c hlt h1 h2]
    · simp [h2]
  · simp [h1]
theorem kfold_calm {K : List Nat} (hK : ∀ c, inK K (QQ c)) {L : Nat → Bool} {lo : Nat} {x : LV} (h : calm K x) : kfold m C QQ L lo x = x := by
  unfold kfold
  generalize (List.range m).filter (fun c => C c && L c && decide (lo ≤ c)) = l
  induction l with
  | nil => rfl
  | cons c l ih => rw [List.foldl_cons, h _ (hK c)]; exact ih
theorem kfold_none {L : Nat → Bool} {lo : Nat} (x : LV) (h : ∀ c, c < m → C c = true → lo ≤ c → L c = false) : kfold m C QQ L lo x = x := by
  have : (List.range m).filter (fun c => C c && L c && decide (lo ≤ c)) = [] := by
    rw [List.filter_eq_nil_iff]
    intro c hc
    have hlt := List.mem_range.1 hc
    by_cases h1 : C c = true
    · by_cases h2 : lo ≤ c
      · simp [h c hlt h1 h2]
      · simp [h2]
    · simp [h1]
  unfold kfold
  rw [this]
  rfl
theorem filter_add {p : Nat → Bool} {i : Nat} (hp : ∀ c, i ≤ c → p c = false) : ∀ m, (List.range m).filter (fun c => p c || c == i) = (List.range m).filter p ++ (if i < m then [i] else [])
  | 0 => by simp
  | m + 1 => by
    rw [List.range_succ, List.filter_append, List.filter_append, filter_add hp m]
    by_cases e : m = i
    · subst e
      have h1 : p m = false := hp m (Nat.le_refl _)
      simp [h1]
    · by_cases q : i < m
      · have h1 : p m = false := hp m (by omega)
        simp [h1, e, q, show i < m + 1 by omega]
      · have h2 : ¬ i < m + 1 := by omega
        simp [q, h2, e]
        cases h : p m <;> simp [h, e]
theorem kfold_add {L : Nat → Bool} {lo i : Nat} (x : LV) (him : i < m) (hC : C i = true) (hlo : lo ≤ i) (h : ∀ c, c < m → C c = true → i ≤ c → L c = false) : kfold m C QQ (fun j => L j || j == i) lo x = kill (QQ i) (kfold m C QQ L lo x) := by
  have e : (List.range m).filter (fun c => C c && (L c || c == i) && decide (lo ≤ c)) = (List.range m).filter (fun c => C c && L c && decide (lo ≤ c)) ++ [i] := by
    have h1 := filter_add (p := fun c => decide (c < i) && (C c && L c && decide (lo ≤ c))) (i := i) (fun c hc => by simp [show ¬ c < i by omega]) m
    rw [if_pos him] at h1
    have h2 : (List.range m).filter (fun c => C c && (L c || c == i) && decide (lo ≤ c)) = (List.range m).filter (fun c => decide (c < i) && (C c && L c && decide (lo ≤ c)) || c == i) := by
      refine List.filter_congr fun c hc => ?_
      have hlt := List.mem_range.1 hc
      by_cases q : c = i
      · subst q; simp [hC, hlo]
      · have q' : (c == i) = false := by simpa using q
        rw [q', Bool.or_false, Bool.or_false]
        by_cases q2 : c < i
        · simp [q2]
        · by_cases q3 : C c = true
          · have := h c hlt q3 (by omega); simp [this]
          · simp [q3]
    have h3 : (List.range m).filter (fun c => C c && L c && decide (lo ≤ c)) = (List.range m).filter (fun c => decide (c < i) && (C c && L c && decide (lo ≤ c))) := by
      refine List.filter_congr fun c hc => ?_
      have hlt := List.mem_range.1 hc
      by_cases q2 : c < i
      · simp [q2]
      · by_cases q3 : C c = true
        · have := h c hlt q3 (by omega); simp [this]
        · simp [q3]
    rw [h2, h1, h3]
  unfold kfold
  rw [e, List.foldl_append]
  rfl
theorem last_add {L : Nat → Bool} {i : Nat} (him : i < m) (hC : C i = true) (h : ∀ c, c < m → C c = true → i ≤ c → L c = false) : ((List.range m).filter fun c => C c && (L c || c == i)).getLast? = some i := by
  have e : (List.range m).filter (fun c => C c && (L c || c == i)) = (List.range m).filter (fun c => decide (c < i) && (C c && L c)) ++ [i] := by
    have h1 := filter_add (p := fun c => decide (c < i) && (C c && L c)) (i := i) (fun c hc => by simp [show ¬ c < i by omega]) m
    rw [if_pos him] at h1
    rw [← h1]
    refine List.filter_congr fun c hc => ?_
    have hlt := List.mem_range.1 hc
    by_cases q : c = i
    · subst q; simp [hC]
    · have q' : (c == i) = false := by simpa using q
      rw [q', Bool.or_false, Bool.or_false]
      by_cases q2 : c < i
      · simp [q2]
      · by_cases q3 : C c = true
        · have := h c hlt q3 (by omega); simp [this]
        · simp [q3]
  rw [e]
  simp
theorem filterC_congr {L L' : Nat → Bool} (h : ∀ c, c < m → C c = true → L c = L' c) : (List.range m).filter (fun c => C c && L c) = (List.range m).filter (fun c => C c && L' c) := by
  refine List.filter_congr fun c hc => ?_
  have hlt := List.mem_range.1 hc
  by_cases h1 : C c = true
  · rw [h c hlt h1]
  · simp [h1]
theorem writer_at (hdis : ∀ (i : Nat) (o : Oper), all[i]? = some o → ∀ (j : Nat) (o' : Oper), all[j]? = some o' → i ≠ j → ∀ d, o.dst = some d → o'.dst ≠ some d) {L : Nat → Bool} {j t : Nat} {o : Oper} (hj : j < m) (ho : all[j]? = some o) (hd : o.dst = some t) (hL : L j = true) : (List.range m).find? (fun j => L j && dstIs all j t) = some j := by
  cases hf : (List.range m).find? (fun j => L j && dstIs all j t) with
  | none =>
    have := List.find?_eq_none.1 hf j (List.mem_range.2 hj)
    simp [hL, dstIs, ho, hd] at this
  | some k =>
    have h1 := List.find?_some hf
    have h2 : ((all[k]?).bind (·.dst)) = some t := by
      simp only [Bool.and_eq_true, dstIs, beq_iff_eq] at h1
      exact h1.2
    cases hk : all[k]? with
    | none => rw [hk] at h2; cases h2
    | some o' =>
      rw [hk] at h2
      by_cases e : j = k
      · rw [e]
      · exact absurd h2 (hdis j o ho k o' hk e t hd)
theorem writer_off {L : Nat → Bool} {t : Nat} (h : ∀ (j : Nat) (o : Oper), j < m → all[j]? = some o → o.dst = some t → L j = false) : (List.range m).find? (fun j => L j && dstIs all j t) = none := by
  rw [List.find?_eq_none]
  intro j hj
  have hlt := List.mem_range.1 hj
  cases ho : all[j]? with
  | none => simp [dstIs, ho]
  | some o =>
    by_cases e : o.dst = some t
    · simp [h j o hlt ho e]
    · simp [dstIs, ho, e]
end
def mdAt (ms : List Md) (i : Nat) : Md := ms.getD i .p
def isC (ms : List Md) (i : Nat) : Bool := mdAt ms i == .c
def modesOk (all : Array Oper) (m : Nat) (ms : List Md) (B : List Nat) : Bool := (List.range m).all fun i =>
  match isF (mdAt ms i) with
  | true => match all[i]? with
    | none => false
    | some o => o.op.operands.toList.all fun x => match x with
      | .tmp t => if (List.range i).any (fun j => dstIs all j t) then (List.range i).all (fun j => !dstIs all j t || isF (mdAt ms j)) else B.contains t
      | _ => true
  | false => (List.range m).all fun c => !isC ms c || (if c < i then (waits all i).contains c else c == i || (waits all c).contains i)
def OpC (P : Program) (o : Oper) (ρ : Operand → LV) (σ : Nat → Option OC) (Q : Nat → Bool) (σ' : Nat → Option OC) (r : LV) : Prop :=
  ∀ s : St, s.σ = σ → (∀ x ∈ o.op.operands, evL s x = ρ x) → OpT P o s fun r' s' => r' = r ∧ s' = ⟨fun t => kill Q (s.lf t), σ'⟩
def keeps (KP : List Nat) (σ0 σ : Nat → Option OC) : Prop := ∀ j ∈ KP, σ j = σ0 j
def BornC (P : Program) (G : (Nat → Option OC) → Prop) (o : Oper) (id : Nat) (s : St) (r : LV) : Prop := 16 ≤ id ∧ ∃ e vs p, r = bornL p id vs.length ∧ ∀ σ, G σ → (∀ j oc, σ j = some oc → j ≠ id → mentO id oc = false) ∧ σ id = some (.late e vs) ∧ OpN P o (evL s) σ id e vs p
def DoesC (P : Program) (K : List Nat) (G : (Nat → Option OC) → Prop) (o : Oper) (md : Md) (s : St) (Q : Nat → Bool) (σ' : Nat → Option OC) (r : LV) : Prop := o.guard = none ∧ match md with
  | .p => OpP P o (evL s) s.σ r
  | .f => (∀ σ, G σ → OpP P o (evL s) σ r) ∧ calm K r
  | .b id => BornC P G o id s r ∧ calm K r
  | .c => G σ' ∧ OpC P o (evL s) s.σ Q σ' r
section
variable {P : Program} {T : TT} {n : Nat} {all : Array Oper} {m : Nat} {ms : List Md} {B : List Nat} {s0 : St} {R : Nat → LV} {QQ : Nat → Nat → Bool} {SS : Nat → Nat → Option OC}
theorem isC_iff {i : Nat} : isC ms i = true ↔ mdAt ms i = .c := by unfold isC; simp
theorem modes_at (hm : modesOk all m ms B = true) {L : Nat → Bool} {i : Nat} {o : Oper} (him : i < m) (ho : all[i]? = some o) (hf : isF (mdAt ms i) = false) (hcl : closedL all L) (hi : L i = false) (haf : ∀ e ∈ o.after, Region.binds .any e = true → L e.on = true) :
    ∀ c, c < m → isC ms c = true → L c = decide (c < i) := by
  intro c hc hC
  have h := List.all_eq_true.1 hm i (List.mem_range.2 him)
  have h2 : ((List.range m).all fun c => !isC ms c || (if c < i then (waits all i).contains c else c == i || (waits all c).contains i)) = true := by
    simpa only [hf] using h
  have h3 := List.all_eq_true.1 h2 c (List.mem_range.2 hc)
  simp only [hC, Bool.not_true, Bool.false_or] at h3
  by_cases q : c < i
  · rw [if_pos q] at h3
    rw [decide_eq_true q]
    exact waits_L hcl (fun j hj => by obtain ⟨e, h1, h2, rfl⟩ := (direct_mem ho).1 hj; exact haf e h1 h2) c (List.contains_iff_mem.1 h3)
  · rw [if_neg q] at h3
    rw [decide_eq_false q]
    simp only [Bool.or_eq_true, beq_iff_eq] at h3
    rcases h3 with h3 | h3
    · rw [h3]; exact hi
    · cases hL : L c with
      | false => rfl
      | true =>
        have hlt : c < all.size ∨ ¬ c < all.size := by omega
        have : L i = true := waits_L hcl (i := c) (fun j hj => by
          cases hoc : all[c]? with
          | none => unfold direct at hj; rw [hoc] at hj; cases hj
          | some oc =>
            obtain ⟨e, h1, h2, rfl⟩ := (direct_mem hoc).1 hj
            exact hcl c oc hoc hL e h1 h2) i (List.contains_iff_mem.1 h3)
        rw [hi] at this; cases this
theorem free_at (hm : modesOk all m ms B = true) {i : Nat} {o : Oper} (him : i < m) (ho : all[i]? = some o) (hf : isF (mdAt ms i) = true) {t : Nat} (ht : Operand.tmp t ∈ o.op.operands) :
    (∀ (j : Nat) (oj : Oper), j < i → all[j]? = some oj → oj.dst = some t → isF (mdAt ms j) = true) ∧ ((∀ (j : Nat) (oj : Oper), j < i → all[j]? = some oj → oj.dst ≠ some t) → t ∈ B) := by
  have h := List.all_eq_true.1 hm i (List.mem_range.2 him)
  simp only [hf, ho] at h
  have h2 := List.all_eq_true.1 h (.tmp t) (by simpa using ht)
  dsimp only at h2
  constructor
  · intro j oj hj hoj hd
    have hd' : dstIs all j t = true := by simp [dstIs, hoj, hd]
    rw [if_pos (List.any_eq_true.2 ⟨j, List.mem_range.2 hj, hd'⟩)] at h2
    have h3 := List.all_eq_true.1 h2 j (List.mem_range.2 hj)
    simpa [hd'] using h3
  · intro hno
    rw [if_neg] at h2
    · exact List.contains_iff_mem.1 h2
    · intro q
      obtain ⟨j, hj, hd'⟩ := List.any_eq_true.1 q
      cases hoj : all[j]? with
      | none => simp [dstIs, hoj] at hd'
      | some oj =>
        simp only [dstIs, hoj, Option.bind_some, beq_iff_eq] at hd'
        exact hno j oj (List.mem_range.1 hj) hoj hd'
def preC (all : Array Oper) (m : Nat) (ms : List Md) (s0 : St) (R : Nat → LV) (QQ : Nat → Nat → Bool) (SS : Nat → Nat → Option OC) (i : Nat) : St := midC all m s0 (isC ms) R QQ SS fun j => decide (j < i)
theorem look_C {K : List Nat} (hK : ∀ c, inK K (QQ c)) (hd : drawOk all = true) (hm : modesOk all m ms B = true) (hB : ∀ t ∈ B, calm K (s0.lf t)) (hfree : ∀ i, i < m → isF (mdAt ms i) = true → calm K (R i)) {L : Nat → Bool} {i : Nat} {o : Oper} (him : i < m) (ho : all[i]? = some o) (hcl : closedL all L) (hi : L i = false) (haf : ∀ e ∈ o.after, Region.binds .any e = true → L e.on = true)
    {t : Nat} (ht : Operand.tmp t ∈ o.op.operands) : (midC all m s0 (isC ms) R QQ SS L).lf t = (preC all m ms s0 R QQ SS i).lf t := by
  have hdr := drawOk_at hd
  have hdis := hdis_of hd
  have htl : t ∈ o.looksAt all := by unfold Oper.looksAt; exact List.mem_append_left _ (List.mem_filterMap.2 ⟨.tmp t, by simpa using ht, rfl⟩)
  have agree : isF (mdAt ms i) = false → ∀ (lo : Nat) (x : LV), kfold m (isC ms) QQ L lo x = kfold m (isC ms) QQ (fun j => decide (j < i)) lo x := fun hf lo x => kfold_congr x fun c hc hC _ => modes_at hm him ho hf hcl hi haf c hc hC
  unfold preC midC
  dsimp only
  by_cases hw : ∃ (j : Nat) (oj : Oper), j < m ∧ all[j]? = some oj ∧ oj.dst = some t
  · obtain ⟨j, oj, hjm, hoj, hdj⟩ := hw
    have only : ∀ (k : Nat) (ok : Oper), all[k]? = some ok → ok.dst = some t → k = j := fun k ok hok hdk => by
      apply Classical.byContradiction
      intro hne
      exact hdis k ok hok j oj hoj hne t hdk hdj
    rcases ((hdr i o ho).2 j oj hoj t hdj).2 htl with ⟨hji, e, he, hb, hon⟩ | ⟨hij, e, he, hb, hon⟩
    · have hLj : L j = true := by rw [← hon]; exact haf e he hb
      rw [writer_at hdis hjm hoj hdj hLj, writer_at hdis (L := fun j => decide (j < i)) hjm hoj hdj (decide_eq_true hji)]
      dsimp only
      by_cases hf : isF (mdAt ms i) = true
      · have := hfree j hjm ((free_at hm him ho hf ht).1 j oj hji hoj hdj)
        rw [kfold_calm hK this, kfold_calm hK this]
      · exact agree (by simpa using hf) _ _
    · have hLj : L j = false := by
        cases q : L j with
        | false => rfl
        | true => have := hcl j oj hoj q e he hb; rw [hon, hi] at this; cases this
      rw [writer_off fun k ok _ hok hdk => by rw [only k ok hok hdk]; exact hLj, writer_off (L := fun j => decide (j < i)) fun k ok _ hok hdk => by rw [only k ok hok hdk]; exact decide_eq_false (by omega)]
      dsimp only
      by_cases hf : isF (mdAt ms i) = true
      · have := hB t ((free_at hm him ho hf ht).2 fun k ok hk hok hdk => by have := only k ok hok hdk; omega)
        rw [kfold_calm hK this, kfold_calm hK this]
      · exact agree (by simpa using hf) _ _
  · have hno : ∀ (j : Nat) (oj : Oper), j < m → all[j]? = some oj → oj.dst ≠ some t := fun j oj hj hoj hdj => hw ⟨j, oj, hj, hoj, hdj⟩
    rw [writer_off fun k ok hk hok hdk => absurd hdk (hno k ok hk hok), writer_off (L := fun j => decide (j < i)) fun k ok hk hok hdk => absurd hdk (hno k ok hk hok)]
    dsimp only
    by_cases hf : isF (mdAt ms i) = true
    · have := hB t ((free_at hm him ho hf ht).2 fun k ok hk hok => hno k ok (by omega) hok)
      rw [kfold_calm hK this, kfold_calm hK this]
    · exact agree (by simpa using hf) _ _
theorem sig_C (hm : modesOk all m ms B = true) {L : Nat → Bool} {i : Nat} {o : Oper} (him : i < m) (ho : all[i]? = some o) (hf : isF (mdAt ms i) = false) (hcl : closedL all L) (hi : L i = false) (haf : ∀ e ∈ o.after, Region.binds .any e = true → L e.on = true) :
    (midC all m s0 (isC ms) R QQ SS L).σ = (preC all m ms s0 R QQ SS i).σ := by
  unfold preC midC
  dsimp only
  rw [filterC_congr fun c hc hC => modes_at hm him ho hf hcl hi haf c hc hC]
def stepC (md : Md) (s : St) (dst : Option Tmp) (Q : Nat → Bool) (σ' : Nat → Option OC) (r : LV) : St := match md with
  | .c => (⟨fun t => kill Q (s.lf t), σ'⟩ : St).put dst r
  | _ => s.put dst r
theorem put_eq {s s' : St} {dst : Option Tmp} {r : LV} (hσ : s'.σ = s.σ) (h1 : ∀ t, dst = some t → s'.lf t = r) (h2 : ∀ t, dst ≠ some t → s'.lf t = s.lf t) : s.put dst r = s' := by
  have hl : (s.put dst r).lf = s'.lf := by
    funext t
    cases dst with
    | none => exact (h2 t (by simp)).symm
    | some d =>
      simp only [St.put, updL]
      by_cases e : t = d
      · subst e; rw [if_pos rfl, h1 t rfl]
      · rw [if_neg e]; exact (h2 t fun q => e (by cases q; rfl)).symm
  have hs : (s.put dst r).σ = s'.σ := by rw [hσ]; cases dst <;> rfl
  cases e1 : s.put dst r with
  | mk a b =>
    cases s' with
    | mk a' b' =>
      rw [e1] at hl hs
      have hl' : a = a' := hl
      have hs' : b = b' := hs
      rw [hl', hs']
theorem next_C {K : List Nat} (hK : ∀ c, inK K (QQ c)) (hd : drawOk all = true) (hm : modesOk all m ms B = true) (hfree : ∀ i, i < m → isF (mdAt ms i) = true → calm K (R i)) {L : Nat → Bool} {i : Nat} {o : Oper} (him : i < m) (ho : all[i]? = some o) (hcl : closedL all L) (hi : L i = false) (haf : ∀ e ∈ o.after, Region.binds .any e = true → L e.on = true) :
    stepC (mdAt ms i) (midC all m s0 (isC ms) R QQ SS L) o.dst (QQ i) (SS i) (R i) = midC all m s0 (isC ms) R QQ SS fun j => L j || j == i := by
  have hdis := hdis_of hd
  have other : ∀ t, o.dst ≠ some t → (List.range m).find? (fun j => (L j || j == i) && dstIs all j t) = (List.range m).find? (fun j => L j && dstIs all j t) := by
    intro t ht
    congr 1
    funext j
    by_cases e : j = i
    · subst e
      have : dstIs all j t = false := by simp [dstIs, ho, ht]
      rw [this, Bool.and_false, Bool.and_false]
    · have q : (j == i) = false := by simpa using e
      rw [q, Bool.or_false]
  have mine : ∀ t, o.dst = some t → (List.range m).find? (fun j => (L j || j == i) && dstIs all j t) = some i := fun t ht => writer_at hdis (L := fun j => L j || j == i) him ho ht (by simp)
  by_cases hc : mdAt ms i = .c
  · have hC : isC ms i = true := isC_iff.2 hc
    have hF := modes_at hm him ho (by rw [hc]; rfl) hcl hi haf
    have hnone : ∀ c, c < m → isC ms c = true → i ≤ c → L c = false := fun c h1 h2 h3 => by rw [hF c h1 h2]; exact decide_eq_false (by omega)
    rw [hc]
    unfold stepC
    refine put_eq ?_ (fun t ht => ?_) fun t ht => ?_
    · unfold midC
      dsimp only
      rw [last_add him hC hnone]
    · unfold midC
      dsimp only
      rw [mine t ht]
      exact kfold_none _ fun c h1 h2 h3 => by simp [hnone c h1 h2 (by omega), show c ≠ i by omega]
    · unfold midC
      dsimp only
      rw [other t ht]
      cases hfd : (List.range m).find? (fun j => L j && dstIs all j t) with
      | none => exact kfold_add _ him hC (Nat.zero_le _) hnone
      | some j =>
        dsimp only
        have hjm := List.mem_range.1 (List.mem_of_find?_eq_some hfd)
        have hLj : L j = true := by have := List.find?_some hfd; simp only [Bool.and_eq_true] at this; exact this.1
        by_cases q : j + 1 ≤ i
        · exact kfold_add _ him hC q hnone
        · have hne : j ≠ i := fun e => by rw [e, hi] at hLj; cases hLj
          have hjf : isF (mdAt ms j) = true := by
            apply Classical.byContradiction
            intro hn
            cases hoj : all[j]? with
            | none => have := List.find?_some hfd; simp [dstIs, hoj] at this
            | some oj =>
              by_cases hjc : mdAt ms j = .c
              · rw [hnone j hjm (isC_iff.2 hjc) (by omega)] at hLj; cases hLj
              · -- a plain one is in order with the turning ones
                have h := List.all_eq_true.1 hm j (List.mem_range.2 hjm)
                have h2 : ((List.range m).all fun c => !isC ms c || (if c < j then (waits all j).contains c else c == j || (waits all c).contains j)) = true := by
                  have hn' : isF (mdAt ms j) = false := by simpa using hn
                  simpa only [hn'] using h
                have h3 := List.all_eq_true.1 h2 i (List.mem_range.2 him)
                simp only [hC, Bool.not_true, Bool.false_or] at h3
                rw [if_pos (by omega)] at h3
                have := waits_L hcl (i := j) (fun k hk => by obtain ⟨e, h1, h2, rfl⟩ := (direct_mem hoj).1 hk; exact hcl j oj hoj hLj e h1 h2) i (List.contains_iff_mem.1 h3)
                rw [hi] at this; cases this
          have := hfree j hjm hjf
          rw [kfold_calm hK this, kfold_calm hK this, this _ (hK i)]
  · have hC : isC ms i = false := by
      cases q : isC ms i with
      | false => rfl
      | true => exact absurd (isC_iff.1 q) hc
    have hs : stepC (mdAt ms i) (midC all m s0 (isC ms) R QQ SS L) o.dst (QQ i) (SS i) (R i) = (midC all m s0 (isC ms) R QQ SS L).put o.dst (R i) := by
      unfold stepC
      split
      · rename_i e; exact absurd e hc
      · rfl
    have hag : ∀ c, c < m → isC ms c = true → (L c || c == i) = L c := fun c _ h2 => by
      have : c ≠ i := fun e => by rw [e, hC] at h2; cases h2
      simp [this]
    rw [hs]
    refine put_eq ?_ (fun t ht => ?_) fun t ht => ?_
    · unfold midC
      dsimp only
      rw [filterC_congr hag]
    · unfold midC
      dsimp only
      rw [mine t ht]
      by_cases hf : isF (mdAt ms i) = true
      · exact kfold_calm hK (hfree i him hf)
      · have hF := modes_at hm him ho (by simpa using hf) hcl hi haf
        exact kfold_none _ fun c h1 h2 h3 => by rw [hF c h1 h2]; simp [show ¬ c < i by omega, show c ≠ i by omega]
    · unfold midC
      dsimp only
      rw [other t ht]
      cases (List.range m).find? (fun j => L j && dstIs all j t) with
      | none => exact kfold_congr _ fun c h1 h2 _ => hag c h1 h2
      | some j => exact kfold_congr _ fun c h1 h2 _ => hag c h1 h2
mutual
theorem ment_killQ {id : Nat} {q : Nat → Bool} : ∀ {x : LV}, ment id x = false → ment id (kill q x) = false
  | .rdL l, h => by simp only [ment] at h; simp only [kill, ment, ments_killQ h]
  | .agg l, h => by simp only [ment] at h; simp only [kill, ment, ments_killQ h]
  | .tup l, h => by simp only [ment] at h; simp only [kill, ment, ments_killQ h]
  | .box l, h => by simp only [ment] at h; simp only [kill, ment, ments_killQ h]
  | .rdA _ l, h => by simp only [ment] at h; simp only [kill, ment, ments_killQ h]
  | .pc x, h => by simp only [ment] at h; simp only [kill, ment, ment_killQ h]
  | .own j, h => by simp only [kill]; split <;> first | exact h | rfl
  | .ptr j _, h => by simp only [kill]; split <;> first | exact h | rfl
  | .pe j _, h => by simp only [kill]; split <;> first | exact h | rfl
  | .sub j _ _, h => by simp only [kill]; split <;> first | exact h | rfl
  | .fn _ caps, h => by simp only [ment] at h; simp only [kill, ment, ments_killQ h]
  | .v _, _ => by simp only [kill, ment]
  | .junk, _ => by simp only [kill, ment]
  | .rd _, _ => by simp only [kill, ment]
  | .rds _, _ => by simp only [kill, ment]
theorem ments_killQ {id : Nat} {q : Nat → Bool} : ∀ {l : List LV}, ments id l = false → ments id (kills q l) = false
  | [], _ => by simp only [kills, ments]
  | x :: l, h => by
    simp only [ments, Bool.or_eq_false_iff] at h
    simp only [kills, ments, ment_killQ h.1, ments_killQ h.2, Bool.or_self]
end
theorem mentO_killQ {id : Nat} {q : Nat → Bool} {oc : OC} (h : mentO id oc = false) : mentO id (killO q oc) = false := by
  cases oc with
  | cells t l => simp only [mentO] at h; simp only [killO, mentO, ments_killQ h]
  | rowL t l => simp only [mentO] at h; simp only [killO, mentO, ments_killQ h]
  | hole e e' t i j =>
    simp only [killO, mentO] at h ⊢
    cases j with
    | none => rfl
    | some j =>
      simp only [Option.filter]
      split
      · exact h
      · rfl
  | cust A r j =>
    simp only [killO, mentO] at h ⊢
    cases j with
    | none => rfl
    | some j =>
      simp only [Option.filter]
      split
      · exact h
      · rfl
  | _ => rfl
theorem ment_kfold {id : Nat} {C L : Nat → Bool} {lo : Nat} {x : LV} (h : ment id x = false) : ment id (kfold m C QQ L lo x) = false := by
  unfold kfold
  generalize (List.range m).filter (fun c => C c && L c && decide (lo ≤ c)) = l
  induction l generalizing x with
  | nil => exact h
  | cons c l ih => rw [List.foldl_cons]; exact ih (ment_killQ h)
mutual
theorem ment_kill3 {id : Nat} {q : Nat → Bool} (hq : q id = false) : ∀ x : LV, ment id (kill q x) = ment id x
  | .rdL l => by simp only [kill, ment]; exact ments_kill3 hq l
  | .agg l => by simp only [kill, ment]; exact ments_kill3 hq l
  | .tup l => by simp only [kill, ment]; exact ments_kill3 hq l
  | .box l => by simp only [kill, ment]; exact ments_kill3 hq l
  | .rdA _ l => by simp only [kill, ment]; exact ments_kill3 hq l
  | .pc x => by simp only [kill, ment]; exact ment_kill3 hq x
  | .own j => by
    simp only [kill]; by_cases e : j = id
    · subst e; rw [hq]; rfl
    · have e' : (j == id) = false := by simpa using e
      split <;> simp [ment, e']
  | .ptr j _ => by
    simp only [kill]; by_cases e : j = id
    · subst e; rw [hq]; rfl
    · have e' : (j == id) = false := by simpa using e
      split <;> simp [ment, e']
  | .pe j _ => by
    simp only [kill]; by_cases e : j = id
    · subst e; rw [hq]; rfl
    · have e' : (j == id) = false := by simpa using e
      split <;> simp [ment, e']
  | .sub j _ _ => by
    simp only [kill]; by_cases e : j = id
    · subst e; rw [hq]; rfl
    · have e' : (j == id) = false := by simpa using e
      split <;> simp [ment, e']
  | .fn _ caps => by simp only [kill, ment]; exact ments_kill3 hq caps
  | .v _ => by simp only [kill]
  | .junk => by simp only [kill]
  | .rd _ => by simp only [kill]
  | .rds _ => by simp only [kill]
theorem ments_kill3 {id : Nat} {q : Nat → Bool} (hq : q id = false) : ∀ l : List LV, ments id (kills q l) = ments id l
  | [] => by simp only [kills]
  | x :: l => by simp only [kills, ments, ment_kill3 hq x, ments_kill3 hq l]
end
theorem ment_kfold3 {id : Nat} {C L : Nat → Bool} {lo : Nat} {x : LV} (hq : ∀ c, QQ c id = false) : ment id (kfold m C QQ L lo x) = ment id x := by
  unfold kfold
  generalize (List.range m).filter (fun c => C c && L c && decide (lo ≤ c)) = l
  induction l generalizing x with
  | nil => rfl
  | cons c l ih => rw [List.foldl_cons, ih, ment_kill3 (hq c)]
theorem OutMono {P : Program} {w0 : Base} {f : Nat → Value} {K K' : LV → St → Prop} (hk : ∀ r s, K r s → K' r s) {R : Result Next} (H : Out P w0 f K R) : Out P w0 f K' R := by
  cases H with
  | value r s1 v w1 ι1 fp1 hI1 hr hK => exact .value r s1 v w1 ι1 fp1 hI1 hr (hk _ _ hK)
  | skip s1 w1 ι1 fp1 hI1 hK => exact .skip s1 w1 ι1 fp1 hI1 (hk _ _ hK)
  | enter g args w1 hc =>
    refine .enter g args w1 (hc.mono ?_)
    rintro e w2 ⟨r, s1, v, ι1, fp1, rfl, hI1, hr, hK⟩
    exact ⟨r, s1, v, ι1, fp1, rfl, hI1, hr, hk _ _ hK⟩
theorem drawn_C {P : Program} {T : TT} (hT : T.Ok P) {K : List Nat} {G : (Nat → Option OC) → Prop} {n id : Nat} {all : Array Oper} {m : Nat} {ms : List Md} {B : List Nat} {s0 : St} {R : Nat → LV} {QQ : Nat → Nat → Bool} {SS : Nat → Nat → Option OC} {k : Kont} (hmle : m ≤ all.size) (hmx : P.follows .mixedOrders = true) (hd : drawOk all = true) (hs : seqOk all m = true) (hm : modesOk all m ms B = true) (hK : ∀ c, inK K (QQ c)) (hB : ∀ t ∈ B, calm K (s0.lf t))
    (hok : all.toList.all (okO T n all) = true) (hG0 : G s0.σ) (hdoes : ∀ (i : Nat) (o : Oper), i < m → all[i]? = some o → DoesC P K G o (mdAt ms i) (preC all m ms s0 R QQ SS i) (QQ i) (SS i) (R i))
    (hnm : ∀ i id, i < m → mdAt ms i = .b id → (∀ t, ment id (s0.lf t) = false) ∧ ∀ (j : Nat) (oj : Oper) d, j < m → j ≠ i → all[j]? = some oj → oj.dst = some d → ment id (R j) = false)
    (hN : OpsT P all n (all.toList.drop m) (preC all m ms s0 R QQ SS m) (KN P n k).1) : Here P n (.region id all true) s0 k := by
  have hfree : ∀ i, i < m → isF (mdAt ms i) = true → calm K (R i) := fun i hi hf => by
    have h := (hdoes i all[i] hi (Array.getElem?_eq_getElem (by omega))).2
    cases e : mdAt ms i with
    | f => rw [e] at h; exact h.2
    | b id => rw [e] at h; exact h.2
    | p => rw [e] at hf; cases hf
    | c => rw [e] at hf; cases hf
  intro w0 w ι fp f a hf hI
  refine wp_region_any hmx ?_
  have h0 : ∀ i, (Array.replicate all.size false).getD i false = false := fun i => by
    simp only [Array.getD_eq_getD_getElem?, Array.getElem?_replicate]
    split <;> rfl
  have hI' : Inv w0 { w with drawn := w.drawn + 1 } ι fp (midC all m s0 (isC ms) R QQ SS fun i => (Array.replicate all.size false).getD i false) f := by
    have : midC all m s0 (isC ms) R QQ SS (fun i => (Array.replicate all.size false).getD i false) = s0 := by
      have hl : (midC all m s0 (isC ms) R QQ SS fun i => (Array.replicate all.size false).getD i false).lf = s0.lf := by
        funext t
        unfold midC
        dsimp only
        rw [writer_off fun j o _ _ _ => h0 j]
        exact kfold_none _ fun c _ _ _ => h0 c
      have hσ : (midC all m s0 (isC ms) R QQ SS fun i => (Array.replicate all.size false).getD i false).σ = s0.σ := by
        unfold midC
        dsimp only
        rw [filterC_congr (L' := fun _ => false) fun c _ _ => h0 c]
        have : (List.range m).filter (fun c => isC ms c && false) = [] := by simp
        rw [this]
        rfl
      cases e1 : midC all m s0 (isC ms) R QQ SS fun i => (Array.replicate all.size false).getD i false with
      | mk a b =>
        cases s0 with
        | mk a' b' =>
          rw [e1] at hl hσ
          have hl' : a = a' := hl
          have hs' : b = b' := hσ
          rw [hl', hs']
    rw [this]
    exact hI.step ((Below.refl _ w).drew)
  refine drawn_mid (T := T) (n := n) hmle hs hok hd (midC all m s0 (isC ms) R QQ SS) (fun i o hi ho => (hdoes i o hi ho).1) (fun L i o him ho hcl hi haf => ?_) (w0 := w0) (fun a' w' ⟨s', f', ι', fp', g1, g2, g3⟩ => ?_) all.size _ a _ ι fp f (by simp) (Nat.le_trans List.countP_le_length (by simp)) (fun j o ho hj => by
    have := (h0 j).symm.trans hj; cases this) (fun i _ => h0 i) hf hI'
  · have hnext := next_C (s0 := s0) (R := R) (QQ := QQ) (SS := SS) hK hd hm hfree him ho hcl hi haf
    have hev : ∀ x ∈ o.op.operands, evL (midC all m s0 (isC ms) R QQ SS L) x = evL (preC all m ms s0 R QQ SS i) x := by
      intro x hx
      cases x with
      | tmp t => exact look_C hK hd hm hB hfree him ho hcl hi haf hx
      | _ => rfl
    obtain ⟨_, h⟩ := hdoes i o him ho
    rw [← hnext]
    cases hmd : mdAt ms i with
    | p =>
      rw [hmd] at h
      intro w1 w2 ι2 fp2 f2 hI2
      refine (fun H => ?_) (h w1 w2 ι2 fp2 _ f2 hI2 (sig_C hm him ho (by rw [hmd]; rfl) hcl hi haf) hev)
      exact OutMono (fun r s' hK => by obtain ⟨rfl, rfl⟩ := hK; rfl) H
    | f =>
      rw [hmd] at h
      intro w1 w2 ι2 fp2 f2 hI2
      have hGL : G (midC all m s0 (isC ms) R QQ SS L).σ := by
        unfold midC
        dsimp only
        cases hl : ((List.range m).filter fun c => isC ms c && L c).getLast? with
        | none => exact hG0
        | some c =>
          have h1 := List.mem_of_getLast? hl
          rw [List.mem_filter] at h1
          simp only [Bool.and_eq_true] at h1
          have hcm := List.mem_range.1 h1.1
          have h2 := (hdoes c all[c] hcm (Array.getElem?_eq_getElem (by omega))).2
          rw [isC_iff.1 h1.2.1] at h2
          exact h2.1
      refine (fun H => ?_) (h.1 _ hGL w1 w2 ι2 fp2 _ f2 hI2 rfl hev)
      exact OutMono (fun r s' hK => by obtain ⟨rfl, rfl⟩ := hK; rfl) H
    | b id =>
      rw [hmd] at h
      intro w1 w2 ι2 fp2 f2 hI2
      have hGL : G (midC all m s0 (isC ms) R QQ SS L).σ := by
        unfold midC
        dsimp only
        cases hl : ((List.range m).filter fun c => isC ms c && L c).getLast? with
        | none => exact hG0
        | some c =>
          have h1 := List.mem_of_getLast? hl
          rw [List.mem_filter] at h1
          simp only [Bool.and_eq_true] at h1
          have hcm := List.mem_range.1 h1.1
          have h2 := (hdoes c all[c] hcm (Array.getElem?_eq_getElem (by omega))).2
          rw [isC_iff.1 h1.2.1] at h2
          exact h2.1
      obtain ⟨⟨h16, e, vs, p, hr, hb⟩, _⟩ := h
      obtain ⟨hmo, hlate, hop⟩ := hb _ hGL
      obtain ⟨hn0, hnR⟩ := hnm i id him hmd
      refine (fun H => ?_) (hop w1 w2 ι2 fp2 _ f2 hI2 rfl hev h16 hlate (fun t => ?_) hmo)
      · refine OutMono (fun r s' hK => ?_) H
        obtain ⟨rfl, rfl⟩ := hK
        rw [← hr]; rfl
      · unfold midC
        dsimp only
        cases hf : (List.range m).find? (fun j => L j && dstIs all j t) with
        | none => exact ment_kfold (hn0 t)
        | some j =>
          dsimp only
          have h1 := List.find?_some hf
          have hjm := List.mem_range.1 (List.mem_of_find?_eq_some hf)
          simp only [Bool.and_eq_true] at h1
          have hne : j ≠ i := fun e => by rw [e, hi] at h1; cases h1.1
          cases hoj : all[j]? with
          | none => have := h1.2; simp [dstIs, hoj] at this
          | some oj =>
            have hdj : oj.dst = some t := by have := h1.2; simpa [dstIs, hoj] using this
            exact ment_kfold (hnR j oj t hjm hne hoj hdj)
    | c =>
      rw [hmd] at h
      refine (h.2 _ (sig_C hm him ho (by rw [hmd]; rfl) hcl hi haf) hev).mono ?_
      rintro r s' ⟨rfl, rfl⟩
      rfl
  · subst g3
    exact hN w0 w' ι' fp' f' a' _ g1 g2 fun a2 w2 h2 => h2
end
end Go.Proofs.YtcjhojdlfnpgjaaGreat
