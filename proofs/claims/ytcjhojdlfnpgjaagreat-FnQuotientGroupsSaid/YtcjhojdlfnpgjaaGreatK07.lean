/- A calculus of verification conditions over logical values: regions whose order is drawn up to a place, and the text's from there on. -/
import Derived.Test.YtcjhojdlfnpgjaaGreatK06
set_option linter.unusedVariables false
set_option linter.unusedSimpArgs false
set_option maxRecDepth 100000
namespace Go.Proofs.YtcjhojdlfnpgjaaGreat
open Go.RowKit
theorem ready_mem {all : Array Oper} {listed : Array Bool} {i : Nat} : i ∈ Region.ready .any all listed ↔ ∃ o, all[i]? = some o ∧ i < all.size ∧ listed.getD i true = false ∧ ∀ e ∈ o.after, Region.binds .any e = true → listed.getD e.on false = true := by
  unfold Region.ready
  rw [List.mem_filter]
  constructor
  · rintro ⟨h1, h2⟩
    have hi := List.mem_range.1 h1
    simp only [Bool.and_eq_true, Bool.not_eq_true', Array.getElem?_eq_getElem hi, Option.map_some, Option.getD_some, Array.all_eq_true', Bool.or_eq_true] at h2
    refine ⟨all[i], Array.getElem?_eq_getElem hi, hi, h2.1, fun e he hb => ?_⟩
    rcases h2.2 e he with h3 | h3
    · rw [hb] at h3; cases h3
    · exact h3
  · rintro ⟨o, ho, hi, h1, h2⟩
    refine ⟨List.mem_range.2 hi, ?_⟩
    rw [Array.getElem?_eq_getElem hi] at ho
    simp only [Option.some.injEq] at ho
    subst ho
    simp only [Bool.and_eq_true, Bool.not_eq_true', Array.getElem?_eq_getElem hi, Option.map_some, Option.getD_some, Array.all_eq_true', Bool.or_eq_true]
    exact ⟨h1, fun e he => if hb : Region.binds .any e = true then .inr (h2 e he hb) else .inl (by simpa using hb)⟩
def direct (all : Array Oper) (i : Nat) : List Nat := match all[i]? with
  | some o => (o.after.toList.filter (Region.binds .any)).map (·.on)
  | none => []
def waits (all : Array Oper) (i : Nat) : List Nat := (List.range i).reverse.foldl (fun S j => if S.contains j then direct all j ++ S else S) (direct all i)
def seqOk (all : Array Oper) (m : Nat) : Bool := (List.range all.size).all fun i => decide (i < m) || (List.range i).all fun j => (waits all i).contains j
theorem direct_mem {all : Array Oper} {i : Nat} {o : Oper} (ho : all[i]? = some o) {j : Nat} : j ∈ direct all i ↔ ∃ e ∈ o.after, Region.binds .any e = true ∧ e.on = j := by
  unfold direct
  rw [ho]
  simp only [List.mem_map, List.mem_filter, Array.mem_toList_iff]
  constructor
  · rintro ⟨e, ⟨h1, h2⟩, h3⟩; exact ⟨e, h1, h2, h3⟩
  · rintro ⟨e, h1, h2, h3⟩; exact ⟨e, ⟨h1, h2⟩, h3⟩
theorem waits_listed {all : Array Oper} {listed : Array Bool} (hcl : ∀ (j : Nat) (o : Oper), all[j]? = some o → listed.getD j false = true → ∀ e ∈ o.after, Region.binds .any e = true → listed.getD e.on false = true) {i : Nat}
    (hi : ∀ j ∈ direct all i, listed.getD j false = true) : ∀ j ∈ waits all i, listed.getD j false = true := by
  unfold waits
  have key : ∀ (l S : List Nat), (∀ j ∈ S, listed.getD j false = true) → ∀ j ∈ l.foldl (fun S j => if S.contains j then direct all j ++ S else S) S, listed.getD j false = true := by
    intro l
    induction l with
    | nil => intro S h; exact h
    | cons x l ih =>
      intro S h
      simp only [List.foldl_cons]
      refine ih _ ?_
      split
      · rename_i hx
        intro j hj
        rcases List.mem_append.1 hj with hj | hj
        · cases ho : all[x]? with
          | none => unfold direct at hj; rw [ho] at hj; cases hj
          | some o =>
            obtain ⟨e, h1, h2, rfl⟩ := (direct_mem ho).1 hj
            exact hcl x o ho (h x (by simpa using hx)) e h1 h2
        · exact h j hj
      · exact h
  exact key _ _ hi
theorem seqOk_at {all : Array Oper} {m : Nat} (h : seqOk all m = true) {i j : Nat} (hi : i < all.size) (hm : m ≤ i) (hj : j < i) : j ∈ waits all i := by
  have := List.all_eq_true.1 h i (List.mem_range.2 hi)
  simp only [Bool.or_eq_true, decide_eq_true_eq] at this
  have h2 := List.all_eq_true.1 (this.resolve_left (by omega)) j (List.mem_range.2 hj)
  simpa using h2
theorem ready_after {all : Array Oper} {listed : Array Bool} {m : Nat} (hs : seqOk all m = true) (hcl : ∀ (j : Nat) (o : Oper), all[j]? = some o → listed.getD j false = true → ∀ e ∈ o.after, Region.binds .any e = true → listed.getD e.on false = true) {i : Nat} (hi : i ∈ Region.ready .any all listed) (hm : m ≤ i) : ∀ j, j < i → listed.getD j false = true := by
  obtain ⟨o, ho, hlt, _, he⟩ := ready_mem.1 hi
  intro j hj
  refine waits_listed hcl (fun j hj => ?_) j (seqOk_at hs hlt hm hj)
  obtain ⟨e, h1, h2, rfl⟩ := (direct_mem ho).1 hj
  exact he e h1 h2
theorem seqAny {P : Program} {all : Array Oper} {Q : Exit → Act → World → Prop} {m : Nat} (hs : seqOk all m = true) (hlow : ∀ (i : Nat) (o : Oper), all[i]? = some o → ∀ e ∈ o.after, Region.binds .any e = true → e.on < i) :
    ∀ (r k fuel : Nat) (listed : Array Bool) (a : Act) (w : World), k + r = all.size → m ≤ k → listed.size = all.size → (∀ i, i < all.size → listed.getD i false = decide (i < k)) → r ≤ fuel → wpList P all Q (all.toList.drop k) a w → wpAny P .any all Q fuel listed a w := by
  intro r
  induction r with
  | zero =>
    intro k fuel listed a w hk hm hsz hl hf h
    have hno : Region.ready .any all listed = [] := by
      cases hr : Region.ready .any all listed with
      | nil => rfl
      | cons i l =>
        obtain ⟨o, ho, hlt, h1, _⟩ := ready_mem.1 (show i ∈ Region.ready .any all listed by rw [hr]; exact List.mem_cons_self ..)
        have h2 := hl i hlt
        have hs' : i < listed.size := by omega
        simp only [Array.getD_eq_getD_getElem?, Array.getElem?_eq_getElem hs', Option.getD_some] at h1 h2
        rw [h1] at h2
        simp at h2
        omega
    rw [List.drop_of_length_le (by simp; omega)] at h
    cases fuel with
    | zero => exact ⟨hno, h⟩
    | succ f => exact ⟨fun _ => h, fun i hi => by rw [hno] at hi; cases hi⟩
  | succ r ih =>
    intro k fuel listed a w hk hm hsz hl hf h
    obtain ⟨f, rfl⟩ : ∃ f, fuel = f + 1 := ⟨fuel - 1, by omega⟩
    have hklt : k < all.size := by omega
    have hcl : ∀ (j : Nat) (o : Oper), all[j]? = some o → listed.getD j false = true → ∀ e ∈ o.after, Region.binds .any e = true → listed.getD e.on false = true := by
      intro j o ho hj e he hb
      have hjl := (Array.getElem?_eq_some_iff.1 ho).1
      have h1 := hlow j o ho e he hb
      rw [hl j hjl] at hj
      rw [hl e.on (by omega)]
      simp at hj ⊢
      omega
    have hkr : k ∈ Region.ready .any all listed := by
      refine ready_mem.2 ⟨all[k], Array.getElem?_eq_getElem hklt, hklt, ?_, fun e he hb => ?_⟩
      · have h2 := hl k hklt
        have hs' : k < listed.size := by omega
        simp only [Array.getD_eq_getD_getElem?, Array.getElem?_eq_getElem hs', Option.getD_some] at h2 ⊢
        rw [h2]; simp
      · have := hlow k _ (Array.getElem?_eq_getElem hklt) e he hb
        rw [hl e.on (by omega)]
        simpa using this
    refine ⟨fun he => (by rw [he] at hkr; cases hkr), fun i hi => ?_⟩
    have hik : i = k := by
      obtain ⟨o, ho, hlt, h1, _⟩ := ready_mem.1 hi
      have h2 := hl i hlt
      have hs' : i < listed.size := by omega
      simp only [Array.getD_eq_getD_getElem?, Array.getElem?_eq_getElem hs', Option.getD_some] at h1 h2
      rw [h1] at h2
      simp at h2
      apply Classical.byContradiction
      intro hne
      have := ready_after hs hcl hi (by omega) k (by omega)
      rw [hl k hklt] at this
      simp at this
    subst hik
    rw [List.drop_eq_getElem_cons (by simpa using hklt)] at h
    have hstep : wpOp P all Q i (wpList P all Q (all.toList.drop (i + 1))) a w := by
      unfold wpOp
      rw [Array.getElem?_eq_getElem hklt]
      unfold wpList at h
      simpa using h
    refine wpOp_mono (fun a' w' h' => ?_) hstep
    refine ih (i + 1) f _ a' w' (by omega) (by omega) (by simpa using hsz) (fun j hj => ?_) (by omega) h'
    rw [getD_set (by omega)]
    by_cases e : j = i
    · rw [if_pos e, e]; simp
    · rw [if_neg e, hl j hj]
      simp
      omega
theorem not_wanted' {o : Oper} {j : Nat} {want : Bool} {y : Nat → Option Bool} {x : Value} (hg : o.guard = some (j, want)) (hy : y j = match x with | .bool b => some b | _ => none) (hne : x ≠ .bool want) : Region.wanted o y = false := by
  simp only [Region.wanted, hg, hy]
  cases x <;> simp_all
def midM (m : Nat) (all : Array Oper) (s0 sn : St) (listed : Array Bool) : St :=
  ⟨fun t => if (List.range m).any (fun j => listed.getD j false && ((all[j]?).bind (·.dst) == some t)) then sn.lf t else s0.lf t, s0.σ⟩
theorem midM_at {m : Nat} {all : Array Oper} {s0 sn : St} {listed : Array Bool} {j : Nat} {o : Oper} {t : Nat} (hj : j < m) (ho : all[j]? = some o) (hd : o.dst = some t) (hl : listed.getD j false = true) : (midM m all s0 sn listed).lf t = sn.lf t := by
  unfold midM
  dsimp only
  rw [if_pos]
  rw [List.any_eq_true]
  exact ⟨j, List.mem_range.2 hj, by simp [hl, ho, hd]⟩
theorem midM_off {m : Nat} {all : Array Oper} {s0 sn : St} {listed : Array Bool} {t : Nat} (h : ∀ (i : Nat) (o : Oper), i < m → all[i]? = some o → o.dst ≠ some t) : (midM m all s0 sn listed).lf t = s0.lf t := by
  unfold midM
  dsimp only
  rw [if_neg]
  intro hq
  rw [List.any_eq_true] at hq
  obtain ⟨j, hj, hb⟩ := hq
  simp only [Bool.and_eq_true, beq_iff_eq] at hb
  cases ho : all[j]? with
  | none => rw [ho] at hb; cases hb.2
  | some o => rw [ho] at hb; exact h j o (List.mem_range.1 hj) ho hb.2
def BirthM (all : Array Oper) (m : Nat) (s0 sn : St) (i id : Nat) : Prop :=
  16 ≤ id ∧ (∀ t, ment id (s0.lf t) = false) ∧ (∀ j oc, s0.σ j = some oc → j ≠ id → mentO id oc = false) ∧ (∃ e vs, s0.σ id = some (.late e vs)) ∧
  ∃ D : List Nat, (∀ j ∈ D, ∃ o, all[j]? = some o ∧ ∃ e ∈ o.after, Region.binds .any e = true ∧ (e.on = i ∨ e.on ∈ D)) ∧ ∀ (j : Nat) (o : Oper) (d : Nat), j < m → all[j]? = some o → j ≠ i → o.dst = some d → ment id (sn.lf d) = true → j ∈ D
set_option maxHeartbeats 1000000 in
theorem drawn_pre {P : Program} {T : TT} (hT : T.Ok P) {n : Nat} {BP : Oper → Nat → Prop} {all : Array Oper} {s0 sn : St} {m : Nat} (hmle : m ≤ all.size) (hseq : seqOk all m = true) (hB : ∀ o id, BP o id → ∀ (i : Nat), i < m → all[i]? = some o → BirthM all m s0 sn i id) (hok : all.toList.all (okO T n all) = true) (hd : drawOk all = true) (hdoes : ∀ (i : Nat) (o : Oper), i < m → all[i]? = some o → Does P BP all ⟨preF all s0 sn i, s0.σ⟩ sn o) (hσ : sn.σ = s0.σ) (hoff : ∀ t, (∀ (i : Nat) (o : Oper), i < m → all[i]? = some o → o.dst ≠ some t) → sn.lf t = s0.lf t)
    {w0 : Base} {Q : Exit → Act → World → Prop} (hQ : ∀ a' w', After n w0 (fun s => s = sn) a' w' → wpList P all Q (all.toList.drop m) a' w') :
    ∀ (fuel : Nat) (listed : Array Bool) (a : Act) (w : World) (ι : Nat → Option Value) (fp : Nat → Nat → Prop) (f : Nat → Value), listed.size = all.size → (List.range all.size).countP (fun i => !listed.getD i false) ≤ fuel →
      (∀ (j : Nat) (o : Oper), all[j]? = some o → listed.getD j false = true → ∀ e ∈ o.after, Region.binds .any e = true → listed.getD e.on false = true) → (∀ i, m ≤ i → listed.getD i false = false) → FR n f a → Inv w0 w ι fp (midM m all s0 sn listed) f → wpAny P .any all Q fuel listed a w := by
  have hdr : ∀ (i : Nat) (o : Oper), all[i]? = some o → (∀ e ∈ o.after, Region.binds .any e = true → e.on < i) ∧ ∀ (j : Nat) (o' : Oper), all[j]? = some o' → ∀ d, o'.dst = some d → (i ≠ j → o.dst ≠ some d) ∧ (d ∈ o.looksAt all → (j < i ∧ ∃ e ∈ o.after, Region.binds .any e = true ∧ e.on = j) ∨ (i < j ∧ ∃ e ∈ o'.after, Region.binds .any e = true ∧ e.on = i)) := by
    intro i o ho
    have hi : i < all.size := (Array.getElem?_eq_some_iff.1 ho).1
    have h1 := List.all_eq_true.1 hd i (List.mem_range.2 hi)
    rw [ho] at h1
    simp only [Bool.and_eq_true, Array.all_eq_true', Bool.or_eq_true, Bool.not_eq_true', decide_eq_true_eq] at h1
    refine ⟨fun e he hb => (h1.1 e he).resolve_left (by rw [hb]; decide), fun j o' ho' d hd' => ?_⟩
    have hj : j < all.size := (Array.getElem?_eq_some_iff.1 ho').1
    have h2 := List.all_eq_true.1 h1.2 j (List.mem_range.2 hj)
    rw [ho'] at h2
    simp only [Option.bind_some, hd', Bool.and_eq_true, Bool.or_eq_true, beq_iff_eq, bne_iff_ne, Bool.not_eq_true', decide_eq_true_eq, Array.any_eq_true', Option.any_some] at h2
    refine ⟨fun hne => h2.1.resolve_left hne, fun hm => ?_⟩
    rcases h2.2 with (h3 | ⟨h3, e, he, h4, h5⟩) | ⟨h3, e, he, h4, h5⟩
    · exact absurd (List.contains_iff_mem.2 hm) (by rw [h3]; decide)
    · exact .inl ⟨h3, e, he, h4, h5⟩
    · exact .inr ⟨h3, e, he, h4, h5⟩
  have hfin : ∀ (listed : Array Bool), (∀ i, i < m → listed.getD i false = true) → midM m all s0 sn listed = sn := by
    intro listed hl
    have h1 : (midM m all s0 sn listed).lf = sn.lf := by
      funext t
      by_cases ht : ∀ (i : Nat) (o : Oper), i < m → all[i]? = some o → o.dst ≠ some t
      · rw [midM_off ht, hoff t ht]
      · have ⟨i, o, hi, ho, hdt⟩ : ∃ (i : Nat) (o : Oper), i < m ∧ all[i]? = some o ∧ o.dst = some t := by
          apply Classical.byContradiction
          intro hq
          exact ht fun i o hi ho hdt => hq ⟨i, o, hi, ho, hdt⟩
        exact midM_at hi ho hdt (hl i hi)
    cases sn with
    | mk lf σ =>
      cases hmm : midM m all s0 ⟨lf, σ⟩ listed with
      | mk lf' σ' =>
        rw [hmm] at h1
        have h2 : σ' = s0.σ := by have := congrArg St.σ hmm; exact this.symm
        simp only at h1 hσ
        rw [h1, h2, hσ]
  have hphase : ∀ (fuel : Nat) (listed : Array Bool) (a : Act) (w : World) (ι : Nat → Option Value) (fp : Nat → Nat → Prop) (f : Nat → Value), listed.size = all.size → (List.range all.size).countP (fun i => !listed.getD i false) ≤ fuel → (∀ i, m ≤ i → listed.getD i false = false) → FR n f a → Inv w0 w ι fp (midM m all s0 sn listed) f → (∀ i, i < m → listed.getD i false = true) → wpAny P .any all Q fuel listed a w := by
    intro fuel listed a w ι fp f hsz hc hoffs hf hI hall
    rw [hfin listed hall] at hI
    refine seqAny hseq (fun i o ho => (hdr i o ho).1) (all.size - m) m fuel listed a w (by omega) (Nat.le_refl _) hsz (fun i hi => ?_) ?_ (hQ _ _ ⟨_, f, ι, fp, hf, hI, rfl⟩)
    · by_cases e : i < m
      · rw [hall i e]; simp [e]
      · rw [hoffs i (by omega)]; simp [e]
    · refine Nat.le_trans ?_ hc
      have key : ∀ k, k ≤ all.size → k - m ≤ (List.range k).countP (fun i => !listed.getD i false) := by
        intro k
        induction k with
        | zero => intro _; simp
        | succ k ihk =>
          intro hk
          rw [List.range_succ, List.countP_append]
          have := ihk (by omega)
          by_cases e : m ≤ k
          · have h1 : [k].countP (fun i => !listed.getD i false) = 1 := by rw [List.countP_singleton, hoffs k e]; rfl
            omega
          · omega
      exact key _ (Nat.le_refl _)
  intro fuel
  induction fuel with
  | zero =>
    intro listed a w ι fp f hsz hc _ hoffs hf hI
    refine hphase 0 listed a w ι fp f hsz hc hoffs hf hI fun i hi => ?_
    have := List.countP_eq_zero.1 (Nat.le_zero.1 hc) i (List.mem_range.2 (by omega))
    simpa using this
  | succ fuel ih =>
    intro listed a w ι fp f hsz hc hcl hoffs hf hI
    by_cases hall : ∀ i, i < m → listed.getD i false = true
    · exact hphase _ listed a w ι fp f hsz hc hoffs hf hI hall
    refine ⟨fun he => (hall ?_).elim, fun i hi => ?_⟩
    · intro i
      induction i using Nat.strongRecOn with
      | ind i ihi =>
        intro him
        by_cases hl : listed.getD i false = true
        · exact hl
        · exfalso
          have hilt : i < all.size := by omega
          have hmem : i ∈ Region.ready .any all listed := by
            refine ready_mem.2 ⟨all[i], Array.getElem?_eq_getElem hilt, hilt, ?_, fun e he' hb => ?_⟩
            · have hs' : i < listed.size := by omega
              simp only [Array.getD_eq_getD_getElem?, Array.getElem?_eq_getElem hs', Option.getD_some] at hl ⊢
              simpa using hl
            · have := (hdr i _ (Array.getElem?_eq_getElem hilt)).1 e he' hb
              exact ihi _ this (by omega)
          rw [he] at hmem
          cases hmem
    · obtain ⟨o, ho, hilt, hl, hafter⟩ := ready_mem.1 hi
      have him : i < m := by
        apply Classical.byContradiction
        intro hge
        exact hall fun j hj => ready_after hseq hcl hi (by omega) j (by omega)
      have hs' : i < listed.size := by omega
      have hl' : listed.getD i false = false := by
        simp only [Array.getD_eq_getD_getElem?, Array.getElem?_eq_getElem hs', Option.getD_some] at hl ⊢
        exact hl
      have hom : o ∈ all.toList := by
        have := List.mem_of_getElem? (l := all.toList) (i := i) (a := o) (by rw [Array.getElem?_toList]; exact ho)
        exact this
      have hoko := List.all_eq_true.1 hok o hom
      have hdst := okO_dst hoko
      -- what it looks at has its last value
      have look : ∀ t ∈ o.looksAt all, (midM m all s0 sn listed).lf t = preF all s0 sn i t := by
        intro t ht
        by_cases hw : ∀ (j : Nat) (o' : Oper), j < m → all[j]? = some o' → o'.dst ≠ some t
        · rw [midM_off hw]; unfold preF; split <;> first | rfl | exact (hoff t hw).symm
        · have ⟨j, o', hjm, hj, hdt⟩ : ∃ (j : Nat) (o' : Oper), j < m ∧ all[j]? = some o' ∧ o'.dst = some t := by
            apply Classical.byContradiction
            intro hq
            exact hw fun j o hj ho hdt => hq ⟨j, o, hj, ho, hdt⟩
          have only : ∀ j2, (all[j2]?).bind (·.dst) = some t → j2 = j := by
            intro j2 h2
            cases h3 : all[j2]? with
            | none => rw [h3] at h2; cases h2
            | some o2 =>
              rw [h3] at h2
              apply Classical.byContradiction
              intro hne
              exact ((hdr j2 o2 h3).2 j o' hj t hdt).1 hne h2
          rcases ((hdr i o ho).2 j o' hj t hdt).2 ht with ⟨hji, e, he, hb, hon⟩ | ⟨hij, e, he, hb, hon⟩
          · rw [midM_at hjm hj hdt (by rw [← hon]; exact hafter e he hb)]
            unfold preF
            rw [if_pos]
            rw [List.any_eq_true]
            exact ⟨j, List.mem_range.2 hji, by simp [hj, hdt]⟩
          · have hnl : listed.getD j false = false := by
              cases hq : listed.getD j false with
              | false => rfl
              | true => have := hcl j o' hj hq e he hb; rw [hon, hl'] at this; cases this
            unfold midM preF
            dsimp only
            rw [if_neg, if_neg]
            · intro hq
              rw [List.any_eq_true] at hq
              obtain ⟨j2, h1, h2⟩ := hq
              have := only j2 (by simpa using h2)
              have := List.mem_range.1 h1
              omega
            · intro hq
              rw [List.any_eq_true] at hq
              obtain ⟨j2, _, h2⟩ := hq
              simp only [Bool.and_eq_true, beq_iff_eq] at h2
              have := only j2 h2.2
              subst this
              rw [hnl] at h2
              cases h2.1
      -- the state behind it
      have next : ∀ x, (∀ d, o.dst = some d → sn.lf d = x) → (midM m all s0 sn listed).put o.dst x = midM m all s0 sn (listed.setIfInBounds i true) := by
        intro x hx
        have hfun : ((midM m all s0 sn listed).put o.dst x).lf = (midM m all s0 sn (listed.setIfInBounds i true)).lf := by
          funext t
          by_cases e : o.dst = some t
          · rw [e, midM_at him ho e (by rw [getD_set hs', if_pos rfl]), hx t e]
            simp [St.put, updL]
          · have h1 : ((midM m all s0 sn listed).put o.dst x).lf t = (midM m all s0 sn listed).lf t := by
              cases hd' : o.dst with
              | none => rfl
              | some d => simp only [St.put, updL]; rw [if_neg (fun q => e (by rw [hd', q]))]
            rw [h1]
            unfold midM
            have : (List.range m).any (fun j => listed.getD j false && ((all[j]?).bind (·.dst) == some t)) = (List.range m).any (fun j => (listed.setIfInBounds i true).getD j false && ((all[j]?).bind (·.dst) == some t)) := by
              congr 1
              funext j
              rw [getD_set hs']
              by_cases q : j = i
              · subst q
                rw [ho, if_pos rfl]
                have : (Option.bind (some o) (·.dst) == some t) = false := by simpa using e
                rw [this]; simp
              · rw [if_neg q]
            simp only [this]
        have hs2 : ((midM m all s0 sn listed).put o.dst x).σ = (midM m all s0 sn (listed.setIfInBounds i true)).σ := by cases o.dst <;> rfl
        cases h1 : (midM m all s0 sn listed).put o.dst x with
        | mk a1 b1 =>
          cases h2 : midM m all s0 sn (listed.setIfInBounds i true) with
          | mk a2 b2 =>
            rw [h1, h2] at hfun hs2
            simp only at hfun hs2
            rw [hfun, hs2]
      have hc' : (List.range all.size).countP (fun j => !(listed.setIfInBounds i true).getD j false) ≤ fuel := by
        have : (List.range all.size).countP (fun j => !(listed.setIfInBounds i true).getD j false) < (List.range all.size).countP (fun j => !listed.getD j false) := by
          have key : ∀ l : List Nat, i ∈ l → l.countP (fun j => !(listed.setIfInBounds i true).getD j false) < l.countP (fun j => !listed.getD j false) := by
            have mono : ∀ l : List Nat, l.countP (fun j => !(listed.setIfInBounds i true).getD j false) ≤ l.countP (fun j => !listed.getD j false) := fun l =>
              List.countP_mono_left fun j _ hj => by
                rw [getD_set hs'] at hj
                by_cases q : j = i
                · rw [if_pos q] at hj; cases hj
                · rwa [if_neg q] at hj
            intro l
            induction l with
            | nil => intro h; cases h
            | cons x l ihl =>
              intro hm
              rw [List.countP_cons, List.countP_cons]
              rcases List.mem_cons.1 hm with rfl | hm
              · have a1 : (!(listed.setIfInBounds i true).getD i false) = false := by rw [getD_set hs', if_pos rfl]; rfl
                have a2 : (!listed.getD i false) = true := by rw [hl']; rfl
                rw [a1, a2]
                have := mono l
                simp only [Bool.false_eq_true, if_false, if_true]
                omega
              · have a := ihl hm
                have b : (if (!(listed.setIfInBounds i true).getD x false) = true then 1 else 0) ≤ (if (!listed.getD x false) = true then 1 else 0) := by
                  rw [getD_set hs']
                  by_cases q : x = i
                  · rw [if_pos q]; simp
                  · rw [if_neg q]; exact Nat.le_refl _
                omega
          exact key _ (List.mem_range.2 hilt)
        omega
      have go : ∀ a' w' x ι' fp' f', (∀ d, o.dst = some d → sn.lf d = x) → FR n f' a' → Inv w0 w' ι' fp' ((midM m all s0 sn listed).put o.dst x) f' → wpAny P .any all Q fuel (listed.setIfInBounds i true) a' w' := by
        intro a' w' x ι' fp' f' hx hf' hI'
        rw [next x hx] at hI'
        refine ih _ a' w' ι' fp' f' (by simpa using hsz) hc' (fun j o2 ho2 hj2 e he hb => ?_) (fun j hj => by rw [getD_set hs', if_neg (by omega)]; exact hoffs j hj) hf' hI'
        rw [getD_set hs'] at hj2 ⊢
        by_cases q2 : e.on = i
        · rw [if_pos q2]
        · rw [if_neg q2]
          by_cases q : j = i
          · subst q
            rw [ho] at ho2
            cases ho2
            exact hafter e he hb
          · rw [if_neg q] at hj2
            exact hcl j o2 ho2 hj2 e he hb
      unfold wpOp
      rw [ho]
      dsimp only
      rcases hdoes i o him ho with ⟨hw, r, hP, hr⟩ | ⟨j, want, x, hg, hx, hne, hu⟩ | ⟨hg, id, e, vs, p, hbp, hN, hlate, hu⟩
      · have hwant : Region.wanted o (yielded all a.tmps) = true := by
          cases hg : o.guard with
          | none => simp [Region.wanted, hg]
          | some p =>
            obtain ⟨j, want⟩ := p
            obtain ⟨hj, hjn⟩ := okO_guard hoko hg
            have hm : slotOf all j ∈ o.looksAt all := by
              unfold Oper.looksAt
              rw [hg]
              exact List.mem_append_right _ (by simp [hj])
            have hv := hI.fr (slotOf all j)
            rw [look _ hm, show preF all s0 sn i (slotOf all j) = _ from hw j want hg] at hv
            simp only [LRel] at hv
            have hy := yielded_of hf all j _ hj hjn
            rw [hv] at hy
            simp [Region.wanted, hg, hy]
        rw [if_pos hwant]
        left
        have hOT : OpT P o (midM m all s0 sn listed) fun r' s' => r' = r ∧ s' = midM m all s0 sn listed := by
          intro w0' w' ι' fp' f' hI'
          refine hP w0' w' ι' fp' _ f' hI' rfl fun x hm => ?_
          cases x with
          | tmp t => exact look t (by unfold Oper.looksAt; exact List.mem_append_left _ (List.mem_filterMap.2 ⟨.tmp t, by simpa using hm, rfl⟩))
          | _ => rfl
        refine hOT.wp hdst hf hI ?_
        rintro a' w' ⟨s', f', ι', fp', hf', hI', r', s1, ⟨rfl, rfl⟩, rfl⟩
        exact go a' w' _ ι' fp' f' hr hf' hI'
      · obtain ⟨hj, hjn⟩ := okO_guard hoko hg
        have hm : slotOf all j ∈ o.looksAt all := by
          unfold Oper.looksAt
          rw [hg]
          exact List.mem_append_right _ (by simp [hj])
        have hv := hI.fr (slotOf all j)
        rw [look _ hm, show preF all s0 sn i (slotOf all j) = _ from hx] at hv
        simp only [LRel] at hv
        have hy := yielded_of hf all j _ hj hjn
        rw [hv] at hy
        have hwant : Region.wanted o (yielded all a.tmps) = false := not_wanted' hg hy hne
        rw [if_neg (by rw [hwant]; decide)]
        exact go _ w _ ι fp _ hu (hf.put o.dst hdst undef) (hI.put o.dst (by simp only [LRel]))
      · have hwant : Region.wanted o (yielded all a.tmps) = true := by simp [Region.wanted, hg]
        rw [if_pos hwant]
        left
        obtain ⟨b0, b1, b2, _, D, b4, b5⟩ := hB o id hbp i him ho
        have noD : ∀ j, j ∈ D → listed.getD j false = false := by
          intro j
          induction j using Nat.strongRecOn with
          | ind j ihj =>
            intro hjD
            cases hlj : listed.getD j false with
            | false => rfl
            | true =>
              obtain ⟨oj, hoj, e', he', hb', hon⟩ := b4 j hjD
              have h1 := hcl j oj hoj hlj e' he' hb'
              have h2 := (hdr j oj hoj).1 e' he' hb'
              rcases hon with hon | hon
              · rw [hon, hl'] at h1; cases h1
              · rw [ihj _ h2 hon] at h1; cases h1
        have hno : ∀ t, ment id ((midM m all s0 sn listed).lf t) = false := by
          intro t
          cases hm : ment id ((midM m all s0 sn listed).lf t) with
          | false => rfl
          | true =>
            unfold midM at hm
            dsimp only at hm
            split at hm
            · rename_i hany
              rw [List.any_eq_true] at hany
              obtain ⟨j, hj, hjb⟩ := hany
              simp only [Bool.and_eq_true, beq_iff_eq] at hjb
              have hjm := List.mem_range.1 hj
              have hlt : j < all.size := by omega
              obtain ⟨hjl, hjb2⟩ := hjb
              rw [Array.getElem?_eq_getElem hlt] at hjb2
              have hji : j ≠ i := fun e => by rw [e, hl'] at hjl; cases hjl
              have := noD j (b5 j _ t hjm (Array.getElem?_eq_getElem hlt) hji hjb2 hm)
              rw [hjl] at this
              cases this
            · rw [b1 t] at hm; cases hm
        have hOT : OpT P o (midM m all s0 sn listed) fun r' s' => r' = bornL p id vs.length ∧ s' = midM m all s0 sn listed := by
          intro w0' w' ι' fp' f' hI'
          refine hN w0' w' ι' fp' _ f' hI' rfl (fun x hm => ?_) b0 hlate hno b2
          cases x with
          | tmp t => exact look t (by unfold Oper.looksAt; exact List.mem_append_left _ (List.mem_filterMap.2 ⟨.tmp t, by simpa using hm, rfl⟩))
          | _ => rfl
        refine hOT.wp hdst hf hI ?_
        rintro a' w' ⟨s', f', ι', fp', hf', hI', r', s1, ⟨rfl, rfl⟩, rfl⟩
        exact go a' w' _ ι' fp' f' hu hf' hI'
theorem LexD.does' {P : Program} {BP : Oper → Nat → Prop} {all : Array Oper} {s0 : St} : ∀ {l : List Oper} {s sn : St} (pre : List Oper), (∀ (i : Nat) (x : Oper), (pre ++ l)[i]? = some x → all[i]? = some x) → (∀ (i : Nat) (o : Oper), all[i]? = some o → ∀ (j : Nat) (o' : Oper), all[j]? = some o' → i ≠ j → ∀ d, o.dst = some d → o'.dst ≠ some d) → s = ⟨preF all s0 sn pre.length, s0.σ⟩ →
    LexD P BP all l s sn → ∀ (i : Nat) (o : Oper), all[i]? = some o → pre.length ≤ i → i < (pre ++ l).length → Does P BP all ⟨preF all s0 sn i, s0.σ⟩ sn o := by
  intro l
  induction l with
  | nil =>
    intro s sn pre hpre _ _ _ i o ho hi hlt
    rw [List.append_nil] at hlt
    omega
  | cons o0 l ih =>
    intro s sn pre hpre hdis hs hlex i o ho hi hlt
    have hpre' : ∀ (i : Nat) (x : Oper), ((pre ++ [o0]) ++ l)[i]? = some x → all[i]? = some x := by rw [List.append_assoc]; exact hpre
    have h0 : all[pre.length]? = some o0 := hpre _ _ (by simp)
    have hlt' : i < ((pre ++ [o0]) ++ l).length := by simpa [Nat.add_assoc, Nat.add_comm] using hlt
    have later : ∀ o' ∈ l, ∃ j : Nat, all[j]? = some o' ∧ pre.length < j := by
      intro o' ho'
      obtain ⟨m, hm⟩ := List.getElem?_of_mem ho'
      refine ⟨pre.length + 1 + m, hpre' _ _ ?_, by omega⟩
      rw [List.getElem?_append_right (by simp)]
      simpa using hm
    have own : ∀ (x : LV), LexD P BP all l (s.put o0.dst x) sn → ∀ d, o0.dst = some d → sn.lf d = x := by
      intro x hl d hd
      rw [hl.keeps.2 d fun o' ho' hd' => ?_]
      · rw [hd]; simp [St.put, updL]
      · obtain ⟨j, hj, hlt⟩ := later o' ho'
        exact hdis _ _ h0 _ _ hj (by omega) d hd hd'
    have next : ∀ (x : LV), LexD P BP all l (s.put o0.dst x) sn → s.put o0.dst x = ⟨preF all s0 sn (pre ++ [o0]).length, s0.σ⟩ := by
      intro x hl
      have hx := own x hl
      have h1 : (s.put o0.dst x).lf = preF all s0 sn (pre ++ [o0]).length := by
        funext t
        rw [List.length_append, List.length_singleton, preF_succ h0]
        cases hd : o0.dst with
        | none => rw [hs, if_neg (by simp)]; rfl
        | some d =>
          simp only [St.put, updL]
          by_cases e : t = d
          · subst e; rw [if_pos rfl, if_pos rfl, hx t hd]
          · rw [if_neg e, if_neg (by simpa using fun q => e q.symm), hs]
      have h2 : (s.put o0.dst x).σ = s0.σ := by rw [hs]; cases o0.dst <;> rfl
      cases h3 : s.put o0.dst x with
      | mk a b => rw [h3] at h1 h2; simp only at h1 h2; rw [h1, h2]
    by_cases e : i = pre.length
    · subst e
      rw [h0] at ho
      cases ho
      rw [← hs]
      cases hlex with
      | run _ _ _ _ r hw hP hl => exact .inl ⟨hw, r, hP, own r hl⟩
      | skip _ _ _ _ j want x hg' hx hn hl => exact .inr (.inl ⟨j, want, x, hg', hx, hn, own _ hl⟩)
      | birth _ _ _ _ id e vs p hg' hb hN hσ hl => exact .inr (.inr ⟨hg', id, e, vs, p, hb, hN, hσ, own _ hl⟩)
    · cases hlex with
      | run _ _ _ _ r hw hP hl => exact ih (pre ++ [o0]) hpre' hdis (next _ hl) hl i o ho (by simp; omega) hlt'
      | skip _ _ _ _ j want x hg' hx hn hl => exact ih (pre ++ [o0]) hpre' hdis (next _ hl) hl i o ho (by simp; omega) hlt'
      | birth _ _ _ _ id e vs p hg' hb hN hσ hl => exact ih (pre ++ [o0]) hpre' hdis (next _ hl) hl i o ho (by simp; omega) hlt'
theorem hdis_of {ops : Array Oper} (hd : drawOk ops = true) : ∀ (i : Nat) (o : Oper), ops[i]? = some o → ∀ (j : Nat) (o' : Oper), ops[j]? = some o' → i ≠ j → ∀ d, o.dst = some d → o'.dst ≠ some d := by
  intro i o ho j o' ho' hne d hd1 hd2
  have hi : i < ops.size := (Array.getElem?_eq_some_iff.1 ho).1
  have hj : j < ops.size := (Array.getElem?_eq_some_iff.1 ho').1
  have h1 := List.all_eq_true.1 hd i (List.mem_range.2 hi)
  rw [ho] at h1
  simp only [Bool.and_eq_true] at h1
  have h2 := List.all_eq_true.1 h1.2 j (List.mem_range.2 hj)
  rw [ho'] at h2
  simp only [Option.bind_some, hd2, hd1, Bool.and_eq_true, Bool.or_eq_true, beq_iff_eq, bne_iff_ne, ne_eq, not_true_eq_false, or_false] at h2
  exact hne h2.1
theorem take_get {ops : Array Oper} {m i : Nat} {x : Oper} (h : (ops.toList.take m)[i]? = some x) : ops[i]? = some x := by
  rw [List.getElem?_take] at h
  split at h
  · rwa [Array.getElem?_toList] at h
  · cases h
theorem draw_lexS {P : Program} {T : TT} (hT : T.Ok P) {n id m : Nat} {BP : Oper → Nat → Prop} {ops : Array Oper} {s sn : St} {k : Kont} (hmle : m ≤ ops.size) (hm : P.follows .mixedOrders = true) (hd : drawOk ops = true) (hs : seqOk ops m = true)
    (hB : ∀ o id, BP o id → ∀ (i : Nat), i < m → ops[i]? = some o → BirthM ops m s sn i id) (hok : ops.toList.all (okO T n ops) = true) (hlex : LexD P BP ops (ops.toList.take m) s sn) (hN : OpsT P ops n (ops.toList.drop m) sn (KN P n k).1) : Here P n (.region id ops true) s k := by
  have hdr := hdis_of hd
  have hlen : (ops.toList.take m).length = m := by simp; omega
  have hs0 : s = ⟨preF ops s sn 0, s.σ⟩ := by
    have : preF ops s sn 0 = s.lf := by funext t; simp [preF]
    rw [this]
  have hdoes : ∀ (i : Nat) (o : Oper), i < m → ops[i]? = some o → Does P BP ops ⟨preF ops s sn i, s.σ⟩ sn o := fun i o hi ho => LexD.does' [] (fun i x h => take_get (m := m) h) hdr hs0 hlex i o ho (Nat.zero_le _) (by rw [List.nil_append, hlen]; exact hi)
  obtain ⟨hσ, hoff⟩ := hlex.keeps
  intro w0 w ι fp f a hf hI
  refine wp_region_any hm ?_
  have hI' : Inv w0 { w with drawn := w.drawn + 1 } ι fp (midM m ops s sn (Array.replicate ops.size false)) f := by
    have : midM m ops s sn (Array.replicate ops.size false) = s := by
      have h1 : (midM m ops s sn (Array.replicate ops.size false)).lf = s.lf := by
        funext t
        unfold midM
        dsimp only
        rw [if_neg]
        intro hq
        rw [List.any_eq_true] at hq
        obtain ⟨j, hj, hb⟩ := hq
        have hlt : j < ops.size := by have := List.mem_range.1 hj; omega
        simp [Array.getD_eq_getD_getElem?, Array.getElem?_replicate, hlt] at hb
      cases s with
      | mk lf σ =>
        cases hmid : midM m ops ⟨lf, σ⟩ sn (Array.replicate ops.size false) with
        | mk a1 b1 =>
          rw [hmid] at h1
          have h2 := congrArg St.σ hmid
          simp only [midM] at h1 h2
          rw [h1, ← h2]
    rw [this]
    exact hI.step ((Below.refl _ w).drew)
  refine drawn_pre hT hmle hs hB hok hd hdoes hσ (fun t ht => hoff t fun o ho => ?_) (w0 := w0) (fun a' w' ⟨s', f', ι', fp', g1, g2, g3⟩ => ?_) ops.size _ a _ ι fp f (by simp) (Nat.le_trans List.countP_le_length (by simp)) (fun j o ho hj => by
    have hlt := (Array.getElem?_eq_some_iff.1 ho).1
    simp [Array.getD_eq_getD_getElem?, Array.getElem?_replicate, hlt] at hj) (fun i _ => by
      simp only [Array.getD_eq_getD_getElem?, Array.getElem?_replicate]
      split <;> rfl) hf hI'
  · obtain ⟨i, hi⟩ := List.getElem?_of_mem ho
    have him : i < m := by have := (List.getElem?_eq_some_iff.1 hi).1; omega
    exact ht i o him (take_get hi)
  · subst g3
    exact hN w0 w' ι' fp' f' a' _ g1 g2 fun a2 w2 h2 => h2
theorem Here.drawS {P : Program} {T : TT} (hT : T.Ok P) {n id : Nat} {ops : Array Oper} {s : St} {k : Kont} (m : Nat) (hmle : m ≤ ops.size) (hm : P.follows .mixedOrders = true) (hd : drawOk ops = true) (hs : seqOk ops m = true)
    (h : DrawV P T n ops (ops.toList.take m) s (.back (fun s => OpsV P T n ops (ops.toList.drop m) s k) k)) : HereV P T n (.region id ops true) s k := by
  intro hok hk
  have hok' : ops.toList.all (okO T n ops) = true := hok
  obtain ⟨sn, hlex, hN⟩ := DrawV_lex hT (l := ops.toList.take m) (List.all_eq_true.2 fun x hx => List.all_eq_true.1 hok' x (List.mem_of_mem_take hx)) h
  have hN' : OpsV P T n ops (ops.toList.drop m) sn k := by unfold Norm at hN; exact hN
  exact draw_lexS hT hmle hm hd hs (fun o id h => h.elim) hok' hlex (OpsV_sound hT (List.all_eq_true.2 fun x hx => List.all_eq_true.1 hok' x (List.mem_of_mem_drop hx)) hk hN')
theorem DrawN_lexM {P : Program} {T : TT} (hT : T.Ok P) {n : Nat} {all : Array Oper} {B : List Birth} {k : Kont} (hdis : ∀ (i : Nat) (o : Oper), all[i]? = some o → ∀ (j : Nat) (o' : Oper), all[j]? = some o' → i ≠ j → ∀ d, o.dst = some d → o'.dst ≠ some d) :
    ∀ {l : List Oper} {s : St} (pre : List Oper), (∀ (i : Nat) (x : Oper), (pre ++ l)[i]? = some x → all[i]? = some x) → l.all (okO T n all) = true → DrawN P T n B pre.length l s k →
      ∃ s', LexD P (fun o id => o.dst.isSome = true ∧ ∃ b ∈ B, all[b.i]? = some o ∧ b.id = id) all l s s' ∧ HereE P T n k s' ∧ ∀ (j : Nat) (o : Oper) (d : Nat), pre.length ≤ j → j < (pre ++ l).length → all[j]? = some o → o.dst = some d → okB B j (s'.lf d)
  | [], s, pre, hpre, _, h => by
    unfold DrawN at h
    refine ⟨s, .nil s, h, fun j o d hj hlt ho => ?_⟩
    rw [List.append_nil] at hlt
    omega
  | o :: l, s, pre, hpre, hall, h => by
    have hpre' : ∀ (i : Nat) (x : Oper), ((pre ++ [o]) ++ l)[i]? = some x → all[i]? = some x := by rw [List.append_assoc]; exact hpre
    have hlen : ((pre ++ [o]) ++ l).length = (pre ++ o :: l).length := by simp
    simp only [List.all_cons, Bool.and_eq_true] at hall
    have h0 : all[pre.length]? = some o := hpre _ _ (by simp)
    have later : ∀ o' ∈ l, ∃ j : Nat, all[j]? = some o' ∧ pre.length < j := by
      intro o' ho'
      obtain ⟨m, hm⟩ := List.getElem?_of_mem ho'
      refine ⟨pre.length + 1 + m, hpre' _ _ ?_, by omega⟩
      rw [List.getElem?_append_right (by simp)]
      simpa using hm
    have own : ∀ (x : LV) (s' : St), LexD P (fun o id => o.dst.isSome = true ∧ ∃ b ∈ B, all[b.i]? = some o ∧ b.id = id) all l (s.put o.dst x) s' → ∀ d, o.dst = some d → s'.lf d = x := by
      intro x s' hl d hd
      rw [hl.keeps.2 d fun o' ho' hd' => ?_]
      · rw [hd]; simp [St.put, updL]
      · obtain ⟨j, hj, hlt⟩ := later o' ho'
        exact hdis _ _ h0 _ _ hj (by omega) d hd hd'
    have put : ∀ (x : LV) (s' : St), okB B pre.length x → LexD P (fun o id => o.dst.isSome = true ∧ ∃ b ∈ B, all[b.i]? = some o ∧ b.id = id) all l (s.put o.dst x) s' → (∀ (j : Nat) (oo : Oper) (d : Nat), (pre ++ [o]).length ≤ j → j < (pre ++ o :: l).length → all[j]? = some oo → oo.dst = some d → okB B j (s'.lf d)) →
        ∀ (j : Nat) (oo : Oper) (d : Nat), pre.length ≤ j → j < (pre ++ o :: l).length → all[j]? = some oo → oo.dst = some d → okB B j (s'.lf d) := by
      intro x s' hx hl hr j o' d hj hlt ho' hd
      by_cases e : j = pre.length
      · subst e
        rw [h0] at ho'
        cases ho'
        rw [own x s' hl d hd]
        exact hx
      · exact hr j o' d (by simp; omega) hlt ho' hd
    unfold DrawN at h
    obtain ⟨hg, h⟩ := h
    have hw : ∀ j want, o.guard = some (j, want) → s.lf (slotOf all j) = .v (.bool want) := fun j want e => by rw [hg] at e; cases e
    split at h
    · rename_i p r hr
      obtain ⟨hp, hok, h⟩ := h
      obtain ⟨s', g1, g2, g3⟩ := DrawN_lexM hT hdis (pre ++ [o]) hpre' hall.2 (by simpa using h)
      exact ⟨s', .run o l s s' r hw (opE_opP hT (okO_ty hall.1) hr hp) g1, g2, put r s' hok g1 (fun j o2 d hj hlt => g3 j o2 d (by simpa using hj) (by rw [hlen]; exact hlt))⟩
    · obtain ⟨r, hok, hP, h⟩ := h
      obtain ⟨s', g1, g2, g3⟩ := DrawN_lexM hT hdis (pre ++ [o]) hpre' hall.2 (by simpa using h)
      refine ⟨s', ?_, g2, put r s' hok g1 (fun j o2 d hj hlt => g3 j o2 d (by simpa using hj) (by rw [hlen]; exact hlt))⟩
      rcases hP with hP | ⟨hds, b, hb, hi, rfl, hσ, hN⟩
      · exact .run o l s s' r hw hP g1
      · exact .birth o l s s' b.id b.e b.vs b.p hg ⟨hds, b, hb, by rw [hi]; exact h0, rfl⟩ hN hσ g1
    · exact h.elim
theorem Here.drawSB {P : Program} {T : TT} (hT : T.Ok P) {n id : Nat} {ops : Array Oper} {s : St} {k : Kont} (B : List Birth) (m : Nat) (hmle : m ≤ ops.size) (hm : P.follows .mixedOrders = true) (hd : drawOk ops = true) (hs : seqOk ops m = true)
    (hD : (B.all fun b => b.D.all fun j => match ops[j]? with | some o => o.after.any fun e => Region.binds .any e && (e.on == b.i || b.D.contains e.on) | none => false) = true)
    (h16 : ∀ b ∈ B, 16 ≤ b.id) (hnd : (B.map (·.id)).Nodup)
    (h : DrawM P T n B 0 (ops.toList.take m) (s.lates B) (.back (fun s => OpsV P T n ops (ops.toList.drop m) s k) k)) : HereV P T n (.region id ops true) s k := by
  obtain ⟨hc, hB, _⟩ := lates_ok B s h16 hnd
  refine HereV.conv hc ?_
  intro hok hk
  have hok' : ops.toList.all (okO T n ops) = true := hok
  have hdr := hdis_of hd
  obtain ⟨sn, hlex, ⟨sf, hcv, hN⟩, hokB⟩ := DrawN_lexM hT hdr (l := ops.toList.take m) [] (fun i x hx => take_get (by simpa using hx)) (List.all_eq_true.2 fun x hx => List.all_eq_true.1 hok' x (List.mem_of_mem_take hx)) (DrawM_ok h)
  have hN' : OpsV P T n ops (ops.toList.drop m) sf k := by unfold Norm at hN; exact hN
  refine draw_lexS hT hmle hm hd hs (fun o id' hbp i hi ho => ?_) hok' hlex (OpsT.conv hcv (OpsV_sound hT (List.all_eq_true.2 fun x hx => List.all_eq_true.1 hok' x (List.mem_of_mem_drop hx)) hk hN'))
  obtain ⟨hds, b, hb, hbo, rfl⟩ := hbp
  obtain ⟨q1, q2, q3, q4⟩ := hB b hb
  have hib : b.i = i := by
    by_cases e : b.i = i
    · exact e
    · obtain ⟨d, hd'⟩ := Option.isSome_iff_exists.1 hds
      exact absurd hd' (hdr _ _ hbo _ _ ho e d hd')
  subst hib
  refine ⟨q1, q2, q3, q4, b.D, fun j hj => ?_, fun j o' d hjm hj hji hdst hm' => ?_⟩
  · have := List.all_eq_true.1 (List.all_eq_true.1 hD b hb) j hj
    split at this
    · rename_i o' ho'
      simp only [Array.any_eq_true', Bool.and_eq_true, Bool.or_eq_true, beq_iff_eq, List.contains_iff_mem] at this
      obtain ⟨e, he, hbd, hon⟩ := this
      exact ⟨o', ho', e, he, hbd, hon⟩
    · cases this
  · exact (hokB j o' d (Nat.zero_le _) (by simp; omega) hj hdst b hb hm').resolve_left hji
end Go.Proofs.YtcjhojdlfnpgjaaGreat
