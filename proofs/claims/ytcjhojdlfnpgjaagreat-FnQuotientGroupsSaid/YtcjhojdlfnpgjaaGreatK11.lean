/- A calculus of verification conditions over logical values: how drawn regions with turning operations are walked. -/
import Derived.Test.YtcjhojdlfnpgjaaGreatK09
import Derived.Test.YtcjhojdlfnpgjaaGreatK10
set_option linter.unusedVariables false
set_option linter.unusedSimpArgs false
set_option maxRecDepth 100000
namespace Go.Proofs.YtcjhojdlfnpgjaaGreat
open Go.RowKit
def SV (P : Program) (T : TT) (K : List Nat) (G : (Nat → Option OC) → Prop) (n : Nat) (all : Array Oper) : List Md → List Oper → St → Kont → Prop
  | _, [], s, k => Norm P T n k s
  | [], _ :: _, _, _ => False
  | .p :: ms, o :: l, s, k => o.guard = none ∧ match opE T o.op (evL s) s.σ with
    | .val p r => p ∧ SV P T K G n all ms l (s.put o.dst r) k
    | .hard => ∃ r, OpP P o (evL s) s.σ r ∧ SV P T K G n all ms l (s.put o.dst r) k
    | _ => False
  | .f :: ms, o :: l, s, k => o.guard = none ∧ match opE T o.op (evL s) (fun _ => none) with
    | .val p r => p ∧ calm K r ∧ (∀ σ, opE T o.op (evL s) σ = opE T o.op (evL s) fun _ => none) ∧ SV P T K G n all ms l (s.put o.dst r) k
    | _ => ∃ r, (∀ σ, G σ → OpP P o (evL s) σ r) ∧ calm K r ∧ SV P T K G n all ms l (s.put o.dst r) k
  | .b id :: ms, o :: l, s, k => o.guard = none ∧ ∃ r, (BornC P G o id s r ∧ calm K r) ∧ SV P T K G n all ms l (s.put o.dst r) k
  | .c :: ms, o :: l, s, k => o.guard = none ∧ ∃ Q σ' r, inK K Q ∧ G σ' ∧ OpC P o (evL s) s.σ Q σ' r ∧ SV P T K G n all ms l ((⟨fun t => kill Q (s.lf t), σ'⟩ : St).put o.dst r) k
section
variable {P : Program} {T : TT} {n : Nat} {all : Array Oper} {m : Nat} {ms : List Md} {B K : List Nat} {G : (Nat → Option OC) → Prop} {s0 : St} {R : Nat → LV} {QQ : Nat → Nat → Bool} {SS : Nat → Nat → Option OC} {k : Kont}
theorem calm_junk : calm K .junk := fun Q _ => by simp only [kill]
theorem midC_congr {R' : Nat → LV} {QQ' : Nat → Nat → Bool} {SS' : Nat → Nat → Option OC} {C : Nat → Bool} {L : Nat → Bool} (h : ∀ j, j < m → L j = true → R j = R' j ∧ QQ j = QQ' j ∧ SS j = SS' j) : midC all m s0 C R QQ SS L = midC all m s0 C R' QQ' SS' L := by
  have hk : ∀ (lo : Nat) (x : LV), kfold m C QQ L lo x = kfold m C QQ' L lo x := by
    intro lo x
    unfold kfold
    have : ∀ c ∈ (List.range m).filter (fun c => C c && L c && decide (lo ≤ c)), QQ c = QQ' c := by
      intro c hc
      rw [List.mem_filter] at hc
      simp only [Bool.and_eq_true] at hc
      exact (h c (List.mem_range.1 hc.1) hc.2.1.2).2.1
    generalize (List.range m).filter (fun c => C c && L c && decide (lo ≤ c)) = l at this
    induction l generalizing x with
    | nil => rfl
    | cons c l ih =>
      rw [List.foldl_cons, List.foldl_cons, this c (List.mem_cons_self ..)]
      exact ih _ fun c hc => this c (List.mem_cons_of_mem _ hc)
  unfold midC
  congr 1
  · funext t
    cases hf : (List.range m).find? (fun j => L j && dstIs all j t) with
    | none => exact hk _ _
    | some j =>
      dsimp only
      have h1 := List.find?_some hf
      simp only [Bool.and_eq_true] at h1
      rw [(h j (List.mem_range.1 (List.mem_of_find?_eq_some hf)) h1.1).1]
      exact hk _ _
  · cases hf : ((List.range m).filter fun c => C c && L c).getLast? with
    | none => rfl
    | some c =>
      dsimp only
      have h1 := List.mem_of_getLast? hf
      rw [List.mem_filter] at h1
      simp only [Bool.and_eq_true] at h1
      exact (h c (List.mem_range.1 h1.1) h1.2.2).2.2
theorem noK : inK K (fun _ => false) := fun _ h => by cases h
theorem SV_trace (hT : T.Ok P) (hd : drawOk all = true) (hm : modesOk all m ms B = true) (hmle : m ≤ all.size) (hlen : ms.length = m) (hok : all.toList.all (okO T n all) = true) :
    ∀ (r i : Nat) (R : Nat → LV) (QQ : Nat → Nat → Bool) (SS : Nat → Nat → Option OC), i + r = m → (∀ c, inK K (QQ c)) → (∀ j, isF (mdAt ms j) = true → calm K (R j)) → (∀ (j : Nat) (o : Oper), j < i → all[j]? = some o → DoesC P K G o (mdAt ms j) (preC all m ms s0 R QQ SS j) (QQ j) (SS j) (R j)) →
      SV P T K G n all (ms.drop i) ((all.toList.take m).drop i) (preC all m ms s0 R QQ SS i) k →
      ∃ R QQ SS, (∀ c, inK K (QQ c)) ∧ (∀ (j : Nat) (o : Oper), j < m → all[j]? = some o → DoesC P K G o (mdAt ms j) (preC all m ms s0 R QQ SS j) (QQ j) (SS j) (R j)) ∧ Norm P T n k (preC all m ms s0 R QQ SS m)
  | 0, i, R, QQ, SS, hi, hK, hc, hdo, h => by
    have hi' : i = m := by omega
    subst hi'
    rw [List.drop_of_length_le (l := all.toList.take i) (by simp; omega)] at h
    unfold SV at h
    exact ⟨R, QQ, SS, hK, hdo, h⟩
  | r + 1, i, R, QQ, SS, hi, hK, hc, hdo, h => by
    have him : i < m := by omega
    have hia : i < all.size := by omega
    have ho : all[i]? = some all[i] := Array.getElem?_eq_getElem hia
    have e1 : (all.toList.take m).drop i = all[i] :: (all.toList.take m).drop (i + 1) := by
      rw [List.drop_eq_getElem_cons (by simp; omega)]
      simp
    have e2 : ms.drop i = mdAt ms i :: ms.drop (i + 1) := by
      rw [List.drop_eq_getElem_cons (by omega)]
      simp [mdAt, List.getElem?_eq_getElem (show i < ms.length by omega)]
    rw [e1, e2] at h
    have hoko := List.all_eq_true.1 hok all[i] (by simp)
    have go : ∀ (r' : LV) (Q : Nat → Bool) (σ' : Nat → Option OC), DoesC P K G all[i] (mdAt ms i) (preC all m ms s0 R QQ SS i) Q σ' r' → inK K Q → (isF (mdAt ms i) = true → calm K r') → SV P T K G n all (ms.drop (i + 1)) ((all.toList.take m).drop (i + 1)) (stepC (mdAt ms i) (preC all m ms s0 R QQ SS i) all[i].dst Q σ' r') k →
        ∃ R QQ SS, (∀ c, inK K (QQ c)) ∧ (∀ (j : Nat) (o : Oper), j < m → all[j]? = some o → DoesC P K G o (mdAt ms j) (preC all m ms s0 R QQ SS j) (QQ j) (SS j) (R j)) ∧ Norm P T n k (preC all m ms s0 R QQ SS m) := by
      intro r' Q σ' hD hQK hcr hS
      have hpre : ∀ j, j ≤ i → preC all m ms s0 (fun j => if j = i then r' else R j) (fun j => if j = i then Q else QQ j) (fun j => if j = i then σ' else SS j) j = preC all m ms s0 R QQ SS j := fun j hj =>
        midC_congr fun c hc hL => by
          have : c ≠ i := by have := of_decide_eq_true hL; omega
          simp [this]
      have hc' : ∀ j, isF (mdAt ms j) = true → calm K ((fun j => if j = i then r' else R j) j) := fun j hj => by
        by_cases e : j = i
        · simp only [if_pos e]; exact hcr (by rw [← e]; exact hj)
        · simp only [if_neg e]; exact hc j hj
      have hK' : ∀ c, inK K ((fun j => if j = i then Q else QQ j) c) := fun c => by
        by_cases e : c = i
        · simp only [if_pos e]; exact hQK
        · simp only [if_neg e]; exact hK c
      refine SV_trace hT hd hm hmle hlen hok r (i + 1) (fun j => if j = i then r' else R j) (fun j => if j = i then Q else QQ j) (fun j => if j = i then σ' else SS j) (by omega) hK' hc' (fun j o hj hoj => ?_) ?_
      · rw [hpre j (by omega)]
        by_cases e : j = i
        · subst e
          rw [ho] at hoj
          cases hoj
          simp only [if_pos]
          exact hD
        · simp only [if_neg e]
          exact hdo j o (by omega) hoj
      · have hnext := next_C (s0 := s0) (R := fun j => if j = i then r' else R j) (QQ := fun j => if j = i then Q else QQ j) (SS := fun j => if j = i then σ' else SS j) hK' hd hm (fun j _ => hc' j) (L := fun j => decide (j < i)) him ho (fun j o hoj hj e he hb => decide_eq_true (by have := (drawOk_at hd j o hoj).1 e he hb; have := of_decide_eq_true hj; omega)) (decide_eq_false (by omega)) (fun e he hb => decide_eq_true ((drawOk_at hd i _ ho).1 e he hb))
        have hl : (fun j => decide (j < i) || j == i) = fun j => decide (j < i + 1) := by
          funext j
          by_cases e : j = i
          · simp [e]
          · have q : (j == i) = false := by simpa using e
            rw [q, Bool.or_false, decide_eq_decide]; omega
        rw [hl] at hnext
        have hp := hpre i (Nat.le_refl _)
        simp only [if_pos] at hnext
        unfold preC at hp hS ⊢
        rw [← hnext, hp]
        exact hS
    cases hmd : mdAt ms i with
    | p =>
      rw [hmd] at h go
      simp only [SV] at h
      obtain ⟨hg, h⟩ := h
      split at h
      · rename_i p r' hr
        exact go r' (fun _ => false) (fun _ => none) ⟨hg, opE_opP hT (okO_ty hoko) hr h.1⟩ noK (fun q => by cases q) h.2
      · obtain ⟨r', hP, h⟩ := h
        exact go r' (fun _ => false) (fun _ => none) ⟨hg, hP⟩ noK (fun q => by cases q) h
      · exact h.elim
    | f =>
      rw [hmd] at h go
      simp only [SV] at h
      obtain ⟨hg, h⟩ := h
      split at h
      · rename_i p r' hr
        obtain ⟨hp, hcr, hsame, h⟩ := h
        refine go r' (fun _ => false) (fun _ => none) ⟨hg, fun σ _ => ?_, hcr⟩ noK (fun _ => hcr) h
        have h1 := opE_opP (P := P) (o := all[i]) (s := ⟨(preC all m ms s0 R QQ SS i).lf, σ⟩) hT (okO_ty hoko) (p := p) (r := r') (by
          have := hsame σ
          rw [hr] at this
          exact this) hp
        exact h1
      · obtain ⟨r', hP, hcr, h⟩ := h
        exact go r' (fun _ => false) (fun _ => none) ⟨hg, hP, hcr⟩ noK (fun _ => hcr) h
    | b id =>
      rw [hmd] at h go
      simp only [SV] at h
      obtain ⟨hg, r', hb, h⟩ := h
      exact go r' (fun _ => false) (fun _ => none) ⟨hg, hb⟩ noK (fun _ => hb.2) h
    | c =>
      rw [hmd] at h go
      simp only [SV] at h
      obtain ⟨hg, Q, σ', r', hQ, hGc, hC, h⟩ := h
      exact go r' Q σ' ⟨hg, hGc, hC⟩ hQ (fun q => by cases q) h
theorem Here.drawC (hT : T.Ok P) {id : Nat} {ops : Array Oper} {s : St} (ms : List Md) (B K KP : List Nat) (hmle : ms.length ≤ ops.size) (hmx : P.follows .mixedOrders = true) (hd : drawOk ops = true) (hs : seqOk ops ms.length = true) (hm : modesOk ops ms.length ms B = true) (hB : ∀ t ∈ B, calm K (s.lf t))
    (h : SV P T K (keeps KP s.σ) n ops ms (ops.toList.take ms.length) s (.back (fun s => OpsV P T n ops (ops.toList.drop ms.length) s k) k)) (hnb : ms.all (fun x => match x with | .b _ => false | _ => true) = true := by rfl) : HereV P T n (.region id ops true) s k := by
  intro hok hk
  have hok' : ops.toList.all (okO T n ops) = true := hok
  have hpre0 : preC ops ms.length ms s (fun _ => .junk) (fun _ _ => false) (fun _ _ => none) 0 = s := by
    have hl : (preC ops ms.length ms s (fun _ => .junk) (fun _ _ => false) (fun _ _ => none) 0).lf = s.lf := by
      funext t
      unfold preC midC
      dsimp only
      rw [writer_off fun j o _ _ _ => decide_eq_false (by omega)]
      exact kfold_none _ fun c _ _ _ => decide_eq_false (by omega)
    have hσ : (preC ops ms.length ms s (fun _ => .junk) (fun _ _ => false) (fun _ _ => none) 0).σ = s.σ := by
      unfold preC midC
      dsimp only
      rw [filterC_congr (L' := fun _ => false) fun c _ _ => decide_eq_false (by omega)]
      have : (List.range ms.length).filter (fun c => isC ms c && false) = [] := by simp
      rw [this]
      rfl
    cases e1 : preC ops ms.length ms s (fun _ => .junk) (fun _ _ => false) (fun _ _ => none) 0 with
    | mk a b =>
      cases s with
      | mk a' b' =>
        rw [e1] at hl hσ
        have hl' : a = a' := hl
        have hs' : b = b' := hσ
        rw [hl', hs']
  obtain ⟨R, QQ, SS, hK, hdoes, hN⟩ := SV_trace (G := keeps KP s.σ) (s0 := s) (k := .back (fun s => OpsV P T n ops (ops.toList.drop ms.length) s k) k) hT hd hm hmle rfl hok' ms.length 0 (fun _ => .junk) (fun _ _ => false) (fun _ _ => none) (by omega) (fun _ => noK) (fun _ _ => calm_junk) (fun j o hj => by omega) (by rw [hpre0]; exact h)
  have hN' : OpsV P T n ops (ops.toList.drop ms.length) (preC ops ms.length ms s R QQ SS ms.length) k := by unfold Norm at hN; exact hN
  have hnm : ∀ i id, i < ms.length → mdAt ms i = .b id → False := fun i id hi he => by
    have h1 := List.all_eq_true.1 hnb (mdAt ms i) (by unfold mdAt; rw [List.getD_eq_getElem?_getD, List.getElem?_eq_getElem hi]; exact List.getElem_mem hi)
    rw [he] at h1
    cases h1
  exact drawn_C hT hmle hmx hd hs hm hK hB hok' (fun _ _ => rfl) hdoes (fun i id hi he => (hnm i id hi he).elim) (OpsV_sound hT (List.all_eq_true.2 fun x hx => List.all_eq_true.1 hok' x (List.mem_of_mem_drop hx)) hk hN')
def AwO (id e : Nat) (vs : List Value) (σ : Nat → Option OC) : Prop := σ id = some (.late e vs) ∧ ∀ j oc, σ j = some oc → j ≠ id → mentO id oc = false
def AwL (Bs : List Birth) (σ : Nat → Option OC) : Prop := ∀ b ∈ Bs, AwO b.id b.e b.vs σ
def GB (KP : List Nat) (σ0 : Nat → Option OC) (Bs : List Birth) (σ : Nat → Option OC) : Prop := keeps KP σ0 σ ∧ AwL Bs σ
def noMd (ops : Array Oper) (m i id : Nat) (s : St) : Bool := (List.range m).all fun j => j == i || match ops[j]? with
  | some o => match o.dst with
    | some d => !ment id (s.lf d)
    | none => true
  | none => true
theorem lates_at : ∀ (B : List Birth) (s : St), (B.map (·.id)).Nodup → (∀ b ∈ B, (s.lates B).σ b.id = some (.late b.e b.vs)) ∧ ∀ id e vs, s.σ id = some (.late e vs) → id ∉ B.map (·.id) → (s.lates B).σ id = some (.late e vs)
  | [], s, _ => ⟨fun b hb => by simp at hb, fun id e vs h _ => h⟩
  | b :: B, s, hnd => by
    simp only [List.map_cons, List.nodup_cons] at hnd
    obtain ⟨h1, h2⟩ := lates_at B (s.late b.id b.e b.vs) hnd.2
    refine ⟨fun b' hb' => ?_, fun id e vs h hn => ?_⟩
    · rcases List.mem_cons.1 hb' with rfl | hb'
      · exact h2 _ _ _ (by simp only [St.late, if_true]) hnd.1
      · exact h1 b' hb'
    · simp only [List.map_cons, List.mem_cons, not_or] at hn
      exact h2 _ _ _ (by simp only [St.late, if_neg hn.1, h, Option.map_some, killO]) hn.2
theorem lates_aw (B : List Birth) (s : St) (h16 : ∀ b ∈ B, 16 ≤ b.id) (hnd : (B.map (·.id)).Nodup) : AwL B (s.lates B).σ := fun b hb => ⟨(lates_at B s hnd).1 b hb, ((lates_ok B s h16 hnd).2.1 b hb).2.2.1⟩
def EndB (P : Program) (T : TT) (n : Nat) (ops : Array Oper) (m : Nat) (Bs : List Birth) (k : Kont) (s : St) : Prop := (Bs.all fun b => noMd ops m b.i b.id s) = true ∧ ∃ sf, Conv s sf ∧ OpsV P T n ops (ops.toList.drop m) sf k
theorem EndB.of {ops : Array Oper} {m : Nat} {Bs : List Birth} {s sf : St} (h1 : (Bs.all fun b => noMd ops m b.i b.id s) = true) (h2 : Conv s sf) (h : OpsV P T n ops (ops.toList.drop m) sf k) : EndB P T n ops m Bs k s := ⟨h1, sf, h2, h⟩
def onlyB (ms : List Md) (Bs : List Birth) : Bool := (List.range ms.length).all fun i => match mdAt ms i with | .b j => Bs.any (fun b => b.i == i && b.id == j) | _ => true
theorem mdAt_b {ms : List Md} {Bs : List Birth} {i id : Nat} (h : onlyB ms Bs = true) (hi : i < ms.length) (he : mdAt ms i = .b id) : ∃ b ∈ Bs, b.i = i ∧ b.id = id := by
  have h1 := List.all_eq_true.1 h i (List.mem_range.2 hi)
  rw [he] at h1
  obtain ⟨b, hb, h2⟩ := List.any_eq_true.1 h1
  simp only [Bool.and_eq_true, beq_iff_eq] at h2
  exact ⟨b, hb, h2⟩
theorem Here.drawCB (hT : T.Ok P) {id : Nat} {ops : Array Oper} {s : St} (ms : List Md) (B K KP : List Nat) (Bs : List Birth) (hmle : ms.length ≤ ops.size) (hmx : P.follows .mixedOrders = true) (hd : drawOk ops = true) (hs : seqOk ops ms.length = true) (hm : modesOk ops ms.length ms B = true)
    (h16 : ∀ b ∈ Bs, 16 ≤ b.id) (hnd : (Bs.map (·.id)).Nodup) (honly : onlyB ms Bs = true) (hbK : (Bs.all fun b => !K.contains b.id) = true) (hB : ∀ t ∈ B, calm K ((s.lates Bs).lf t))
    (h : AwL Bs (s.lates Bs).σ → SV P T K (GB KP (s.lates Bs).σ Bs) n ops ms (ops.toList.take ms.length) (s.lates Bs) (.back (EndB P T n ops ms.length Bs k) k)) : HereV P T n (.region id ops true) s k := by
  obtain ⟨hcv0, haws, _⟩ := lates_ok Bs s h16 hnd
  have haw := lates_aw Bs s h16 hnd
  have h := h haw
  refine HereV.conv hcv0 ?_
  generalize s.lates Bs = s at *
  intro hok hk
  have hok' : ops.toList.all (okO T n ops) = true := hok
  have hpre0 : preC ops ms.length ms s (fun _ => .junk) (fun _ _ => false) (fun _ _ => none) 0 = s := by
    have hl : (preC ops ms.length ms s (fun _ => .junk) (fun _ _ => false) (fun _ _ => none) 0).lf = s.lf := by
      funext t
      unfold preC midC
      dsimp only
      rw [writer_off fun j o _ _ _ => decide_eq_false (by omega)]
      exact kfold_none _ fun c _ _ _ => decide_eq_false (by omega)
    have hσ : (preC ops ms.length ms s (fun _ => .junk) (fun _ _ => false) (fun _ _ => none) 0).σ = s.σ := by
      unfold preC midC
      dsimp only
      rw [filterC_congr (L' := fun _ => false) fun c _ _ => decide_eq_false (by omega)]
      have : (List.range ms.length).filter (fun c => isC ms c && false) = [] := by simp
      rw [this]
      rfl
    cases e1 : preC ops ms.length ms s (fun _ => .junk) (fun _ _ => false) (fun _ _ => none) 0 with
    | mk a b =>
      cases s with
      | mk a' b' =>
        rw [e1] at hl hσ
        have hl' : a = a' := hl
        have hs' : b = b' := hσ
        rw [hl', hs']
  obtain ⟨R, QQ, SS, hK, hdoes, hN⟩ := SV_trace (G := GB KP s.σ Bs) (s0 := s) (k := .back (EndB P T n ops ms.length Bs k) k) hT hd hm hmle rfl hok' ms.length 0 (fun _ => .junk) (fun _ _ => false) (fun _ _ => none) (by omega) (fun _ => noK) (fun _ _ => calm_junk) (fun j o hj => by omega) (by rw [hpre0]; exact h)
  have hN' : EndB P T n ops ms.length Bs k (preC ops ms.length ms s R QQ SS ms.length) := by unfold Norm at hN; exact hN
  obtain ⟨hno, sf, hcv, hN'⟩ := hN'
  refine drawn_C (G := GB KP s.σ Bs) hT hmle hmx hd hs hm hK hB hok' ⟨fun _ _ => rfl, haw⟩ hdoes (fun i id hi he => ?_) (OpsT.conv hcv (OpsV_sound hT (List.all_eq_true.2 fun x hx => List.all_eq_true.1 hok' x (List.mem_of_mem_drop hx)) hk hN'))
  obtain ⟨b, hb, rfl, rfl⟩ := mdAt_b honly hi he
  have hq : ∀ c, QQ c b.id = false := fun c => by
    cases q : QQ c b.id with
    | false => rfl
    | true =>
      have h1 := hK c b.id q
      have h2 := List.all_eq_true.1 hbK b hb
      rw [h1] at h2
      cases h2
  refine ⟨(haws b hb).2.1, fun j oj d hj hne hoj hdj => ?_⟩
  have h1 := List.all_eq_true.1 (List.all_eq_true.1 hno b hb) j (List.mem_range.2 hj)
  rw [hoj] at h1
  simp only [hdj, Bool.or_eq_true, beq_iff_eq, Bool.not_eq_true'] at h1
  have h2 := h1.resolve_left hne
  unfold preC midC at h2
  dsimp only at h2
  rw [writer_at (hdis_of hd) (L := fun j => decide (j < ms.length)) hj hoj hdj (decide_eq_true hj)] at h2
  dsimp only at h2
  rwa [ment_kfold3 hq] at h2
theorem rens_no {id d : Nat} {is : List Nat} (h1 : isShift d id = false) (h2 : posOf is id = none) : ∀ {l : List LV}, l.all plainP = true → ments id (rens (idM is d) l) = false
  | [], _ => by simp only [rens, ments]
  | x :: l, h => by
    simp only [List.all_cons, Bool.and_eq_true] at h
    have ih := rens_no h1 h2 h.2
    have key : ∀ k, k < 16 → (idM is d k == id) = false := fun k hk => by
      simp only [beq_eq_false_iff_ne, ne_eq]
      intro e
      unfold idM at e
      split at e
      · rename_i hl
        have : ∀ (l : List Nat) (k : Nat), k < l.length → posOf l (l.getD k 0) ≠ none := fun l => by
          induction l with
          | nil => intro k hk; simp at hk
          | cons a l ihl =>
            intro k hk
            simp only [posOf]
            split
            · simp
            · rename_i hne
              cases k with
              | zero => simp at hne
              | succ k =>
                have := ihl k (by simpa using hk)
                simp only [List.getD_cons_succ] at hne ⊢
                cases hp : posOf l (l.getD k 0) with
                | none => exact absurd hp this
                | some i => simp
        exact this is k hl (by rw [e]; exact h2)
      · unfold shift at e
        simp only [isShift, decide_eq_false_iff_not] at h1
        omega
    have hx : ment id (ren (idM is d) x) = false := by
      have hp := h.1
      unfold Go.Proofs.YtcjhojdlfnpgjaaGreat.plainP at hp
      split at hp
      · simp only [ren, ment]
      · simp only [ren, ment]; exact key _ (of_decide_eq_true hp)
      · simp only [ren, ment]; exact key _ (of_decide_eq_true hp)
      · cases hp
    simp only [rens, ments, hx, ih, Bool.or_self]
theorem AwO.back {s : St} {id e d : Nat} {vs : List Value} {is : List Nat} {os' : List (Option OC)} (h : AwO id e vs s.σ) (h1 : isShift d id = false) (h2 : posOf is id = none) (hp : os'.all (fun o => o.all plainO2) = true) : AwO id e vs (s.back d is os').σ := by
  obtain ⟨ha, hb⟩ := h
  have new : ∀ (i : Nat) (oc : OC), (osO os' i).map (renO (idM is d)) = some oc → mentO id oc = false := fun i oc ho => by
    cases hq : osO os' i with
    | none => rw [hq] at ho; cases ho
    | some o =>
      rw [hq] at ho
      simp only [Option.map_some, Option.some.injEq] at ho
      subst ho
      unfold osO at hq
      cases hm : os'[i]? with
      | none => rw [hm] at hq; cases hq
      | some o2 =>
        rw [hm] at hq
        simp only [Option.join_some] at hq
        subst hq
        have hpl := List.all_eq_true.1 hp _ (List.mem_of_getElem? hm)
        simp only [Option.all_some] at hpl
        cases o with
        | cells t l => simp only [renO, mentO]; exact rens_no h1 h2 hpl
        | rowL t l => simp [plainO2] at hpl
        | hole a b t i j => simp [plainO2] at hpl
        | late a b => rfl
        | cust A r j =>
          simp only [plainO2, Option.isNone_iff_eq_none] at hpl
          subst hpl
          rfl
        | ghost v => rfl
        | row a b => rfl
        | rows a b c => rfl
  refine ⟨?_, fun j oc hj hne => ?_⟩
  · simp only [St.back, h1, Bool.false_eq_true, if_false, h2, ha, Option.map_some, killO]
  · simp only [St.back] at hj
    split at hj
    · split at hj
      · cases hj
      · exact new _ oc hj
    · split at hj
      · split at hj
        · exact hb j oc hj hne
        · exact new _ oc hj
      · cases hs : s.σ j with
        | none => rw [hs] at hj; cases hj
        | some o => rw [hs] at hj; simp only [Option.map_some, Option.some.injEq] at hj; subst hj; exact mentO_killQ (hb j o hs hne)
def HereBn (P : Program) (T : TT) (K : List Nat) (G : (Nat → Option OC) → Prop) (n : Nat) (all : Array Oper) (ms : List Md) (id : Nat) (o : Oper) (l : List Oper) (s : St) (k : Kont) : Prop := ∃ r, (BornC P G o id s r ∧ calm K r) ∧ SV P T K G n all ms l (s.put o.dst r) k
def HereP (P : Program) (T : TT) (K : List Nat) (G : (Nat → Option OC) → Prop) (n : Nat) (all : Array Oper) (ms : List Md) (o : Oper) (l : List Oper) (s : St) (k : Kont) : Prop := ∃ r, OpP P o (evL s) s.σ r ∧ SV P T K G n all ms l (s.put o.dst r) k
def HereF (P : Program) (T : TT) (K : List Nat) (G : (Nat → Option OC) → Prop) (n : Nat) (all : Array Oper) (ms : List Md) (o : Oper) (l : List Oper) (s : St) (k : Kont) : Prop := ∃ r, (∀ σ, G σ → OpP P o (evL s) σ r) ∧ calm K r ∧ SV P T K G n all ms l (s.put o.dst r) k
def HereC (P : Program) (T : TT) (K : List Nat) (G : (Nat → Option OC) → Prop) (n : Nat) (all : Array Oper) (ms : List Md) (o : Oper) (l : List Oper) (s : St) (k : Kont) : Prop := ∃ Q σ' r, inK K Q ∧ G σ' ∧ OpC P o (evL s) s.σ Q σ' r ∧ SV P T K G n all ms l ((⟨fun t => kill Q (s.lf t), σ'⟩ : St).put o.dst r) k
theorem SV_nil {ms : List Md} {s : St} : SV P T K G n all ms [] s k = Norm P T n k s := by rw [SV]
theorem SV_p {ms : List Md} {o : Oper} {l : List Oper} {s : St} : SV P T K G n all (.p :: ms) (o :: l) s k = (o.guard = none ∧ match opE T o.op (evL s) s.σ with
    | .val p r => p ∧ SV P T K G n all ms l (s.put o.dst r) k
    | .hard => HereP P T K G n all ms o l s k
    | _ => False) := by rw [SV]; rfl
theorem SV_f {ms : List Md} {o : Oper} {l : List Oper} {s : St} : SV P T K G n all (.f :: ms) (o :: l) s k = (o.guard = none ∧ match opE T o.op (evL s) (fun _ => none) with
    | .val p r => p ∧ calm K r ∧ (∀ σ, opE T o.op (evL s) σ = opE T o.op (evL s) fun _ => none) ∧ SV P T K G n all ms l (s.put o.dst r) k
    | _ => HereF P T K G n all ms o l s k) := by rw [SV]; rfl
theorem SV_c {ms : List Md} {o : Oper} {l : List Oper} {s : St} : SV P T K G n all (.c :: ms) (o :: l) s k = (o.guard = none ∧ HereC P T K G n all ms o l s k) := by rw [SV]; rfl
theorem SV_b {ms : List Md} {id : Nat} {o : Oper} {l : List Oper} {s : St} : SV P T K G n all (.b id :: ms) (o :: l) s k = (o.guard = none ∧ HereBn P T K G n all ms id o l s k) := by rw [SV]; rfl
theorem calm_v (x : Value) : calm K (.v x) = True := eq_true fun Q _ => by simp only [kill]
theorem calm_rd (l : List Value) : calm K (.rd l) = True := eq_true fun Q _ => by simp only [kill]
theorem calm_rds (l : List (List Value)) : calm K (.rds l) = True := eq_true fun Q _ => by simp only [kill]
theorem calm_own (id : Nat) : calm [] (.own id) = True := eq_true fun Q h => by
  have : Q = fun _ => false := by
    funext j
    cases e : Q j with
    | false => rfl
    | true => have := h j e; simp at this
  rw [this, kill_none]
def calms (K : List Nat) (l : List LV) : Prop := ∀ Q : Nat → Bool, (∀ j, Q j = true → K.contains j = true) → kills Q l = l
theorem calms_nil : calms K [] = True := eq_true fun Q _ => by simp only [kills]
theorem calms_cons (x : LV) (l : List LV) : calms K (x :: l) = (calm K x ∧ calms K l) := by
  unfold calms calm
  refine propext ⟨fun h => ⟨fun Q hq => ?_, fun Q hq => ?_⟩, fun h Q hq => ?_⟩
  · have := h Q hq; simp only [kills, List.cons.injEq] at this; exact this.1
  · have := h Q hq; simp only [kills, List.cons.injEq] at this; exact this.2
  · simp only [kills, h.1 Q hq, h.2 Q hq]
theorem calm_agg (l : List LV) : calm K (.agg l) = calms K l := propext ⟨fun h Q hq => by have := h Q hq; simpa only [kill, LV.agg.injEq] using this, fun h Q hq => by simp only [kill, h Q hq]⟩
theorem calm_box (l : List LV) : calm K (.box l) = calms K l := propext ⟨fun h Q hq => by have := h Q hq; simpa only [kill, LV.box.injEq] using this, fun h Q hq => by simp only [kill, h Q hq]⟩
theorem calm_tup (l : List LV) : calm K (.tup l) = calms K l := propext ⟨fun h Q hq => by have := h Q hq; simpa only [kill, LV.tup.injEq] using this, fun h Q hq => by simp only [kill, h Q hq]⟩
theorem calm_pc (x : LV) : calm K (.pc x) = calm K x := propext ⟨fun h Q hq => by have := h Q hq; simpa only [kill, LV.pc.injEq] using this, fun h Q hq => by simp only [kill, h Q hq]⟩
theorem all_oc : (∀ _ : Nat → Option OC, True) = True := eq_true fun _ => trivial
theorem HereC.append {ms : List Md} {o : Oper} {l : List Oper} {s : St} (hT : T.Ok P) {t e : Nat} {z : Value} {bts : Nat} {a b : Operand} {id : Nat} {vs : List Value} (ws : List Value) (ho : o.op = .call { callee := .builtin .append, args := #[a, b], argTypes := #[t, t] })
    (ht : T.el t = some (e, z, bts)) (hb : bts ≤ 64) (ha : evL s a = .own id) (hid : 16 ≤ id) (hσ : s.σ id = some (.row e vs)) (hy : evL s b = .rd ws) (h1 : ∀ u ∈ ws, u.oneCell' = true) (hlen : vs.length + ws.length ≤ 1099511627776) (hk : K.contains id = true) (hG : G (s.fresh id (.row e (vs ++ ws))).σ)
    (h : SV P T K G n all ms l ((s.fresh id (.row e (vs ++ ws))).put o.dst (.own id)) k) : HereC P T K G n all ms o l s k := by
  refine ⟨fun j => j == id, (s.fresh id (.row e (vs ++ ws))).σ, .own id, fun j hj => by rw [beq_iff_eq.1 hj]; exact hk, hG, fun s' hs' hx => ?_, h⟩
  have ha' : evL s' a = .own id := by rw [hx a (by simp [ho, Op.operands, Call.operands]), ha]
  have hb' : evL s' b = .rd ws := by rw [hx b (by simp [ho, Op.operands, Call.operands]), hy]
  refine OpT.append hT (vs := vs) (ws := ws) ho ht hb ha' hid (by rw [hs']; exact hσ) (by rw [hb']; exact .rd ws) h1 hlen ⟨rfl, ?_⟩
  unfold St.fresh St.turn
  rw [hs']
theorem HereC.buildRow {ms : List Md} {o : Oper} {l : List Oper} {s : St} (hT : T.Ok P) {t e : Nat} {z : Value} {bts m : Nat} {parts : Array (Nat × Operand)} (id : Nat) (vs : List Value) (ho : o.op = .buildSlice t m parts) (ht : T.el t = some (e, z, bts)) (hn : m = parts.toList.length) (hm : m ≤ 1000) (hp : partsIn 0 parts.toList = true)
    (hx : (parts.toList.map fun p => evL s p.2) = vs.map .v) (h1 : vs.all (·.oneCell') = true) (hid : 16 ≤ id) (hk : K.contains id = true) (hG : G (s.fresh id (.row e vs)).σ) (h : SV P T K G n all ms l ((s.fresh id (.row e vs)).put o.dst (.own id)) k) : HereC P T K G n all ms o l s k := by
  refine ⟨fun j => j == id, (s.fresh id (.row e vs)).σ, .own id, fun j hj => by rw [beq_iff_eq.1 hj]; exact hk, hG, fun s' hs' hx' => ?_, h⟩
  have hev : ∀ p ∈ parts.toList, evL s' p.2 = evL s p.2 := fun p hm => hx' p.2 (by simp [ho, Op.operands]; exact ⟨p.1, by simpa using hm⟩)
  refine OpT.buildRow hT vs ho ht hn hm hp (by rw [← hx]; exact List.map_congr_left hev) h1 id hid ⟨rfl, ?_⟩
  unfold St.fresh St.turn
  rw [hs']
theorem HereC.storeRow {ms : List Md} {o : Oper} {l : List Oper} {s : St} (hT : T.Ok P) {t e : Nat} {a x : Operand} {id i : Nat} {vs : List Value} {u : Value} (ho : o.op = .store t a x) (ha : evL s a = .pe id i) (hσ : s.σ id = some (.row e vs))
    (ht : T.sc t = true) (hx : evL s x = .v u) (h1 : u.oneCell' = true) (hi : i < vs.length) (hG : G (s.set id (.row e (vs.set i u))).σ) (h : SV P T K G n all ms l ((s.set id (.row e (vs.set i u))).put o.dst .junk) k) : HereC P T K G n all ms o l s k := by
  refine ⟨fun _ => false, (s.set id (.row e (vs.set i u))).σ, .junk, noK, hG, fun s' hs' hx' => ?_, ?_⟩
  · have ha' : evL s' a = .pe id i := by rw [hx' a (by simp [ho, Op.operands]), ha]
    have hb' : evL s' x = .v u := by rw [hx' x (by simp [ho, Op.operands]), hx]
    refine OpT.storeRow hT ho ha' (by rw [hs']; exact hσ) ht hb' h1 hi ⟨rfl, ?_⟩
    unfold St.set
    rw [hs']
    congr 1
    funext t
    rw [kill_none]
  · have : (⟨fun t => kill (fun _ => false) (s.lf t), (s.set id (.row e (vs.set i u))).σ⟩ : St) = s.set id (.row e (vs.set i u)) := by
      unfold St.set
      congr 1
      funext t
      rw [kill_none]
    rw [this]
    exact h
theorem HereC.storeAgg {ms : List Md} {o : Oper} {l : List Oper} {s : St} (hT : T.Ok P) {t tt kk : Nat} {a x : Operand} {id : Nat} {c c' : List LV} (ho : o.op = .store t a x) (ha : evL s a = .ptr id 0) (hσ : s.σ id = some (.cells tt c))
    (ht : T.ag t = some kk) (hx : evL s x = .agg c') (h1 : c'.all (fun x => oneL x && ownIs s.σ x) = true) (hc : c.length = kk) (hc' : c'.length = kk) (hG : G (s.set id (.cells tt c')).σ) (h : SV P T K G n all ms l ((s.set id (.cells tt c')).put o.dst .junk) k) : HereC P T K G n all ms o l s k := by
  refine ⟨fun _ => false, (s.set id (.cells tt c')).σ, .junk, noK, hG, fun s' hs' hx' => ?_, ?_⟩
  · have ha' : evL s' a = .ptr id 0 := by rw [hx' a (by simp [ho, Op.operands]), ha]
    have hb' : evL s' x = .agg c' := by rw [hx' x (by simp [ho, Op.operands]), hx]
    refine OpT.storeAgg hT ho ha' (by rw [hs']; exact hσ) ht hb' (by rw [hs']; exact h1) hc hc' ⟨rfl, ?_⟩
    unfold St.set
    rw [hs']
    congr 1
    funext t
    rw [kill_none]
  · have : (⟨fun t => kill (fun _ => false) (s.lf t), (s.set id (.cells tt c')).σ⟩ : St) = s.set id (.cells tt c') := by
      unfold St.set
      congr 1
      funext t
      rw [kill_none]
    rw [this]
    exact h
theorem HereC.callOwn {ms : List Md} {o : Oper} {l : List Oper} {s : St} {fo : Operand} {av : Array Operand} {ts : Array TypeId} {g : Nat} {caps : List LV} {args : List LV} {r : LV} {os : List OC} (d : Nat) (ho : o.op = .call { callee := .value fo, args := av, argTypes := ts })
    (hf : evL s fo = .fn g caps) (hs : Spec P g args r os) (ha : closeBs s.σ (av.toList.map (evL s) ++ caps) = args) (hp : plainL r = true) (hlen : os.length ≤ 16) (hpo : os.all plainO = true) (hk : inK K (isShift d)) (hG : G (s.take d os).σ) (h : SV P T K G n all ms l ((s.take d os).put o.dst (ren (shift d) r)) k) : HereC P T K G n all ms o l s k := by
  refine ⟨isShift d, (s.take d os).σ, ren (shift d) r, hk, hG, fun s' hs' hx' => ?_, h⟩
  have hf' : evL s' fo = .fn g caps := by rw [hx' fo (by simp [ho, Op.operands, Call.operands]), hf]
  have has : av.toList.map (evL s') = av.toList.map (evL s) := List.map_congr_left fun x hx => hx' x (by simp [ho, Op.operands, Call.operands]; exact .inr (by simpa using hx))
  refine OpT.callOwn ho hf' (by rw [hs', has, ha]; exact hs) hp hlen hpo ⟨rfl, ?_⟩
  unfold St.take
  rw [hs']
theorem inK_shift {d : Nat} (h : ((List.range 16).all fun i => K.contains (1000 + 16 * d + i)) = true) : inK K (isShift d) := fun j hj => by
  have h2 : 1000 + 16 * d ≤ j ∧ j < 1000 + 16 * d + 16 := by unfold isShift at hj; simpa using hj
  have := List.all_eq_true.1 h (j - (1000 + 16 * d)) (List.mem_range.2 (by omega))
  rwa [show 1000 + 16 * d + (j - (1000 + 16 * d)) = j by omega] at this
theorem keeps_nil (σ0 σ : Nat → Option OC) : keeps [] σ0 σ := fun _ h => nomatch h
theorem keeps_cons (j : Nat) (l : List Nat) (σ0 σ : Nat → Option OC) : keeps (j :: l) σ0 σ = (σ j = σ0 j ∧ keeps l σ0 σ) := propext ⟨fun h => ⟨h j (by simp), fun i hi => h i (by simp [hi])⟩, fun h i hi => by
  rcases List.mem_cons.1 hi with e | e
  · rw [e]; exact h.1
  · exact h.2 i e⟩
theorem keeps_nil' (σ0 σ : Nat → Option OC) : keeps [] σ0 σ = True := eq_true (keeps_nil _ _)
theorem calm_ne {id : Nat} (h : K.contains id = false) : calm K (.own id) := fun Q hq => by
  have : Q id = false := by
    cases e : Q id with
    | false => rfl
    | true => rw [hq id e] at h; cases h
  simp only [kill, this]
  rfl
theorem calm_ptr_ne {id off : Nat} (h : K.contains id = false) : calm K (.ptr id off) := fun Q hq => by
  have : Q id = false := by
    cases e : Q id with
    | false => rfl
    | true => rw [hq id e] at h; cases h
  simp only [kill, this]
  rfl
theorem HereBn.of {ms : List Md} {o : Oper} {l : List Oper} {s : St} {KP : List Nat} {σ0 : Nat → Option OC} {Bs : List Birth} (b : Birth) (hb : b ∈ Bs) (h16 : 16 ≤ b.id) (hop : ∀ σ, OpN P o (evL s) σ b.id b.e b.vs b.p) (hc : calm K (bornL b.p b.id b.vs.length))
    (h : SV P T K (GB KP σ0 Bs) n all ms l (s.put o.dst (bornL b.p b.id b.vs.length)) k) : HereBn P T K (GB KP σ0 Bs) n all ms b.id o l s k :=
  ⟨bornL b.p b.id b.vs.length, ⟨⟨h16, b.e, b.vs, b.p, rfl, fun σ hσ => ⟨(hσ.2 b hb).2, (hσ.2 b hb).1, hop σ⟩⟩, hc⟩, h⟩
theorem AwL.back {Bs : List Birth} {s : St} {d : Nat} {is : List Nat} {os' : List (Option OC)} (h : AwL Bs s.σ) (h1 : (Bs.all fun b => !isShift d b.id && (posOf is b.id).isNone) = true) (hp : os'.all (fun o => o.all plainO2) = true) : AwL Bs (s.back d is os').σ := fun b hb => by
  have h2 := List.all_eq_true.1 h1 b hb
  simp only [Bool.and_eq_true, Bool.not_eq_true', Option.isNone_iff_eq_none] at h2
  exact (h b hb).back h2.1 h2.2 hp
theorem AwL.take {Bs : List Birth} {s : St} {d : Nat} {os : List OC} (h : AwL Bs s.σ) (h1 : (Bs.all fun b => !isShift d b.id) = true) (hp : os.all (fun o => Bs.all fun b => !mentO b.id o) = true) : AwL Bs (s.take d os).σ := fun b hb => by
  have h2 := List.all_eq_true.1 h1 b hb
  simp only [Bool.not_eq_true'] at h2
  obtain ⟨ha, hn⟩ := h b hb
  refine ⟨by simp only [St.take, h2, Bool.false_eq_true, if_false, ha, Option.map_some, killO], fun j oc hj hne => ?_⟩
  simp only [St.take] at hj
  split at hj
  · have := List.all_eq_true.1 (List.all_eq_true.1 hp oc (List.mem_of_getElem? hj)) b hb
    simpa using this
  · cases hs : s.σ j with
    | none => rw [hs] at hj; cases hj
    | some o => rw [hs] at hj; simp only [Option.map_some, Option.some.injEq] at hj; subst hj; exact mentO_killQ (hn j o hs hne)
theorem HereF.load {ms : List Md} {o : Oper} {l : List Oper} {s : St} {KP : List Nat} {σ0 : Nat → Option OC} (hT : T.Ok P) {t : Nat} {x : Operand} {id : Nat} {tt : Nat} {c : List LV} {off : Nat} {y : LV} (ho : o.op = .load t x) (hx : evL s x = .ptr id off) (hok : okO T n all o = true)
    (hag : T.ag t = none) (hkp : KP.contains id = true) (hσ : σ0 id = some (.cells tt c)) (hy : c[off]? = some y) (hc : calm K y)
    (h : SV P T K (keeps KP σ0) n all ms l (s.put o.dst y) k) : HereF P T K (keeps KP σ0) n all ms o l s k := by
  refine ⟨y, fun σ hG => ?_, hc, h⟩
  have hσ' : σ id = some (.cells tt c) := by rw [hG id (List.contains_iff_mem.1 hkp)]; exact hσ
  have he : opE T o.op (evL s) σ = .val True y := by
    rw [ho]
    simp only [opE, hx, hσ', hag, hy]
  exact opE_opP (P := P) (o := o) (s := ⟨s.lf, σ⟩) hT (okO_ty hok) (p := True) (r := y) he trivial
end
attribute [go_sem] SV_nil SV_p SV_f SV_c SV_b calm_v calm_rd calm_rds calm_own calms_nil calms_cons calm_agg calm_box calm_tup calm_pc all_oc
end Go.Proofs.YtcjhojdlfnpgjaaGreat
