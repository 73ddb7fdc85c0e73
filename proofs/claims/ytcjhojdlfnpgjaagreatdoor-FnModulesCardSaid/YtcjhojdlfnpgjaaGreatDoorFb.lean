/- Contracts: groups are told by the specification as by the program. -/
import Derived.Test.YtcjhojdlfnpgjaaGreatDoorFa
namespace Go.Proofs.YtcjhojdlfnpgjaaGreatDoor
open Go.RowKit
set_option linter.unusedVariables false
set_option linter.unusedSimpArgs false
set_option maxRecDepth 100000

/-- In a group an inverse on the one side is one on the other side too. -/
theorem Grp.left {t : List (List Int)} (h : Grp t) {a : Nat} (ha : a < t.length) : ∃ b, b < t.length ∧ ee t a b = 0 ∧ ee t b a = 0 := by
  obtain ⟨_, _, hs, hl⟩ := h
  have inv : ∀ a, a < t.length → ∃ b, b < t.length ∧ ee t a b = 0 := fun a ha => by
    obtain ⟨j, h1, h2⟩ := (hl a ha).1.2.2
    rw [(hs a ha).1] at h1
    exact ⟨j, h1, h2⟩
  obtain ⟨b, hb, e1⟩ := inv a ha
  obtain ⟨c, hc, e2⟩ := inv b hb
  have hass := (hl a ha).2 b hb c hc
  unfold Assoc at hass
  rw [e1, e2] at hass
  simp only [Int.toNat_zero] at hass
  rw [(hl c hc).1.1, (hl a ha).1.2.1] at hass
  have : c = a := by omega
  subst this
  exact ⟨b, hb, e1, e2⟩
def Inv2 (t : List (List Int)) (a b : Nat) : Prop := ee t a b = 0 ∧ ee t b a = 0
instance (t : List (List Int)) (a b : Nat) : Decidable (Inv2 t a b) := by unfold Inv2; infer_instance
def Grp2 (t : List (List Int)) : Prop := 1 ≤ t.length ∧ t.length ≤ 8 ∧ Shape t ∧ ∀ a, a < t.length → (ee t 0 a = a ∧ ee t a 0 = a) ∧ (∀ b, b < t.length → ∀ c, c < t.length → Assoc t a b c) ∧ ∃ b, b < t.length ∧ Inv2 t a b
theorem Grp2_iff (t : List (List Int)) : Grp2 t ↔ Grp t := by
  constructor
  · rintro ⟨h1, h2, h3, h4⟩
    refine ⟨h1, h2, h3, fun a ha => ?_⟩
    obtain ⟨⟨e1, e2⟩, hass, b, hb, e3, e4⟩ := h4 a ha
    exact ⟨⟨e1, e2, b, by rw [(h3 a ha).1]; exact hb, e3⟩, hass⟩
  · intro h
    refine ⟨h.1, h.2.1, h.2.2.1, fun a ha => ?_⟩
    have := h.2.2.2 a ha
    exact ⟨⟨this.1.1, this.1.2.1⟩, this.2, h.left ha⟩

set_option maxHeartbeats 1000000 in
theorem l01Is_spec (t : List (List Int)) : Spec Tryz.prog 29 [.agg [.rds (II t)]] (.v (.bool (decide (Grp t)))) [] := by
  refine Spec.of_code T_ok Tryz.func29 rfl Tryz.ntmps29 Tryz.call29 (Nat.le_of_ble_eq_true rfl) rfl rfl (CodeV_sound T_ok (by kernel_rfl) rfl ?_)
  simp only [Tryz.results29, go_sem, Nat.reduceMul, Nat.reduceLeDiff, Nat.reduceLT, reduceIte, reduceCtorEq, Nat.reduceEqDiff, Nat.reduceSub, Nat.reduceAdd]
  refine HereO.call T_ok rfl rfl (l01In_spec t.length 1 8) (by simp only [go_sem, Nat.reduceMul, Nat.reduceLeDiff, Nat.reduceLT, reduceIte, reduceCtorEq, Nat.reduceEqDiff, Nat.reduceSub, Nat.reduceAdd, List.toList_toArray]) rfl ?_
  simp only [Tryz.results29, go_sem, Nat.reduceMul, Nat.reduceLeDiff, Nat.reduceLT, reduceIte, reduceCtorEq, Nat.reduceEqDiff, Nat.reduceSub, Nat.reduceAdd]
  refine ⟨fun h1 => (decide_eq_false fun h => h1 ⟨by have := h.1; omega, by have := h.2.1; omega⟩).symm, fun h1 => ?_⟩
  refine Here.loopV T_ok (fun k => k ≤ t.length ∧ ∀ a, a < k → (t.getD a []).length = t.length ∧ ∀ b, b < t.length → 0 ≤ ee t a b ∧ ee t a b < t.length) (fun k => t.length - k) (fun k => [(1, .box [.rds (II t)]), (3, .v (.int .i64 t.length)), (4, .v (.int .i64 k))]) (fun _ => []) 0 (by simp) (by simp only [Tryz.results29, go_sem, Nat.reduceMul, Nat.reduceLeDiff, Nat.reduceLT, reduceIte, reduceCtorEq, Nat.reduceEqDiff, Nat.reduceSub, Nat.reduceAdd]; rfl) trivial ?_
  rintro k ⟨hk, hrow⟩
  simp only [Tryz.results29, go_sem, Nat.reduceMul, Nat.reduceLeDiff, Nat.reduceLT, reduceIte, reduceCtorEq, Nat.reduceEqDiff, Nat.reduceSub, Nat.reduceAdd]
  refine ⟨fun h2 => ⟨⟨by omega, by omega⟩, fun h3 => ?_, fun h3 => ?_⟩, fun h2 => ?_⟩
  · exact (decide_eq_false fun h => h3 (by have := (h.2.2.1 k (by omega)).1; omega)).symm
  · refine Here.loopV T_ok (fun b => b ≤ t.length ∧ ∀ b', b' < b → 0 ≤ ee t k b' ∧ ee t k b' < t.length) (fun b => t.length - b) (fun b => [(1, .box [.rds (II t)]), (3, .v (.int .i64 t.length)), (4, .v (.int .i64 k)), (5, .v (.int .i64 b))]) (fun _ => []) 0 (by simp) (by simp only [Tryz.results29, go_sem, Nat.reduceMul, Nat.reduceLeDiff, Nat.reduceLT, reduceIte, reduceCtorEq, Nat.reduceEqDiff, Nat.reduceSub, Nat.reduceAdd]; rfl) trivial ?_
    rintro b ⟨hb, hbs⟩
    simp only [Tryz.results29, go_sem, Nat.reduceMul, Nat.reduceLeDiff, Nat.reduceLT, reduceIte, reduceCtorEq, Nat.reduceEqDiff, Nat.reduceSub, Nat.reduceAdd]
    refine ⟨fun h4 => ⟨⟨by omega, by omega⟩, ⟨by omega, by omega⟩, by unfold InR; omega, ?_⟩, fun h4 => ⟨by unfold InR; omega, k + 1, ⟨by omega, fun a h => ?_⟩, by omega, rfl⟩⟩
    · refine HereO.call T_ok rfl rfl (l01In_spec ((t.getD k []).getD b 0) 0 (t.length - 1)) (by simp only [go_sem, Nat.reduceMul, Nat.reduceLeDiff, Nat.reduceLT, reduceIte, reduceCtorEq, Nat.reduceEqDiff, Nat.reduceSub, Nat.reduceAdd, List.toList_toArray]) rfl ?_
      simp only [Tryz.results29, go_sem, Nat.reduceMul, Nat.reduceLeDiff, Nat.reduceLT, reduceIte, reduceCtorEq, Nat.reduceEqDiff, Nat.reduceSub, Nat.reduceAdd]
      refine ⟨fun h5 => (decide_eq_false fun h => h5 ?_).symm, fun h5 => ⟨by unfold InR; omega, b + 1, ⟨by omega, fun b' h => ?_⟩, by omega, rfl⟩⟩
      · have := (h.2.2.1 k (by omega)).2 b (by omega)
        unfold ee at this
        omega
      · by_cases e : b' = b
        · subst e; unfold ee; omega
        · exact hbs b' (by omega)
    · by_cases e : a = k
      · subst e; exact ⟨by omega, fun b h => hbs b (by omega)⟩
      · exact hrow a (by omega)
  · have hrow' : Shape t := fun a h => hrow a (by omega)
    have fin : ∀ {p : Prop} [Decidable p], ¬ p → False ∨ p → False := fun h1 h2 => h1 (h2.resolve_left id)
    refine Here.loopV T_ok (fun k => k ≤ t.length ∧ ∀ a, a < k → (ee t 0 a = a ∧ ee t a 0 = a) ∧ (∀ b, b < t.length → ∀ c, c < t.length → Assoc t a b c) ∧ ∃ b, b < t.length ∧ Inv2 t a b) (fun k => t.length - k) (fun k => [(1, .box [.rds (II t)]), (3, .v (.int .i64 t.length)), (6, .v (.int .i64 k))]) (fun _ => []) 0 (by simp) (by simp only [Tryz.results29, go_sem, Nat.reduceMul, Nat.reduceLeDiff, Nat.reduceLT, reduceIte, reduceCtorEq, Nat.reduceEqDiff, Nat.reduceSub, Nat.reduceAdd]; rfl) trivial ?_
    rintro a ⟨ha, hall⟩
    simp only [Tryz.results29, go_sem, Nat.reduceMul, Nat.reduceLeDiff, Nat.reduceLT, reduceIte, reduceCtorEq, Nat.reduceEqDiff, Nat.reduceSub, Nat.reduceAdd]
    refine ⟨fun h3 => ?_, fun h3 => (decide_eq_true ((Grp2_iff t).1 ⟨by omega, by omega, hrow', fun a' h => hall a' (by omega)⟩)).symm⟩
    have l0 := hrow' 0 (by omega)
    have la := hrow' a (by omega)
    refine ⟨⟨by omega, by omega⟩, ⟨by omega, by omega⟩, fun h4 => ⟨⟨by omega, by omega⟩, ⟨by omega, by omega⟩, fun h5 => ?_, fun h5 => ?_⟩, fun h4 => ?_⟩
    · exact (decide_eq_false fun h => h5 (h.2.2.2 a (by omega)).1.2.1).symm
    · refine Here.loopV T_ok (fun b => b ≤ t.length ∧ ∀ b', b' < b → ∀ c, c < t.length → Assoc t a b' c) (fun b => t.length - b) (fun b => [(1, .box [.rds (II t)]), (3, .v (.int .i64 t.length)), (6, .v (.int .i64 a)), (7, .v (.bool (decide (∃ b', b' < b ∧ Inv2 t a b')))), (8, .v (.int .i64 b))]) (fun _ => []) 0 (by simp) (by simp only [Tryz.results29, go_sem, Nat.reduceMul, Nat.reduceLeDiff, Nat.reduceLT, reduceIte, reduceCtorEq, Nat.reduceEqDiff, Nat.reduceSub, Nat.reduceAdd]; simp) trivial ?_
      rintro b ⟨hb, hbs⟩
      simp only [Tryz.results29, go_sem, Nat.reduceMul, Nat.reduceLeDiff, Nat.reduceLT, reduceIte, reduceCtorEq, Nat.reduceEqDiff, Nat.reduceSub, Nat.reduceAdd]
      refine ⟨fun h6 => ?_, fun h6 => ?_⟩
      · have lb := hrow' b (by omega)
        have hx : (∃ b', b' < b + 1 ∧ Inv2 t a b') ↔ (∃ b', b' < b ∧ Inv2 t a b') ∨ Inv2 t a b := by
          constructor
          · rintro ⟨b', h1, h2⟩
            by_cases e : b' = b
            · subst e; exact .inr h2
            · exact .inl ⟨b', by omega, h2⟩
          · rintro (⟨b', h1, h2⟩ | h)
            · exact ⟨b', by omega, h2⟩
            · exact ⟨b, by omega, h⟩
        have v1 : (¬ ∃ b', b' < b ∧ Inv2 t a b') → (t.getD a []).getD b 0 = 0 → ((t.getD b []).getD a 0 == 0) = decide (∃ b', b' < b + 1 ∧ Inv2 t a b') := fun h7 h8 => by
          rw [Bool.eq_iff_iff, beq_iff_eq, decide_eq_true_iff, hx]
          exact ⟨fun h => .inr ⟨h8, h⟩, fun h => (h.resolve_left h7).2⟩
        have v2 : (¬ ∃ b', b' < b ∧ Inv2 t a b') → ¬ (t.getD a []).getD b 0 = 0 → false = decide (∃ b', b' < b + 1 ∧ Inv2 t a b') := fun h7 h8 => (decide_eq_false fun h => h8 ((hx.1 h).resolve_left h7).1).symm
        have v3 : (∃ b', b' < b ∧ Inv2 t a b') → true = decide (∃ b', b' < b + 1 ∧ Inv2 t a b') := fun h7 => (decide_eq_true (hx.2 (.inl h7))).symm
        refine ⟨fun h7 => ⟨⟨by omega, by omega⟩, ⟨by omega, by omega⟩, fun h8 => ⟨⟨by omega, by omega⟩, ⟨by omega, by omega⟩, ?_⟩, fun h8 => ?_⟩, fun h7 => ?_⟩
        all_goals
          refine Here.loopV T_ok (fun c => c ≤ t.length ∧ ∀ c', c' < c → Assoc t a b c') (fun c => t.length - c) (fun c => [(1, .box [.rds (II t)]), (3, .v (.int .i64 t.length)), (6, .v (.int .i64 a)), (7, .v (.bool (decide (∃ b', b' < b + 1 ∧ Inv2 t a b')))), (8, .v (.int .i64 b)), (9, .v (.int .i64 c))]) (fun _ => []) 0 (by simp) (by simp only [Tryz.results29, go_sem, Nat.reduceMul, Nat.reduceLeDiff, Nat.reduceLT, reduceIte, reduceCtorEq, Nat.reduceEqDiff, Nat.reduceSub, Nat.reduceAdd]; refine ⟨?_, rfl⟩; first | exact v1 h7 h8 | exact v2 h7 h8 | exact v3 h7) trivial ?_
          rintro c ⟨hc, hcs⟩
          simp only [Tryz.results29, go_sem, Nat.reduceMul, Nat.reduceLeDiff, Nat.reduceLT, reduceIte, reduceCtorEq, Nat.reduceEqDiff, Nat.reduceSub, Nat.reduceAdd]
          refine ⟨fun h9 => ?_, fun h9 => ⟨by unfold InR; omega, b + 1, ⟨by omega, fun b' h => ?_⟩, by omega, by simp⟩⟩
          · refine Here.draw T_ok mixed_ok (by kernel_rfl) ?_
            simp only [Tryz.results29, go_sem, Nat.reduceMul, Nat.reduceLeDiff, Nat.reduceLT, reduceIte, reduceCtorEq, Nat.reduceEqDiff, Nat.reduceSub, Nat.reduceAdd]
            have e1 := la.2 b (by omega)
            have e2 := lb.2 c (by omega)
            have l3 := hrow' ((t.getD a []).getD b 0).toNat (by unfold ee at e1; omega)
            unfold ee at e1 e2
            refine ⟨⟨by omega, by omega⟩, ⟨by omega, by omega⟩, e1, ⟨by omega, by omega⟩, ⟨by omega, by omega⟩, ⟨by omega, by omega⟩, ⟨by omega, by omega⟩, ⟨by omega, by omega⟩, fun h10 => ?_, fun h10 => ⟨by unfold InR; omega, c + 1, ⟨by omega, fun c' h => ?_⟩, by omega, rfl⟩⟩
            · exact (decide_eq_false fun h => h10 ((h.2.2.2 a (by omega)).2 b (by omega) c (by omega))).symm
            · by_cases e : c' = c
              · subst e; exact h10
              · exact hcs c' (by omega)
          · by_cases e : b' = b
            · subst e; exact fun c' h => hcs c' (by omega)
            · exact hbs b' (by omega)
      · refine ⟨fun h7 => (decide_eq_false fun h => h7 ?_).symm, fun h7 => ⟨by unfold InR; omega, a + 1, ⟨by omega, fun a' h => ?_⟩, by omega, rfl⟩⟩
        · obtain ⟨b', h8, h9⟩ := h.left (a := a) (by omega)
          exact ⟨b', by omega, h9⟩
        · by_cases e : a' = a
          · subst e
            obtain ⟨b', h8, h9⟩ := h7
            exact ⟨⟨h4, h5⟩, fun b h => hbs b (by omega), b', by omega, h9⟩
          · exact hall a' (by omega)
    · exact (decide_eq_false fun h => h4 (h.2.2.2 a (by omega)).1.1).symm

end Go.Proofs.YtcjhojdlfnpgjaaGreatDoor

namespace Go.Proofs.YtcjhojdlfnpgjaaGreatDoor
open Go.RowKit
set_option linter.unusedVariables false
set_option linter.unusedSimpArgs false
set_option maxRecDepth 100000

/-- What is left of a bound, -1 if nothing. -/
def szS (l : List Int) (left : Int) : Int := if left - l.length < 0 then -1 else left - l.length
/-- The size of rows. -/
def szR : List (List Int) → Int → Int
  | [], a => a
  | r :: t, a => if szS r a < 0 then -1 else szR t (szS r a)
def szSS (t : List (List Int)) (left : Int) : Int := if left - t.length < 0 then -1 else szR t (left - t.length)
theorem getD_eq {α : Type} {d : α} {l m : List α} (hlen : l.length = m.length) (h : ∀ j, j < l.length → l.getD j d = m.getD j d) : l = m := by
  refine List.ext_getElem hlen fun j h1 h2 => ?_
  have := h j h1
  simpa [List.getD_eq_getElem?_getD, List.getElem?_eq_getElem h1, List.getElem?_eq_getElem h2] using this

end Go.Proofs.YtcjhojdlfnpgjaaGreatDoor
