/- Contracts: groups are told by the specification as by the program. -/
import Derived.Test.YtipdgkohfmpilaaFa
namespace Go.Proofs.Ytipdgkohfmpilaa
open Go.RowKit
set_option linter.unusedVariables false
set_option linter.unusedSimpArgs false
set_option maxRecDepth 100000

/-- In a group an inverse on the one side is one on the other side too. -/
theorem Grp.left {t : List (List Int)} (h : Grp t) {a : Nat} (ha : a < t.length) : ∃ b, b < t.length ∧ ee t a b = 0 ∧ ee t b a = 0 := by
  obtain ⟨_, _, hs, hl⟩ := h
  have inv : ∀ a, a < t.length → ∃ b, b < t.length ∧ ee t a b = 0 := fun a ha => by
    obtain ⟨j, h1, h2⟩ := (hl a ha).1.2.2
    rw [(hs a ha).1] at h1
    exact ⟨j, h1, h2⟩
  obtain ⟨b, hb, e1⟩ := inv a ha
  obtain ⟨c, hc, e2⟩ := inv b hb
  have hass := (hl a ha).2 b hb c hc
  unfold Assoc at hass
  rw [e1, e2] at hass
  simp only [Int.toNat_zero] at hass
  rw [(hl c hc).1.1, (hl a ha).1.2.1] at hass
  have : c = a := by omega
  subst this
  exact ⟨b, hb, e1, e2⟩
def Inv2 (t : List (List Int)) (a b : Nat) : Prop := ee t a b = 0 ∧ ee t b a = 0
instance (t : List (List Int)) (a b : Nat) : Decidable (Inv2 t a b) := by unfold Inv2; infer_instance
def Grp2 (t : List (List Int)) : Prop := 1 ≤ t.length ∧ t.length ≤ 8 ∧ Shape t ∧ ∀ a, a < t.length → (ee t 0 a = a ∧ ee t a 0 = a) ∧ (∀ b, b < t.length → ∀ c, c < t.length → Assoc t a b c) ∧ ∃ b, b < t.length ∧ Inv2 t a b
theorem Grp2_iff (t : List (List Int)) : Grp2 t ↔ Grp t := by
  constructor
  · rintro ⟨h1, h2, h3, h4⟩
    refine ⟨h1, h2, h3, fun a ha => ?_⟩
    obtain ⟨⟨e1, e2⟩, hass, b, hb, e3, e4⟩ := h4 a ha
    exact ⟨⟨e1, e2, b, by rw [(h3 a ha).1]; exact hb, e3⟩, hass⟩
  · intro h
    refine ⟨h.1, h.2.1, h.2.2.1, fun a ha => ?_⟩
    have := h.2.2.2 a ha
    exact ⟨⟨this.1.1, this.1.2.1⟩, this.2, h.left ha⟩

set_option maxHeartbeats 1000000 in
theorem l01Is_spec (t : List (List Int)) : Spec Try.prog 14 [.agg [.rds (II t)]] (.v (.bool (decide (Grp t)))) [] := by
  refine Spec.of_code T_ok Try.func14 rfl Try.ntmps14 Try.call14 (Nat.le_of_ble_eq_true rfl) rfl rfl (CodeV_sound T_ok (by kernel_rfl) rfl ?_)
  simp only [Try.results14, go_sem, Nat.reduceMul, Nat.reduceLeDiff, Nat.reduceLT, reduceIte, reduceCtorEq, Nat.reduceEqDiff, Nat.reduceSub, Nat.reduceAdd]
  refine HereO.call T_ok rfl rfl (l01In_spec t.length 1 8) (by simp only [go_sem, Nat.reduceMul, Nat.reduceLeDiff, Nat.reduceLT, reduceIte, reduceCtorEq, Nat.reduceEqDiff, Nat.reduceSub, Nat.reduceAdd, List.toList_toArray]) rfl ?_
  simp only [Try.results14, go_sem, Nat.reduceMul, Nat.reduceLeDiff, Nat.reduceLT, reduceIte, reduceCtorEq, Nat.reduceEqDiff, Nat.reduceSub, Nat.reduceAdd]
  refine ⟨fun h1 => (decide_eq_false fun h => h1 ⟨by have := h.1; omega, by have := h.2.1; omega⟩).symm, fun h1 => ?_⟩
  refine Here.loopV T_ok (fun k => k ≤ t.length ∧ ∀ a, a < k → (t.getD a []).length = t.length ∧ ∀ b, b < t.length → 0 ≤ ee t a b ∧ ee t a b < t.length) (fun k => t.length - k) (fun k => [(1, .box [.rds (II t)]), (3, .v (.int .i64 t.length)), (4, .v (.int .i64 k))]) (fun _ => []) 0 (by simp) (by simp only [Try.results14, go_sem, Nat.reduceMul, Nat.reduceLeDiff, Nat.reduceLT, reduceIte, reduceCtorEq, Nat.reduceEqDiff, Nat.reduceSub, Nat.reduceAdd]; rfl) trivial ?_
  rintro k ⟨hk, hrow⟩
  simp only [Try.results14, go_sem, Nat.reduceMul, Nat.reduceLeDiff, Nat.reduceLT, reduceIte, reduceCtorEq, Nat.reduceEqDiff, Nat.reduceSub, Nat.reduceAdd]
  refine ⟨fun h2 => ⟨⟨by omega, by omega⟩, fun h3 => ?_, fun h3 => ?_⟩, fun h2 => ?_⟩
  · exact (decide_eq_false fun h => h3 (by have := (h.2.2.1 k (by omega)).1; omega)).symm
  · refine Here.loopV T_ok (fun b => b ≤ t.length ∧ ∀ b', b' < b → 0 ≤ ee t k b' ∧ ee t k b' < t.length) (fun b => t.length - b) (fun b => [(1, .box [.rds (II t)]), (3, .v (.int .i64 t.length)), (4, .v (.int .i64 k)), (5, .v (.int .i64 b))]) (fun _ => []) 0 (by simp) (by simp only [Try.results14, go_sem, Nat.reduceMul, Nat.reduceLeDiff, Nat.reduceLT, reduceIte, reduceCtorEq, Nat.reduceEqDiff, Nat.reduceSub, Nat.reduceAdd]; rfl) trivial ?_
    rintro b ⟨hb, hbs⟩
    simp only [Try.results14, go_sem, Nat.reduceMul, Nat.reduceLeDiff, Nat.reduceLT, reduceIte, reduceCtorEq, Nat.reduceEqDiff, Nat.reduceSub, Nat.reduceAdd]
    refine ⟨fun h4 => ⟨⟨by omega, by omega⟩, ⟨by omega, by omega⟩, by unfold InR; omega, ?_⟩, fun h4 => ⟨by unfold InR; omega, k + 1, ⟨by omega, fun a h => ?_⟩, by omega, rfl⟩⟩
    · refine HereO.call T_ok rfl rfl (l01In_spec ((t.getD k []).getD b 0) 0 (t.length - 1)) (by simp only [go_sem, Nat.reduceMul, Nat.reduceLeDiff, Nat.reduceLT, reduceIte, reduceCtorEq, Nat.reduceEqDiff, Nat.reduceSub, Nat.reduceAdd, List.toList_toArray]) rfl ?_
      simp only [Try.results14, go_sem, Nat.reduceMul, Nat.reduceLeDiff, Nat.reduceLT, reduceIte, reduceCtorEq, Nat.reduceEqDiff, Nat.reduceSub, Nat.reduceAdd]
      refine ⟨fun h5 => (decide_eq_false fun h => h5 ?_).symm, fun h5 => ⟨by unfold InR; omega, b + 1, ⟨by omega, fun b' h => ?_⟩, by omega, rfl⟩⟩
      · have := (h.2.2.1 k (by omega)).2 b (by omega)
        unfold ee at this
        omega
      · by_cases e : b' = b
        · subst e; unfold ee; omega
        · exact hbs b' (by omega)
    · by_cases e : a = k
      · subst e; exact ⟨by omega, fun b h => hbs b (by omega)⟩
      · exact hrow a (by omega)
  · have hrow' : Shape t := fun a h => hrow a (by omega)
    have fin : ∀ {p : Prop} [Decidable p], ¬ p → False ∨ p → False := fun h1 h2 => h1 (h2.resolve_left id)
    refine Here.loopV T_ok (fun k => k ≤ t.length ∧ ∀ a, a < k → (ee t 0 a = a ∧ ee t a 0 = a) ∧ (∀ b, b < t.length → ∀ c, c < t.length → Assoc t a b c) ∧ ∃ b, b < t.length ∧ Inv2 t a b) (fun k => t.length - k) (fun k => [(1, .box [.rds (II t)]), (3, .v (.int .i64 t.length)), (6, .v (.int .i64 k))]) (fun _ => []) 0 (by simp) (by simp only [Try.results14, go_sem, Nat.reduceMul, Nat.reduceLeDiff, Nat.reduceLT, reduceIte, reduceCtorEq, Nat.reduceEqDiff, Nat.reduceSub, Nat.reduceAdd]; rfl) trivial ?_
    rintro a ⟨ha, hall⟩
    simp only [Try.results14, go_sem, Nat.reduceMul, Nat.reduceLeDiff, Nat.reduceLT, reduceIte, reduceCtorEq, Nat.reduceEqDiff, Nat.reduceSub, Nat.reduceAdd]
    refine ⟨fun h3 => ?_, fun h3 => (decide_eq_true ((Grp2_iff t).1 ⟨by omega, by omega, hrow', fun a' h => hall a' (by omega)⟩)).symm⟩
    have l0 := hrow' 0 (by omega)
    have la := hrow' a (by omega)
    refine ⟨⟨by omega, by omega⟩, ⟨by omega, by omega⟩, fun h4 => ⟨⟨by omega, by omega⟩, ⟨by omega, by omega⟩, fun h5 => ?_, fun h5 => ?_⟩, fun h4 => ?_⟩
    · exact (decide_eq_false fun h => h5 (h.2.2.2 a (by omega)).1.2.1).symm
    · refine Here.loopV T_ok (fun b => b ≤ t.length ∧ ∀ b', b' < b → ∀ c, c < t.length → Assoc t a b' c) (fun b => t.length - b) (fun b => [(1, .box [.rds (II t)]), (3, .v (.int .i64 t.length)), (6, .v (.int .i64 a)), (7, .v (.bool (decide (∃ b', b' < b ∧ Inv2 t a b')))), (8, .v (.int .i64 b))]) (fun _ => []) 0 (by simp) (by simp only [Try.results14, go_sem, Nat.reduceMul, Nat.reduceLeDiff, Nat.reduceLT, reduceIte, reduceCtorEq, Nat.reduceEqDiff, Nat.reduceSub, Nat.reduceAdd]; simp) trivial ?_
      rintro b ⟨hb, hbs⟩
      simp only [Try.results14, go_sem, Nat.reduceMul, Nat.reduceLeDiff, Nat.reduceLT, reduceIte, reduceCtorEq, Nat.reduceEqDiff, Nat.reduceSub, Nat.reduceAdd]
      refine ⟨fun h6 => ?_, fun h6 => ?_⟩
      · have lb := hrow' b (by omega)
        have hx : (∃ b', b' < b + 1 ∧ Inv2 t a b') ↔ (∃ b', b' < b ∧ Inv2 t a b') ∨ Inv2 t a b := by
          constructor
          · rintro ⟨b', h1, h2⟩
            by_cases e : b' = b
            · subst e; exact .inr h2
            · exact .inl ⟨b', by omega, h2⟩
          · rintro (⟨b', h1, h2⟩ | h)
            · exact ⟨b', by omega, h2⟩
            · exact ⟨b, by omega, h⟩
        have v1 : (¬ ∃ b', b' < b ∧ Inv2 t a b') → (t.getD a []).getD b 0 = 0 → ((t.getD b []).getD a 0 == 0) = decide (∃ b', b' < b + 1 ∧ Inv2 t a b') := fun h7 h8 => by
          rw [Bool.eq_iff_iff, beq_iff_eq, decide_eq_true_iff, hx]
          exact ⟨fun h => .inr ⟨h8, h⟩, fun h => (h.resolve_left h7).2⟩
        have v2 : (¬ ∃ b', b' < b ∧ Inv2 t a b') → ¬ (t.getD a []).getD b 0 = 0 → false = decide (∃ b', b' < b + 1 ∧ Inv2 t a b') := fun h7 h8 => (decide_eq_false fun h => h8 ((hx.1 h).resolve_left h7).1).symm
        have v3 : (∃ b', b' < b ∧ Inv2 t a b') → true = decide (∃ b', b' < b + 1 ∧ Inv2 t a b') := fun h7 => (decide_eq_true (hx.2 (.inl h7))).symm
        refine ⟨fun h7 => ⟨⟨by omega, by omega⟩, ⟨by omega, by omega⟩, fun h8 => ⟨⟨by omega, by omega⟩, ⟨by omega, by omega⟩, ?_⟩, fun h8 => ?_⟩, fun h7 => ?_⟩
        all_goals
          refine Here.loopV T_ok (fun c => c ≤ t.length ∧ ∀ c', c' < c → Assoc t a b c') (fun c => t.length - c) (fun c => [(1, .box [.rds (II t)]), (3, .v (.int .i64 t.length)), (6, .v (.int .i64 a)), (7, .v (.bool (decide (∃ b', b' < b + 1 ∧ Inv2 t a b')))), (8, .v (.int .i64 b)), (9, .v (.int .i64 c))]) (fun _ => []) 0 (by simp) (by simp only [Try.results14, go_sem, Nat.reduceMul, Nat.reduceLeDiff, Nat.reduceLT, reduceIte, reduceCtorEq, Nat.reduceEqDiff, Nat.reduceSub, Nat.reduceAdd]; refine ⟨?_, rfl⟩; first | exact v1 h7 h8 | exact v2 h7 h8 | exact v3 h7) trivial ?_
          rintro c ⟨hc, hcs⟩
          simp only [Try.results14, go_sem, Nat.reduceMul, Nat.reduceLeDiff, Nat.reduceLT, reduceIte, reduceCtorEq, Nat.reduceEqDiff, Nat.reduceSub, Nat.reduceAdd]
          refine ⟨fun h9 => ?_, fun h9 => ⟨by unfold InR; omega, b + 1, ⟨by omega, fun b' h => ?_⟩, by omega, by simp⟩⟩
          · refine Here.draw T_ok mixed_ok (by kernel_rfl) ?_
            simp only [Try.results14, go_sem, Nat.reduceMul, Nat.reduceLeDiff, Nat.reduceLT, reduceIte, reduceCtorEq, Nat.reduceEqDiff, Nat.reduceSub, Nat.reduceAdd]
            have e1 := la.2 b (by omega)
            have e2 := lb.2 c (by omega)
            have l3 := hrow' ((t.getD a []).getD b 0).toNat (by unfold ee at e1; omega)
            unfold ee at e1 e2
            refine ⟨⟨by omega, by omega⟩, ⟨by omega, by omega⟩, e1, ⟨by omega, by omega⟩, ⟨by omega, by omega⟩, ⟨by omega, by omega⟩, ⟨by omega, by omega⟩, ⟨by omega, by omega⟩, fun h10 => ?_, fun h10 => ⟨by unfold InR; omega, c + 1, ⟨by omega, fun c' h => ?_⟩, by omega, rfl⟩⟩
            · exact (decide_eq_false fun h => h10 ((h.2.2.2 a (by omega)).2 b (by omega) c (by omega))).symm
            · by_cases e : c' = c
              · subst e; exact h10
              · exact hcs c' (by omega)
          · by_cases e : b' = b
            · subst e; exact fun c' h => hcs c' (by omega)
            · exact hbs b' (by omega)
      · refine ⟨fun h7 => (decide_eq_false fun h => h7 ?_).symm, fun h7 => ⟨by unfold InR; omega, a + 1, ⟨by omega, fun a' h => ?_⟩, by omega, rfl⟩⟩
        · obtain ⟨b', h8, h9⟩ := h.left (a := a) (by omega)
          exact ⟨b', by omega, h9⟩
        · by_cases e : a' = a
          · subst e
            obtain ⟨b', h8, h9⟩ := h7
            exact ⟨⟨h4, h5⟩, fun b h => hbs b (by omega), b', by omega, h9⟩
          · exact hall a' (by omega)
    · exact (decide_eq_false fun h => h4 (h.2.2.2 a (by omega)).1.1).symm

end Go.Proofs.Ytipdgkohfmpilaa

namespace Go.Proofs.Ytipdgkohfmpilaa
open Go.RowKit
set_option linter.unusedVariables false
set_option linter.unusedSimpArgs false
set_option maxRecDepth 100000

/-- What is left of a bound, -1 if nothing. -/
def szS (l : List Int) (left : Int) : Int := if left - l.length < 0 then -1 else left - l.length
theorem szS_spec (l : List Int) (left : Int) (h0 : 0 ≤ left) (h1 : left ≤ 1048576) (hl : (l.length : Int) ≤ 9223372036854775807) : Spec Try.prog 28 [.rd (I l), .v (.int .i64 left)] (.v (.int .i64 (szS l left))) [] := by
  refine Spec.of_code T_ok Try.func28 rfl Try.ntmps28 Try.call28 (Nat.le_of_ble_eq_true rfl) rfl rfl (CodeV_sound T_ok (by kernel_rfl) rfl ?_)
  simp only [Try.results28, go_sem, Nat.reduceMul, Nat.reduceLeDiff, Nat.reduceLT, reduceIte, reduceCtorEq, Nat.reduceEqDiff, Nat.reduceSub, Nat.reduceAdd]
  unfold szS
  refine ⟨by unfold InR; omega, fun h => by rw [if_pos h], fun h => by rw [if_neg h]⟩

theorem copy_step {α : Type} (d : α) (l : List α) (k : Nat) (hk : k < l.length) : (l.take k ++ List.replicate (l.length - k) d).set k (l.getD k d) = l.take (k + 1) ++ List.replicate (l.length - (k + 1)) d := by
  have e : l.length - k = (l.length - (k + 1)) + 1 := by omega
  have hl : (l.take k).length = k := by simp; omega
  rw [e, List.replicate_succ, List.set_append_right _ _ (by omega), hl, Nat.sub_self, List.set_cons_zero, List.take_succ_eq_append_getElem hk, List.append_assoc]
  simp [List.getElem?_eq_getElem hk]
theorem copy_end {α : Type} (d : α) (l : List α) (k : Nat) (hk : l.length ≤ k) : l.take k ++ List.replicate (l.length - k) d = l := by
  rw [List.take_of_length_le hk, show l.length - k = 0 by omega]; simp
theorem copy_len {α : Type} (d : α) (l : List α) (k : Nat) (hk : k ≤ l.length) : (l.take k ++ List.replicate (l.length - k) d).length = l.length := by simp; omega

theorem toS_spec (l : List Int) (hl : l.length ≤ 1048576) : Spec Try.prog 34 [.rd (I l)] (.own 0) [.row 2 (I l)] := by
  refine Spec.of_code T_ok Try.func34 rfl Try.ntmps34 Try.call34 (Nat.le_of_ble_eq_true rfl) rfl rfl (CodeV_sound T_ok (by kernel_rfl) rfl ?_)
  simp only [Try.results34, go_sem, Nat.reduceMul, Nat.reduceLeDiff, Nat.reduceLT, reduceIte, reduceCtorEq, Nat.reduceEqDiff, Nat.reduceSub, Nat.reduceAdd]
  refine HereO.makeSlice T_ok 107 rfl rfl rfl (by omega) (by omega) (by omega) (by omega) ?_
  simp only [Try.results34, go_sem, Nat.reduceMul, Nat.reduceLeDiff, Nat.reduceLT, reduceIte, reduceCtorEq, Nat.reduceEqDiff, Nat.reduceSub, Nat.reduceAdd]
  refine Here.loopV T_ok (fun k => k ≤ l.length) (fun k => l.length - k) (fun k => [(0, .rd (I l)), (3, .own 107), (4, .v (.int .i64 k))]) (fun k => [(107, .row 2 (I (l.take k ++ List.replicate (l.length - k) 0)))]) 0 (by simp) (by simp only [Try.results34, go_sem, Nat.reduceMul, Nat.reduceLeDiff, Nat.reduceLT, reduceIte, reduceCtorEq, Nat.reduceEqDiff, Nat.reduceSub, Nat.reduceAdd]; rfl) (by simp only [Try.results34, go_sem, Nat.reduceMul, Nat.reduceLeDiff, Nat.reduceLT, reduceIte, reduceCtorEq, Nat.reduceEqDiff, Nat.reduceSub, Nat.reduceAdd]; simp [I_rep]) ?_
  intro k hk
  simp only [Try.results34, go_sem, Nat.reduceMul, Nat.reduceLeDiff, Nat.reduceLT, reduceIte, reduceCtorEq, Nat.reduceEqDiff, Nat.reduceSub, Nat.reduceAdd]
  refine ⟨fun h1 => ⟨by omega, ⟨by omega, by rw [copy_len _ _ _ hk]; omega⟩, ?_⟩, fun h1 => ?_⟩
  · refine HereO.storeRow T_ok rfl rfl rfl rfl rfl rfl (by rw [I_len, copy_len _ _ _ hk]; omega) ?_
    simp only [Try.results34, go_sem, Nat.reduceMul, Nat.reduceLeDiff, Nat.reduceLT, reduceIte, reduceCtorEq, Nat.reduceEqDiff, Nat.reduceSub, Nat.reduceAdd]
    exact ⟨by unfold InR; omega, k + 1, by omega, by omega, rfl, by rw [I_set, copy_step _ _ _ (by omega)]⟩
  · refine RetT.one 107 (by simp only [Try.results34, go_sem, Nat.reduceMul, Nat.reduceLeDiff, Nat.reduceLT, reduceIte, reduceCtorEq, Nat.reduceEqDiff, Nat.reduceSub, Nat.reduceAdd]; rfl) rfl ?_
    simp only [Try.results34, go_sem, Nat.reduceMul, Nat.reduceLeDiff, Nat.reduceLT, reduceIte, reduceCtorEq, Nat.reduceEqDiff, Nat.reduceSub, Nat.reduceAdd]
    rw [copy_end _ _ _ (by omega)]

theorem toSS_spec (t : List (List Int)) (ht : t.length ≤ 1048576) (hr : ∀ a, a < t.length → (t.getD a []).length ≤ 1048576) : Spec Try.prog 16 [.rds (II t)] (.own 0) [.rows 39 2 (II t)] := by
  refine Spec.of_code T_ok Try.func16 rfl Try.ntmps16 Try.call16 (Nat.le_of_ble_eq_true rfl) rfl rfl (CodeV_sound T_ok (by kernel_rfl) rfl ?_)
  simp only [Try.results16, go_sem, Nat.reduceMul, Nat.reduceLeDiff, Nat.reduceLT, reduceIte, reduceCtorEq, Nat.reduceEqDiff, Nat.reduceSub, Nat.reduceAdd]
  refine HereO.makeSlice T_ok 107 rfl rfl rfl (by omega) (by omega) (by omega) (by omega) ?_
  simp only [Try.results16, go_sem, Nat.reduceMul, Nat.reduceLeDiff, Nat.reduceLT, reduceIte, reduceCtorEq, Nat.reduceEqDiff, Nat.reduceSub, Nat.reduceAdd]
  refine HereV.conv (Conv.rows (id := 107) (e := 39) 2 t.length (by simp only [Try.results16, go_sem, Nat.reduceMul, Nat.reduceLeDiff, Nat.reduceLT, reduceIte, reduceCtorEq, Nat.reduceEqDiff, Nat.reduceSub, Nat.reduceAdd]; rfl)) ?_
  refine Here.loopV T_ok (fun k => k ≤ t.length) (fun k => t.length - k) (fun k => [(0, .rds (II t)), (3, .own 107), (4, .v (.int .i64 k))]) (fun k => [(107, .rows 39 2 (II (t.take k ++ List.replicate (t.length - k) [])))]) 0 (by simp) (by simp only [Try.results16, go_sem, Nat.reduceMul, Nat.reduceLeDiff, Nat.reduceLT, reduceIte, reduceCtorEq, Nat.reduceEqDiff, Nat.reduceSub, Nat.reduceAdd]; rfl) (by simp only [Try.results16, go_sem, Nat.reduceMul, Nat.reduceLeDiff, Nat.reduceLT, reduceIte, reduceCtorEq, Nat.reduceEqDiff, Nat.reduceSub, Nat.reduceAdd]; simp [II, I]) ?_
  intro k hk
  simp only [Try.results16, go_sem, Nat.reduceMul, Nat.reduceLeDiff, Nat.reduceLT, reduceIte, reduceCtorEq, Nat.reduceEqDiff, Nat.reduceSub, Nat.reduceAdd]
  refine ⟨fun h1 => ⟨by omega, ?_⟩, fun h1 => ?_⟩
  · refine HereO.callOwn T_ok 20 rfl rfl (toS_spec (t.getD k []) (hr k (by omega))) (by simp only [go_sem, Nat.reduceMul, Nat.reduceLeDiff, Nat.reduceLT, reduceIte, reduceCtorEq, Nat.reduceEqDiff, Nat.reduceSub, Nat.reduceAdd, List.toList_toArray]) rfl (by simp) rfl ?_
    simp only [Try.results16, go_sem, Nat.reduceMul, Nat.reduceLeDiff, Nat.reduceLT, reduceIte, reduceCtorEq, Nat.reduceEqDiff, Nat.reduceSub, Nat.reduceAdd]
    refine ⟨⟨by omega, by rw [copy_len _ _ _ hk]; omega⟩, ?_⟩
    refine HereO.storeRows T_ok rfl rfl rfl rfl rfl rfl (by decide) (by rw [II_len, copy_len _ _ _ hk]; omega) ?_
    simp only [Try.results16, go_sem, Nat.reduceMul, Nat.reduceLeDiff, Nat.reduceLT, reduceIte, reduceCtorEq, Nat.reduceEqDiff, Nat.reduceSub, Nat.reduceAdd]
    exact ⟨by unfold InR; omega, k + 1, by omega, by omega, rfl, by rw [II_set, copy_step _ _ _ (by omega)]⟩
  · refine RetT.one 107 (by simp only [Try.results16, go_sem, Nat.reduceMul, Nat.reduceLeDiff, Nat.reduceLT, reduceIte, reduceCtorEq, Nat.reduceEqDiff, Nat.reduceSub, Nat.reduceAdd]; rfl) rfl ?_
    simp only [Try.results16, go_sem, Nat.reduceMul, Nat.reduceLeDiff, Nat.reduceLT, reduceIte, reduceCtorEq, Nat.reduceEqDiff, Nat.reduceSub, Nat.reduceAdd]
    rw [copy_end _ _ _ (by omega)]

theorem toGroup_spec (t : List (List Int)) (ht : t.length ≤ 1048576) (hr : ∀ a, a < t.length → (t.getD a []).length ≤ 1048576) : Spec Try.prog 6 [.agg [.rds (II t)]] (.agg [.own 0]) [.rows 39 2 (II t)] := by
  refine Spec.of_code T_ok Try.func6 rfl Try.ntmps6 Try.call6 (Nat.le_of_ble_eq_true rfl) rfl rfl (CodeV_sound T_ok (by kernel_rfl) rfl ?_)
  simp only [Try.results6, go_sem, Nat.reduceMul, Nat.reduceLeDiff, Nat.reduceLT, reduceIte, reduceCtorEq, Nat.reduceEqDiff, Nat.reduceSub, Nat.reduceAdd]
  refine HereO.alloc T_ok 102 rfl rfl (by decide) ?_
  simp only [Try.results6, go_sem, Nat.reduceMul, Nat.reduceLeDiff, Nat.reduceLT, reduceIte, reduceCtorEq, Nat.reduceEqDiff, Nat.reduceSub, Nat.reduceAdd]
  refine HereO.alloc T_ok 103 rfl rfl (by decide) ?_
  simp only [Try.results6, go_sem, Nat.reduceMul, Nat.reduceLeDiff, Nat.reduceLT, reduceIte, reduceCtorEq, Nat.reduceEqDiff, Nat.reduceSub, Nat.reduceAdd]
  refine HereO.callOwn T_ok 6 rfl rfl (toSS_spec t ht hr) (by simp only [go_sem, Nat.reduceMul, Nat.reduceLeDiff, Nat.reduceLT, reduceIte, reduceCtorEq, Nat.reduceEqDiff, Nat.reduceSub, Nat.reduceAdd, List.toList_toArray]) rfl (by simp) rfl ?_
  simp only [Try.results6, go_sem, Nat.reduceMul, Nat.reduceLeDiff, Nat.reduceLT, reduceIte, reduceCtorEq, Nat.reduceEqDiff, Nat.reduceSub, Nat.reduceAdd]
  refine HereO.store T_ok rfl (by simp only [go_sem, Nat.reduceMul, Nat.reduceLeDiff, Nat.reduceLT, reduceIte, reduceCtorEq, Nat.reduceEqDiff, Nat.reduceSub, Nat.reduceAdd] <;> rfl) (by simp only [go_sem, Nat.reduceMul, Nat.reduceLeDiff, Nat.reduceLT, reduceIte, reduceCtorEq, Nat.reduceEqDiff, Nat.reduceSub, Nat.reduceAdd] <;> rfl) rfl (by simp only [go_sem, Nat.reduceMul, Nat.reduceLeDiff, Nat.reduceLT, reduceIte, reduceCtorEq, Nat.reduceEqDiff, Nat.reduceSub, Nat.reduceAdd] <;> rfl) rfl (by simp only [go_sem, Nat.reduceMul, Nat.reduceLeDiff, Nat.reduceLT, reduceIte, reduceCtorEq, Nat.reduceEqDiff, Nat.reduceSub, Nat.reduceAdd] <;> rfl) (by decide) ?_
  simp only [Try.results6, go_sem, Nat.reduceMul, Nat.reduceLeDiff, Nat.reduceLT, reduceIte, reduceCtorEq, Nat.reduceEqDiff, Nat.reduceSub, Nat.reduceAdd]
  refine HereO.storeAgg T_ok rfl (by simp only [go_sem, Nat.reduceMul, Nat.reduceLeDiff, Nat.reduceLT, reduceIte, reduceCtorEq, Nat.reduceEqDiff, Nat.reduceSub, Nat.reduceAdd] <;> rfl) (by simp only [go_sem, Nat.reduceMul, Nat.reduceLeDiff, Nat.reduceLT, reduceIte, reduceCtorEq, Nat.reduceEqDiff, Nat.reduceSub, Nat.reduceAdd] <;> rfl) rfl (by simp only [go_sem, Nat.reduceMul, Nat.reduceLeDiff, Nat.reduceLT, reduceIte, reduceCtorEq, Nat.reduceEqDiff, Nat.reduceSub, Nat.reduceAdd] <;> rfl) (by simp only [go_sem, Nat.reduceMul, Nat.reduceLeDiff, Nat.reduceLT, reduceIte, reduceCtorEq, Nat.reduceEqDiff, Nat.reduceSub, Nat.reduceAdd] <;> rfl) rfl rfl ?_
  simp only [Try.results6, go_sem, Nat.reduceMul, Nat.reduceLeDiff, Nat.reduceLT, reduceIte, reduceCtorEq, Nat.reduceEqDiff, Nat.reduceSub, Nat.reduceAdd]
  refine RetT.one 1096 (by simp only [Try.results6, go_sem, Nat.reduceMul, Nat.reduceLeDiff, Nat.reduceLT, reduceIte, reduceCtorEq, Nat.reduceEqDiff, Nat.reduceSub, Nat.reduceAdd]; rfl) rfl ?_
  simp only [Try.results6, go_sem, Nat.reduceMul, Nat.reduceLeDiff, Nat.reduceLT, reduceIte, reduceCtorEq, Nat.reduceEqDiff, Nat.reduceSub, Nat.reduceAdd]

/-- The size of rows. -/
def szR : List (List Int) → Int → Int
  | [], a => a
  | r :: t, a => if szS r a < 0 then -1 else szR t (szS r a)
def szSS (t : List (List Int)) (left : Int) : Int := if left - t.length < 0 then -1 else szR t (left - t.length)
theorem szS_le (l : List Int) (left : Int) : szS l left < 0 ∨ (0 ≤ szS l left ∧ szS l left ≤ left ∧ (l.length : Int) ≤ left) := by unfold szS; split <;> omega
theorem szR_le : ∀ (t : List (List Int)) (a : Int), 0 ≤ szR t a → 0 ≤ a → szR t a ≤ a ∧ ∀ j, j < t.length → ((t.getD j []).length : Int) ≤ a
  | [], a, h, h0 => ⟨Int.le_refl _, fun j hj => by simp at hj⟩
  | r :: t, a, h, h0 => by
    unfold szR at h ⊢
    split at h
    · omega
    · rename_i hs
      rw [if_neg hs]
      have h1 := szS_le r a
      obtain ⟨h2, h3⟩ := szR_le t (szS r a) h (by omega)
      refine ⟨by omega, fun j hj => ?_⟩
      cases j with
      | zero => simp; omega
      | succ j => have := h3 j (by simpa using hj); simp at this ⊢; omega
theorem szR_step {t : List (List Int)} {k : Nat} (hk : k < t.length) (a : Int) : szR (t.drop k) a = if szS (t.getD k []) a < 0 then -1 else szR (t.drop (k + 1)) (szS (t.getD k []) a) := by
  rw [List.drop_eq_getElem_cons hk]
  simp [szR, List.getElem?_eq_getElem hk]

theorem szSS_spec (t : List (List Int)) (left : Int) (h0 : 0 ≤ left) (h1 : left ≤ 1048576) (hl : (t.length : Int) ≤ 9223372036854775807) (hr : ∀ a, a < t.length → ((t.getD a []).length : Int) ≤ 9223372036854775807) : Spec Try.prog 13 [.rds (II t), .v (.int .i64 left)] (.v (.int .i64 (szSS t left))) [] := by
  refine Spec.of_code T_ok Try.func13 rfl Try.ntmps13 Try.call13 (Nat.le_of_ble_eq_true rfl) rfl rfl (CodeV_sound T_ok (by kernel_rfl) rfl ?_)
  simp only [Try.results13, go_sem, Nat.reduceMul, Nat.reduceLeDiff, Nat.reduceLT, reduceIte, reduceCtorEq, Nat.reduceEqDiff, Nat.reduceSub, Nat.reduceAdd]
  refine ⟨by unfold InR; omega, fun h => by unfold szSS; rw [if_pos h], fun h => ?_⟩
  refine Here.loopV T_ok (κ := Nat × Int) (fun k => k.1 ≤ t.length ∧ 0 ≤ k.2 ∧ k.2 ≤ 1048576 ∧ szSS t left = szR (t.drop k.1) k.2) (fun k => t.length - k.1) (fun k => [(0, .rds (II t)), (1, .v (.int .i64 k.2)), (5, .v (.int .i64 k.1))]) (fun _ => []) (0, left - t.length) ⟨by simp, by simp at h ⊢; omega, by simp; omega, by unfold szSS; rw [if_neg h]; simp⟩ (by simp only [Try.results13, go_sem, Nat.reduceMul, Nat.reduceLeDiff, Nat.reduceLT, reduceIte, reduceCtorEq, Nat.reduceEqDiff, Nat.reduceSub, Nat.reduceAdd]; rfl) trivial ?_
  rintro ⟨k, a⟩ ⟨hk, ha0, ha1, hs⟩
  simp only [Try.results13, go_sem, Nat.reduceMul, Nat.reduceLeDiff, Nat.reduceLT, reduceIte, reduceCtorEq, Nat.reduceEqDiff, Nat.reduceSub, Nat.reduceAdd]
  refine ⟨fun h2 => ⟨by omega, ?_⟩, fun h2 => ?_⟩
  · refine HereO.call T_ok rfl rfl (szS_spec (t.getD k []) a ha0 ha1 (hr k (by omega))) (by simp only [go_sem, Nat.reduceMul, Nat.reduceLeDiff, Nat.reduceLT, reduceIte, reduceCtorEq, Nat.reduceEqDiff, Nat.reduceSub, Nat.reduceAdd, List.toList_toArray] <;> first | rfl | exact ⟨rfl, rfl⟩) rfl ?_
    simp only [Try.results13, go_sem, Nat.reduceMul, Nat.reduceLeDiff, Nat.reduceLT, reduceIte, reduceCtorEq, Nat.reduceEqDiff, Nat.reduceSub, Nat.reduceAdd]
    have h3 := szR_step (t := t) (k := k) (by omega) a
    have h4 := szS_le (t.getD k []) a
    refine ⟨fun h5 => by rw [hs, h3, if_pos h5], fun h5 => ⟨by unfold InR; omega, (k + 1, szS (t.getD k []) a), ⟨by show k + 1 ≤ t.length; omega, by show 0 ≤ szS _ _; omega, by show szS _ _ ≤ _; omega, by rw [hs, h3, if_neg h5]⟩, by show t.length - (k + 1) < _; omega, rfl, rfl⟩⟩
  · simp only at hs
    rw [hs, List.drop_eq_nil_of_le (by omega)]
    rfl

theorem szGroup_spec (t : List (List Int)) (left : Int) (h0 : 0 ≤ left) (h1 : left ≤ 1048576) (hl : (t.length : Int) ≤ 9223372036854775807) (hr : ∀ a, a < t.length → ((t.getD a []).length : Int) ≤ 9223372036854775807) : Spec Try.prog 4 [.agg [.rds (II t)], .v (.int .i64 left)] (.v (.int .i64 (szSS t left))) [] := by
  refine Spec.of_code T_ok Try.func4 rfl Try.ntmps4 Try.call4 (Nat.le_of_ble_eq_true rfl) rfl rfl (CodeV_sound T_ok (by kernel_rfl) rfl ?_)
  simp only [Try.results4, go_sem, Nat.reduceMul, Nat.reduceLeDiff, Nat.reduceLT, reduceIte, reduceCtorEq, Nat.reduceEqDiff, Nat.reduceSub, Nat.reduceAdd]
  refine HereO.call T_ok rfl rfl (szSS_spec t left h0 h1 hl hr) (by simp only [go_sem, Nat.reduceMul, Nat.reduceLeDiff, Nat.reduceLT, reduceIte, reduceCtorEq, Nat.reduceEqDiff, Nat.reduceSub, Nat.reduceAdd, List.toList_toArray] <;> first | rfl | exact ⟨rfl, rfl⟩) rfl ?_
  simp only [Try.results4, go_sem, Nat.reduceMul, Nat.reduceLeDiff, Nat.reduceLT, reduceIte, reduceCtorEq, Nat.reduceEqDiff, Nat.reduceSub, Nat.reduceAdd]
  refine ⟨fun h => ?_, fun _ => trivial⟩
  have : szSS t left = -1 ∨ 0 ≤ szSS t left := by
    unfold szSS
    split
    · exact .inl rfl
    · rename_i hn
      generalize left - t.length = b at hn
      clear hr hl h1 h0 h
      induction t generalizing b with
      | nil => right; unfold szR; omega
      | cons r t ih =>
        unfold szR
        split
        · exact .inl rfl
        · rename_i h5; exact ih _ (by omega)
  omega

theorem szSS_ok {t : List (List Int)} {left : Int} (h : 0 ≤ szSS t left) : (t.length : Int) ≤ left ∧ ∀ j, j < t.length → ((t.getD j []).length : Int) ≤ left := by
  unfold szSS at h
  split at h
  · omega
  · have := szR_le t _ h (by omega)
    exact ⟨by omega, fun j hj => by have := this.2 j hj; omega⟩
theorem szSS_left {t : List (List Int)} {left : Int} (h : 0 ≤ szSS t left) : szSS t left ≤ left := by
  unfold szSS at h ⊢
  split at h
  · omega
  · rename_i hn
    rw [if_neg hn]
    have := szR_le t _ h (by omega)
    omega

theorem getD_eq {α : Type} {d : α} {l m : List α} (hlen : l.length = m.length) (h : ∀ j, j < l.length → l.getD j d = m.getD j d) : l = m := by
  refine List.ext_getElem hlen fun j h1 h2 => ?_
  have := h j h1
  simpa [List.getD_eq_getElem?_getD, List.getElem?_eq_getElem h1, List.getElem?_eq_getElem h2] using this

theorem eqS_spec (l m : List Int) (hl : l.length ≤ 1048576) : Spec Try.prog 25 [.rd (I l), .rd (I m)] (.v (.bool (decide (l = m)))) [] := by
  refine Spec.of_code T_ok Try.func25 rfl Try.ntmps25 Try.call25 (Nat.le_of_ble_eq_true rfl) rfl rfl (CodeV_sound T_ok (by kernel_rfl) rfl ?_)
  simp only [Try.results25, go_sem, Nat.reduceMul, Nat.reduceLeDiff, Nat.reduceLT, reduceIte, reduceCtorEq, Nat.reduceEqDiff, Nat.reduceSub, Nat.reduceAdd]
  refine ⟨fun h => (decide_eq_false fun e => h (by rw [e])).symm, fun h => ?_⟩
  refine Here.loopV T_ok (fun k => k ≤ l.length ∧ ∀ j, j < k → l.getD j 0 = m.getD j 0) (fun k => l.length - k) (fun k => [(0, .rd (I l)), (1, .rd (I m)), (5, .v (.int .i64 k))]) (fun _ => []) 0 (by simp) (by simp only [Try.results25, go_sem, Nat.reduceMul, Nat.reduceLeDiff, Nat.reduceLT, reduceIte, reduceCtorEq, Nat.reduceEqDiff, Nat.reduceSub, Nat.reduceAdd]; rfl) trivial ?_
  rintro k ⟨hk, hj⟩
  simp only [Try.results25, go_sem, Nat.reduceMul, Nat.reduceLeDiff, Nat.reduceLT, reduceIte, reduceCtorEq, Nat.reduceEqDiff, Nat.reduceSub, Nat.reduceAdd]
  refine ⟨fun h2 => ?_, fun h2 => (decide_eq_true (getD_eq (d := 0) (by omega) fun j h => hj j (by omega))).symm⟩
  refine Here.draw T_ok mixed_ok (by kernel_rfl) ?_
  simp only [Try.results25, go_sem, Nat.reduceMul, Nat.reduceLeDiff, Nat.reduceLT, reduceIte, reduceCtorEq, Nat.reduceEqDiff, Nat.reduceSub, Nat.reduceAdd]
  refine ⟨by omega, by omega, fun h3 => (decide_eq_false fun e => h3 (by rw [e])).symm, fun h3 => ⟨by unfold InR; omega, k + 1, ⟨by omega, fun j h => ?_⟩, by omega, rfl⟩⟩
  by_cases e : j = k
  · subst e; exact h3
  · exact hj j (by omega)

theorem eqSS_spec (l m : List (List Int)) (hl : l.length ≤ 1048576) (hr : ∀ a, a < l.length → (l.getD a []).length ≤ 1048576) : Spec Try.prog 8 [.rds (II l), .rds (II m)] (.v (.bool (decide (l = m)))) [] := by
  refine Spec.of_code T_ok Try.func8 rfl Try.ntmps8 Try.call8 (Nat.le_of_ble_eq_true rfl) rfl rfl (CodeV_sound T_ok (by kernel_rfl) rfl ?_)
  simp only [Try.results8, go_sem, Nat.reduceMul, Nat.reduceLeDiff, Nat.reduceLT, reduceIte, reduceCtorEq, Nat.reduceEqDiff, Nat.reduceSub, Nat.reduceAdd]
  refine ⟨fun h => (decide_eq_false fun e => h (by rw [e])).symm, fun h => ?_⟩
  refine Here.loopV T_ok (fun k => k ≤ l.length ∧ ∀ j, j < k → l.getD j [] = m.getD j []) (fun k => l.length - k) (fun k => [(0, .rds (II l)), (1, .rds (II m)), (5, .v (.int .i64 k))]) (fun _ => []) 0 (by simp) (by simp only [Try.results8, go_sem, Nat.reduceMul, Nat.reduceLeDiff, Nat.reduceLT, reduceIte, reduceCtorEq, Nat.reduceEqDiff, Nat.reduceSub, Nat.reduceAdd]; rfl) trivial ?_
  rintro k ⟨hk, hj⟩
  simp only [Try.results8, go_sem, Nat.reduceMul, Nat.reduceLeDiff, Nat.reduceLT, reduceIte, reduceCtorEq, Nat.reduceEqDiff, Nat.reduceSub, Nat.reduceAdd]
  refine ⟨fun h2 => ?_, fun h2 => (decide_eq_true (getD_eq (d := []) (by omega) fun j h => hj j (by omega))).symm⟩
  refine Here.draw T_ok mixed_ok (by kernel_rfl) ?_
  simp only [Try.results8, go_sem, Nat.reduceMul, Nat.reduceLeDiff, Nat.reduceLT, reduceIte, reduceCtorEq, Nat.reduceEqDiff, Nat.reduceSub, Nat.reduceAdd]
  refine ⟨by omega, by omega, _, OpP.call' rfl rfl (eqS_spec (l.getD k []) (m.getD k []) (hr k (by omega))) (by simp only [go_sem, Nat.reduceMul, Nat.reduceLeDiff, Nat.reduceLT, reduceIte, reduceCtorEq, Nat.reduceEqDiff, Nat.reduceSub, Nat.reduceAdd, List.toList_toArray] <;> first | rfl | exact ⟨rfl, rfl⟩) rfl, ?_⟩
  simp only [Try.results8, go_sem, Nat.reduceMul, Nat.reduceLeDiff, Nat.reduceLT, reduceIte, reduceCtorEq, Nat.reduceEqDiff, Nat.reduceSub, Nat.reduceAdd]
  refine ⟨fun h3 => (decide_eq_false fun e => h3 (by rw [e])).symm, fun h3 => ⟨by unfold InR; omega, k + 1, ⟨by omega, fun j h => ?_⟩, by omega, rfl⟩⟩
  by_cases e : j = k
  · subst e; exact h3
  · exact hj j (by omega)

theorem eqGroup_spec (l m : List (List Int)) (hl : l.length ≤ 1048576) (hr : ∀ a, a < l.length → (l.getD a []).length ≤ 1048576) : Spec Try.prog 9 [.agg [.rds (II l)], .agg [.rds (II m)]] (.v (.bool (decide (l = m)))) [] := by
  refine Spec.of_code T_ok Try.func9 rfl Try.ntmps9 Try.call9 (Nat.le_of_ble_eq_true rfl) rfl rfl (CodeV_sound T_ok (by kernel_rfl) rfl ?_)
  simp only [Try.results9, go_sem, Nat.reduceMul, Nat.reduceLeDiff, Nat.reduceLT, reduceIte, reduceCtorEq, Nat.reduceEqDiff, Nat.reduceSub, Nat.reduceAdd]
  refine HereO.call T_ok rfl rfl (eqSS_spec l m hl hr) (by simp only [go_sem, Nat.reduceMul, Nat.reduceLeDiff, Nat.reduceLT, reduceIte, reduceCtorEq, Nat.reduceEqDiff, Nat.reduceSub, Nat.reduceAdd, List.toList_toArray] <;> first | rfl | exact ⟨rfl, rfl⟩) rfl ?_
  simp only [Try.results9, go_sem, Nat.reduceMul, Nat.reduceLeDiff, Nat.reduceLT, reduceIte, reduceCtorEq, Nat.reduceEqDiff, Nat.reduceSub, Nat.reduceAdd]
  exact ⟨fun h => (decide_eq_false h).symm, fun h => (decide_eq_true h).symm⟩
end Go.Proofs.Ytipdgkohfmpilaa
