/- Plain laws: numbers in decimal come back; texts cut into parts, and joined; modules in their texts. -/
import Derived.Test.YtkdiodegilidgaaDoorOc
namespace Go.Proofs.YtkdiodegilidgaaDoor
open Go.RowKit
set_option linter.unusedVariables false
set_option linter.unusedSimpArgs false
set_option maxRecDepth 100000

theorem dec_small {u : Nat} (h : u < 10) : Lib.decDigits u = [UInt8.ofNat (48 + u)] := by
  rw [Lib.decDigits, dif_pos h]
theorem dec_big {u : Nat} (h : ¬ u < 10) : Lib.decDigits u = Lib.decDigits (u / 10) ++ [UInt8.ofNat (48 + u % 10)] := by
  rw [Lib.decDigits, dif_neg h]
theorem dec_len (u : Nat) (h : u < 100) : (Lib.decDigits u).length ≤ 2 ∧ 1 ≤ (Lib.decDigits u).length := by
  by_cases h1 : u < 10
  · rw [dec_small h1]; simp
  · rw [dec_big h1, dec_small (by omega)]; simp
theorem ofNat_digit {b : UInt8} (h : digit b) : UInt8.ofNat (48 + (b.toNat - 48)) = b := by
  unfold digit at h
  rw [show 48 + (b.toNat - 48) = b.toNat by omega]
  exact UInt8.ofNat_toNat
theorem dec_back (l : List UInt8) (hd : ∀ j, j < l.length → digit (l.getD j 0)) (h0 : ¬ (l.getD 0 0 = 48 ∧ 1 < l.length)) : ∀ j, j < l.length → Lib.decDigits (valN (l.take (j + 1))) = l.take (j + 1) ∧ (1 < l.length → 1 ≤ valN (l.take (j + 1)))
  | 0, hj => by
    have d0 := hd 0 hj
    rw [valN_step hj, List.take_succ_eq_append_getElem hj]
    rw [getD_at hj] at d0
    have e : valN (l.take 0) = 0 := by simp [valN]
    rw [e]
    refine ⟨?_, fun h1 => ?_⟩
    · rw [dec_small (by unfold digit at d0; omega), show 0 * 10 + (l[0].toNat - 48) = l[0].toNat - 48 by omega, ofNat_digit d0]
      simp
    · have hne : l[0] ≠ 48 := fun q => h0 ⟨by rw [getD_at hj]; exact q, h1⟩
      have : l[0].toNat ≠ 48 := fun q => hne (UInt8.toNat_inj.1 q)
      unfold digit at d0
      omega
  | j + 1, hj => by
    obtain ⟨ih1, ih2⟩ := dec_back l hd h0 j (by omega)
    have ih3 := ih2 (by omega)
    have dj := hd (j + 1) hj
    rw [getD_at hj] at dj
    rw [valN_step hj, List.take_succ_eq_append_getElem hj]
    have hdj := dj
    unfold digit at hdj
    refine ⟨?_, fun _ => by omega⟩
    rw [dec_big (by omega), show (valN (l.take (j + 1)) * 10 + (l[j + 1].toNat - 48)) / 10 = valN (l.take (j + 1)) by omega, show (valN (l.take (j + 1)) * 10 + (l[j + 1].toNat - 48)) % 10 = l[j + 1].toNat - 48 by omega, ih1, ofNat_digit dj]
/-- A number that was read is written as it stood. -/
theorem dec_num {l : List UInt8} (h : isNum l) : Lib.decDigits (valN l) = l := by
  obtain ⟨h1, h2, h3, h4⟩ := h
  have := (dec_back l h4 h3 (l.length - 1) (by omega)).1
  rw [show l.length - 1 + 1 = l.length by omega, List.take_length] at this
  exact this
theorem joinTail_cons (c : UInt8) (p : List UInt8) (r : List (List UInt8)) : Lib.joinTail [c] (p :: r) = c :: Lib.join (p :: r) [c] := by
  rw [Lib.join_cons]
  simp [Lib.joinTail]
theorem join_parts (c : UInt8) : ∀ l : List UInt8, Lib.join (parts c l) [c] = l
  | [] => by simp [parts, Lib.join_one]
  | b :: l => by
    have ih := join_parts c l
    cases hp : parts c l with
    | nil => exact absurd hp (parts_ne c l)
    | cons p r =>
      rw [hp] at ih
      by_cases e : b = c
      · simp only [parts, if_pos e, hp]
        rw [Lib.join_cons, joinTail_cons, ih, List.nil_append, e]
      · simp only [parts, if_neg e, hp]
        rw [Lib.join_cons, List.cons_append, ← Lib.join_cons, ih]
theorem cut_parts (c : UInt8) : ∀ l : List UInt8, (Lib.indexByte l c = -1 ∧ parts c l = [l]) ∨ ∃ i : Nat, Lib.indexByte l c = i ∧ i < l.length ∧ parts c l = l.take i :: parts c (l.drop (i + 1)) ∧ l = l.take i ++ c :: l.drop (i + 1)
  | [] => .inl ⟨rfl, rfl⟩
  | b :: l => by
    by_cases e : b = c
    · refine .inr ⟨0, ?_, by simp, ?_, ?_⟩
      · simp [Lib.indexByte, e]
      · simp [parts, e]
      · simp [e]
    · have hbe : (b == c) = false := by simpa using e
      rcases cut_parts c l with ⟨h1, h2⟩ | ⟨i, h1, h2, h3, h4⟩
      · refine .inl ⟨?_, ?_⟩
        · simp [Lib.indexByte, hbe, h1]
        · simp [parts, e, h2]
      · refine .inr ⟨i + 1, ?_, by simp; omega, ?_, ?_⟩
        · have : ((i : Int) == -1) = false := by rw [beq_eq_false_iff_ne]; omega
          simp [Lib.indexByte, hbe, h1, this]
        · simp only [parts, if_neg e, h3, List.take_succ_cons, List.drop_succ_cons]
        · simp only [List.take_succ_cons, List.drop_succ_cons, List.cons_append]
          rw [← h4]
theorem mem_parts (c b : UInt8) (hbc : b ≠ c) : ∀ l : List UInt8, b ∈ l → ∃ p ∈ parts c l, b ∈ p
  | [], h => by cases h
  | d :: l, h => by
    by_cases e : d = c
    · rcases List.mem_cons.1 h with h | h
      · exact absurd (h.trans e) hbc
      · obtain ⟨p, h1, h2⟩ := mem_parts c b hbc l h
        exact ⟨p, by simp only [parts, if_pos e]; exact List.mem_cons_of_mem _ h1, h2⟩
    · cases hp : parts c l with
      | nil => exact absurd hp (parts_ne c l)
      | cons p r =>
        simp only [parts, if_neg e, hp]
        rcases List.mem_cons.1 h with h | h
        · exact ⟨d :: p, List.mem_cons_self .., by rw [h]; exact List.mem_cons_self ..⟩
        · obtain ⟨q, h1, h2⟩ := mem_parts c b hbc l h
          rw [hp] at h1
          rcases List.mem_cons.1 h1 with h1 | h1
          · exact ⟨d :: p, List.mem_cons_self .., List.mem_cons_of_mem _ (h1 ▸ h2)⟩
          · exact ⟨q, List.mem_cons_of_mem _ h1, h2⟩
/-! ### Modules in their texts -/
/-- The text of a module. -/
def txtM (m : Int) (u : List Int) : List UInt8 := Lib.itoa m ++ [58] ++ Lib.join (u.map Lib.itoa) [44]
theorem itoa_nat (n : Nat) : Lib.itoa (n : Int) = Lib.decDigits n := by
  unfold Lib.itoa
  rw [if_neg (by omega), Int.toNat_natCast]
theorem itoa_len (x : Int) (h : -100 < x ∧ x < 100) : (Lib.itoa x).length ≤ 3 ∧ 1 ≤ (Lib.itoa x).length := by
  unfold Lib.itoa
  split
  · have := dec_len x.natAbs (by omega)
    simp only [List.length_cons]
    omega
  · have := dec_len x.toNat (by omega)
    omega
/-- What stands ahead of the first colon, and behind it. -/
def oneOf (l : List UInt8) : List UInt8 := l.take (Lib.indexByte l 58).toNat
def restOf (l : List UInt8) : List UInt8 := l.drop ((Lib.indexByte l 58).toNat + 1)
def hdL (r : List UInt8) : List Int := if r = [] then [] else (parts 44 r).map numI
def headB (l : List UInt8) : Prop := 0 ≤ Lib.indexByte l 58 ∧ isNum (oneOf l) ∧ (restOf l).length ≤ 1029 ∧ (restOf l = [] ∨ ∀ p ∈ parts 44 (restOf l), isNum p)
instance (l : List UInt8) : Decidable (headB l) := by unfold headB; infer_instance
/-- A text is that of a module. -/
def pmOk (t : List (List Int)) (l : List UInt8) : Prop := headB l ∧ Mod t (numI (oneOf l)) (hdL (restOf l))
instance (t : List (List Int)) (l : List UInt8) : Decidable (pmOk t l) := by unfold pmOk; infer_instance
theorem numZ_eq {p : List UInt8} (h : isNum p) : numZ p = numI p := by unfold numZ numI; rw [if_pos h, if_pos h]
theorem numZ_pos {p : List UInt8} (h : 1 ≤ numZ p) : isNum p := by
  unfold numZ at h
  split at h
  · assumption
  · omega
theorem not58 {r : List UInt8} (h : ∀ p ∈ parts 44 r, isNum p) : parts 58 r = [r] := by
  rcases cut_parts 58 r with ⟨_, h2⟩ | ⟨i, _, _, _, h4⟩
  · exact h2
  · have hm : (58 : UInt8) ∈ r := by rw [h4]; simp
    obtain ⟨p, h1, h2⟩ := mem_parts 44 58 (by decide) r hm
    obtain ⟨_, _, _, hd⟩ := h p h1
    obtain ⟨j, hj, e⟩ := List.mem_iff_getElem.1 h2
    have := hd j hj
    rw [getD_at hj, e] at this
    exact absurd this (by decide)
theorem Mod.unit_mem {t : List (List Int)} {m : Int} {u : List Int} (h : Mod t m u) : ∀ x ∈ u, 1 ≤ x ∧ x < m := by
  intro x hx
  obtain ⟨j, hj, e⟩ := List.mem_iff_getElem.1 hx
  have := h.2.2.1 j hj
  rw [List.getD_eq_getElem?_getD, List.getElem?_eq_getElem hj, Option.getD_some, e] at this
  exact ⟨this.1, this.2.1⟩
theorem pm_parts {t : List (List Int)} (hg : Grp t) {l : List UInt8} (h : pmOk t l) : ∃ a b, parts 58 l = [a, b] ∧ Mod t (numZ a) ((parts 44 b).map numZ) := by
  obtain ⟨⟨h1, h2, h3, h4⟩, hm⟩ := h
  have hr : restOf l ≠ [] := fun e => by
    have := hm.2.1
    rw [hdL, if_pos e] at this
    have := hg.1
    simp at *
    omega
  have hn := h4.resolve_left hr
  rcases cut_parts 58 l with ⟨q, _⟩ | ⟨i, q1, q2, q3, q4⟩
  · omega
  · have eo : l.take i = oneOf l := by unfold oneOf; rw [q1]; rfl
    have er : l.drop (i + 1) = restOf l := by unfold restOf; rw [q1]; rfl
    rw [eo, er, not58 hn] at q3
    refine ⟨_, _, q3, ?_⟩
    have e : (parts 44 (restOf l)).map numZ = hdL (restOf l) := by
      rw [hdL, if_neg hr]
      exact List.map_congr_left fun p hp => numZ_eq (hn p hp)
    rw [numZ_eq h2, e]
    exact hm
theorem pm_back {t : List (List Int)} (hg : Grp t) {l a b : List UInt8} (hp : parts 58 l = [a, b]) (hm : Mod t (numZ a) ((parts 44 b).map numZ)) :
    pmOk t l ∧ numZ a = numI (oneOf l) ∧ (parts 44 b).map numZ = hdL (restOf l) ∧ txtM (numZ a) ((parts 44 b).map numZ) = l := by
  have ha : isNum a := numZ_pos (by have := hm.1.1; omega)
  have hb : ∀ p ∈ parts 44 b, isNum p := fun p hp => numZ_pos (hm.unit_mem _ (List.mem_map_of_mem hp)).1
  have hb0 : b ≠ [] := fun e => by
    have := hb [] (by rw [e]; simp [parts])
    exact absurd this.1 (by simp)
  have h8 := hg.2.1
  have hlen : b.length ≤ 1029 := by
    have hs := parts_sum 44 b
    have : ∀ q : List (List UInt8), (∀ p ∈ q, isNum p) → (q.map fun p => p.length + 1).sum ≤ 10 * q.length := by
      intro q
      induction q with
      | nil => intro _; simp
      | cons p q ih =>
        intro hq
        have := ih fun p hp => hq p (List.mem_cons_of_mem _ hp)
        have := (hq p (List.mem_cons_self ..)).2.1
        simp only [List.map_cons, List.sum_cons, List.length_cons]
        omega
    have := this _ hb
    have hl := hm.2.1
    rw [List.length_map] at hl
    omega
  rcases cut_parts 58 l with ⟨_, q⟩ | ⟨i, q1, q2, q3, q4⟩
  · rw [hp] at q; simp at q
  · have eo : l.take i = oneOf l := by unfold oneOf; rw [q1]; rfl
    have er : l.drop (i + 1) = restOf l := by unfold restOf; rw [q1]; rfl
    rw [eo, er, hp] at q3
    simp only [List.cons.injEq] at q3
    obtain ⟨e1, e2⟩ := q3
    have e3 : restOf l = b := by
      rcases cut_parts 58 (restOf l) with ⟨_, q⟩ | ⟨j, _, _, q, _⟩
      · rw [q] at e2; simpa using e2.symm
      · rw [q] at e2
        have := congrArg List.length e2
        have h1 := parts_len 58 ((restOf l).drop (j + 1))
        simp only [List.length_cons, List.length_nil] at this
        omega
    have e : (parts 44 b).map numZ = hdL (restOf l) := by
      rw [e3, hdL, if_neg hb0]
      exact List.map_congr_left fun p hp => numZ_eq (hb p hp)
    have eL : txtM (numZ a) ((parts 44 b).map numZ) = l := by
      unfold txtM
      have ea : Lib.itoa (numZ a) = a := by unfold numZ; rw [if_pos ha, itoa_nat, dec_num ha]
      have eb : ((parts 44 b).map numZ).map Lib.itoa = parts 44 b := by
        rw [List.map_map]
        conv => rhs; rw [← List.map_id (parts 44 b)]
        refine List.map_congr_left fun p hp => ?_
        show Lib.itoa (numZ p) = p
        unfold numZ
        rw [if_pos (hb p hp), itoa_nat, dec_num (hb p hp)]
      rw [ea, eb, join_parts, q4, eo, er, e3, ← e1]
      simp
    refine ⟨⟨⟨by omega, by rw [← e1]; exact ha, by rw [e3]; exact hlen, .inr (by rw [e3]; exact hb)⟩, ?_⟩, by rw [← e1]; exact numZ_eq ha, e, eL⟩
    rw [← e, ← e1, ← numZ_eq ha]
    exact hm
end Go.Proofs.YtkdiodegilidgaaDoor
