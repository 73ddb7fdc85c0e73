/- Plain laws: a module comes back from its text; elements lead numbers one behind the other as their products do. -/
import Derived.Test.YtcjhojdlfnpgjaaGreatDoorOg
namespace Go.Proofs.YtcjhojdlfnpgjaaGreatDoor
open Go.RowKit
set_option linter.unusedVariables false
set_option linter.unusedSimpArgs false
set_option maxRecDepth 100000

theorem parts_noc {c : UInt8} {p : List UInt8} (h : c ∉ p) : parts c p = [p] := by
  rcases cut_parts c p with ⟨_, h2⟩ | ⟨i, _, _, _, h4⟩
  · exact h2
  · exact absurd (by rw [h4]; simp) h
theorem parts_cut (c : UInt8) (l : List UInt8) : ∀ p : List UInt8, c ∉ p → parts c (p ++ c :: l) = p :: parts c l
  | [], _ => by simp [parts]
  | b :: p, h => by
    have hb : b ≠ c := fun e => h (by rw [e]; exact List.mem_cons_self ..)
    have ih := parts_cut c l p fun q => h (List.mem_cons_of_mem _ q)
    simp only [List.cons_append, parts, if_neg hb, ih]
theorem parts_join (c : UInt8) : ∀ xs : List (List UInt8), xs ≠ [] → (∀ x ∈ xs, c ∉ x) → parts c (Lib.join xs [c]) = xs
  | [], h, _ => absurd rfl h
  | [x], _, h => by rw [Lib.join_one]; exact parts_noc (h x (List.mem_cons_self ..))
  | x :: y :: r, _, h => by
    rw [Lib.join_cons, joinTail_cons, parts_cut c _ x (h x (List.mem_cons_self ..)), parts_join c (y :: r) (by simp) fun z hz => h z (List.mem_cons_of_mem _ hz)]
theorem num_back : ∀ n : Nat, n ≤ 12 → isNum (Lib.decDigits n) ∧ valN (Lib.decDigits n) = n ∧ (44 : UInt8) ∉ Lib.decDigits n ∧ (58 : UInt8) ∉ Lib.decDigits n := by
  intro n hn
  by_cases h : n < 10
  · rw [dec_small h]
    have : ∀ n, n < 10 → isNum [UInt8.ofNat (48 + n)] ∧ valN [UInt8.ofNat (48 + n)] = n ∧ (44 : UInt8) ∉ [UInt8.ofNat (48 + n)] ∧ (58 : UInt8) ∉ [UInt8.ofNat (48 + n)] := by decide +kernel
    exact this n h
  · obtain ⟨k, rfl⟩ : ∃ k, n = 10 + k := ⟨n - 10, by omega⟩
    have e : Lib.decDigits (10 + k) = [49, UInt8.ofNat (48 + k)] := by
      rw [dec_big (by omega), show (10 + k) / 10 = 1 by omega, show (10 + k) % 10 = k by omega, dec_small (by omega)]
      rfl
    rw [e]
    have : ∀ k, k < 3 → isNum [49, UInt8.ofNat (48 + k)] ∧ valN [49, UInt8.ofNat (48 + k)] = 10 + k ∧ (44 : UInt8) ∉ [49, UInt8.ofNat (48 + k)] ∧ (58 : UInt8) ∉ [49, UInt8.ofNat (48 + k)] := by decide +kernel
    exact this k (by omega)
theorem itoa_back {x : Int} (h : 0 ≤ x ∧ x ≤ 12) : isNum (Lib.itoa x) ∧ numZ (Lib.itoa x) = x ∧ (44 : UInt8) ∉ Lib.itoa x ∧ (58 : UInt8) ∉ Lib.itoa x := by
  obtain ⟨n, rfl⟩ := Int.eq_ofNat_of_zero_le h.1
  obtain ⟨h1, h2, h3, h4⟩ := num_back n (by omega)
  rw [itoa_nat]
  exact ⟨h1, by unfold numZ; rw [if_pos h1, h2], h3, h4⟩
/-- A module comes back from its text. -/
theorem pm_round {t : List (List Int)} {m : Int} {l : List Int} (hg : Grp t) (hm : Mod t m l) : pmOk t (txtM m l) ∧ numI (oneOf (txtM m l)) = m ∧ hdL (restOf (txtM m l)) = l := by
  have hm12 := hm.1
  obtain ⟨a1, a2, a3, a4⟩ := itoa_back (x := m) (by omega)
  have hu : ∀ x ∈ l, isNum (Lib.itoa x) ∧ numZ (Lib.itoa x) = x ∧ (44 : UInt8) ∉ Lib.itoa x ∧ (58 : UInt8) ∉ Lib.itoa x := fun x hx => itoa_back (by have := hm.unit_mem x hx; omega)
  have hne : l.map Lib.itoa ≠ [] := fun e => by
    have := congrArg List.length e
    have h1 := hg.1
    have h2 := hm.2.1
    simp only [List.length_map, List.length_nil] at this
    omega
  have hb := parts_join 44 (l.map Lib.itoa) hne fun x hx => by
    obtain ⟨y, hy, rfl⟩ := List.mem_map.1 hx
    exact (hu y hy).2.2.1
  have hb58 : (58 : UInt8) ∉ Lib.join (l.map Lib.itoa) [44] := fun q => by
    obtain ⟨p, h1, h2⟩ := mem_parts 44 58 (by decide) _ q
    rw [hb] at h1
    obtain ⟨y, hy, rfl⟩ := List.mem_map.1 h1
    exact (hu y hy).2.2.2 h2
  have hp : parts 58 (txtM m l) = [Lib.itoa m, Lib.join (l.map Lib.itoa) [44]] := by
    unfold txtM
    rw [List.append_assoc, List.singleton_append, parts_cut 58 _ _ a4, parts_noc hb58]
  have hz : (parts 44 (Lib.join (l.map Lib.itoa) [44])).map numZ = l := by
    rw [hb, List.map_map]
    conv => rhs; rw [← List.map_id l]
    exact List.map_congr_left fun x hx => (hu x hx).2.1
  obtain ⟨p1, p2, p3, _⟩ := pm_back hg hp (by rw [a2, hz]; exact hm)
  exact ⟨p1, by rw [← p2, a2], by rw [← p3, hz]⟩
theorem tmod_pos {a b : Int} (h : 0 ≤ a) : a.tmod b = a % b := Int.tmod_eq_emod_of_nonneg h
theorem leadV_of {t : List (List Int)} {m : Int} {l : List Int} {e x : Int} (hg : Grp t) (hm : Mod t m l) (he : 0 ≤ e ∧ e < t.length) (hx : 0 ≤ x ∧ x < m) : codeL t m l e x = 0 ∧ leadV t m l e x = (l.getD e.toNat 0 * x).tmod m := by
  have hc : codeM t [(m, l)] = 0 := by unfold codeM; rw [if_pos ⟨hg, Mods1.2 hm⟩]
  have h0 : codeL t m l e x = 0 := by unfold codeL; rw [if_pos hc, if_pos ⟨he, hx⟩]
  exact ⟨h0, by unfold leadV; rw [if_pos h0]⟩
theorem codeL_ok {t : List (List Int)} {m : Int} {l : List Int} {e x : Int} (h : codeL t m l e x = 0) : Grp t ∧ Mod t m l ∧ (0 ≤ e ∧ e < t.length) ∧ 0 ≤ x ∧ x < m := by
  unfold codeL at h
  split at h
  · rename_i hc
    obtain ⟨hg, hm⟩ := codeM1_ok hc
    split at h
    · rename_i q; exact ⟨hg, hm, q.1, q.2⟩
    · omega
  · omega
theorem lead_lead {t : List (List Int)} {m : Int} {l : List Int} {e x : Int} (h : codeL t m l e x = 0) (y : Nat) (hy : y < t.length) :
    codeL t m l y (leadV t m l e x) = 0 ∧ codeL t m l (ee t y e.toNat) x = 0 ∧ leadV t m l y (leadV t m l e x) = leadV t m l (ee t y e.toNat) x := by
  obtain ⟨hg, hm, he, hx⟩ := codeL_ok h
  have hm0 := hm.1
  have hl := hm.2.1
  have h1 := (leadV_of hg hm he hx).2
  obtain ⟨a, rfl⟩ := Int.eq_ofNat_of_zero_le he.1
  rw [Int.toNat_natCast] at h1 ⊢
  have ha : a < t.length := by omega
  have ua := hm.2.2.1 a (by omega)
  have uy := hm.2.2.1 y (by omega)
  have hmul := hm.2.2.2 y (by omega) a (by omega)
  have hsh := (hg.2.2.1 y hy).2 a (by omega)
  obtain ⟨u1, u2, _⟩ := ua
  obtain ⟨v1, v2, _⟩ := uy
  have n1 : 0 ≤ l.getD a 0 * x := Int.mul_nonneg (by omega) hx.1
  have n2 : 0 ≤ l.getD y 0 * l.getD a 0 := Int.mul_nonneg (by omega) (by omega)
  rw [tmod_pos n1] at h1
  rw [tmod_pos n2] at hmul
  have r1 : 0 ≤ (l.getD a 0 * x) % m ∧ (l.getD a 0 * x) % m < m := ⟨Int.emod_nonneg _ (by omega), Int.emod_lt_of_pos _ (by omega)⟩
  obtain ⟨c1, c2⟩ := leadV_of hg hm (e := (y : Int)) (x := leadV t m l a x) ⟨by omega, by omega⟩ (by rw [h1]; exact r1)
  obtain ⟨d1, d2⟩ := leadV_of hg hm (e := ee t y a) (x := x) hsh hx
  refine ⟨c1, d1, ?_⟩
  rw [c2, d2, h1, hmul, Int.toNat_natCast]
  have n3 : 0 ≤ l.getD y 0 * ((l.getD a 0 * x) % m) := Int.mul_nonneg (by omega) r1.1
  have n4 : 0 ≤ (l.getD y 0 * l.getD a 0) % m * x := Int.mul_nonneg (Int.emod_nonneg _ (by omega)) hx.1
  rw [tmod_pos n3, tmod_pos n4, Int.mul_emod (l.getD y 0) ((l.getD a 0 * x) % m), Int.emod_emod_of_dvd _ (Int.dvd_refl m), ← Int.mul_emod, Int.mul_emod ((l.getD y 0 * l.getD a 0) % m) x, Int.emod_emod_of_dvd _ (Int.dvd_refl m), ← Int.mul_emod, Int.mul_assoc]
theorem modsR_all {t : List (List Int)} {m : Int} : ∀ p ∈ modsR t m, Mod t p.1 p.2 ∧ p.1 = m := by
  intro p hp
  unfold modsR at hp
  split at hp
  · unfold withM at hp
    obtain ⟨u, hu, rfl⟩ := List.mem_map.1 hp
    exact ⟨dfsM_Mod _ _ _ hu, rfl⟩
  · cases hp
theorem modsR_pos {t : List (List Int)} {m : Int} (h : codeMs t m = 0) : Grp t ∧ 0 < (modsR t m).length := by
  unfold codeMs at h
  split at h
  · rename_i hg
    split at h
    · rename_i hm
      have h0 := dfsM_get hg (Mod_ones hg hm)
      refine ⟨hg, ?_⟩
      unfold modsR
      rw [if_pos ⟨hg, hm⟩, withM_len]
      exact List.length_pos_of_mem h0
    · omega
  · omega
theorem modsR_zero {t : List (List Int)} {m : Int} (h : codeMs t m ≠ 0) : modsR t m = [] := by
  unfold modsR
  rw [if_neg]
  intro q
  apply h
  unfold codeMs
  rw [if_pos q.1, if_pos q.2]
end Go.Proofs.YtcjhojdlfnpgjaaGreatDoor
