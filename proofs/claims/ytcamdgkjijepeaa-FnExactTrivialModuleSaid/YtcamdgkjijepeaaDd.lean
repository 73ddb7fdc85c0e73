/- Contracts: FixedNumbers, DifferenceNumbers. -/
import Derived.Test.YtcamdgkjijepeaaDc
namespace Go.Proofs.Ytcamdgkjijepeaa
open Go.RowKit
set_option linter.unusedVariables false
set_option linter.unusedSimpArgs false
set_option maxRecDepth 100000

theorem mod_back {M v k : Nat} (hk : k < M) : ((v + 1) * k) % M = k ↔ M ∣ v * k := by
  rw [Nat.succ_mul]
  constructor
  · intro h
    have := Nat.div_add_mod (v * k + k) M
    rw [h] at this
    exact ⟨(v * k + k) / M, by omega⟩
  · rintro ⟨q, hq⟩
    rw [hq, Nat.mul_add_mod, Nat.mod_eq_of_lt hk]
theorem fixed_iff {M k : Nat} {l : List Int} (hM : 2 ≤ M) (hk : k < M) (hu : ∀ u ∈ l, 1 ≤ u) : (∀ u ∈ l, (u * (k : Int)).tmod (M : Int) = k) ↔ k % (M / stepN M l) = 0 := by
  obtain ⟨hd1, hd2⟩ := stepN_dvd (m := (M : Int)) l
  rw [Int.toNat_natCast] at hd1
  have hpos := stepN_pos (m := (M : Int)) (by omega) l
  obtain ⟨q, hq⟩ := hd1
  have hdiv : M / stepN M l = q := by
    conv => lhs; lhs; rw [hq]
    exact Nat.mul_div_cancel_left _ hpos
  rw [hdiv]
  have key : ∀ u ∈ l, (u * (k : Int)).tmod (M : Int) = k ↔ M ∣ (u - 1).toNat * k := by
    intro u hum
    obtain ⟨v, rfl⟩ : ∃ v : Nat, u = v + 1 := ⟨(u - 1).toNat, by have := hu u hum; omega⟩
    rw [show ((v : Int) + 1 - 1).toNat = v by omega, ← mod_back hk]
    rw [show ((v : Int) + 1) * (k : Int) = (((v + 1) * k : Nat) : Int) by push_cast; rfl]
    rw [show ((((v + 1) * k : Nat) : Int)).tmod (M : Int) = ((((v + 1) * k) % M : Nat) : Int) from rfl]
    omega
  constructor
  · intro h
    have h1 : M ∣ stepN M l * k := dvd_step (m := (M : Int)) l (by rw [Int.toNat_natCast]; exact Nat.dvd_mul_right _ _) fun u hum => (key u hum).1 (h u hum)
    apply Nat.mod_eq_zero_of_dvd
    have h1' : stepN M l * q ∣ stepN M l * k := by rw [← hq]; exact h1
    exact Nat.dvd_of_mul_dvd_mul_left hpos h1'
  · intro h u hum
    refine (key u hum).2 ?_
    have h1 := Nat.dvd_of_mod_eq_zero h
    refine Nat.dvd_trans (?_ : M ∣ stepN M l * k) (Nat.mul_dvd_mul_right (hd2 u hum) k)
    have : stepN M l * q ∣ stepN M l * k := Nat.mul_dvd_mul_left _ h1
    rwa [← hq] at this

def nofix (m x u : Int) : Bool := (u * x).tmod m != x
def fixL (t : List (List Int)) (m : Int) (l : List Int) : List Int := if codeM t [(m, l)] = 0 then (cnt m.toNat).filter (isMul (m.toNat / stepN m l)) else []
def diffL (t : List (List Int)) (m : Int) (l : List Int) : List Int := if codeM t [(m, l)] = 0 then (cnt m.toNat).filter (isMul (stepN m l)) else []
theorem fixL_ok (t : List (List Int)) (m : Int) (l : List Int) : (fixL t m l).length ≤ 1048576 := by
  unfold fixL
  split
  · rename_i h
    have hm := (codeM1_ok h).2.1
    have := filter_cnt_le (isMul (m.toNat / stepN m l)) m.toNat
    omega
  · simp
theorem diffL_ok (t : List (List Int)) (m : Int) (l : List Int) : (diffL t m l).length ≤ 1048576 := by
  unfold diffL
  split
  · rename_i h
    have hm := (codeM1_ok h).2.1
    have := filter_cnt_le (isMul (stepN m l)) m.toNat
    omega
  · simp
theorem units_ge {t : List (List Int)} {m : Int} {l : List Int} (h : Mod t m l) : ∀ u ∈ l, 1 ≤ u ∧ u < m := by
  intro u hu
  obtain ⟨j, hj⟩ := List.getElem?_of_mem hu
  obtain ⟨h1, h2, _⟩ := h.2.2.1 j (List.getElem?_eq_some_iff.1 hj).1
  rw [List.getD_eq_getElem?_getD, hj, Option.getD_some] at h1 h2
  exact ⟨h1, h2⟩
theorem filter_same {p q : Int → Bool} {n : Nat} (h : ∀ k : Nat, k < n → p k = q k) : (cnt n).filter p = (cnt n).filter q := by
  refine List.filter_congr fun x hx => ?_
  obtain ⟨k, hk, rfl⟩ : ∃ k : Nat, k < n ∧ x = k := by
    unfold cnt upTo at hx
    obtain ⟨k, hk, rfl⟩ := List.mem_map.1 hx
    exact ⟨k, List.mem_range.1 hk, rfl⟩
  exact h k hk
theorem Fixed11_spec (m : Int) (l : List Int) (u x : Int) (hm : 2 ≤ m ∧ m ≤ 12) (hu : 1 ≤ u ∧ u < m) (hx : 0 ≤ x ∧ x < m) : Spec Try.prog 64 [.v (.int .i64 u), .box [.v (.int .i64 x)], .box [.v (.int .i64 m), .rd (I l)]] (.v (.bool (nofix m x u))) [] := by
  have k1 : 0 ≤ u * x := Int.mul_nonneg (by omega) hx.1
  have k2 : u * x ≤ 12 * 12 := Int.mul_le_mul (by omega) (by omega) hx.1 (by omega)
  refine Spec.of_code T_ok Try.func64 rfl Try.ntmps64 Try.call64 (Nat.le_of_ble_eq_true rfl) rfl rfl (CodeV_sound T_ok (by kernel_rfl) rfl ?_)
  simp only [Try.results64, go_sem, Nat.reduceMul, Nat.reduceLeDiff, Nat.reduceLT, reduceIte, reduceCtorEq, Nat.reduceEqDiff, Nat.reduceSub, Nat.reduceAdd]
  refine Here.draw T_ok mixed_ok (by kernel_rfl) ?_
  simp only [Try.results64, go_sem, Nat.reduceMul, Nat.reduceLeDiff, Nat.reduceLT, reduceIte, reduceCtorEq, Nat.reduceEqDiff, Nat.reduceSub, Nat.reduceAdd]
  exact ⟨by unfold InR; omega, by omega, rfl⟩
theorem Fixed1_spec (m : Int) (l : List Int) (x : Int) (hl : l.length ≤ 4096) (hm : 2 ≤ m ∧ m ≤ 12) (hu : ∀ u ∈ l, 1 ≤ u ∧ u < m) (hx : 0 ≤ x ∧ x < m) : Spec Try.prog 62 [.v (.int .i64 x), .box [.v (.int .i64 m), .rd (I l)]] (.v (.bool (l.any (nofix m x)))) [] := by
  refine Spec.of_code T_ok Try.func62 rfl Try.ntmps62 Try.call62 (Nat.le_of_ble_eq_true rfl) rfl rfl (CodeV_sound T_ok (by kernel_rfl) rfl ?_)
  simp only [Try.results62, go_sem, Nat.reduceMul, Nat.reduceLeDiff, Nat.reduceLT, reduceIte, reduceCtorEq, Nat.reduceEqDiff, Nat.reduceSub, Nat.reduceAdd]
  refine HereO.call T_ok rfl rfl (ContainsFunc_spec l 64 [.box [.v (.int .i64 x)], .box [.v (.int .i64 m), .rd (I l)]] (Fix.cons (Fix.box (Fix.v _)) (Fix.box (Fix.cons (Fix.v _) (Fix.rd _)))) (nofix m x) (fun j hj => Fixed11_spec m l _ x hm (hu _ (by rw [List.getD_eq_getElem?_getD, List.getElem?_eq_getElem hj, Option.getD_some]; exact List.getElem_mem _)) hx) (by omega)) (by simp only [go_sem, Nat.reduceMul, Nat.reduceLeDiff, Nat.reduceLT, reduceIte, reduceCtorEq, Nat.reduceEqDiff, Nat.reduceSub, Nat.reduceAdd, List.toList_toArray]) rfl ?_
  simp only [Try.results62, go_sem, Nat.reduceMul, Nat.reduceLeDiff, Nat.reduceLT, reduceIte, reduceCtorEq, Nat.reduceEqDiff, Nat.reduceSub, Nat.reduceAdd]
theorem implFixedNumbers (t : List (List Int)) (m : Int) (l : List Int) : Spec Try.prog 20 [.agg [.rds (II t)], .agg [.v (.int .i64 m), .rd (I l)]] (.tup [.own 0, .v (.int .i64 (codeM t [(m, l)]))]) [.row 2 (I (fixL t m l))] := by
  refine Spec.of_codeC T_ok Try.func20 rfl Try.ntmps20 Try.call20 (Nat.le_of_ble_eq_true rfl) rfl rfl (CodeV_sound T_ok (by kernel_rfl) rfl ?_)
  simp only [Try.results20, go_sem, Nat.reduceMul, Nat.reduceLeDiff, Nat.reduceLT, reduceIte, reduceCtorEq, Nat.reduceEqDiff, Nat.reduceSub, Nat.reduceAdd]
  refine HereO.opP T_ok (OpP.buildA sl2_94 (MM [(m, l)]) rfl rfl (by decide) (by decide) rfl rfl) ?_
  simp only [Try.results20, go_sem, Nat.reduceMul, Nat.reduceLeDiff, Nat.reduceLT, reduceIte, reduceCtorEq, Nat.reduceEqDiff, Nat.reduceSub, Nat.reduceAdd]
  refine HereO.call T_ok rfl rfl (moduleCode_spec t [(m, l)] (by simp) (by simp)) (by simp only [go_sem, Nat.reduceMul, Nat.reduceLeDiff, Nat.reduceLT, reduceIte, reduceCtorEq, Nat.reduceEqDiff, Nat.reduceSub, Nat.reduceAdd, List.toList_toArray]) rfl ?_
  simp only [Try.results20, go_sem, Nat.reduceMul, Nat.reduceLeDiff, Nat.reduceLT, reduceIte, reduceCtorEq, Nat.reduceEqDiff, Nat.reduceSub, Nat.reduceAdd]
  refine ⟨fun h => ?_, fun h => ?_⟩
  · refine RetC.conv (Conv.nilAt 4 150 (.row 2 []) (by decide) rfl) (RetC.of (RetT.one 150 (by simp only [Try.results20, go_sem, Nat.reduceMul, Nat.reduceLeDiff, Nat.reduceLT, reduceIte, reduceCtorEq, Nat.reduceEqDiff, Nat.reduceSub, Nat.reduceAdd]; rfl) (by simp only [Try.results20, go_sem, Nat.reduceMul, Nat.reduceLeDiff, Nat.reduceLT, reduceIte, reduceCtorEq, Nat.reduceEqDiff, Nat.reduceSub, Nat.reduceAdd]) (by simp only [Try.results20, go_sem, Nat.reduceMul, Nat.reduceLeDiff, Nat.reduceLT, reduceIte, reduceCtorEq, Nat.reduceEqDiff, Nat.reduceSub, Nat.reduceAdd]; simp [fixL, h, I])))
  · obtain ⟨hg, hm⟩ := codeM1_ok h
    have h8 := hg.2.1
    have hl := hm.2.1
    have hm12 := hm.1
    have hug := units_ge hm
    obtain ⟨M, rfl⟩ : ∃ M : Nat, m = M := ⟨m.toNat, by omega⟩
    refine HereO.callOwn T_ok 16 rfl rfl (counting_spec M (by omega)) (by simp only [go_sem, Nat.reduceMul, Nat.reduceLeDiff, Nat.reduceLT, reduceIte, reduceCtorEq, Nat.reduceEqDiff, Nat.reduceSub, Nat.reduceAdd, List.toList_toArray]) rfl (by simp) rfl ?_
    simp only [Try.results20, go_sem, Nat.reduceMul, Nat.reduceLeDiff, Nat.reduceLT, reduceIte, reduceCtorEq, Nat.reduceEqDiff, Nat.reduceSub, Nat.reduceAdd]
    have hdel := DeleteFunc_spec (cnt M) 62 [.box [.v (.int .i64 M), .rd (I l)]] (Fix.box (Fix.cons (Fix.v _) (Fix.rd _))) (fun x => l.any (nofix M x)) (fun j hj => by
      rw [cnt_get hj]
      rw [cnt_len] at hj
      exact Fixed1_spec M l j (by omega) hm12 hug ⟨by omega, by omega⟩) (by rw [cnt_len]; omega)
    have hf : (cnt M).filter (fun x => !l.any (nofix M x)) = fixL t M l := by
      unfold fixL
      rw [if_pos h, Int.toNat_natCast]
      refine filter_same fun k hk => ?_
      have := fixed_iff (M := M) (k := k) (l := l) (by omega) hk fun u hu => (hug u hu).1
      rw [Bool.eq_iff_iff]
      simp only [isMul, Int.toNat_natCast, beq_iff_eq, Bool.not_eq_true', List.any_eq_false, nofix, bne_iff_ne, ne_eq, Decidable.not_not]
      exact this
    rw [hf] at hdel
    refine HereO.callM T_ok 18 [1256] rfl rfl hdel (by simp only [go_sem, Nat.reduceMul, Nat.reduceLeDiff, Nat.reduceLT, reduceIte, reduceCtorEq, Nat.reduceEqDiff, Nat.reduceSub, Nat.reduceAdd, List.toList_toArray, ↓reduceIte]) rfl (by decide) (by decide) rfl rfl rfl (Nat.le_of_ble_eq_true rfl) ?_
    simp only [Try.results20, go_sem, Nat.reduceMul, Nat.reduceLeDiff, Nat.reduceLT, reduceIte, reduceCtorEq, Nat.reduceEqDiff, Nat.reduceSub, Nat.reduceAdd]
    refine RetC.of (RetT.one 1289 (by simp only [Try.results20, go_sem, Nat.reduceMul, Nat.reduceLeDiff, Nat.reduceLT, reduceIte, reduceCtorEq, Nat.reduceEqDiff, Nat.reduceSub, Nat.reduceAdd]; rfl) (by simp only [Try.results20, go_sem, Nat.reduceMul, Nat.reduceLeDiff, Nat.reduceLT, reduceIte, reduceCtorEq, Nat.reduceEqDiff, Nat.reduceSub, Nat.reduceAdd]; simp [h]) (by simp only [Try.results20, go_sem, Nat.reduceMul, Nat.reduceLeDiff, Nat.reduceLT, reduceIte, reduceCtorEq, Nat.reduceEqDiff, Nat.reduceSub, Nat.reduceAdd]))
theorem specFixedNumbers (t : List (List Int)) (m : Int) (l : List Int) : Spec Try.prog 17 [.agg [.rds (II t)], .agg [.v (.int .i64 m), .rd (I l)]] (.tup [.own 0, .v (.int .i64 (codeM t [(m, l)]))]) [.row 2 (I (fixL t m l))] := by
  refine Spec.of_codeC T_ok Try.func17 rfl Try.ntmps17 Try.call17 (Nat.le_of_ble_eq_true rfl) rfl rfl (CodeV_sound T_ok (by kernel_rfl) rfl ?_)
  simp only [Try.results17, go_sem, Nat.reduceMul, Nat.reduceLeDiff, Nat.reduceLT, reduceIte, reduceCtorEq, Nat.reduceEqDiff, Nat.reduceSub, Nat.reduceAdd]
  refine HereO.opP T_ok (OpP.buildA sl2_94 (MM [(m, l)]) rfl rfl (by decide) (by decide) rfl rfl) ?_
  simp only [Try.results17, go_sem, Nat.reduceMul, Nat.reduceLeDiff, Nat.reduceLT, reduceIte, reduceCtorEq, Nat.reduceEqDiff, Nat.reduceSub, Nat.reduceAdd]
  refine HereO.call T_ok rfl rfl (l02Code_spec t [(m, l)] (by simp)) (by simp only [go_sem, Nat.reduceMul, Nat.reduceLeDiff, Nat.reduceLT, reduceIte, reduceCtorEq, Nat.reduceEqDiff, Nat.reduceSub, Nat.reduceAdd, List.toList_toArray]) rfl ?_
  simp only [Try.results17, go_sem, Nat.reduceMul, Nat.reduceLeDiff, Nat.reduceLT, reduceIte, reduceCtorEq, Nat.reduceEqDiff, Nat.reduceSub, Nat.reduceAdd]
  refine ⟨fun h => ?_, fun h => ?_⟩
  · refine RetC.conv (Conv.nilAt 4 150 (.row 2 []) (by decide) rfl) (RetC.of (RetT.one 150 (by simp only [Try.results17, go_sem, Nat.reduceMul, Nat.reduceLeDiff, Nat.reduceLT, reduceIte, reduceCtorEq, Nat.reduceEqDiff, Nat.reduceSub, Nat.reduceAdd]; rfl) (by simp only [Try.results17, go_sem, Nat.reduceMul, Nat.reduceLeDiff, Nat.reduceLT, reduceIte, reduceCtorEq, Nat.reduceEqDiff, Nat.reduceSub, Nat.reduceAdd]) (by simp only [Try.results17, go_sem, Nat.reduceMul, Nat.reduceLeDiff, Nat.reduceLT, reduceIte, reduceCtorEq, Nat.reduceEqDiff, Nat.reduceSub, Nat.reduceAdd]; simp [fixL, h, I])))
  · obtain ⟨hg, hm⟩ := codeM1_ok h
    have hm12 := hm.1
    have hug := units_ge hm
    obtain ⟨M, rfl⟩ : ∃ M : Nat, m = M := ⟨m.toNat, by omega⟩
    have hpos := stepN_pos hm12.1 l
    have hle := stepN_le hm12.1 l
    rw [Int.toNat_natCast] at hle
    have hq : 1 ≤ M / stepN M l := Nat.div_pos hle hpos
    have hq2 : M / stepN M l ≤ M := Nat.div_le_self _ _
    refine Here.drawB T_ok [⟨7, 107, 2, I (fixL t M l), [8], false⟩] mixed_ok (by kernel_rfl) (by kernel_rfl) (by simp) (by simp) ?_
    simp only [Try.results17, go_sem, Nat.reduceMul, Nat.reduceLeDiff, Nat.reduceLT, reduceIte, reduceCtorEq, Nat.reduceEqDiff, Nat.reduceSub, Nat.reduceAdd]
    refine HereN.op (OpP.call' rfl rfl (l02Step_spec M l (by have := hm.2.1; have := hg.2.1; omega) hm12 hm.2.2.1) (by simp only [go_sem, Nat.reduceMul, Nat.reduceLeDiff, Nat.reduceLT, reduceIte, reduceCtorEq, Nat.reduceEqDiff, Nat.reduceSub, Nat.reduceAdd, List.toList_toArray]) rfl) (by simp only [Try.results17, go_sem, Nat.reduceMul, Nat.reduceLeDiff, Nat.reduceLT, reduceIte, reduceCtorEq, Nat.reduceEqDiff, Nat.reduceSub, Nat.reduceAdd]) ?_
    simp only [Try.results17, go_sem, Nat.reduceMul, Nat.reduceLeDiff, Nat.reduceLT, reduceIte, reduceCtorEq, Nat.reduceEqDiff, Nat.reduceSub, Nat.reduceAdd]
    have e1 : (M : Int).tdiv (stepN M l : Int) = ((M / stepN M l : Nat) : Int) := rfl
    refine ⟨⟨by omega, by rw [e1]; unfold InR; omega⟩, ?_⟩
    have hmul := l02Multiples_spec (M / stepN M l) M hq (by omega) (by omega)
    rw [show (cnt M).filter (isMul (M / stepN M l)) = fixL t M l from by unfold fixL; rw [if_pos h, Int.toNat_natCast]] at hmul
    refine HereN.birth (List.mem_cons_self ..) rfl rfl (OpN.call rfl rfl hmul (by simp only [go_sem, Nat.reduceMul, Nat.reduceLeDiff, Nat.reduceLT, reduceIte, reduceCtorEq, Nat.reduceEqDiff, Nat.reduceSub, Nat.reduceAdd]; rfl)) (by simp only [Try.results17, go_sem, Nat.reduceMul, Nat.reduceLeDiff, Nat.reduceLT, reduceIte, reduceCtorEq, Nat.reduceEqDiff, Nat.reduceSub, Nat.reduceAdd]) ?_
    simp only [Try.results17, go_sem, Nat.reduceMul, Nat.reduceLeDiff, Nat.reduceLT, reduceIte, reduceCtorEq, Nat.reduceEqDiff, Nat.reduceSub, Nat.reduceAdd]
    refine HereE.of (Conv.born 4 (id := 107) (e := 2) (vs := I (fixL t M l)) rfl (by rw [I_len]; rfl)) ?_
    simp only [Try.results17, go_sem, Nat.reduceMul, Nat.reduceLeDiff, Nat.reduceLT, reduceIte, reduceCtorEq, Nat.reduceEqDiff, Nat.reduceSub, Nat.reduceAdd]
    refine RetC.of (RetT.one 107 (by simp only [Try.results17, go_sem, Nat.reduceMul, Nat.reduceLeDiff, Nat.reduceLT, reduceIte, reduceCtorEq, Nat.reduceEqDiff, Nat.reduceSub, Nat.reduceAdd]; rfl) (by simp only [Try.results17, go_sem, Nat.reduceMul, Nat.reduceLeDiff, Nat.reduceLT, reduceIte, reduceCtorEq, Nat.reduceEqDiff, Nat.reduceSub, Nat.reduceAdd]; simp [h]) (by simp only [Try.results17, go_sem, Nat.reduceMul, Nat.reduceLeDiff, Nat.reduceLT, reduceIte, reduceCtorEq, Nat.reduceEqDiff, Nat.reduceSub, Nat.reduceAdd]))

theorem Diff1_spec (x d : Nat) (hd : 1 ≤ d) : Spec Try.prog 68 [.v (.int .i64 x), .box [.v (.int .i64 d)]] (.v (.bool (!isMul d x))) [] := by
  refine Spec.of_code T_ok Try.func68 rfl Try.ntmps68 Try.call68 (Nat.le_of_ble_eq_true rfl) rfl rfl (CodeV_sound T_ok (by kernel_rfl) rfl ?_)
  simp only [Try.results68, go_sem, Nat.reduceMul, Nat.reduceLeDiff, Nat.reduceLT, reduceIte, reduceCtorEq, Nat.reduceEqDiff, Nat.reduceSub, Nat.reduceAdd]
  refine ⟨by omega, ?_⟩
  rw [show (x : Int).tmod (d : Int) = ((x % d : Nat) : Int) from rfl, Bool.eq_iff_iff]
  simp [isMul]
  omega
theorem implDifferenceNumbers (t : List (List Int)) (m : Int) (l : List Int) : Spec Try.prog 29 [.agg [.rds (II t)], .agg [.v (.int .i64 m), .rd (I l)]] (.tup [.own 0, .v (.int .i64 (codeM t [(m, l)]))]) [.row 2 (I (diffL t m l))] := by
  refine Spec.of_codeC T_ok Try.func29 rfl Try.ntmps29 Try.call29 (Nat.le_of_ble_eq_true rfl) rfl rfl (CodeV_sound T_ok (by kernel_rfl) rfl ?_)
  simp only [Try.results29, go_sem, Nat.reduceMul, Nat.reduceLeDiff, Nat.reduceLT, reduceIte, reduceCtorEq, Nat.reduceEqDiff, Nat.reduceSub, Nat.reduceAdd]
  refine HereO.opP T_ok (OpP.buildA sl2_94 (MM [(m, l)]) rfl rfl (by decide) (by decide) rfl rfl) ?_
  simp only [Try.results29, go_sem, Nat.reduceMul, Nat.reduceLeDiff, Nat.reduceLT, reduceIte, reduceCtorEq, Nat.reduceEqDiff, Nat.reduceSub, Nat.reduceAdd]
  refine HereO.call T_ok rfl rfl (moduleCode_spec t [(m, l)] (by simp) (by simp)) (by simp only [go_sem, Nat.reduceMul, Nat.reduceLeDiff, Nat.reduceLT, reduceIte, reduceCtorEq, Nat.reduceEqDiff, Nat.reduceSub, Nat.reduceAdd, List.toList_toArray]) rfl ?_
  simp only [Try.results29, go_sem, Nat.reduceMul, Nat.reduceLeDiff, Nat.reduceLT, reduceIte, reduceCtorEq, Nat.reduceEqDiff, Nat.reduceSub, Nat.reduceAdd]
  refine ⟨fun h => ?_, fun h => ?_⟩
  · refine RetC.conv (Conv.nilAt 4 150 (.row 2 []) (by decide) rfl) (RetC.of (RetT.one 150 (by simp only [Try.results29, go_sem, Nat.reduceMul, Nat.reduceLeDiff, Nat.reduceLT, reduceIte, reduceCtorEq, Nat.reduceEqDiff, Nat.reduceSub, Nat.reduceAdd]; rfl) (by simp only [Try.results29, go_sem, Nat.reduceMul, Nat.reduceLeDiff, Nat.reduceLT, reduceIte, reduceCtorEq, Nat.reduceEqDiff, Nat.reduceSub, Nat.reduceAdd]) (by simp only [Try.results29, go_sem, Nat.reduceMul, Nat.reduceLeDiff, Nat.reduceLT, reduceIte, reduceCtorEq, Nat.reduceEqDiff, Nat.reduceSub, Nat.reduceAdd]; simp [diffL, h, I])))
  · obtain ⟨hg, hm⟩ := codeM1_ok h
    have h8 := hg.2.1
    have hl := hm.2.1
    have hm12 := hm.1
    have hug := units_ge hm
    obtain ⟨M, rfl⟩ : ∃ M : Nat, m = M := ⟨m.toNat, by omega⟩
    refine HereO.alloc T_ok 107 rfl rfl (by decide) ?_
    simp only [Try.results29, go_sem, Nat.reduceMul, Nat.reduceLeDiff, Nat.reduceLT, reduceIte, reduceCtorEq, Nat.reduceEqDiff, Nat.reduceSub, Nat.reduceAdd]
    refine HereO.store T_ok rfl (by simp only [go_sem, Nat.reduceMul, Nat.reduceLeDiff, Nat.reduceLT, reduceIte, reduceCtorEq, Nat.reduceEqDiff, Nat.reduceSub, Nat.reduceAdd] <;> rfl) (by simp only [go_sem, Nat.reduceMul, Nat.reduceLeDiff, Nat.reduceLT, reduceIte, reduceCtorEq, Nat.reduceEqDiff, Nat.reduceSub, Nat.reduceAdd] <;> rfl) rfl (by simp only [go_sem, Nat.reduceMul, Nat.reduceLeDiff, Nat.reduceLT, reduceIte, reduceCtorEq, Nat.reduceEqDiff, Nat.reduceSub, Nat.reduceAdd] <;> rfl) rfl rfl (by decide) ?_
    simp only [Try.results29, go_sem, Nat.reduceMul, Nat.reduceLeDiff, Nat.reduceLT, reduceIte, reduceCtorEq, Nat.reduceEqDiff, Nat.reduceSub, Nat.reduceAdd]
    refine Here.loopV T_ok (fun k => k ≤ l.length) (fun k => l.length - k) (fun k => [(3, .box [.v (.int .i64 M), .rd (I l)]), (5, .v (.int .i64 0)), (7, .ptr 107 0), (20, .rd (I l)), (21, .v (.int .i64 l.length)), (22, .v (.int .i64 k))]) (fun k => [(107, .cells 2 [.v (.int .i64 (stepN M (l.take k)))])]) 0 (by simp) (by simp only [Try.results29, go_sem, Nat.reduceMul, Nat.reduceLeDiff, Nat.reduceLT, reduceIte, reduceCtorEq, Nat.reduceEqDiff, Nat.reduceSub, Nat.reduceAdd]; rfl) (by simp only [Try.results29, go_sem, Nat.reduceMul, Nat.reduceLeDiff, Nat.reduceLT, reduceIte, reduceCtorEq, Nat.reduceEqDiff, Nat.reduceSub, Nat.reduceAdd]; simp [stepN]) ?_
    intro k hk
    simp only [Try.results29, go_sem, Nat.reduceMul, Nat.reduceLeDiff, Nat.reduceLT, reduceIte, reduceCtorEq, Nat.reduceEqDiff, Nat.reduceSub, Nat.reduceAdd]
    have hle := stepN_le hm12.1 (l.take k)
    refine ⟨fun h2 => ?_, fun h2 => ?_⟩
    · obtain ⟨u1, u2⟩ := hug (l.getD k 0) (by rw [List.getD_eq_getElem?_getD, List.getElem?_eq_getElem (by omega), Option.getD_some]; exact List.getElem_mem _)
      refine ⟨by omega, by unfold InR; omega, ?_⟩
      have e : l.getD k 0 - 1 = (((l.getD k 0 - 1).toNat : Nat) : Int) := by omega
      refine HereO.call T_ok rfl rfl (gcd_spec (stepN M (l.take k)) (l.getD k 0 - 1).toNat (by omega) (by omega)) (by simp only [go_sem, Nat.reduceMul, Nat.reduceLeDiff, Nat.reduceLT, reduceIte, reduceCtorEq, Nat.reduceEqDiff, Nat.reduceSub, Nat.reduceAdd]; rw [← e]) rfl ?_
      simp only [Try.results29, go_sem, Nat.reduceMul, Nat.reduceLeDiff, Nat.reduceLT, reduceIte, reduceCtorEq, Nat.reduceEqDiff, Nat.reduceSub, Nat.reduceAdd]
      refine HereO.store T_ok rfl (by simp only [go_sem, Nat.reduceMul, Nat.reduceLeDiff, Nat.reduceLT, reduceIte, reduceCtorEq, Nat.reduceEqDiff, Nat.reduceSub, Nat.reduceAdd] <;> rfl) (by simp only [go_sem, Nat.reduceMul, Nat.reduceLeDiff, Nat.reduceLT, reduceIte, reduceCtorEq, Nat.reduceEqDiff, Nat.reduceSub, Nat.reduceAdd] <;> rfl) rfl (by simp only [go_sem, Nat.reduceMul, Nat.reduceLeDiff, Nat.reduceLT, reduceIte, reduceCtorEq, Nat.reduceEqDiff, Nat.reduceSub, Nat.reduceAdd] <;> rfl) rfl rfl (Nat.le_of_ble_eq_true rfl) ?_
      simp only [Try.results29, go_sem, Nat.reduceMul, Nat.reduceLeDiff, Nat.reduceLT, reduceIte, reduceCtorEq, Nat.reduceEqDiff, Nat.reduceSub, Nat.reduceAdd]
      refine ⟨by unfold InR; omega, k + 1, by omega, by omega, by simp, by rw [stepN_take (by omega)]⟩
    · have : k = l.length := by omega
      subst this
      rw [List.take_length]
      refine HereO.callOwn T_ok 16 rfl rfl (counting_spec M (by omega)) (by simp only [go_sem, Nat.reduceMul, Nat.reduceLeDiff, Nat.reduceLT, reduceIte, reduceCtorEq, Nat.reduceEqDiff, Nat.reduceSub, Nat.reduceAdd, List.toList_toArray]) rfl (by simp) rfl ?_
      simp only [Try.results29, go_sem, Nat.reduceMul, Nat.reduceLeDiff, Nat.reduceLT, reduceIte, reduceCtorEq, Nat.reduceEqDiff, Nat.reduceSub, Nat.reduceAdd]
      have hpos := stepN_pos hm12.1 l
      have hdel := DeleteFunc_spec (cnt M) 68 [.box [.v (.int .i64 (stepN M l))]] (Fix.box (Fix.v _)) (fun x => !isMul (stepN M l) x) (fun j hj => by
        rw [cnt_get hj]
        exact Diff1_spec j (stepN M l) hpos) (by rw [cnt_len]; omega)
      simp only [Bool.not_not] at hdel
      have hf : (cnt M).filter (fun x => isMul (stepN M l) x) = diffL t M l := by unfold diffL; rw [if_pos h, Int.toNat_natCast]
      rw [hf] at hdel
      refine HereO.callM T_ok 18 [1256] rfl rfl hdel (by simp only [go_sem, Nat.reduceMul, Nat.reduceLeDiff, Nat.reduceLT, reduceIte, reduceCtorEq, Nat.reduceEqDiff, Nat.reduceSub, Nat.reduceAdd, List.toList_toArray, ↓reduceIte]) rfl (by decide) (by decide) rfl rfl rfl (Nat.le_of_ble_eq_true rfl) ?_
      simp only [Try.results29, go_sem, Nat.reduceMul, Nat.reduceLeDiff, Nat.reduceLT, reduceIte, reduceCtorEq, Nat.reduceEqDiff, Nat.reduceSub, Nat.reduceAdd]
      refine RetC.of (RetT.one 1289 (by simp only [Try.results29, go_sem, Nat.reduceMul, Nat.reduceLeDiff, Nat.reduceLT, reduceIte, reduceCtorEq, Nat.reduceEqDiff, Nat.reduceSub, Nat.reduceAdd]; rfl) (by simp only [Try.results29, go_sem, Nat.reduceMul, Nat.reduceLeDiff, Nat.reduceLT, reduceIte, reduceCtorEq, Nat.reduceEqDiff, Nat.reduceSub, Nat.reduceAdd]; simp [h]) (by simp only [Try.results29, go_sem, Nat.reduceMul, Nat.reduceLeDiff, Nat.reduceLT, reduceIte, reduceCtorEq, Nat.reduceEqDiff, Nat.reduceSub, Nat.reduceAdd]))
theorem specDifferenceNumbers (t : List (List Int)) (m : Int) (l : List Int) : Spec Try.prog 28 [.agg [.rds (II t)], .agg [.v (.int .i64 m), .rd (I l)]] (.tup [.own 0, .v (.int .i64 (codeM t [(m, l)]))]) [.row 2 (I (diffL t m l))] := by
  refine Spec.of_codeC T_ok Try.func28 rfl Try.ntmps28 Try.call28 (Nat.le_of_ble_eq_true rfl) rfl rfl (CodeV_sound T_ok (by kernel_rfl) rfl ?_)
  simp only [Try.results28, go_sem, Nat.reduceMul, Nat.reduceLeDiff, Nat.reduceLT, reduceIte, reduceCtorEq, Nat.reduceEqDiff, Nat.reduceSub, Nat.reduceAdd]
  refine HereO.opP T_ok (OpP.buildA sl2_94 (MM [(m, l)]) rfl rfl (by decide) (by decide) rfl rfl) ?_
  simp only [Try.results28, go_sem, Nat.reduceMul, Nat.reduceLeDiff, Nat.reduceLT, reduceIte, reduceCtorEq, Nat.reduceEqDiff, Nat.reduceSub, Nat.reduceAdd]
  refine HereO.call T_ok rfl rfl (l02Code_spec t [(m, l)] (by simp)) (by simp only [go_sem, Nat.reduceMul, Nat.reduceLeDiff, Nat.reduceLT, reduceIte, reduceCtorEq, Nat.reduceEqDiff, Nat.reduceSub, Nat.reduceAdd, List.toList_toArray]) rfl ?_
  simp only [Try.results28, go_sem, Nat.reduceMul, Nat.reduceLeDiff, Nat.reduceLT, reduceIte, reduceCtorEq, Nat.reduceEqDiff, Nat.reduceSub, Nat.reduceAdd]
  refine ⟨fun h => ?_, fun h => ?_⟩
  · refine RetC.conv (Conv.nilAt 4 150 (.row 2 []) (by decide) rfl) (RetC.of (RetT.one 150 (by simp only [Try.results28, go_sem, Nat.reduceMul, Nat.reduceLeDiff, Nat.reduceLT, reduceIte, reduceCtorEq, Nat.reduceEqDiff, Nat.reduceSub, Nat.reduceAdd]; rfl) (by simp only [Try.results28, go_sem, Nat.reduceMul, Nat.reduceLeDiff, Nat.reduceLT, reduceIte, reduceCtorEq, Nat.reduceEqDiff, Nat.reduceSub, Nat.reduceAdd]) (by simp only [Try.results28, go_sem, Nat.reduceMul, Nat.reduceLeDiff, Nat.reduceLT, reduceIte, reduceCtorEq, Nat.reduceEqDiff, Nat.reduceSub, Nat.reduceAdd]; simp [diffL, h, I])))
  · obtain ⟨hg, hm⟩ := codeM1_ok h
    have hm12 := hm.1
    obtain ⟨M, rfl⟩ : ∃ M : Nat, m = M := ⟨m.toNat, by omega⟩
    have hpos := stepN_pos hm12.1 l
    have hle := stepN_le hm12.1 l
    rw [Int.toNat_natCast] at hle
    refine Here.drawB T_ok [⟨4, 107, 2, I (diffL t M l), [5], false⟩] mixed_ok (by kernel_rfl) (by kernel_rfl) (by simp) (by simp) ?_
    simp only [Try.results28, go_sem, Nat.reduceMul, Nat.reduceLeDiff, Nat.reduceLT, reduceIte, reduceCtorEq, Nat.reduceEqDiff, Nat.reduceSub, Nat.reduceAdd]
    refine HereN.op (OpP.call' rfl rfl (l02Step_spec M l (by have := hm.2.1; have := hg.2.1; omega) hm12 hm.2.2.1) (by simp only [go_sem, Nat.reduceMul, Nat.reduceLeDiff, Nat.reduceLT, reduceIte, reduceCtorEq, Nat.reduceEqDiff, Nat.reduceSub, Nat.reduceAdd, List.toList_toArray]) rfl) (by simp only [Try.results28, go_sem, Nat.reduceMul, Nat.reduceLeDiff, Nat.reduceLT, reduceIte, reduceCtorEq, Nat.reduceEqDiff, Nat.reduceSub, Nat.reduceAdd]) ?_
    simp only [Try.results28, go_sem, Nat.reduceMul, Nat.reduceLeDiff, Nat.reduceLT, reduceIte, reduceCtorEq, Nat.reduceEqDiff, Nat.reduceSub, Nat.reduceAdd]
    have hmul := l02Multiples_spec (stepN M l) M hpos (by omega) (by omega)
    rw [show (cnt M).filter (isMul (stepN M l)) = diffL t M l from by unfold diffL; rw [if_pos h, Int.toNat_natCast]] at hmul
    refine HereN.birth (List.mem_cons_self ..) rfl rfl (OpN.call rfl rfl hmul (by simp only [go_sem, Nat.reduceMul, Nat.reduceLeDiff, Nat.reduceLT, reduceIte, reduceCtorEq, Nat.reduceEqDiff, Nat.reduceSub, Nat.reduceAdd])) (by simp only [Try.results28, go_sem, Nat.reduceMul, Nat.reduceLeDiff, Nat.reduceLT, reduceIte, reduceCtorEq, Nat.reduceEqDiff, Nat.reduceSub, Nat.reduceAdd]) ?_
    simp only [Try.results28, go_sem, Nat.reduceMul, Nat.reduceLeDiff, Nat.reduceLT, reduceIte, reduceCtorEq, Nat.reduceEqDiff, Nat.reduceSub, Nat.reduceAdd]
    refine HereE.of (Conv.born 4 (id := 107) (e := 2) (vs := I (diffL t M l)) rfl (by rw [I_len]; rfl)) ?_
    simp only [Try.results28, go_sem, Nat.reduceMul, Nat.reduceLeDiff, Nat.reduceLT, reduceIte, reduceCtorEq, Nat.reduceEqDiff, Nat.reduceSub, Nat.reduceAdd]
    refine RetC.of (RetT.one 107 (by simp only [Try.results28, go_sem, Nat.reduceMul, Nat.reduceLeDiff, Nat.reduceLT, reduceIte, reduceCtorEq, Nat.reduceEqDiff, Nat.reduceSub, Nat.reduceAdd]; rfl) (by simp only [Try.results28, go_sem, Nat.reduceMul, Nat.reduceLeDiff, Nat.reduceLT, reduceIte, reduceCtorEq, Nat.reduceEqDiff, Nat.reduceSub, Nat.reduceAdd]; simp [h]) (by simp only [Try.results28, go_sem, Nat.reduceMul, Nat.reduceLeDiff, Nat.reduceLT, reduceIte, reduceCtorEq, Nat.reduceEqDiff, Nat.reduceSub, Nat.reduceAdd]))
end Go.Proofs.Ytcamdgkjijepeaa
