/- Contracts: Go's sort of whole numbers: lengths in bits, numbers at random, patterns broken. -/
import Derived.Test.YtcjhojdlfnpgjaaGreatK34
import Derived.Test.YtcjhojdlfnpgjaaGreatK26
set_option linter.unusedVariables false
set_option linter.unusedSimpArgs false
set_option maxRecDepth 100000
namespace Go.Proofs.YtcjhojdlfnpgjaaGreat
open Go.RowKit
def blen (x : Nat) : Nat := if x = 0 then 0 else Nat.log2 x + 1
theorem blen_b : ∀ x : Nat, x < 256 → x < 2 ^ blen x ∧ (0 < x → 2 ^ blen x ≤ 2 * x) ∧ blen x ≤ 8 := by decide +kernel
theorem u64_nat {n : Nat} (h : n ≤ 1048576) : IntKind.u64.wrap (n : Int) = n := by rw [IntKind.wrap_u64]; omega
theorem u8_nat : ∀ n : Nat, n < 256 → IntKind.u8.wrap (n : Int) = n := by decide +kernel
theorem shr_16 (n : Nat) : shrV .u64 (n : Int) 16 = ((n / 65536 : Nat) : Int) := by
  unfold shrV
  rw [show (2 : Int) ^ (min (16 : Int).toNat IntKind.u64.bits) = 65536 by decide, Int.fdiv_eq_ediv_of_nonneg _ (by decide)]
  omega
theorem shr_8 (n : Nat) : shrV .u64 (n : Int) 8 = ((n / 256 : Nat) : Int) := by
  unfold shrV
  rw [show (2 : Int) ^ (min (8 : Int).toNat IntKind.u64.bits) = 256 by decide, Int.fdiv_eq_ediv_of_nonneg _ (by decide)]
  omega
theorem lenBA (n : Nat) (h : n ≤ 1048576) (c1 : 65536 ≤ n) : Spec Tryz.prog 122 [.v (.int .u64 n)] (.v (.int .i64 ((16 + blen (n / 65536) : Nat) : Int))) [] := by
  have hx : n / 65536 < 256 := by omega
  refine Spec.of_code T_ok Tryz.func122 rfl Tryz.ntmps122 Tryz.call122 (Nat.le_of_ble_eq_true rfl) rfl rfl (CodeV_sound T_ok (by kernel_rfl) rfl ?_)
  refine WW ?_
  refine ⟨fun q => absurd q (by omega), fun _ => ⟨fun _ => ?_, fun q => absurd q (by omega)⟩⟩
  rw [shr_16]
  refine ⟨by omega, by unfold InR; omega, fun q => absurd q (by omega), fun _ => ?_⟩
  rw [u8_nat _ hx]
  refine HereO.opP T_ok (OpP.index (i := n / 65536) Tryz.underlying9 rfl rfl rfl (Nat.lt_of_lt_of_le hx (by decide +kernel))) ?_
  refine WW ?_
  revert hx
  generalize n / 65536 = x
  revert x
  unfold InR
  decide +kernel
theorem lenB (n : Nat) (c1 : n < 65536) (c2 : 256 ≤ n) : Spec Tryz.prog 122 [.v (.int .u64 n)] (.v (.int .i64 ((8 + blen (n / 256) : Nat) : Int))) [] := by
  have hx : n / 256 < 256 := by omega
  refine Spec.of_code T_ok Tryz.func122 rfl Tryz.ntmps122 Tryz.call122 (Nat.le_of_ble_eq_true rfl) rfl rfl (CodeV_sound T_ok (by kernel_rfl) rfl ?_)
  refine WW ?_
  refine ⟨fun q => absurd q (by omega), fun _ => ⟨fun q => absurd q (by omega), fun _ => ⟨fun _ => ?_, fun q => absurd q (by omega)⟩⟩⟩
  rw [shr_8]
  refine ⟨by omega, by unfold InR; omega, ?_⟩
  rw [u8_nat _ hx]
  refine HereO.opP T_ok (OpP.index (i := n / 256) Tryz.underlying9 rfl rfl rfl (Nat.lt_of_lt_of_le hx (by decide +kernel))) ?_
  refine WW ?_
  revert hx
  generalize n / 256 = x
  revert x
  unfold InR
  decide +kernel
theorem lenC (n : Nat) (hx : n < 256) : Spec Tryz.prog 122 [.v (.int .u64 n)] (.v (.int .i64 ((blen n : Nat) : Int))) [] := by
  refine Spec.of_code T_ok Tryz.func122 rfl Tryz.ntmps122 Tryz.call122 (Nat.le_of_ble_eq_true rfl) rfl rfl (CodeV_sound T_ok (by kernel_rfl) rfl ?_)
  refine WW ?_
  refine ⟨fun q => absurd q (by omega), fun _ => ⟨fun q => absurd q (by omega), fun _ => ⟨fun q => absurd q (by omega), fun _ => ?_⟩⟩⟩
  rw [u8_nat _ hx]
  refine HereO.opP T_ok (OpP.index (i := n) Tryz.underlying9 rfl rfl rfl (Nat.lt_of_lt_of_le hx (by decide +kernel))) ?_
  refine WW ?_
  revert hx
  generalize n = x
  revert x
  unfold InR
  decide +kernel
theorem len64_spec (n : Nat) (h : n ≤ 1048576) (h1 : 1 ≤ n) : ∃ r : Nat, r ≤ 24 ∧ n < 2 ^ r ∧ 2 ^ r ≤ 2 * n ∧ Spec Tryz.prog 122 [.v (.int .u64 n)] (.v (.int .i64 r)) [] := by
  by_cases c1 : 65536 ≤ n
  · obtain ⟨b1, b2, b3⟩ := blen_b (n / 65536) (by omega)
    have b2' := b2 (by omega)
    exact ⟨16 + blen (n / 65536), by omega, by rw [Nat.pow_add]; omega, by rw [Nat.pow_add]; omega, lenBA n h c1⟩
  · by_cases c2 : 256 ≤ n
    · obtain ⟨b1, b2, b3⟩ := blen_b (n / 256) (by omega)
      have b2' := b2 (by omega)
      exact ⟨8 + blen (n / 256), by omega, by rw [Nat.pow_add]; omega, by rw [Nat.pow_add]; omega, lenB n (by omega) c2⟩
    · obtain ⟨b1, b2, b3⟩ := blen_b n (by omega)
      exact ⟨blen n, by omega, b1, b2 (by omega), lenC n (by omega)⟩
theorem len_spec (n : Nat) (h : n ≤ 1048576) : ∃ r : Nat, r ≤ 24 ∧ (1 ≤ n → n < 2 ^ r ∧ 2 ^ r ≤ 2 * n) ∧ Spec Tryz.prog 101 [.v (.int .u64 n)] (.v (.int .i64 r)) [] := by
  by_cases h1 : 1 ≤ n
  · obtain ⟨r, h2, h3, h4, h5⟩ := len64_spec n h h1
    exact ⟨r, h2, fun _ => ⟨h3, h4⟩, bitsLen_spec n r h5⟩
  · obtain rfl : n = 0 := by omega
    exact ⟨blen 0, by decide, fun q => absurd q h1, bitsLen_spec 0 _ (lenC 0 (by omega))⟩
theorem shl_u64 : ∀ r : Nat, r ≤ 24 → shlV .u64 1 (r : Int) = ((2 ^ r : Nat) : Int) := by decide +kernel
theorem nextPow_run (n r : Nat) (h : n ≤ 1048576) (hr : r ≤ 24) (hl : Spec Tryz.prog 101 [.v (.int .u64 n)] (.v (.int .i64 r)) []) : Spec Tryz.prog 129 [.v (.int .i64 n)] (.v (.int .u64 (2 ^ r : Nat))) [] := by
  have hs := shl_u64 r hr
  rw [← shlW_eq] at hs
  refine Spec.of_code T_ok Tryz.func129 rfl Tryz.ntmps129 Tryz.call129 (Nat.le_of_ble_eq_true rfl) rfl rfl (CodeV_sound T_ok (by kernel_rfl) rfl ?_)
  refine WW ?_
  rw [u64_nat h]
  refine HereO.call T_ok rfl rfl (hl) SA rfl ?_
  refine WW ?_
  rw [hs]
  exact ⟨by omega, rfl⟩
theorem nextPow_spec (n : Nat) (h : n ≤ 1048576) (h1 : 1 ≤ n) : ∃ m : Nat, 1 ≤ m ∧ n < m ∧ m ≤ 2 * n ∧ Spec Tryz.prog 129 [.v (.int .i64 n)] (.v (.int .u64 m)) [] := by
  obtain ⟨r, h2, h3, h4⟩ := len_spec n h
  obtain ⟨h5, h6⟩ := h3 h1
  exact ⟨2 ^ r, by omega, h5, h6, nextPow_run n r h h2 h4⟩
theorem xorNext_spec (x : Int) : SpecQ Tryz.prog 130 [.ptr 0 0] [.cells 130 [.v (.int .u64 x)]] (κ := Int) (fun y => .v (.int .u64 y)) (fun y => [some (.cells 130 [.v (.int .u64 y)])]) (fun _ => True) := by
  refine SpecQ.of_code T_ok Tryz.func130 rfl Tryz.ntmps130 Tryz.call130 (Nat.le_of_ble_eq_true rfl) (Nat.le_of_ble_eq_true rfl) (fun _ => rfl) (fun _ => rfl) (CodeV_sound T_ok (by kernel_rfl) rfl ?_)
  refine WW ?_
  refine Here.drawS T_ok 9 (Nat.le_of_ble_eq_true rfl) mixed_ok (by kernel_rfl) (by kernel_rfl) ?_
  refine WW ?_
  repeat (refine ⟨by first | omega | (unfold InR; omega) | exact ⟨by omega, by omega⟩, ?_⟩)
  refine HereO.store T_ok rfl SS SS rfl SS rfl SR (Nat.le_of_ble_eq_true rfl) ?_
  refine WW ?_
  refine Here.drawS T_ok 9 (Nat.le_of_ble_eq_true rfl) mixed_ok (by kernel_rfl) (by kernel_rfl) ?_
  refine WW ?_
  repeat (refine ⟨by first | omega | (unfold InR; omega) | exact ⟨by omega, by omega⟩, ?_⟩)
  refine HereO.store T_ok rfl SS SS rfl SS rfl SR (Nat.le_of_ble_eq_true rfl) ?_
  refine WW ?_
  refine Here.drawS T_ok 9 (Nat.le_of_ble_eq_true rfl) mixed_ok (by kernel_rfl) (by kernel_rfl) ?_
  refine WW ?_
  repeat (refine ⟨by first | omega | (unfold InR; omega) | exact ⟨by omega, by omega⟩, ?_⟩)
  refine HereO.store T_ok rfl SS SS rfl SS rfl SR (Nat.le_of_ble_eq_true rfl) ?_
  refine WW ?_
  refine RetQ.of _ trivial (RetM.one0 SE rfl ?_)
  exact WW trivial
end Go.Proofs.YtcjhojdlfnpgjaaGreat
namespace Go.Proofs.YtcjhojdlfnpgjaaGreat
open Go.RowKit
theorem and_le (y : Int) (m : Nat) (h : m ≤ 4194304) : 0 ≤ andV .u64 y (m : Int) ∧ andV .u64 y (m : Int) ≤ m := by
  unfold andV
  have h1 : (BitVec.ofInt IntKind.u64.bits y &&& BitVec.ofInt IntKind.u64.bits (m : Int)).toNat ≤ m := by
    rw [BitVec.toNat_and]
    refine Nat.le_trans Nat.and_le_right ?_
    rw [BitVec.toNat_ofInt]
    have : ((m : Int) % ((2 ^ IntKind.u64.bits : Nat) : Int)).toNat ≤ m := by
      rw [Int.emod_eq_of_lt (by omega) (by have : (4194304 : Int) < ((2 ^ IntKind.u64.bits : Nat) : Int) := by decide
                                           omega)]
      omega
    exact this
  rw [IntKind.wrap_u64]
  omega
theorem breakPatterns_spec (xs : List Int) (a b : Nat) (hab : a ≤ b) (hb : b ≤ xs.length) (hl : xs.length ≤ 1048576) : SpecQ Tryz.prog 114 [.own 0, .v (.int .i64 a), .v (.int .i64 b)] [.row 2 (I xs)] (κ := List Int) (fun _ => .tup []) (fun ys => [some (.row 2 (I ys))]) (fun ys => PIn 0 a b xs ys) := by
  obtain ⟨n, rfl⟩ : ∃ n, b = a + n := ⟨b - a, by omega⟩
  have hd : (((a + n : Nat) : Int) - (a : Int)) = n := by omega
  have hq : (n : Int).tdiv 4 = ((n / 4 : Nat) : Int) := rfl
  refine SpecQ.of_code T_ok Tryz.func114 rfl Tryz.ntmps114 Tryz.call114 (Nat.le_of_ble_eq_true rfl) (Nat.le_of_ble_eq_true rfl) (fun _ => rfl) (fun _ => rfl) (CodeV_sound T_ok (by kernel_rfl) rfl ?_)
  refine WW ?_
  rw [hd]
  refine ⟨by unfold InR; omega, fun h8 => ?_, fun h8 => ?_⟩
  · rw [u64_nat (by omega)]
    obtain ⟨m, m1, m2, m3, hm⟩ := nextPow_spec n (by omega) (by omega)
    refine HereO.alloc T_ok 107 rfl rfl (by decide) ?_
    refine WW ?_
    refine HereO.store T_ok rfl SS SS rfl SS rfl SR (Nat.le_of_ble_eq_true rfl) ?_
    refine WW ?_
    refine HereO.call T_ok rfl rfl (hm) SA rfl ?_
    refine WW ?_
    rw [hq]
    refine ⟨⟨by decide, by unfold InR; omega⟩, by unfold InR; omega, by unfold InR; omega, by unfold InR; omega, ?_⟩
    refine Here.loopV T_ok (κ := Nat × Int × List Int) (fun g => a + n / 4 * 2 ≤ g.1 + 1 ∧ g.1 ≤ a + n / 4 * 2 + 2 ∧ PIn 0 a (a + n) xs g.2.2) (fun g => a + n / 4 * 2 + 2 - g.1) (fun g => [(0, .own 0), (1, .v (.int .i64 a)), (6, .v (.int .i64 n)), (7, .ptr 107 0), (8, .v (.int .u64 m)), (9, .v (.int .i64 g.1))]) (fun g => [(0, .row 2 (I g.2.2)), (107, .cells 130 [.v (.int .u64 g.2.1)])]) (a + n / 4 * 2 - 1, n, xs) ⟨by dsimp only; omega, by dsimp only; omega, PIn.refl _ _ _⟩ (by simp only [go_sem, Nat.reduceMul, Nat.reduceLeDiff, Nat.reduceLT, reduceIte, reduceCtorEq, Nat.reduceEqDiff, Nat.reduceSub, Nat.reduceAdd]; omega) SW ?_
    rintro ⟨i, x, L⟩ ⟨hi1, hi2, hp⟩
    dsimp only at hi1 hi2 hp ⊢
    have hlL := hp.len
    refine WW ?_
    rw [hq]
    refine ⟨⟨by decide, by unfold InR; omega⟩, by unfold InR; omega, by unfold InR; omega, by unfold InR; omega, fun h2 => ?_, fun h2 => ?_⟩
    · refine HereO.callQ T_ok 36 [107] rfl rfl (xorNext_spec x) SC rfl (by decide) (by decide) rfl (fun _ => rfl) (fun _ => rfl) (fun _ => Nat.le_of_ble_eq_true rfl) ?_
      rintro y -
      refine WW ?_
      have hw : IntKind.u64.wrap ((m : Int) - 1) = ((m - 1 : Nat) : Int) := by rw [IntKind.wrap_u64]; omega
      rw [hw]
      have hz := and_le y (m - 1) (by omega)
      obtain ⟨z, hze⟩ := Int.eq_ofNat_of_zero_le hz.1
      rw [hze] at hz ⊢
      refine ⟨by unfold InR; omega, fun h3 => ?_, fun h3 => ?_⟩
      · rw [show (z : Int) - (n : Int) = ((z - n : Nat) : Int) by omega]
        refine ⟨by unfold InR; omega, ?_⟩
        have e1 : ((a : Int) + ((z - n : Nat) : Int)).toNat = a + (z - n) := by omega
        refine Here.drawC T_ok [.p, .p, .f, .f, .f, .f, .p, .p, .p, .p, .p, .p, .p, .p, .p, .p, .p, .c, .p, .c] [0, 1, 10] [] [] (Nat.le_of_ble_eq_true rfl) mixed_ok (by kernel_rfl) (by kernel_rfl) (by kernel_rfl) (by simp only [List.mem_cons, List.not_mem_nil, or_false, forall_eq_or_imp, forall_eq, go_sem, Nat.reduceMul, Nat.reduceLeDiff, Nat.reduceLT, reduceIte, reduceCtorEq, Nat.reduceEqDiff, Nat.reduceSub, Nat.reduceAdd] <;> first | exact calm_ptr_ne rfl | exact calm_ne rfl | exact ⟨calm_ptr_ne rfl, calm_ptr_ne rfl⟩ | exact ⟨calm_ptr_ne rfl, calm_ptr_ne rfl, calm_ptr_ne rfl⟩ | exact ⟨calm_ptr_ne rfl, calm_knot (by simp only [go_sem, Nat.reduceMul, Nat.reduceLeDiff, Nat.reduceLT, reduceIte, reduceCtorEq, Nat.reduceEqDiff, Nat.reduceSub, Nat.reduceAdd] <;> exact calm_ptr_ne rfl)⟩ | ((repeat' apply And.intro) <;> first | exact calm_ptr_ne rfl | exact calm_ne rfl)) ?_
        refine WW ?_
        simp only [e1]
        repeat (refine ⟨by first | omega | (unfold InR; omega) | exact ⟨by omega, by omega⟩, ?_⟩)
        refine HereC.storeRow T_ok (vs := I (L)) (u := .int .i64 ((L).getD (a + (z - n)) 0)) rfl SS SS rfl SS rfl (by rw [I_len]; omega) (keeps_nil _ _) ?_
        refine WW ?_
        rw [I_set]
        simp only [e1]
        repeat (refine ⟨by first | omega | (unfold InR; omega) | exact ⟨by omega, by omega⟩, ?_⟩)
        refine HereC.storeRow T_ok (vs := I ((L).set (i) ((L).getD (a + (z - n)) 0))) (u := .int .i64 ((L).getD (i) 0)) rfl SS SS rfl SS rfl (by rw [I_len, List.length_set]; omega) (keeps_nil _ _) ?_
        refine WW ?_
        rw [I_set]
        exact ⟨by unfold InR; omega, (i + 1, y, swL 0 L i (a + (z - n))), ⟨by dsimp only; omega, by dsimp only; omega, hp.trans (PIn.swap (by omega) (by omega) (by omega) (by omega) (by omega))⟩, by dsimp only; omega, by push_cast; rfl, rfl, rfl⟩
      · have e1 : ((a : Int) + (z : Int)).toNat = a + z := by omega
        refine Here.drawC T_ok [.p, .p, .f, .f, .f, .f, .p, .p, .p, .p, .p, .p, .p, .p, .p, .p, .p, .c, .p, .c] [0, 1, 10] [] [] (Nat.le_of_ble_eq_true rfl) mixed_ok (by kernel_rfl) (by kernel_rfl) (by kernel_rfl) (by simp only [List.mem_cons, List.not_mem_nil, or_false, forall_eq_or_imp, forall_eq, go_sem, Nat.reduceMul, Nat.reduceLeDiff, Nat.reduceLT, reduceIte, reduceCtorEq, Nat.reduceEqDiff, Nat.reduceSub, Nat.reduceAdd] <;> first | exact calm_ptr_ne rfl | exact calm_ne rfl | exact ⟨calm_ptr_ne rfl, calm_ptr_ne rfl⟩ | exact ⟨calm_ptr_ne rfl, calm_ptr_ne rfl, calm_ptr_ne rfl⟩ | exact ⟨calm_ptr_ne rfl, calm_knot (by simp only [go_sem, Nat.reduceMul, Nat.reduceLeDiff, Nat.reduceLT, reduceIte, reduceCtorEq, Nat.reduceEqDiff, Nat.reduceSub, Nat.reduceAdd] <;> exact calm_ptr_ne rfl)⟩ | ((repeat' apply And.intro) <;> first | exact calm_ptr_ne rfl | exact calm_ne rfl)) ?_
        refine WW ?_
        simp only [e1]
        repeat (refine ⟨by first | omega | (unfold InR; omega) | exact ⟨by omega, by omega⟩, ?_⟩)
        refine HereC.storeRow T_ok (vs := I (L)) (u := .int .i64 ((L).getD (a + z) 0)) rfl SS SS rfl SS rfl (by rw [I_len]; omega) (keeps_nil _ _) ?_
        refine WW ?_
        rw [I_set]
        simp only [e1]
        repeat (refine ⟨by first | omega | (unfold InR; omega) | exact ⟨by omega, by omega⟩, ?_⟩)
        refine HereC.storeRow T_ok (vs := I ((L).set (i) ((L).getD (a + z) 0))) (u := .int .i64 ((L).getD (i) 0)) rfl SS SS rfl SS rfl (by rw [I_len, List.length_set]; omega) (keeps_nil _ _) ?_
        refine WW ?_
        rw [I_set]
        exact ⟨by unfold InR; omega, (i + 1, y, swL 0 L i (a + z)), ⟨by dsimp only; omega, by dsimp only; omega, hp.trans (PIn.swap (by omega) (by omega) (by omega) (by omega) (by omega))⟩, by dsimp only; omega, by push_cast; rfl, rfl, rfl⟩
    · refine RetQ.of L hp (RetM.one0 SE rfl ?_)
      exact WW trivial
  · refine RetQ.of xs (PIn.refl _ _ _) (RetM.one0 SE rfl ?_)
    exact WW trivial
end Go.Proofs.YtcjhojdlfnpgjaaGreat
namespace Go.Proofs.YtcjhojdlfnpgjaaGreat
open Go.RowKit
theorem RetM.nothing {T : TT} {results : Array ResultVar} {r : LV} {s : St} {rs : List LV} (h : resLs T s results.toList = some rs) (h2 : tupL rs = ren (fun i => ([] : List Nat).getD i 0) r) : RetM T results 0 r [] s :=
  ⟨rs, [], h, h2, rfl, List.nodup_nil, fun i hi => by omega, fun i oc hi => by simp [osO] at hi⟩
theorem reverseRange_spec (xs : List Int) (a b : Nat) (hab : a < b) (hb : b ≤ xs.length) (hl : xs.length ≤ 1048576) : SpecQ Tryz.prog 116 [.own 0, .v (.int .i64 a), .v (.int .i64 b)] [.row 2 (I xs)] (κ := List Int) (fun _ => .tup []) (fun ys => [some (.row 2 (I ys))]) (fun ys => PIn 0 a b xs ys) := by
  refine SpecQ.of_code T_ok Tryz.func116 rfl Tryz.ntmps116 Tryz.call116 (Nat.le_of_ble_eq_true rfl) (Nat.le_of_ble_eq_true rfl) (fun _ => rfl) (fun _ => rfl) (CodeV_sound T_ok (by kernel_rfl) rfl ?_)
  refine WW ?_
  rw [show (b : Int) - 1 = ((b - 1 : Nat) : Int) by omega]
  refine ⟨by unfold InR; omega, ?_⟩
  refine Here.loopV T_ok (κ := Nat × Nat × List Int) (fun g => a ≤ g.1 ∧ g.2.1 < b ∧ g.1 ≤ g.2.1 + 1 ∧ PIn 0 a b xs g.2.2) (fun g => g.2.1 + 1 - g.1) (fun g => [(0, .own 0), (6, .v (.int .i64 g.1)), (7, .v (.int .i64 g.2.1))]) (fun g => [(0, .row 2 (I g.2.2))]) (a, b - 1, xs) ⟨Nat.le_refl _, by dsimp only; omega, by dsimp only; omega, PIn.refl _ _ _⟩ SW SW ?_
  rintro ⟨i, j, L⟩ ⟨hi, hj, hij, hp⟩
  dsimp only at hi hj hij hp ⊢
  have hlL := hp.len
  refine WW ?_
  refine ⟨fun h2 => ?_, fun h2 => ?_⟩
  · refine Here.drawC T_ok [.p, .p, .f, .f, .p, .p, .p, .p, .p, .p, .p, .p, .p, .c, .p, .c] [0, 7] [] [] (Nat.le_of_ble_eq_true rfl) mixed_ok (by kernel_rfl) (by kernel_rfl) (by kernel_rfl) (by simp only [List.mem_cons, List.not_mem_nil, or_false, forall_eq_or_imp, forall_eq, go_sem, Nat.reduceMul, Nat.reduceLeDiff, Nat.reduceLT, reduceIte, reduceCtorEq, Nat.reduceEqDiff, Nat.reduceSub, Nat.reduceAdd] <;> first | exact calm_ptr_ne rfl | exact calm_ne rfl | exact ⟨calm_ptr_ne rfl, calm_ptr_ne rfl⟩ | exact ⟨calm_ptr_ne rfl, calm_ptr_ne rfl, calm_ptr_ne rfl⟩ | exact ⟨calm_ptr_ne rfl, calm_knot (by simp only [go_sem, Nat.reduceMul, Nat.reduceLeDiff, Nat.reduceLT, reduceIte, reduceCtorEq, Nat.reduceEqDiff, Nat.reduceSub, Nat.reduceAdd] <;> exact calm_ptr_ne rfl)⟩ | ((repeat' apply And.intro) <;> first | exact calm_ptr_ne rfl | exact calm_ne rfl)) ?_
    refine WW ?_
    repeat (refine ⟨by first | omega | (unfold InR; omega) | exact ⟨by omega, by omega⟩, ?_⟩)
    refine HereC.storeRow T_ok (vs := I (L)) (u := .int .i64 ((L).getD (j) 0)) rfl SS SS rfl SS rfl (by rw [I_len]; omega) (keeps_nil _ _) ?_
    refine WW ?_
    rw [I_set]
    repeat (refine ⟨by first | omega | (unfold InR; omega) | exact ⟨by omega, by omega⟩, ?_⟩)
    refine HereC.storeRow T_ok (vs := I ((L).set (i) ((L).getD (j) 0))) (u := .int .i64 ((L).getD (i) 0)) rfl SS SS rfl SS rfl (by rw [I_len, List.length_set]; omega) (keeps_nil _ _) ?_
    refine WW ?_
    rw [I_set]
    exact ⟨by unfold InR; omega, by unfold InR; omega, (i + 1, j - 1, swL 0 L i j), ⟨by dsimp only; omega, by dsimp only; omega, by dsimp only; omega, hp.trans (PIn.swap (by omega) (by omega) (by omega) (by omega) (by omega))⟩, by dsimp only; omega, ⟨by push_cast; rfl, by dsimp only; omega⟩, rfl⟩
  · refine RetQ.of L hp (RetM.one0 SE rfl ?_)
    exact WW trivial
theorem order2_spec (l : List Int) (a b n : Nat) (ha : a < l.length) (hb : b < l.length) (hl : l.length ≤ 1048576) (hn : n ≤ 100) : SpecQ Tryz.prog 136 [.rd (I l), .v (.int .i64 a), .v (.int .i64 b), .ptr 0 0] [.cells 3 [.v (.int .i64 n)]] (κ := Nat × Nat × Nat) (fun y => .tup [.v (.int .i64 y.1), .v (.int .i64 y.2.1)]) (fun y => [some (.cells 3 [.v (.int .i64 y.2.2)])]) (fun y => (y.1 = a ∧ y.2.1 = b ∨ y.1 = b ∧ y.2.1 = a) ∧ y.2.2 ≤ n + 1) := by
  refine SpecQ.of_code T_ok Tryz.func136 rfl Tryz.ntmps136 Tryz.call136 (Nat.le_of_ble_eq_true rfl) (Nat.le_of_ble_eq_true rfl) (fun _ => rfl) (fun _ => rfl) (CodeV_sound T_ok (by kernel_rfl) rfl ?_)
  refine WW ?_
  refine Here.draw T_ok mixed_ok (by kernel_rfl) ?_
  refine WW ?_
  repeat (refine ⟨by first | omega | (unfold InR; omega) | exact ⟨by omega, by omega⟩, ?_⟩)
  refine ⟨_, OpP.call' rfl rfl (cmpLess_spec (l.getD b 0) (l.getD a 0)) SA rfl, ?_⟩
  refine WW ?_
  refine ⟨fun h => ?_, fun h => ?_⟩
  · refine ⟨by unfold InR; omega, ?_⟩
    refine HereO.store T_ok rfl SS SS rfl SS rfl SR (Nat.le_of_ble_eq_true rfl) ?_
    refine WW ?_
    refine RetQ.of (b, a, n + 1) ⟨.inr ⟨rfl, rfl⟩, Nat.le_refl _⟩ (RetM.one0 SE rfl ?_)
    refine WW ?_
    simp
  · refine RetQ.of (a, b, n) ⟨.inl ⟨rfl, rfl⟩, by simp⟩ (RetM.one0 SE rfl ?_)
    exact WW trivial
theorem median_spec (l : List Int) (a b c n : Nat) (ha : a < l.length) (hb : b < l.length) (hc : c < l.length) (hl : l.length ≤ 1048576) (hn : n ≤ 50) : SpecQ Tryz.prog 132 [.rd (I l), .v (.int .i64 a), .v (.int .i64 b), .v (.int .i64 c), .ptr 0 0] [.cells 3 [.v (.int .i64 n)]] (κ := Nat × Nat) (fun y => .v (.int .i64 y.1)) (fun y => [some (.cells 3 [.v (.int .i64 y.2)])]) (fun y => (y.1 = a ∨ y.1 = b ∨ y.1 = c) ∧ y.2 ≤ n + 3) := by
  refine SpecQ.of_code T_ok Tryz.func132 rfl Tryz.ntmps132 Tryz.call132 (Nat.le_of_ble_eq_true rfl) (Nat.le_of_ble_eq_true rfl) (fun _ => rfl) (fun _ => rfl) (CodeV_sound T_ok (by kernel_rfl) rfl ?_)
  refine WW ?_
  refine HereO.callQ T_ok 16 [0] rfl rfl (order2_spec l a b n ha hb hl (by omega)) SC rfl (by decide) (by decide) rfl (fun _ => rfl) (fun _ => rfl) (fun _ => Nat.le_of_ble_eq_true rfl) ?_
  rintro ⟨p, q, n1⟩ ⟨h1, h2⟩
  dsimp only at h1 h2 ⊢
  refine WW ?_
  refine HereO.callQ T_ok 24 [0] rfl rfl (order2_spec l q c n1 (by omega) hc hl (by omega)) SC rfl (by decide) (by decide) rfl (fun _ => rfl) (fun _ => rfl) (fun _ => Nat.le_of_ble_eq_true rfl) ?_
  rintro ⟨q2, r, n2⟩ ⟨h3, h4⟩
  dsimp only at h3 h4 ⊢
  refine WW ?_
  refine HereO.callQ T_ok 32 [0] rfl rfl (order2_spec l p q2 n2 (by omega) (by omega) hl (by omega)) SC rfl (by decide) (by decide) rfl (fun _ => rfl) (fun _ => rfl) (fun _ => Nat.le_of_ble_eq_true rfl) ?_
  rintro ⟨p2, q3, n3⟩ ⟨h5, h6⟩
  dsimp only at h5 h6 ⊢
  refine WW ?_
  refine RetQ.of (q3, n3) ⟨by dsimp only; omega, by dsimp only; omega⟩ (RetM.one0 SE rfl ?_)
  exact WW trivial
theorem medianAdj_spec (l : List Int) (a n : Nat) (h1 : 1 ≤ a) (h2 : a + 1 < l.length) (hl : l.length ≤ 1048576) (hn : n ≤ 50) : SpecQ Tryz.prog 131 [.rd (I l), .v (.int .i64 a), .ptr 0 0] [.cells 3 [.v (.int .i64 n)]] (κ := Nat × Nat) (fun y => .v (.int .i64 y.1)) (fun y => [some (.cells 3 [.v (.int .i64 y.2)])]) (fun y => a ≤ y.1 + 1 ∧ y.1 ≤ a + 1 ∧ y.2 ≤ n + 3) := by
  have e1 : (a : Int) - 1 = ((a - 1 : Nat) : Int) := by omega
  have e2 : (a : Int) + 1 = ((a + 1 : Nat) : Int) := by omega
  refine SpecQ.of_code T_ok Tryz.func131 rfl Tryz.ntmps131 Tryz.call131 (Nat.le_of_ble_eq_true rfl) (Nat.le_of_ble_eq_true rfl) (fun _ => rfl) (fun _ => rfl) (CodeV_sound T_ok (by kernel_rfl) rfl ?_)
  refine WW ?_
  rw [e1, e2]
  refine ⟨by unfold InR; omega, by unfold InR; omega, ?_⟩
  refine HereO.callQ T_ok 14 [0] rfl rfl (median_spec l (a - 1) a (a + 1) n (by omega) (by omega) h2 hl hn) SC rfl (by decide) (by decide) rfl (fun _ => rfl) (fun _ => rfl) (fun _ => Nat.le_of_ble_eq_true rfl) ?_
  rintro ⟨p, n1⟩ ⟨h3, h4⟩
  dsimp only at h3 h4 ⊢
  refine WW ?_
  refine RetQ.of (p, n1) ⟨by dsimp only; omega, by dsimp only; omega, h4⟩ (RetM.one0 SE rfl ?_)
  exact WW trivial
set_option maxHeartbeats 4000000 in
theorem choosePivot_spec (l : List Int) (a b : Nat) (hab : a + 12 < b) (hb : b ≤ l.length) (hl : l.length ≤ 1048576) : SpecQ Tryz.prog 115 [.rd (I l), .v (.int .i64 a), .v (.int .i64 b)] [] (κ := Nat × Int) (fun y => .tup [.v (.int .i64 y.1), .v (.int .i64 y.2)]) (fun _ => []) (fun y => a ≤ y.1 ∧ y.1 < b) := by
  obtain ⟨n, rfl⟩ : ∃ n, b = a + n := ⟨b - a, by omega⟩
  have hd : (((a + n : Nat) : Int) - (a : Int)) = n := by omega
  have hq : (n : Int).tdiv 4 = ((n / 4 : Nat) : Int) := rfl
  have e1 : (a : Int) + ((n / 4 : Nat) : Int) * 1 = ((a + n / 4 : Nat) : Int) := by omega
  have e2 : (a : Int) + ((n / 4 : Nat) : Int) * 2 = ((a + n / 4 * 2 : Nat) : Int) := by omega
  have e3 : (a : Int) + ((n / 4 : Nat) : Int) * 3 = ((a + n / 4 * 3 : Nat) : Int) := by omega
  refine SpecQ.of_code T_ok Tryz.func115 rfl Tryz.ntmps115 Tryz.call115 (Nat.le_of_ble_eq_true rfl) (Nat.le_of_ble_eq_true rfl) (fun _ => rfl) (fun _ => rfl) (CodeV_sound T_ok (by kernel_rfl) rfl ?_)
  refine WW ?_
  rw [hd]
  refine ⟨by unfold InR; omega, ?_⟩
  refine HereO.alloc T_ok 109 rfl rfl (by decide) ?_
  refine WW ?_
  rw [hq, e1, e2, e3]
  repeat (refine ⟨by first | omega | (unfold InR; omega) | exact ⟨by decide, by unfold InR; omega⟩, ?_⟩)
  refine ⟨fun h1 => ?_, fun h1 => absurd h1 (by omega)⟩
  refine ⟨fun h2 => ?_, fun h2 => ?_⟩
  · have hm1 := medianAdj_spec l (a + n / 4) 0 (by omega) (by omega) hl (by omega)
    rw [show ((0 : Nat) : Int) = 0 from rfl] at hm1
    refine HereO.callQ T_ok 37 [109] rfl rfl (hm1) SC rfl (by decide) (by decide) rfl (fun _ => rfl) (fun _ => rfl) (fun _ => Nat.le_of_ble_eq_true rfl) ?_
    rintro ⟨i, k1⟩ ⟨g1, g2, g3⟩
    dsimp only at g1 g2 g3 ⊢
    refine WW ?_
    refine HereO.callQ T_ok 40 [109] rfl rfl (medianAdj_spec l (a + n / 4 * 2) k1 (by omega) (by omega) hl (by omega)) SC rfl (by decide) (by decide) rfl (fun _ => rfl) (fun _ => rfl) (fun _ => Nat.le_of_ble_eq_true rfl) ?_
    rintro ⟨j, k2⟩ ⟨g4, g5, g6⟩
    dsimp only at g4 g5 g6 ⊢
    refine WW ?_
    refine HereO.callQ T_ok 43 [109] rfl rfl (medianAdj_spec l (a + n / 4 * 3) k2 (by omega) (by omega) hl (by omega)) SC rfl (by decide) (by decide) rfl (fun _ => rfl) (fun _ => rfl) (fun _ => Nat.le_of_ble_eq_true rfl) ?_
    rintro ⟨k, k3⟩ ⟨g7, g8, g9⟩
    dsimp only at g7 g8 g9 ⊢
    refine WW ?_
    refine HereO.callQ T_ok 48 [109] rfl rfl (median_spec l i j k k3 (by omega) (by omega) (by omega) hl (by omega)) SC rfl (by decide) (by decide) rfl (fun _ => rfl) (fun _ => rfl) (fun _ => Nat.le_of_ble_eq_true rfl) ?_
    rintro ⟨p, k4⟩ ⟨h3, h4⟩
    dsimp only at h3 h4 ⊢
    refine WW ?_
    refine ⟨fun _ => ?_, fun _ => ⟨fun _ => ?_, fun _ => ?_⟩⟩ <;> exact RetQ.of (p, _) ⟨by dsimp only; omega, by dsimp only; omega⟩ (RetM.nothing SE rfl)
  · have hm := median_spec l (a + n / 4) (a + n / 4 * 2) (a + n / 4 * 3) 0 (by omega) (by omega) (by omega) hl (by omega)
    rw [show ((0 : Nat) : Int) = 0 from rfl] at hm
    refine HereO.callQ T_ok 48 [109] rfl rfl (hm) SC rfl (by decide) (by decide) rfl (fun _ => rfl) (fun _ => rfl) (fun _ => Nat.le_of_ble_eq_true rfl) ?_
    rintro ⟨p, k⟩ ⟨h3, h4⟩
    dsimp only at h3 h4 ⊢
    refine WW ?_
    refine ⟨fun _ => ?_, fun _ => ⟨fun _ => ?_, fun _ => ?_⟩⟩ <;> exact RetQ.of (p, _) ⟨by dsimp only; omega, by dsimp only; omega⟩ (RetM.nothing SE rfl)
end Go.Proofs.YtcjhojdlfnpgjaaGreat
