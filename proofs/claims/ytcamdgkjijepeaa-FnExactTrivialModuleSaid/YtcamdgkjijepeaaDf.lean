/- Contracts: MapsOfModules. -/
import Derived.Test.YtcamdgkjijepeaaDd
namespace Go.Proofs.Ytcamdgkjijepeaa
open Go.RowKit
set_option linter.unusedVariables false
set_option linter.unusedSimpArgs false
set_option maxRecDepth 100000

theorem codeM2_ok {t : List (List Int)} {m n : Int} {l k : List Int} (h : codeM t [(m, l), (n, k)] = 0) : Grp t ∧ Mod t m l ∧ Mod t n k := by
  unfold codeM at h
  split at h
  · rename_i q; exact ⟨q.1, q.2 (m, l) (by simp), q.2 (n, k) (by simp)⟩
  · omega
def MapP (l k : List Int) (n c : Int) (x : Nat) : Prop := (c * l.getD x 0).tmod n = (c * k.getD x 0).tmod n
instance (l k : List Int) (n c : Int) (x : Nat) : Decidable (MapP l k n c x) := by unfold MapP; infer_instance
def MapA (s : Nat) (m : Int) (l : List Int) (n : Int) (k : List Int) (c : Int) : Prop := (c * m).tmod n = 0 ∧ ∀ x, x < s → MapP l k n c x
instance (s : Nat) (m : Int) (l : List Int) (n : Int) (k : List Int) (c : Int) : Decidable (MapA s m l n k c) := by unfold MapA; infer_instance
def mapB (s : Nat) (m : Int) (l : List Int) (n : Int) (k : List Int) (c : Int) : Bool := decide (MapA s m l n k c)
def mapsL (t : List (List Int)) (m : Int) (l : List Int) (n : Int) (k : List Int) : List Int := if codeM t [(m, l), (n, k)] = 0 then (cnt n.toNat).filter (mapB t.length m l n k) else []
theorem mapsL_ok (t : List (List Int)) (m : Int) (l : List Int) (n : Int) (k : List Int) : (mapsL t m l n k).length ≤ 1048576 := by
  unfold mapsL
  split
  · rename_i h
    have hm := (codeM2_ok h).2.2.1
    have := filter_cnt_le (mapB t.length m l n k) n.toNat
    omega
  · simp
theorem mul_le12 {a b : Int} (ha : 0 ≤ a ∧ a ≤ 12) (hb : 0 ≤ b ∧ b ≤ 12) : 0 ≤ a * b ∧ a * b ≤ 144 := ⟨Int.mul_nonneg ha.1 hb.1, Int.le_trans (Int.mul_le_mul ha.2 hb.2 hb.1 (by omega)) (by decide)⟩
theorem sub_tmod {a b n : Int} (ha : 0 ≤ a) (hb : 0 ≤ b) : (a - b).tmod n = 0 ↔ a.tmod n = b.tmod n := by
  rw [tmod_nn ha, tmod_nn hb, ← Int.dvd_iff_tmod_eq_zero, Int.emod_eq_emod_iff_emod_sub_eq_zero, Int.dvd_iff_emod_eq_zero]

theorem Maps11_spec (m : Int) (l : List Int) (n : Int) (k : List Int) (c : Int) (x : Nat) (hn : 2 ≤ n ∧ n ≤ 12) (hm : 2 ≤ m ∧ m ≤ 12) (hl : ∀ u ∈ l, 1 ≤ u ∧ u < m) (hk : ∀ u ∈ k, 1 ≤ u ∧ u < n) (hc : 0 ≤ c ∧ c ≤ 12) (hx : x < l.length) (hx2 : x < k.length) :
    Spec Try.prog 93 [.v (.int .i64 x), .box [.v (.int .i64 c)], .box [.v (.int .i64 m), .rd (I l)], .box [.v (.int .i64 n), .rd (I k)]] (.v (.bool (!decide (MapP l k n c x)))) [] := by
  have u1 := hl (l.getD x 0) (by rw [List.getD_eq_getElem?_getD, List.getElem?_eq_getElem hx, Option.getD_some]; exact List.getElem_mem _)
  have u2 := hk (k.getD x 0) (by rw [List.getD_eq_getElem?_getD, List.getElem?_eq_getElem hx2, Option.getD_some]; exact List.getElem_mem _)
  have p1 := mul_le12 hc (b := l.getD x 0) (by omega)
  have p2 := mul_le12 hc (b := k.getD x 0) (by omega)
  refine Spec.of_code T_ok Try.func93 rfl Try.ntmps93 Try.call93 (Nat.le_of_ble_eq_true rfl) rfl rfl (CodeV_sound T_ok (by kernel_rfl) rfl ?_)
  simp only [Try.results93, go_sem, Nat.reduceMul, Nat.reduceLeDiff, Nat.reduceLT, reduceIte, reduceCtorEq, Nat.reduceEqDiff, Nat.reduceSub, Nat.reduceAdd]
  refine Here.draw T_ok mixed_ok (by kernel_rfl) ?_
  simp only [Try.results93, go_sem, Nat.reduceMul, Nat.reduceLeDiff, Nat.reduceLT, reduceIte, reduceCtorEq, Nat.reduceEqDiff, Nat.reduceSub, Nat.reduceAdd]
  refine ⟨⟨by omega, by omega⟩, by unfold InR; omega, ⟨by omega, by omega⟩, by unfold InR; omega, by unfold InR; omega, by omega, ?_⟩
  have := sub_tmod (n := n) p1.1 p2.1
  by_cases hP : MapP l k n c x
  · rw [decide_eq_true hP, this.2 hP]; rfl
  · rw [decide_eq_false hP]
    simp only [Bool.not_false, bne_iff_ne, ne_eq]
    exact fun q => hP (this.1 q)
theorem Maps1_spec (t : List (List Int)) (m : Int) (l : List Int) (n : Int) (k : List Int) (c : Int) (h8 : t.length ≤ 8) (hn : 2 ≤ n ∧ n ≤ 12) (hm : 2 ≤ m ∧ m ≤ 12) (hl : ∀ u ∈ l, 1 ≤ u ∧ u < m) (hk : ∀ u ∈ k, 1 ≤ u ∧ u < n) (hc : 0 ≤ c ∧ c ≤ 12) (hll : l.length = t.length) (hkl : k.length = t.length) :
    Spec Try.prog 92 [.v (.int .i64 c), .box [.v (.int .i64 m), .rd (I l)], .box [.v (.int .i64 n), .rd (I k)], .box [.rds (II t)]] (.v (.bool (!mapB t.length m l n k c))) [] := by
  have p1 := mul_le12 hc (b := m) (by omega)
  refine Spec.of_code T_ok Try.func92 rfl Try.ntmps92 Try.call92 (Nat.le_of_ble_eq_true rfl) rfl rfl (CodeV_sound T_ok (by kernel_rfl) rfl ?_)
  simp only [Try.results92, go_sem, Nat.reduceMul, Nat.reduceLeDiff, Nat.reduceLT, reduceIte, reduceCtorEq, Nat.reduceEqDiff, Nat.reduceSub, Nat.reduceAdd]
  refine ⟨by unfold InR; omega, by omega, fun h => ?_, fun h => ?_⟩
  · refine HereO.call T_ok rfl rfl (order_spec t) (by simp only [go_sem, Nat.reduceMul, Nat.reduceLeDiff, Nat.reduceLT, reduceIte, reduceCtorEq, Nat.reduceEqDiff, Nat.reduceSub, Nat.reduceAdd, List.toList_toArray]) rfl ?_
    simp only [Try.results92, go_sem, Nat.reduceMul, Nat.reduceLeDiff, Nat.reduceLT, reduceIte, reduceCtorEq, Nat.reduceEqDiff, Nat.reduceSub, Nat.reduceAdd]
    refine HereO.callOwn T_ok 17 rfl rfl (counting_spec t.length (by omega)) (by simp only [go_sem, Nat.reduceMul, Nat.reduceLeDiff, Nat.reduceLT, reduceIte, reduceCtorEq, Nat.reduceEqDiff, Nat.reduceSub, Nat.reduceAdd, List.toList_toArray]) rfl (by simp) rfl ?_
    simp only [Try.results92, go_sem, Nat.reduceMul, Nat.reduceLeDiff, Nat.reduceLT, reduceIte, reduceCtorEq, Nat.reduceEqDiff, Nat.reduceSub, Nat.reduceAdd]
    refine HereO.call T_ok rfl rfl (ContainsFunc_spec (cnt t.length) 93 [.box [.v (.int .i64 c)], .box [.v (.int .i64 m), .rd (I l)], .box [.v (.int .i64 n), .rd (I k)]] (Fix.cons (Fix.box (Fix.v _)) (Fix.cons (Fix.box (Fix.cons (Fix.v _) (Fix.rd _))) (Fix.box (Fix.cons (Fix.v _) (Fix.rd _))))) (fun x => !decide (MapP l k n c x.toNat)) (fun j hj => by
      rw [cnt_get hj]
      rw [cnt_len] at hj
      exact Maps11_spec m l n k c j hn hm hl hk hc (by omega) (by omega)) (by rw [cnt_len]; omega)) (by simp only [go_sem, Nat.reduceMul, Nat.reduceLeDiff, Nat.reduceLT, reduceIte, reduceCtorEq, Nat.reduceEqDiff, Nat.reduceSub, Nat.reduceAdd, List.toList_toArray]) rfl ?_
    simp only [Try.results92, go_sem, Nat.reduceMul, Nat.reduceLeDiff, Nat.reduceLT, reduceIte, reduceCtorEq, Nat.reduceEqDiff, Nat.reduceSub, Nat.reduceAdd]
    have key : ((cnt t.length).any fun x => !decide (MapP l k n c x.toNat)) = true ↔ ¬ MapA t.length m l n k c := by
      rw [List.any_eq_true]
      constructor
      · rintro ⟨x, hx, h2⟩
        obtain ⟨a, ha, rfl⟩ : ∃ a : Nat, a < t.length ∧ x = a := by
          unfold cnt upTo at hx
          obtain ⟨a, ha, rfl⟩ := List.mem_map.1 hx
          exact ⟨a, List.mem_range.1 ha, rfl⟩
        intro q
        rw [Int.toNat_natCast, decide_eq_true (q.2 a ha)] at h2
        cases h2
      · intro h2
        apply Classical.byContradiction
        intro h3
        refine h2 ⟨h, fun x hx => ?_⟩
        apply Classical.byContradiction
        intro h4
        exact h3 ⟨x, by unfold cnt upTo; exact List.mem_map.2 ⟨x, List.mem_range.2 hx, rfl⟩, by rw [Int.toNat_natCast, decide_eq_false h4]; rfl⟩
    unfold mapB
    by_cases hA : MapA t.length m l n k c
    · rw [decide_eq_true hA]
      cases hb : ((cnt t.length).any fun x => !decide (MapP l k n c x.toNat)) with
      | true => exact absurd hA (key.1 hb)
      | false => rfl
    · rw [decide_eq_false hA, key.2 hA]; rfl
  · exact (by unfold mapB; rw [decide_eq_false fun q => h q.1]; rfl)
theorem implMapsOfModules (t : List (List Int)) (m : Int) (l : List Int) (n : Int) (k : List Int) : Spec Try.prog 49 [.agg [.rds (II t)], .agg [.v (.int .i64 m), .rd (I l)], .agg [.v (.int .i64 n), .rd (I k)]] (.tup [.own 0, .v (.int .i64 (codeM t [(m, l), (n, k)]))]) [.row 2 (I (mapsL t m l n k))] := by
  refine Spec.of_codeC T_ok Try.func49 rfl Try.ntmps49 Try.call49 (Nat.le_of_ble_eq_true rfl) rfl rfl (CodeV_sound T_ok (by kernel_rfl) rfl ?_)
  simp only [Try.results49, go_sem, Nat.reduceMul, Nat.reduceLeDiff, Nat.reduceLT, reduceIte, reduceCtorEq, Nat.reduceEqDiff, Nat.reduceSub, Nat.reduceAdd]
  refine HereO.opP T_ok (OpP.buildA sl2_94 (MM [(m, l), (n, k)]) rfl rfl (by decide) (by decide) rfl rfl) ?_
  simp only [Try.results49, go_sem, Nat.reduceMul, Nat.reduceLeDiff, Nat.reduceLT, reduceIte, reduceCtorEq, Nat.reduceEqDiff, Nat.reduceSub, Nat.reduceAdd]
  refine HereO.call T_ok rfl rfl (moduleCode_spec t [(m, l), (n, k)] (by simp) (by simp)) (by simp only [go_sem, Nat.reduceMul, Nat.reduceLeDiff, Nat.reduceLT, reduceIte, reduceCtorEq, Nat.reduceEqDiff, Nat.reduceSub, Nat.reduceAdd, List.toList_toArray]) rfl ?_
  simp only [Try.results49, go_sem, Nat.reduceMul, Nat.reduceLeDiff, Nat.reduceLT, reduceIte, reduceCtorEq, Nat.reduceEqDiff, Nat.reduceSub, Nat.reduceAdd]
  refine ⟨fun h => ?_, fun h => ?_⟩
  · refine RetC.conv (Conv.nilAt 6 150 (.row 2 []) (by decide) rfl) (RetC.of (RetT.one 150 (by simp only [Try.results49, go_sem, Nat.reduceMul, Nat.reduceLeDiff, Nat.reduceLT, reduceIte, reduceCtorEq, Nat.reduceEqDiff, Nat.reduceSub, Nat.reduceAdd]; rfl) (by simp only [Try.results49, go_sem, Nat.reduceMul, Nat.reduceLeDiff, Nat.reduceLT, reduceIte, reduceCtorEq, Nat.reduceEqDiff, Nat.reduceSub, Nat.reduceAdd]) (by simp only [Try.results49, go_sem, Nat.reduceMul, Nat.reduceLeDiff, Nat.reduceLT, reduceIte, reduceCtorEq, Nat.reduceEqDiff, Nat.reduceSub, Nat.reduceAdd]; simp [mapsL, h, I])))
  · obtain ⟨hg, hm, hn⟩ := codeM2_ok h
    have h8 := hg.2.1
    have hml := hm.2.1
    have hnl := hn.2.1
    have hm12 := hm.1
    have hn12 := hn.1
    have hmg := units_ge hm
    have hng := units_ge hn
    obtain ⟨N, rfl⟩ : ∃ N : Nat, n = N := ⟨n.toNat, by omega⟩
    refine HereO.callOwn T_ok 19 rfl rfl (counting_spec N (by omega)) (by simp only [go_sem, Nat.reduceMul, Nat.reduceLeDiff, Nat.reduceLT, reduceIte, reduceCtorEq, Nat.reduceEqDiff, Nat.reduceSub, Nat.reduceAdd, List.toList_toArray]) rfl (by simp) rfl ?_
    simp only [Try.results49, go_sem, Nat.reduceMul, Nat.reduceLeDiff, Nat.reduceLT, reduceIte, reduceCtorEq, Nat.reduceEqDiff, Nat.reduceSub, Nat.reduceAdd]
    have hdel := DeleteFunc_spec (cnt N) 92 [.box [.v (.int .i64 m), .rd (I l)], .box [.v (.int .i64 N), .rd (I k)], .box [.rds (II t)]] (Fix.cons (Fix.box (Fix.cons (Fix.v _) (Fix.rd _))) (Fix.cons (Fix.box (Fix.cons (Fix.v _) (Fix.rd _))) (Fix.box (Fix.rds _)))) (fun x => !mapB t.length m l N k x) (fun j hj => by
      rw [cnt_get hj]
      rw [cnt_len] at hj
      exact Maps1_spec t m l N k j h8 hn12 hm12 hmg hng ⟨by omega, by omega⟩ hml hnl) (by rw [cnt_len]; omega)
    simp only [Bool.not_not] at hdel
    have hf : (cnt N).filter (fun x => mapB t.length m l N k x) = mapsL t m l N k := by unfold mapsL; rw [if_pos h, Int.toNat_natCast]
    rw [hf] at hdel
    refine HereO.callM T_ok 21 [1304] rfl rfl hdel (by simp only [go_sem, Nat.reduceMul, Nat.reduceLeDiff, Nat.reduceLT, reduceIte, reduceCtorEq, Nat.reduceEqDiff, Nat.reduceSub, Nat.reduceAdd, List.toList_toArray, ↓reduceIte]) rfl (by decide) (by decide) rfl rfl rfl (Nat.le_of_ble_eq_true rfl) ?_
    simp only [Try.results49, go_sem, Nat.reduceMul, Nat.reduceLeDiff, Nat.reduceLT, reduceIte, reduceCtorEq, Nat.reduceEqDiff, Nat.reduceSub, Nat.reduceAdd]
    refine RetC.of (RetT.one 1337 (by simp only [Try.results49, go_sem, Nat.reduceMul, Nat.reduceLeDiff, Nat.reduceLT, reduceIte, reduceCtorEq, Nat.reduceEqDiff, Nat.reduceSub, Nat.reduceAdd]; rfl) (by simp only [Try.results49, go_sem, Nat.reduceMul, Nat.reduceLeDiff, Nat.reduceLT, reduceIte, reduceCtorEq, Nat.reduceEqDiff, Nat.reduceSub, Nat.reduceAdd]; simp [h]) (by simp only [Try.results49, go_sem, Nat.reduceMul, Nat.reduceLeDiff, Nat.reduceLT, reduceIte, reduceCtorEq, Nat.reduceEqDiff, Nat.reduceSub, Nat.reduceAdd]))
theorem l02Map_spec (s : Nat) (m : Int) (l : List Int) (n : Int) (k : List Int) (c : Int) (h8 : s ≤ 8) (hn : 2 ≤ n ∧ n ≤ 12) (hm : 2 ≤ m ∧ m ≤ 12) (hl : ∀ u ∈ l, 1 ≤ u ∧ u < m) (hk : ∀ u ∈ k, 1 ≤ u ∧ u < n) (hc : 0 ≤ c ∧ c ≤ 12) (hll : l.length = s) (hkl : k.length = s) :
    Spec Try.prog 91 [.agg [.v (.int .i64 m), .rd (I l)], .agg [.v (.int .i64 n), .rd (I k)], .v (.int .i64 c)] (.v (.bool (mapB s m l n k c))) [] := by
  have p1 := mul_le12 hc (b := m) (by omega)
  refine Spec.of_code T_ok Try.func91 rfl Try.ntmps91 Try.call91 (Nat.le_of_ble_eq_true rfl) rfl rfl (CodeV_sound T_ok (by kernel_rfl) rfl ?_)
  simp only [Try.results91, go_sem, Nat.reduceMul, Nat.reduceLeDiff, Nat.reduceLT, reduceIte, reduceCtorEq, Nat.reduceEqDiff, Nat.reduceSub, Nat.reduceAdd]
  refine ⟨by unfold InR; omega, by omega, fun h => (decide_eq_false fun q => h q.1).symm, fun h => ?_⟩
  · refine Here.loopV T_ok (fun x => x ≤ l.length ∧ ∀ j, j < x → MapP l k n c j) (fun x => l.length - x) (fun x => [(2, .v (.int .i64 c)), (3, .box [.v (.int .i64 m), .rd (I l)]), (4, .box [.v (.int .i64 n), .rd (I k)]), (7, .v (.int .i64 x))]) (fun _ => []) 0 (by simp) (by simp only [Try.results91, go_sem, Nat.reduceMul, Nat.reduceLeDiff, Nat.reduceLT, reduceIte, reduceCtorEq, Nat.reduceEqDiff, Nat.reduceSub, Nat.reduceAdd]; simp) trivial ?_
    rintro x ⟨hx, hj⟩
    simp only [Try.results91, go_sem, Nat.reduceMul, Nat.reduceLeDiff, Nat.reduceLT, reduceIte, reduceCtorEq, Nat.reduceEqDiff, Nat.reduceSub, Nat.reduceAdd]
    refine ⟨fun h2 => ?_, fun h2 => ?_⟩
    · have u1 := hl (l.getD x 0) (by rw [List.getD_eq_getElem?_getD, List.getElem?_eq_getElem (by omega), Option.getD_some]; exact List.getElem_mem _)
      have u2 := hk (k.getD x 0) (by rw [List.getD_eq_getElem?_getD, List.getElem?_eq_getElem (by omega), Option.getD_some]; exact List.getElem_mem _)
      have q1 := mul_le12 hc (b := l.getD x 0) (by omega)
      have q2 := mul_le12 hc (b := k.getD x 0) (by omega)
      refine Here.draw T_ok mixed_ok (by kernel_rfl) ?_
      simp only [Try.results91, go_sem, Nat.reduceMul, Nat.reduceLeDiff, Nat.reduceLT, reduceIte, reduceCtorEq, Nat.reduceEqDiff, Nat.reduceSub, Nat.reduceAdd]
      refine ⟨⟨by omega, by omega⟩, by unfold InR; omega, by omega, ⟨by omega, by omega⟩, by unfold InR; omega, by omega, fun h3 => ?_, fun h3 => ?_⟩
      · exact (decide_eq_false fun q => h3 (q.2 x (by omega))).symm
      · refine ⟨by unfold InR; omega, x + 1, ⟨by omega, fun j hj' => ?_⟩, by omega, rfl⟩
        by_cases e : j = x
        · rw [e]; exact h3
        · exact hj j (by omega)
    · exact (decide_eq_true ⟨h, fun x' hx' => hj x' (by omega)⟩).symm
theorem specMapsOfModules (t : List (List Int)) (m : Int) (l : List Int) (n : Int) (k : List Int) : Spec Try.prog 48 [.agg [.rds (II t)], .agg [.v (.int .i64 m), .rd (I l)], .agg [.v (.int .i64 n), .rd (I k)]] (.tup [.own 0, .v (.int .i64 (codeM t [(m, l), (n, k)]))]) [.row 2 (I (mapsL t m l n k))] := by
  refine Spec.of_codeC T_ok Try.func48 rfl Try.ntmps48 Try.call48 (Nat.le_of_ble_eq_true rfl) rfl rfl (CodeV_sound T_ok (by kernel_rfl) rfl ?_)
  simp only [Try.results48, go_sem, Nat.reduceMul, Nat.reduceLeDiff, Nat.reduceLT, reduceIte, reduceCtorEq, Nat.reduceEqDiff, Nat.reduceSub, Nat.reduceAdd]
  refine HereO.opP T_ok (OpP.buildA sl2_94 (MM [(m, l), (n, k)]) rfl rfl (by decide) (by decide) rfl rfl) ?_
  simp only [Try.results48, go_sem, Nat.reduceMul, Nat.reduceLeDiff, Nat.reduceLT, reduceIte, reduceCtorEq, Nat.reduceEqDiff, Nat.reduceSub, Nat.reduceAdd]
  refine HereO.call T_ok rfl rfl (l02Code_spec t [(m, l), (n, k)] (by simp)) (by simp only [go_sem, Nat.reduceMul, Nat.reduceLeDiff, Nat.reduceLT, reduceIte, reduceCtorEq, Nat.reduceEqDiff, Nat.reduceSub, Nat.reduceAdd, List.toList_toArray]) rfl ?_
  simp only [Try.results48, go_sem, Nat.reduceMul, Nat.reduceLeDiff, Nat.reduceLT, reduceIte, reduceCtorEq, Nat.reduceEqDiff, Nat.reduceSub, Nat.reduceAdd]
  refine ⟨fun h => ?_, fun h => ?_⟩
  · refine RetC.conv (Conv.nilAt 6 150 (.row 2 []) (by decide) rfl) (RetC.of (RetT.one 150 (by simp only [Try.results48, go_sem, Nat.reduceMul, Nat.reduceLeDiff, Nat.reduceLT, reduceIte, reduceCtorEq, Nat.reduceEqDiff, Nat.reduceSub, Nat.reduceAdd]; rfl) (by simp only [Try.results48, go_sem, Nat.reduceMul, Nat.reduceLeDiff, Nat.reduceLT, reduceIte, reduceCtorEq, Nat.reduceEqDiff, Nat.reduceSub, Nat.reduceAdd]) (by simp only [Try.results48, go_sem, Nat.reduceMul, Nat.reduceLeDiff, Nat.reduceLT, reduceIte, reduceCtorEq, Nat.reduceEqDiff, Nat.reduceSub, Nat.reduceAdd]; simp [mapsL, h, I])))
  · obtain ⟨hg, hm, hn⟩ := codeM2_ok h
    have h8 := hg.2.1
    have hml := hm.2.1
    have hnl := hn.2.1
    have hm12 := hm.1
    have hn12 := hn.1
    have hmg := units_ge hm
    have hng := units_ge hn
    obtain ⟨N, rfl⟩ : ∃ N : Nat, n = N := ⟨n.toNat, by omega⟩
    have hf : (cnt N).filter (mapB t.length m l N k) = mapsL t m l N k := by unfold mapsL; rw [if_pos h, Int.toNat_natCast]
    refine HereO.buildRow T_ok 119 (I []) rfl rfl rfl (by decide) rfl (by simp only [go_sem, Nat.reduceMul, Nat.reduceLeDiff, Nat.reduceLT, reduceIte, reduceCtorEq, Nat.reduceEqDiff, Nat.reduceSub, Nat.reduceAdd] <;> rfl) rfl (by decide) ?_
    simp only [Try.results48, go_sem, Nat.reduceMul, Nat.reduceLeDiff, Nat.reduceLT, reduceIte, reduceCtorEq, Nat.reduceEqDiff, Nat.reduceSub, Nat.reduceAdd]
    refine Here.loopV T_ok (fun c => c ≤ N) (fun c => N - c) (fun c => [(4, .box [.v (.int .i64 m), .rd (I l)]), (5, .box [.v (.int .i64 N), .rd (I k)]), (9, .own 119), (10, .v (.int .i64 c))]) (fun c => [(119, .row 2 (I ((cnt c).filter (mapB t.length m l N k))))]) 0 (by simp) (by simp only [Try.results48, go_sem, Nat.reduceMul, Nat.reduceLeDiff, Nat.reduceLT, reduceIte, reduceCtorEq, Nat.reduceEqDiff, Nat.reduceSub, Nat.reduceAdd]; simp) (by simp only [Try.results48, go_sem, Nat.reduceMul, Nat.reduceLeDiff, Nat.reduceLT, reduceIte, reduceCtorEq, Nat.reduceEqDiff, Nat.reduceSub, Nat.reduceAdd]; simp [cnt, upTo, I]) ?_
    intro c hc
    simp only [Try.results48, go_sem, Nat.reduceMul, Nat.reduceLeDiff, Nat.reduceLT, reduceIte, reduceCtorEq, Nat.reduceEqDiff, Nat.reduceSub, Nat.reduceAdd]
    have hfl := filter_cnt_le (mapB t.length m l N k) c
    have hfc := filter_cnt (mapB t.length m l N k) c
    refine ⟨fun h2 => ?_, fun h2 => ?_⟩
    · refine HereO.call T_ok rfl rfl (l02Map_spec t.length m l N k c h8 hn12 hm12 hmg hng ⟨by omega, by omega⟩ hml hnl) (by simp only [go_sem, Nat.reduceMul, Nat.reduceLeDiff, Nat.reduceLT, reduceIte, reduceCtorEq, Nat.reduceEqDiff, Nat.reduceSub, Nat.reduceAdd, List.toList_toArray]) rfl ?_
      simp only [Try.results48, go_sem, Nat.reduceMul, Nat.reduceLeDiff, Nat.reduceLT, reduceIte, reduceCtorEq, Nat.reduceEqDiff, Nat.reduceSub, Nat.reduceAdd]
      refine ⟨fun h3 => ?_, fun h3 => ?_⟩
      · refine HereO.buildRow T_ok 132 (I [(c : Int)]) rfl rfl rfl (by decide) rfl (by simp only [go_sem, Nat.reduceMul, Nat.reduceLeDiff, Nat.reduceLT, reduceIte, reduceCtorEq, Nat.reduceEqDiff, Nat.reduceSub, Nat.reduceAdd] <;> rfl) rfl (by decide) ?_
        simp only [Try.results48, go_sem, Nat.reduceMul, Nat.reduceLeDiff, Nat.reduceLT, reduceIte, reduceCtorEq, Nat.reduceEqDiff, Nat.reduceSub, Nat.reduceAdd]
        refine HereO.append T_ok (I [(c : Int)]) rfl rfl (by decide) (by simp only [go_sem, Nat.reduceMul, Nat.reduceLeDiff, Nat.reduceLT, reduceIte, reduceCtorEq, Nat.reduceEqDiff, Nat.reduceSub, Nat.reduceAdd] <;> rfl) (by decide) (by simp only [go_sem, Nat.reduceMul, Nat.reduceLeDiff, Nat.reduceLT, reduceIte, reduceCtorEq, Nat.reduceEqDiff, Nat.reduceSub, Nat.reduceAdd] <;> rfl) (by simp only [go_sem, Nat.reduceMul, Nat.reduceLeDiff, Nat.reduceLT, reduceIte, reduceCtorEq, Nat.reduceEqDiff, Nat.reduceSub, Nat.reduceAdd] <;> rfl) (.own 132 _ _ (by decide) (by simp only [go_sem, Nat.reduceMul, Nat.reduceLeDiff, Nat.reduceLT, reduceIte, reduceCtorEq, Nat.reduceEqDiff, Nat.reduceSub, Nat.reduceAdd] <;> rfl)) (I_one _) (by rw [I_len, I_len]; simp; omega) ?_
        simp only [Try.results48, go_sem, Nat.reduceMul, Nat.reduceLeDiff, Nat.reduceLT, reduceIte, reduceCtorEq, Nat.reduceEqDiff, Nat.reduceSub, Nat.reduceAdd]
        exact ⟨by unfold InR; omega, c + 1, by omega, by omega, by simp, by rw [I_append, hfc, h3]; simp⟩
      · exact ⟨by unfold InR; omega, c + 1, by omega, by omega, by simp, by rw [hfc, h3]; simp⟩
    · have : c = N := by omega
      subst this
      rw [hf]
      refine RetC.of (RetT.one 119 (by simp only [Try.results48, go_sem, Nat.reduceMul, Nat.reduceLeDiff, Nat.reduceLT, reduceIte, reduceCtorEq, Nat.reduceEqDiff, Nat.reduceSub, Nat.reduceAdd]; rfl) (by simp only [Try.results48, go_sem, Nat.reduceMul, Nat.reduceLeDiff, Nat.reduceLT, reduceIte, reduceCtorEq, Nat.reduceEqDiff, Nat.reduceSub, Nat.reduceAdd]; simp [h]) (by simp only [Try.results48, go_sem, Nat.reduceMul, Nat.reduceLeDiff, Nat.reduceLT, reduceIte, reduceCtorEq, Nat.reduceEqDiff, Nat.reduceSub, Nat.reduceAdd]))
end Go.Proofs.Ytcamdgkjijepeaa
