/- Contracts: MapsOfModules. -/
import Derived.Test.YtcjhojdlfnpgjaaDd
namespace Go.Proofs.Ytcjhojdlfnpgjaa
open Go.RowKit
set_option linter.unusedVariables false
set_option linter.unusedSimpArgs false
set_option maxRecDepth 100000

theorem codeM2_ok {t : List (List Int)} {m n : Int} {l k : List Int} (h : codeM t [(m, l), (n, k)] = 0) : Grp t ∧ Mod t m l ∧ Mod t n k := by
  unfold codeM at h
  split at h
  · rename_i q; exact ⟨q.1, q.2 (m, l) (by simp), q.2 (n, k) (by simp)⟩
  · omega
def MapP (l k : List Int) (n c : Int) (x : Nat) : Prop := (c * l.getD x 0).tmod n = (c * k.getD x 0).tmod n
instance (l k : List Int) (n c : Int) (x : Nat) : Decidable (MapP l k n c x) := by unfold MapP; infer_instance
def MapA (s : Nat) (m : Int) (l : List Int) (n : Int) (k : List Int) (c : Int) : Prop := (c * m).tmod n = 0 ∧ ∀ x, x < s → MapP l k n c x
instance (s : Nat) (m : Int) (l : List Int) (n : Int) (k : List Int) (c : Int) : Decidable (MapA s m l n k c) := by unfold MapA; infer_instance
def mapB (s : Nat) (m : Int) (l : List Int) (n : Int) (k : List Int) (c : Int) : Bool := decide (MapA s m l n k c)
def mapsL (t : List (List Int)) (m : Int) (l : List Int) (n : Int) (k : List Int) : List Int := if codeM t [(m, l), (n, k)] = 0 then (cnt n.toNat).filter (mapB t.length m l n k) else []
theorem mapsL_ok (t : List (List Int)) (m : Int) (l : List Int) (n : Int) (k : List Int) : (mapsL t m l n k).length ≤ 1048576 := by
  unfold mapsL
  split
  · rename_i h
    have hm := (codeM2_ok h).2.2.1
    have := filter_cnt_le (mapB t.length m l n k) n.toNat
    omega
  · simp
theorem mul_le12 {a b : Int} (ha : 0 ≤ a ∧ a ≤ 12) (hb : 0 ≤ b ∧ b ≤ 12) : 0 ≤ a * b ∧ a * b ≤ 144 := ⟨Int.mul_nonneg ha.1 hb.1, Int.le_trans (Int.mul_le_mul ha.2 hb.2 hb.1 (by omega)) (by decide)⟩
theorem sub_tmod {a b n : Int} (ha : 0 ≤ a) (hb : 0 ≤ b) : (a - b).tmod n = 0 ↔ a.tmod n = b.tmod n := by
  rw [tmod_nn ha, tmod_nn hb, ← Int.dvd_iff_tmod_eq_zero, Int.emod_eq_emod_iff_emod_sub_eq_zero, Int.dvd_iff_emod_eq_zero]

theorem Maps11_spec (m : Int) (l : List Int) (n : Int) (k : List Int) (c : Int) (x : Nat) (hn : 2 ≤ n ∧ n ≤ 12) (hm : 2 ≤ m ∧ m ≤ 12) (hl : ∀ u ∈ l, 1 ≤ u ∧ u < m) (hk : ∀ u ∈ k, 1 ≤ u ∧ u < n) (hc : 0 ≤ c ∧ c ≤ 12) (hx : x < l.length) (hx2 : x < k.length) :
    Spec Try.prog 43 [.v (.int .i64 x), .box [.v (.int .i64 c)], .box [.v (.int .i64 m), .rd (I l)], .box [.v (.int .i64 n), .rd (I k)]] (.v (.bool (!decide (MapP l k n c x)))) [] := by
  have u1 := hl (l.getD x 0) (by rw [List.getD_eq_getElem?_getD, List.getElem?_eq_getElem hx, Option.getD_some]; exact List.getElem_mem _)
  have u2 := hk (k.getD x 0) (by rw [List.getD_eq_getElem?_getD, List.getElem?_eq_getElem hx2, Option.getD_some]; exact List.getElem_mem _)
  have p1 := mul_le12 hc (b := l.getD x 0) (by omega)
  have p2 := mul_le12 hc (b := k.getD x 0) (by omega)
  refine Spec.of_code T_ok Try.func43 rfl Try.ntmps43 Try.call43 (Nat.le_of_ble_eq_true rfl) rfl rfl (CodeV_sound T_ok (by kernel_rfl) rfl ?_)
  simp only [Try.results43, go_sem, Nat.reduceMul, Nat.reduceLeDiff, Nat.reduceLT, reduceIte, reduceCtorEq, Nat.reduceEqDiff, Nat.reduceSub, Nat.reduceAdd]
  refine Here.draw T_ok mixed_ok (by kernel_rfl) ?_
  simp only [Try.results43, go_sem, Nat.reduceMul, Nat.reduceLeDiff, Nat.reduceLT, reduceIte, reduceCtorEq, Nat.reduceEqDiff, Nat.reduceSub, Nat.reduceAdd]
  refine ⟨⟨by omega, by omega⟩, by unfold InR; omega, ⟨by omega, by omega⟩, by unfold InR; omega, by unfold InR; omega, by omega, ?_⟩
  have := sub_tmod (n := n) p1.1 p2.1
  by_cases hP : MapP l k n c x
  · rw [decide_eq_true hP, this.2 hP]; rfl
  · rw [decide_eq_false hP]
    simp only [Bool.not_false, bne_iff_ne, ne_eq]
    exact fun q => hP (this.1 q)
theorem Maps1_spec (t : List (List Int)) (m : Int) (l : List Int) (n : Int) (k : List Int) (c : Int) (h8 : t.length ≤ 8) (hn : 2 ≤ n ∧ n ≤ 12) (hm : 2 ≤ m ∧ m ≤ 12) (hl : ∀ u ∈ l, 1 ≤ u ∧ u < m) (hk : ∀ u ∈ k, 1 ≤ u ∧ u < n) (hc : 0 ≤ c ∧ c ≤ 12) (hll : l.length = t.length) (hkl : k.length = t.length) :
    Spec Try.prog 40 [.v (.int .i64 c), .box [.v (.int .i64 m), .rd (I l)], .box [.v (.int .i64 n), .rd (I k)], .box [.rds (II t)]] (.v (.bool (!mapB t.length m l n k c))) [] := by
  have p1 := mul_le12 hc (b := m) (by omega)
  refine Spec.of_code T_ok Try.func40 rfl Try.ntmps40 Try.call40 (Nat.le_of_ble_eq_true rfl) rfl rfl (CodeV_sound T_ok (by kernel_rfl) rfl ?_)
  simp only [Try.results40, go_sem, Nat.reduceMul, Nat.reduceLeDiff, Nat.reduceLT, reduceIte, reduceCtorEq, Nat.reduceEqDiff, Nat.reduceSub, Nat.reduceAdd]
  refine ⟨by unfold InR; omega, by omega, fun h => ?_, fun h => ?_⟩
  · refine HereO.call T_ok rfl rfl (order_spec t) (by simp only [go_sem, Nat.reduceMul, Nat.reduceLeDiff, Nat.reduceLT, reduceIte, reduceCtorEq, Nat.reduceEqDiff, Nat.reduceSub, Nat.reduceAdd, List.toList_toArray] <;> first | rfl | exact ⟨rfl, rfl⟩) rfl ?_
    simp only [Try.results40, go_sem, Nat.reduceMul, Nat.reduceLeDiff, Nat.reduceLT, reduceIte, reduceCtorEq, Nat.reduceEqDiff, Nat.reduceSub, Nat.reduceAdd]
    refine HereO.callOwn T_ok 17 rfl rfl (counting_spec t.length (by omega)) (by simp only [go_sem, Nat.reduceMul, Nat.reduceLeDiff, Nat.reduceLT, reduceIte, reduceCtorEq, Nat.reduceEqDiff, Nat.reduceSub, Nat.reduceAdd, List.toList_toArray] <;> first | rfl | exact ⟨rfl, rfl⟩) rfl (by simp) rfl ?_
    simp only [Try.results40, go_sem, Nat.reduceMul, Nat.reduceLeDiff, Nat.reduceLT, reduceIte, reduceCtorEq, Nat.reduceEqDiff, Nat.reduceSub, Nat.reduceAdd]
    refine HereO.call T_ok rfl rfl (ContainsFunc_spec (cnt t.length) 43 [.box [.v (.int .i64 c)], .box [.v (.int .i64 m), .rd (I l)], .box [.v (.int .i64 n), .rd (I k)]] (Fix.cons (Fix.box (Fix.v _)) (Fix.cons (Fix.box (Fix.cons (Fix.v _) (Fix.rd _))) (Fix.box (Fix.cons (Fix.v _) (Fix.rd _))))) (fun x => !decide (MapP l k n c x.toNat)) (fun j hj => by
      rw [cnt_get hj]
      rw [cnt_len] at hj
      exact Maps11_spec m l n k c j hn hm hl hk hc (by omega) (by omega)) (by rw [cnt_len]; omega)) (by simp only [go_sem, Nat.reduceMul, Nat.reduceLeDiff, Nat.reduceLT, reduceIte, reduceCtorEq, Nat.reduceEqDiff, Nat.reduceSub, Nat.reduceAdd, List.toList_toArray] <;> first | rfl | exact ⟨rfl, rfl⟩) rfl ?_
    simp only [Try.results40, go_sem, Nat.reduceMul, Nat.reduceLeDiff, Nat.reduceLT, reduceIte, reduceCtorEq, Nat.reduceEqDiff, Nat.reduceSub, Nat.reduceAdd]
    have key : ((cnt t.length).any fun x => !decide (MapP l k n c x.toNat)) = true ↔ ¬ MapA t.length m l n k c := by
      rw [List.any_eq_true]
      constructor
      · rintro ⟨x, hx, h2⟩
        obtain ⟨a, ha, rfl⟩ : ∃ a : Nat, a < t.length ∧ x = a := by
          unfold cnt upTo at hx
          obtain ⟨a, ha, rfl⟩ := List.mem_map.1 hx
          exact ⟨a, List.mem_range.1 ha, rfl⟩
        intro q
        rw [Int.toNat_natCast, decide_eq_true (q.2 a ha)] at h2
        cases h2
      · intro h2
        apply Classical.byContradiction
        intro h3
        refine h2 ⟨h, fun x hx => ?_⟩
        apply Classical.byContradiction
        intro h4
        exact h3 ⟨x, by unfold cnt upTo; exact List.mem_map.2 ⟨x, List.mem_range.2 hx, rfl⟩, by rw [Int.toNat_natCast, decide_eq_false h4]; rfl⟩
    unfold mapB
    by_cases hA : MapA t.length m l n k c
    · rw [decide_eq_true hA]
      cases hb : ((cnt t.length).any fun x => !decide (MapP l k n c x.toNat)) with
      | true => exact absurd hA (key.1 hb)
      | false => rfl
    · rw [decide_eq_false hA, key.2 hA]; rfl
  · exact (by unfold mapB; rw [decide_eq_false fun q => h q.1]; rfl)
theorem implMapsOfModules (t : List (List Int)) (m : Int) (l : List Int) (n : Int) (k : List Int) : Spec Try.prog 13 [.agg [.rds (II t)], .agg [.v (.int .i64 m), .rd (I l)], .agg [.v (.int .i64 n), .rd (I k)]] (.tup [.own 0, .v (.int .i64 (codeM t [(m, l), (n, k)]))]) [.row 2 (I (mapsL t m l n k))] := by
  refine Spec.of_codeC T_ok Try.func13 rfl Try.ntmps13 Try.call13 (Nat.le_of_ble_eq_true rfl) rfl rfl (CodeV_sound T_ok (by kernel_rfl) rfl ?_)
  simp only [Try.results13, go_sem, Nat.reduceMul, Nat.reduceLeDiff, Nat.reduceLT, reduceIte, reduceCtorEq, Nat.reduceEqDiff, Nat.reduceSub, Nat.reduceAdd]
  refine HereO.opP T_ok (OpP.buildA sl2_73 (MM [(m, l), (n, k)]) rfl rfl (by decide) (by decide) rfl rfl) ?_
  simp only [Try.results13, go_sem, Nat.reduceMul, Nat.reduceLeDiff, Nat.reduceLT, reduceIte, reduceCtorEq, Nat.reduceEqDiff, Nat.reduceSub, Nat.reduceAdd]
  refine HereO.call T_ok rfl rfl (moduleCode_spec t [(m, l), (n, k)] (by simp) (by simp)) (by simp only [go_sem, Nat.reduceMul, Nat.reduceLeDiff, Nat.reduceLT, reduceIte, reduceCtorEq, Nat.reduceEqDiff, Nat.reduceSub, Nat.reduceAdd, List.toList_toArray] <;> first | rfl | exact ⟨rfl, rfl⟩) rfl ?_
  simp only [Try.results13, go_sem, Nat.reduceMul, Nat.reduceLeDiff, Nat.reduceLT, reduceIte, reduceCtorEq, Nat.reduceEqDiff, Nat.reduceSub, Nat.reduceAdd]
  refine ⟨fun h => ?_, fun h => ?_⟩
  · refine RetC.conv (Conv.nilAt 6 150 (.row 2 []) (by decide) rfl) (RetC.of (RetT.one 150 (by simp only [Try.results13, go_sem, Nat.reduceMul, Nat.reduceLeDiff, Nat.reduceLT, reduceIte, reduceCtorEq, Nat.reduceEqDiff, Nat.reduceSub, Nat.reduceAdd]; rfl) (by simp only [Try.results13, go_sem, Nat.reduceMul, Nat.reduceLeDiff, Nat.reduceLT, reduceIte, reduceCtorEq, Nat.reduceEqDiff, Nat.reduceSub, Nat.reduceAdd]) (by simp only [Try.results13, go_sem, Nat.reduceMul, Nat.reduceLeDiff, Nat.reduceLT, reduceIte, reduceCtorEq, Nat.reduceEqDiff, Nat.reduceSub, Nat.reduceAdd]; simp [mapsL, h, I])))
  · obtain ⟨hg, hm, hn⟩ := codeM2_ok h
    have h8 := hg.2.1
    have hml := hm.2.1
    have hnl := hn.2.1
    have hm12 := hm.1
    have hn12 := hn.1
    have hmg := units_ge hm
    have hng := units_ge hn
    obtain ⟨N, rfl⟩ : ∃ N : Nat, n = N := ⟨n.toNat, by omega⟩
    refine HereO.callOwn T_ok 19 rfl rfl (counting_spec N (by omega)) (by simp only [go_sem, Nat.reduceMul, Nat.reduceLeDiff, Nat.reduceLT, reduceIte, reduceCtorEq, Nat.reduceEqDiff, Nat.reduceSub, Nat.reduceAdd, List.toList_toArray] <;> first | rfl | exact ⟨rfl, rfl⟩) rfl (by simp) rfl ?_
    simp only [Try.results13, go_sem, Nat.reduceMul, Nat.reduceLeDiff, Nat.reduceLT, reduceIte, reduceCtorEq, Nat.reduceEqDiff, Nat.reduceSub, Nat.reduceAdd]
    have hdel := DeleteFunc_spec (cnt N) 40 [.box [.v (.int .i64 m), .rd (I l)], .box [.v (.int .i64 N), .rd (I k)], .box [.rds (II t)]] (Fix.cons (Fix.box (Fix.cons (Fix.v _) (Fix.rd _))) (Fix.cons (Fix.box (Fix.cons (Fix.v _) (Fix.rd _))) (Fix.box (Fix.rds _)))) (fun x => !mapB t.length m l N k x) (fun j hj => by
      rw [cnt_get hj]
      rw [cnt_len] at hj
      exact Maps1_spec t m l N k j h8 hn12 hm12 hmg hng ⟨by omega, by omega⟩ hml hnl) (by rw [cnt_len]; omega)
    simp only [Bool.not_not] at hdel
    have hf : (cnt N).filter (fun x => mapB t.length m l N k x) = mapsL t m l N k := by unfold mapsL; rw [if_pos h, Int.toNat_natCast]
    rw [hf] at hdel
    refine HereO.callM T_ok 21 [1304] rfl rfl hdel (by simp only [go_sem, Nat.reduceMul, Nat.reduceLeDiff, Nat.reduceLT, reduceIte, reduceCtorEq, Nat.reduceEqDiff, Nat.reduceSub, Nat.reduceAdd, List.toList_toArray, ↓reduceIte]) rfl (by decide) (by decide) rfl rfl rfl (Nat.le_of_ble_eq_true rfl) ?_
    simp only [Try.results13, go_sem, Nat.reduceMul, Nat.reduceLeDiff, Nat.reduceLT, reduceIte, reduceCtorEq, Nat.reduceEqDiff, Nat.reduceSub, Nat.reduceAdd]
    refine RetC.of (RetT.one 1337 (by simp only [Try.results13, go_sem, Nat.reduceMul, Nat.reduceLeDiff, Nat.reduceLT, reduceIte, reduceCtorEq, Nat.reduceEqDiff, Nat.reduceSub, Nat.reduceAdd]; rfl) (by simp only [Try.results13, go_sem, Nat.reduceMul, Nat.reduceLeDiff, Nat.reduceLT, reduceIte, reduceCtorEq, Nat.reduceEqDiff, Nat.reduceSub, Nat.reduceAdd]; simp [h]) (by simp only [Try.results13, go_sem, Nat.reduceMul, Nat.reduceLeDiff, Nat.reduceLT, reduceIte, reduceCtorEq, Nat.reduceEqDiff, Nat.reduceSub, Nat.reduceAdd]))
end Go.Proofs.Ytcjhojdlfnpgjaa
