/- Contracts: cosets, quotients, QuotientOf. -/
import Derived.Test.YtdbkiomhoonclaaSg
import Derived.Test.YtdbkiomhoonclaaDi
namespace Go.Proofs.Ytdbkiomhoonclaa
open Go.RowKit
set_option linter.unusedVariables false
set_option linter.unusedSimpArgs false
set_option maxRecDepth 100000

theorem cosIn_0 (t : List (List Int)) (h : List Int) (a : Nat) (k : Int) (num : List Int) : cosIn t (h.take 0) a k num = num := rfl
theorem cosN_pass {t : List (List Int)} {h : List Int} {a : Nat} (q : 0 ≤ (cosN t h a).2.getD a 0) : cosN t h (a + 1) = cosN t h a := by rw [cosN, cosStep, if_pos q]
theorem cosN_new {t : List (List Int)} {h : List Int} {a : Nat} (q : ¬ 0 ≤ (cosN t h a).2.getD a 0) : cosN t h (a + 1) = ((cosN t h a).1 ++ [(a : Int)], cosIn t h a (cosN t h a).1.length (cosN t h a).2) := by rw [cosN, cosStep, if_neg q]
theorem cosets_spec (t : List (List Int)) (hg : Grp t) (h : List Int) (hh : AreIn t.length h) (h0 : (0 : Int) ∈ h) (hl : h.length ≤ 1048576) : Spec Try.prog 90 [.agg [.rds (II t)], .rd (I h)] (.tup [.own 0, .own 1]) [.row 2 (I (cosN t h t.length).1), .row 2 (I (cosN t h t.length).2)] := by
  have h8 := hg.2.1
  have h1 := hg.1
  refine Spec.of_code T_ok Try.func90 rfl Try.ntmps90 Try.call90 (Nat.le_of_ble_eq_true rfl) rfl rfl (CodeV_sound T_ok (by kernel_rfl) rfl ?_)
  simp only [Try.results90, go_sem, Nat.reduceMul, Nat.reduceLeDiff, Nat.reduceLT, reduceIte, reduceCtorEq, Nat.reduceEqDiff, Nat.reduceSub, Nat.reduceAdd]
  refine HereO.buildRow T_ok 111 (I []) rfl rfl rfl (by decide) rfl (by first | rfl | (simp only [go_sem, Nat.reduceMul, Nat.reduceLeDiff, Nat.reduceLT, reduceIte, reduceCtorEq, Nat.reduceEqDiff, Nat.reduceSub, Nat.reduceAdd] <;> rfl)) rfl (by decide) ?_
  simp only [Try.results90, go_sem, Nat.reduceMul, Nat.reduceLeDiff, Nat.reduceLT, reduceIte, reduceCtorEq, Nat.reduceEqDiff, Nat.reduceSub, Nat.reduceAdd]
  refine HereO.buildRow T_ok 112 (I [(-1 : Int)]) rfl rfl rfl (by decide) rfl (by first | rfl | (simp only [go_sem, Nat.reduceMul, Nat.reduceLeDiff, Nat.reduceLT, reduceIte, reduceCtorEq, Nat.reduceEqDiff, Nat.reduceSub, Nat.reduceAdd] <;> rfl)) rfl (by decide) ?_
  simp only [Try.results90, go_sem, Nat.reduceMul, Nat.reduceLeDiff, Nat.reduceLT, reduceIte, reduceCtorEq, Nat.reduceEqDiff, Nat.reduceSub, Nat.reduceAdd]
  refine HereO.callOwn T_ok 16 rfl rfl (Repeat_spec (-1) t.length h1 h8) (by simp only [go_sem, Nat.reduceMul, Nat.reduceLeDiff, Nat.reduceLT, reduceIte, reduceCtorEq, Nat.reduceEqDiff, Nat.reduceSub, Nat.reduceAdd, List.toList_toArray] <;> first | rfl | exact ⟨rfl, rfl⟩) rfl (by simp) rfl ?_
  simp only [Try.results90, go_sem, Nat.reduceMul, Nat.reduceLeDiff, Nat.reduceLT, reduceIte, reduceCtorEq, Nat.reduceEqDiff, Nat.reduceSub, Nat.reduceAdd]
  refine HereO.call T_ok rfl rfl (order_spec t) (by simp only [go_sem, Nat.reduceMul, Nat.reduceLeDiff, Nat.reduceLT, reduceIte, reduceCtorEq, Nat.reduceEqDiff, Nat.reduceSub, Nat.reduceAdd, List.toList_toArray] <;> first | rfl | exact ⟨rfl, rfl⟩) rfl ?_
  simp only [Try.results90, go_sem, Nat.reduceMul, Nat.reduceLeDiff, Nat.reduceLT, reduceIte, reduceCtorEq, Nat.reduceEqDiff, Nat.reduceSub, Nat.reduceAdd]
  refine Here.loopV T_ok (fun a => a ≤ t.length) (fun a => t.length - a) (fun a => [(1, .rd (I h)), (2, .box [.rds (II t)]), (6, .own 111), (7, .own 1256), (18, .v (.int .i64 t.length)), (19, .v (.int .i64 a))]) (fun a => [(111, .row 2 (I (cosN t h a).1)), (1256, .row 2 (I (cosN t h a).2))]) 0 (by simp) (by simp only [Try.results90, go_sem, Nat.reduceMul, Nat.reduceLeDiff, Nat.reduceLT, reduceIte, reduceCtorEq, Nat.reduceEqDiff, Nat.reduceSub, Nat.reduceAdd]; simp) (by simp only [Try.results90, go_sem, Nat.reduceMul, Nat.reduceLeDiff, Nat.reduceLT, reduceIte, reduceCtorEq, Nat.reduceEqDiff, Nat.reduceSub, Nat.reduceAdd]; simp [cosN, I]) ?_
  intro a ha
  have hlen := cosN_len t h a
  obtain ⟨c1, c2, c3, c4⟩ := cosN_ok hg hh h0 a ha
  simp only [Try.results90, go_sem, Nat.reduceMul, Nat.reduceLeDiff, Nat.reduceLT, reduceIte, reduceCtorEq, Nat.reduceEqDiff, Nat.reduceSub, Nat.reduceAdd]
  refine ⟨fun h2 => ?_, fun h2 => ?_⟩
  · refine ⟨⟨by omega, by omega⟩, by omega, fun h3 => ⟨by unfold InR; omega, a + 1, by omega, by omega, by push_cast; rfl, by rw [cosN_pass h3], by rw [cosN_pass h3]⟩, fun h3 => ?_⟩
    refine Here.loopV T_ok (fun i => i ≤ h.length) (fun i => h.length - i) (fun i => [(1, .rd (I h)), (2, .box [.rds (II t)]), (6, .own 111), (7, .own 1256), (8, .v (.int .i64 a)), (18, .v (.int .i64 t.length)), (19, .v (.int .i64 a)), (27, .rd (I h)), (28, .v (.int .i64 h.length)), (29, .v (.int .i64 i))]) (fun i => [(111, .row 2 (I (cosN t h a).1)), (1256, .row 2 (I (cosIn t (h.take i) a (cosN t h a).1.length (cosN t h a).2)))]) 0 (by simp) (by simp only [Try.results90, go_sem, Nat.reduceMul, Nat.reduceLeDiff, Nat.reduceLT, reduceIte, reduceCtorEq, Nat.reduceEqDiff, Nat.reduceSub, Nat.reduceAdd]; simp) (by simp only [Try.results90, go_sem, Nat.reduceMul, Nat.reduceLeDiff, Nat.reduceLT, reduceIte, reduceCtorEq, Nat.reduceEqDiff, Nat.reduceSub, Nat.reduceAdd]; simp [cosIn]) ?_
    intro i hi
    have hlen2 : (cosIn t (h.take i) a (cosN t h a).1.length (cosN t h a).2).length = t.length := by rw [cosIn_len, hlen]
    simp only [Try.results90, go_sem, Nat.reduceMul, Nat.reduceLeDiff, Nat.reduceLT, reduceIte, reduceCtorEq, Nat.reduceEqDiff, Nat.reduceSub, Nat.reduceAdd]
    refine ⟨fun h4 => ?_, fun h4 => ?_⟩
    · have hx := hh i (by omega)
      obtain ⟨x, hxe⟩ := Int.eq_ofNat_of_zero_le hx.1
      have hxl : x < t.length := by omega
      have hem := em_lt hg (a := a) (b := x) (by omega) hxl
      refine ⟨⟨by omega, by omega⟩, ?_⟩
      rw [hxe]
      refine HereO.buildRow T_ok 137 (I [(a : Int), (x : Int)]) rfl rfl rfl (by decide) rfl (by first | rfl | (simp only [go_sem, Nat.reduceMul, Nat.reduceLeDiff, Nat.reduceLT, reduceIte, reduceCtorEq, Nat.reduceEqDiff, Nat.reduceSub, Nat.reduceAdd] <;> rfl)) rfl (by decide) ?_
      simp only [Try.results90, go_sem, Nat.reduceMul, Nat.reduceLeDiff, Nat.reduceLT, reduceIte, reduceCtorEq, Nat.reduceEqDiff, Nat.reduceSub, Nat.reduceAdd]
      refine HereO.call T_ok rfl rfl (times2_spec t hg a x (by omega) hxl) (by simp only [go_sem, Nat.reduceMul, Nat.reduceLeDiff, Nat.reduceLT, reduceIte, reduceCtorEq, Nat.reduceEqDiff, Nat.reduceSub, Nat.reduceAdd, List.toList_toArray] <;> first | rfl | exact ⟨rfl, rfl⟩) rfl ?_
      simp only [Try.results90, go_sem, Nat.reduceMul, Nat.reduceLeDiff, Nat.reduceLT, reduceIte, reduceCtorEq, Nat.reduceEqDiff, Nat.reduceSub, Nat.reduceAdd]
      refine ⟨⟨by omega, by omega⟩, ?_⟩
      refine HereO.storeRow T_ok (vs := I (cosIn t (h.take i) a (cosN t h a).1.length (cosN t h a).2)) (u := .int .i64 (cosN t h a).1.length) rfl (by simp only [go_sem, Nat.reduceMul, Nat.reduceLeDiff, Nat.reduceLT, reduceIte, reduceCtorEq, Nat.reduceEqDiff, Nat.reduceSub, Nat.reduceAdd] <;> rfl) (by simp only [go_sem, Nat.reduceMul, Nat.reduceLeDiff, Nat.reduceLT, reduceIte, reduceCtorEq, Nat.reduceEqDiff, Nat.reduceSub, Nat.reduceAdd] <;> rfl) rfl (by simp only [go_sem, Nat.reduceMul, Nat.reduceLeDiff, Nat.reduceLT, reduceIte, reduceCtorEq, Nat.reduceEqDiff, Nat.reduceSub, Nat.reduceAdd] <;> rfl) rfl (by rw [I_len]; omega) ?_
      simp only [Try.results90, go_sem, Nat.reduceMul, Nat.reduceLeDiff, Nat.reduceLT, reduceIte, reduceCtorEq, Nat.reduceEqDiff, Nat.reduceSub, Nat.reduceAdd]
      rw [I_set]
      refine ⟨by unfold InR; omega, i + 1, by omega, by omega, by push_cast; rfl, ?_⟩
      rw [cosIn_snoc (by omega), hxe]
      rfl
    · obtain rfl : i = h.length := by omega
      rw [List.take_length]
      refine HereO.buildRow T_ok 145 (I [(a : Int)]) rfl rfl rfl (by decide) rfl (by first | rfl | (simp only [go_sem, Nat.reduceMul, Nat.reduceLeDiff, Nat.reduceLT, reduceIte, reduceCtorEq, Nat.reduceEqDiff, Nat.reduceSub, Nat.reduceAdd] <;> rfl)) rfl (by decide) ?_
      simp only [Try.results90, go_sem, Nat.reduceMul, Nat.reduceLeDiff, Nat.reduceLT, reduceIte, reduceCtorEq, Nat.reduceEqDiff, Nat.reduceSub, Nat.reduceAdd]
      refine HereO.append T_ok (I [(a : Int)]) rfl rfl (by decide) (by simp only [go_sem, Nat.reduceMul, Nat.reduceLeDiff, Nat.reduceLT, reduceIte, reduceCtorEq, Nat.reduceEqDiff, Nat.reduceSub, Nat.reduceAdd] <;> rfl) (by decide) (by simp only [go_sem, Nat.reduceMul, Nat.reduceLeDiff, Nat.reduceLT, reduceIte, reduceCtorEq, Nat.reduceEqDiff, Nat.reduceSub, Nat.reduceAdd] <;> rfl) (by simp only [go_sem, Nat.reduceMul, Nat.reduceLeDiff, Nat.reduceLT, reduceIte, reduceCtorEq, Nat.reduceEqDiff, Nat.reduceSub, Nat.reduceAdd] <;> rfl) (.own 145 _ _ (by decide) (by simp only [go_sem, Nat.reduceMul, Nat.reduceLeDiff, Nat.reduceLT, reduceIte, reduceCtorEq, Nat.reduceEqDiff, Nat.reduceSub, Nat.reduceAdd] <;> rfl)) (I_one _) (by simp only [I_len, II_len, upTo_len, tab_len, cnt_len, List.length_append, List.length_cons, List.length_nil, List.length_replicate]; omega) ?_
      simp only [Try.results90, go_sem, Nat.reduceMul, Nat.reduceLeDiff, Nat.reduceLT, reduceIte, reduceCtorEq, Nat.reduceEqDiff, Nat.reduceSub, Nat.reduceAdd]
      rw [I_append]
      exact ⟨by unfold InR; omega, a + 1, by omega, by omega, by push_cast; rfl, by rw [cosN_new h3], by rw [cosN_new h3]⟩
  · obtain rfl : a = t.length := by omega
    refine RetT.two 111 1256 (by decide) (by simp only [Try.results90, go_sem, Nat.reduceMul, Nat.reduceLeDiff, Nat.reduceLT, reduceIte, reduceCtorEq, Nat.reduceEqDiff, Nat.reduceSub, Nat.reduceAdd]; rfl) rfl ?_ ?_
    · simp only [Try.results90, go_sem, Nat.reduceMul, Nat.reduceLeDiff, Nat.reduceLT, reduceIte, reduceCtorEq, Nat.reduceEqDiff, Nat.reduceSub, Nat.reduceAdd]
    · simp only [Try.results90, go_sem, Nat.reduceMul, Nat.reduceLeDiff, Nat.reduceLT, reduceIte, reduceCtorEq, Nat.reduceEqDiff, Nat.reduceSub, Nat.reduceAdd]
theorem metM_0 {n : Nat} (h : n ≤ 8) : metM (List.replicate n (-1)) = 0 := by
  refine mask_ext (metM_lt _) (by decide) fun a ha => ?_
  rw [metM_bit (by simpa using h), Nat.zero_testBit]
  refine decide_eq_false ?_
  rw [List.getD_eq_getElem?_getD, List.getElem?_replicate]
  split <;> simp
theorem getD_any {l : List Int} {a : Nat} (h : a < l.length) (d e : Int) : l.getD a d = l.getD a e := by
  rw [List.getD_eq_getElem?_getD, List.getD_eq_getElem?_getD, List.getElem?_eq_getElem h]; rfl
theorem l01Cosets_spec (t : List (List Int)) (hg : Grp t) (h : List Int) (hh : AreIn t.length h) (h0 : (0 : Int) ∈ h) (hl : h.length ≤ 1048576) : Spec Try.prog 89 [.agg [.rds (II t)], .rd (I h)] (.tup [.own 0, .own 1]) [.row 2 (I (cosN t h t.length).2), .row 2 (I (cosN t h t.length).1)] := by
  have h8 := hg.2.1
  have hr : ∀ a, a < t.length → (t.getD a []).length = t.length := fun a ha => (hg.2.2.1 a ha).1
  have he : ∀ a b, a < t.length → b < t.length → (t.getD a []).getD b 0 = em t a b := fun a b ha hb => by have := em_ee hg ha hb; unfold ee at this; exact this
  refine Spec.of_code T_ok Try.func89 rfl Try.ntmps89 Try.call89 (Nat.le_of_ble_eq_true rfl) rfl rfl (CodeV_sound T_ok (by kernel_rfl) rfl ?_)
  simp only [Try.results89, go_sem, Nat.reduceMul, Nat.reduceLeDiff, Nat.reduceLT, reduceIte, reduceCtorEq, Nat.reduceEqDiff, Nat.reduceSub, Nat.reduceAdd]
  refine HereO.call T_ok rfl rfl (l01N_spec t) (by simp only [go_sem, Nat.reduceMul, Nat.reduceLeDiff, Nat.reduceLT, reduceIte, reduceCtorEq, Nat.reduceEqDiff, Nat.reduceSub, Nat.reduceAdd, List.toList_toArray] <;> first | rfl | exact ⟨rfl, rfl⟩) rfl ?_
  simp only [Try.results89, go_sem, Nat.reduceMul, Nat.reduceLeDiff, Nat.reduceLT, reduceIte, reduceCtorEq, Nat.reduceEqDiff, Nat.reduceSub, Nat.reduceAdd]
  refine HereO.makeSlice T_ok (kk := .i64) (m := (t.length : Int)) 114 rfl rfl (by simp only [go_sem, Nat.reduceMul, Nat.reduceLeDiff, Nat.reduceLT, reduceIte, reduceCtorEq, Nat.reduceEqDiff, Nat.reduceSub, Nat.reduceAdd] <;> rfl) (by omega) (by omega) (by decide) (by decide) ?_
  simp only [Try.results89, go_sem, Nat.reduceMul, Nat.reduceLeDiff, Nat.reduceLT, reduceIte, reduceCtorEq, Nat.reduceEqDiff, Nat.reduceSub, Nat.reduceAdd]
  refine HereO.buildRow T_ok 115 (I []) rfl rfl rfl (by decide) rfl (by first | rfl | (simp only [go_sem, Nat.reduceMul, Nat.reduceLeDiff, Nat.reduceLT, reduceIte, reduceCtorEq, Nat.reduceEqDiff, Nat.reduceSub, Nat.reduceAdd] <;> rfl)) rfl (by decide) ?_
  simp only [Try.results89, go_sem, Nat.reduceMul, Nat.reduceLeDiff, Nat.reduceLT, reduceIte, reduceCtorEq, Nat.reduceEqDiff, Nat.reduceSub, Nat.reduceAdd]
  refine Here.loopV T_ok (fun a => a ≤ t.length) (fun a => t.length - a) (fun a => [(1, .rd (I h)), (2, .box [.rds (II t)]), (6, .own 114), (7, .own 115), (8, .v (.int .i64 (metM (cosN t h a).2))), (9, .v (.int .i64 a))]) (fun a => [(114, .row 2 (I (pos (cosN t h a).2))), (115, .row 2 (I (cosN t h a).1))]) 0 (by simp) (by simp only [Try.results89, go_sem, Nat.reduceMul, Nat.reduceLeDiff, Nat.reduceLT, reduceIte, reduceCtorEq, Nat.reduceEqDiff, Nat.reduceSub, Nat.reduceAdd]; simp [cosN, metM_0 h8]) (by simp only [Try.results89, go_sem, Nat.reduceMul, Nat.reduceLeDiff, Nat.reduceLT, reduceIte, reduceCtorEq, Nat.reduceEqDiff, Nat.reduceSub, Nat.reduceAdd]; simp [cosN, I, pos]; exact .inr (by decide)) ?_
  intro a ha
  have hlen := cosN_len t h a
  obtain ⟨c1, c2, c3, c4⟩ := cosN_ok hg hh h0 a ha
  simp only [Try.results89, go_sem, Nat.reduceMul, Nat.reduceLeDiff, Nat.reduceLT, reduceIte, reduceCtorEq, Nat.reduceEqDiff, Nat.reduceSub, Nat.reduceAdd]
  refine HereO.call T_ok rfl rfl (l01N_spec t) (by simp only [go_sem, Nat.reduceMul, Nat.reduceLeDiff, Nat.reduceLT, reduceIte, reduceCtorEq, Nat.reduceEqDiff, Nat.reduceSub, Nat.reduceAdd, List.toList_toArray] <;> first | rfl | exact ⟨rfl, rfl⟩) rfl ?_
  simp only [Try.results89, go_sem, Nat.reduceMul, Nat.reduceLeDiff, Nat.reduceLT, reduceIte, reduceCtorEq, Nat.reduceEqDiff, Nat.reduceSub, Nat.reduceAdd]
  refine ⟨fun h2 => ?_, fun h2 => ?_⟩
  · rw [(shl_fact a (by omega)).2, bit_fact _ (metM_lt _) a (by omega), metM_bit (by omega), getD_any (e := 0) (by omega)]
    refine ⟨fun h3 => ?_, fun h3 => ?_⟩
    · have q : 0 ≤ (cosN t h a).2.getD a 0 := by
        by_cases q : 0 ≤ (cosN t h a).2.getD a 0
        · exact q
        · rw [decide_eq_false q] at h3; exact absurd h3 (by decide)
      exact ⟨by unfold InR; omega, a + 1, by omega, by omega, ⟨by rw [cosN_pass q], by push_cast; rfl⟩, by rw [cosN_pass q], by rw [cosN_pass q]⟩
    · have q : ¬ 0 ≤ (cosN t h a).2.getD a 0 := fun q => by rw [decide_eq_true q] at h3; exact absurd rfl h3
      refine Here.loopV T_ok (fun i => i ≤ h.length) (fun i => h.length - i) (fun i => [(1, .rd (I h)), (2, .box [.rds (II t)]), (6, .own 114), (7, .own 115), (8, .v (.int .i64 (metM (cosIn t (h.take i) a (cosN t h a).1.length (cosN t h a).2)))), (9, .v (.int .i64 a)), (10, .v (.int .i64 i))]) (fun i => [(114, .row 2 (I (pos (cosIn t (h.take i) a (cosN t h a).1.length (cosN t h a).2)))), (115, .row 2 (I (cosN t h a).1))]) 0 (by simp) (by simp only [Try.results89, go_sem, Nat.reduceMul, Nat.reduceLeDiff, Nat.reduceLT, reduceIte, reduceCtorEq, Nat.reduceEqDiff, Nat.reduceSub, Nat.reduceAdd]; simp [cosIn]) (by simp only [Try.results89, go_sem, Nat.reduceMul, Nat.reduceLeDiff, Nat.reduceLT, reduceIte, reduceCtorEq, Nat.reduceEqDiff, Nat.reduceSub, Nat.reduceAdd]; simp [cosIn]) ?_
      intro i hi
      have hlen2 : (cosIn t (h.take i) a (cosN t h a).1.length (cosN t h a).2).length = t.length := by rw [cosIn_len, hlen]
      have hlen3 : (pos (cosIn t (h.take i) a (cosN t h a).1.length (cosN t h a).2)).length = t.length := by rw [pos_len, hlen2]
      simp only [Try.results89, go_sem, Nat.reduceMul, Nat.reduceLeDiff, Nat.reduceLT, reduceIte, reduceCtorEq, Nat.reduceEqDiff, Nat.reduceSub, Nat.reduceAdd]
      refine ⟨fun h4 => ?_, fun h4 => ?_⟩
      · have hx := hh i (by omega)
        obtain ⟨x, hxe⟩ := Int.eq_ofNat_of_zero_le hx.1
        have hxl : x < t.length := by omega
        have hem := em_lt hg (a := a) (b := x) (by omega) hxl
        have hs := shl_fact (em t a x) (by omega)
        refine Here.draw T_ok mixed_ok (by kernel_rfl) ?_
        simp only [Try.results89, go_sem, Nat.reduceMul, Nat.reduceLeDiff, Nat.reduceLT, reduceIte, reduceCtorEq, Nat.reduceEqDiff, Nat.reduceSub, Nat.reduceAdd]
        rw [hxe]
        simp only [Int.toNat_natCast]
        rw [hr a (by omega), he a x (by omega) hxl, hs.1, or_fact _ (metM_lt _) (em t a x) (by omega)]
        simp only [Int.toNat_natCast]
        refine ⟨⟨by omega, by omega⟩, ⟨by omega, by omega⟩, ⟨by omega, by omega⟩, ⟨by omega, by omega⟩, ?_⟩
        refine HereO.storeRow T_ok (vs := I (pos (cosIn t (h.take i) a (cosN t h a).1.length (cosN t h a).2))) (u := .int .i64 (cosN t h a).1.length) rfl (by simp only [go_sem, Nat.reduceMul, Nat.reduceLeDiff, Nat.reduceLT, reduceIte, reduceCtorEq, Nat.reduceEqDiff, Nat.reduceSub, Nat.reduceAdd] <;> rfl) (by simp only [go_sem, Nat.reduceMul, Nat.reduceLeDiff, Nat.reduceLT, reduceIte, reduceCtorEq, Nat.reduceEqDiff, Nat.reduceSub, Nat.reduceAdd] <;> rfl) rfl (by simp only [go_sem, Nat.reduceMul, Nat.reduceLeDiff, Nat.reduceLT, reduceIte, reduceCtorEq, Nat.reduceEqDiff, Nat.reduceSub, Nat.reduceAdd] <;> rfl) rfl (by rw [I_len]; omega) ?_
        simp only [Try.results89, go_sem, Nat.reduceMul, Nat.reduceLeDiff, Nat.reduceLT, reduceIte, reduceCtorEq, Nat.reduceEqDiff, Nat.reduceSub, Nat.reduceAdd]
        have hsn := cosIn_snoc (t := t) (h := h) (a := a) (k := ((cosN t h a).1.length : Int)) (num := (cosN t h a).2) (i := i) (by omega)
        rw [hxe, Int.toNat_natCast] at hsn
        rw [I_set, ← pos_set _ _ (by omega), ← metM_set (x := ((cosN t h a).1.length : Int)) (by omega) (by omega) (by omega), ← hsn]
        exact ⟨by unfold InR; omega, i + 1, by omega, by omega, ⟨rfl, by push_cast; rfl⟩, rfl⟩
      · obtain rfl : i = h.length := by omega
        rw [List.take_length]
        refine HereO.buildRow T_ok 157 (I [(a : Int)]) rfl rfl rfl (by decide) rfl (by first | rfl | (simp only [go_sem, Nat.reduceMul, Nat.reduceLeDiff, Nat.reduceLT, reduceIte, reduceCtorEq, Nat.reduceEqDiff, Nat.reduceSub, Nat.reduceAdd] <;> rfl)) rfl (by decide) ?_
        simp only [Try.results89, go_sem, Nat.reduceMul, Nat.reduceLeDiff, Nat.reduceLT, reduceIte, reduceCtorEq, Nat.reduceEqDiff, Nat.reduceSub, Nat.reduceAdd]
        refine HereO.append T_ok (I [(a : Int)]) rfl rfl (by decide) (by simp only [go_sem, Nat.reduceMul, Nat.reduceLeDiff, Nat.reduceLT, reduceIte, reduceCtorEq, Nat.reduceEqDiff, Nat.reduceSub, Nat.reduceAdd] <;> rfl) (by decide) (by simp only [go_sem, Nat.reduceMul, Nat.reduceLeDiff, Nat.reduceLT, reduceIte, reduceCtorEq, Nat.reduceEqDiff, Nat.reduceSub, Nat.reduceAdd] <;> rfl) (by simp only [go_sem, Nat.reduceMul, Nat.reduceLeDiff, Nat.reduceLT, reduceIte, reduceCtorEq, Nat.reduceEqDiff, Nat.reduceSub, Nat.reduceAdd] <;> rfl) (.own 157 _ _ (by decide) (by simp only [go_sem, Nat.reduceMul, Nat.reduceLeDiff, Nat.reduceLT, reduceIte, reduceCtorEq, Nat.reduceEqDiff, Nat.reduceSub, Nat.reduceAdd] <;> rfl)) (I_one _) (by simp only [I_len, II_len, upTo_len, tab_len, cnt_len, List.length_append, List.length_cons, List.length_nil, List.length_replicate]; omega) ?_
        simp only [Try.results89, go_sem, Nat.reduceMul, Nat.reduceLeDiff, Nat.reduceLT, reduceIte, reduceCtorEq, Nat.reduceEqDiff, Nat.reduceSub, Nat.reduceAdd]
        rw [I_append]
        exact ⟨by unfold InR; omega, a + 1, by omega, by omega, ⟨by rw [cosN_new q], by push_cast; rfl⟩, by rw [cosN_new q], by rw [cosN_new q]⟩
  · obtain rfl : a = t.length := by omega
    refine RetT.two 114 115 (by decide) (by simp only [Try.results89, go_sem, Nat.reduceMul, Nat.reduceLeDiff, Nat.reduceLT, reduceIte, reduceCtorEq, Nat.reduceEqDiff, Nat.reduceSub, Nat.reduceAdd]; rfl) rfl ?_ ?_
    · simp only [Try.results89, go_sem, Nat.reduceMul, Nat.reduceLeDiff, Nat.reduceLT, reduceIte, reduceCtorEq, Nat.reduceEqDiff, Nat.reduceSub, Nat.reduceAdd]
      rw [pos_end fun x hx => c4 x (by omega)]
    · simp only [Try.results89, go_sem, Nat.reduceMul, Nat.reduceLeDiff, Nat.reduceLT, reduceIte, reduceCtorEq, Nat.reduceEqDiff, Nat.reduceSub, Nat.reduceAdd]
/-! ### Quotients -/
def quotF (t : List (List Int)) (lst num : List Int) (a b : Nat) : Int := num.getD (em t (lst.getD a 0).toNat (lst.getD b 0).toNat) 0
theorem quotient1_spec (t : List (List Int)) (hg : Grp t) (lst num : List Int) (hl : ∀ x ∈ lst, 0 ≤ x ∧ x < t.length) (hn : num.length = t.length) (a b : Nat) (ha : a < lst.length) (hb : b < lst.length) : Spec Try.prog 91 [.v (.int .i64 a), .v (.int .i64 b), .box [.rd (I num)], .box [.rds (II t)], .box [.rd (I lst)]] (.v (.int .i64 (quotF t lst num a b))) [] := by
  have h1 := hl _ (getD_mem ha 0)
  have h2 := hl _ (getD_mem hb 0)
  obtain ⟨x, hx⟩ := Int.eq_ofNat_of_zero_le h1.1
  obtain ⟨y, hy⟩ := Int.eq_ofNat_of_zero_le h2.1
  have hem := em_lt hg (a := x) (b := y) (by omega) (by omega)
  have hq : quotF t lst num a b = num.getD (em t x y) 0 := by unfold quotF; rw [hx, hy]; rfl
  refine Spec.of_code T_ok Try.func91 rfl Try.ntmps91 Try.call91 (Nat.le_of_ble_eq_true rfl) rfl rfl (CodeV_sound T_ok (by kernel_rfl) rfl ?_)
  simp only [Try.results91, go_sem, Nat.reduceMul, Nat.reduceLeDiff, Nat.reduceLT, reduceIte, reduceCtorEq, Nat.reduceEqDiff, Nat.reduceSub, Nat.reduceAdd]
  refine Here.draw T_ok mixed_ok (by kernel_rfl) ?_
  simp only [Try.results91, go_sem, Nat.reduceMul, Nat.reduceLeDiff, Nat.reduceLT, reduceIte, reduceCtorEq, Nat.reduceEqDiff, Nat.reduceSub, Nat.reduceAdd]
  rw [hx, hy, hq]
  refine ⟨⟨by omega, by omega⟩, ⟨by omega, by omega⟩, ?_⟩
  refine ⟨_, OpP.buildRd T_ok (I [(x : Int), (y : Int)]) rfl rfl rfl (by decide) rfl (by first | rfl | (simp only [go_sem, Nat.reduceMul, Nat.reduceLeDiff, Nat.reduceLT, reduceIte, reduceCtorEq, Nat.reduceEqDiff, Nat.reduceSub, Nat.reduceAdd] <;> rfl)) rfl, ?_⟩
  simp only [Try.results91, go_sem, Nat.reduceMul, Nat.reduceLeDiff, Nat.reduceLT, reduceIte, reduceCtorEq, Nat.reduceEqDiff, Nat.reduceSub, Nat.reduceAdd]
  refine ⟨_, OpP.call' rfl rfl (times2_spec t hg x y (by omega) (by omega)) (by simp only [go_sem, Nat.reduceMul, Nat.reduceLeDiff, Nat.reduceLT, reduceIte, reduceCtorEq, Nat.reduceEqDiff, Nat.reduceSub, Nat.reduceAdd, List.toList_toArray] <;> first | rfl | exact ⟨rfl, rfl⟩) rfl, ?_⟩
  simp only [Try.results91, go_sem, Nat.reduceMul, Nat.reduceLeDiff, Nat.reduceLT, reduceIte, reduceCtorEq, Nat.reduceEqDiff, Nat.reduceSub, Nat.reduceAdd]
  exact ⟨by omega, by omega⟩
theorem quotient_spec (t : List (List Int)) (hg : Grp t) (h : List Int) (hh : AreIn t.length h) (h0 : (0 : Int) ∈ h) (hl : h.length ≤ 1048576) : Spec Try.prog 60 [.agg [.rds (II t)], .rd (I h)] (.tup [.agg [.own 0], .own 1]) [.rows 25 2 (II (tab (quotF t (cosN t h t.length).1 (cosN t h t.length).2) (cosN t h t.length).1.length (cosN t h t.length).1.length)), .row 2 (I (cosN t h t.length).2)] := by
  have h8 := hg.2.1
  have hlen := cosN_len t h t.length
  obtain ⟨c1, c2, c3, c4⟩ := cosN_ok hg hh h0 t.length (Nat.le_refl _)
  refine Spec.of_code T_ok Try.func60 rfl Try.ntmps60 Try.call60 (Nat.le_of_ble_eq_true rfl) rfl rfl (CodeV_sound T_ok (by kernel_rfl) rfl ?_)
  simp only [Try.results60, go_sem, Nat.reduceMul, Nat.reduceLeDiff, Nat.reduceLT, reduceIte, reduceCtorEq, Nat.reduceEqDiff, Nat.reduceSub, Nat.reduceAdd]
  refine HereO.alloc T_ok 104 rfl rfl (by decide) ?_
  simp only [Try.results60, go_sem, Nat.reduceMul, Nat.reduceLeDiff, Nat.reduceLT, reduceIte, reduceCtorEq, Nat.reduceEqDiff, Nat.reduceSub, Nat.reduceAdd]
  refine HereO.callOwn T_ok 11 rfl rfl (cosets_spec t hg h hh h0 hl) (by simp only [go_sem, Nat.reduceMul, Nat.reduceLeDiff, Nat.reduceLT, reduceIte, reduceCtorEq, Nat.reduceEqDiff, Nat.reduceSub, Nat.reduceAdd, List.toList_toArray] <;> first | rfl | exact ⟨rfl, rfl⟩) rfl (by simp) rfl ?_
  simp only [Try.results60, go_sem, Nat.reduceMul, Nat.reduceLeDiff, Nat.reduceLT, reduceIte, reduceCtorEq, Nat.reduceEqDiff, Nat.reduceSub, Nat.reduceAdd]
  refine HereO.alloc T_ok 106 rfl rfl (by decide) ?_
  simp only [Try.results60, go_sem, Nat.reduceMul, Nat.reduceLeDiff, Nat.reduceLT, reduceIte, reduceCtorEq, Nat.reduceEqDiff, Nat.reduceSub, Nat.reduceAdd]
  refine HereO.alloc T_ok 107 rfl rfl (by decide) ?_
  simp only [Try.results60, go_sem, Nat.reduceMul, Nat.reduceLeDiff, Nat.reduceLT, reduceIte, reduceCtorEq, Nat.reduceEqDiff, Nat.reduceSub, Nat.reduceAdd]
  refine HereO.store T_ok rfl (by simp only [go_sem, Nat.reduceMul, Nat.reduceLeDiff, Nat.reduceLT, reduceIte, reduceCtorEq, Nat.reduceEqDiff, Nat.reduceSub, Nat.reduceAdd] <;> rfl) (by simp only [go_sem, Nat.reduceMul, Nat.reduceLeDiff, Nat.reduceLT, reduceIte, reduceCtorEq, Nat.reduceEqDiff, Nat.reduceSub, Nat.reduceAdd] <;> rfl) rfl (by simp only [go_sem, Nat.reduceMul, Nat.reduceLeDiff, Nat.reduceLT, reduceIte, reduceCtorEq, Nat.reduceEqDiff, Nat.reduceSub, Nat.reduceAdd] <;> rfl) rfl (by first | rfl | (simp only [go_sem, Nat.reduceMul, Nat.reduceLeDiff, Nat.reduceLT, reduceIte, reduceCtorEq, Nat.reduceEqDiff, Nat.reduceSub, Nat.reduceAdd] <;> rfl)) (Nat.le_of_ble_eq_true rfl) ?_
  simp only [Try.results60, go_sem, Nat.reduceMul, Nat.reduceLeDiff, Nat.reduceLT, reduceIte, reduceCtorEq, Nat.reduceEqDiff, Nat.reduceSub, Nat.reduceAdd]
  refine HereO.store T_ok rfl (by simp only [go_sem, Nat.reduceMul, Nat.reduceLeDiff, Nat.reduceLT, reduceIte, reduceCtorEq, Nat.reduceEqDiff, Nat.reduceSub, Nat.reduceAdd] <;> rfl) (by simp only [go_sem, Nat.reduceMul, Nat.reduceLeDiff, Nat.reduceLT, reduceIte, reduceCtorEq, Nat.reduceEqDiff, Nat.reduceSub, Nat.reduceAdd] <;> rfl) rfl (by simp only [go_sem, Nat.reduceMul, Nat.reduceLeDiff, Nat.reduceLT, reduceIte, reduceCtorEq, Nat.reduceEqDiff, Nat.reduceSub, Nat.reduceAdd] <;> rfl) rfl (by first | rfl | (simp only [go_sem, Nat.reduceMul, Nat.reduceLeDiff, Nat.reduceLT, reduceIte, reduceCtorEq, Nat.reduceEqDiff, Nat.reduceSub, Nat.reduceAdd] <;> rfl)) (Nat.le_of_ble_eq_true rfl) ?_
  simp only [Try.results60, go_sem, Nat.reduceMul, Nat.reduceLeDiff, Nat.reduceLT, reduceIte, reduceCtorEq, Nat.reduceEqDiff, Nat.reduceSub, Nat.reduceAdd]
  refine Here.drawC T_ok [.p, .p, .p, .c, .f, .c] [7] [1272, 1273, 1274, 1275, 1276, 1277, 1278, 1279, 1280, 1281, 1282, 1283, 1284, 1285, 1286, 1287] [107] (Nat.le_of_ble_eq_true rfl) mixed_ok (by kernel_rfl) (by kernel_rfl) (by kernel_rfl) (by simp only [List.mem_cons, List.not_mem_nil, or_false, forall_eq_or_imp, forall_eq, go_sem, Nat.reduceMul, Nat.reduceLeDiff, Nat.reduceLT, reduceIte, reduceCtorEq, Nat.reduceEqDiff, Nat.reduceSub, Nat.reduceAdd] <;> first | exact calm_ptr_ne rfl | exact calm_ne rfl) ?_
  simp only [Try.results60, go_sem, Nat.reduceMul, Nat.reduceLeDiff, Nat.reduceLT, reduceIte, reduceCtorEq, Nat.reduceEqDiff, Nat.reduceSub, Nat.reduceAdd]
  refine HereC.callOwn 17 rfl rfl (made_spec (cosN t h t.length).1.length (by omega) 91 [.box [.rd (I (cosN t h t.length).2)], .box [.rds (II t)], .box [.rd (I (cosN t h t.length).1)]] (Fix.cons (Fix.box (Fix.rd _)) (Fix.cons (Fix.box (Fix.rds _)) (Fix.box (Fix.rd _)))) (quotF t (cosN t h t.length).1 (cosN t h t.length).2) (fun a b ha hb => quotient1_spec t hg _ _ c2 hlen a b ha hb)) (by simp only [go_sem, Nat.reduceMul, Nat.reduceLeDiff, Nat.reduceLT, reduceIte, reduceCtorEq, Nat.reduceEqDiff, Nat.reduceSub, Nat.reduceAdd, List.toList_toArray] <;> first | rfl | exact ⟨rfl, rfl⟩) rfl (by simp) rfl (inK_shift (by decide)) (by first | exact keeps_nil _ _ | (simp only [keeps_cons, keeps_nil', go_sem, Nat.reduceMul, Nat.reduceLeDiff, Nat.reduceLT, reduceIte, reduceCtorEq, Nat.reduceEqDiff, Nat.reduceSub, Nat.reduceAdd] <;> rfl)) ?_
  simp only [Try.results60, go_sem, Nat.reduceMul, Nat.reduceLeDiff, Nat.reduceLT, reduceIte, reduceCtorEq, Nat.reduceEqDiff, Nat.reduceSub, Nat.reduceAdd]
  refine HereF.load T_ok (id := 107) (tt := 25) (c := [.own 1177]) (off := 0) (y := .own 1177) rfl (by simp only [go_sem, Nat.reduceMul, Nat.reduceLeDiff, Nat.reduceLT, reduceIte, reduceCtorEq, Nat.reduceEqDiff, Nat.reduceSub, Nat.reduceAdd] <;> rfl) (by kernel_rfl) rfl (by decide) (by simp only [go_sem, Nat.reduceMul, Nat.reduceLeDiff, Nat.reduceLT, reduceIte, reduceCtorEq, Nat.reduceEqDiff, Nat.reduceSub, Nat.reduceAdd] <;> rfl) rfl (by first | exact calm_ne rfl | simp only [go_sem, Nat.reduceMul, Nat.reduceLeDiff, Nat.reduceLT, reduceIte, reduceCtorEq, Nat.reduceEqDiff, Nat.reduceSub, Nat.reduceAdd]) ?_
  simp only [Try.results60, go_sem, Nat.reduceMul, Nat.reduceLeDiff, Nat.reduceLT, reduceIte, reduceCtorEq, Nat.reduceEqDiff, Nat.reduceSub, Nat.reduceAdd]
  refine HereC.storeAgg T_ok rfl (by simp only [go_sem, Nat.reduceMul, Nat.reduceLeDiff, Nat.reduceLT, reduceIte, reduceCtorEq, Nat.reduceEqDiff, Nat.reduceSub, Nat.reduceAdd] <;> rfl) (by simp only [go_sem, Nat.reduceMul, Nat.reduceLeDiff, Nat.reduceLT, reduceIte, reduceCtorEq, Nat.reduceEqDiff, Nat.reduceSub, Nat.reduceAdd] <;> rfl) rfl (by simp only [go_sem, Nat.reduceMul, Nat.reduceLeDiff, Nat.reduceLT, reduceIte, reduceCtorEq, Nat.reduceEqDiff, Nat.reduceSub, Nat.reduceAdd] <;> rfl) (by first | rfl | (simp only [go_sem, Nat.reduceMul, Nat.reduceLeDiff, Nat.reduceLT, reduceIte, reduceCtorEq, Nat.reduceEqDiff, Nat.reduceSub, Nat.reduceAdd] <;> rfl)) rfl rfl (by first | exact keeps_nil _ _ | (simp only [keeps_cons, keeps_nil', go_sem, Nat.reduceMul, Nat.reduceLeDiff, Nat.reduceLT, reduceIte, reduceCtorEq, Nat.reduceEqDiff, Nat.reduceSub, Nat.reduceAdd] <;> rfl)) ?_
  simp only [Try.results60, go_sem, Nat.reduceMul, Nat.reduceLeDiff, Nat.reduceLT, reduceIte, reduceCtorEq, Nat.reduceEqDiff, Nat.reduceSub, Nat.reduceAdd]
  refine RetT.two 1272 1177 (by decide) (by simp only [Try.results60, go_sem, Nat.reduceMul, Nat.reduceLeDiff, Nat.reduceLT, reduceIte, reduceCtorEq, Nat.reduceEqDiff, Nat.reduceSub, Nat.reduceAdd]; rfl) rfl ?_ ?_
  · simp only [Try.results60, go_sem, Nat.reduceMul, Nat.reduceLeDiff, Nat.reduceLT, reduceIte, reduceCtorEq, Nat.reduceEqDiff, Nat.reduceSub, Nat.reduceAdd]
  · simp only [Try.results60, go_sem, Nat.reduceMul, Nat.reduceLeDiff, Nat.reduceLT, reduceIte, reduceCtorEq, Nat.reduceEqDiff, Nat.reduceSub, Nat.reduceAdd]
end Go.Proofs.Ytdbkiomhoonclaa
