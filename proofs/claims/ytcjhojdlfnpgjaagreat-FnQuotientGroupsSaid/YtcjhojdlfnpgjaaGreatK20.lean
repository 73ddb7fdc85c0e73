/- Contracts: copies of rows and groups; Contracts: modules; Plain laws: the search for modules. -/
import Derived.Test.YtcjhojdlfnpgjaaGreatK15
import Derived.Test.YtcjhojdlfnpgjaaGreatK19
import Derived.Test.YtcjhojdlfnpgjaaGreatK16
import Derived.Test.YtcjhojdlfnpgjaaGreatK10
set_option linter.unusedVariables false
set_option linter.unusedSimpArgs false
set_option maxRecDepth 100000
namespace Go.Proofs.YtcjhojdlfnpgjaaGreat
open Go.RowKit
section
variable {P : Program} {T : TT} {K : List Nat} {G : (Nat → Option OC) → Prop} {n : Nat} {all : Array Oper} {k : Kont}
theorem HereC.buildRowL {ms : List Md} {o : Oper} {l : List Oper} {s : St} (hT : T.Ok P) {t e : Nat} {z : Value} {bts m : Nat} {parts : Array (Nat × Operand)} (id : Nat) (ls : List LV) (ho : o.op = .buildSlice t m parts) (ht : T.el t = some (e, z, bts)) (hn : m = parts.toList.length) (hm : m ≤ 1000) (hp : partsIn 0 parts.toList = true)
    (hx : (parts.toList.map fun p => evL s p.2) = ls) (h1 : ls.all (fun x => oneL x && ownIs s.σ x) = true) (hid : 16 ≤ id) (hno : kills (fun j => j == id) ls = ls) (hk : K.contains id = true) (hG : G (s.fresh id (.rowL e ls)).σ) (h : SV P T K G n all ms l ((s.fresh id (.rowL e ls)).put o.dst (.own id)) k) : HereC P T K G n all ms o l s k := by
  refine ⟨fun j => j == id, (s.fresh id (.rowL e ls)).σ, .own id, fun j hj => by rw [beq_iff_eq.1 hj]; exact hk, hG, fun s' hs' hx' => ?_, h⟩
  have hev : (parts.toList.map fun p => evL s' p.2) = ls := by
    rw [← hx]
    exact List.map_congr_left fun p hm => hx' p.2 (by simp [ho, Op.operands]; exact ⟨p.1, by simpa using hm⟩)
  refine OpT.buildRowL hT ho ht hn hm hp (by rw [hev, hs']; exact h1) id hid (by rw [hev]; exact hno) ⟨rfl, ?_⟩
  rw [hev]
  unfold St.fresh St.turn
  rw [hs']
end
theorem ownR_spec (l : List Int) (hl : l.length ≤ 1099511627776) : Spec Tryz.prog 76 [.rd (I l)] (.own 0) [.row 2 (I l)] := by
  refine Spec.of_codeC T_ok Tryz.func76 rfl Tryz.ntmps76 Tryz.call76 (Nat.le_of_ble_eq_true rfl) rfl rfl (CodeV_sound T_ok (by kernel_rfl) rfl ?_)
  refine WW ?_
  refine HereO.buildRow T_ok 120 (I []) rfl rfl rfl (by decide) rfl SR rfl (by decide) ?_
  refine WW ?_
  refine HereO.append T_ok (I l) rfl rfl (by decide) SS (by decide) SS SS (.rd _) (I_one _) (by simp only [I_len, List.length_nil]; omega) ?_
  refine WW ?_
  exact RetC.of (RetT.one 120 SE SW (by simp only [go_sem, Nat.reduceMul, Nat.reduceLeDiff, Nat.reduceLT, reduceIte, reduceCtorEq, Nat.reduceEqDiff, Nat.reduceSub, Nat.reduceAdd]; simp [I]))
theorem l01Copy_spec (t : List (List Int)) (h8 : t.length ≤ 8) (hrl : ∀ a, a < t.length → (t.getD a []).length ≤ 1048576) : Spec Tryz.prog 96 [.agg [.rds (II t)]] (.agg [.own 0]) [.rows 27 2 (II t)] := by
  refine Spec.of_code T_ok Tryz.func96 rfl Tryz.ntmps96 Tryz.call96 (Nat.le_of_ble_eq_true rfl) rfl rfl (CodeV_sound T_ok (by kernel_rfl) rfl ?_)
  refine WW ?_
  refine HereO.alloc T_ok 102 rfl rfl (by decide) ?_
  refine WW ?_
  refine HereO.buildRow T_ok 120 [] rfl rfl rfl (by decide) rfl rfl rfl (by decide) ?_
  refine WW ?_
  refine HereO.conv (Conv.rows (id := 120) (e := 27) 2 0 SE) ?_
  refine HereO.opP T_ok (OpP.build built_26 rfl rfl rfl rfl) ?_
  refine WW ?_
  refine HereO.alloc T_ok 103 rfl rfl (by decide) ?_
  refine WW ?_
  refine HereO.storeAgg T_ok rfl SS SS rfl SS SR rfl rfl ?_
  refine WW ?_
  refine Here.loopV T_ok (fun k => k ≤ t.length) (fun k => t.length - k) (fun k => [(1, .box [.rds (II t)]), (2, .ptr 102 0), (3, .ptr 103 0), (4, .v (.int .i64 k))]) (fun k => [(102, .cells 26 [.v nilV]), (103, .cells 26 [.own 120]), (120, .rows 27 2 (II (t.take k)))]) 0 (by simp) (by simp only [go_sem, Nat.reduceMul, Nat.reduceLeDiff, Nat.reduceLT, reduceIte, reduceCtorEq, Nat.reduceEqDiff, Nat.reduceSub, Nat.reduceAdd]; simp) (by simp only [go_sem, Nat.reduceMul, Nat.reduceLeDiff, Nat.reduceLT, reduceIte, reduceCtorEq, Nat.reduceEqDiff, Nat.reduceSub, Nat.reduceAdd]; simp [II, nilV]) ?_
  intro a ha
  refine WW ?_
  refine ⟨fun h2 => ?_, fun h2 => ?_⟩
  · have htl : (List.take a t).length = a := by rw [List.length_take]; omega
    refine Here.drawC T_ok [.f, .f, .p, .p, .p, .p, .p, .c, .c] [3] [1336, 1337, 1338, 1339, 1340, 1341, 1342, 1343, 1344, 1345, 1346, 1347, 1348, 1349, 1350, 1351, 150] [103] (Nat.le_of_ble_eq_true rfl) mixed_ok (by kernel_rfl) (by kernel_rfl) (by kernel_rfl) (by simp only [List.mem_cons, List.not_mem_nil, or_false, forall_eq_or_imp, forall_eq, go_sem, Nat.reduceMul, Nat.reduceLeDiff, Nat.reduceLT, reduceIte, reduceCtorEq, Nat.reduceEqDiff, Nat.reduceSub, Nat.reduceAdd] <;> first | exact calm_ptr_ne rfl | exact calm_ne rfl | exact ⟨calm_ptr_ne rfl, calm_ptr_ne rfl⟩ | exact ⟨calm_ptr_ne rfl, calm_ptr_ne rfl, calm_ptr_ne rfl⟩ | exact ⟨calm_ptr_ne rfl, calm_knot (by simp only [go_sem, Nat.reduceMul, Nat.reduceLeDiff, Nat.reduceLT, reduceIte, reduceCtorEq, Nat.reduceEqDiff, Nat.reduceSub, Nat.reduceAdd] <;> exact calm_ptr_ne rfl)⟩ | ((repeat' apply And.intro) <;> first | exact calm_ptr_ne rfl | exact calm_ne rfl)) ?_
    refine WW ?_
    refine ⟨calm_ptr_ne rfl, ?_⟩
    refine HereF.load T_ok (id := 103) (tt := 26) (c := [.own 120]) (off := 0) (y := .own 120) rfl SS (by kernel_rfl) rfl (by decide) SS rfl (by first | exact calm_ne rfl | simp only [go_sem, Nat.reduceMul, Nat.reduceLeDiff, Nat.reduceLT, reduceIte, reduceCtorEq, Nat.reduceEqDiff, Nat.reduceSub, Nat.reduceAdd]) ?_
    refine WW ?_
    refine ⟨⟨by omega, by omega⟩, ?_⟩
    refine HereC.callOwn 21 rfl rfl (ownR_spec (t.getD a []) (by have := hrl a (by omega); omega)) SA rfl (by simp) rfl (inK_shift (by decide)) SK ?_
    refine WW ?_
    refine HereC.buildRowL T_ok 150 [.own 1336] rfl rfl rfl (by decide) rfl SS rfl (by decide) SS rfl SK ?_
    refine WW ?_
    refine HereO.appendRows T_ok (id := 120) (j := 150) (i := 1336) rfl rfl (by decide) SS (by decide) SS SS SS SS (by decide) (by decide) SL ?_
    refine WW ?_
    refine HereO.store T_ok rfl SS SS rfl SS rfl SR (Nat.le_of_ble_eq_true rfl) ?_
    refine WW ?_
    refine ⟨by unfold InR; omega, a + 1, by omega, by omega, by push_cast; rfl, ?_⟩
    have e1 : t.take (a + 1) = t.take a ++ [t.getD a []] := by
      rw [List.take_succ_eq_append_getElem (by omega), List.getD_eq_getElem?_getD, List.getElem?_eq_getElem (by omega), Option.getD_some]
    rw [e1]
    simp [II]
  · obtain rfl : a = t.length := by omega
    refine HereO.storeAgg T_ok rfl SS SS rfl SS SR rfl rfl ?_
    refine WW ?_
    refine RetT.one 120 SE rfl ?_
    refine WW ?_
    rw [List.take_length]
end Go.Proofs.YtcjhojdlfnpgjaaGreat
namespace Go.Proofs.YtcjhojdlfnpgjaaGreat
open Go.RowKit
def BL (l : List Bool) : List Value := l.map .bool
theorem dvB {l : List Bool} {k : Nat} (h : k < l.length) : dv (BL l) k = .bool (l.getD k false) := by
  unfold dv BL
  rw [List.getD_eq_getElem?_getD, List.getD_eq_getElem?_getD, List.getElem?_map, List.getElem?_eq_getElem h]
  rfl
theorem BL_len (l : List Bool) : (BL l).length = l.length := by simp [BL]
theorem BL_set (l : List Bool) (k : Nat) (b : Bool) : (BL l).set k (.bool b) = BL (l.set k b) := by unfold BL; rw [List.map_set]
open Classical in
noncomputable def permB (n : Nat) (p : List Int) : Bool := decide (Perm0 n p)
theorem permB_t {n : Nat} {p : List Int} (h : Perm0 n p) : permB n p = true := by unfold permB; simpa using h
theorem permB_f {n : Nat} {p : List Int} (h : ¬ Perm0 n p) : permB n p = false := by unfold permB; simpa using h
def NumI (n : Nat) (p : List Int) (i : Nat) (bs : List Bool) : Prop := i ≤ p.length ∧ bs.length = n ∧ (∀ j, j < i → 0 ≤ p.getD j 0 ∧ p.getD j 0 < n) ∧ (∀ x : Nat, x < n → (bs.getD x false = true ↔ ∃ j, j < i ∧ p.getD j 0 = x)) ∧ ∀ j k, j < k → k < i → p.getD j 0 ≠ p.getD k 0
theorem getD_setB (l : List Bool) (i j : Nat) (x : Bool) : (l.set i x).getD j false = if i = j ∧ i < l.length then x else l.getD j false := by
  rw [List.getD_eq_getElem?_getD, List.getD_eq_getElem?_getD, List.getElem?_set]
  by_cases e : i = j
  · subst e
    by_cases h : i < l.length <;> simp [h]
  · simp [e]
theorem numI_step {n : Nat} {p : List Int} {i x : Nat} {bs : List Bool} (h : NumI n p i bs) (hi : i < p.length) (hx : p.getD i 0 = x) (hn : x < n) (hb : bs.getD x false = false) : NumI n p (i + 1) (bs.set x true) := by
  obtain ⟨h1, h2, h3, h4, h5⟩ := h
  refine ⟨by omega, by rw [List.length_set]; exact h2, fun j hj => ?_, fun y hy => ?_, fun j k hjk hk => ?_⟩
  · by_cases e : j = i
    · rw [e, hx]; omega
    · exact h3 j (by omega)
  · rw [getD_setB]
    by_cases e : x = y
    · rw [if_pos ⟨e, by omega⟩]
      exact ⟨fun _ => ⟨i, by omega, by rw [hx, e]⟩, fun _ => rfl⟩
    · rw [if_neg (fun q => e q.1), h4 y hy]
      constructor
      · rintro ⟨j, hj, ej⟩; exact ⟨j, by omega, ej⟩
      · rintro ⟨j, hj, ej⟩
        refine ⟨j, ?_, ej⟩
        by_cases e2 : j = i
        · rw [e2, hx] at ej; omega
        · omega
  · by_cases e : k = i
    · subst e
      intro q
      rw [hx] at q
      have := (h4 x hn).2 ⟨j, hjk, q⟩
      rw [hb] at this; cases this
    · exact h5 j k hjk (by omega)
theorem l01Numbers_spec (p : List Int) (n : Nat) (h1 : 1 ≤ n) (hn : n ≤ 8) (hl : p.length ≤ 1048576) : Spec Tryz.prog 74 [.rd (I p), .v (.int .i64 n)] (.v (.bool (permB n p))) [] := by
  refine Spec.of_code T_ok Tryz.func74 rfl Tryz.ntmps74 Tryz.call74 (Nat.le_of_ble_eq_true rfl) rfl rfl (CodeV_sound T_ok (by kernel_rfl) rfl ?_)
  refine WW ?_
  refine HereO.makeSlice T_ok (kk := .i64) (m := (n : Int)) 108 rfl rfl SS (by omega) (by omega) (by decide) (by decide) ?_
  refine WW ?_
  refine Here.loopV T_ok (κ := Nat × List Bool) (fun g => NumI n p g.1 g.2) (fun g => p.length - g.1) (fun g => [(0, .rd (I p)), (1, .v (.int .i64 n)), (5, .own 108), (6, .v (.int .i64 g.1))]) (fun g => [(108, .row 4 (BL g.2))]) (0, List.replicate n false) ⟨by simp, by simp, fun j hj => by omega, fun x hx => ⟨fun q => (by rw [List.getD_eq_getElem?_getD, List.getElem?_replicate] at q; split at q <;> cases q), fun ⟨j, hj, _⟩ => by omega⟩, fun j k _ hk => by omega⟩ (by simp only [go_sem, Nat.reduceMul, Nat.reduceLeDiff, Nat.reduceLT, reduceIte, reduceCtorEq, Nat.reduceEqDiff, Nat.reduceSub, Nat.reduceAdd]; simp) (by simp only [go_sem, Nat.reduceMul, Nat.reduceLeDiff, Nat.reduceLT, reduceIte, reduceCtorEq, Nat.reduceEqDiff, Nat.reduceSub, Nat.reduceAdd]; simp [BL]) ?_
  rintro ⟨i, bs⟩ hI
  obtain ⟨hi, hbl, h3, h4, h5⟩ := id hI
  dsimp only at hi hbl h3 h4 h5 ⊢
  have hBl : (BL bs).length = n := by rw [BL_len]; exact hbl
  refine WW ?_
  refine ⟨fun h2 => ?_, fun h2 => ?_⟩
  · refine ⟨⟨by omega, by omega⟩, by unfold InR; omega, ?_⟩
    refine HereO.call T_ok rfl rfl (l01In_spec (p.getD i 0) 0 ((n : Int) - 1)) SA rfl ?_
    refine WW ?_
    dsimp only at hI
    refine ⟨fun h6 => ?_, fun h6 => ?_⟩
    · obtain ⟨x, hxe⟩ := Int.eq_ofNat_of_zero_le h6.1
      have hxn : x < n := by omega
      rw [hxe, Int.toNat_natCast, dvB (by omega)]
      dsimp only
      refine ⟨⟨by omega, by omega⟩, ⟨by omega, by omega⟩, by omega, fun h7 => ?_, fun h7 => ?_⟩
      · obtain ⟨j, hj, ej⟩ := (h4 x hxn).1 h7
        rw [permB_f]
        rintro ⟨q1, q2, q3, q4⟩
        have := q3 j i (by omega) (by omega) (by omega)
        omega
      · refine ⟨⟨by omega, by omega⟩, ⟨by omega, by omega⟩, ?_⟩
        refine HereO.storeRow T_ok (vs := BL bs) (u := .bool true) rfl SS SS rfl SS rfl (by omega) ?_
        refine WW ?_
        rw [BL_set]
        exact ⟨by unfold InR; omega, (i + 1, bs.set x true), numI_step hI (by omega) hxe hxn h7, by dsimp only; omega, by push_cast; rfl, rfl⟩
    · rw [permB_f]
      rintro ⟨q1, q2, q3, q4⟩
      have := q2 i (by omega)
      omega
  · dsimp only at hI
    obtain rfl : i = p.length := by omega
    have hin : AreIn n p := h3
    refine ⟨fun h6 => ⟨⟨by omega, by omega⟩, ?_⟩, fun h6 => ?_⟩
    · rw [Bool.eq_iff_iff, beq_iff_eq]
      constructor
      · intro h7
        refine permB_t ⟨by omega, hin, fun a b ha hb he => ?_, h7⟩
        rcases Nat.lt_trichotomy a b with q | q | q
        · exact absurd he (h5 a b q (by omega))
        · exact q
        · exact absurd he.symm (h5 b a q (by omega))
      · intro h7
        apply Classical.byContradiction
        intro h8
        rw [permB_f fun q => h8 q.2.2.2] at h7
        cases h7
    · rw [permB_f fun q => h6 (by have := q.1; omega)]
theorem Renumber1_spec (t : List (List Int)) (hg : Grp t) (p : List Int) (hp : Perm0 t.length p) (a b : Nat) (ha : a < t.length) (hb : b < t.length) : Spec Tryz.prog 68 [.v (.int .i64 a), .v (.int .i64 b), .box [.rd (I p)], .box [.rds (II t)]] (.v (.int .i64 (renF t p a b))) [] := by
  have h8 := hg.2.1
  have hpl := hp.1
  obtain ⟨x, hx, ex⟩ := perm_onto hp ha
  obtain ⟨y, hy, ey⟩ := perm_onto hp hb
  have ix1 : ix p (a : Int) = x := by rw [← ex]; exact ix_perm hp hx
  have ix2 : ix p (b : Int) = y := by rw [← ey]; exact ix_perm hp hy
  have hem := em_lt hg hx hy
  have hr : renF t p a b = p.getD (em t x y) 0 := by unfold renF; rw [ix1, ix2]; rfl
  refine Spec.of_code T_ok Tryz.func68 rfl Tryz.ntmps68 Tryz.call68 (Nat.le_of_ble_eq_true rfl) rfl rfl (CodeV_sound T_ok (by kernel_rfl) rfl ?_)
  refine WW ?_
  refine Here.draw T_ok mixed_ok (by kernel_rfl) ?_
  refine WW ?_
  refine ⟨_, OpP.call' rfl rfl (Index_spec p a (by omega)) SA rfl, ?_⟩
  refine WW ?_
  refine ⟨_, OpP.call' rfl rfl (Index_spec p b (by omega)) SA rfl, ?_⟩
  refine WW ?_
  rw [ix1, ix2, hr]
  refine ⟨_, OpP.buildRd T_ok (I [(x : Int), (y : Int)]) rfl rfl rfl (by decide) rfl SR rfl, ?_⟩
  refine WW ?_
  refine ⟨_, OpP.call' rfl rfl (times2_spec t hg x y hx hy) SA rfl, ?_⟩
  refine WW ?_
  exact ⟨by omega, by omega⟩
noncomputable def renC (t : List (List Int)) (p : List Int) : Int := if Grp t then (if permB t.length p = true then 0 else 2) else 1
noncomputable def renT (t : List (List Int)) (p : List Int) : List (List Int) := if renC t p = 0 then tab (renF t p) t.length t.length else []
theorem permB_ok {n : Nat} {p : List Int} (h : permB n p = true) : Perm0 n p := by
  apply Classical.byContradiction
  intro q
  rw [permB_f q] at h
  cases h
theorem renC_ok {t : List (List Int)} {p : List Int} (h : renC t p = 0) : Grp t ∧ Perm0 t.length p := by
  unfold renC at h
  split at h
  · rename_i hg
    split at h
    · rename_i q; exact ⟨hg, permB_ok q⟩
    · omega
  · omega
theorem renT_ok (t : List (List Int)) (p : List Int) (hl : p.length ≤ 1048576) : OkRows (renT t p) := by
  unfold renT
  split
  · rename_i h
    have h8 := (renC_ok h).1.2.1
    exact okRows_tab _ _ _ (by omega) (by omega)
  · exact okRows_nil
def Wrt (t : List (List Int)) (p : List Int) (a : Nat) (T : List (List Int)) : Prop := T.length = t.length ∧ (∀ x, x < t.length → (T.getD x []).length = t.length) ∧ ∀ c b, c < a → b < t.length → ee T (p.getD c 0).toNat (p.getD b 0).toNat = p.getD (em t c b) 0
theorem wrt_step {t : List (List Int)} {p : List Int} {a : Nat} {T : List (List Int)} {R : List Int} (hp : Perm0 t.length p) (h : Wrt t p a T) (ha : a < t.length) (hR : R.length = t.length) (hv : ∀ b, b < t.length → R.getD (p.getD b 0).toNat 0 = p.getD (em t a b) 0) : Wrt t p (a + 1) (T.set (p.getD a 0).toNat R) := by
  obtain ⟨h1, h2, h3⟩ := h
  have hpa := hp.2.1 a (by rw [hp.1]; exact ha)
  have get : ∀ x, (T.set (p.getD a 0).toNat R).getD x [] = if (p.getD a 0).toNat = x then R else T.getD x [] := fun x => by
    rw [setD (d := ([] : List Int))]
    by_cases e : (p.getD a 0).toNat = x
    · rw [if_pos e, if_pos ⟨e, by omega⟩]
    · rw [if_neg e, if_neg fun q => e q.1]
  refine ⟨by rw [List.length_set]; exact h1, fun x hx => ?_, fun c b hc hb => ?_⟩
  · rw [get]
    split
    · exact hR
    · exact h2 x hx
  · unfold ee
    rw [get]
    by_cases e : c = a
    · subst e
      rw [if_pos rfl]; exact hv b hb
    · have hpc := hp.2.1 c (by rw [hp.1]; omega)
      rw [if_neg (fun q => e (hp.2.2.1 c a (by omega) ha (by omega)))]
      exact h3 c b (by omega) hb
set_option maxHeartbeats 4000000 in
theorem l01Renumbered_spec (t : List (List Int)) (hg : Grp t) (p : List Int) (hp : Perm0 t.length p) : Spec Tryz.prog 58 [.agg [.rds (II t)], .rd (I p)] (.agg [.own 0]) [.rows 27 2 (II (tab (renF t p) t.length t.length))] := by
  have h8 := hg.2.1
  have hpl := hp.1
  have hr : ∀ a, a < t.length → (t.getD a []).length = t.length := fun a ha => (hg.2.2.1 a ha).1
  have he : ∀ a b, a < t.length → b < t.length → (t.getD a []).getD b 0 = em t a b := fun a b ha hb => by have := em_ee hg ha hb; unfold ee at this; exact this
  refine Spec.of_code T_ok Tryz.func58 rfl Tryz.ntmps58 Tryz.call58 (Nat.le_of_ble_eq_true rfl) rfl rfl (CodeV_sound T_ok (by kernel_rfl) rfl ?_)
  refine WW ?_
  refine HereO.alloc T_ok 104 rfl rfl (by decide) ?_
  refine WW ?_
  refine HereO.callOwn T_ok 10 rfl rfl (l01Copy_spec t h8 (fun a ha => by rw [hr a ha]; omega)) SA rfl (by simp) rfl ?_
  refine WW ?_
  refine HereO.alloc T_ok 105 rfl rfl (by decide) ?_
  refine WW ?_
  refine HereO.storeAgg T_ok rfl SS SS rfl SS SR rfl rfl ?_
  refine WW ?_
  refine Here.loopH (κ := Nat × List (List Int)) (fun g => g.1 ≤ t.length ∧ Wrt t p g.1 g.2) (fun g => t.length - g.1) (fun g => [(1, .rd (I p)), (2, .box [.rds (II t)]), (4, .ptr 104 0), (5, .ptr 105 0), (6, .v (.int .i64 g.1))]) (fun g => [(104, .cells 26 [.v nilV]), (105, .cells 26 [.own 1160]), (1160, .rows 27 2 (II g.2))]) (0, t) ⟨by simp, rfl, hr, fun c b hc => by omega⟩ (by simp only [go_sem, Nat.reduceMul, Nat.reduceLeDiff, Nat.reduceLT, reduceIte, reduceCtorEq, Nat.reduceEqDiff, Nat.reduceSub, Nat.reduceAdd]; simp) (by simp only [go_sem, Nat.reduceMul, Nat.reduceLeDiff, Nat.reduceLT, reduceIte, reduceCtorEq, Nat.reduceEqDiff, Nat.reduceSub, Nat.reduceAdd]; simp [nilV]) ?_
  rintro ⟨a, T⟩ ⟨ha, hT⟩
  dsimp only at ha hT ⊢
  obtain ⟨t1, t2, t3⟩ := id hT
  refine HereV.cutSeq (ε := Unit) (fun _ => a < t.length) (fun _ => [(1, .rd (I p)), (2, .box [.rds (II t)]), (4, .ptr 104 0), (5, .ptr 105 0), (6, .v (.int .i64 a))]) (fun _ => [(104, .cells 26 [.v nilV]), (105, .cells 26 [.own 1160]), (1160, .rows 27 2 (II T))]) (HereV.of T_ok ?_) ?_
  · refine WW ?_
    refine HereO.call T_ok rfl rfl (l01N_spec t) SA rfl ?_
    refine WW ?_
    refine ⟨fun h2 => ⟨(), by omega⟩, fun h2 => ?_⟩
    obtain rfl : a = t.length := by omega
    refine HereO.storeAgg T_ok rfl SS SS rfl SS SR rfl rfl ?_
    refine WW ?_
    refine RetT.one 1160 SE rfl ?_
    refine WW ?_
    rw [ren_end hp t1 t2 fun c b hc hb => t3 c b hc hb]
  rintro - hal
  have hpa := hp.2.1 a (by omega)
  obtain ⟨x, hx⟩ := Int.eq_ofNat_of_zero_le hpa.1
  have hxl : x < t.length := by omega
  refine HereV.cutSeq (ε := List Int) (fun R => R.length = t.length ∧ ∀ b, b < t.length → R.getD (p.getD b 0).toNat 0 = p.getD (em t a b) 0) (fun _ => [(1, .rd (I p)), (2, .box [.rds (II t)]), (4, .ptr 104 0), (5, .ptr 105 0), (6, .v (.int .i64 a))]) (fun R => [(104, .cells 26 [.v nilV]), (105, .cells 26 [.own 1160]), (1160, .hole 27 2 (II T) x (some 200)), (200, .row 2 (I R))]) (HereV.block (HereV.of T_ok ?_)) ?_
  · refine WW ?_
    refine Here.drawS T_ok 7 (Nat.le_of_ble_eq_true rfl) mixed_ok (by kernel_rfl) (by kernel_rfl) ?_
    refine WW ?_
    rw [hx]
    simp only [Int.toNat_natCast]
    refine ⟨⟨by omega, by omega⟩, ⟨by omega, by omega⟩, ?_⟩
    refine HereO.openRow T_ok 200 rfl rfl rfl rfl (by rw [II_len]; omega) (by decide) (by decide) ?_
    refine WW ?_
    refine Here.loopV T_ok (κ := Nat × List Int) (fun g => g.1 ≤ t.length ∧ g.2.length = t.length ∧ ∀ c, c < g.1 → g.2.getD (p.getD c 0).toNat 0 = p.getD (em t a c) 0) (fun g => t.length - g.1) (fun g => [(1, .rd (I p)), (2, .box [.rds (II t)]), (4, .ptr 104 0), (5, .ptr 105 0), (6, .v (.int .i64 a)), (7, .own 200), (8, .v (.int .i64 g.1))]) (fun g => [(104, .cells 26 [.v nilV]), (105, .cells 26 [.own 1160]), (1160, .hole 27 2 (II T) x (some 200)), (200, .row 2 (I g.2))]) (0, T.getD x []) ⟨by simp, t2 x hxl, fun c hc => by omega⟩ (by simp only [go_sem, Nat.reduceMul, Nat.reduceLeDiff, Nat.reduceLT, reduceIte, reduceCtorEq, Nat.reduceEqDiff, Nat.reduceSub, Nat.reduceAdd]; simp) SW ?_
    rintro ⟨b, R⟩ ⟨hb, hR, hv⟩
    dsimp only at hb hR hv ⊢
    refine WW ?_
    refine HereO.call T_ok rfl rfl (l01N_spec t) SA rfl ?_
    refine WW ?_
    refine ⟨fun h2 => ?_, fun h2 => ?_⟩
    · have hpb := hp.2.1 b (by omega)
      obtain ⟨y, hy⟩ := Int.eq_ofNat_of_zero_le hpb.1
      have hem := em_lt hg (a := a) (b := b) hal (by omega)
      refine Here.drawS T_ok 16 (Nat.le_of_ble_eq_true rfl) mixed_ok (by kernel_rfl) (by kernel_rfl) ?_
      refine WW ?_
      rw [hy, he a b hal (by omega), hr a hal]
      simp only [Int.toNat_natCast]
      refine ⟨⟨by omega, by omega⟩, ⟨by omega, by omega⟩, ⟨by omega, by omega⟩, ⟨by omega, by omega⟩, ⟨by omega, by omega⟩, ?_⟩
      refine HereO.storeRow T_ok (vs := I R) (u := .int .i64 (p.getD (em t a b) 0)) rfl SS SS rfl SS rfl (by rw [I_len]; omega) ?_
      refine WW ?_
      rw [I_set]
      refine ⟨by unfold InR; omega, (b + 1, R.set y (p.getD (em t a b) 0)), ⟨by dsimp only; omega, by simpa using hR, fun c hc => ?_⟩, by dsimp only; omega, by push_cast; rfl, rfl⟩
      dsimp only at hc ⊢
      rw [setD]
      by_cases e : c = b
      · subst e
        rw [hy, if_pos ⟨rfl, by omega⟩]
      · have hpc := hp.2.1 c (by omega)
        rw [if_neg fun q => e (hp.2.2.1 c b (by omega) (by omega) (by omega))]
        exact hv c (by omega)
    · obtain rfl : b = t.length := by omega
      exact ⟨R, ⟨hR, hv⟩, rfl⟩
  rintro R ⟨r1, r2⟩
  refine HereV.conv (Conv.shut 200 (id := 1160) (e := 27) (e' := 2) (i := x) (tt := II T) (vs := I R) (by decide) (by rfl) (by rfl)) (HereV.of T_ok ?_)
  refine WW ?_
  have hst := wrt_step hp hT hal r1 r2
  rw [hx, Int.toNat_natCast] at hst
  exact ⟨by unfold InR; omega, (a + 1, T.set x R), ⟨by dsimp only; omega, hst⟩, by dsimp only; omega, by push_cast; rfl, by rw [II_set]⟩
theorem specRenumberGroup (t : List (List Int)) (p : List Int) (hl : p.length ≤ 1048576) : Spec Tryz.prog 28 [.agg [.rds (II t)], .rd (I p)] (.tup [.agg [.own 0], .v (.int .i64 (renC t p))]) [.rows 27 2 (II (renT t p))] := by
  refine Spec.of_codeC T_ok Tryz.func28 rfl Tryz.ntmps28 Tryz.call28 (Nat.le_of_ble_eq_true rfl) rfl rfl (CodeV_sound T_ok (by kernel_rfl) rfl ?_)
  refine WW ?_
  refine HereO.alloc T_ok 104 rfl rfl (by decide) ?_
  refine WW ?_
  refine HereO.call T_ok rfl rfl (l01Is_spec t) SA rfl ?_
  refine WW ?_
  refine ⟨fun h => ?_, fun h => ?_⟩
  · have hc : renC t p = 1 := by unfold renC; rw [if_neg h]
    refine HereO.opP T_ok (OpP.build built_26 rfl rfl rfl rfl) ?_
    refine WW ?_
    refine HereO.storeAgg T_ok rfl SS SS rfl SS SR rfl rfl ?_
    refine WW ?_
    exact RetC.conv (Conv.nilIn (c := 104) (tt := 26) (l := [.v nilV]) 0 150 (.rows 27 2 []) rfl (by decide) (by decide) (by rfl) rfl) (RetC.of (RetT.one 150 SE (by simp only [go_sem, Nat.reduceMul, Nat.reduceLeDiff, Nat.reduceLT, reduceIte, reduceCtorEq, Nat.reduceEqDiff, Nat.reduceSub, Nat.reduceAdd] <;> simp [renT, hc, II]) (by simp only [go_sem, Nat.reduceMul, Nat.reduceLeDiff, Nat.reduceLT, reduceIte, reduceCtorEq, Nat.reduceEqDiff, Nat.reduceSub, Nat.reduceAdd] <;> simp [renT, hc, II])))
  · have h8 := h.2.1
    refine HereO.call T_ok rfl rfl (l01N_spec t) SA rfl ?_
    refine WW ?_
    refine HereO.call T_ok rfl rfl (l01Numbers_spec p t.length h.1 h8 hl) SA rfl ?_
    refine WW ?_
    refine ⟨fun h2 => ?_, fun h2 => ?_⟩
    · have hc : renC t p = 2 := by unfold renC; rw [if_pos h, h2]; rfl
      refine HereO.opP T_ok (OpP.build built_26 rfl rfl rfl rfl) ?_
      refine WW ?_
      refine HereO.storeAgg T_ok rfl SS SS rfl SS SR rfl rfl ?_
      refine WW ?_
      exact RetC.conv (Conv.nilIn (c := 104) (tt := 26) (l := [.v nilV]) 0 150 (.rows 27 2 []) rfl (by decide) (by decide) (by rfl) rfl) (RetC.of (RetT.one 150 SE (by simp only [go_sem, Nat.reduceMul, Nat.reduceLeDiff, Nat.reduceLT, reduceIte, reduceCtorEq, Nat.reduceEqDiff, Nat.reduceSub, Nat.reduceAdd] <;> simp [renT, hc, II]) (by simp only [go_sem, Nat.reduceMul, Nat.reduceLeDiff, Nat.reduceLT, reduceIte, reduceCtorEq, Nat.reduceEqDiff, Nat.reduceSub, Nat.reduceAdd] <;> simp [renT, hc, II])))
    · have hc : renC t p = 0 := by unfold renC; rw [if_pos h, if_pos h2]
      refine HereO.callOwn T_ok 20 rfl rfl (l01Renumbered_spec t h p (permB_ok h2)) SA rfl (by simp) rfl ?_
      refine WW ?_
      refine HereO.storeAgg T_ok rfl SS SS rfl SS SR rfl rfl ?_
      refine WW ?_
      exact RetC.of (RetT.one 1320 SE (by simp only [go_sem, Nat.reduceMul, Nat.reduceLeDiff, Nat.reduceLT, reduceIte, reduceCtorEq, Nat.reduceEqDiff, Nat.reduceSub, Nat.reduceAdd] <;> simp [renT, hc]) (by simp only [go_sem, Nat.reduceMul, Nat.reduceLeDiff, Nat.reduceLT, reduceIte, reduceCtorEq, Nat.reduceEqDiff, Nat.reduceSub, Nat.reduceAdd] <;> simp [renT, hc]))
end Go.Proofs.YtcjhojdlfnpgjaaGreat
namespace Go.Proofs.YtcjhojdlfnpgjaaGreat
open Go.RowKit
def Unit1 (m u : Int) : Prop := 1 ≤ u ∧ u < m ∧ Nat.gcd u.toNat m.toNat = 1
instance (m u : Int) : Decidable (Unit1 m u) := by unfold Unit1; infer_instance
def Mod (t : List (List Int)) (m : Int) (l : List Int) : Prop := (2 ≤ m ∧ m ≤ 12) ∧ l.length = t.length ∧ (∀ j, j < l.length → Unit1 m (l.getD j 0)) ∧ ∀ a, a < l.length → ∀ b, b < l.length → l.getD (ee t a b).toNat 0 = (l.getD a 0 * l.getD b 0).tmod m
instance (t : List (List Int)) (m : Int) (l : List Int) : Decidable (Mod t m l) := by unfold Mod; infer_instance
theorem unit_one {m u : Int} (hm : 2 ≤ m ∧ m ≤ 12) (hu : Unit1 m u) (h : u = (u * u).tmod m) : u = 1 := by
  obtain ⟨h1, h2, h3⟩ := hu
  have hmm : m = 2 ∨ m = 3 ∨ m = 4 ∨ m = 5 ∨ m = 6 ∨ m = 7 ∨ m = 8 ∨ m = 9 ∨ m = 10 ∨ m = 11 ∨ m = 12 := by omega
  have huu : u = 1 ∨ u = 2 ∨ u = 3 ∨ u = 4 ∨ u = 5 ∨ u = 6 ∨ u = 7 ∨ u = 8 ∨ u = 9 ∨ u = 10 ∨ u = 11 := by omega
  revert h h3 h2
  rcases hmm with rfl | rfl | rfl | rfl | rfl | rfl | rfl | rfl | rfl | rfl | rfl <;> rcases huu with rfl | rfl | rfl | rfl | rfl | rfl | rfl | rfl | rfl | rfl | rfl <;> decide
theorem Mod.one {t : List (List Int)} {m : Int} {l : List Int} (hg : Grp t) (h : Mod t m l) : l.getD 0 0 = 1 := by
  have h0 := hg.1
  have e := (hg.2.2.2 0 (by omega)).1.1
  have := h.2.2.2 0 (by have := h.2.1; omega) 0 (by have := h.2.1; omega)
  rw [e] at this
  exact unit_one h.1 (h.2.2.1 0 (by have := h.2.1; omega)) this
set_option maxHeartbeats 1000000 in
set_option maxHeartbeats 1000000 in
def modV (t : List (List Int)) (m : Int) (l : List Int) : Bool := decide (Grp t ∧ Mod t m l)
end Go.Proofs.YtcjhojdlfnpgjaaGreat
namespace Go.Proofs.YtcjhojdlfnpgjaaGreat
open Go.RowKit
theorem I_takeN (R : List Int) (n : Nat) : (I R).take n = I (R.take n) := by simp [I, List.map_take]
def Fine (t : List (List Int)) (m : Int) (w : List Int) : Prop := ∀ a, a < w.length → ∀ b, b < w.length → ee t a b < w.length → w.getD (ee t a b).toNat 0 = (w.getD a 0 * w.getD b 0).tmod m
instance (t : List (List Int)) (m : Int) (w : List Int) : Decidable (Fine t m w) := by unfold Fine; infer_instance
def dfsM (t : List (List Int)) (m : Int) : Nat → List Int → List (List Int)
  | 0, l => if Mod t m l then [l] else []
  | k + 1, l => (List.range m.toNat).flatMap fun (u : Nat) => if Unit1 m u ∧ Fine t m (l ++ [(u : Int)]) then dfsM t m k (l ++ [(u : Int)]) else []
def UnitS (m : Int) (l : List Int) (u : Nat) : Prop := 1 ≤ u ∧ Nat.gcd u m.toNat = 1 ∧ (0 < l.length ∨ u = 1)
instance (m : Int) (l : List Int) (u : Nat) : Decidable (UnitS m l u) := by unfold UnitS; infer_instance
def dfsS (t : List (List Int)) (m : Int) : Nat → List Int → List (List Int)
  | 0, l => if Fine t m l then [l] else []
  | k + 1, l => if Fine t m l then (List.range m.toNat).flatMap fun (u : Nat) => if UnitS m l u then dfsS t m k (l ++ [(u : Int)]) else [] else []
def Units (m : Int) (l : List Int) : Prop := ∀ j, j < l.length → Unit1 m (l.getD j 0)
def mq (q : List (Int × List Int)) : List (Value × List Value) := q.map fun p => (.int .i64 p.1, I p.2)
def withM (m : Int) (L : List (List Int)) : List (Int × List Int) := L.map fun l => (m, l)
def modsR (t : List (List Int)) (m : Int) : List (Int × List Int) := if Grp t ∧ 2 ≤ m ∧ m ≤ 12 then withM m (dfsM t m t.length []) else []
def codeMs (t : List (List Int)) (m : Int) : Int := if Grp t then (if 2 ≤ m ∧ m ≤ 12 then 0 else 2) else 1
end Go.Proofs.YtcjhojdlfnpgjaaGreat
