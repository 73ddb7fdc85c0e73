/- Contracts: the draw of two groups and of images; Contracts: what the laws of changes read; Contracts: what the laws of groups compare; Plain laws of cosets and quotients. -/
import Derived.Test.YtcjhojdlfnpgjaaGreatK24
import Derived.Test.YtcjhojdlfnpgjaaGreatK29
import Derived.Test.YtcjhojdlfnpgjaaGreatK21
import Derived.Test.YtcjhojdlfnpgjaaGreatK15
import Derived.Test.YtcjhojdlfnpgjaaGreatK18
set_option linter.unusedVariables false
set_option linter.unusedSimpArgs false
set_option maxRecDepth 100000
namespace Go.Proofs.YtcjhojdlfnpgjaaGreat
open Go.RowKit
def imL (bs : List Int) (m : Int) (s : Int × Int) : Nat → List Int × Int × Int
  | 0 => ([], s)
  | k + 1 => ((imL bs m s k).1 ++ [(nx bs m (imL bs m s k).2).1 * (pk bs [0, 1] (nx bs m (imL bs m s k).2).2).1], (pk bs [0, 1] (nx bs m (imL bs m s k).2).2).2)
theorem imL_ok {bs : List Int} (hb : Bytes bs) (m : Int) {s : Int × Int} (hs : At bs s) : ∀ k, (imL bs m s k).1.length = k ∧ At bs (imL bs m s k).2
  | 0 => ⟨rfl, hs⟩
  | k + 1 => by
    obtain ⟨h1, h2⟩ := imL_ok hb m hs k
    obtain ⟨_, _, h3⟩ := nx_ok hb m h2
    exact ⟨by simp [imL, h1], (pk_ok hb (by simp) h3).2⟩
noncomputable def imB (bs : List Int) (L : List (List Int)) (r : List Int × Int × Int) : List Int × Int × Int := if 0 < L.length ∧ 0 < (nx bs 4 r.2).1 then (L.getD (nx bs L.length (nx bs 4 r.2).2).1.toNat [], (nx bs L.length (nx bs 4 r.2).2).2) else if 0 < L.length then (r.1, (nx bs 4 r.2).2) else r
def imC (bs : List Int) (m : Int) (r : List Int × Int × Int) : List Int × Int × Int := if (nx bs 20 r.2).1 = 0 then (r.1 ++ [0], (nx bs 20 r.2).2) else if (nx bs 20 r.2).1 = 1 then (r.1.set 0 (pk bs [-1, m] (nx bs 20 r.2).2).1, (pk bs [-1, m] (nx bs 20 r.2).2).2) else (r.1, (nx bs 20 r.2).2)
theorem imB_ok {bs : List Int} (hb : Bytes bs) {L : List (List Int)} {r : List Int × Int × Int} {n : Nat} (hr : r.1.length = n) (hL : ∀ x ∈ L, x.length = n) (hs : At bs r.2) : (imB bs L r).1.length = n ∧ At bs (imB bs L r).2 := by
  obtain ⟨_, _, h3⟩ := nx_ok hb 4 hs
  obtain ⟨h4, h5, h6⟩ := nx_ok hb (L.length : Nat) h3
  unfold imB
  split
  · rename_i h
    have h5' := h5 (by omega)
    refine ⟨hL _ ?_, h6⟩
    rw [List.getD_eq_getElem?_getD, List.getElem?_eq_getElem (show (nx bs (L.length : Nat) (nx bs 4 r.2).2).1.toNat < L.length by omega), Option.getD_some]
    exact List.getElem_mem _
  · split
    · exact ⟨hr, h3⟩
    · exact ⟨hr, hs⟩
theorem imC_ok {bs : List Int} (hb : Bytes bs) (m : Int) {r : List Int × Int × Int} (hs : At bs r.2) : (imC bs m r).1.length ≤ r.1.length + 1 ∧ At bs (imC bs m r).2 := by
  obtain ⟨_, _, h3⟩ := nx_ok hb 20 hs
  unfold imC
  split
  · exact ⟨by simp, h3⟩
  · split
    · exact ⟨by simp, (pk_ok hb (by simp) h3).2⟩
    · exact ⟨by simp, h3⟩
theorem dfs_rows {t u : List (List Int)} {x : List Int} (h : x ∈ dfs t u t.length []) : x.length = t.length := by
  have := (dfs_ext _ _ _ h).1
  simpa using this
noncomputable def ihA (bs : List Int) (t u : List (List Int)) (s : Int × Int) : List Int × Int × Int := imC bs u.length (imB bs (dfs t u t.length []) (imL bs u.length s t.length))
noncomputable def ihV (bs : List Int) (t u : List (List Int)) (s : Int × Int) : List (List Int) × List (List Int) × List Int := ((badV bs t (ihA bs t u s).2).1, (badV bs u (badV bs t (ihA bs t u s).2).2).1, (ihA bs t u s).1)
def tab2R (y : List (List Int) × List (List Int) × List Int) : LV := .tup [.agg [.rds (II y.1)], .agg [.rds (II y.2.1)], .rd (I y.2.2)]
set_option maxHeartbeats 8000000 in
theorem DrawIsHomomorphism_spec (bs : List Int) (hb : Bytes bs) : SpecF Tryz.prog 29 [.rd (BY bs)] tab2R (fun y => Sp y.1 ∧ Sp y.2.1 ∧ y.2.2.length ≤ 9) := by
  have h0 := src0_at bs
  have hg := drG_grp hb (names := nms) (by decide) (fun k hk => (nms_fact k hk).2.1) h0
  obtain ⟨h1, h2⟩ := drG_ok hb (names := nms) (by decide) (fun k hk => (nms_fact k hk).2.1) h0
  have hd := l01Draw_spec bs hb _ h0
  generalize drG bs nms (src0 bs) = a at *
  obtain ⟨t, s1⟩ := a
  dsimp only at h1 h2 hd hg ⊢
  have hu := drG_grp hb (names := nms) (by decide) (fun k hk => (nms_fact k hk).2.1) h2
  obtain ⟨g1, g2⟩ := drG_ok hb (names := nms) (by decide) (fun k hk => (nms_fact k hk).2.1) h2
  have hd2 := l01Draw_spec bs hb _ h2
  generalize drG bs nms s1 = a at *
  obtain ⟨u, s2⟩ := a
  dsimp only at g1 g2 hd2 hu ⊢
  have t8 := hg.2.1
  have t1 := hg.1
  have u8 := hu.2.1
  have u1 := hu.1
  have hsr := search_spec t u hg hu false t.length [] (by simp) (fun j hj => by simp at hj)
  rw [dfsD_false] at hsr
  obtain ⟨m1, m2⟩ := imL_ok hb (u.length : Nat) g2 t.length
  obtain ⟨b1, b2⟩ := imB_ok hb (L := dfs t u t.length []) m1 (fun x hx => dfs_rows hx) m2
  obtain ⟨c1, c2⟩ := imC_ok hb (u.length : Nat) b2
  obtain ⟨h6, h7⟩ := badV_ok hb h1 c2
  obtain ⟨h9, _⟩ := badV_ok hb g1 h7
  have hL8 : (dfs t u t.length []).length ≤ 1099511627776 := by
    have := dfs_len (t := t) u8 t.length []
    have h3 := Nat.pow_le_pow_right (n := 8) (by decide) t8
    have : (8 : Nat) ^ 8 = 16777216 := rfl
    omega
  refine SpecF.of_code T_ok Tryz.func29 rfl Tryz.ntmps29 Tryz.call29 (Nat.le_of_ble_eq_true rfl) (Here.conv (Conv.ghost 0 200 (by decide) rfl) (CodeV_sound T_ok (by kernel_rfl) rfl ?_))
  refine WW ?_
  refine HereO.alloc T_ok 102 rfl rfl (by decide) ?_
  refine WW ?_
  refine HereO.alloc T_ok 103 rfl rfl (by decide) ?_
  refine WW ?_
  refine HereO.callM T_ok 8 [200] rfl rfl (l01From_spec bs hb) SC rfl (by decide) (by decide) rfl rfl rfl (Nat.le_of_ble_eq_true rfl) ?_
  refine WW ?_
  refine HereO.callM T_ok 14 [1129,200] rfl rfl (hd) SC rfl (by decide) (by decide) rfl rfl rfl (Nat.le_of_ble_eq_true rfl) ?_
  refine WW ?_
  refine HereO.callM T_ok 16 [1129,200] rfl rfl (hd2) SC rfl (by decide) (by decide) rfl rfl rfl (Nat.le_of_ble_eq_true rfl) ?_
  refine WW ?_
  refine HereO.buildRow T_ok 1864 (I []) rfl rfl rfl (by decide) rfl SR rfl (by decide) ?_
  refine WW ?_
  refine HereO.alloc T_ok 106 rfl rfl (by decide) ?_
  refine WW ?_
  refine HereO.alloc T_ok 107 rfl rfl (by decide) ?_
  refine WW ?_
  refine HereO.storeAgg T_ok rfl SS SS rfl SS SR rfl rfl ?_
  refine WW ?_
  refine HereO.storeAgg T_ok rfl SS SS rfl SS SR rfl rfl ?_
  refine WW ?_
  refine Here.loopV T_ok (fun k => k ≤ t.length) (fun k => t.length - k) (fun k => [(2, .ptr 102 0), (3, .ptr 103 0), (5, .ptr 1129 0), (6, .ptr 106 0), (7, .ptr 107 0), (8, .own 1864), (9, .v (.int .i64 k))]) (fun k => [(200, .ghost (BY bs)), (102, .cells 26 [.v nilV]), (103, .cells 26 [.v nilV]), (1129, .cells 96 [.own 200, .v (.int .i64 (imL bs u.length s2 k).2.1), .v (.int .u64 (imL bs u.length s2 k).2.2)]), (106, .cells 26 [.own 1226]), (107, .cells 26 [.own 1258]), (1226, .rows 27 2 (II t)), (1258, .rows 27 2 (II u)), (1864, .row 2 (I (imL bs u.length s2 k).1))]) 0 (by omega) (by simp only [go_sem, Nat.reduceMul, Nat.reduceLeDiff, Nat.reduceLT, reduceIte, reduceCtorEq, Nat.reduceEqDiff, Nat.reduceSub, Nat.reduceAdd]; simp) (by (simp only [go_sem, Nat.reduceMul, Nat.reduceLeDiff, Nat.reduceLT, reduceIte, reduceCtorEq, Nat.reduceEqDiff, Nat.reduceSub, Nat.reduceAdd]) <;> first | rfl | ((repeat' apply And.intro) <;> rfl)) ?_
  intro k hk
  obtain ⟨k1, k2⟩ := imL_ok hb (u.length : Nat) g2 k
  refine WW ?_
  refine HereO.call T_ok rfl rfl (l01N_spec t) SA rfl ?_
  refine WW ?_
  refine ⟨fun hk2 => ?_, fun hk2 => ?_⟩
  · obtain ⟨x1, x2, x3⟩ := nx_ok hb (u.length : Nat) k2
    have x2' := x2 (by omega)
    obtain ⟨y1, y2⟩ := pk_ok hb (l := [0, 1]) (by simp) x3
    have hxy : 0 ≤ (nx bs u.length (imL bs u.length s2 k).2).1 * (pk bs [0, 1] (nx bs u.length (imL bs u.length s2 k).2).2).1 ∧ (nx bs u.length (imL bs u.length s2 k).2).1 * (pk bs [0, 1] (nx bs u.length (imL bs u.length s2 k).2).2).1 ≤ 8 := by
      simp only [List.mem_cons, List.not_mem_nil, or_false] at y1
      rcases y1 with e | e
      · rw [e]; omega
      · rw [e]; omega
    refine HereO.call T_ok rfl rfl (l01N_spec u) SA rfl ?_
    refine WW ?_
    refine HereO.callM T_ok 28 [1129,200] rfl rfl (l01Next_spec bs hb (u.length : Nat) _ k2) SC rfl (by decide) (by decide) rfl rfl rfl (Nat.le_of_ble_eq_true rfl) ?_
    refine WW ?_
    refine HereO.buildRow T_ok 190 (I [0, 1]) rfl rfl rfl (by decide) rfl SR rfl (by decide) ?_
    refine WW ?_
    refine HereO.callM T_ok 31 [1129,200] rfl rfl (l01Pick_spec bs hb [0, 1] ⟨by simp, by simp⟩ _ x3) SC rfl (by decide) (by decide) rfl rfl rfl (Nat.le_of_ble_eq_true rfl) ?_
    refine WW ?_
    have e : imL bs u.length s2 (k + 1) = ((imL bs u.length s2 k).1 ++ [(nx bs u.length (imL bs u.length s2 k).2).1 * (pk bs [0, 1] (nx bs u.length (imL bs u.length s2 k).2).2).1], (pk bs [0, 1] (nx bs u.length (imL bs u.length s2 k).2).2).2) := rfl
    refine ⟨by unfold InR; omega, ?_⟩
    refine HereO.buildRow T_ok 191 (I [(nx bs u.length (imL bs u.length s2 k).2).1 * (pk bs [0, 1] (nx bs u.length (imL bs u.length s2 k).2).2).1]) rfl rfl rfl (by decide) rfl SR rfl (by decide) ?_
    refine WW ?_
    refine HereO.append T_ok (I [(nx bs u.length (imL bs u.length s2 k).2).1 * (pk bs [0, 1] (nx bs u.length (imL bs u.length s2 k).2).2).1]) rfl rfl (by decide) SS (by decide) SS SS (.own 191 _ _ (by decide) SS) (I_one _) SL ?_
    refine WW ?_
    rw [I_append]
    exact ⟨by unfold InR; omega, k + 1, by omega, by omega, by push_cast; rfl, by rw [e]; (repeat' apply And.intro) <;> rfl⟩
  · obtain rfl : k = t.length := by omega
    obtain ⟨_, _, n3⟩ := nx_ok hb 4 m2
    have hLr : ∀ x ∈ dfs t u t.length [], x.length = t.length := fun x hx => dfs_rows hx
    generalize imL bs u.length s2 t.length = r at *
    refine HereO.buildRow T_ok 192 (I []) rfl rfl rfl (by decide) rfl SR rfl (by decide) ?_
    refine WW ?_
    refine HereO.cutS (ε := Unit) (fun _ => True) (fun _ => [(2, .ptr 102 0), (3, .ptr 103 0), (5, .ptr 1129 0), (6, .ptr 106 0), (7, .ptr 107 0), (8, .own 1864), (10, .own 1609)]) (fun _ => [(200, .ghost (BY bs)), (102, .cells 26 [.v nilV]), (103, .cells 26 [.v nilV]), (106, .cells 26 [.own 1226]), (107, .cells 26 [.own 1258]), (1226, .rows 27 2 (II t)), (1258, .rows 27 2 (II u)), (1129, .cells 96 [.own 200, .v (.int .i64 (r.2).1), .v (.int .u64 (r.2).2)]), (1609, .rows 27 2 (II (dfs t u t.length []))), (1864, .row 2 (I r.1))]) ?_ ?_
    · refine HereO.callM T_ok 38 [192] rfl rfl (hsr) SC rfl (by decide) (by decide) rfl rfl rfl (Nat.le_of_ble_eq_true rfl) ?_
      refine WW ?_
      exact ⟨(), trivial⟩
    intro _ _
    generalize dfs t u t.length [] = L at *
    refine HereV.cutSeq (ε := Bool × Int × Int) (fun e => if e.1 = true then 0 < L.length ∧ 0 < (nx bs 4 r.2).1 ∧ e.2 = (nx bs 4 r.2).2 else imB bs L r = (r.1, e.2)) (fun e => [(2, .ptr 102 0), (3, .ptr 103 0), (5, .ptr 1129 0), (6, .ptr 106 0), (7, .ptr 107 0), (8, .own 1864), (10, .own 1609), (46, .v (.bool e.1))]) (fun e => [(200, .ghost (BY bs)), (102, .cells 26 [.v nilV]), (103, .cells 26 [.v nilV]), (106, .cells 26 [.own 1226]), (107, .cells 26 [.own 1258]), (1226, .rows 27 2 (II t)), (1258, .rows 27 2 (II u)), (1129, .cells 96 [.own 200, .v (.int .i64 (e.2).1), .v (.int .u64 (e.2).2)]), (1609, .rows 27 2 (II L)), (1864, .row 2 (I r.1))]) (HereV.of T_ok ?_) ?_
    · refine WW ?_
      refine ⟨fun hL => ?_, fun hL => ⟨(false, r.2), by dsimp only; rw [if_neg (by decide)]; unfold imB; rw [if_neg fun q => by omega, if_neg (by omega)], rfl, rfl⟩⟩
      refine HereO.callM T_ok 44 [1129,200] rfl rfl (l01Next_spec bs hb 4 _ m2) SC rfl (by decide) (by decide) rfl rfl rfl (Nat.le_of_ble_eq_true rfl) ?_
      refine WW ?_
      by_cases h5 : 0 < (nx bs 4 r.2).1
      · exact ⟨(true, (nx bs 4 r.2).2), by dsimp only; rw [if_pos rfl]; exact ⟨by omega, h5, rfl⟩, decide_eq_true h5, rfl⟩
      · exact ⟨(false, (nx bs 4 r.2).2), by dsimp only; rw [if_neg (by decide)]; unfold imB; rw [if_neg fun q => h5 q.2, if_pos (by omega)], decide_eq_false h5, rfl⟩
    rintro ⟨z, st⟩ hz
    dsimp only at hz ⊢
    refine HereV.cutK (ε := Unit) (fun _ => True) (fun _ => [(2, .ptr 102 0), (3, .ptr 103 0), (5, .ptr 1129 0), (6, .ptr 106 0), (7, .ptr 107 0), (8, .own 1864)]) (fun _ => [(200, .ghost (BY bs)), (102, .cells 26 [.v nilV]), (103, .cells 26 [.v nilV]), (106, .cells 26 [.own 1226]), (107, .cells 26 [.own 1258]), (1226, .rows 27 2 (II t)), (1258, .rows 27 2 (II u)), (1129, .cells 96 [.own 200, .v (.int .i64 ((imB bs L r).2).1), .v (.int .u64 ((imB bs L r).2).2)]), (1864, .row 2 (I (imB bs L r).1))]) ?_ ?_
    · cases z with
      | false =>
        rw [if_neg (by decide)] at hz
        rw [hz]
        refine HereV.of T_ok ?_
        refine WW ?_
        exact ⟨(), trivial⟩
      | true =>
        rw [if_pos rfl] at hz
        obtain ⟨hL, h5, rfl⟩ := hz
        obtain ⟨o1, o2, o3⟩ := nx_ok hb (L.length : Nat) n3
        have o2' := o2 (by omega)
        have e : imB bs L r = (L.getD (nx bs L.length (nx bs 4 r.2).2).1.toNat [], (nx bs L.length (nx bs 4 r.2).2).2) := by unfold imB; rw [if_pos ⟨hL, h5⟩]
        have hlen : (L.getD (nx bs L.length (nx bs 4 r.2).2).1.toNat []).length ≤ 8 := by have := b1; rw [e] at this; dsimp only at this; omega
        rw [e]
        refine HereV.of T_ok ?_
        refine WW ?_
        refine HereO.callM T_ok 51 [1129,200] rfl rfl (l01Next_spec bs hb (L.length : Nat) _ n3) SC rfl (by decide) (by decide) rfl rfl rfl (Nat.le_of_ble_eq_true rfl) ?_
        refine WW ?_
        refine ⟨⟨o1, o2'⟩, ?_⟩
        refine HereO.openRow T_ok 210 rfl rfl rfl rfl (by rw [II_len]; omega) (by decide) (by decide) ?_
        refine WW ?_
        refine HereO.callOwn T_ok 54 rfl rfl (ownR_spec (L.getD (nx bs L.length (nx bs 4 r.2).2).1.toNat []) (by omega)) SA rfl (by simp) rfl ?_
        refine WW ?_
        refine ⟨(), ?_⟩
        (repeat' apply And.intro) <;> first | trivial | rfl
    intro _ _
    generalize imB bs L r = q at *
    obtain ⟨_, _, p3⟩ := nx_ok hb 20 b2
    refine HereV.of T_ok ?_
    refine WW ?_
    refine HereO.cutS (ε := Unit) (fun _ => True) (fun _ => [(2, .ptr 102 0), (3, .ptr 103 0), (5, .ptr 1129 0), (6, .ptr 106 0), (7, .ptr 107 0), (8, .own 1864), (56, .v (.int .i64 (nx bs 20 q.2).1))]) (fun _ => [(200, .ghost (BY bs)), (102, .cells 26 [.v nilV]), (103, .cells 26 [.v nilV]), (106, .cells 26 [.own 1226]), (107, .cells 26 [.own 1258]), (1226, .rows 27 2 (II t)), (1258, .rows 27 2 (II u)), (1129, .cells 96 [.own 200, .v (.int .i64 ((nx bs 20 q.2).2).1), .v (.int .u64 ((nx bs 20 q.2).2).2)]), (1864, .row 2 (I q.1))]) ?_ ?_
    · refine HereO.callM T_ok 56 [1129,200] rfl rfl (l01Next_spec bs hb 20 _ b2) SC rfl (by decide) (by decide) rfl rfl rfl (Nat.le_of_ble_eq_true rfl) ?_
      refine WW ?_
      refine ⟨(), ?_⟩
      (repeat' apply And.intro) <;> first | trivial | rfl
    intro _ _
    refine HereV.cutK (ε := Unit) (fun _ => True) (fun _ => [(2, .ptr 102 0), (3, .ptr 103 0), (5, .ptr 1129 0), (6, .ptr 106 0), (7, .ptr 107 0), (8, .own 1864)]) (fun _ => [(200, .ghost (BY bs)), (102, .cells 26 [.v nilV]), (103, .cells 26 [.v nilV]), (106, .cells 26 [.own 1226]), (107, .cells 26 [.own 1258]), (1226, .rows 27 2 (II t)), (1258, .rows 27 2 (II u)), (1129, .cells 96 [.own 200, .v (.int .i64 ((imC bs u.length q).2).1), .v (.int .u64 ((imC bs u.length q).2).2)]), (1864, .row 2 (I (imC bs u.length q).1))]) (HereV.block (HereV.of T_ok ?_)) ?_
    · refine WW ?_
      refine ⟨fun h20 => ?_, fun h20 => ⟨fun h21 => ?_, fun h21 => ?_⟩⟩
      · have e : imC bs u.length q = (q.1 ++ [0], (nx bs 20 q.2).2) := by unfold imC; rw [if_pos h20]
        refine HereO.buildRow T_ok 193 (I [0]) rfl rfl rfl (by decide) rfl SR rfl (by decide) ?_
        refine WW ?_
        refine HereO.append T_ok (I [0]) rfl rfl (by decide) SS (by decide) SS SS (.own 193 _ _ (by decide) SS) (I_one _) SL ?_
        refine WW ?_
        rw [I_append, e]
        refine ⟨(), ?_⟩
        (repeat' apply And.intro) <;> first | trivial | rfl
      · have e : imC bs u.length q = (q.1.set 0 (pk bs [-1, (u.length : Nat)] (nx bs 20 q.2).2).1, (pk bs [-1, (u.length : Nat)] (nx bs 20 q.2).2).2) := by unfold imC; rw [if_neg h20, if_pos h21]
        refine HereO.call T_ok rfl rfl (l01N_spec u) SA rfl ?_
        refine WW ?_
        refine HereO.buildRow T_ok 194 (I [-1, (u.length : Int)]) rfl rfl rfl (by decide) rfl SR rfl (by decide) ?_
        refine WW ?_
        refine HereO.callM T_ok 69 [1129,200] rfl rfl (l01Pick_spec bs hb [-1, (u.length : Int)] ⟨by simp, by simp⟩ _ p3) SC rfl (by decide) (by decide) rfl rfl rfl (Nat.le_of_ble_eq_true rfl) ?_
        refine WW ?_
        refine ⟨⟨by omega, by omega⟩, ?_⟩
        refine HereO.storeRow T_ok (vs := I q.1) (u := .int .i64 (pk bs [-1, (u.length : Nat)] (nx bs 20 q.2).2).1) rfl SS SS rfl SS rfl (by rw [I_len]; omega) ?_
        refine WW ?_
        rw [I_set, e]
        refine ⟨(), ?_⟩
        (repeat' apply And.intro) <;> first | trivial | rfl
      · have e : imC bs u.length q = (q.1, (nx bs 20 q.2).2) := by unfold imC; rw [if_neg h20, if_neg h21]
        rw [e]
        refine ⟨(), ?_⟩
        (repeat' apply And.intro) <;> first | trivial | rfl
    intro _ _
    generalize imC bs u.length q = w at *
    refine HereV.of T_ok ?_
    refine WW ?_
    refine Here.drawC T_ok [.f, .f, .c, .f, .f, .c, .f, .c, .c] [5, 6, 7, 8] [2168, 2169, 2170, 2171, 2172, 2173, 2174, 2175, 2176, 2177, 2178, 2179, 2180, 2181, 2182, 2183, 2216, 2217, 2218, 2219, 2220, 2221, 2222, 2223, 2224, 2225, 2226, 2227, 2228, 2229, 2230, 2231] [106, 107] (Nat.le_of_ble_eq_true rfl) mixed_ok (by kernel_rfl) (by kernel_rfl) (by kernel_rfl) (by simp only [List.mem_cons, List.not_mem_nil, or_false, forall_eq_or_imp, forall_eq, go_sem, Nat.reduceMul, Nat.reduceLeDiff, Nat.reduceLT, reduceIte, reduceCtorEq, Nat.reduceEqDiff, Nat.reduceSub, Nat.reduceAdd] <;> first | exact calm_ptr_ne rfl | exact calm_ne rfl | exact ⟨calm_ptr_ne rfl, calm_ptr_ne rfl⟩ | exact ⟨calm_ptr_ne rfl, calm_ptr_ne rfl, calm_ptr_ne rfl⟩ | exact ⟨calm_ptr_ne rfl, calm_knot (by simp only [go_sem, Nat.reduceMul, Nat.reduceLeDiff, Nat.reduceLT, reduceIte, reduceCtorEq, Nat.reduceEqDiff, Nat.reduceSub, Nat.reduceAdd] <;> exact calm_ptr_ne rfl)⟩ | ((repeat' apply And.intro) <;> first | exact calm_ptr_ne rfl | exact calm_ne rfl)) ?_
    refine WW ?_
    refine ⟨calm_ptr_ne rfl, ?_⟩
    refine HereF.loadAgg T_ok (id := 106) (tt := 26) (c := [.own 1226]) rfl SS (by kernel_rfl) rfl (by decide) SS rfl (calm_agg1 (calm_ne rfl)) ?_
    refine WW ?_
    refine HereC.callM 73 [1129,200,1226] rfl rfl (l01Bad_spec bs hb t h1 _ c2) SC rfl (by decide) (by decide) rfl rfl rfl (Nat.le_of_ble_eq_true rfl) (inK_shift rfl) SK ?_
    refine WW ?_
    refine ⟨calm_ptr_ne rfl, ?_⟩
    refine HereF.loadAgg T_ok (id := 107) (tt := 26) (c := [.own 1258]) rfl SS (by kernel_rfl) rfl (by decide) SS rfl (calm_agg1 (calm_ne rfl)) ?_
    refine WW ?_
    refine HereC.callM 76 [1129,200,1258] rfl rfl (l01Bad_spec bs hb u g1 _ h7) SC rfl (by decide) (by decide) rfl rfl rfl (Nat.le_of_ble_eq_true rfl) (inK_shift rfl) SK ?_
    refine WW ?_
    refine ⟨calm_ne rfl, ?_⟩
    refine HereC.storeAgg T_ok rfl SS SS rfl SS SR rfl rfl SK ?_
    refine WW ?_
    refine HereC.storeAgg T_ok rfl SS SS rfl SS SR rfl rfl SK ?_
    refine WW ?_
    refine RetF.of (res := tab2R) (Q := fun y => Sp y.1 ∧ Sp y.2.1 ∧ y.2.2.length ≤ 9) ((badV bs t w.2).1, (badV bs u (badV bs t w.2).2).1, w.1) (.tup [.agg [.own 0], .agg [.own 1], .own 2]) [.frz (II (badV bs t w.2).1), .frz (II (badV bs u (badV bs t w.2).2).1), .row 2 (I w.1)] ⟨h6, h9, by dsimp only; omega⟩ rfl rfl rfl ?_
    refine RetC.of (RetT.three 2171 2219 1864 (by decide) SE rfl ?_ ?_ ?_)
    · (simp only [go_sem, Nat.reduceMul, Nat.reduceLeDiff, Nat.reduceLT, reduceIte, reduceCtorEq, Nat.reduceEqDiff, Nat.reduceSub, Nat.reduceAdd]) <;> rfl
    · (simp only [go_sem, Nat.reduceMul, Nat.reduceLeDiff, Nat.reduceLT, reduceIte, reduceCtorEq, Nat.reduceEqDiff, Nat.reduceSub, Nat.reduceAdd]) <;> rfl
    · (simp only [go_sem, Nat.reduceMul, Nat.reduceLeDiff, Nat.reduceLT, reduceIte, reduceCtorEq, Nat.reduceEqDiff, Nat.reduceSub, Nat.reduceAdd]) <;> rfl
end Go.Proofs.YtcjhojdlfnpgjaaGreat
namespace Go.Proofs.YtcjhojdlfnpgjaaGreat
open Go.RowKit
theorem big_spec (bs : List Int) (hl : (bs.length : Int) ≤ 9223372036854775807) : Spec Tryz.prog 4 [.rd (BY bs)] (.v (.bool (decide (4096 < bs.length)))) [] := by
  refine Spec.of_code T_ok Tryz.func4 rfl Tryz.ntmps4 Tryz.call4 (Nat.le_of_ble_eq_true rfl) rfl rfl (CodeV_sound T_ok (by kernel_rfl) rfl ?_)
  refine WW ?_
  exact decide_eq_decide.2 (by omega)
theorem likeInts_spec (l m : List Int) (hl : l.length ≤ 1048576) : Spec Tryz.prog 11 [.rd (I l), .rd (I m)] (.v (.bool (decide (l = m)))) [] := by
  refine Spec.of_code T_ok Tryz.func11 rfl Tryz.ntmps11 Tryz.call11 (Nat.le_of_ble_eq_true rfl) rfl rfl (CodeV_sound T_ok (by kernel_rfl) rfl ?_)
  refine WW ?_
  refine ⟨fun h => (decide_eq_false fun e => h (by rw [e])).symm, fun h => ?_⟩
  refine Here.loopV T_ok (fun k => k ≤ l.length ∧ ∀ j, j < k → l.getD j 0 = m.getD j 0) (fun k => l.length - k) (fun k => [(0, .rd (I l)), (1, .rd (I m)), (5, .v (.int .i64 k))]) (fun _ => []) 0 (by simp) SE trivial ?_
  rintro k ⟨hk, hj⟩
  refine WW ?_
  refine ⟨fun h2 => ?_, fun h2 => (decide_eq_true (getD_eq (d := 0) (by omega) fun j h => hj j (by omega))).symm⟩
  refine Here.draw T_ok mixed_ok (by kernel_rfl) ?_
  refine WW ?_
  refine ⟨by omega, by omega, fun h3 => (decide_eq_false fun e => h3 (by rw [e])).symm, fun h3 => ⟨by unfold InR; omega, k + 1, ⟨by omega, fun j h => ?_⟩, by omega, rfl⟩⟩
  by_cases e : j = k
  · subst e; exact h3
  · exact hj j (by omega)
end Go.Proofs.YtcjhojdlfnpgjaaGreat
namespace Go.Proofs.YtcjhojdlfnpgjaaGreat
open Go.RowKit
theorem rows5_spec (l m : List (List Int)) (hl : l.length ≤ 1099511627776) (hr : ∀ a, a < l.length → (l.getD a []).length ≤ 1048576) : Spec Tryz.prog 19 [.rds (II l), .rds (II m)] (.v (.bool (decide (l = m)))) [] := by
  refine Spec.of_code T_ok Tryz.func19 rfl Tryz.ntmps19 Tryz.call19 (Nat.le_of_ble_eq_true rfl) rfl rfl (CodeV_sound T_ok (by kernel_rfl) rfl ?_)
  refine WW ?_
  refine ⟨fun h => (decide_eq_false fun e => h (by rw [e])).symm, fun h => ?_⟩
  refine Here.loopV T_ok (fun k => k ≤ l.length ∧ ∀ j, j < k → l.getD j [] = m.getD j []) (fun k => l.length - k) (fun k => [(0, .rds (II l)), (1, .rds (II m)), (5, .v (.int .i64 k))]) (fun _ => []) 0 (by simp) SE trivial ?_
  rintro k ⟨hk, hj⟩
  refine WW ?_
  refine ⟨fun h2 => ?_, fun h2 => (decide_eq_true (getD_eq (d := []) (by omega) fun j h => hj j (by omega))).symm⟩
  refine Here.draw T_ok mixed_ok (by kernel_rfl) ?_
  refine WW ?_
  refine ⟨by omega, by omega, _, OpP.call' rfl rfl (likeInts_spec (l.getD k []) (m.getD k []) (hr k (by omega))) SA rfl, ?_⟩
  refine WW ?_
  refine ⟨fun h3 => (decide_eq_false fun e => h3 (by rw [e])).symm, fun h3 => ⟨by unfold InR; omega, k + 1, ⟨by omega, fun j h => ?_⟩, by omega, rfl⟩⟩
  by_cases e : j = k
  · subst e; exact h3
  · exact hj j (by omega)
theorem groups5_spec (l m : List (List Int)) (hl : l.length ≤ 1048576) (hr : ∀ a, a < l.length → (l.getD a []).length ≤ 1048576) : Spec Tryz.prog 10 [.agg [.rds (II l)], .agg [.rds (II m)]] (.v (.bool (decide (l = m)))) [] := by
  refine Spec.of_code T_ok Tryz.func10 rfl Tryz.ntmps10 Tryz.call10 (Nat.le_of_ble_eq_true rfl) rfl rfl (CodeV_sound T_ok (by kernel_rfl) rfl ?_)
  refine WW ?_
  refine HereO.call T_ok rfl rfl (rows5_spec l m (by omega) hr) SA rfl ?_
  exact WW trivial
end Go.Proofs.YtcjhojdlfnpgjaaGreat
namespace Go.Proofs.YtcjhojdlfnpgjaaGreat
theorem cosIn_other (t : List (List Int)) : ∀ (h : List Int) (a : Nat) (k : Int) (num : List Int) (x : Nat) (d : Int), (∀ b ∈ h, em t a b.toNat ≠ x) → (cosIn t h a k num).getD x d = num.getD x d
  | [], _, _, _, _, _, _ => rfl
  | b :: h, a, k, num, x, d, hn => by
    rw [cosIn, List.foldl_cons, ← cosIn, cosIn_other t h a k _ x d fun c hc => hn c (List.mem_cons_of_mem _ hc), set_getD, if_neg fun q => hn b (List.mem_cons_self ..) q.1]
structure SubG (t : List (List Int)) (h : List Int) : Prop where
  ar : AreIn t.length h
  zero : (0 : Int) ∈ h
  mul : ∀ x ∈ h, ∀ y ∈ h, ((em t x.toNat y.toNat : Nat) : Int) ∈ h
  inv : ∀ x ∈ h, ∃ y ∈ h, em t x.toNat y.toNat = 0
theorem SubG.lt {t : List (List Int)} {h : List Int} (H : SubG t h) {b : Int} (hb : b ∈ h) : b.toNat < t.length := by
  have := areIn_mem H.ar hb; omega
structure CosI (t : List (List Int)) (h : List Int) (s : List Int × List Int) (k : Nat) : Prop where
  len : s.2.length = t.length
  rep : ∀ j, j < s.1.length → (s.1.getD j 0).toNat < t.length ∧ 0 ≤ s.1.getD j 0
  hit : ∀ j, j < s.1.length → ∀ b ∈ h, s.2.getD (em t (s.1.getD j 0).toNat b.toNat) 0 = j
  mem : ∀ x, x < t.length → 0 ≤ s.2.getD x 0 → ∃ j, j < s.1.length ∧ s.2.getD x 0 = j ∧ ∃ b ∈ h, x = em t (s.1.getD j 0).toNat b.toNat
  all : ∀ x, x < k → 0 ≤ s.2.getD x 0
theorem cosI_0 (t : List (List Int)) (h : List Int) : CosI t h ([], List.replicate t.length (-1)) 0 := by
  refine ⟨by simp, fun j hj => by simp at hj, fun j hj => by simp at hj, fun x hx h0 => ?_, fun x hx => by omega⟩
  simp only [List.getD_eq_getElem?_getD, List.getElem?_replicate, if_pos hx] at h0
  simp at h0
theorem cosI_step {t : List (List Int)} (hg : Grp t) {h : List Int} (H : SubG t h) {s : List Int × List Int} {k : Nat} (hk : k < t.length) (I : CosI t h s k) : CosI t h (cosStep t h s k) (k + 1) := by
  unfold cosStep
  split
  · rename_i q
    exact ⟨I.len, I.rep, I.hit, I.mem, fun x hx => if e : x = k then by subst e; exact q else I.all x (by omega)⟩
  · rename_i q
    have gl : ∀ j, j < s.1.length → (s.1 ++ [(k : Int)]).getD j 0 = s.1.getD j 0 := fun j hj => by rw [List.getD_eq_getElem?_getD, List.getD_eq_getElem?_getD, List.getElem?_append_left hj]
    have gn : (s.1 ++ [(k : Int)]).getD s.1.length 0 = k := by rw [List.getD_eq_getElem?_getD, List.getElem?_append_right (Nat.le_refl _)]; simp
    have hem : ∀ b ∈ h, em t k b.toNat < t.length := fun b hb => em_lt hg hk (H.lt hb)
    have fresh : ∀ j, j < s.1.length → ∀ b ∈ h, ∀ c ∈ h, em t k c.toNat ≠ em t (s.1.getD j 0).toNat b.toNat := by
      intro j hj b hb c hc e
      obtain ⟨d, hd, hcd⟩ := H.inv c hc
      have h1 := (I.rep j hj).1
      have e1 := em_assoc hg hk (H.lt hc) (H.lt hd)
      rw [hcd, em_zr hg hk, e, em_assoc hg h1 (H.lt hb) (H.lt hd)] at e1
      have h2 := I.hit j hj _ (H.mul b hb d hd)
      rw [Int.toNat_natCast, e1] at h2
      omega
    refine ⟨by rw [cosIn_len]; exact I.len, fun j hj => ?_, fun j hj b hb => ?_, fun x hx h0 => ?_, fun x hx => ?_⟩
    · simp only [List.length_append, List.length_cons, List.length_nil] at hj
      by_cases e : j = s.1.length
      · subst e; dsimp only; rw [gn]; omega
      · dsimp only; rw [gl j (by omega)]; exact I.rep j (by omega)
    · simp only [List.length_append, List.length_cons, List.length_nil] at hj
      by_cases e : j = s.1.length
      · subst e
        dsimp only
        rw [gn, Int.toNat_natCast, cosIn_hit t h k _ _ b 0 hb (by rw [I.len]; exact hem b hb)]
      · dsimp only
        rw [gl j (by omega), cosIn_other t h k _ _ _ 0 fun c hc => fresh j (by omega) b hb c hc]
        exact I.hit j (by omega) b hb
    · dsimp only at h0 ⊢
      by_cases q2 : ∃ b ∈ h, x = em t k b.toNat
      · obtain ⟨b, hb, rfl⟩ := q2
        refine ⟨s.1.length, by simp, ?_, b, hb, by rw [gn, Int.toNat_natCast]⟩
        rw [cosIn_hit t h k _ _ b 0 hb (by rw [I.len]; exact hem b hb)]
      · have hne : ∀ b ∈ h, em t k b.toNat ≠ x := fun b hb e => q2 ⟨b, hb, e.symm⟩
        rw [cosIn_other t h k _ _ x 0 hne] at h0 ⊢
        obtain ⟨j, hj, e1, b, hb, e2⟩ := I.mem x hx h0
        exact ⟨j, by simp; omega, e1, b, hb, by rw [gl j hj]; exact e2⟩
    · dsimp only
      by_cases q2 : ∃ b ∈ h, x = em t k b.toNat
      · obtain ⟨b, hb, rfl⟩ := q2
        rw [cosIn_hit t h k _ _ b 0 hb (by rw [I.len]; exact hem b hb)]
        omega
      · have hne : ∀ b ∈ h, em t k b.toNat ≠ x := fun b hb e => q2 ⟨b, hb, e.symm⟩
        rw [cosIn_other t h k _ _ x 0 hne]
        by_cases e : x = k
        · subst e
          exact absurd ⟨0, H.zero, (em_zr hg hk).symm⟩ q2
        · exact I.all x (by omega)
theorem cosI_ok {t : List (List Int)} (hg : Grp t) {h : List Int} (H : SubG t h) : ∀ k, k ≤ t.length → CosI t h (cosN t h k) k
  | 0, _ => cosI_0 t h
  | k + 1, hk => cosI_step hg H (by omega) (cosI_ok hg H k (by omega))
section
variable {t : List (List Int)} (hg : Grp t) {h : List Int} (H : SubG t h) {s : List Int × List Int} (I : CosI t h s t.length)
include hg H I
theorem CosI.same {x : Nat} (hx : x < t.length) {b : Int} (hb : b ∈ h) : s.2.getD (em t x b.toNat) 0 = s.2.getD x 0 := by
  obtain ⟨j, hj, e1, c, hc, e2⟩ := I.mem x hx (I.all x hx)
  have e3 : em t x b.toNat = em t (s.1.getD j 0).toNat (em t c.toNat b.toNat) := by rw [e2, em_assoc hg (I.rep j hj).1 (H.lt hc) (H.lt hb)]
  have h2 := I.hit j hj _ (H.mul c hc b hb)
  rw [Int.toNat_natCast] at h2
  rw [e3, h2, e1]
theorem CosI.num_rep {j : Nat} (hj : j < s.1.length) : s.2.getD (s.1.getD j 0).toNat 0 = j := by
  have h2 := I.hit j hj 0 H.zero
  rwa [show ((0 : Int)).toNat = 0 from rfl, em_zr hg (I.rep j hj).1] at h2
theorem CosI.hom (hn : ∀ b ∈ h, ∀ a, a < t.length → ∃ c ∈ h, em t b.toNat a = em t a c.toNat) {x y : Nat} (hx : x < t.length) (hy : y < t.length) :
    s.2.getD (em t x y) 0 = s.2.getD (em t (s.1.getD (s.2.getD x 0).toNat 0).toNat (s.1.getD (s.2.getD y 0).toNat 0).toNat) 0 := by
  obtain ⟨i, hi, e1, b, hb, e2⟩ := I.mem x hx (I.all x hx)
  obtain ⟨j, hj, e3, c, hc, e4⟩ := I.mem y hy (I.all y hy)
  have hil := (I.rep i hi).1
  have hjl := (I.rep j hj).1
  obtain ⟨d, hd, e5⟩ := hn b hb _ hjl
  rw [e1, e3, Int.toNat_natCast, Int.toNat_natCast]
  have e6 : em t x y = em t (em t (s.1.getD i 0).toNat (s.1.getD j 0).toNat) (em t d.toNat c.toNat) := by
    rw [e2, e4, em_assoc hg hil (H.lt hb) (em_lt hg hjl (H.lt hc)), ← em_assoc hg (H.lt hb) hjl (H.lt hc), e5, em_assoc hg hjl (H.lt hd) (H.lt hc), em_assoc hg hil hjl (em_lt hg (H.lt hd) (H.lt hc))]
  have h7 := I.same hg H (em_lt hg hil hjl) (H.mul d hd c hc)
  rw [Int.toNat_natCast] at h7
  rw [e6, h7]
omit hg H in
theorem CosI.lt {x : Nat} (hx : x < t.length) : 0 ≤ s.2.getD x 0 ∧ s.2.getD x 0 < s.1.length := by
  obtain ⟨j, hj, e1, _⟩ := I.mem x hx (I.all x hx)
  omega
end
theorem img_grp {t u : List (List Int)} (hg : Grp t) (f : Nat → Nat) (hu : u.length ≤ 8) (h1 : 1 ≤ u.length) (hl : ∀ x, x < t.length → f x < u.length) (hon : ∀ j, j < u.length → ∃ x, x < t.length ∧ f x = j) (hrow : ∀ j, j < u.length → (u.getD j []).length = u.length)
    (he : ∀ x y, x < t.length → y < t.length → ee u (f x) (f y) = (f (em t x y) : Nat)) (h0 : f 0 = 0) : Grp u := by
  have hz : 0 < t.length := by have := hg.1; omega
  refine ⟨h1, hu, fun a ha => ⟨hrow a ha, fun b hb => ?_⟩, fun a ha => ⟨⟨?_, ?_, ?_⟩, fun b hb c hc => ?_⟩⟩
  · obtain ⟨x, hx, rfl⟩ := hon a ha
    obtain ⟨y, hy, rfl⟩ := hon b hb
    rw [he x y hx hy]
    have := hl _ (em_lt hg hx hy)
    omega
  · obtain ⟨x, hx, rfl⟩ := hon a ha
    have := he 0 x hz hx
    rwa [h0, em_zl hg hx] at this
  · obtain ⟨x, hx, rfl⟩ := hon a ha
    have := he x 0 hx hz
    rwa [h0, em_zr hg hx] at this
  · obtain ⟨x, hx, rfl⟩ := hon a ha
    obtain ⟨y, hy, h2, _⟩ := em_inv hg hx
    refine ⟨f y, by rw [hrow _ ha]; exact hl y hy, ?_⟩
    have := he x y hx hy
    rw [h2, h0] at this
    exact this
  · obtain ⟨x, hx, rfl⟩ := hon a ha
    obtain ⟨y, hy, rfl⟩ := hon b hb
    obtain ⟨z, hz, rfl⟩ := hon c hc
    unfold Assoc
    rw [he x y hx hy, he y z hy hz, Int.toNat_natCast, Int.toNat_natCast, he _ z (em_lt hg hx hy) hz, he x _ hx (em_lt hg hy hz), em_assoc hg hx hy hz]
theorem img_comm {t u : List (List Int)} (hg : Grp t) (f : Nat → Nat) (hon : ∀ j, j < u.length → ∃ x, x < t.length ∧ f x = j) (he : ∀ x y, x < t.length → y < t.length → ee u (f x) (f y) = (f (em t x y) : Nat))
    (hc : ∀ x y, x < t.length → y < t.length → f (em t x y) = f (em t y x)) {a b : Nat} (ha : a < u.length) (hb : b < u.length) : ee u a b = ee u b a := by
  obtain ⟨x, hx, rfl⟩ := hon a ha
  obtain ⟨y, hy, rfl⟩ := hon b hb
  rw [he x y hx hy, he y x hy hx, hc x y hx hy]
theorem ee_tabQ {f : Nat → Nat → Int} {m a b : Nat} (ha : a < m) (hb : b < m) : ee (tab f m m) a b = f a b := by
  unfold ee
  rw [tab_row ha, upTo_get _ hb]
section
variable {t : List (List Int)} (hg : Grp t) {h : List Int} (H : SubG t h) (hn : ∀ b ∈ h, ∀ a, a < t.length → ∃ c ∈ h, em t b.toNat a = em t a c.toNat)
include hg H hn
theorem quot_facts {s : List Int × List Int} (I : CosI t h s t.length) (hs : s.1.length ≤ t.length) (h00 : s.2.getD 0 0 = 0) {u : List (List Int)} (hu : u = tab (fun a b => s.2.getD (em t (s.1.getD a 0).toNat (s.1.getD b 0).toNat) 0) s.1.length s.1.length) :
    Grp u ∧ ∀ x y, x < t.length → y < t.length → ee u (s.2.getD x 0).toNat (s.2.getD y 0).toNat = s.2.getD (em t x y) 0 := by
  have hz : 0 < t.length := by have := hg.1; omega
  have ulen : u.length = s.1.length := by rw [hu, tab_len]
  have he : ∀ x y, x < t.length → y < t.length → ee u (s.2.getD x 0).toNat (s.2.getD y 0).toNat = s.2.getD (em t x y) 0 := by
    intro x y hx hy
    have h1 := I.lt hx
    have h2 := I.lt hy
    rw [hu, ee_tabQ (by omega) (by omega)]
    exact (I.hom hg H hn hx hy).symm
  refine ⟨img_grp hg (fun x => (s.2.getD x 0).toNat) (by have := hg.2.1; omega) (by have := I.lt hz; omega) (fun x hx => by have := I.lt hx; omega) (fun j hj => ?_) (fun j hj => ?_) (fun x y hx hy => ?_) (by rw [h00]; rfl), he⟩
  · refine ⟨(s.1.getD j 0).toNat, (I.rep j (by omega)).1, ?_⟩
    rw [I.num_rep hg H (by omega), Int.toNat_natCast]
  · rw [ulen] at hj
    rw [ulen, hu, tab_row hj, upTo_len]
  · have h1 := I.lt (em_lt hg hx hy)
    rw [he x y hx hy]
    omega
end
theorem pw_gen {t : List (List Int)} (hg : Grp t) {S : List Int} (hS : AreIn t.length S) {x : Nat} (hx : Gen t S x) : ∀ k, Gen t S (pwN t x k)
  | 0 => .zero
  | k + 1 => gen_mul hg hS (pw_gen hg hS hx k) hx
theorem subG_gen {t : List (List Int)} (hg : Grp t) {S : List Int} (hS : AreIn t.length S) : SubG t (genL t S) := by
  have mem : ∀ x : Nat, ((x : Nat) : Int) ∈ genL t S ↔ Gen t S x := fun x => by
    rw [mem_genL, Int.toNat_natCast]
    exact ⟨fun q => q.2, fun q => ⟨by have := gen_lt hg hS q; omega, q⟩⟩
  refine ⟨fun j hj => (mem_genL.1 (getD_mem hj 0)).1, (mem 0).2 .zero, fun x hx y hy => (mem _).2 (gen_mul hg hS (mem_genL.1 hx).2 (mem_genL.1 hy).2), fun x hx => ?_⟩
  have h1 := (mem_genL.1 hx).2
  have hl := gen_lt hg hS h1
  obtain ⟨k1, _, k3, _⟩ := ordN_spec hg hl
  refine ⟨(pwN t x.toNat (ordN t x.toNat - 1) : Nat), (mem _).2 (pw_gen hg hS h1 _), ?_⟩
  have e := pwN_add hg hl 1 (ordN t x.toNat - 1)
  rw [show 1 + (ordN t x.toNat - 1) = ordN t x.toNat by omega, k3] at e
  have e1 : pwN t x.toNat 1 = x.toNat := em_zl hg hl
  rw [e1] at e
  rw [Int.toNat_natCast]
  exact e.symm
theorem subG_of {t : List (List Int)} (hg : Grp t) {l : List Int} (hi : AreIn t.length l) (e : genL t l = l) : SubG t l := by
  have := subG_gen hg hi
  rwa [e] at this
end Go.Proofs.YtcjhojdlfnpgjaaGreat
