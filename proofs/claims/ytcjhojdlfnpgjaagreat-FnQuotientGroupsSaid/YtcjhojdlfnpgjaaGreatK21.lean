/- Contracts: numbers that follow from a code; Contracts: cyclic and twisted groups. -/
import Derived.Test.YtcjhojdlfnpgjaaGreatK14
import Derived.Test.YtcjhojdlfnpgjaaGreatK15
import Derived.Test.YtcjhojdlfnpgjaaGreatK20
import Derived.Test.YtcjhojdlfnpgjaaGreatK17
import Derived.Test.YtcjhojdlfnpgjaaGreatK16
set_option linter.unusedVariables false
set_option linter.unusedSimpArgs false
set_option maxRecDepth 100000
namespace Go.Proofs.YtcjhojdlfnpgjaaGreat
open Go.RowKit
def BY (bs : List Int) : List Value := bs.map fun b => .int .u8 b
theorem BY_len (bs : List Int) : (BY bs).length = bs.length := by simp [BY]
theorem dvBY {bs : List Int} {k : Nat} (h : k < bs.length) : dv (BY bs) k = .int .u8 (bs.getD k 0) := by
  unfold dv BY
  rw [List.getD_eq_getElem?_getD, List.getD_eq_getElem?_getD, List.getElem?_map, List.getElem?_eq_getElem h]
  rfl
def Bytes (bs : List Int) : Prop := bs.length ≤ 4096 ∧ ∀ j, j < bs.length → 0 ≤ bs.getD j 0 ∧ bs.getD j 0 ≤ 255
def srcS (s : Int × Int) : OC := .cells 96 [.own 1, .v (.int .i64 s.1), .v (.int .u64 s.2)]
attribute [go_sem] srcS BY_len
theorem andLow (a : Int) : 0 ≤ andV .u64 a 16777215 ∧ andV .u64 a 16777215 ≤ 16777215 := by
  unfold andV
  have h : (BitVec.ofInt IntKind.u64.bits a &&& BitVec.ofInt IntKind.u64.bits 16777215).toNat ≤ 16777215 := by
    rw [BitVec.toNat_and]
    exact Nat.le_trans Nat.and_le_right (by decide)
  generalize (BitVec.ofInt IntKind.u64.bits a &&& BitVec.ofInt IntKind.u64.bits 16777215).toNat = m at h
  simp [IntKind.wrap, IntKind.signed, IntKind.bits]
  omega
theorem RetM.one0' {T : TT} {results : Array ResultVar} {r : LV} {s : St} {rs : List LV} {oc : OC} (h : resLs T s results.toList = some rs) (h2 : tupL rs = ren (fun i => [0, 1].getD i 0) r) (h3 : s.σ 0 = some (renO (fun i => [0, 1].getD i 0) oc)) : RetM T results 2 r [some oc, none] s :=
  ⟨rs, [0, 1], h, h2, rfl, by simp, fun i hi => (by
    match i, hi with
    | 0, _ => rfl
    | 1, _ => rfl), fun i oc' hi => by
    match i with
    | 0 => simp [osO] at hi; subst hi; simpa using h3
    | 1 => simp [osO] at hi
    | i + 2 => simp [osO] at hi⟩
def At (bs : List Int) (s : Int × Int) : Prop := 0 ≤ s.1 ∧ s.1 ≤ bs.length
def hs2 (h : Int) : Int := IntKind.u64.wrap (IntKind.u64.wrap (h * 6364136223846793005) + 1442695040888963407)
def hsX (h : Int) : Int := andV IntKind.u64 (shrV IntKind.u64 (hs2 h) 33) 16777215
def nx (bs : List Int) (n : Int) (s : Int × Int) : Int × Int × Int :=
  if n < 1 then (0, s) else if s.1 < bs.length then ((hsX s.2 + bs.getD s.1.toNat 0).tmod n, s.1 + 1, hs2 s.2) else ((hsX s.2).tmod n, s.1, hs2 s.2)
theorem nx_ok {bs : List Int} (hb : Bytes bs) (n : Int) {s : Int × Int} (hs : At bs s) : 0 ≤ (nx bs n s).1 ∧ (1 ≤ n → (nx bs n s).1 < n) ∧ At bs (nx bs n s).2 := by
  have hx := andLow (shrV IntKind.u64 (hs2 s.2) 33)
  have hx' : 0 ≤ hsX s.2 ∧ hsX s.2 ≤ 16777215 := hx
  unfold nx At at *
  split
  · exact ⟨by simp, fun h => by omega, hs⟩
  · split
    · have hby := hb.2 s.1.toNat (by omega)
      have hm := Int.tmod_nonneg n (a := hsX s.2 + bs.getD s.1.toNat 0) (by omega)
      have hm2 := Int.tmod_lt_of_pos (hsX s.2 + bs.getD s.1.toNat 0) (show 0 < n by omega)
      exact ⟨hm, fun _ => hm2, by dsimp only; omega, by dsimp only; omega⟩
    · have hm := Int.tmod_nonneg n (a := hsX s.2) (by omega)
      have hm2 := Int.tmod_lt_of_pos (hsX s.2) (show 0 < n by omega)
      exact ⟨hm, fun _ => hm2, hs⟩
theorem l01Next_spec (bs : List Int) (hb : Bytes bs) (n : Int) (s : Int × Int) (hs : At bs s) : SpecM Tryz.prog 61 [.ptr 0 0, .v (.int .i64 n)] [srcS s, .ghost (BY bs)] (.v (.int .i64 (nx bs n s).1)) [some (srcS (nx bs n s).2), none] := by
  obtain ⟨p, h⟩ := s
  have hp : 0 ≤ p ∧ p ≤ bs.length := hs
  have h4 := hb.1
  have hx : 0 ≤ hsX h ∧ hsX h ≤ 16777215 := andLow (shrV IntKind.u64 (hs2 h) 33)
  have e2 : andV IntKind.u64 (shrV IntKind.u64 (IntKind.u64.wrap (IntKind.u64.wrap (h * 6364136223846793005) + 1442695040888963407)) 33) 16777215 = hsX h := rfl
  have e3 : IntKind.u64.wrap (IntKind.u64.wrap (h * 6364136223846793005) + 1442695040888963407) = hs2 h := rfl
  refine SpecM.of_code' T_ok Tryz.func61 rfl Tryz.ntmps61 Tryz.call61 (Nat.le_of_ble_eq_true rfl) (Nat.le_of_ble_eq_true rfl) (Nat.le_of_ble_eq_true rfl) rfl rfl (CodeV_sound T_ok (by kernel_rfl) rfl ?_)
  refine WW ?_
  refine ⟨fun h1 => ?_, fun h1 => ?_⟩
  · have e : nx bs n (p, h) = (0, (p, h)) := by unfold nx; rw [if_pos h1]
    rw [e]
    refine RetM.one0' SE rfl ?_
    (simp only [go_sem, Nat.reduceMul, Nat.reduceLeDiff, Nat.reduceLT, reduceIte, reduceCtorEq, Nat.reduceEqDiff, Nat.reduceSub, Nat.reduceAdd]) <;> rfl
  · refine HereO.store T_ok rfl SS SS rfl SS rfl SR (Nat.le_of_ble_eq_true rfl) ?_
    refine WW ?_
    rw [e2]
    simp only [e3]
    refine ⟨by omega, by unfold InR; omega, ?_⟩
    refine Here.draw T_ok mixed_ok (by kernel_rfl) ?_
    refine WW ?_
    refine ⟨_, OpP.lenGhost T_ok rfl rfl rfl rfl, ?_⟩
    refine WW ?_
    refine ⟨fun h2 => ?_, fun h2 => ?_⟩
    · refine Here.draw T_ok mixed_ok (by kernel_rfl) ?_
      refine WW ?_
      refine ⟨_, OpP.indexGhost T_ok rfl rfl rfl rfl rfl hp.1 (by rw [BY_len]; exact h2), ?_⟩
      refine WW ?_
      rw [dvBY (k := p.toNat) (by omega)]
      have hby := hb.2 p.toNat (by omega)
      refine WW ?_
      refine ⟨by unfold InR; omega, by unfold InR; omega, ?_⟩
      refine ⟨by unfold InR; omega, ?_⟩
      refine HereO.store T_ok rfl SS SS rfl SS rfl SR (Nat.le_of_ble_eq_true rfl) ?_
      refine WW ?_
      have e : nx bs n (p, h) = ((hsX h + bs.getD p.toNat 0).tmod n, (p + 1, hs2 h)) := by unfold nx; rw [if_neg h1, if_pos h2]
      rw [e]
      refine ⟨by omega, RetM.one0' SE rfl ?_⟩
      (simp only [go_sem, Nat.reduceMul, Nat.reduceLeDiff, Nat.reduceLT, reduceIte, reduceCtorEq, Nat.reduceEqDiff, Nat.reduceSub, Nat.reduceAdd]) <;> rfl
    · have e : nx bs n (p, h) = ((hsX h).tmod n, (p, hs2 h)) := by unfold nx; rw [if_neg h1, if_neg h2]
      rw [e]
      refine ⟨by omega, RetM.one0' SE rfl ?_⟩
      (simp only [go_sem, Nat.reduceMul, Nat.reduceLeDiff, Nat.reduceLT, reduceIte, reduceCtorEq, Nat.reduceEqDiff, Nat.reduceSub, Nat.reduceAdd]) <;> rfl
def hsS (bs : List Int) : Nat → Int
  | 0 => IntKind.u64.wrap (13631 + IntKind.u64.wrap bs.length)
  | i + 1 => IntKind.u64.wrap (IntKind.u64.wrap (IntKind.u64.wrap (hsS bs i * 1099511628211) + IntKind.u64.wrap (bs.getD i 0)) + 197)
def src0 (bs : List Int) : Int × Int := (0, hsS bs bs.length)
theorem src0_at (bs : List Int) : At bs (src0 bs) := ⟨by simp [src0], by simp [src0]⟩
theorem l01From_spec (bs : List Int) (hb : Bytes bs) : SpecM Tryz.prog 50 [.own 0] [.ghost (BY bs)] (.ptr 1 0) [none, some (.cells 96 [.own 0, .v (.int .i64 (src0 bs).1), .v (.int .u64 (src0 bs).2)])] := by
  have h4 := hb.1
  refine SpecM.of_code' T_ok Tryz.func50 rfl Tryz.ntmps50 Tryz.call50 (Nat.le_of_ble_eq_true rfl) (Nat.le_of_ble_eq_true rfl) (Nat.le_of_ble_eq_true rfl) rfl rfl (CodeV_sound T_ok (by kernel_rfl) rfl ?_)
  refine WW ?_
  refine HereO.opP T_ok (OpP.lenGhost T_ok rfl rfl rfl rfl) ?_
  refine WW ?_
  refine HereO.opP T_ok (OpP.build built_96 rfl rfl rfl rfl) ?_
  refine WW ?_
  refine HereO.boxOwn T_ok 210 rfl rfl (by decide) rfl ?_
  refine WW ?_
  refine Here.loopV T_ok (κ := Nat) (fun i => i ≤ bs.length) (fun i => bs.length - i) (fun i => [(0, .own 0), (3, .ptr 210 0), (4, .v (.int .i64 i))]) (fun i => [(0, .ghost (BY bs)), (210, .cells 96 [.own 0, .v (.int .i64 0), .v (.int .u64 (hsS bs i))])]) 0 (by simp) (by simp only [go_sem, Nat.reduceMul, Nat.reduceLeDiff, Nat.reduceLT, reduceIte, reduceCtorEq, Nat.reduceEqDiff, Nat.reduceSub, Nat.reduceAdd]; simp) SE ?_
  intro i hi
  refine WW ?_
  refine HereO.opP T_ok (OpP.lenGhost T_ok rfl rfl rfl rfl) ?_
  refine WW ?_
  refine ⟨fun h1 => ⟨fun h2 => ?_, fun h2 => absurd (by omega) h2⟩, fun h1 => ?_⟩
  · have hby := hb.2 i (by omega)
    refine Here.drawS T_ok 13 (Nat.le_of_ble_eq_true rfl) mixed_ok (by kernel_rfl) (by kernel_rfl) ?_
    refine WW ?_
    refine ⟨_, OpP.indexGhost T_ok rfl rfl rfl rfl rfl (by omega) (by rw [BY_len]; exact h1), ?_⟩
    refine WW ?_
    rw [dvBY (k := i) (by omega)]
    refine WW ?_
    refine HereO.store T_ok rfl SS SS rfl SS rfl SR (Nat.le_of_ble_eq_true rfl) ?_
    refine WW ?_
    exact ⟨by unfold InR; omega, i + 1, by omega, by omega, by push_cast; rfl, rfl⟩
  · obtain rfl : i = bs.length := by omega
    refine RetM.one1 210 (by decide) SE rfl ?_
    (simp only [go_sem, Nat.reduceMul, Nat.reduceLeDiff, Nat.reduceLT, reduceIte, reduceCtorEq, Nat.reduceEqDiff, Nat.reduceSub, Nat.reduceAdd]) <;> rfl
def pk (bs l : List Int) (s : Int × Int) : Int × Int × Int := (l.getD (nx bs l.length s).1.toNat 0, (nx bs l.length s).2)
theorem pk_ok {bs : List Int} (hb : Bytes bs) {l : List Int} (hl : 0 < l.length) {s : Int × Int} (hs : At bs s) : (pk bs l s).1 ∈ l ∧ At bs (pk bs l s).2 := by
  obtain ⟨h1, h2, h3⟩ := nx_ok hb l.length hs
  have hxl : (nx bs l.length s).1.toNat < l.length := by have := h2 (by omega); omega
  refine ⟨?_, h3⟩
  unfold pk
  dsimp only
  rw [List.getD_eq_getElem?_getD, List.getElem?_eq_getElem hxl, Option.getD_some]
  exact List.getElem_mem hxl
theorem l01Pick_spec (bs : List Int) (hb : Bytes bs) (l : List Int) (hl : 0 < l.length ∧ l.length ≤ 1048576) (s : Int × Int) (hs : At bs s) : SpecM Tryz.prog 75 [.ptr 0 0, .rd (I l)] [srcS s, .ghost (BY bs)] (.v (.int .i64 (pk bs l s).1)) [some (srcS (pk bs l s).2), none] := by
  obtain ⟨h1, h2, h3⟩ := nx_ok hb l.length hs
  have h2' := h2 (by omega)
  refine SpecM.of_code' T_ok Tryz.func75 rfl Tryz.ntmps75 Tryz.call75 (Nat.le_of_ble_eq_true rfl) (Nat.le_of_ble_eq_true rfl) (Nat.le_of_ble_eq_true rfl) rfl rfl (CodeV_sound T_ok (by kernel_rfl) rfl ?_)
  refine WW ?_
  refine HereO.callM T_ok 21 [0,1] rfl rfl (l01Next_spec bs hb l.length s hs) SC rfl (by decide) (by decide) rfl rfl rfl (Nat.le_of_ble_eq_true rfl) ?_
  refine WW ?_
  refine ⟨⟨h1, h2'⟩, RetM.one0' SE rfl ?_⟩
  (simp only [go_sem, Nat.reduceMul, Nat.reduceLeDiff, Nat.reduceLT, reduceIte, reduceCtorEq, Nat.reduceEqDiff, Nat.reduceSub, Nat.reduceAdd]) <;> rfl
def nrr (bs : List Int) (m : Int) (s : Int × Int) : Int × Int × Int :=
  if (nx bs 14 s).1 = 0 then pk bs [-1, m + 1, 1099511627776, -4611686018427387904] (nx bs 14 s).2 else nx bs (m + 1) (nx bs 14 s).2
end Go.Proofs.YtcjhojdlfnpgjaaGreat
namespace Go.Proofs.YtcjhojdlfnpgjaaGreat
open Go.RowKit
def PermN (n : Nat) (L : List Int) : Prop := L.length = n ∧ L.Nodup ∧ ∀ x ∈ L, 0 ≤ x ∧ x < n
theorem PermN.ins {n a : Nat} {L : List Int} (h : PermN n L) (ha : a ≤ n) : PermN (n + 1) (L.take a ++ [(n : Int)] ++ L.drop a) := by
  obtain ⟨h1, h2, h3⟩ := h
  have hp : (L.take a ++ [(n : Int)] ++ L.drop a).Perm ((n : Int) :: L) := by
    have : (n : Int) :: L = (n : Int) :: (L.take a ++ L.drop a) := by rw [List.take_append_drop]
    rw [this, List.append_assoc]
    exact List.perm_middle
  refine ⟨by rw [hp.length_eq]; simp [h1], ?_, fun x hx => ?_⟩
  · rw [hp.nodup_iff, List.nodup_cons]
    exact ⟨fun hn => by have := h3 _ hn; omega, h2⟩
  · rcases List.mem_cons.1 (hp.mem_iff.1 hx) with e | e
    · omega
    · have := h3 x e; omega
def drO (bs : List Int) (s : Int × Int) : Nat → List Int × Int × Int
  | 0 => ([], s)
  | i + 1 => ((drO bs s i).1.take (nx bs (i + 1) (drO bs s i).2).1.toNat ++ [(i : Int)] ++ (drO bs s i).1.drop (nx bs (i + 1) (drO bs s i).2).1.toNat, (nx bs (i + 1) (drO bs s i).2).2)
theorem drO_ok {bs : List Int} (hb : Bytes bs) {s : Int × Int} (hs : At bs s) : ∀ i, PermN i (drO bs s i).1 ∧ At bs (drO bs s i).2
  | 0 => ⟨⟨rfl, List.nodup_nil, fun x hx => (List.not_mem_nil hx).elim⟩, hs⟩
  | i + 1 => by
    obtain ⟨h1, h2⟩ := drO_ok hb hs i
    obtain ⟨h3, h4, h5⟩ := nx_ok hb (i + 1) h2
    have := h4 (by omega)
    exact ⟨h1.ins (by omega), h5⟩
theorem l01DrawOrder_spec (bs : List Int) (hb : Bytes bs) (n : Nat) (hn : n ≤ 1048576) (s : Int × Int) (hs : At bs s) : SpecM Tryz.prog 73 [.ptr 0 0, .v (.int .i64 n)] [srcS s, .ghost (BY bs)] (.own 2) [some (srcS (drO bs s n).2), none, some (.row 2 (I (drO bs s n).1))] := by
  refine SpecM.of_code' T_ok Tryz.func73 rfl Tryz.ntmps73 Tryz.call73 (Nat.le_of_ble_eq_true rfl) (Nat.le_of_ble_eq_true rfl) (Nat.le_of_ble_eq_true rfl) rfl rfl (CodeV_sound T_ok (by kernel_rfl) rfl ?_)
  refine WW ?_
  refine HereO.buildRow T_ok 1336 (I []) rfl rfl rfl (by decide) rfl SR rfl (by decide) ?_
  refine WW ?_
  refine Here.loopV T_ok (κ := Nat) (fun i => i ≤ n) (fun i => n - i) (fun i => [(0, .ptr 0 0), (1, .v (.int .i64 n)), (5, .own 1336), (6, .v (.int .i64 i))]) (fun i => [(0, srcS (drO bs s i).2), (1, .ghost (BY bs)), (1336, .row 2 (I (drO bs s i).1))]) 0 (by simp) (by simp only [go_sem, Nat.reduceMul, Nat.reduceLeDiff, Nat.reduceLT, reduceIte, reduceCtorEq, Nat.reduceEqDiff, Nat.reduceSub, Nat.reduceAdd]; simp) (by (simp only [go_sem, Nat.reduceMul, Nat.reduceLeDiff, Nat.reduceLT, reduceIte, reduceCtorEq, Nat.reduceEqDiff, Nat.reduceSub, Nat.reduceAdd]) <;> exact ⟨rfl, rfl⟩) ?_
  intro i h1
  obtain ⟨h2, h3⟩ := drO_ok hb hs i
  obtain ⟨h5, h6, _⟩ := nx_ok hb (i + 1) h3
  have e1 : drO bs s (i + 1) = ((drO bs s i).1.take (nx bs (i + 1) (drO bs s i).2).1.toNat ++ [(i : Int)] ++ (drO bs s i).1.drop (nx bs (i + 1) (drO bs s i).2).1.toNat, (nx bs (i + 1) (drO bs s i).2).2) := rfl
  have hc := l01Next_spec bs hb (i + 1) (drO bs s i).2 h3
  revert e1 h2 h5 h6 hc
  generalize nx bs (i + 1) (drO bs s i).2 = y
  obtain ⟨x, s'⟩ := y
  generalize hLe : (drO bs s i).1 = L
  intro h2 h5 h6 e1 hc
  dsimp only at e1 h5 h6 hc
  obtain ⟨a, rfl⟩ := Int.eq_ofNat_of_zero_le h5
  have hai : a ≤ i := by have := h6 (by omega); omega
  have hLl := h2.1
  refine WW ?_
  refine ⟨fun h4 => ⟨by unfold InR; omega, ?_⟩, fun h4 => ?_⟩
  · refine HereO.conv (Conv.freeze 5 (id := 1336) (e := 2) (vs := I L) rfl rfl) ?_
    refine HereO.callM T_ok 20 [0,1] rfl rfl (hc) SC rfl (by decide) (by decide) rfl rfl rfl (Nat.le_of_ble_eq_true rfl) ?_
    refine WW ?_
    refine Here.drawC T_ok [.f, .f, .f, .c, .f, .f, .c, .f, .f, .f, .c, .p] [5, 6, 7] [1336, 1337, 1338, 1339, 1340, 1341, 1342, 1343, 1344, 1345, 1346, 1347, 1348, 1349, 1350, 1351] [] (Nat.le_of_ble_eq_true rfl) mixed_ok (by kernel_rfl) (by kernel_rfl) (by kernel_rfl) (by simp only [List.mem_cons, List.not_mem_nil, or_false, forall_eq_or_imp, forall_eq, go_sem, Nat.reduceMul, Nat.reduceLeDiff, Nat.reduceLT, reduceIte, reduceCtorEq, Nat.reduceEqDiff, Nat.reduceSub, Nat.reduceAdd] <;> first | exact calm_ptr_ne rfl | exact calm_ne rfl | exact ⟨calm_ptr_ne rfl, calm_ptr_ne rfl⟩ | exact ⟨calm_ptr_ne rfl, calm_ptr_ne rfl, calm_ptr_ne rfl⟩ | exact ⟨calm_ptr_ne rfl, calm_knot (by simp only [go_sem, Nat.reduceMul, Nat.reduceLeDiff, Nat.reduceLT, reduceIte, reduceCtorEq, Nat.reduceEqDiff, Nat.reduceSub, Nat.reduceAdd] <;> exact calm_ptr_ne rfl)⟩ | ((repeat' apply And.intro) <;> first | exact calm_ptr_ne rfl | exact calm_ne rfl)) ?_
    refine WW ?_
    refine ⟨_, fun _ _ => OpP.slice T_ok (vs := I L) 0 a rfl rfl SS rfl ⟨.i64, by simp only [go_sem, Nat.reduceMul, Nat.reduceLeDiff, Nat.reduceLT, reduceIte, reduceCtorEq, Nat.reduceEqDiff, Nat.reduceSub, Nat.reduceAdd]⟩ (by omega) (by rw [I_len]; omega), SW, ?_⟩
    refine WW ?_
    rw [I_takeN]
    refine HereC.callOwn 21 rfl rfl (ownR_spec (L.take a) (by simp; omega)) SA rfl (by simp) rfl (inK_shift (by decide)) SK ?_
    refine WW ?_
    refine ⟨_, fun _ _ => OpP.buildRd T_ok (I [(i : Int)]) rfl rfl rfl (by decide) rfl SS rfl, SW, ?_⟩
    refine WW ?_
    refine HereC.append T_ok (I [(i : Int)]) rfl rfl (by decide) SS (by decide) SS SS (I_one _) (by rw [I_len, I_len]; simp; omega) rfl (keeps_nil _ _) ?_
    refine WW ?_
    refine ⟨_, fun _ _ => OpP.slice T_ok (vs := I L) a L.length rfl rfl SS ⟨.i64, by simp only [go_sem, Nat.reduceMul, Nat.reduceLeDiff, Nat.reduceLT, reduceIte, reduceCtorEq, Nat.reduceEqDiff, Nat.reduceSub, Nat.reduceAdd]⟩ (I_len L).symm (by omega) (by rw [I_len]; exact Nat.le_refl _), SW, ?_⟩
    refine WW ?_
    have hdrop : (List.take L.length (I L)).drop a = I (L.drop a) := by rw [List.take_of_length_le (by rw [I_len]; exact Nat.le_refl _)]; simp [I, List.map_drop]
    rw [hdrop]
    refine HereC.append T_ok (I (L.drop a)) rfl rfl (by decide) SS (by decide) SS SS (I_one _) (by simp only [List.length_append, I_len, List.length_take, List.length_drop, List.length_cons, List.length_nil]; omega) rfl (keeps_nil _ _) ?_
    refine WW ?_
    have hfin : I (L.take a) ++ I [(i : Int)] ++ I (L.drop a) = I (L.take a ++ [(i : Int)] ++ L.drop a) := by simp [I]
    refine ⟨by unfold InR; omega, i + 1, by omega, by omega, by push_cast; rfl, ?_, ?_⟩
    · rw [e1]; rfl
    · rw [e1, hfin]; rfl
  · obtain rfl : i = n := by omega
    refine RetM.two 1336 (by decide) SE rfl ?_ ?_
    · (simp only [go_sem, Nat.reduceMul, Nat.reduceLeDiff, Nat.reduceLT, reduceIte, reduceCtorEq, Nat.reduceEqDiff, Nat.reduceSub, Nat.reduceAdd]) <;> rfl
    · refine WW ?_
      rw [hLe]
theorem perm0_of {n : Nat} {L : List Int} (h1 : 1 ≤ n) (h : PermN (n - 1) L) : Perm0 n ([0] ++ L.map (· + 1)) := by
  obtain ⟨h2, h3, h4⟩ := h
  have hg : ∀ j, j < n - 1 → ([0] ++ L.map (· + 1) : List Int).getD (j + 1) 0 = L.getD j 0 + 1 := fun j hj => by
    simp [List.getElem?_map, List.getD_eq_getElem?_getD, List.getElem?_eq_getElem (show j < L.length by omega)]
  have h00 : ([0] ++ L.map (· + 1) : List Int).getD 0 0 = 0 := by simp
  have hm : ∀ j, j < n - 1 → 0 ≤ L.getD j 0 ∧ L.getD j 0 < (n - 1 : Nat) := fun j hj => by
    rw [List.getD_eq_getElem?_getD, List.getElem?_eq_getElem (by omega), Option.getD_some]
    exact h4 _ (List.getElem_mem _)
  refine ⟨by simp; omega, fun j hj => ?_, fun i j hi hj e => ?_, by simp⟩
  · simp only [List.length_append, List.length_map, List.length_cons, List.length_nil] at hj
    cases j with
    | zero => simp; omega
    | succ j => rw [hg j (by omega)]; have := hm j (by omega); omega
  · cases i with
    | zero => cases j with
      | zero => rfl
      | succ j =>
        rw [hg j (by omega)] at e
        have := hm j (by omega)
        rw [h00] at e
        omega
    | succ i => cases j with
      | zero =>
        rw [hg i (by omega)] at e
        have := hm i (by omega)
        rw [h00] at e
        omega
      | succ j =>
        rw [hg i (by omega), hg j (by omega)] at e
        have e2 : L.getD i 0 = L.getD j 0 := by omega
        rw [List.getD_eq_getElem?_getD, List.getD_eq_getElem?_getD, List.getElem?_eq_getElem (by omega), List.getElem?_eq_getElem (by omega), Option.getD_some, Option.getD_some] at e2
        have := (List.getElem_inj h3).1 e2
        omega
def drN (bs : List Int) (s : Int × Int) (n : Nat) : List Int × Int × Int := ([0] ++ (drO bs s (n - 1)).1.map (· + 1), (drO bs s (n - 1)).2)
theorem drN_ok {bs : List Int} (hb : Bytes bs) {s : Int × Int} (hs : At bs s) {n : Nat} (h1 : 1 ≤ n) : Perm0 n (drN bs s n).1 ∧ At bs (drN bs s n).2 := by
  obtain ⟨h2, h3⟩ := drO_ok hb hs (n - 1)
  exact ⟨perm0_of h1 h2, h3⟩
theorem l01DrawNumbers_spec (bs : List Int) (hb : Bytes bs) (n : Nat) (h1 : 1 ≤ n) (hn : n ≤ 1048576) (s : Int × Int) (hs : At bs s) : SpecM Tryz.prog 59 [.ptr 0 0, .v (.int .i64 n)] [srcS s, .ghost (BY bs)] (.own 2) [some (srcS (drN bs s n).2), none, some (.row 2 (I (drN bs s n).1))] := by
  have hc := l01DrawOrder_spec bs hb (n - 1) (by omega) s hs
  rw [show ((n - 1 : Nat) : Int) = (n : Int) - 1 by omega] at hc
  obtain ⟨h2, h3⟩ := drO_ok hb hs (n - 1)
  have e1 : drN bs s n = ([0] ++ (drO bs s (n - 1)).1.map (· + 1), (drO bs s (n - 1)).2) := rfl
  rw [e1]
  clear e1
  revert h2 hc
  generalize drO bs s (n - 1) = y
  obtain ⟨L, s'⟩ := y
  intro hc h2
  dsimp only at h2 hc ⊢
  have hLl := h2.1
  refine SpecM.of_code' T_ok Tryz.func59 rfl Tryz.ntmps59 Tryz.call59 (Nat.le_of_ble_eq_true rfl) (Nat.le_of_ble_eq_true rfl) (Nat.le_of_ble_eq_true rfl) rfl rfl (CodeV_sound T_ok (by kernel_rfl) rfl ?_)
  refine WW ?_
  refine ⟨by unfold InR; omega, ?_⟩
  refine HereO.callM T_ok 21 [0,1] rfl rfl (hc) SC rfl (by decide) (by decide) rfl rfl rfl (Nat.le_of_ble_eq_true rfl) ?_
  refine WW ?_
  refine HereO.buildRow T_ok 120 (I [0]) rfl rfl rfl (by decide) rfl SR rfl (by decide) ?_
  refine WW ?_
  refine Here.loopV T_ok (κ := Nat) (fun i => i ≤ n - 1) (fun i => n - 1 - i) (fun i => [(5, .own 1338), (6, .own 120), (7, .v (.int .i64 i))]) (fun i => [(0, srcS s'), (1338, .row 2 (I L)), (120, .row 2 (I ([0] ++ (L.take i).map (· + 1))))]) 0 (by omega) (by simp only [go_sem, Nat.reduceMul, Nat.reduceLeDiff, Nat.reduceLT, reduceIte, reduceCtorEq, Nat.reduceEqDiff, Nat.reduceSub, Nat.reduceAdd]; simp) (by (simp only [go_sem, Nat.reduceMul, Nat.reduceLeDiff, Nat.reduceLT, reduceIte, reduceCtorEq, Nat.reduceEqDiff, Nat.reduceSub, Nat.reduceAdd]) <;> rfl) ?_
  intro i hi
  refine WW ?_
  refine ⟨fun h4 => ?_, fun h4 => ?_⟩
  · have hLi : 0 ≤ L.getD i 0 ∧ L.getD i 0 < (n - 1 : Nat) := by
      rw [List.getD_eq_getElem?_getD, List.getElem?_eq_getElem (by omega), Option.getD_some]
      exact h2.2.2 _ (List.getElem_mem _)
    have ht : L.take (i + 1) = L.take i ++ [L.getD i 0] := by
      rw [List.take_succ_eq_append_getElem (by omega), List.getD_eq_getElem?_getD, List.getElem?_eq_getElem (by omega), Option.getD_some]
    repeat (refine ⟨by first | omega | (unfold InR; omega) | exact ⟨by omega, by omega⟩, ?_⟩)
    refine HereO.buildRow T_ok 61 (I [L.getD i 0 + 1]) rfl rfl rfl (by decide) rfl SR rfl (by decide) ?_
    refine WW ?_
    refine HereO.append T_ok (I [L.getD i 0 + 1]) rfl rfl (by decide) SS (by decide) SS SS (.own 61 _ _ (by decide) SS) (I_one _) (by simp only [I_len, List.length_cons, List.length_map, List.length_take, List.length_nil]; omega) ?_
    refine WW ?_
    refine ⟨by unfold InR; omega, i + 1, by omega, by omega, by push_cast; rfl, ?_⟩
    rw [ht]
    simp [I]
  · obtain rfl : i = n - 1 := by omega
    refine RetM.two 120 (by decide) SE rfl ?_ ?_
    · (simp only [go_sem, Nat.reduceMul, Nat.reduceLeDiff, Nat.reduceLT, reduceIte, reduceCtorEq, Nat.reduceEqDiff, Nat.reduceSub, Nat.reduceAdd]) <;> rfl
    · refine WW ?_
      rw [List.take_of_length_le (by omega)]
end Go.Proofs.YtcjhojdlfnpgjaaGreat
namespace Go.Proofs.YtcjhojdlfnpgjaaGreat
open Go.RowKit
def cycF (n a b : Nat) : Int := ((a + b) % n : Nat)
theorem l01Cyclic_spec (n : Nat) (h1 : 1 ≤ n) (h2 : n ≤ 64) : Spec Tryz.prog 110 [.v (.int .i64 n)] (.agg [.own 0]) [.rows 27 2 (II (tab (cycF n) n n))] := by
  refine Spec.of_code T_ok Tryz.func110 rfl Tryz.ntmps110 Tryz.call110 (Nat.le_of_ble_eq_true rfl) rfl rfl (CodeV_sound T_ok (by kernel_rfl) rfl ?_)
  refine WW ?_
  refine HereO.alloc T_ok 104 rfl rfl (by decide) ?_
  refine WW ?_
  refine HereO.buildRow T_ok 120 [] rfl rfl rfl (by decide) rfl rfl rfl (by decide) ?_
  refine WW ?_
  refine HereO.conv (Conv.rows (id := 120) (e := 27) 2 0 SE) ?_
  refine HereO.opP T_ok (OpP.build built_26 rfl rfl rfl rfl) ?_
  refine WW ?_
  refine HereO.alloc T_ok 106 rfl rfl (by decide) ?_
  refine WW ?_
  refine HereO.storeAgg T_ok rfl SS SS rfl SS SS rfl rfl ?_
  refine WW ?_
  refine Here.loopV T_ok (fun k => k ≤ n) (fun k => n - k) (fun k => [(0, .v (.int .i64 n)), (2, .ptr 104 0), (3, .ptr 106 0), (4, .v (.int .i64 k))])
    (fun k => [(104, .cells 26 [.v nilV]), (106, .cells 26 [.own 120]), (120, .rows 27 2 (II (tab (cycF n) n k)))]) 0 (by simp) (by simp only [go_sem, Nat.reduceMul, Nat.reduceLeDiff, Nat.reduceLT, reduceIte, reduceCtorEq, Nat.reduceEqDiff, Nat.reduceSub, Nat.reduceAdd]; simp) (by simp only [go_sem, Nat.reduceMul, Nat.reduceLeDiff, Nat.reduceLT, reduceIte, reduceCtorEq, Nat.reduceEqDiff, Nat.reduceSub, Nat.reduceAdd]; simp [tab, II, nilV]) ?_
  intro k hk
  refine WW ?_
  refine ⟨fun h3 => ?_, fun h3 => ?_⟩
  · refine HereO.buildRow T_ok 130 (I []) rfl rfl rfl (by decide) rfl SS rfl (by decide) ?_
    refine WW ?_
    refine Here.loopV T_ok (fun j => j ≤ n) (fun j => n - j) (fun j => [(0, .v (.int .i64 n)), (2, .ptr 104 0), (3, .ptr 106 0), (4, .v (.int .i64 k)), (5, .own 130), (6, .v (.int .i64 j))])
      (fun j => [(104, .cells 26 [.v nilV]), (106, .cells 26 [.own 120]), (120, .rows 27 2 (II (tab (cycF n) n k))), (130, .row 2 (I (upTo (cycF n k) j)))]) 0 (by simp) (by simp only [go_sem, Nat.reduceMul, Nat.reduceLeDiff, Nat.reduceLT, reduceIte, reduceCtorEq, Nat.reduceEqDiff, Nat.reduceSub, Nat.reduceAdd]; simp) (by simp only [go_sem, Nat.reduceMul, Nat.reduceLeDiff, Nat.reduceLT, reduceIte, reduceCtorEq, Nat.reduceEqDiff, Nat.reduceSub, Nat.reduceAdd]; simp [upTo, I]) ?_
    intro j hj
    refine WW ?_
    refine ⟨fun h4 => ?_, fun h4 => ?_⟩
    · have e1 : ((k : Int) + (j : Int)).tmod (n : Int) = cycF n k j := by rw [show (k : Int) + (j : Int) = ((k + j : Nat) : Int) by push_cast; rfl]; rfl
      rw [e1]
      refine ⟨by unfold InR; omega, by omega, ?_⟩
      refine HereO.buildRow T_ok 140 (I [cycF n k j]) rfl rfl rfl (by decide) rfl SS rfl (by decide) ?_
      refine WW ?_
      refine HereO.append T_ok (I [cycF n k j]) rfl rfl (by decide) SS (by decide) SS SS (.own 140 _ _ (by decide) SS) (I_one _) (by rw [I_len, I_len, upTo_len]; simp; omega) ?_
      refine WW ?_
      exact ⟨by unfold InR; omega, j + 1, by omega, by omega, by simp, by rw [I_append, upTo_succ]⟩
    · have : j = n := by omega
      subst this
      refine HereO.buildRowL T_ok 150 [.own 130] rfl rfl rfl (by decide) rfl SS rfl (by decide) SS ?_
      refine WW ?_
      refine HereO.appendRows T_ok (id := 120) (j := 150) (i := 130) rfl rfl (by decide) SS (by decide) SS SS SS SS (by decide) (by decide) (by rw [II_len, tab_len]; omega) ?_
      refine WW ?_
      refine HereO.store T_ok rfl SS SS rfl SS rfl SS (by decide) ?_
      refine WW ?_
      refine ⟨by unfold InR; omega, k + 1, by omega, by omega, by simp, by simp [II_append, tab_succ]⟩
  · have : k = n := by omega
    subst this
    refine HereO.storeAgg T_ok rfl SS SS rfl SS SS rfl rfl ?_
    refine WW ?_
    refine RetT.one 120 SE rfl ?_
    exact WW trivial
def twG (n more x u y v : Nat) : Int :=
  (n : Int) * (((x + u) % 2 : Nat) : Int) + ((if u = 1 then (v : Int) - (y : Int) + n else (y : Int) + (v : Int)) + (if x = 1 ∧ u = 1 then (more : Int) else 0)).tmod n
def twF (n more a b : Nat) : Int := twG n more (a / n) (b / n) (a % n) (b % n)
def twH (n more x u y v : Nat) : Int :=
  (n : Int) * (((x + u) % 2 : Nat) : Int) + ((if u = 1 then (v : Int) - (y : Int) else (y : Int) + (v : Int)) + (more : Int) * (x : Int) * (u : Int)) % (n : Int)
def twS (n more a b : Nat) : Int := twH n more (a / n) (b / n) (a % n) (b % n)
theorem l01Twisted_spec (n more : Nat) (h1 : 1 ≤ n) (h2 : n ≤ 4) (hm : more ≤ 4) : Spec Tryz.prog 111 [.v (.int .i64 n), .v (.int .i64 more)] (.agg [.own 0]) [.rows 27 2 (II (tab (twS n more) (2 * n) (2 * n)))] := by
  have hcast : (2 : Int) * (n : Int) = ((2 * n : Nat) : Int) := by push_cast; rfl
  refine Spec.of_code T_ok Tryz.func111 rfl Tryz.ntmps111 Tryz.call111 (Nat.le_of_ble_eq_true rfl) rfl rfl (CodeV_sound T_ok (by kernel_rfl) rfl ?_)
  refine WW ?_
  refine HereO.alloc T_ok 104 rfl rfl (by decide) ?_
  refine WW ?_
  refine HereO.buildRow T_ok 120 [] rfl rfl rfl (by decide) rfl rfl rfl (by decide) ?_
  refine WW ?_
  refine HereO.conv (Conv.rows (id := 120) (e := 27) 2 0 SE) ?_
  refine HereO.opP T_ok (OpP.build built_26 rfl rfl rfl rfl) ?_
  refine WW ?_
  refine HereO.alloc T_ok 106 rfl rfl (by decide) ?_
  refine WW ?_
  refine HereO.storeAgg T_ok rfl SS SS rfl SS SS rfl rfl ?_
  refine WW ?_
  refine Here.loopV T_ok (fun k => k ≤ 2 * n) (fun k => 2 * n - k) (fun k => [(0, .v (.int .i64 n)), (1, .v (.int .i64 more)), (4, .ptr 104 0), (5, .ptr 106 0), (6, .v (.int .i64 k))])
    (fun k => [(104, .cells 26 [.v nilV]), (106, .cells 26 [.own 120]), (120, .rows 27 2 (II (tab (twS n more) (2 * n) k)))]) 0 (by simp) (by simp only [go_sem, Nat.reduceMul, Nat.reduceLeDiff, Nat.reduceLT, reduceIte, reduceCtorEq, Nat.reduceEqDiff, Nat.reduceSub, Nat.reduceAdd]; simp) (by simp only [go_sem, Nat.reduceMul, Nat.reduceLeDiff, Nat.reduceLT, reduceIte, reduceCtorEq, Nat.reduceEqDiff, Nat.reduceSub, Nat.reduceAdd]; simp [tab, II, nilV]) ?_
  intro k hk
  refine WW ?_
  rw [hcast]
  refine ⟨by unfold InR; omega, fun h3 => ?_, fun h3 => ?_⟩
  · refine HereO.buildRow T_ok 130 (I []) rfl rfl rfl (by decide) rfl SS rfl (by decide) ?_
    refine WW ?_
    refine Here.loopV T_ok (fun j => j ≤ 2 * n) (fun j => 2 * n - j) (fun j => [(0, .v (.int .i64 n)), (1, .v (.int .i64 more)), (4, .ptr 104 0), (5, .ptr 106 0), (6, .v (.int .i64 k)), (7, .own 130), (8, .v (.int .i64 j))])
      (fun j => [(104, .cells 26 [.v nilV]), (106, .cells 26 [.own 120]), (120, .rows 27 2 (II (tab (twS n more) (2 * n) k))), (130, .row 2 (I (upTo (twS n more k) j)))]) 0 (by simp) (by simp only [go_sem, Nat.reduceMul, Nat.reduceLeDiff, Nat.reduceLT, reduceIte, reduceCtorEq, Nat.reduceEqDiff, Nat.reduceSub, Nat.reduceAdd]; simp) (by simp only [go_sem, Nat.reduceMul, Nat.reduceLeDiff, Nat.reduceLT, reduceIte, reduceCtorEq, Nat.reduceEqDiff, Nat.reduceSub, Nat.reduceAdd]; simp [upTo, I]) ?_
    intro j hj
    refine WW ?_
    rw [hcast]
    refine ⟨by unfold InR; omega, fun h4 => ?_, fun h4 => ?_⟩
    · have e1 : (k : Int).tdiv (n : Int) = ((k / n : Nat) : Int) := rfl
      have e2 : (j : Int).tdiv (n : Int) = ((j / n : Nat) : Int) := rfl
      have e3 : (k : Int).tmod (n : Int) = ((k % n : Nat) : Int) := rfl
      have e4 : (j : Int).tmod (n : Int) = ((j % n : Nat) : Int) := rfl
      have d1 : k / n < 2 := Nat.div_lt_of_lt_mul (by omega)
      have d2 : j / n < 2 := Nat.div_lt_of_lt_mul (by omega)
      have d3 : k % n < n := Nat.mod_lt _ (by omega)
      have d4 : j % n < n := Nat.mod_lt _ (by omega)
      have hv : twS n more k j = twH n more (k / n) (j / n) (k % n) (j % n) := rfl
      refine Here.draw T_ok mixed_ok (by kernel_rfl) ?_
      refine WW ?_
      rw [e1, e2, e3, e4]
      clear e1 e2 e3 e4
      generalize k / n = x at *
      generalize j / n = u at *
      generalize k % n = y at *
      generalize j % n = v at *
      have e5 : ((x : Int) + (u : Int)).tmod 2 = (((x + u) % 2 : Nat) : Int) := by rw [show (x : Int) + (u : Int) = ((x + u : Nat) : Int) by push_cast; rfl]; rfl
      have hs : (x + u) % 2 < 2 := Nat.mod_lt _ (by omega)
      have hn0 : 0 ≤ (n : Int) * (((x + u) % 2 : Nat) : Int) := Int.mul_nonneg (by omega) (by omega)
      have hn1 : (n : Int) * (((x + u) % 2 : Nat) : Int) ≤ 4 * 2 := Int.mul_le_mul (by omega) (by omega) (by omega) (by omega)
      have m0 : 0 ≤ (more : Int) * (x : Int) := Int.mul_nonneg (by omega) (by omega)
      have m1 : (more : Int) * (x : Int) ≤ 4 * 2 := Int.mul_le_mul (by omega) (by omega) (by omega) (by omega)
      have m2 : 0 ≤ (more : Int) * (x : Int) * (u : Int) := Int.mul_nonneg m0 (by omega)
      have m3 : (more : Int) * (x : Int) * (u : Int) ≤ 8 * 2 := Int.mul_le_mul m1 (by omega) (by omega) (by omega)
      refine ⟨⟨by omega, by unfold InR; omega⟩, by omega, ⟨by omega, by unfold InR; omega⟩, by omega, by unfold InR; omega, fun hu => ?_, fun hu => ?_⟩
      · rw [e5]
        have q : twH n more x u y v = (n : Int) * (((x + u) % 2 : Nat) : Int) + ((v : Int) - (y : Int) + (more : Int) * (x : Int) * (u : Int)) % (n : Int) := by unfold twH; rw [if_pos (by omega)]
        have z0 : 0 ≤ ((v : Int) - (y : Int) + (more : Int) * (x : Int) * (u : Int)) % (n : Int) := Int.emod_nonneg _ (by omega)
        have z1 : ((v : Int) - (y : Int) + (more : Int) * (x : Int) * (u : Int)) % (n : Int) < n := Int.emod_lt_of_pos _ (by omega)
        refine ⟨by unfold InR; omega, by unfold InR; omega, by decide, by unfold InR; omega, by unfold InR; omega, by unfold InR; omega, by unfold InR; omega, ?_⟩
        refine HereO.call T_ok rfl rfl (l01Mod_spec ((v : Int) - (y : Int) + (more : Int) * (x : Int) * (u : Int)) n (by omega) (by omega) ⟨by omega, by omega⟩) SA rfl ?_
        refine WW ?_
        refine ⟨by unfold InR; omega, ?_⟩
        refine HereO.buildRow T_ok 140 (I [twS n more k j]) rfl rfl rfl (by decide) rfl (by simp only [go_sem, Nat.reduceMul, Nat.reduceLeDiff, Nat.reduceLT, reduceIte, reduceCtorEq, Nat.reduceEqDiff, Nat.reduceSub, Nat.reduceAdd]; rw [hv, q]; rfl) rfl (by decide) ?_
        refine WW ?_
        refine HereO.append T_ok (I [twS n more k j]) rfl rfl (by decide) SS (by decide) SS SS (.own 140 _ _ (by decide) SS) (I_one _) (by rw [I_len, I_len, upTo_len]; simp; omega) ?_
        refine WW ?_
        exact ⟨by unfold InR; omega, j + 1, by omega, by omega, by simp, by rw [I_append, upTo_succ]⟩
      · rw [e5]
        have q : twH n more x u y v = (n : Int) * (((x + u) % 2 : Nat) : Int) + ((y : Int) + (v : Int) + (more : Int) * (x : Int) * (u : Int)) % (n : Int) := by unfold twH; rw [if_neg (by omega)]
        have z0 : 0 ≤ ((y : Int) + (v : Int) + (more : Int) * (x : Int) * (u : Int)) % (n : Int) := Int.emod_nonneg _ (by omega)
        have z1 : ((y : Int) + (v : Int) + (more : Int) * (x : Int) * (u : Int)) % (n : Int) < n := Int.emod_lt_of_pos _ (by omega)
        refine ⟨by unfold InR; omega, by decide, by unfold InR; omega, by unfold InR; omega, by unfold InR; omega, by unfold InR; omega, ?_⟩
        refine HereO.call T_ok rfl rfl (l01Mod_spec ((y : Int) + (v : Int) + (more : Int) * (x : Int) * (u : Int)) n (by omega) (by omega) ⟨by omega, by omega⟩) SA rfl ?_
        refine WW ?_
        refine ⟨by unfold InR; omega, ?_⟩
        refine HereO.buildRow T_ok 140 (I [twS n more k j]) rfl rfl rfl (by decide) rfl (by simp only [go_sem, Nat.reduceMul, Nat.reduceLeDiff, Nat.reduceLT, reduceIte, reduceCtorEq, Nat.reduceEqDiff, Nat.reduceSub, Nat.reduceAdd]; rw [hv, q]; rfl) rfl (by decide) ?_
        refine WW ?_
        refine HereO.append T_ok (I [twS n more k j]) rfl rfl (by decide) SS (by decide) SS SS (.own 140 _ _ (by decide) SS) (I_one _) (by rw [I_len, I_len, upTo_len]; simp; omega) ?_
        refine WW ?_
        exact ⟨by unfold InR; omega, j + 1, by omega, by omega, by simp, by rw [I_append, upTo_succ]⟩
    · have : j = 2 * n := by omega
      subst this
      refine HereO.buildRowL T_ok 150 [.own 130] rfl rfl rfl (by decide) rfl SS rfl (by decide) SS ?_
      refine WW ?_
      refine HereO.appendRows T_ok (id := 120) (j := 150) (i := 130) rfl rfl (by decide) SS (by decide) SS SS SS SS (by decide) (by decide) (by rw [II_len, tab_len]; omega) ?_
      refine WW ?_
      refine HereO.store T_ok rfl SS SS rfl SS rfl SS (by decide) ?_
      refine WW ?_
      refine ⟨by unfold InR; omega, k + 1, by omega, by omega, by simp, by simp [II_append, tab_succ]⟩
  · have : k = 2 * n := by omega
    subst this
    refine HereO.storeAgg T_ok rfl SS SS rfl SS SS rfl rfl ?_
    refine WW ?_
    refine RetT.one 120 SE rfl ?_
    exact WW trivial
end Go.Proofs.YtcjhojdlfnpgjaaGreat
