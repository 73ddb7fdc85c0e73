/- Contracts: numbers that follow from a code. -/
import Derived.Test.YtcjhojdlfnpgjaaGreatDoorWe
import Derived.Test.YtcjhojdlfnpgjaaGreatDoorFa
import Derived.Test.YtcjhojdlfnpgjaaGreatDoorRa
import Derived.Test.YtcjhojdlfnpgjaaGreatDoorNa
namespace Go.Proofs.YtcjhojdlfnpgjaaGreatDoor
open Go.RowKit
set_option linter.unusedVariables false
set_option linter.unusedSimpArgs false
set_option maxRecDepth 100000

def BY (bs : List Int) : List Value := bs.map fun b => .int .u8 b
theorem BY_len (bs : List Int) : (BY bs).length = bs.length := by simp [BY]
theorem dvBY {bs : List Int} {k : Nat} (h : k < bs.length) : dv (BY bs) k = .int .u8 (bs.getD k 0) := by
  unfold dv BY
  rw [List.getD_eq_getElem?_getD, List.getD_eq_getElem?_getD, List.getElem?_map, List.getElem?_eq_getElem h]
  rfl
/-- A code: bytes, and not too many. -/
def Bytes (bs : List Int) : Prop := bs.length ≤ 4096 ∧ ∀ j, j < bs.length → 0 ≤ bs.getD j 0 ∧ bs.getD j 0 ≤ 255
/-- A source of numbers, as a call sees it: its code is the object 1. -/
def srcS (s : Int × Int) : OC := .cells 74 [.own 1, .v (.int .i64 s.1), .v (.int .u64 s.2)]
attribute [go_sem] srcS BY_len
theorem andLow (a : Int) : 0 ≤ andV .u64 a 16777215 ∧ andV .u64 a 16777215 ≤ 16777215 := by
  unfold andV
  have h : (BitVec.ofInt IntKind.u64.bits a &&& BitVec.ofInt IntKind.u64.bits 16777215).toNat ≤ 16777215 := by
    rw [BitVec.toNat_and]
    exact Nat.le_trans Nat.and_le_right (by decide)
  generalize (BitVec.ofInt IntKind.u64.bits a &&& BitVec.ofInt IntKind.u64.bits 16777215).toNat = m at h
  simp [IntKind.wrap, IntKind.signed, IntKind.bits]
  omega
theorem RetM.one0' {T : TT} {results : Array ResultVar} {r : LV} {s : St} {rs : List LV} {oc : OC} (h : resLs T s results.toList = some rs) (h2 : tupL rs = ren (fun i => [0, 1].getD i 0) r) (h3 : s.σ 0 = some (renO (fun i => [0, 1].getD i 0) oc)) : RetM T results 2 r [some oc, none] s :=
  ⟨rs, [0, 1], h, h2, rfl, by simp, fun i hi => (by
    match i, hi with
    | 0, _ => rfl
    | 1, _ => rfl), fun i oc' hi => by
    match i with
    | 0 => simp [osO] at hi; subst hi; simpa using h3
    | 1 => simp [osO] at hi
    | i + 2 => simp [osO] at hi⟩
/-- Where a source stands. -/
def At (bs : List Int) (s : Int × Int) : Prop := 0 ≤ s.1 ∧ s.1 ≤ bs.length
def hs2 (h : Int) : Int := IntKind.u64.wrap (IntKind.u64.wrap (h * 6364136223846793005) + 1442695040888963407)
def hsX (h : Int) : Int := andV IntKind.u64 (shrV IntKind.u64 (hs2 h) 33) 16777215
/-- The next number, and where the source stands behind it. -/
def nx (bs : List Int) (n : Int) (s : Int × Int) : Int × Int × Int :=
  if n < 1 then (0, s) else if s.1 < bs.length then ((hsX s.2 + bs.getD s.1.toNat 0).tmod n, s.1 + 1, hs2 s.2) else ((hsX s.2).tmod n, s.1, hs2 s.2)
theorem nx_ok {bs : List Int} (hb : Bytes bs) (n : Int) {s : Int × Int} (hs : At bs s) : 0 ≤ (nx bs n s).1 ∧ (1 ≤ n → (nx bs n s).1 < n) ∧ At bs (nx bs n s).2 := by
  have hx := andLow (shrV IntKind.u64 (hs2 s.2) 33)
  have hx' : 0 ≤ hsX s.2 ∧ hsX s.2 ≤ 16777215 := hx
  unfold nx At at *
  split
  · exact ⟨by simp, fun h => by omega, hs⟩
  · split
    · have hby := hb.2 s.1.toNat (by omega)
      have hm := Int.tmod_nonneg n (a := hsX s.2 + bs.getD s.1.toNat 0) (by omega)
      have hm2 := Int.tmod_lt_of_pos (hsX s.2 + bs.getD s.1.toNat 0) (show 0 < n by omega)
      exact ⟨hm, fun _ => hm2, by dsimp only; omega, by dsimp only; omega⟩
    · have hm := Int.tmod_nonneg n (a := hsX s.2) (by omega)
      have hm2 := Int.tmod_lt_of_pos (hsX s.2) (show 0 < n by omega)
      exact ⟨hm, fun _ => hm2, hs⟩
theorem l01Next_spec (bs : List Int) (hb : Bytes bs) (n : Int) (s : Int × Int) (hs : At bs s) : SpecM Tryz.prog 44 [.ptr 0 0, .v (.int .i64 n)] [srcS s, .ghost (BY bs)] (.v (.int .i64 (nx bs n s).1)) [some (srcS (nx bs n s).2), none] := by
  obtain ⟨p, h⟩ := s
  have hp : 0 ≤ p ∧ p ≤ bs.length := hs
  have h4 := hb.1
  have hx : 0 ≤ hsX h ∧ hsX h ≤ 16777215 := andLow (shrV IntKind.u64 (hs2 h) 33)
  have e2 : andV IntKind.u64 (shrV IntKind.u64 (IntKind.u64.wrap (IntKind.u64.wrap (h * 6364136223846793005) + 1442695040888963407)) 33) 16777215 = hsX h := rfl
  have e3 : IntKind.u64.wrap (IntKind.u64.wrap (h * 6364136223846793005) + 1442695040888963407) = hs2 h := rfl
  refine SpecM.of_code' T_ok Tryz.func44 rfl Tryz.ntmps44 Tryz.call44 (Nat.le_of_ble_eq_true rfl) (Nat.le_of_ble_eq_true rfl) (Nat.le_of_ble_eq_true rfl) rfl rfl (CodeV_sound T_ok (by kernel_rfl) rfl ?_)
  simp only [Tryz.results44, go_sem, Nat.reduceMul, Nat.reduceLeDiff, Nat.reduceLT, reduceIte, reduceCtorEq, Nat.reduceEqDiff, Nat.reduceSub, Nat.reduceAdd]
  refine ⟨fun h1 => ?_, fun h1 => ?_⟩
  · have e : nx bs n (p, h) = (0, (p, h)) := by unfold nx; rw [if_pos h1]
    rw [e]
    refine RetM.one0' (by simp only [Tryz.results44, go_sem, Nat.reduceMul, Nat.reduceLeDiff, Nat.reduceLT, reduceIte, reduceCtorEq, Nat.reduceEqDiff, Nat.reduceSub, Nat.reduceAdd]; rfl) rfl ?_
    (simp only [Tryz.results44, go_sem, Nat.reduceMul, Nat.reduceLeDiff, Nat.reduceLT, reduceIte, reduceCtorEq, Nat.reduceEqDiff, Nat.reduceSub, Nat.reduceAdd]) <;> rfl
  · refine HereO.store T_ok rfl (by simp only [go_sem, Nat.reduceMul, Nat.reduceLeDiff, Nat.reduceLT, reduceIte, reduceCtorEq, Nat.reduceEqDiff, Nat.reduceSub, Nat.reduceAdd] <;> rfl) (by simp only [go_sem, Nat.reduceMul, Nat.reduceLeDiff, Nat.reduceLT, reduceIte, reduceCtorEq, Nat.reduceEqDiff, Nat.reduceSub, Nat.reduceAdd] <;> rfl) rfl (by simp only [go_sem, Nat.reduceMul, Nat.reduceLeDiff, Nat.reduceLT, reduceIte, reduceCtorEq, Nat.reduceEqDiff, Nat.reduceSub, Nat.reduceAdd] <;> rfl) rfl (by first | rfl | (simp only [go_sem, Nat.reduceMul, Nat.reduceLeDiff, Nat.reduceLT, reduceIte, reduceCtorEq, Nat.reduceEqDiff, Nat.reduceSub, Nat.reduceAdd] <;> rfl)) (Nat.le_of_ble_eq_true rfl) ?_
    simp only [Tryz.results44, go_sem, Nat.reduceMul, Nat.reduceLeDiff, Nat.reduceLT, reduceIte, reduceCtorEq, Nat.reduceEqDiff, Nat.reduceSub, Nat.reduceAdd]
    rw [e2]
    simp only [e3]
    refine ⟨by omega, by unfold InR; omega, ?_⟩
    refine Here.draw T_ok mixed_ok (by kernel_rfl) ?_
    simp only [Tryz.results44, go_sem, Nat.reduceMul, Nat.reduceLeDiff, Nat.reduceLT, reduceIte, reduceCtorEq, Nat.reduceEqDiff, Nat.reduceSub, Nat.reduceAdd]
    refine ⟨_, OpP.lenGhost T_ok rfl rfl rfl rfl, ?_⟩
    simp only [Tryz.results44, go_sem, Nat.reduceMul, Nat.reduceLeDiff, Nat.reduceLT, reduceIte, reduceCtorEq, Nat.reduceEqDiff, Nat.reduceSub, Nat.reduceAdd]
    refine ⟨fun h2 => ?_, fun h2 => ?_⟩
    · refine Here.draw T_ok mixed_ok (by kernel_rfl) ?_
      simp only [Tryz.results44, go_sem, Nat.reduceMul, Nat.reduceLeDiff, Nat.reduceLT, reduceIte, reduceCtorEq, Nat.reduceEqDiff, Nat.reduceSub, Nat.reduceAdd]
      refine ⟨_, OpP.indexGhost T_ok rfl rfl rfl rfl rfl hp.1 (by rw [BY_len]; exact h2), ?_⟩
      simp only [Tryz.results44, go_sem, Nat.reduceMul, Nat.reduceLeDiff, Nat.reduceLT, reduceIte, reduceCtorEq, Nat.reduceEqDiff, Nat.reduceSub, Nat.reduceAdd]
      rw [dvBY (k := p.toNat) (by omega)]
      have hby := hb.2 p.toNat (by omega)
      simp only [Tryz.results44, go_sem, Nat.reduceMul, Nat.reduceLeDiff, Nat.reduceLT, reduceIte, reduceCtorEq, Nat.reduceEqDiff, Nat.reduceSub, Nat.reduceAdd]
      refine ⟨by unfold InR; omega, by unfold InR; omega, ?_⟩
      refine ⟨by unfold InR; omega, ?_⟩
      refine HereO.store T_ok rfl (by simp only [go_sem, Nat.reduceMul, Nat.reduceLeDiff, Nat.reduceLT, reduceIte, reduceCtorEq, Nat.reduceEqDiff, Nat.reduceSub, Nat.reduceAdd] <;> rfl) (by simp only [go_sem, Nat.reduceMul, Nat.reduceLeDiff, Nat.reduceLT, reduceIte, reduceCtorEq, Nat.reduceEqDiff, Nat.reduceSub, Nat.reduceAdd] <;> rfl) rfl (by simp only [go_sem, Nat.reduceMul, Nat.reduceLeDiff, Nat.reduceLT, reduceIte, reduceCtorEq, Nat.reduceEqDiff, Nat.reduceSub, Nat.reduceAdd] <;> rfl) rfl (by first | rfl | (simp only [go_sem, Nat.reduceMul, Nat.reduceLeDiff, Nat.reduceLT, reduceIte, reduceCtorEq, Nat.reduceEqDiff, Nat.reduceSub, Nat.reduceAdd] <;> rfl)) (Nat.le_of_ble_eq_true rfl) ?_
      simp only [Tryz.results44, go_sem, Nat.reduceMul, Nat.reduceLeDiff, Nat.reduceLT, reduceIte, reduceCtorEq, Nat.reduceEqDiff, Nat.reduceSub, Nat.reduceAdd]
      have e : nx bs n (p, h) = ((hsX h + bs.getD p.toNat 0).tmod n, (p + 1, hs2 h)) := by unfold nx; rw [if_neg h1, if_pos h2]
      rw [e]
      refine ⟨by omega, RetM.one0' (by simp only [Tryz.results44, go_sem, Nat.reduceMul, Nat.reduceLeDiff, Nat.reduceLT, reduceIte, reduceCtorEq, Nat.reduceEqDiff, Nat.reduceSub, Nat.reduceAdd]; rfl) rfl ?_⟩
      (simp only [Tryz.results44, go_sem, Nat.reduceMul, Nat.reduceLeDiff, Nat.reduceLT, reduceIte, reduceCtorEq, Nat.reduceEqDiff, Nat.reduceSub, Nat.reduceAdd]) <;> rfl
    · have e : nx bs n (p, h) = ((hsX h).tmod n, (p, hs2 h)) := by unfold nx; rw [if_neg h1, if_neg h2]
      rw [e]
      refine ⟨by omega, RetM.one0' (by simp only [Tryz.results44, go_sem, Nat.reduceMul, Nat.reduceLeDiff, Nat.reduceLT, reduceIte, reduceCtorEq, Nat.reduceEqDiff, Nat.reduceSub, Nat.reduceAdd]; rfl) rfl ?_⟩
      (simp only [Tryz.results44, go_sem, Nat.reduceMul, Nat.reduceLeDiff, Nat.reduceLT, reduceIte, reduceCtorEq, Nat.reduceEqDiff, Nat.reduceSub, Nat.reduceAdd]) <;> rfl
/-- A source is made of a code. -/
def hsS (bs : List Int) : Nat → Int
  | 0 => IntKind.u64.wrap (13631 + IntKind.u64.wrap bs.length)
  | i + 1 => IntKind.u64.wrap (IntKind.u64.wrap (IntKind.u64.wrap (hsS bs i * 1099511628211) + IntKind.u64.wrap (bs.getD i 0)) + 197)
def src0 (bs : List Int) : Int × Int := (0, hsS bs bs.length)
theorem src0_at (bs : List Int) : At bs (src0 bs) := ⟨by simp [src0], by simp [src0]⟩
theorem l01From_spec (bs : List Int) (hb : Bytes bs) : SpecM Tryz.prog 23 [.own 0] [.ghost (BY bs)] (.ptr 1 0) [none, some (.cells 74 [.own 0, .v (.int .i64 (src0 bs).1), .v (.int .u64 (src0 bs).2)])] := by
  have h4 := hb.1
  refine SpecM.of_code' T_ok Tryz.func23 rfl Tryz.ntmps23 Tryz.call23 (Nat.le_of_ble_eq_true rfl) (Nat.le_of_ble_eq_true rfl) (Nat.le_of_ble_eq_true rfl) rfl rfl (CodeV_sound T_ok (by kernel_rfl) rfl ?_)
  simp only [Tryz.results23, go_sem, Nat.reduceMul, Nat.reduceLeDiff, Nat.reduceLT, reduceIte, reduceCtorEq, Nat.reduceEqDiff, Nat.reduceSub, Nat.reduceAdd]
  refine HereO.opP T_ok (OpP.lenGhost T_ok rfl rfl rfl rfl) ?_
  simp only [Tryz.results23, go_sem, Nat.reduceMul, Nat.reduceLeDiff, Nat.reduceLT, reduceIte, reduceCtorEq, Nat.reduceEqDiff, Nat.reduceSub, Nat.reduceAdd]
  refine HereO.opP T_ok (OpP.build built_74 rfl rfl rfl rfl) ?_
  simp only [Tryz.results23, go_sem, Nat.reduceMul, Nat.reduceLeDiff, Nat.reduceLT, reduceIte, reduceCtorEq, Nat.reduceEqDiff, Nat.reduceSub, Nat.reduceAdd]
  refine HereO.boxOwn T_ok 210 rfl rfl (by decide) rfl ?_
  simp only [Tryz.results23, go_sem, Nat.reduceMul, Nat.reduceLeDiff, Nat.reduceLT, reduceIte, reduceCtorEq, Nat.reduceEqDiff, Nat.reduceSub, Nat.reduceAdd]
  refine Here.loopV T_ok (κ := Nat) (fun i => i ≤ bs.length) (fun i => bs.length - i) (fun i => [(0, .own 0), (3, .ptr 210 0), (4, .v (.int .i64 i))]) (fun i => [(0, .ghost (BY bs)), (210, .cells 74 [.own 0, .v (.int .i64 0), .v (.int .u64 (hsS bs i))])]) 0 (by simp) (by simp only [Tryz.results23, go_sem, Nat.reduceMul, Nat.reduceLeDiff, Nat.reduceLT, reduceIte, reduceCtorEq, Nat.reduceEqDiff, Nat.reduceSub, Nat.reduceAdd]; simp) (by simp only [Tryz.results23, go_sem, Nat.reduceMul, Nat.reduceLeDiff, Nat.reduceLT, reduceIte, reduceCtorEq, Nat.reduceEqDiff, Nat.reduceSub, Nat.reduceAdd]; rfl) ?_
  intro i hi
  simp only [Tryz.results23, go_sem, Nat.reduceMul, Nat.reduceLeDiff, Nat.reduceLT, reduceIte, reduceCtorEq, Nat.reduceEqDiff, Nat.reduceSub, Nat.reduceAdd]
  refine HereO.opP T_ok (OpP.lenGhost T_ok rfl rfl rfl rfl) ?_
  simp only [Tryz.results23, go_sem, Nat.reduceMul, Nat.reduceLeDiff, Nat.reduceLT, reduceIte, reduceCtorEq, Nat.reduceEqDiff, Nat.reduceSub, Nat.reduceAdd]
  refine ⟨fun h1 => ⟨fun h2 => ?_, fun h2 => absurd (by omega) h2⟩, fun h1 => ?_⟩
  · have hby := hb.2 i (by omega)
    refine Here.drawS T_ok 13 (Nat.le_of_ble_eq_true rfl) mixed_ok (by kernel_rfl) (by kernel_rfl) ?_
    simp only [Tryz.results23, go_sem, Nat.reduceMul, Nat.reduceLeDiff, Nat.reduceLT, reduceIte, reduceCtorEq, Nat.reduceEqDiff, Nat.reduceSub, Nat.reduceAdd]
    refine ⟨_, OpP.indexGhost T_ok rfl rfl rfl rfl rfl (by omega) (by rw [BY_len]; exact h1), ?_⟩
    simp only [Tryz.results23, go_sem, Nat.reduceMul, Nat.reduceLeDiff, Nat.reduceLT, reduceIte, reduceCtorEq, Nat.reduceEqDiff, Nat.reduceSub, Nat.reduceAdd]
    rw [dvBY (k := i) (by omega)]
    simp only [Tryz.results23, go_sem, Nat.reduceMul, Nat.reduceLeDiff, Nat.reduceLT, reduceIte, reduceCtorEq, Nat.reduceEqDiff, Nat.reduceSub, Nat.reduceAdd]
    refine HereO.store T_ok rfl (by simp only [go_sem, Nat.reduceMul, Nat.reduceLeDiff, Nat.reduceLT, reduceIte, reduceCtorEq, Nat.reduceEqDiff, Nat.reduceSub, Nat.reduceAdd] <;> rfl) (by simp only [go_sem, Nat.reduceMul, Nat.reduceLeDiff, Nat.reduceLT, reduceIte, reduceCtorEq, Nat.reduceEqDiff, Nat.reduceSub, Nat.reduceAdd] <;> rfl) rfl (by simp only [go_sem, Nat.reduceMul, Nat.reduceLeDiff, Nat.reduceLT, reduceIte, reduceCtorEq, Nat.reduceEqDiff, Nat.reduceSub, Nat.reduceAdd] <;> rfl) rfl (by first | rfl | (simp only [go_sem, Nat.reduceMul, Nat.reduceLeDiff, Nat.reduceLT, reduceIte, reduceCtorEq, Nat.reduceEqDiff, Nat.reduceSub, Nat.reduceAdd] <;> rfl)) (Nat.le_of_ble_eq_true rfl) ?_
    simp only [Tryz.results23, go_sem, Nat.reduceMul, Nat.reduceLeDiff, Nat.reduceLT, reduceIte, reduceCtorEq, Nat.reduceEqDiff, Nat.reduceSub, Nat.reduceAdd]
    exact ⟨by unfold InR; omega, i + 1, by omega, by omega, by push_cast; rfl, rfl⟩
  · obtain rfl : i = bs.length := by omega
    refine RetM.one1 210 (by decide) (by simp only [Tryz.results23, go_sem, Nat.reduceMul, Nat.reduceLeDiff, Nat.reduceLT, reduceIte, reduceCtorEq, Nat.reduceEqDiff, Nat.reduceSub, Nat.reduceAdd]; rfl) rfl ?_
    (simp only [Tryz.results23, go_sem, Nat.reduceMul, Nat.reduceLeDiff, Nat.reduceLT, reduceIte, reduceCtorEq, Nat.reduceEqDiff, Nat.reduceSub, Nat.reduceAdd]) <;> rfl
/-- One of some numbers. -/
def pk (bs l : List Int) (s : Int × Int) : Int × Int × Int := (l.getD (nx bs l.length s).1.toNat 0, (nx bs l.length s).2)
theorem pk_ok {bs : List Int} (hb : Bytes bs) {l : List Int} (hl : 0 < l.length) {s : Int × Int} (hs : At bs s) : (pk bs l s).1 ∈ l ∧ At bs (pk bs l s).2 := by
  obtain ⟨h1, h2, h3⟩ := nx_ok hb l.length hs
  have hxl : (nx bs l.length s).1.toNat < l.length := by have := h2 (by omega); omega
  refine ⟨?_, h3⟩
  unfold pk
  dsimp only
  rw [List.getD_eq_getElem?_getD, List.getElem?_eq_getElem hxl, Option.getD_some]
  exact List.getElem_mem hxl
theorem l01Pick_spec (bs : List Int) (hb : Bytes bs) (l : List Int) (hl : 0 < l.length ∧ l.length ≤ 1048576) (s : Int × Int) (hs : At bs s) : SpecM Tryz.prog 50 [.ptr 0 0, .rd (I l)] [srcS s, .ghost (BY bs)] (.v (.int .i64 (pk bs l s).1)) [some (srcS (pk bs l s).2), none] := by
  obtain ⟨h1, h2, h3⟩ := nx_ok hb l.length hs
  have h2' := h2 (by omega)
  refine SpecM.of_code' T_ok Tryz.func50 rfl Tryz.ntmps50 Tryz.call50 (Nat.le_of_ble_eq_true rfl) (Nat.le_of_ble_eq_true rfl) (Nat.le_of_ble_eq_true rfl) rfl rfl (CodeV_sound T_ok (by kernel_rfl) rfl ?_)
  simp only [Tryz.results50, go_sem, Nat.reduceMul, Nat.reduceLeDiff, Nat.reduceLT, reduceIte, reduceCtorEq, Nat.reduceEqDiff, Nat.reduceSub, Nat.reduceAdd]
  refine HereO.callM T_ok 21 [0,1] rfl rfl (l01Next_spec bs hb l.length s hs) (by simp only [go_sem, Nat.reduceMul, Nat.reduceLeDiff, Nat.reduceLT, reduceIte, reduceCtorEq, Nat.reduceEqDiff, Nat.reduceSub, Nat.reduceAdd, List.toList_toArray, ↓reduceIte]) rfl (by decide) (by decide) rfl rfl rfl (Nat.le_of_ble_eq_true rfl) ?_
  simp only [Tryz.results50, go_sem, Nat.reduceMul, Nat.reduceLeDiff, Nat.reduceLT, reduceIte, reduceCtorEq, Nat.reduceEqDiff, Nat.reduceSub, Nat.reduceAdd]
  refine ⟨⟨h1, h2'⟩, RetM.one0' (by simp only [Tryz.results50, go_sem, Nat.reduceMul, Nat.reduceLeDiff, Nat.reduceLT, reduceIte, reduceCtorEq, Nat.reduceEqDiff, Nat.reduceSub, Nat.reduceAdd]; rfl) rfl ?_⟩
  (simp only [Tryz.results50, go_sem, Nat.reduceMul, Nat.reduceLeDiff, Nat.reduceLT, reduceIte, reduceCtorEq, Nat.reduceEqDiff, Nat.reduceSub, Nat.reduceAdd]) <;> rfl
def nrr (bs : List Int) (m : Int) (s : Int × Int) : Int × Int × Int :=
  if (nx bs 14 s).1 = 0 then pk bs [-1, m + 1, 1099511627776, -4611686018427387904] (nx bs 14 s).2 else nx bs (m + 1) (nx bs 14 s).2
theorem nrr_ok {bs : List Int} (hb : Bytes bs) {m : Int} (hm : 0 ≤ m ∧ m ≤ 1048576) {s : Int × Int} (hs : At bs s) : InR (nrr bs m s).1 ∧ At bs (nrr bs m s).2 := by
  obtain ⟨h1, h2, h3⟩ := nx_ok hb 14 hs
  unfold nrr
  split
  · obtain ⟨h4, h5⟩ := pk_ok hb (l := [-1, m + 1, 1099511627776, -4611686018427387904]) (by simp) h3
    refine ⟨?_, h5⟩
    simp only [List.mem_cons, List.not_mem_nil, or_false] at h4
    unfold InR
    omega
  · obtain ⟨h4, h5, h6⟩ := nx_ok hb (m + 1) h3
    refine ⟨?_, h6⟩
    have := h5 (by omega)
    unfold InR
    omega
theorem l01Near_spec (bs : List Int) (hb : Bytes bs) (m : Int) (hm : 0 ≤ m ∧ m ≤ 1048576) (s : Int × Int) (hs : At bs s) : SpecM Tryz.prog 25 [.ptr 0 0, .v (.int .i64 m)] [srcS s, .ghost (BY bs)] (.v (.int .i64 (nrr bs m s).1)) [some (srcS (nrr bs m s).2), none] := by
  obtain ⟨h1, h2, h3⟩ := nx_ok hb 14 hs
  refine SpecM.of_code' T_ok Tryz.func25 rfl Tryz.ntmps25 Tryz.call25 (Nat.le_of_ble_eq_true rfl) (Nat.le_of_ble_eq_true rfl) (Nat.le_of_ble_eq_true rfl) rfl rfl (CodeV_sound T_ok (by kernel_rfl) rfl ?_)
  simp only [Tryz.results25, go_sem, Nat.reduceMul, Nat.reduceLeDiff, Nat.reduceLT, reduceIte, reduceCtorEq, Nat.reduceEqDiff, Nat.reduceSub, Nat.reduceAdd]
  refine HereO.callM T_ok 21 [0,1] rfl rfl (l01Next_spec bs hb 14 s hs) (by simp only [go_sem, Nat.reduceMul, Nat.reduceLeDiff, Nat.reduceLT, reduceIte, reduceCtorEq, Nat.reduceEqDiff, Nat.reduceSub, Nat.reduceAdd, List.toList_toArray, ↓reduceIte]) rfl (by decide) (by decide) rfl rfl rfl (Nat.le_of_ble_eq_true rfl) ?_
  simp only [Tryz.results25, go_sem, Nat.reduceMul, Nat.reduceLeDiff, Nat.reduceLT, reduceIte, reduceCtorEq, Nat.reduceEqDiff, Nat.reduceSub, Nat.reduceAdd]
  refine ⟨fun h5 => ⟨by unfold InR; omega, ?_⟩, fun h5 => ⟨by unfold InR; omega, ?_⟩⟩
  · have e : nrr bs m s = pk bs [-1, m + 1, 1099511627776, -4611686018427387904] (nx bs 14 s).2 := by unfold nrr; rw [if_pos h5]
    rw [e]
    refine HereO.buildRow T_ok 60 (I [-1, m + 1, 1099511627776, -4611686018427387904]) rfl rfl rfl (by decide) rfl (by first | rfl | (simp only [go_sem, Nat.reduceMul, Nat.reduceLeDiff, Nat.reduceLT, reduceIte, reduceCtorEq, Nat.reduceEqDiff, Nat.reduceSub, Nat.reduceAdd] <;> rfl)) rfl (by decide) ?_
    simp only [Tryz.results25, go_sem, Nat.reduceMul, Nat.reduceLeDiff, Nat.reduceLT, reduceIte, reduceCtorEq, Nat.reduceEqDiff, Nat.reduceSub, Nat.reduceAdd]
    refine HereO.callM T_ok 22 [0,1] rfl rfl (l01Pick_spec bs hb [-1, m + 1, 1099511627776, -4611686018427387904] ⟨by simp, by simp⟩ _ h3) (by simp only [go_sem, Nat.reduceMul, Nat.reduceLeDiff, Nat.reduceLT, reduceIte, reduceCtorEq, Nat.reduceEqDiff, Nat.reduceSub, Nat.reduceAdd, List.toList_toArray, ↓reduceIte]) rfl (by decide) (by decide) rfl rfl rfl (Nat.le_of_ble_eq_true rfl) ?_
    simp only [Tryz.results25, go_sem, Nat.reduceMul, Nat.reduceLeDiff, Nat.reduceLT, reduceIte, reduceCtorEq, Nat.reduceEqDiff, Nat.reduceSub, Nat.reduceAdd]
    refine RetM.one0' (by simp only [Tryz.results25, go_sem, Nat.reduceMul, Nat.reduceLeDiff, Nat.reduceLT, reduceIte, reduceCtorEq, Nat.reduceEqDiff, Nat.reduceSub, Nat.reduceAdd]; rfl) rfl ?_
    (simp only [Tryz.results25, go_sem, Nat.reduceMul, Nat.reduceLeDiff, Nat.reduceLT, reduceIte, reduceCtorEq, Nat.reduceEqDiff, Nat.reduceSub, Nat.reduceAdd]) <;> rfl
  · have e : nrr bs m s = nx bs (m + 1) (nx bs 14 s).2 := by unfold nrr; rw [if_neg h5]
    rw [e]
    refine HereO.callM T_ok 22 [0,1] rfl rfl (l01Next_spec bs hb (m + 1) _ h3) (by simp only [go_sem, Nat.reduceMul, Nat.reduceLeDiff, Nat.reduceLT, reduceIte, reduceCtorEq, Nat.reduceEqDiff, Nat.reduceSub, Nat.reduceAdd, List.toList_toArray, ↓reduceIte]) rfl (by decide) (by decide) rfl rfl rfl (Nat.le_of_ble_eq_true rfl) ?_
    simp only [Tryz.results25, go_sem, Nat.reduceMul, Nat.reduceLeDiff, Nat.reduceLT, reduceIte, reduceCtorEq, Nat.reduceEqDiff, Nat.reduceSub, Nat.reduceAdd]
    refine RetM.one0' (by simp only [Tryz.results25, go_sem, Nat.reduceMul, Nat.reduceLeDiff, Nat.reduceLT, reduceIte, reduceCtorEq, Nat.reduceEqDiff, Nat.reduceSub, Nat.reduceAdd]; rfl) rfl ?_
    (simp only [Tryz.results25, go_sem, Nat.reduceMul, Nat.reduceLeDiff, Nat.reduceLT, reduceIte, reduceCtorEq, Nat.reduceEqDiff, Nat.reduceSub, Nat.reduceAdd]) <;> rfl
end Go.Proofs.YtcjhojdlfnpgjaaGreatDoor

namespace Go.Proofs.YtcjhojdlfnpgjaaGreatDoor
open Go.RowKit
set_option linter.unusedVariables false
set_option linter.unusedSimpArgs false
set_option maxRecDepth 100000

def PermN (n : Nat) (L : List Int) : Prop := L.length = n ∧ L.Nodup ∧ ∀ x ∈ L, 0 ≤ x ∧ x < n
theorem PermN.ins {n a : Nat} {L : List Int} (h : PermN n L) (ha : a ≤ n) : PermN (n + 1) (L.take a ++ [(n : Int)] ++ L.drop a) := by
  obtain ⟨h1, h2, h3⟩ := h
  have hp : (L.take a ++ [(n : Int)] ++ L.drop a).Perm ((n : Int) :: L) := by
    have : (n : Int) :: L = (n : Int) :: (L.take a ++ L.drop a) := by rw [List.take_append_drop]
    rw [this, List.append_assoc]
    exact List.perm_middle
  refine ⟨by rw [hp.length_eq]; simp [h1], ?_, fun x hx => ?_⟩
  · rw [hp.nodup_iff, List.nodup_cons]
    exact ⟨fun hn => by have := h3 _ hn; omega, h2⟩
  · rcases List.mem_cons.1 (hp.mem_iff.1 hx) with e | e
    · omega
    · have := h3 x e; omega
/-- The order that is drawn, round by round. -/
def drO (bs : List Int) (s : Int × Int) : Nat → List Int × Int × Int
  | 0 => ([], s)
  | i + 1 => ((drO bs s i).1.take (nx bs (i + 1) (drO bs s i).2).1.toNat ++ [(i : Int)] ++ (drO bs s i).1.drop (nx bs (i + 1) (drO bs s i).2).1.toNat, (nx bs (i + 1) (drO bs s i).2).2)
theorem drO_ok {bs : List Int} (hb : Bytes bs) {s : Int × Int} (hs : At bs s) : ∀ i, PermN i (drO bs s i).1 ∧ At bs (drO bs s i).2
  | 0 => ⟨⟨rfl, List.nodup_nil, fun x hx => (List.not_mem_nil hx).elim⟩, hs⟩
  | i + 1 => by
    obtain ⟨h1, h2⟩ := drO_ok hb hs i
    obtain ⟨h3, h4, h5⟩ := nx_ok hb (i + 1) h2
    have := h4 (by omega)
    exact ⟨h1.ins (by omega), h5⟩
theorem l01DrawOrder_spec (bs : List Int) (hb : Bytes bs) (n : Nat) (hn : n ≤ 1048576) (s : Int × Int) (hs : At bs s) : SpecM Tryz.prog 89 [.ptr 0 0, .v (.int .i64 n)] [srcS s, .ghost (BY bs)] (.own 2) [some (srcS (drO bs s n).2), none, some (.row 2 (I (drO bs s n).1))] := by
  refine SpecM.of_code' T_ok Tryz.func89 rfl Tryz.ntmps89 Tryz.call89 (Nat.le_of_ble_eq_true rfl) (Nat.le_of_ble_eq_true rfl) (Nat.le_of_ble_eq_true rfl) rfl rfl (CodeV_sound T_ok (by kernel_rfl) rfl ?_)
  simp only [Tryz.results89, go_sem, Nat.reduceMul, Nat.reduceLeDiff, Nat.reduceLT, reduceIte, reduceCtorEq, Nat.reduceEqDiff, Nat.reduceSub, Nat.reduceAdd]
  refine HereO.buildRow T_ok 1336 (I []) rfl rfl rfl (by decide) rfl (by first | rfl | (simp only [go_sem, Nat.reduceMul, Nat.reduceLeDiff, Nat.reduceLT, reduceIte, reduceCtorEq, Nat.reduceEqDiff, Nat.reduceSub, Nat.reduceAdd] <;> rfl)) rfl (by decide) ?_
  simp only [Tryz.results89, go_sem, Nat.reduceMul, Nat.reduceLeDiff, Nat.reduceLT, reduceIte, reduceCtorEq, Nat.reduceEqDiff, Nat.reduceSub, Nat.reduceAdd]
  refine Here.loopV T_ok (κ := Nat) (fun i => i ≤ n) (fun i => n - i) (fun i => [(0, .ptr 0 0), (1, .v (.int .i64 n)), (5, .own 1336), (6, .v (.int .i64 i))]) (fun i => [(0, srcS (drO bs s i).2), (1, .ghost (BY bs)), (1336, .row 2 (I (drO bs s i).1))]) 0 (by simp) (by simp only [Tryz.results89, go_sem, Nat.reduceMul, Nat.reduceLeDiff, Nat.reduceLT, reduceIte, reduceCtorEq, Nat.reduceEqDiff, Nat.reduceSub, Nat.reduceAdd]; simp) (by (simp only [Tryz.results89, go_sem, Nat.reduceMul, Nat.reduceLeDiff, Nat.reduceLT, reduceIte, reduceCtorEq, Nat.reduceEqDiff, Nat.reduceSub, Nat.reduceAdd]) <;> exact ⟨rfl, rfl⟩) ?_
  intro i h1
  obtain ⟨h2, h3⟩ := drO_ok hb hs i
  obtain ⟨h5, h6, _⟩ := nx_ok hb (i + 1) h3
  have e1 : drO bs s (i + 1) = ((drO bs s i).1.take (nx bs (i + 1) (drO bs s i).2).1.toNat ++ [(i : Int)] ++ (drO bs s i).1.drop (nx bs (i + 1) (drO bs s i).2).1.toNat, (nx bs (i + 1) (drO bs s i).2).2) := rfl
  have hc := l01Next_spec bs hb (i + 1) (drO bs s i).2 h3
  revert e1 h2 h5 h6 hc
  generalize nx bs (i + 1) (drO bs s i).2 = y
  obtain ⟨x, s'⟩ := y
  generalize hLe : (drO bs s i).1 = L
  intro h2 h5 h6 e1 hc
  dsimp only at e1 h5 h6 hc
  obtain ⟨a, rfl⟩ := Int.eq_ofNat_of_zero_le h5
  have hai : a ≤ i := by have := h6 (by omega); omega
  have hLl := h2.1
  simp only [Tryz.results89, go_sem, Nat.reduceMul, Nat.reduceLeDiff, Nat.reduceLT, reduceIte, reduceCtorEq, Nat.reduceEqDiff, Nat.reduceSub, Nat.reduceAdd]
  refine ⟨fun h4 => ⟨by unfold InR; omega, ?_⟩, fun h4 => ?_⟩
  · refine HereO.conv (Conv.freeze 5 (id := 1336) (e := 2) (vs := I L) rfl rfl) ?_
    refine HereO.callM T_ok 20 [0,1] rfl rfl (hc) (by simp only [go_sem, Nat.reduceMul, Nat.reduceLeDiff, Nat.reduceLT, reduceIte, reduceCtorEq, Nat.reduceEqDiff, Nat.reduceSub, Nat.reduceAdd, List.toList_toArray, ↓reduceIte]) rfl (by decide) (by decide) rfl rfl rfl (Nat.le_of_ble_eq_true rfl) ?_
    simp only [Tryz.results89, go_sem, Nat.reduceMul, Nat.reduceLeDiff, Nat.reduceLT, reduceIte, reduceCtorEq, Nat.reduceEqDiff, Nat.reduceSub, Nat.reduceAdd]
    refine Here.drawC T_ok [.f, .f, .f, .c, .f, .f, .c, .f, .f, .f, .c, .p] [5, 6, 7] [1336, 1337, 1338, 1339, 1340, 1341, 1342, 1343, 1344, 1345, 1346, 1347, 1348, 1349, 1350, 1351] [] (Nat.le_of_ble_eq_true rfl) mixed_ok (by kernel_rfl) (by kernel_rfl) (by kernel_rfl) (by simp only [List.mem_cons, List.not_mem_nil, or_false, forall_eq_or_imp, forall_eq, go_sem, Nat.reduceMul, Nat.reduceLeDiff, Nat.reduceLT, reduceIte, reduceCtorEq, Nat.reduceEqDiff, Nat.reduceSub, Nat.reduceAdd] <;> first | exact calm_ptr_ne rfl | exact calm_ne rfl | exact ⟨calm_ptr_ne rfl, calm_ptr_ne rfl⟩ | exact ⟨calm_ptr_ne rfl, calm_ptr_ne rfl, calm_ptr_ne rfl⟩ | exact ⟨calm_ptr_ne rfl, calm_knot (by simp only [go_sem, Nat.reduceMul, Nat.reduceLeDiff, Nat.reduceLT, reduceIte, reduceCtorEq, Nat.reduceEqDiff, Nat.reduceSub, Nat.reduceAdd] <;> exact calm_ptr_ne rfl)⟩ | ((repeat' apply And.intro) <;> first | exact calm_ptr_ne rfl | exact calm_ne rfl)) ?_
    simp only [Tryz.results89, go_sem, Nat.reduceMul, Nat.reduceLeDiff, Nat.reduceLT, reduceIte, reduceCtorEq, Nat.reduceEqDiff, Nat.reduceSub, Nat.reduceAdd]
    refine ⟨_, fun _ _ => OpP.slice T_ok (vs := I L) 0 a rfl rfl (by simp only [go_sem, Nat.reduceMul, Nat.reduceLeDiff, Nat.reduceLT, reduceIte, reduceCtorEq, Nat.reduceEqDiff, Nat.reduceSub, Nat.reduceAdd] <;> rfl) rfl ⟨.i64, by simp only [Tryz.results89, go_sem, Nat.reduceMul, Nat.reduceLeDiff, Nat.reduceLT, reduceIte, reduceCtorEq, Nat.reduceEqDiff, Nat.reduceSub, Nat.reduceAdd]⟩ (by omega) (by rw [I_len]; omega), (by simp only [go_sem, Nat.reduceMul, Nat.reduceLeDiff, Nat.reduceLT, reduceIte, reduceCtorEq, Nat.reduceEqDiff, Nat.reduceSub, Nat.reduceAdd]), ?_⟩
    simp only [Tryz.results89, go_sem, Nat.reduceMul, Nat.reduceLeDiff, Nat.reduceLT, reduceIte, reduceCtorEq, Nat.reduceEqDiff, Nat.reduceSub, Nat.reduceAdd]
    rw [I_takeN]
    refine HereC.callOwn 21 rfl rfl (ownR_spec (L.take a) (by simp; omega)) (by simp only [go_sem, Nat.reduceMul, Nat.reduceLeDiff, Nat.reduceLT, reduceIte, reduceCtorEq, Nat.reduceEqDiff, Nat.reduceSub, Nat.reduceAdd, List.toList_toArray] <;> first | rfl | exact ⟨rfl, rfl⟩) rfl (by simp) rfl (inK_shift (by decide)) (by first | exact keeps_nil _ _ | (simp only [keeps_cons, keeps_nil', go_sem, Nat.reduceMul, Nat.reduceLeDiff, Nat.reduceLT, reduceIte, reduceCtorEq, Nat.reduceEqDiff, Nat.reduceSub, Nat.reduceAdd] <;> rfl)) ?_
    simp only [Tryz.results89, go_sem, Nat.reduceMul, Nat.reduceLeDiff, Nat.reduceLT, reduceIte, reduceCtorEq, Nat.reduceEqDiff, Nat.reduceSub, Nat.reduceAdd]
    refine ⟨_, fun _ _ => OpP.buildRd T_ok (I [(i : Int)]) rfl rfl rfl (by decide) rfl (by simp only [go_sem, Nat.reduceMul, Nat.reduceLeDiff, Nat.reduceLT, reduceIte, reduceCtorEq, Nat.reduceEqDiff, Nat.reduceSub, Nat.reduceAdd] <;> rfl) rfl, (by simp only [go_sem, Nat.reduceMul, Nat.reduceLeDiff, Nat.reduceLT, reduceIte, reduceCtorEq, Nat.reduceEqDiff, Nat.reduceSub, Nat.reduceAdd]), ?_⟩
    simp only [Tryz.results89, go_sem, Nat.reduceMul, Nat.reduceLeDiff, Nat.reduceLT, reduceIte, reduceCtorEq, Nat.reduceEqDiff, Nat.reduceSub, Nat.reduceAdd]
    refine HereC.append T_ok (I [(i : Int)]) rfl rfl (by decide) (by simp only [go_sem, Nat.reduceMul, Nat.reduceLeDiff, Nat.reduceLT, reduceIte, reduceCtorEq, Nat.reduceEqDiff, Nat.reduceSub, Nat.reduceAdd] <;> rfl) (by decide) (by simp only [go_sem, Nat.reduceMul, Nat.reduceLeDiff, Nat.reduceLT, reduceIte, reduceCtorEq, Nat.reduceEqDiff, Nat.reduceSub, Nat.reduceAdd] <;> rfl) (by simp only [go_sem, Nat.reduceMul, Nat.reduceLeDiff, Nat.reduceLT, reduceIte, reduceCtorEq, Nat.reduceEqDiff, Nat.reduceSub, Nat.reduceAdd] <;> rfl) (I_one _) (by rw [I_len, I_len]; simp; omega) rfl (keeps_nil _ _) ?_
    simp only [Tryz.results89, go_sem, Nat.reduceMul, Nat.reduceLeDiff, Nat.reduceLT, reduceIte, reduceCtorEq, Nat.reduceEqDiff, Nat.reduceSub, Nat.reduceAdd]
    refine ⟨_, fun _ _ => OpP.slice T_ok (vs := I L) a L.length rfl rfl (by simp only [go_sem, Nat.reduceMul, Nat.reduceLeDiff, Nat.reduceLT, reduceIte, reduceCtorEq, Nat.reduceEqDiff, Nat.reduceSub, Nat.reduceAdd] <;> rfl) ⟨.i64, by simp only [Tryz.results89, go_sem, Nat.reduceMul, Nat.reduceLeDiff, Nat.reduceLT, reduceIte, reduceCtorEq, Nat.reduceEqDiff, Nat.reduceSub, Nat.reduceAdd]⟩ (I_len L).symm (by omega) (by rw [I_len]; exact Nat.le_refl _), (by simp only [go_sem, Nat.reduceMul, Nat.reduceLeDiff, Nat.reduceLT, reduceIte, reduceCtorEq, Nat.reduceEqDiff, Nat.reduceSub, Nat.reduceAdd]), ?_⟩
    simp only [Tryz.results89, go_sem, Nat.reduceMul, Nat.reduceLeDiff, Nat.reduceLT, reduceIte, reduceCtorEq, Nat.reduceEqDiff, Nat.reduceSub, Nat.reduceAdd]
    have hdrop : (List.take L.length (I L)).drop a = I (L.drop a) := by rw [List.take_of_length_le (by rw [I_len]; exact Nat.le_refl _)]; simp [I, List.map_drop]
    rw [hdrop]
    refine HereC.append T_ok (I (L.drop a)) rfl rfl (by decide) (by simp only [go_sem, Nat.reduceMul, Nat.reduceLeDiff, Nat.reduceLT, reduceIte, reduceCtorEq, Nat.reduceEqDiff, Nat.reduceSub, Nat.reduceAdd] <;> rfl) (by decide) (by simp only [go_sem, Nat.reduceMul, Nat.reduceLeDiff, Nat.reduceLT, reduceIte, reduceCtorEq, Nat.reduceEqDiff, Nat.reduceSub, Nat.reduceAdd] <;> rfl) (by simp only [go_sem, Nat.reduceMul, Nat.reduceLeDiff, Nat.reduceLT, reduceIte, reduceCtorEq, Nat.reduceEqDiff, Nat.reduceSub, Nat.reduceAdd] <;> rfl) (I_one _) (by simp only [List.length_append, I_len, List.length_take, List.length_drop, List.length_cons, List.length_nil]; omega) rfl (keeps_nil _ _) ?_
    simp only [Tryz.results89, go_sem, Nat.reduceMul, Nat.reduceLeDiff, Nat.reduceLT, reduceIte, reduceCtorEq, Nat.reduceEqDiff, Nat.reduceSub, Nat.reduceAdd]
    have hfin : I (L.take a) ++ I [(i : Int)] ++ I (L.drop a) = I (L.take a ++ [(i : Int)] ++ L.drop a) := by simp [I]
    refine ⟨by unfold InR; omega, i + 1, by omega, by omega, by push_cast; rfl, ?_, ?_⟩
    · rw [e1]; rfl
    · rw [e1, hfin]; rfl
  · obtain rfl : i = n := by omega
    refine RetM.two 1336 (by decide) (by simp only [Tryz.results89, go_sem, Nat.reduceMul, Nat.reduceLeDiff, Nat.reduceLT, reduceIte, reduceCtorEq, Nat.reduceEqDiff, Nat.reduceSub, Nat.reduceAdd]; rfl) rfl ?_ ?_
    · (simp only [Tryz.results89, go_sem, Nat.reduceMul, Nat.reduceLeDiff, Nat.reduceLT, reduceIte, reduceCtorEq, Nat.reduceEqDiff, Nat.reduceSub, Nat.reduceAdd]) <;> rfl
    · simp only [Tryz.results89, go_sem, Nat.reduceMul, Nat.reduceLeDiff, Nat.reduceLT, reduceIte, reduceCtorEq, Nat.reduceEqDiff, Nat.reduceSub, Nat.reduceAdd]
      rw [hLe]
/-- Numbers from 0 to n - 1, none twice, 0 first. -/
theorem perm0_of {n : Nat} {L : List Int} (h1 : 1 ≤ n) (h : PermN (n - 1) L) : Perm0 n ([0] ++ L.map (· + 1)) := by
  obtain ⟨h2, h3, h4⟩ := h
  have hg : ∀ j, j < n - 1 → ([0] ++ L.map (· + 1) : List Int).getD (j + 1) 0 = L.getD j 0 + 1 := fun j hj => by
    simp [List.getElem?_map, List.getD_eq_getElem?_getD, List.getElem?_eq_getElem (show j < L.length by omega)]
  have h00 : ([0] ++ L.map (· + 1) : List Int).getD 0 0 = 0 := by simp
  have hm : ∀ j, j < n - 1 → 0 ≤ L.getD j 0 ∧ L.getD j 0 < (n - 1 : Nat) := fun j hj => by
    rw [List.getD_eq_getElem?_getD, List.getElem?_eq_getElem (by omega), Option.getD_some]
    exact h4 _ (List.getElem_mem _)
  refine ⟨by simp; omega, fun j hj => ?_, fun i j hi hj e => ?_, by simp⟩
  · simp only [List.length_append, List.length_map, List.length_cons, List.length_nil] at hj
    cases j with
    | zero => simp; omega
    | succ j => rw [hg j (by omega)]; have := hm j (by omega); omega
  · cases i with
    | zero => cases j with
      | zero => rfl
      | succ j =>
        rw [hg j (by omega)] at e
        have := hm j (by omega)
        rw [h00] at e
        omega
    | succ i => cases j with
      | zero =>
        rw [hg i (by omega)] at e
        have := hm i (by omega)
        rw [h00] at e
        omega
      | succ j =>
        rw [hg i (by omega), hg j (by omega)] at e
        have e2 : L.getD i 0 = L.getD j 0 := by omega
        rw [List.getD_eq_getElem?_getD, List.getD_eq_getElem?_getD, List.getElem?_eq_getElem (by omega), List.getElem?_eq_getElem (by omega), Option.getD_some, Option.getD_some] at e2
        have := (List.getElem_inj h3).1 e2
        omega
def drN (bs : List Int) (s : Int × Int) (n : Nat) : List Int × Int × Int := ([0] ++ (drO bs s (n - 1)).1.map (· + 1), (drO bs s (n - 1)).2)
theorem drN_ok {bs : List Int} (hb : Bytes bs) {s : Int × Int} (hs : At bs s) {n : Nat} (h1 : 1 ≤ n) : Perm0 n (drN bs s n).1 ∧ At bs (drN bs s n).2 := by
  obtain ⟨h2, h3⟩ := drO_ok hb hs (n - 1)
  exact ⟨perm0_of h1 h2, h3⟩
theorem l01DrawNumbers_spec (bs : List Int) (hb : Bytes bs) (n : Nat) (h1 : 1 ≤ n) (hn : n ≤ 1048576) (s : Int × Int) (hs : At bs s) : SpecM Tryz.prog 75 [.ptr 0 0, .v (.int .i64 n)] [srcS s, .ghost (BY bs)] (.own 2) [some (srcS (drN bs s n).2), none, some (.row 2 (I (drN bs s n).1))] := by
  have hc := l01DrawOrder_spec bs hb (n - 1) (by omega) s hs
  rw [show ((n - 1 : Nat) : Int) = (n : Int) - 1 by omega] at hc
  obtain ⟨h2, h3⟩ := drO_ok hb hs (n - 1)
  have e1 : drN bs s n = ([0] ++ (drO bs s (n - 1)).1.map (· + 1), (drO bs s (n - 1)).2) := rfl
  rw [e1]
  clear e1
  revert h2 hc
  generalize drO bs s (n - 1) = y
  obtain ⟨L, s'⟩ := y
  intro hc h2
  dsimp only at h2 hc ⊢
  have hLl := h2.1
  refine SpecM.of_code' T_ok Tryz.func75 rfl Tryz.ntmps75 Tryz.call75 (Nat.le_of_ble_eq_true rfl) (Nat.le_of_ble_eq_true rfl) (Nat.le_of_ble_eq_true rfl) rfl rfl (CodeV_sound T_ok (by kernel_rfl) rfl ?_)
  simp only [Tryz.results75, go_sem, Nat.reduceMul, Nat.reduceLeDiff, Nat.reduceLT, reduceIte, reduceCtorEq, Nat.reduceEqDiff, Nat.reduceSub, Nat.reduceAdd]
  refine ⟨by unfold InR; omega, ?_⟩
  refine HereO.callM T_ok 21 [0,1] rfl rfl (hc) (by simp only [go_sem, Nat.reduceMul, Nat.reduceLeDiff, Nat.reduceLT, reduceIte, reduceCtorEq, Nat.reduceEqDiff, Nat.reduceSub, Nat.reduceAdd, List.toList_toArray, ↓reduceIte]) rfl (by decide) (by decide) rfl rfl rfl (Nat.le_of_ble_eq_true rfl) ?_
  simp only [Tryz.results75, go_sem, Nat.reduceMul, Nat.reduceLeDiff, Nat.reduceLT, reduceIte, reduceCtorEq, Nat.reduceEqDiff, Nat.reduceSub, Nat.reduceAdd]
  refine HereO.buildRow T_ok 120 (I [0]) rfl rfl rfl (by decide) rfl (by first | rfl | (simp only [go_sem, Nat.reduceMul, Nat.reduceLeDiff, Nat.reduceLT, reduceIte, reduceCtorEq, Nat.reduceEqDiff, Nat.reduceSub, Nat.reduceAdd] <;> rfl)) rfl (by decide) ?_
  simp only [Tryz.results75, go_sem, Nat.reduceMul, Nat.reduceLeDiff, Nat.reduceLT, reduceIte, reduceCtorEq, Nat.reduceEqDiff, Nat.reduceSub, Nat.reduceAdd]
  refine Here.loopV T_ok (κ := Nat) (fun i => i ≤ n - 1) (fun i => n - 1 - i) (fun i => [(5, .own 1338), (6, .own 120), (7, .v (.int .i64 i))]) (fun i => [(0, srcS s'), (1338, .row 2 (I L)), (120, .row 2 (I ([0] ++ (L.take i).map (· + 1))))]) 0 (by omega) (by simp only [Tryz.results75, go_sem, Nat.reduceMul, Nat.reduceLeDiff, Nat.reduceLT, reduceIte, reduceCtorEq, Nat.reduceEqDiff, Nat.reduceSub, Nat.reduceAdd]; simp) (by (simp only [Tryz.results75, go_sem, Nat.reduceMul, Nat.reduceLeDiff, Nat.reduceLT, reduceIte, reduceCtorEq, Nat.reduceEqDiff, Nat.reduceSub, Nat.reduceAdd]) <;> rfl) ?_
  intro i hi
  simp only [Tryz.results75, go_sem, Nat.reduceMul, Nat.reduceLeDiff, Nat.reduceLT, reduceIte, reduceCtorEq, Nat.reduceEqDiff, Nat.reduceSub, Nat.reduceAdd]
  refine ⟨fun h4 => ?_, fun h4 => ?_⟩
  · have hLi : 0 ≤ L.getD i 0 ∧ L.getD i 0 < (n - 1 : Nat) := by
      rw [List.getD_eq_getElem?_getD, List.getElem?_eq_getElem (by omega), Option.getD_some]
      exact h2.2.2 _ (List.getElem_mem _)
    have ht : L.take (i + 1) = L.take i ++ [L.getD i 0] := by
      rw [List.take_succ_eq_append_getElem (by omega), List.getD_eq_getElem?_getD, List.getElem?_eq_getElem (by omega), Option.getD_some]
    repeat (refine ⟨by first | omega | (unfold InR; omega) | exact ⟨by omega, by omega⟩, ?_⟩)
    refine HereO.buildRow T_ok 61 (I [L.getD i 0 + 1]) rfl rfl rfl (by decide) rfl (by first | rfl | (simp only [go_sem, Nat.reduceMul, Nat.reduceLeDiff, Nat.reduceLT, reduceIte, reduceCtorEq, Nat.reduceEqDiff, Nat.reduceSub, Nat.reduceAdd] <;> rfl)) rfl (by decide) ?_
    simp only [Tryz.results75, go_sem, Nat.reduceMul, Nat.reduceLeDiff, Nat.reduceLT, reduceIte, reduceCtorEq, Nat.reduceEqDiff, Nat.reduceSub, Nat.reduceAdd]
    refine HereO.append T_ok (I [L.getD i 0 + 1]) rfl rfl (by decide) (by simp only [go_sem, Nat.reduceMul, Nat.reduceLeDiff, Nat.reduceLT, reduceIte, reduceCtorEq, Nat.reduceEqDiff, Nat.reduceSub, Nat.reduceAdd] <;> rfl) (by decide) (by simp only [go_sem, Nat.reduceMul, Nat.reduceLeDiff, Nat.reduceLT, reduceIte, reduceCtorEq, Nat.reduceEqDiff, Nat.reduceSub, Nat.reduceAdd] <;> rfl) (by simp only [go_sem, Nat.reduceMul, Nat.reduceLeDiff, Nat.reduceLT, reduceIte, reduceCtorEq, Nat.reduceEqDiff, Nat.reduceSub, Nat.reduceAdd] <;> rfl) (.own 61 _ _ (by decide) (by simp only [go_sem, Nat.reduceMul, Nat.reduceLeDiff, Nat.reduceLT, reduceIte, reduceCtorEq, Nat.reduceEqDiff, Nat.reduceSub, Nat.reduceAdd] <;> rfl)) (I_one _) (by simp only [I_len, List.length_cons, List.length_map, List.length_take, List.length_nil]; omega) ?_
    simp only [Tryz.results75, go_sem, Nat.reduceMul, Nat.reduceLeDiff, Nat.reduceLT, reduceIte, reduceCtorEq, Nat.reduceEqDiff, Nat.reduceSub, Nat.reduceAdd]
    refine ⟨by unfold InR; omega, i + 1, by omega, by omega, by push_cast; rfl, ?_⟩
    rw [ht]
    simp [I]
  · obtain rfl : i = n - 1 := by omega
    refine RetM.two 120 (by decide) (by simp only [Tryz.results75, go_sem, Nat.reduceMul, Nat.reduceLeDiff, Nat.reduceLT, reduceIte, reduceCtorEq, Nat.reduceEqDiff, Nat.reduceSub, Nat.reduceAdd]; rfl) rfl ?_ ?_
    · (simp only [Tryz.results75, go_sem, Nat.reduceMul, Nat.reduceLeDiff, Nat.reduceLT, reduceIte, reduceCtorEq, Nat.reduceEqDiff, Nat.reduceSub, Nat.reduceAdd]) <;> rfl
    · simp only [Tryz.results75, go_sem, Nat.reduceMul, Nat.reduceLeDiff, Nat.reduceLT, reduceIte, reduceCtorEq, Nat.reduceEqDiff, Nat.reduceSub, Nat.reduceAdd]
      rw [List.take_of_length_le (by omega)]
end Go.Proofs.YtcjhojdlfnpgjaaGreatDoor
