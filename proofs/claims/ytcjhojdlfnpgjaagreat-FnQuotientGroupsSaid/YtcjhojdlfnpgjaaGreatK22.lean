/- What the arguments of a law are: groups, modules, lists, numbers and texts that are only read; Contracts: NamedGroup. -/
import Derived.Test.YtcjhojdlfnpgjaaGreatK10
import Derived.Test.YtcjhojdlfnpgjaaGreatK08
import Derived.ProofKit
import Derived.OpenShut
import Derived.ShutString
import Derived.ChangeOld
import Derived.SizedLaws
import Derived.ChangeSame
import Derived.Deep.Matrix
import Derived.Test.YtcjhojdlfnpgjaaGreatRows
import Derived.Test.YtcjhojdlfnpgjaaGreatK21
import Derived.Test.YtcjhojdlfnpgjaaGreatK17
set_option linter.unusedVariables false
set_option linter.unusedSimpArgs false
set_option maxRecDepth 100000
namespace Go.Proofs.YtcjhojdlfnpgjaaGreat
open Go.RowKit Go.ChangeShapes Go.WideShapes Go.ChangeAt
def Short (l : List Int) : Prop := (l.length : Int) ≤ 9223372036854775807
def Shorts (t : List (List Int)) : Prop := (t.length : Int) ≤ 9223372036854775807 ∧ ∀ a, a < t.length → ((t.getD a []).length : Int) ≤ 9223372036854775807
section
variable {H : Type} {enc : TypeId × Value → H} {W : World} {base : Nat} {held : Bool}
theorem RS_nil : RS noF W [] (.slice none 0 0) := ⟨none, 0, rfl, Nat.le_refl _, by simp, fun h => by simp at h⟩
theorem TrodAll_stays {W' : World} (hb : Below W.heap.size W W') : ∀ {ts : List TypeId} {vs : List Value} {ds : List (DataW H)} {ps : List MemPlace}, DataW.TrodAll enc Tryz.prog W 0 (fun _ => true) true ts vs ds ps →
    (∀ t ∈ ts, Tryz.prog.readableRec t = true ∧ t < Tryz.prog.types.size) → (∀ x ∈ ps, x.block < W.heap.size) → DataW.TrodAll enc Tryz.prog W' 0 (fun b => decide (b < W.heap.size)) true ts vs ds ps
  | [], [], [], _, h, _, _ => h
  | t :: ts, v :: vs, d :: ds, ps, ⟨p, q, h1, h2, h3⟩, ht, hlt => by
    subst h3
    exact ⟨p, q, Below.trod (by kernel_rfl) (ht t (by simp)).1 (ht t (by simp)).2 h1 hb (fun x hx => hlt x (by simp [hx])), TrodAll_stays hb h2 (fun t h => ht t (by simp [h])) (fun x hx => hlt x (by simp [hx])), rfl⟩
  | [], [], _ :: _, _, h, _, _ => h.elim
  | [], _ :: _, _, _, h, _, _ => h.elim
  | _ :: _, [], _, _, h, _, _ => h.elim
  | _ :: _, _ :: _, [], _, h, _, _ => h.elim
theorem law_post {fn : Func} {s : ChangeSpec} {W' : World} {args : Array Value} {ds gs : List (DataW H)} {before : List MemPlace} (hvars : s.vars = []) (hr : fn.resultTypes = #[4]) (hts : ∀ t ∈ fn.params.toList, Tryz.prog.readableRec t = true ∧ t < Tryz.prog.types.size)
    (hs : s.fn H (ds ++ gs) = { results := [.lit (.bool true)], args := ds }) (hW : DataW.Whole enc Tryz.prog fn.params.toList s.vars false W args.toList ds gs before) (hb : Below W.heap.size W W') : s.post enc Tryz.prog fn false true false false W args (.bool true) W' := by
  have hW' := hW
  obtain ⟨p, q, hA, hV, rfl, hfz, hnd⟩ := hW
  refine ⟨ds, gs, _, [], p, [], hW', ?_, ?_, ?_, hb.frame _, fun h => by cases h⟩
  · rw [hs, hr]; exact trodAll_mk1 (shut_bool Tryz.underlying4 _)
  · rw [hs]; exact TrodAll_stays hb hA hts fun x hx => hW'.lt x (by simp [hx])
  · rw [hs, hvars]; rfl
theorem law_calls {f : Nat} {args : List LV} {ys : List Value} (h : Spec Tryz.prog f args (.v (.bool true)) []) (hy : LRels noI noF W args ys) : Calls Tryz.prog f (List.toArray ys) W fun e W' => e = .returned (.bool true) ∧ Below W.heap.size W W' := by
  refine (h.run W ys hy).mono ?_
  rintro e W' ⟨v, ι, fp, rfl, hI⟩
  have h0 := hI.fr 0
  simp only [mkF, if_true, LRel] at h0
  subst h0
  exact ⟨rfl, hI.bel.toBelow⟩
theorem own : ownKnob Tryz.prog.godebug = none := by kernel_rfl
end
end Go.Proofs.YtcjhojdlfnpgjaaGreat
namespace Go.Proofs.YtcjhojdlfnpgjaaGreat
open Go.RowKit
def sKlein : ByteArray := ⟨#[107, 108, 101, 105, 110]⟩
def sCube : ByteArray := ⟨#[99, 117, 98, 101]⟩
def sC2c4 : ByteArray := ⟨#[99, 50, 99, 52]⟩
def sS3 : ByteArray := ⟨#[115, 51]⟩
def sDih : ByteArray := ⟨#[100, 105, 104, 101, 100, 114, 97, 108]⟩
def sQua : ByteArray := ⟨#[113, 117, 97, 116, 101, 114, 110, 105, 111, 110]⟩
def xorF (a b : Nat) : Int := ((a ^^^ b : Nat) : Int)
def c24F (a b : Nat) : Int := 4 * ((((a : Int).tdiv 4 + (b : Int).tdiv 4)).tmod 2) + ((a : Int) + (b : Int)).tmod 4
def isCn (s : ByteArray) : Prop := s.size = 2 ∧ byteAt s 0 = 99 ∧ 49 ≤ byteAt s 1 ∧ byteAt s 1 ≤ 56
instance (s : ByteArray) : Decidable (isCn s) := by unfold isCn; infer_instance
def cnN (s : ByteArray) : Nat := (byteAt s 1 - 48).toNat
def nmV (s : ByteArray) : Option (List (List Int)) :=
  if s.toList = sKlein.toList then some (tab xorF 4 4) else
  if s.toList = sCube.toList then some (tab xorF 8 8) else
  if s.toList = sC2c4.toList then some (tab c24F 8 8) else
  if s.toList = sS3.toList then some (tab (twF 3 0) 6 6) else
  if s.toList = sDih.toList then some (tab (twF 4 0) 8 8) else
  if s.toList = sQua.toList then some (tab (twF 4 2) 8 8) else
  if isCn s then some (tab (cycF (cnN s)) (cnN s) (cnN s)) else none
def nmL (s : ByteArray) : List (List Int) := (nmV s).getD []
def nmC (s : ByteArray) : Int := if (nmV s).isSome then 0 else 4
theorem nmV0 {s : ByteArray}  (h : s.toList = sKlein.toList) : nmV s = some (tab xorF 4 4) := by
  unfold nmV
  rw [if_pos h]
theorem nmV1 {s : ByteArray} (h0 : ¬ s.toList = sKlein.toList) (h : s.toList = sCube.toList) : nmV s = some (tab xorF 8 8) := by
  unfold nmV
  rw [if_neg h0, if_pos h]
theorem nmV2 {s : ByteArray} (h0 : ¬ s.toList = sKlein.toList) (h1 : ¬ s.toList = sCube.toList) (h : s.toList = sC2c4.toList) : nmV s = some (tab c24F 8 8) := by
  unfold nmV
  rw [if_neg h0, if_neg h1, if_pos h]
theorem nmV3 {s : ByteArray} (h0 : ¬ s.toList = sKlein.toList) (h1 : ¬ s.toList = sCube.toList) (h2 : ¬ s.toList = sC2c4.toList) (h : s.toList = sS3.toList) : nmV s = some (tab (twF 3 0) 6 6) := by
  unfold nmV
  rw [if_neg h0, if_neg h1, if_neg h2, if_pos h]
theorem nmV4 {s : ByteArray} (h0 : ¬ s.toList = sKlein.toList) (h1 : ¬ s.toList = sCube.toList) (h2 : ¬ s.toList = sC2c4.toList) (h3 : ¬ s.toList = sS3.toList) (h : s.toList = sDih.toList) : nmV s = some (tab (twF 4 0) 8 8) := by
  unfold nmV
  rw [if_neg h0, if_neg h1, if_neg h2, if_neg h3, if_pos h]
theorem nmV5 {s : ByteArray} (h0 : ¬ s.toList = sKlein.toList) (h1 : ¬ s.toList = sCube.toList) (h2 : ¬ s.toList = sC2c4.toList) (h3 : ¬ s.toList = sS3.toList) (h4 : ¬ s.toList = sDih.toList) (h : s.toList = sQua.toList) : nmV s = some (tab (twF 4 2) 8 8) := by
  unfold nmV
  rw [if_neg h0, if_neg h1, if_neg h2, if_neg h3, if_neg h4, if_pos h]
theorem nmV6 {s : ByteArray} (h0 : ¬ s.toList = sKlein.toList) (h1 : ¬ s.toList = sCube.toList) (h2 : ¬ s.toList = sC2c4.toList) (h3 : ¬ s.toList = sS3.toList) (h4 : ¬ s.toList = sDih.toList) (h5 : ¬ s.toList = sQua.toList) : nmV s = if isCn s then some (tab (cycF (cnN s)) (cnN s) (cnN s)) else none := by
  unfold nmV
  rw [if_neg h0, if_neg h1, if_neg h2, if_neg h3, if_neg h4, if_neg h5]
theorem klein_eq : tab (prodF (tab (cycF 2) 2 2) (tab (cycF 2) 2 2)) 4 4 = tab xorF 4 4 := by decide +kernel
theorem cube_eq : tab (prodF (tab (cycF 2) 2 2) (tab xorF 4 4)) 8 8 = tab xorF 8 8 := by decide +kernel
theorem c2c4_eq : tab (prodF (tab (cycF 2) 2 2) (tab (cycF 4) 4 4)) 8 8 = tab c24F 8 8 := by decide +kernel
theorem tw_eq3 : tab (twS 3 0) 6 6 = tab (twF 3 0) 6 6 := by decide +kernel
theorem tw_eq4 : tab (twS 4 0) 8 8 = tab (twF 4 0) 8 8 := by decide +kernel
theorem tw_eq42 : tab (twS 4 2) 8 8 = tab (twF 4 2) 8 8 := by decide +kernel
theorem cyc2_tbl : Tbl (tab (cycF 2) 2 2) := tab_tbl fun a b ha hb => by unfold cycF; have := Nat.mod_lt (a + b) (show 2 > 0 by decide); omega
theorem cyc4_tbl : Tbl (tab (cycF 4) 4 4) := tab_tbl fun a b ha hb => by unfold cycF; have := Nat.mod_lt (a + b) (show 4 > 0 by decide); omega
theorem xor4_tbl : Tbl (tab xorF 4 4) := tab_tbl fun a b ha hb => by
  have : ∀ a : Nat, a < 4 → ∀ b : Nat, b < 4 → 0 ≤ xorF a b ∧ xorF a b ≤ 64 := by decide +kernel
  exact this a ha b hb
theorem cn_le {s : ByteArray} (h : isCn s) : 1 ≤ cnN s ∧ cnN s ≤ 8 := by
  unfold cnN
  have := h.2.2
  omega
theorem u8small : ∀ n : Nat, n ≤ 8 → IntKind.u8.wrap (n : Int) = (n : Int) := by decide +kernel
theorem l01Named_spec (s : ByteArray) (hs : s.size ≤ 1048576) : Spec Tryz.prog 95 [.v (.string s)] (.tup [.agg [.own 0], .v (.bool (nmV s).isSome)]) [.rows 27 2 (II (nmL s))] := by
  refine Spec.of_codeC T_ok Tryz.func95 rfl Tryz.ntmps95 Tryz.call95 (Nat.le_of_ble_eq_true rfl) rfl rfl (CodeV_sound T_ok (by kernel_rfl) rfl ?_)
  refine WW ?_
  refine HereO.alloc T_ok 102 rfl rfl (by decide) ?_
  refine WW ?_
  have c2 : Spec Tryz.prog 110 [.v (.int .i64 2)] (.agg [.own 0]) [.rows 27 2 (II (tab (cycF 2) 2 2))] := l01Cyclic_spec 2 (by decide) (by decide)
  refine HereO.callOwn T_ok 5 rfl rfl (c2) SA rfl (by simp) rfl ?_
  refine WW ?_
  refine HereO.alloc T_ok 104 rfl rfl (by decide) ?_
  refine WW ?_
  refine HereO.storeAgg T_ok rfl SS SS rfl SS SR rfl rfl ?_
  refine WW ?_
  refine ⟨fun h => ?_, fun h0 => ?_⟩
  · have e := nmV0 h
    refine HereO.callOwn T_ok 11 rfl rfl (l01Product_spec (tab (cycF 2) 2 2) (tab (cycF 2) 2 2) (by decide) (by decide) (by decide) cyc2_tbl cyc2_tbl) SA rfl (by simp) rfl ?_
    refine WW ?_
    have q : tab (prodF (tab (cycF 2) 2 2) (tab (cycF 2) 2 2)) ((tab (cycF 2) 2 2).length * (tab (cycF 2) 2 2).length) ((tab (cycF 2) 2 2).length * (tab (cycF 2) 2 2).length) = tab xorF 4 4 := klein_eq
    rw [q]
    refine HereO.storeAgg T_ok rfl SS SS rfl SS SR rfl rfl ?_
    refine WW ?_
    exact RetC.of (RetT.one 1176 SE (by simp only [go_sem, Nat.reduceMul, Nat.reduceLeDiff, Nat.reduceLT, reduceIte, reduceCtorEq, Nat.reduceEqDiff, Nat.reduceSub, Nat.reduceAdd] <;> simp [nmL, e, II]) (by simp only [go_sem, Nat.reduceMul, Nat.reduceLeDiff, Nat.reduceLT, reduceIte, reduceCtorEq, Nat.reduceEqDiff, Nat.reduceSub, Nat.reduceAdd] <;> simp [nmL, e, II]))
  refine ⟨fun h => ?_, fun h1 => ?_⟩
  · have e := nmV1 h0 h
    refine Here.drawS T_ok 4 (Nat.le_of_ble_eq_true rfl) mixed_ok (by kernel_rfl) (by kernel_rfl) ?_
    refine WW ?_
    refine ⟨_, OpP.call' rfl rfl (l01Product_spec (tab (cycF 2) 2 2) (tab (cycF 2) 2 2) (by decide) (by decide) (by decide) cyc2_tbl cyc2_tbl) SA rfl, ?_⟩
    refine WW ?_
    have q : tab (prodF (tab (cycF 2) 2 2) (tab (cycF 2) 2 2)) ((tab (cycF 2) 2 2).length * (tab (cycF 2) 2 2).length) ((tab (cycF 2) 2 2).length * (tab (cycF 2) 2 2).length) = tab xorF 4 4 := klein_eq
    rw [q]
    refine HereO.callOwn T_ok 18 rfl rfl (l01Product_spec (tab (cycF 2) 2 2) (tab xorF 4 4) (by decide) (by decide) (by decide) cyc2_tbl xor4_tbl) SA rfl (by simp) rfl ?_
    refine WW ?_
    have q : tab (prodF (tab (cycF 2) 2 2) (tab xorF 4 4)) ((tab (cycF 2) 2 2).length * (tab xorF 4 4).length) ((tab (cycF 2) 2 2).length * (tab xorF 4 4).length) = tab xorF 8 8 := cube_eq
    rw [q]
    refine HereO.storeAgg T_ok rfl SS SS rfl SS SR rfl rfl ?_
    refine WW ?_
    exact RetC.of (RetT.one 1288 SE (by simp only [go_sem, Nat.reduceMul, Nat.reduceLeDiff, Nat.reduceLT, reduceIte, reduceCtorEq, Nat.reduceEqDiff, Nat.reduceSub, Nat.reduceAdd] <;> simp [nmL, e, II]) (by simp only [go_sem, Nat.reduceMul, Nat.reduceLeDiff, Nat.reduceLT, reduceIte, reduceCtorEq, Nat.reduceEqDiff, Nat.reduceSub, Nat.reduceAdd] <;> simp [nmL, e, II]))
  refine ⟨fun h => ?_, fun h2 => ?_⟩
  · have e := nmV2 h0 h1 h
    refine Here.drawS T_ok 2 (Nat.le_of_ble_eq_true rfl) mixed_ok (by kernel_rfl) (by kernel_rfl) ?_
    refine WW ?_
    refine ⟨_, OpP.call' rfl rfl (l01Cyclic_spec 4 (by decide) (by decide)) SA rfl, ?_⟩
    refine WW ?_
    refine HereO.callOwn T_ok 23 rfl rfl (l01Product_spec (tab (cycF 2) 2 2) (tab (cycF 4) 4 4) (by decide) (by decide) (by decide) cyc2_tbl cyc4_tbl) SA rfl (by simp) rfl ?_
    refine WW ?_
    have q : tab (prodF (tab (cycF 2) 2 2) (tab (cycF 4) 4 4)) ((tab (cycF 2) 2 2).length * (tab (cycF 4) 4 4).length) ((tab (cycF 2) 2 2).length * (tab (cycF 4) 4 4).length) = tab c24F 8 8 := c2c4_eq
    rw [q]
    refine HereO.storeAgg T_ok rfl SS SS rfl SS SR rfl rfl ?_
    refine WW ?_
    exact RetC.of (RetT.one 1368 SE (by simp only [go_sem, Nat.reduceMul, Nat.reduceLeDiff, Nat.reduceLT, reduceIte, reduceCtorEq, Nat.reduceEqDiff, Nat.reduceSub, Nat.reduceAdd] <;> simp [nmL, e, II]) (by simp only [go_sem, Nat.reduceMul, Nat.reduceLeDiff, Nat.reduceLT, reduceIte, reduceCtorEq, Nat.reduceEqDiff, Nat.reduceSub, Nat.reduceAdd] <;> simp [nmL, e, II]))
  refine ⟨fun h => ?_, fun h3 => ?_⟩
  · have e := nmV3 h0 h1 h2 h
    refine HereO.callOwn T_ok 26 rfl rfl (l01Twisted_spec 3 0 (by decide) (by decide) (by decide)) SA rfl (by simp) rfl ?_
    refine WW ?_
    have q : tab (twS 3 0) (2 * 3) (2 * 3) = tab (twF 3 0) 6 6 := tw_eq3
    rw [q]
    refine HereO.storeAgg T_ok rfl SS SS rfl SS SR rfl rfl ?_
    refine WW ?_
    exact RetC.of (RetT.one 1416 SE (by simp only [go_sem, Nat.reduceMul, Nat.reduceLeDiff, Nat.reduceLT, reduceIte, reduceCtorEq, Nat.reduceEqDiff, Nat.reduceSub, Nat.reduceAdd] <;> simp [nmL, e, II]) (by simp only [go_sem, Nat.reduceMul, Nat.reduceLeDiff, Nat.reduceLT, reduceIte, reduceCtorEq, Nat.reduceEqDiff, Nat.reduceSub, Nat.reduceAdd] <;> simp [nmL, e, II]))
  refine ⟨fun h => ?_, fun h4 => ?_⟩
  · have e := nmV4 h0 h1 h2 h3 h
    refine HereO.callOwn T_ok 29 rfl rfl (l01Twisted_spec 4 0 (by decide) (by decide) (by decide)) SA rfl (by simp) rfl ?_
    refine WW ?_
    have q : tab (twS 4 0) (2 * 4) (2 * 4) = tab (twF 4 0) 8 8 := tw_eq4
    rw [q]
    refine HereO.storeAgg T_ok rfl SS SS rfl SS SR rfl rfl ?_
    refine WW ?_
    exact RetC.of (RetT.one 1464 SE (by simp only [go_sem, Nat.reduceMul, Nat.reduceLeDiff, Nat.reduceLT, reduceIte, reduceCtorEq, Nat.reduceEqDiff, Nat.reduceSub, Nat.reduceAdd] <;> simp [nmL, e, II]) (by simp only [go_sem, Nat.reduceMul, Nat.reduceLeDiff, Nat.reduceLT, reduceIte, reduceCtorEq, Nat.reduceEqDiff, Nat.reduceSub, Nat.reduceAdd] <;> simp [nmL, e, II]))
  refine ⟨fun h => ?_, fun h5 => ?_⟩
  · have e := nmV5 h0 h1 h2 h3 h4 h
    refine HereO.callOwn T_ok 32 rfl rfl (l01Twisted_spec 4 2 (by decide) (by decide) (by decide)) SA rfl (by simp) rfl ?_
    refine WW ?_
    have q : tab (twS 4 2) (2 * 4) (2 * 4) = tab (twF 4 2) 8 8 := tw_eq42
    rw [q]
    refine HereO.storeAgg T_ok rfl SS SS rfl SS SR rfl rfl ?_
    refine WW ?_
    exact RetC.of (RetT.one 1512 SE (by simp only [go_sem, Nat.reduceMul, Nat.reduceLeDiff, Nat.reduceLT, reduceIte, reduceCtorEq, Nat.reduceEqDiff, Nat.reduceSub, Nat.reduceAdd] <;> simp [nmL, e, II]) (by simp only [go_sem, Nat.reduceMul, Nat.reduceLeDiff, Nat.reduceLT, reduceIte, reduceCtorEq, Nat.reduceEqDiff, Nat.reduceSub, Nat.reduceAdd] <;> simp [nmL, e, II]))
  have e := nmV6 h0 h1 h2 h3 h4 h5
  refine HereO.opP T_ok (OpP.lenStr Tryz.underlying9 rfl rfl) ?_
  refine WW ?_
  refine ⟨fun h6 => ?_, fun h6 => ?_⟩
  · refine HereO.opP T_ok (OpP.index (i := 0) Tryz.underlying9 rfl rfl rfl (by omega)) ?_
    refine WW ?_
    refine ⟨fun h7 => ?_, fun h7 => ?_⟩
    · refine HereO.opP T_ok (OpP.index (i := 1) Tryz.underlying9 rfl rfl rfl (by omega)) ?_
      refine WW ?_
      refine ⟨fun h8 => ?_, fun h8 => ?_⟩
      · refine HereO.opP T_ok (OpP.index (i := 1) Tryz.underlying9 rfl rfl rfl (by omega)) ?_
        refine WW ?_
        refine ⟨fun h9 => ?_, fun h9 => ?_⟩
        · rw [if_pos ⟨by omega, h7, h8, h9⟩] at e
          have hw : IntKind.u8.wrap (byteAt s 1 - 48) = (cnN s : Int) := by
            rw [show byteAt s 1 - 48 = (cnN s : Int) by unfold cnN; omega]
            exact u8small _ (by unfold cnN; omega)
          have hc := cn_le (s := s) ⟨by omega, h7, h8, h9⟩
          refine HereO.opP T_ok (OpP.index (i := 1) Tryz.underlying9 rfl rfl rfl (by omega)) ?_
          refine WW ?_
          rw [hw]
          refine ⟨by unfold InR; omega, ?_⟩
          refine HereO.callOwn T_ok 55 rfl rfl (l01Cyclic_spec (cnN s) (by omega) (by omega)) SA rfl (by simp) rfl ?_
          refine WW ?_
          refine HereO.storeAgg T_ok rfl SS SS rfl SS SR rfl rfl ?_
          refine WW ?_
          exact RetC.of (RetT.one 1880 SE (by simp only [go_sem, Nat.reduceMul, Nat.reduceLeDiff, Nat.reduceLT, reduceIte, reduceCtorEq, Nat.reduceEqDiff, Nat.reduceSub, Nat.reduceAdd] <;> simp [nmL, e, II]) (by simp only [go_sem, Nat.reduceMul, Nat.reduceLeDiff, Nat.reduceLT, reduceIte, reduceCtorEq, Nat.reduceEqDiff, Nat.reduceSub, Nat.reduceAdd] <;> simp [nmL, e, II]))
        · rw [if_neg (fun q => h9 q.2.2.2)] at e
          refine HereO.opP T_ok (OpP.build built_26 rfl rfl rfl rfl) ?_
          refine WW ?_
          refine HereO.storeAgg T_ok rfl SS SS rfl SS SR rfl rfl ?_
          refine WW ?_
          exact RetC.conv (Conv.nilIn (c := 102) (tt := 26) (l := [.v nilV]) 0 520 (.rows 27 2 []) rfl (by decide) (by decide) (by rfl) rfl) (RetC.of (RetT.one 520 SE (by simp only [go_sem, Nat.reduceMul, Nat.reduceLeDiff, Nat.reduceLT, reduceIte, reduceCtorEq, Nat.reduceEqDiff, Nat.reduceSub, Nat.reduceAdd] <;> simp [nmL, e, II]) (by simp only [go_sem, Nat.reduceMul, Nat.reduceLeDiff, Nat.reduceLT, reduceIte, reduceCtorEq, Nat.reduceEqDiff, Nat.reduceSub, Nat.reduceAdd] <;> simp [nmL, e, II])))
      · rw [if_neg (fun q => h8 q.2.2.1)] at e
        refine HereO.opP T_ok (OpP.build built_26 rfl rfl rfl rfl) ?_
        refine WW ?_
        refine HereO.storeAgg T_ok rfl SS SS rfl SS SR rfl rfl ?_
        refine WW ?_
        exact RetC.conv (Conv.nilIn (c := 102) (tt := 26) (l := [.v nilV]) 0 520 (.rows 27 2 []) rfl (by decide) (by decide) (by rfl) rfl) (RetC.of (RetT.one 520 SE (by simp only [go_sem, Nat.reduceMul, Nat.reduceLeDiff, Nat.reduceLT, reduceIte, reduceCtorEq, Nat.reduceEqDiff, Nat.reduceSub, Nat.reduceAdd] <;> simp [nmL, e, II]) (by simp only [go_sem, Nat.reduceMul, Nat.reduceLeDiff, Nat.reduceLT, reduceIte, reduceCtorEq, Nat.reduceEqDiff, Nat.reduceSub, Nat.reduceAdd] <;> simp [nmL, e, II])))
    · rw [if_neg (fun q => h7 q.2.1)] at e
      refine HereO.opP T_ok (OpP.build built_26 rfl rfl rfl rfl) ?_
      refine WW ?_
      refine HereO.storeAgg T_ok rfl SS SS rfl SS SR rfl rfl ?_
      refine WW ?_
      exact RetC.conv (Conv.nilIn (c := 102) (tt := 26) (l := [.v nilV]) 0 520 (.rows 27 2 []) rfl (by decide) (by decide) (by rfl) rfl) (RetC.of (RetT.one 520 SE (by simp only [go_sem, Nat.reduceMul, Nat.reduceLeDiff, Nat.reduceLT, reduceIte, reduceCtorEq, Nat.reduceEqDiff, Nat.reduceSub, Nat.reduceAdd] <;> simp [nmL, e, II]) (by simp only [go_sem, Nat.reduceMul, Nat.reduceLeDiff, Nat.reduceLT, reduceIte, reduceCtorEq, Nat.reduceEqDiff, Nat.reduceSub, Nat.reduceAdd] <;> simp [nmL, e, II])))
  · rw [if_neg (fun q => h6 (by have := q.1; omega))] at e
    refine HereO.opP T_ok (OpP.build built_26 rfl rfl rfl rfl) ?_
    refine WW ?_
    refine HereO.storeAgg T_ok rfl SS SS rfl SS SR rfl rfl ?_
    refine WW ?_
    exact RetC.conv (Conv.nilIn (c := 102) (tt := 26) (l := [.v nilV]) 0 520 (.rows 27 2 []) rfl (by decide) (by decide) (by rfl) rfl) (RetC.of (RetT.one 520 SE (by simp only [go_sem, Nat.reduceMul, Nat.reduceLeDiff, Nat.reduceLT, reduceIte, reduceCtorEq, Nat.reduceEqDiff, Nat.reduceSub, Nat.reduceAdd] <;> simp [nmL, e, II]) (by simp only [go_sem, Nat.reduceMul, Nat.reduceLeDiff, Nat.reduceLT, reduceIte, reduceCtorEq, Nat.reduceEqDiff, Nat.reduceSub, Nat.reduceAdd] <;> simp [nmL, e, II])))
end Go.Proofs.YtcjhojdlfnpgjaaGreat
