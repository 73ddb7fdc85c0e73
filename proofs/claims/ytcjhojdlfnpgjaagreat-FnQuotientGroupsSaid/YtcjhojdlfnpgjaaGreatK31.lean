/- Plain laws of normal subgroups and of derived ones; The count of the cosets (plain); Contracts: the codes of modules; LeadNumber, NormOf; Contracts: NormOf by the specification, KernelOf; Contracts: fixed numbers and differences; Contracts: FixedNumbers, DifferenceNumbers; Contracts: modules whose units a function tells; DualModule; Contracts: products of three and four, conjugates, DerivedOf. -/
import Derived.Test.YtcjhojdlfnpgjaaGreatK30
import Derived.Test.YtcjhojdlfnpgjaaGreatK16
import Derived.Test.YtcjhojdlfnpgjaaGreatK20
import Derived.Test.YtcjhojdlfnpgjaaGreatK26
set_option linter.unusedVariables false
set_option linter.unusedSimpArgs false
set_option maxRecDepth 100000
namespace Go.Proofs.YtcjhojdlfnpgjaaGreat
section
variable {t : List (List Int)} (hg : Grp t)
include hg
theorem inv2 {a : Nat} (ha : a < t.length) : invN t a < t.length ∧ em t a (invN t a) = 0 ∧ em t (invN t a) a = 0 ∧ invN t (invN t a) = a := by
  obtain ⟨_, h1, h2⟩ := invN_is hg ha
  obtain ⟨d, g1, g2, g3⟩ := em_inv hg ha
  have e := inv_unique hg ha h1 g1 h2 g2
  have h3 : em t (invN t a) a = 0 := by rw [e]; exact g3
  obtain ⟨_, k1, k2⟩ := invN_is hg h1
  exact ⟨h1, h2, h3, inv_unique hg h1 k1 ha k2 h3⟩
theorem pass_of {h : List Int} (H : SubG t h) (hc : ∀ b ∈ h, ∀ a, a < t.length → ((em t (em t a b.toNat) (invN t a) : Nat) : Int) ∈ h) : ∀ b ∈ h, ∀ a, a < t.length → ∃ c ∈ h, em t b.toNat a = em t a c.toNat := by
  intro b hb a ha
  obtain ⟨h1, h2, h3, h4⟩ := inv2 hg ha
  have h5 := hc b hb _ h1
  rw [h4] at h5
  have hbl := H.lt hb
  refine ⟨_, h5, ?_⟩
  rw [Int.toNat_natCast, ← em_assoc hg ha (em_lt hg h1 hbl) ha, ← em_assoc hg ha h1 hbl, h2, em_zl hg hbl]
theorem der_normal {S : List Int} (hS : AreIn t.length S) (hc : ∀ a b, a < t.length → b < t.length → Gen t S (em t (em t (em t a b) (invN t a)) (invN t b))) : ∀ b ∈ genL t S, ∀ a, a < t.length → ((em t (em t a b.toNat) (invN t a) : Nat) : Int) ∈ genL t S := by
  intro b hb a ha
  have hb' := mem_genL.1 hb
  have hbl := gen_lt hg hS hb'.2
  obtain ⟨h1, h2, h3, h4⟩ := inv2 hg ha
  obtain ⟨k1, k2, k3, k4⟩ := inv2 hg hbl
  have hlt := em_lt hg (em_lt hg ha hbl) h1
  rw [mem_genL, Int.toNat_natCast]
  refine ⟨by omega, ?_⟩
  have := gen_mul hg hS (hc a b.toNat ha hbl) hb'.2
  rwa [em_assoc hg hlt k1 hbl, k3, em_zr hg hlt] at this
theorem der_comm {S : List Int} (hS : AreIn t.length S) (hc : ∀ a b, a < t.length → b < t.length → Gen t S (em t (em t (em t a b) (invN t a)) (invN t b))) {x y : Nat} (hx : x < t.length) (hy : y < t.length) : ∃ c ∈ genL t S, em t x y = em t (em t y x) c.toNat := by
  obtain ⟨h1, h2, h3, h4⟩ := inv2 hg hx
  obtain ⟨k1, k2, k3, k4⟩ := inv2 hg hy
  have hq := hc _ _ h1 k1
  rw [h4, k4] at hq
  have hlt := gen_lt hg hS hq
  refine ⟨(em t (em t (em t (invN t x) (invN t y)) x) y : Nat), by rw [mem_genL, Int.toNat_natCast]; exact ⟨by omega, hq⟩, ?_⟩
  have a1 := em_lt hg h1 k1
  rw [Int.toNat_natCast, em_assoc hg a1 hx hy, em_assoc hg hy hx (em_lt hg a1 (em_lt hg hx hy)), ← em_assoc hg hx a1 (em_lt hg hx hy), ← em_assoc hg hx h1 k1, h2, em_zl hg k1, ← em_assoc hg hy k1 (em_lt hg hx hy), k2, em_zl hg (em_lt hg hx hy)]
end
end Go.Proofs.YtcjhojdlfnpgjaaGreat
namespace Go.Proofs.YtcjhojdlfnpgjaaGreat
theorem em_cancelL {t : List (List Int)} (hg : Grp t) {a x y : Nat} (ha : a < t.length) (hx : x < t.length) (hy : y < t.length) (h : em t a x = em t a y) : x = y := by
  obtain ⟨h1, h2, h3, h4⟩ := inv2 hg ha
  have e1 := em_assoc hg h1 ha hx
  have e2 := em_assoc hg h1 ha hy
  rw [h3, em_zl hg hx] at e1
  rw [h3, em_zl hg hy] at e2
  rw [e1, e2, h]
theorem lagrange {t : List (List Int)} (hg : Grp t) {h : List Int} (H : SubG t h) (hnd : h.Nodup) {s : List Int × List Int} (I : CosI t h s t.length) : s.1.length * h.length = t.length := by
  have hp : 0 < h.length := List.length_pos_of_mem H.zero
  have hget : ∀ j, j < h.length → h.getD j 0 ∈ h := fun j hj => getD_mem hj 0
  refine Nat.le_antisymm ?_ ?_
  · apply Classical.byContradiction
    intro hn
    have hq : ∀ y, y ≤ t.length → y / h.length < s.1.length := fun y hy => Nat.div_lt_of_lt_mul (by rw [Nat.mul_comm]; omega)
    have hr : ∀ y, y % h.length < h.length := fun y => Nat.mod_lt _ hp
    obtain ⟨i, j, hij, hj, he⟩ := pigeon t.length (fun y => em t (s.1.getD (y / h.length) 0).toNat (h.getD (y % h.length) 0).toNat) (fun y hy => em_lt hg (I.rep _ (hq y hy)).1 (H.lt (hget _ (hr y))))
    have n1 := I.hit _ (hq i (by omega)) _ (hget _ (hr i))
    have n2 := I.hit _ (hq j hj) _ (hget _ (hr j))
    rw [he, n2] at n1
    have e1 : j / h.length = i / h.length := by omega
    rw [e1] at he
    have e2 := em_cancelL hg (I.rep _ (hq i (by omega))).1 (H.lt (hget _ (hr i))) (H.lt (hget _ (hr j))) he
    have p1 := (areIn_mem H.ar (hget _ (hr i))).1
    have p2 := (areIn_mem H.ar (hget _ (hr j))).1
    have e3 : h.getD (i % h.length) 0 = h.getD (j % h.length) 0 := by omega
    have e4 : i % h.length = j % h.length := by
      rw [List.getD_eq_getElem?_getD, List.getD_eq_getElem?_getD, List.getElem?_eq_getElem (hr i), List.getElem?_eq_getElem (hr j), Option.getD_some, Option.getD_some] at e3
      exact (List.getElem_inj hnd).1 e3
    have d1 := Nat.div_add_mod i h.length
    have d2 := Nat.div_add_mod j h.length
    rw [e1, ← e4] at d2
    omega
  · apply Classical.byContradiction
    intro hn
    have ex : ∀ x, x < t.length → ∃ j b, j < s.1.length ∧ b < h.length ∧ x = em t (s.1.getD j 0).toNat (h.getD b 0).toNat := by
      intro x hx
      obtain ⟨j, hj, _, b, hb, e⟩ := I.mem x hx (I.all x hx)
      obtain ⟨k, hk, rfl⟩ := List.mem_iff_getElem.1 hb
      exact ⟨j, k, hj, hk, by rw [List.getD_eq_getElem?_getD (l := h), List.getElem?_eq_getElem hk, Option.getD_some]; exact e⟩
    have ex2 : ∀ x, ∃ y, x < t.length → y < s.1.length * h.length ∧ x = em t (s.1.getD (y / h.length) 0).toNat (h.getD (y % h.length) 0).toNat := by
      intro x
      by_cases hx : x < t.length
      · obtain ⟨j, b, hj, hb, e⟩ := ex x hx
        refine ⟨j * h.length + b, fun _ => ⟨?_, ?_⟩⟩
        · have := Nat.mul_le_mul_right h.length (show j + 1 ≤ s.1.length by omega)
          rw [Nat.succ_mul] at this
          omega
        · rw [Nat.mul_comm, Nat.mul_add_div hp, Nat.div_eq_of_lt hb, Nat.add_zero, Nat.mul_add_mod, Nat.mod_eq_of_lt hb]
          exact e
      · exact ⟨0, fun q => absurd q hx⟩
    obtain ⟨i, j, hij, hj, he⟩ := pigeon (s.1.length * h.length) (fun x => Classical.choose (ex2 x)) (fun x hx => (Classical.choose_spec (ex2 x) (by omega)).1)
    have a1 := (Classical.choose_spec (ex2 i) (by omega)).2
    have a2 := (Classical.choose_spec (ex2 j) (by omega)).2
    rw [he, ← a2] at a1
    omega
end Go.Proofs.YtcjhojdlfnpgjaaGreat
namespace Go.Proofs.YtcjhojdlfnpgjaaGreat
open Go.RowKit
def MM (ms : List (Int × List Int)) : List (LV × LV) := ms.map fun x => (.v (.int .i64 x.1), .rd (I x.2))
theorem MM_fix : ∀ ms, Fix (flat (MM ms))
  | [] => Fix.nil
  | x :: ms => Fix.cons (Fix.v _) (Fix.cons (Fix.rd _) (MM_fix ms))
theorem MM_b (σ : Nat → Option OC) (ms : List (Int × List Int)) : closeBs σ (flat (MM ms)) = flat (MM ms) := (MM_fix ms).b σ
theorem MM_k (q : Nat → Bool) (ms : List (Int × List Int)) : kills q (flat (MM ms)) = flat (MM ms) := (MM_fix ms).k q
attribute [go_sem] MM_b MM_k
def Mods (t : List (List Int)) (ms : List (Int × List Int)) : Prop := ∀ x ∈ ms, Mod t x.1 x.2
instance (t : List (List Int)) (ms : List (Int × List Int)) : Decidable (Mods t ms) := List.decidableBAll _ _
def codeM (t : List (List Int)) (ms : List (Int × List Int)) : Int := if Grp t ∧ Mods t ms then 0 else 1
def codeL (t : List (List Int)) (m : Int) (l : List Int) (e x : Int) : Int := if codeM t [(m, l)] = 0 then (if (0 ≤ e ∧ e < t.length) ∧ 0 ≤ x ∧ x < m then 0 else 2) else 1
def leadV (t : List (List Int)) (m : Int) (l : List Int) (e x : Int) : Int := if codeL t m l e x = 0 then (l.getD e.toNat 0 * x).tmod m else 0
def normL (l : List Int) : Int := l.foldl (· + ·) 0
def normV (t : List (List Int)) (m : Int) (l : List Int) : Int := if codeM t [(m, l)] = 0 then (normL l).tmod m else 0
end Go.Proofs.YtcjhojdlfnpgjaaGreat
namespace Go.Proofs.YtcjhojdlfnpgjaaGreat
open Go.RowKit
def isOne (l : List Int) (x : Int) : Bool := l.getD x.toNat 0 == 1
def kernL (t : List (List Int)) (m : Int) (l : List Int) : List Int := if codeM t [(m, l)] = 0 then (cnt t.length).filter (isOne l) else []
end Go.Proofs.YtcjhojdlfnpgjaaGreat
namespace Go.Proofs.YtcjhojdlfnpgjaaGreat
open Go.RowKit
def stepN (m : Int) (l : List Int) : Nat := l.foldl (fun d u => Nat.gcd d (u - 1).toNat) m.toNat
def isMul (d : Nat) (x : Int) : Bool := x.toNat % d == 0
end Go.Proofs.YtcjhojdlfnpgjaaGreat
namespace Go.Proofs.YtcjhojdlfnpgjaaGreat
open Go.RowKit
def nofix (m x u : Int) : Bool := (u * x).tmod m != x
def fixL (t : List (List Int)) (m : Int) (l : List Int) : List Int := if codeM t [(m, l)] = 0 then (cnt m.toNat).filter (isMul (m.toNat / stepN m l)) else []
def diffL (t : List (List Int)) (m : Int) (l : List Int) : List Int := if codeM t [(m, l)] = 0 then (cnt m.toNat).filter (isMul (stepN m l)) else []
end Go.Proofs.YtcjhojdlfnpgjaaGreat
namespace Go.Proofs.YtcjhojdlfnpgjaaGreat
open Go.RowKit
theorem l01Inverse_spec (t : List (List Int)) (hg : Grp t) (a : Nat) (ha : a < t.length) : Spec Tryz.prog 81 [.agg [.rds (II t)], .v (.int .i64 a)] (.v (.int .i64 (invN t a))) [] := by
  have h8 := hg.2.1
  have hr := (hg.2.2.1 a ha).1
  obtain ⟨_, hi, hz⟩ := invN_is hg ha
  refine Spec.of_code T_ok Tryz.func81 rfl Tryz.ntmps81 Tryz.call81 (Nat.le_of_ble_eq_true rfl) rfl rfl (CodeV_sound T_ok (by kernel_rfl) rfl ?_)
  refine WW ?_
  refine Here.loopV T_ok (fun k => k ≤ invN t a) (fun k => invN t a + 1 - k) (fun k => [(1, .v (.int .i64 a)), (2, .box [.rds (II t)]), (4, .v (.int .i64 0)), (5, .v (.int .i64 k))]) (fun _ => []) 0 (by simp) (by simp only [go_sem, Nat.reduceMul, Nat.reduceLeDiff, Nat.reduceLT, reduceIte, reduceCtorEq, Nat.reduceEqDiff, Nat.reduceSub, Nat.reduceAdd]; simp) trivial ?_
  intro k hk
  refine WW ?_
  refine HereO.call T_ok rfl rfl (l01N_spec t) SA rfl ?_
  refine WW ?_
  refine ⟨fun h2 => ⟨by omega, by omega, fun h3 => ?_, fun h3 => ?_⟩, fun h2 => by omega⟩
  · have : k = invN t a := inv_unique hg ha (by omega) hi (by unfold em ee; rw [h3]; rfl) hz
    rw [this]
  · have : k ≠ invN t a := fun e => h3 (by
      have := em_ee hg ha hi
      rw [hz] at this
      rw [e]
      exact this)
    exact ⟨by unfold InR; omega, k + 1, by omega, by omega, rfl⟩
def dualU (t : List (List Int)) (l : List Int) (x : Nat) : Int := l.getD (invN t x) 0
def dualM (t : List (List Int)) (m : Int) (l : List Int) : Int := if codeM t [(m, l)] = 0 then m else 0
def dualL (t : List (List Int)) (m : Int) (l : List Int) : List Int := if codeM t [(m, l)] = 0 then upTo (dualU t l) t.length else []
end Go.Proofs.YtcjhojdlfnpgjaaGreat
namespace Go.Proofs.YtcjhojdlfnpgjaaGreat
open Go.RowKit
theorem tm_3 {t : List (List Int)} (hg : Grp t) {a b c : Nat} (ha : a < t.length) (hb : b < t.length) (hc : c < t.length) : tm t [(a : Int), b, c] = (em t (em t a b) c : Nat) := by
  have h0 := (hg.2.2.2 a ha).1.1
  simp only [tm, List.foldl_cons, List.foldl_nil, Int.toNat_zero, Int.toNat_natCast]
  rw [h0, Int.toNat_natCast, em_ee hg ha hb, Int.toNat_natCast, em_ee hg (em_lt hg ha hb) hc]
theorem tm_4 {t : List (List Int)} (hg : Grp t) {a b c d : Nat} (ha : a < t.length) (hb : b < t.length) (hc : c < t.length) (hd : d < t.length) : tm t [(a : Int), b, c, d] = (em t (em t (em t a b) c) d : Nat) := by
  have h0 := (hg.2.2.2 a ha).1.1
  simp only [tm, List.foldl_cons, List.foldl_nil, Int.toNat_zero, Int.toNat_natCast]
  rw [h0, Int.toNat_natCast, em_ee hg ha hb, Int.toNat_natCast, em_ee hg (em_lt hg ha hb) hc, Int.toNat_natCast, em_ee hg (em_lt hg (em_lt hg ha hb) hc) hd]
theorem areIn_nat {n : Nat} {l : List Nat} (h : ∀ x ∈ l, x < n) : AreIn n (l.map fun x : Nat => (x : Int)) := fun j hj => by
  have hj' : j < l.length := by simpa using hj
  have e : (l.map fun x : Nat => (x : Int)).getD j 0 = ((l[j] : Nat) : Int) := by rw [List.getD_eq_getElem?_getD, List.getElem?_eq_getElem hj]; simp
  rw [e]
  have := h _ (List.getElem_mem hj')
  omega
theorem times3_spec (t : List (List Int)) (hg : Grp t) (a b c : Nat) (ha : a < t.length) (hb : b < t.length) (hc : c < t.length) : Spec Tryz.prog 44 [.agg [.rds (II t)], .rd (I [(a : Int), (b : Int), (c : Int)])] (.v (.int .i64 (em t (em t a b) c : Nat))) [] := by
  have := times_spec t [(a : Int), b, c] hg (areIn_nat (n := t.length) (l := [a, b, c]) (by simp; omega)) (by simp)
  rwa [tm_3 hg ha hb hc] at this
theorem times4_spec (t : List (List Int)) (hg : Grp t) (a b c d : Nat) (ha : a < t.length) (hb : b < t.length) (hc : c < t.length) (hd : d < t.length) : Spec Tryz.prog 44 [.agg [.rds (II t)], .rd (I [(a : Int), (b : Int), (c : Int), (d : Int)])] (.v (.int .i64 (em t (em t (em t a b) c) d : Nat))) [] := by
  have := times_spec t [(a : Int), b, c, d] hg (areIn_nat (n := t.length) (l := [a, b, c, d]) (by simp; omega)) (by simp)
  rwa [tm_4 hg ha hb hc hd] at this
def cjN (t : List (List Int)) (c a : Nat) : Nat := em t (em t c a) (invN t c)
theorem cj_lt {t : List (List Int)} (hg : Grp t) {c a : Nat} (hc : c < t.length) (ha : a < t.length) : cjN t c a < t.length := em_lt hg (em_lt hg hc ha) (invN_is hg hc).2.1
theorem conjugate_spec (t : List (List Int)) (hg : Grp t) (c a : Nat) (hc : c < t.length) (ha : a < t.length) : Spec Tryz.prog 88 [.agg [.rds (II t)], .v (.int .i64 c), .v (.int .i64 a)] (.v (.int .i64 (cjN t c a))) [] := by
  refine Spec.of_code T_ok Tryz.func88 rfl Tryz.ntmps88 Tryz.call88 (Nat.le_of_ble_eq_true rfl) rfl rfl (CodeV_sound T_ok (by kernel_rfl) rfl ?_)
  refine WW ?_
  refine Here.draw T_ok mixed_ok (by kernel_rfl) ?_
  refine WW ?_
  refine ⟨_, OpP.call' rfl rfl (inverse_spec t hg c hc) SA rfl, ?_⟩
  refine WW ?_
  refine ⟨_, OpP.buildRd T_ok (I [(c : Int), (a : Int), (invN t c : Int)]) rfl rfl rfl (by decide) rfl SR rfl, ?_⟩
  refine WW ?_
  refine ⟨_, OpP.call' rfl rfl (times3_spec t hg c a (invN t c) hc ha (invN_is hg hc).2.1) SA rfl, ?_⟩
  refine WW ?_
  rfl
theorem l01Conjugate_spec (t : List (List Int)) (hg : Grp t) (a c : Nat) (ha : a < t.length) (hc : c < t.length) : Spec Tryz.prog 80 [.agg [.rds (II t)], .v (.int .i64 a), .v (.int .i64 c)] (.v (.int .i64 (cjN t c a))) [] := by
  have hr : ∀ a, a < t.length → (t.getD a []).length = t.length := fun a ha => (hg.2.2.1 a ha).1
  have he : ∀ a b, a < t.length → b < t.length → (t.getD a []).getD b 0 = em t a b := fun a b ha hb => by have := em_ee hg ha hb; unfold ee at this; exact this
  have h1 := em_lt hg hc ha
  have h2 := (invN_is hg hc).2.1
  refine Spec.of_code T_ok Tryz.func80 rfl Tryz.ntmps80 Tryz.call80 (Nat.le_of_ble_eq_true rfl) rfl rfl (CodeV_sound T_ok (by kernel_rfl) rfl ?_)
  refine WW ?_
  refine Here.draw T_ok mixed_ok (by kernel_rfl) ?_
  refine WW ?_
  rw [he c a hc ha]
  simp only [Int.toNat_natCast]
  rw [hr c hc]
  refine ⟨⟨by omega, by omega⟩, ⟨by omega, by omega⟩, ⟨by omega, by omega⟩, ?_⟩
  refine ⟨_, OpP.call' rfl rfl (l01Inverse_spec t hg c hc) SA rfl, ?_⟩
  refine WW ?_
  rw [hr _ h1, he _ _ h1 h2]
  exact ⟨⟨by omega, by omega⟩, rfl⟩
def comT (t : List (List Int)) (a b : Nat) : Nat := em t (em t (em t a b) (invN t a)) (invN t b)
theorem com_lt {t : List (List Int)} (hg : Grp t) {a b : Nat} (ha : a < t.length) (hb : b < t.length) : comT t a b < t.length := em_lt hg (em_lt hg (em_lt hg ha hb) (invN_is hg ha).2.1) (invN_is hg hb).2.1
def ComP (t : List (List Int)) (a b : Nat) (x : Int) : Prop := ∃ c d, c < t.length ∧ d < t.length ∧ (c < a ∨ c = a ∧ d < b) ∧ x = (comT t c d : Nat)
theorem comP_0 {t : List (List Int)} {x : Int} : ¬ ComP t 0 0 x := by rintro ⟨c, d, _, _, h, _⟩; omega
theorem comP_step {t : List (List Int)} {a b : Nat} (ha : a < t.length) (hb : b < t.length) {x : Int} : ComP t a (b + 1) x ↔ ComP t a b x ∨ x = (comT t a b : Nat) := by
  constructor
  · rintro ⟨c, d, hc, hd, h, rfl⟩
    by_cases e : c = a ∧ d = b
    · rw [e.1, e.2]; exact .inr rfl
    · exact .inl ⟨c, d, hc, hd, by omega, rfl⟩
  · rintro (⟨c, d, hc, hd, h, rfl⟩ | rfl)
    · exact ⟨c, d, hc, hd, by omega, rfl⟩
    · exact ⟨a, b, ha, hb, by omega, rfl⟩
theorem comP_row {t : List (List Int)} {a : Nat} {x : Int} : ComP t a t.length x ↔ ComP t (a + 1) 0 x := by
  constructor
  · rintro ⟨c, d, hc, hd, h, rfl⟩; exact ⟨c, d, hc, hd, by omega, rfl⟩
  · rintro ⟨c, d, hc, hd, h, rfl⟩; exact ⟨c, d, hc, hd, by omega, rfl⟩
open Classical in
noncomputable def comAll (t : List (List Int)) : List Int := (cnt t.length).filter fun x => decide (ComP t t.length 0 x)
theorem mem_comAll {t : List (List Int)} (hg : Grp t) {x : Int} : x ∈ comAll t ↔ ComP t t.length 0 x := by
  unfold comAll
  rw [List.mem_filter, mem_cnt]
  simp only [decide_eq_true_eq]
  constructor
  · rintro ⟨_, h⟩; exact h
  · intro h
    refine ⟨?_, h⟩
    obtain ⟨c, d, hc, hd, _, rfl⟩ := h
    have := com_lt hg hc hd
    omega
theorem comAll_in {t : List (List Int)} (hg : Grp t) : AreIn t.length (comAll t) := fun j hj => by
  obtain ⟨c, d, hc, hd, _, e⟩ := (mem_comAll hg).1 (getD_mem hj 0)
  have := com_lt hg hc hd
  omega
theorem genL_com {t : List (List Int)} (hg : Grp t) {l : List Int} (h : ∀ x, x ∈ l ↔ ComP t t.length 0 x) : genL t l = genL t (comAll t) :=
  genL_congr fun x => ⟨gen_sub fun a ha => (mem_comAll hg).2 ((h a).1 ha), gen_sub fun a ha => (h a).2 ((mem_comAll hg).1 ha)⟩
def ComM (t : List (List Int)) (c a b : Nat) : Prop := c < 2 ^ t.length ∧ ∀ x : Nat, c.testBit x = true ↔ x = 0 ∨ ComP t a b x
theorem comM_0 {t : List (List Int)} (hg : Grp t) : ComM t 1 0 0 := by
  refine ⟨by have := Nat.pow_le_pow_right (n := 2) (by decide) hg.1; omega, fun x => ?_⟩
  rw [show (1 : Nat) = 2 ^ 0 from rfl, Nat.testBit_two_pow, decide_eq_true_iff]
  exact ⟨fun h => .inl h.symm, fun h => h.elim Eq.symm fun h => absurd h comP_0⟩
theorem comM_step {t : List (List Int)} (hg : Grp t) {c a b : Nat} (ha : a < t.length) (hb : b < t.length) (h : ComM t c a b) : ComM t (c ||| 2 ^ comT t a b) a (b + 1) := by
  have hl := com_lt hg ha hb
  refine ⟨Nat.or_lt_two_pow h.1 (Nat.pow_lt_pow_right (by decide) hl), fun x => ?_⟩
  rw [bit_or, Bool.or_eq_true, h.2 x, decide_eq_true_iff, comP_step ha hb]
  constructor
  · rintro ((q | q) | q)
    · exact .inl q
    · exact .inr (.inl q)
    · exact .inr (.inr (by rw [q]))
  · rintro (q | q | q)
    · exact .inl (.inl q)
    · exact .inl (.inr q)
    · exact .inr (by omega)
theorem comM_row {t : List (List Int)} {c a : Nat} (h : ComM t c a t.length) : ComM t c (a + 1) 0 := ⟨h.1, fun x => by rw [h.2 x, comP_row]⟩
theorem genL_mask {t : List (List Int)} (hg : Grp t) {c : Nat} (h : ComM t c t.length 0) : bitsL (closeN t c) = genL t (comAll t) := by
  rw [bitsL_close hg h.1]
  refine genL_congr fun x => ⟨fun q => gen_idem hg (comAll_in hg) (fun a ha => ?_) q, fun q => gen_sub (fun a ha => ?_) q⟩
  · have h1 := mem_bitsL.1 ha
    refine ⟨h1.1.1, ?_⟩
    rcases (h.2 _).1 h1.2 with e | e
    · rw [e]; exact .zero
    · rw [Int.toNat_of_nonneg h1.1.1] at e
      exact gen_of hg (comAll_in hg) ((mem_comAll hg).2 e)
  · have h1 := (mem_comAll hg).1 ha
    obtain ⟨c', d, hc, hd, _, rfl⟩ := id h1
    have := com_lt hg hc hd
    have := hg.2.1
    exact mem_bitsL.2 ⟨⟨by omega, by omega⟩, (h.2 _).2 (.inr h1)⟩
noncomputable def derL (t : List (List Int)) : List Int := if Grp t then genL t (comAll t) else []
theorem derL_ok (t : List (List Int)) : (derL t).length ≤ 1048576 := by
  unfold derL
  split
  · rename_i h
    have h8 := h.2.1
    have := genL_len t (comAll t)
    omega
  · simp
theorem implDerivedOf (t : List (List Int)) : Spec Tryz.prog 13 [.agg [.rds (II t)]] (.tup [.own 0, .v (.int .i64 (codeG t))]) [.row 2 (I (derL t))] := by
  refine Spec.of_codeC T_ok Tryz.func13 rfl Tryz.ntmps13 Tryz.call13 (Nat.le_of_ble_eq_true rfl) rfl rfl (CodeV_sound T_ok (by kernel_rfl) rfl ?_)
  refine WW ?_
  refine HereO.call T_ok rfl rfl (IsGroup_spec t) SA rfl ?_
  refine WW ?_
  refine ⟨fun h => ?_, fun h => ?_⟩
  · exact RetC.conv (Conv.nilAt 2 150 (.row 2 []) (by decide) rfl) (RetC.of (RetT.one 150 SE (by simp only [go_sem, Nat.reduceMul, Nat.reduceLeDiff, Nat.reduceLT, reduceIte, reduceCtorEq, Nat.reduceEqDiff, Nat.reduceSub, Nat.reduceAdd] <;> simp [derL, codeG, h, I]) (by simp only [go_sem, Nat.reduceMul, Nat.reduceLeDiff, Nat.reduceLT, reduceIte, reduceCtorEq, Nat.reduceEqDiff, Nat.reduceSub, Nat.reduceAdd] <;> simp [derL, codeG, h, I])))
  · have hg := h
    have h8 := h.2.1
    refine HereO.buildRow T_ok 110 (I []) rfl rfl rfl (by decide) rfl SR rfl (by decide) ?_
    refine WW ?_
    refine HereO.call T_ok rfl rfl (order_spec t) SA rfl ?_
    refine WW ?_
    refine Here.loopV T_ok (κ := Nat × List Int) (fun s => s.1 ≤ t.length ∧ s.2.length = t.length * s.1 ∧ ∀ x, x ∈ s.2 ↔ ComP t s.1 0 x) (fun s => t.length - s.1) (fun s => [(1, .box [.rds (II t)]), (4, .own 110), (12, .v (.int .i64 t.length)), (13, .v (.int .i64 s.1))]) (fun s => [(110, .row 2 (I s.2))]) (0, []) ⟨by simp, by simp, fun x => by simp only [List.not_mem_nil, false_iff]; exact comP_0⟩ (by simp only [go_sem, Nat.reduceMul, Nat.reduceLeDiff, Nat.reduceLT, reduceIte, reduceCtorEq, Nat.reduceEqDiff, Nat.reduceSub, Nat.reduceAdd]; simp) SW ?_
    rintro ⟨a, L⟩ ⟨ha, hL, hx⟩
    dsimp only at ha hL hx ⊢
    refine WW ?_
    refine ⟨fun h2 => ?_, fun h2 => ?_⟩
    · refine HereO.call T_ok rfl rfl (order_spec t) SA rfl ?_
      refine WW ?_
      refine Here.loopV T_ok (κ := Nat × List Int) (fun s => s.1 ≤ t.length ∧ s.2.length = t.length * a + s.1 ∧ ∀ x, x ∈ s.2 ↔ ComP t a s.1 x) (fun s => t.length - s.1) (fun s => [(1, .box [.rds (II t)]), (4, .own 110), (5, .v (.int .i64 a)), (12, .v (.int .i64 t.length)), (13, .v (.int .i64 a)), (17, .v (.int .i64 t.length)), (18, .v (.int .i64 s.1))]) (fun s => [(110, .row 2 (I s.2))]) (0, L) ⟨by simp, by simpa using hL, hx⟩ (by simp only [go_sem, Nat.reduceMul, Nat.reduceLeDiff, Nat.reduceLT, reduceIte, reduceCtorEq, Nat.reduceEqDiff, Nat.reduceSub, Nat.reduceAdd]; simp) SW ?_
      rintro ⟨b, M⟩ ⟨hb, hM, hy⟩
      dsimp only at hb hM hy ⊢
      refine WW ?_
      refine ⟨fun h3 => ?_, fun h3 => ?_⟩
      · have hal : a < t.length := by omega
        have hbl : b < t.length := by omega
        have hle : t.length * a ≤ 8 * 8 := Nat.mul_le_mul h8 (by omega)
        refine Here.drawS T_ok 13 (Nat.le_of_ble_eq_true rfl) mixed_ok (by kernel_rfl) (by kernel_rfl) ?_
        refine WW ?_
        refine ⟨_, OpP.call' rfl rfl (inverse_spec t hg a hal) SA rfl, ?_⟩
        refine WW ?_
        refine ⟨_, OpP.call' rfl rfl (inverse_spec t hg b hbl) SA rfl, ?_⟩
        refine WW ?_
        refine ⟨_, OpP.buildRd T_ok (I [(a : Int), (b : Int), (invN t a : Int), (invN t b : Int)]) rfl rfl rfl (by decide) rfl SR rfl, ?_⟩
        refine WW ?_
        refine ⟨_, OpP.call' rfl rfl (times4_spec t hg a b (invN t a) (invN t b) hal hbl (invN_is hg hal).2.1 (invN_is hg hbl).2.1) SA rfl, ?_⟩
        refine WW ?_
        refine ⟨_, OpP.buildRd T_ok (I [((comT t a b : Nat) : Int)]) rfl rfl rfl (by decide) rfl SR rfl, ?_⟩
        refine WW ?_
        refine HereO.append T_ok (I [((comT t a b : Nat) : Int)]) rfl rfl (by decide) SS (by decide) SS SS (.rd _) (I_one _) SL ?_
        refine WW ?_
        rw [I_append]
        refine ⟨by unfold InR; omega, (b + 1, M ++ [((comT t a b : Nat) : Int)]), ⟨by dsimp only; omega, by simp; omega, fun x => ?_⟩, by dsimp only; omega, by push_cast; rfl, rfl⟩
        rw [comP_step hal hbl, ← hy]
        simp
      · obtain rfl : b = t.length := by omega
        refine ⟨by unfold InR; omega, (a + 1, M), ⟨by dsimp only; omega, by dsimp only; rw [hM, Nat.mul_add, Nat.mul_one], fun x => ?_⟩, by dsimp only; omega, by push_cast; rfl, rfl⟩
        rw [hy, comP_row]
    · obtain rfl : a = t.length := by omega
      have hle : t.length * t.length ≤ 8 * 8 := Nat.mul_le_mul h8 h8
      have hin : AreIn t.length L := fun j hj => by
        obtain ⟨c, d, hc, hd, _, e⟩ := (hx _).1 (getD_mem hj 0)
        have := com_lt hg hc hd
        omega
      refine HereO.callOwn T_ok 39 rfl rfl (subgroup_spec t hg L hin (by omega)) SA rfl (by simp) rfl ?_
      refine WW ?_
      exact RetC.of (RetT.one 1624 SE (by simp only [go_sem, Nat.reduceMul, Nat.reduceLeDiff, Nat.reduceLT, reduceIte, reduceCtorEq, Nat.reduceEqDiff, Nat.reduceSub, Nat.reduceAdd] <;> simp [derL, codeG, h, genL_com hg hx]) (by simp only [go_sem, Nat.reduceMul, Nat.reduceLeDiff, Nat.reduceLT, reduceIte, reduceCtorEq, Nat.reduceEqDiff, Nat.reduceSub, Nat.reduceAdd] <;> simp [derL, codeG, h, genL_com hg hx]))
theorem specDerivedOf (t : List (List Int)) : Spec Tryz.prog 32 [.agg [.rds (II t)]] (.tup [.own 0, .v (.int .i64 (codeG t))]) [.row 2 (I (derL t))] := by
  refine Spec.of_codeC T_ok Tryz.func32 rfl Tryz.ntmps32 Tryz.call32 (Nat.le_of_ble_eq_true rfl) rfl rfl (CodeV_sound T_ok (by kernel_rfl) rfl ?_)
  refine WW ?_
  refine HereO.call T_ok rfl rfl (l01Is_spec t) SA rfl ?_
  refine WW ?_
  refine ⟨fun h => ?_, fun h => ?_⟩
  · exact RetC.conv (Conv.nilAt 2 150 (.row 2 []) (by decide) rfl) (RetC.of (RetT.one 150 SE (by simp only [go_sem, Nat.reduceMul, Nat.reduceLeDiff, Nat.reduceLT, reduceIte, reduceCtorEq, Nat.reduceEqDiff, Nat.reduceSub, Nat.reduceAdd] <;> simp [derL, codeG, h, I]) (by simp only [go_sem, Nat.reduceMul, Nat.reduceLeDiff, Nat.reduceLT, reduceIte, reduceCtorEq, Nat.reduceEqDiff, Nat.reduceSub, Nat.reduceAdd] <;> simp [derL, codeG, h, I])))
  · have hg := h
    have h8 := h.2.1
    have hr : ∀ a, a < t.length → (t.getD a []).length = t.length := fun a ha => (hg.2.2.1 a ha).1
    have he : ∀ a b, a < t.length → b < t.length → (t.getD a []).getD b 0 = em t a b := fun a b ha hb => by have := em_ee hg ha hb; unfold ee at this; exact this
    refine Here.loopV T_ok (κ := Nat × Nat) (fun s => s.1 ≤ t.length ∧ ComM t s.2 s.1 0) (fun s => t.length - s.1) (fun s => [(1, .box [.rds (II t)]), (4, .v (.int .i64 s.2)), (5, .v (.int .i64 s.1))]) (fun _ => []) (0, 1) ⟨by simp, comM_0 hg⟩ (by simp only [go_sem, Nat.reduceMul, Nat.reduceLeDiff, Nat.reduceLT, reduceIte, reduceCtorEq, Nat.reduceEqDiff, Nat.reduceSub, Nat.reduceAdd]; simp) trivial ?_
    rintro ⟨a, c⟩ ⟨ha, hc⟩
    dsimp only at ha hc ⊢
    refine WW ?_
    refine HereO.call T_ok rfl rfl (l01N_spec t) SA rfl ?_
    refine WW ?_
    refine ⟨fun h2 => ?_, fun h2 => ?_⟩
    · refine Here.loopV T_ok (κ := Nat × Nat) (fun s => s.1 ≤ t.length ∧ ComM t s.2 a s.1) (fun s => t.length - s.1) (fun s => [(1, .box [.rds (II t)]), (4, .v (.int .i64 s.2)), (5, .v (.int .i64 a)), (6, .v (.int .i64 s.1))]) (fun _ => []) (0, c) ⟨by simp, hc⟩ (by simp only [go_sem, Nat.reduceMul, Nat.reduceLeDiff, Nat.reduceLT, reduceIte, reduceCtorEq, Nat.reduceEqDiff, Nat.reduceSub, Nat.reduceAdd]; simp) trivial ?_
      rintro ⟨b, d⟩ ⟨hb, hd⟩
      dsimp only at hb hd ⊢
      refine WW ?_
      refine HereO.call T_ok rfl rfl (l01N_spec t) SA rfl ?_
      refine WW ?_
      refine ⟨fun h3 => ?_, fun h3 => ?_⟩
      · have hal : a < t.length := by omega
        have hbl : b < t.length := by omega
        have hcj := cj_lt hg hal hbl
        have hiv := (invN_is hg hbl).2.1
        have hlt := com_lt hg hal hbl
        have hd8 : d < 256 := Nat.lt_of_lt_of_le hd.1 (by have := Nat.pow_le_pow_right (n := 2) (by decide) h8; exact this)
        have hs := shl_fact (comT t a b) (by omega)
        refine Here.draw T_ok mixed_ok (by kernel_rfl) ?_
        refine WW ?_
        refine ⟨_, OpP.call' rfl rfl (l01Conjugate_spec t hg b a hbl hal) SA rfl, ?_⟩
        refine WW ?_
        refine ⟨⟨by omega, by omega⟩, ?_⟩
        refine ⟨_, OpP.call' rfl rfl (l01Inverse_spec t hg b hbl) SA rfl, ?_⟩
        refine WW ?_
        rw [hr _ hcj, he _ _ hcj hiv]
        rw [show em t (cjN t a b) (invN t b) = comT t a b from rfl, hs.1, or_fact d hd8 (comT t a b) (by omega)]
        exact ⟨⟨by omega, by omega⟩, by unfold InR; omega, (b + 1, d ||| 2 ^ comT t a b), ⟨by dsimp only; omega, comM_step hg hal hbl hd⟩, by dsimp only; omega, rfl, by push_cast; rfl⟩
      · obtain rfl : b = t.length := by omega
        exact ⟨by unfold InR; omega, (a + 1, d), ⟨by dsimp only; omega, comM_row hd⟩, by dsimp only; omega, by rfl, by push_cast; rfl⟩
    · obtain rfl : a = t.length := by omega
      refine HereO.call T_ok rfl rfl (l01Closed_spec t hg c hc.1) SA rfl ?_
      refine WW ?_
      have hw := l01List_spec (closeN t c) (closeN_lt _ _)
      rw [genL_mask hg hc] at hw
      refine HereO.callOwn T_ok 44 rfl rfl (hw) SA rfl (by simp) rfl ?_
      refine WW ?_
      exact RetC.of (RetT.one 1704 SE (by simp only [go_sem, Nat.reduceMul, Nat.reduceLeDiff, Nat.reduceLT, reduceIte, reduceCtorEq, Nat.reduceEqDiff, Nat.reduceSub, Nat.reduceAdd] <;> simp [derL, codeG, h]) (by simp only [go_sem, Nat.reduceMul, Nat.reduceLeDiff, Nat.reduceLT, reduceIte, reduceCtorEq, Nat.reduceEqDiff, Nat.reduceSub, Nat.reduceAdd] <;> simp [derL, codeG, h]))
end Go.Proofs.YtcjhojdlfnpgjaaGreat
