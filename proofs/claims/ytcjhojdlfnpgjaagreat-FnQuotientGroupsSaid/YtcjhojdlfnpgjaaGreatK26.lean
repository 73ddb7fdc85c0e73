/- Plain facts of masks; Contracts: masks and lists of elements; sets; Plain laws of the loops that make subgroups, masks and cosets; Contracts: subgroups, closed masks. -/
import Derived.Test.YtcjhojdlfnpgjaaGreatK18
import Derived.Test.YtcjhojdlfnpgjaaGreatK11
import Derived.Test.YtcjhojdlfnpgjaaGreatK25
import Derived.Test.YtcjhojdlfnpgjaaGreatK16
set_option linter.unusedVariables false
set_option linter.unusedSimpArgs false
set_option maxRecDepth 100000
namespace Go.Proofs.YtcjhojdlfnpgjaaGreat
open Go.RowKit
theorem shl_ex : ∃ f : IntKind → Int → Int → Int, f = shlV := ⟨_, rfl⟩
noncomputable def shlW : IntKind → Int → Int → Int := Classical.choose shl_ex
theorem shlW_eq : shlW = shlV := Classical.choose_spec shl_ex
theorem BinE_shlW (T : TT) (t : Nat) (k k' : IntKind) (a b : Int) : BinE T t .shl (.int k a) (.int k' b) = .val (0 ≤ b) (.v (.int k (shlW k a b))) := by rw [shlW_eq]; rfl
attribute [go_sem ↓ high] BinE_shlW
theorem shl_fact : ∀ x : Nat, x < 8 → shlW .i64 1 (IntKind.u64.wrap (x : Int)) = ((2 ^ x : Nat) : Int) ∧ IntKind.u64.wrap (x : Int) = x := by rw [shlW_eq]; decide +kernel
theorem or_fact : ∀ m : Nat, m < 256 → ∀ x : Nat, x < 8 → orV .i64 m ((2 ^ x : Nat) : Int) = ((m ||| 2 ^ x : Nat) : Int) := by decide +kernel
theorem and_fact : ∀ m : Nat, m < 256 → ∀ x : Nat, x < 8 → andV .i64 m ((2 ^ x : Nat) : Int) = if m.testBit x then ((2 ^ x : Nat) : Int) else 0 := by decide +kernel
theorem bit_fact : ∀ m : Nat, m < 256 → ∀ x : Nat, x < 8 → andV .i64 (shrV .i64 m (x : Int)) 1 = if m.testBit x then 1 else 0 := by decide +kernel
theorem or_lt {m x : Nat} (hm : m < 256) (hx : x < 8) : m ||| 2 ^ x < 256 := by
  have h : ∀ m : Nat, m < 256 → ∀ x : Nat, x < 8 → m ||| 2 ^ x < 256 := by decide +kernel
  exact h m hm x hx
theorem areIn_take {n : Int} {l : List Int} (h : AreIn n l) (k : Nat) : AreIn n (l.take k) := by
  intro j hj
  rw [List.length_take] at hj
  have := h j (by omega)
  rwa [List.getD_eq_getElem?_getD, List.getElem?_take_of_lt (by omega), ← List.getD_eq_getElem?_getD]
theorem bitsM_lt8 {n : Nat} {l : List Int} (hn : n ≤ 8) (h : AreIn n l) : bitsM l < 256 := Nat.lt_of_lt_of_le (bitsM_lt hn h) (Nat.pow_le_pow_right (by decide) hn)
theorem bitsM_step {n : Nat} {l : List Int} (hn : n ≤ 8) (h : AreIn n l) {i : Nat} (hi : i < l.length) : bitsM (l.take i) ||| 2 ^ (l.getD i 0).toNat = bitsM (l.take (i + 1)) := by
  have hx := h i hi
  apply Nat.eq_of_testBit_eq
  intro a
  rw [Nat.testBit_or, bitsM_bit hn (areIn_take h i), bitsM_bit hn (areIn_take h (i + 1)), Nat.testBit_two_pow, List.take_succ_eq_append_getElem hi]
  have e : l.getD i 0 = l[i] := by rw [List.getD_eq_getElem?_getD, List.getElem?_eq_getElem hi, Option.getD_some]
  rw [e] at hx ⊢
  rw [Bool.eq_iff_iff]
  simp only [Bool.or_eq_true, decide_eq_true_eq, List.mem_append, List.mem_singleton]
  constructor
  · rintro (q | q)
    · exact .inl q
    · right; omega
  · rintro (q | q)
    · exact .inl q
    · right; omega
theorem bitsM_nil : bitsM [] = 0 := by decide +kernel
end Go.Proofs.YtcjhojdlfnpgjaaGreat
namespace Go.Proofs.YtcjhojdlfnpgjaaGreat
open Go.RowKit
theorem l01Bits_spec (n : Nat) (l : List Int) (hn : n ≤ 8) (h : AreIn n l) (hl : l.length ≤ 1048576) : Spec Tryz.prog 91 [.rd (I l)] (.v (.int .i64 (bitsM l))) [] := by
  obtain ⟨B, h0, hn', hlt, hst⟩ : ∃ B : Nat → Nat, B 0 = 0 ∧ B l.length = bitsM l ∧ (∀ i, B i < 256) ∧ ∀ i, i < l.length → B i ||| 2 ^ (l.getD i 0).toNat = B (i + 1) :=
    ⟨fun i => bitsM (l.take i), by show bitsM (l.take 0) = 0; rw [List.take_zero]; exact bitsM_nil, by show bitsM (l.take l.length) = bitsM l; rw [List.take_length], fun i => bitsM_lt8 hn (areIn_take h i), fun i hi => bitsM_step hn h hi⟩
  rw [← hn']
  refine Spec.of_code T_ok Tryz.func91 rfl Tryz.ntmps91 Tryz.call91 (Nat.le_of_ble_eq_true rfl) rfl rfl (CodeV_sound T_ok (by kernel_rfl) rfl ?_)
  refine WW ?_
  refine Here.loopV T_ok (fun i => i ≤ l.length) (fun i => l.length - i) (fun i => [(0, .rd (I l)), (3, .v (.int .i64 (B i : Nat))), (4, .v (.int .i64 i))]) (fun _ => []) 0 (by simp) (by simp only [go_sem, Nat.reduceMul, Nat.reduceLeDiff, Nat.reduceLT, reduceIte, reduceCtorEq, Nat.reduceEqDiff, Nat.reduceSub, Nat.reduceAdd]; simp [h0]) trivial ?_
  intro i hi
  refine WW ?_
  refine ⟨fun h2 => ?_, fun h2 => by rw [show i = l.length by omega]⟩
  have hx := h i (by omega)
  obtain ⟨x, hxe⟩ := Int.eq_ofNat_of_zero_le hx.1
  have hs := hst i (by omega)
  rw [hxe, Int.toNat_natCast] at hs
  rw [hxe, (shl_fact x (by omega)).1, or_fact _ (hlt i) x (by omega), hs]
  exact ⟨⟨by omega, by omega⟩, by unfold InR; omega, i + 1, by omega, by omega, rfl, by push_cast; rfl⟩
def bitsLt (m v : Nat) : List Int := (cnt v).filter fun x => m.testBit x.toNat
theorem bitsLt_succ (m v : Nat) : bitsLt m (v + 1) = bitsLt m v ++ (if m.testBit v then [(v : Int)] else []) := by
  unfold bitsLt cnt
  rw [upTo_succ, List.filter_append]
  congr 1
  by_cases e : m.testBit v = true
  · rw [if_pos e]; simp [e]
  · rw [if_neg e]; simp [e]
theorem bitsLt_len (m : Nat) : ∀ v, (bitsLt m v).length ≤ v := fun v => by
  have h := List.length_filter_le (fun x : Int => m.testBit x.toNat) (cnt v)
  have e : (cnt v).length = v := by simp [cnt, upTo]
  unfold bitsLt
  omega
theorem l01List_spec (m : Nat) (hm : m < 256) : Spec Tryz.prog 82 [.v (.int .i64 m)] (.own 0) [.row 2 (I (bitsL m))] := by
  refine Spec.of_code T_ok Tryz.func82 rfl Tryz.ntmps82 Tryz.call82 (Nat.le_of_ble_eq_true rfl) rfl rfl (CodeV_sound T_ok (by kernel_rfl) rfl ?_)
  refine WW ?_
  refine HereO.buildRow T_ok 120 (I []) rfl rfl rfl (by decide) rfl SR rfl (by decide) ?_
  refine WW ?_
  refine Here.loopV T_ok (fun v => v ≤ 8) (fun v => 8 - v) (fun v => [(0, .v (.int .i64 m)), (3, .own 120), (4, .v (.int .i64 v))]) (fun v => [(120, .row 2 (I (bitsLt m v)))]) 0 (by simp) (by simp only [go_sem, Nat.reduceMul, Nat.reduceLeDiff, Nat.reduceLT, reduceIte, reduceCtorEq, Nat.reduceEqDiff, Nat.reduceSub, Nat.reduceAdd]; simp) (by simp only [go_sem, Nat.reduceMul, Nat.reduceLeDiff, Nat.reduceLT, reduceIte, reduceCtorEq, Nat.reduceEqDiff, Nat.reduceSub, Nat.reduceAdd]; simp [bitsLt, cnt, upTo, I]) ?_
  intro v hv
  refine WW ?_
  refine ⟨fun h2 => ?_, fun h2 => ?_⟩
  · have hb := bit_fact m hm v (by omega)
    have hbl := bitsLt_len m v
    rw [(shl_fact v (by omega)).2, hb]
    refine ⟨fun h3 => ?_, fun h3 => ?_⟩
    · have hbt : m.testBit v = true := by
        cases e : m.testBit v with
        | true => rfl
        | false => rw [e] at h3; simp at h3
      refine HereO.buildRow T_ok 140 (I [(v : Int)]) rfl rfl rfl (by decide) rfl SR rfl (by decide) ?_
      refine WW ?_
      refine HereO.append T_ok (I [(v : Int)]) rfl rfl (by decide) SS (by decide) SS SS (.own 140 _ _ (by decide) SS) (I_one _) SL ?_
      refine WW ?_
      rw [I_append]
      refine ⟨by unfold InR; omega, v + 1, by omega, by omega, by push_cast; rfl, ?_⟩
      rw [bitsLt_succ, if_pos hbt]
    · have hbt : m.testBit v = false := by
        cases e : m.testBit v with
        | false => rfl
        | true => rw [e] at h3; simp at h3
      refine ⟨by unfold InR; omega, v + 1, by omega, by omega, by push_cast; rfl, ?_⟩
      rw [bitsLt_succ, if_neg (by rw [hbt]; decide), List.append_nil]
  · have : v = 8 := by omega
    subst this
    refine RetT.one 120 SE rfl ?_
    refine WW ?_
    rfl
def AscD (l : List Int) : Prop := ∀ k, k < l.length → 0 < k → l.getD (k - 1) 0 < l.getD k 0
instance (l : List Int) : Decidable (AscD l) := by unfold AscD; exact Nat.decidableBallLT _ _
def setE (t : List (List Int)) (l : List Int) : Int := if Grp t then (if AscD l ∧ AreIn t.length l then 0 else 2) else 1
theorem setE_ok {t : List (List Int)} {l : List Int} (h : setE t l = 0) : Grp t ∧ AscD l ∧ AreIn t.length l := by
  unfold setE at h
  split at h
  · rename_i hg
    split at h
    · rename_i q; exact ⟨hg, q⟩
    · omega
  · omega
theorem ascD_asc : ∀ {l : List Int}, AscD l → Asc l
  | [], _ => List.Pairwise.nil
  | [x], _ => List.pairwise_singleton _ _
  | x :: y :: l, h => by
    have ih : Asc (y :: l) := ascD_asc fun k hk h0 => by
      have := h (k + 1) (by simpa using hk) (by omega)
      rwa [show k + 1 - 1 = (k - 1) + 1 by omega, List.getD_cons_succ, List.getD_cons_succ] at this
    have h1 := h 1 (by simp) (by omega)
    simp only [Nat.sub_self, List.getD_cons_zero, List.getD_cons_succ] at h1
    unfold Asc at ih ⊢
    refine List.pairwise_cons.2 ⟨fun z hz => ?_, ih⟩
    rcases List.mem_cons.1 hz with q | q
    · rw [q]; exact h1
    · have := (List.pairwise_cons.1 ih).1 z q; omega
theorem isSet_spec (t : List (List Int)) (l : List Int) (hl : l.length ≤ 1048576) : Spec Tryz.prog 104 [.agg [.rds (II t)], .rd (I l)] (.v (.bool (decide (AscD l ∧ AreIn t.length l)))) [] := by
  refine Spec.of_code T_ok Tryz.func104 rfl Tryz.ntmps104 Tryz.call104 (Nat.le_of_ble_eq_true rfl) rfl rfl (CodeV_sound T_ok (by kernel_rfl) rfl ?_)
  refine WW ?_
  refine Here.loopV T_ok (fun k => k ≤ l.length ∧ ∀ j, j < k → 0 < j → l.getD (j - 1) 0 < l.getD j 0) (fun k => l.length - k) (fun k => [(1, .rd (I l)), (2, .box [.rds (II t)]), (7, .rd (I l)), (8, .v (.int .i64 l.length)), (9, .v (.int .i64 k))]) (fun _ => []) 0 (by simp) (by simp only [go_sem, Nat.reduceMul, Nat.reduceLeDiff, Nat.reduceLT, reduceIte, reduceCtorEq, Nat.reduceEqDiff, Nat.reduceSub, Nat.reduceAdd]; simp) trivial ?_
  rintro k ⟨hk, hs⟩
  refine WW ?_
  refine ⟨fun h2 => ⟨⟨by omega, by omega⟩, fun h3 => ⟨by unfold InR; omega, ⟨by omega, by omega⟩, fun h4 => ?_, fun h4 => ⟨by unfold InR; omega, k + 1, ⟨by omega, fun j hj h0 => ?_⟩, by omega, by push_cast; rfl⟩⟩, fun h3 => ⟨by unfold InR; omega, k + 1, ⟨by omega, fun j hj h0 => by omega⟩, by omega, by push_cast; rfl⟩⟩, fun h2 => ?_⟩
  · rw [show ((k : Int) - 1).toNat = k - 1 by omega] at h4
    symm
    exact decide_eq_false fun q => by have := q.1 k (by omega) (by omega); omega
  · rw [show ((k : Int) - 1).toNat = k - 1 by omega] at h4
    by_cases e : j = k
    · subst e; omega
    · exact hs j (by omega) h0
  · refine HereO.call T_ok rfl rfl (order_spec t) SA rfl ?_
    refine WW ?_
    refine HereO.call T_ok rfl rfl (areIn_spec t.length l hl) SA rfl ?_
    refine WW ?_
    have ha : AscD l := fun j hj h0 => hs j (by omega) h0
    simp [ha]
theorem setCode_spec (t : List (List Int)) (l : List Int) (hl : l.length ≤ 1048576) : Spec Tryz.prog 86 [.agg [.rds (II t)], .rd (I l)] (.v (.int .i64 (setE t l))) [] := by
  refine Spec.of_code T_ok Tryz.func86 rfl Tryz.ntmps86 Tryz.call86 (Nat.le_of_ble_eq_true rfl) rfl rfl (CodeV_sound T_ok (by kernel_rfl) rfl ?_)
  refine WW ?_
  refine HereO.call T_ok rfl rfl (IsGroup_spec t) SA rfl ?_
  refine WW ?_
  refine ⟨fun h => ?_, fun h => ?_⟩
  · simp [setE, h]
  · refine HereO.call T_ok rfl rfl (isSet_spec t l hl) SA rfl ?_
    refine WW ?_
    exact ⟨fun h2 => by simp only [setE, if_pos h]; rw [if_neg h2], fun h2 => by simp only [setE, if_pos h]; rw [if_pos h2]⟩
theorem l01Set_spec (t : List (List Int)) (l : List Int) (hl : l.length ≤ 1048576) : Spec Tryz.prog 37 [.agg [.rds (II t)], .rd (I l)] (.v (.int .i64 (setE t l))) [] := by
  refine Spec.of_code T_ok Tryz.func37 rfl Tryz.ntmps37 Tryz.call37 (Nat.le_of_ble_eq_true rfl) rfl rfl (CodeV_sound T_ok (by kernel_rfl) rfl ?_)
  refine WW ?_
  refine HereO.call T_ok rfl rfl (l01Elements_spec t l hl) SA rfl ?_
  refine WW ?_
  refine ⟨fun h => ?_, fun h => ?_⟩
  · unfold codeE at h
    unfold setE codeE
    by_cases hg : Grp t
    · rw [if_pos hg] at h
      by_cases q : AreIn t.length l
      · rw [if_pos q] at h; exact absurd rfl h
      · rw [if_pos hg, if_pos hg, if_neg q, if_neg (fun r => q r.2)]
    · rw [if_neg hg, if_neg hg]
  · obtain ⟨hg, hin⟩ := codeE_ok h
    refine Here.loopV T_ok (fun i => 1 ≤ i ∧ (i ≤ l.length ∨ i = 1) ∧ ∀ j, j < i → 0 < j → l.getD (j - 1) 0 < l.getD j 0) (fun i => l.length + 1 - i) (fun i => [(1, .rd (I l)), (6, .v (.int .i64 i))]) (fun _ => []) 1 ⟨by omega, .inr rfl, fun j hj h0 => by omega⟩ (by simp only [go_sem, Nat.reduceMul, Nat.reduceLeDiff, Nat.reduceLT, reduceIte, reduceCtorEq, Nat.reduceEqDiff, Nat.reduceSub, Nat.reduceAdd]; simp) trivial ?_
    rintro k ⟨h1, hk, hs⟩
    refine WW ?_
    refine ⟨fun h2 => ?_, fun h2 => ?_⟩
    · refine Here.draw T_ok mixed_ok (by kernel_rfl) ?_
      refine WW ?_
      rw [show ((k : Int) - 1).toNat = k - 1 by omega]
      refine ⟨⟨by omega, by omega⟩, by unfold InR; omega, ⟨by omega, by omega⟩, fun h4 => ?_, fun h4 => ⟨by unfold InR; omega, k + 1, ⟨by omega, by omega, fun j hj h0 => ?_⟩, by omega, by push_cast; rfl⟩⟩
      · unfold setE
        rw [if_pos hg, if_neg]
        intro q
        have := q.1 k (by omega) (by omega); omega
      · by_cases e : j = k
        · subst e; omega
        · exact hs j (by omega) h0
    · have ha : AscD l := fun j hj h0 => hs j (by omega) h0
      simp [setE, hg, ha, hin]
end Go.Proofs.YtcjhojdlfnpgjaaGreat
namespace Go.Proofs.YtcjhojdlfnpgjaaGreat
open Go.RowKit
theorem has_mem {l : List Int} {x : Int} : Has l x ↔ x ∈ l := by
  unfold Has
  rw [List.mem_iff_getElem]
  constructor
  · rintro ⟨j, hj, h⟩
    exact ⟨j, hj, by rwa [List.getD_eq_getElem?_getD, List.getElem?_eq_getElem hj, Option.getD_some] at h⟩
  · rintro ⟨j, hj, h⟩
    exact ⟨j, hj, by rwa [List.getD_eq_getElem?_getD, List.getElem?_eq_getElem hj, Option.getD_some]⟩
theorem getD_app1 {l m : List Int} {j : Nat} (h : j < l.length) (d : Int) : (l ++ m).getD j d = l.getD j d := by
  rw [List.getD_eq_getElem?_getD, List.getD_eq_getElem?_getD, List.getElem?_append_left h]
def SubI (t : List (List Int)) (S L : List Int) (i k : Nat) : Prop :=
  L.Nodup ∧ (0 : Int) ∈ L ∧ (∀ x ∈ L, 0 ≤ x ∧ Gen t S x.toNat) ∧ ∀ j a, j < L.length → a < S.length → (j < i ∨ j = i ∧ a < k) → ((em t (L.getD j 0).toNat (S.getD a 0).toNat : Nat) : Int) ∈ L
theorem subI_0 (t : List (List Int)) (S : List Int) : SubI t S [0] 0 0 := ⟨by simp, by simp, by simp; exact .zero, fun j a _ _ h => by omega⟩
theorem subI_len {t : List (List Int)} (hg : Grp t) {S L : List Int} (hS : AreIn t.length S) {i k : Nat} (h : SubI t S L i k) : L.length ≤ t.length :=
  nodup_len h.1 fun x hx => by have h1 := h.2.2.1 x hx; have := gen_lt hg hS h1.2; omega
theorem subI_at {t : List (List Int)} (hg : Grp t) {S L : List Int} (hS : AreIn t.length S) {i k : Nat} (h : SubI t S L i k) {j : Nat} (hj : j < L.length) : ∃ x : Nat, L.getD j 0 = x ∧ x < t.length ∧ Gen t S x := by
  have h1 := h.2.2.1 _ (getD_mem hj 0)
  exact ⟨(L.getD j 0).toNat, (Int.toNat_of_nonneg h1.1).symm, gen_lt hg hS h1.2, h1.2⟩
theorem subI_in {t : List (List Int)} {S L : List Int} {i k : Nat} (h : SubI t S L i k) (he : ((em t (L.getD i 0).toNat (S.getD k 0).toNat : Nat) : Int) ∈ L) : SubI t S L i (k + 1) :=
  ⟨h.1, h.2.1, h.2.2.1, fun j a hj ha hd => by
    by_cases e : j = i ∧ a = k
    · rw [e.1, e.2]; exact he
    · exact h.2.2.2 j a hj ha (by omega)⟩
theorem subI_new {t : List (List Int)} {S L : List Int} {i k : Nat} (h : SubI t S L i k) (hi : i < L.length) (hk : k < S.length) (he : ((em t (L.getD i 0).toNat (S.getD k 0).toNat : Nat) : Int) ∉ L) : SubI t S (L ++ [((em t (L.getD i 0).toNat (S.getD k 0).toNat : Nat) : Int)]) i (k + 1) := by
  refine ⟨(List.perm_append_singleton _ L).nodup_iff.2 (List.nodup_cons.2 ⟨he, h.1⟩), by simp [h.2.1], fun x hx => ?_, fun j a hj ha hd => ?_⟩
  · rcases List.mem_append.1 hx with q | q
    · exact h.2.2.1 x q
    · rw [List.mem_singleton.1 q, Int.toNat_natCast]
      exact ⟨by omega, .step (h.2.2.1 _ (getD_mem hi 0)).2 _ (getD_mem hk 0)⟩
  · have hj' : j < L.length := by simp at hj; omega
    rw [getD_app1 hj']
    by_cases e : j = i ∧ a = k
    · rw [e.1, e.2]; simp
    · exact List.mem_append_left _ (h.2.2.2 j a hj' ha (by omega))
theorem subI_row {t : List (List Int)} {S L : List Int} {i : Nat} (h : SubI t S L i S.length) : SubI t S L (i + 1) 0 :=
  ⟨h.1, h.2.1, h.2.2.1, fun j a hj ha hd => h.2.2.2 j a hj ha (by omega)⟩
theorem subI_end {t : List (List Int)} (hg : Grp t) {S L l : List Int} (hS : AreIn t.length S) {i : Nat} (h : SubI t S L i 0) (hi : L.length ≤ i) (hs : l.Pairwise (· ≤ ·)) (hp : l.Perm L) : l = genL t S :=
  sub_end hg hS h.2.1 h.1 h.2.2.1 (fun x hx a ha => by
    obtain ⟨j, hj, rfl⟩ := has_mem.2 hx
    obtain ⟨b, hb, rfl⟩ := has_mem.2 ha
    exact h.2.2.2 j b hj hb (.inl (by omega))) hs hp
theorem bit_or (m x a : Nat) : (m ||| 2 ^ x).testBit a = (m.testBit a || decide (x = a)) := by
  rw [Nat.testBit_or, Nat.testBit_two_pow]
def CloI (t : List (List Int)) (m c : Nat) : Prop := c < 256 ∧ c.testBit 0 = true ∧ (∀ a, m.testBit a = true → c.testBit a = true) ∧ ∀ a, c.testBit a = true → Gen t (bitsL m) a
theorem bit_lt {m a : Nat} (hm : m < 256) (h : m.testBit a = true) : a < 8 := by
  apply Classical.byContradiction
  intro hn
  rw [Nat.testBit_lt_two_pow (Nat.lt_of_lt_of_le hm (by have := Nat.pow_le_pow_right (n := 2) (by decide) (show 8 ≤ a by omega); exact this))] at h
  cases h
theorem gen_bit {t : List (List Int)} (hg : Grp t) {m : Nat} (hm : m < 2 ^ t.length) {a : Nat} (h : m.testBit a = true) : Gen t (bitsL m) a := by
  have h8 : m < 256 := Nat.lt_of_lt_of_le hm (by have := Nat.pow_le_pow_right (n := 2) (by decide) hg.2.1; exact this)
  have := bit_lt h8 h
  have := gen_of hg (bitsL_in hm) (a := (a : Int)) (mem_bitsL.2 ⟨⟨by omega, by omega⟩, h⟩)
  exact this
theorem cloI_0 {t : List (List Int)} (hg : Grp t) {m : Nat} (hm : m < 2 ^ t.length) : CloI t m (m ||| 2 ^ 0) := by
  have h8 : m < 256 := Nat.lt_of_lt_of_le hm (by have := Nat.pow_le_pow_right (n := 2) (by decide) hg.2.1; exact this)
  refine ⟨or_lt h8 (by decide), by rw [bit_or]; simp, fun a h => by rw [bit_or, h]; rfl, fun a h => ?_⟩
  rw [bit_or] at h
  by_cases e : 0 = a
  · rw [← e]; exact .zero
  · rw [decide_eq_false e, Bool.or_false] at h
    exact gen_bit hg hm h
theorem cloI_in {t : List (List Int)} (hg : Grp t) {m c : Nat} (hm : m < 2 ^ t.length) (h : CloI t m c) : AreIn t.length (bitsL c) := fun j hj => by
  have h1 := mem_bitsL.1 (getD_mem hj 0)
  have := gen_lt hg (bitsL_in hm) (h.2.2.2 _ h1.2)
  omega
theorem cloI_step {t : List (List Int)} (hg : Grp t) {m c : Nat} (hm : m < 2 ^ t.length) (h : CloI t m c) {x y : Nat} (hx : Gen t (bitsL m) x) (hy : Gen t (bitsL m) y) : CloI t m (c ||| 2 ^ em t x y) := by
  have hS := bitsL_in hm
  have h3 := gen_mul hg hS hx hy
  have h4 := gen_lt hg hS h3
  have := hg.2.1
  refine ⟨or_lt h.1 (by omega), by rw [bit_or, h.2.1]; rfl, fun a q => by rw [bit_or, h.2.2.1 a q]; rfl, fun a q => ?_⟩
  rw [bit_or] at q
  by_cases e : em t x y = a
  · rw [← e]; exact h3
  · rw [decide_eq_false e, Bool.or_false] at q
    exact h.2.2.2 a q
def RowI (t : List (List Int)) (c0 c i k : Nat) : Prop := c0 ≤ c ∧ (∀ a, c0.testBit a = true → c.testBit a = true) ∧
  ∀ j a, j < (bitsL c0).length → a < (bitsL c0).length → (j < i ∨ j = i ∧ a < k) → c.testBit (em t ((bitsL c0).getD j 0).toNat ((bitsL c0).getD a 0).toNat) = true
theorem rowI_0 (t : List (List Int)) (c : Nat) : RowI t c c 0 0 := ⟨Nat.le_refl _, fun a h => h, fun j a _ _ h => by omega⟩
theorem rowI_in {t : List (List Int)} {c0 c i k : Nat} (h : RowI t c0 c i k) (he : c.testBit (em t ((bitsL c0).getD i 0).toNat ((bitsL c0).getD k 0).toNat) = true) : RowI t c0 c i (k + 1) :=
  ⟨h.1, h.2.1, fun j a hj ha hd => by
    by_cases e : j = i ∧ a = k
    · rw [e.1, e.2]; exact he
    · exact h.2.2 j a hj ha (by omega)⟩
theorem rowI_new {t : List (List Int)} {c0 c i k : Nat} (h : RowI t c0 c i k) (he : c.testBit (em t ((bitsL c0).getD i 0).toNat ((bitsL c0).getD k 0).toNat) = false) : RowI t c0 (c ||| 2 ^ em t ((bitsL c0).getD i 0).toNat ((bitsL c0).getD k 0).toNat) i (k + 1) ∧ c0 < c ||| 2 ^ em t ((bitsL c0).getD i 0).toNat ((bitsL c0).getD k 0).toNat := by
  have h1 : c ≤ c ||| 2 ^ em t ((bitsL c0).getD i 0).toNat ((bitsL c0).getD k 0).toNat := Nat.left_le_or
  have h2 : c ≠ c ||| 2 ^ em t ((bitsL c0).getD i 0).toNat ((bitsL c0).getD k 0).toNat := fun q => by
    have := bit_or c (em t ((bitsL c0).getD i 0).toNat ((bitsL c0).getD k 0).toNat) (em t ((bitsL c0).getD i 0).toNat ((bitsL c0).getD k 0).toNat)
    rw [← q, he] at this
    simp at this
  have h0 := h.1
  refine ⟨⟨by omega, fun a q => by rw [bit_or, h.2.1 a q]; rfl, fun j a hj ha hd => ?_⟩, by omega⟩
  rw [bit_or]
  by_cases e : j = i ∧ a = k
  · rw [e.1, e.2]; simp
  · rw [h.2.2 j a hj ha (by omega)]; rfl
theorem rowI_row {t : List (List Int)} {c0 c i : Nat} (h : RowI t c0 c i (bitsL c0).length) : RowI t c0 c (i + 1) 0 :=
  ⟨h.1, h.2.1, fun j a hj ha hd => h.2.2 j a hj ha (by omega)⟩
def ClosedM (t : List (List Int)) (c : Nat) : Prop := ∀ x y, c.testBit x = true → c.testBit y = true → c.testBit (em t x y) = true
theorem rowI_end {t : List (List Int)} {c i : Nat} (hc : c < 256) (h : RowI t c c i 0) (hi : (bitsL c).length ≤ i) : ClosedM t c := fun x y hx hy => by
  have key : ∀ x : Nat, c.testBit x = true → ∃ j, j < (bitsL c).length ∧ ((bitsL c).getD j 0).toNat = x := fun x hx => by
    have := bit_lt hc hx
    obtain ⟨j, hj, e⟩ := has_mem.2 (mem_bitsL.2 ⟨⟨by omega, by omega⟩, hx⟩ : (x : Int) ∈ bitsL c)
    exact ⟨j, hj, by rw [e]; rfl⟩
  obtain ⟨j, hj, ej⟩ := key x hx
  obtain ⟨k, hk, ek⟩ := key y hy
  have := h.2.2 j k hj hk (.inl (by omega))
  rwa [ej, ek] at this
theorem cloI_end {t : List (List Int)} (hg : Grp t) {m c : Nat} (hm : m < 2 ^ t.length) (h : CloI t m c) (hc : ClosedM t c) : c = closeN t m :=
  close_end hg hm h.1 h.2.2.2 h.2.1 h.2.2.1 hc
theorem bitsL_len (m : Nat) : (bitsL m).length ≤ 8 := by
  have h := List.length_filter_le (fun x : Int => m.testBit x.toNat) (cnt 8)
  have e : (cnt 8).length = 8 := by simp [cnt, upTo]
  unfold bitsL
  omega
theorem cosIn_snoc {t : List (List Int)} {h : List Int} {a : Nat} {k : Int} {num : List Int} {i : Nat} (hi : i < h.length) : cosIn t (h.take (i + 1)) a k num = (cosIn t (h.take i) a k num).set (em t a (h.getD i 0).toNat) k := by
  unfold cosIn
  rw [List.take_succ_eq_append_getElem hi, List.foldl_append, List.getD_eq_getElem?_getD, List.getElem?_eq_getElem hi, Option.getD_some]
  rfl
end Go.Proofs.YtcjhojdlfnpgjaaGreat
namespace Go.Proofs.YtcjhojdlfnpgjaaGreat
open Go.RowKit
theorem subgroup_spec (t : List (List Int)) (hg : Grp t) (l : List Int) (hS : AreIn t.length l) (hl : l.length ≤ 1048576) : Spec Tryz.prog 46 [.agg [.rds (II t)], .rd (I l)] (.own 0) [.row 2 (I (genL t l))] := by
  have h8 := hg.2.1
  refine Spec.of_code T_ok Tryz.func46 rfl Tryz.ntmps46 Tryz.call46 (Nat.le_of_ble_eq_true rfl) rfl rfl (CodeV_sound T_ok (by kernel_rfl) rfl ?_)
  refine WW ?_
  refine HereO.buildRow T_ok 110 (I [0]) rfl rfl rfl (by decide) rfl SR rfl (by decide) ?_
  refine WW ?_
  refine Here.loopV T_ok (κ := Nat × List Int) (fun s => SubI t l s.2 s.1 0 ∧ s.1 ≤ s.2.length) (fun s => t.length + 1 - s.1) (fun s => [(1, .rd (I l)), (2, .box [.rds (II t)]), (5, .own 110), (6, .v (.int .i64 s.1))]) (fun s => [(110, .row 2 (I s.2))]) (0, [0]) ⟨subI_0 t l, by simp⟩ (by simp only [go_sem, Nat.reduceMul, Nat.reduceLeDiff, Nat.reduceLT, reduceIte, reduceCtorEq, Nat.reduceEqDiff, Nat.reduceSub, Nat.reduceAdd]; simp) SW ?_
  rintro ⟨i, L⟩ ⟨hI, hi⟩
  dsimp only at hI hi ⊢
  have hlen := subI_len hg hS hI
  refine WW ?_
  refine ⟨fun h2 => ?_, fun h2 => ?_⟩
  · refine Here.loopV T_ok (κ := Nat × List Int) (fun s => SubI t l s.2 i s.1 ∧ s.1 ≤ l.length ∧ i < s.2.length) (fun s => l.length - s.1) (fun s => [(1, .rd (I l)), (2, .box [.rds (II t)]), (5, .own 110), (6, .v (.int .i64 i)), (17, .rd (I l)), (18, .v (.int .i64 l.length)), (19, .v (.int .i64 s.1))]) (fun s => [(110, .row 2 (I s.2))]) (0, L) ⟨hI, by simp, by dsimp only; omega⟩ (by simp only [go_sem, Nat.reduceMul, Nat.reduceLeDiff, Nat.reduceLT, reduceIte, reduceCtorEq, Nat.reduceEqDiff, Nat.reduceSub, Nat.reduceAdd]; simp) SW ?_
    rintro ⟨k, M⟩ ⟨hJ, hk, hM⟩
    dsimp only at hJ hk hM ⊢
    have hlen := subI_len hg hS hJ
    refine WW ?_
    refine ⟨fun h3 => ?_, fun h3 => ?_⟩
    · obtain ⟨x, hx, hxl, hxg⟩ := subI_at hg hS hJ hM
      have ha := hS k (by omega)
      obtain ⟨a, hae⟩ := Int.eq_ofNat_of_zero_le ha.1
      have hal : a < t.length := by omega
      refine ⟨⟨by omega, by omega⟩, ?_⟩
      rw [hae]
      refine Here.draw T_ok mixed_ok (by kernel_rfl) ?_
      refine WW ?_
      rw [hx]
      refine ⟨⟨by omega, by omega⟩, by omega, ?_⟩
      refine ⟨_, OpP.buildRd T_ok (I [(x : Int), (a : Int)]) rfl rfl rfl (by decide) rfl SR rfl, ?_⟩
      refine WW ?_
      refine ⟨_, OpP.call' rfl rfl (times2_spec t hg x a hxl hal) SA rfl, ?_⟩
      refine WW ?_
      refine HereO.call T_ok rfl rfl (Contains_spec M (em t x a) (by omega)) SA rfl ?_
      refine WW ?_
      have he : em t (M.getD i 0).toNat (l.getD k 0).toNat = em t x a := by rw [hx, hae]; rfl
      refine ⟨fun h4 => ?_, fun h4 => ?_⟩
      · have hnew := subI_new hJ hM (by omega) (by rw [he]; exact fun q => h4 (has_mem.2 q))
        rw [he] at hnew
        have hnl := subI_len hg hS hnew
        refine HereO.buildRow T_ok 140 (I [((em t x a : Nat) : Int)]) rfl rfl rfl (by decide) rfl SR rfl (by decide) ?_
        refine WW ?_
        refine HereO.append T_ok (I [((em t x a : Nat) : Int)]) rfl rfl (by decide) SS (by decide) SS SS (.own 140 _ _ (by decide) SS) (I_one _) SL ?_
        refine WW ?_
        rw [I_append]
        exact ⟨by unfold InR; omega, (k + 1, M ++ [((em t x a : Nat) : Int)]), ⟨hnew, by dsimp only; omega, by simp; omega⟩, by dsimp only; omega, by push_cast; rfl, rfl⟩
      · exact ⟨by unfold InR; omega, (k + 1, M), ⟨subI_in hJ (by rw [he]; exact has_mem.1 h4), by dsimp only; omega, hM⟩, by dsimp only; omega, by push_cast; rfl, rfl⟩
    · obtain rfl : k = l.length := by omega
      exact ⟨by unfold InR; omega, (i + 1, M), ⟨subI_row hJ, by dsimp only; omega⟩, by dsimp only; omega, by push_cast; rfl, rfl⟩
  · refine HereO.callM T_ok 41 [110] rfl rfl (Sort_spec L (by omega)) SC rfl (by decide) (by decide) rfl rfl rfl (Nat.le_of_ble_eq_true rfl) ?_
    refine WW ?_
    refine RetT.one 110 SE rfl ?_
    refine WW ?_
    rw [subI_end hg hS hI (by omega) (sortI_sorted L) (sortI_perm L)]
theorem l01Closed_spec (t : List (List Int)) (hg : Grp t) (m : Nat) (hm : m < 2 ^ t.length) : Spec Tryz.prog 83 [.agg [.rds (II t)], .v (.int .i64 m)] (.v (.int .i64 (closeN t m))) [] := by
  have h8 := hg.2.1
  have hm8 : m < 256 := Nat.lt_of_lt_of_le hm (by have := Nat.pow_le_pow_right (n := 2) (by decide) h8; exact this)
  have hr : ∀ a, a < t.length → (t.getD a []).length = t.length := fun a ha => (hg.2.2.1 a ha).1
  have he : ∀ a b, a < t.length → b < t.length → (t.getD a []).getD b 0 = em t a b := fun a b ha hb => by have := em_ee hg ha hb; unfold ee at this; exact this
  have hor : orV .i64 m 1 = ((m ||| 2 ^ 0 : Nat) : Int) := or_fact m hm8 0 (by decide)
  refine Spec.of_code T_ok Tryz.func83 rfl Tryz.ntmps83 Tryz.call83 (Nat.le_of_ble_eq_true rfl) rfl rfl (CodeV_sound T_ok (by kernel_rfl) rfl ?_)
  refine WW ?_
  refine Here.loopV T_ok (κ := Nat × Bool) (fun s => CloI t m s.1 ∧ (s.2 = false → ClosedM t s.1)) (fun s => 2 * (256 - s.1) + (if s.2 then 1 else 0)) (fun s => [(1, .v (.int .i64 s.1)), (2, .box [.rds (II t)]), (5, .v (.bool s.2))]) (fun _ => []) (m ||| 2 ^ 0, true) ⟨cloI_0 hg hm, fun h => by cases h⟩ (by simp only [go_sem, Nat.reduceMul, Nat.reduceLeDiff, Nat.reduceLT, reduceIte, reduceCtorEq, Nat.reduceEqDiff, Nat.reduceSub, Nat.reduceAdd]; rw [hor]) trivial ?_
  rintro ⟨c, b⟩ ⟨hC, hcl⟩
  dsimp only at hC hcl ⊢
  refine WW ?_
  refine ⟨fun h2 => ?_, fun h2 => ?_⟩
  · subst h2
    refine HereO.callOwn T_ok 14 rfl rfl (l01List_spec c hC.1) SA rfl (by simp) rfl ?_
    refine WW ?_
    refine Here.loopV T_ok (κ := Nat × Nat) (fun s => RowI t c s.2 s.1 0 ∧ CloI t m s.2 ∧ s.1 ≤ (bitsL c).length) (fun s => (bitsL c).length - s.1) (fun s => [(1, .v (.int .i64 s.2)), (2, .box [.rds (II t)]), (5, .v (.bool (decide (c < s.2)))), (6, .own 1224), (7, .v (.int .i64 s.1))]) (fun _ => [(1224, .row 2 (I (bitsL c)))]) (0, c) ⟨rowI_0 t c, hC, by simp⟩ (by simp only [go_sem, Nat.reduceMul, Nat.reduceLeDiff, Nat.reduceLT, reduceIte, reduceCtorEq, Nat.reduceEqDiff, Nat.reduceSub, Nat.reduceAdd]; simp) SW ?_
    rintro ⟨i, d⟩ ⟨hR, hD, hi⟩
    dsimp only at hR hD hi ⊢
    have hlen := bitsL_len c
    refine WW ?_
    refine ⟨fun h3 => ?_, fun h3 => ?_⟩
    · refine Here.loopV T_ok (κ := Nat × Nat) (fun s => RowI t c s.2 i s.1 ∧ CloI t m s.2 ∧ s.1 ≤ (bitsL c).length) (fun s => (bitsL c).length - s.1) (fun s => [(1, .v (.int .i64 s.2)), (2, .box [.rds (II t)]), (5, .v (.bool (decide (c < s.2)))), (6, .own 1224), (7, .v (.int .i64 i)), (8, .v (.int .i64 s.1))]) (fun _ => [(1224, .row 2 (I (bitsL c)))]) (0, d) ⟨hR, hD, by simp⟩ (by simp only [go_sem, Nat.reduceMul, Nat.reduceLeDiff, Nat.reduceLT, reduceIte, reduceCtorEq, Nat.reduceEqDiff, Nat.reduceSub, Nat.reduceAdd]; simp) SW ?_
      rintro ⟨k, e⟩ ⟨hR, hE, hk⟩
      dsimp only at hR hE hk ⊢
      refine WW ?_
      refine ⟨fun h4 => ?_, fun h4 => ?_⟩
      · have hin := cloI_in hg hm hC
        obtain ⟨x, hx⟩ := Int.eq_ofNat_of_zero_le (hin i (by omega)).1
        obtain ⟨y, hy⟩ := Int.eq_ofNat_of_zero_le (hin k (by omega)).1
        have hxl : x < t.length := by have := (hin i (by omega)).2; omega
        have hyl : y < t.length := by have := (hin k (by omega)).2; omega
        have hlt := em_lt hg hxl hyl
        have hgx : Gen t (bitsL m) x := by have := hC.2.2.2 _ (mem_bitsL.1 (getD_mem (l := bitsL c) (j := i) (by omega) 0)).2; rwa [hx] at this
        have hgy : Gen t (bitsL m) y := by have := hC.2.2.2 _ (mem_bitsL.1 (getD_mem (l := bitsL c) (j := k) (by omega) 0)).2; rwa [hy] at this
        have hs := shl_fact (em t x y) (by omega)
        refine Here.draw T_ok mixed_ok (by kernel_rfl) ?_
        refine WW ?_
        rw [hx, hy]
        simp only [Int.toNat_natCast]
        rw [hr x hxl, he x y hxl hyl, hs.1]
        have hem : em t ((bitsL c).getD i 0).toNat ((bitsL c).getD k 0).toNat = em t x y := by rw [hx, hy]; rfl
        rw [and_fact e hE.1 (em t x y) (by omega), or_fact e hE.1 (em t x y) (by omega)]
        refine ⟨⟨by omega, by omega⟩, by omega, ⟨by omega, by omega⟩, ⟨by omega, by omega⟩, by omega, ⟨by omega, by omega⟩, fun h5 => ?_, fun h5 => ?_⟩
        · have hb : e.testBit (em t x y) = false := by
            cases q : e.testBit (em t x y) with
            | false => rfl
            | true => rw [q, if_pos rfl] at h5; have := Nat.two_pow_pos (em t x y); omega
          have hnew := rowI_new hR (by rw [hem]; exact hb)
          rw [hem] at hnew
          exact ⟨by unfold InR; omega, (k + 1, e ||| 2 ^ em t x y), ⟨hnew.1, cloI_step hg hm hE hgx hgy, by dsimp only; omega⟩, by dsimp only; omega, rfl, (decide_eq_true hnew.2).symm, by push_cast; rfl⟩
        · have hb : e.testBit (em t x y) = true := by
            cases q : e.testBit (em t x y) with
            | true => rfl
            | false => rw [q] at h5; exact absurd rfl h5
          exact ⟨by unfold InR; omega, (k + 1, e), ⟨rowI_in hR (by rw [hem]; exact hb), hE, by dsimp only; omega⟩, by dsimp only; omega, rfl, rfl, by push_cast; rfl⟩
      · obtain rfl : k = (bitsL c).length := by omega
        exact ⟨by unfold InR; omega, (i + 1, e), ⟨rowI_row hR, hE, by dsimp only; omega⟩, by dsimp only; omega, by rfl, by rfl, by push_cast; rfl⟩
    · obtain rfl : i = (bitsL c).length := by omega
      refine ⟨(d, decide (c < d)), ⟨hD, fun h4 => ?_⟩, ?_, rfl, rfl⟩
      · have h5 := of_decide_eq_false h4
        have h6 := hR.1
        dsimp only
        obtain rfl : c = d := by omega
        exact rowI_end hC.1 hR (Nat.le_refl _)
      · have h6 := hR.1
        have h7 := hD.1
        dsimp only
        by_cases h5 : c < d
        · rw [decide_eq_true h5, if_pos rfl]; omega
        · rw [decide_eq_false h5, if_neg (by simp)]; omega
  · rw [cloI_end hg hm hC (hcl h2)]
end Go.Proofs.YtcjhojdlfnpgjaaGreat
namespace Go.Proofs.YtcjhojdlfnpgjaaGreat
open Go.RowKit
noncomputable def subL (t : List (List Int)) (l : List Int) : List Int := if setE t l = 0 then genL t l else []
end Go.Proofs.YtcjhojdlfnpgjaaGreat
