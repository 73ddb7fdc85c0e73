/- Contracts: OrdersOf. -/
import Derived.Test.YtipdgkohfmpilaaGe
import Derived.Test.YtipdgkohfmpilaaMa
namespace Go.Proofs.Ytipdgkohfmpilaa
open Go.RowKit
set_option linter.unusedVariables false
set_option linter.unusedSimpArgs false
set_option maxRecDepth 100000

def upTo (f : Nat → Int) (n : Nat) : List Int := (List.range n).map f
theorem upTo_succ (f : Nat → Int) (n : Nat) : upTo f (n + 1) = upTo f n ++ [f n] := by simp [upTo, List.range_succ]
theorem upTo_len (f : Nat → Int) (n : Nat) : (upTo f n).length = n := by simp [upTo]
theorem upTo_get (f : Nat → Int) {n i : Nat} (h : i < n) : (upTo f n).getD i 0 = f i := by
  rw [List.getD_eq_getElem?_getD, upTo, List.getElem?_map, List.getElem?_range h]
  rfl

def ordersL (t : List (List Int)) : List Int := if Grp t then upTo (fun a => (ordN t a : Int)) t.length else []
end Go.Proofs.Ytipdgkohfmpilaa

namespace Go.Proofs.Ytipdgkohfmpilaa
open Go.RowKit
set_option linter.unusedVariables false
set_option linter.unusedSimpArgs false
set_option maxRecDepth 100000

/-- What a closure holds is read only. -/
structure Fix (caps : List LV) : Prop where
  b : ∀ σ, closeBs σ caps = caps
  k : ∀ q, kills q caps = caps
  m : ∀ σ is, toMs σ is caps = caps
theorem Fix.box {l : List LV} (h : Fix l) : Fix [.box l] := ⟨fun σ => by simp only [closeBs, closeB, h.b], fun q => by simp only [kills, kill, h.k], fun σ is => by simp only [toMs, toM, h.m]⟩
theorem Fix.fn {g : Nat} {l : List LV} (h : Fix l) : Fix [.fn g l] := ⟨fun σ => by simp only [closeBs, closeB, h.b], fun q => by simp only [kills, kill, h.k], fun σ is => by simp only [toMs, toM, h.m]⟩
theorem Fix.nil : Fix [] := ⟨fun _ => rfl, fun _ => rfl, fun _ _ => rfl⟩
theorem Fix.v (x : Value) : Fix [.v x] := ⟨fun _ => rfl, fun _ => rfl, fun _ _ => rfl⟩
theorem Fix.rds (x : List (List Value)) : Fix [.rds x] := ⟨fun _ => rfl, fun _ => rfl, fun _ _ => rfl⟩
theorem Fix.rd (x : List Value) : Fix [.rd x] := ⟨fun _ => rfl, fun _ => rfl, fun _ _ => rfl⟩
theorem Fix.cons {x : LV} {l : List LV} (h1 : Fix [x]) (h2 : Fix l) : Fix (x :: l) := by
  have b1 : ∀ σ, closeB σ x = x := fun σ => by have := h1.b σ; simp only [closeBs, List.cons.injEq, and_true] at this; exact this
  have k1 : ∀ q, kill q x = x := fun σ => by have := h1.k σ; simp only [kills, List.cons.injEq, and_true] at this; exact this
  have m1 : ∀ σ is, toM σ is x = x := fun σ is => by have := h1.m σ is; simp only [toMs, List.cons.injEq, and_true] at this; exact this
  exact ⟨fun σ => by simp only [closeBs, h2.b, b1], fun q => by simp only [kills, h2.k, k1], fun σ is => by simp only [toMs, h2.m, m1]⟩

/-- The place of the first that is so, -1 if there is none. -/
def firstF (p : Int → Bool) : List Int → Nat
  | [] => 0
  | x :: l => if p x then 0 else firstF p l + 1
theorem firstF_le (p : Int → Bool) : ∀ l, firstF p l ≤ l.length
  | [] => Nat.le_refl _
  | x :: l => by unfold firstF; split <;> simp [firstF_le p l]
theorem firstF_eq (p : Int → Bool) : ∀ (l : List Int) (k : Nat), k ≤ l.length → (∀ j, j < k → p (l.getD j 0) = false) → (k < l.length → p (l.getD k 0) = true) → firstF p l = k
  | [], k, hk, _, _ => by simp at hk; subst hk; rfl
  | x :: l, 0, _, _, h2 => by have := h2 (by simp); simp at this; simp [firstF, this]
  | x :: l, k + 1, hk, h1, h2 => by
    have h0 := h1 0 (by omega)
    simp at h0
    have := firstF_eq p l k (by simpa using hk) (fun j hj => by have := h1 (j + 1) (by omega); simpa using this) (fun h => by have := h2 (by simpa using h); simpa using this)
    simp [firstF, h0, this]
def idxF (p : Int → Bool) (l : List Int) : Int := if firstF p l < l.length then firstF p l else -1

theorem IndexFunc_spec (xs : List Int) (g : Nat) (caps : List LV) (hc : Fix caps) (p : Int → Bool) (hp : ∀ j, j < xs.length → Spec Try.prog g (.v (.int .i64 (xs.getD j 0)) :: caps) (.v (.bool (p (xs.getD j 0)))) []) (hl : xs.length ≤ 1099511627776) :
    Spec Try.prog 46 [.rd (I xs), .fn g caps] (.v (.int .i64 (idxF p xs))) [] := by
  refine Spec.of_code T_ok Try.func46 rfl Try.ntmps46 Try.call46 (Nat.le_of_ble_eq_true rfl) rfl rfl (CodeV_sound T_ok (by kernel_rfl) rfl ?_)
  simp only [Try.results46, go_sem, Nat.reduceMul, Nat.reduceLeDiff, Nat.reduceLT, reduceIte, reduceCtorEq, Nat.reduceEqDiff, Nat.reduceSub, Nat.reduceAdd]
  refine Here.loopV T_ok (fun k => k ≤ xs.length ∧ ∀ j, j < k → p (xs.getD j 0) = false) (fun k => xs.length - k) (fun k => [(0, .rd (I xs)), (1, .fn g caps), (7, .v (.int .i64 xs.length)), (8, .v (.int .i64 k))]) (fun k => []) 0 (by simp) (by simp only [Try.results46, go_sem, Nat.reduceMul, Nat.reduceLeDiff, Nat.reduceLT, reduceIte, reduceCtorEq, Nat.reduceEqDiff, Nat.reduceSub, Nat.reduceAdd]; rfl) trivial ?_
  rintro k ⟨hk, hj⟩
  simp only [Try.results46, go_sem, Nat.reduceMul, Nat.reduceLeDiff, Nat.reduceLT, reduceIte, reduceCtorEq, Nat.reduceEqDiff, Nat.reduceSub, Nat.reduceAdd]
  refine ⟨fun h2 => ⟨by omega, ?_⟩, fun h2 => ?_⟩
  · refine HereO.call T_ok rfl rfl (hp k (by omega)) (by simp only [go_sem, Nat.reduceMul, Nat.reduceLeDiff, Nat.reduceLT, reduceIte, reduceCtorEq, Nat.reduceEqDiff, Nat.reduceSub, Nat.reduceAdd, List.toList_toArray, hc.b]) rfl ?_
    simp only [Try.results46, go_sem, Nat.reduceMul, Nat.reduceLeDiff, Nat.reduceLT, reduceIte, reduceCtorEq, Nat.reduceEqDiff, Nat.reduceSub, Nat.reduceAdd]
    refine ⟨fun h3 => ?_, fun h3 => ⟨by unfold InR; omega, k + 1, ⟨by omega, fun j hj' => ?_⟩, by omega, rfl⟩⟩
    · unfold idxF
      rw [firstF_eq p xs k hk hj (fun _ => h3), if_pos (by omega)]
    · by_cases e : j = k
      · subst e; exact h3
      · exact hj j (by omega)
  · unfold idxF
    rw [firstF_eq p xs k hk hj (fun h => by omega), if_neg (by omega)]

theorem filter_take {p : Int → Bool} {xs : List Int} {j : Nat} (hj : j < xs.length) : (xs.take (j + 1)).filter p = (xs.take j).filter p ++ (if p (xs.getD j 0) then [xs.getD j 0] else []) := by
  rw [List.take_succ_eq_append_getElem hj, List.filter_append]
  congr 1
  rw [List.getD_eq_getElem?_getD, List.getElem?_eq_getElem hj, Option.getD_some, List.filter_cons]
  split <;> rfl
theorem filter_first {p : Int → Bool} : ∀ {xs : List Int}, (xs.take (firstF p xs)).filter (fun x => !p x) = xs.take (firstF p xs)
  | [] => rfl
  | x :: l => by
    unfold firstF
    cases h : p x with
    | true => simp
    | false => simp [h, filter_first (xs := l)]
theorem filter_all {p : Int → Bool} {xs : List Int} (h : ¬ firstF p xs < xs.length) : xs.filter (fun x => !p x) = xs := by
  have := filter_first (p := p) (xs := xs)
  rwa [List.take_of_length_le (by omega)] at this
theorem set_take {W : List Int} {i : Nat} {x : Int} (h : i < W.length) : (W.set i x).take (i + 1) = W.take i ++ [x] := by
  rw [List.take_succ_eq_append_getElem (by simpa using h)]
  simp [List.take_set_of_le]
theorem firstF_at {p : Int → Bool} : ∀ {xs : List Int}, firstF p xs < xs.length → p (xs.getD (firstF p xs) 0) = true
  | [], h => by simp at h
  | x :: l, h => by
    unfold firstF at h ⊢
    cases hx : p x with
    | true => simp [hx]
    | false =>
      simp only [hx, Bool.false_eq_true, if_false] at h ⊢
      have := firstF_at (p := p) (xs := l) (by simpa using h)
      simpa using this

theorem DeleteFunc_spec (xs : List Int) (g : Nat) (caps : List LV) (hc : Fix caps) (p : Int → Bool) (hp : ∀ j, j < xs.length → Spec Try.prog g (.v (.int .i64 (xs.getD j 0)) :: caps) (.v (.bool (p (xs.getD j 0)))) []) (hl : xs.length ≤ 1099511627776) :
    SpecM Try.prog 37 [.own 0, .fn g caps] [.row 2 (I xs)] (.own 1) [none, some (.row 2 (I (xs.filter fun x => !p x)))] := by
  refine SpecM.of_codeC T_ok Try.func37 rfl Try.ntmps37 Try.call37 (Nat.le_of_ble_eq_true rfl) (Nat.le_of_ble_eq_true rfl) (Nat.le_of_ble_eq_true rfl) rfl rfl (CodeV_sound T_ok (by kernel_rfl) rfl ?_)
  simp only [Try.results37, go_sem, Nat.reduceMul, Nat.reduceLeDiff, Nat.reduceLT, reduceIte, reduceCtorEq, Nat.reduceEqDiff, Nat.reduceSub, Nat.reduceAdd]
  refine HereO.call T_ok rfl rfl (IndexFunc_spec xs g caps hc p hp hl) (by simp only [go_sem, Nat.reduceMul, Nat.reduceLeDiff, Nat.reduceLT, reduceIte, reduceCtorEq, Nat.reduceEqDiff, Nat.reduceSub, Nat.reduceAdd, List.toList_toArray, hc.b, osF]) rfl ?_
  simp only [Try.results37, go_sem, Nat.reduceMul, Nat.reduceLeDiff, Nat.reduceLT, reduceIte, reduceCtorEq, Nat.reduceEqDiff, Nat.reduceSub, Nat.reduceAdd]
  refine ⟨fun h => ?_, fun h => ?_⟩
  · have hn : ¬ firstF p xs < xs.length := fun q => by unfold idxF at h; rw [if_pos q] at h; omega
    refine RetMC.conv (Conv.move 4 150 (id := 0) (e := 2) (vs := I xs) (by decide) (by simp only [Try.results37, go_sem, Nat.reduceMul, Nat.reduceLeDiff, Nat.reduceLT, reduceIte, reduceCtorEq, Nat.reduceEqDiff, Nat.reduceSub, Nat.reduceAdd]) (by simp only [Try.results37, go_sem, Nat.reduceMul, Nat.reduceLeDiff, Nat.reduceLT, reduceIte, reduceCtorEq, Nat.reduceEqDiff, Nat.reduceSub, Nat.reduceAdd])) (RetMC.of (RetM.one1 150 (by decide) (by simp only [Try.results37, go_sem, Nat.reduceMul, Nat.reduceLeDiff, Nat.reduceLT, reduceIte, reduceCtorEq, Nat.reduceEqDiff, Nat.reduceSub, Nat.reduceAdd]; rfl) ?_ ?_))
    · rfl
    · simp only [Try.results37, go_sem, Nat.reduceMul, Nat.reduceLeDiff, Nat.reduceLT, reduceIte, reduceCtorEq, Nat.reduceEqDiff, Nat.reduceSub, Nat.reduceAdd]
      rw [filter_all hn]
  · have hn : firstF p xs < xs.length := Classical.byContradiction fun q => h (by unfold idxF; rw [if_neg q])
    have hi : idxF p xs = (firstF p xs : Nat) := by unfold idxF; rw [if_pos hn]
    rw [hi]
    refine ⟨by unfold InR; omega, ?_⟩
    refine Here.loopV T_ok (κ := Nat × Nat × List Int) (fun k => k.1 < k.2.1 ∧ k.2.1 ≤ xs.length ∧ k.2.2.length = xs.length ∧ k.2.2.take k.1 = (xs.take k.2.1).filter (fun x => !p x) ∧ ∀ m, k.2.1 ≤ m → k.2.2.getD m 0 = xs.getD m 0) (fun k => xs.length - k.2.1)
      (fun k => [(0, .own 0), (1, .fn g caps), (5, .v (.int .i64 k.1)), (6, .v (.int .i64 k.2.1))]) (fun k => [(0, .row 2 (I k.2.2))]) (firstF p xs, firstF p xs + 1, xs) ⟨by simp, by simp; omega, rfl, ?_, fun _ _ => rfl⟩ (by simp only [Try.results37, go_sem, Nat.reduceMul, Nat.reduceLeDiff, Nat.reduceLT, reduceIte, reduceCtorEq, Nat.reduceEqDiff, Nat.reduceSub, Nat.reduceAdd]; simp) (by simp only [Try.results37, go_sem, Nat.reduceMul, Nat.reduceLeDiff, Nat.reduceLT, reduceIte, reduceCtorEq, Nat.reduceEqDiff, Nat.reduceSub, Nat.reduceAdd]) ?_
    · simp only
      rw [filter_take hn, firstF_at hn, filter_first]
      simp
    rintro ⟨i, j, W⟩ ⟨h1, h2, h3, h4, h5⟩
    simp only at h1 h2 h3 h4 h5
    simp only [Try.results37, go_sem, Nat.reduceMul, Nat.reduceLeDiff, Nat.reduceLT, reduceIte, reduceCtorEq, Nat.reduceEqDiff, Nat.reduceSub, Nat.reduceAdd]
    rw [h3]
    refine ⟨fun h6 => ⟨by omega, by omega, ?_⟩, fun h6 => ?_⟩
    · rw [h5 j (Nat.le_refl _)]
      refine HereO.call T_ok rfl rfl (hp j (by omega)) (by simp only [go_sem, Nat.reduceMul, Nat.reduceLeDiff, Nat.reduceLT, reduceIte, reduceCtorEq, Nat.reduceEqDiff, Nat.reduceSub, Nat.reduceAdd, List.toList_toArray, hc.b]) rfl ?_
      simp only [Try.results37, go_sem, Nat.reduceMul, Nat.reduceLeDiff, Nat.reduceLT, reduceIte, reduceCtorEq, Nat.reduceEqDiff, Nat.reduceSub, Nat.reduceAdd]
      have hft := filter_take (p := fun x => !p x) (xs := xs) (j := j) (by omega)
      have hfl : ((xs.take j).filter (fun x => !p x)).length = i := by rw [← h4]; simp; omega
      refine ⟨fun h7 => ⟨⟨by omega, by omega⟩, ?_⟩, fun h7 => ?_⟩
      · refine HereO.storeRow T_ok rfl rfl rfl rfl rfl rfl (by rw [I_len]; omega) ?_
        simp only [Try.results37, go_sem, Nat.reduceMul, Nat.reduceLeDiff, Nat.reduceLT, reduceIte, reduceCtorEq, Nat.reduceEqDiff, Nat.reduceSub, Nat.reduceAdd]
        refine ⟨by unfold InR; omega, by unfold InR; omega, (i + 1, j + 1, W.set i (xs.getD j 0)), ⟨by simp; omega, by simp only; omega, by simp; omega, ?_, fun m hm => ?_⟩, by simp only; omega, ⟨by simp, by simp⟩, by rw [I_set]⟩
        · rw [hft, h7, ← h4, set_take (by omega)]
          simp
        · simp only at hm ⊢
          rw [← h5 m (by omega)]
          simp only [List.getD_eq_getElem?_getD]
          rw [List.getElem?_set_ne (by omega)]
      · refine ⟨by unfold InR; omega, (i, j + 1, W), ⟨by simp only; omega, by simp only; omega, h3, ?_, fun m hm => h5 m (by simp only at hm; omega)⟩, by simp only; omega, ⟨rfl, by simp⟩, rfl⟩
        simp only
        rw [hft, h7, ← h4]
        simp
    · have hj : j = xs.length := by omega
      subst hj
      rw [List.take_length] at h4
      refine HereO.slice T_ok i xs.length rfl rfl rfl rfl ⟨_, rfl⟩ (by simp [cutAt, I_len, h3]) (by omega) (by rw [I_len]; omega) ?_
      simp only [Try.results37, go_sem, Nat.reduceMul, Nat.reduceLeDiff, Nat.reduceLT, reduceIte, reduceCtorEq, Nat.reduceEqDiff, Nat.reduceSub, Nat.reduceAdd]
      refine HereO.clear T_ok rfl rfl rfl rfl rfl ?_
      simp only [Try.results37, go_sem, Nat.reduceMul, Nat.reduceLeDiff, Nat.reduceLT, reduceIte, reduceCtorEq, Nat.reduceEqDiff, Nat.reduceSub, Nat.reduceAdd]
      refine HereO.slice T_ok 0 i rfl rfl rfl rfl rfl ⟨_, rfl⟩ (by omega) (by simp [I_len]; omega) ?_
      simp only [Try.results37, go_sem, Nat.reduceMul, Nat.reduceLeDiff, Nat.reduceLT, reduceIte, reduceCtorEq, Nat.reduceEqDiff, Nat.reduceSub, Nat.reduceAdd]
      refine RetMC.conv (Conv.prefix_ 4 150 (id := 0) (n := i - 0) (e := 2) (vs := (I W).take i ++ List.replicate (xs.length - i) (.int .i64 0) ++ (I W).drop (i + (xs.length - i))) (by decide) (by decide) (by simp only [Try.results37, go_sem, Nat.reduceMul, Nat.reduceLeDiff, Nat.reduceLT, reduceIte, reduceCtorEq, Nat.reduceEqDiff, Nat.reduceSub, Nat.reduceAdd]) (by simp only [Try.results37, go_sem, Nat.reduceMul, Nat.reduceLeDiff, Nat.reduceLT, reduceIte, reduceCtorEq, Nat.reduceEqDiff, Nat.reduceSub, Nat.reduceAdd])) (RetMC.of (RetM.one1 150 (by decide) (by simp only [Try.results37, go_sem, Nat.reduceMul, Nat.reduceLeDiff, Nat.reduceLT, reduceIte, reduceCtorEq, Nat.reduceEqDiff, Nat.reduceSub, Nat.reduceAdd]; rfl) ?_ ?_))
      · rfl
      · simp only [Try.results37, go_sem, Nat.reduceMul, Nat.reduceLeDiff, Nat.reduceLT, reduceIte, reduceCtorEq, Nat.reduceEqDiff, Nat.reduceSub, Nat.reduceAdd]
        rw [Nat.sub_zero, List.append_assoc, List.take_append_of_le_length (by simp [I_len]; omega), List.take_take, Nat.min_self, ← h4]
        simp [I, List.map_take]

def cnt (n : Nat) : List Int := upTo (fun a => (a : Int)) n
theorem counting_spec (n : Nat) (hn : n ≤ 4096) : Spec Try.prog 38 [.v (.int .i64 n)] (.own 0) [.row 2 (I (cnt n))] := by
  refine Spec.of_code T_ok Try.func38 rfl Try.ntmps38 Try.call38 (Nat.le_of_ble_eq_true rfl) rfl rfl (CodeV_sound T_ok (by kernel_rfl) rfl ?_)
  simp only [Try.results38, go_sem, Nat.reduceMul, Nat.reduceLeDiff, Nat.reduceLT, reduceIte, reduceCtorEq, Nat.reduceEqDiff, Nat.reduceSub, Nat.reduceAdd]
  refine HereO.buildRow T_ok 104 (I []) rfl rfl rfl (by decide) rfl (by simp only [go_sem, Nat.reduceMul, Nat.reduceLeDiff, Nat.reduceLT, reduceIte, reduceCtorEq, Nat.reduceEqDiff, Nat.reduceSub, Nat.reduceAdd] <;> rfl) rfl (by decide) ?_
  simp only [Try.results38, go_sem, Nat.reduceMul, Nat.reduceLeDiff, Nat.reduceLT, reduceIte, reduceCtorEq, Nat.reduceEqDiff, Nat.reduceSub, Nat.reduceAdd]
  refine Here.loopV T_ok (fun k => k ≤ n) (fun k => n - k) (fun k => [(3, .own 104), (6, .v (.int .i64 n)), (7, .v (.int .i64 k))]) (fun k => [(104, .row 2 (I (cnt k)))]) 0 (by simp) (by simp only [Try.results38, go_sem, Nat.reduceMul, Nat.reduceLeDiff, Nat.reduceLT, reduceIte, reduceCtorEq, Nat.reduceEqDiff, Nat.reduceSub, Nat.reduceAdd]; rfl) (by simp only [Try.results38, go_sem, Nat.reduceMul, Nat.reduceLeDiff, Nat.reduceLT, reduceIte, reduceCtorEq, Nat.reduceEqDiff, Nat.reduceSub, Nat.reduceAdd]; rfl) ?_
  intro k hk
  simp only [Try.results38, go_sem, Nat.reduceMul, Nat.reduceLeDiff, Nat.reduceLT, reduceIte, reduceCtorEq, Nat.reduceEqDiff, Nat.reduceSub, Nat.reduceAdd]
  refine ⟨fun h2 => ?_, fun h2 => ?_⟩
  · refine HereO.buildRow T_ok 119 (I [(k : Int)]) rfl rfl rfl (by decide) rfl (by simp only [go_sem, Nat.reduceMul, Nat.reduceLeDiff, Nat.reduceLT, reduceIte, reduceCtorEq, Nat.reduceEqDiff, Nat.reduceSub, Nat.reduceAdd] <;> rfl) rfl (by decide) ?_
    simp only [Try.results38, go_sem, Nat.reduceMul, Nat.reduceLeDiff, Nat.reduceLT, reduceIte, reduceCtorEq, Nat.reduceEqDiff, Nat.reduceSub, Nat.reduceAdd]
    refine HereO.append T_ok (I [(k : Int)]) rfl rfl (by decide) (by simp only [go_sem, Nat.reduceMul, Nat.reduceLeDiff, Nat.reduceLT, reduceIte, reduceCtorEq, Nat.reduceEqDiff, Nat.reduceSub, Nat.reduceAdd] <;> rfl) (by decide) (by simp only [go_sem, Nat.reduceMul, Nat.reduceLeDiff, Nat.reduceLT, reduceIte, reduceCtorEq, Nat.reduceEqDiff, Nat.reduceSub, Nat.reduceAdd] <;> rfl) (by simp only [go_sem, Nat.reduceMul, Nat.reduceLeDiff, Nat.reduceLT, reduceIte, reduceCtorEq, Nat.reduceEqDiff, Nat.reduceSub, Nat.reduceAdd] <;> rfl) (.own 119 _ _ (by decide) (by simp only [go_sem, Nat.reduceMul, Nat.reduceLeDiff, Nat.reduceLT, reduceIte, reduceCtorEq, Nat.reduceEqDiff, Nat.reduceSub, Nat.reduceAdd] <;> rfl)) (I_one _) (by rw [I_len, I_len, cnt, upTo_len]; simp; omega) ?_
    simp only [Try.results38, go_sem, Nat.reduceMul, Nat.reduceLeDiff, Nat.reduceLT, reduceIte, reduceCtorEq, Nat.reduceEqDiff, Nat.reduceSub, Nat.reduceAdd]
    exact ⟨by unfold InR; omega, k + 1, by omega, by omega, rfl, by rw [I_append, cnt, cnt, upTo_succ]⟩
  · have : k = n := by omega
    subst this
    refine RetT.one 104 (by simp only [Try.results38, go_sem, Nat.reduceMul, Nat.reduceLeDiff, Nat.reduceLT, reduceIte, reduceCtorEq, Nat.reduceEqDiff, Nat.reduceSub, Nat.reduceAdd]; rfl) rfl ?_
    simp only [Try.results38, go_sem, Nat.reduceMul, Nat.reduceLeDiff, Nat.reduceLT, reduceIte, reduceCtorEq, Nat.reduceEqDiff, Nat.reduceSub, Nat.reduceAdd]

theorem cnt_get {n j : Nat} (h : j < (cnt n).length) : (cnt n).getD j 0 = j := by
  unfold cnt at h ⊢
  rw [upTo_len] at h
  rw [upTo_get _ h]
theorem cnt_len (n : Nat) : (cnt n).length = n := upTo_len _ _
theorem those1_spec (g : Nat) (caps : List LV) (hc : Fix caps) (x : Int) (b : Bool) (hp : Spec Try.prog g (.v (.int .i64 x) :: caps) (.v (.bool b)) []) : Spec Try.prog 39 [.v (.int .i64 x), .box [.fn g caps]] (.v (.bool (!b))) [] := by
  refine Spec.of_code T_ok Try.func39 rfl Try.ntmps39 Try.call39 (Nat.le_of_ble_eq_true rfl) rfl rfl (CodeV_sound T_ok (by kernel_rfl) rfl ?_)
  simp only [Try.results39, go_sem, Nat.reduceMul, Nat.reduceLeDiff, Nat.reduceLT, reduceIte, reduceCtorEq, Nat.reduceEqDiff, Nat.reduceSub, Nat.reduceAdd]
  refine HereO.call T_ok rfl rfl hp (by simp only [go_sem, Nat.reduceMul, Nat.reduceLeDiff, Nat.reduceLT, reduceIte, reduceCtorEq, Nat.reduceEqDiff, Nat.reduceSub, Nat.reduceAdd, List.toList_toArray, hc.b]) rfl ?_
  simp only [Try.results39, go_sem, Nat.reduceMul, Nat.reduceLeDiff, Nat.reduceLT, reduceIte, reduceCtorEq, Nat.reduceEqDiff, Nat.reduceSub, Nat.reduceAdd]
theorem those_spec (t : List (List Int)) (hn : t.length ≤ 4096) (g : Nat) (caps : List LV) (hc : Fix caps) (p : Int → Bool) (hp : ∀ j : Nat, j < t.length → Spec Try.prog g (.v (.int .i64 j) :: caps) (.v (.bool (p j))) []) : Spec Try.prog 19 [.agg [.rds (II t)], .fn g caps] (.own 0) [.row 2 (I ((cnt t.length).filter p))] := by
  refine Spec.of_code T_ok Try.func19 rfl Try.ntmps19 Try.call19 (Nat.le_of_ble_eq_true rfl) rfl rfl (CodeV_sound T_ok (by kernel_rfl) rfl ?_)
  simp only [Try.results19, go_sem, Nat.reduceMul, Nat.reduceLeDiff, Nat.reduceLT, reduceIte, reduceCtorEq, Nat.reduceEqDiff, Nat.reduceSub, Nat.reduceAdd]
  refine HereO.call T_ok rfl rfl (order_spec t) (by simp only [go_sem, Nat.reduceMul, Nat.reduceLeDiff, Nat.reduceLT, reduceIte, reduceCtorEq, Nat.reduceEqDiff, Nat.reduceSub, Nat.reduceAdd, List.toList_toArray] <;> first | rfl | exact ⟨rfl, rfl⟩) rfl ?_
  simp only [Try.results19, go_sem, Nat.reduceMul, Nat.reduceLeDiff, Nat.reduceLT, reduceIte, reduceCtorEq, Nat.reduceEqDiff, Nat.reduceSub, Nat.reduceAdd]
  refine HereO.callOwn T_ok 7 rfl rfl (counting_spec t.length hn) (by simp only [go_sem, Nat.reduceMul, Nat.reduceLeDiff, Nat.reduceLT, reduceIte, reduceCtorEq, Nat.reduceEqDiff, Nat.reduceSub, Nat.reduceAdd, List.toList_toArray] <;> first | rfl | exact ⟨rfl, rfl⟩) rfl (by simp) rfl ?_
  simp only [Try.results19, go_sem, Nat.reduceMul, Nat.reduceLeDiff, Nat.reduceLT, reduceIte, reduceCtorEq, Nat.reduceEqDiff, Nat.reduceSub, Nat.reduceAdd]
  have := DeleteFunc_spec (cnt t.length) 39 [.box [.fn g caps]] (Fix.box (Fix.fn hc)) (fun x => !p x) (fun j hj => by
    rw [cnt_get hj]
    exact those1_spec g caps hc j _ (hp j (by rw [cnt_len] at hj; exact hj))) (by rw [cnt_len]; omega)
  simp only [Bool.not_not] at this
  refine HereO.callM T_ok 9 [1112] rfl rfl this (by simp only [go_sem, Nat.reduceMul, Nat.reduceLeDiff, Nat.reduceLT, reduceIte, reduceCtorEq, Nat.reduceEqDiff, Nat.reduceSub, Nat.reduceAdd, List.toList_toArray, ↓reduceIte, hc.m, hc.k]) rfl (by decide) (by decide) rfl rfl rfl (Nat.le_of_ble_eq_true rfl) ?_
  simp only [Try.results19, go_sem, Nat.reduceMul, Nat.reduceLeDiff, Nat.reduceLT, reduceIte, reduceCtorEq, Nat.reduceEqDiff, Nat.reduceSub, Nat.reduceAdd]
  refine RetT.one 1145 (by simp only [Try.results19, go_sem, Nat.reduceMul, Nat.reduceLeDiff, Nat.reduceLT, reduceIte, reduceCtorEq, Nat.reduceEqDiff, Nat.reduceSub, Nat.reduceAdd]; rfl) rfl ?_
  simp only [Try.results19, go_sem, Nat.reduceMul, Nat.reduceLeDiff, Nat.reduceLT, reduceIte, reduceCtorEq, Nat.reduceEqDiff, Nat.reduceSub, Nat.reduceAdd]
end Go.Proofs.Ytipdgkohfmpilaa
