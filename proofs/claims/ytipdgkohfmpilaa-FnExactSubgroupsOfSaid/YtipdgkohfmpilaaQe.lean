/- The closure that orders subgroups, in whatever world. -/
import Derived.Test.YtipdgkohfmpilaaQd
import Derived.Shelf.SlSortCmp.Whole1
import Derived.Lib.Small
import Derived.Lib.Walk
import Derived.Deep.LoopGhost
import Derived.Deep.Draws
namespace Go.Proofs.Ytipdgkohfmpilaa
open Go.RowKit Go.Shelf Go.Lib Go.Sort
set_option linter.unusedVariables false
set_option linter.unusedSimpArgs false

theorem walk_isNaN (x : Int) (w : World) : Calls Try.prog 59 #[.int .i64 x] w fun e w' => e = .returned (.bool false) ∧ w' = w := by
  go_enter Try.func59, Try.ntmps59
  go_wp2
  go_ret
  exact ⟨by simp, rfl⟩
set_option maxHeartbeats 1000000 in
theorem walk_Compare (x y : Int) (w : World) : Calls Try.prog 44 #[.int .i64 x, .int .i64 y] w fun e w' => e = .returned (.int .i64 (Lib.compareInt x y)) ∧ w' = w := by
  go_enter Try.func44, Try.ntmps44
  go_wp2_with (go_at_call 59; refine (walk_isNaN _ _).mono ?_; rintro e w' ⟨rfl, rfl⟩)
  all_goals (go_ret; refine ⟨?_, rfl⟩; unfold Lib.compareInt; (repeat' split) <;> first | rfl | (exfalso; omega))
/-- Rows of one length compared. -/
def cmpR : List Int → List Int → Int
  | x :: a, y :: b => if x = y then cmpR a b else if x < y then -1 else 1
  | _, _ => 0
theorem cmpR_drop {a b : List Int} {k : Nat} (h1 : k < a.length) (h2 : k < b.length) : cmpR (a.drop k) (b.drop k) = if a.getD k 0 = b.getD k 0 then cmpR (a.drop (k + 1)) (b.drop (k + 1)) else if a.getD k 0 < b.getD k 0 then -1 else 1 := by
  rw [List.drop_eq_getElem_cons h1, List.drop_eq_getElem_cons h2]
  simp only [cmpR, List.getD_eq_getElem?_getD, List.getElem?_eq_getElem h1, List.getElem?_eq_getElem h2, Option.getD_some]
set_option maxHeartbeats 2000000 in
set_option maxRecDepth 100000 in
theorem walk_SCompare (b1 o1 b2 o2 n c d : Nat) (xs ys : List Int) (w : World) (hx : xs.length = n) (hy : ys.length = n) (hbig : n ≤ 9223372036854775807) (hc1 : ∀ j, j < n → w.cell? ⟨b1, o1 + j, none⟩ = some (.int .i64 (xs.getD j 0))) (hc2 : ∀ j, j < n → w.cell? ⟨b2, o2 + j, none⟩ = some (.int .i64 (ys.getD j 0))) :
    Calls Try.prog 24 #[.slice (some ⟨b1, o1, none⟩) n c, .slice (some ⟨b2, o2, none⟩) n d] w fun e w' => e = .returned (.int .i64 (cmpR xs ys)) ∧ w' = w := by
  go_enter Try.func24, Try.ntmps24
  go_wp2
  go_loopg [11] n (fun g s11 wr => ∃ k : Nat, k ≤ n ∧ n - k ≤ g ∧ s11 = .int .i64 k ∧ wr = w ∧ Aside (cmpR xs ys = cmpR (xs.drop k) (ys.drop k)))
  case atStart => exact ⟨0, Nat.zero_le _, by omega, rfl, rfl, rfl⟩
  case round =>
    obtain ⟨k, hk, hg, rfl, rfl, A⟩ := hrel
    by_cases hlt : k < n
    · have g1 := hc1 k hlt
      have g2 := hc2 k hlt
      have hd := cmpR_drop (a := xs) (b := ys) (k := k) (by omega) (by omega)
      clear hc1 hc2
      generalize hxk : xs.getD k 0 = x at g1 hd
      generalize hyk : ys.getD k 0 = y at g2 hd
      have hcon := walk_Compare x y
      have hcmp : Aside (cmpR xs ys = if Lib.compareInt x y = 0 then cmpR (xs.drop (k + 1)) (ys.drop (k + 1)) else Lib.compareInt x y) := by
        show _ = _
        rw [A.out, hd]
        unfold Lib.compareInt
        (repeat' split) <;> first | rfl | (exfalso; omega)
      clear hd hxk hyk A
      generalize Lib.compareInt x y = r at hcon hcmp
      go_wp2_with (go_at_call 44; refine (hcon _).mono ?_; rintro e w' ⟨rfl, rfl⟩)
      · rename_i h
        go_ret
        refine ⟨?_, rfl⟩
        rw [hcmp.out, if_neg (by simpa using h)]
        rfl
      · rename_i h
        go_roundg (n - (k + 1))
        case measure => omega
        case rel =>
          refine ⟨k + 1, by omega, by omega, by go_num, rfl, (show Aside _ from ?_)⟩
          rw [hcmp.out, if_pos (by simpa using h)]
          exact rfl
    · have : k = n := by omega
      subst this
      clear hc1 hc2
      go_wp2
      go_ret
      refine ⟨?_, rfl⟩
      rw [A.out, List.drop_of_length_le (by omega)]
      rfl
/-- The order of subgroups. -/
def cmpL (a b : List Int) : Int := if a.length = b.length then cmpR a b else (a.length : Int) - b.length
set_option maxHeartbeats 2000000 in
theorem walk_closure (b1 o1 b2 o2 n m c d : Nat) (xs ys : List Int) (w : World) (hx : xs.length = n) (hy : ys.length = m) (hbig : n ≤ 1048576) (hbig2 : m ≤ 1048576) (hc1 : ∀ j, j < n → w.cell? ⟨b1, o1 + j, none⟩ = some (.int .i64 (xs.getD j 0))) (hc2 : ∀ j, j < m → w.cell? ⟨b2, o2 + j, none⟩ = some (.int .i64 (ys.getD j 0))) :
    Calls Try.prog 23 #[.slice (some ⟨b1, o1, none⟩) n c, .slice (some ⟨b2, o2, none⟩) m d] w fun e w' => e = .returned (.int .i64 (cmpL xs ys)) ∧ w' = w := by
  by_cases hnm : n = m
  · subst hnm
    have hcon := walk_SCompare b1 o1 b2 o2 n c d xs ys w hx hy (by omega) hc1 hc2
    have hL : cmpL xs ys = cmpR xs ys := by unfold cmpL; rw [if_pos (hx.trans hy.symm)]
    rw [hL]
    clear hc1 hc2 hL
    generalize cmpR xs ys = r at hcon ⊢
    go_enter Try.func23, Try.ntmps23
    go_wp2_with (go_at_call 24; refine hcon.mono ?_; rintro e w' ⟨rfl, rfl⟩)
    go_ret
    exact ⟨rfl, rfl⟩
  · have hnm' : ¬ (n : Int) = (m : Int) := by omega
    have hL : cmpL xs ys = (n : Int) - m := by unfold cmpL; rw [if_neg (by omega), hx, hy]
    rw [hL]
    clear hc1 hc2 hL
    go_enter Try.func23, Try.ntmps23
    go_wp2
    go_ret
    exact ⟨rfl, rfl⟩
theorem cmpL_bfr (a b : List Int) : decide (cmpL a b < 0) = bfr a b := by
  have key : ∀ a b : List Int, a.length = b.length → decide (cmpR a b < 0) = rowB a b := by
    intro a
    induction a with
    | nil => intro b h; cases b with
      | nil => rfl
      | cons _ _ => simp at h
    | cons x a ih => intro b h; cases b with
      | nil => simp at h
      | cons y b =>
        by_cases e : x = y
        · rw [show cmpR (x :: a) (y :: b) = cmpR a b by simp only [cmpR, if_pos e], show rowB (x :: a) (y :: b) = rowB a b by simp only [rowB, if_pos e]]
          exact ih b (by simpa using h)
        · rw [show rowB (x :: a) (y :: b) = decide (x < y) by simp only [rowB, if_neg e]]
          by_cases q : x < y
          · rw [show cmpR (x :: a) (y :: b) = -1 by simp only [cmpR, if_neg e, if_pos q], decide_eq_true q]; rfl
          · rw [show cmpR (x :: a) (y :: b) = 1 by simp only [cmpR, if_neg e, if_neg q], decide_eq_false q]; rfl
  unfold cmpL bfr
  by_cases e : a.length = b.length
  · rw [if_pos e, if_pos e]; exact key a b e
  · rw [if_neg e, if_neg e]
    by_cases q : a.length < b.length
    · rw [decide_eq_true q]; exact decide_eq_true (by omega)
    · rw [decide_eq_false q]; exact decide_eq_false (by omega)
end Go.Proofs.Ytipdgkohfmpilaa
