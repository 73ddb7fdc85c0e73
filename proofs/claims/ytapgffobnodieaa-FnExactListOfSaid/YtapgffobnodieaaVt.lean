/- The table of the types that the conditions know. -/
import Derived.Test.YtapgffobnodieaaVm
import Derived.Test.YtapgffobnodieaaVg
import Derived.Test.YtapgffobnodieaaProg
namespace Go.Proofs.Ytapgffobnodieaa
open Go.RowKit
set_option linter.unusedVariables false
set_option linter.unusedSimpArgs false
def T : TT where
  sc := fun t => if t = 41 then true else if t = 2 then true else if t = 23 then true else if t = 3 then true else if t = 4 then true else if t = 5 then true else if t = 9 then true else if t = 21 then true else if t = 68 then true else if t = 73 then true else if t = 76 then true else if t = 102 then true else false
  ag := fun t => if t = 28 then some 1 else if t = 56 then some 2 else if t = 25 then some 1 else if t = 53 then some 2 else none
  fo := fun t j => if t = 28 then (if j < 1 then some j else none) else if t = 56 then (if j < 2 then some j else none) else if t = 25 then (if j < 1 then some j else none) else if t = 53 then (if j < 2 then some j else none) else none
  sl := fun t => if t = 23 then some 41 else if t = 41 then some 2 else if t = 92 then some 28 else none
  ik := fun t => if t = 2 then some .i64 else if t = 3 then some .i64 else if t = 5 then some .u8 else if t = 21 then some .i32 else if t = 102 then some .u32 else none
  bo := fun t => if t = 4 then true else false
  el := fun t => if t = 23 then some (41, .slice none 0 0, 24) else if t = 41 then some (2, .int .i64 0, 8) else none
  zr := fun t => if t = 2 then some (.int .i64 0) else if t = 3 then some (.int .i64 0) else if t = 4 then some (.bool false) else if t = 5 then some (.int .u8 0) else if t = 21 then some (.int .i32 0) else if t = 23 then some (.slice none 0 0) else if t = 25 then some (.agg #[.slice none 0 0]) else if t = 28 then some (.agg #[.slice none 0 0]) else if t = 41 then some (.slice none 0 0) else if t = 53 then some (.agg #[.int .i64 0, .slice none 0 0]) else if t = 56 then some (.agg #[.int .i64 0, .slice none 0 0]) else if t = 102 then some (.int .u32 0) else none
  ea := fun t => if t = 92 then some 28 else none
theorem T_sc (t : Nat) : T.sc t = if t = 41 then true else if t = 2 then true else if t = 23 then true else if t = 3 then true else if t = 4 then true else if t = 5 then true else if t = 9 then true else if t = 21 then true else if t = 68 then true else if t = 73 then true else if t = 76 then true else if t = 102 then true else false := rfl
theorem T_ag (t : Nat) : T.ag t = if t = 28 then some 1 else if t = 56 then some 2 else if t = 25 then some 1 else if t = 53 then some 2 else none := rfl
theorem T_fo (t j : Nat) : T.fo t j = if t = 28 then (if j < 1 then some j else none) else if t = 56 then (if j < 2 then some j else none) else if t = 25 then (if j < 1 then some j else none) else if t = 53 then (if j < 2 then some j else none) else none := rfl
theorem T_sl (t : Nat) : T.sl t = if t = 23 then some 41 else if t = 41 then some 2 else if t = 92 then some 28 else none := rfl
theorem T_ik (t : Nat) : T.ik t = if t = 2 then some .i64 else if t = 3 then some .i64 else if t = 5 then some .u8 else if t = 21 then some .i32 else if t = 102 then some .u32 else none := rfl
theorem T_bo (t : Nat) : T.bo t = if t = 4 then true else false := rfl
theorem T_el (t : Nat) : T.el t = if t = 23 then some (41, .slice none 0 0, 24) else if t = 41 then some (2, .int .i64 0, 8) else none := rfl
theorem T_zr (t : Nat) : T.zr t = if t = 2 then some (.int .i64 0) else if t = 3 then some (.int .i64 0) else if t = 4 then some (.bool false) else if t = 5 then some (.int .u8 0) else if t = 21 then some (.int .i32 0) else if t = 23 then some (.slice none 0 0) else if t = 25 then some (.agg #[.slice none 0 0]) else if t = 28 then some (.agg #[.slice none 0 0]) else if t = 41 then some (.slice none 0 0) else if t = 53 then some (.agg #[.int .i64 0, .slice none 0 0]) else if t = 56 then some (.agg #[.int .i64 0, .slice none 0 0]) else if t = 102 then some (.int .u32 0) else none := rfl
theorem T_ea (t : Nat) : T.ea t = if t = 92 then some 28 else none := rfl
theorem T_ok : T.Ok Try.prog where
  sc := by
    intro t h w
    simp only [T] at h
    by_cases h41 : t = 41
    · subst h41
      exact Try.isAgg41 w
    rw [if_neg h41] at h
    by_cases h2 : t = 2
    · subst h2
      exact Try.isAgg2 w
    rw [if_neg h2] at h
    by_cases h23 : t = 23
    · subst h23
      exact Try.isAgg23 w
    rw [if_neg h23] at h
    by_cases h3 : t = 3
    · subst h3
      exact Try.isAgg3 w
    rw [if_neg h3] at h
    by_cases h4 : t = 4
    · subst h4
      exact Try.isAgg4 w
    rw [if_neg h4] at h
    by_cases h5 : t = 5
    · subst h5
      exact Try.isAgg5 w
    rw [if_neg h5] at h
    by_cases h9 : t = 9
    · subst h9
      exact Try.isAgg9 w
    rw [if_neg h9] at h
    by_cases h21 : t = 21
    · subst h21
      exact Try.isAgg21 w
    rw [if_neg h21] at h
    by_cases h68 : t = 68
    · subst h68
      exact Try.isAgg68 w
    rw [if_neg h68] at h
    by_cases h73 : t = 73
    · subst h73
      exact Try.isAgg73 w
    rw [if_neg h73] at h
    by_cases h76 : t = 76
    · subst h76
      exact Try.isAgg76 w
    rw [if_neg h76] at h
    by_cases h102 : t = 102
    · subst h102
      exact Try.isAgg102 w
    rw [if_neg h102] at h
    cases h
  ag := by
    intro t k h w
    simp only [T] at h
    by_cases h28 : t = 28
    · subst h28
      rw [if_pos rfl] at h
      cases h
      exact ⟨Try.isAgg28 w, Try.sizeOf28 w⟩
    rw [if_neg h28] at h
    by_cases h56 : t = 56
    · subst h56
      rw [if_pos rfl] at h
      cases h
      exact ⟨Try.isAgg56 w, Try.sizeOf56 w⟩
    rw [if_neg h56] at h
    by_cases h25 : t = 25
    · subst h25
      rw [if_pos rfl] at h
      cases h
      exact ⟨Try.isAgg25 w, Try.sizeOf25 w⟩
    rw [if_neg h25] at h
    by_cases h53 : t = 53
    · subst h53
      rw [if_pos rfl] at h
      cases h
      exact ⟨Try.isAgg53 w, Try.sizeOf53 w⟩
    rw [if_neg h53] at h
    cases h
  fo := by
    intro t j o h w a
    simp only [T] at h
    by_cases h28 : t = 28
    · subst h28
      rw [if_pos rfl] at h
      have hj : j < 1 := by
        by_cases q : j < 1
        · exact q
        · rw [if_neg q] at h; cases h
      rw [if_pos hj] at h
      cases h
      obtain rfl : j = 0 := by omega
      simp [Instr.fieldAt, Instr.sureAddr, fieldPlace, Try.runUnderlying28, Try.sizeOf23]
    rw [if_neg h28] at h
    by_cases h56 : t = 56
    · subst h56
      rw [if_pos rfl] at h
      have hj : j < 2 := by
        by_cases q : j < 2
        · exact q
        · rw [if_neg q] at h; cases h
      rw [if_pos hj] at h
      cases h
      obtain rfl | rfl : j = 0 ∨ j = 1 := by omega
      · simp [Instr.fieldAt, Instr.sureAddr, fieldPlace, Try.runUnderlying56, Try.sizeOf2]
      · simp [Instr.fieldAt, Instr.sureAddr, fieldPlace, Try.runUnderlying56, Try.sizeOf41]
    rw [if_neg h56] at h
    by_cases h25 : t = 25
    · subst h25
      rw [if_pos rfl] at h
      have hj : j < 1 := by
        by_cases q : j < 1
        · exact q
        · rw [if_neg q] at h; cases h
      rw [if_pos hj] at h
      cases h
      obtain rfl : j = 0 := by omega
      simp [Instr.fieldAt, Instr.sureAddr, fieldPlace, Try.runUnderlying25, Try.sizeOf23]
    rw [if_neg h25] at h
    by_cases h53 : t = 53
    · subst h53
      rw [if_pos rfl] at h
      have hj : j < 2 := by
        by_cases q : j < 2
        · exact q
        · rw [if_neg q] at h; cases h
      rw [if_pos hj] at h
      cases h
      obtain rfl | rfl : j = 0 ∨ j = 1 := by omega
      · simp [Instr.fieldAt, Instr.sureAddr, fieldPlace, Try.runUnderlying53, Try.sizeOf2]
      · simp [Instr.fieldAt, Instr.sureAddr, fieldPlace, Try.runUnderlying53, Try.sizeOf41]
    rw [if_neg h53] at h
    cases h
  sl := by
    intro t e h w
    simp only [T] at h
    by_cases h23 : t = 23
    · subst h23
      rw [if_pos rfl] at h
      cases h
      exact ⟨Try.runUnderlying23 w, Try.sizeOf41 w⟩
    rw [if_neg h23] at h
    by_cases h41 : t = 41
    · subst h41
      rw [if_pos rfl] at h
      cases h
      exact ⟨Try.runUnderlying41 w, Try.sizeOf2 w⟩
    rw [if_neg h41] at h
    by_cases h92 : t = 92
    · subst h92
      rw [if_pos rfl] at h
      cases h
      exact ⟨Try.runUnderlying92 w, Try.sizeOf28 w⟩
    rw [if_neg h92] at h
    cases h
  ik := by
    intro t k h
    simp only [T] at h
    by_cases h2 : t = 2
    · subst h2
      rw [if_pos rfl] at h
      cases h
      exact Try.underlying2
    rw [if_neg h2] at h
    by_cases h3 : t = 3
    · subst h3
      rw [if_pos rfl] at h
      cases h
      exact Try.underlying3
    rw [if_neg h3] at h
    by_cases h5 : t = 5
    · subst h5
      rw [if_pos rfl] at h
      cases h
      exact Try.underlying5
    rw [if_neg h5] at h
    by_cases h21 : t = 21
    · subst h21
      rw [if_pos rfl] at h
      cases h
      exact Try.underlying21
    rw [if_neg h21] at h
    by_cases h102 : t = 102
    · subst h102
      rw [if_pos rfl] at h
      cases h
      exact Try.underlying102
    rw [if_neg h102] at h
    cases h
  bo := by
    intro t h
    simp only [T] at h
    by_cases h4 : t = 4
    · subst h4
      exact Try.underlying4
    rw [if_neg h4] at h
    cases h
  el := by
    intro t e z b h
    simp only [T] at h
    by_cases h23 : t = 23
    · subst h23
      rw [if_pos rfl] at h
      cases h
      exact ⟨Try.underlying23, Try.t41, by kernel_rfl, by kernel_rfl, by kernel_rfl, by kernel_rfl, rfl⟩
    rw [if_neg h23] at h
    by_cases h41 : t = 41
    · subst h41
      rw [if_pos rfl] at h
      cases h
      exact ⟨Try.underlying41, Try.t2, by kernel_rfl, by kernel_rfl, by kernel_rfl, by kernel_rfl, rfl⟩
    rw [if_neg h41] at h
    cases h
  zr := by
    intro t z h w
    simp only [T] at h
    by_cases h2 : t = 2
    · subst h2
      rw [if_pos rfl] at h
      cases h
      exact Try.zeroValue2 w
    rw [if_neg h2] at h
    by_cases h3 : t = 3
    · subst h3
      rw [if_pos rfl] at h
      cases h
      exact Try.zeroValue3 w
    rw [if_neg h3] at h
    by_cases h4 : t = 4
    · subst h4
      rw [if_pos rfl] at h
      cases h
      exact Try.zeroValue4 w
    rw [if_neg h4] at h
    by_cases h5 : t = 5
    · subst h5
      rw [if_pos rfl] at h
      cases h
      exact Try.zeroValue5 w
    rw [if_neg h5] at h
    by_cases h21 : t = 21
    · subst h21
      rw [if_pos rfl] at h
      cases h
      exact Try.zeroValue21 w
    rw [if_neg h21] at h
    by_cases h23 : t = 23
    · subst h23
      rw [if_pos rfl] at h
      cases h
      exact Try.zeroValue23 w
    rw [if_neg h23] at h
    by_cases h25 : t = 25
    · subst h25
      rw [if_pos rfl] at h
      cases h
      exact Try.zeroValue25 w
    rw [if_neg h25] at h
    by_cases h28 : t = 28
    · subst h28
      rw [if_pos rfl] at h
      cases h
      exact Try.zeroValue28 w
    rw [if_neg h28] at h
    by_cases h41 : t = 41
    · subst h41
      rw [if_pos rfl] at h
      cases h
      exact Try.zeroValue41 w
    rw [if_neg h41] at h
    by_cases h53 : t = 53
    · subst h53
      rw [if_pos rfl] at h
      cases h
      exact Try.zeroValue53 w
    rw [if_neg h53] at h
    by_cases h56 : t = 56
    · subst h56
      rw [if_pos rfl] at h
      cases h
      exact Try.zeroValue56 w
    rw [if_neg h56] at h
    by_cases h102 : t = 102
    · subst h102
      rw [if_pos rfl] at h
      cases h
      exact Try.zeroValue102 w
    rw [if_neg h102] at h
    cases h
  ea := by
    intro t e h
    simp only [T] at h
    by_cases h92 : t = 92
    · subst h92
      rw [if_pos rfl] at h
      cases h
      exact ⟨Try.underlying92, Try.t28, .agg #[.slice none 0 0], by kernel_rfl, by kernel_rfl, by kernel_rfl, rfl⟩
    rw [if_neg h92] at h
    cases h
  s1 := by
    intro t h w
    simp only [T] at h
    by_cases h41 : t = 41
    · subst h41
      exact Try.sizeOf41 w
    rw [if_neg h41] at h
    by_cases h2 : t = 2
    · subst h2
      exact Try.sizeOf2 w
    rw [if_neg h2] at h
    by_cases h23 : t = 23
    · subst h23
      exact Try.sizeOf23 w
    rw [if_neg h23] at h
    by_cases h3 : t = 3
    · subst h3
      exact Try.sizeOf3 w
    rw [if_neg h3] at h
    by_cases h4 : t = 4
    · subst h4
      exact Try.sizeOf4 w
    rw [if_neg h4] at h
    by_cases h5 : t = 5
    · subst h5
      exact Try.sizeOf5 w
    rw [if_neg h5] at h
    by_cases h9 : t = 9
    · subst h9
      exact Try.sizeOf9 w
    rw [if_neg h9] at h
    by_cases h21 : t = 21
    · subst h21
      exact Try.sizeOf21 w
    rw [if_neg h21] at h
    by_cases h68 : t = 68
    · subst h68
      exact Try.sizeOf68 w
    rw [if_neg h68] at h
    by_cases h73 : t = 73
    · subst h73
      exact Try.sizeOf73 w
    rw [if_neg h73] at h
    by_cases h76 : t = 76
    · subst h76
      exact Try.sizeOf76 w
    rw [if_neg h76] at h
    by_cases h102 : t = 102
    · subst h102
      exact Try.sizeOf102 w
    rw [if_neg h102] at h
    cases h
end Go.Proofs.Ytapgffobnodieaa
