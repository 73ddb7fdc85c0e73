/- The table of the types that the conditions know. -/
import Derived.Test.YtipdgkohfmpilaaVj
import Derived.Test.YtipdgkohfmpilaaVg
import Derived.Test.YtipdgkohfmpilaaProg
namespace Go.Proofs.Ytipdgkohfmpilaa
open Go.RowKit
set_option linter.unusedVariables false
set_option linter.unusedSimpArgs false
def T : TT where
  sc := fun t => if t = 39 then true else if t = 2 then true else if t = 22 then true else if t = 3 then true else if t = 4 then true else if t = 5 then true else if t = 9 then true else if t = 21 then true else if t = 41 then true else if t = 42 then true else if t = 44 then true else if t = 48 then true else if t = 57 then true else if t = 62 then true else if t = 64 then true else if t = 72 then true else if t = 75 then true else false
  ag := fun t => if t = 28 then some 1 else if t = 24 then some 1 else none
  fo := fun t j => if t = 28 then (if j < 1 then some j else none) else if t = 24 then (if j < 1 then some j else none) else none
  sl := fun t => if t = 22 then some 39 else if t = 39 then some 2 else none
  ik := fun t => if t = 2 then some .i64 else if t = 3 then some .i64 else if t = 5 then some .u8 else if t = 21 then some .i32 else if t = 48 then some .u64 else if t = 57 then some .u64 else if t = 64 then some .i64 else if t = 72 then some .u32 else if t = 75 then some .u64 else none
  bo := fun t => if t = 4 then true else false
  el := fun t => if t = 22 then some (39, .slice none 0 0, 24) else if t = 39 then some (2, .int .i64 0, 8) else none
  zr := fun t => if t = 2 then some (.int .i64 0) else if t = 3 then some (.int .i64 0) else if t = 4 then some (.bool false) else if t = 5 then some (.int .u8 0) else if t = 21 then some (.int .i32 0) else if t = 22 then some (.slice none 0 0) else if t = 24 then some (.agg #[.slice none 0 0]) else if t = 28 then some (.agg #[.slice none 0 0]) else if t = 39 then some (.slice none 0 0) else if t = 42 then some (.nilFunc) else if t = 48 then some (.int .u64 0) else if t = 57 then some (.int .u64 0) else if t = 62 then some (.nilFunc) else if t = 64 then some (.int .i64 0) else if t = 72 then some (.int .u32 0) else if t = 75 then some (.int .u64 0) else none
  ea := fun t =>  none
theorem T_sc (t : Nat) : T.sc t = if t = 39 then true else if t = 2 then true else if t = 22 then true else if t = 3 then true else if t = 4 then true else if t = 5 then true else if t = 9 then true else if t = 21 then true else if t = 41 then true else if t = 42 then true else if t = 44 then true else if t = 48 then true else if t = 57 then true else if t = 62 then true else if t = 64 then true else if t = 72 then true else if t = 75 then true else false := rfl
theorem T_ag (t : Nat) : T.ag t = if t = 28 then some 1 else if t = 24 then some 1 else none := rfl
theorem T_fo (t j : Nat) : T.fo t j = if t = 28 then (if j < 1 then some j else none) else if t = 24 then (if j < 1 then some j else none) else none := rfl
theorem T_sl (t : Nat) : T.sl t = if t = 22 then some 39 else if t = 39 then some 2 else none := rfl
theorem T_ik (t : Nat) : T.ik t = if t = 2 then some .i64 else if t = 3 then some .i64 else if t = 5 then some .u8 else if t = 21 then some .i32 else if t = 48 then some .u64 else if t = 57 then some .u64 else if t = 64 then some .i64 else if t = 72 then some .u32 else if t = 75 then some .u64 else none := rfl
theorem T_bo (t : Nat) : T.bo t = if t = 4 then true else false := rfl
theorem T_el (t : Nat) : T.el t = if t = 22 then some (39, .slice none 0 0, 24) else if t = 39 then some (2, .int .i64 0, 8) else none := rfl
theorem T_zr (t : Nat) : T.zr t = if t = 2 then some (.int .i64 0) else if t = 3 then some (.int .i64 0) else if t = 4 then some (.bool false) else if t = 5 then some (.int .u8 0) else if t = 21 then some (.int .i32 0) else if t = 22 then some (.slice none 0 0) else if t = 24 then some (.agg #[.slice none 0 0]) else if t = 28 then some (.agg #[.slice none 0 0]) else if t = 39 then some (.slice none 0 0) else if t = 42 then some (.nilFunc) else if t = 48 then some (.int .u64 0) else if t = 57 then some (.int .u64 0) else if t = 62 then some (.nilFunc) else if t = 64 then some (.int .i64 0) else if t = 72 then some (.int .u32 0) else if t = 75 then some (.int .u64 0) else none := rfl
theorem T_ea (t : Nat) : T.ea t =  none := rfl
theorem T_ok : T.Ok Try.prog where
  sc := by
    intro t h w
    simp only [T] at h
    by_cases h39 : t = 39
    · subst h39
      exact Try.isAgg39 w
    rw [if_neg h39] at h
    by_cases h2 : t = 2
    · subst h2
      exact Try.isAgg2 w
    rw [if_neg h2] at h
    by_cases h22 : t = 22
    · subst h22
      exact Try.isAgg22 w
    rw [if_neg h22] at h
    by_cases h3 : t = 3
    · subst h3
      exact Try.isAgg3 w
    rw [if_neg h3] at h
    by_cases h4 : t = 4
    · subst h4
      exact Try.isAgg4 w
    rw [if_neg h4] at h
    by_cases h5 : t = 5
    · subst h5
      exact Try.isAgg5 w
    rw [if_neg h5] at h
    by_cases h9 : t = 9
    · subst h9
      exact Try.isAgg9 w
    rw [if_neg h9] at h
    by_cases h21 : t = 21
    · subst h21
      exact Try.isAgg21 w
    rw [if_neg h21] at h
    by_cases h41 : t = 41
    · subst h41
      exact Try.isAgg41 w
    rw [if_neg h41] at h
    by_cases h42 : t = 42
    · subst h42
      exact Try.isAgg42 w
    rw [if_neg h42] at h
    by_cases h44 : t = 44
    · subst h44
      exact Try.isAgg44 w
    rw [if_neg h44] at h
    by_cases h48 : t = 48
    · subst h48
      exact Try.isAgg48 w
    rw [if_neg h48] at h
    by_cases h57 : t = 57
    · subst h57
      exact Try.isAgg57 w
    rw [if_neg h57] at h
    by_cases h62 : t = 62
    · subst h62
      exact Try.isAgg62 w
    rw [if_neg h62] at h
    by_cases h64 : t = 64
    · subst h64
      exact Try.isAgg64 w
    rw [if_neg h64] at h
    by_cases h72 : t = 72
    · subst h72
      exact Try.isAgg72 w
    rw [if_neg h72] at h
    by_cases h75 : t = 75
    · subst h75
      exact Try.isAgg75 w
    rw [if_neg h75] at h
    cases h
  ag := by
    intro t k h w
    simp only [T] at h
    by_cases h28 : t = 28
    · subst h28
      rw [if_pos rfl] at h
      cases h
      exact ⟨Try.isAgg28 w, Try.sizeOf28 w⟩
    rw [if_neg h28] at h
    by_cases h24 : t = 24
    · subst h24
      rw [if_pos rfl] at h
      cases h
      exact ⟨Try.isAgg24 w, Try.sizeOf24 w⟩
    rw [if_neg h24] at h
    cases h
  fo := by
    intro t j o h w a
    simp only [T] at h
    by_cases h28 : t = 28
    · subst h28
      rw [if_pos rfl] at h
      have hj : j < 1 := by
        by_cases q : j < 1
        · exact q
        · rw [if_neg q] at h; cases h
      rw [if_pos hj] at h
      cases h
      obtain rfl : j = 0 := by omega
      simp [Instr.fieldAt, Instr.sureAddr, fieldPlace, Try.runUnderlying28, Try.sizeOf22]
    rw [if_neg h28] at h
    by_cases h24 : t = 24
    · subst h24
      rw [if_pos rfl] at h
      have hj : j < 1 := by
        by_cases q : j < 1
        · exact q
        · rw [if_neg q] at h; cases h
      rw [if_pos hj] at h
      cases h
      obtain rfl : j = 0 := by omega
      simp [Instr.fieldAt, Instr.sureAddr, fieldPlace, Try.runUnderlying24, Try.sizeOf22]
    rw [if_neg h24] at h
    cases h
  sl := by
    intro t e h w
    simp only [T] at h
    by_cases h22 : t = 22
    · subst h22
      rw [if_pos rfl] at h
      cases h
      exact ⟨Try.runUnderlying22 w, Try.sizeOf39 w⟩
    rw [if_neg h22] at h
    by_cases h39 : t = 39
    · subst h39
      rw [if_pos rfl] at h
      cases h
      exact ⟨Try.runUnderlying39 w, Try.sizeOf2 w⟩
    rw [if_neg h39] at h
    cases h
  ik := by
    intro t k h
    simp only [T] at h
    by_cases h2 : t = 2
    · subst h2
      rw [if_pos rfl] at h
      cases h
      exact Try.underlying2
    rw [if_neg h2] at h
    by_cases h3 : t = 3
    · subst h3
      rw [if_pos rfl] at h
      cases h
      exact Try.underlying3
    rw [if_neg h3] at h
    by_cases h5 : t = 5
    · subst h5
      rw [if_pos rfl] at h
      cases h
      exact Try.underlying5
    rw [if_neg h5] at h
    by_cases h21 : t = 21
    · subst h21
      rw [if_pos rfl] at h
      cases h
      exact Try.underlying21
    rw [if_neg h21] at h
    by_cases h48 : t = 48
    · subst h48
      rw [if_pos rfl] at h
      cases h
      exact Try.underlying48
    rw [if_neg h48] at h
    by_cases h57 : t = 57
    · subst h57
      rw [if_pos rfl] at h
      cases h
      exact Try.underlying57
    rw [if_neg h57] at h
    by_cases h64 : t = 64
    · subst h64
      rw [if_pos rfl] at h
      cases h
      exact Try.underlying64
    rw [if_neg h64] at h
    by_cases h72 : t = 72
    · subst h72
      rw [if_pos rfl] at h
      cases h
      exact Try.underlying72
    rw [if_neg h72] at h
    by_cases h75 : t = 75
    · subst h75
      rw [if_pos rfl] at h
      cases h
      exact Try.underlying75
    rw [if_neg h75] at h
    cases h
  bo := by
    intro t h
    simp only [T] at h
    by_cases h4 : t = 4
    · subst h4
      exact Try.underlying4
    rw [if_neg h4] at h
    cases h
  el := by
    intro t e z b h
    simp only [T] at h
    by_cases h22 : t = 22
    · subst h22
      rw [if_pos rfl] at h
      cases h
      exact ⟨Try.underlying22, Try.t39, by kernel_rfl, by kernel_rfl, by kernel_rfl, by kernel_rfl, rfl⟩
    rw [if_neg h22] at h
    by_cases h39 : t = 39
    · subst h39
      rw [if_pos rfl] at h
      cases h
      exact ⟨Try.underlying39, Try.t2, by kernel_rfl, by kernel_rfl, by kernel_rfl, by kernel_rfl, rfl⟩
    rw [if_neg h39] at h
    cases h
  zr := by
    intro t z h w
    simp only [T] at h
    by_cases h2 : t = 2
    · subst h2
      rw [if_pos rfl] at h
      cases h
      exact Try.zeroValue2 w
    rw [if_neg h2] at h
    by_cases h3 : t = 3
    · subst h3
      rw [if_pos rfl] at h
      cases h
      exact Try.zeroValue3 w
    rw [if_neg h3] at h
    by_cases h4 : t = 4
    · subst h4
      rw [if_pos rfl] at h
      cases h
      exact Try.zeroValue4 w
    rw [if_neg h4] at h
    by_cases h5 : t = 5
    · subst h5
      rw [if_pos rfl] at h
      cases h
      exact Try.zeroValue5 w
    rw [if_neg h5] at h
    by_cases h21 : t = 21
    · subst h21
      rw [if_pos rfl] at h
      cases h
      exact Try.zeroValue21 w
    rw [if_neg h21] at h
    by_cases h22 : t = 22
    · subst h22
      rw [if_pos rfl] at h
      cases h
      exact Try.zeroValue22 w
    rw [if_neg h22] at h
    by_cases h24 : t = 24
    · subst h24
      rw [if_pos rfl] at h
      cases h
      exact Try.zeroValue24 w
    rw [if_neg h24] at h
    by_cases h28 : t = 28
    · subst h28
      rw [if_pos rfl] at h
      cases h
      exact Try.zeroValue28 w
    rw [if_neg h28] at h
    by_cases h39 : t = 39
    · subst h39
      rw [if_pos rfl] at h
      cases h
      exact Try.zeroValue39 w
    rw [if_neg h39] at h
    by_cases h42 : t = 42
    · subst h42
      rw [if_pos rfl] at h
      cases h
      exact Try.zeroValue42 w
    rw [if_neg h42] at h
    by_cases h48 : t = 48
    · subst h48
      rw [if_pos rfl] at h
      cases h
      exact Try.zeroValue48 w
    rw [if_neg h48] at h
    by_cases h57 : t = 57
    · subst h57
      rw [if_pos rfl] at h
      cases h
      exact Try.zeroValue57 w
    rw [if_neg h57] at h
    by_cases h62 : t = 62
    · subst h62
      rw [if_pos rfl] at h
      cases h
      exact Try.zeroValue62 w
    rw [if_neg h62] at h
    by_cases h64 : t = 64
    · subst h64
      rw [if_pos rfl] at h
      cases h
      exact Try.zeroValue64 w
    rw [if_neg h64] at h
    by_cases h72 : t = 72
    · subst h72
      rw [if_pos rfl] at h
      cases h
      exact Try.zeroValue72 w
    rw [if_neg h72] at h
    by_cases h75 : t = 75
    · subst h75
      rw [if_pos rfl] at h
      cases h
      exact Try.zeroValue75 w
    rw [if_neg h75] at h
    cases h
  ea := by
    intro t e h
    simp only [T] at h

    cases h
  s1 := by
    intro t h w
    simp only [T] at h
    by_cases h39 : t = 39
    · subst h39
      exact Try.sizeOf39 w
    rw [if_neg h39] at h
    by_cases h2 : t = 2
    · subst h2
      exact Try.sizeOf2 w
    rw [if_neg h2] at h
    by_cases h22 : t = 22
    · subst h22
      exact Try.sizeOf22 w
    rw [if_neg h22] at h
    by_cases h3 : t = 3
    · subst h3
      exact Try.sizeOf3 w
    rw [if_neg h3] at h
    by_cases h4 : t = 4
    · subst h4
      exact Try.sizeOf4 w
    rw [if_neg h4] at h
    by_cases h5 : t = 5
    · subst h5
      exact Try.sizeOf5 w
    rw [if_neg h5] at h
    by_cases h9 : t = 9
    · subst h9
      exact Try.sizeOf9 w
    rw [if_neg h9] at h
    by_cases h21 : t = 21
    · subst h21
      exact Try.sizeOf21 w
    rw [if_neg h21] at h
    by_cases h41 : t = 41
    · subst h41
      exact Try.sizeOf41 w
    rw [if_neg h41] at h
    by_cases h42 : t = 42
    · subst h42
      exact Try.sizeOf42 w
    rw [if_neg h42] at h
    by_cases h44 : t = 44
    · subst h44
      exact Try.sizeOf44 w
    rw [if_neg h44] at h
    by_cases h48 : t = 48
    · subst h48
      exact Try.sizeOf48 w
    rw [if_neg h48] at h
    by_cases h57 : t = 57
    · subst h57
      exact Try.sizeOf57 w
    rw [if_neg h57] at h
    by_cases h62 : t = 62
    · subst h62
      exact Try.sizeOf62 w
    rw [if_neg h62] at h
    by_cases h64 : t = 64
    · subst h64
      exact Try.sizeOf64 w
    rw [if_neg h64] at h
    by_cases h72 : t = 72
    · subst h72
      exact Try.sizeOf72 w
    rw [if_neg h72] at h
    by_cases h75 : t = 75
    · subst h75
      exact Try.sizeOf75 w
    rw [if_neg h75] at h
    cases h
end Go.Proofs.Ytipdgkohfmpilaa
