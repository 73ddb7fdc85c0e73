/- The table of the types that the conditions know. -/
import Derived.Test.YtkdiodegilidgaaDoorVj
import Derived.Test.YtkdiodegilidgaaDoorVg
import Derived.Test.YtkdiodegilidgaaDoorProg
namespace Go.Proofs.YtkdiodegilidgaaDoor
open Go.RowKit
set_option linter.unusedVariables false
set_option linter.unusedSimpArgs false
def T : TT where
  sc := fun t => if t = 31 then true else if t = 2 then true else if t = 22 then true else if t = 3 then true else if t = 4 then true else if t = 5 then true else if t = 9 then true else if t = 21 then true else if t = 49 then true else if t = 70 then true else if t = 80 then true else if t = 86 then true else if t = 87 then true else if t = 104 then true else if t = 107 then true else if t = 117 then true else false
  ag := fun t => if t = 24 then some 1 else if t = 39 then some 2 else if t = 30 then some 1 else if t = 33 then some 2 else none
  fo := fun t j => if t = 24 then (if j < 1 then some j else none) else if t = 39 then (if j < 2 then some j else none) else if t = 30 then (if j < 1 then some j else none) else if t = 33 then (if j < 2 then some j else none) else none
  sl := fun t => if t = 22 then some 31 else if t = 31 then some 2 else if t = 49 then some 9 else if t = 87 then some 5 else none
  ik := fun t => if t = 2 then some .i64 else if t = 3 then some .i64 else if t = 5 then some .u8 else if t = 21 then some .i32 else if t = 104 then some .u64 else if t = 107 then some .u64 else if t = 117 then some .u32 else none
  bo := fun t => if t = 4 then true else false
  el := fun t => if t = 22 then some (31, .slice none 0 0, 24) else if t = 31 then some (2, .int .i64 0, 8) else if t = 49 then some (9, .string ByteArray.empty, 16) else if t = 87 then some (5, .int .u8 0, 1) else none
  zr := fun t => if t = 2 then some (.int .i64 0) else if t = 3 then some (.int .i64 0) else if t = 4 then some (.bool false) else if t = 5 then some (.int .u8 0) else if t = 21 then some (.int .i32 0) else if t = 22 then some (.slice none 0 0) else if t = 24 then some (.agg #[.slice none 0 0]) else if t = 30 then some (.agg #[.slice none 0 0]) else if t = 31 then some (.slice none 0 0) else if t = 33 then some (.agg #[.int .i64 0, .slice none 0 0]) else if t = 39 then some (.agg #[.int .i64 0, .slice none 0 0]) else if t = 49 then some (.slice none 0 0) else if t = 70 then some (.slice none 0 0) else if t = 87 then some (.slice none 0 0) else if t = 104 then some (.int .u64 0) else if t = 107 then some (.int .u64 0) else if t = 117 then some (.int .u32 0) else none
  ea := fun t =>  none
theorem T_sc (t : Nat) : T.sc t = if t = 31 then true else if t = 2 then true else if t = 22 then true else if t = 3 then true else if t = 4 then true else if t = 5 then true else if t = 9 then true else if t = 21 then true else if t = 49 then true else if t = 70 then true else if t = 80 then true else if t = 86 then true else if t = 87 then true else if t = 104 then true else if t = 107 then true else if t = 117 then true else false := rfl
theorem T_ag (t : Nat) : T.ag t = if t = 24 then some 1 else if t = 39 then some 2 else if t = 30 then some 1 else if t = 33 then some 2 else none := rfl
theorem T_fo (t j : Nat) : T.fo t j = if t = 24 then (if j < 1 then some j else none) else if t = 39 then (if j < 2 then some j else none) else if t = 30 then (if j < 1 then some j else none) else if t = 33 then (if j < 2 then some j else none) else none := rfl
theorem T_sl (t : Nat) : T.sl t = if t = 22 then some 31 else if t = 31 then some 2 else if t = 49 then some 9 else if t = 87 then some 5 else none := rfl
theorem T_ik (t : Nat) : T.ik t = if t = 2 then some .i64 else if t = 3 then some .i64 else if t = 5 then some .u8 else if t = 21 then some .i32 else if t = 104 then some .u64 else if t = 107 then some .u64 else if t = 117 then some .u32 else none := rfl
theorem T_bo (t : Nat) : T.bo t = if t = 4 then true else false := rfl
theorem T_el (t : Nat) : T.el t = if t = 22 then some (31, .slice none 0 0, 24) else if t = 31 then some (2, .int .i64 0, 8) else if t = 49 then some (9, .string ByteArray.empty, 16) else if t = 87 then some (5, .int .u8 0, 1) else none := rfl
theorem T_zr (t : Nat) : T.zr t = if t = 2 then some (.int .i64 0) else if t = 3 then some (.int .i64 0) else if t = 4 then some (.bool false) else if t = 5 then some (.int .u8 0) else if t = 21 then some (.int .i32 0) else if t = 22 then some (.slice none 0 0) else if t = 24 then some (.agg #[.slice none 0 0]) else if t = 30 then some (.agg #[.slice none 0 0]) else if t = 31 then some (.slice none 0 0) else if t = 33 then some (.agg #[.int .i64 0, .slice none 0 0]) else if t = 39 then some (.agg #[.int .i64 0, .slice none 0 0]) else if t = 49 then some (.slice none 0 0) else if t = 70 then some (.slice none 0 0) else if t = 87 then some (.slice none 0 0) else if t = 104 then some (.int .u64 0) else if t = 107 then some (.int .u64 0) else if t = 117 then some (.int .u32 0) else none := rfl
theorem T_ea (t : Nat) : T.ea t =  none := rfl
theorem T_ok : T.Ok Tryd.prog where
  sc := by
    intro t h w
    simp only [T] at h
    by_cases h31 : t = 31
    · subst h31
      exact Tryd.isAgg31 w
    rw [if_neg h31] at h
    by_cases h2 : t = 2
    · subst h2
      exact Tryd.isAgg2 w
    rw [if_neg h2] at h
    by_cases h22 : t = 22
    · subst h22
      exact Tryd.isAgg22 w
    rw [if_neg h22] at h
    by_cases h3 : t = 3
    · subst h3
      exact Tryd.isAgg3 w
    rw [if_neg h3] at h
    by_cases h4 : t = 4
    · subst h4
      exact Tryd.isAgg4 w
    rw [if_neg h4] at h
    by_cases h5 : t = 5
    · subst h5
      exact Tryd.isAgg5 w
    rw [if_neg h5] at h
    by_cases h9 : t = 9
    · subst h9
      exact Tryd.isAgg9 w
    rw [if_neg h9] at h
    by_cases h21 : t = 21
    · subst h21
      exact Tryd.isAgg21 w
    rw [if_neg h21] at h
    by_cases h49 : t = 49
    · subst h49
      exact Tryd.isAgg49 w
    rw [if_neg h49] at h
    by_cases h70 : t = 70
    · subst h70
      exact Tryd.isAgg70 w
    rw [if_neg h70] at h
    by_cases h80 : t = 80
    · subst h80
      exact Tryd.isAgg80 w
    rw [if_neg h80] at h
    by_cases h86 : t = 86
    · subst h86
      exact Tryd.isAgg86 w
    rw [if_neg h86] at h
    by_cases h87 : t = 87
    · subst h87
      exact Tryd.isAgg87 w
    rw [if_neg h87] at h
    by_cases h104 : t = 104
    · subst h104
      exact Tryd.isAgg104 w
    rw [if_neg h104] at h
    by_cases h107 : t = 107
    · subst h107
      exact Tryd.isAgg107 w
    rw [if_neg h107] at h
    by_cases h117 : t = 117
    · subst h117
      exact Tryd.isAgg117 w
    rw [if_neg h117] at h
    cases h
  ag := by
    intro t k h w
    simp only [T] at h
    by_cases h24 : t = 24
    · subst h24
      rw [if_pos rfl] at h
      cases h
      exact ⟨Tryd.isAgg24 w, Tryd.sizeOf24 w⟩
    rw [if_neg h24] at h
    by_cases h39 : t = 39
    · subst h39
      rw [if_pos rfl] at h
      cases h
      exact ⟨Tryd.isAgg39 w, Tryd.sizeOf39 w⟩
    rw [if_neg h39] at h
    by_cases h30 : t = 30
    · subst h30
      rw [if_pos rfl] at h
      cases h
      exact ⟨Tryd.isAgg30 w, Tryd.sizeOf30 w⟩
    rw [if_neg h30] at h
    by_cases h33 : t = 33
    · subst h33
      rw [if_pos rfl] at h
      cases h
      exact ⟨Tryd.isAgg33 w, Tryd.sizeOf33 w⟩
    rw [if_neg h33] at h
    cases h
  fo := by
    intro t j o h w a
    simp only [T] at h
    by_cases h24 : t = 24
    · subst h24
      rw [if_pos rfl] at h
      have hj : j < 1 := by
        by_cases q : j < 1
        · exact q
        · rw [if_neg q] at h; cases h
      rw [if_pos hj] at h
      cases h
      obtain rfl : j = 0 := by omega
      simp [Instr.fieldAt, Instr.sureAddr, fieldPlace, Tryd.runUnderlying24, Tryd.sizeOf22]
    rw [if_neg h24] at h
    by_cases h39 : t = 39
    · subst h39
      rw [if_pos rfl] at h
      have hj : j < 2 := by
        by_cases q : j < 2
        · exact q
        · rw [if_neg q] at h; cases h
      rw [if_pos hj] at h
      cases h
      obtain rfl | rfl : j = 0 ∨ j = 1 := by omega
      · simp [Instr.fieldAt, Instr.sureAddr, fieldPlace, Tryd.runUnderlying39, Tryd.sizeOf2]
      · simp [Instr.fieldAt, Instr.sureAddr, fieldPlace, Tryd.runUnderlying39, Tryd.sizeOf31]
    rw [if_neg h39] at h
    by_cases h30 : t = 30
    · subst h30
      rw [if_pos rfl] at h
      have hj : j < 1 := by
        by_cases q : j < 1
        · exact q
        · rw [if_neg q] at h; cases h
      rw [if_pos hj] at h
      cases h
      obtain rfl : j = 0 := by omega
      simp [Instr.fieldAt, Instr.sureAddr, fieldPlace, Tryd.runUnderlying30, Tryd.sizeOf22]
    rw [if_neg h30] at h
    by_cases h33 : t = 33
    · subst h33
      rw [if_pos rfl] at h
      have hj : j < 2 := by
        by_cases q : j < 2
        · exact q
        · rw [if_neg q] at h; cases h
      rw [if_pos hj] at h
      cases h
      obtain rfl | rfl : j = 0 ∨ j = 1 := by omega
      · simp [Instr.fieldAt, Instr.sureAddr, fieldPlace, Tryd.runUnderlying33, Tryd.sizeOf2]
      · simp [Instr.fieldAt, Instr.sureAddr, fieldPlace, Tryd.runUnderlying33, Tryd.sizeOf31]
    rw [if_neg h33] at h
    cases h
  sl := by
    intro t e h w
    simp only [T] at h
    by_cases h22 : t = 22
    · subst h22
      rw [if_pos rfl] at h
      cases h
      exact ⟨Tryd.runUnderlying22 w, Tryd.sizeOf31 w⟩
    rw [if_neg h22] at h
    by_cases h31 : t = 31
    · subst h31
      rw [if_pos rfl] at h
      cases h
      exact ⟨Tryd.runUnderlying31 w, Tryd.sizeOf2 w⟩
    rw [if_neg h31] at h
    by_cases h49 : t = 49
    · subst h49
      rw [if_pos rfl] at h
      cases h
      exact ⟨Tryd.runUnderlying49 w, Tryd.sizeOf9 w⟩
    rw [if_neg h49] at h
    by_cases h87 : t = 87
    · subst h87
      rw [if_pos rfl] at h
      cases h
      exact ⟨Tryd.runUnderlying87 w, Tryd.sizeOf5 w⟩
    rw [if_neg h87] at h
    cases h
  ik := by
    intro t k h
    simp only [T] at h
    by_cases h2 : t = 2
    · subst h2
      rw [if_pos rfl] at h
      cases h
      exact Tryd.underlying2
    rw [if_neg h2] at h
    by_cases h3 : t = 3
    · subst h3
      rw [if_pos rfl] at h
      cases h
      exact Tryd.underlying3
    rw [if_neg h3] at h
    by_cases h5 : t = 5
    · subst h5
      rw [if_pos rfl] at h
      cases h
      exact Tryd.underlying5
    rw [if_neg h5] at h
    by_cases h21 : t = 21
    · subst h21
      rw [if_pos rfl] at h
      cases h
      exact Tryd.underlying21
    rw [if_neg h21] at h
    by_cases h104 : t = 104
    · subst h104
      rw [if_pos rfl] at h
      cases h
      exact Tryd.underlying104
    rw [if_neg h104] at h
    by_cases h107 : t = 107
    · subst h107
      rw [if_pos rfl] at h
      cases h
      exact Tryd.underlying107
    rw [if_neg h107] at h
    by_cases h117 : t = 117
    · subst h117
      rw [if_pos rfl] at h
      cases h
      exact Tryd.underlying117
    rw [if_neg h117] at h
    cases h
  bo := by
    intro t h
    simp only [T] at h
    by_cases h4 : t = 4
    · subst h4
      exact Tryd.underlying4
    rw [if_neg h4] at h
    cases h
  el := by
    intro t e z b h
    simp only [T] at h
    by_cases h22 : t = 22
    · subst h22
      rw [if_pos rfl] at h
      cases h
      exact ⟨Tryd.underlying22, Tryd.t31, by kernel_rfl, by kernel_rfl, by kernel_rfl, by kernel_rfl, rfl⟩
    rw [if_neg h22] at h
    by_cases h31 : t = 31
    · subst h31
      rw [if_pos rfl] at h
      cases h
      exact ⟨Tryd.underlying31, Tryd.t2, by kernel_rfl, by kernel_rfl, by kernel_rfl, by kernel_rfl, rfl⟩
    rw [if_neg h31] at h
    by_cases h49 : t = 49
    · subst h49
      rw [if_pos rfl] at h
      cases h
      exact ⟨Tryd.underlying49, Tryd.t9, by kernel_rfl, by kernel_rfl, by kernel_rfl, by kernel_rfl, rfl⟩
    rw [if_neg h49] at h
    by_cases h87 : t = 87
    · subst h87
      rw [if_pos rfl] at h
      cases h
      exact ⟨Tryd.underlying87, Tryd.t5, by kernel_rfl, by kernel_rfl, by kernel_rfl, by kernel_rfl, rfl⟩
    rw [if_neg h87] at h
    cases h
  zr := by
    intro t z h w
    simp only [T] at h
    by_cases h2 : t = 2
    · subst h2
      rw [if_pos rfl] at h
      cases h
      exact Tryd.zeroValue2 w
    rw [if_neg h2] at h
    by_cases h3 : t = 3
    · subst h3
      rw [if_pos rfl] at h
      cases h
      exact Tryd.zeroValue3 w
    rw [if_neg h3] at h
    by_cases h4 : t = 4
    · subst h4
      rw [if_pos rfl] at h
      cases h
      exact Tryd.zeroValue4 w
    rw [if_neg h4] at h
    by_cases h5 : t = 5
    · subst h5
      rw [if_pos rfl] at h
      cases h
      exact Tryd.zeroValue5 w
    rw [if_neg h5] at h
    by_cases h21 : t = 21
    · subst h21
      rw [if_pos rfl] at h
      cases h
      exact Tryd.zeroValue21 w
    rw [if_neg h21] at h
    by_cases h22 : t = 22
    · subst h22
      rw [if_pos rfl] at h
      cases h
      exact Tryd.zeroValue22 w
    rw [if_neg h22] at h
    by_cases h24 : t = 24
    · subst h24
      rw [if_pos rfl] at h
      cases h
      exact Tryd.zeroValue24 w
    rw [if_neg h24] at h
    by_cases h30 : t = 30
    · subst h30
      rw [if_pos rfl] at h
      cases h
      exact Tryd.zeroValue30 w
    rw [if_neg h30] at h
    by_cases h31 : t = 31
    · subst h31
      rw [if_pos rfl] at h
      cases h
      exact Tryd.zeroValue31 w
    rw [if_neg h31] at h
    by_cases h33 : t = 33
    · subst h33
      rw [if_pos rfl] at h
      cases h
      exact Tryd.zeroValue33 w
    rw [if_neg h33] at h
    by_cases h39 : t = 39
    · subst h39
      rw [if_pos rfl] at h
      cases h
      exact Tryd.zeroValue39 w
    rw [if_neg h39] at h
    by_cases h49 : t = 49
    · subst h49
      rw [if_pos rfl] at h
      cases h
      exact Tryd.zeroValue49 w
    rw [if_neg h49] at h
    by_cases h70 : t = 70
    · subst h70
      rw [if_pos rfl] at h
      cases h
      exact Tryd.zeroValue70 w
    rw [if_neg h70] at h
    by_cases h87 : t = 87
    · subst h87
      rw [if_pos rfl] at h
      cases h
      exact Tryd.zeroValue87 w
    rw [if_neg h87] at h
    by_cases h104 : t = 104
    · subst h104
      rw [if_pos rfl] at h
      cases h
      exact Tryd.zeroValue104 w
    rw [if_neg h104] at h
    by_cases h107 : t = 107
    · subst h107
      rw [if_pos rfl] at h
      cases h
      exact Tryd.zeroValue107 w
    rw [if_neg h107] at h
    by_cases h117 : t = 117
    · subst h117
      rw [if_pos rfl] at h
      cases h
      exact Tryd.zeroValue117 w
    rw [if_neg h117] at h
    cases h
  ea := by
    intro t e h
    simp only [T] at h

    cases h
  s1 := by
    intro t h w
    simp only [T] at h
    by_cases h31 : t = 31
    · subst h31
      exact Tryd.sizeOf31 w
    rw [if_neg h31] at h
    by_cases h2 : t = 2
    · subst h2
      exact Tryd.sizeOf2 w
    rw [if_neg h2] at h
    by_cases h22 : t = 22
    · subst h22
      exact Tryd.sizeOf22 w
    rw [if_neg h22] at h
    by_cases h3 : t = 3
    · subst h3
      exact Tryd.sizeOf3 w
    rw [if_neg h3] at h
    by_cases h4 : t = 4
    · subst h4
      exact Tryd.sizeOf4 w
    rw [if_neg h4] at h
    by_cases h5 : t = 5
    · subst h5
      exact Tryd.sizeOf5 w
    rw [if_neg h5] at h
    by_cases h9 : t = 9
    · subst h9
      exact Tryd.sizeOf9 w
    rw [if_neg h9] at h
    by_cases h21 : t = 21
    · subst h21
      exact Tryd.sizeOf21 w
    rw [if_neg h21] at h
    by_cases h49 : t = 49
    · subst h49
      exact Tryd.sizeOf49 w
    rw [if_neg h49] at h
    by_cases h70 : t = 70
    · subst h70
      exact Tryd.sizeOf70 w
    rw [if_neg h70] at h
    by_cases h80 : t = 80
    · subst h80
      exact Tryd.sizeOf80 w
    rw [if_neg h80] at h
    by_cases h86 : t = 86
    · subst h86
      exact Tryd.sizeOf86 w
    rw [if_neg h86] at h
    by_cases h87 : t = 87
    · subst h87
      exact Tryd.sizeOf87 w
    rw [if_neg h87] at h
    by_cases h104 : t = 104
    · subst h104
      exact Tryd.sizeOf104 w
    rw [if_neg h104] at h
    by_cases h107 : t = 107
    · subst h107
      exact Tryd.sizeOf107 w
    rw [if_neg h107] at h
    by_cases h117 : t = 117
    · subst h117
      exact Tryd.sizeOf117 w
    rw [if_neg h117] at h
    cases h
end Go.Proofs.YtkdiodegilidgaaDoor
