/- The table of the types that the conditions know. -/
import Derived.Test.YtifpnficdjbljaaVm
import Derived.Test.YtifpnficdjbljaaVg
import Derived.Test.YtifpnficdjbljaaProg
namespace Go.Proofs.Ytifpnficdjbljaa
open Go.RowKit
set_option linter.unusedVariables false
set_option linter.unusedSimpArgs false
def T : TT where
  sc := fun t => if t = 31 then true else if t = 2 then true else if t = 22 then true else if t = 3 then true else if t = 4 then true else if t = 5 then true else if t = 9 then true else if t = 21 then true else if t = 66 then true else if t = 91 then true else if t = 99 then true else if t = 112 then true else false
  ag := fun t => if t = 24 then some 1 else if t = 42 then some 2 else if t = 44 then some 2 else if t = 30 then some 1 else if t = 33 then some 2 else if t = 35 then some 2 else none
  fo := fun t j => if t = 24 then (if j < 1 then some j else none) else if t = 42 then (if j < 2 then some j else none) else if t = 44 then (if j < 2 then some j else none) else if t = 30 then (if j < 1 then some j else none) else if t = 33 then (if j < 2 then some j else none) else if t = 35 then (if j < 2 then some j else none) else none
  sl := fun t => if t = 22 then some 31 else if t = 31 then some 2 else none
  ik := fun t => if t = 2 then some .i64 else if t = 3 then some .i64 else if t = 5 then some .u8 else if t = 21 then some .i32 else if t = 112 then some .u32 else none
  bo := fun t => if t = 4 then true else false
  el := fun t => if t = 22 then some (31, .slice none 0 0, 24) else if t = 31 then some (2, .int .i64 0, 8) else none
  zr := fun t => if t = 2 then some (.int .i64 0) else if t = 3 then some (.int .i64 0) else if t = 4 then some (.bool false) else if t = 5 then some (.int .u8 0) else if t = 21 then some (.int .i32 0) else if t = 22 then some (.slice none 0 0) else if t = 24 then some (.agg #[.slice none 0 0]) else if t = 30 then some (.agg #[.slice none 0 0]) else if t = 31 then some (.slice none 0 0) else if t = 33 then some (.agg #[.int .i64 0, .slice none 0 0]) else if t = 35 then some (.agg #[.int .i64 0, .slice none 0 0]) else if t = 42 then some (.agg #[.int .i64 0, .slice none 0 0]) else if t = 44 then some (.agg #[.int .i64 0, .slice none 0 0]) else if t = 112 then some (.int .u32 0) else none
  ea := fun t =>  none
theorem T_sc (t : Nat) : T.sc t = if t = 31 then true else if t = 2 then true else if t = 22 then true else if t = 3 then true else if t = 4 then true else if t = 5 then true else if t = 9 then true else if t = 21 then true else if t = 66 then true else if t = 91 then true else if t = 99 then true else if t = 112 then true else false := rfl
theorem T_ag (t : Nat) : T.ag t = if t = 24 then some 1 else if t = 42 then some 2 else if t = 44 then some 2 else if t = 30 then some 1 else if t = 33 then some 2 else if t = 35 then some 2 else none := rfl
theorem T_fo (t j : Nat) : T.fo t j = if t = 24 then (if j < 1 then some j else none) else if t = 42 then (if j < 2 then some j else none) else if t = 44 then (if j < 2 then some j else none) else if t = 30 then (if j < 1 then some j else none) else if t = 33 then (if j < 2 then some j else none) else if t = 35 then (if j < 2 then some j else none) else none := rfl
theorem T_sl (t : Nat) : T.sl t = if t = 22 then some 31 else if t = 31 then some 2 else none := rfl
theorem T_ik (t : Nat) : T.ik t = if t = 2 then some .i64 else if t = 3 then some .i64 else if t = 5 then some .u8 else if t = 21 then some .i32 else if t = 112 then some .u32 else none := rfl
theorem T_bo (t : Nat) : T.bo t = if t = 4 then true else false := rfl
theorem T_el (t : Nat) : T.el t = if t = 22 then some (31, .slice none 0 0, 24) else if t = 31 then some (2, .int .i64 0, 8) else none := rfl
theorem T_zr (t : Nat) : T.zr t = if t = 2 then some (.int .i64 0) else if t = 3 then some (.int .i64 0) else if t = 4 then some (.bool false) else if t = 5 then some (.int .u8 0) else if t = 21 then some (.int .i32 0) else if t = 22 then some (.slice none 0 0) else if t = 24 then some (.agg #[.slice none 0 0]) else if t = 30 then some (.agg #[.slice none 0 0]) else if t = 31 then some (.slice none 0 0) else if t = 33 then some (.agg #[.int .i64 0, .slice none 0 0]) else if t = 35 then some (.agg #[.int .i64 0, .slice none 0 0]) else if t = 42 then some (.agg #[.int .i64 0, .slice none 0 0]) else if t = 44 then some (.agg #[.int .i64 0, .slice none 0 0]) else if t = 112 then some (.int .u32 0) else none := rfl
theorem T_ea (t : Nat) : T.ea t =  none := rfl
theorem T_ok : T.Ok Try.prog where
  sc := by
    intro t h w
    simp only [T] at h
    by_cases h31 : t = 31
    · subst h31
      exact Try.isAgg31 w
    rw [if_neg h31] at h
    by_cases h2 : t = 2
    · subst h2
      exact Try.isAgg2 w
    rw [if_neg h2] at h
    by_cases h22 : t = 22
    · subst h22
      exact Try.isAgg22 w
    rw [if_neg h22] at h
    by_cases h3 : t = 3
    · subst h3
      exact Try.isAgg3 w
    rw [if_neg h3] at h
    by_cases h4 : t = 4
    · subst h4
      exact Try.isAgg4 w
    rw [if_neg h4] at h
    by_cases h5 : t = 5
    · subst h5
      exact Try.isAgg5 w
    rw [if_neg h5] at h
    by_cases h9 : t = 9
    · subst h9
      exact Try.isAgg9 w
    rw [if_neg h9] at h
    by_cases h21 : t = 21
    · subst h21
      exact Try.isAgg21 w
    rw [if_neg h21] at h
    by_cases h66 : t = 66
    · subst h66
      exact Try.isAgg66 w
    rw [if_neg h66] at h
    by_cases h91 : t = 91
    · subst h91
      exact Try.isAgg91 w
    rw [if_neg h91] at h
    by_cases h99 : t = 99
    · subst h99
      exact Try.isAgg99 w
    rw [if_neg h99] at h
    by_cases h112 : t = 112
    · subst h112
      exact Try.isAgg112 w
    rw [if_neg h112] at h
    cases h
  ag := by
    intro t k h w
    simp only [T] at h
    by_cases h24 : t = 24
    · subst h24
      rw [if_pos rfl] at h
      cases h
      exact ⟨Try.isAgg24 w, Try.sizeOf24 w⟩
    rw [if_neg h24] at h
    by_cases h42 : t = 42
    · subst h42
      rw [if_pos rfl] at h
      cases h
      exact ⟨Try.isAgg42 w, Try.sizeOf42 w⟩
    rw [if_neg h42] at h
    by_cases h44 : t = 44
    · subst h44
      rw [if_pos rfl] at h
      cases h
      exact ⟨Try.isAgg44 w, Try.sizeOf44 w⟩
    rw [if_neg h44] at h
    by_cases h30 : t = 30
    · subst h30
      rw [if_pos rfl] at h
      cases h
      exact ⟨Try.isAgg30 w, Try.sizeOf30 w⟩
    rw [if_neg h30] at h
    by_cases h33 : t = 33
    · subst h33
      rw [if_pos rfl] at h
      cases h
      exact ⟨Try.isAgg33 w, Try.sizeOf33 w⟩
    rw [if_neg h33] at h
    by_cases h35 : t = 35
    · subst h35
      rw [if_pos rfl] at h
      cases h
      exact ⟨Try.isAgg35 w, Try.sizeOf35 w⟩
    rw [if_neg h35] at h
    cases h
  fo := by
    intro t j o h w a
    simp only [T] at h
    by_cases h24 : t = 24
    · subst h24
      rw [if_pos rfl] at h
      have hj : j < 1 := by
        by_cases q : j < 1
        · exact q
        · rw [if_neg q] at h; cases h
      rw [if_pos hj] at h
      cases h
      obtain rfl : j = 0 := by omega
      simp [Instr.fieldAt, Instr.sureAddr, fieldPlace, Try.runUnderlying24, Try.sizeOf22]
    rw [if_neg h24] at h
    by_cases h42 : t = 42
    · subst h42
      rw [if_pos rfl] at h
      have hj : j < 2 := by
        by_cases q : j < 2
        · exact q
        · rw [if_neg q] at h; cases h
      rw [if_pos hj] at h
      cases h
      obtain rfl | rfl : j = 0 ∨ j = 1 := by omega
      · simp [Instr.fieldAt, Instr.sureAddr, fieldPlace, Try.runUnderlying42, Try.sizeOf2]
      · simp [Instr.fieldAt, Instr.sureAddr, fieldPlace, Try.runUnderlying42, Try.sizeOf31]
    rw [if_neg h42] at h
    by_cases h44 : t = 44
    · subst h44
      rw [if_pos rfl] at h
      have hj : j < 2 := by
        by_cases q : j < 2
        · exact q
        · rw [if_neg q] at h; cases h
      rw [if_pos hj] at h
      cases h
      obtain rfl | rfl : j = 0 ∨ j = 1 := by omega
      · simp [Instr.fieldAt, Instr.sureAddr, fieldPlace, Try.runUnderlying44, Try.sizeOf2]
      · simp [Instr.fieldAt, Instr.sureAddr, fieldPlace, Try.runUnderlying44, Try.sizeOf31]
    rw [if_neg h44] at h
    by_cases h30 : t = 30
    · subst h30
      rw [if_pos rfl] at h
      have hj : j < 1 := by
        by_cases q : j < 1
        · exact q
        · rw [if_neg q] at h; cases h
      rw [if_pos hj] at h
      cases h
      obtain rfl : j = 0 := by omega
      simp [Instr.fieldAt, Instr.sureAddr, fieldPlace, Try.runUnderlying30, Try.sizeOf22]
    rw [if_neg h30] at h
    by_cases h33 : t = 33
    · subst h33
      rw [if_pos rfl] at h
      have hj : j < 2 := by
        by_cases q : j < 2
        · exact q
        · rw [if_neg q] at h; cases h
      rw [if_pos hj] at h
      cases h
      obtain rfl | rfl : j = 0 ∨ j = 1 := by omega
      · simp [Instr.fieldAt, Instr.sureAddr, fieldPlace, Try.runUnderlying33, Try.sizeOf2]
      · simp [Instr.fieldAt, Instr.sureAddr, fieldPlace, Try.runUnderlying33, Try.sizeOf31]
    rw [if_neg h33] at h
    by_cases h35 : t = 35
    · subst h35
      rw [if_pos rfl] at h
      have hj : j < 2 := by
        by_cases q : j < 2
        · exact q
        · rw [if_neg q] at h; cases h
      rw [if_pos hj] at h
      cases h
      obtain rfl | rfl : j = 0 ∨ j = 1 := by omega
      · simp [Instr.fieldAt, Instr.sureAddr, fieldPlace, Try.runUnderlying35, Try.sizeOf2]
      · simp [Instr.fieldAt, Instr.sureAddr, fieldPlace, Try.runUnderlying35, Try.sizeOf31]
    rw [if_neg h35] at h
    cases h
  sl := by
    intro t e h w
    simp only [T] at h
    by_cases h22 : t = 22
    · subst h22
      rw [if_pos rfl] at h
      cases h
      exact ⟨Try.runUnderlying22 w, Try.sizeOf31 w⟩
    rw [if_neg h22] at h
    by_cases h31 : t = 31
    · subst h31
      rw [if_pos rfl] at h
      cases h
      exact ⟨Try.runUnderlying31 w, Try.sizeOf2 w⟩
    rw [if_neg h31] at h
    cases h
  ik := by
    intro t k h
    simp only [T] at h
    by_cases h2 : t = 2
    · subst h2
      rw [if_pos rfl] at h
      cases h
      exact Try.underlying2
    rw [if_neg h2] at h
    by_cases h3 : t = 3
    · subst h3
      rw [if_pos rfl] at h
      cases h
      exact Try.underlying3
    rw [if_neg h3] at h
    by_cases h5 : t = 5
    · subst h5
      rw [if_pos rfl] at h
      cases h
      exact Try.underlying5
    rw [if_neg h5] at h
    by_cases h21 : t = 21
    · subst h21
      rw [if_pos rfl] at h
      cases h
      exact Try.underlying21
    rw [if_neg h21] at h
    by_cases h112 : t = 112
    · subst h112
      rw [if_pos rfl] at h
      cases h
      exact Try.underlying112
    rw [if_neg h112] at h
    cases h
  bo := by
    intro t h
    simp only [T] at h
    by_cases h4 : t = 4
    · subst h4
      exact Try.underlying4
    rw [if_neg h4] at h
    cases h
  el := by
    intro t e z b h
    simp only [T] at h
    by_cases h22 : t = 22
    · subst h22
      rw [if_pos rfl] at h
      cases h
      exact ⟨Try.underlying22, Try.t31, by kernel_rfl, by kernel_rfl, by kernel_rfl, by kernel_rfl, rfl⟩
    rw [if_neg h22] at h
    by_cases h31 : t = 31
    · subst h31
      rw [if_pos rfl] at h
      cases h
      exact ⟨Try.underlying31, Try.t2, by kernel_rfl, by kernel_rfl, by kernel_rfl, by kernel_rfl, rfl⟩
    rw [if_neg h31] at h
    cases h
  zr := by
    intro t z h w
    simp only [T] at h
    by_cases h2 : t = 2
    · subst h2
      rw [if_pos rfl] at h
      cases h
      exact Try.zeroValue2 w
    rw [if_neg h2] at h
    by_cases h3 : t = 3
    · subst h3
      rw [if_pos rfl] at h
      cases h
      exact Try.zeroValue3 w
    rw [if_neg h3] at h
    by_cases h4 : t = 4
    · subst h4
      rw [if_pos rfl] at h
      cases h
      exact Try.zeroValue4 w
    rw [if_neg h4] at h
    by_cases h5 : t = 5
    · subst h5
      rw [if_pos rfl] at h
      cases h
      exact Try.zeroValue5 w
    rw [if_neg h5] at h
    by_cases h21 : t = 21
    · subst h21
      rw [if_pos rfl] at h
      cases h
      exact Try.zeroValue21 w
    rw [if_neg h21] at h
    by_cases h22 : t = 22
    · subst h22
      rw [if_pos rfl] at h
      cases h
      exact Try.zeroValue22 w
    rw [if_neg h22] at h
    by_cases h24 : t = 24
    · subst h24
      rw [if_pos rfl] at h
      cases h
      exact Try.zeroValue24 w
    rw [if_neg h24] at h
    by_cases h30 : t = 30
    · subst h30
      rw [if_pos rfl] at h
      cases h
      exact Try.zeroValue30 w
    rw [if_neg h30] at h
    by_cases h31 : t = 31
    · subst h31
      rw [if_pos rfl] at h
      cases h
      exact Try.zeroValue31 w
    rw [if_neg h31] at h
    by_cases h33 : t = 33
    · subst h33
      rw [if_pos rfl] at h
      cases h
      exact Try.zeroValue33 w
    rw [if_neg h33] at h
    by_cases h35 : t = 35
    · subst h35
      rw [if_pos rfl] at h
      cases h
      exact Try.zeroValue35 w
    rw [if_neg h35] at h
    by_cases h42 : t = 42
    · subst h42
      rw [if_pos rfl] at h
      cases h
      exact Try.zeroValue42 w
    rw [if_neg h42] at h
    by_cases h44 : t = 44
    · subst h44
      rw [if_pos rfl] at h
      cases h
      exact Try.zeroValue44 w
    rw [if_neg h44] at h
    by_cases h112 : t = 112
    · subst h112
      rw [if_pos rfl] at h
      cases h
      exact Try.zeroValue112 w
    rw [if_neg h112] at h
    cases h
  ea := by
    intro t e h
    simp only [T] at h

    cases h
  s1 := by
    intro t h w
    simp only [T] at h
    by_cases h31 : t = 31
    · subst h31
      exact Try.sizeOf31 w
    rw [if_neg h31] at h
    by_cases h2 : t = 2
    · subst h2
      exact Try.sizeOf2 w
    rw [if_neg h2] at h
    by_cases h22 : t = 22
    · subst h22
      exact Try.sizeOf22 w
    rw [if_neg h22] at h
    by_cases h3 : t = 3
    · subst h3
      exact Try.sizeOf3 w
    rw [if_neg h3] at h
    by_cases h4 : t = 4
    · subst h4
      exact Try.sizeOf4 w
    rw [if_neg h4] at h
    by_cases h5 : t = 5
    · subst h5
      exact Try.sizeOf5 w
    rw [if_neg h5] at h
    by_cases h9 : t = 9
    · subst h9
      exact Try.sizeOf9 w
    rw [if_neg h9] at h
    by_cases h21 : t = 21
    · subst h21
      exact Try.sizeOf21 w
    rw [if_neg h21] at h
    by_cases h66 : t = 66
    · subst h66
      exact Try.sizeOf66 w
    rw [if_neg h66] at h
    by_cases h91 : t = 91
    · subst h91
      exact Try.sizeOf91 w
    rw [if_neg h91] at h
    by_cases h99 : t = 99
    · subst h99
      exact Try.sizeOf99 w
    rw [if_neg h99] at h
    by_cases h112 : t = 112
    · subst h112
      exact Try.sizeOf112 w
    rw [if_neg h112] at h
    cases h
end Go.Proofs.Ytifpnficdjbljaa
