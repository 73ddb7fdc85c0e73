/- The table of the types that the conditions know. -/
import Derived.Test.YtcjhojdlfnpgjaaGreatDoorVj
import Derived.Test.YtcjhojdlfnpgjaaGreatDoorVg
import Derived.Test.YtcjhojdlfnpgjaaGreatDoorProg
namespace Go.Proofs.YtcjhojdlfnpgjaaGreatDoor
open Go.RowKit
set_option linter.unusedVariables false
set_option linter.unusedSimpArgs false
def T : TT where
  sc := fun t => if t = 33 then true else if t = 2 then true else if t = 24 then true else if t = 3 then true else if t = 4 then true else if t = 5 then true else if t = 9 then true else if t = 21 then true else if t = 22 then true else if t = 29 then true else if t = 55 then true else if t = 72 then true else if t = 78 then true else if t = 85 then true else if t = 89 then true else if t = 90 then true else if t = 116 then true else false
  ag := fun t => if t = 26 then some 1 else if t = 35 then some 2 else if t = 74 then some 3 else none
  fo := fun t j => if t = 26 then (if j < 1 then some j else none) else if t = 35 then (if j < 2 then some j else none) else if t = 74 then (if j < 3 then some j else none) else none
  sl := fun t => if t = 22 then some 5 else if t = 24 then some 33 else if t = 33 then some 2 else if t = 90 then some 9 else none
  ik := fun t => if t = 2 then some .i64 else if t = 3 then some .i64 else if t = 5 then some .u8 else if t = 21 then some .i32 else if t = 72 then some .u64 else if t = 89 then some .u64 else if t = 116 then some .u32 else none
  bo := fun t => if t = 4 then true else false
  el := fun t => if t = 22 then some (5, .int .u8 0, 1) else if t = 24 then some (33, .slice none 0 0, 24) else if t = 33 then some (2, .int .i64 0, 8) else if t = 90 then some (9, .string ByteArray.empty, 16) else none
  zr := fun t => if t = 2 then some (.int .i64 0) else if t = 3 then some (.int .i64 0) else if t = 4 then some (.bool false) else if t = 5 then some (.int .u8 0) else if t = 21 then some (.int .i32 0) else if t = 22 then some (.slice none 0 0) else if t = 24 then some (.slice none 0 0) else if t = 26 then some (.agg #[.slice none 0 0]) else if t = 29 then some (.slice none 0 0) else if t = 33 then some (.slice none 0 0) else if t = 35 then some (.agg #[.int .i64 0, .slice none 0 0]) else if t = 72 then some (.int .u64 0) else if t = 74 then some (.agg #[.slice none 0 0, .int .i64 0, .int .u64 0]) else if t = 78 then some (.nilFunc) else if t = 89 then some (.int .u64 0) else if t = 90 then some (.slice none 0 0) else if t = 116 then some (.int .u32 0) else none
  ea := fun t =>  none
theorem T_sc (t : Nat) : T.sc t = if t = 33 then true else if t = 2 then true else if t = 24 then true else if t = 3 then true else if t = 4 then true else if t = 5 then true else if t = 9 then true else if t = 21 then true else if t = 22 then true else if t = 29 then true else if t = 55 then true else if t = 72 then true else if t = 78 then true else if t = 85 then true else if t = 89 then true else if t = 90 then true else if t = 116 then true else false := rfl
theorem T_ag (t : Nat) : T.ag t = if t = 26 then some 1 else if t = 35 then some 2 else if t = 74 then some 3 else none := rfl
theorem T_sl (t : Nat) : T.sl t = if t = 22 then some 5 else if t = 24 then some 33 else if t = 33 then some 2 else if t = 90 then some 9 else none := rfl
theorem T_ik (t : Nat) : T.ik t = if t = 2 then some .i64 else if t = 3 then some .i64 else if t = 5 then some .u8 else if t = 21 then some .i32 else if t = 72 then some .u64 else if t = 89 then some .u64 else if t = 116 then some .u32 else none := rfl
theorem T_bo (t : Nat) : T.bo t = if t = 4 then true else false := rfl
theorem T_el (t : Nat) : T.el t = if t = 22 then some (5, .int .u8 0, 1) else if t = 24 then some (33, .slice none 0 0, 24) else if t = 33 then some (2, .int .i64 0, 8) else if t = 90 then some (9, .string ByteArray.empty, 16) else none := rfl
theorem T_zr (t : Nat) : T.zr t = if t = 2 then some (.int .i64 0) else if t = 3 then some (.int .i64 0) else if t = 4 then some (.bool false) else if t = 5 then some (.int .u8 0) else if t = 21 then some (.int .i32 0) else if t = 22 then some (.slice none 0 0) else if t = 24 then some (.slice none 0 0) else if t = 26 then some (.agg #[.slice none 0 0]) else if t = 29 then some (.slice none 0 0) else if t = 33 then some (.slice none 0 0) else if t = 35 then some (.agg #[.int .i64 0, .slice none 0 0]) else if t = 72 then some (.int .u64 0) else if t = 74 then some (.agg #[.slice none 0 0, .int .i64 0, .int .u64 0]) else if t = 78 then some (.nilFunc) else if t = 89 then some (.int .u64 0) else if t = 90 then some (.slice none 0 0) else if t = 116 then some (.int .u32 0) else none := rfl
theorem T_ea (t : Nat) : T.ea t =  none := rfl
theorem T_ok : T.Ok Tryz.prog where
  sc := by
    intro t h w
    simp only [T] at h
    by_cases h33 : t = 33
    · subst h33
      exact Tryz.isAgg33 w
    rw [if_neg h33] at h
    by_cases h2 : t = 2
    · subst h2
      exact Tryz.isAgg2 w
    rw [if_neg h2] at h
    by_cases h24 : t = 24
    · subst h24
      exact Tryz.isAgg24 w
    rw [if_neg h24] at h
    by_cases h3 : t = 3
    · subst h3
      exact Tryz.isAgg3 w
    rw [if_neg h3] at h
    by_cases h4 : t = 4
    · subst h4
      exact Tryz.isAgg4 w
    rw [if_neg h4] at h
    by_cases h5 : t = 5
    · subst h5
      exact Tryz.isAgg5 w
    rw [if_neg h5] at h
    by_cases h9 : t = 9
    · subst h9
      exact Tryz.isAgg9 w
    rw [if_neg h9] at h
    by_cases h21 : t = 21
    · subst h21
      exact Tryz.isAgg21 w
    rw [if_neg h21] at h
    by_cases h22 : t = 22
    · subst h22
      exact Tryz.isAgg22 w
    rw [if_neg h22] at h
    by_cases h29 : t = 29
    · subst h29
      exact Tryz.isAgg29 w
    rw [if_neg h29] at h
    by_cases h55 : t = 55
    · subst h55
      exact Tryz.isAgg55 w
    rw [if_neg h55] at h
    by_cases h72 : t = 72
    · subst h72
      exact Tryz.isAgg72 w
    rw [if_neg h72] at h
    by_cases h78 : t = 78
    · subst h78
      exact Tryz.isAgg78 w
    rw [if_neg h78] at h
    by_cases h85 : t = 85
    · subst h85
      exact Tryz.isAgg85 w
    rw [if_neg h85] at h
    by_cases h89 : t = 89
    · subst h89
      exact Tryz.isAgg89 w
    rw [if_neg h89] at h
    by_cases h90 : t = 90
    · subst h90
      exact Tryz.isAgg90 w
    rw [if_neg h90] at h
    by_cases h116 : t = 116
    · subst h116
      exact Tryz.isAgg116 w
    rw [if_neg h116] at h
    cases h
  ag := by
    intro t k h w
    simp only [T] at h
    by_cases h26 : t = 26
    · subst h26
      rw [if_pos rfl] at h
      cases h
      exact ⟨Tryz.isAgg26 w, Tryz.sizeOf26 w⟩
    rw [if_neg h26] at h
    by_cases h35 : t = 35
    · subst h35
      rw [if_pos rfl] at h
      cases h
      exact ⟨Tryz.isAgg35 w, Tryz.sizeOf35 w⟩
    rw [if_neg h35] at h
    by_cases h74 : t = 74
    · subst h74
      rw [if_pos rfl] at h
      cases h
      exact ⟨Tryz.isAgg74 w, Tryz.sizeOf74 w⟩
    rw [if_neg h74] at h
    cases h
  fo := by
    intro t j o h w a
    simp only [T] at h
    by_cases h26 : t = 26
    · subst h26
      rw [if_pos rfl] at h
      have hj : j < 1 := by
        by_cases q : j < 1
        · exact q
        · rw [if_neg q] at h; cases h
      rw [if_pos hj] at h
      cases h
      obtain rfl : j = 0 := by omega
      simp [Instr.fieldAt, Instr.sureAddr, fieldPlace, Tryz.runUnderlying26, Tryz.sizeOf24]
    rw [if_neg h26] at h
    by_cases h35 : t = 35
    · subst h35
      rw [if_pos rfl] at h
      have hj : j < 2 := by
        by_cases q : j < 2
        · exact q
        · rw [if_neg q] at h; cases h
      rw [if_pos hj] at h
      cases h
      obtain rfl | rfl : j = 0 ∨ j = 1 := by omega
      · simp [Instr.fieldAt, Instr.sureAddr, fieldPlace, Tryz.runUnderlying35, Tryz.sizeOf2]
      · simp [Instr.fieldAt, Instr.sureAddr, fieldPlace, Tryz.runUnderlying35, Tryz.sizeOf33]
    rw [if_neg h35] at h
    by_cases h74 : t = 74
    · subst h74
      rw [if_pos rfl] at h
      have hj : j < 3 := by
        by_cases q : j < 3
        · exact q
        · rw [if_neg q] at h; cases h
      rw [if_pos hj] at h
      cases h
      obtain rfl | rfl | rfl : j = 0 ∨ j = 1 ∨ j = 2 := by omega
      · simp [Instr.fieldAt, Instr.sureAddr, fieldPlace, Tryz.runUnderlying74, Tryz.sizeOf22, Tryz.sizeOf3, Tryz.sizeOf72]
      · simp [Instr.fieldAt, Instr.sureAddr, fieldPlace, Tryz.runUnderlying74, Tryz.sizeOf22, Tryz.sizeOf3, Tryz.sizeOf72]
      · simp [Instr.fieldAt, Instr.sureAddr, fieldPlace, Tryz.runUnderlying74, Tryz.sizeOf22, Tryz.sizeOf3, Tryz.sizeOf72]
    rw [if_neg h74] at h
    cases h
  sl := by
    intro t e h w
    simp only [T] at h
    by_cases h22 : t = 22
    · subst h22
      rw [if_pos rfl] at h
      cases h
      exact ⟨Tryz.runUnderlying22 w, Tryz.sizeOf5 w⟩
    rw [if_neg h22] at h
    by_cases h24 : t = 24
    · subst h24
      rw [if_pos rfl] at h
      cases h
      exact ⟨Tryz.runUnderlying24 w, Tryz.sizeOf33 w⟩
    rw [if_neg h24] at h
    by_cases h33 : t = 33
    · subst h33
      rw [if_pos rfl] at h
      cases h
      exact ⟨Tryz.runUnderlying33 w, Tryz.sizeOf2 w⟩
    rw [if_neg h33] at h
    by_cases h90 : t = 90
    · subst h90
      rw [if_pos rfl] at h
      cases h
      exact ⟨Tryz.runUnderlying90 w, Tryz.sizeOf9 w⟩
    rw [if_neg h90] at h
    cases h
  ik := by
    intro t k h
    simp only [T] at h
    by_cases h2 : t = 2
    · subst h2
      rw [if_pos rfl] at h
      cases h
      exact Tryz.underlying2
    rw [if_neg h2] at h
    by_cases h3 : t = 3
    · subst h3
      rw [if_pos rfl] at h
      cases h
      exact Tryz.underlying3
    rw [if_neg h3] at h
    by_cases h5 : t = 5
    · subst h5
      rw [if_pos rfl] at h
      cases h
      exact Tryz.underlying5
    rw [if_neg h5] at h
    by_cases h21 : t = 21
    · subst h21
      rw [if_pos rfl] at h
      cases h
      exact Tryz.underlying21
    rw [if_neg h21] at h
    by_cases h72 : t = 72
    · subst h72
      rw [if_pos rfl] at h
      cases h
      exact Tryz.underlying72
    rw [if_neg h72] at h
    by_cases h89 : t = 89
    · subst h89
      rw [if_pos rfl] at h
      cases h
      exact Tryz.underlying89
    rw [if_neg h89] at h
    by_cases h116 : t = 116
    · subst h116
      rw [if_pos rfl] at h
      cases h
      exact Tryz.underlying116
    rw [if_neg h116] at h
    cases h
  bo := by
    intro t h
    simp only [T] at h
    by_cases h4 : t = 4
    · subst h4
      exact Tryz.underlying4
    rw [if_neg h4] at h
    cases h
  el := by
    intro t e z b h
    simp only [T] at h
    by_cases h22 : t = 22
    · subst h22
      rw [if_pos rfl] at h
      cases h
      exact ⟨Tryz.underlying22, Tryz.t5, by kernel_rfl, by kernel_rfl, by kernel_rfl, by kernel_rfl, rfl⟩
    rw [if_neg h22] at h
    by_cases h24 : t = 24
    · subst h24
      rw [if_pos rfl] at h
      cases h
      exact ⟨Tryz.underlying24, Tryz.t33, by kernel_rfl, by kernel_rfl, by kernel_rfl, by kernel_rfl, rfl⟩
    rw [if_neg h24] at h
    by_cases h33 : t = 33
    · subst h33
      rw [if_pos rfl] at h
      cases h
      exact ⟨Tryz.underlying33, Tryz.t2, by kernel_rfl, by kernel_rfl, by kernel_rfl, by kernel_rfl, rfl⟩
    rw [if_neg h33] at h
    by_cases h90 : t = 90
    · subst h90
      rw [if_pos rfl] at h
      cases h
      exact ⟨Tryz.underlying90, Tryz.t9, by kernel_rfl, by kernel_rfl, by kernel_rfl, by kernel_rfl, rfl⟩
    rw [if_neg h90] at h
    cases h
  zr := by
    intro t z h w
    simp only [T] at h
    by_cases h2 : t = 2
    · subst h2
      rw [if_pos rfl] at h
      cases h
      exact Tryz.zeroValue2 w
    rw [if_neg h2] at h
    by_cases h3 : t = 3
    · subst h3
      rw [if_pos rfl] at h
      cases h
      exact Tryz.zeroValue3 w
    rw [if_neg h3] at h
    by_cases h4 : t = 4
    · subst h4
      rw [if_pos rfl] at h
      cases h
      exact Tryz.zeroValue4 w
    rw [if_neg h4] at h
    by_cases h5 : t = 5
    · subst h5
      rw [if_pos rfl] at h
      cases h
      exact Tryz.zeroValue5 w
    rw [if_neg h5] at h
    by_cases h21 : t = 21
    · subst h21
      rw [if_pos rfl] at h
      cases h
      exact Tryz.zeroValue21 w
    rw [if_neg h21] at h
    by_cases h22 : t = 22
    · subst h22
      rw [if_pos rfl] at h
      cases h
      exact Tryz.zeroValue22 w
    rw [if_neg h22] at h
    by_cases h24 : t = 24
    · subst h24
      rw [if_pos rfl] at h
      cases h
      exact Tryz.zeroValue24 w
    rw [if_neg h24] at h
    by_cases h26 : t = 26
    · subst h26
      rw [if_pos rfl] at h
      cases h
      exact Tryz.zeroValue26 w
    rw [if_neg h26] at h
    by_cases h29 : t = 29
    · subst h29
      rw [if_pos rfl] at h
      cases h
      exact Tryz.zeroValue29 w
    rw [if_neg h29] at h
    by_cases h33 : t = 33
    · subst h33
      rw [if_pos rfl] at h
      cases h
      exact Tryz.zeroValue33 w
    rw [if_neg h33] at h
    by_cases h35 : t = 35
    · subst h35
      rw [if_pos rfl] at h
      cases h
      exact Tryz.zeroValue35 w
    rw [if_neg h35] at h
    by_cases h72 : t = 72
    · subst h72
      rw [if_pos rfl] at h
      cases h
      exact Tryz.zeroValue72 w
    rw [if_neg h72] at h
    by_cases h74 : t = 74
    · subst h74
      rw [if_pos rfl] at h
      cases h
      exact Tryz.zeroValue74 w
    rw [if_neg h74] at h
    by_cases h78 : t = 78
    · subst h78
      rw [if_pos rfl] at h
      cases h
      exact Tryz.zeroValue78 w
    rw [if_neg h78] at h
    by_cases h89 : t = 89
    · subst h89
      rw [if_pos rfl] at h
      cases h
      exact Tryz.zeroValue89 w
    rw [if_neg h89] at h
    by_cases h90 : t = 90
    · subst h90
      rw [if_pos rfl] at h
      cases h
      exact Tryz.zeroValue90 w
    rw [if_neg h90] at h
    by_cases h116 : t = 116
    · subst h116
      rw [if_pos rfl] at h
      cases h
      exact Tryz.zeroValue116 w
    rw [if_neg h116] at h
    cases h
  ea := by
    intro t e h
    simp only [T] at h

    cases h
  s1 := by
    intro t h w
    simp only [T] at h
    by_cases h33 : t = 33
    · subst h33
      exact Tryz.sizeOf33 w
    rw [if_neg h33] at h
    by_cases h2 : t = 2
    · subst h2
      exact Tryz.sizeOf2 w
    rw [if_neg h2] at h
    by_cases h24 : t = 24
    · subst h24
      exact Tryz.sizeOf24 w
    rw [if_neg h24] at h
    by_cases h3 : t = 3
    · subst h3
      exact Tryz.sizeOf3 w
    rw [if_neg h3] at h
    by_cases h4 : t = 4
    · subst h4
      exact Tryz.sizeOf4 w
    rw [if_neg h4] at h
    by_cases h5 : t = 5
    · subst h5
      exact Tryz.sizeOf5 w
    rw [if_neg h5] at h
    by_cases h9 : t = 9
    · subst h9
      exact Tryz.sizeOf9 w
    rw [if_neg h9] at h
    by_cases h21 : t = 21
    · subst h21
      exact Tryz.sizeOf21 w
    rw [if_neg h21] at h
    by_cases h22 : t = 22
    · subst h22
      exact Tryz.sizeOf22 w
    rw [if_neg h22] at h
    by_cases h29 : t = 29
    · subst h29
      exact Tryz.sizeOf29 w
    rw [if_neg h29] at h
    by_cases h55 : t = 55
    · subst h55
      exact Tryz.sizeOf55 w
    rw [if_neg h55] at h
    by_cases h72 : t = 72
    · subst h72
      exact Tryz.sizeOf72 w
    rw [if_neg h72] at h
    by_cases h78 : t = 78
    · subst h78
      exact Tryz.sizeOf78 w
    rw [if_neg h78] at h
    by_cases h85 : t = 85
    · subst h85
      exact Tryz.sizeOf85 w
    rw [if_neg h85] at h
    by_cases h89 : t = 89
    · subst h89
      exact Tryz.sizeOf89 w
    rw [if_neg h89] at h
    by_cases h90 : t = 90
    · subst h90
      exact Tryz.sizeOf90 w
    rw [if_neg h90] at h
    by_cases h116 : t = 116
    · subst h116
      exact Tryz.sizeOf116 w
    rw [if_neg h116] at h
    cases h
end Go.Proofs.YtcjhojdlfnpgjaaGreatDoor
