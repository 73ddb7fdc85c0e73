/- The table of the types that the conditions know. -/
import Derived.Test.YtcjhojdlfnpgjaaVj
import Derived.Test.YtcjhojdlfnpgjaaVg
import Derived.Test.YtcjhojdlfnpgjaaProg
namespace Go.Proofs.Ytcjhojdlfnpgjaa
open Go.RowKit
set_option linter.unusedVariables false
set_option linter.unusedSimpArgs false
def T : TT where
  sc := fun t => if t = 27 then true else if t = 2 then true else if t = 24 then true else if t = 3 then true else if t = 4 then true else if t = 5 then true else if t = 9 then true else if t = 21 then true else if t = 22 then true else if t = 68 then true else if t = 69 then true else if t = 73 then true else if t = 75 then true else if t = 76 then true else if t = 81 then true else if t = 82 then true else if t = 108 then true else false
  ag := fun t => if t = 26 then some 1 else if t = 29 then some 2 else if t = 71 then some 3 else none
  fo := fun t j => if t = 26 then (if j < 1 then some j else none) else if t = 29 then (if j < 2 then some j else none) else if t = 71 then (if j < 3 then some j else none) else none
  sl := fun t => if t = 22 then some 5 else if t = 24 then some 27 else if t = 27 then some 2 else if t = 76 then some 9 else if t = 96 then some 26 else none
  ik := fun t => if t = 2 then some .i64 else if t = 3 then some .i64 else if t = 5 then some .u8 else if t = 21 then some .i32 else if t = 69 then some .u64 else if t = 81 then some .u64 else if t = 108 then some .u32 else none
  bo := fun t => if t = 4 then true else false
  el := fun t => if t = 22 then some (5, .int .u8 0, 1) else if t = 24 then some (27, .slice none 0 0, 24) else if t = 27 then some (2, .int .i64 0, 8) else if t = 76 then some (9, .string ByteArray.empty, 16) else none
  zr := fun t => if t = 2 then some (.int .i64 0) else if t = 3 then some (.int .i64 0) else if t = 4 then some (.bool false) else if t = 5 then some (.int .u8 0) else if t = 21 then some (.int .i32 0) else if t = 22 then some (.slice none 0 0) else if t = 24 then some (.slice none 0 0) else if t = 26 then some (.agg #[.slice none 0 0]) else if t = 27 then some (.slice none 0 0) else if t = 29 then some (.agg #[.int .i64 0, .slice none 0 0]) else if t = 69 then some (.int .u64 0) else if t = 71 then some (.agg #[.slice none 0 0, .int .i64 0, .int .u64 0]) else if t = 73 then some (.slice none 0 0) else if t = 76 then some (.slice none 0 0) else if t = 81 then some (.int .u64 0) else if t = 108 then some (.int .u32 0) else none
  ea := fun t => if t = 96 then some 26 else none
theorem T_sc (t : Nat) : T.sc t = if t = 27 then true else if t = 2 then true else if t = 24 then true else if t = 3 then true else if t = 4 then true else if t = 5 then true else if t = 9 then true else if t = 21 then true else if t = 22 then true else if t = 68 then true else if t = 69 then true else if t = 73 then true else if t = 75 then true else if t = 76 then true else if t = 81 then true else if t = 82 then true else if t = 108 then true else false := rfl
theorem T_ag (t : Nat) : T.ag t = if t = 26 then some 1 else if t = 29 then some 2 else if t = 71 then some 3 else none := rfl
theorem T_fo (t j : Nat) : T.fo t j = if t = 26 then (if j < 1 then some j else none) else if t = 29 then (if j < 2 then some j else none) else if t = 71 then (if j < 3 then some j else none) else none := rfl
theorem T_sl (t : Nat) : T.sl t = if t = 22 then some 5 else if t = 24 then some 27 else if t = 27 then some 2 else if t = 76 then some 9 else if t = 96 then some 26 else none := rfl
theorem T_ik (t : Nat) : T.ik t = if t = 2 then some .i64 else if t = 3 then some .i64 else if t = 5 then some .u8 else if t = 21 then some .i32 else if t = 69 then some .u64 else if t = 81 then some .u64 else if t = 108 then some .u32 else none := rfl
theorem T_bo (t : Nat) : T.bo t = if t = 4 then true else false := rfl
theorem T_el (t : Nat) : T.el t = if t = 22 then some (5, .int .u8 0, 1) else if t = 24 then some (27, .slice none 0 0, 24) else if t = 27 then some (2, .int .i64 0, 8) else if t = 76 then some (9, .string ByteArray.empty, 16) else none := rfl
theorem T_zr (t : Nat) : T.zr t = if t = 2 then some (.int .i64 0) else if t = 3 then some (.int .i64 0) else if t = 4 then some (.bool false) else if t = 5 then some (.int .u8 0) else if t = 21 then some (.int .i32 0) else if t = 22 then some (.slice none 0 0) else if t = 24 then some (.slice none 0 0) else if t = 26 then some (.agg #[.slice none 0 0]) else if t = 27 then some (.slice none 0 0) else if t = 29 then some (.agg #[.int .i64 0, .slice none 0 0]) else if t = 69 then some (.int .u64 0) else if t = 71 then some (.agg #[.slice none 0 0, .int .i64 0, .int .u64 0]) else if t = 73 then some (.slice none 0 0) else if t = 76 then some (.slice none 0 0) else if t = 81 then some (.int .u64 0) else if t = 108 then some (.int .u32 0) else none := rfl
theorem T_ea (t : Nat) : T.ea t = if t = 96 then some 26 else none := rfl
theorem T_ok : T.Ok Try.prog where
  sc := by
    intro t h w
    simp only [T] at h
    by_cases h27 : t = 27
    · subst h27
      exact Try.isAgg27 w
    rw [if_neg h27] at h
    by_cases h2 : t = 2
    · subst h2
      exact Try.isAgg2 w
    rw [if_neg h2] at h
    by_cases h24 : t = 24
    · subst h24
      exact Try.isAgg24 w
    rw [if_neg h24] at h
    by_cases h3 : t = 3
    · subst h3
      exact Try.isAgg3 w
    rw [if_neg h3] at h
    by_cases h4 : t = 4
    · subst h4
      exact Try.isAgg4 w
    rw [if_neg h4] at h
    by_cases h5 : t = 5
    · subst h5
      exact Try.isAgg5 w
    rw [if_neg h5] at h
    by_cases h9 : t = 9
    · subst h9
      exact Try.isAgg9 w
    rw [if_neg h9] at h
    by_cases h21 : t = 21
    · subst h21
      exact Try.isAgg21 w
    rw [if_neg h21] at h
    by_cases h22 : t = 22
    · subst h22
      exact Try.isAgg22 w
    rw [if_neg h22] at h
    by_cases h68 : t = 68
    · subst h68
      exact Try.isAgg68 w
    rw [if_neg h68] at h
    by_cases h69 : t = 69
    · subst h69
      exact Try.isAgg69 w
    rw [if_neg h69] at h
    by_cases h73 : t = 73
    · subst h73
      exact Try.isAgg73 w
    rw [if_neg h73] at h
    by_cases h75 : t = 75
    · subst h75
      exact Try.isAgg75 w
    rw [if_neg h75] at h
    by_cases h76 : t = 76
    · subst h76
      exact Try.isAgg76 w
    rw [if_neg h76] at h
    by_cases h81 : t = 81
    · subst h81
      exact Try.isAgg81 w
    rw [if_neg h81] at h
    by_cases h82 : t = 82
    · subst h82
      exact Try.isAgg82 w
    rw [if_neg h82] at h
    by_cases h108 : t = 108
    · subst h108
      exact Try.isAgg108 w
    rw [if_neg h108] at h
    cases h
  ag := by
    intro t k h w
    simp only [T] at h
    by_cases h26 : t = 26
    · subst h26
      rw [if_pos rfl] at h
      cases h
      exact ⟨Try.isAgg26 w, Try.sizeOf26 w⟩
    rw [if_neg h26] at h
    by_cases h29 : t = 29
    · subst h29
      rw [if_pos rfl] at h
      cases h
      exact ⟨Try.isAgg29 w, Try.sizeOf29 w⟩
    rw [if_neg h29] at h
    by_cases h71 : t = 71
    · subst h71
      rw [if_pos rfl] at h
      cases h
      exact ⟨Try.isAgg71 w, Try.sizeOf71 w⟩
    rw [if_neg h71] at h
    cases h
  fo := by
    intro t j o h w a
    simp only [T] at h
    by_cases h26 : t = 26
    · subst h26
      rw [if_pos rfl] at h
      have hj : j < 1 := by
        by_cases q : j < 1
        · exact q
        · rw [if_neg q] at h; cases h
      rw [if_pos hj] at h
      cases h
      obtain rfl : j = 0 := by omega
      simp [Instr.fieldAt, Instr.sureAddr, fieldPlace, Try.runUnderlying26, Try.sizeOf24]
    rw [if_neg h26] at h
    by_cases h29 : t = 29
    · subst h29
      rw [if_pos rfl] at h
      have hj : j < 2 := by
        by_cases q : j < 2
        · exact q
        · rw [if_neg q] at h; cases h
      rw [if_pos hj] at h
      cases h
      obtain rfl | rfl : j = 0 ∨ j = 1 := by omega
      · simp [Instr.fieldAt, Instr.sureAddr, fieldPlace, Try.runUnderlying29, Try.sizeOf2]
      · simp [Instr.fieldAt, Instr.sureAddr, fieldPlace, Try.runUnderlying29, Try.sizeOf27]
    rw [if_neg h29] at h
    by_cases h71 : t = 71
    · subst h71
      rw [if_pos rfl] at h
      have hj : j < 3 := by
        by_cases q : j < 3
        · exact q
        · rw [if_neg q] at h; cases h
      rw [if_pos hj] at h
      cases h
      obtain rfl | rfl | rfl : j = 0 ∨ j = 1 ∨ j = 2 := by omega
      · simp [Instr.fieldAt, Instr.sureAddr, fieldPlace, Try.runUnderlying71, Try.sizeOf22, Try.sizeOf3, Try.sizeOf69]
      · simp [Instr.fieldAt, Instr.sureAddr, fieldPlace, Try.runUnderlying71, Try.sizeOf22, Try.sizeOf3, Try.sizeOf69]
      · simp [Instr.fieldAt, Instr.sureAddr, fieldPlace, Try.runUnderlying71, Try.sizeOf22, Try.sizeOf3, Try.sizeOf69]
    rw [if_neg h71] at h
    cases h
  sl := by
    intro t e h w
    simp only [T] at h
    by_cases h22 : t = 22
    · subst h22
      rw [if_pos rfl] at h
      cases h
      exact ⟨Try.runUnderlying22 w, Try.sizeOf5 w⟩
    rw [if_neg h22] at h
    by_cases h24 : t = 24
    · subst h24
      rw [if_pos rfl] at h
      cases h
      exact ⟨Try.runUnderlying24 w, Try.sizeOf27 w⟩
    rw [if_neg h24] at h
    by_cases h27 : t = 27
    · subst h27
      rw [if_pos rfl] at h
      cases h
      exact ⟨Try.runUnderlying27 w, Try.sizeOf2 w⟩
    rw [if_neg h27] at h
    by_cases h76 : t = 76
    · subst h76
      rw [if_pos rfl] at h
      cases h
      exact ⟨Try.runUnderlying76 w, Try.sizeOf9 w⟩
    rw [if_neg h76] at h
    by_cases h96 : t = 96
    · subst h96
      rw [if_pos rfl] at h
      cases h
      exact ⟨Try.runUnderlying96 w, Try.sizeOf26 w⟩
    rw [if_neg h96] at h
    cases h
  ik := by
    intro t k h
    simp only [T] at h
    by_cases h2 : t = 2
    · subst h2
      rw [if_pos rfl] at h
      cases h
      exact Try.underlying2
    rw [if_neg h2] at h
    by_cases h3 : t = 3
    · subst h3
      rw [if_pos rfl] at h
      cases h
      exact Try.underlying3
    rw [if_neg h3] at h
    by_cases h5 : t = 5
    · subst h5
      rw [if_pos rfl] at h
      cases h
      exact Try.underlying5
    rw [if_neg h5] at h
    by_cases h21 : t = 21
    · subst h21
      rw [if_pos rfl] at h
      cases h
      exact Try.underlying21
    rw [if_neg h21] at h
    by_cases h69 : t = 69
    · subst h69
      rw [if_pos rfl] at h
      cases h
      exact Try.underlying69
    rw [if_neg h69] at h
    by_cases h81 : t = 81
    · subst h81
      rw [if_pos rfl] at h
      cases h
      exact Try.underlying81
    rw [if_neg h81] at h
    by_cases h108 : t = 108
    · subst h108
      rw [if_pos rfl] at h
      cases h
      exact Try.underlying108
    rw [if_neg h108] at h
    cases h
  bo := by
    intro t h
    simp only [T] at h
    by_cases h4 : t = 4
    · subst h4
      exact Try.underlying4
    rw [if_neg h4] at h
    cases h
  el := by
    intro t e z b h
    simp only [T] at h
    by_cases h22 : t = 22
    · subst h22
      rw [if_pos rfl] at h
      cases h
      exact ⟨Try.underlying22, Try.t5, by kernel_rfl, by kernel_rfl, by kernel_rfl, by kernel_rfl, rfl⟩
    rw [if_neg h22] at h
    by_cases h24 : t = 24
    · subst h24
      rw [if_pos rfl] at h
      cases h
      exact ⟨Try.underlying24, Try.t27, by kernel_rfl, by kernel_rfl, by kernel_rfl, by kernel_rfl, rfl⟩
    rw [if_neg h24] at h
    by_cases h27 : t = 27
    · subst h27
      rw [if_pos rfl] at h
      cases h
      exact ⟨Try.underlying27, Try.t2, by kernel_rfl, by kernel_rfl, by kernel_rfl, by kernel_rfl, rfl⟩
    rw [if_neg h27] at h
    by_cases h76 : t = 76
    · subst h76
      rw [if_pos rfl] at h
      cases h
      exact ⟨Try.underlying76, Try.t9, by kernel_rfl, by kernel_rfl, by kernel_rfl, by kernel_rfl, rfl⟩
    rw [if_neg h76] at h
    cases h
  zr := by
    intro t z h w
    simp only [T] at h
    by_cases h2 : t = 2
    · subst h2
      rw [if_pos rfl] at h
      cases h
      exact Try.zeroValue2 w
    rw [if_neg h2] at h
    by_cases h3 : t = 3
    · subst h3
      rw [if_pos rfl] at h
      cases h
      exact Try.zeroValue3 w
    rw [if_neg h3] at h
    by_cases h4 : t = 4
    · subst h4
      rw [if_pos rfl] at h
      cases h
      exact Try.zeroValue4 w
    rw [if_neg h4] at h
    by_cases h5 : t = 5
    · subst h5
      rw [if_pos rfl] at h
      cases h
      exact Try.zeroValue5 w
    rw [if_neg h5] at h
    by_cases h21 : t = 21
    · subst h21
      rw [if_pos rfl] at h
      cases h
      exact Try.zeroValue21 w
    rw [if_neg h21] at h
    by_cases h22 : t = 22
    · subst h22
      rw [if_pos rfl] at h
      cases h
      exact Try.zeroValue22 w
    rw [if_neg h22] at h
    by_cases h24 : t = 24
    · subst h24
      rw [if_pos rfl] at h
      cases h
      exact Try.zeroValue24 w
    rw [if_neg h24] at h
    by_cases h26 : t = 26
    · subst h26
      rw [if_pos rfl] at h
      cases h
      exact Try.zeroValue26 w
    rw [if_neg h26] at h
    by_cases h27 : t = 27
    · subst h27
      rw [if_pos rfl] at h
      cases h
      exact Try.zeroValue27 w
    rw [if_neg h27] at h
    by_cases h29 : t = 29
    · subst h29
      rw [if_pos rfl] at h
      cases h
      exact Try.zeroValue29 w
    rw [if_neg h29] at h
    by_cases h69 : t = 69
    · subst h69
      rw [if_pos rfl] at h
      cases h
      exact Try.zeroValue69 w
    rw [if_neg h69] at h
    by_cases h71 : t = 71
    · subst h71
      rw [if_pos rfl] at h
      cases h
      exact Try.zeroValue71 w
    rw [if_neg h71] at h
    by_cases h73 : t = 73
    · subst h73
      rw [if_pos rfl] at h
      cases h
      exact Try.zeroValue73 w
    rw [if_neg h73] at h
    by_cases h76 : t = 76
    · subst h76
      rw [if_pos rfl] at h
      cases h
      exact Try.zeroValue76 w
    rw [if_neg h76] at h
    by_cases h81 : t = 81
    · subst h81
      rw [if_pos rfl] at h
      cases h
      exact Try.zeroValue81 w
    rw [if_neg h81] at h
    by_cases h108 : t = 108
    · subst h108
      rw [if_pos rfl] at h
      cases h
      exact Try.zeroValue108 w
    rw [if_neg h108] at h
    cases h
  ea := by
    intro t e h
    simp only [T] at h
    by_cases h96 : t = 96
    · subst h96
      rw [if_pos rfl] at h
      cases h
      exact ⟨Try.underlying96, Try.t26, .agg #[.slice none 0 0], by kernel_rfl, by kernel_rfl, by kernel_rfl, rfl⟩
    rw [if_neg h96] at h
    cases h
  s1 := by
    intro t h w
    simp only [T] at h
    by_cases h27 : t = 27
    · subst h27
      exact Try.sizeOf27 w
    rw [if_neg h27] at h
    by_cases h2 : t = 2
    · subst h2
      exact Try.sizeOf2 w
    rw [if_neg h2] at h
    by_cases h24 : t = 24
    · subst h24
      exact Try.sizeOf24 w
    rw [if_neg h24] at h
    by_cases h3 : t = 3
    · subst h3
      exact Try.sizeOf3 w
    rw [if_neg h3] at h
    by_cases h4 : t = 4
    · subst h4
      exact Try.sizeOf4 w
    rw [if_neg h4] at h
    by_cases h5 : t = 5
    · subst h5
      exact Try.sizeOf5 w
    rw [if_neg h5] at h
    by_cases h9 : t = 9
    · subst h9
      exact Try.sizeOf9 w
    rw [if_neg h9] at h
    by_cases h21 : t = 21
    · subst h21
      exact Try.sizeOf21 w
    rw [if_neg h21] at h
    by_cases h22 : t = 22
    · subst h22
      exact Try.sizeOf22 w
    rw [if_neg h22] at h
    by_cases h68 : t = 68
    · subst h68
      exact Try.sizeOf68 w
    rw [if_neg h68] at h
    by_cases h69 : t = 69
    · subst h69
      exact Try.sizeOf69 w
    rw [if_neg h69] at h
    by_cases h73 : t = 73
    · subst h73
      exact Try.sizeOf73 w
    rw [if_neg h73] at h
    by_cases h75 : t = 75
    · subst h75
      exact Try.sizeOf75 w
    rw [if_neg h75] at h
    by_cases h76 : t = 76
    · subst h76
      exact Try.sizeOf76 w
    rw [if_neg h76] at h
    by_cases h81 : t = 81
    · subst h81
      exact Try.sizeOf81 w
    rw [if_neg h81] at h
    by_cases h82 : t = 82
    · subst h82
      exact Try.sizeOf82 w
    rw [if_neg h82] at h
    by_cases h108 : t = 108
    · subst h108
      exact Try.sizeOf108 w
    rw [if_neg h108] at h
    cases h
end Go.Proofs.Ytcjhojdlfnpgjaa
