/- The table of the types that the conditions know. -/
import Derived.Test.YtcamdgkjijepeaaVm
import Derived.Test.YtcamdgkjijepeaaVg
import Derived.Test.YtcamdgkjijepeaaProg
namespace Go.Proofs.Ytcamdgkjijepeaa
open Go.RowKit
set_option linter.unusedVariables false
set_option linter.unusedSimpArgs false
def T : TT where
  sc := fun t => if t = 25 then true else if t = 2 then true else if t = 22 then true else if t = 3 then true else if t = 4 then true else if t = 5 then true else if t = 9 then true else if t = 21 then true else if t = 70 then true else if t = 72 then true else if t = 81 then true else if t = 101 then true else if t = 105 then true else if t = 108 then true else false
  ag := fun t => if t = 32 then some 1 else if t = 34 then some 2 else if t = 24 then some 1 else if t = 27 then some 2 else none
  fo := fun t j => if t = 32 then (if j < 1 then some j else none) else if t = 34 then (if j < 2 then some j else none) else if t = 24 then (if j < 1 then some j else none) else if t = 27 then (if j < 2 then some j else none) else none
  sl := fun t => if t = 22 then some 25 else if t = 25 then some 2 else if t = 100 then some 32 else none
  ik := fun t => if t = 2 then some .i64 else if t = 3 then some .i64 else if t = 5 then some .u8 else if t = 21 then some .i32 else if t = 101 then some .u64 else if t = 105 then some .u32 else if t = 108 then some .u64 else none
  bo := fun t => if t = 4 then true else false
  el := fun t => if t = 22 then some (25, .slice none 0 0, 24) else if t = 25 then some (2, .int .i64 0, 8) else none
  zr := fun t => if t = 2 then some (.int .i64 0) else if t = 3 then some (.int .i64 0) else if t = 4 then some (.bool false) else if t = 5 then some (.int .u8 0) else if t = 21 then some (.int .i32 0) else if t = 22 then some (.slice none 0 0) else if t = 24 then some (.agg #[.slice none 0 0]) else if t = 25 then some (.slice none 0 0) else if t = 27 then some (.agg #[.int .i64 0, .slice none 0 0]) else if t = 32 then some (.agg #[.slice none 0 0]) else if t = 34 then some (.agg #[.int .i64 0, .slice none 0 0]) else if t = 101 then some (.int .u64 0) else if t = 105 then some (.int .u32 0) else if t = 108 then some (.int .u64 0) else none
  ea := fun t => if t = 100 then some 32 else none
theorem T_sc (t : Nat) : T.sc t = if t = 25 then true else if t = 2 then true else if t = 22 then true else if t = 3 then true else if t = 4 then true else if t = 5 then true else if t = 9 then true else if t = 21 then true else if t = 70 then true else if t = 72 then true else if t = 81 then true else if t = 101 then true else if t = 105 then true else if t = 108 then true else false := rfl
theorem T_ag (t : Nat) : T.ag t = if t = 32 then some 1 else if t = 34 then some 2 else if t = 24 then some 1 else if t = 27 then some 2 else none := rfl
theorem T_fo (t j : Nat) : T.fo t j = if t = 32 then (if j < 1 then some j else none) else if t = 34 then (if j < 2 then some j else none) else if t = 24 then (if j < 1 then some j else none) else if t = 27 then (if j < 2 then some j else none) else none := rfl
theorem T_sl (t : Nat) : T.sl t = if t = 22 then some 25 else if t = 25 then some 2 else if t = 100 then some 32 else none := rfl
theorem T_ik (t : Nat) : T.ik t = if t = 2 then some .i64 else if t = 3 then some .i64 else if t = 5 then some .u8 else if t = 21 then some .i32 else if t = 101 then some .u64 else if t = 105 then some .u32 else if t = 108 then some .u64 else none := rfl
theorem T_bo (t : Nat) : T.bo t = if t = 4 then true else false := rfl
theorem T_el (t : Nat) : T.el t = if t = 22 then some (25, .slice none 0 0, 24) else if t = 25 then some (2, .int .i64 0, 8) else none := rfl
theorem T_zr (t : Nat) : T.zr t = if t = 2 then some (.int .i64 0) else if t = 3 then some (.int .i64 0) else if t = 4 then some (.bool false) else if t = 5 then some (.int .u8 0) else if t = 21 then some (.int .i32 0) else if t = 22 then some (.slice none 0 0) else if t = 24 then some (.agg #[.slice none 0 0]) else if t = 25 then some (.slice none 0 0) else if t = 27 then some (.agg #[.int .i64 0, .slice none 0 0]) else if t = 32 then some (.agg #[.slice none 0 0]) else if t = 34 then some (.agg #[.int .i64 0, .slice none 0 0]) else if t = 101 then some (.int .u64 0) else if t = 105 then some (.int .u32 0) else if t = 108 then some (.int .u64 0) else none := rfl
theorem T_ea (t : Nat) : T.ea t = if t = 100 then some 32 else none := rfl
theorem T_ok : T.Ok Try.prog where
  sc := by
    intro t h w
    simp only [T] at h
    by_cases h25 : t = 25
    · subst h25
      exact Try.isAgg25 w
    rw [if_neg h25] at h
    by_cases h2 : t = 2
    · subst h2
      exact Try.isAgg2 w
    rw [if_neg h2] at h
    by_cases h22 : t = 22
    · subst h22
      exact Try.isAgg22 w
    rw [if_neg h22] at h
    by_cases h3 : t = 3
    · subst h3
      exact Try.isAgg3 w
    rw [if_neg h3] at h
    by_cases h4 : t = 4
    · subst h4
      exact Try.isAgg4 w
    rw [if_neg h4] at h
    by_cases h5 : t = 5
    · subst h5
      exact Try.isAgg5 w
    rw [if_neg h5] at h
    by_cases h9 : t = 9
    · subst h9
      exact Try.isAgg9 w
    rw [if_neg h9] at h
    by_cases h21 : t = 21
    · subst h21
      exact Try.isAgg21 w
    rw [if_neg h21] at h
    by_cases h70 : t = 70
    · subst h70
      exact Try.isAgg70 w
    rw [if_neg h70] at h
    by_cases h72 : t = 72
    · subst h72
      exact Try.isAgg72 w
    rw [if_neg h72] at h
    by_cases h81 : t = 81
    · subst h81
      exact Try.isAgg81 w
    rw [if_neg h81] at h
    by_cases h101 : t = 101
    · subst h101
      exact Try.isAgg101 w
    rw [if_neg h101] at h
    by_cases h105 : t = 105
    · subst h105
      exact Try.isAgg105 w
    rw [if_neg h105] at h
    by_cases h108 : t = 108
    · subst h108
      exact Try.isAgg108 w
    rw [if_neg h108] at h
    cases h
  ag := by
    intro t k h w
    simp only [T] at h
    by_cases h32 : t = 32
    · subst h32
      rw [if_pos rfl] at h
      cases h
      exact ⟨Try.isAgg32 w, Try.sizeOf32 w⟩
    rw [if_neg h32] at h
    by_cases h34 : t = 34
    · subst h34
      rw [if_pos rfl] at h
      cases h
      exact ⟨Try.isAgg34 w, Try.sizeOf34 w⟩
    rw [if_neg h34] at h
    by_cases h24 : t = 24
    · subst h24
      rw [if_pos rfl] at h
      cases h
      exact ⟨Try.isAgg24 w, Try.sizeOf24 w⟩
    rw [if_neg h24] at h
    by_cases h27 : t = 27
    · subst h27
      rw [if_pos rfl] at h
      cases h
      exact ⟨Try.isAgg27 w, Try.sizeOf27 w⟩
    rw [if_neg h27] at h
    cases h
  fo := by
    intro t j o h w a
    simp only [T] at h
    by_cases h32 : t = 32
    · subst h32
      rw [if_pos rfl] at h
      have hj : j < 1 := by
        by_cases q : j < 1
        · exact q
        · rw [if_neg q] at h; cases h
      rw [if_pos hj] at h
      cases h
      obtain rfl : j = 0 := by omega
      simp [Instr.fieldAt, Instr.sureAddr, fieldPlace, Try.runUnderlying32, Try.sizeOf22]
    rw [if_neg h32] at h
    by_cases h34 : t = 34
    · subst h34
      rw [if_pos rfl] at h
      have hj : j < 2 := by
        by_cases q : j < 2
        · exact q
        · rw [if_neg q] at h; cases h
      rw [if_pos hj] at h
      cases h
      obtain rfl | rfl : j = 0 ∨ j = 1 := by omega
      · simp [Instr.fieldAt, Instr.sureAddr, fieldPlace, Try.runUnderlying34, Try.sizeOf2]
      · simp [Instr.fieldAt, Instr.sureAddr, fieldPlace, Try.runUnderlying34, Try.sizeOf25]
    rw [if_neg h34] at h
    by_cases h24 : t = 24
    · subst h24
      rw [if_pos rfl] at h
      have hj : j < 1 := by
        by_cases q : j < 1
        · exact q
        · rw [if_neg q] at h; cases h
      rw [if_pos hj] at h
      cases h
      obtain rfl : j = 0 := by omega
      simp [Instr.fieldAt, Instr.sureAddr, fieldPlace, Try.runUnderlying24, Try.sizeOf22]
    rw [if_neg h24] at h
    by_cases h27 : t = 27
    · subst h27
      rw [if_pos rfl] at h
      have hj : j < 2 := by
        by_cases q : j < 2
        · exact q
        · rw [if_neg q] at h; cases h
      rw [if_pos hj] at h
      cases h
      obtain rfl | rfl : j = 0 ∨ j = 1 := by omega
      · simp [Instr.fieldAt, Instr.sureAddr, fieldPlace, Try.runUnderlying27, Try.sizeOf2]
      · simp [Instr.fieldAt, Instr.sureAddr, fieldPlace, Try.runUnderlying27, Try.sizeOf25]
    rw [if_neg h27] at h
    cases h
  sl := by
    intro t e h w
    simp only [T] at h
    by_cases h22 : t = 22
    · subst h22
      rw [if_pos rfl] at h
      cases h
      exact ⟨Try.runUnderlying22 w, Try.sizeOf25 w⟩
    rw [if_neg h22] at h
    by_cases h25 : t = 25
    · subst h25
      rw [if_pos rfl] at h
      cases h
      exact ⟨Try.runUnderlying25 w, Try.sizeOf2 w⟩
    rw [if_neg h25] at h
    by_cases h100 : t = 100
    · subst h100
      rw [if_pos rfl] at h
      cases h
      exact ⟨Try.runUnderlying100 w, Try.sizeOf32 w⟩
    rw [if_neg h100] at h
    cases h
  ik := by
    intro t k h
    simp only [T] at h
    by_cases h2 : t = 2
    · subst h2
      rw [if_pos rfl] at h
      cases h
      exact Try.underlying2
    rw [if_neg h2] at h
    by_cases h3 : t = 3
    · subst h3
      rw [if_pos rfl] at h
      cases h
      exact Try.underlying3
    rw [if_neg h3] at h
    by_cases h5 : t = 5
    · subst h5
      rw [if_pos rfl] at h
      cases h
      exact Try.underlying5
    rw [if_neg h5] at h
    by_cases h21 : t = 21
    · subst h21
      rw [if_pos rfl] at h
      cases h
      exact Try.underlying21
    rw [if_neg h21] at h
    by_cases h101 : t = 101
    · subst h101
      rw [if_pos rfl] at h
      cases h
      exact Try.underlying101
    rw [if_neg h101] at h
    by_cases h105 : t = 105
    · subst h105
      rw [if_pos rfl] at h
      cases h
      exact Try.underlying105
    rw [if_neg h105] at h
    by_cases h108 : t = 108
    · subst h108
      rw [if_pos rfl] at h
      cases h
      exact Try.underlying108
    rw [if_neg h108] at h
    cases h
  bo := by
    intro t h
    simp only [T] at h
    by_cases h4 : t = 4
    · subst h4
      exact Try.underlying4
    rw [if_neg h4] at h
    cases h
  el := by
    intro t e z b h
    simp only [T] at h
    by_cases h22 : t = 22
    · subst h22
      rw [if_pos rfl] at h
      cases h
      exact ⟨Try.underlying22, Try.t25, by kernel_rfl, by kernel_rfl, by kernel_rfl, by kernel_rfl, rfl⟩
    rw [if_neg h22] at h
    by_cases h25 : t = 25
    · subst h25
      rw [if_pos rfl] at h
      cases h
      exact ⟨Try.underlying25, Try.t2, by kernel_rfl, by kernel_rfl, by kernel_rfl, by kernel_rfl, rfl⟩
    rw [if_neg h25] at h
    cases h
  zr := by
    intro t z h w
    simp only [T] at h
    by_cases h2 : t = 2
    · subst h2
      rw [if_pos rfl] at h
      cases h
      exact Try.zeroValue2 w
    rw [if_neg h2] at h
    by_cases h3 : t = 3
    · subst h3
      rw [if_pos rfl] at h
      cases h
      exact Try.zeroValue3 w
    rw [if_neg h3] at h
    by_cases h4 : t = 4
    · subst h4
      rw [if_pos rfl] at h
      cases h
      exact Try.zeroValue4 w
    rw [if_neg h4] at h
    by_cases h5 : t = 5
    · subst h5
      rw [if_pos rfl] at h
      cases h
      exact Try.zeroValue5 w
    rw [if_neg h5] at h
    by_cases h21 : t = 21
    · subst h21
      rw [if_pos rfl] at h
      cases h
      exact Try.zeroValue21 w
    rw [if_neg h21] at h
    by_cases h22 : t = 22
    · subst h22
      rw [if_pos rfl] at h
      cases h
      exact Try.zeroValue22 w
    rw [if_neg h22] at h
    by_cases h24 : t = 24
    · subst h24
      rw [if_pos rfl] at h
      cases h
      exact Try.zeroValue24 w
    rw [if_neg h24] at h
    by_cases h25 : t = 25
    · subst h25
      rw [if_pos rfl] at h
      cases h
      exact Try.zeroValue25 w
    rw [if_neg h25] at h
    by_cases h27 : t = 27
    · subst h27
      rw [if_pos rfl] at h
      cases h
      exact Try.zeroValue27 w
    rw [if_neg h27] at h
    by_cases h32 : t = 32
    · subst h32
      rw [if_pos rfl] at h
      cases h
      exact Try.zeroValue32 w
    rw [if_neg h32] at h
    by_cases h34 : t = 34
    · subst h34
      rw [if_pos rfl] at h
      cases h
      exact Try.zeroValue34 w
    rw [if_neg h34] at h
    by_cases h101 : t = 101
    · subst h101
      rw [if_pos rfl] at h
      cases h
      exact Try.zeroValue101 w
    rw [if_neg h101] at h
    by_cases h105 : t = 105
    · subst h105
      rw [if_pos rfl] at h
      cases h
      exact Try.zeroValue105 w
    rw [if_neg h105] at h
    by_cases h108 : t = 108
    · subst h108
      rw [if_pos rfl] at h
      cases h
      exact Try.zeroValue108 w
    rw [if_neg h108] at h
    cases h
  ea := by
    intro t e h
    simp only [T] at h
    by_cases h100 : t = 100
    · subst h100
      rw [if_pos rfl] at h
      cases h
      exact ⟨Try.underlying100, Try.t32, .agg #[.slice none 0 0], by kernel_rfl, by kernel_rfl, by kernel_rfl, rfl⟩
    rw [if_neg h100] at h
    cases h
  s1 := by
    intro t h w
    simp only [T] at h
    by_cases h25 : t = 25
    · subst h25
      exact Try.sizeOf25 w
    rw [if_neg h25] at h
    by_cases h2 : t = 2
    · subst h2
      exact Try.sizeOf2 w
    rw [if_neg h2] at h
    by_cases h22 : t = 22
    · subst h22
      exact Try.sizeOf22 w
    rw [if_neg h22] at h
    by_cases h3 : t = 3
    · subst h3
      exact Try.sizeOf3 w
    rw [if_neg h3] at h
    by_cases h4 : t = 4
    · subst h4
      exact Try.sizeOf4 w
    rw [if_neg h4] at h
    by_cases h5 : t = 5
    · subst h5
      exact Try.sizeOf5 w
    rw [if_neg h5] at h
    by_cases h9 : t = 9
    · subst h9
      exact Try.sizeOf9 w
    rw [if_neg h9] at h
    by_cases h21 : t = 21
    · subst h21
      exact Try.sizeOf21 w
    rw [if_neg h21] at h
    by_cases h70 : t = 70
    · subst h70
      exact Try.sizeOf70 w
    rw [if_neg h70] at h
    by_cases h72 : t = 72
    · subst h72
      exact Try.sizeOf72 w
    rw [if_neg h72] at h
    by_cases h81 : t = 81
    · subst h81
      exact Try.sizeOf81 w
    rw [if_neg h81] at h
    by_cases h101 : t = 101
    · subst h101
      exact Try.sizeOf101 w
    rw [if_neg h101] at h
    by_cases h105 : t = 105
    · subst h105
      exact Try.sizeOf105 w
    rw [if_neg h105] at h
    by_cases h108 : t = 108
    · subst h108
      exact Try.sizeOf108 w
    rw [if_neg h108] at h
    cases h
end Go.Proofs.Ytcamdgkjijepeaa
