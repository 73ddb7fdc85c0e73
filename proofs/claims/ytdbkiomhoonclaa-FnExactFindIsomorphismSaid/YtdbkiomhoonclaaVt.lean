/- The table of the types that the conditions know. -/
import Derived.Test.YtdbkiomhoonclaaVj
import Derived.Test.YtdbkiomhoonclaaVg
import Derived.Test.YtdbkiomhoonclaaProg
namespace Go.Proofs.Ytdbkiomhoonclaa
open Go.RowKit
set_option linter.unusedVariables false
set_option linter.unusedSimpArgs false
def T : TT where
  sc := fun t => if t = 25 then true else if t = 2 then true else if t = 22 then true else if t = 3 then true else if t = 4 then true else if t = 5 then true else if t = 9 then true else if t = 21 then true else if t = 55 then true else if t = 60 then true else if t = 62 then true else if t = 64 then true else if t = 70 then true else if t = 73 then true else if t = 76 then true else if t = 78 then true else if t = 89 then true else if t = 93 then true else if t = 101 then true else if t = 110 then true else if t = 120 then true else false
  ag := fun t => if t = 29 then some 1 else if t = 24 then some 1 else none
  fo := fun t j => if t = 29 then (if j < 1 then some j else none) else if t = 24 then (if j < 1 then some j else none) else none
  sl := fun t => if t = 22 then some 25 else if t = 25 then some 2 else if t = 89 then some 4 else if t = 97 then some 29 else none
  ik := fun t => if t = 2 then some .i64 else if t = 3 then some .i64 else if t = 5 then some .u8 else if t = 21 then some .i32 else if t = 60 then some .u64 else if t = 93 then some .u64 else if t = 101 then some .i64 else if t = 110 then some .u32 else if t = 120 then some .u64 else none
  bo := fun t => if t = 4 then true else false
  el := fun t => if t = 22 then some (25, .slice none 0 0, 24) else if t = 25 then some (2, .int .i64 0, 8) else if t = 89 then some (4, .bool false, 1) else none
  zr := fun t => if t = 2 then some (.int .i64 0) else if t = 3 then some (.int .i64 0) else if t = 4 then some (.bool false) else if t = 5 then some (.int .u8 0) else if t = 21 then some (.int .i32 0) else if t = 22 then some (.slice none 0 0) else if t = 24 then some (.agg #[.slice none 0 0]) else if t = 25 then some (.slice none 0 0) else if t = 29 then some (.agg #[.slice none 0 0]) else if t = 60 then some (.int .u64 0) else if t = 64 then some (.nilFunc) else if t = 70 then some (.nilFunc) else if t = 89 then some (.slice none 0 0) else if t = 93 then some (.int .u64 0) else if t = 101 then some (.int .i64 0) else if t = 110 then some (.int .u32 0) else if t = 120 then some (.int .u64 0) else none
  ea := fun t => if t = 97 then some 29 else none
theorem T_sc (t : Nat) : T.sc t = if t = 25 then true else if t = 2 then true else if t = 22 then true else if t = 3 then true else if t = 4 then true else if t = 5 then true else if t = 9 then true else if t = 21 then true else if t = 55 then true else if t = 60 then true else if t = 62 then true else if t = 64 then true else if t = 70 then true else if t = 73 then true else if t = 76 then true else if t = 78 then true else if t = 89 then true else if t = 93 then true else if t = 101 then true else if t = 110 then true else if t = 120 then true else false := rfl
theorem T_ag (t : Nat) : T.ag t = if t = 29 then some 1 else if t = 24 then some 1 else none := rfl
theorem T_fo (t j : Nat) : T.fo t j = if t = 29 then (if j < 1 then some j else none) else if t = 24 then (if j < 1 then some j else none) else none := rfl
theorem T_sl (t : Nat) : T.sl t = if t = 22 then some 25 else if t = 25 then some 2 else if t = 89 then some 4 else if t = 97 then some 29 else none := rfl
theorem T_ik (t : Nat) : T.ik t = if t = 2 then some .i64 else if t = 3 then some .i64 else if t = 5 then some .u8 else if t = 21 then some .i32 else if t = 60 then some .u64 else if t = 93 then some .u64 else if t = 101 then some .i64 else if t = 110 then some .u32 else if t = 120 then some .u64 else none := rfl
theorem T_bo (t : Nat) : T.bo t = if t = 4 then true else false := rfl
theorem T_el (t : Nat) : T.el t = if t = 22 then some (25, .slice none 0 0, 24) else if t = 25 then some (2, .int .i64 0, 8) else if t = 89 then some (4, .bool false, 1) else none := rfl
theorem T_zr (t : Nat) : T.zr t = if t = 2 then some (.int .i64 0) else if t = 3 then some (.int .i64 0) else if t = 4 then some (.bool false) else if t = 5 then some (.int .u8 0) else if t = 21 then some (.int .i32 0) else if t = 22 then some (.slice none 0 0) else if t = 24 then some (.agg #[.slice none 0 0]) else if t = 25 then some (.slice none 0 0) else if t = 29 then some (.agg #[.slice none 0 0]) else if t = 60 then some (.int .u64 0) else if t = 64 then some (.nilFunc) else if t = 70 then some (.nilFunc) else if t = 89 then some (.slice none 0 0) else if t = 93 then some (.int .u64 0) else if t = 101 then some (.int .i64 0) else if t = 110 then some (.int .u32 0) else if t = 120 then some (.int .u64 0) else none := rfl
theorem T_ea (t : Nat) : T.ea t = if t = 97 then some 29 else none := rfl
theorem T_ok : T.Ok Try.prog where
  sc := by
    intro t h w
    simp only [T] at h
    by_cases h25 : t = 25
    · subst h25
      exact Try.isAgg25 w
    rw [if_neg h25] at h
    by_cases h2 : t = 2
    · subst h2
      exact Try.isAgg2 w
    rw [if_neg h2] at h
    by_cases h22 : t = 22
    · subst h22
      exact Try.isAgg22 w
    rw [if_neg h22] at h
    by_cases h3 : t = 3
    · subst h3
      exact Try.isAgg3 w
    rw [if_neg h3] at h
    by_cases h4 : t = 4
    · subst h4
      exact Try.isAgg4 w
    rw [if_neg h4] at h
    by_cases h5 : t = 5
    · subst h5
      exact Try.isAgg5 w
    rw [if_neg h5] at h
    by_cases h9 : t = 9
    · subst h9
      exact Try.isAgg9 w
    rw [if_neg h9] at h
    by_cases h21 : t = 21
    · subst h21
      exact Try.isAgg21 w
    rw [if_neg h21] at h
    by_cases h55 : t = 55
    · subst h55
      exact Try.isAgg55 w
    rw [if_neg h55] at h
    by_cases h60 : t = 60
    · subst h60
      exact Try.isAgg60 w
    rw [if_neg h60] at h
    by_cases h62 : t = 62
    · subst h62
      exact Try.isAgg62 w
    rw [if_neg h62] at h
    by_cases h64 : t = 64
    · subst h64
      exact Try.isAgg64 w
    rw [if_neg h64] at h
    by_cases h70 : t = 70
    · subst h70
      exact Try.isAgg70 w
    rw [if_neg h70] at h
    by_cases h73 : t = 73
    · subst h73
      exact Try.isAgg73 w
    rw [if_neg h73] at h
    by_cases h76 : t = 76
    · subst h76
      exact Try.isAgg76 w
    rw [if_neg h76] at h
    by_cases h78 : t = 78
    · subst h78
      exact Try.isAgg78 w
    rw [if_neg h78] at h
    by_cases h89 : t = 89
    · subst h89
      exact Try.isAgg89 w
    rw [if_neg h89] at h
    by_cases h93 : t = 93
    · subst h93
      exact Try.isAgg93 w
    rw [if_neg h93] at h
    by_cases h101 : t = 101
    · subst h101
      exact Try.isAgg101 w
    rw [if_neg h101] at h
    by_cases h110 : t = 110
    · subst h110
      exact Try.isAgg110 w
    rw [if_neg h110] at h
    by_cases h120 : t = 120
    · subst h120
      exact Try.isAgg120 w
    rw [if_neg h120] at h
    cases h
  ag := by
    intro t k h w
    simp only [T] at h
    by_cases h29 : t = 29
    · subst h29
      rw [if_pos rfl] at h
      cases h
      exact ⟨Try.isAgg29 w, Try.sizeOf29 w⟩
    rw [if_neg h29] at h
    by_cases h24 : t = 24
    · subst h24
      rw [if_pos rfl] at h
      cases h
      exact ⟨Try.isAgg24 w, Try.sizeOf24 w⟩
    rw [if_neg h24] at h
    cases h
  fo := by
    intro t j o h w a
    simp only [T] at h
    by_cases h29 : t = 29
    · subst h29
      rw [if_pos rfl] at h
      have hj : j < 1 := by
        by_cases q : j < 1
        · exact q
        · rw [if_neg q] at h; cases h
      rw [if_pos hj] at h
      cases h
      obtain rfl : j = 0 := by omega
      simp [Instr.fieldAt, Instr.sureAddr, fieldPlace, Try.runUnderlying29, Try.sizeOf22]
    rw [if_neg h29] at h
    by_cases h24 : t = 24
    · subst h24
      rw [if_pos rfl] at h
      have hj : j < 1 := by
        by_cases q : j < 1
        · exact q
        · rw [if_neg q] at h; cases h
      rw [if_pos hj] at h
      cases h
      obtain rfl : j = 0 := by omega
      simp [Instr.fieldAt, Instr.sureAddr, fieldPlace, Try.runUnderlying24, Try.sizeOf22]
    rw [if_neg h24] at h
    cases h
  sl := by
    intro t e h w
    simp only [T] at h
    by_cases h22 : t = 22
    · subst h22
      rw [if_pos rfl] at h
      cases h
      exact ⟨Try.runUnderlying22 w, Try.sizeOf25 w⟩
    rw [if_neg h22] at h
    by_cases h25 : t = 25
    · subst h25
      rw [if_pos rfl] at h
      cases h
      exact ⟨Try.runUnderlying25 w, Try.sizeOf2 w⟩
    rw [if_neg h25] at h
    by_cases h89 : t = 89
    · subst h89
      rw [if_pos rfl] at h
      cases h
      exact ⟨Try.runUnderlying89 w, Try.sizeOf4 w⟩
    rw [if_neg h89] at h
    by_cases h97 : t = 97
    · subst h97
      rw [if_pos rfl] at h
      cases h
      exact ⟨Try.runUnderlying97 w, Try.sizeOf29 w⟩
    rw [if_neg h97] at h
    cases h
  ik := by
    intro t k h
    simp only [T] at h
    by_cases h2 : t = 2
    · subst h2
      rw [if_pos rfl] at h
      cases h
      exact Try.underlying2
    rw [if_neg h2] at h
    by_cases h3 : t = 3
    · subst h3
      rw [if_pos rfl] at h
      cases h
      exact Try.underlying3
    rw [if_neg h3] at h
    by_cases h5 : t = 5
    · subst h5
      rw [if_pos rfl] at h
      cases h
      exact Try.underlying5
    rw [if_neg h5] at h
    by_cases h21 : t = 21
    · subst h21
      rw [if_pos rfl] at h
      cases h
      exact Try.underlying21
    rw [if_neg h21] at h
    by_cases h60 : t = 60
    · subst h60
      rw [if_pos rfl] at h
      cases h
      exact Try.underlying60
    rw [if_neg h60] at h
    by_cases h93 : t = 93
    · subst h93
      rw [if_pos rfl] at h
      cases h
      exact Try.underlying93
    rw [if_neg h93] at h
    by_cases h101 : t = 101
    · subst h101
      rw [if_pos rfl] at h
      cases h
      exact Try.underlying101
    rw [if_neg h101] at h
    by_cases h110 : t = 110
    · subst h110
      rw [if_pos rfl] at h
      cases h
      exact Try.underlying110
    rw [if_neg h110] at h
    by_cases h120 : t = 120
    · subst h120
      rw [if_pos rfl] at h
      cases h
      exact Try.underlying120
    rw [if_neg h120] at h
    cases h
  bo := by
    intro t h
    simp only [T] at h
    by_cases h4 : t = 4
    · subst h4
      exact Try.underlying4
    rw [if_neg h4] at h
    cases h
  el := by
    intro t e z b h
    simp only [T] at h
    by_cases h22 : t = 22
    · subst h22
      rw [if_pos rfl] at h
      cases h
      exact ⟨Try.underlying22, Try.t25, by kernel_rfl, by kernel_rfl, by kernel_rfl, by kernel_rfl, rfl⟩
    rw [if_neg h22] at h
    by_cases h25 : t = 25
    · subst h25
      rw [if_pos rfl] at h
      cases h
      exact ⟨Try.underlying25, Try.t2, by kernel_rfl, by kernel_rfl, by kernel_rfl, by kernel_rfl, rfl⟩
    rw [if_neg h25] at h
    by_cases h89 : t = 89
    · subst h89
      rw [if_pos rfl] at h
      cases h
      exact ⟨Try.underlying89, Try.t4, by kernel_rfl, by kernel_rfl, by kernel_rfl, by kernel_rfl, rfl⟩
    rw [if_neg h89] at h
    cases h
  zr := by
    intro t z h w
    simp only [T] at h
    by_cases h2 : t = 2
    · subst h2
      rw [if_pos rfl] at h
      cases h
      exact Try.zeroValue2 w
    rw [if_neg h2] at h
    by_cases h3 : t = 3
    · subst h3
      rw [if_pos rfl] at h
      cases h
      exact Try.zeroValue3 w
    rw [if_neg h3] at h
    by_cases h4 : t = 4
    · subst h4
      rw [if_pos rfl] at h
      cases h
      exact Try.zeroValue4 w
    rw [if_neg h4] at h
    by_cases h5 : t = 5
    · subst h5
      rw [if_pos rfl] at h
      cases h
      exact Try.zeroValue5 w
    rw [if_neg h5] at h
    by_cases h21 : t = 21
    · subst h21
      rw [if_pos rfl] at h
      cases h
      exact Try.zeroValue21 w
    rw [if_neg h21] at h
    by_cases h22 : t = 22
    · subst h22
      rw [if_pos rfl] at h
      cases h
      exact Try.zeroValue22 w
    rw [if_neg h22] at h
    by_cases h24 : t = 24
    · subst h24
      rw [if_pos rfl] at h
      cases h
      exact Try.zeroValue24 w
    rw [if_neg h24] at h
    by_cases h25 : t = 25
    · subst h25
      rw [if_pos rfl] at h
      cases h
      exact Try.zeroValue25 w
    rw [if_neg h25] at h
    by_cases h29 : t = 29
    · subst h29
      rw [if_pos rfl] at h
      cases h
      exact Try.zeroValue29 w
    rw [if_neg h29] at h
    by_cases h60 : t = 60
    · subst h60
      rw [if_pos rfl] at h
      cases h
      exact Try.zeroValue60 w
    rw [if_neg h60] at h
    by_cases h64 : t = 64
    · subst h64
      rw [if_pos rfl] at h
      cases h
      exact Try.zeroValue64 w
    rw [if_neg h64] at h
    by_cases h70 : t = 70
    · subst h70
      rw [if_pos rfl] at h
      cases h
      exact Try.zeroValue70 w
    rw [if_neg h70] at h
    by_cases h89 : t = 89
    · subst h89
      rw [if_pos rfl] at h
      cases h
      exact Try.zeroValue89 w
    rw [if_neg h89] at h
    by_cases h93 : t = 93
    · subst h93
      rw [if_pos rfl] at h
      cases h
      exact Try.zeroValue93 w
    rw [if_neg h93] at h
    by_cases h101 : t = 101
    · subst h101
      rw [if_pos rfl] at h
      cases h
      exact Try.zeroValue101 w
    rw [if_neg h101] at h
    by_cases h110 : t = 110
    · subst h110
      rw [if_pos rfl] at h
      cases h
      exact Try.zeroValue110 w
    rw [if_neg h110] at h
    by_cases h120 : t = 120
    · subst h120
      rw [if_pos rfl] at h
      cases h
      exact Try.zeroValue120 w
    rw [if_neg h120] at h
    cases h
  ea := by
    intro t e h
    simp only [T] at h
    by_cases h97 : t = 97
    · subst h97
      rw [if_pos rfl] at h
      cases h
      exact ⟨Try.underlying97, Try.t29, .agg #[.slice none 0 0], by kernel_rfl, by kernel_rfl, by kernel_rfl, rfl⟩
    rw [if_neg h97] at h
    cases h
  s1 := by
    intro t h w
    simp only [T] at h
    by_cases h25 : t = 25
    · subst h25
      exact Try.sizeOf25 w
    rw [if_neg h25] at h
    by_cases h2 : t = 2
    · subst h2
      exact Try.sizeOf2 w
    rw [if_neg h2] at h
    by_cases h22 : t = 22
    · subst h22
      exact Try.sizeOf22 w
    rw [if_neg h22] at h
    by_cases h3 : t = 3
    · subst h3
      exact Try.sizeOf3 w
    rw [if_neg h3] at h
    by_cases h4 : t = 4
    · subst h4
      exact Try.sizeOf4 w
    rw [if_neg h4] at h
    by_cases h5 : t = 5
    · subst h5
      exact Try.sizeOf5 w
    rw [if_neg h5] at h
    by_cases h9 : t = 9
    · subst h9
      exact Try.sizeOf9 w
    rw [if_neg h9] at h
    by_cases h21 : t = 21
    · subst h21
      exact Try.sizeOf21 w
    rw [if_neg h21] at h
    by_cases h55 : t = 55
    · subst h55
      exact Try.sizeOf55 w
    rw [if_neg h55] at h
    by_cases h60 : t = 60
    · subst h60
      exact Try.sizeOf60 w
    rw [if_neg h60] at h
    by_cases h62 : t = 62
    · subst h62
      exact Try.sizeOf62 w
    rw [if_neg h62] at h
    by_cases h64 : t = 64
    · subst h64
      exact Try.sizeOf64 w
    rw [if_neg h64] at h
    by_cases h70 : t = 70
    · subst h70
      exact Try.sizeOf70 w
    rw [if_neg h70] at h
    by_cases h73 : t = 73
    · subst h73
      exact Try.sizeOf73 w
    rw [if_neg h73] at h
    by_cases h76 : t = 76
    · subst h76
      exact Try.sizeOf76 w
    rw [if_neg h76] at h
    by_cases h78 : t = 78
    · subst h78
      exact Try.sizeOf78 w
    rw [if_neg h78] at h
    by_cases h89 : t = 89
    · subst h89
      exact Try.sizeOf89 w
    rw [if_neg h89] at h
    by_cases h93 : t = 93
    · subst h93
      exact Try.sizeOf93 w
    rw [if_neg h93] at h
    by_cases h101 : t = 101
    · subst h101
      exact Try.sizeOf101 w
    rw [if_neg h101] at h
    by_cases h110 : t = 110
    · subst h110
      exact Try.sizeOf110 w
    rw [if_neg h110] at h
    by_cases h120 : t = 120
    · subst h120
      exact Try.sizeOf120 w
    rw [if_neg h120] at h
    cases h
end Go.Proofs.Ytdbkiomhoonclaa
