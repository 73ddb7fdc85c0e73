/- The table of the types that the conditions know; A calculus of verification conditions over logical values: loops; rows of whole numbers; A calculus of verification conditions over logical values: rows that a region whose order is drawn makes and only reads. -/
import Derived.Test.YtcjhojdlfnpgjaaGreatK04
import Derived.Test.YtcjhojdlfnpgjaaGreatK05
import Derived.Test.YtcjhojdlfnpgjaaGreatProg
import Derived.Test.YtcjhojdlfnpgjaaGreatK07
import Derived.Laws.Small
set_option linter.unusedVariables false
set_option linter.unusedSimpArgs false
set_option maxRecDepth 100000
namespace Go.Proofs.YtcjhojdlfnpgjaaGreat
open Go.RowKit
attribute [go_sem] Tryz.results3 Tryz.results4 Tryz.results5 Tryz.results6 Tryz.results7 Tryz.results8 Tryz.results9 Tryz.results10 Tryz.results11 Tryz.results12 Tryz.results13 Tryz.results14 Tryz.results15 Tryz.results16 Tryz.results17 Tryz.results18 Tryz.results19 Tryz.results20 Tryz.results21 Tryz.results22 Tryz.results23 Tryz.results24 Tryz.results25 Tryz.results26 Tryz.results27 Tryz.results28 Tryz.results29 Tryz.results30 Tryz.results31 Tryz.results32 Tryz.results33 Tryz.results34 Tryz.results35 Tryz.results36 Tryz.results37 Tryz.results38 Tryz.results39 Tryz.results40 Tryz.results41 Tryz.results42 Tryz.results43 Tryz.results44 Tryz.results45 Tryz.results46 Tryz.results47 Tryz.results48 Tryz.results49 Tryz.results50 Tryz.results51 Tryz.results52 Tryz.results53 Tryz.results54 Tryz.results55 Tryz.results56 Tryz.results57 Tryz.results58 Tryz.results59 Tryz.results60 Tryz.results61 Tryz.results62 Tryz.results63 Tryz.results64 Tryz.results65 Tryz.results66 Tryz.results67 Tryz.results68 Tryz.results69 Tryz.results70 Tryz.results71 Tryz.results72 Tryz.results73 Tryz.results74 Tryz.results75 Tryz.results76 Tryz.results77 Tryz.results78 Tryz.results79 Tryz.results80 Tryz.results81 Tryz.results82 Tryz.results83 Tryz.results84 Tryz.results85 Tryz.results86 Tryz.results87 Tryz.results88 Tryz.results89 Tryz.results90 Tryz.results91 Tryz.results92 Tryz.results93 Tryz.results94 Tryz.results95 Tryz.results96 Tryz.results97 Tryz.results98 Tryz.results99 Tryz.results100 Tryz.results101 Tryz.results102 Tryz.results103 Tryz.results104 Tryz.results105 Tryz.results106 Tryz.results107 Tryz.results108 Tryz.results109 Tryz.results110 Tryz.results111 Tryz.results112 Tryz.results113 Tryz.results114 Tryz.results115 Tryz.results116 Tryz.results117 Tryz.results118 Tryz.results119 Tryz.results120 Tryz.results122 Tryz.results123 Tryz.results124 Tryz.results125 Tryz.results126 Tryz.results127 Tryz.results128 Tryz.results129 Tryz.results130 Tryz.results131 Tryz.results132 Tryz.results133 Tryz.results135 Tryz.results136
def T : TT where
  sc := fun t => if t = 27 then true else if t = 2 then true else if t = 24 then true else if t = 3 then true else if t = 4 then true else if t = 5 then true else if t = 9 then true else if t = 21 then true else if t = 22 then true else if t = 54 then true else if t = 62 then true else if t = 78 then true else if t = 82 then true else if t = 88 then true else if t = 92 then true else if t = 97 then true else if t = 104 then true else if t = 107 then true else if t = 111 then true else if t = 115 then true else if t = 124 then true else if t = 130 then true else false
  ag := fun t => if t = 26 then some 1 else if t = 96 then some 3 else none
  fo := fun t j => if t = 26 then (if j < 1 then some j else none) else if t = 96 then (if j < 3 then some j else none) else none
  sl := fun t => if t = 22 then some 5 else if t = 24 then some 27 else if t = 27 then some 2 else if t = 97 then some 9 else if t = 102 then some 26 else if t = 107 then some 4 else none
  ik := fun t => if t = 2 then some .i64 else if t = 3 then some .i64 else if t = 5 then some .u8 else if t = 21 then some .i32 else if t = 88 then some .u64 else if t = 104 then some .u64 else if t = 115 then some .i64 else if t = 124 then some .u32 else if t = 130 then some .u64 else none
  bo := fun t => if t = 4 then true else false
  el := fun t => if t = 22 then some (5, .int .u8 0, 1) else if t = 24 then some (27, .slice none 0 0, 24) else if t = 27 then some (2, .int .i64 0, 8) else if t = 97 then some (9, .string ByteArray.empty, 16) else if t = 107 then some (4, .bool false, 1) else none
  zr := fun t => if t = 2 then some (.int .i64 0) else if t = 3 then some (.int .i64 0) else if t = 4 then some (.bool false) else if t = 5 then some (.int .u8 0) else if t = 21 then some (.int .i32 0) else if t = 22 then some (.slice none 0 0) else if t = 24 then some (.slice none 0 0) else if t = 26 then some (.agg #[.slice none 0 0]) else if t = 27 then some (.slice none 0 0) else if t = 54 then some (.nilFunc) else if t = 78 then some (.nilFunc) else if t = 88 then some (.int .u64 0) else if t = 96 then some (.agg #[.slice none 0 0, .int .i64 0, .int .u64 0]) else if t = 97 then some (.slice none 0 0) else if t = 104 then some (.int .u64 0) else if t = 107 then some (.slice none 0 0) else if t = 115 then some (.int .i64 0) else if t = 124 then some (.int .u32 0) else if t = 130 then some (.int .u64 0) else none
  ea := fun t => if t = 102 then some 26 else none
theorem T_sc (t : Nat) : T.sc t = if t = 27 then true else if t = 2 then true else if t = 24 then true else if t = 3 then true else if t = 4 then true else if t = 5 then true else if t = 9 then true else if t = 21 then true else if t = 22 then true else if t = 54 then true else if t = 62 then true else if t = 78 then true else if t = 82 then true else if t = 88 then true else if t = 92 then true else if t = 97 then true else if t = 104 then true else if t = 107 then true else if t = 111 then true else if t = 115 then true else if t = 124 then true else if t = 130 then true else false := rfl
theorem T_ag (t : Nat) : T.ag t = if t = 26 then some 1 else if t = 96 then some 3 else none := rfl
theorem T_sl (t : Nat) : T.sl t = if t = 22 then some 5 else if t = 24 then some 27 else if t = 27 then some 2 else if t = 97 then some 9 else if t = 102 then some 26 else if t = 107 then some 4 else none := rfl
theorem T_ik (t : Nat) : T.ik t = if t = 2 then some .i64 else if t = 3 then some .i64 else if t = 5 then some .u8 else if t = 21 then some .i32 else if t = 88 then some .u64 else if t = 104 then some .u64 else if t = 115 then some .i64 else if t = 124 then some .u32 else if t = 130 then some .u64 else none := rfl
theorem T_bo (t : Nat) : T.bo t = if t = 4 then true else false := rfl
theorem T_el (t : Nat) : T.el t = if t = 22 then some (5, .int .u8 0, 1) else if t = 24 then some (27, .slice none 0 0, 24) else if t = 27 then some (2, .int .i64 0, 8) else if t = 97 then some (9, .string ByteArray.empty, 16) else if t = 107 then some (4, .bool false, 1) else none := rfl
theorem T_zr (t : Nat) : T.zr t = if t = 2 then some (.int .i64 0) else if t = 3 then some (.int .i64 0) else if t = 4 then some (.bool false) else if t = 5 then some (.int .u8 0) else if t = 21 then some (.int .i32 0) else if t = 22 then some (.slice none 0 0) else if t = 24 then some (.slice none 0 0) else if t = 26 then some (.agg #[.slice none 0 0]) else if t = 27 then some (.slice none 0 0) else if t = 54 then some (.nilFunc) else if t = 78 then some (.nilFunc) else if t = 88 then some (.int .u64 0) else if t = 96 then some (.agg #[.slice none 0 0, .int .i64 0, .int .u64 0]) else if t = 97 then some (.slice none 0 0) else if t = 104 then some (.int .u64 0) else if t = 107 then some (.slice none 0 0) else if t = 115 then some (.int .i64 0) else if t = 124 then some (.int .u32 0) else if t = 130 then some (.int .u64 0) else none := rfl
theorem T_ea (t : Nat) : T.ea t = if t = 102 then some 26 else none := rfl
theorem T_ok : T.Ok Tryz.prog where
  sc := by
    intro t h w
    simp only [T] at h
    by_cases h27 : t = 27
    · subst h27
      exact Tryz.isAgg27 w
    rw [if_neg h27] at h
    by_cases h2 : t = 2
    · subst h2
      exact Tryz.isAgg2 w
    rw [if_neg h2] at h
    by_cases h24 : t = 24
    · subst h24
      exact Tryz.isAgg24 w
    rw [if_neg h24] at h
    by_cases h3 : t = 3
    · subst h3
      exact Tryz.isAgg3 w
    rw [if_neg h3] at h
    by_cases h4 : t = 4
    · subst h4
      exact Tryz.isAgg4 w
    rw [if_neg h4] at h
    by_cases h5 : t = 5
    · subst h5
      exact Tryz.isAgg5 w
    rw [if_neg h5] at h
    by_cases h9 : t = 9
    · subst h9
      exact Tryz.isAgg9 w
    rw [if_neg h9] at h
    by_cases h21 : t = 21
    · subst h21
      exact Tryz.isAgg21 w
    rw [if_neg h21] at h
    by_cases h22 : t = 22
    · subst h22
      exact Tryz.isAgg22 w
    rw [if_neg h22] at h
    by_cases h54 : t = 54
    · subst h54
      exact Tryz.isAgg54 w
    rw [if_neg h54] at h
    by_cases h62 : t = 62
    · subst h62
      exact Tryz.isAgg62 w
    rw [if_neg h62] at h
    by_cases h78 : t = 78
    · subst h78
      exact Tryz.isAgg78 w
    rw [if_neg h78] at h
    by_cases h82 : t = 82
    · subst h82
      exact Tryz.isAgg82 w
    rw [if_neg h82] at h
    by_cases h88 : t = 88
    · subst h88
      exact Tryz.isAgg88 w
    rw [if_neg h88] at h
    by_cases h92 : t = 92
    · subst h92
      exact Tryz.isAgg92 w
    rw [if_neg h92] at h
    by_cases h97 : t = 97
    · subst h97
      exact Tryz.isAgg97 w
    rw [if_neg h97] at h
    by_cases h104 : t = 104
    · subst h104
      exact Tryz.isAgg104 w
    rw [if_neg h104] at h
    by_cases h107 : t = 107
    · subst h107
      exact Tryz.isAgg107 w
    rw [if_neg h107] at h
    by_cases h111 : t = 111
    · subst h111
      exact Tryz.isAgg111 w
    rw [if_neg h111] at h
    by_cases h115 : t = 115
    · subst h115
      exact Tryz.isAgg115 w
    rw [if_neg h115] at h
    by_cases h124 : t = 124
    · subst h124
      exact Tryz.isAgg124 w
    rw [if_neg h124] at h
    by_cases h130 : t = 130
    · subst h130
      exact Tryz.isAgg130 w
    rw [if_neg h130] at h
    cases h
  ag := by
    intro t k h w
    simp only [T] at h
    by_cases h26 : t = 26
    · subst h26
      rw [if_pos rfl] at h
      cases h
      exact ⟨Tryz.isAgg26 w, Tryz.sizeOf26 w⟩
    rw [if_neg h26] at h
    by_cases h96 : t = 96
    · subst h96
      rw [if_pos rfl] at h
      cases h
      exact ⟨Tryz.isAgg96 w, Tryz.sizeOf96 w⟩
    rw [if_neg h96] at h
    cases h
  fo := by
    intro t j o h w a
    simp only [T] at h
    by_cases h26 : t = 26
    · subst h26
      rw [if_pos rfl] at h
      have hj : j < 1 := by
        by_cases q : j < 1
        · exact q
        · rw [if_neg q] at h; cases h
      rw [if_pos hj] at h
      cases h
      obtain rfl : j = 0 := by omega
      simp [Instr.fieldAt, Instr.sureAddr, fieldPlace, Tryz.runUnderlying26, Tryz.sizeOf24]
    rw [if_neg h26] at h
    by_cases h96 : t = 96
    · subst h96
      rw [if_pos rfl] at h
      have hj : j < 3 := by
        by_cases q : j < 3
        · exact q
        · rw [if_neg q] at h; cases h
      rw [if_pos hj] at h
      cases h
      obtain rfl | rfl | rfl : j = 0 ∨ j = 1 ∨ j = 2 := by omega
      · simp [Instr.fieldAt, Instr.sureAddr, fieldPlace, Tryz.runUnderlying96, Tryz.sizeOf22, Tryz.sizeOf3, Tryz.sizeOf88]
      · simp [Instr.fieldAt, Instr.sureAddr, fieldPlace, Tryz.runUnderlying96, Tryz.sizeOf22, Tryz.sizeOf3, Tryz.sizeOf88]
      · simp [Instr.fieldAt, Instr.sureAddr, fieldPlace, Tryz.runUnderlying96, Tryz.sizeOf22, Tryz.sizeOf3, Tryz.sizeOf88]
    rw [if_neg h96] at h
    cases h
  sl := by
    intro t e h w
    simp only [T] at h
    by_cases h22 : t = 22
    · subst h22
      rw [if_pos rfl] at h
      cases h
      exact ⟨Tryz.runUnderlying22 w, Tryz.sizeOf5 w⟩
    rw [if_neg h22] at h
    by_cases h24 : t = 24
    · subst h24
      rw [if_pos rfl] at h
      cases h
      exact ⟨Tryz.runUnderlying24 w, Tryz.sizeOf27 w⟩
    rw [if_neg h24] at h
    by_cases h27 : t = 27
    · subst h27
      rw [if_pos rfl] at h
      cases h
      exact ⟨Tryz.runUnderlying27 w, Tryz.sizeOf2 w⟩
    rw [if_neg h27] at h
    by_cases h97 : t = 97
    · subst h97
      rw [if_pos rfl] at h
      cases h
      exact ⟨Tryz.runUnderlying97 w, Tryz.sizeOf9 w⟩
    rw [if_neg h97] at h
    by_cases h102 : t = 102
    · subst h102
      rw [if_pos rfl] at h
      cases h
      exact ⟨Tryz.runUnderlying102 w, Tryz.sizeOf26 w⟩
    rw [if_neg h102] at h
    by_cases h107 : t = 107
    · subst h107
      rw [if_pos rfl] at h
      cases h
      exact ⟨Tryz.runUnderlying107 w, Tryz.sizeOf4 w⟩
    rw [if_neg h107] at h
    cases h
  ik := by
    intro t k h
    simp only [T] at h
    by_cases h2 : t = 2
    · subst h2
      rw [if_pos rfl] at h
      cases h
      exact Tryz.underlying2
    rw [if_neg h2] at h
    by_cases h3 : t = 3
    · subst h3
      rw [if_pos rfl] at h
      cases h
      exact Tryz.underlying3
    rw [if_neg h3] at h
    by_cases h5 : t = 5
    · subst h5
      rw [if_pos rfl] at h
      cases h
      exact Tryz.underlying5
    rw [if_neg h5] at h
    by_cases h21 : t = 21
    · subst h21
      rw [if_pos rfl] at h
      cases h
      exact Tryz.underlying21
    rw [if_neg h21] at h
    by_cases h88 : t = 88
    · subst h88
      rw [if_pos rfl] at h
      cases h
      exact Tryz.underlying88
    rw [if_neg h88] at h
    by_cases h104 : t = 104
    · subst h104
      rw [if_pos rfl] at h
      cases h
      exact Tryz.underlying104
    rw [if_neg h104] at h
    by_cases h115 : t = 115
    · subst h115
      rw [if_pos rfl] at h
      cases h
      exact Tryz.underlying115
    rw [if_neg h115] at h
    by_cases h124 : t = 124
    · subst h124
      rw [if_pos rfl] at h
      cases h
      exact Tryz.underlying124
    rw [if_neg h124] at h
    by_cases h130 : t = 130
    · subst h130
      rw [if_pos rfl] at h
      cases h
      exact Tryz.underlying130
    rw [if_neg h130] at h
    cases h
  bo := by
    intro t h
    simp only [T] at h
    by_cases h4 : t = 4
    · subst h4
      exact Tryz.underlying4
    rw [if_neg h4] at h
    cases h
  el := by
    intro t e z b h
    simp only [T] at h
    by_cases h22 : t = 22
    · subst h22
      rw [if_pos rfl] at h
      cases h
      exact ⟨Tryz.underlying22, Tryz.t5, by kernel_rfl, by kernel_rfl, by kernel_rfl, by kernel_rfl, rfl⟩
    rw [if_neg h22] at h
    by_cases h24 : t = 24
    · subst h24
      rw [if_pos rfl] at h
      cases h
      exact ⟨Tryz.underlying24, Tryz.t27, by kernel_rfl, by kernel_rfl, by kernel_rfl, by kernel_rfl, rfl⟩
    rw [if_neg h24] at h
    by_cases h27 : t = 27
    · subst h27
      rw [if_pos rfl] at h
      cases h
      exact ⟨Tryz.underlying27, Tryz.t2, by kernel_rfl, by kernel_rfl, by kernel_rfl, by kernel_rfl, rfl⟩
    rw [if_neg h27] at h
    by_cases h97 : t = 97
    · subst h97
      rw [if_pos rfl] at h
      cases h
      exact ⟨Tryz.underlying97, Tryz.t9, by kernel_rfl, by kernel_rfl, by kernel_rfl, by kernel_rfl, rfl⟩
    rw [if_neg h97] at h
    by_cases h107 : t = 107
    · subst h107
      rw [if_pos rfl] at h
      cases h
      exact ⟨Tryz.underlying107, Tryz.t4, by kernel_rfl, by kernel_rfl, by kernel_rfl, by kernel_rfl, rfl⟩
    rw [if_neg h107] at h
    cases h
  zr := by
    intro t z h w
    simp only [T] at h
    by_cases h2 : t = 2
    · subst h2
      rw [if_pos rfl] at h
      cases h
      exact Tryz.zeroValue2 w
    rw [if_neg h2] at h
    by_cases h3 : t = 3
    · subst h3
      rw [if_pos rfl] at h
      cases h
      exact Tryz.zeroValue3 w
    rw [if_neg h3] at h
    by_cases h4 : t = 4
    · subst h4
      rw [if_pos rfl] at h
      cases h
      exact Tryz.zeroValue4 w
    rw [if_neg h4] at h
    by_cases h5 : t = 5
    · subst h5
      rw [if_pos rfl] at h
      cases h
      exact Tryz.zeroValue5 w
    rw [if_neg h5] at h
    by_cases h21 : t = 21
    · subst h21
      rw [if_pos rfl] at h
      cases h
      exact Tryz.zeroValue21 w
    rw [if_neg h21] at h
    by_cases h22 : t = 22
    · subst h22
      rw [if_pos rfl] at h
      cases h
      exact Tryz.zeroValue22 w
    rw [if_neg h22] at h
    by_cases h24 : t = 24
    · subst h24
      rw [if_pos rfl] at h
      cases h
      exact Tryz.zeroValue24 w
    rw [if_neg h24] at h
    by_cases h26 : t = 26
    · subst h26
      rw [if_pos rfl] at h
      cases h
      exact Tryz.zeroValue26 w
    rw [if_neg h26] at h
    by_cases h27 : t = 27
    · subst h27
      rw [if_pos rfl] at h
      cases h
      exact Tryz.zeroValue27 w
    rw [if_neg h27] at h
    by_cases h54 : t = 54
    · subst h54
      rw [if_pos rfl] at h
      cases h
      exact Tryz.zeroValue54 w
    rw [if_neg h54] at h
    by_cases h78 : t = 78
    · subst h78
      rw [if_pos rfl] at h
      cases h
      exact Tryz.zeroValue78 w
    rw [if_neg h78] at h
    by_cases h88 : t = 88
    · subst h88
      rw [if_pos rfl] at h
      cases h
      exact Tryz.zeroValue88 w
    rw [if_neg h88] at h
    by_cases h96 : t = 96
    · subst h96
      rw [if_pos rfl] at h
      cases h
      exact Tryz.zeroValue96 w
    rw [if_neg h96] at h
    by_cases h97 : t = 97
    · subst h97
      rw [if_pos rfl] at h
      cases h
      exact Tryz.zeroValue97 w
    rw [if_neg h97] at h
    by_cases h104 : t = 104
    · subst h104
      rw [if_pos rfl] at h
      cases h
      exact Tryz.zeroValue104 w
    rw [if_neg h104] at h
    by_cases h107 : t = 107
    · subst h107
      rw [if_pos rfl] at h
      cases h
      exact Tryz.zeroValue107 w
    rw [if_neg h107] at h
    by_cases h115 : t = 115
    · subst h115
      rw [if_pos rfl] at h
      cases h
      exact Tryz.zeroValue115 w
    rw [if_neg h115] at h
    by_cases h124 : t = 124
    · subst h124
      rw [if_pos rfl] at h
      cases h
      exact Tryz.zeroValue124 w
    rw [if_neg h124] at h
    by_cases h130 : t = 130
    · subst h130
      rw [if_pos rfl] at h
      cases h
      exact Tryz.zeroValue130 w
    rw [if_neg h130] at h
    cases h
  ea := by
    intro t e h
    simp only [T] at h
    by_cases h102 : t = 102
    · subst h102
      rw [if_pos rfl] at h
      cases h
      exact ⟨Tryz.underlying102, Tryz.t26, .agg #[.slice none 0 0], by kernel_rfl, by kernel_rfl, by kernel_rfl, rfl⟩
    rw [if_neg h102] at h
    cases h
  s1 := by
    intro t h w
    simp only [T] at h
    by_cases h27 : t = 27
    · subst h27
      exact Tryz.sizeOf27 w
    rw [if_neg h27] at h
    by_cases h2 : t = 2
    · subst h2
      exact Tryz.sizeOf2 w
    rw [if_neg h2] at h
    by_cases h24 : t = 24
    · subst h24
      exact Tryz.sizeOf24 w
    rw [if_neg h24] at h
    by_cases h3 : t = 3
    · subst h3
      exact Tryz.sizeOf3 w
    rw [if_neg h3] at h
    by_cases h4 : t = 4
    · subst h4
      exact Tryz.sizeOf4 w
    rw [if_neg h4] at h
    by_cases h5 : t = 5
    · subst h5
      exact Tryz.sizeOf5 w
    rw [if_neg h5] at h
    by_cases h9 : t = 9
    · subst h9
      exact Tryz.sizeOf9 w
    rw [if_neg h9] at h
    by_cases h21 : t = 21
    · subst h21
      exact Tryz.sizeOf21 w
    rw [if_neg h21] at h
    by_cases h22 : t = 22
    · subst h22
      exact Tryz.sizeOf22 w
    rw [if_neg h22] at h
    by_cases h54 : t = 54
    · subst h54
      exact Tryz.sizeOf54 w
    rw [if_neg h54] at h
    by_cases h62 : t = 62
    · subst h62
      exact Tryz.sizeOf62 w
    rw [if_neg h62] at h
    by_cases h78 : t = 78
    · subst h78
      exact Tryz.sizeOf78 w
    rw [if_neg h78] at h
    by_cases h82 : t = 82
    · subst h82
      exact Tryz.sizeOf82 w
    rw [if_neg h82] at h
    by_cases h88 : t = 88
    · subst h88
      exact Tryz.sizeOf88 w
    rw [if_neg h88] at h
    by_cases h92 : t = 92
    · subst h92
      exact Tryz.sizeOf92 w
    rw [if_neg h92] at h
    by_cases h97 : t = 97
    · subst h97
      exact Tryz.sizeOf97 w
    rw [if_neg h97] at h
    by_cases h104 : t = 104
    · subst h104
      exact Tryz.sizeOf104 w
    rw [if_neg h104] at h
    by_cases h107 : t = 107
    · subst h107
      exact Tryz.sizeOf107 w
    rw [if_neg h107] at h
    by_cases h111 : t = 111
    · subst h111
      exact Tryz.sizeOf111 w
    rw [if_neg h111] at h
    by_cases h115 : t = 115
    · subst h115
      exact Tryz.sizeOf115 w
    rw [if_neg h115] at h
    by_cases h124 : t = 124
    · subst h124
      exact Tryz.sizeOf124 w
    rw [if_neg h124] at h
    by_cases h130 : t = 130
    · subst h130
      exact Tryz.sizeOf130 w
    rw [if_neg h130] at h
    cases h
end Go.Proofs.YtcjhojdlfnpgjaaGreat
namespace Go.Proofs.YtcjhojdlfnpgjaaGreat
open Go.RowKit
def LeF (f : Nat → LV) : List (Nat × LV) → Prop
  | [] => True
  | (i, x) :: l => f i = x ∧ LeF f l
def LeO (f : Nat → Option OC) : List (Nat × OC) → Prop
  | [] => True
  | (i, x) :: l => f i = some x ∧ LeO f l
theorem mkF_le {f : Nat → LV} : ∀ {L : List (Nat × LV)}, LeF f L → ∀ i, mkF L i = .junk ∨ mkF L i = f i
  | [], _, _ => .inl rfl
  | (j, x) :: l, h, i => by
    unfold mkF
    by_cases e : i = j
    · rw [if_pos e]; subst e; exact .inr h.1.symm
    · rw [if_neg e]; exact mkF_le h.2 i
theorem mkO_le {f : Nat → Option OC} : ∀ {L : List (Nat × OC)}, LeO f L → ∀ i, mkO L i = none ∨ mkO L i = f i
  | [], _, _ => .inl rfl
  | (j, x) :: l, h, i => by
    unfold mkO
    by_cases e : i = j
    · rw [if_pos e]; subst e; exact .inr h.1.symm
    · rw [if_neg e]; exact mkO_le h.2 i
theorem Le.mk' {s : St} {L : List (Nat × LV)} {O : List (Nat × OC)} (h : LeF s.lf L) (h2 : LeO s.σ O) : Le s (mkS L O) := ⟨mkF_le h, mkO_le h2⟩
theorem Here.loop {P : Program} {n : Nat} {c : Code} {s : St} {K : Kont} {κ : Type} (G : κ → Prop) (μ : κ → Nat) (L : κ → List (Nat × LV)) (O : κ → List (Nat × OC)) (k0 : κ) (h0 : G k0) (hL : LeF s.lf (L k0)) (hO : LeO s.σ (O k0))
    (round : ∀ k, G k → Here P n c (mkS (L k) (O k)) (.back (fun s' => ∃ k', G k' ∧ μ k' < μ k ∧ LeF s'.lf (L k') ∧ LeO s'.σ (O k')) K)) : Here P n (.loop c) s K := by
  refine CodeT.loop (fun m s => ∃ k, G k ∧ m = μ k ∧ s = mkS (L k) (O k)) (μ k0) ⟨_, .mk' hL hO, k0, h0, rfl, rfl⟩ ?_
  rintro m s ⟨k, hk, rfl, rfl⟩
  exact (round k hk).mono (fun s' ⟨k', h1, h2, h3, h4⟩ => ⟨_, _, h2, .mk' h3 h4, k', h1, rfl, rfl⟩) (fun _ _ h => h) (fun _ h => h)
theorem Here.loopV {P : Program} {T : TT} (hT : T.Ok P) {n : Nat} {c : Code} {s : St} {K : Kont} {κ : Type} (G : κ → Prop) (μ : κ → Nat) (L : κ → List (Nat × LV)) (O : κ → List (Nat × OC)) (k0 : κ) (h0 : G k0) (hL : LeF s.lf (L k0)) (hO : LeO s.σ (O k0))
    (round : ∀ k, G k → CodeV P T n c (mkS (L k) (O k)) (.back (fun s' => ∃ k', G k' ∧ μ k' < μ k ∧ LeF s'.lf (L k') ∧ LeO s'.σ (O k')) K)) : HereV P T n (.loop c) s K :=
  fun hc hk => Here.loop G μ L O k0 h0 hL hO fun k hk' => CodeV_sound hT hc hk (round k hk')
theorem RetT_nil {T : TT} {results : Array ResultVar} {r : LV} {s : St} : RetT T results r [] s = (match resLs T s results.toList with | some rs => tupL rs = ren (fun _ => 0) r | none => False) := by
  apply propext
  constructor
  · rintro ⟨rs, ms, h1, h2, h3, _, _⟩
    have : ms = [] := List.eq_nil_of_length_eq_zero (by simpa using h3)
    subst this
    rw [h1]
    simpa using h2
  · intro h
    split at h
    · rename_i rs hr
      exact .plain hr h
    · exact h.elim
theorem itt (p : Prop) : (true = true → p) = p := by simp
theorem iff' (p : Prop) : (false = false → p) = p := by simp
theorem itf (p : Prop) : (true = false → p) = True := by simp
theorem ift (p : Prop) : (false = true → p) = True := by simp
theorem intt (p : Prop) : (true = !true → p) = True := by simp
theorem inft (p : Prop) : (false = !true → p) = p := by simp
theorem intf (p : Prop) : (true = !false → p) = p := by simp
theorem inff (p : Prop) : (false = !false → p) = True := by simp
theorem ntt (p : Prop) : ((!true) = true → p) = True := by simp
theorem nft (p : Prop) : ((!false) = true → p) = p := by simp
theorem ntf (p : Prop) : ((!true) = false → p) = p := by simp
theorem nff (p : Prop) : ((!false) = false → p) = True := by simp
theorem DrawV_nil {P : Program} {T : TT} {n : Nat} {all : Array Oper} {s : St} {k : Kont} : DrawV P T n all [] s k = Norm P T n k s := by rw [DrawV]
def HereD (P : Program) (T : TT) (n : Nat) (all : Array Oper) (o : Oper) (l : List Oper) (s s' : St) (k : Kont) : Prop := ∃ r, OpP P o (evL s) s.σ r ∧ DrawV P T n all l (s'.put o.dst r) k
theorem DrawV_cons {P : Program} {T : TT} {n : Nat} {all : Array Oper} {o : Oper} {l : List Oper} {s : St} {k : Kont} : DrawV P T n all (o :: l) s k = match o.guard with
    | none => match opE T o.op (evL s) s.σ with
      | .val p r => p ∧ DrawV P T n all l (s.put o.dst r) k
      | .two t a b => (t = true → DrawV P T n all l (s.put o.dst a) k) ∧ (t = false → DrawV P T n all l (s.put o.dst b) k)
      | .hard => HereD P T n all o l s s k
      | .bad => False
    | some (j, want) => match s.lf (slotOf all j) with
      | .v (.bool t) => (t = want → match opE T o.op (evL s) s.σ with
          | .val p r => p ∧ DrawV P T n all l ((s.gput (slotOf all j) want).put o.dst r) k
          | .two t' a b => (t' = true → DrawV P T n all l ((s.gput (slotOf all j) want).put o.dst a) k) ∧ (t' = false → DrawV P T n all l ((s.gput (slotOf all j) want).put o.dst b) k)
          | .hard => HereD P T n all o l s (s.gput (slotOf all j) want) k
          | .bad => False) ∧
          (t = !want → DrawV P T n all l ((s.gput (slotOf all j) (!want)).put o.dst (.v undef)) k)
      | x => undefLike x = true ∧ DrawV P T n all l (s.put o.dst (.v undef)) k := by rw [DrawV]; rfl
theorem OpP.call' {P : Program} {o : Oper} {ρ : Operand → LV} {σ : Nat → Option OC} {fo : Operand} {xs : Array Operand} {ts : Array TypeId} {g : Nat} {caps : List LV} {args : List LV} {r : LV} {os : List OC} (ho : o.op = .call { callee := .value fo, args := xs, argTypes := ts })
    (hf : ρ fo = .fn g caps) (hs : Spec P g args r os) (ha : closeBs σ (xs.toList.map ρ ++ caps) = args) (hp : plainL r = true) : OpP P o ρ σ (closeA (osF os) r) := OpP.call ho hf (by rw [ha]; exact hs) hp
theorem tImp (p : Prop) : (True → p) = p := by simp
theorem nTf (p : Prop) : (¬True → p) = True := by simp
theorem fImp (p : Prop) : (False → p) = True := by simp
theorem nFt (p : Prop) : (¬False → p) = p := by simp
theorem tt : decide True = true := rfl
def I (xs : List Int) : List Value := xs.map (Value.int .i64)
def II (t : List (List Int)) : List (List Value) := t.map I
theorem I_len (xs : List Int) : (I xs).length = xs.length := by simp [I]
theorem II_len (t : List (List Int)) : (II t).length = t.length := by simp [II]
theorem dvI (xs : List Int) (n : Nat) : dv (I xs) n = .int .i64 (xs.getD n 0) := by
  simp only [dv, I, List.getD_eq_getElem?_getD, List.getElem?_map]
  cases xs[n]? <;> rfl
theorem II_get (t : List (List Int)) (n : Nat) : (II t).getD n [] = I (t.getD n []) := by
  simp only [II, List.getD_eq_getElem?_getD, List.getElem?_map]
  cases t[n]? <;> rfl
theorem RetT.none {T : TT} {results : Array ResultVar} {r : LV} {s : St} {rs : List LV} (h : resLs T s results.toList = some rs) (h2 : tupL rs = ren (fun i => [].getD i 0) r) : RetT T results r [] s :=
  ⟨rs, [], h, h2, rfl, List.nodup_nil, fun i oc hi => by simp at hi⟩
theorem RetT.one {T : TT} {results : Array ResultVar} {r : LV} {s : St} {rs : List LV} {oc : OC} (m : Nat) (h : resLs T s results.toList = some rs) (h2 : tupL rs = ren (fun i => [m].getD i 0) r) (h3 : s.σ m = some oc) : RetT T results r [oc] s :=
  ⟨rs, [m], h, h2, rfl, by simp, fun i oc' hi => by
    cases i with
    | zero => simp at hi; subst hi; simpa using h3
    | succ i => simp at hi⟩
theorem I_one (xs : List Int) : ∀ u ∈ I xs, u.oneCell' = true := by
  intro u hu
  simp only [I, List.mem_map] at hu
  obtain ⟨x, _, rfl⟩ := hu
  rfl
theorem I_append (xs ys : List Int) : I xs ++ I ys = I (xs ++ ys) := by simp [I]
theorem I_set (xs : List Int) (i : Nat) (x : Int) : (I xs).set i (.int .i64 x) = I (xs.set i x) := by simp [I, List.map_set]
theorem I_rep (n : Nat) (x : Int) : List.replicate n (Value.int .i64 x) = I (List.replicate n x) := by simp [I]
theorem II_append (t : List (List Int)) (r : List Int) : II t ++ [I r] = II (t ++ [r]) := by simp [II]
theorem II_set (t : List (List Int)) (i : Nat) (r : List Int) : (II t).set i (I r) = II (t.set i r) := by simp [II, List.map_set]
theorem built_26 : BuiltAt Tryz.prog 26 [.slice none 0 0] := ⟨fun i => (#[(0, 1)] : Array (Nat × Nat))[i]?, fun i hi => by
  match i, hi with
  | 0, _ => rfl, fun parts => by kernel_rfl⟩
theorem built_96 : BuiltAt Tryz.prog 96 [.slice none 0 0, .int .i64 0, .int .u64 0] := ⟨fun i => (#[(0, 1), (1, 1), (2, 1)] : Array (Nat × Nat))[i]?, fun i hi => by
  match i, hi with
  | 0, _ => rfl
  | 1, _ => rfl
  | 2, _ => rfl, fun parts => by kernel_rfl⟩
attribute [go_sem] toA toAs List.take_succ_cons List.take_zero List.drop_succ_cons List.drop_zero Bool.or_eq_true or_self flat Bool.or_false Bool.false_or Bool.or_true Bool.true_or setAll T_sl Option.bind_some Option.bind_none DrawM_nil DrawM_cons okR inP bornL_t bornL_f ment ments St.lates St.late or_true true_or St.turn nilSub nilSubs isNil osO ghO ownLV List.any_cons List.any_nil Option.join_some Option.join_none St.back toM toMs posOf idM St.shut tImp nTf fImp nFt undef eq_self List.set_cons_zero List.set_cons_succ List.length_set Value.cells List.toList_toArray List.map_cons List.map_nil St.take isShift shift decide_true decide_false and_false false_and Bool.and_true Bool.true_and Bool.and_false Bool.false_and List.size_toArray beq_self_eq_true DrawV_nil DrawV_cons St.gput Bool.not_eq_true' Bool.not_eq_false' Int.toNat_zero List.length_cons List.length_nil Nat.zero_add closeA closeAs closeB closeBs osF List.getElem?_nil beq_eq_false_iff_ne ne_eq bne_iff_ne bne_eq_false_iff_eq Decidable.not_not Bool.not_true Bool.not_false RetT_nil resLs resL tupL ren rens renO toMO T_sc List.head?_cons LV.v.injEq LV.agg.injEq LV.tup.injEq LV.own.injEq LV.rd.injEq LV.rds.injEq LV.box.injEq List.cons.injEq Value.int.injEq Value.bool.injEq Value.string.injEq CodeV OpsV Norm exitK retK opE evL updL St.put mkE entry slotOf undefLike Option.bind_some Option.getD_some BinE T_ag T_ik T_bo T_zr T_el T_ea Bool.false_eq_true LeF LeO mkS mkF mkO St.fresh St.turn St.set kill kills killO zlv beq_iff_eq Option.map_some Option.map_none or_false false_or and_true dvI II_get I_len II_len Int.toNat_natCast decide_eq_true_eq decide_eq_false_iff_not ge_iff_le gt_iff_lt List.getElem?_toArray List.getElem?_cons_zero List.getElem?_cons_succ true_and List.cons_append List.nil_append List.append_nil List.getD_cons_zero
attribute [go_sem ↓] St.gput_same itt iff' itf ift intt inft intf inff ntt nft ntf nff
end Go.Proofs.YtcjhojdlfnpgjaaGreat
namespace Go.Proofs.YtcjhojdlfnpgjaaGreat
open Go.RowKit
section
variable {P : Program} {T : TT}
theorem OpP.buildRd (hT : T.Ok P) {o : Oper} {ρ : Operand → LV} {σ : Nat → Option OC} {t e : Nat} {z : Value} {bts n : Nat} {parts : Array (Nat × Operand)} (vs : List Value) (ho : o.op = .buildSlice t n parts) (ht : T.el t = some (e, z, bts)) (hn : n = parts.toList.length) (hl : n ≤ 1000) (hp : partsIn 0 parts.toList = true)
    (hx : (parts.toList.map fun p => ρ p.2) = vs.map .v) (h1 : vs.all (·.oneCell') = true) : OpP P o ρ σ (.rd vs) := by
  intro w0 w ι fp s f hI hσ hx'
  have hev : ∀ p ∈ parts.toList, evL s p.2 = ρ p.2 := fun p hm => hx' p.2 (by simp [ho, Op.operands]; exact ⟨p.1, by simpa using hm⟩)
  have hx2 : (parts.toList.map fun p => evL s p.2) = vs.map .v := by rw [← hx]; exact List.map_congr_left hev
  have hr := exec_buildSlice hT ho ht hn hl hp hI (by rw [hx2]; simpa [oneL, ownIs, List.all_eq_true] using h1)
  have hv : (parts.toList.map fun p => evV f p.2) = vs := by
    have := parts_lr hI parts.toList
    rw [hx2] at this
    clear hr h1 hx hx2
    revert this
    generalize (parts.toList.map fun p => evV f p.2) = ys
    induction vs generalizing ys with
    | nil => intro h; simpa only [List.map_nil, LRels] using h
    | cons v vs ih =>
      intro h
      simp only [List.map_cons, LRels, LRel] at h
      obtain ⟨y, r, rfl, rfl, h2⟩ := h
      rw [ih r h2]
  rw [hv] at hr
  rw [hr]
  have hlen : n = vs.length := by rw [hn, ← List.length_map (f := fun p : Nat × Operand => evL s p.2), hx2, List.length_map]
  have hlt := hI.lt
  refine .value (.rd vs) s _ _ ι fp (hI.grow _) ?_ ⟨rfl, rfl⟩
  simp only [LRel]
  refine ⟨some ⟨w.heap.size, 0, none⟩, n, by rw [hlen], by omega, by omega, fun hp => ⟨_, rfl, fun hq => by have := (hlt _ hq).2; simp at this, fun j u hu => ?_⟩⟩
  rw [add0, World.cell?_alloc_new]
  simpa using hu
theorem HereO.opP (hT : T.Ok P) {n : Nat} {all : Array Oper} {o : Oper} {l : List Oper} {s : St} {k : Kont} {r : LV} (hP : OpP P o (evL s) s.σ r) (h : OpsV P T n all l (s.put o.dst r) k) : HereO P T n all o l s k :=
  HereO.of hT h fun hK => hP.opT hK
end
end Go.Proofs.YtcjhojdlfnpgjaaGreat
