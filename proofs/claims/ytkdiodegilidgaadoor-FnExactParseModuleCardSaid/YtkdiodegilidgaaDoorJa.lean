/- Contracts: strings.Join, by the kit's contract. -/
import Derived.Test.YtkdiodegilidgaaDoorVv
import Derived.Test.YtkdiodegilidgaaDoorFa
import Derived.Shelf.Strings.OnBuilder
import Derived.Laws.IdiomStrings
namespace Go.Proofs.YtkdiodegilidgaaDoor
open Go.RowKit Go.Shelf
set_option linter.unusedVariables false
set_option linter.unusedSimpArgs false
set_option maxRecDepth 100000

/-- The seat's numbers of what strings.Join reaches. -/
def rhoJ : Ren := ⟨fun
  | 156 => 66
  | 165 => 74
  | 166 => 75
  | 169 => 76
  | 240 => 86
  | 241 => 87
  | 276 => 95
  | 277 => 96
  | n => n, fun
  | 0 => 0
  | 3 => 3
  | 4 => 4
  | 5 => 5
  | 9 => 9
  | 20 => 20
  | 31 => 49
  | 37 => 87
  | 70 => 94
  | 72 => 96
  | 75 => 99
  | 76 => 100
  | 80 => 102
  | 127 => 112
  | 164 => 125
  | n => n, fun n => n⟩
theorem laysJ : Lays.n156 Tryd.prog rhoJ where
  mixed := mixed_ok
  f156 := by kernel_rfl
  f165 := by kernel_rfl
  f166 := by kernel_rfl
  f169 := by kernel_rfl
  f240 := by kernel_rfl
  f241 := by kernel_rfl
  f276 := by kernel_rfl
  f277 := by kernel_rfl
  t0 := by kernel_rfl
  a0 := Tryd.isAgg0
  z0 := Tryd.sizeOf0
  v0 := Tryd.zeroValue0
  t3 := by kernel_rfl
  a3 := Tryd.isAgg3
  z3 := Tryd.sizeOf3
  v3 := Tryd.zeroValue3
  t4 := by kernel_rfl
  a4 := Tryd.isAgg4
  z4 := Tryd.sizeOf4
  v4 := Tryd.zeroValue4
  t9 := by kernel_rfl
  a9 := Tryd.isAgg9
  z9 := Tryd.sizeOf9
  v9 := Tryd.zeroValue9
  t20 := by kernel_rfl
  a20 := Tryd.isAgg20
  z20 := Tryd.sizeOf20
  v20 := Tryd.zeroValue20
  t31 := by kernel_rfl
  a31 := Tryd.isAgg49
  z31 := Tryd.sizeOf49
  v31 := Tryd.zeroValue49
  t37 := by kernel_rfl
  a37 := Tryd.isAgg87
  z37 := Tryd.sizeOf87
  v37 := Tryd.zeroValue87
  t70 := by kernel_rfl
  a70 := Tryd.isAgg94
  z70 := Tryd.sizeOf94
  v70 := Tryd.zeroValue94
  t72 := by kernel_rfl
  a72 := Tryd.isAgg96
  z72 := Tryd.sizeOf96
  v72 := Tryd.zeroValue96
  t75 := by kernel_rfl
  a75 := Tryd.isAgg99
  z75 := Tryd.sizeOf99
  v75 := Tryd.zeroValue99
  t76 := by kernel_rfl
  a76 := Tryd.isAgg100
  z76 := Tryd.sizeOf100
  v76 := Tryd.zeroValue100
  t127 := by kernel_rfl
  a127 := Tryd.isAgg112
  z127 := Tryd.sizeOf112
  v127 := Tryd.zeroValue112
  t164 := by kernel_rfl
  a164 := Tryd.isAgg125
  z164 := Tryd.sizeOf125
  v164 := Tryd.zeroValue125
theorem extraJ : Builder.Extra Tryd.prog rhoJ where
  sizeBuilder := by kernel_rfl
  liesBuilder := by kernel_rfl
  t5 := Tryd.underlying5
  a5 := Tryd.isAgg5
  z5 := Tryd.sizeOf5
  v5 := Tryd.zeroValue5
  infoByte := by kernel_rfl
  cellsByte := by kernel_rfl
  sizeByte := by kernel_rfl
  neB5 := by decide
/-- A row of strings. -/
def SS (xs : List ByteArray) : List Value := xs.map .string
theorem SS_len (xs : List ByteArray) : (SS xs).length = xs.length := by simp [SS]
theorem joinS_spec (xs : List ByteArray) (sep : ByteArray) (h1 : 0 < xs.length) (hN : xs.length ≤ 140737488355328) (hlen : (Lib.join (xs.map (·.data.toList)) sep.data.toList).length ≤ 140737488355328) :
    SpecM Tryd.prog 66 [.own 0, .v (.string sep)] [.row 9 (SS xs)] (.v (.string ⟨(Lib.join (xs.map (·.data.toList)) sep.data.toList).toArray⟩)) [some (.row 9 (SS xs))] := by
  refine ⟨Tryd.call66, Nat.le_of_ble_eq_true rfl, fun w ι fp ys hob hdis hys => ?_⟩
  simp only [LRels, LRel] at hys
  obtain ⟨y, r, rfl, hy, y2, r2, rfl, rfl, rfl⟩ := hys
  obtain ⟨v, g1, g2, g3⟩ := hob 0 _ rfl
  rw [hy] at g1
  simp only [Option.some.injEq] at g1
  subst g1
  obtain ⟨g, cap, e3, _⟩ := own_cell g2 (i := 0) (by rw [SS_len]; exact h1)
  subst e3
  have hbk := (g2.lt g rfl).2
  obtain ⟨A, cap', e4, hcap, _⟩ := own_RS g2
  simp only [Value.slice.injEq, Option.some.injEq] at e4
  obtain ⟨_, _, rfl⟩ := e4
  rw [SS_len] at hcap
  have hj := Any.strings_Join laysJ extraJ g 0 cap xs sep w (fun j x hx => by
    have := g2.cells (g := g) rfl j (.string x) (by simp [SS, hx])
    rw [add0] at this
    rw [Nat.zero_add]; exact this) hbk hN hcap hlen
  have e5 : rhoJ.f 156 = 66 := rfl
  rw [e5] at hj
  rw [SS_len]
  refine hj.mono ?_
  rintro e w' ⟨rfl, hb⟩
  refine ⟨_, _, ⟨rfl, rfl⟩, _, ι, fp, rfl, ⟨fun i => ?_, fun id oc hi => ?_, fun id id' oc oc' k h1 h2 _ _ => ?_, ⟨hb.os, hb.tape, hb.output, hb.size, fun k hk _ => hb.block k hk⟩, fun k hk => .inr ?_, fun id v h => ?_⟩⟩
  · show LRel _ _ _ (if i = 0 then _ else .junk) _
    split
    · simp only [LRel]
    · simp only [LRel]
  · match id with
    | 0 =>
      simp only [osO, List.getElem?_cons_zero, Option.join_some, Option.some.injEq] at hi
      subst hi
      exact ⟨_, hy, own_keeps g2 fun q hq => hb.block q (g2.lt q hq).2, g3⟩
    | id + 1 => simp [osO] at hi
  · match id, id' with
    | 0, 0 => rfl
    | id + 1, _ => simp [osO] at h1
    | 0, id' + 1 => simp [osO] at h2
  · obtain ⟨id, oc, h2, h3⟩ := hk
    match id with
    | 0 => exact ⟨0, _, rfl, h3⟩
    | id + 1 => simp [osO] at h2
  · simp only at h
    split at h
    · exact h
    · cases h
end Go.Proofs.YtkdiodegilidgaaDoor
