/- Contracts: strings.Join, by the kit's contract. -/
import Derived.Test.YtcjhojdlfnpgjaaGreatDoorVv
import Derived.Test.YtcjhojdlfnpgjaaGreatDoorFa
import Derived.Shelf.Strings.OnBuilder
import Derived.Laws.IdiomStrings
import Derived.Test.YtcjhojdlfnpgjaaGreatDoorFb
namespace Go.Proofs.YtcjhojdlfnpgjaaGreatDoor
open Go.RowKit Go.Shelf
set_option linter.unusedVariables false
set_option linter.unusedSimpArgs false
set_option maxRecDepth 100000

/-- The seat's numbers of what strings.Join reaches. -/
def rhoJ : Ren := ⟨fun
  | 156 => 83
  | 165 => 93
  | 166 => 94
  | 169 => 95
  | 240 => 105
  | 241 => 106
  | 276 => 119
  | 277 => 120
  | n => n, fun
  | 0 => 0
  | 3 => 3
  | 4 => 4
  | 5 => 5
  | 9 => 9
  | 20 => 20
  | 31 => 90
  | 37 => 22
  | 70 => 121
  | 72 => 123
  | 75 => 126
  | 76 => 127
  | 80 => 129
  | 127 => 138
  | 164 => 149
  | n => n, fun n => n⟩
theorem laysJ : Lays.n156 Tryz.prog rhoJ where
  mixed := mixed_ok
  f156 := by kernel_rfl
  f165 := by kernel_rfl
  f166 := by kernel_rfl
  f169 := by kernel_rfl
  f240 := by kernel_rfl
  f241 := by kernel_rfl
  f276 := by kernel_rfl
  f277 := by kernel_rfl
  t0 := by kernel_rfl
  a0 := Tryz.isAgg0
  z0 := Tryz.sizeOf0
  v0 := Tryz.zeroValue0
  t3 := by kernel_rfl
  a3 := Tryz.isAgg3
  z3 := Tryz.sizeOf3
  v3 := Tryz.zeroValue3
  t4 := by kernel_rfl
  a4 := Tryz.isAgg4
  z4 := Tryz.sizeOf4
  v4 := Tryz.zeroValue4
  t9 := by kernel_rfl
  a9 := Tryz.isAgg9
  z9 := Tryz.sizeOf9
  v9 := Tryz.zeroValue9
  t20 := by kernel_rfl
  a20 := Tryz.isAgg20
  z20 := Tryz.sizeOf20
  v20 := Tryz.zeroValue20
  t31 := by kernel_rfl
  a31 := Tryz.isAgg90
  z31 := Tryz.sizeOf90
  v31 := Tryz.zeroValue90
  t37 := by kernel_rfl
  a37 := Tryz.isAgg22
  z37 := Tryz.sizeOf22
  v37 := Tryz.zeroValue22
  t70 := by kernel_rfl
  a70 := Tryz.isAgg121
  z70 := Tryz.sizeOf121
  v70 := Tryz.zeroValue121
  t72 := by kernel_rfl
  a72 := Tryz.isAgg123
  z72 := Tryz.sizeOf123
  v72 := Tryz.zeroValue123
  t75 := by kernel_rfl
  a75 := Tryz.isAgg126
  z75 := Tryz.sizeOf126
  v75 := Tryz.zeroValue126
  t76 := by kernel_rfl
  a76 := Tryz.isAgg127
  z76 := Tryz.sizeOf127
  v76 := Tryz.zeroValue127
  t127 := by kernel_rfl
  a127 := Tryz.isAgg138
  z127 := Tryz.sizeOf138
  v127 := Tryz.zeroValue138
  t164 := by kernel_rfl
  a164 := Tryz.isAgg149
  z164 := Tryz.sizeOf149
  v164 := Tryz.zeroValue149
theorem extraJ : Builder.Extra Tryz.prog rhoJ where
  sizeBuilder := by kernel_rfl
  liesBuilder := by kernel_rfl
  t5 := Tryz.underlying5
  a5 := Tryz.isAgg5
  z5 := Tryz.sizeOf5
  v5 := Tryz.zeroValue5
  infoByte := by kernel_rfl
  cellsByte := by kernel_rfl
  sizeByte := by kernel_rfl
  neB5 := by decide
/-- A row of strings. -/
def SS (xs : List ByteArray) : List Value := xs.map .string
theorem SS_len (xs : List ByteArray) : (SS xs).length = xs.length := by simp [SS]
theorem joinS_spec (xs : List ByteArray) (sep : ByteArray) (h1 : 0 < xs.length) (hN : xs.length ≤ 140737488355328) (hlen : (Lib.join (xs.map (·.data.toList)) sep.data.toList).length ≤ 140737488355328) :
    SpecM Tryz.prog 83 [.own 0, .v (.string sep)] [.row 9 (SS xs)] (.v (.string ⟨(Lib.join (xs.map (·.data.toList)) sep.data.toList).toArray⟩)) [some (.row 9 (SS xs))] := by
  refine ⟨Tryz.call83, Nat.le_of_ble_eq_true rfl, fun w ι fp ys hob hdis hys => ?_⟩
  simp only [LRels, LRel] at hys
  obtain ⟨y, r, rfl, hy, y2, r2, rfl, rfl, rfl⟩ := hys
  obtain ⟨v, g1, g2, g3⟩ := hob 0 _ rfl
  rw [hy] at g1
  simp only [Option.some.injEq] at g1
  subst g1
  obtain ⟨g, cap, e3, _⟩ := own_cell g2 (i := 0) (by rw [SS_len]; exact h1)
  subst e3
  have hbk := (g2.lt g rfl).2
  obtain ⟨A, cap', e4, hcap, _⟩ := own_RS g2
  simp only [Value.slice.injEq, Option.some.injEq] at e4
  obtain ⟨_, _, rfl⟩ := e4
  rw [SS_len] at hcap
  have hj := Any.strings_Join laysJ extraJ g 0 cap xs sep w (fun j x hx => by
    have := g2.cells (g := g) rfl j (.string x) (by simp [SS, hx])
    rw [add0] at this
    rw [Nat.zero_add]; exact this) hbk hN hcap hlen
  have e5 : rhoJ.f 156 = 83 := rfl
  rw [e5] at hj
  rw [SS_len]
  refine hj.mono ?_
  rintro e w' ⟨rfl, hb⟩
  refine ⟨_, _, ⟨rfl, rfl⟩, _, ι, fp, rfl, ⟨fun i => ?_, fun id oc hi => ?_, fun id id' oc oc' k h1 h2 _ _ => ?_, ⟨hb.os, hb.tape, hb.output, hb.size, fun k hk _ => hb.block k hk⟩, fun k hk => .inr ?_, fun id v h => ?_⟩⟩
  · show LRel _ _ _ (if i = 0 then _ else .junk) _
    split
    · simp only [LRel]
    · simp only [LRel]
  · match id with
    | 0 =>
      simp only [osO, List.getElem?_cons_zero, Option.join_some, Option.some.injEq] at hi
      subst hi
      exact ⟨_, hy, own_keeps g2 fun q hq => hb.block q (g2.lt q hq).2, g3⟩
    | id + 1 => simp [osO] at hi
  · match id, id' with
    | 0, 0 => rfl
    | id + 1, _ => simp [osO] at h1
    | 0, id' + 1 => simp [osO] at h2
  · obtain ⟨id, oc, h2, h3⟩ := hk
    match id with
    | 0 => exact ⟨0, _, rfl, h3⟩
    | id + 1 => simp [osO] at h2
  · simp only at h
    split at h
    · exact h
    · cases h
end Go.Proofs.YtcjhojdlfnpgjaaGreatDoor

namespace Go.Proofs.YtcjhojdlfnpgjaaGreatDoor
open Go.RowKit
set_option linter.unusedVariables false
set_option linter.unusedSimpArgs false
set_option maxRecDepth 100000

section
variable {P : Program} {T : TT}
/-- A text out of a row of bytes of the call's own. -/
theorem OpP.bytesStr {o : Oper} {ρ : Operand → LV} {σ : Nat → Option OC} {src dst e id : Nat} {x : Operand} {l : List UInt8} (hs : P.underlying src = some (.slice e)) (he : P.underlying e = some (.int .u8)) (hd : P.underlying dst = some .string) (ho : o.op = .convert src dst x) (hx : ρ x = .own id) (hσ : σ id = some (.row e (Lib.byteCells l))) (h0 : 0 < l.length) : OpP P o ρ σ (.v (.string ⟨l.toArray⟩)) := by
  intro w0 w ι fp s f hI hs2 hρ
  subst hs2
  have hv := hI.ev x
  rw [hρ x (by simp [ho, Op.operands]), hx] at hv
  simp only [LRel] at hv
  obtain ⟨v, g1, g2, g3⟩ := hI.ob id _ hσ
  rw [hv] at g1
  simp only [Option.some.injEq] at g1
  have hlen : (Lib.byteCells l).length = l.length := by simp [Lib.byteCells]
  obtain ⟨g, cap, e3, _⟩ := own_cell g2 (i := 0) (by omega)
  rw [e3, hlen] at g1
  rw [e3] at g2
  have hrun := run_convert_bytes_back (P := P) w src dst e ⟨g, 0, none⟩ cap l hs he hd (fun j hj => g2.cells (g := g) rfl j _ (by simp [Lib.byteCells, List.getElem?_eq_getElem hj]))
  have hr : (execOp (evV f) o).run P w = .ok (.value (.string ⟨l.toArray⟩)) w := by
    simp only [execOp, ho, g1, Sem.run_bind, hrun, Result.andThen_ok, Sem.run_pure]
  rw [hr]
  exact .value _ s _ w ι fp hI (by simp only [LRel]) ⟨rfl, rfl⟩
end
def byteL (r : List Int) : List UInt8 := r.map fun x => UInt8.ofNat (48 + x.toNat)
def strB (l : List UInt8) : ByteArray := ⟨l.toArray⟩
theorem SS_one (xs : List ByteArray) : ∀ u ∈ SS xs, u.oneCell' = true := by
  intro u hu
  simp only [SS, List.mem_map] at hu
  obtain ⟨x, _, rfl⟩ := hu
  rfl
theorem SS_app (a b : List ByteArray) : SS a ++ SS b = SS (a ++ b) := by simp [SS]
/-- The text of a group. -/
def txt (t : List (List Int)) : List UInt8 := Lib.join (t.map byteL) [44]
/-! ### The reference's -/
theorem strB_app (a b : List UInt8) : strB a ++ strB b = strB (a ++ b) := by
  apply ByteArray.ext
  simp [strB, ByteArray.data_append]
theorem strB_size (a : List UInt8) : (strB a).size = a.length := by simp [strB, ByteArray.size]
/-- The text of the first rows, and of the first cells of the next one. -/
def pre (t : List (List Int)) (a b : Nat) : List UInt8 := (if a = 0 then [] else Lib.join ((t.take a).map byteL) [44] ++ [44]) ++ byteL ((t.getD a []).take b)
theorem join_snoc (xs : List (List UInt8)) (x sep : List UInt8) : Lib.join (xs ++ [x]) sep = if xs = [] then x else Lib.join xs sep ++ sep ++ x := by
  cases xs with
  | nil => rw [if_pos rfl, List.nil_append, Lib.join_one]
  | cons y r =>
    rw [if_neg (by simp), List.cons_append, Lib.join_cons, Lib.join_cons]
    simp [Lib.joinTail]
/-- What GroupText answers. -/
def gtR (t : List (List Int)) : ByteArray := if Grp t then strB (txt t) else ⟨#[]⟩
def gtC (t : List (List Int)) : Int := if Grp t then 0 else 1
end Go.Proofs.YtcjhojdlfnpgjaaGreatDoor
