/- Contracts: strings.Split at one byte, the place of a byte in a text, numbers of two digits in decimal, by the kit's contracts. -/
import Derived.Test.YtcjhojdlfnpgjaaGreatDoorJa
import Derived.Shelf.Strings.Split
import Derived.Shelf.Strconv.Itoa4
import Derived.Test.YtcjhojdlfnpgjaaGreatDoorEa
import Derived.Laws.DeepStrings4
namespace Go.Proofs.YtcjhojdlfnpgjaaGreatDoor
open Go.RowKit Go.Shelf
set_option linter.unusedVariables false
set_option linter.unusedSimpArgs false
set_option maxRecDepth 100000

def rhoS : Ren := ⟨fun
  | 138 => 98
  | 143 => 99
  | 146 => 66
  | 195 => 111
  | 197 => 112
  | 217 => 107
  | 218 => 113
  | 219 => 96
  | 221 => 85
  | 224 => 109
  | 225 => 108
  | 260 => 123
  | 266 => 121
  | 267 => 110
  | 268 => 97
  | 314 => 122
  | n => n, fun
  | 0 => 0
  | 3 => 3
  | 4 => 4
  | 5 => 5
  | 9 => 9
  | 21 => 21
  | 31 => 90
  | 46 => 89
  | 51 => 116
  | 105 => 142
  | 119 => 154
  | 138 => 156
  | 139 => 157
  | 146 => 117
  | n => n, fun
  | 1 => 0
  | 3 => 2
  | 4 => 3
  | n => n⟩
theorem laysS : Lays.n146 Tryz.prog rhoS where
  mixed := mixed_ok
  f138 := by kernel_rfl
  f143 := by kernel_rfl
  f146 := by kernel_rfl
  f195 := by kernel_rfl
  f197 := by kernel_rfl
  f217 := by kernel_rfl
  f218 := by kernel_rfl
  f219 := by kernel_rfl
  f221 := by kernel_rfl
  f224 := by kernel_rfl
  f225 := by kernel_rfl
  f260 := by kernel_rfl
  f266 := by kernel_rfl
  f267 := by kernel_rfl
  f268 := by kernel_rfl
  f314 := by kernel_rfl
  t0 := by kernel_rfl
  a0 := Tryz.isAgg0
  z0 := Tryz.sizeOf0
  v0 := Tryz.zeroValue0
  t3 := by kernel_rfl
  a3 := Tryz.isAgg3
  z3 := Tryz.sizeOf3
  v3 := Tryz.zeroValue3
  t4 := by kernel_rfl
  a4 := Tryz.isAgg4
  z4 := Tryz.sizeOf4
  v4 := Tryz.zeroValue4
  t5 := by kernel_rfl
  a5 := Tryz.isAgg5
  z5 := Tryz.sizeOf5
  v5 := Tryz.zeroValue5
  t9 := by kernel_rfl
  a9 := Tryz.isAgg9
  z9 := Tryz.sizeOf9
  v9 := Tryz.zeroValue9
  t21 := by kernel_rfl
  a21 := Tryz.isAgg21
  z21 := Tryz.sizeOf21
  v21 := Tryz.zeroValue21
  t31 := by kernel_rfl
  a31 := Tryz.isAgg90
  z31 := Tryz.sizeOf90
  v31 := Tryz.zeroValue90
  t46 := by kernel_rfl
  a46 := Tryz.isAgg89
  z46 := Tryz.sizeOf89
  v46 := Tryz.zeroValue89
  t51 := by kernel_rfl
  a51 := Tryz.isAgg116
  z51 := Tryz.sizeOf116
  v51 := Tryz.zeroValue116
  t105 := by kernel_rfl
  a105 := Tryz.isAgg142
  z105 := Tryz.sizeOf142
  v105 := Tryz.zeroValue142
  t119 := by kernel_rfl
  a119 := Tryz.isAgg154
  z119 := Tryz.sizeOf154
  t138 := by kernel_rfl
  a138 := Tryz.isAgg156
  z138 := Tryz.sizeOf156
  v138 := Tryz.zeroValue156
  t139 := by kernel_rfl
  a139 := Tryz.isAgg157
  z139 := Tryz.sizeOf157
  v139 := Tryz.zeroValue157
  t146 := by kernel_rfl
  a146 := Tryz.isAgg117
  z146 := Tryz.sizeOf117
  v146 := Tryz.zeroValue117
  g1 := by kernel_rfl
  g3 := by kernel_rfl
  g4 := by kernel_rfl
def rhoI : Ren := ⟨fun
  | 217 => 107
  | 219 => 96
  | 224 => 109
  | 225 => 108
  | 266 => 121
  | 267 => 110
  | 314 => 122
  | n => n, fun
  | 3 => 3
  | 4 => 4
  | 5 => 5
  | 9 => 9
  | 46 => 89
  | 51 => 116
  | 146 => 117
  | n => n, fun
  | 1 => 0
  | n => n⟩
theorem laysI : Lays.n219 Tryz.prog rhoI where
  mixed := mixed_ok
  f217 := by kernel_rfl
  f219 := by kernel_rfl
  f224 := by kernel_rfl
  f225 := by kernel_rfl
  f266 := by kernel_rfl
  f267 := by kernel_rfl
  f314 := by kernel_rfl
  t3 := by kernel_rfl
  a3 := Tryz.isAgg3
  z3 := Tryz.sizeOf3
  v3 := Tryz.zeroValue3
  t4 := by kernel_rfl
  a4 := Tryz.isAgg4
  z4 := Tryz.sizeOf4
  v4 := Tryz.zeroValue4
  t5 := by kernel_rfl
  a5 := Tryz.isAgg5
  z5 := Tryz.sizeOf5
  v5 := Tryz.zeroValue5
  t9 := by kernel_rfl
  a9 := Tryz.isAgg9
  z9 := Tryz.sizeOf9
  v9 := Tryz.zeroValue9
  t46 := by kernel_rfl
  a46 := Tryz.isAgg89
  z46 := Tryz.sizeOf89
  v46 := Tryz.zeroValue89
  t51 := by kernel_rfl
  a51 := Tryz.isAgg116
  z51 := Tryz.sizeOf116
  v51 := Tryz.zeroValue116
  t146 := by kernel_rfl
  a146 := Tryz.isAgg117
  z146 := Tryz.sizeOf117
  v146 := Tryz.zeroValue117
  g1 := by kernel_rfl

def rhoF : Ren := ⟨fun
  | 129 => 115
  | 173 => 82
  | 246 => 92
  | 283 => 101
  | 284 => 102
  | 285 => 103
  | 286 => 104
  | 317 => 114
  | 318 => 116
  | 319 => 117
  | 320 => 118
  | 337 => 124
  | 338 => 125
  | n => n, fun
  | 0 => 0
  | 2 => 2
  | 3 => 3
  | 4 => 4
  | 5 => 5
  | 9 => 9
  | 20 => 20
  | 37 => 22
  | 46 => 89
  | 51 => 116
  | 53 => 72
  | 171 => 133
  | 173 => 136
  | 212 => 145
  | 213 => 146
  | 232 => 158
  | 233 => 159
  | n => n, fun
  | 17 => 1
  | 18 => 4
  | 19 => 5
  | n => n⟩
theorem laysF : Lays.n173 Tryz.prog rhoF where
  mixed := mixed_ok
  f129 := by kernel_rfl
  f173 := by kernel_rfl
  f246 := by kernel_rfl
  f283 := by kernel_rfl
  f284 := by kernel_rfl
  f285 := by kernel_rfl
  f286 := by kernel_rfl
  f317 := by kernel_rfl
  f318 := by kernel_rfl
  f319 := by kernel_rfl
  f320 := by kernel_rfl
  f337 := by kernel_rfl
  f338 := by kernel_rfl
  t0 := by kernel_rfl
  a0 := Tryz.isAgg0
  z0 := Tryz.sizeOf0
  v0 := Tryz.zeroValue0
  t2 := by kernel_rfl
  a2 := Tryz.isAgg2
  z2 := Tryz.sizeOf2
  v2 := Tryz.zeroValue2
  t3 := by kernel_rfl
  a3 := Tryz.isAgg3
  z3 := Tryz.sizeOf3
  v3 := Tryz.zeroValue3
  t4 := by kernel_rfl
  a4 := Tryz.isAgg4
  z4 := Tryz.sizeOf4
  v4 := Tryz.zeroValue4
  t5 := by kernel_rfl
  a5 := Tryz.isAgg5
  z5 := Tryz.sizeOf5
  v5 := Tryz.zeroValue5
  t9 := by kernel_rfl
  a9 := Tryz.isAgg9
  z9 := Tryz.sizeOf9
  v9 := Tryz.zeroValue9
  t20 := by kernel_rfl
  a20 := Tryz.isAgg20
  z20 := Tryz.sizeOf20
  v20 := Tryz.zeroValue20
  t37 := by kernel_rfl
  a37 := Tryz.isAgg22
  z37 := Tryz.sizeOf22
  v37 := Tryz.zeroValue22
  t46 := by kernel_rfl
  a46 := Tryz.isAgg89
  z46 := Tryz.sizeOf89
  v46 := Tryz.zeroValue89
  t51 := by kernel_rfl
  a51 := Tryz.isAgg116
  z51 := Tryz.sizeOf116
  v51 := Tryz.zeroValue116
  t53 := by kernel_rfl
  a53 := Tryz.isAgg72
  z53 := Tryz.sizeOf72
  v53 := Tryz.zeroValue72
  t171 := by kernel_rfl
  a171 := Tryz.isAgg133
  z171 := Tryz.sizeOf133
  v171 := Tryz.zeroValue133
  t173 := by kernel_rfl
  a173 := Tryz.isAgg136
  z173 := Tryz.sizeOf136
  v173 := Tryz.zeroValue136
  t212 := by kernel_rfl
  a212 := Tryz.isAgg145
  z212 := Tryz.sizeOf145
  v212 := Tryz.zeroValue145
  t213 := by kernel_rfl
  a213 := Tryz.isAgg146
  z213 := Tryz.sizeOf146
  t232 := by kernel_rfl
  a232 := Tryz.isAgg158
  z232 := Tryz.sizeOf158
  v232 := Tryz.zeroValue158
  t233 := by kernel_rfl
  a233 := Tryz.isAgg159
  z233 := Tryz.sizeOf159
  v233 := Tryz.zeroValue159
  g17 := by kernel_rfl
  g18 := by kernel_rfl
  g19 := by kernel_rfl

/-- The parts of a text between the bytes c. -/
def parts (c : UInt8) : List UInt8 → List (List UInt8)
  | [] => [[]]
  | b :: l => if b = c then [] :: parts c l else match parts c l with | p :: r => (b :: p) :: r | [] => [[b]]
theorem index_cons_ne {b c : UInt8} {l : List UInt8} (h : b ≠ c) : Lib.index (b :: l) [c] = if Lib.index l [c] == -1 then -1 else Lib.index l [c] + 1 := by
  have hp : ([c] : List UInt8).isPrefixOf (b :: l) = false := by simp [List.isPrefixOf, Ne.symm h]
  rw [Lib.index, hp]; simp
theorem splitK_parts (c : UInt8) : ∀ s : List UInt8, Lib.splitK [c] 0 (s.count c) s = parts c s
  | [] => rfl
  | b :: l => by
    have ih := splitK_parts c l
    by_cases h : b = c
    · subst h
      have hix : Lib.index (b :: l) [b] = 0 := by rw [Lib.index]; simp [List.isPrefixOf]
      rw [List.count_cons_self, Lib.splitK, hix]
      simp [parts, ih]
    · rw [List.count_cons_of_ne (by simpa using h)]
      simp only [parts, if_neg h]
      rw [← ih]
      have hc := Lib.count_one c l
      cases hn : l.count c with
      | zero => simp [Lib.splitK]
      | succ k =>
        have hge := Lib.index_ge l [c]
        have hne : Lib.index l [c] ≠ -1 := fun e => by rw [Lib.count_miss e] at hc; omega
        obtain ⟨j, hj⟩ : ∃ j : Nat, Lib.index l [c] = j := ⟨(Lib.index l [c]).toNat, by omega⟩
        have hix := index_cons_ne (l := l) h
        rw [if_neg (by simpa using hne), hj] at hix
        rw [Lib.splitK, Lib.splitK, hix, hj]
        have e1 : (((j : Int) + 1) == -1) = false := by rw [beq_eq_false_iff_ne]; omega
        have e2 : ((j : Int) == -1) = false := by rw [beq_eq_false_iff_ne]; omega
        have e3 : ((j : Int) + 1).toNat = j + 1 := by omega
        simp [e1, e2, e3]
theorem strB_data (x : ByteArray) : strB x.data.toList = x := by cases x; simp [strB]
theorem strB_of (l : List UInt8) : (strB l).data.toList = l := by simp [strB]
theorem splitB_parts (s : ByteArray) (c : UInt8) : Lib.splitB ⟨#[c]⟩ 0 (s.data.toList.count c) s = (parts c s.data.toList).map strB := by
  have h := Lib.splitB_data ⟨#[c]⟩ 0 (s.data.toList.count c) s
  have e : (⟨#[c]⟩ : ByteArray).data.toList = [c] := rfl
  rw [e, splitK_parts] at h
  rw [← h, List.map_map]
  have : (strB ∘ fun x : ByteArray => x.data.toList) = id := by funext x; exact strB_data x
  rw [this, List.map_id]
theorem parts_len (c : UInt8) : ∀ s : List UInt8, (parts c s).length = s.count c + 1
  | [] => rfl
  | b :: l => by
    have ih := parts_len c l
    by_cases h : b = c
    · subst h
      rw [List.count_cons_self]
      simp [parts, ih]
    · rw [List.count_cons_of_ne (by simpa using h)]
      simp only [parts, if_neg h]
      cases hp : parts c l with
      | nil => rw [hp] at ih; simp at ih
      | cons p r => rw [hp] at ih; simpa using ih
theorem spec_pure {g : Nat} {args : List LV} {x : Value} (ent : ∀ args w, (callFunc g args).run Tryz.prog w = .ok (.enter g args) w) (h : ∀ w ys, LRels noI noF w args ys → Calls Tryz.prog g (List.toArray ys) w fun e w' => e = .returned x ∧ w' = w) : Spec Tryz.prog g args (.v x) [] := by
  refine ⟨ent, fun w ys hys => (h w ys hys).mono ?_⟩
  rintro e w' ⟨rfl, rfl⟩
  refine ⟨x, noI, fun _ _ => False, rfl, fun i => ?_, fun id oc hi => by simp [osF] at hi, fun id id' oc oc' k h => by simp [osF] at h, Kept.refl _, fun k ⟨id, oc, hi, _⟩ => by simp [osF] at hi, fun id v h => by cases h⟩
  show LRel _ _ _ (if i = 0 then _ else .junk) _
  split <;> simp only [LRel]
/-- The place of a byte in a text. -/
theorem indexS_spec (s : ByteArray) (c : UInt8) : Spec Tryz.prog 96 [.v (.string s), .v (.string ⟨#[c]⟩)] (.v (.int .i64 (Lib.indexByte s.data.toList c))) [] := by
  refine spec_pure Tryz.call96 fun w ys hys => ?_
  simp only [LRels, LRel] at hys
  obtain ⟨y, r, rfl, rfl, y2, r2, rfl, rfl, rfl⟩ := hys
  exact Any.stringslite_Index_one laysI s c w
/-- A number of one or two digits, in decimal. -/
theorem formatS_spec (x : Nat) (hx : x < 100) : Spec Tryz.prog 82 [.v (.int .i64 x), .v (.int .i64 10)] (.v (.string (strB (Lib.decDigits x)))) [] := by
  refine spec_pure Tryz.call82 fun w ys hys => ?_
  simp only [LRels, LRel] at hys
  obtain ⟨y, r, rfl, rfl, y2, r2, rfl, rfl, rfl⟩ := hys
  exact Any.strconv_FormatInt_10_small laysF x hx w
/-- The parts of a text between the bytes c, in a row of the call's own. -/
theorem genSplitS_spec (s : ByteArray) (c : UInt8) (hs : s.size < 4294967281) : Spec Tryz.prog 85 [.v (.string s), .v (.string ⟨#[c]⟩), .v (.int .i64 0), .v (.int .i64 (-1))] (.own 0) [.row 9 (SS ((parts c s.data.toList).map strB))] := by
  refine ⟨Tryz.call85, fun w ys hys => ?_⟩
  simp only [LRels, LRel] at hys
  obtain ⟨y, r, rfl, rfl, y2, r2, rfl, rfl, y3, r3, rfl, rfl, y4, r4, rfl, rfl, rfl⟩ := hys
  have hi9 : (Tryz.prog.info? (rhoS.t 9)).map (fun i => (i.zero, i.size, i.bytes)) = some (some (.string ByteArray.empty), 1, 16) := by kernel_rfl
  have h1 : 1 ≤ (⟨#[c]⟩ : ByteArray).size := Nat.le_refl _
  have hcount : Lib.countB s ⟨#[c]⟩ = s.data.toList.count c := by
    show Lib.count s.data.toList [c] = _
    rw [Lib.count_one]
  have hle := Lib.countB_le ⟨#[c]⟩ h1 s.size s (Nat.le_refl _)
  have hlen := Lib.splitB_all ⟨#[c]⟩ h1 0 _ s rfl
  have cc := Any.strings_genSplit_core { laysS with } hi9 s ⟨#[c]⟩ 0 (-1) (Lib.countB s ⟨#[c]⟩ + 1) w hs h1 (Nat.zero_le _)
    (fun x cs hx => by
      have := Any.strings_Index_one { laysS with } x c (w.alloc (.cells cs (rhoS.t 9)))
      rw [← Lib.index_one] at this
      exact this)
    (by
      have := Any.strings_Count_one { laysS with } s c w
      rw [hcount]
      exact this)
    (by decide) (by decide) (by rw [if_pos (by decide)]; omega)
  rw [Nat.add_sub_cancel, hlen] at cc
  have e2 : Lib.cellsOf (Lib.splitB ⟨#[c]⟩ 0 (Lib.countB s ⟨#[c]⟩) s) (Lib.countB s ⟨#[c]⟩ + 1) = ((Lib.splitB ⟨#[c]⟩ 0 (Lib.countB s ⟨#[c]⟩) s).map Value.string).toArray := by rw [← hlen]; exact Lib.cellsOf_full _
  rw [e2, hcount, splitB_parts] at cc
  refine cc.mono ?_
  rintro e w' ⟨rfl, rfl⟩
  have hSS : (SS ((parts c s.data.toList).map strB)).length = s.data.toList.count c + 1 := by rw [SS_len, List.length_map, parts_len]
  rw [hcount] at hle
  have hown := World.ownsRow_lit (base := 0) (size := 1) (e := 9) w (SS ((parts c s.data.toList).map strB)).toArray (s.data.toList.count c + 1) (Nat.zero_le _) (by simp only [maxLen]; omega) (by simp [hSS])
  refine ⟨.slice (some ⟨w.heap.size, 0, none⟩) (s.data.toList.count c + 1) (s.data.toList.count c + 1), fun i => if i = 0 then some (.slice (some ⟨w.heap.size, 0, none⟩) (s.data.toList.count c + 1) (s.data.toList.count c + 1)) else none, fun _ k => k = w.heap.size, rfl, ?_⟩
  refine ⟨fun i => ?_, fun id oc hi => ?_, fun id id' oc oc' k h1 h2 _ _ => ?_, ?_, fun k ⟨id, oc, hi, hk⟩ => .inl ?_, fun id v h => by cases h⟩
  · show LRel _ _ _ (if i = 0 then _ else .junk) _
    split <;> simp only [LRel, if_true]
  · match id with
    | 0 =>
      simp only [osF, List.getElem?_cons_zero, Option.some.injEq] at hi
      subst hi
      refine ⟨_, rfl, ?_, fun k => ?_⟩
      · rw [hSS]
        exact hown
      · show k = w.heap.size ↔ some w.heap.size = some k
        simp [eq_comm]
    | id + 1 => simp [osF] at hi
  · match id, id' with
    | 0, 0 => rfl
    | id + 1, _ => simp [osF] at h1
    | 0, id' + 1 => simp [osF] at h2
  · exact (Kept.refl (Base.of w)).below ((Below.refl _ w).alloc (Nat.le_refl _) _)
  · have : k = w.heap.size := hk
    rw [this]; exact Nat.le_refl _
theorem splitS_spec (s : ByteArray) (c : UInt8) (hs : s.size < 4294967281) : Spec Tryz.prog 66 [.v (.string s), .v (.string ⟨#[c]⟩)] (.own 0) [.row 9 (SS ((parts c s.data.toList).map strB))] := by
  refine Spec.of_code T_ok Tryz.func66 rfl Tryz.ntmps66 Tryz.call66 (Nat.le_of_ble_eq_true rfl) rfl rfl (CodeV_sound T_ok (by kernel_rfl) rfl ?_)
  simp only [Tryz.results66, go_sem, Nat.reduceMul, Nat.reduceLeDiff, Nat.reduceLT, reduceIte, reduceCtorEq, Nat.reduceEqDiff, Nat.reduceSub, Nat.reduceAdd]
  refine HereO.callOwn T_ok 1 rfl rfl (genSplitS_spec s c hs) (by simp only [go_sem, Nat.reduceMul, Nat.reduceLeDiff, Nat.reduceLT, reduceIte, reduceCtorEq, Nat.reduceEqDiff, Nat.reduceSub, Nat.reduceAdd, List.toList_toArray] <;> first | rfl | exact ⟨rfl, rfl⟩) rfl (by simp) rfl ?_
  simp only [Tryz.results66, go_sem, Nat.reduceMul, Nat.reduceLeDiff, Nat.reduceLT, reduceIte, reduceCtorEq, Nat.reduceEqDiff, Nat.reduceSub, Nat.reduceAdd]
  refine RetT.one 1016 (by simp only [Tryz.results66, go_sem, Nat.reduceMul, Nat.reduceLeDiff, Nat.reduceLT, reduceIte, reduceCtorEq, Nat.reduceEqDiff, Nat.reduceSub, Nat.reduceAdd]; rfl) rfl ?_
  simp only [Tryz.results66, go_sem, Nat.reduceMul, Nat.reduceLeDiff, Nat.reduceLT, reduceIte, reduceCtorEq, Nat.reduceEqDiff, Nat.reduceSub, Nat.reduceAdd]
end Go.Proofs.YtcjhojdlfnpgjaaGreatDoor

namespace Go.Proofs.YtcjhojdlfnpgjaaGreatDoor
open Go.RowKit
set_option linter.unusedVariables false
set_option linter.unusedSimpArgs false
set_option maxRecDepth 100000

section
variable {P : Program} {T : TT}
/-- A part of a text. -/
theorem OpP.sliceStr {o : Oper} {ρ : Operand → LV} {σ : Nat → Option OC} {t : Nat} {x a b : Operand} {k k' : IntKind} {s : ByteArray} {i j : Nat} (hu : P.underlying t = some .string) (ho : o.op = .slice t x (some a) (some b) none) (hx : ρ x = .v (.string s)) (ha : ρ a = .v (.int k i)) (hb : ρ b = .v (.int k' j)) (h1 : i ≤ j) (h2 : j ≤ s.size) : OpP P o ρ σ (.v (.string (s.extract i j))) := by
  intro w0 w ι fp st f hI hσ hρ
  have hv := hI.ev x
  rw [hρ x (by simp [ho, Op.operands]), hx] at hv
  have hva := hI.ev a
  rw [hρ a (by simp [ho, Op.operands]), ha] at hva
  have hvb := hI.ev b
  rw [hρ b (by simp [ho, Op.operands]), hb] at hvb
  simp only [LRel] at hv hva hvb
  have hr : (execOp (evV f) o).run P w = .ok (.value (.string (s.extract i j))) w := by
    simp only [execOp, ho, hv, hva, hvb, Option.map_some, Option.map_none, Sem.run_bind]
    rw [run_sliceAt_string (h := hu), run_slice_string_if (h := hu), if_pos ⟨by omega, by omega⟩, if_pos ⟨by omega, by omega⟩]
    simp
  rw [hr]
  exact .value _ st _ w ι fp hI (by simp only [LRel]) ⟨rfl, rfl⟩
theorem OpP.fromStr {o : Oper} {ρ : Operand → LV} {σ : Nat → Option OC} {t : Nat} {x a : Operand} {k : IntKind} {s : ByteArray} {i : Nat} (hu : P.underlying t = some .string) (ho : o.op = .slice t x (some a) none none) (hx : ρ x = .v (.string s)) (ha : ρ a = .v (.int k i)) (h1 : i ≤ s.size) : OpP P o ρ σ (.v (.string (s.extract i s.size))) := by
  intro w0 w ι fp st f hI hσ hρ
  have hv := hI.ev x
  rw [hρ x (by simp [ho, Op.operands]), hx] at hv
  have hva := hI.ev a
  rw [hρ a (by simp [ho, Op.operands]), ha] at hva
  simp only [LRel] at hv hva
  have hr : (execOp (evV f) o).run P w = .ok (.value (.string (s.extract i s.size))) w := by
    simp only [execOp, ho, hv, hva, Option.map_some, Option.map_none, Sem.run_bind]
    rw [run_sliceAt_string (h := hu), run_slice_string_from_if (h := hu)]
    simp [h1]
  rw [hr]
  exact .value _ st _ w ι fp hI (by simp only [LRel]) ⟨rfl, rfl⟩
theorem OpP.toStr {o : Oper} {ρ : Operand → LV} {σ : Nat → Option OC} {t : Nat} {x b : Operand} {k : IntKind} {s : ByteArray} {j : Nat} (hu : P.underlying t = some .string) (ho : o.op = .slice t x none (some b) none) (hx : ρ x = .v (.string s)) (hb : ρ b = .v (.int k j)) (h1 : j ≤ s.size) : OpP P o ρ σ (.v (.string (s.extract 0 j))) := by
  intro w0 w ι fp st f hI hσ hρ
  have hv := hI.ev x
  rw [hρ x (by simp [ho, Op.operands]), hx] at hv
  have hvb := hI.ev b
  rw [hρ b (by simp [ho, Op.operands]), hb] at hvb
  simp only [LRel] at hv hvb
  have hr : (execOp (evV f) o).run P w = .ok (.value (.string (s.extract 0 j))) w := by
    simp only [execOp, ho, hv, hvb, Option.map_some, Option.map_none, Sem.run_bind]
    rw [run_sliceAt_string (h := hu), run_slice_string_to_if (h := hu)]
    simp [h1]
  rw [hr]
  exact .value _ st _ w ι fp hI (by simp only [LRel]) ⟨rfl, rfl⟩
end
/-! ### Plain facts of parts -/
theorem extract_strB (s : ByteArray) (a b : Nat) : s.extract a b = strB ((s.data.toList.drop a).take (b - a)) := by
  rw [← strB_data (s.extract a b), Lib.extract_data]
theorem byteAt_data (s : ByteArray) (i : Nat) (h : i < s.size) : byteAt s i = ((s.data.toList[i]'h).toNat : Int) := by
  unfold byteAt
  rw [List.getD_eq_getElem?_getD, ByteArray.toList_eq, List.getElem?_eq_getElem h]
  rfl
theorem parts_ne (c : UInt8) (l : List UInt8) : parts c l ≠ [] := by
  intro h
  have := parts_len c l
  rw [h] at this
  simp at this
theorem parts_snoc (c b : UInt8) : ∀ (l : List UInt8) (A : List (List UInt8)) (x : List UInt8), parts c l = A ++ [x] → parts c (l ++ [b]) = if b = c then A ++ [x, []] else A ++ [x ++ [b]]
  | [], A, x, h => by
    have hA : A = [] ∧ x = [] := by
      cases A with
      | nil => simp [parts] at h; exact ⟨rfl, h⟩
      | cons y A => simp [parts] at h
    obtain ⟨rfl, rfl⟩ := hA
    by_cases e : b = c
    · simp [parts, e]
    · simp [parts, e]
  | d :: l, A, x, h => by
    by_cases e : d = c
    · simp only [parts, if_pos e] at h
      cases A with
      | nil =>
        simp only [List.nil_append, List.cons.injEq] at h
        exact absurd h.2 (parts_ne c l)
      | cons y A =>
        simp only [List.cons_append, List.cons.injEq] at h
        have ih := parts_snoc c b l A x h.2
        simp only [List.cons_append, parts, if_pos e, ih, ← h.1]
        split <;> rfl
    · simp only [parts, if_neg e] at h
      cases hp : parts c l with
      | nil => exact absurd hp (parts_ne c l)
      | cons p r =>
        rw [hp] at h
        simp only at h
        cases A with
        | nil =>
          simp only [List.nil_append, List.cons.injEq] at h
          obtain ⟨h1, h2⟩ := h
          subst h2
          have ih := parts_snoc c b l [] p (by simpa using hp)
          simp only [List.cons_append, parts, if_neg e, ih]
          by_cases e2 : b = c
          · simp [e2, ← h1]
          · simp [e2, ← h1]
        | cons y A =>
          simp only [List.cons_append, List.cons.injEq] at h
          obtain ⟨h1, h2⟩ := h
          have ih := parts_snoc c b l (p :: A) x (by rw [hp, h2]; rfl)
          simp only [List.cons_append, parts, if_neg e, ih]
          by_cases e2 : b = c
          · simp [e2, ← h1]
          · simp [e2, ← h1]
theorem parts_sum (c : UInt8) : ∀ l : List UInt8, ((parts c l).map fun p => p.length + 1).sum = l.length + 1
  | [] => rfl
  | b :: l => by
    have ih := parts_sum c l
    by_cases e : b = c
    · simp only [parts, if_pos e, List.map_cons, List.sum_cons, ih, List.length_cons, List.length_nil]; omega
    · simp only [parts, if_neg e]
      cases hp : parts c l with
      | nil => exact absurd hp (parts_ne c l)
      | cons p r =>
        rw [hp] at ih
        simp only [List.map_cons, List.sum_cons, List.length_cons] at ih ⊢
        omega
theorem parts_part (c : UInt8) (l p : List UInt8) (h : p ∈ parts c l) : p.length ≤ l.length := by
  have hs := parts_sum c l
  have : ∀ q : List (List UInt8), p ∈ q → p.length + 1 ≤ (q.map fun p => p.length + 1).sum := by
    intro q
    induction q with
    | nil => intro h; cases h
    | cons x q ih =>
      intro h
      simp only [List.map_cons, List.sum_cons]
      rcases List.mem_cons.1 h with h | h
      · subst h; omega
      · have := ih h; omega
  have := this _ h
  omega
/-- A row of a group, read. -/
def rowOf (p : List UInt8) : List Int := p.map fun b => (b.toNat : Int) - 48
def readG (l : List UInt8) : List (List Int) := (parts 44 l).map rowOf
/-! ### The reference's -/
theorem l01Split_spec (s : ByteArray) (c : UInt8) (hs : s.size ≤ 1048576) : Spec Tryz.prog 67 [.v (.string s), .v (.int .u8 (c.toNat : Int))] (.own 0) [.row 9 (SS ((parts c s.data.toList).map strB))] := by
  refine Spec.of_code T_ok Tryz.func67 rfl Tryz.ntmps67 Tryz.call67 (Nat.le_of_ble_eq_true rfl) rfl rfl (CodeV_sound T_ok (by kernel_rfl) rfl ?_)
  simp only [Tryz.results67, go_sem, Nat.reduceMul, Nat.reduceLeDiff, Nat.reduceLT, reduceIte, reduceCtorEq, Nat.reduceEqDiff, Nat.reduceSub, Nat.reduceAdd]
  refine HereO.buildRow T_ok 108 (SS []) rfl rfl rfl (by decide) rfl (by simp only [go_sem, Nat.reduceMul, Nat.reduceLeDiff, Nat.reduceLT, reduceIte, reduceCtorEq, Nat.reduceEqDiff, Nat.reduceSub, Nat.reduceAdd] <;> rfl) rfl (by decide) ?_
  simp only [Tryz.results67, go_sem, Nat.reduceMul, Nat.reduceLeDiff, Nat.reduceLT, reduceIte, reduceCtorEq, Nat.reduceEqDiff, Nat.reduceSub, Nat.reduceAdd]
  have hsz : s.data.toList.length = s.size := (Lib.size_eq s).symm
  refine Here.loopV T_ok (κ := Nat × Nat × List (List UInt8)) (fun k => k.1 ≤ k.2.1 ∧ k.2.1 ≤ s.size ∧ parts c (s.data.toList.take k.2.1) = k.2.2 ++ [(s.data.toList.take k.2.1).drop k.1]) (fun k => s.size - k.2.1) (fun k => [(0, .v (.string s)), (1, .v (.int .u8 (c.toNat : Int))), (5, .own 108), (6, .v (.int .i64 k.1)), (7, .v (.int .i64 k.2.1))]) (fun k => [(108, .row 9 (SS (k.2.2.map strB)))]) (0, 0, []) ⟨by simp, by simp, by simp [parts]⟩ (by simp only [Tryz.results67, go_sem, Nat.reduceMul, Nat.reduceLeDiff, Nat.reduceLT, reduceIte, reduceCtorEq, Nat.reduceEqDiff, Nat.reduceSub, Nat.reduceAdd]; simp) (by simp only [Tryz.results67, go_sem, Nat.reduceMul, Nat.reduceLeDiff, Nat.reduceLT, reduceIte, reduceCtorEq, Nat.reduceEqDiff, Nat.reduceSub, Nat.reduceAdd]) ?_
  rintro ⟨at_, i, A⟩ ⟨h1, h2, h3⟩
  dsimp only at h1 h2 h3
  have hA : A.length ≤ 1048576 := by
    have := parts_len c (s.data.toList.take i)
    rw [h3] at this
    have hc := List.count_le_length (a := c) (l := s.data.toList.take i)
    simp only [List.length_append, List.length_cons, List.length_nil, List.length_take] at this hc
    omega
  simp only [Tryz.results67, go_sem, Nat.reduceMul, Nat.reduceLeDiff, Nat.reduceLT, reduceIte, reduceCtorEq, Nat.reduceEqDiff, Nat.reduceSub, Nat.reduceAdd]
  refine HereO.opP T_ok (OpP.lenStr Tryz.underlying9 rfl rfl) ?_
  simp only [Tryz.results67, go_sem, Nat.reduceMul, Nat.reduceLeDiff, Nat.reduceLT, reduceIte, reduceCtorEq, Nat.reduceEqDiff, Nat.reduceSub, Nat.reduceAdd]
  refine ⟨fun h4 => ?_, fun h4 => ?_⟩
  · have hi : i < s.size := by omega
    refine HereO.opP T_ok (OpP.index (i := i) Tryz.underlying9 rfl rfl rfl hi) ?_
    simp only [Tryz.results67, go_sem, Nat.reduceMul, Nat.reduceLeDiff, Nat.reduceLT, reduceIte, reduceCtorEq, Nat.reduceEqDiff, Nat.reduceSub, Nat.reduceAdd]
    have hb := byteAt_data s i (by omega)
    have htk : s.data.toList.take (i + 1) = s.data.toList.take i ++ [s.data.toList[i]'(by omega)] := List.take_succ_eq_append_getElem (by omega)
    have hsn := parts_snoc c (s.data.toList[i]'(by omega)) (s.data.toList.take i) A _ h3
    rw [← htk] at hsn
    refine ⟨fun h5 => ?_, fun h5 => ?_⟩
    · have hbc : s.data.toList[i]'(by omega) = c := by
        rw [hb] at h5
        exact UInt8.toNat_inj.1 (by omega)
      rw [if_pos hbc] at hsn
      refine HereO.opP T_ok (OpP.sliceStr (i := at_) (j := i) Tryz.underlying9 rfl rfl rfl rfl h1 h2) ?_
      simp only [Tryz.results67, go_sem, Nat.reduceMul, Nat.reduceLeDiff, Nat.reduceLT, reduceIte, reduceCtorEq, Nat.reduceEqDiff, Nat.reduceSub, Nat.reduceAdd]
      rw [extract_strB]
      refine HereO.buildRow T_ok 125 (SS [strB ((s.data.toList.drop at_).take (i - at_))]) rfl rfl rfl (by decide) rfl (by first | rfl | (simp only [go_sem, Nat.reduceMul, Nat.reduceLeDiff, Nat.reduceLT, reduceIte, reduceCtorEq, Nat.reduceEqDiff, Nat.reduceSub, Nat.reduceAdd] <;> rfl)) rfl (by decide) ?_
      simp only [Tryz.results67, go_sem, Nat.reduceMul, Nat.reduceLeDiff, Nat.reduceLT, reduceIte, reduceCtorEq, Nat.reduceEqDiff, Nat.reduceSub, Nat.reduceAdd]
      refine HereO.append T_ok (SS [strB ((s.data.toList.drop at_).take (i - at_))]) rfl rfl (by decide) (by simp only [go_sem, Nat.reduceMul, Nat.reduceLeDiff, Nat.reduceLT, reduceIte, reduceCtorEq, Nat.reduceEqDiff, Nat.reduceSub, Nat.reduceAdd] <;> rfl) (by decide) (by simp only [go_sem, Nat.reduceMul, Nat.reduceLeDiff, Nat.reduceLT, reduceIte, reduceCtorEq, Nat.reduceEqDiff, Nat.reduceSub, Nat.reduceAdd] <;> rfl) (by simp only [go_sem, Nat.reduceMul, Nat.reduceLeDiff, Nat.reduceLT, reduceIte, reduceCtorEq, Nat.reduceEqDiff, Nat.reduceSub, Nat.reduceAdd] <;> rfl) (.own 125 _ _ (by decide) (by simp only [go_sem, Nat.reduceMul, Nat.reduceLeDiff, Nat.reduceLT, reduceIte, reduceCtorEq, Nat.reduceEqDiff, Nat.reduceSub, Nat.reduceAdd] <;> rfl)) (SS_one _) (by simp only [SS_len, List.length_append, List.length_map, List.length_cons, List.length_nil]; omega) ?_
      simp only [Tryz.results67, go_sem, Nat.reduceMul, Nat.reduceLeDiff, Nat.reduceLT, reduceIte, reduceCtorEq, Nat.reduceEqDiff, Nat.reduceSub, Nat.reduceAdd]
      refine ⟨by unfold InR; omega, by unfold InR; omega, (i + 1, i + 1, A ++ [(s.data.toList.take i).drop at_]), ⟨Nat.le_refl _, hi, ?_⟩, ?_, ⟨by push_cast; rfl, by push_cast; rfl⟩, ?_⟩
      · show parts c (s.data.toList.take (i + 1)) = _
        have e0 : (s.data.toList.take (i + 1)).drop (i + 1) = [] := List.drop_of_length_le (by rw [List.length_take]; omega)
        show _ = (A ++ [(s.data.toList.take i).drop at_]) ++ [(s.data.toList.take (i + 1)).drop (i + 1)]
        rw [hsn, e0]
        simp
      · show s.size - (i + 1) < s.size - i
        omega
      · rw [SS_app, List.drop_take]
        simp
    · have hbc : s.data.toList[i]'(by omega) ≠ c := fun e => h5 (by rw [hb, e])
      rw [if_neg hbc] at hsn
      refine ⟨by unfold InR; omega, (at_, i + 1, A), ⟨by show at_ ≤ i + 1; omega, hi, ?_⟩, ?_, ⟨rfl, by push_cast; rfl⟩, rfl⟩
      · show parts c (s.data.toList.take (i + 1)) = _
        rw [hsn, htk, List.drop_append_of_le_length (by rw [List.length_take, Nat.min_eq_left (by omega)]; exact h1)]
      · show s.size - (i + 1) < s.size - i
        omega
  · obtain rfl : i = s.size := by omega
    refine HereO.opP T_ok (OpP.fromStr (i := at_) Tryz.underlying9 rfl rfl rfl h1) ?_
    simp only [Tryz.results67, go_sem, Nat.reduceMul, Nat.reduceLeDiff, Nat.reduceLT, reduceIte, reduceCtorEq, Nat.reduceEqDiff, Nat.reduceSub, Nat.reduceAdd]
    rw [extract_strB]
    refine HereO.buildRow T_ok 133 (SS [strB ((s.data.toList.drop at_).take (s.size - at_))]) rfl rfl rfl (by decide) rfl (by first | rfl | (simp only [go_sem, Nat.reduceMul, Nat.reduceLeDiff, Nat.reduceLT, reduceIte, reduceCtorEq, Nat.reduceEqDiff, Nat.reduceSub, Nat.reduceAdd] <;> rfl)) rfl (by decide) ?_
    simp only [Tryz.results67, go_sem, Nat.reduceMul, Nat.reduceLeDiff, Nat.reduceLT, reduceIte, reduceCtorEq, Nat.reduceEqDiff, Nat.reduceSub, Nat.reduceAdd]
    refine HereO.append T_ok (SS [strB ((s.data.toList.drop at_).take (s.size - at_))]) rfl rfl (by decide) (by simp only [go_sem, Nat.reduceMul, Nat.reduceLeDiff, Nat.reduceLT, reduceIte, reduceCtorEq, Nat.reduceEqDiff, Nat.reduceSub, Nat.reduceAdd] <;> rfl) (by decide) (by simp only [go_sem, Nat.reduceMul, Nat.reduceLeDiff, Nat.reduceLT, reduceIte, reduceCtorEq, Nat.reduceEqDiff, Nat.reduceSub, Nat.reduceAdd] <;> rfl) (by simp only [go_sem, Nat.reduceMul, Nat.reduceLeDiff, Nat.reduceLT, reduceIte, reduceCtorEq, Nat.reduceEqDiff, Nat.reduceSub, Nat.reduceAdd] <;> rfl) (.own 133 _ _ (by decide) (by simp only [go_sem, Nat.reduceMul, Nat.reduceLeDiff, Nat.reduceLT, reduceIte, reduceCtorEq, Nat.reduceEqDiff, Nat.reduceSub, Nat.reduceAdd] <;> rfl)) (SS_one _) (by simp only [SS_len, List.length_append, List.length_map, List.length_cons, List.length_nil]; omega) ?_
    simp only [Tryz.results67, go_sem, Nat.reduceMul, Nat.reduceLeDiff, Nat.reduceLT, reduceIte, reduceCtorEq, Nat.reduceEqDiff, Nat.reduceSub, Nat.reduceAdd]
    refine RetT.one 108 (by simp only [Tryz.results67, go_sem, Nat.reduceMul, Nat.reduceLeDiff, Nat.reduceLT, reduceIte, reduceCtorEq, Nat.reduceEqDiff, Nat.reduceSub, Nat.reduceAdd]; rfl) rfl ?_
    simp only [Tryz.results67, go_sem, Nat.reduceMul, Nat.reduceLeDiff, Nat.reduceLT, reduceIte, reduceCtorEq, Nat.reduceEqDiff, Nat.reduceSub, Nat.reduceAdd]
    rw [← hsz, List.take_length] at h3
    rw [SS_app, h3, ← hsz, List.take_of_length_le (by rw [List.length_drop]; exact Nat.le_refl _)]
    simp
theorem SS_dv (xs : List (List UInt8)) (i : Nat) (h : i < xs.length) : dv (SS (xs.map strB)) i = .string (strB xs[i]) := by
  unfold dv
  simp [SS, h]
theorem byteAt_strB (l : List UInt8) (j : Nat) (h : j < l.length) : byteAt (strB l) j = (l[j].toNat : Int) := by
  have e : (strB l).data.toList = l := strB_of l
  rw [byteAt_data _ _ (by rw [strB_size]; exact h)]
  simp only [e]
/-- What ParseGroup answers. -/
def pgL (s : ByteArray) : List (List Int) := if Grp (readG s.data.toList) then readG s.data.toList else []
def pgC (s : ByteArray) : Int := if Grp (readG s.data.toList) then 0 else 6
end Go.Proofs.YtcjhojdlfnpgjaaGreatDoor
