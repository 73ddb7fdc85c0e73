/- Contracts: strings.Split at one byte, the place of a byte in a text, numbers of two digits in decimal, by the kit's contracts. -/
import Derived.Test.YtkdiodegilidgaaDoorJb
import Derived.Shelf.Strings.Split
import Derived.Shelf.Strconv.Itoa4
namespace Go.Proofs.YtkdiodegilidgaaDoor
open Go.RowKit Go.Shelf
set_option linter.unusedVariables false
set_option linter.unusedSimpArgs false
set_option maxRecDepth 100000

def rhoS : Ren := ⟨fun
  | 138 => 61
  | 143 => 62
  | 146 => 23
  | 195 => 69
  | 197 => 70
  | 217 => 78
  | 218 => 71
  | 219 => 72
  | 221 => 44
  | 224 => 80
  | 225 => 79
  | 260 => 77
  | 266 => 88
  | 267 => 81
  | 268 => 60
  | 314 => 89
  | n => n, fun
  | 0 => 0
  | 3 => 3
  | 4 => 4
  | 5 => 5
  | 9 => 9
  | 21 => 21
  | 31 => 49
  | 46 => 104
  | 51 => 117
  | 105 => 91
  | 119 => 113
  | 138 => 115
  | 139 => 116
  | 146 => 118
  | n => n, fun
  | 1 => 0
  | 3 => 1
  | 4 => 2
  | n => n⟩
theorem laysS : Lays.n146 Tryd.prog rhoS where
  mixed := mixed_ok
  f138 := by kernel_rfl
  f143 := by kernel_rfl
  f146 := by kernel_rfl
  f195 := by kernel_rfl
  f197 := by kernel_rfl
  f217 := by kernel_rfl
  f218 := by kernel_rfl
  f219 := by kernel_rfl
  f221 := by kernel_rfl
  f224 := by kernel_rfl
  f225 := by kernel_rfl
  f260 := by kernel_rfl
  f266 := by kernel_rfl
  f267 := by kernel_rfl
  f268 := by kernel_rfl
  f314 := by kernel_rfl
  t0 := by kernel_rfl
  a0 := Tryd.isAgg0
  z0 := Tryd.sizeOf0
  v0 := Tryd.zeroValue0
  t3 := by kernel_rfl
  a3 := Tryd.isAgg3
  z3 := Tryd.sizeOf3
  v3 := Tryd.zeroValue3
  t4 := by kernel_rfl
  a4 := Tryd.isAgg4
  z4 := Tryd.sizeOf4
  v4 := Tryd.zeroValue4
  t5 := by kernel_rfl
  a5 := Tryd.isAgg5
  z5 := Tryd.sizeOf5
  v5 := Tryd.zeroValue5
  t9 := by kernel_rfl
  a9 := Tryd.isAgg9
  z9 := Tryd.sizeOf9
  v9 := Tryd.zeroValue9
  t21 := by kernel_rfl
  a21 := Tryd.isAgg21
  z21 := Tryd.sizeOf21
  v21 := Tryd.zeroValue21
  t31 := by kernel_rfl
  a31 := Tryd.isAgg49
  z31 := Tryd.sizeOf49
  v31 := Tryd.zeroValue49
  t46 := by kernel_rfl
  a46 := Tryd.isAgg104
  z46 := Tryd.sizeOf104
  v46 := Tryd.zeroValue104
  t51 := by kernel_rfl
  a51 := Tryd.isAgg117
  z51 := Tryd.sizeOf117
  v51 := Tryd.zeroValue117
  t105 := by kernel_rfl
  a105 := Tryd.isAgg91
  z105 := Tryd.sizeOf91
  v105 := Tryd.zeroValue91
  t119 := by kernel_rfl
  a119 := Tryd.isAgg113
  z119 := Tryd.sizeOf113
  t138 := by kernel_rfl
  a138 := Tryd.isAgg115
  z138 := Tryd.sizeOf115
  v138 := Tryd.zeroValue115
  t139 := by kernel_rfl
  a139 := Tryd.isAgg116
  z139 := Tryd.sizeOf116
  v139 := Tryd.zeroValue116
  t146 := by kernel_rfl
  a146 := Tryd.isAgg118
  z146 := Tryd.sizeOf118
  v146 := Tryd.zeroValue118
  g1 := by kernel_rfl
  g3 := by kernel_rfl
  g4 := by kernel_rfl
def rhoI : Ren := ⟨fun
  | 217 => 78
  | 219 => 72
  | 224 => 80
  | 225 => 79
  | 266 => 88
  | 267 => 81
  | 314 => 89
  | n => n, fun
  | 3 => 3
  | 4 => 4
  | 5 => 5
  | 9 => 9
  | 46 => 104
  | 51 => 117
  | 146 => 118
  | n => n, fun
  | 1 => 0
  | n => n⟩
theorem laysI : Lays.n219 Tryd.prog rhoI where
  mixed := mixed_ok
  f217 := by kernel_rfl
  f219 := by kernel_rfl
  f224 := by kernel_rfl
  f225 := by kernel_rfl
  f266 := by kernel_rfl
  f267 := by kernel_rfl
  f314 := by kernel_rfl
  t3 := by kernel_rfl
  a3 := Tryd.isAgg3
  z3 := Tryd.sizeOf3
  v3 := Tryd.zeroValue3
  t4 := by kernel_rfl
  a4 := Tryd.isAgg4
  z4 := Tryd.sizeOf4
  v4 := Tryd.zeroValue4
  t5 := by kernel_rfl
  a5 := Tryd.isAgg5
  z5 := Tryd.sizeOf5
  v5 := Tryd.zeroValue5
  t9 := by kernel_rfl
  a9 := Tryd.isAgg9
  z9 := Tryd.sizeOf9
  v9 := Tryd.zeroValue9
  t46 := by kernel_rfl
  a46 := Tryd.isAgg104
  z46 := Tryd.sizeOf104
  v46 := Tryd.zeroValue104
  t51 := by kernel_rfl
  a51 := Tryd.isAgg117
  z51 := Tryd.sizeOf117
  v51 := Tryd.zeroValue117
  t146 := by kernel_rfl
  a146 := Tryd.isAgg118
  z146 := Tryd.sizeOf118
  v146 := Tryd.zeroValue118
  g1 := by kernel_rfl

def rhoF : Ren := ⟨fun
  | 129 => 91
  | 173 => 65
  | 246 => 73
  | 283 => 82
  | 284 => 83
  | 285 => 84
  | 286 => 85
  | 317 => 90
  | 318 => 92
  | 319 => 93
  | 320 => 94
  | 337 => 97
  | 338 => 98
  | n => n, fun
  | 0 => 0
  | 2 => 2
  | 3 => 3
  | 4 => 4
  | 5 => 5
  | 9 => 9
  | 20 => 20
  | 37 => 87
  | 46 => 104
  | 51 => 117
  | 53 => 107
  | 171 => 106
  | 173 => 110
  | 212 => 121
  | 213 => 122
  | 232 => 129
  | 233 => 130
  | n => n, fun
  | 17 => 3
  | 18 => 4
  | 19 => 5
  | n => n⟩
theorem laysF : Lays.n173 Tryd.prog rhoF where
  mixed := mixed_ok
  f129 := by kernel_rfl
  f173 := by kernel_rfl
  f246 := by kernel_rfl
  f283 := by kernel_rfl
  f284 := by kernel_rfl
  f285 := by kernel_rfl
  f286 := by kernel_rfl
  f317 := by kernel_rfl
  f318 := by kernel_rfl
  f319 := by kernel_rfl
  f320 := by kernel_rfl
  f337 := by kernel_rfl
  f338 := by kernel_rfl
  t0 := by kernel_rfl
  a0 := Tryd.isAgg0
  z0 := Tryd.sizeOf0
  v0 := Tryd.zeroValue0
  t2 := by kernel_rfl
  a2 := Tryd.isAgg2
  z2 := Tryd.sizeOf2
  v2 := Tryd.zeroValue2
  t3 := by kernel_rfl
  a3 := Tryd.isAgg3
  z3 := Tryd.sizeOf3
  v3 := Tryd.zeroValue3
  t4 := by kernel_rfl
  a4 := Tryd.isAgg4
  z4 := Tryd.sizeOf4
  v4 := Tryd.zeroValue4
  t5 := by kernel_rfl
  a5 := Tryd.isAgg5
  z5 := Tryd.sizeOf5
  v5 := Tryd.zeroValue5
  t9 := by kernel_rfl
  a9 := Tryd.isAgg9
  z9 := Tryd.sizeOf9
  v9 := Tryd.zeroValue9
  t20 := by kernel_rfl
  a20 := Tryd.isAgg20
  z20 := Tryd.sizeOf20
  v20 := Tryd.zeroValue20
  t37 := by kernel_rfl
  a37 := Tryd.isAgg87
  z37 := Tryd.sizeOf87
  v37 := Tryd.zeroValue87
  t46 := by kernel_rfl
  a46 := Tryd.isAgg104
  z46 := Tryd.sizeOf104
  v46 := Tryd.zeroValue104
  t51 := by kernel_rfl
  a51 := Tryd.isAgg117
  z51 := Tryd.sizeOf117
  v51 := Tryd.zeroValue117
  t53 := by kernel_rfl
  a53 := Tryd.isAgg107
  z53 := Tryd.sizeOf107
  v53 := Tryd.zeroValue107
  t171 := by kernel_rfl
  a171 := Tryd.isAgg106
  z171 := Tryd.sizeOf106
  v171 := Tryd.zeroValue106
  t173 := by kernel_rfl
  a173 := Tryd.isAgg110
  z173 := Tryd.sizeOf110
  v173 := Tryd.zeroValue110
  t212 := by kernel_rfl
  a212 := Tryd.isAgg121
  z212 := Tryd.sizeOf121
  v212 := Tryd.zeroValue121
  t213 := by kernel_rfl
  a213 := Tryd.isAgg122
  z213 := Tryd.sizeOf122
  t232 := by kernel_rfl
  a232 := Tryd.isAgg129
  z232 := Tryd.sizeOf129
  v232 := Tryd.zeroValue129
  t233 := by kernel_rfl
  a233 := Tryd.isAgg130
  z233 := Tryd.sizeOf130
  v233 := Tryd.zeroValue130
  g17 := by kernel_rfl
  g18 := by kernel_rfl
  g19 := by kernel_rfl

/-- The parts of a text between the bytes c. -/
def parts (c : UInt8) : List UInt8 → List (List UInt8)
  | [] => [[]]
  | b :: l => if b = c then [] :: parts c l else match parts c l with | p :: r => (b :: p) :: r | [] => [[b]]
theorem index_cons_ne {b c : UInt8} {l : List UInt8} (h : b ≠ c) : Lib.index (b :: l) [c] = if Lib.index l [c] == -1 then -1 else Lib.index l [c] + 1 := by
  have hp : ([c] : List UInt8).isPrefixOf (b :: l) = false := by simp [List.isPrefixOf, Ne.symm h]
  rw [Lib.index, hp]; simp
theorem splitK_parts (c : UInt8) : ∀ s : List UInt8, Lib.splitK [c] 0 (s.count c) s = parts c s
  | [] => rfl
  | b :: l => by
    have ih := splitK_parts c l
    by_cases h : b = c
    · subst h
      have hix : Lib.index (b :: l) [b] = 0 := by rw [Lib.index]; simp [List.isPrefixOf]
      rw [List.count_cons_self, Lib.splitK, hix]
      simp [parts, ih]
    · rw [List.count_cons_of_ne (by simpa using h)]
      simp only [parts, if_neg h]
      rw [← ih]
      have hc := Lib.count_one c l
      cases hn : l.count c with
      | zero => simp [Lib.splitK]
      | succ k =>
        have hge := Lib.index_ge l [c]
        have hne : Lib.index l [c] ≠ -1 := fun e => by rw [Lib.count_miss e] at hc; omega
        obtain ⟨j, hj⟩ : ∃ j : Nat, Lib.index l [c] = j := ⟨(Lib.index l [c]).toNat, by omega⟩
        have hix := index_cons_ne (l := l) h
        rw [if_neg (by simpa using hne), hj] at hix
        rw [Lib.splitK, Lib.splitK, hix, hj]
        have e1 : (((j : Int) + 1) == -1) = false := by rw [beq_eq_false_iff_ne]; omega
        have e2 : ((j : Int) == -1) = false := by rw [beq_eq_false_iff_ne]; omega
        have e3 : ((j : Int) + 1).toNat = j + 1 := by omega
        simp [e1, e2, e3]
theorem strB_data (x : ByteArray) : strB x.data.toList = x := by cases x; simp [strB]
theorem strB_of (l : List UInt8) : (strB l).data.toList = l := by simp [strB]
theorem splitB_parts (s : ByteArray) (c : UInt8) : Lib.splitB ⟨#[c]⟩ 0 (s.data.toList.count c) s = (parts c s.data.toList).map strB := by
  have h := Lib.splitB_data ⟨#[c]⟩ 0 (s.data.toList.count c) s
  have e : (⟨#[c]⟩ : ByteArray).data.toList = [c] := rfl
  rw [e, splitK_parts] at h
  rw [← h, List.map_map]
  have : (strB ∘ fun x : ByteArray => x.data.toList) = id := by funext x; exact strB_data x
  rw [this, List.map_id]
theorem parts_len (c : UInt8) : ∀ s : List UInt8, (parts c s).length = s.count c + 1
  | [] => rfl
  | b :: l => by
    have ih := parts_len c l
    by_cases h : b = c
    · subst h
      rw [List.count_cons_self]
      simp [parts, ih]
    · rw [List.count_cons_of_ne (by simpa using h)]
      simp only [parts, if_neg h]
      cases hp : parts c l with
      | nil => rw [hp] at ih; simp at ih
      | cons p r => rw [hp] at ih; simpa using ih
theorem spec_pure {g : Nat} {args : List LV} {x : Value} (ent : ∀ args w, (callFunc g args).run Tryd.prog w = .ok (.enter g args) w) (h : ∀ w ys, LRels noI noF w args ys → Calls Tryd.prog g (List.toArray ys) w fun e w' => e = .returned x ∧ w' = w) : Spec Tryd.prog g args (.v x) [] := by
  refine ⟨ent, fun w ys hys => (h w ys hys).mono ?_⟩
  rintro e w' ⟨rfl, rfl⟩
  refine ⟨x, noI, fun _ _ => False, rfl, fun i => ?_, fun id oc hi => by simp [osF] at hi, fun id id' oc oc' k h => by simp [osF] at h, Kept.refl _, fun k ⟨id, oc, hi, _⟩ => by simp [osF] at hi, fun id v h => by cases h⟩
  show LRel _ _ _ (if i = 0 then _ else .junk) _
  split <;> simp only [LRel]
/-- The place of a byte in a text. -/
theorem indexS_spec (s : ByteArray) (c : UInt8) : Spec Tryd.prog 72 [.v (.string s), .v (.string ⟨#[c]⟩)] (.v (.int .i64 (Lib.indexByte s.data.toList c))) [] := by
  refine spec_pure Tryd.call72 fun w ys hys => ?_
  simp only [LRels, LRel] at hys
  obtain ⟨y, r, rfl, rfl, y2, r2, rfl, rfl, rfl⟩ := hys
  exact Any.stringslite_Index_one laysI s c w
/-- A number of one or two digits, in decimal. -/
theorem formatS_spec (x : Nat) (hx : x < 100) : Spec Tryd.prog 65 [.v (.int .i64 x), .v (.int .i64 10)] (.v (.string (strB (Lib.decDigits x)))) [] := by
  refine spec_pure Tryd.call65 fun w ys hys => ?_
  simp only [LRels, LRel] at hys
  obtain ⟨y, r, rfl, rfl, y2, r2, rfl, rfl, rfl⟩ := hys
  exact Any.strconv_FormatInt_10_small laysF x hx w
/-- The parts of a text between the bytes c, in a row of the call's own. -/
theorem genSplitS_spec (s : ByteArray) (c : UInt8) (hs : s.size < 4294967281) : Spec Tryd.prog 44 [.v (.string s), .v (.string ⟨#[c]⟩), .v (.int .i64 0), .v (.int .i64 (-1))] (.own 0) [.row 9 (SS ((parts c s.data.toList).map strB))] := by
  refine ⟨Tryd.call44, fun w ys hys => ?_⟩
  simp only [LRels, LRel] at hys
  obtain ⟨y, r, rfl, rfl, y2, r2, rfl, rfl, y3, r3, rfl, rfl, y4, r4, rfl, rfl, rfl⟩ := hys
  have hi9 : (Tryd.prog.info? (rhoS.t 9)).map (fun i => (i.zero, i.size, i.bytes)) = some (some (.string ByteArray.empty), 1, 16) := by kernel_rfl
  have h1 : 1 ≤ (⟨#[c]⟩ : ByteArray).size := Nat.le_refl _
  have hcount : Lib.countB s ⟨#[c]⟩ = s.data.toList.count c := by
    show Lib.count s.data.toList [c] = _
    rw [Lib.count_one]
  have hle := Lib.countB_le ⟨#[c]⟩ h1 s.size s (Nat.le_refl _)
  have hlen := Lib.splitB_all ⟨#[c]⟩ h1 0 _ s rfl
  have cc := Any.strings_genSplit_core { laysS with } hi9 s ⟨#[c]⟩ 0 (-1) (Lib.countB s ⟨#[c]⟩ + 1) w hs h1 (Nat.zero_le _)
    (fun x cs hx => by
      have := Any.strings_Index_one { laysS with } x c (w.alloc (.cells cs (rhoS.t 9)))
      rw [← Lib.index_one] at this
      exact this)
    (by
      have := Any.strings_Count_one { laysS with } s c w
      rw [hcount]
      exact this)
    (by decide) (by decide) (by rw [if_pos (by decide)]; omega)
  rw [Nat.add_sub_cancel, hlen] at cc
  have e2 : Lib.cellsOf (Lib.splitB ⟨#[c]⟩ 0 (Lib.countB s ⟨#[c]⟩) s) (Lib.countB s ⟨#[c]⟩ + 1) = ((Lib.splitB ⟨#[c]⟩ 0 (Lib.countB s ⟨#[c]⟩) s).map Value.string).toArray := by rw [← hlen]; exact Lib.cellsOf_full _
  rw [e2, hcount, splitB_parts] at cc
  refine cc.mono ?_
  rintro e w' ⟨rfl, rfl⟩
  have hSS : (SS ((parts c s.data.toList).map strB)).length = s.data.toList.count c + 1 := by rw [SS_len, List.length_map, parts_len]
  rw [hcount] at hle
  have hown := World.ownsRow_lit (base := 0) (size := 1) (e := 9) w (SS ((parts c s.data.toList).map strB)).toArray (s.data.toList.count c + 1) (Nat.zero_le _) (by simp only [maxLen]; omega) (by simp [hSS])
  refine ⟨.slice (some ⟨w.heap.size, 0, none⟩) (s.data.toList.count c + 1) (s.data.toList.count c + 1), fun i => if i = 0 then some (.slice (some ⟨w.heap.size, 0, none⟩) (s.data.toList.count c + 1) (s.data.toList.count c + 1)) else none, fun _ k => k = w.heap.size, rfl, ?_⟩
  refine ⟨fun i => ?_, fun id oc hi => ?_, fun id id' oc oc' k h1 h2 _ _ => ?_, ?_, fun k ⟨id, oc, hi, hk⟩ => .inl ?_, fun id v h => by cases h⟩
  · show LRel _ _ _ (if i = 0 then _ else .junk) _
    split <;> simp only [LRel, if_true]
  · match id with
    | 0 =>
      simp only [osF, List.getElem?_cons_zero, Option.some.injEq] at hi
      subst hi
      refine ⟨_, rfl, ?_, fun k => ?_⟩
      · rw [hSS]
        exact hown
      · show k = w.heap.size ↔ some w.heap.size = some k
        simp [eq_comm]
    | id + 1 => simp [osF] at hi
  · match id, id' with
    | 0, 0 => rfl
    | id + 1, _ => simp [osF] at h1
    | 0, id' + 1 => simp [osF] at h2
  · exact (Kept.refl (Base.of w)).below ((Below.refl _ w).alloc (Nat.le_refl _) _)
  · have : k = w.heap.size := hk
    rw [this]; exact Nat.le_refl _
theorem splitS_spec (s : ByteArray) (c : UInt8) (hs : s.size < 4294967281) : Spec Tryd.prog 23 [.v (.string s), .v (.string ⟨#[c]⟩)] (.own 0) [.row 9 (SS ((parts c s.data.toList).map strB))] := by
  refine Spec.of_code T_ok Tryd.func23 rfl Tryd.ntmps23 Tryd.call23 (Nat.le_of_ble_eq_true rfl) rfl rfl (CodeV_sound T_ok (by kernel_rfl) rfl ?_)
  simp only [Tryd.results23, go_sem, Nat.reduceMul, Nat.reduceLeDiff, Nat.reduceLT, reduceIte, reduceCtorEq, Nat.reduceEqDiff, Nat.reduceSub, Nat.reduceAdd]
  refine HereO.callOwn T_ok 1 rfl rfl (genSplitS_spec s c hs) (by simp only [go_sem, Nat.reduceMul, Nat.reduceLeDiff, Nat.reduceLT, reduceIte, reduceCtorEq, Nat.reduceEqDiff, Nat.reduceSub, Nat.reduceAdd, List.toList_toArray] <;> first | rfl | exact ⟨rfl, rfl⟩) rfl (by simp) rfl ?_
  simp only [Tryd.results23, go_sem, Nat.reduceMul, Nat.reduceLeDiff, Nat.reduceLT, reduceIte, reduceCtorEq, Nat.reduceEqDiff, Nat.reduceSub, Nat.reduceAdd]
  refine RetT.one 1016 (by simp only [Tryd.results23, go_sem, Nat.reduceMul, Nat.reduceLeDiff, Nat.reduceLT, reduceIte, reduceCtorEq, Nat.reduceEqDiff, Nat.reduceSub, Nat.reduceAdd]; rfl) rfl ?_
  simp only [Tryd.results23, go_sem, Nat.reduceMul, Nat.reduceLeDiff, Nat.reduceLT, reduceIte, reduceCtorEq, Nat.reduceEqDiff, Nat.reduceSub, Nat.reduceAdd]
end Go.Proofs.YtkdiodegilidgaaDoor
