/- FnModules returns true, whatever its code: its card. Of the listed variables the road reads none: texts are cut at single bytes, and the numbers that are written have one digit or two. -/
import Derived.Test.YtcjhojdlfnpgjaaGreatDoorOi
import Derived.Test.YtcjhojdlfnpgjaaGreatDoorVo
import Derived.Test.YtcjhojdlfnpgjaaGreatDoorCards
import Derived.Test.YtcjhojdlfnpgjaaGreatDoorTie
import Derived.Deep.DeepHandedRow
import Derived.Lib.LaidTab
import Derived.SevenTiedAt
namespace Go.Proofs.YtcjhojdlfnpgjaaGreatDoor
open Go.RowKit Go.ChangeShapes Go.WideShapes Go.ChangeAt
set_option linter.unusedVariables false
set_option linter.unusedSimpArgs false
set_option maxRecDepth 100000

section
variable {H : Type} {enc : TypeId × Value → H} {W : World} {base : Nat} {held : Bool}
theorem BY_get {zs : List Int} {L j : Nat} {u : Value} (h : (BY (zs.take L))[j]? = some u) : j < L ∧ j < zs.length ∧ u = .int .u8 (zs.getD j 0) := by
  simp only [BY, List.getElem?_map, List.getElem?_take, Option.map_eq_some_iff] at h
  obtain ⟨x, h1, rfl⟩ := h
  by_cases hj : j < L
  · rw [if_pos hj] at h1
    have hz := (List.getElem?_eq_some_iff.1 h1).1
    refine ⟨hj, hz, ?_⟩
    rw [List.getD_eq_getElem?_getD, h1]; rfl
  · rw [if_neg hj] at h1; cases h1
theorem RS_bytes {a : Addr} {L C : Nat} {zs : List Int} (hL : L ≤ C) (hC : C ≤ maxLen) (hz : L ≤ zs.length) (hc : ∀ c, c < L → W.cell? (a.add c) = some (.int .u8 (zs.getD c 0))) : RS noF W (BY (zs.take L)) (.slice (some a) L C) := by
  have hl : (BY (zs.take L)).length = L := by simp [BY]; omega
  refine ⟨some a, C, by rw [hl], by omega, by simp only [maxLen] at hC; omega, fun hp => ⟨a, rfl, fun h => h, fun j u hu => ?_⟩⟩
  obtain ⟨h1, h2, rfl⟩ := BY_get hu
  exact hc j h1
theorem open_code {v : Value} {d : DataW H} {p : List MemPlace} (hval : Value.okWide Tryz.prog W .any base 22 v) (h : DataW.Trod enc Tryz.prog W 0 (fun _ => true) true 22 v d p) : ∃ bs : List Int, LRel noI noF W (.rd (BY bs)) v ∧ (bs.length : Int) ≤ 9223372036854775807 ∧ ∀ j, j < bs.length → 0 ≤ bs.getD j 0 ∧ bs.getD j 0 ≤ 255 := by
  obtain ⟨fuel, h⟩ := h
  have hv : v.cells.toList = [v] := by
    simp only [Value.okWide, Tryz.underlying22, Cell.okWide] at hval
    cases v <;> simp_all [Cell.ok, Value.cells]
  rw [hv] at h
  rcases open_ints Tryz.underlying22 Tryz.underlying5 (by kernel_rfl) h with ⟨h1, _⟩ | ⟨a, len, cap, zs, h1, _, hlc, hcm, hz, _, hc, hw⟩
  · simp only [List.cons.injEq, and_true] at h1
    subst h1
    exact ⟨[], by simp only [LRel]; exact RS_nil, by simp, fun j hj => by simp at hj⟩
  · simp only [List.cons.injEq, and_true] at h1
    subst h1
    simp only [if_true] at hz
    have hcm' : cap ≤ 9223372036854775807 := by simpa [maxLen] using hcm
    refine ⟨zs.take len, by simp only [LRel]; exact RS_bytes hlc hcm (by omega) fun c h => hc c (by omega), by simp only [List.length_take]; omega, fun j hj => ?_⟩
    rw [List.length_take] at hj
    have e : (zs.take len).getD j 0 = zs[j]'(by omega) := by
      rw [List.getD_eq_getElem?_getD, List.getElem?_take, if_pos (by omega), List.getElem?_eq_getElem (by omega)]
      rfl
    rw [e]
    have h8 := hw _ (List.getElem_mem (show j < zs.length by omega))
    simp only [Lit.wf, Bool.and_eq_true, decide_eq_true_eq, IntKind.has] at h8
    exact h8
end
mutual
def flatD : DataW Unit → List Value
  | .lit (.int k n) => [.int k n]
  | .agg l => flatDs l
  | _ => []
def flatDs : List (DataW Unit) → List Value
  | [] => []
  | d :: r => flatD d ++ flatDs r
end
def layD (d : DataW Unit) : Obj → Obj
  | .cells _ t fz => .cells (flatD d).toArray t fz
  | o => o
/-- A world for the witness: the settled one, the listed variables as their initialisers lay them. -/
noncomputable def laidWorld (os : Os) : World :=
  { World.holding Tryz.prog os ⟨#[], #[], []⟩ with heap := ((((((World.holding Tryz.prog os ⟨#[], #[], []⟩).heap).modify 4 (layD Rows.laid_math_bits_deBruijn32tab)).modify 5 (layD Rows.laid_math_bits_deBruijn64tab)).modify 1 (layD Rows.laid_internal_strconv_uint64pow10)).modify 3 (layD Rows.laid_unicode_utf8_acceptRanges)).modify 2 (layD Rows.laid_unicode_utf8_first) }
theorem laid_met (os : Os) : laidMet Tryz.prog Rows.fnModulesRow.laid ((laidWorld os).forCall (fun _ _ => 0) ⟨#[], #[.slice none 0 0], []⟩).memory :=
  laidMet_of_run' 8 (by kernel_rfl) (by kernel_rfl)
theorem reads (os : Os) {H : Type} (enc : TypeId × Value → H) : ∃ places, DataW.whole enc Tryz.prog ((laidWorld os).forCall (fun _ _ => 0) ⟨#[], #[.slice none 0 0], []⟩).memory Tryz.f3.params.toList Rows.fnModulesSpec.vars false (#[.slice none 0 0] : Array Value).toList 8 = some ([.nil], [], places) :=
  ⟨[], by kernel_rfl⟩
theorem lifted (os : Os) (started : os.Started) (H : Type) (enc : TypeId × Value → H) (F : Stop.Interp) :
    ReturnsInHanded {} Tryz.checked os 3 .any ((OpenSpec.ofChange Rows.fnModulesSpec).preRow enc Tryz.prog Tryz.f3 Rows.fnModulesRow.domain false Rows.fnModulesRow.laid) (((OpenSpec.ofChange Rows.fnModulesSpec).at F).post enc Tryz.prog Tryz.f3 false true false false) := by
  obtain ⟨places, hx⟩ := reads os enc
  refine returnsInHanded_of_row (C := Tryz.checked) (s := OpenSpec.ofChange Rows.fnModulesSpec) own started (by kernel_rfl) Tryz.func3
    (witness_row_at (enc := enc) (C := Tryz.checked) false (laidWorld os) #[.slice none 0 0] rfl (by kernel_rfl) (by kernel_rfl) (by kernel_rfl)
      (OpenSpec.preRow_of_cond 8 hx (by kernel_rfl) (fun k hk => by cases hk) (by kernel_rfl) (laid_met os))) ?_
  intro W base args ds gs before hval hW _ _ _ hL _ _
  have hW0 := hW
  obtain ⟨p, q, hA, hV, rfl, _, _⟩ := hW
  rw [Tryz.params3] at hA
  obtain ⟨va, da, rfl, rfl, hda⟩ := trodAll_one hA
  obtain ⟨rfl, _⟩ := trodVars_none hV
  obtain ⟨bs, hla, hl, hb⟩ := open_code (hval 0 22 va (by kernel_rfl) rfl) hda
  refine (law_calls (W := W) (ys := [va]) (lawModules bs hl hb) (by simp only [LRels]; exact ⟨_, _, rfl, hla, rfl⟩)).mono ?_
  rintro e W' ⟨rfl, hb⟩
  exact ⟨_, rfl, law_post rfl (by kernel_rfl) (by rw [Tryz.params3]; decide +kernel) rfl hW0 hb⟩
theorem fnModules_said : Rows.FnModulesSaid :=
  OpenClaim.holds_of_cond 3 Tryz.f3 rfl rfl rfl rfl rfl rfl rfl ⟨rfl, rfl, rfl, rfl, rfl⟩ rfl rfl rfl rfl rfl (by kernel_rfl) Tryz.func3 (by kernel_rfl)
    (of_decide_eq_true (by kernel_rfl)) (by unfold Func.isWrapper; first | (rw [if_pos (by decide +kernel)]; kernel_rfl) | (rw [if_neg (by decide +kernel)]; exact ⟨rfl, rfl⟩))
    (fun os started H enc _ F => by rw [OpenClaim.pre_eq_preRow]; exact lifted os started H enc F)
theorem plainF (f : FuncId) (fn : Func) (hf : Tryz.pinned.checked.prog.funcNamed "loop.example/g01363/laws.FnModules" = some f) (hfn : Tryz.pinned.checked.prog.funcs[f]? = some fn) :
    false = Tryz.pinned.checked.prog.looks [] ∧ ∀ (j : Nat) t, fn.params[j]? = some t → Tryz.pinned.checked.prog.wantsStandIn t = false := by
  obtain rfl : f = 3 := Option.some.inj ((show Tryz.prog.funcNamed "loop.example/g01363/laws.FnModules" = some 3 by kernel_rfl).symm.trans hf) |>.symm
  obtain rfl : fn = Tryz.f3 := (Option.some.inj (Tryz.func3.symm.trans hfn)).symm
  refine ⟨by kernel_rfl, fun j t ht => ?_⟩
  rw [Tryz.params3] at ht
  have hm := Array.mem_of_getElem? ht
  simp only [List.mem_toArray, List.mem_cons, List.not_mem_nil, or_false] at hm
  rcases hm with rfl
  · exact (show Tryz.prog.wantsStandIn 22 = false by kernel_rfl)
theorem fnModules_holds : Rows.FnModulesCardSaid :=
  Claim7.holds_tied_plain_at .later [] _ _ _ _ fnModules_said (fun _ h => by cases h) (by kernel_rfl) (fun _ h => by cases h) fnModules_row_tie rfl ⟨rfl, rfl⟩ (by kernel_rfl) rfl plainF (by kernel_rfl)
#print axioms fnModules_holds
end Go.Proofs.YtcjhojdlfnpgjaaGreatDoor
