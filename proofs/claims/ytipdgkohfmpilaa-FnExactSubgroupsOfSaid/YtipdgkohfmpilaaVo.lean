/- What the arguments of a law are: groups, modules, lists, numbers and texts that are only read. -/
import Derived.Test.YtipdgkohfmpilaaVh
import Derived.Test.YtipdgkohfmpilaaVz
import Derived.ProofKit
import Derived.OpenShut
import Derived.ShutString
import Derived.ChangeOld
import Derived.SizedLaws
import Derived.ChangeSame
import Derived.Deep.Matrix
import Derived.Test.YtipdgkohfmpilaaRows
namespace Go.Proofs.Ytipdgkohfmpilaa
open Go.RowKit Go.ChangeShapes Go.WideShapes Go.ChangeAt
set_option linter.unusedVariables false
set_option linter.unusedSimpArgs false
set_option maxRecDepth 100000

/-- No longer than any list is. -/
def Short (l : List Int) : Prop := (l.length : Int) ≤ 9223372036854775807
def Shorts (t : List (List Int)) : Prop := (t.length : Int) ≤ 9223372036854775807 ∧ ∀ a, a < t.length → ((t.getD a []).length : Int) ≤ 9223372036854775807

section
variable {H : Type} {enc : TypeId × Value → H} {W : World} {base : Nat} {held : Bool}

theorem RS_nil : RS noF W [] (.slice none 0 0) := ⟨none, 0, rfl, Nat.le_refl _, by simp, fun h => by simp at h⟩
theorem I_get {zs : List Int} {L j : Nat} {u : Value} (h : (I (zs.take L))[j]? = some u) : j < L ∧ j < zs.length ∧ u = .int .i64 (zs.getD j 0) := by
  simp only [I, List.getElem?_map, List.getElem?_take, Option.map_eq_some_iff] at h
  obtain ⟨x, h1, rfl⟩ := h
  by_cases hj : j < L
  · rw [if_pos hj] at h1
    have hz := (List.getElem?_eq_some_iff.1 h1).1
    refine ⟨hj, hz, ?_⟩
    rw [List.getD_eq_getElem?_getD, h1]; rfl
  · rw [if_neg hj] at h1; cases h1

theorem RS_ints {a : Addr} {L C : Nat} {zs : List Int} (hL : L ≤ C) (hC : C ≤ maxLen) (hz : L ≤ zs.length) (hc : ∀ c, c < L → W.cell? (a.add c) = some (.int .i64 (zs.getD c 0))) : RS noF W (I (zs.take L)) (.slice (some a) L C) := by
  have hl : (I (zs.take L)).length = L := by simp [I]; omega
  refine ⟨some a, C, by rw [hl], by omega, by simp only [maxLen] at hC; omega, fun hp => ⟨a, rfl, fun h => h, fun j u hu => ?_⟩⟩
  obtain ⟨h1, h2, rfl⟩ := I_get hu
  exact hc j h1

theorem open_rows {fuel : Nat} {c : Value} {x : DataW H × List MemPlace} (h : DataW.trod enc Try.prog W base (fun _ => true) held fuel 22 [c] = some x) : ∃ t : List (List Int), LRel noI noF W (.rds (II t)) c ∧ Shorts t := by
  rcases Deep.open_int_rows Try.underlying22 Try.underlying39 Try.underlying2 (by kernel_rfl) (by kernel_rfl) h with ⟨h1, _⟩ | ⟨a, len, cap, A, L, C, Z, h1, _, hlc, hcm, _, hr⟩
  · simp only [List.cons.injEq, and_true] at h1
    subst h1
    exact ⟨[], by simp only [LRel]; exact ⟨[], RS_nil, rfl⟩, by simp [Shorts]⟩
  · simp only [List.cons.injEq, and_true] at h1
    subst h1
    have hcm' : cap ≤ 9223372036854775807 := by simpa [maxLen] using hcm
    refine ⟨(List.range len).map fun r => (Z r).take (L r), ?_, ?_⟩
    · simp only [LRel]
      refine ⟨(List.range len).map fun r => .slice (A r) (L r) (C r), ⟨some a, cap, by simp, by simpa using hlc, by simp; omega, fun hp => ⟨a, rfl, fun q => q, fun j u hu => ?_⟩⟩, ?_⟩
      · simp only [List.getElem?_map, Option.map_eq_some_iff] at hu
        obtain ⟨r, h2, rfl⟩ := hu
        obtain ⟨h3, h4⟩ := List.getElem?_eq_some_iff.1 h2
        simp at h3 h4
        subst h4
        exact (hr j (by omega)).1
      · have each : ∀ r, r < len → RS noF W (I ((Z r).take (L r))) (.slice (A r) (L r) (C r)) := fun r h => by
          obtain ⟨_, h2, h3, h4, _, h5, h6⟩ := hr r (by omega)
          cases hA : A r with
          | none =>
            have hc0 := h5 hA
            have : L r = 0 := by omega
            rw [this, hc0]
            simpa [I] using RS_nil
          | some a' => exact RS_ints h2 h3 (by omega) fun c hc => (h6 a' hA).2 c (by omega)
        have gen : ∀ (l : List Nat), (∀ r ∈ l, r < len) → RRow noF W (II (l.map fun r => (Z r).take (L r))) (l.map fun r => .slice (A r) (L r) (C r)) := by
          intro l
          induction l with
          | nil => intro _; rfl
          | cons r l ih => intro hl; exact ⟨_, _, rfl, each r (hl r (by simp)), ih fun q hq => hl q (by simp [hq])⟩
        exact gen _ fun r h => List.mem_range.1 h
    · refine ⟨by simp; omega, fun r h => ?_⟩
      simp at h
      have h2 := hr r (by omega)
      have h3 : C r ≤ 9223372036854775807 := by simpa [maxLen] using h2.2.2.1
      simp [List.getElem?_map, List.getElem?_range h]
      omega

/-- A group among the arguments. -/
theorem open_group {v : Value} {d : DataW H} {p : List MemPlace} (hval : Value.okWide Try.prog W .any base 24 v) (h : DataW.Trod enc Try.prog W 0 (fun _ => true) true 24 v d p) : ∃ t : List (List Int), LRel noI noF W (.agg [.rds (II t)]) v ∧ Shorts t := by
  obtain ⟨cs, rfl, hs⟩ := okWide_struct Try.underlying24 hval
  have hs' : cs.size = 1 := hs.trans (by kernel_rfl)
  obtain ⟨c, rfl⟩ : ∃ c, cs = #[c] := by
    match cs, hs' with
    | ⟨[c]⟩, _ => exact ⟨c, rfl⟩
  obtain ⟨fuel, h⟩ := h
  obtain ⟨y0, n, _, _, h1⟩ := trod_struct1 Try.underlying24 h
  have hc1 : Try.prog.cellsOf 22 = 1 := by kernel_rfl
  simp only [hc1] at h1
  obtain ⟨t, h2, h3⟩ := open_rows h1
  exact ⟨t, by simp only [LRel, LRels] at h2 ⊢; exact ⟨[c], rfl, c, [], rfl, h2, rfl⟩, h3⟩

theorem open_row1 {fuel : Nat} {c : Value} {x : DataW H × List MemPlace} (h : DataW.trod enc Try.prog W base (fun _ => true) held fuel 39 [c] = some x) : ∃ l : List Int, LRel noI noF W (.rd (I l)) c ∧ Short l := by
  rcases open_ints Try.underlying39 Try.underlying2 (by kernel_rfl) h with ⟨h1, _⟩ | ⟨a, len, cap, zs, h1, _, hlc, hcm, hz, _, hc, _⟩
  · simp only [List.cons.injEq, and_true] at h1
    subst h1
    exact ⟨[], by simp only [LRel]; exact RS_nil, by simp [Short]⟩
  · simp only [List.cons.injEq, and_true] at h1
    subst h1
    simp only [if_true] at hz
    have hcm' : cap ≤ 9223372036854775807 := by simpa [maxLen] using hcm
    exact ⟨zs.take len, by simp only [LRel]; exact RS_ints hlc hcm (by omega) fun c h => hc c (by omega), by simp only [Short, List.length_take]; omega⟩

/-- A list among the arguments. -/
theorem open_list {v : Value} {d : DataW H} {p : List MemPlace} (hval : Value.okWide Try.prog W .any base 39 v) (h : DataW.Trod enc Try.prog W 0 (fun _ => true) true 39 v d p) : ∃ l : List Int, LRel noI noF W (.rd (I l)) v ∧ Short l := by
  obtain ⟨fuel, h⟩ := h
  have hv : v.cells.toList = [v] := by
    simp only [Value.okWide, Try.underlying39, Cell.okWide] at hval
    cases v <;> simp_all [Cell.ok, Value.cells]
  rw [hv] at h
  exact open_row1 h

/-- A number among the arguments. -/
theorem open_num {v : Value} {d : DataW H} {p : List MemPlace} (hval : Value.okWide Try.prog W .any base 2 v) (h : DataW.Trod enc Try.prog W 0 (fun _ => true) true 2 v d p) : ∃ n : Int, v = .int .i64 n ∧ InR n := by
  obtain ⟨n, rfl, hn⟩ := ChangeShapes.open_int Try.underlying2 hval h
  have hw := hn.2.2
  simp only [Lit.wf, Bool.and_eq_true, decide_eq_true_eq, IntKind.has] at hw
  exact ⟨n, rfl, hw⟩

/-- A string among the arguments. -/
theorem open_text {v : Value} {d : DataW H} {p : List MemPlace} (hval : Value.okWide Try.prog W .any base 9 v) (h : DataW.Trod enc Try.prog W 0 (fun _ => true) true 9 v d p) : ∃ s : ByteArray, v = .string s ∧ s.size ≤ maxLen := by
  obtain ⟨s, rfl⟩ := okWide_string Try.underlying9 hval
  obtain ⟨fuel, h⟩ := h
  obtain ⟨s', hs, _, hw⟩ := DataW.trod_string Try.underlying9 h
  cases hs
  exact ⟨s, rfl, hw⟩

theorem trodAll_five {P : Program} {w : World} {bs : Nat} {spare : Nat → Bool} {hl : Bool} {t0 t1 t2 t3 t4 : TypeId} {args : Array Value} {ds : List (DataW H)} {ps : List MemPlace} (h : DataW.TrodAll enc P w bs spare hl [t0, t1, t2, t3, t4] args.toList ds ps) :
    ∃ v0 v1 v2 v3 v4 d0 d1 d2 d3 d4 p0 p1 p2 p3 p4, args = #[v0, v1, v2, v3, v4] ∧ ds = [d0, d1, d2, d3, d4] ∧ ps = p0 ++ p1 ++ p2 ++ p3 ++ p4 ∧ DataW.Trod enc P w bs spare hl t0 v0 d0 p0 ∧ DataW.Trod enc P w bs spare hl t1 v1 d1 p1 ∧ DataW.Trod enc P w bs spare hl t2 v2 d2 p2 ∧ DataW.Trod enc P w bs spare hl t3 v3 d3 p3 ∧ DataW.Trod enc P w bs spare hl t4 v4 d4 p4 := by
  obtain ⟨v0, vs0, d0, ds0, p0, q0, hargs, rfl, rfl, hd0, hr0⟩ := trodAll_cons h
  obtain ⟨v1, vs1, d1, ds1, p1, q1, rfl, rfl, rfl, hd1, hr1⟩ := trodAll_cons hr0
  obtain ⟨v2, vs2, d2, ds2, p2, q2, rfl, rfl, rfl, hd2, hr2⟩ := trodAll_cons hr1
  obtain ⟨v3, vs3, d3, ds3, p3, q3, rfl, rfl, rfl, hd3, hr3⟩ := trodAll_cons hr2
  obtain ⟨v4, vs4, d4, ds4, p4, q4, rfl, rfl, rfl, hd4, hr4⟩ := trodAll_cons hr3
  obtain ⟨rfl, rfl, rfl⟩ := trodAll_nil hr4
  exact ⟨v0, v1, v2, v3, v4, d0, d1, d2, d3, d4, p0, p1, p2, p3, p4, by cases args; simp_all, rfl, by simp, hd0, hd1, hd2, hd3, hd4⟩

theorem TrodAll_stays {W' : World} (hb : Below W.heap.size W W') : ∀ {ts : List TypeId} {vs : List Value} {ds : List (DataW H)} {ps : List MemPlace}, DataW.TrodAll enc Try.prog W 0 (fun _ => true) true ts vs ds ps →
    (∀ t ∈ ts, Try.prog.readableRec t = true ∧ t < Try.prog.types.size) → (∀ x ∈ ps, x.block < W.heap.size) → DataW.TrodAll enc Try.prog W' 0 (fun b => decide (b < W.heap.size)) true ts vs ds ps
  | [], [], [], _, h, _, _ => h
  | t :: ts, v :: vs, d :: ds, ps, ⟨p, q, h1, h2, h3⟩, ht, hlt => by
    subst h3
    exact ⟨p, q, Below.trod (by kernel_rfl) (ht t (by simp)).1 (ht t (by simp)).2 h1 hb (fun x hx => hlt x (by simp [hx])), TrodAll_stays hb h2 (fun t h => ht t (by simp [h])) (fun x hx => hlt x (by simp [hx])), rfl⟩
  | [], [], _ :: _, _, h, _, _ => h.elim
  | [], _ :: _, _, _, h, _, _ => h.elim
  | _ :: _, [], _, _, h, _, _ => h.elim
  | _ :: _, _ :: _, [], _, h, _, _ => h.elim

/-- What a law hands back: true, and its input as it was. -/
theorem law_post {fn : Func} {s : ChangeSpec} {W' : World} {args : Array Value} {ds gs : List (DataW H)} {before : List MemPlace} (hvars : s.vars = []) (hr : fn.resultTypes = #[4]) (hts : ∀ t ∈ fn.params.toList, Try.prog.readableRec t = true ∧ t < Try.prog.types.size)
    (hs : s.fn H (ds ++ gs) = { results := [.lit (.bool true)], args := ds }) (hW : DataW.Whole enc Try.prog fn.params.toList s.vars false W args.toList ds gs before) (hb : Below W.heap.size W W') : s.post enc Try.prog fn false true false false W args (.bool true) W' := by
  have hW' := hW
  obtain ⟨p, q, hA, hV, rfl, hfz, hnd⟩ := hW
  refine ⟨ds, gs, _, [], p, [], hW', ?_, ?_, ?_, hb.frame _, fun h => by cases h⟩
  · rw [hs, hr]; exact trodAll_mk1 (shut_bool Try.underlying4 _)
  · rw [hs]; exact TrodAll_stays hb hA hts fun x hx => hW'.lt x (by simp [hx])
  · rw [hs, hvars]; rfl

/-- A law's answer out of its contract. -/
theorem law_calls {f : Nat} {args : List LV} {ys : List Value} (h : Spec Try.prog f args (.v (.bool true)) []) (hy : LRels noI noF W args ys) : Calls Try.prog f (List.toArray ys) W fun e W' => e = .returned (.bool true) ∧ Below W.heap.size W W' := by
  refine (h.run W ys hy).mono ?_
  rintro e W' ⟨v, ι, fp, rfl, hI⟩
  have h0 := hI.fr 0
  simp only [mkF, if_true, LRel] at h0
  subst h0
  exact ⟨rfl, hI.bel.toBelow⟩
theorem own : ownKnob Try.prog.godebug = none := by kernel_rfl
end
end Go.Proofs.Ytipdgkohfmpilaa
