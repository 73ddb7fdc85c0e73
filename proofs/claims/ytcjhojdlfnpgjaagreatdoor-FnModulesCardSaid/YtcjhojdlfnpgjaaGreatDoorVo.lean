/- What the arguments of a law are: groups, modules, lists, numbers and texts that are only read. -/
import Derived.Test.YtcjhojdlfnpgjaaGreatDoorVh
import Derived.Test.YtcjhojdlfnpgjaaGreatDoorVz
import Derived.ProofKit
import Derived.OpenShut
import Derived.ShutString
import Derived.ChangeOld
import Derived.SizedLaws
import Derived.ChangeSame
import Derived.Deep.Matrix
import Derived.Test.YtcjhojdlfnpgjaaGreatDoorRows
namespace Go.Proofs.YtcjhojdlfnpgjaaGreatDoor
open Go.RowKit Go.ChangeShapes Go.WideShapes Go.ChangeAt
set_option linter.unusedVariables false
set_option linter.unusedSimpArgs false
set_option maxRecDepth 100000

/-- No longer than any list is. -/
def Short (l : List Int) : Prop := (l.length : Int) ≤ 9223372036854775807
def Shorts (t : List (List Int)) : Prop := (t.length : Int) ≤ 9223372036854775807 ∧ ∀ a, a < t.length → ((t.getD a []).length : Int) ≤ 9223372036854775807

section
variable {H : Type} {enc : TypeId × Value → H} {W : World} {base : Nat} {held : Bool}

theorem RS_nil : RS noF W [] (.slice none 0 0) := ⟨none, 0, rfl, Nat.le_refl _, by simp, fun h => by simp at h⟩
theorem TrodAll_stays {W' : World} (hb : Below W.heap.size W W') : ∀ {ts : List TypeId} {vs : List Value} {ds : List (DataW H)} {ps : List MemPlace}, DataW.TrodAll enc Tryz.prog W 0 (fun _ => true) true ts vs ds ps →
    (∀ t ∈ ts, Tryz.prog.readableRec t = true ∧ t < Tryz.prog.types.size) → (∀ x ∈ ps, x.block < W.heap.size) → DataW.TrodAll enc Tryz.prog W' 0 (fun b => decide (b < W.heap.size)) true ts vs ds ps
  | [], [], [], _, h, _, _ => h
  | t :: ts, v :: vs, d :: ds, ps, ⟨p, q, h1, h2, h3⟩, ht, hlt => by
    subst h3
    exact ⟨p, q, Below.trod (by kernel_rfl) (ht t (by simp)).1 (ht t (by simp)).2 h1 hb (fun x hx => hlt x (by simp [hx])), TrodAll_stays hb h2 (fun t h => ht t (by simp [h])) (fun x hx => hlt x (by simp [hx])), rfl⟩
  | [], [], _ :: _, _, h, _, _ => h.elim
  | [], _ :: _, _, _, h, _, _ => h.elim
  | _ :: _, [], _, _, h, _, _ => h.elim
  | _ :: _, _ :: _, [], _, h, _, _ => h.elim

/-- What a law hands back: true, and its input as it was. -/
theorem law_post {fn : Func} {s : ChangeSpec} {W' : World} {args : Array Value} {ds gs : List (DataW H)} {before : List MemPlace} (hvars : s.vars = []) (hr : fn.resultTypes = #[4]) (hts : ∀ t ∈ fn.params.toList, Tryz.prog.readableRec t = true ∧ t < Tryz.prog.types.size)
    (hs : s.fn H (ds ++ gs) = { results := [.lit (.bool true)], args := ds }) (hW : DataW.Whole enc Tryz.prog fn.params.toList s.vars false W args.toList ds gs before) (hb : Below W.heap.size W W') : s.post enc Tryz.prog fn false true false false W args (.bool true) W' := by
  have hW' := hW
  obtain ⟨p, q, hA, hV, rfl, hfz, hnd⟩ := hW
  refine ⟨ds, gs, _, [], p, [], hW', ?_, ?_, ?_, hb.frame _, fun h => by cases h⟩
  · rw [hs, hr]; exact trodAll_mk1 (shut_bool Tryz.underlying4 _)
  · rw [hs]; exact TrodAll_stays hb hA hts fun x hx => hW'.lt x (by simp [hx])
  · rw [hs, hvars]; rfl

/-- A law's answer out of its contract. -/
theorem law_calls {f : Nat} {args : List LV} {ys : List Value} (h : Spec Tryz.prog f args (.v (.bool true)) []) (hy : LRels noI noF W args ys) : Calls Tryz.prog f (List.toArray ys) W fun e W' => e = .returned (.bool true) ∧ Below W.heap.size W W' := by
  refine (h.run W ys hy).mono ?_
  rintro e W' ⟨v, ι, fp, rfl, hI⟩
  have h0 := hI.fr 0
  simp only [mkF, if_true, LRel] at h0
  subst h0
  exact ⟨rfl, hI.bel.toBelow⟩
theorem own : ownKnob Tryz.prog.godebug = none := by kernel_rfl
end
end Go.Proofs.YtcjhojdlfnpgjaaGreatDoor
