/- A calculus of verification conditions over logical values: what is behind a loop, or behind a piece of code, shown once. -/
import Derived.Test.YtcjhojdlfnpgjaaGreatDoorVh
namespace Go.Proofs.YtcjhojdlfnpgjaaGreatDoor
open Go.RowKit
set_option linter.unusedVariables false
set_option linter.unusedSimpArgs false
set_option maxRecDepth 100000

/-- What is behind a loop is shown once, whichever way the loop is left. -/
theorem HereV.cut {P : Program} {T : TT} (hT : T.Ok P) {n : Nat} {c rest : Code} {s : St} {id : Nat} {K : Kont} {ε : Type} (J : ε → Prop) (ev : ε → List (Nat × LV)) (eo : ε → List (Nat × OC))
    (h : HereV P T n c s (.blk id (.back (fun s' => ∃ e, J e ∧ LeF s'.lf (ev e) ∧ LeO s'.σ (eo e)) K))) (hr : ∀ e, J e → CodeV P T n rest (mkS (ev e) (eo e)) K) : HereV P T n c s (.blk id (.seq rest K)) := by
  intro hc hk
  simp only [okK, Bool.and_eq_true] at hk
  have hN : ∀ s', (∃ e, J e ∧ LeF s'.lf (ev e) ∧ LeO s'.σ (eo e)) → CodeT P n rest s' (KN P n K).1 (KN P n K).2.1 (KN P n K).2.2 := by
    rintro s' ⟨e, hJ, h1, h2⟩
    have := CodeV_sound hT hk.1 hk.2 (hr e hJ)
    intro w0 w ι fp f a hf hI
    exact this w0 w ι fp f a hf (hI.le (.mk' h1 h2))
  refine CodeT.mono (h hc hk.2) hN (fun j s' q => ?_) (fun _ q => q)
  simp only [KN] at q ⊢
  unfold inX at q ⊢
  split
  · rename_i e; rw [if_pos e] at q; exact hN _ q
  · rename_i e; rw [if_neg e] at q; exact q
theorem Here.loopH {P : Program} {T : TT} {n : Nat} {c : Code} {s : St} {K : Kont} {κ : Type} (G : κ → Prop) (μ : κ → Nat) (L : κ → List (Nat × LV)) (O : κ → List (Nat × OC)) (k0 : κ) (h0 : G k0) (hL : LeF s.lf (L k0)) (hO : LeO s.σ (O k0))
    (round : ∀ k, G k → HereV P T n c (mkS (L k) (O k)) (.back (fun s' => ∃ k', G k' ∧ μ k' < μ k ∧ LeF s'.lf (L k') ∧ LeO s'.σ (O k')) K)) : HereV P T n (.loop c) s K :=
  fun hc hk => Here.loop G μ L O k0 h0 hL hO fun k hk' => round k hk' hc hk
theorem HereV.of {P : Program} {T : TT} (hT : T.Ok P) {n : Nat} {c : Code} {s : St} {K : Kont} (h : CodeV P T n c s K) : HereV P T n c s K := fun hc hk => CodeV_sound hT hc hk h
theorem HereV.block {P : Program} {T : TT} {n id : Nat} {c : Code} {s : St} {K : Kont} (h : HereV P T n c s (.blk id K)) : HereV P T n (.block id c) s K := fun hc hk => CodeT.block (h hc hk)
/-- What is behind a piece of code is shown once, whichever way the piece comes to its end. -/
theorem HereV.cutSeq {P : Program} {T : TT} {n : Nat} {A B : Code} {s : St} {K : Kont} {ε : Type} (J : ε → Prop) (ev : ε → List (Nat × LV)) (eo : ε → List (Nat × OC))
    (h : HereV P T n A s (.back (fun s' => ∃ e, J e ∧ LeF s'.lf (ev e) ∧ LeO s'.σ (eo e)) K)) (hr : ∀ e, J e → HereV P T n B (mkS (ev e) (eo e)) K) : HereV P T n (.seq A B) s K := by
  intro hc hk
  simp only [okC, Bool.and_eq_true] at hc
  refine CodeT.seq (CodeT.mono (h hc.1 hk) ?_ (fun _ _ q => q) (fun _ q => q))
  rintro s' ⟨e, hJ, h1, h2⟩
  exact CodeT.le (.mk' h1 h2) (hr e hJ hc.2 hk)
end Go.Proofs.YtcjhojdlfnpgjaaGreatDoor
