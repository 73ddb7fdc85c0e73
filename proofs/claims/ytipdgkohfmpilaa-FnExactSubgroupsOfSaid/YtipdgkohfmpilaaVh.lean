/- A calculus of verification conditions over logical values: loops; rows of whole numbers. -/
import Derived.Test.YtipdgkohfmpilaaVt
import Derived.Test.YtipdgkohfmpilaaVy
namespace Go.Proofs.Ytipdgkohfmpilaa
open Go.RowKit
set_option linter.unusedVariables false
set_option linter.unusedSimpArgs false

def LeF (f : Nat → LV) : List (Nat × LV) → Prop
  | [] => True
  | (i, x) :: l => f i = x ∧ LeF f l
def LeO (f : Nat → Option OC) : List (Nat × OC) → Prop
  | [] => True
  | (i, x) :: l => f i = some x ∧ LeO f l

theorem mkF_le {f : Nat → LV} : ∀ {L : List (Nat × LV)}, LeF f L → ∀ i, mkF L i = .junk ∨ mkF L i = f i
  | [], _, _ => .inl rfl
  | (j, x) :: l, h, i => by
    unfold mkF
    by_cases e : i = j
    · rw [if_pos e]; subst e; exact .inr h.1.symm
    · rw [if_neg e]; exact mkF_le h.2 i
theorem mkO_le {f : Nat → Option OC} : ∀ {L : List (Nat × OC)}, LeO f L → ∀ i, mkO L i = none ∨ mkO L i = f i
  | [], _, _ => .inl rfl
  | (j, x) :: l, h, i => by
    unfold mkO
    by_cases e : i = j
    · rw [if_pos e]; subst e; exact .inr h.1.symm
    · rw [if_neg e]; exact mkO_le h.2 i
theorem Le.mk' {s : St} {L : List (Nat × LV)} {O : List (Nat × OC)} (h : LeF s.lf L) (h2 : LeO s.σ O) : Le s (mkS L O) := ⟨mkF_le h, mkO_le h2⟩

theorem Here.loop {P : Program} {n : Nat} {c : Code} {s : St} {K : Kont} {κ : Type} (G : κ → Prop) (μ : κ → Nat) (L : κ → List (Nat × LV)) (O : κ → List (Nat × OC)) (k0 : κ) (h0 : G k0) (hL : LeF s.lf (L k0)) (hO : LeO s.σ (O k0))
    (round : ∀ k, G k → Here P n c (mkS (L k) (O k)) (.back (fun s' => ∃ k', G k' ∧ μ k' < μ k ∧ LeF s'.lf (L k') ∧ LeO s'.σ (O k')) K)) : Here P n (.loop c) s K := by
  refine CodeT.loop (fun m s => ∃ k, G k ∧ m = μ k ∧ s = mkS (L k) (O k)) (μ k0) ⟨_, .mk' hL hO, k0, h0, rfl, rfl⟩ ?_
  rintro m s ⟨k, hk, rfl, rfl⟩
  exact (round k hk).mono (fun s' ⟨k', h1, h2, h3, h4⟩ => ⟨_, _, h2, .mk' h3 h4, k', h1, rfl, rfl⟩) (fun _ _ h => h) (fun _ h => h)

theorem Here.loopV {P : Program} {T : TT} (hT : T.Ok P) {n : Nat} {c : Code} {s : St} {K : Kont} {κ : Type} (G : κ → Prop) (μ : κ → Nat) (L : κ → List (Nat × LV)) (O : κ → List (Nat × OC)) (k0 : κ) (h0 : G k0) (hL : LeF s.lf (L k0)) (hO : LeO s.σ (O k0))
    (round : ∀ k, G k → CodeV P T n c (mkS (L k) (O k)) (.back (fun s' => ∃ k', G k' ∧ μ k' < μ k ∧ LeF s'.lf (L k') ∧ LeO s'.σ (O k')) K)) : HereV P T n (.loop c) s K :=
  fun hc hk => Here.loop G μ L O k0 h0 hL hO fun k hk' => CodeV_sound hT hc hk (round k hk')

theorem RetT_nil {T : TT} {results : Array ResultVar} {r : LV} {s : St} : RetT T results r [] s = (match resLs T s results.toList with | some rs => tupL rs = ren (fun _ => 0) r | none => False) := by
  apply propext
  constructor
  · rintro ⟨rs, ms, h1, h2, h3, _, _⟩
    have : ms = [] := List.eq_nil_of_length_eq_zero (by simpa using h3)
    subst this
    rw [h1]
    simpa using h2
  · intro h
    split at h
    · rename_i rs hr
      exact .plain hr h
    · exact h.elim
theorem itt (p : Prop) : (true = true → p) = p := by simp
theorem iff' (p : Prop) : (false = false → p) = p := by simp
theorem itf (p : Prop) : (true = false → p) = True := by simp
theorem ift (p : Prop) : (false = true → p) = True := by simp
theorem intt (p : Prop) : (true = !true → p) = True := by simp
theorem inft (p : Prop) : (false = !true → p) = p := by simp
theorem intf (p : Prop) : (true = !false → p) = p := by simp
theorem inff (p : Prop) : (false = !false → p) = True := by simp
theorem ntt (p : Prop) : ((!true) = true → p) = True := by simp
theorem nft (p : Prop) : ((!false) = true → p) = p := by simp
theorem ntf (p : Prop) : ((!true) = false → p) = p := by simp
theorem nff (p : Prop) : ((!false) = false → p) = True := by simp
theorem eqT (x y : Bool) (p : Prop) : ((x == y) = true → p) = (x = y → p) := by simp
theorem DrawV_nil {P : Program} {T : TT} {n : Nat} {all : Array Oper} {s : St} {k : Kont} : DrawV P T n all [] s k = Norm P T n k s := by rw [DrawV]
/-- The walk stands at an operation of such a region till a law of its own serves. -/
def HereD (P : Program) (T : TT) (n : Nat) (all : Array Oper) (o : Oper) (l : List Oper) (s s' : St) (k : Kont) : Prop := ∃ r, OpP P o (evL s) s.σ r ∧ DrawV P T n all l (s'.put o.dst r) k
theorem DrawV_cons {P : Program} {T : TT} {n : Nat} {all : Array Oper} {o : Oper} {l : List Oper} {s : St} {k : Kont} : DrawV P T n all (o :: l) s k = match o.guard with
    | none => match opE T o.op (evL s) s.σ with
      | .val p r => p ∧ DrawV P T n all l (s.put o.dst r) k
      | .two t a b => (t = true → DrawV P T n all l (s.put o.dst a) k) ∧ (t = false → DrawV P T n all l (s.put o.dst b) k)
      | .hard => HereD P T n all o l s s k
      | .bad => False
    | some (j, want) => match s.lf (slotOf all j) with
      | .v (.bool t) => (t = want → match opE T o.op (evL s) s.σ with
          | .val p r => p ∧ DrawV P T n all l ((s.gput (slotOf all j) want).put o.dst r) k
          | .two t' a b => (t' = true → DrawV P T n all l ((s.gput (slotOf all j) want).put o.dst a) k) ∧ (t' = false → DrawV P T n all l ((s.gput (slotOf all j) want).put o.dst b) k)
          | .hard => HereD P T n all o l s (s.gput (slotOf all j) want) k
          | .bad => False) ∧
          (t = !want → DrawV P T n all l ((s.gput (slotOf all j) (!want)).put o.dst (.v undef)) k)
      | x => undefLike x = true ∧ DrawV P T n all l (s.put o.dst (.v undef)) k := by rw [DrawV]; rfl
theorem OpP.call' {P : Program} {o : Oper} {ρ : Operand → LV} {σ : Nat → Option OC} {fo : Operand} {xs : Array Operand} {ts : Array TypeId} {g : Nat} {caps : List LV} {args : List LV} {r : LV} {os : List OC} (ho : o.op = .call { callee := .value fo, args := xs, argTypes := ts })
    (hf : ρ fo = .fn g caps) (hs : Spec P g args r os) (ha : closeBs σ (xs.toList.map ρ ++ caps) = args) (hp : plainL r = true) : OpP P o ρ σ (closeA (osF os) r) := OpP.call ho hf (by rw [ha]; exact hs) hp
theorem tImp (p : Prop) : (True → p) = p := by simp
theorem nTf (p : Prop) : (¬True → p) = True := by simp
theorem fImp (p : Prop) : (False → p) = True := by simp
theorem nFt (p : Prop) : (¬False → p) = p := by simp
theorem tt : decide True = true := rfl
def I (xs : List Int) : List Value := xs.map (Value.int .i64)
def II (t : List (List Int)) : List (List Value) := t.map I
theorem I_len (xs : List Int) : (I xs).length = xs.length := by simp [I]
theorem II_len (t : List (List Int)) : (II t).length = t.length := by simp [II]
theorem dvI (xs : List Int) (n : Nat) : dv (I xs) n = .int .i64 (xs.getD n 0) := by
  simp only [dv, I, List.getD_eq_getElem?_getD, List.getElem?_map]
  cases xs[n]? <;> rfl
theorem II_get (t : List (List Int)) (n : Nat) : (II t).getD n [] = I (t.getD n []) := by
  simp only [II, List.getD_eq_getElem?_getD, List.getElem?_map]
  cases t[n]? <;> rfl

theorem RetT.none {T : TT} {results : Array ResultVar} {r : LV} {s : St} {rs : List LV} (h : resLs T s results.toList = some rs) (h2 : tupL rs = ren (fun i => [].getD i 0) r) : RetT T results r [] s :=
  ⟨rs, [], h, h2, rfl, List.nodup_nil, fun i oc hi => by simp at hi⟩
theorem RetT.one {T : TT} {results : Array ResultVar} {r : LV} {s : St} {rs : List LV} {oc : OC} (m : Nat) (h : resLs T s results.toList = some rs) (h2 : tupL rs = ren (fun i => [m].getD i 0) r) (h3 : s.σ m = some oc) : RetT T results r [oc] s :=
  ⟨rs, [m], h, h2, rfl, by simp, fun i oc' hi => by
    cases i with
    | zero => simp at hi; subst hi; simpa using h3
    | succ i => simp at hi⟩
theorem I_one (xs : List Int) : ∀ u ∈ I xs, u.oneCell' = true := by
  intro u hu
  simp only [I, List.mem_map] at hu
  obtain ⟨x, _, rfl⟩ := hu
  rfl
theorem I_all (xs : List Int) : (I xs).all (·.oneCell') = true := List.all_eq_true.2 (I_one xs)
theorem I_append (xs ys : List Int) : I xs ++ I ys = I (xs ++ ys) := by simp [I]
theorem I_set (xs : List Int) (i : Nat) (x : Int) : (I xs).set i (.int .i64 x) = I (xs.set i x) := by simp [I, List.map_set]
theorem I_rep (n : Nat) (x : Int) : List.replicate n (Value.int .i64 x) = I (List.replicate n x) := by simp [I]
theorem II_append (t : List (List Int)) (r : List Int) : II t ++ [I r] = II (t ++ [r]) := by simp [II]
theorem II_set (t : List (List Int)) (i : Nat) (r : List Int) : (II t).set i (I r) = II (t.set i r) := by simp [II, List.map_set]
theorem II_rep (n : Nat) (r : List Int) : List.replicate n (I r) = II (List.replicate n r) := by simp [II]
theorem I_nil : I [] = [] := rfl
theorem II_nil : II [] = [] := rfl
theorem I_cons (x : Int) (xs : List Int) : I (x :: xs) = .int .i64 x :: I xs := rfl
theorem built_28 : BuiltAt Try.prog 28 [.slice none 0 0] := ⟨fun i => (#[(0, 1)] : Array (Nat × Nat))[i]?, fun i hi => by
  match i, hi with
  | 0, _ => rfl, fun parts => by kernel_rfl⟩
theorem built_24 : BuiltAt Try.prog 24 [.slice none 0 0] := ⟨fun i => (#[(0, 1)] : Array (Nat × Nat))[i]?, fun i hi => by
  match i, hi with
  | 0, _ => rfl, fun parts => by kernel_rfl⟩
/-! ### The conditions' words, told to the kit's set -/
attribute [go_sem] toA toAs List.take_succ_cons List.take_zero List.drop_succ_cons List.drop_zero Bool.or_eq_true or_self flat Bool.or_false Bool.false_or Bool.or_true Bool.true_or setAll T_sl Option.bind_some Option.bind_none DrawM_nil DrawM_cons okR inP bornL_t bornL_f ment ments St.lates St.late or_true true_or St.turn nilSub nilSubs isNil osO ghO ownLV List.any_cons List.any_nil Option.join_some Option.join_none St.back toM toMs posOf idM St.shut tImp nTf fImp nFt undef eq_self List.set_cons_zero List.set_cons_succ List.length_set Value.cells List.toList_toArray List.map_cons List.map_nil St.take isShift shift decide_true decide_false and_false false_and Bool.and_true Bool.true_and Bool.and_false Bool.false_and List.size_toArray beq_self_eq_true DrawV_nil DrawV_cons St.gput Bool.not_eq_true' Bool.not_eq_false' Int.toNat_zero List.length_cons List.length_nil Nat.zero_add closeA closeAs closeB closeBs osF List.getElem?_nil beq_eq_false_iff_ne ne_eq bne_iff_ne bne_eq_false_iff_eq Decidable.not_not Bool.not_true Bool.not_false RetT_nil resLs resL tupL ren rens renO toMO T_sc List.head?_cons LV.v.injEq LV.agg.injEq LV.tup.injEq LV.own.injEq LV.rd.injEq LV.rds.injEq LV.box.injEq List.cons.injEq Value.int.injEq Value.bool.injEq Value.string.injEq CodeV OpsV Norm exitK retK opE evL updL St.put mkE entry slotOf undefLike Option.bind_some Option.getD_some BinE T_ag T_ik T_bo T_zr T_el T_ea Bool.false_eq_true LeF LeO mkS mkF mkO St.fresh St.turn St.set kill kills killO zlv beq_iff_eq Option.map_some Option.map_none or_false false_or and_true dvI II_get I_len II_len Int.toNat_natCast decide_eq_true_eq decide_eq_false_iff_not ge_iff_le gt_iff_lt List.getElem?_toArray List.getElem?_cons_zero List.getElem?_cons_succ true_and List.cons_append List.nil_append List.append_nil List.getD_cons_zero
attribute [go_sem ↓] St.gput_same itt iff' itf ift intt inft intf inff ntt nft ntf nff
end Go.Proofs.Ytipdgkohfmpilaa
