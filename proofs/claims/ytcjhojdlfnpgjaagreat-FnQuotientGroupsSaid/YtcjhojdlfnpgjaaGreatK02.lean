/- A calculus of verification conditions over logical values: conditions of lists of operations and of code; calls by contract; a function's contract out of its body. -/
import Derived.Test.YtcjhojdlfnpgjaaGreatK01
set_option linter.unusedVariables false
set_option linter.unusedSimpArgs false
set_option maxRecDepth 100000
namespace Go.Proofs.YtcjhojdlfnpgjaaGreat
open Go.RowKit
def undefLike : LV → Bool
  | .v (.tuple a) => a.size == 0
  | _ => false
def ownLV : LV → Bool
  | .own _ => true
  | _ => false
inductive OpRes where
  | val (p : Prop) (r : LV)
  | two (t : Bool) (r1 r2 : LV)
  | hard
  | bad
def BinE (T : TT) (t : Nat) : BinOp → Value → Value → OpRes
  | .add, .int .i64 a, .int .i64 b => .val (InR (a + b)) (.v (.int .i64 (a + b)))
  | .sub, .int .i64 a, .int .i64 b => .val (InR (a - b)) (.v (.int .i64 (a - b)))
  | .mul, .int .i64 a, .int .i64 b => .val (InR (a * b)) (.v (.int .i64 (a * b)))
  | .quo, .int .i64 a, .int .i64 b => .val (b ≠ 0 ∧ InR (a.tdiv b)) (.v (.int .i64 (a.tdiv b)))
  | .rem, .int .i64 a, .int .i64 b => .val (b ≠ 0) (.v (.int .i64 (a.tmod b)))
  | .add, .int .u64 a, .int .u64 b => .val (True) (.v (.int .u64 (IntKind.u64.wrap (a + b))))
  | .mul, .int .u64 a, .int .u64 b => .val (True) (.v (.int .u64 (IntKind.u64.wrap (a * b))))
  | .sub, .int .u8 a, .int .u8 b => .val (True) (.v (.int .u8 (IntKind.u8.wrap (a - b))))
  | .sub, .int .u64 a, .int .u64 b => .val (True) (.v (.int .u64 (IntKind.u64.wrap (a - b))))
  | .add, .int .u8 a, .int .u8 b => .val (True) (.v (.int .u8 (IntKind.u8.wrap (a + b))))
  | .eql, .int k a, .int k' b => .val (k = k') (.v (.bool (a == b)))
  | .neq, .int k a, .int k' b => .val (k = k') (.v (.bool (a != b)))
  | .lss, .int k a, .int k' b => .val (k = k') (.v (.bool (decide (a < b))))
  | .leq, .int k a, .int k' b => .val (k = k') (.v (.bool (decide (a ≤ b))))
  | .gtr, .int k a, .int k' b => .val (k = k') (.v (.bool (decide (a > b))))
  | .geq, .int k a, .int k' b => .val (k = k') (.v (.bool (decide (a ≥ b))))
  | .eql, .string a, .string b => .val (True) (.v (.bool (a.toList == b.toList)))
  | .neq, .string a, .string b => .val (True) (.v (.bool (!(a.toList == b.toList))))
  | .eql, .bool a, .bool b => .val (T.bo t = true) (.v (.bool (a == b)))
  | .neq, .bool a, .bool b => .val (T.bo t = true) (.v (.bool (!(a == b))))
  | .and, .int k a, .int k' b => .val (k = k') (.v (.int k (andV k a b)))
  | .or, .int k a, .int k' b => .val (k = k') (.v (.int k (orV k a b)))
  | .xor, .int k a, .int k' b => .val (k = k') (.v (.int k (xorV k a b)))
  | .shl, .int k a, .int _ b => .val (0 ≤ b) (.v (.int k (shlV k a b)))
  | .shr, .int k a, .int _ b => .val (0 ≤ b) (.v (.int k (shrV k a b)))
  | .add, .string a, .string b => .val (a.size + b.size ≤ 9223372036854775807) (.v (.string (a ++ b)))
  | .eql, .slice _ _ _, .slice _ _ _ => .hard
  | _, _, _ => .bad
def opE (T : TT) (o : Op) (ρ : Operand → LV) (σ : Nat → Option OC) : OpRes :=
  match o with
  | .move x | .assign x => .val True (ρ x)
  | .pick c a b => match ρ c with
    | .v (.bool t) => .two t (ρ a) (ρ b)
    | _ => .bad
  | .binOp b t x y _ => match ρ x, ρ y with
    | .v x, .v y => BinE T t b x y
    | _, _ => OpRes.hard
  | .unOp .not _ x => match ρ x with
    | .v (.bool t) => .val (True) (.v (.bool !t))
    | _ => .bad
  | .unOp .neg _ x => match ρ x with
    | .v (.int .i64 a) => .val (InR (0 - a)) (.v (.int .i64 (0 - a)))
    | _ => .bad
  | .extract x j => match ρ x with
    | .tup l => match l[j]? with | some y => .val True y | none => .bad
    | _ => .bad
  | .box _ x => match ρ x with
    | .agg l => if l.any ownLV = true then .hard else .val (True) (.box l)
    | .v (.int k a) => .val (True) (.box [.v (.int k a)])
    | .v (.string a) => .val (True) (.box [.v (.string a)])
    | .rd a => .val (True) (.box [.rd a])
    | .rds a => .val (True) (.box [.rds a])
    | .rdL a => .val (True) (.box [.rdL a])
    | .fn g c => .val (True) (.box [.fn g c])
    | _ => .bad
  | .load t x => match ρ x with
    | .pc y => match T.ag t with | none => .val True y | some k => .val (k = 1) (.agg [y])
    | .box l => match T.ag t with
      | some k => .val (l.length = k) (.agg l)
      | none => match l with
        | y :: _ => .val (True) y
        | [] => .bad
    | .ptr id off => match σ id with
      | some (.cells _ l) => match T.ag t with
        | some k => .val (off = 0 ∧ l.length = k) (.agg l)
        | none => match l[off]? with
          | some y => .val (True) y
          | none => .bad
      | _ => .bad
    | .pe id i => match σ id with
      | some (.row _ vs) => match T.ag t with | none => .val (i < vs.length) (.v (dv vs i)) | some _ => .hard
      | some (.rows _ _ _) => .hard
      | some (.cust _ _ _) => .hard
      | _ => .bad
    | _ => OpRes.hard
  | .fieldAddr _ x o => match ρ x with
      | .box l => match l[o]? with | some y => .val True (.pc y) | none => .bad
      | .ptr id off => .val (True) (.ptr id (off + o))
      | .pe _ _ => .hard
      | _ => .bad
  | .nilCheck x => match ρ x with
    | .ptr id off => .val True (.ptr id off)
    | _ => OpRes.hard
  | .indexAddr t x i => match T.sl t, ρ i with
    | some _, .v (.int _ i) => match ρ x with
      | .rd vs => .val (0 ≤ i ∧ i < (vs.length : Int)) (.pc (.v (dv vs i.toNat)))
      | .rds vs => .val (0 ≤ i ∧ i < (vs.length : Int)) (.pc (.rd (vs.getD i.toNat [])))
      | .rdL vs => .val (0 ≤ i ∧ i < (vs.length : Int)) (.pc (vs.getD i.toNat .junk))
      | .own id => match σ id with
        | some (.row _ vs) => .val (0 ≤ i ∧ i < (vs.length : Int)) (.pe id i.toNat)
        | some (.rows _ _ vs) => .val (0 ≤ i ∧ i < (vs.length : Int)) (.pe id i.toNat)
        | some (.cust _ _ _) => .hard
        | some (.ghost _) => .hard
        | some (.hole _ _ _ _ _) => .hard
        | _ => .bad
      | _ => OpRes.hard
    | _, _ => OpRes.hard
  | .convert a t x => match T.ik a, T.ik t, ρ x with
    | some _, some .i64, .v (.int _ n) => .val (InR n) (.v (.int .i64 n))
    | some _, some k, .v (.int _ n) => .val (True) (.v (.int k (k.wrap n)))
    | _, _, _ => OpRes.hard
  | .makeFunc (.func g) first caps => if first = #[] then .val True (.fn g (caps.toList.map ρ)) else OpRes.hard
  | .call c => match c.callee with
    | .builtin .len => match (c.argTypes[0]?).bind T.sl, c.args[0]? with
      | some _, some x => match ρ x with
        | .rd vs => .val (True) (.v (.int .i64 vs.length))
        | .rds vs => .val (True) (.v (.int .i64 vs.length))
        | .rdL vs => .val (True) (.v (.int .i64 vs.length))
        | .own id => match σ id with
          | some (.row _ vs) => .val (True) (.v (.int .i64 vs.length))
          | some (.rows _ _ vs) => .val (True) (.v (.int .i64 vs.length))
          | some (.rowL _ vs) => .val (True) (.v (.int .i64 vs.length))
          | some (.cust _ _ _) => .hard
          | some (.ghost _) => .hard
          | _ => .bad
        | _ => OpRes.hard
      | _, _ => OpRes.hard
    | _ => OpRes.hard
  | _ => OpRes.hard
def okTy (T : TT) : Op → Bool
  | .load t _ => T.sc t || (T.ag t).isSome
  | .fieldAddr t _ j => T.fo t j == some j
  | _ => true
theorem BinE_sound {T : TT} {t : Nat} {b : BinOp} {x y : Value} {p : Prop} {r : LV} (h : BinE T t b x y = .val p r) (hp : p) : BinV T t b x y fun v => LV.v v = r := by
  unfold BinE at h
  split at h <;> (try (cases h; done)) <;> (simp only [OpRes.val.injEq] at h; obtain ⟨h1, h2⟩ := h; subst h1; subst h2; simp only [BinV, and_true]; try exact hp)
theorem opE_val {P : Program} {T : TT} {o : Oper} {ρ : Operand → LV} {σ : Nat → Option OC} {p : Prop} {r : LV} (hok : okTy T o.op = true) (h : opE T o.op ρ σ = .val p r) (hp : p) : opL P T o ρ σ fun x => x = r := by
  obtain ⟨dst, op, type, pos, after, guard⟩ := o
  cases op with
  | move x => simp only [opE, OpRes.val.injEq] at h; simp only [opL]; exact h.2
  | assign x => simp only [opE, OpRes.val.injEq] at h; simp only [opL]; exact h.2
  | pick c a b => simp only [opE] at h; split at h <;> cases h
  | binOp b t x y t' =>
    simp only [opE] at h
    split at h <;> try (cases h; done)
    rename_i x' y' hx hy
    simp only [opL, hx, hy]
    exact BinE_sound h hp
  | unOp u t x =>
    cases u <;> simp only [opE] at h <;> (try (cases h; done)) <;> (split at h <;> try (cases h; done)) <;> (rename_i z hz; simp only [OpRes.val.injEq] at h; obtain ⟨h1, h2⟩ := h; subst h1; simp only [opL, hz]; first | exact h2 | exact ⟨hp, h2⟩)
  | extract x j =>
    simp only [opE] at h
    split at h <;> try (cases h; done)
    rename_i l hl
    split at h <;> try (cases h; done)
    rename_i y hy
    simp only [OpRes.val.injEq] at h
    simp only [opL, hl, hy]
    exact h.2
  | box t x =>
    simp only [opE] at h
    split at h <;> (try (cases h; done)) <;> (rename_i hx; first | (simp only [OpRes.val.injEq] at h; simp only [opL, hx]; exact h.2) | (split at h; (cases h); (simp only [OpRes.val.injEq] at h; simp only [opL, hx]; exact h.2)))
  | load t x =>
    simp only [opE] at h
    simp only [okTy, Bool.or_eq_true] at hok
    split at h <;> try (cases h; done)
    · rename_i y hx
      split at h
      · rename_i ht
        simp only [OpRes.val.injEq] at h
        simp only [opL, hx, ht]
        exact ⟨hok.resolve_right (by rw [ht]; decide), h.2⟩
      · rename_i k ht
        simp only [OpRes.val.injEq] at h
        obtain ⟨h1, h2⟩ := h
        subst h1
        simp only [opL, hx, ht]
        exact ⟨hp, h2⟩
    · rename_i l hx
      split at h
      · rename_i k hk
        simp only [OpRes.val.injEq] at h
        obtain ⟨h1, h2⟩ := h
        subst h1
        simp only [opL, hx, hk]
        exact ⟨hp, h2⟩
      · rename_i ht
        split at h <;> try (cases h; done)
        simp only [OpRes.val.injEq] at h
        simp only [opL, hx, ht]
        exact ⟨hok.resolve_right (by rw [ht]; decide), h.2⟩
    · rename_i id off hx
      split at h <;> try (cases h; done)
      rename_i t' l hσ
      split at h
      · rename_i k hk
        simp only [OpRes.val.injEq] at h
        obtain ⟨h1, h2⟩ := h
        subst h1
        simp only [opL, hx, hσ, hk]
        exact ⟨hp.1, hp.2, h2⟩
      · rename_i ht
        split at h <;> try (cases h; done)
        rename_i y hy
        simp only [OpRes.val.injEq] at h
        simp only [opL, hx, hσ, ht, hy]
        exact ⟨hok.resolve_right (by rw [ht]; decide), h.2⟩
    · rename_i id i hx
      split at h <;> try (cases h; done)
      rename_i e vs hσ
      split at h <;> try (cases h; done)
      rename_i ht
      simp only [OpRes.val.injEq] at h
      obtain ⟨h1, h2⟩ := h
      subst h1
      simp only [opL, hx, hσ]
      exact ⟨hok.resolve_right (by rw [ht]; decide), hp, h2⟩
  | fieldAddr t x j =>
    simp only [opE] at h
    simp only [okTy, beq_iff_eq] at hok
    split at h <;> try (cases h; done)
    · rename_i l hx
      split at h <;> try (cases h; done)
      rename_i y hy
      simp only [OpRes.val.injEq] at h
      simp only [opL, hok, hx, hy]
      exact h.2
    · rename_i id off hx
      simp only [OpRes.val.injEq] at h
      simp only [opL, hok, hx]
      exact h.2
  | indexAddr t x i =>
    simp only [opE] at h
    split at h <;> try (cases h; done)
    rename_i e k i' he hi
    split at h <;> try (cases h; done)
    · rename_i vs hx
      simp only [OpRes.val.injEq] at h
      obtain ⟨h1, h2⟩ := h
      subst h1
      simp only [opL, he, hi, hx]
      exact ⟨hp.1, hp.2, h2⟩
    · rename_i vs hx
      simp only [OpRes.val.injEq] at h
      obtain ⟨h1, h2⟩ := h
      subst h1
      simp only [opL, he, hi, hx]
      exact ⟨hp.1, hp.2, h2⟩
    · rename_i vs hx
      simp only [OpRes.val.injEq] at h
      obtain ⟨h1, h2⟩ := h
      subst h1
      simp only [opL, he, hi, hx]
      exact ⟨hp.1, hp.2, h2⟩
    · rename_i id hx
      split at h <;> try (cases h; done)
      · rename_i e' vs hσ
        simp only [OpRes.val.injEq] at h
        obtain ⟨h1, h2⟩ := h
        subst h1
        simp only [opL, he, hi, hx, hσ]
        exact ⟨hp.1, hp.2, h2⟩
      · rename_i e' e'' vs hσ
        simp only [OpRes.val.injEq] at h
        obtain ⟨h1, h2⟩ := h
        subst h1
        simp only [opL, he, hi, hx, hσ]
        exact ⟨hp.1, hp.2, h2⟩
  | convert a t x =>
    simp only [opE] at h
    split at h <;> try (cases h; done)
    · rename_i k n hk0 hk hx
      simp only [OpRes.val.injEq] at h
      obtain ⟨h1, h2⟩ := h
      subst h1
      simp only [opL, hk0, hk, hx]
      exact ⟨hp, h2⟩
    · rename_i k k' n hne hk0 hk hx
      simp only [OpRes.val.injEq] at h
      have hne' : k ≠ .i64 := fun e => by first | exact hne e | (subst e; exact hne rfl) | (subst e; exact hne _ rfl) | simp_all
      simp only [opL, hk0, hk, hx]
      cases k <;> first | exact h.2 | exact absurd rfl hne'
  | nilCheck x =>
    simp only [opE] at h
    split at h <;> try (cases h; done)
    rename_i id off hx
    simp only [OpRes.val.injEq] at h
    simp only [opL, hx]
    exact h.2
  | makeFunc fn first caps =>
    cases fn with
    | func g =>
      simp only [opE] at h
      split at h <;> try (cases h; done)
      rename_i hf
      simp only [OpRes.val.injEq] at h
      simp only [opL, if_pos hf]
      exact h.2
    | _ => simp only [opE] at h; cases h
  | call c =>
    obtain ⟨callee, args, argTypes⟩ := c
    unfold opE at h
    by_cases hc : callee = .builtin .len
    · subst hc
      dsimp only at h
      split at h <;> try (cases h; done)
      rename_i e0 x he0 hx0
      obtain ⟨t, ht, hsl⟩ := Option.bind_eq_some_iff.1 he0
      have hok : (T.sl t).isSome = true := by rw [hsl]; rfl
      split at h <;> try (cases h; done)
      · rename_i vs hx
        simp only [OpRes.val.injEq] at h
        simp only [opL, hx0, ht, hx]
        exact ⟨hok, h.2⟩
      · rename_i vs hx
        simp only [OpRes.val.injEq] at h
        simp only [opL, hx0, ht, hx]
        exact ⟨hok, h.2⟩
      · rename_i vs hx
        simp only [OpRes.val.injEq] at h
        simp only [opL, hx0, ht, hx]
        exact ⟨hok, h.2⟩
      · rename_i id hx
        split at h <;> try (cases h; done)
        · rename_i e' vs hσ
          simp only [OpRes.val.injEq] at h
          simp only [opL, hx0, ht, hx, hσ]
          exact ⟨hok, h.2⟩
        · rename_i e' e'' vs hσ
          simp only [OpRes.val.injEq] at h
          simp only [opL, hx0, ht, hx, hσ]
          exact ⟨hok, h.2⟩
        · rename_i e' vs hσ
          simp only [OpRes.val.injEq] at h
          simp only [opL, hx0, ht, hx, hσ]
          exact ⟨hok, h.2⟩
    · cases callee with
      | builtin b => cases b <;> first | exact absurd rfl hc | cases h
      | _ => cases h
  | _ => simp only [opE] at h; cases h
theorem opE_two {P : Program} {T : TT} {o : Oper} {ρ : Operand → LV} {σ : Nat → Option OC} {t : Bool} {a b : LV} (h : opE T o.op ρ σ = .two t a b) : opL P T o ρ σ fun x => x = if t then a else b := by
  obtain ⟨dst, op, type, pos, after, guard⟩ := o
  cases op with
  | pick c x y =>
    simp only [opE] at h
    split at h <;> try (cases h; done)
    rename_i t' ht
    simp only [OpRes.two.injEq] at h
    obtain ⟨rfl, rfl, rfl⟩ := h
    simp only [opL, ht]
    exact ⟨fun e => by rw [e]; rfl, fun e => by rw [e]; rfl⟩
  | binOp b t x y t' =>
    simp only [opE] at h
    split at h <;> try (cases h; done)
    unfold BinE at h
    split at h <;> cases h
  | call c =>
    obtain ⟨callee, args, argTypes⟩ := c
    unfold opE at h
    cases callee with
    | builtin b =>
      cases b <;> (try (cases h; done))
      dsimp only at h
      repeat' split at h
      all_goals cases h
    | _ => cases h
  | unOp u t x => cases u <;> simp only [opE] at h <;> (try (cases h; done)) <;> (split at h <;> cases h)
  | makeFunc fn first caps => cases fn <;> simp only [opE] at h <;> (try (cases h; done)) <;> (split at h <;> cases h)
  | _ => simp only [opE] at h <;> (repeat' split at h) <;> cases h
def St.gput (s : St) (d : Nat) (b : Bool) : St := s.put (some d) (.v (.bool b))
theorem St.gput_same {s : St} {d : Nat} {b : Bool} (h : s.lf d = .v (.bool b)) : s.gput d b = s := by
  unfold St.gput St.put updL
  cases s
  simp only [St.mk.injEq, and_true]
  funext i
  split
  · rename_i e; rw [e]; exact h.symm
  · rfl
inductive Kont where
  | seq (c : Code) (k : Kont)
  | blk (id : Nat) (k : Kont)
  | back (N : St → Prop) (k : Kont)
  | done (R : St → Prop)
def Kont.wt : Kont → Nat
  | .seq c k => cwt c + k.wt + 1
  | .blk _ k => k.wt + 1
  | .back _ k => k.wt + 1
  | .done _ => 0
where cwt : Code → Nat
  | .seq a b => cwt a + cwt b + 2
  | .block _ c => cwt c + 2
  | .cond _ a b => cwt a + cwt b + 1
  | _ => 1
def KN (P : Program) (n : Nat) : Kont → (St → Prop) × (Nat → St → Prop) × (St → Prop)
  | .seq c k => (fun s => CodeT P n c s (KN P n k).1 (KN P n k).2.1 (KN P n k).2.2, (KN P n k).2.1, (KN P n k).2.2)
  | .blk id k => ((KN P n k).1, inX id (KN P n k).1 (KN P n k).2.1, (KN P n k).2.2)
  | .back N k => (N, (KN P n k).2.1, (KN P n k).2.2)
  | .done R => (R, fun _ _ => False, R)
def okO (T : TT) (n : Nat) (all : Array Oper) (o : Oper) : Bool :=
  (match o.dst with | some d => decide (d < n) | none => true) &&
  (match o.guard with | some (j, _) => (match (all[j]?).bind (·.dst) with | some d => decide (d < n) | none => false) | none => true) && okTy T o.op
def okC (T : TT) (n : Nat) : Code → Bool
  | .seq a b => okC T n a && okC T n b
  | .block _ c => okC T n c
  | .loop c => okC T n c
  | .cond _ a b => okC T n a && okC T n b
  | .region _ ops _ => ops.toList.all (okO T n ops)
  | .skip | .exit _ | .ret => true
  | _ => false
def okK (T : TT) (n : Nat) : Kont → Bool
  | .seq c k => okC T n c && okK T n k
  | .blk _ k => okK T n k
  | .back _ k => okK T n k
  | .done _ => true
def Here (P : Program) (n : Nat) (c : Code) (s : St) (k : Kont) : Prop := CodeT P n c s (KN P n k).1 (KN P n k).2.1 (KN P n k).2.2
def HereV (P : Program) (T : TT) (n : Nat) (c : Code) (s : St) (k : Kont) : Prop := okC T n c = true → okK T n k = true → Here P n c s k
def HereO (P : Program) (T : TT) (n : Nat) (all : Array Oper) (o : Oper) (l : List Oper) (s : St) (k : Kont) : Prop := l.all (okO T n all) = true → okK T n k = true → OpT P o s fun r s' => OpsT P all n l (s'.put o.dst r) (KN P n k).1
def retK : Kont → St → Prop
  | .seq _ k, s => retK k s
  | .blk _ k, s => retK k s
  | .back _ k, s => retK k s
  | .done R, s => R s
mutual
def CodeV (P : Program) (T : TT) (n : Nat) : Code → St → Kont → Prop
  | .skip, s, k => Norm P T n k s
  | .exit j, s, k => exitK P T n j k s
  | .ret, s, k => retK k s
  | .seq a b, s, k => CodeV P T n a s (.seq b k)
  | .block id c, s, k => CodeV P T n c s (.blk id k)
  | .cond c a b, s, k => match evL s c with
    | .v (.bool t) => (t = true → CodeV P T n a s k) ∧ (t = false → CodeV P T n b s k)
    | _ => False
  | .region id ops draw, s, k => if draw then HereV P T n (.region id ops true) s k else OpsV P T n ops ops.toList s k
  | c, s, k => HereV P T n c s k
termination_by c _ k => (Kont.wt.cwt c + k.wt, 0)
decreasing_by all_goals (simp only [Prod.lex_def, Kont.wt, Kont.wt.cwt, List.length_cons, List.length_nil]; first | omega | exact Or.inr ⟨trivial, by omega⟩)
def OpsV (P : Program) (T : TT) (n : Nat) (all : Array Oper) : List Oper → St → Kont → Prop
  | [], s, k => Norm P T n k s
  | o :: l, s, k => match o.guard with
    | none => match opE T o.op (evL s) s.σ with
      | .val p r => p ∧ OpsV P T n all l (s.put o.dst r) k
      | .two t a b => (t = true → OpsV P T n all l (s.put o.dst a) k) ∧ (t = false → OpsV P T n all l (s.put o.dst b) k)
      | .hard => HereO P T n all o l s k
      | .bad => False
    | some (j, want) => match s.lf (slotOf all j) with
      | .v (.bool t) => (t = want → match opE T o.op (evL s) s.σ with
          | .val p r => p ∧ OpsV P T n all l ((s.gput (slotOf all j) want).put o.dst r) k
          | .two t' a b => (t' = true → OpsV P T n all l ((s.gput (slotOf all j) want).put o.dst a) k) ∧ (t' = false → OpsV P T n all l ((s.gput (slotOf all j) want).put o.dst b) k)
          | .hard => HereO P T n all o l (s.gput (slotOf all j) want) k
          | .bad => False) ∧
          (t = !want → OpsV P T n all l ((s.gput (slotOf all j) (!want)).put o.dst (.v undef)) k)
      | x => undefLike x = true ∧ OpsV P T n all l (s.put o.dst (.v undef)) k
termination_by l _ k => (k.wt, l.length + 1)
decreasing_by all_goals (simp only [Prod.lex_def, Kont.wt, Kont.wt.cwt, List.length_cons, List.length_nil]; first | omega | exact Or.inr ⟨trivial, by omega⟩)
def Norm (P : Program) (T : TT) (n : Nat) : Kont → St → Prop
  | .seq c k, s => CodeV P T n c s k
  | .blk _ k, s => Norm P T n k s
  | .back N _, s => N s
  | .done R, s => R s
termination_by k _ => (k.wt, 0)
decreasing_by all_goals (simp only [Prod.lex_def, Kont.wt, Kont.wt.cwt, List.length_cons, List.length_nil]; first | omega | exact Or.inr ⟨trivial, by omega⟩)
def exitK (P : Program) (T : TT) (n : Nat) (j : Nat) : Kont → St → Prop
  | .seq _ k, s => exitK P T n j k s
  | .blk id k, s => if j = id then Norm P T n k s else exitK P T n j k s
  | .back _ k, s => exitK P T n j k s
  | .done _, _ => False
termination_by k _ => (k.wt, 0)
decreasing_by all_goals (simp only [Prod.lex_def, Kont.wt, Kont.wt.cwt, List.length_cons, List.length_nil]; first | omega | exact Or.inr ⟨trivial, by omega⟩)
end
theorem okO_dst {T : TT} {n : Nat} {all : Array Oper} {o : Oper} (h : okO T n all o = true) : ∀ d, o.dst = some d → d < n := by
  intro d hd
  simp only [okO, hd, Bool.and_eq_true, decide_eq_true_eq] at h
  exact h.1.1
theorem okO_guard {T : TT} {n : Nat} {all : Array Oper} {o : Oper} (h : okO T n all o = true) {j : Nat} {want : Bool} (hg : o.guard = some (j, want)) : (all[j]?).bind (·.dst) = some (slotOf all j) ∧ slotOf all j < n := by
  simp only [okO, hg, Bool.and_eq_true] at h
  have h2 := h.1.2
  unfold slotOf
  cases e : (all[j]?).bind (·.dst) with
  | none => rw [e] at h2; simp at h2
  | some d => rw [e] at h2; simpa using h2
theorem okO_ty {T : TT} {n : Nat} {all : Array Oper} {o : Oper} (h : okO T n all o = true) : okTy T o.op = true := by
  simp only [okO, Bool.and_eq_true] at h
  exact h.2
section
variable {P : Program} {T : TT} {n : Nat}
theorem OpT.mono {o : Oper} {s : St} {K K' : LV → St → Prop} (h : OpT P o s K) (hk : ∀ r s, K r s → K' r s) : OpT P o s K' := by
  intro w0 w ι fp f hI
  have H := h w0 w ι fp f hI
  generalize (execOp (evV f) o).run P w = R at H ⊢
  cases H with
  | value r s1 v w1 ι1 fp1 hI1 hr hK => exact .value r s1 v w1 ι1 fp1 hI1 hr (hk _ _ hK)
  | skip s1 w1 ι1 fp1 hI1 hK => exact .skip s1 w1 ι1 fp1 hI1 (hk _ _ hK)
  | enter g args w1 hc =>
    refine .enter g args w1 (hc.mono ?_)
    rintro e w2 ⟨r, s1, v, ι1, fp1, rfl, hI1, hr, hK⟩
    exact ⟨r, s1, v, ι1, fp1, rfl, hI1, hr, hk _ _ hK⟩
theorem opE_opT (hT : T.Ok P) {o : Oper} {s : St} {K : LV → St → Prop} (hok : okTy T o.op = true) {p : Prop} {r : LV} (h : opE T o.op (evL s) s.σ = .val p r) (hp : p) (hK : K r s) : OpT P o s K := by
  obtain ⟨r', rfl, hP⟩ := opL_sound hT (opE_val (P := P) hok h hp)
  exact hP.opT hK
theorem opE_opT2 (hT : T.Ok P) {o : Oper} {s : St} {K : LV → St → Prop} {t : Bool} {a b : LV} (h : opE T o.op (evL s) s.σ = .two t a b) (h1 : t = true → K a s) (h2 : t = false → K b s) : OpT P o s K := by
  obtain ⟨r', hr, hP⟩ := opL_sound hT (opE_two (P := P) h)
  subst hr
  refine hP.opT ?_
  cases t with
  | true => exact h1 rfl
  | false => exact h2 rfl
theorem retK_sound : ∀ {k : Kont} {s : St}, retK k s → (KN P n k).2.2 s
  | .seq _ k, s, h => retK_sound (k := k) h
  | .blk _ k, s, h => retK_sound (k := k) h
  | .back _ k, s, h => retK_sound (k := k) h
  | .done R, s, h => h
theorem sound_all (hT : T.Ok P) : ∀ m : Nat,
    (∀ k s, k.wt ≤ m → okK T n k = true → Norm P T n k s → (KN P n k).1 s) ∧
    (∀ j k s, k.wt ≤ m → okK T n k = true → exitK P T n j k s → (KN P n k).2.1 j s) ∧
    (∀ all l s k, k.wt ≤ m → okK T n k = true → l.all (okO T n all) = true → OpsV P T n all l s k → OpsT P all n l s (KN P n k).1) ∧
    (∀ c s k, Kont.wt.cwt c + k.wt ≤ m → okC T n c = true → okK T n k = true → CodeV P T n c s k → Here P n c s k) := by
  intro m
  induction m with
  | zero =>
    have hN : ∀ k s, k.wt ≤ 0 → okK T n k = true → Norm P T n k s → (KN P n k).1 s := by
      intro k s hk _ h
      cases k with
      | done R => simp only [Norm] at h; exact h
      | _ => simp only [Kont.wt] at hk; omega
    refine ⟨hN, ?_, ?_, ?_⟩
    · intro j k s hk _ h
      cases k with
      | done R => simp only [exitK] at h
      | _ => simp only [Kont.wt] at hk; omega
    · intro all l
      induction l with
      | nil => intro s k hk hok _ h; simp only [OpsV] at h; exact OpsT.nil (hN k s hk hok h)
      | cons o l ih => 
        intro s k hk hok hall h
        simp only [List.all_cons, Bool.and_eq_true] at hall
        unfold OpsV at h
        split at h
        · rename_i hg
          split at h
          · rename_i p r hr; exact OpsT.cons hg (okO_dst hall.1) (opE_opT hT (okO_ty hall.1) hr h.1 (ih _ k hk hok hall.2 h.2))
          · rename_i t a b hr; exact OpsT.cons hg (okO_dst hall.1) (opE_opT2 hT hr (fun e => ih _ k hk hok hall.2 (h.1 e)) (fun e => ih _ k hk hok hall.2 (h.2 e)))
          · exact OpsT.cons hg (okO_dst hall.1) (h hall.2 hok)
          · exact h.elim
        · rename_i j want hg
          obtain ⟨hj, hjn⟩ := okO_guard hall.1 hg
          split at h
          · rename_i t ht
            refine OpsT.guarded hg (okO_dst hall.1) hj hjn ht (fun e => ?_) (fun e => ?_)
            · have h1 := h.1 e
              rw [St.gput_same (by rw [ht, e])] at h1
              split at h1
              · rename_i p r hr; exact opE_opT hT (okO_ty hall.1) hr h1.1 (ih _ k hk hok hall.2 h1.2)
              · rename_i t a b hr; exact opE_opT2 hT hr (fun e => ih _ k hk hok hall.2 (h1.1 e)) (fun e => ih _ k hk hok hall.2 (h1.2 e))
              · exact h1 hall.2 hok
              · exact h1.elim
            · have e' : t = !want := by cases t <;> cases want <;> simp_all
              have h2 := h.2 e'
              rw [St.gput_same (by rw [ht, e'])] at h2
              exact ih _ k hk hok hall.2 h2
          · have hx : s.lf (slotOf all j) = .v undef := by
              have h1 := h.1
              unfold undefLike at h1
              split at h1
              · rename_i a ha
                rw [ha]
                have : a = #[] := by simpa using h1
                rw [this]; rfl
              · cases h1
            exact OpsT.off hg (okO_dst hall.1) hj hjn hx (ih _ k hk hok hall.2 h.2)
    · intro c s k hk
      cases c <;> simp only [Kont.wt.cwt] at hk <;> omega
  | succ m im =>
    obtain ⟨iN, iX, iO, iC⟩ := im
    have hN : ∀ k s, k.wt ≤ m + 1 → okK T n k = true → Norm P T n k s → (KN P n k).1 s := by
      intro k s hk hok h
      cases k with
      | done R => simp only [Norm] at h; exact h
      | back N k => simp only [Norm] at h; exact h
      | blk id k =>
        simp only [Norm] at h
        simp only [Kont.wt] at hk
        exact iN k s (by omega) hok h
      | seq c k =>
        simp only [Norm] at h
        simp only [Kont.wt] at hk
        simp only [okK, Bool.and_eq_true] at hok
        exact iC c s k (by omega) hok.1 hok.2 h
    refine ⟨hN, ?_, ?_, ?_⟩
    · intro j k s hk hok h
      cases k with
      | done R => simp only [exitK] at h
      | back N k =>
        simp only [exitK] at h
        simp only [Kont.wt] at hk
        exact iX j k s (by omega) hok h
      | blk id k =>
        simp only [exitK] at h
        simp only [Kont.wt] at hk
        show inX id _ _ j s
        unfold inX
        split
        · rename_i e; rw [if_pos e] at h; exact iN k s (by omega) hok h
        · rename_i e; rw [if_neg e] at h; exact iX j k s (by omega) hok h
      | seq c k =>
        simp only [exitK] at h
        simp only [Kont.wt] at hk
        simp only [okK, Bool.and_eq_true] at hok
        exact iX j k s (by omega) hok.2 h
    · intro all l
      induction l with
      | nil => intro s k hk hok _ h; simp only [OpsV] at h; exact OpsT.nil (hN k s hk hok h)
      | cons o l ih => 
        intro s k hk hok hall h
        simp only [List.all_cons, Bool.and_eq_true] at hall
        unfold OpsV at h
        split at h
        · rename_i hg
          split at h
          · rename_i p r hr; exact OpsT.cons hg (okO_dst hall.1) (opE_opT hT (okO_ty hall.1) hr h.1 (ih _ k hk hok hall.2 h.2))
          · rename_i t a b hr; exact OpsT.cons hg (okO_dst hall.1) (opE_opT2 hT hr (fun e => ih _ k hk hok hall.2 (h.1 e)) (fun e => ih _ k hk hok hall.2 (h.2 e)))
          · exact OpsT.cons hg (okO_dst hall.1) (h hall.2 hok)
          · exact h.elim
        · rename_i j want hg
          obtain ⟨hj, hjn⟩ := okO_guard hall.1 hg
          split at h
          · rename_i t ht
            refine OpsT.guarded hg (okO_dst hall.1) hj hjn ht (fun e => ?_) (fun e => ?_)
            · have h1 := h.1 e
              rw [St.gput_same (by rw [ht, e])] at h1
              split at h1
              · rename_i p r hr; exact opE_opT hT (okO_ty hall.1) hr h1.1 (ih _ k hk hok hall.2 h1.2)
              · rename_i t a b hr; exact opE_opT2 hT hr (fun e => ih _ k hk hok hall.2 (h1.1 e)) (fun e => ih _ k hk hok hall.2 (h1.2 e))
              · exact h1 hall.2 hok
              · exact h1.elim
            · have e' : t = !want := by cases t <;> cases want <;> simp_all
              have h2 := h.2 e'
              rw [St.gput_same (by rw [ht, e'])] at h2
              exact ih _ k hk hok hall.2 h2
          · have hx : s.lf (slotOf all j) = .v undef := by
              have h1 := h.1
              unfold undefLike at h1
              split at h1
              · rename_i a ha
                rw [ha]
                have : a = #[] := by simpa using h1
                rw [this]; rfl
              · cases h1
            exact OpsT.off hg (okO_dst hall.1) hj hjn hx (ih _ k hk hok hall.2 h.2)
    · intro c s k hk hc hok h
      cases c with
      | skip => simp only [CodeV] at h; simp only [Kont.wt.cwt] at hk; exact .skip (iN k s (by omega) hok h)
      | exit j => simp only [CodeV] at h; simp only [Kont.wt.cwt] at hk; exact .exit (iX j k s (by omega) hok h)
      | ret => simp only [CodeV] at h; exact .ret (retK_sound h)
      | seq a b =>
        simp only [CodeV] at h
        simp only [Kont.wt.cwt] at hk
        simp only [okC, Bool.and_eq_true] at hc
        exact .seq (iC a s (.seq b k) (by simp only [Kont.wt]; omega) hc.1 (by simp only [okK, hc.2, hok, Bool.and_self]) h)
      | block id c =>
        simp only [CodeV] at h
        simp only [Kont.wt.cwt] at hk
        exact .block (iC c s (.blk id k) (by simp only [Kont.wt]; omega) hc hok h)
      | cond x a b =>
        simp only [Kont.wt.cwt] at hk
        simp only [okC, Bool.and_eq_true] at hc
        unfold CodeV at h
        split at h <;> try exact h.elim
        rename_i t ht
        exact .cond ht (fun e => iC a s k (by omega) hc.1 hok (h.1 e)) (fun e => iC b s k (by omega) hc.2 hok (h.2 e))
      | region id ops draw =>
        unfold CodeV at h
        cases draw with
        | true => rw [if_pos rfl] at h; exact h hc hok
        | false =>
          rw [if_neg (by decide)] at h
          simp only [Kont.wt.cwt] at hk
          have := iO ops ops.toList s k (by omega) hok hc h
          intro w0 w ι fp f a hf hI
          exact wp_region_list (this w0 w ι fp f a _ hf hI fun _ _ q => q)
      | _ => unfold CodeV at h; exact h hc hok
theorem CodeV_sound (hT : T.Ok P) {c : Code} {s : St} {k : Kont} (hc : okC T n c = true) (hk : okK T n k = true) (h : CodeV P T n c s k) : Here P n c s k := (sound_all hT _).2.2.2 c s k (Nat.le_refl _) hc hk h
theorem OpsV_sound (hT : T.Ok P) {all : Array Oper} {l : List Oper} {s : St} {k : Kont} (hl : l.all (okO T n all) = true) (hk : okK T n k = true) (h : OpsV P T n all l s k) : OpsT P all n l s (KN P n k).1 := (sound_all hT _).2.2.1 all l s k (Nat.le_refl _) hk hl h
end
def osF (os : List OC) (i : Nat) : Option OC := os[i]?
def Base.of (w : World) : Base := ⟨w, fun _ => False, fun _ => none, fun _ _ => rfl⟩
theorem Kept.toBelow {w w' : World} (h : Kept (Base.of w) w') : Below w.heap.size w w' := ⟨h.os, h.tape, h.output, h.size, fun k hk => h.block k hk fun q => q⟩
structure Spec (P : Program) (g : Nat) (args : List LV) (r : LV) (os : List OC) : Prop where
  ent : ∀ args w, (callFunc g args).run P w = .ok (.enter g args) w
  run : ∀ w ys, LRels (fun _ => none) (fun _ => False) w args ys → Calls P g (List.toArray ys) w fun e w' => ∃ v ι fp, e = .returned v ∧ Inv (Base.of w) w' ι fp ⟨mkF [(0, r)], osF os⟩ fun _ => v
mutual
def closeA (σ : Nat → Option OC) : LV → LV
  | .rdL l => .rdL (closeAs σ l)
  | .agg l => .agg (closeAs σ l)
  | .tup l => .tup (closeAs σ l)
  | .box l => .box (closeAs σ l)
  | .rdA k l => .rdA k (closeAs σ l)
  | .pc x => .pc (closeA σ x)
  | .own id => match σ id with
    | some (.row _ vs) => .rd vs
    | some (.rows _ _ t) => .rds t
    | some (.cust _ r _) => r
    | _ => .junk
  | .ptr _ _ => .junk
  | .pe _ _ => .junk
  | .sub _ _ _ => .junk
  | .fn g caps => .fn g (closeAs σ caps)
  | .v x => .v x
  | .junk => .junk
  | .rd vs => .rd vs
  | .rds t => .rds t
def closeAs (σ : Nat → Option OC) : List LV → List LV
  | [] => []
  | x :: l => closeA σ x :: closeAs σ l
end
mutual
def closeB (σ : Nat → Option OC) : LV → LV
  | .rdL l => .rdL (closeBs σ l)
  | .agg l => .agg (closeBs σ l)
  | .tup l => .tup (closeBs σ l)
  | .box l => .box (closeBs σ l)
  | .rdA k l => .rdA k (closeBs σ l)
  | .pc x => .pc (closeB σ x)
  | .own id => match σ id with
    | some (.row _ vs) => .rd vs
    | some (.rows _ _ t) => .rds t
    | some (.cust _ r _) => r
    | some (.ghost vs) => .rd vs
    | some (.rowL _ l) => .rdL (closeAs σ l)
    | _ => .junk
  | .ptr id off => match off, σ id with
    | 0, some (.cells _ l) => .box (closeAs σ l)
    | _, _ => .junk
  | .pe _ _ => .junk
  | .sub id i n => match σ id with
    | some (.row _ vs) => .rd ((vs.drop i).take n)
    | _ => .junk
  | .fn g caps => .fn g (closeBs σ caps)
  | .v x => .v x
  | .junk => .junk
  | .rd vs => .rd vs
  | .rds t => .rds t
def closeBs (σ : Nat → Option OC) : List LV → List LV
  | [] => []
  | x :: l => closeB σ x :: closeBs σ l
end
def noF : Nat → Prop := fun _ => False
def noI : Nat → Option Value := fun _ => none
theorem own_RS {w : World} {base e n : Nat} {v : Value} {vs : List Value} (h : w.ownsRow base e 1 v n vs) : RS noF w vs v := by
  have hl := h.1
  rcases h.2 with ⟨rfl, h0⟩ | ⟨g, cap, cur, rfl, hb, hg, hn, hm, _⟩
  · exact ⟨none, 0, by rw [show vs.length = 0 by omega], by omega, by omega, fun hp => by omega⟩
  · simp only [maxLen] at hm
    exact ⟨_, cap, by rw [show vs.length = n by omega], by omega, by omega, fun hp => ⟨_, rfl, fun hq => hq, fun j u hu => h.cells (g := g) rfl j u hu⟩⟩
theorem OwnAll.rrow {w : World} {base e : Nat} : ∀ {t : List (List Value)} {hs : List Value} {fp : Nat → Prop}, OwnAll w base e fp t hs → RRow noF w t hs
  | [], _, _, h => h
  | r :: t, hs, fp, ⟨h, hs', e1, h1, h2, h3⟩ => ⟨h, hs', e1, own_RS h1, h3.rrow⟩
theorem keeps_noF {F : Nat → Prop} {w : World} : Keeps F noF w w := fun _ _ _ hc => ⟨hc, fun h => h⟩
theorem ORel.closed {ι : Nat → Option Value} {F : Nat → Prop} {w : World} {base : Nat} {fp : Nat → Prop} {id : Nat} {σ : Nat → Option OC} {v : Value} (hι : ι id = some v)
    (h : ∀ oc, σ id = some oc → ORel ι F w base fp id oc) : LRel noI noF w (match σ id with | some (.row _ vs) => .rd vs | some (.rows _ _ t) => .rds t | some (.cust _ r _) => r | _ => .junk) v := by
  split
  · rename_i vs hσ
    obtain ⟨v', h1, h2, h3⟩ := h _ hσ
    rw [hι] at h1
    simp only [Option.some.injEq] at h1
    subst h1
    simp only [LRel]
    exact own_RS h2
  · rename_i t hσ
    obtain ⟨v', hs, h1, h2, h3, h4, h5⟩ := h _ hσ
    rw [hι] at h1
    simp only [Option.some.injEq] at h1
    subst h1
    simp only [LRel]
    exact ⟨hs, own_RS h2, h4.rrow⟩
  · rename_i r jj hσ
    obtain ⟨v', y, h1, h2, h3, h4, h5⟩ := h _ hσ
    rw [hι] at h1
    simp only [Option.some.injEq] at h1
    subst h1
    exact (h2 _ _ _ _ h3).2.2 _ _ fun _ _ h => h
  · simp only [LRel]
section
variable {ι : Nat → Option Value} {F : Nat → Prop} {w : World} {base : Nat} {fp : Nat → Nat → Prop} {σ : Nat → Option OC}
mutual
theorem LRel.closeA (H : ∀ id oc, σ id = some oc → ORel ι F w base (fp id) id oc) : ∀ {x : LV} {y : Value}, LRel ι F w x y → LRel noI noF w (closeA σ x) y
  | .v _, _, h => by simp only [LRel, Go.Proofs.YtcjhojdlfnpgjaaGreat.closeA] at *; exact h
  | .junk, _, _ => by simp only [LRel, Go.Proofs.YtcjhojdlfnpgjaaGreat.closeA]
  | .rd _, _, h => by simp only [LRel, Go.Proofs.YtcjhojdlfnpgjaaGreat.closeA] at *; exact h.keeps keeps_noF
  | .rds _, _, h => by
    simp only [LRel, Go.Proofs.YtcjhojdlfnpgjaaGreat.closeA] at *
    obtain ⟨hs, h1, h2⟩ := h
    exact ⟨hs, h1.keeps keeps_noF, h2.keeps keeps_noF⟩
  | .rdL _, _, h => by
    simp only [LRel, Go.Proofs.YtcjhojdlfnpgjaaGreat.closeA] at *
    obtain ⟨ys, e, h⟩ := h
    exact ⟨ys, e.keeps keeps_noF, LRels.closeA H h⟩
  | .agg _, _, h => by
    simp only [LRel, Go.Proofs.YtcjhojdlfnpgjaaGreat.closeA] at *
    obtain ⟨ys, e, h⟩ := h
    exact ⟨ys, e, LRels.closeA H h⟩
  | .tup _, _, h => by
    simp only [LRel, Go.Proofs.YtcjhojdlfnpgjaaGreat.closeA] at *
    obtain ⟨ys, e, h⟩ := h
    exact ⟨ys, e, LRels.closeA H h⟩
  | .box l, _, h => by
    simp only [LRel, Go.Proofs.YtcjhojdlfnpgjaaGreat.closeA] at *
    obtain ⟨b, ys, e, hc, h⟩ := h
    exact ⟨b, ys, e, fun j u hu => ⟨fun hq => hq, (hc j u hu).2⟩, LRels.closeA H h⟩
  | .rdA _ l, _, h => by
    simp only [LRel, Go.Proofs.YtcjhojdlfnpgjaaGreat.closeA] at *
    obtain ⟨A, m, c, ys, e, h1, h2, h3, h4, h⟩ := h
    exact ⟨A, m, c, ys, e, h1, h2, h3, fun hm => (h4 hm).imp fun ad h => ⟨h.1, fun j u hu => ⟨fun hq => hq, (h.2 j u hu).2⟩⟩, LRels.closeA H h⟩
  | .pc x, _, h => by
    simp only [LRel, Go.Proofs.YtcjhojdlfnpgjaaGreat.closeA] at *
    obtain ⟨p, u, e, hF, hc, h⟩ := h
    exact ⟨p, u, e, fun hq => hq, hc, LRel.closeA H h⟩
  | .own id, _, h => by
    simp only [LRel] at h
    unfold Go.Proofs.YtcjhojdlfnpgjaaGreat.closeA
    exact ORel.closed h fun oc ho => H id oc ho
  | .ptr _ _, _, _ => by simp only [LRel, Go.Proofs.YtcjhojdlfnpgjaaGreat.closeA]
  | .pe _ _, _, _ => by simp only [LRel, Go.Proofs.YtcjhojdlfnpgjaaGreat.closeA]
  | .sub _ _ _, _, _ => by simp only [LRel, Go.Proofs.YtcjhojdlfnpgjaaGreat.closeA]
  | .fn _ _, _, h => by
    simp only [LRel, Go.Proofs.YtcjhojdlfnpgjaaGreat.closeA] at *
    obtain ⟨ys, e, h⟩ := h
    exact ⟨ys, e, LRels.closeA H h⟩
theorem LRels.closeA (H : ∀ id oc, σ id = some oc → ORel ι F w base (fp id) id oc) : ∀ {l : List LV} {ys : List Value}, LRels ι F w l ys → LRels noI noF w (closeAs σ l) ys
  | [], _, h => by simp only [LRels, Go.Proofs.YtcjhojdlfnpgjaaGreat.closeAs] at *; exact h
  | _ :: _, _, h => by
    simp only [LRels, Go.Proofs.YtcjhojdlfnpgjaaGreat.closeAs] at *
    obtain ⟨y, r, e, h1, h2⟩ := h
    exact ⟨y, r, e, LRel.closeA H h1, LRels.closeA H h2⟩
end
mutual
theorem LRel.closeB (H : ∀ id oc, σ id = some oc → ORel ι F w base (fp id) id oc) : ∀ {x : LV} {y : Value}, LRel ι F w x y → LRel noI noF w (closeB σ x) y
  | .v _, _, h => by simp only [LRel, Go.Proofs.YtcjhojdlfnpgjaaGreat.closeB] at *; exact h
  | .junk, _, _ => by simp only [LRel, Go.Proofs.YtcjhojdlfnpgjaaGreat.closeB]
  | .rd _, _, h => by simp only [LRel, Go.Proofs.YtcjhojdlfnpgjaaGreat.closeB] at *; exact h.keeps keeps_noF
  | .rds _, _, h => by
    simp only [LRel, Go.Proofs.YtcjhojdlfnpgjaaGreat.closeB] at *
    obtain ⟨hs, h1, h2⟩ := h
    exact ⟨hs, h1.keeps keeps_noF, h2.keeps keeps_noF⟩
  | .rdL _, _, h => by
    simp only [LRel, Go.Proofs.YtcjhojdlfnpgjaaGreat.closeB] at *
    obtain ⟨ys, e, h⟩ := h
    exact ⟨ys, e.keeps keeps_noF, LRels.closeB H h⟩
  | .agg _, _, h => by
    simp only [LRel, Go.Proofs.YtcjhojdlfnpgjaaGreat.closeB] at *
    obtain ⟨ys, e, h⟩ := h
    exact ⟨ys, e, LRels.closeB H h⟩
  | .tup _, _, h => by
    simp only [LRel, Go.Proofs.YtcjhojdlfnpgjaaGreat.closeB] at *
    obtain ⟨ys, e, h⟩ := h
    exact ⟨ys, e, LRels.closeB H h⟩
  | .box l, _, h => by
    simp only [LRel, Go.Proofs.YtcjhojdlfnpgjaaGreat.closeB] at *
    obtain ⟨b, ys, e, hc, h⟩ := h
    exact ⟨b, ys, e, fun j u hu => ⟨fun hq => hq, (hc j u hu).2⟩, LRels.closeB H h⟩
  | .rdA _ l, _, h => by
    simp only [LRel, Go.Proofs.YtcjhojdlfnpgjaaGreat.closeB] at *
    obtain ⟨A, m, c, ys, e, h1, h2, h3, h4, h⟩ := h
    exact ⟨A, m, c, ys, e, h1, h2, h3, fun hm => (h4 hm).imp fun ad h => ⟨h.1, fun j u hu => ⟨fun hq => hq, (h.2 j u hu).2⟩⟩, LRels.closeB H h⟩
  | .pc x, _, h => by
    simp only [LRel, Go.Proofs.YtcjhojdlfnpgjaaGreat.closeB] at *
    obtain ⟨p, u, e, hF, hc, h⟩ := h
    exact ⟨p, u, e, fun hq => hq, hc, LRel.closeB H h⟩
  | .own id, _, h => by
    simp only [LRel] at h
    unfold Go.Proofs.YtcjhojdlfnpgjaaGreat.closeB
    have hc := ORel.closed (σ := σ) h fun oc ho => H id oc ho
    split
    · rename_i hσ; rw [hσ] at hc; exact hc
    · rename_i hσ; rw [hσ] at hc; exact hc
    · rename_i hσ; rw [hσ] at hc; exact hc
    · rename_i vs hσ
      obtain ⟨v', h1, h2, h3⟩ := H id _ hσ
      rw [h] at h1
      simp only [Option.some.injEq] at h1
      subst h1
      simp only [LRel]
      exact h3.keeps keeps_noF
    · rename_i e l hσ
      obtain ⟨v', ys, h1, h2, h3, h4⟩ := H id _ hσ
      rw [h] at h1
      simp only [Option.some.injEq] at h1
      subst h1
      simp only [LRel]
      exact ⟨ys, own_RS h2, LRels.closeA H h4⟩
    · simp only [LRel]
  | .ptr id off, _, h => by
    simp only [LRel] at h
    obtain ⟨b, h1, e⟩ := h
    unfold Go.Proofs.YtcjhojdlfnpgjaaGreat.closeB
    split
    · rename_i t l hσ
      obtain ⟨b', ys, g1, g2, g3, g4, g5⟩ := H id _ hσ
      rw [h1] at g1
      simp only [Option.some.injEq, Value.pointer.injEq, Addr.mk.injEq, and_true] at g1
      subst g1
      simp only [LRel]
      exact ⟨⟨b, 0, none⟩, ys, e, fun j u hu => ⟨fun hq => hq, by rw [add0, cell_at g4 j, hu]⟩, LRels.closeA H g5⟩
    · simp only [LRel]
  | .pe _ _, _, _ => by simp only [LRel, Go.Proofs.YtcjhojdlfnpgjaaGreat.closeB]
  | .sub id i n, y, h => by
    simp only [LRel] at h
    obtain ⟨A, N, c, h1, hle, A', rfl, hA, hg⟩ := h
    unfold Go.Proofs.YtcjhojdlfnpgjaaGreat.closeB
    split
    · rename_i vs hσ
      obtain ⟨v', k1, k2, k3⟩ := H id _ hσ
      rw [h1] at k1
      simp only [Option.some.injEq] at k1
      subst k1
      simp only [LRel]
      have hr := own_RS k2
      obtain ⟨A2, c2, e2, hc2, hl2, hp2⟩ := hr
      simp only [Value.slice.injEq] at e2
      obtain ⟨rfl, rfl, rfl⟩ := e2
      refine ⟨A', c - i, by simp; omega, by simp; omega, by simp; omega, fun hp => ?_⟩
      have hn : 0 < n := by simp at hp; omega
      obtain ⟨g, rfl, rfl⟩ := hg hn
      obtain ⟨ad, e3, hF, hcell⟩ := hp2 (by omega)
      cases e3
      refine ⟨_, rfl, hF, fun j u hu => ?_⟩
      rw [List.getElem?_take] at hu
      split at hu
      · rw [List.getElem?_drop] at hu
        have := hcell (i + j) u hu
        rw [show (Addr.mk g 0 none).add (i + j) = (Addr.mk g i none).add j from by rw [add0]; unfold Addr.add; split <;> simp_all] at this
        exact this
      · cases hu
    · simp only [LRel]
  | .fn _ _, _, h => by
    simp only [LRel, Go.Proofs.YtcjhojdlfnpgjaaGreat.closeB] at *
    obtain ⟨ys, e, h⟩ := h
    exact ⟨ys, e, LRels.closeB H h⟩
theorem LRels.closeB (H : ∀ id oc, σ id = some oc → ORel ι F w base (fp id) id oc) : ∀ {l : List LV} {ys : List Value}, LRels ι F w l ys → LRels noI noF w (closeBs σ l) ys
  | [], _, h => by simp only [LRels, Go.Proofs.YtcjhojdlfnpgjaaGreat.closeBs] at *; exact h
  | _ :: _, _, h => by
    simp only [LRels, Go.Proofs.YtcjhojdlfnpgjaaGreat.closeBs] at *
    obtain ⟨y, r, e, h1, h2⟩ := h
    exact ⟨y, r, e, LRel.closeB H h1, LRels.closeB H h2⟩
end
end
end Go.Proofs.YtcjhojdlfnpgjaaGreat
namespace Go.Proofs.YtcjhojdlfnpgjaaGreat
open Go.RowKit
mutual
def plainL : LV → Bool
  | .v _ => true
  | .rdL _ => false
  | .agg l => plainLs l
  | .tup l => plainLs l
  | .own id => decide (id < 16)
  | .ptr id _ => decide (id < 16)
  | _ => false
def plainLs : List LV → Bool
  | [] => true
  | x :: l => plainL x && plainLs l
end
def plainV : LV → Bool
  | .v _ => true
  | _ => false
def plainO : OC → Bool
  | .cells _ l => l.all plainV
  | .rowL _ _ => false
  | .hole _ _ _ _ _ => false
  | .late _ _ => false
  | .cust _ _ j => j.isNone
  | .ghost _ => false
  | _ => true
mutual
theorem LRel.plain {ι ι' : Nat → Option Value} {F F' : Nat → Prop} {w w' : World} (hι : ∀ id v, id < 16 → ι id = some v → ι' id = some v) : ∀ {x : LV} {y : Value}, plainL x = true → LRel ι F w x y → LRel ι' F' w' x y
  | .v _, _, _, h => by simp only [LRel] at *; exact h
  | .agg _, _, hp, h => by
    simp only [LRel, plainL] at *
    obtain ⟨ys, e, h⟩ := h
    exact ⟨ys, e, LRels.plain hι hp h⟩
  | .tup _, _, hp, h => by
    simp only [LRel, plainL] at *
    obtain ⟨ys, e, h⟩ := h
    exact ⟨ys, e, LRels.plain hι hp h⟩
  | .own _, _, hp, h => by
    simp only [LRel, plainL, decide_eq_true_eq] at *
    exact hι _ _ hp h
  | .junk, _, hp, _ => by simp [plainL] at hp
  | .rd _, _, hp, _ => by simp [plainL] at hp
  | .rds _, _, hp, _ => by simp [plainL] at hp
  | .rdL _, _, hp, _ => by simp [plainL] at hp
  | .box _, _, hp, _ => by simp [plainL] at hp
  | .rdA _ _, _, hp, _ => by simp [plainL] at hp
  | .pc _, _, hp, _ => by simp [plainL] at hp
  | .ptr _ _, _, hp, h => by
    simp only [LRel, plainL, decide_eq_true_eq] at *
    obtain ⟨b, h1, h2⟩ := h
    exact ⟨b, hι _ _ hp h1, h2⟩
  | .pe _ _, _, hp, _ => by simp [plainL] at hp
  | .sub _ _ _, _, hp, _ => by simp [plainL] at hp
  | .fn _ _, _, hp, _ => by simp [plainL] at hp
theorem LRels.plain {ι ι' : Nat → Option Value} {F F' : Nat → Prop} {w w' : World} (hι : ∀ id v, id < 16 → ι id = some v → ι' id = some v) : ∀ {l : List LV} {ys : List Value}, plainLs l = true → LRels ι F w l ys → LRels ι' F' w' l ys
  | [], _, _, h => by simp only [LRels] at *; exact h
  | _ :: _, _, hp, h => by
    simp only [LRels, plainLs, Bool.and_eq_true] at *
    obtain ⟨y, r, e, h1, h2⟩ := h
    exact ⟨y, r, e, LRel.plain hι hp.1 h1, LRels.plain hι hp.2 h2⟩
end
mutual
theorem LRel.unren {ι : Nat → Option Value} {F : Nat → Prop} {w : World} {m : Nat → Nat} : ∀ {x : LV} {y : Value}, plainL x = true → LRel ι F w (ren m x) y → LRel (fun i => ι (m i)) F w x y
  | .v _, _, _, h => by simp only [LRel, ren] at *; exact h
  | .agg _, _, hp, h => by
    simp only [LRel, plainL, ren] at *
    obtain ⟨ys, e, h⟩ := h
    exact ⟨ys, e, LRels.unren hp h⟩
  | .tup _, _, hp, h => by
    simp only [LRel, plainL, ren] at *
    obtain ⟨ys, e, h⟩ := h
    exact ⟨ys, e, LRels.unren hp h⟩
  | .own _, _, hp, h => by simp only [LRel, ren] at *; exact h
  | .junk, _, hp, _ => by simp [plainL] at hp
  | .rd _, _, hp, _ => by simp [plainL] at hp
  | .rds _, _, hp, _ => by simp [plainL] at hp
  | .rdL _, _, hp, _ => by simp [plainL] at hp
  | .box _, _, hp, _ => by simp [plainL] at hp
  | .rdA _ _, _, hp, _ => by simp [plainL] at hp
  | .pc _, _, hp, _ => by simp [plainL] at hp
  | .ptr _ _, _, hp, h => by simp only [LRel, ren] at *; exact h
  | .pe _ _, _, hp, _ => by simp [plainL] at hp
  | .sub _ _ _, _, hp, _ => by simp [plainL] at hp
  | .fn _ _, _, hp, _ => by simp [plainL] at hp
theorem LRels.unren {ι : Nat → Option Value} {F : Nat → Prop} {w : World} {m : Nat → Nat} : ∀ {l : List LV} {ys : List Value}, plainLs l = true → LRels ι F w (Go.Proofs.YtcjhojdlfnpgjaaGreat.rens m l) ys → LRels (fun i => ι (m i)) F w l ys
  | [], _, _, h => by simp only [LRels, Go.Proofs.YtcjhojdlfnpgjaaGreat.rens] at *; exact h
  | _ :: _, _, hp, h => by
    simp only [LRels, plainLs, Go.Proofs.YtcjhojdlfnpgjaaGreat.rens, Bool.and_eq_true] at *
    obtain ⟨y, r, e, h1, h2⟩ := h
    exact ⟨y, r, e, LRel.unren hp.1 h1, LRels.unren hp.2 h2⟩
end
theorem own_RSF {w : World} {base e n : Nat} {v : Value} {vs : List Value} {F : Nat → Prop} (h : w.ownsRow base e 1 v n vs) (hF : ∀ k, v.ownBlock = some k → ¬ F k) : RS F w vs v := by
  obtain ⟨A, c, e1, h1, h2, h3⟩ := own_RS h
  refine ⟨A, c, e1, h1, h2, fun hp => ?_⟩
  obtain ⟨ad, rfl, h4, h5⟩ := h3 hp
  exact ⟨ad, rfl, hF _ (by rw [e1]; rfl), h5⟩
theorem OwnAll.rrowF {w : World} {base e : Nat} {F : Nat → Prop} : ∀ {t : List (List Value)} {hs : List Value} {fp : Nat → Prop}, OwnAll w base e fp t hs → (∀ k, fp k → ¬ F k) → RRow F w t hs
  | [], _, _, h, _ => h
  | r :: t, hs, fp, ⟨h, hs', e1, h1, h2, h3⟩, hF => ⟨h, hs', e1, own_RSF h1 fun k hk => hF k (h2 k hk), h3.rrowF fun k hk => hF k hk.1⟩
section
variable {ι2 : Nat → Option Value} {F2 : Nat → Prop} {w : World} {base : Nat} {fp : Nat → Nat → Prop} {σ : Nat → Option OC} {ι : Nat → Option Value} {F : Nat → Prop}
mutual
theorem LRel.frozen (H : ∀ id oc, σ id = some oc → ORel ι2 F2 w base (fp id) id oc) (hF : ∀ k, FF σ fp k → ¬ F k) : ∀ {x : LV} {y : Value}, plainL x = true → LRel ι2 F2 w x y → LRel ι F w (closeA σ x) y
  | .v _, _, _, h => by simp only [LRel, closeA] at *; exact h
  | .agg _, _, hp, h => by
    simp only [LRel, plainL, closeA] at *
    obtain ⟨ys, e, h⟩ := h
    exact ⟨ys, e, LRels.frozen H hF hp h⟩
  | .tup _, _, hp, h => by
    simp only [LRel, plainL, closeA] at *
    obtain ⟨ys, e, h⟩ := h
    exact ⟨ys, e, LRels.frozen H hF hp h⟩
  | .own id, y, hp, h => by
    simp only [LRel] at h
    unfold closeA
    split
    · rename_i vs hσ
      obtain ⟨v', h1, h2, h3⟩ := H id _ hσ
      rw [h] at h1
      simp only [Option.some.injEq] at h1
      subst h1
      simp only [LRel]
      exact own_RSF h2 fun k hk => hF k ⟨id, _, hσ, (h3 k).2 hk⟩
    · rename_i t hσ
      obtain ⟨v', hs, h1, h2, h3, h4, h5⟩ := H id _ hσ
      rw [h] at h1
      simp only [Option.some.injEq] at h1
      subst h1
      simp only [LRel]
      exact ⟨hs, own_RSF h2 fun k hk => hF k ⟨id, _, hσ, h3 k hk⟩, h4.rrowF fun k hk => hF k ⟨id, _, hσ, hk.1⟩⟩
    · rename_i r jj hσ
      obtain ⟨v', y0, h1, h2, h3, h4, h5⟩ := H id _ hσ
      rw [h] at h1
      simp only [Option.some.injEq] at h1
      subst h1
      exact (h2 _ _ _ _ h3).2.2 _ _ fun k hk => hF k ⟨id, _, hσ, hk⟩
    · simp only [LRel]
  | .junk, _, hp, _ => by simp [plainL] at hp
  | .rd _, _, hp, _ => by simp [plainL] at hp
  | .rds _, _, hp, _ => by simp [plainL] at hp
  | .rdL _, _, hp, _ => by simp [plainL] at hp
  | .box _, _, hp, _ => by simp [plainL] at hp
  | .rdA _ _, _, hp, _ => by simp [plainL] at hp
  | .pc _, _, hp, _ => by simp [plainL] at hp
  | .ptr _ _, _, hp, _ => by simp only [LRel, closeA]
  | .pe _ _, _, hp, _ => by simp [plainL] at hp
  | .sub _ _ _, _, hp, _ => by simp [plainL] at hp
  | .fn _ _, _, hp, _ => by simp [plainL] at hp
theorem LRels.frozen (H : ∀ id oc, σ id = some oc → ORel ι2 F2 w base (fp id) id oc) (hF : ∀ k, FF σ fp k → ¬ F k) : ∀ {l : List LV} {ys : List Value}, plainLs l = true → LRels ι2 F2 w l ys → LRels ι F w (closeAs σ l) ys
  | [], _, _, h => by simp only [LRels, closeAs] at *; exact h
  | _ :: _, _, hp, h => by
    simp only [LRels, plainLs, closeAs, Bool.and_eq_true] at *
    obtain ⟨y, r, e, h1, h2⟩ := h
    exact ⟨y, r, e, LRel.frozen H hF hp.1 h1, LRels.frozen H hF hp.2 h2⟩
end
end
theorem LRels.append {ι : Nat → Option Value} {F : Nat → Prop} {w : World} : ∀ {l l' : List LV} {ys ys' : List Value}, LRels ι F w l ys → LRels ι F w l' ys' → LRels ι F w (l ++ l') (ys ++ ys')
  | [], _, _, _, h, h' => by simp only [LRels] at h; subst h; exact h'
  | _ :: _, _, _, _, h, h' => by
    simp only [LRels] at h
    obtain ⟨y, r, rfl, h1, h2⟩ := h
    simp only [List.cons_append, LRels]
    exact ⟨y, _, rfl, h1, LRels.append h2 h'⟩
section
variable {P : Program} {o : Oper} {s : St} {K : LV → St → Prop}
theorem call_args {fo : Operand} {as : Array Operand} {g : Nat} {caps : List LV} (hf : evL s fo = .fn g caps) {w0 : Base} {w : World} {ι : Nat → Option Value} {fp : Nat → Nat → Prop} {f : Nat → Value} (hI : Inv w0 w ι fp s f) :
    ∃ cs, evV f fo = .func (.func g) #[] (List.toArray cs) ∧ LRels noI noF w (closeBs s.σ (as.toList.map (evL s) ++ caps)) (as.toList.map (evV f) ++ cs) := by
  have hv := hI.ev fo
  rw [hf] at hv
  simp only [LRel] at hv
  obtain ⟨cs, e, hc⟩ := hv
  exact ⟨cs, e, LRels.closeB hI.ob ((LRels.map hI.ev _).append hc)⟩
theorem run_call {fo : Operand} {as : Array Operand} {ts : Array TypeId} {g : Nat} (ho : o.op = .call { callee := .value fo, args := as, argTypes := ts }) {f : Nat → Value} {cs : List Value} (e : evV f fo = .func (.func g) #[] (List.toArray cs))
    (ent : ∀ args w, (callFunc g args).run P w = .ok (.enter g args) w) (w : World) : (execOp (evV f) o).run P w = .ok (.enter g (List.toArray (as.toList.map (evV f) ++ cs))) w := by
  have h2 : Array.map (evV f) as ++ List.toArray cs = List.toArray (as.toList.map (evV f) ++ cs) := by
    apply Array.ext'
    simp
  simp only [execOp, ho, resolve, e, Deferred.ofValue, Sem.run_bind, Sem.run_pure, Result.andThen_ok, invoke]
  rw [← h2, ← ent]
  simp
theorem OpT.call {fo : Operand} {as : Array Operand} {ts : Array TypeId} {g : Nat} {caps : List LV} {r : LV} {os : List OC} (ho : o.op = .call { callee := .value fo, args := as, argTypes := ts })
    (hf : evL s fo = .fn g caps) (hs : Spec P g (closeBs s.σ (as.toList.map (evL s) ++ caps)) r os) (hp : plainL r = true) (hK : K (closeA (osF os) r) s) : OpT P o s K := by
  intro w0 w ι fp f hI
  obtain ⟨cs, e, hc⟩ := call_args hf (as := as) hI
  rw [run_call ho e hs.ent w]
  refine .enter _ _ _ ((hs.run w _ hc).mono ?_)
  rintro e w' ⟨v, ι2, fp2, rfl, hI2⟩
  refine ⟨_, s, v, ι, fp, rfl, hI.step hI2.bel.toBelow, ?_, hK⟩
  have h0 := hI2.fr 0
  exact LRel.frozen hI2.ob (fun k hk hq => by have := (hI.lt k hq).2; have := (hI2.low k hk).resolve_right (fun q => q); simp only [Base.of] at this; omega) hp h0
def shift (d i : Nat) : Nat := 1000 + 16 * d + i
def isShift (d j : Nat) : Bool := decide (1000 + 16 * d ≤ j ∧ j < 1000 + 16 * d + 16)
def St.take (s : St) (d : Nat) (os : List OC) : St :=
  ⟨fun i => kill (isShift d) (s.lf i), fun j => if isShift d j then os[j - (1000 + 16 * d)]? else (s.σ j).map (killO (isShift d))⟩
theorem ownsRow_base {w : World} {base base' e n : Nat} {v : Value} {vs : List Value} (h : w.ownsRow base e 1 v n vs) (hb : base' ≤ base) : w.ownsRow base' e 1 v n vs := by
  refine ⟨h.1, ?_⟩
  rcases h.2 with hn | ⟨g, cap, cur, rfl, hg, rest⟩
  · exact .inl hn
  · exact .inr ⟨g, cap, cur, rfl, by omega, rest⟩
theorem OwnAll.base {w : World} {base base' e : Nat} (hb : base' ≤ base) : ∀ {t : List (List Value)} {hs : List Value} {fp : Nat → Prop}, OwnAll w base e fp t hs → OwnAll w base' e fp t hs
  | [], _, _, h => h
  | r :: t, hs, fp, ⟨h, hs', e1, h1, h2, h3⟩ => ⟨h, hs', e1, ownsRow_base h1 hb, h2, h3.base hb⟩
theorem LRels.plainV {ι ι' : Nat → Option Value} {F F' : Nat → Prop} {w w' : World} : ∀ {l : List LV} {ys : List Value}, l.all plainV = true → LRels ι F w l ys → LRels ι' F' w' l ys
  | [], _, _, h => by simp only [LRels] at h ⊢; exact h
  | .v x :: l, ys, hp, h => by
    simp only [LRels, LRel] at h ⊢
    obtain ⟨y, r, e, h1, h2⟩ := h
    exact ⟨y, r, e, h1, LRels.plainV (by simpa [Go.Proofs.YtcjhojdlfnpgjaaGreat.plainV] using hp) h2⟩
theorem ORel.plain {ι ι' : Nat → Option Value} {F F' : Nat → Prop} {w : World} {base base' : Nat} {fp : Nat → Prop} {id id' : Nat} {oc : OC} (h : ORel ι F w base fp id oc) (hp : plainO oc = true) (hι : ∀ v, ι id = some v → ι' id' = some v) (hb : base' ≤ base) : ORel ι' F' w base' fp id' oc := by
  cases oc with
  | cells t l =>
    obtain ⟨b, ys, h1, h2, h3, h4, h5⟩ := h
    exact ⟨b, ys, hι _ h1, by omega, h3, h4, h5.plainV hp⟩
  | rowL e l => simp [plainO] at hp
  | hole e e' t i j => simp [plainO] at hp
  | late e vs => simp [plainO] at hp
  | ghost vs => simp [plainO] at hp
  | row e vs =>
    obtain ⟨v, h1, h2, h3⟩ := h
    exact ⟨v, hι _ h1, ownsRow_base h2 hb, h3⟩
  | rows e e' t =>
    obtain ⟨v, hs, h1, h2, h3, h4, h5⟩ := h
    exact ⟨v, hs, hι _ h1, ownsRow_base h2 hb, h3, h4.base hb, fun k hk => ⟨by have := (h5 k hk).1; omega, (h5 k hk).2⟩⟩
  | cust A r j =>
    obtain ⟨v, y, h1, h2, h3, h4, h5⟩ := h
    simp only [plainO, Option.isNone_iff_eq_none] at hp
    subst hp
    exact ⟨v, y, hι _ h1, h2, h3, fun k hk => ⟨by have := (h4 k hk).1; omega, (h4 k hk).2⟩, fun j hj => by cases hj⟩
theorem ORel.kills {ι ι' : Nat → Option Value} {F F' : Nat → Prop} {w w' : World} {base : Nat} {fp : Nat → Prop} {id : Nat} {oc : OC} {q : Nat → Bool} (h : ORel ι F w base fp id oc) (hid : q id = false)
    (hι : ∀ id v, q id = false → ι id = some v → ι' id = some v) (k : Keeps F F' w w') (hs : w.heap.size ≤ w'.heap.size) (hb : ∀ k, fp k → w'.heap[k]? = w.heap[k]?) : ORel ι' F' w' base fp id (killO q oc) := by
  cases oc with
  | cells t l =>
    obtain ⟨b, ys, h1, h2, h3, h4, h5⟩ := h
    exact ⟨b, ys, hι _ _ hid h1, h2, h3, by rw [hb b ((h3 b).2 rfl)]; exact h4, h5.kills hι k⟩
  | row e vs =>
    obtain ⟨v, h1, h2, h3⟩ := h
    exact ⟨v, hι _ _ hid h1, own_keeps h2 fun k hk => hb k ((h3 k).2 hk), h3⟩
  | rowL e l =>
    obtain ⟨v, ys, h1, h2, h3, h4⟩ := h
    exact ⟨v, ys, hι _ _ hid h1, own_keeps h2 fun k hk => hb k ((h3 k).2 hk), h3, h4.kills hι k⟩
  | rows e e' t =>
    obtain ⟨v, hs', h1, h2, h3, h4, h5⟩ := h
    exact ⟨v, hs', hι _ _ hid h1, own_keeps h2 fun k hk => hb k (h3 k hk), h3, h4.keeps fun k hk => hb k hk.1, fun k hk => ⟨(h5 k hk).1, by have := (h5 k hk).2; omega⟩⟩
  | hole e e' t i j =>
    obtain ⟨v, hs', y, h1, h2, h3, h4, h5, h6, h7⟩ := h
    refine ⟨v, hs', y, hι _ _ hid h1, own_keeps h2 fun k hk => hb k (h3 k hk), h3, h4.keeps fun k hk => hb k hk.1, fun k hk => ⟨(h5 k hk).1, by have := (h5 k hk).2; omega⟩, h6, fun a ha => ?_⟩
    obtain ⟨g1, g2⟩ := Option.filter_eq_some_iff.1 ha
    exact hι _ _ (by simpa using g2) (h7 a g1)
  | cust A r j =>
    obtain ⟨v, y, h1, h2, h3, h4, h5⟩ := h
    refine ⟨v, y, hι _ _ hid h1, h2, (h2 v y w fp h3).2.1 w' hb, fun k hk => ⟨(h4 k hk).1, by have := (h4 k hk).2; omega⟩, fun a ha => ?_⟩
    obtain ⟨g1, g2⟩ := Option.filter_eq_some_iff.1 ha
    exact hι _ _ (by simpa using g2) (h5 a g1)
  | ghost vs =>
    obtain ⟨v, h1, h2, h3⟩ := h
    exact ⟨v, hι _ _ hid h1, h2, h3.keeps k⟩
  | late e vs =>
    rcases h with h | ⟨v, h1, h2, h3⟩ | ⟨b, h1, h2, h3, h4⟩
    · exact .inl ⟨hι _ _ hid h.1, h.2⟩
    · exact .inr (.inl ⟨v, hι _ _ hid h1, own_keeps h2 fun k hk => hb k ((h3 k).2 hk), h3⟩)
    · exact .inr (.inr ⟨b, hι _ _ hid h1, h2, h3, by rw [hb b ((h3 b).2 rfl)]; exact h4⟩)
theorem Inv.take {w0 : Base} {w w' : World} {ι ι2 : Nat → Option Value} {fp fp2 : Nat → Nat → Prop} {f : Nat → Value} (hI : Inv w0 w ι fp s f) {os : List OC} (hl : os.length ≤ 16) (hp : os.all plainO = true) (d : Nat) (hb : Below w.heap.size w w')
    (hlow : ∀ k, FF (osF os) fp2 k → w.heap.size ≤ k) (hob : ∀ id oc, osF os id = some oc → ORel ι2 (FF (osF os) fp2) w' 0 (fp2 id) id oc) (hdis : ∀ id id' oc oc' k, osF os id = some oc → osF os id' = some oc' → fp2 id k → fp2 id' k → id = id') :
    Inv w0 w' (fun j => if isShift d j then ι2 (j - (1000 + 16 * d)) else ι j) (fun j => if isShift d j then fp2 (j - (1000 + 16 * d)) else fp j) (s.take d os) f := by
  have hlt := hI.lt
  have hF : ∀ k, FF (s.take d os).σ (fun j => if isShift d j then fp2 (j - (1000 + 16 * d)) else fp j) k → FF s.σ fp k ∨ w.heap.size ≤ k := by
    rintro k ⟨j, oc, h1, h2⟩
    simp only [St.take] at h1
    cases hj : isShift d j with
    | true =>
      rw [hj, if_pos rfl] at h1
      simp only [hj, if_true] at h2
      exact .inr (hlow k ⟨_, oc, h1, h2⟩)
    | false =>
      rw [hj, if_neg (by decide)] at h1
      simp only [hj, Bool.false_eq_true, if_false] at h2
      cases hs : s.σ j with
      | none => rw [hs] at h1; simp at h1
      | some oc' => exact .inl ⟨j, oc', hs, h2⟩
  have hk : Keeps (FF s.σ fp) (FF (s.take d os).σ (fun j => if isShift d j then fp2 (j - (1000 + 16 * d)) else fp j)) w w' := fun p u hp hc =>
    ⟨(hb.cell (World.block_lt_of_cell? _ _ hc)).trans hc, fun hq => by
      rcases hF _ hq with h | h
      · exact hp h
      · have := World.block_lt_of_cell? _ _ hc; omega⟩
  have hι : ∀ id v, isShift d id = false → ι id = some v → (if isShift d id then ι2 (id - (1000 + 16 * d)) else ι id) = some v := fun id v h e => by rw [h, if_neg (by decide)]; exact e
  have old : ∀ j oc, isShift d j = false → (s.take d os).σ j = some oc → ∃ oc', s.σ j = some oc' ∧ oc = killO (isShift d) oc' := by
    intro j oc hj h
    simp only [St.take, hj, Bool.false_eq_true, if_false] at h
    cases hs : s.σ j with
    | none => rw [hs] at h; simp at h
    | some oc' => rw [hs] at h; simp only [Option.map_some, Option.some.injEq] at h; exact ⟨oc', rfl, h.symm⟩
  have new : ∀ j oc, isShift d j = true → (s.take d os).σ j = some oc → osF os (j - (1000 + 16 * d)) = some oc := by
    intro j oc hj h
    simp only [St.take, hj, if_true] at h
    exact h
  refine ⟨fun i => ?_, fun id oc hi => ?_, fun id id' oc oc' k h1 h2 g1 g2 => ?_, hI.bel.below hb, fun k hk => (hF k hk).elim (hI.low k) fun h => .inl (Nat.le_trans hI.bel.size h), fun id v h => ?_⟩
  · exact (hI.fr i).kills hι hk
  · cases hj : isShift d id with
    | true =>
      have hn := new id oc hj hi
      have := hob _ oc hn
      simp only [hj, if_true]
      exact this.plain (List.all_eq_true.1 hp oc (List.mem_of_getElem? hn)) (fun v hv => by rw [hj, if_pos rfl]; exact hv) (Nat.le_refl _)
    | false =>
      obtain ⟨oc', hs, rfl⟩ := old id oc hj hi
      simp only [hj, Bool.false_eq_true, if_false]
      have ho := hI.ob id oc' hs
      exact ho.kills hj hι hk hb.size fun k hk' => hb.block k (ho.lt k hk').2
  · cases hj : isShift d id with
    | true =>
      simp only [hj, if_true] at g1
      have hn := new id oc hj h1
      cases hj' : isShift d id' with
      | true =>
        simp only [hj', if_true] at g2
        have := hdis _ _ _ _ k hn (new id' oc' hj' h2) g1 g2
        simp only [isShift, decide_eq_true_eq] at hj hj'
        omega
      | false =>
        simp only [hj', Bool.false_eq_true, if_false] at g2
        obtain ⟨oc'', hs, _⟩ := old id' oc' hj' h2
        have a1 := hlow k ⟨_, oc, hn, g1⟩
        have a2 := ((hI.ob id' oc'' hs).lt k g2).2
        omega
    | false =>
      simp only [hj, Bool.false_eq_true, if_false] at g1
      obtain ⟨oc1, hs1, _⟩ := old id oc hj h1
      cases hj' : isShift d id' with
      | true =>
        simp only [hj', if_true] at g2
        have hn := new id' oc' hj' h2
        have a1 := hlow k ⟨_, oc', hn, g2⟩
        have a2 := ((hI.ob id oc1 hs1).lt k g1).2
        omega
      | false =>
        simp only [hj', Bool.false_eq_true, if_false] at g2
        obtain ⟨oc2, hs2, _⟩ := old id' oc' hj' h2
        exact hI.dis _ _ _ _ k hs1 hs2 g1 g2
  · have hj : isShift d id = false := by
      cases hj : isShift d id with
      | false => rfl
      | true =>
        simp only [isShift, decide_eq_true_eq] at hj
        rw [w0.hi id (by omega)] at h
        cases h
    rw [hj, if_neg (by decide)]
    exact hI.fix id v h
theorem OpT.callOwn {fo : Operand} {as : Array Operand} {ts : Array TypeId} {g : Nat} {caps : List LV} {r : LV} {os : List OC} {d : Nat} (ho : o.op = .call { callee := .value fo, args := as, argTypes := ts })
    (hf : evL s fo = .fn g caps) (hs : Spec P g (closeBs s.σ (as.toList.map (evL s) ++ caps)) r os) (hp : plainL r = true) (hl : os.length ≤ 16) (hpo : os.all plainO = true) (hK : K (ren (shift d) r) (s.take d os)) : OpT P o s K := by
  intro w0 w ι fp f hI
  obtain ⟨cs, e, hc⟩ := call_args hf (as := as) hI
  rw [run_call ho e hs.ent w]
  refine .enter _ _ _ ((hs.run w _ hc).mono ?_)
  rintro e w' ⟨v, ι2, fp2, rfl, hI2⟩
  refine ⟨_, _, v, _, _, rfl, hI.take hl hpo d hI2.bel.toBelow (fun k hk => (hI2.low k hk).resolve_right fun q => q) hI2.ob hI2.dis, ?_, hK⟩
  have h0 := hI2.fr 0
  refine LRel.rens (LRel.plain (fun id v hid hv => ?_) hp h0)
  have : isShift d (shift d id) = true := decide_eq_true ⟨Nat.le_add_right _ _, Nat.add_lt_add_left hid _⟩
  rw [this, if_pos rfl, show shift d id - (1000 + 16 * d) = id from Nat.add_sub_cancel_left _ _]
  exact hv
end
end Go.Proofs.YtcjhojdlfnpgjaaGreat
