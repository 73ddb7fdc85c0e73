/- A calculus of verification conditions over logical values: the conditions of single operations, and that they suffice. -/
import Derived.Test.YtdbkiomhoonclaaVb
namespace Go.Proofs.Ytdbkiomhoonclaa
open Go.RowKit
set_option linter.unusedVariables false
set_option linter.unusedSimpArgs false

/-- What the conditions know of the program's types. -/
structure TT where
  sc : Nat → Bool
  ag : Nat → Option Nat
  fo : Nat → Nat → Option Nat
  sl : Nat → Option Nat
  ik : Nat → Option IntKind
  bo : Nat → Bool
  el : Nat → Option (Nat × Value × Nat)
  zr : Nat → Option Value
  ea : Nat → Option Nat

structure TT.Ok (T : TT) (P : Program) : Prop where
  sc : ∀ t, T.sc t = true → ∀ w, (isAgg t).run P w = .ok false w
  ag : ∀ t k, T.ag t = some k → ∀ w, (isAgg t).run P w = .ok true w ∧ (sizeOf t).run P w = .ok k w
  fo : ∀ t j o, T.fo t j = some o → ∀ w a, (Instr.fieldAt t (.pointer (some a)) j).run P w = .ok (.pointer (some (a.add o))) w
  ik : ∀ t k, T.ik t = some k → P.underlying t = some (.int k)
  bo : ∀ t, T.bo t = true → P.underlying t = some .bool
  el : ∀ t e z b, T.el t = some (e, z, b) → P.underlying t = some (.slice e) ∧ ∃ i, P.info? e = some i ∧ i.zero = some z ∧ i.size = 1 ∧ i.bytes = b ∧ z.cells = #[z]
  zr : ∀ t z, T.zr t = some z → ∀ w, (zeroValue t).run P w = .ok z w
  ea : ∀ t e, T.ea t = some e → P.underlying t = some (.slice e) ∧ ∃ i z, P.info? e = some i ∧ i.zero = some z ∧ i.size = 1 ∧ z.cells.size = 1
  s1 : ∀ t, T.sc t = true → ∀ w, (sizeOf t).run P w = .ok 1 w
  sl : ∀ t e, T.sl t = some e → ∀ w, (underlying t).run P w = .ok (.slice e) w ∧ (sizeOf e).run P w = .ok 1 w

def InR (x : Int) : Prop := -9223372036854775808 ≤ x ∧ x ≤ 9223372036854775807

/-- Bit by bit. -/
def andV (k : IntKind) (x y : Int) : Int := k.wrap (BitVec.ofInt k.bits x &&& BitVec.ofInt k.bits y).toNat
def orV (k : IntKind) (x y : Int) : Int := k.wrap (BitVec.ofInt k.bits x ||| BitVec.ofInt k.bits y).toNat
def xorV (k : IntKind) (x y : Int) : Int := k.wrap (BitVec.ofInt k.bits x ^^^ BitVec.ofInt k.bits y).toNat
def shlV (k : IntKind) (x y : Int) : Int := k.wrap (x * 2 ^ (min y.toNat k.bits))
def shrV (k : IntKind) (x y : Int) : Int := x.fdiv (2 ^ (min y.toNat k.bits))

def BinV (T : TT) (t : Nat) : BinOp → Value → Value → (Value → Prop) → Prop
  | .add, .int .i64 a, .int .i64 b, K => InR (a + b) ∧ K (.int .i64 (a + b))
  | .sub, .int .i64 a, .int .i64 b, K => InR (a - b) ∧ K (.int .i64 (a - b))
  | .mul, .int .i64 a, .int .i64 b, K => InR (a * b) ∧ K (.int .i64 (a * b))
  | .quo, .int .i64 a, .int .i64 b, K => b ≠ 0 ∧ InR (a.tdiv b) ∧ K (.int .i64 (a.tdiv b))
  | .rem, .int .i64 a, .int .i64 b, K => b ≠ 0 ∧ K (.int .i64 (a.tmod b))
  | .add, .int .u64 a, .int .u64 b, K => K (.int .u64 (IntKind.u64.wrap (a + b)))
  | .mul, .int .u64 a, .int .u64 b, K => K (.int .u64 (IntKind.u64.wrap (a * b)))
  | .sub, .int .u8 a, .int .u8 b, K => K (.int .u8 (IntKind.u8.wrap (a - b)))
  | .add, .int .u8 a, .int .u8 b, K => K (.int .u8 (IntKind.u8.wrap (a + b)))
  | .eql, .int k a, .int k' b, K => k = k' ∧ K (.bool (a == b))
  | .neq, .int k a, .int k' b, K => k = k' ∧ K (.bool (a != b))
  | .lss, .int k a, .int k' b, K => k = k' ∧ K (.bool (decide (a < b)))
  | .leq, .int k a, .int k' b, K => k = k' ∧ K (.bool (decide (a ≤ b)))
  | .gtr, .int k a, .int k' b, K => k = k' ∧ K (.bool (decide (a > b)))
  | .geq, .int k a, .int k' b, K => k = k' ∧ K (.bool (decide (a ≥ b)))
  | .eql, .string a, .string b, K => K (.bool (a.toList == b.toList))
  | .neq, .string a, .string b, K => K (.bool (!(a.toList == b.toList)))
  | .eql, .bool a, .bool b, K => T.bo t = true ∧ K (.bool (a == b))
  | .neq, .bool a, .bool b, K => T.bo t = true ∧ K (.bool (!(a == b)))
  | .and, .int k a, .int k' b, K => k = k' ∧ K (.int k (andV k a b))
  | .or, .int k a, .int k' b, K => k = k' ∧ K (.int k (orV k a b))
  | .xor, .int k a, .int k' b, K => k = k' ∧ K (.int k (xorV k a b))
  | .shl, .int k a, .int _ b, K => 0 ≤ b ∧ K (.int k (shlV k a b))
  | .shr, .int k a, .int _ b, K => 0 ≤ b ∧ K (.int k (shrV k a b))
  | .add, .string a, .string b, K => a.size + b.size ≤ 9223372036854775807 ∧ K (.string (a ++ b))
  | _, _, _, _ => False

theorem wrapI {x : Int} (h : InR x) : IntKind.i64.wrap x = x := by
  obtain ⟨h1, h2⟩ := h
  rw [IntKind.wrap_i64]
  omega

theorem run_eqB {P : Program} {t : Nat} (ht : P.underlying t = some .bool) (a b : Bool) (w : World) : (Op.equal t (.bool a) (.bool b)).run P w = .ok (a == b) w := by
  have h : ∀ d, (Op.equalIn (d + 1) t (.bool a) (.bool b)).run P w = .ok (a == b) w := fun d => by simp [Op.equalIn, run_underlying ht]
  simp [Op.equal, Op.maxDepth, h 9999]

theorem BinV.sound' {P : Program} {T : TT} (hT : T.Ok P) {b : BinOp} {t : Nat} {x y : Value} {X Y : Operand} {K : Value → Prop} (h : BinV T t b x y K) :
    ∃ v, (∀ w, (do eqGuard b t X Y x y; binOp b t x y : Sem Value).run P w = .ok v w) ∧ K v := by
  unfold BinV at h
  split at h
  · obtain ⟨h1, h2⟩ := h; exact ⟨_, fun w => by simp [eqGuard, binOp, Op.intArith, wrapI h1], h2⟩
  · obtain ⟨h1, h2⟩ := h; exact ⟨_, fun w => by simp [eqGuard, binOp, Op.intArith, wrapI h1], h2⟩
  · obtain ⟨h1, h2⟩ := h; exact ⟨_, fun w => by simp [eqGuard, binOp, Op.intArith, wrapI h1], h2⟩
  · obtain ⟨h0, h1, h2⟩ := h; exact ⟨_, fun w => by simp [eqGuard, binOp, Op.intDiv, h0, wrapI h1], h2⟩
  · obtain ⟨h0, h2⟩ := h; exact ⟨_, fun w => by simp [eqGuard, binOp, Op.intDiv, h0], h2⟩
  · exact ⟨_, fun w => by simp [eqGuard, binOp, Op.intArith], h⟩
  · exact ⟨_, fun w => by simp [eqGuard, binOp, Op.intArith], h⟩
  · exact ⟨_, fun w => by simp [eqGuard, binOp, Op.intArith], h⟩
  · exact ⟨_, fun w => by simp [eqGuard, binOp, Op.intArith], h⟩
  · obtain ⟨rfl, h2⟩ := h; exact ⟨_, fun w => by simp [eqGuard, binOp, Op.intCmp], h2⟩
  · obtain ⟨rfl, h2⟩ := h; exact ⟨_, fun w => by simp [eqGuard, binOp, Op.intCmp], h2⟩
  · obtain ⟨rfl, h2⟩ := h; exact ⟨_, fun w => by simp [eqGuard, binOp, Op.intCmp], h2⟩
  · obtain ⟨rfl, h2⟩ := h; exact ⟨_, fun w => by simp [eqGuard, binOp, Op.intCmp], h2⟩
  · obtain ⟨rfl, h2⟩ := h; exact ⟨_, fun w => by simp [eqGuard, binOp, Op.intCmp], h2⟩
  · obtain ⟨rfl, h2⟩ := h; exact ⟨_, fun w => by simp [eqGuard, binOp, Op.intCmp], h2⟩
  · exact ⟨_, fun w => by simp [eqGuard, binOp, Op.stringOp], h⟩
  · exact ⟨_, fun w => by simp [eqGuard, binOp, Op.stringOp], h⟩
  · obtain ⟨h1, h2⟩ := h; exact ⟨_, fun w => by simp [eqGuard, binOp, run_eqB (hT.bo t h1)], h2⟩
  · obtain ⟨h1, h2⟩ := h; exact ⟨_, fun w => by simp [eqGuard, binOp, run_eqB (hT.bo t h1)], h2⟩
  · obtain ⟨rfl, h2⟩ := h; exact ⟨_, fun w => by simp [eqGuard, binOp, Op.intBits, andV], h2⟩
  · obtain ⟨rfl, h2⟩ := h; exact ⟨_, fun w => by simp [eqGuard, binOp, Op.intBits, orV], h2⟩
  · obtain ⟨rfl, h2⟩ := h; exact ⟨_, fun w => by simp [eqGuard, binOp, Op.intBits, xorV], h2⟩
  · obtain ⟨h1, h2⟩ := h; exact ⟨_, fun w => by simp [eqGuard, binOp, Op.shift, shlV, Int.not_lt.2 h1], h2⟩
  · obtain ⟨h1, h2⟩ := h; exact ⟨_, fun w => by simp [eqGuard, binOp, Op.shift, shrV, Int.not_lt.2 h1], h2⟩
  · obtain ⟨h1, h2⟩ := h; exact ⟨_, fun w => by simp only [eqGuard, binOp, Op.stringOp]; rw [if_neg (c := _ > IntKind.i64.max) (by rw [show IntKind.i64.max = 9223372036854775807 from rfl]; omega)]; simp, h2⟩
  · exact h.elim

/-- The element of a row; a whole number beyond its end. -/
def dv (vs : List Value) (n : Nat) : Value := vs.getD n (.int .i64 0)

/-- What an operation does that turns none of the call's own objects. -/
def OpP (P : Program) (o : Oper) (ρ : Operand → LV) (σ : Nat → Option OC) (r : LV) : Prop :=
  ∀ w0 w ι fp s f, Inv w0 w ι fp s f → s.σ = σ → (∀ x ∈ o.op.operands, evL s x = ρ x) → Out P w0 f (fun r' s' => r' = r ∧ s' = s) ((execOp (evV f) o).run P w)

/-- The conditions of an operation that turns none of the call's own objects. -/
def opL (P : Program) (T : TT) (o : Oper) (ρ : Operand → LV) (σ : Nat → Option OC) (K : LV → Prop) : Prop :=
  match o.op with
  | .move x | .assign x => K (ρ x)
  | .pick c a b => match ρ c with
    | .v (.bool t) => (t = true → K (ρ a)) ∧ (t = false → K (ρ b))
    | _ => False
  | .binOp b t x y _ => match ρ x, ρ y with
    | .v x, .v y => BinV T t b x y fun v => K (.v v)
    | _, _ => False
  | .unOp .not _ x => match ρ x with
    | .v (.bool t) => K (.v (.bool !t))
    | _ => False
  | .unOp .neg _ x => match ρ x with
    | .v (.int .i64 a) => InR (0 - a) ∧ K (.v (.int .i64 (0 - a)))
    | _ => False
  | .extract x j => match ρ x with
    | .tup l => match l[j]? with | some y => K y | none => False
    | _ => False
  | .box _ x => match ρ x with
    | .agg l => K (.box l)
    | .v (.int k a) => K (.box [.v (.int k a)])
    | .v (.string a) => K (.box [.v (.string a)])
    | .rd a => K (.box [.rd a])
    | .rds a => K (.box [.rds a])
    | .rdL a => K (.box [.rdL a])
    | .fn g c => K (.box [.fn g c])
    | _ => False
  | .load t x => match ρ x with
    | .pc y => match T.ag t with
      | none => T.sc t = true ∧ K y
      | some k => k = 1 ∧ K (.agg [y])
    | .box l => match T.ag t with
      | some k => l.length = k ∧ K (.agg l)
      | none => match l with
        | y :: _ => T.sc t = true ∧ K y
        | [] => False
    | .ptr id off => match σ id with
      | some (.cells _ l) => match T.ag t with
        | some k => off = 0 ∧ l.length = k ∧ K (.agg l)
        | none => match l[off]? with
          | some y => T.sc t = true ∧ K y
          | none => False
      | _ => False
    | .pe id i => match σ id with
      | some (.row _ vs) => T.sc t = true ∧ i < vs.length ∧ K (.v (dv vs i))
      | _ => False
    | _ => ∃ r, K r ∧ OpP P o ρ σ r
  | .fieldAddr t x j => match T.fo t j with
    | none => False
    | some o => match ρ x with
      | .box l => match l[o]? with | some y => K (.pc y) | none => False
      | .ptr id off => K (.ptr id (off + o))
      | _ => False
  | .indexAddr t x i => match T.sl t, ρ i with
    | some _, .v (.int _ i) => match ρ x with
      | .rd vs => 0 ≤ i ∧ i < (vs.length : Int) ∧ K (.pc (.v (dv vs i.toNat)))
      | .rds vs => 0 ≤ i ∧ i < (vs.length : Int) ∧ K (.pc (.rd (vs.getD i.toNat [])))
      | .rdL vs => 0 ≤ i ∧ i < (vs.length : Int) ∧ K (.pc (vs.getD i.toNat .junk))
      | .own id => match σ id with
        | some (.row _ vs) => 0 ≤ i ∧ i < (vs.length : Int) ∧ K (.pe id i.toNat)
        | some (.rows _ _ vs) => 0 ≤ i ∧ i < (vs.length : Int) ∧ K (.pe id i.toNat)
        | _ => False
      | _ => ∃ r, K r ∧ OpP P o ρ σ r
    | _, _ => ∃ r, K r ∧ OpP P o ρ σ r
  | .convert a t x => match T.ik a, T.ik t, ρ x with
    | some _, some .i64, .v (.int _ n) => InR n ∧ K (.v (.int .i64 n))
    | some _, some k, .v (.int _ n) => K (.v (.int k (k.wrap n)))
    | _, _, _ => ∃ r, K r ∧ OpP P o ρ σ r
  | .makeFunc (.func g) first caps => if first = #[] then K (.fn g (caps.toList.map ρ)) else (∃ r, K r ∧ OpP P o ρ σ r)
  | .call c => match c.callee with
    | .builtin .len => match c.args[0]?, c.argTypes[0]? with
      | some x, some t => match ρ x with
        | .rd vs => (T.sl t).isSome = true ∧ K (.v (.int .i64 vs.length))
        | .rds vs => (T.sl t).isSome = true ∧ K (.v (.int .i64 vs.length))
        | .rdL vs => (T.sl t).isSome = true ∧ K (.v (.int .i64 vs.length))
        | .own id => match σ id with
          | some (.row _ vs) => (T.sl t).isSome = true ∧ K (.v (.int .i64 vs.length))
          | some (.rows _ _ vs) => (T.sl t).isSome = true ∧ K (.v (.int .i64 vs.length))
          | some (.rowL _ vs) => (T.sl t).isSome = true ∧ K (.v (.int .i64 vs.length))
          | _ => False
        | _ => ∃ r, K r ∧ OpP P o ρ σ r
      | _, _ => ∃ r, K r ∧ OpP P o ρ σ r
    | _ => ∃ r, K r ∧ OpP P o ρ σ r
  | _ => ∃ r, K r ∧ OpP P o ρ σ r

theorem LRels.length {ι : Nat → Option Value} {F : Nat → Prop} {w : World} : ∀ {l : List LV} {ys : List Value}, LRels ι F w l ys → ys.length = l.length
  | [], _, h => by simp only [LRels] at h; rw [h]; rfl
  | _ :: _, _, h => by
    simp only [LRels] at h
    obtain ⟨y, r, e, h1, h2⟩ := h
    rw [e]; simp [h2.length]
theorem LRels.get {ι : Nat → Option Value} {F : Nat → Prop} {w : World} : ∀ {l : List LV} {ys : List Value} (j : Nat) (x : LV), LRels ι F w l ys → l[j]? = some x → ∃ y, ys[j]? = some y ∧ LRel ι F w x y
  | [], _, _, _, _, hj => by simp at hj
  | _ :: _, _, j, x, h, hj => by
    simp only [LRels] at h
    obtain ⟨y, r, e, h1, h2⟩ := h
    subst e
    cases j with
    | zero => simp at hj; subst hj; exact ⟨y, rfl, h1⟩
    | succ j => simpa using LRels.get j x h2 (by simpa using hj)
theorem LRels.map {ι : Nat → Option Value} {F : Nat → Prop} {w : World} {f : Nat → Value} {s : St} (h : ∀ x, LRel ι F w (evL s x) (evV f x)) : ∀ l : List Operand, LRels ι F w (l.map (evL s)) (l.map (evV f))
  | [] => by simp [LRels]
  | x :: l => by simp only [List.map_cons, LRels]; exact ⟨_, _, rfl, h x, LRels.map h l⟩

theorem LRels.map' {ι : Nat → Option Value} {F : Nat → Prop} {w : World} {f : Nat → Value} {ρ : Operand → LV} : ∀ {l : List Operand}, (∀ x ∈ l, LRel ι F w (ρ x) (evV f x)) → LRels ι F w (l.map ρ) (l.map (evV f))
  | [], _ => by simp [LRels]
  | x :: l, h => by simp only [List.map_cons, LRels]; exact ⟨_, _, rfl, h x (by simp), LRels.map' fun y hy => h y (by simp [hy])⟩

theorem run_loadCellsFrom' (P : Program) (w : World) (a : Addr) : ∀ (ys : List Value) (i : Nat) (acc : Array Value), (∀ j u, ys[j]? = some u → w.cell? (a.add (i + j)) = some u) →
    (loadCellsFrom a i ys.length acc).run P w = .ok (acc ++ ys.toArray) w
  | [], i, acc, h => by simp [loadCellsFrom]
  | y :: ys, i, acc, h => by
    have h0 := h 0 y rfl
    simp only [List.length_cons, loadCellsFrom, Sem.run_bind, run_load]
    rw [show i = i + 0 from rfl, h0]
    simp only [Result.andThen_ok, Nat.add_zero]
    rw [run_loadCellsFrom' P w a ys (i + 1) _ (fun j u hu => by rw [show i + 1 + j = i + (j + 1) by omega]; exact h (j + 1) u (by simpa using hu))]
    simp

theorem run_loadAt_sc {P : Program} {T : TT} (hT : T.Ok P) {t : Nat} (ht : T.sc t = true) {w : World} {p : Addr} {u : Value} (hc : w.cell? p = some u) : (Instr.loadAt t (.pointer (some p))).run P w = .ok u w := by
  simp [Instr.loadAt, Instr.sureAddr, loadVar, hT.sc t ht w, hc]
theorem run_loadAt_ag {P : Program} {T : TT} (hT : T.Ok P) {t : Nat} {ys : List Value} (ht : T.ag t = some ys.length) {w : World} {b : Nat} (hc : ∀ j u, ys[j]? = some u → w.cell? ⟨b, j, none⟩ = some u) : (Instr.loadAt t (.pointer (some ⟨b, 0, none⟩))).run P w = .ok (.agg ys.toArray) w := by
  obtain ⟨h1, h2⟩ := hT.ag t _ ht w
  have := run_loadCellsFrom' P w ⟨b, 0, none⟩ ys 0 #[] (fun j u hu => by
    have ha : (⟨b, 0, none⟩ : Addr).add (0 + j) = ⟨b, j, none⟩ := by unfold Addr.add; split <;> simp_all
    rw [ha]; exact hc j u hu)
  simp [Instr.loadAt, Instr.sureAddr, loadVar, h1, h2, loadCells, this]

theorem run_loadAt_agP {P : Program} {T : TT} (hT : T.Ok P) {t : Nat} {ys : List Value} (ht : T.ag t = some ys.length) {w : World} {p : Addr} (hc : ∀ j u, ys[j]? = some u → w.cell? (p.add j) = some u) : (Instr.loadAt t (.pointer (some p))).run P w = .ok (.agg ys.toArray) w := by
  obtain ⟨h1, h2⟩ := hT.ag t _ ht w
  have := run_loadCellsFrom' P w p ys 0 #[] (fun j u hu => by
    rw [Nat.zero_add]; exact hc j u hu)
  simp [Instr.loadAt, Instr.sureAddr, loadVar, h1, h2, loadCells, this]

theorem cell_at {w : World} {b : Nat} {ys : List Value} {t : Nat} {fr : Nat × Nat} (h : w.heap[b]? = some (.cells (List.toArray ys) t fr)) (j : Nat) : w.cell? ⟨b, j, none⟩ = ys[j]? := by
  simp [World.cell?, h]
theorem add0 (b j : Nat) : (⟨b, 0, none⟩ : Addr).add j = ⟨b, j, none⟩ := by unfold Addr.add; split <;> simp_all
theorem add_add (b i j : Nat) : (⟨b, i, none⟩ : Addr).add j = ⟨b, i + j, none⟩ := by unfold Addr.add; split <;> simp_all
theorem dv_get {vs : List Value} {i : Nat} (h : i < vs.length) : vs[i]? = some (dv vs i) := by
  simp [dv, List.getD_eq_getElem?_getD, List.getElem?_eq_getElem h]
theorem own_cell {w : World} {base e : Nat} {v : Value} {vs : List Value} (h : w.ownsRow base e 1 v vs.length vs) {i : Nat} (hi : i < vs.length) : ∃ g cap, v = .slice (some ⟨g, 0, none⟩) vs.length cap ∧ w.cell? ⟨g, i, none⟩ = some (dv vs i) := by
  rcases h.2 with ⟨_, h0⟩ | ⟨g, cap, cur, rfl, _⟩
  · omega
  · refine ⟨g, cap, rfl, ?_⟩
    have := h.cells (g := g) rfl i _ (dv_get hi)
    rwa [add0] at this
theorem own_len {w : World} {base e : Nat} {v : Value} {n : Nat} {vs : List Value} (h : w.ownsRow base e 1 v n vs) : ∃ A cap, v = .slice A n cap := by
  rcases h.2 with ⟨rfl, h0⟩ | ⟨g, cap, cur, rfl, _⟩
  · subst h0; exact ⟨none, 0, rfl⟩
  · exact ⟨_, cap, rfl⟩

section
variable {P : Program} {o : Oper} {ρ : Operand → LV} {σ : Nat → Option OC} {K : LV → Prop}

theorem OpP.pure_ {r : LV} (hK : K r) (h : ∀ w0 w ι fp s f, Inv w0 w ι fp s f → s.σ = σ → (∀ x ∈ o.op.operands, LRel ι (FF σ fp) w (ρ x) (evV f x)) → ∃ v, (execOp (evV f) o).run P w = .ok (.value v) w ∧ LRel ι (FF σ fp) w r v) : ∃ r, K r ∧ OpP P o ρ σ r := by
  refine ⟨r, hK, fun w0 w ι fp s f hI hσ hx => ?_⟩
  obtain ⟨v, hr, hv⟩ := h w0 w ι fp s f hI hσ fun x hm => by rw [← hx x hm, ← hσ]; exact hI.ev x
  rw [hr]
  exact .value r s v w ι fp hI (by rw [hσ]; exact hv) ⟨rfl, rfl⟩
end

end Go.Proofs.Ytdbkiomhoonclaa
