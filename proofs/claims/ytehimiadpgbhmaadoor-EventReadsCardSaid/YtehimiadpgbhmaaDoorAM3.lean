/-
  The abstract machine, third part: the operations that turn nothing, all of them. Own work; over any program.
-/
import Derived.Test.YtehimiadpgbhmaaDoorAM2
namespace Go.AM

def band (k : IntKind) (a b : Int) : Int := k.wrap ((BitVec.ofInt k.bits a &&& BitVec.ofInt k.bits b).toNat)
def bor (k : IntKind) (a b : Int) : Int := k.wrap ((BitVec.ofInt k.bits a ||| BitVec.ofInt k.bits b).toNat)
def bxor (k : IntKind) (a b : Int) : Int := k.wrap ((BitVec.ofInt k.bits a ^^^ BitVec.ofInt k.bits b).toNat)
def bandn (k : IntKind) (a b : Int) : Int := k.wrap ((BitVec.ofInt k.bits a &&& ~~~(BitVec.ofInt k.bits b)).toNat)
def shlI (k : IntKind) (a b : Int) : Int := k.wrap (a * 2 ^ (min b.toNat k.bits))
def shrI (k : IntKind) (a b : Int) : Int := a.fdiv (2 ^ (min b.toNat k.bits))

/-- A binary operation on plain values: what must hold, and what it gives. -/
def binOf (op : BinOp) : Value → Value → Option (Prop × Value)
  | .int k a, .int k' b =>
    match op with
    | .shl => some (0 ≤ b, .int k (shlI k a b))
    | .shr => some (0 ≤ b, .int k (shrI k a b))
    | .add => some (k = k', .int k (k.wrap (a + b)))
    | .sub => some (k = k', .int k (k.wrap (a - b)))
    | .mul => some (k = k', .int k (k.wrap (a * b)))
    | .quo => some (k = k' ∧ b ≠ 0, .int k (k.wrap (a.tdiv b)))
    | .rem => some (k = k' ∧ b ≠ 0, .int k (a.tmod b))
    | .and => some (k = k', .int k (band k a b))
    | .or => some (k = k', .int k (bor k a b))
    | .xor => some (k = k', .int k (bxor k a b))
    | .andNot => some (k = k', .int k (bandn k a b))
    | .eql => some (k = k', .bool (a == b))
    | .neq => some (k = k', .bool (a != b))
    | .lss => some (k = k', .bool (decide (a < b)))
    | .leq => some (k = k', .bool (decide (a ≤ b)))
    | .gtr => some (k = k', .bool (decide (a > b)))
    | .geq => some (k = k', .bool (decide (a ≥ b)))
  | .string a, .string b =>
    match op with
    | .add => some (((a.size + b.size : Nat) : Int) ≤ IntKind.i64.max, .string (a ++ b))
    | .eql => some (True, .bool (a.toList == b.toList))
    | .neq => some (True, .bool !(a.toList == b.toList))
    | .lss => some (True, .bool (Op.bytesLess a.toList b.toList))
    | .leq => some (True, .bool (Op.bytesLess a.toList b.toList || a.toList == b.toList))
    | .gtr => some (True, .bool !(Op.bytesLess a.toList b.toList || a.toList == b.toList))
    | .geq => some (True, .bool !(Op.bytesLess a.toList b.toList))
    | _ => none
  | _, _ => none

theorem binOf_run {P : Program} {op : BinOp} {t : TypeId} {x y z : Value} {p : Prop} (h : binOf op x y = some (p, z)) (hp : p) (w : World) (ox oy : Operand) :
    (do eqGuard op t ox oy x y; binOp op t x y : Sem Value).run P w = .ok z w := by
  cases x <;> cases y <;> simp only [binOf] at h <;> try (cases h; done)
  · cases op <;> simp only [Option.some.injEq, Prod.mk.injEq] at h <;> obtain ⟨rfl, rfl⟩ := h <;>
      first
      | (simp [eqGuard, binOp, Op.shift, shlI, shrI, Int.not_lt.2 hp]; done)
      | (obtain ⟨rfl, hb⟩ := hp; simp [eqGuard, binOp, Op.intDiv, hb]; done)
      | (subst hp; simp [eqGuard, binOp, Op.intArith, Op.intBits, Op.intCmp, band, bor, bxor, bandn]; done)
  · cases op <;> simp only [Option.some.injEq, Prod.mk.injEq] at h <;> (try (cases h; done)) <;> obtain ⟨rfl, rfl⟩ := h <;>
      first
      | (simp [eqGuard, binOp, Op.stringOp]; done)
      | (have hp' : ¬ IntKind.i64.max < (_ : Int) := Int.not_lt.2 hp
         simp [eqGuard, binOp, Op.stringOp]; simpa using hp')

section
variable {P : Program} {t : TypeId} {w : World}
theorem eqIn_func_nn (d : Nat) {ps rs : Array TypeId} {vd : Bool} (hu : P.underlying t = some (.func ps rs vd)) : (Op.equalIn (d + 1) t .nilFunc .nilFunc).run P w = .ok true w := by
  simp [Op.equalIn, run_underlying hu]
theorem eqIn_func_fn (d : Nat) {ps rs : Array TypeId} {vd : Bool} (hu : P.underlying t = some (.func ps rs vd)) (f : Fn) (a b : Array Value) : (Op.equalIn (d + 1) t (.func f a b) .nilFunc).run P w = .ok false w := by
  simp [Op.equalIn, run_underlying hu]
theorem eqIn_slice_nil (d : Nat) {e : TypeId} (hu : P.underlying t = some (.slice e)) (a : Addr) (l c : Nat) : (Op.equalIn (d + 1) t (.slice (some a) l c) (.slice none 0 0)).run P w = .ok false w := by
  simp [Op.equalIn, run_underlying hu]
theorem eq_func_nn {ps rs : Array TypeId} {vd : Bool} (hu : P.underlying t = some (.func ps rs vd)) : (Op.equal t .nilFunc .nilFunc).run P w = .ok true w := eqIn_func_nn 9999 hu
theorem eq_func_fn {ps rs : Array TypeId} {vd : Bool} (hu : P.underlying t = some (.func ps rs vd)) (f : Fn) (a b : Array Value) : (Op.equal t (.func f a b) .nilFunc).run P w = .ok false w := eqIn_func_fn 9999 hu f a b
theorem eq_slice_nil {e : TypeId} (hu : P.underlying t = some (.slice e)) (a : Addr) (l c : Nat) : (Op.equal t (.slice (some a) l c) (.slice none 0 0)).run P w = .ok false w := eqIn_slice_nil 9999 hu a l c
end

/-- A plain value, if it is one. -/
def AV.toV : AV → Option Value
  | .v x => some x
  | .tt b => some (.bool b)
  | _ => none

theorem AV.toV_conc {M : Loc} {x : AV} {y : Value} (h : x.toV = some y) : conc M x = y := by
  cases x <;> simp only [AV.toV] at h <;> first | (cases h; rfl) | cases h

def evBin (T : Tab) (op : BinOp) (t : TypeId) (x y : AV) : Option (Prop × AV) :=
  match x.toV, y.toV with
  | some (.bool a), some (.bool b) =>
    match T.desc t with
    | some .bool => match op with
      | .eql => some (True, .v (.bool (a == b)))
      | .neq => some (True, .v (.bool (!(a == b))))
      | _ => none
    | _ => none
  | some .nilFunc, some .nilFunc =>
    match T.desc t with
    | some (.func _ _ _) => match op with
      | .eql => some (True, .tt true)
      | .neq => some (True, .tt false)
      | _ => none
    | _ => none
  | some x, some y => match binOf op x y with | some (p, z) => some (p, .v z) | none => none
  | none, some .nilFunc =>
    match x, T.desc t with
    | .fn _ _, some (.func _ _ _) => match op with
      | .eql => some (True, .tt false)
      | .neq => some (True, .tt true)
      | _ => none
    | _, _ => none
  | none, some (.slice none 0 0) =>
    match x, T.desc t with
    | .sl _ _ _ _, some (.slice _) => match op with
      | .eql => some (True, .tt false)
      | .neq => some (True, .tt true)
      | _ => none
    | _, _ => none
  | _, _ => none

theorem tab_undP {P : Program} {T : Tab} (hT : tabOK P T) {t : Nat} {d : TypeDesc} (h : T.desc t = some d) : P.underlying t = some d := by
  unfold Tab.desc at h
  split at h
  · rename_i hi; cases h; exact (hT t _ hi).1
  · cases h

theorem evBin_run {P : Program} {T : Tab} (hT : tabOK P T) {M : Loc} {op : BinOp} {t : TypeId} {x y z : AV} {p : Prop} (h : evBin T op t x y = some (p, z)) (hp : p) (w : World) (ox oy : Operand) :
    (do eqGuard op t ox oy (conc M x) (conc M y); binOp op t (conc M x) (conc M y) : Sem Value).run P w = .ok (conc M z) w := by
  unfold evBin at h
  split at h
  · rename_i a b hx hy
    rw [AV.toV_conc hx, AV.toV_conc hy]
    split at h
    · rename_i hd
      have hu := tab_undP hT hd
      split at h <;> cases h
      · simp [eqGuard, run_eql_bool (P := P) w t a b hu, conc]
      · simp [eqGuard, run_neq_bool (P := P) w t a b hu, conc]
    · cases h
  · rename_i hx hy
    rw [AV.toV_conc hx, AV.toV_conc hy]
    split at h
    · rename_i hd
      have hu := eq_func_nn (w := w) (tab_undP hT hd)
      split at h <;> cases h
      · simp [eqGuard, binOp, hu, conc]
      · simp [eqGuard, binOp, hu, conc]
    · cases h
  · rename_i x' y' hx hy
    rw [AV.toV_conc hx, AV.toV_conc hy]
    split at h
    · rename_i p' z' hb; cases h
      exact binOf_run hb hp w ox oy
    · cases h
  · rename_i hx hy
    rw [AV.toV_conc hy]
    split at h
    · rename_i f caps ps rs vd hd
      have hu := eq_func_fn (w := w) (tab_undP hT hd) (.func f) #[] (concL M caps).toArray
      split at h <;> cases h
      · simp [eqGuard, binOp, hu, conc]
      · simp [eqGuard, binOp, hu, conc]
    · cases h
  · rename_i hx hy
    rw [AV.toV_conc hy]
    split at h
    · rename_i id sz off len e hd
      have hu := eq_slice_nil (w := w) (tab_undP hT hd) ⟨(M id).1, off * sz, none⟩ len ((M id).2 - off)
      split at h <;> cases h
      · simp [eqGuard, binOp, hu, conc]
      · simp [eqGuard, binOp, hu, conc]
    · cases h
  · cases h

end Go.AM
