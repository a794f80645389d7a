/-
  Own work, merged: AM1.
-/
import Derived.AtR
import Derived.Below
import Derived.Laws.AppendOwn
import Derived.Laws.Rows
/-
  The abstract machine, first part: abstract values, owned blocks, what an abstract state says of the machine's own, and the laws of the control steps. Own work; over any program.
-/
namespace Go.AM

/-- Abstract values: a plain value; a decided bool; a pointer to an owned block (at a known place; into a row of values); a slice of an owned row; a function with what it has captured; structs and tuples of such. -/
inductive AV where
  | v (x : Value)
  | tt (b : Bool)
  | ptr (id off : Nat)
  | elt (id off j : Nat)
  | mp (id : Nat)
  | sl (id sz off len : Nat)
  | fn (f : FuncId) (caps : List AV)
  | agg (l : List AV)
  | tup (l : List AV)

/-- Where an abstract block lies, and the capacity of the slices over it. -/
abbrev Loc := Nat → Nat × Nat

mutual
def conc (M : Loc) : AV → Value
  | .v x => x
  | .tt b => .bool b
  | .ptr id off => .pointer (some ⟨(M id).1, off, none⟩)
  | .elt id off j => .pointer (some ⟨(M id).1, off + j, none⟩)
  | .mp id => .map (some (M id).1)
  | .sl id sz off len => .slice (some ⟨(M id).1, off * sz, none⟩) len ((M id).2 - off)
  | .fn f caps => .func (.func f) #[] (concL M caps).toArray
  | .agg l => .agg (concL M l).toArray
  | .tup l => .tuple (concL M l).toArray
def concL (M : Loc) : List AV → List Value
  | [] => []
  | x :: r => conc M x :: concL M r
end

mutual
def AV.bel (n : Nat) : AV → Bool
  | .v _ => true
  | .tt _ => true
  | .ptr id _ => Nat.blt id n
  | .elt id _ _ => Nat.blt id n
  | .mp id => Nat.blt id n
  | .sl id _ _ _ => Nat.blt id n
  | .fn _ caps => belowL n caps
  | .agg l => belowL n l
  | .tup l => belowL n l
def belowL (n : Nat) : List AV → Bool
  | [] => true
  | x :: r => match x.bel n with | true => belowL n r | false => false
end

mutual
theorem conc_congr {M M' : Loc} {n : Nat} (h : ∀ i, i < n → M' i = M i) : ∀ x : AV, x.bel n = true → conc M' x = conc M x
  | .v _, _ => by simp [conc]
  | .tt _, _ => by simp [conc]
  | .ptr id off, hb => by simp [AV.bel] at hb; simp [conc, h id hb]
  | .elt id off j, hb => by simp [AV.bel] at hb; simp [conc, h id hb]
  | .mp id, hb => by simp [AV.bel] at hb; simp [conc, h id hb]
  | .sl id sz off len, hb => by simp [AV.bel] at hb; simp [conc, h id hb]
  | .fn f caps, hb => by simp only [AV.bel] at hb; simp only [conc, concL_congr h caps hb]
  | .agg l, hb => by simp only [AV.bel] at hb; simp only [conc, concL_congr h l hb]
  | .tup l, hb => by simp only [AV.bel] at hb; simp only [conc, concL_congr h l hb]
theorem concL_congr {M M' : Loc} {n : Nat} (h : ∀ i, i < n → M' i = M i) : ∀ l : List AV, belowL n l = true → concL M' l = concL M l
  | [], _ => by simp [concL]
  | x :: r, hb => by
    simp only [belowL] at hb
    split at hb
    · rename_i hx; simp only [concL, conc_congr h x hx, concL_congr h r hb]
    · cases hb
end

/-- A block's contents: parts of known length. -/
inductive Seg where
  | one (x : AV)
  | vals (n : Nat) (vs : List Value)

def concSegs (M : Loc) : List Seg → List Value
  | [] => []
  | .one x :: r => conc M x :: concSegs M r
  | .vals _ vs :: r => vs ++ concSegs M r

def segsOK : List Seg → Prop
  | [] => True
  | .one _ :: r => segsOK r
  | .vals n vs :: r => vs.length = n ∧ segsOK r

def belowSegs (n : Nat) : List Seg → Bool
  | [] => true
  | .one x :: r => match x.bel n with | true => belowSegs n r | false => false
  | .vals _ _ :: r => belowSegs n r

theorem concSegs_congr {M M' : Loc} {n : Nat} (h : ∀ i, i < n → M' i = M i) : ∀ l : List Seg, belowSegs n l = true → concSegs M' l = concSegs M l
  | [], _ => rfl
  | .one x :: r, hb => by
    simp only [belowSegs] at hb
    split at hb
    · rename_i hx; simp only [concSegs, conc_congr h x hx, concSegs_congr h r hb]
    · cases hb
  | .vals _ vs :: r, hb => by simp only [belowSegs] at hb; simp only [concSegs, concSegs_congr h r hb]

/-- An owned block: whole, a row of which the front is known, a map, a row of abstract values. -/
inductive Blk where
  | cells (e : TypeId) (segs : List Seg)
  | row (e sz n : Nat) (vs : List Value)
  | map (es : List (Value × Value))
  | rowA (e sz n : Nat) (xs : List AV)

def BlkAt (M : Loc) (w : World) (id : Nat) : Blk → Prop
  | .cells e segs => w.heap[(M id).1]? = some (.cells (concSegs M segs).toArray e (0, 0)) ∧ segsOK segs
  | .row e sz n vs => vs.length = n * sz ∧ ∃ cur, w.heap[(M id).1]? = some (.cells cur e (0, 0)) ∧ n ≤ (M id).2 ∧ (M id).2 ≤ maxLen ∧ cur.size = (M id).2 * sz ∧ cur.toList.take (n * sz) = vs
  | .map es => ∃ a ck, w.heap[(M id).1]? = some (.map a ck) ∧ a.toList.map (fun e => (e.key, e.val)) = es
  | .rowA e sz n xs => xs.length = n * sz ∧ ∃ cur, w.heap[(M id).1]? = some (.cells cur e (0, 0)) ∧ n ≤ (M id).2 ∧ (M id).2 ≤ maxLen ∧ cur.size = (M id).2 * sz ∧ cur.toList.take (n * sz) = concL M xs

theorem BlkAt.lt {M : Loc} {w : World} {id : Nat} {B : Blk} (h : BlkAt M w id B) : (M id).1 < w.heap.size := by
  cases B with
  | cells e segs => exact (Array.getElem?_eq_some_iff.1 h.1).1
  | row e sz n vs => obtain ⟨_, cur, hc, _⟩ := h; exact (Array.getElem?_eq_some_iff.1 hc).1
  | map es => obtain ⟨_, _, hc, _⟩ := h; exact (Array.getElem?_eq_some_iff.1 hc).1
  | rowA e sz n xs => obtain ⟨_, cur, hc, _⟩ := h; exact (Array.getElem?_eq_some_iff.1 hc).1

def Blk.bel (n : Nat) : Blk → Bool
  | .cells _ segs => belowSegs n segs
  | .row .. => true
  | .map _ => true
  | .rowA _ _ _ xs => belowL n xs

theorem BlkAt.congr {M M' : Loc} {n : Nat} (h : ∀ i, i < n → M' i = M i) {w w' : World} {id : Nat} (hid : id < n) {B : Blk} (hB : B.bel n = true)
    (hw : w'.heap[(M id).1]? = w.heap[(M id).1]?) (hb : BlkAt M w id B) : BlkAt M' w' id B := by
  cases B with
  | cells e segs => exact ⟨by rw [h id hid, hw, concSegs_congr h segs hB]; exact hb.1, hb.2⟩
  | row e sz n vs =>
    obtain ⟨h1, cur, hc, h2⟩ := hb
    exact ⟨h1, cur, by rw [h id hid, hw]; exact hc, by rw [h id hid]; exact h2⟩
  | map es => obtain ⟨a, ck, hc, h2⟩ := hb; exact ⟨a, ck, by rw [h id hid, hw]; exact hc, h2⟩
  | rowA e sz n xs =>
    obtain ⟨h1, cur, hc, h2⟩ := hb
    exact ⟨h1, cur, by rw [h id hid, hw]; exact hc, by rw [h id hid, concL_congr h xs hB]; exact h2⟩

def lk {α : Type} : List (Nat × α) → Nat → Option α
  | [], _ => none
  | (j, x) :: r, i => match Nat.beq i j with | true => some x | false => lk r i

/-- An abstract state: what is known of the temporaries; the owned blocks; a number above all of theirs. -/
structure St where
  t : List (Nat × AV)
  h : List (Nat × Blk)
  nx : Nat

def tBelow (n : Nat) : List (Nat × AV) → Bool
  | [] => true
  | (_, x) :: r => match x.bel n with | true => tBelow n r | false => false
def hBelow (n : Nat) : List (Nat × Blk) → Bool
  | [] => true
  | (i, B) :: r => match Nat.blt i n with | true => (match B.bel n with | true => hBelow n r | false => false) | false => false
def St.bel (σ : St) : Bool := match tBelow σ.nx σ.t with | true => hBelow σ.nx σ.h | false => false

theorem lk_below {n : Nat} : ∀ {l : List (Nat × AV)} {i : Nat} {x : AV}, tBelow n l = true → lk l i = some x → x.bel n = true
  | [], i, x, _, h => by cases h
  | (j, y) :: r, i, x, hb, h => by
    simp only [tBelow] at hb
    split at hb
    · rename_i hy
      simp only [lk] at h
      split at h
      · cases h; exact hy
      · exact lk_below hb h
    · cases hb

theorem lkh_below {n : Nat} : ∀ {l : List (Nat × Blk)} {i : Nat} {B : Blk}, hBelow n l = true → lk l i = some B → i < n ∧ B.bel n = true
  | [], i, x, _, h => by cases h
  | (j, y) :: r, i, x, hb, h => by
    simp only [hBelow] at hb
    split at hb
    · rename_i hj
      split at hb
      · rename_i hy
        simp only [lk] at h
        split at h
        · rename_i he
          have := Nat.eq_of_beq_eq_true he
          subst this; cases h
          exact ⟨by simpa using hj, hy⟩
        · exact lkh_below hb h
      · cases hb
    · cases hb

/-- Which temporaries a run may write. -/
structure Lim where
  lo : Nat
  hi : Nat

/-- The surroundings of a run: the program, the world in which it began and the blocks of it that it may turn, what the outer code holds, the frame, how many temporaries, the deferred calls, where it must come. -/
structure Ctx where
  P : Program
  w0 : World
  S0 : Nat → Prop
  X : World → (Nat → Prop) → Prop
  b : Frame
  n : Lim
  t0 : Array Value
  ds : List Deferred
  Z : List Frame → Machine → Prop

structure Agree (S : Nat → Prop) (w w' : World) : Prop where
  os : w'.os = w.os
  tape : w'.tape = w.tape
  output : w'.output = w.output
  size : w.heap.size ≤ w'.heap.size
  block : ∀ k, k < w.heap.size → ¬ S k → w'.heap[k]? = w.heap[k]?

theorem Agree.refl (S : Nat → Prop) (w : World) : Agree S w w := ⟨rfl, rfl, rfl, Nat.le_refl _, fun _ _ _ => rfl⟩
theorem Agree.trans {S T : Nat → Prop} {a b c : World} (h : Agree S a b) (k : Agree T b c) (hT : ∀ i, T i → i < a.heap.size → S i) : Agree S a c :=
  ⟨k.os.trans h.os, k.tape.trans h.tape, k.output.trans h.output, Nat.le_trans h.size k.size,
   fun i hi hs => (k.block i (Nat.lt_of_lt_of_le hi h.size) (fun t => hs (hT i t hi))).trans (h.block i hi hs)⟩
theorem Agree.below {w w' : World} (h : Agree (fun _ => False) w w') : Go.RowKit.Below w.heap.size w w' := ⟨h.os, h.tape, h.output, h.size, fun k hk => h.block k hk (fun f => f)⟩
theorem Agree.of_below {w w' : World} (h : Go.RowKit.Below w.heap.size w w') : Agree (fun _ => False) w w' := ⟨h.os, h.tape, h.output, h.size, fun k hk _ => h.block k hk⟩

/-- The outer code's part looks at its own blocks alone. -/
def Local (X : World → (Nat → Prop) → Prop) : Prop :=
  ∀ w w' fp, X w fp → (∀ b, fp b → b < w.heap.size) → (∀ b, fp b → w'.heap[b]? = w.heap[b]?) → X w' fp

structure RelH (C : Ctx) (M : Loc) (fp : Nat → Prop) (h : List (Nat × Blk)) (w : World) : Prop where
  heap : ∀ id B, lk h id = some B → BlkAt M w id B
  inj : ∀ id id' B B', lk h id = some B → lk h id' = some B' → (M id).1 = (M id').1 → id = id'
  own : ∀ id B, lk h id = some B → (M id).1 < C.w0.heap.size → C.S0 (M id).1
  apart : ∀ id B, lk h id = some B → ¬ fp (M id).1
  agree : Agree C.S0 C.w0 w
  outer : C.X w fp
  fpok : ∀ b, fp b → b < w.heap.size ∧ (b < C.w0.heap.size → C.S0 b)

structure Rel (C : Ctx) (M : Loc) (fp : Nat → Prop) (σ : St) (a : Act) (w : World) : Prop extends RelH C M fp σ.h w where
  size : a.tmps.size = C.n.hi
  frozen : ∀ i, i < C.n.lo → a.tmps[i]? = C.t0[i]?
  tmps : ∀ i x, lk σ.t i = some x → a.tmps[i]? = some (conc M x)
  defers : a.defers = C.ds

/-- What a look needs: the temporaries, the blocks, the old memory. -/
structure RelQ (C : Ctx) (M : Loc) (σ : St) (a : Act) (w : World) : Prop where
  tmps : ∀ i x, lk σ.t i = some x → a.tmps[i]? = some (conc M x)
  heap : ∀ id B, lk σ.h id = some B → BlkAt M w id B
  agree : Agree C.S0 C.w0 w

theorem Rel.q {C : Ctx} {M : Loc} {fp : Nat → Prop} {σ : St} {a : Act} {w : World} (h : Rel C M fp σ a w) : RelQ C M σ a w := ⟨h.tmps, h.heap, h.agree⟩

/-- From every state of the machine that the abstract one describes the machine comes to where it must. -/
def Run (C : Ctx) (todo : List Item) (σ : St) : Prop :=
  ∀ M fp a w, Rel C M fp σ a w → ∀ cs, ∃ m, Steps C.P (lone (C.b.atR a todo) cs w) m ∧ C.Z cs m

/-! ### Control -/
section
variable {C : Ctx} {k : List Item} {σ : St}

theorem Run.move {todo todo' : List Item} (h : ∀ a cs w, step C.P (lone (C.b.atR a todo) cs w) = .next (lone (C.b.atR a todo') cs w)) (hr : Run C todo' σ) : Run C todo σ :=
  fun M fp a w hR cs => let ⟨m, s, z⟩ := hr M fp a w hR cs; ⟨m, .head (h a cs w) s, z⟩

theorem Run.skip (h : Run C k σ) : Run C (.code .skip :: k) σ := .move (fun _ _ _ => stepR_skip) h
theorem Run.seq {x y : Code} (h : Run C (.code x :: .code y :: k) σ) : Run C (.code (.seq x y) :: k) σ := .move (fun _ _ _ => stepR_seq) h
theorem Run.block {id : Nat} {c : Code} (h : Run C (.code c :: .inBlock id :: k) σ) : Run C (.code (.block id c) :: k) σ := .move (fun _ _ _ => stepR_block) h
theorem Run.inBlock {id : Nat} (h : Run C k σ) : Run C (.inBlock id :: k) σ := .move (fun _ _ _ => stepR_inBlock) h
theorem Run.loop {c : Code} (h : Run C (.code c :: .inLoop c :: k) σ) : Run C (.code (.loop c) :: k) σ := .move (fun _ _ _ => stepR_loop) h
theorem Run.inLoop {c : Code} (h : Run C (.code c :: .inLoop c :: k) σ) : Run C (.inLoop c :: k) σ := .move (fun _ _ _ => stepR_inLoop) h
theorem Run.exit {id : Nat} {k' : List Item} (he : exitTo id k = some k') (h : Run C k' σ) : Run C (.code (.exit id) :: k) σ := .move (fun _ _ _ => stepR_exit he) h
theorem Run.regionEnd {ops : Array Oper} (h : Run C k σ) : Run C (.inRegion ops [] :: k) σ := .move (fun _ _ _ => stepR_region_end) h
theorem Run.region {id : Nat} {ops : Array Oper} (h : Run C (.inRegion ops (List.range ops.size) :: k) σ) : Run C (.code (.region id ops false) :: k) σ := .move (fun _ _ _ => stepR_region) h

/-- What an operand is. -/
def ofConst : Value → AV
  | .bool b => .tt b
  | x => .v x

theorem conc_ofConst (M : Loc) (x : Value) : conc M (ofConst x) = x := by cases x <;> rfl

def St.ev (σ : St) : Operand → Option AV
  | .tmp t => lk σ.t t
  | .const x => some (ofConst x)
  | .global g => some (.v (.pointer (some ⟨g, 0, none⟩)))
  | .func f => some (.fn f [])

theorem RelQ.ev {C : Ctx} {M : Loc} {σ : St} {a : Act} {w : World} (hR : RelQ C M σ a w) {x : Operand} {y : AV} (h : σ.ev x = some y) : a.eval x = conc M y := by
  cases x with
  | tmp t =>
    have := hR.tmps t y h
    show a.tmps.getD t undef = _
    rw [Array.getD_eq_getD_getElem?, this]; rfl
  | const x => cases h; exact (conc_ofConst M x).symm
  | global g => cases h; simp [Act.eval, conc]
  | func f => cases h; simp [Act.eval, conc, concL]

/-- A bool, by what has been decided. -/
def isB (M : Loc) (y : AV) (d : Bool) : Prop := conc M y = .bool d

theorem Run.cond {c : Operand} {x y : Code} {z : AV} {d : Bool} (hz : σ.ev c = some z) (hd : ∀ M, conc M z = .bool d) (h : Run C (.code (if d then x else y) :: k) σ) : Run C (.code (.cond c x y) :: k) σ := by
  intro M fp a w hR cs
  obtain ⟨m, s, e⟩ := h M fp a w hR cs
  exact ⟨m, .head (stepR_cond ((hR.q.ev hz).trans (hd M))) s, e⟩

/-- Less is known. -/
structure St.le (σ' σ : St) : Prop where
  t : ∀ i x, lk σ'.t i = some x → lk σ.t i = some x
  h : ∀ i B, lk σ'.h i = some B → lk σ.h i = some B

theorem Rel.weaken {M : Loc} {fp : Nat → Prop} {σ σ' : St} {a : Act} {w : World} (hR : Rel C M fp σ a w) (hle : σ'.le σ) : Rel C M fp σ' a w :=
  { heap := fun id B h => hR.heap id B (hle.h id B h), inj := fun i j B B' h h' e => hR.inj i j B B' (hle.h _ _ h) (hle.h _ _ h') e,
    own := fun id B h => hR.own id B (hle.h id B h), apart := fun id B h => hR.apart id B (hle.h id B h), agree := hR.agree, outer := hR.outer, fpok := hR.fpok,
    size := hR.size, frozen := hR.frozen, tmps := fun i x h => hR.tmps i x (hle.t i x h), defers := hR.defers }

theorem Run.weaken {todo : List Item} {σ' : St} (h : Run C todo σ') (hle : σ'.le σ) : Run C todo σ :=
  fun M fp a w hR cs => h M fp a w (hR.weaken hle) cs

/-- A list of pairs lies in another one: the check at a loop's head. -/
def inT {α : Type} (l : List (Nat × α)) : List (Nat × α) → Prop
  | [] => True
  | (i, x) :: r => lk l i = some x ∧ inT l r

theorem inT_lk {α : Type} {l : List (Nat × α)} : ∀ {l' : List (Nat × α)}, inT l l' → ∀ i x, lk l' i = some x → lk l i = some x
  | [], _, i, x, h => by cases h
  | (j, y) :: r, hin, i, x, h => by
    simp only [lk] at h
    split at h
    · rename_i he
      have := Nat.eq_of_beq_eq_true he
      subst this; cases h; exact hin.1
    · exact inT_lk hin.2 i x h

theorem Run.to {todo : List Item} {t' : List (Nat × AV)} {h' : List (Nat × Blk)} {n' : Nat} (h : Run C todo ⟨t', h', n'⟩) (ht : inT σ.t t') (hh : inT σ.h h') : Run C todo σ :=
  h.weaken ⟨inT_lk ht, inT_lk hh⟩

theorem Run.induct {ι : Type} {todo : List Item} (S : ι → St) (μ : ι → Nat) (step : ∀ i, (∀ j, μ j < μ i → Run C todo (S j)) → Run C todo (S i)) (i : ι) : Run C todo (S i) := by
  have : ∀ n i, μ i < n → Run C todo (S i) := by
    intro n
    induction n with
    | zero => intro i h; omega
    | succ n ih => intro i h; exact step i fun j hj => ih j (by omega)
  exact this _ i (Nat.lt_succ_self _)
end
end Go.AM
