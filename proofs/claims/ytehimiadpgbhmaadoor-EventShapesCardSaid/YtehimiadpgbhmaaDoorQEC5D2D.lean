/-
  Own work, merged: AM15, AM16, AM17, AM18, AM19, AM20, R0.
-/
import Derived.AtR
import Derived.Below
import Derived.ChangeKeysEq
import Derived.Laws.AppendOwn
import Derived.Laws.BytesString
import Derived.Laws.Cells
import Derived.Laws.CopyRow
import Derived.Laws.Entries
import Derived.Laws.Rows
import Derived.Laws.Small
import Derived.Laws.StructEq
import Derived.Maps.AppendAt
import Derived.Orders
import Derived.RangeFuncRecord
import Derived.Test.YtehimiadpgbhmaaDoorQEAB5CB
/-
  The abstract machine, fifteenth part: function values called, iterators, ranges over functions. Own work; over any program.
-/
namespace Go.AM

/-- What a function value that is called does, seen from the frame that calls it. -/
def NextDoes (P : Program) (nx : Next) (w : World) (R : Value → World → Prop) : Prop :=
  match nx with
  | .enter f args => ∀ c cs, ∃ v w', R v w' ∧ Steps P (lone (Frame.enter P f args .normal) (c :: cs) w) (lone (Frame.finish c v) cs w')
  | .round l f tm as bd => ∀ c cs, ∃ v w', R v w' ∧ Steps P (lone (Frame.round l f tm as bd .normal) (c :: cs) w) (lone (Frame.finish c v) cs w')
  | _ => False

def CallsV (P : Program) (y : Value) (args : List Value) (w : World) (R : Value → World → Prop) : Prop :=
  ∃ d nx, (Deferred.ofValue y args.toArray).run P w = .ok d w ∧ (invoke d.target d.args).run P w = .ok nx w ∧ NextDoes P nx w R

theorem NextDoes.mono {P : Program} {nx : Next} {w : World} {R R' : Value → World → Prop} (h : NextDoes P nx w R) (hr : ∀ v w', R v w' → R' v w') : NextDoes P nx w R' := by
  unfold NextDoes at h ⊢
  split at h
  · exact fun c cs => let ⟨v, w', r, s⟩ := h c cs; ⟨v, w', hr _ _ r, s⟩
  · exact fun c cs => let ⟨v, w', r, s⟩ := h c cs; ⟨v, w', hr _ _ r, s⟩
  · exact h.elim

theorem CallsV.mono {P : Program} {y : Value} {args : List Value} {w : World} {R R' : Value → World → Prop} (h : CallsV P y args w R) (hr : ∀ v w', R v w' → R' v w') : CallsV P y args w R' :=
  let ⟨d, nx, h1, h2, h3⟩ := h; ⟨d, nx, h1, h2, h3.mono hr⟩

theorem GivesR.does {P : Program} {f : FuncId} {args : List Value} {w : World} {R : Value → World → Prop} (h : GivesR P f args w R) : NextDoes P (.enter f args.toArray) w R := by
  intro c cs
  obtain ⟨e, w', fr, ⟨v, rfl, hR⟩, hsteps, _, hleave⟩ := h (c :: cs)
  exact ⟨v, w', hR, Steps.trans hsteps (.one (step_leave_returned hleave))⟩

theorem CallsV.of_gives {P : Program} {f : FuncId} {caps : List Value} {args : List Value} {w : World} {R : Value → World → Prop} (hent : Enters P f) (h : GivesR P f (args ++ caps) w R) :
    CallsV P (.func (.func f) #[] caps.toArray) args w R := by
  refine ⟨{ target := .fn (.func f) caps.toArray, args := args.toArray }, .enter f (args ++ caps).toArray, by simp [Deferred.ofValue], ?_, h.does⟩
  simp [invoke, hent _ _]

/-- A call of a function value that a temporary holds. -/
theorem Run.callV {C : Ctx} {k : List Item} {σ : St} {ops : Array Oper} {i : Nat} {rest : List Nat} {o : Oper} {c : Call} {g : Operand} {y : Value} {xs : List AV}
    (ho : ops[i]? = some o) (hop : o.op = .call c) (hc : c.callee = .value g) (hg : σ.ev g = some (.v y)) (hxs : evs σ c.args.toList = some xs) (hw : wantOf ops σ o = some .yes)
    (hcon : ∀ M fp a w, Rel C M fp σ a w → CallsV C.P y (concL M xs) w (fun v w' => ∀ cs, ∃ m, Steps C.P (lone (C.b.atR (a.put o.dst v) (.inRegion ops rest :: k)) cs w') m ∧ C.Z cs m)) :
    Run C (.inRegion ops (i :: rest) :: k) σ := by
  intro M fp a w hR cs
  have hnd : ∀ c, o.op ≠ .defer c := fun c e => by rw [hop] at e; cases e
  have h2 : c.args.map a.eval = (concL M xs).toArray := by apply Array.ext'; simpa using evs_conc hR.q hxs
  obtain ⟨d, nx, h3, h4, h5⟩ := hcon M fp a w hR
  have hr : (execOp a.eval o).run C.P w = .ok nx w := by
    simp only [execOp, hop, resolve, hc, h2, hR.q.ev hg, conc]
    simp [h3, h4]
  have hfin : ∀ v, (C.b.atR a (.inRegion ops (i :: rest) :: k)).finish v = C.b.atR (a.put o.dst v) (.inRegion ops rest :: k) := by intro v; rw [Frame.finish_atR, ho]; rfl
  have hg := stepGR_op (P := C.P) (b := C.b) (k := k) (cs := cs) (w := w) (rest := rest) ho (wantOf_yes hR.q hw)
  rw [Oper.semAt_eq _ _ _ hnd] at hg
  unfold NextDoes at h5
  split at h5
  · rename_i f args
    have s1 : step C.P (lone (C.b.atR a (.inRegion ops (i :: rest) :: k)) cs w) = .next (lone (Frame.enter C.P f args .normal) (C.b.atR a (.inRegion ops (i :: rest) :: k) :: cs) w) :=
      step_lone_go (by rw [hg]; simp [stepG.apply, hr, Frame.atR])
    obtain ⟨v, w', hR', s⟩ := h5 (C.b.atR a (.inRegion ops (i :: rest) :: k)) cs
    obtain ⟨m, s', z⟩ := hR' cs
    rw [hfin] at s
    exact ⟨m, .head s1 (Steps.trans s s'), z⟩
  · rename_i l f tm as bd
    have s1 : step C.P (lone (C.b.atR a (.inRegion ops (i :: rest) :: k)) cs w) = .next (lone (Frame.round l f tm as bd .normal) (C.b.atR a (.inRegion ops (i :: rest) :: k) :: cs) w) :=
      step_lone_go (by rw [hg]; simp [stepG.apply, hr, Frame.atR])
    obtain ⟨v, w', hR', s⟩ := h5 (C.b.atR a (.inRegion ops (i :: rest) :: k)) cs
    obtain ⟨m, s', z⟩ := hR' cs
    rw [hfin] at s
    exact ⟨m, .head s1 (Steps.trans s s'), z⟩
  · exact h5.elim

/-! ### The outer code's part, handed on -/

abbrev Foot := Nat → Prop
abbrev Res := World → Foot → Prop

/-- A footprint after some work on one. -/
def Grown (fp : Foot) (w : World) (fp' : Foot) (w' : World) : Prop :=
  Agree fp w w' ∧ ∀ b, fp' b → b < w'.heap.size ∧ (b < w.heap.size → fp b)

theorem Grown.trans {fp fp1 fp2 : Foot} {w w1 w2 : World} (h : Grown fp w fp1 w1) (k : Grown fp1 w1 fp2 w2) : Grown fp w fp2 w2 :=
  ⟨h.1.trans k.1 (fun i hi hl => (h.2 i hi).2 hl), fun b hb => ⟨(k.2 b hb).1, fun hl => (h.2 b ((k.2 b hb).2 (Nat.lt_of_lt_of_le hl h.1.size))).2 hl⟩⟩

theorem Grown.refl {fp : Foot} {w : World} (h : ∀ b, fp b → b < w.heap.size) : Grown fp w fp w := ⟨Agree.refl _ _, fun b hb => ⟨h b hb, fun _ => hb⟩⟩

/-- The surroundings with another outer part. -/
abbrev Ctx.withX (C : Ctx) (X : Res) : Ctx := { C with X }

/-- The outer part has been worked on; what is owned stands. -/
theorem Rel.grown {C : Ctx} {M : Loc} {fp fp' : Foot} {σ : St} {a : Act} {w w' : World} (hR : Rel C M fp σ a w) (hg : Grown fp w fp' w') {X : Res} (hX : X w' fp') : Rel (C.withX X) M fp' σ a w' := by
  have hb : ∀ id B, lk σ.h id = some B → w'.heap[(M id).1]? = w.heap[(M id).1]? := fun id B h => hg.1.block _ (hR.heap _ _ h).lt (hR.apart _ _ h)
  refine { heap := ?_, inj := hR.inj, own := hR.own, apart := ?_, agree := ?_, outer := hX, fpok := ?_, size := hR.size, frozen := hR.frozen, tmps := hR.tmps, defers := hR.defers }
  · intro id B hB
    have := hR.heap _ _ hB
    have he := hb _ _ hB
    cases B with
    | cells e segs => exact ⟨by rw [he]; exact this.1, this.2⟩
    | row e sz n vs => obtain ⟨h1, cur, h2, h3⟩ := this; exact ⟨h1, cur, by rw [he]; exact h2, h3⟩
    | map es => obtain ⟨h1, cur, h2, h3⟩ := this; exact ⟨h1, cur, by rw [he]; exact h2, h3⟩
    | rowA e sz n xs => obtain ⟨h1, cur, h2, h3⟩ := this; exact ⟨h1, cur, by rw [he]; exact h2, h3⟩
  · intro id B hB hf
    exact hR.apart _ _ hB ((hg.2 _ hf).2 (hR.heap _ _ hB).lt)
  · exact hR.agree.trans hg.1 (fun i hi hl => (hR.fpok i hi).2 hl)
  · intro b hb'
    refine ⟨(hg.2 b hb').1, fun hl => ?_⟩
    exact (hR.fpok b ((hg.2 b hb').2 (Nat.lt_of_lt_of_le hl hR.agree.size))).2 hl

/-- What a call of an iterator's argument does to the outer part: from J pre to J (pre, x), or to the stop. -/
def Yields (P : Program) (y : Value) (J Js : List (List Value) → Res) (w1 : World) (fp1 : Foot) (pre : List (List Value)) (x : List Value) : Prop :=
  ∀ w fp, J pre w fp → Grown fp1 w1 fp w → CallsV P y x w fun v w' =>
    ∃ fp', Grown fp w fp' w' ∧ (v = .bool true ∧ J (pre ++ [x]) w' fp' ∨ v = .bool false ∧ Js (pre ++ [x]) w' fp')

theorem Run.yield {C : Ctx} {k : List Item} {σ : St} {ops : Array Oper} {i : Nat} {rest : List Nat} {o : Oper} {c : Call} {g : Operand} {y : Value} {xs : List AV} {x : List Value} {J Js : List (List Value) → Res} {pre : List (List Value)}
    (hX : C.X = J pre) (hy : Yields C.P y J Js C.w0 C.S0 pre x)
    (ho : ops[i]? = some o) (hop : o.op = .call c) (hc : c.callee = .value g) (hg : σ.ev g = some (.v y)) (hxs : evs σ c.args.toList = some xs) (hx : toVs xs = some x) (hw : wantOf ops σ o = some .yes) (hd : dstOK C.n o.dst = true)
    (ht : Run (C.withX (J (pre ++ [x]))) (.inRegion ops rest :: k) (σ.put o.dst (.tt true)))
    (hf : Run (C.withX (Js (pre ++ [x]))) (.inRegion ops rest :: k) (σ.put o.dst (.tt false))) : Run C (.inRegion ops (i :: rest) :: k) σ := by
  refine Run.callV ho hop hc hg hxs hw fun M fp a w hR => ?_
  rw [toVs_conc hx]
  have h0 : J pre w fp := by rw [← hX]; exact hR.outer
  refine (hy w fp h0 ⟨hR.agree, hR.fpok⟩).mono fun v w' ⟨fp', hgr, hv⟩ cs => ?_
  rcases hv with ⟨rfl, hJ⟩ | ⟨rfl, hJ⟩
  · exact ht M fp' _ w' ((hR.grown hgr hJ).put (C := C.withX _) (z := .tt true) (dstOK_lt hd)) cs
  · exact hf M fp' _ w' ((hR.grown hgr hJ).put (C := C.withX _) (z := .tt false) (dstOK_lt hd)) cs

/-- An iterator: it hands its argument the lists xs, one after another, until that says stop. K: the blocks that it looks at. -/
def Iter (P : Program) (f : FuncId) (caps : List Value) (K : Nat → Prop) (w0 : World) (xs : List (List Value)) : Prop :=
  ∀ (y : Value) (J Js : List (List Value) → Res) (w : World) (fp : Foot), (∀ pre, Local (J pre)) → (∀ pre, Local (Js pre)) → (∀ pre x, pre ++ [x] <+: xs → Yields P y J Js w fp pre x) →
    J [] w fp → (∀ b, fp b → b < w.heap.size) → (∀ b, fp b → ¬ K b) → Agree (fun b => ¬ K b) w0 w →
      GivesR P f (y :: caps) w fun _ w' => ∃ fp', Grown fp w fp' w' ∧ (J xs w' fp' ∨ ∃ pre, pre <+: xs ∧ Js pre w' fp')

theorem givesX_of_run {P : Program} {f : FuncId} {fn : Func} {c : Code} {args : List Value} {w : World} {S0 : Nat → Prop} {X : Res} {fp : Foot} {R : Value → World → Prop} (hf : P.funcs[f]? = some fn) (hb : fn.body = some c)
    (hn : args.length ≤ fn.ntmps) (hX : X w fp) (hfp : ∀ b, fp b → b < w.heap.size ∧ (b < w.heap.size → S0 b)) (h : Run (fnC P f fn.ntmps w S0 X R) [.code c] ⟨argsT 0 args, [], 0⟩) : GivesR P f args w R := by
  intro cs
  let a : Act := { tmps := args.toArray ++ Array.replicate (fn.ntmps - args.length) undef, defers := [] }
  let b : Frame := { (default : Frame) with fn := f, kind := .normal, roundOf := none }
  have henter : Frame.enter P f args.toArray .normal = b.atR a [.code c] := by
    simp [Frame.enter, Frame.atR, hf, hb, b, a]
  have hR : Rel (fnC P f fn.ntmps w S0 X R) (fun _ => (0, 0)) fp ⟨argsT 0 args, [], 0⟩ a w := by
    refine { heap := fun _ _ h => (by cases h), inj := fun _ _ _ _ h => (by cases h), own := fun _ _ h => (by cases h), apart := fun _ _ h => (by cases h), agree := Agree.refl _ _, outer := hX,
             fpok := hfp, size := by simp [a, fnC]; omega, frozen := fun i hi => absurd hi (Nat.not_lt_zero _), tmps := ?_, defers := rfl }
    intro i x hx
    obtain ⟨_, y, h2, rfl⟩ := argsT_lk hx
    simp only [Nat.sub_zero] at h2
    have hlt := (List.getElem?_eq_some_iff.1 h2).1
    simp only [a]
    rw [Array.getElem?_append_left (by simpa using hlt)]
    simpa [conc] using h2
  obtain ⟨m, s, v, w', fr, rfl, h1, h2, h3⟩ := h _ _ a w hR cs
  rw [henter]
  exact ⟨.returned v, w', fr, ⟨v, rfl, h3⟩, s, h1, h2⟩

/-- An iterator, by the walk of its body. -/
theorem Iter.of_run {P : Program} {f : FuncId} {fn : Func} {c : Code} {caps : List Value} {K : Nat → Prop} {w0 : World} {xs : List (List Value)} (hf : P.funcs[f]? = some fn) (hb : fn.body = some c)
    (hn : (caps.length + 1) ≤ fn.ntmps)
    (h : ∀ (y : Value) (J Js : List (List Value) → Res) (w : World) (fp : Foot), (∀ pre, Local (J pre)) → (∀ pre, Local (Js pre)) → (∀ pre x, pre ++ [x] <+: xs → Yields P y J Js w fp pre x) →
      Agree (fun b => ¬ K b) w0 w → (∀ b, fp b → ¬ K b) → ∀ R : Value → World → Prop, (∀ v w' fp' pre, Grown fp w fp' w' → (pre = xs ∧ J pre w' fp' ∨ pre <+: xs ∧ Js pre w' fp') → R v w') →
        Run (fnC P f fn.ntmps w fp (J []) R) [.code c] ⟨argsT 0 (y :: caps), [], 0⟩) : Iter P f caps K w0 xs := by
  intro y J Js w fp hJ hJs hy h0 hfp hK hag
  refine givesX_of_run (S0 := fp) (X := J []) hf hb (by simpa using hn) h0 (fun b hb => ⟨hfp b hb, fun _ => hb⟩) ?_
  refine h y J Js w fp hJ hJs hy hag hK _ fun v w' fp' pre hg hp => ?_
  rcases hp with ⟨rfl, hp⟩ | ⟨h1, h2⟩
  · exact ⟨fp', hg, .inl hp⟩
  · exact ⟨fp', hg, .inr ⟨pre, h1, h2⟩⟩

/-- An iterator's return. -/
theorem Run.retI {P : Program} {f : FuncId} {fn : Func} {n : Nat} {w0 : World} {fp0 : Foot} {R : Value → World → Prop} {σ : St} {k : List Item} {X : Res}
    (hf : P.funcs[f]? = some fn) (hres : fn.results = #[]) (hR : ∀ v w' fp', Grown fp0 w0 fp' w' → X w' fp' → R v w') : Run (fnC P f n w0 fp0 X R) (.code .ret :: k) σ := by
  intro M fp a w hr cs
  refine ⟨_, .one (stepR_ret rfl), .tuple #[], w, _, rfl, rfl, ⟨rfl, hr.defers, rfl, fn, hf, ?_⟩, hR _ w fp ⟨hr.agree, hr.fpok⟩ hr.outer⟩
  simp [results, hres]

theorem Run.finI {P : Program} {f : FuncId} {fn : Func} {n : Nat} {w0 : World} {fp0 : Foot} {R : Value → World → Prop} {σ : St} {X : Res}
    (hf : P.funcs[f]? = some fn) (hres : fn.results = #[]) (hR : ∀ v w' fp', Grown fp0 w0 fp' w' → X w' fp' → R v w') : Run (fnC P f n w0 fp0 X R) [] σ := by
  intro M fp a w hr cs
  refine ⟨_, .one (stepR_end rfl), .tuple #[], w, _, rfl, rfl, ⟨rfl, hr.defers, rfl, fn, hf, ?_⟩, hR _ w fp ⟨hr.agree, hr.fpok⟩ hr.outer⟩
  simp [results, hres]

end Go.AM

/-
  The abstract machine, sixteenth part: the range over a function. Own work; over any program.
-/
namespace Go.AM

theorem BlkAt.same {M : Loc} {w w' : World} {id : Nat} {B : Blk} (h : BlkAt M w id B) (he : w'.heap[(M id).1]? = w.heap[(M id).1]?) : BlkAt M w' id B := by
  cases B with
  | cells e segs => exact ⟨by rw [he]; exact h.1, h.2⟩
  | row e sz n vs => obtain ⟨h1, cur, h2, h3⟩ := h; exact ⟨h1, cur, by rw [he]; exact h2, h3⟩
  | map es => obtain ⟨h1, cur, h2, h3⟩ := h; exact ⟨h1, cur, by rw [he]; exact h2, h3⟩
  | rowA e sz n xs => obtain ⟨h1, cur, h2, h3⟩ := h; exact ⟨h1, cur, by rw [he]; exact h2, h3⟩

theorem lt_of_same {w w' : World} {b : Nat} (h : b < w.heap.size) (he : w'.heap[b]? = w.heap[b]?) : b < w'.heap.size := by
  rw [Array.getElem?_eq_getElem h] at he
  exact (Array.getElem?_eq_some_iff.1 he).1

def mark (D : Nat) : Deferred := { target := .collected D, args := #[] }

def markX (X : Res) (D : Nat) : Res := fun w fp => ∃ fpX, X w fpX ∧ ¬ fpX D ∧ w.heap[D]? = some (.deferred (some [])) ∧ ∀ b, fp b ↔ fpX b ∨ b = D

theorem markX_local {X : Res} (hX : Local X) (D : Nat) : Local (markX X D) := by
  rintro w w' fp ⟨fpX, h1, h2, h3, h4⟩ hlt hs
  exact ⟨fpX, hX w w' fpX h1 (fun b hb => hlt b ((h4 b).2 (.inl hb))) (fun b hb => hs b ((h4 b).2 (.inl hb))), h2, by rw [hs D ((h4 D).2 (.inr rfl))]; exact h3, h4⟩

/-- The surroundings behind a range over a function. -/
def Ctx.marked (C : Ctx) (D : Nat) : Ctx := { C with ds := mark D :: C.ds, X := markX C.X D }

/-- Between the rounds. -/
structure LoopJ (C : Ctx) (t : List (Nat × AV)) (a0 : Array Value) (l : Nat) (rc : Loop) (st : LoopState) (pd : Option Code) (h : List (Nat × Blk)) (M : Loc) (fpX : Foot) (w : World) (fp : Foot) : Prop where
  tmps : ∀ i x, lk t i = some x → a0[i]? = some (conc M x)
  heap : ∀ id B, lk h id = some B → BlkAt M w id B
  inj : ∀ id id' B B', lk h id = some B → lk h id' = some B' → (M id).1 = (M id').1 → id = id'
  own : ∀ id B, lk h id = some B → (M id).1 < C.w0.heap.size → C.S0 (M id).1
  apart : ∀ id B, lk h id = some B → ¬ fpX (M id).1 ∧ (M id).1 ≠ l
  outer : C.X w fpX
  fpok : ∀ b, fpX b → b < w.heap.size ∧ (b < C.w0.heap.size → C.S0 b)
  rc : w.heap[l]? = some (.loop { rc with state := st, pending := pd })
  lX : ¬ fpX l
  lnew : C.w0.heap.size ≤ l
  foot : ∀ b, fp b ↔ fpX b ∨ b = l ∨ ∃ id B, lk h id = some B ∧ (M id).1 = b

section
variable {C : Ctx} {t : List (Nat × AV)} {a0 : Array Value} {l : Nat} {rc : Loop} {st : LoopState} {pd : Option Code} {h : List (Nat × Blk)} {M : Loc} {fpX fp : Foot} {w w' : World}

theorem LoopJ.moved (hL : Local C.X) (hJ : LoopJ C t a0 l rc st pd h M fpX w fp) (hs : ∀ b, fp b → w'.heap[b]? = w.heap[b]?) : LoopJ C t a0 l rc st pd h M fpX w' fp := by
  have hX : ∀ b, fpX b → w'.heap[b]? = w.heap[b]? := fun b hb => hs b ((hJ.foot b).2 (.inl hb))
  refine { hJ with heap := ?_, outer := ?_, fpok := ?_, rc := ?_ }
  · intro id B hB
    exact (hJ.heap _ _ hB).same (hs _ ((hJ.foot _).2 (.inr (.inr ⟨id, B, hB, rfl⟩))))
  · exact hL w w' fpX hJ.outer (fun b hb => (hJ.fpok b hb).1) hX
  · intro b hb
    exact ⟨lt_of_same (hJ.fpok b hb).1 (hX b hb), (hJ.fpok b hb).2⟩
  · rw [hs l ((hJ.foot l).2 (.inr (.inl rfl)))]; exact hJ.rc

/-- The record is turned. -/
theorem LoopJ.record (hL : Local C.X) (hJ : LoopJ C t a0 l rc st pd h M fpX w fp) {o : Obj} :
    (∀ id B, lk h id = some B → BlkAt M (w.putObj l o) id B) ∧ C.X (w.putObj l o) fpX ∧ (∀ b, fpX b → b < (w.putObj l o).heap.size ∧ (b < C.w0.heap.size → C.S0 b)) := by
  refine ⟨fun id B hB => (hJ.heap _ _ hB).same (World.putObj_heap_other (hJ.apart _ _ hB).2), ?_, fun b hb => by rw [World.putObj_size]; exact hJ.fpok b hb⟩
  exact hL w _ fpX hJ.outer (fun b hb => (hJ.fpok b hb).1) (fun b hb => World.putObj_heap_other (fun e => hJ.lX (e ▸ hb)))

theorem agree_putObj {S : Nat → Prop} {w0 w : World} (h : Agree S w0 w) {l : Nat} {o : Obj} (hl : l < w0.heap.size → S l) : Agree S w0 (w.putObj l o) :=
  ⟨h.os, h.tape, h.output, by rw [World.putObj_size]; exact h.size, fun k hk hs => by
    have hne : k ≠ l := fun e => by subst e; exact hs (hl hk)
    rw [World.putObj_heap_other hne]
    exact h.block k hk hs⟩
end

/-- A round's outer part. -/
def roundX (X : Res) (l : Nat) (rc : Loop) (st : LoopState) : Res := fun w fp =>
  ∃ fpX, X w fpX ∧ ¬ fpX l ∧ w.heap[l]? = some (.loop { rc with state := st, pending := none }) ∧ ∀ b, fp b ↔ fpX b ∨ b = l

theorem roundX_local {X : Res} (hX : Local X) (l : Nat) (rc : Loop) (st : LoopState) : Local (roundX X l rc st) := by
  rintro w w' fp ⟨fpX, h1, h2, h3, h4⟩ hlt hs
  exact ⟨fpX, hX w w' fpX h1 (fun b hb => hlt b ((h4 b).2 (.inl hb))) (fun b hb => hs b ((h4 b).2 (.inl hb))), h2, by rw [hs l ((h4 l).2 (.inr rfl))]; exact h3, h4⟩

/-- A round's surroundings. -/
def roundC (C : Ctx) (lo : Nat) (a0 : Array Value) (l : Nat) (rc : Loop) (st : LoopState) (wy : World) (fpy : Foot) (Rr : Value → World → Prop) : Ctx :=
  { P := C.P, w0 := wy, S0 := fpy, X := roundX C.X l rc st, b := { (default : Frame) with fn := C.b.fn, kind := .normal, roundOf := some l }, n := ⟨lo, C.n.hi⟩, t0 := a0, ds := [],
    Z := fun cs m => ∀ c cs', cs = c :: cs' → ∃ v w', m = lone (Frame.finish c v) cs' w' ∧ Rr v w' }

/-- How a round ends: for the next one; with a jump. -/
def roundR (C : Ctx) (t : List (Nat × AV)) (a0 : Array Value) (l : Nat) (rc : Loop) (wy : World) (fpy : Foot) (Next : List (Nat × Blk) → Prop) (Stop : Code → List (Nat × Blk) → Prop) : Value → World → Prop := fun v w' =>
  ∃ fp', Grown fpy wy fp' w' ∧ (v = .bool true ∧ (∃ h M fpX, Next h ∧ LoopJ C t a0 l rc .ready none h M fpX w' fp') ∨
    v = .bool false ∧ (∃ c h M fpX, Stop c h ∧ LoopJ C t a0 l rc .done (some c) h M fpX w' fp'))

def keysLt (lo : Nat) : List (Nat × AV) → Bool
  | [] => true
  | (i, _) :: r => match Nat.blt i lo with | true => keysLt lo r | false => false

theorem keysLt_lk {lo : Nat} : ∀ {l : List (Nat × AV)} {i : Nat} {x : AV}, keysLt lo l = true → lk l i = some x → i < lo
  | [], i, x, _, h => by cases h
  | (j, y) :: r, i, x, hb, h => by
    simp only [keysLt] at hb
    split at hb
    · rename_i hy
      simp only [lk] at h
      split at h
      · rename_i he; have := Nat.eq_of_beq_eq_true he; subst this; simpa using hy
      · exact keysLt_lk hb h
    · cases hb

section
variable {C : Ctx} {lo : Nat} {t : List (Nat × AV)} {a0 : Array Value} {l : Nat} {rc : Loop} {wy : World} {fpy : Foot} {Next : List (Nat × Blk) → Prop} {Stop : Code → List (Nat × Blk) → Prop} {σ : St}

theorem Run.beginRound {Rr : Value → World → Prop} {k : List Item} (hL : Local C.X) (hlw : fpy l) (h : Run (roundC C lo a0 l rc .busy wy fpy Rr) k σ) : Run (roundC C lo a0 l rc .ready wy fpy Rr) (.beginRound :: k) σ := by
  intro M fp a w hR cs
  obtain ⟨fpX, h1, h2, h3, h4⟩ := hR.outer
  have hrun := run_beginRound (P := C.P) h3 rfl
  have hlt : l < w.heap.size := (Array.getElem?_eq_some_iff.1 h3).1
  have hne : ∀ id B, lk σ.h id = some B → (M id).1 ≠ l := fun id B hB e => hR.apart _ _ hB ((h4 _).2 (.inr e))
  have hR' : Rel (roundC C lo a0 l rc .busy wy fpy Rr) M fp σ a (w.putObj l (.loop { rc with state := .busy, pending := none })) := by
    refine { heap := ?_, inj := hR.inj, own := hR.own, apart := hR.apart, agree := ?_, outer := ?_, fpok := ?_, size := hR.size, frozen := hR.frozen, tmps := hR.tmps, defers := hR.defers }
    · exact fun id B hB => (hR.heap _ _ hB).same (World.putObj_heap_other (hne _ _ hB))
    · exact agree_putObj hR.agree (fun _ => hlw)
    · refine ⟨fpX, ?_, h2, World.putObj_heap_same hlt, h4⟩
      exact hL w _ fpX h1 (fun b hb => (hR.fpok b ((h4 b).2 (.inl hb))).1) (fun b hb => World.putObj_heap_other (fun e => h2 (e ▸ hb)))
    · intro b hb; rw [World.putObj_size]; exact hR.fpok b hb
  obtain ⟨m, s, z⟩ := h M fp a _ hR' cs
  exact ⟨m, .head (stepR_beginRound rfl hrun) s, z⟩

/-- The state at a round's end, seen from outside. -/
theorem round_out {Rr : Value → World → Prop} (hL : Local C.X) (hlw : fpy l) (hw0 : Agree C.S0 C.w0 wy) (hfy : ∀ b, fpy b → b < C.w0.heap.size → C.S0 b) (hln : C.w0.heap.size ≤ l) (hlo : keysLt lo t = true)
    {M : Loc} {fp : Foot} {a : Act} {w : World} (hR : Rel (roundC C lo a0 l rc .busy wy fpy Rr) M fp σ a w) (ρ : List (Nat × Nat)) {h' : List (Nat × Blk)}
    (ht : inTR ρ σ.t t) (hh : inHR ρ σ.h h') (ha : AM.apart ρ (keys h') = true) (st : LoopState) (pd : Option Code) :
    ∃ fp' M' fpX, Grown fpy wy fp' (w.putObj l (.loop { rc with state := st, pending := pd })) ∧ LoopJ C t a0 l rc st pd h' M' fpX (w.putObj l (.loop { rc with state := st, pending := pd })) fp' := by
  obtain ⟨fpX, h1, h2, h3, h4⟩ := hR.outer
  have hlt : l < w.heap.size := (Array.getElem?_eq_some_iff.1 h3).1
  have hlk : ∀ id B, lk h' id = some B → lk σ.h (ap ρ id) = some (renB ρ B) := fun id B hB => inHR_lk hh _ _ hB
  have hne : ∀ id B, lk h' id = some B → (M (ap ρ id)).1 ≠ l := fun id B hB e => hR.apart _ _ (hlk _ _ hB) ((h4 _).2 (.inr e))
  refine ⟨fun b => fpX b ∨ b = l ∨ ∃ id B, lk h' id = some B ∧ (M (ap ρ id)).1 = b, fun i => M (ap ρ i), fpX, ⟨agree_putObj hR.agree (fun _ => hlw), ?_⟩, ?_⟩
  · intro b hb
    rw [World.putObj_size]
    rcases hb with hb | rfl | ⟨id, B, hB, rfl⟩
    · exact hR.fpok b ((h4 b).2 (.inl hb))
    · exact ⟨hlt, fun _ => hlw⟩
    · exact ⟨(hR.heap _ _ (hlk _ _ hB)).lt, hR.own _ _ (hlk _ _ hB)⟩
  · refine { tmps := ?_, heap := ?_, inj := ?_, own := ?_, apart := ?_, outer := ?_, fpok := ?_, rc := World.putObj_heap_same hlt, lX := h2, lnew := hln, foot := fun b => Iff.rfl }
    · intro i x hx
      have hfz : a.tmps[i]? = a0[i]? := hR.frozen i (keysLt_lk hlo hx)
      rw [← hfz, hR.tmps i _ (inTR_lk ht i x hx), conc_ren]
    · intro id B hB
      exact (hR.heap _ _ (hlk _ _ hB)).ren.same (World.putObj_heap_other (hne _ _ hB))
    · intro id id' B B' hB hB' e
      exact apart_spec ha (lk_keys hB) (lk_keys hB') (hR.inj _ _ _ _ (hlk _ _ hB) (hlk _ _ hB') e)
    · intro id B hB hl
      exact hfy _ (hR.own _ _ (hlk _ _ hB) (Nat.lt_of_lt_of_le hl hw0.size)) hl
    · exact fun id B hB => ⟨fun hf => hR.apart _ _ (hlk _ _ hB) ((h4 _).2 (.inl hf)), hne _ _ hB⟩
    · exact hL w _ fpX h1 (fun b hb => (hR.fpok b ((h4 b).2 (.inl hb))).1) (fun b hb => World.putObj_heap_other (fun e => h2 (e ▸ hb)))
    · intro b hb
      have := hR.fpok b ((h4 b).2 (.inl hb))
      rw [World.putObj_size]
      exact ⟨this.1, fun hl => hfy _ (this.2 (Nat.lt_of_lt_of_le hl hw0.size)) hl⟩

/-- What is known in a round of its surroundings. -/
structure RoundIn (C : Ctx) (lo : Nat) (t : List (Nat × AV)) (l : Nat) (wy : World) (fpy : Foot) : Prop where
  loc : Local C.X
  lw : fpy l
  w0 : Agree C.S0 C.w0 wy
  fy : ∀ b, fpy b → b < C.w0.heap.size → C.S0 b
  ln : C.w0.heap.size ≤ l
  lo : keysLt lo t = true

theorem Run.roundEnd (hI : RoundIn C lo t l wy fpy) (ρ : List (Nat × Nat)) (h' : List (Nat × Blk)) (hN : Next h') (ht : inTR ρ σ.t t) (hh : inHR ρ σ.h h') (ha : AM.apart ρ (keys h') = true) :
    Run (roundC C lo a0 l rc .busy wy fpy (roundR C t a0 l rc wy fpy Next Stop)) [] σ := by
  intro M fp a w hR cs
  match cs with
  | [] => exact ⟨_, .refl _ _, fun c cs' e => by cases e⟩
  | c :: cs =>
    obtain ⟨fpX, h1, h2, h3, h4⟩ := hR.outer
    obtain ⟨fp', M', fpX', hg, hJ⟩ := round_out hI.loc hI.lw hI.w0 hI.fy hI.ln hI.lo hR ρ ht hh ha .ready none
    refine ⟨_, .one (stepR_round_end rfl rfl (run_endRound (P := C.P) none h3)), fun c' cs' e => ?_⟩
    cases e
    exact ⟨.bool true, _, rfl, fp', hg, .inl ⟨rfl, h', M', fpX', hN, hJ⟩⟩

theorem Run.roundRet (hI : RoundIn C lo t l wy fpy) (ρ : List (Nat × Nat)) (h' : List (Nat × Blk)) {k : List Item} (hN : Stop .ret h') (ht : inTR ρ σ.t t) (hh : inHR ρ σ.h h') (ha : AM.apart ρ (keys h') = true) :
    Run (roundC C lo a0 l rc .busy wy fpy (roundR C t a0 l rc wy fpy Next Stop)) (.code .ret :: k) σ := by
  intro M fp a w hR cs
  match cs with
  | [] => exact ⟨_, .refl _ _, fun c cs' e => by cases e⟩
  | c :: cs =>
    obtain ⟨fpX, h1, h2, h3, h4⟩ := hR.outer
    obtain ⟨fp', M', fpX', hg, hJ⟩ := round_out hI.loc hI.lw hI.w0 hI.fy hI.ln hI.lo hR ρ ht hh ha .done (some .ret)
    refine ⟨_, .one (stepR_round_ret rfl rfl (run_endRound (P := C.P) (some .ret) h3)), fun c' cs' e => ?_⟩
    cases e
    exact ⟨.bool false, _, rfl, fp', hg, .inr ⟨rfl, .ret, h', M', fpX', hN, hJ⟩⟩

theorem Run.roundExit (hI : RoundIn C lo t l wy fpy) (ρ : List (Nat × Nat)) (h' : List (Nat × Blk)) {id : Nat} {k : List Item} (hx : exitTo id k = none) (hN : Stop (.exit id) h') (ht : inTR ρ σ.t t) (hh : inHR ρ σ.h h') (ha : AM.apart ρ (keys h') = true) :
    Run (roundC C lo a0 l rc .busy wy fpy (roundR C t a0 l rc wy fpy Next Stop)) (.code (.exit id) :: k) σ := by
  intro M fp a w hR cs
  match cs with
  | [] => exact ⟨_, .refl _ _, fun c cs' e => by cases e⟩
  | c :: cs =>
    obtain ⟨fpX, h1, h2, h3, h4⟩ := hR.outer
    obtain ⟨fp', M', fpX', hg, hJ⟩ := round_out hI.loc hI.lw hI.w0 hI.fy hI.ln hI.lo hR ρ ht hh ha .done (some (.exit id))
    refine ⟨_, .one (stepR_round_exit rfl rfl hx (run_endRound (P := C.P) (some (.exit id)) h3)), fun c' cs' e => ?_⟩
    cases e
    exact ⟨.bool false, _, rfl, fp', hg, .inr ⟨rfl, .exit id, h', M', fpX', hN, hJ⟩⟩
end
end Go.AM

/-
  The abstract machine, seventeenth part: the range over a function, joined; the return behind it. Own work; over any program.
-/
namespace Go.AM

def parT : List (Nat × Value) → List (Nat × AV) → List (Nat × AV)
  | [], t => t
  | (p, x) :: r, t => parT r ((p, .v x) :: t)

def psOK (lo hi : Nat) : List Nat → Bool
  | [] => true
  | p :: r => match Nat.ble lo p with | true => (match Nat.blt p hi with | true => psOK lo hi r | false => false) | false => false

theorem psOK_mem {lo hi : Nat} : ∀ {l : List Nat}, psOK lo hi l = true → ∀ p ∈ l, lo ≤ p ∧ p < hi
  | [], _, p, h => by cases h
  | q :: r, h, p, hp => by
    simp only [psOK] at h
    split at h
    · rename_i h1
      split at h
      · rename_i h2
        cases hp with
        | head => exact ⟨Nat.le_of_ble_eq_true h1, by simpa using h2⟩
        | tail _ hp => exact psOK_mem h p hp
      · cases h
    · cases h

theorem parT_run {M : Loc} {lo : Nat} : ∀ (L : List (Nat × Value)) (t : List (Nat × AV)) (arr : Array Value), (∀ q ∈ L, lo ≤ q.1 ∧ q.1 < arr.size) → (∀ i x, lk t i = some x → arr[i]? = some (conc M x)) →
    (L.foldl (fun tm q => tm.setIfInBounds q.1 q.2) arr).size = arr.size ∧ (∀ i, i < lo → (L.foldl (fun tm q => tm.setIfInBounds q.1 q.2) arr)[i]? = arr[i]?) ∧
      ∀ i x, lk (parT L t) i = some x → (L.foldl (fun tm q => tm.setIfInBounds q.1 q.2) arr)[i]? = some (conc M x)
  | [], t, arr, _, h => ⟨rfl, fun _ _ => rfl, h⟩
  | (p, v) :: L, t, arr, hb, h => by
    have hp := hb (p, v) (List.mem_cons_self ..)
    simp only at hp
    obtain ⟨h1, h2, h3⟩ := parT_run L ((p, .v v) :: t) (arr.setIfInBounds p v) (fun q hq => by rw [Array.size_setIfInBounds]; exact hb q (List.mem_cons_of_mem _ hq)) (by
      intro i x hx
      simp only [lk] at hx
      split at hx
      · rename_i he
        have e := Nat.eq_of_beq_eq_true he
        subst e; cases hx
        simp [hp.2, conc]
      · rename_i he
        have hne : p ≠ i := fun e => by subst e; simp at he
        rw [Array.getElem?_setIfInBounds, if_neg hne]
        exact h i x hx)
    simp only [List.foldl_cons, parT]
    refine ⟨by rw [h1, Array.size_setIfInBounds], fun i hi => ?_, h3⟩
    rw [h2 i hi, Array.getElem?_setIfInBounds, if_neg (by omega)]

theorem Run.rangeFn {C : Ctx} (hL : Local C.X) {k : List Item} {σ : St} {g : Operand} {ps : Array Tmp} {assign body : Code} {f : FuncId} {vs : List Value} {z : AV}
    (hro : C.b.roundOf = none) (hg : σ.ev g = some z) (hz : ∀ M, conc M z = .func (.func f) #[] vs.toArray) (hent : Enters C.P f)
    (lo : Nat) (t : List (Nat × AV)) (htin : inT σ.t t) (hlo : keysLt lo t = true) (hps : psOK lo C.n.hi ps.toList = true)
    {K : Nat → Prop} {xs : List (List Value)} (hit : Iter C.P f vs K C.w0 xs) (hK : ∀ b, K b → b < C.w0.heap.size ∧ ¬ C.S0 b) (hlen : ∀ x ∈ xs, x.length = ps.size)
    (Inv : List (List Value) → List (Nat × Blk) → Prop) (Stop : List (List Value) → Code → List (Nat × Blk) → Prop) (N : Nat)
    (h0 : List (Nat × Blk)) (hI0 : Inv [] h0) (hin : inT σ.h h0)
    (hround : ∀ D l a0 rc wy fpy pre x h, RoundIn (C.marked D) lo t l wy fpy → pre ++ [x] <+: xs → Inv pre h →
      Run (roundC (C.marked D) lo a0 l rc .ready wy fpy (roundR (C.marked D) t a0 l rc wy fpy (Inv (pre ++ [x])) (Stop (pre ++ [x])))) [.code assign, .beginRound, .code body] ⟨parT (ps.toList.zip x) t, h, N⟩)
    (hdone : ∀ D h, Inv xs h → Run (C.marked D) k ⟨t, h, N⟩)
    (hstop : ∀ D pre c h, pre <+: xs → Stop pre c h → Run (C.marked D) (.code c :: k) ⟨t, h, N⟩) :
    Run C (.code (.rangeFunc g ps assign body) :: k) σ := by
  intro M fp a w hR cs
  let D := w.heap.size
  let l := w.heap.size + 1
  let rc : Loop := { state := .ready, pending := none, fn := C.b.fn, tmps := a.tmps, params := ps, assign, body, defers := D }
  let W1 : World := (w.alloc (.deferred (some []))).alloc (.loop rc)
  let y : Value := .func (.yield l) #[] #[]
  have he : (Instr.enterLoop C.b.fn a.tmps ps assign body C.b.roundOf).run C.P w = .ok (l, [mark D]) W1 := by rw [hro]; exact run_enterLoop_outer C.b.fn a.tmps ps assign body
  have hres : (resolve a.eval (rangeCall g l) 0).run C.P W1 = .ok { target := .fn (.func f) vs.toArray, args := #[y] } W1 := by
    simp [resolve, hR.q.ev hg, hz, Deferred.ofValue, y]
    rfl
  have hinv : (invoke (.fn (.func f) vs.toArray) #[y]).run C.P W1 = .ok (.enter f (y :: vs).toArray) W1 := by
    have : (#[y] ++ vs.toArray : Array Value) = (y :: vs).toArray := by simp
    simp only [invoke, this, hent _ _]
  have s1 := stepR_rangeFunc (P := C.P) (b := C.b) (a := a) (k := k) (cs := cs) (w := w) he hres hinv
  have hws : W1.heap.size = w.heap.size + 2 := by simp only [W1, World.size_alloc]
  have hold : ∀ b, b < w.heap.size → W1.heap[b]? = w.heap[b]? := by
    intro b hb
    simp only [W1]
    rw [heap_alloc_old _ _ b (by rw [World.size_alloc]; omega), heap_alloc_old _ _ b hb]
  have hD : W1.heap[D]? = some (.deferred (some [])) := by
    simp only [W1, D]
    rw [heap_alloc_old _ _ _ (by rw [World.size_alloc]; omega)]
    exact World.alloc_heap_new _ _
  have hl : W1.heap[l]? = some (.loop rc) := by
    have := World.alloc_heap_new (w.alloc (.deferred (some []))) (.loop rc)
    rw [show (w.alloc (.deferred (some []))).heap.size = l by simp only [World.size_alloc, l]] at this
    exact this
  have hblk : ∀ id B, lk h0 id = some B → lk σ.h id = some B := fun id B hB => inT_lk hin id B hB
  let J : List (List Value) → Res := fun pre w fp => ∃ h M fpX, Inv pre h ∧ LoopJ (C.marked D) t a.tmps l rc .ready none h M fpX w fp
  let Js : List (List Value) → Res := fun pre w fp => ∃ c h M fpX, Stop pre c h ∧ LoopJ (C.marked D) t a.tmps l rc .done (some c) h M fpX w fp
  have hLm : Local (C.marked D).X := markX_local hL D
  have hJl : ∀ pre, Local (J pre) := fun pre w w' fp ⟨h, M, fpX, h1, h2⟩ _ hs => ⟨h, M, fpX, h1, h2.moved hLm hs⟩
  have hJsl : ∀ pre, Local (Js pre) := fun pre w w' fp ⟨c, h, M, fpX, h1, h2⟩ _ hs => ⟨c, h, M, fpX, h1, h2.moved hLm hs⟩
  let fp1 : Foot := fun b => (fp b ∨ b = D) ∨ b = l ∨ ∃ id B, lk h0 id = some B ∧ (M id).1 = b
  have hfl : ∀ b, fp b → b < w.heap.size := fun b hb => (hR.fpok b hb).1
  have hml : ∀ id B, lk h0 id = some B → (M id).1 < w.heap.size := fun id B hB => (hR.heap _ _ (hblk _ _ hB)).lt
  have hwle : C.w0.heap.size ≤ w.heap.size := hR.agree.size
  have hfp1 : ∀ b, fp1 b → b < W1.heap.size ∧ (b < C.w0.heap.size → C.S0 b) := by
    intro b hb
    rw [hws]
    rcases hb with (hb | rfl) | rfl | ⟨id, B, hB, rfl⟩
    · exact ⟨by have := hfl b hb; omega, (hR.fpok b hb).2⟩
    · exact ⟨by simp only [D]; omega, fun h => by simp only [D] at h; omega⟩
    · exact ⟨by simp only [l]; omega, fun h => by simp only [l] at h; omega⟩
    · exact ⟨by have := hml _ _ hB; omega, hR.own _ _ (hblk _ _ hB)⟩
  have hW1 : Agree C.S0 C.w0 W1 := ⟨hR.agree.os, hR.agree.tape, hR.agree.output, by rw [hws]; omega, fun b hb hs => by rw [hold b (by omega)]; exact hR.agree.block b hb hs⟩
  have hJ0 : J [] W1 fp1 := by
    refine ⟨h0, M, fun b => fp b ∨ b = D, hI0, ?_⟩
    refine { tmps := fun i x hx => hR.tmps i x (inT_lk htin i x hx), heap := ?_, inj := ?_, own := ?_, apart := ?_, outer := ?_, fpok := ?_, rc := hl, lX := ?_, lnew := ?_, foot := fun b => Iff.rfl }
    · exact fun id B hB => (hR.heap _ _ (hblk _ _ hB)).same (hold _ (hml _ _ hB))
    · exact fun id id' B B' hB hB' e => hR.inj _ _ _ _ (hblk _ _ hB) (hblk _ _ hB') e
    · exact fun id B hB => hR.own _ _ (hblk _ _ hB)
    · intro id B hB
      have := hml _ _ hB
      refine ⟨fun hf => ?_, fun e => by simp only [l] at e; omega⟩
      rcases hf with hf | hf
      · exact hR.apart _ _ (hblk _ _ hB) hf
      · simp only [D] at hf; omega
    · exact ⟨fp, hL w W1 fp hR.outer hfl (fun b hb => hold b (hfl b hb)), fun hf => Nat.lt_irrefl _ (hfl _ hf), hD, fun b => Iff.rfl⟩
    · intro b hb
      exact hfp1 b (.inl hb)
    · intro hf
      rcases hf with hf | hf
      · have := hfl _ hf; simp only [l] at this; omega
      · simp only [l, D] at hf; omega
    · show C.w0.heap.size ≤ l
      simp only [l]; omega
  have hys : ∀ pre x, pre ++ [x] <+: xs → Yields C.P y J Js W1 fp1 pre x := by
    intro pre x hpx wy fpy hJy hgr
    obtain ⟨h, M', fpX, hinvp, hJ⟩ := hJy
    have hx : x.length = ps.size := hlen x (hpx.subset (by simp))
    have hag : Agree C.S0 C.w0 wy := hW1.trans hgr.1 (fun i hi hl => (hfp1 i hi).2 hl)
    have hfy : ∀ b, fpy b → b < C.w0.heap.size → C.S0 b := fun b hb hlt => (hfp1 b ((hgr.2 b hb).2 (by have := hW1.size; omega))).2 hlt
    have hrun := run_yield (P := C.P) (args := x.toArray) hJ.rc (by simpa using hx)
    refine ⟨{ target := .fn (.yield l) #[], args := x.toArray }, _, by simp [Deferred.ofValue, y], by simp only [invoke]; exact hrun, ?_⟩
    intro c cs'
    have hpr := parT_run (M := M') (lo := lo) (ps.toList.zip x) t a.tmps (fun q hq => by
      have := psOK_mem hps q.1 (List.of_mem_zip hq).1
      rw [hR.size]; exact this) hJ.tmps
    have htm : (ps.zip x.toArray).foldl (fun tmps (q : Nat × Value) => tmps.setIfInBounds q.1 q.2) a.tmps = (ps.toList.zip x).foldl (fun tm q => tm.setIfInBounds q.1 q.2) a.tmps := by
      rw [← Array.foldl_toList]; simp
    let a' : Act := { tmps := (ps.toList.zip x).foldl (fun tm q => tm.setIfInBounds q.1 q.2) a.tmps, defers := [] }
    have hI : RoundIn (C.marked D) lo t l wy fpy := ⟨hLm, (hJ.foot l).2 (.inr (.inl rfl)), hag, hfy, hJ.lnew, hlo⟩
    have hrel : Rel (roundC (C.marked D) lo a.tmps l rc .ready wy fpy (roundR (C.marked D) t a.tmps l rc wy fpy (Inv (pre ++ [x])) (Stop (pre ++ [x])))) M' (fun b => fpX b ∨ b = l) ⟨parT (ps.toList.zip x) t, h, N⟩ a' wy := by
      refine { heap := hJ.heap, inj := hJ.inj, own := ?_, apart := ?_, agree := Agree.refl _ _, outer := ⟨fpX, hJ.outer, hJ.lX, hJ.rc, fun b => Iff.rfl⟩, fpok := ?_, size := ?_, frozen := hpr.2.1, tmps := hpr.2.2, defers := rfl }
      · exact fun id B hB _ => (hJ.foot _).2 (.inr (.inr ⟨id, B, hB, rfl⟩))
      · exact fun id B hB hf => hf.elim (hJ.apart _ _ hB).1 (hJ.apart _ _ hB).2
      · intro b hb
        have hb' : fpy b := (hJ.foot b).2 (hb.imp id .inl)
        exact ⟨(hgr.2 b hb').1, fun _ => hb'⟩
      · show a'.tmps.size = C.n.hi
        simp only [a']; rw [hpr.1, hR.size]
    obtain ⟨m, s, zz⟩ := hround D l a.tmps rc wy fpy pre x h hI hpx hinvp M' _ a' wy hrel (c :: cs')
    obtain ⟨v, w', rfl, fp', hg', hv⟩ := zz c cs' rfl
    refine ⟨v, w', ⟨fp', hg', ?_⟩, ?_⟩
    · rcases hv with ⟨hv, hh⟩ | ⟨hv, hh⟩
      · exact .inl ⟨hv, hh⟩
      · exact .inr ⟨hv, hh⟩
    · have hfr : Frame.round l C.b.fn ((ps.zip x.toArray).foldl (fun tmps (q : Nat × Value) => tmps.setIfInBounds q.1 q.2) a.tmps) assign body .normal =
          (roundC (C.marked D) lo a.tmps l rc .ready wy fpy (roundR (C.marked D) t a.tmps l rc wy fpy (Inv (pre ++ [x])) (Stop (pre ++ [x])))).b.atR a' [.code assign, .beginRound, .code body] := by
        rw [htm]; simp [Frame.round, Frame.atR, roundC, Ctx.marked, a']
      exact hfr ▸ s
  have hcall := hit y J Js W1 fp1 hJl hJsl hys hJ0 (fun b hb => (hfp1 b hb).1) (fun b hb hk => (hK b hk).2 ((hfp1 b hb).2 (hK b hk).1))
    ⟨hW1.os, hW1.tape, hW1.output, hW1.size, fun b hb hk => hW1.block b hb (fun hs => by
      have : K b := Classical.byContradiction hk
      exact (hK b this).2 hs)⟩
  obtain ⟨e, w', fr, ⟨v, rfl, fp', hgr, hend⟩, hsteps, _, hleave⟩ := hcall (C.b.atR { a with defers := [mark D] ++ a.defers } (.inRangeFunc l :: k) :: cs)
  have s2 := step_leave_returned (c := C.b.atR { a with defers := [mark D] ++ a.defers } (.inRangeFunc l :: k)) (cs := cs) hleave
  rw [finish_atR_inRangeFunc] at s2
  have hag : Agree C.S0 C.w0 w' := hW1.trans hgr.1 (fun i hi hl => (hfp1 i hi).2 hl)
  have key : ∀ (st : LoopState) (pd : Option Code) (h : List (Nat × Blk)) (M' : Loc) (fpX : Foot), st ≠ .busy → LoopJ (C.marked D) t a.tmps l rc st pd h M' fpX w' fp' →
      Run (C.marked D) ((pd.map Item.code).toList ++ k) ⟨t, h, N⟩ → ∃ m, Steps C.P (lone (C.b.atR a (.code (.rangeFunc g ps assign body) :: k)) cs w) m ∧ C.Z cs m := by
    intro st pd h M' fpX hst hJ hr
    obtain ⟨k1, k2, k3⟩ := hJ.record hLm (o := .loop { rc with state := .exhausted, pending := pd })
    have hrel : Rel (C.marked D) M' fpX ⟨t, h, N⟩ { a with defers := [mark D] ++ a.defers } (w'.putObj l (.loop { rc with state := .exhausted, pending := pd })) := by
      refine { heap := k1, inj := hJ.inj, own := hJ.own, apart := fun id B hB => (hJ.apart _ _ hB).1, agree := ?_, outer := k2, fpok := k3, size := hR.size, frozen := hR.frozen, tmps := hJ.tmps, defers := ?_ }
      · refine agree_putObj hag (fun h => ?_)
        have : C.w0.heap.size ≤ l := hJ.lnew
        exact absurd (show l < C.w0.heap.size from h) (by omega)
      · show [mark D] ++ a.defers = mark D :: C.ds
        rw [hR.defers]; rfl
    obtain ⟨m, s, zz⟩ := hr M' fpX _ _ hrel cs
    have s3 := stepR_endRangeFunc (P := C.P) (b := C.b) (a := { a with defers := [mark D] ++ a.defers }) (k := k) (cs := cs) (run_endLoop (P := C.P) hJ.rc hst)
    exact ⟨m, .head s1 (Steps.trans hsteps (.head s2 (.head s3 s))), zz⟩
  rcases hend with ⟨h, M', fpX, hI, hJ⟩ | ⟨pre, hpre, c, h, M', fpX, hS, hJ⟩
  · exact key .ready none h M' fpX (by simp) hJ (hdone D h hI)
  · exact key .done (some c) h M' fpX (by simp) hJ (hstop D pre c h hpre hS)

/-! ### The return behind ranges over functions -/

/-- A function's surroundings behind some ranges. -/
def fnM (P : Program) (f : FuncId) (n : Nat) (w : World) (S0 : Nat → Prop) (X : Res) (R : Value → World → Prop) : List Nat → Ctx
  | [] => fnC P f n w S0 X R
  | D :: Ds => (fnM P f n w S0 X R Ds).marked D

theorem fnM_of {P : Program} {f : FuncId} {n : Nat} {w : World} {S0 : Nat → Prop} {X : Res} {R : Value → World → Prop} : ∀ Ds : List Nat,
    (fnM P f n w S0 X R Ds).P = P ∧ (fnM P f n w S0 X R Ds).w0 = w ∧ (fnM P f n w S0 X R Ds).S0 = S0 ∧ (fnM P f n w S0 X R Ds).n = ⟨0, n⟩ ∧ (fnM P f n w S0 X R Ds).b = (fnC P f n w S0 X R).b ∧
      (fnM P f n w S0 X R Ds).Z = (fnC P f n w S0 X R).Z ∧ (fnM P f n w S0 X R Ds).t0 = #[]
  | [] => ⟨rfl, rfl, rfl, rfl, rfl, rfl, rfl⟩
  | _ :: Ds => fnM_of Ds

theorem fnM_local {P : Program} {f : FuncId} {n : Nat} {w : World} {S0 : Nat → Prop} {X : Res} {R : Value → World → Prop} (hX : Local X) : ∀ Ds : List Nat, Local (fnM P f n w S0 X R Ds).X
  | [] => hX
  | D :: Ds => markX_local (fnM_local hX Ds) D

theorem leave_marks {P : Program} {f : FuncId} {n : Nat} {w0 : World} {S0 : Nat → Prop} {X : Res} {R : Value → World → Prop} (hX : Local X) {σ : St} {cs : List Frame} : ∀ (Ds : List Nat) {M : Loc} {fp : Foot} {a : Act} {w : World} {todo : List Item},
    Rel (fnM P f n w0 S0 X R Ds) M fp σ a w → ∃ fp' w', Steps P (lone { (fnC P f n w0 S0 X R).b.atR a todo with mode := .returning } cs w) (lone { (fnC P f n w0 S0 X R).b.atR { a with defers := [] } todo with mode := .returning } cs w') ∧
      Rel (fnC P f n w0 S0 X R) M fp' σ { a with defers := [] } w'
  | [], M, fp, a, w, todo, hR => by
    have hd : a.defers = [] := hR.defers
    have : { a with defers := [] } = a := by cases a; simp only at hd; subst hd; rfl
    rw [this]
    exact ⟨fp, w, .refl _ _, hR⟩
  | D :: Ds, M, fp, a, w, todo, hR => by
    obtain ⟨e1, e2, e3, e4, e5, e6, e7⟩ := fnM_of (P := P) (f := f) (n := n) (w := w0) (S0 := S0) (X := X) (R := R) Ds
    obtain ⟨fpX, h1, h2, h3, h4⟩ : markX (fnM P f n w0 S0 X R Ds).X D w fp := hR.outer
    have hd : a.defers = mark D :: (fnM P f n w0 S0 X R Ds).ds := hR.defers
    have s1 := step_collected (P := P) (fr := { (fnC P f n w0 S0 X R).b.atR a todo with mode := .returning }) (cs := cs) (w := w) (by simp) (by simpa [Frame.atR] using hd) rfl (run_takeDeferred (P := P) h3)
    have hne : ∀ id B, lk σ.h id = some B → (M id).1 ≠ D := fun id B hB e => hR.apart _ _ hB ((h4 _).2 (.inr e))
    have hR' : Rel (fnM P f n w0 S0 X R Ds) M fpX σ { a with defers := (fnM P f n w0 S0 X R Ds).ds } (w.putObj D (.deferred none)) := by
      refine { heap := ?_, inj := hR.inj, own := hR.own, apart := ?_, agree := ?_, outer := ?_, fpok := ?_, size := hR.size, frozen := hR.frozen, tmps := hR.tmps, defers := rfl }
      · exact fun id B hB => (hR.heap _ _ hB).same (World.putObj_heap_other (hne _ _ hB))
      · exact fun id B hB hf => hR.apart _ _ hB ((h4 _).2 (.inl hf))
      · exact agree_putObj hR.agree (fun h => (hR.fpok D ((h4 D).2 (.inr rfl))).2 h)
      · exact fnM_local hX Ds w _ fpX h1 (fun b hb => (hR.fpok b ((h4 b).2 (.inl hb))).1) (fun b hb => World.putObj_heap_other (fun e => h2 (e ▸ hb)))
      · intro b hb; rw [World.putObj_size]; exact hR.fpok b ((h4 b).2 (.inl hb))
    obtain ⟨fp', w', s2, hR''⟩ := leave_marks hX Ds (todo := todo) hR'
    exact ⟨fp', w', .head (by simpa [Frame.atR] using s1) s2, hR''⟩

theorem Run.retM {P : Program} {T : Tab} (hT : tabOK P T) {f : FuncId} {fn : Func} {n : Nat} {w0 : World} {S0 : Nat → Prop} {X : Res} (hX : Local X) {R : Value → World → Prop} {σ : St} {k : List Item} {p : Prop} {l : List AV} {Ds : List Nat}
    (hf : P.funcs[f]? = some fn) (h : resOf T w0 S0 σ fn.results.toList = some (p, l)) (hp : p)
    (hR : ∀ M fp a w, Rel (fnC P f n w0 S0 X R) M fp σ a w → R (conc M (resAV l)) w) : Run (fnM P f n w0 S0 X R Ds) (.code .ret :: k) σ := by
  intro M fp a w hr cs
  obtain ⟨e1, e2, e3, e4, e5, e6, e7⟩ := fnM_of (P := P) (f := f) (n := n) (w := w0) (S0 := S0) (X := X) (R := R) Ds
  obtain ⟨fp', w', s, hr'⟩ := leave_marks (cs := cs) hX Ds (todo := .code .ret :: k) hr
  refine ⟨_, by rw [e1, e5]; exact .head (stepR_ret rfl) s, ?_⟩
  rw [e6]
  refine ⟨_, w', _, rfl, rfl, ⟨rfl, rfl, rfl, fn, hf, ?_⟩, hR M fp' _ w' hr'⟩
  exact results_run hT hr' (fn := fn) h hp

theorem Run.finM {P : Program} {T : Tab} (hT : tabOK P T) {f : FuncId} {fn : Func} {n : Nat} {w0 : World} {S0 : Nat → Prop} {X : Res} (hX : Local X) {R : Value → World → Prop} {σ : St} {p : Prop} {l : List AV} {Ds : List Nat}
    (hf : P.funcs[f]? = some fn) (h : resOf T w0 S0 σ fn.results.toList = some (p, l)) (hp : p)
    (hR : ∀ M fp a w, Rel (fnC P f n w0 S0 X R) M fp σ a w → R (conc M (resAV l)) w) : Run (fnM P f n w0 S0 X R Ds) [] σ := by
  intro M fp a w hr cs
  obtain ⟨e1, e2, e3, e4, e5, e6, e7⟩ := fnM_of (P := P) (f := f) (n := n) (w := w0) (S0 := S0) (X := X) (R := R) Ds
  obtain ⟨fp', w', s, hr'⟩ := leave_marks (cs := cs) hX Ds (todo := []) hr
  refine ⟨_, by rw [e1, e5]; exact .head (stepR_end rfl) s, ?_⟩
  rw [e6]
  refine ⟨_, w', _, rfl, rfl, ⟨rfl, rfl, rfl, fn, hf, ?_⟩, hR M fp' _ w' hr'⟩
  exact results_run hT hr' (fn := fn) h hp

end Go.AM

/-
  The abstract machine, eighteenth part: a new beginning behind a call that has made memory; functions that make some. Own work; over any program.
-/
namespace Go.AM

/-- What was there in a world stands in a later one from which a run goes on: S: what has been made since. -/
structure Based (w0 w1 : World) (S : Nat → Prop) : Prop where
  agree : Agree (fun _ => False) w0 w1
  new : ∀ b, S b → w0.heap.size ≤ b

theorem Based.refl (w : World) : Based w w (fun _ => False) := ⟨Agree.refl _ _, fun _ h => h.elim⟩

theorem Based.later {w0 w1 w2 : World} {S : Nat → Prop} (h : Based w0 w1 S) (k : Agree S w1 w2) : Agree (fun _ => False) w0 w2 :=
  ⟨k.os.trans h.agree.os, k.tape.trans h.agree.tape, k.output.trans h.agree.output, Nat.le_trans h.agree.size k.size, fun i hi _ => by
    rw [k.block i (Nat.lt_of_lt_of_le hi h.agree.size) (fun hs => by have := h.new i hs; omega)]
    exact h.agree.block i hi (fun f => f)⟩

/-- The surroundings, begun anew. -/
abbrev Ctx.rebase (C : Ctx) (w1 : World) (S1 : Nat → Prop) : Ctx := { C with w0 := w1, S0 := S1 }

/-- What may still be turned behind a call that began in w: what might be turned before, and what had been made by then. -/
structure Since (w0 : World) (S0 : Nat → Prop) (w : World) (S1 : Nat → Prop) : Prop where
  old : ∀ k, k < w0.heap.size → ¬ S0 k → ¬ S1 k
  new : ∀ k, w.heap.size ≤ k → ¬ S1 k
  base : ∀ k, k < w.heap.size → (k < w0.heap.size → S0 k) → S1 k

theorem Based.call {w0 w1 w w2 : World} {S S2 : Nat → Prop} (h : Based w0 w1 S) (k : Agree S w1 w) (l : Agree (fun _ => False) w w2) (hs : Since w1 S w S2) : Based w0 w2 S2 :=
  ⟨(h.later k).trans l (fun _ f _ => f.elim), fun b hb => by
    rcases Nat.lt_or_ge b w1.heap.size with hl | hl
    · exact h.new b (Classical.byContradiction fun hn => hs.old b hl hn hb)
    · exact Nat.le_trans h.agree.size hl⟩

/-- A call that makes memory and hands back a plain value over it: the run begins anew. -/
theorem Run.callR {C : Ctx} (hL : Local C.X) {k : List Item} {σ : St} {ops : Array Oper} {i : Nat} {rest : List Nat} {o : Oper} {c : Call} {g : Operand} {f : FuncId} {caps xs : List AV} {Q : Value → World → World → Prop}
    (ho : ops[i]? = some o) (hop : o.op = .call c) (hc : c.callee = .value g) (hg : σ.ev g = some (.fn f caps)) (hxs : evs σ c.args.toList = some xs) (hw : wantOf ops σ o = some .yes) (hent : Enters C.P f)
    (hd : dstOK C.n o.dst = true)
    (hcon : ∀ M w, (∀ id B, lk σ.h id = some B → BlkAt M w id B) → Agree C.S0 C.w0 w → GivesR C.P f (concL M (xs ++ caps)) w (fun v w' => Agree (fun _ => False) w w' ∧ Q v w w'))
    (h : ∀ v w w1 S1, Agree C.S0 C.w0 w → Agree (fun _ => False) w w1 → Q v w w1 → Since C.w0 C.S0 w S1 → ∃ z, (∀ M, conc M z = v) ∧ Run (C.rebase w1 S1) (.inRegion ops rest :: k) (σ.put o.dst z)) : Run C (.inRegion ops (i :: rest) :: k) σ := by
  intro M fp a w hR cs
  have hnd : ∀ c, o.op ≠ .defer c := fun c e => by rw [hop] at e; cases e
  have h2 : c.args.map a.eval = (concL M xs).toArray := by apply Array.ext'; simpa using evs_conc hR.q hxs
  have hr : (execOp a.eval o).run C.P w = .ok (.enter f (concL M (xs ++ caps)).toArray) w := by
    simp only [execOp, hop, resolve, hc, h2, hR.q.ev hg, conc, Deferred.ofValue]
    simp [invoke, hent _ _, concL_append]
  have s1 := step_call (b := C.b) (k := k) (cs := cs) (rest := rest) ho (wantOf_yes hR.q hw) hnd hr
  obtain ⟨e, w', fr, ⟨v, rfl, hag, hq⟩, hsteps, _, hleave⟩ := hcon M w hR.heap hR.agree (C.b.atR a (.inRegion ops (i :: rest) :: k) :: cs)
  have hR' := hR.agree' hL hag
  let S1 : Nat → Prop := fun b => b < w.heap.size ∧ (b < C.w0.heap.size → C.S0 b)
  have hS1 : Since C.w0 C.S0 w S1 := ⟨fun k hk hs h => hs (h.2 hk), fun k hk h => by have := h.1; omega, fun k hk hs => ⟨hk, hs⟩⟩
  have hrel : Rel (C.rebase w' S1) M fp σ a w' := by
    refine { heap := hR'.heap, inj := hR'.inj, own := ?_, apart := hR'.apart, agree := Agree.refl _ _, outer := hR'.outer, fpok := ?_, size := hR'.size, frozen := hR'.frozen, tmps := hR'.tmps, defers := hR'.defers }
    · exact fun id B hB _ => ⟨(hR.heap _ _ hB).lt, hR.own _ _ hB⟩
    · exact fun b hb => ⟨(hR'.fpok b hb).1, fun _ => hR.fpok b hb⟩
  obtain ⟨z, hz, hrun⟩ := h v w w' S1 hR.agree hag hq hS1
  obtain ⟨m, s, e⟩ := hrun M fp _ w' (hrel.put (z := z) (dstOK_lt hd)) cs
  have hfin : (C.b.atR a (.inRegion ops (i :: rest) :: k)).finish v = C.b.atR (a.put o.dst v) (.inRegion ops rest :: k) := by rw [Frame.finish_atR, ho]; rfl
  refine ⟨m, .head s1 (Steps.trans hsteps (.head (step_leave_returned hleave) ?_)), e⟩
  rw [hfin, ← hz M]; exact s

/-- A function of which the call makes memory at most. -/
abbrev Makes (P : Program) (f : FuncId) (args : List Value) (w : World) (Q : Value → World → Prop) : Prop :=
  GivesR P f args w fun v w' => Agree (fun _ => False) w w' ∧ Q v w'

abbrev fnQ (P : Program) (f : FuncId) (n : Nat) (w : World) (Q : Value → World → Prop) : Ctx := fnC P f n w (fun _ => False) noX (fun v' w' => Agree (fun _ => False) w w' ∧ Q v' w')

theorem Makes.of_run {P : Program} {f : FuncId} {fn : Func} {c : Code} {args : List Value} {w : World} {Q : Value → World → Prop} (hf : P.funcs[f]? = some fn) (hb : fn.body = some c)
    (hn : args.length ≤ fn.ntmps) (h : Run (fnQ P f fn.ntmps w Q) [.code c] ⟨argsT 0 args, [], 0⟩) : Makes P f args w Q := calls_of_run hf hb hn h

/-- The return of a plain value in a run that has begun anew. -/
theorem Run.retB {P : Program} {T : Tab} (hT : tabOK P T) {f : FuncId} {fn : Func} {n : Nat} {w0 w1 : World} {S : Nat → Prop} {v : Value} {σ : St} {k : List Item} {p : Prop} {l : List AV} {Ds : List Nat} {X : Res} (hX : Local X)
    (hB : Based w0 w1 S) (hf : P.funcs[f]? = some fn) (h : resOf T w1 S σ fn.results.toList = some (p, l)) (hp : p) (hv : ∀ M, conc M (resAV l) = v) :
    Run (fnM P f n w1 S X (fun v' w' => v' = v ∧ Agree (fun _ => False) w0 w') Ds) (.code .ret :: k) σ :=
  Run.retM hT hX hf h hp fun M _ _ _ hr => ⟨hv M, hB.later hr.agree⟩

/-- The return of whatever value, with what is known of the blocks. -/
theorem Run.retQ {P : Program} {T : Tab} (hT : tabOK P T) {f : FuncId} {fn : Func} {n : Nat} {w0 w1 : World} {S : Nat → Prop} {Q : Value → World → Prop} {σ : St} {k : List Item} {p : Prop} {l : List AV} {Ds : List Nat} {X : Res} (hX : Local X)
    (hB : Based w0 w1 S) (hf : P.funcs[f]? = some fn) (h : resOf T w1 S σ fn.results.toList = some (p, l)) (hp : p)
    (hv : ∀ M w', (∀ id B, lk σ.h id = some B → BlkAt M w' id B) → Agree S w1 w' → Q (conc M (resAV l)) w') :
    Run (fnM P f n w1 S X (fun v' w' => Agree (fun _ => False) w0 w' ∧ Q v' w') Ds) (.code .ret :: k) σ :=
  Run.retM hT hX hf h hp fun M _ _ w' hr => ⟨hB.later hr.agree, hv M w' hr.heap hr.agree⟩

end Go.AM

/-
  The abstract machine, nineteenth part: function values that are plain values, called for what they give. Own work; over any program.
-/
namespace Go.AM

/-- A check at a loop's head by what the values are. -/
def inTC (l : List (Nat × AV)) : List (Nat × AV) → Prop
  | [] => True
  | (i, x) :: r => (∃ y, lk l i = some y ∧ ∀ M, conc M y = conc M x) ∧ inTC l r

theorem inTC_lk {l : List (Nat × AV)} : ∀ {l' : List (Nat × AV)}, inTC l l' → ∀ i x, lk l' i = some x → ∃ y, lk l i = some y ∧ ∀ M, conc M y = conc M x
  | [], _, i, x, h => by cases h
  | (j, y) :: r, hin, i, x, h => by
    simp only [lk] at h
    split at h
    · rename_i he
      have := Nat.eq_of_beq_eq_true he
      subst this; cases h; exact hin.1
    · exact inTC_lk hin.2 i x h

theorem Run.toC {C : Ctx} {todo : List Item} {σ : St} {t' : List (Nat × AV)} {h' : List (Nat × Blk)} {n' : Nat} (h : Run C todo ⟨t', h', n'⟩) (ht : inTC σ.t t') (hh : inT σ.h h') : Run C todo σ := by
  intro M fp a w hR cs
  refine h M fp a w ?_ cs
  refine { heap := fun id B hB => hR.heap id B (inT_lk hh id B hB), inj := fun i j B B' h h' e => hR.inj i j B B' (inT_lk hh _ _ h) (inT_lk hh _ _ h') e, own := fun id B hB => hR.own id B (inT_lk hh id B hB),
           apart := fun id B hB => hR.apart id B (inT_lk hh id B hB), agree := hR.agree, outer := hR.outer, fpok := hR.fpok, size := hR.size, frozen := hR.frozen, tmps := ?_, defers := hR.defers }
  intro i x hx
  obtain ⟨y, hy, he⟩ := inTC_lk ht i x hx
  rw [hR.tmps i y hy, he]

theorem inTC_same {l : List (Nat × AV)} {i : Nat} {x : AV} (h : lk l i = some x) : ∃ y, lk l i = some y ∧ ∀ M, conc M y = conc M x := ⟨x, h, fun _ => rfl⟩

section
variable {C : Ctx} {held : List (Nat × Blk)} {n0 : Nat} {ops : Array Oper} {i : Nat} {ord : List (Nat × Bool)} {rest : List Nat} {k : List Item} {σ : St} {o : Oper} {c : Call} {g : Operand} {f : FuncId} {cs : List Value} {xs : List AV} {vs : List Value} {r : Value}

theorem callFv_run {M : Loc} {a : Act} {w : World} (hR : RelQ C M σ a w) (hop : o.op = .call c) (hc : c.callee = .value g) (hg : σ.ev g = some (.v (.func (.func f) #[] cs.toArray))) (hxs : evs σ c.args.toList = some xs) (hvs : toVs xs = some vs) (hent : Enters C.P f) :
    (execOp a.eval o).run C.P w = .ok (.enter f (vs ++ cs).toArray) w := by
  have h2 : c.args.map a.eval = vs.toArray := by apply Array.ext'; rw [← toVs_conc (M := M) hvs]; simpa using evs_conc hR hxs
  simp only [execOp, hop, resolve, hc, h2, hR.ev hg, conc, Deferred.ofValue]
  simp [invoke, hent _ _]

theorem Run.callFv (hL : Local C.X) (ho : ops[i]? = some o) (hop : o.op = .call c) (hc : c.callee = .value g) (hg : σ.ev g = some (.v (.func (.func f) #[] cs.toArray))) (hxs : evs σ c.args.toList = some xs) (hvs : toVs xs = some vs) (hw : wantOf ops σ o = some .yes) (hent : Enters C.P f)
    (hd : dstOK C.n o.dst = true) (hfn : ∀ w, Agree C.S0 C.w0 w → Gives C.P f (vs ++ cs) w r)
    (h : Run C (.inRegion ops rest :: k) (σ.put o.dst (.v r))) : Run C (.inRegion ops (i :: rest) :: k) σ := by
  intro M fp a w hR cs'
  have hnd : ∀ c, o.op ≠ .defer c := fun c e => by rw [hop] at e; cases e
  have s1 := step_call (b := C.b) (k := k) (cs := cs') (rest := rest) ho (wantOf_yes hR.q hw) hnd (callFv_run hR.q hop hc hg hxs hvs hent)
  obtain ⟨e, w', fr, ⟨rfl, hag⟩, hsteps, _, hleave⟩ := hfn w hR.agree (C.b.atR a (.inRegion ops (i :: rest) :: k) :: cs')
  obtain ⟨m, s, e⟩ := h M fp _ w' ((hR.agree' hL hag).put (z := .v r) (dstOK_lt hd)) cs'
  have hfin : (C.b.atR a (.inRegion ops (i :: rest) :: k)).finish r = C.b.atR (a.put o.dst r) (.inRegion ops rest :: k) := by rw [Frame.finish_atR, ho]; rfl
  refine ⟨m, .head s1 (Steps.trans hsteps (.head (step_leave_returned hleave) ?_)), e⟩
  rw [hfin]; exact s

theorem RunO.callFv (hL : Local C.X) (hbel : hBelow n0 held = true) (ho : ops[i]? = some o) (hop : o.op = .call c) (hc : c.callee = .value g) (hg : σ.ev g = some (.v (.func (.func f) #[] cs.toArray))) (hxs : evs σ c.args.toList = some xs) (hvs : toVs xs = some vs) (hw : wantOf ops σ o = some .yes) (hent : Enters C.P f)
    (hd : dstOK C.n o.dst = true) (hfn : ∀ w, Agree C.S0 C.w0 w → Gives C.P f (vs ++ cs) w r)
    (h : RunO C held n0 ops ord k (σ.put o.dst (.v r))) : RunO C held n0 ops ((i, false) :: ord) k σ := by
  refine RunO.alone ho fun M0 M fp a w hM hn hR hS => ?_
  unfold OpW
  simp only [ho, if_pos (wantOf_yes hR.q hw), callFv_run hR.q hop hc hg hxs hvs hent]
  refine ⟨fun c e => (by rw [hop] at e; cases e), Calls.mono' (hfn w hR.agree) fun e w' hh => ?_⟩
  obtain ⟨h1, h3⟩ := hh
  refine ⟨r, h1, M, fp, _, hM, by cases o.dst <;> exact hn, (hR.agree' hL h3).put (z := .v r) (dstOK_lt hd), ?_, h⟩
  refine ⟨?_, hR.agree.trans h3 (fun _ f _ => f.elim)⟩
  have hlk : ∀ id B, lk held id = some B → BlkAt M w id B := hBelow_lk hbel hM hS.1
  refine hBelow_lk hbel (fun i hi => (hM i hi).symm) ?_
  intro id B hB
  have := hlk _ _ hB
  have hlt := this.lt
  have hb : w'.heap[(M id).1]? = w.heap[(M id).1]? := h3.block _ hlt (fun f => f)
  cases B with
  | cells e segs => exact ⟨by rw [hb]; exact this.1, this.2⟩
  | row e sz n vs => obtain ⟨h1, cur, h2, h3⟩ := this; exact ⟨h1, cur, by rw [hb]; exact h2, h3⟩
  | map es => obtain ⟨h1, cur, h2, h3⟩ := this; exact ⟨h1, cur, by rw [hb]; exact h2, h3⟩
  | rowA e sz n xs => obtain ⟨h1, cur, h2, h3⟩ := this; exact ⟨h1, cur, by rw [hb]; exact h2, h3⟩

/-- The last store of a region: what was held may go. -/
theorem RunO.effLast {T : Tab} (hT : tabOK C.P T) (hL : Local C.X) (hla : Nat.beq i (lastOf ops) = true) {E : Eff} (ho : ops[i]? = some o) (hw : wantOf ops σ o = some .yes) (hev : evEff T C.w0 C.S0 σ.t σ.h σ.nx o = some E) (hp : E.p) (hb : E.new = true → σ.bel = true)
    (hd : dstOK C.n o.dst = true) (h : Run C k ((E.next σ).put o.dst E.z)) : RunO C held n0 ops [(i, false)] k σ := by
  refine RunO.aloneLast hla ho fun M fp a w hR => ?_
  obtain ⟨M', w', v, hM', hrun, hv, hR'⟩ := evEff_run hT hL hR hev hp hb
  unfold OpW
  rcases hv with rfl | ⟨rfl, hz⟩
  · simp only [ho, if_pos (wantOf_yes hR.q hw), hrun]
    exact ⟨evEff_nd hev, M', fp, _, hR'.put (z := E.z) (dstOK_lt hd), h⟩
  · simp only [ho, if_pos (wantOf_yes hR.q hw), hrun]
    rw [hz] at h
    exact ⟨evEff_nd hev, M', fp, _, hR'.put (z := .v undef) (dstOK_lt hd), h⟩
end
end Go.AM

/-
  The abstract machine, twentieth part: a drawn region in which two loud operations do not wait for each other: both orders. Own work; over any program.
-/
namespace Go.AM

def addL (x : Nat) : Nat → List Oper → List Oper
  | _, [] => []
  | 0, o :: r => { o with after := o.after.push ⟨x, .data⟩ } :: r
  | y + 1, o :: r => o :: addL x y r
/-- The same operations; y waits for x too. -/
def addE (x y : Nat) (ops : Array Oper) : Array Oper := (addL x y ops.toList).toArray

theorem addL_get (x : Nat) : ∀ (y : Nat) (l : List Oper) (i : Nat), (addL x y l)[i]? = if i = y then l[i]?.map (fun o => { o with after := o.after.push ⟨x, .data⟩ }) else l[i]?
  | _, [], i => by simp [addL]
  | 0, o :: r, 0 => by simp [addL]
  | 0, o :: r, i + 1 => by simp [addL]
  | y + 1, o :: r, 0 => by simp [addL]
  | y + 1, o :: r, i + 1 => by
    simp only [addL, List.getElem?_cons_succ, addL_get x y r i]
    by_cases h : i = y
    · subst h; simp
    · have : ¬ i + 1 = y + 1 := by omega
      simp [h]

theorem addE_get (x y : Nat) (ops : Array Oper) (i : Nat) : (addE x y ops)[i]? = if i = y then ops[i]?.map (fun o => { o with after := o.after.push ⟨x, .data⟩ }) else ops[i]? := by
  unfold addE
  rw [List.getElem?_toArray, addL_get]
  simp

theorem addE_at {x y : Nat} {ops : Array Oper} {i : Nat} {o : Oper} (h : ops[i]? = some o) : ∃ o', (addE x y ops)[i]? = some o' ∧ o'.op = o.op ∧ o'.dst = o.dst ∧ o'.guard = o.guard ∧ (∀ ρ, execOp ρ o' = execOp ρ o) ∧
    ∀ e, e ∈ o'.after ↔ (e ∈ o.after ∨ (i = y ∧ e = ⟨x, .data⟩)) := by
  rw [addE_get, h]
  by_cases hi : i = y
  · rw [if_pos hi]
    refine ⟨_, rfl, rfl, rfl, rfl, fun ρ => rfl, fun e => ?_⟩
    simp [hi]
  · rw [if_neg hi]
    exact ⟨_, rfl, rfl, rfl, rfl, fun ρ => rfl, fun e => by simp [hi]⟩

theorem addE_dst {x y : Nat} {ops : Array Oper} (j : Nat) : ((addE x y ops)[j]?).bind (·.dst) = (ops[j]?).bind (·.dst) := by
  rw [addE_get]
  split
  · cases ops[j]? <;> rfl
  · rfl

theorem addE_yielded {x y : Nat} {ops : Array Oper} (t : Array Value) : yielded (addE x y ops) t = yielded ops t := by
  funext j
  unfold yielded
  rw [addE_dst]

theorem OpW.unadd {P : Program} {x y : Nat} {ops : Array Oper} {i : Nat} {K K' : Act → World → Prop} (hk : ∀ a w, K a w → K' a w) {a : Act} {w : World} (h : OpW P (addE x y ops) i K a w) : OpW P ops i K' a w := by
  unfold OpW at *
  cases ho : ops[i]? with
  | none =>
    have : (addE x y ops)[i]? = none := by rw [addE_get, ho]; simp
    simp only [this] at h
  | some o =>
    obtain ⟨o', h1, h2, h3, h4, h5, _⟩ := addE_at (x := x) (y := y) ho
    have hwant : Region.wanted o' (yielded (addE x y ops) a.tmps) = Region.wanted o (yielded ops a.tmps) := by
      rw [addE_yielded]; unfold Region.wanted; rw [h4]
    simp only [h1, hwant, h2, h3, h5] at h
    simp only []
    by_cases hw : Region.wanted o (yielded ops a.tmps) = true
    · rw [if_pos hw] at h ⊢
      refine ⟨h.1, ?_⟩
      have h := h.2
      generalize (execOp a.eval o).run P w = r at *
      cases r with
      | ok u w' =>
        cases u with
        | value u => exact hk _ _ h
        | skip => exact hk _ _ h
        | enter f args => exact Calls.mono' h fun e w'' ⟨v, h1, h2⟩ => ⟨v, h1, hk _ _ h2⟩
        | _ => exact h.elim
      | halt u w' => exact h.elim
    · rw [if_neg hw] at h ⊢; exact hk _ _ h

theorem ready_add {x y : Nat} {ops : Array Oper} {listed : Array Bool} {j : Nat} (hj : j ∈ Region.ready .any ops listed) (h : j ≠ y ∨ listed.getD x false = true) : j ∈ Region.ready .any (addE x y ops) listed := by
  obtain ⟨h0, o, ho, ha⟩ := mem_ready.1 hj
  obtain ⟨o', h1, _, _, _, _, h6⟩ := addE_at (x := x) (y := y) ho
  refine mem_ready.2 ⟨h0, o', h1, fun e he hb => ?_⟩
  rcases (h6 e).1 he with h7 | ⟨h7, rfl⟩
  · exact ha e h7 hb
  · rcases h with h | h
    · exact absurd h7 h
    · exact h

theorem ready_unadd {x y : Nat} {ops : Array Oper} {listed : Array Bool} {j : Nat} (hj : j ∈ Region.ready .any (addE x y ops) listed) : j ∈ Region.ready .any ops listed := by
  obtain ⟨h0, o', ho', ha⟩ := mem_ready.1 hj
  cases ho : ops[j]? with
  | none => rw [addE_get, ho] at ho'; simp at ho'
  | some o =>
    obtain ⟨o'', h1, _, _, _, _, h6⟩ := addE_at (x := x) (y := y) ho
    rw [h1] at ho'; cases ho'
    exact mem_ready.2 ⟨h0, o, ho, fun e he hb => ha e ((h6 e).2 (.inl he)) hb⟩

theorem getD_set_self {listed : Array Bool} {i : Nat} (h : listed.getD i true = false) : (listed.setIfInBounds i true).getD i false = true := by
  rw [Array.getD_eq_getD_getElem?] at *
  rw [Array.getElem?_setIfInBounds]
  rcases Nat.lt_or_ge i listed.size with h1 | h1
  · simp [h1]
  · rw [Array.getElem?_eq_none h1] at h; cases h

/-- An order in which operations may come up. -/
def OrdL (ops : Array Oper) : Nat → Array Bool → List Nat → Prop
  | 0, _, l => l = []
  | _ + 1, listed, [] => Region.ready .any ops listed = []
  | n + 1, listed, i :: l => i ∈ Region.ready .any ops listed ∧ OrdL ops n (listed.setIfInBounds i true) l

theorem go_ord (ops : Array Oper) : ∀ (n t : Nat) (listed : Array Bool), OrdL ops n listed (Region.linearise.go .any ops n t listed [])
  | 0, t, listed => by simp only [Region.linearise.go, List.reverse_nil]; rfl
  | n + 1, t, listed => by
    simp only [Region.linearise.go]
    change OrdL ops (n + 1) listed (match (Region.ready .any ops listed)[t % (Region.ready .any ops listed).length]? with
      | some i => Region.linearise.go .any ops n (t / (Region.ready .any ops listed).length) (listed.setIfInBounds i true) [i]
      | none => [].reverse)
    cases hi : (Region.ready .any ops listed)[t % (Region.ready .any ops listed).length]? with
    | none =>
      show Region.ready .any ops listed = []
      cases hr : Region.ready .any ops listed with
      | nil => rfl
      | cons x xs =>
        rw [hr] at hi
        have hlt : t % (x :: xs).length < (x :: xs).length := Nat.mod_lt _ (by simp)
        simp at hi
        simp at hlt
        omega
    | some i =>
      simp only []
      rw [linearise_go_acc, List.reverse_singleton, List.singleton_append]
      exact ⟨List.mem_of_getElem? hi, go_ord ops n _ _⟩

/-- Two regions alike but for who waits for whom. -/
def Like (ops' ops : Array Oper) : Prop := ∀ (P : Program) (i : Nat) (K : Act → World → Prop) (a : Act) (w : World), OpW P ops' i K a w → OpW P ops i K a w

theorem Like.refl (ops : Array Oper) : Like ops ops := fun _ _ _ _ _ h => h
theorem Like.add {ops' ops : Array Oper} (x y : Nat) (h : Like ops' ops) : Like (addE x y ops') ops := fun P i K a w h1 => h P i K a w (h1.unadd fun _ _ h => h)

theorem AnyW_along {P : Program} {ops' ops : Array Oper} {S : World → Prop} {Q : Act → World → Prop} (hL : Like ops' ops) (b : Frame) (k : List Item) (cs : List Frame) : ∀ (n : Nat) (listed : Array Bool) (l : List Nat) (a : Act) (w : World),
    AnyW P ops' S Q n listed a w → OrdL ops' n listed l → ∃ a' w', Q a' w' ∧ Steps P (lone (b.atR a (.inRegion ops l :: k)) cs w) (lone (b.atR a' k) cs w')
  | 0, listed, l, a, w, h, ho => by
    subst ho
    exact ⟨a, w, h.2, .one stepR_region_end⟩
  | n + 1, listed, [], a, w, h, ho => ⟨a, w, h.1 ho, .one stepR_region_end⟩
  | n + 1, listed, i :: l, a, w, h, ho => by
    obtain ⟨a1, w1, hK, s1⟩ := (hL P i _ a w (h.2 i ho.1)).steps b l k cs
    obtain ⟨a2, w2, hQ, s2⟩ := AnyW_along hL b k cs n _ l a1 w1 hK.2 ho.2
    exact ⟨a2, w2, hQ, s1.trans s2⟩

theorem ord_add {x y : Nat} {ops : Array Oper} : ∀ (n : Nat) (listed : Array Bool) (l : List Nat), listed.getD x false = true → OrdL ops n listed l → OrdL (addE x y ops) n listed l
  | 0, _, _, _, h => h
  | n + 1, listed, [], hx, h => List.eq_nil_iff_forall_not_mem.2 fun j hj => by have := ready_unadd hj; rw [h] at this; cases this
  | n + 1, listed, i :: l, hx, h => ⟨ready_add h.1 (.inr hx), ord_add n _ l (getD_set_mono hx) h.2⟩

theorem ord_fork {x y : Nat} {ops : Array Oper} (hxy : x ≠ y) : ∀ (n : Nat) (listed : Array Bool) (l : List Nat), OrdL ops n listed l → OrdL (addE x y ops) n listed l ∨ OrdL (addE y x ops) n listed l
  | 0, _, _, h => .inl h
  | n + 1, listed, [], h => .inl (List.eq_nil_iff_forall_not_mem.2 fun j hj => by have := ready_unadd hj; rw [h] at this; cases this)
  | n + 1, listed, i :: l, h => by
    by_cases e : i = x
    · subst e
      exact .inl ⟨ready_add h.1 (.inl hxy), ord_add n _ l (getD_set_self (mem_ready.1 h.1).1) h.2⟩
    · by_cases e' : i = y
      · subst e'
        exact .inr ⟨ready_add h.1 (.inl fun h => hxy h.symm), ord_add n _ l (getD_set_self (mem_ready.1 h.1).1) h.2⟩
      · rcases ord_fork hxy n _ l h.2 with h1 | h1
        · exact .inl ⟨ready_add h.1 (.inl e'), h1⟩
        · exact .inr ⟨ready_add h.1 (.inl e), h1⟩

/-- A region run along every order, each by way of a region that is like it. -/
theorem Run.drawOrd {C : Ctx} (hL : Local C.X) (hm : C.P.follows .mixedOrders = true) {id : Nat} {ops : Array Oper} {k : List Item} {σ : St} (held : List (Nat × Blk)) (hh : inT σ.h held)
    (h : ∀ l, OrdL ops ops.size (Array.replicate ops.size false) l → ∃ ops' ord, Like ops' ops ∧ ops'.size = ops.size ∧ OrdL ops' ops.size (Array.replicate ops.size false) l ∧
      Nat.beq ord.length ops'.size = true ∧ chk ops' ord [] = true ∧ RunO C held σ.nx ops' ord k σ) : Run C (.code (.region id ops true) :: k) σ := by
  intro M fp a w hR cs
  have hR' := hR.drawn hL
  have e : Region.schedule (C.P.follows .mixedOrders) ops (w.tape w.drawn (.order C.b.fn id)) = Region.linearise.go .any ops ops.size (w.tape w.drawn (.order C.b.fn id)) (Array.replicate ops.size false) [] := by
    rw [hm]; simp [Region.schedule, Region.linearise]
  obtain ⟨ops', ord, hl, hs, ho, hlen, hc, h⟩ := h _ (go_ord ops ops.size (w.tape w.drawn (.order C.b.fn id)) (Array.replicate ops.size false))
  have hA := h M M fp a _ (fun _ _ => rfl) (Nat.le_refl _) hR' ⟨fun id B hB => hR'.heap id B (inT_lk hh id B hB), hR'.agree⟩ [] _ (LD.start ops') hc
  rw [Nat.eq_of_beq_eq_true hlen, hs] at hA
  obtain ⟨a', w', hQ, s⟩ := AnyW_along hl C.b k cs ops.size _ _ a _ hA ho
  obtain ⟨m, s2, z⟩ := hQ cs
  refine ⟨m, .head stepR_region_draw ?_, z⟩
  rw [e]
  exact s.trans s2

theorem addL_len (x : Nat) : ∀ (y : Nat) (l : List Oper), (addL x y l).length = l.length
  | _, [] => by simp [addL]
  | 0, o :: r => by simp [addL]
  | y + 1, o :: r => by simp [addL, addL_len x y r]
theorem addE_size (x y : Nat) (ops : Array Oper) : (addE x y ops).size = ops.size := by simp [addE, addL_len]

/-- Two loud operations that do not wait for each other: both orders. -/
theorem Run.drawF {C : Ctx} (hL : Local C.X) (hm : C.P.follows .mixedOrders = true) {id : Nat} {ops : Array Oper} {k : List Item} {σ : St} (x y : Nat) (hxy : Nat.beq x y = false) (loud : List Nat) (held : List (Nat × Blk))
    (hlen : Nat.beq (auto (addE x y ops) loud).length (addE x y ops).size = true) (hlen' : Nat.beq (auto (addE y x ops) loud).length (addE y x ops).size = true)
    (hc : chk (addE x y ops) (auto (addE x y ops) loud) [] = true) (hc' : chk (addE y x ops) (auto (addE y x ops) loud) [] = true) (hh : inT σ.h held)
    (h : RunO C held σ.nx (addE x y ops) (auto (addE x y ops) loud) k σ) (h' : RunO C held σ.nx (addE y x ops) (auto (addE y x ops) loud) k σ) : Run C (.code (.region id ops true) :: k) σ := by
  refine Run.drawOrd hL hm held hh fun l hl => ?_
  rcases ord_fork (x := x) (y := y) (fun e => by rw [e, Nat.beq_refl] at hxy; cases hxy) _ _ l hl with h1 | h1
  · exact ⟨_, _, (Like.refl ops).add x y, addE_size x y ops, h1, hlen, hc, h⟩
  · exact ⟨_, _, (Like.refl ops).add y x, addE_size y x ops, h1, hlen', hc', h'⟩

/-- Paths that come together: what follows is shown once. -/
theorem Run.join {C : Ctx} {todo todo' : List Item} {σ : St} (t' : List (Nat × AV)) (h' : List (Nat × Blk)) (n' : Nat) (h : (∀ σ, inTC σ.t t' → inT σ.h h' → Run C todo' σ) → Run C todo σ) (h2 : Run C todo' ⟨t', h', n'⟩) : Run C todo σ :=
  h fun _ ht hh => Run.toC h2 ht hh

/-- One loud operation beside a chain of two: three orders. -/
theorem Run.drawF2 {C : Ctx} (hL : Local C.X) (hm : C.P.follows .mixedOrders = true) {id : Nat} {ops : Array Oper} {k : List Item} {σ : St} (x y z : Nat) (hxy : Nat.beq x y = false) (hxz : Nat.beq x z = false) (loud : List Nat) (held : List (Nat × Blk))
    (hl1 : Nat.beq (auto (addE x y ops) loud).length (addE x y ops).size = true) (hl2 : Nat.beq (auto (addE x z (addE y x ops)) loud).length (addE x z (addE y x ops)).size = true)
    (hl3 : Nat.beq (auto (addE z x (addE y x ops)) loud).length (addE z x (addE y x ops)).size = true)
    (hc1 : chk (addE x y ops) (auto (addE x y ops) loud) [] = true) (hc2 : chk (addE x z (addE y x ops)) (auto (addE x z (addE y x ops)) loud) [] = true)
    (hc3 : chk (addE z x (addE y x ops)) (auto (addE z x (addE y x ops)) loud) [] = true) (hh : inT σ.h held)
    (h1 : RunO C held σ.nx (addE x y ops) (auto (addE x y ops) loud) k σ) (h2 : RunO C held σ.nx (addE x z (addE y x ops)) (auto (addE x z (addE y x ops)) loud) k σ)
    (h3 : RunO C held σ.nx (addE z x (addE y x ops)) (auto (addE z x (addE y x ops)) loud) k σ) : Run C (.code (.region id ops true) :: k) σ := by
  refine Run.drawOrd hL hm held hh fun l hl => ?_
  rcases ord_fork (x := x) (y := y) (fun e => by rw [e, Nat.beq_refl] at hxy; cases hxy) _ _ l hl with h | h
  · exact ⟨_, _, (Like.refl ops).add x y, addE_size x y ops, h, hl1, hc1, h1⟩
  · rcases ord_fork (x := x) (y := z) (fun e => by rw [e, Nat.beq_refl] at hxz; cases hxz) _ _ l h with h | h
    · exact ⟨_, _, ((Like.refl ops).add y x).add x z, (addE_size x z _).trans (addE_size y x ops), h, hl2, hc2, h2⟩
    · exact ⟨_, _, ((Like.refl ops).add y x).add z x, (addE_size z x _).trans (addE_size y x ops), h, hl3, hc3, h3⟩

/-- Alike, and as long. -/
structure LikeS (ops' ops : Array Oper) : Prop where
  like : Like ops' ops
  size : ops'.size = ops.size
theorem LikeS.refl (ops : Array Oper) : LikeS ops ops := ⟨Like.refl ops, rfl⟩
theorem LikeS.add {ops' ops : Array Oper} (x y : Nat) (h : LikeS ops' ops) : LikeS (addE x y ops') ops := ⟨h.like.add x y, (addE_size x y ops').trans h.size⟩
theorem ord_fork' {ops : Array Oper} (x y : Nat) (hxy : Nat.beq x y = false) {n : Nat} {listed : Array Bool} {l : List Nat} (h : OrdL ops n listed l) : OrdL (addE x y ops) n listed l ∨ OrdL (addE y x ops) n listed l :=
  ord_fork (fun e => by rw [e, Nat.beq_refl] at hxy; cases hxy) n listed l h
theorem draw_leaf {C : Ctx} {ops ops' : Array Oper} {k : List Item} {σ : St} {held : List (Nat × Blk)} {l : List Nat} (loud : List Nat) (hl : LikeS ops' ops) (ho : OrdL ops' ops.size (Array.replicate ops.size false) l)
    (h1 : Nat.beq (auto ops' loud).length ops'.size = true) (h2 : chk ops' (auto ops' loud) [] = true) (h : RunO C held σ.nx ops' (auto ops' loud) k σ) :
    ∃ ops' ord, Like ops' ops ∧ ops'.size = ops.size ∧ OrdL ops' ops.size (Array.replicate ops.size false) l ∧ Nat.beq ord.length ops'.size = true ∧ chk ops' ord [] = true ∧ RunO C held σ.nx ops' ord k σ :=
  ⟨ops', auto ops' loud, hl.like, hl.size, ho, h1, h2, h⟩
end Go.AM

/-
  Relations over numbers below 64, as rows of 64 bits: plain. Own work; no program in sight.
-/
namespace Go.AM

structure Rl where
  n : Int
  r : Vector (BitVec 64) 64
  deriving DecidableEq

namespace Rl
def row (r : Rl) (i : Nat) : BitVec 64 := if h : i < 64 then r.r[i] else 0#64
def setRow (r : Rl) (i : Nat) (x : BitVec 64) : Rl := if h : i < 64 then ⟨r.n, r.r.set i x⟩ else r
def void (n : Int) : Rl := ⟨n, Vector.replicate 64 0#64⟩

theorem row_ge (r : Rl) {i : Nat} (h : 64 ≤ i) : r.row i = 0#64 := by simp [row, Nat.not_lt.2 h]
theorem row_setRow (r : Rl) (i j : Nat) (x : BitVec 64) : (r.setRow i x).row j = if i = j ∧ i < 64 then x else r.row j := by
  unfold setRow row
  by_cases hi : i < 64
  · by_cases hj : j < 64
    · simp only [hi, hj, dite_true, and_true]
      rw [Vector.getElem_set]
    · simp only [hi, hj, dite_true, dite_false, and_true]
      rw [if_neg (by omega)]
  · simp [hi]
theorem n_setRow (r : Rl) (i : Nat) (x : BitVec 64) : (r.setRow i x).n = r.n := by unfold setRow; split <;> rfl
theorem row_void (n : Int) (i : Nat) : (void n).row i = 0#64 := by unfold row void; split <;> simp
theorem ext' {r s : Rl} (hn : r.n = s.n) (h : ∀ i, i < 64 → r.row i = s.row i) : r = s := by
  obtain ⟨n, r⟩ := r
  obtain ⟨m, s⟩ := s
  simp only at hn
  subst hn
  congr 1
  apply Vector.ext
  intro i hi
  have := h i hi
  simpa [row, hi] using this
theorem ext_iff' {r s : Rl} : r = s ↔ r.n = s.n ∧ ∀ i, i < 64 → r.row i = s.row i := ⟨by rintro rfl; exact ⟨rfl, fun _ _ => rfl⟩, fun h => ext' h.1 h.2⟩
theorem setRow_self (r : Rl) (i : Nat) : r.setRow i (r.row i) = r := by
  refine ext' (n_setRow _ _ _) fun j _ => ?_
  rw [row_setRow]; split
  · rename_i h; rw [h.1]
  · rfl
/-- Does a stand to b? -/
def has (r : Rl) (a b : Nat) : Bool := (r.row a).getLsbD b
theorem ext_has {r s : Rl} (hn : r.n = s.n) (h : ∀ a b, a < 64 → b < 64 → r.has a b = s.has a b) : r = s := by
  refine ext' hn fun i hi => ?_
  apply BitVec.eq_of_getLsbD_eq
  intro j hj
  exact h i j hi hj
end Rl

/-- The cells of a relation. -/
def rowV (r : Rl) : List Value := r.r.toList.map fun b => .int .u64 (un b)
def relV (r : Rl) : List Value := .int .i64 r.n :: rowV r
def encRel (r : Rl) : Value := .agg (relV r).toArray

@[simp] theorem rowV_length (r : Rl) : (rowV r).length = 64 := by simp [rowV]
@[simp] theorem relV_length (r : Rl) : (relV r).length = 65 := by simp [relV, rowV_length]
theorem rowV_get (r : Rl) (i : Nat) (h : i < 64) : (rowV r)[i]? = some (.int .u64 (un (r.row i))) := by simp [rowV, Rl.row, h]
theorem relV_get (r : Rl) (i : Nat) (h : i < 64) : (relV r)[1 + i]? = some (.int .u64 (un (r.row i))) := by
  rw [relV, Nat.add_comm, List.getElem?_cons_succ, rowV_get r i h]
@[simp] theorem relV_0 (r : Rl) : (relV r)[0]? = some (.int .i64 r.n) := rfl
@[simp] theorem intAt_0 (r : Rl) : intAt (relV r) 0 = r.n := rfl
theorem intAt_row (r : Rl) (i : Nat) (h : i < 64) : intAt (relV r) (1 + i) = un (r.row i) := by simp [intAt, relV_get r i h]
theorem intAt_rowV (r : Rl) (i : Nat) (h : i < 64) : intAt (rowV r) i = un (r.row i) := by simp [intAt, rowV_get r i h]
theorem relV_drop (r : Rl) : ((relV r).drop 1).take 64 = rowV r := by
  rw [relV, List.drop_one, List.tail_cons, List.take_of_length_le (by rw [rowV_length]; exact Nat.le_refl _)]
theorem relV_set0 (r : Rl) (n : Int) : (relV r).set 0 (.int .i64 n) = relV { r with n } := rfl
theorem relV_set (r : Rl) (i : Nat) (h : i < 64) (x : BitVec 64) : (relV r).set (1 + i) (.int .u64 (un x)) = relV (r.setRow i x) := by
  rw [relV, Nat.add_comm, List.set_cons_succ, relV, Rl.n_setRow]
  congr 1
  simp only [rowV, Rl.setRow, h, dite_true, Vector.toList_set, List.map_set]
theorem relV_one (r : Rl) : ∀ c ∈ relV r, c.oneCell' = true := by
  intro c hc
  simp only [relV, rowV, List.mem_cons, List.mem_map] at hc
  rcases hc with rfl | ⟨b, _, rfl⟩ <;> rfl
theorem relV_void (n : Int) : relV (Rl.void n) = .int .i64 n :: List.replicate 64 (.int .u64 0) := by
  simp [relV, rowV, Rl.void]
@[simp] theorem relV_e0 (r : Rl) (h : 0 < (relV r).length) : (relV r)[0] = .int .i64 r.n := rfl
@[simp] theorem relV_e (r : Rl) (i : Nat) (h : 1 + i < (relV r).length) : (relV r)[1 + i] = .int .u64 (un (r.row i)) := by
  have := relV_get r i (by simp at h; omega)
  rw [List.getElem?_eq_getElem h] at this
  exact Option.some.inj this
@[simp] theorem rowV_e (r : Rl) (i : Nat) (h : i < (rowV r).length) : (rowV r)[i] = .int .u64 (un (r.row i)) := by
  have := rowV_get r i (by simp at h; omega)
  rw [List.getElem?_eq_getElem h] at this
  exact Option.some.inj this
theorem relV_inj {r s : Rl} (h : relV r = relV s) : r = s := by
  refine Rl.ext' (by have := congrArg (fun l => intAt l 0) h; simpa [intAt_0] using this) fun i hi => ?_
  have := congrArg (fun l => intAt l (1 + i)) h
  simp only [intAt_row _ i hi] at this
  exact un_inj.1 this
theorem encRel_inj {r s : Rl} : encRel r = encRel s ↔ r = s := by
  constructor
  · intro h
    simp only [encRel, Value.agg.injEq] at h
    exact relV_inj (by have := congrArg Array.toList h; simpa using this)
  · rintro rfl; rfl

/-- The numbers below n. -/
def mask (n : Int) : BitVec 64 := if n ≥ 64 then BitVec.allOnes 64 else (1#64 <<< n.toNat) - 1#64

theorem mask_get (n : Int) (i : Nat) (h0 : 0 ≤ n) : (mask n).getLsbD i = decide (i < 64 ∧ (i : Int) < n) := by
  unfold mask
  split
  · rename_i h
    rw [BitVec.getLsbD_allOnes]
    apply decide_eq_decide.2; omega
  · rename_i h
    by_cases hi : i < 64
    · rw [BitVec.getLsbD, BitVec.toNat_sub, BitVec.toNat_shiftLeft]
      have h1 : (1#64).toNat = 1 := rfl
      rw [h1, Nat.shiftLeft_eq, Nat.one_mul]
      have hp : 2 ^ n.toNat < 2 ^ 64 := Nat.pow_lt_pow_right (by decide) (by omega)
      rw [Nat.mod_eq_of_lt hp]
      have hp1 : 0 < 2 ^ n.toNat := Nat.two_pow_pos _
      rw [show 2 ^ 64 - 1 + 2 ^ n.toNat = (2 ^ n.toNat - 1) + 2 ^ 64 by omega, Nat.add_mod_right, Nat.mod_eq_of_lt (by omega)]
      rw [Nat.testBit_two_pow_sub_one]
      apply decide_eq_decide.2; omega
    · rw [BitVec.getLsbD_of_ge _ _ (by omega)]
      symm; apply decide_eq_false; omega

end Go.AM
