/-
  Own work, merged: AM15, AM16, AM17, AM18, AM19, AM20, AM22, AM23, AM24, AM25, W0.
-/
import Derived.AtR
import Derived.Below
import Derived.ChangeKeysEq
import Derived.Laws.AppendOwn
import Derived.Laws.BytesString
import Derived.Laws.Cells
import Derived.Laws.CopyRow
import Derived.Laws.Entries
import Derived.Laws.Rows
import Derived.Laws.Small
import Derived.Laws.StructEq
import Derived.Maps.AppendAt
import Derived.Orders
import Derived.RangeFuncRecord
import Derived.Test.YtpfanhbkjajocaaDoorQ47BC35
/-
  The abstract machine, fifteenth part: function values called, iterators, ranges over functions. Own work; over any program.
-/
namespace Go.AM

/-- What a function value that is called does, seen from the frame that calls it. -/
def NextDoes (P : Program) (nx : Next) (w : World) (R : Value → World → Prop) : Prop :=
  match nx with
  | .enter f args => ∀ c cs, ∃ v w', R v w' ∧ Steps P (lone (Frame.enter P f args .normal) (c :: cs) w) (lone (Frame.finish c v) cs w')
  | .round l f tm as bd => ∀ c cs, ∃ v w', R v w' ∧ Steps P (lone (Frame.round l f tm as bd .normal) (c :: cs) w) (lone (Frame.finish c v) cs w')
  | _ => False

def CallsV (P : Program) (y : Value) (args : List Value) (w : World) (R : Value → World → Prop) : Prop :=
  ∃ d nx, (Deferred.ofValue y args.toArray).run P w = .ok d w ∧ (invoke d.target d.args).run P w = .ok nx w ∧ NextDoes P nx w R

theorem NextDoes.mono {P : Program} {nx : Next} {w : World} {R R' : Value → World → Prop} (h : NextDoes P nx w R) (hr : ∀ v w', R v w' → R' v w') : NextDoes P nx w R' := by
  unfold NextDoes at h ⊢
  split at h
  · exact fun c cs => let ⟨v, w', r, s⟩ := h c cs; ⟨v, w', hr _ _ r, s⟩
  · exact fun c cs => let ⟨v, w', r, s⟩ := h c cs; ⟨v, w', hr _ _ r, s⟩
  · exact h.elim

theorem CallsV.mono {P : Program} {y : Value} {args : List Value} {w : World} {R R' : Value → World → Prop} (h : CallsV P y args w R) (hr : ∀ v w', R v w' → R' v w') : CallsV P y args w R' :=
  let ⟨d, nx, h1, h2, h3⟩ := h; ⟨d, nx, h1, h2, h3.mono hr⟩

theorem GivesR.does {P : Program} {f : FuncId} {args : List Value} {w : World} {R : Value → World → Prop} (h : GivesR P f args w R) : NextDoes P (.enter f args.toArray) w R := by
  intro c cs
  obtain ⟨e, w', fr, ⟨v, rfl, hR⟩, hsteps, _, hleave⟩ := h (c :: cs)
  exact ⟨v, w', hR, Steps.trans hsteps (.one (step_leave_returned hleave))⟩

theorem CallsV.of_gives {P : Program} {f : FuncId} {caps : List Value} {args : List Value} {w : World} {R : Value → World → Prop} (hent : Enters P f) (h : GivesR P f (args ++ caps) w R) :
    CallsV P (.func (.func f) #[] caps.toArray) args w R := by
  refine ⟨{ target := .fn (.func f) caps.toArray, args := args.toArray }, .enter f (args ++ caps).toArray, by simp [Deferred.ofValue], ?_, h.does⟩
  simp [invoke, hent _ _]

/-- A call of a function value that a temporary holds. -/
theorem Run.callV {C : Ctx} {k : List Item} {σ : St} {ops : Array Oper} {i : Nat} {rest : List Nat} {o : Oper} {c : Call} {g : Operand} {y : Value} {xs : List AV}
    (ho : ops[i]? = some o) (hop : o.op = .call c) (hc : c.callee = .value g) (hg : σ.ev g = some (.v y)) (hxs : evs σ c.args.toList = some xs) (hw : wantOf ops σ o = some .yes)
    (hcon : ∀ M fp a w, Rel C M fp σ a w → CallsV C.P y (concL M xs) w (fun v w' => ∀ cs, ∃ m, Steps C.P (lone (C.b.atR (a.put o.dst v) (.inRegion ops rest :: k)) cs w') m ∧ C.Z cs m)) :
    Run C (.inRegion ops (i :: rest) :: k) σ := by
  intro M fp a w hR cs
  have hnd : ∀ c, o.op ≠ .defer c := fun c e => by rw [hop] at e; cases e
  have h2 : c.args.map a.eval = (concL M xs).toArray := by apply Array.ext'; simpa using evs_conc hR.q hxs
  obtain ⟨d, nx, h3, h4, h5⟩ := hcon M fp a w hR
  have hr : (execOp a.eval o).run C.P w = .ok nx w := by
    simp only [execOp, hop, resolve, hc, h2, hR.q.ev hg, conc]
    simp [h3, h4]
  have hfin : ∀ v, (C.b.atR a (.inRegion ops (i :: rest) :: k)).finish v = C.b.atR (a.put o.dst v) (.inRegion ops rest :: k) := by intro v; rw [Frame.finish_atR, ho]; rfl
  have hg := stepGR_op (P := C.P) (b := C.b) (k := k) (cs := cs) (w := w) (rest := rest) ho (wantOf_yes hR.q hw)
  rw [Oper.semAt_eq _ _ _ hnd] at hg
  unfold NextDoes at h5
  split at h5
  · rename_i f args
    have s1 : step C.P (lone (C.b.atR a (.inRegion ops (i :: rest) :: k)) cs w) = .next (lone (Frame.enter C.P f args .normal) (C.b.atR a (.inRegion ops (i :: rest) :: k) :: cs) w) :=
      step_lone_go (by rw [hg]; simp [stepG.apply, hr, Frame.atR])
    obtain ⟨v, w', hR', s⟩ := h5 (C.b.atR a (.inRegion ops (i :: rest) :: k)) cs
    obtain ⟨m, s', z⟩ := hR' cs
    rw [hfin] at s
    exact ⟨m, .head s1 (Steps.trans s s'), z⟩
  · rename_i l f tm as bd
    have s1 : step C.P (lone (C.b.atR a (.inRegion ops (i :: rest) :: k)) cs w) = .next (lone (Frame.round l f tm as bd .normal) (C.b.atR a (.inRegion ops (i :: rest) :: k) :: cs) w) :=
      step_lone_go (by rw [hg]; simp [stepG.apply, hr, Frame.atR])
    obtain ⟨v, w', hR', s⟩ := h5 (C.b.atR a (.inRegion ops (i :: rest) :: k)) cs
    obtain ⟨m, s', z⟩ := hR' cs
    rw [hfin] at s
    exact ⟨m, .head s1 (Steps.trans s s'), z⟩
  · exact h5.elim

/-! ### The outer code's part, handed on -/

abbrev Foot := Nat → Prop
abbrev Res := World → Foot → Prop

/-- A footprint after some work on one. -/
def Grown (fp : Foot) (w : World) (fp' : Foot) (w' : World) : Prop :=
  Agree fp w w' ∧ ∀ b, fp' b → b < w'.heap.size ∧ (b < w.heap.size → fp b)

theorem Grown.trans {fp fp1 fp2 : Foot} {w w1 w2 : World} (h : Grown fp w fp1 w1) (k : Grown fp1 w1 fp2 w2) : Grown fp w fp2 w2 :=
  ⟨h.1.trans k.1 (fun i hi hl => (h.2 i hi).2 hl), fun b hb => ⟨(k.2 b hb).1, fun hl => (h.2 b ((k.2 b hb).2 (Nat.lt_of_lt_of_le hl h.1.size))).2 hl⟩⟩

theorem Grown.refl {fp : Foot} {w : World} (h : ∀ b, fp b → b < w.heap.size) : Grown fp w fp w := ⟨Agree.refl _ _, fun b hb => ⟨h b hb, fun _ => hb⟩⟩

/-- The surroundings with another outer part. -/
abbrev Ctx.withX (C : Ctx) (X : Res) : Ctx := { C with X }

/-- The outer part has been worked on; what is owned stands. -/
theorem Rel.grown {C : Ctx} {M : Loc} {fp fp' : Foot} {σ : St} {a : Act} {w w' : World} (hR : Rel C M fp σ a w) (hg : Grown fp w fp' w') {X : Res} (hX : X w' fp') : Rel (C.withX X) M fp' σ a w' := by
  have hb : ∀ id B, lk σ.h id = some B → w'.heap[(M id).1]? = w.heap[(M id).1]? := fun id B h => hg.1.block _ (hR.heap _ _ h).lt (hR.apart _ _ h)
  refine { heap := ?_, inj := hR.inj, own := hR.own, apart := ?_, agree := ?_, outer := hX, fpok := ?_, size := hR.size, frozen := hR.frozen, tmps := hR.tmps, defers := hR.defers }
  · intro id B hB
    have := hR.heap _ _ hB
    have he := hb _ _ hB
    cases B with
    | cells e segs => exact ⟨by rw [he]; exact this.1, this.2⟩
    | row e sz n vs => obtain ⟨h1, cur, h2, h3⟩ := this; exact ⟨h1, cur, by rw [he]; exact h2, h3⟩
  · intro id B hB hf
    exact hR.apart _ _ hB ((hg.2 _ hf).2 (hR.heap _ _ hB).lt)
  · exact hR.agree.trans hg.1 (fun i hi hl => (hR.fpok i hi).2 hl)
  · intro b hb'
    refine ⟨(hg.2 b hb').1, fun hl => ?_⟩
    exact (hR.fpok b ((hg.2 b hb').2 (Nat.lt_of_lt_of_le hl hR.agree.size))).2 hl

/-- What a call of an iterator's argument does to the outer part: from J pre to J (pre, x), or to the stop. -/
def Yields (P : Program) (y : Value) (J Js : List (List Value) → Res) (w1 : World) (fp1 : Foot) (pre : List (List Value)) (x : List Value) : Prop :=
  ∀ w fp, J pre w fp → Grown fp1 w1 fp w → CallsV P y x w fun v w' =>
    ∃ fp', Grown fp w fp' w' ∧ (v = .bool true ∧ J (pre ++ [x]) w' fp' ∨ v = .bool false ∧ Js (pre ++ [x]) w' fp')

theorem Run.yield {C : Ctx} {k : List Item} {σ : St} {ops : Array Oper} {i : Nat} {rest : List Nat} {o : Oper} {c : Call} {g : Operand} {y : Value} {xs : List AV} {x : List Value} {J Js : List (List Value) → Res} {pre : List (List Value)}
    (hX : C.X = J pre) (hy : Yields C.P y J Js C.w0 C.S0 pre x)
    (ho : ops[i]? = some o) (hop : o.op = .call c) (hc : c.callee = .value g) (hg : σ.ev g = some (.v y)) (hxs : evs σ c.args.toList = some xs) (hx : toVs xs = some x) (hw : wantOf ops σ o = some .yes) (hd : dstOK C.n o.dst = true)
    (ht : Run (C.withX (J (pre ++ [x]))) (.inRegion ops rest :: k) (σ.put o.dst (.tt true)))
    (hf : Run (C.withX (Js (pre ++ [x]))) (.inRegion ops rest :: k) (σ.put o.dst (.tt false))) : Run C (.inRegion ops (i :: rest) :: k) σ := by
  refine Run.callV ho hop hc hg hxs hw fun M fp a w hR => ?_
  rw [toVs_conc hx]
  have h0 : J pre w fp := by rw [← hX]; exact hR.outer
  refine (hy w fp h0 ⟨hR.agree, hR.fpok⟩).mono fun v w' ⟨fp', hgr, hv⟩ cs => ?_
  rcases hv with ⟨rfl, hJ⟩ | ⟨rfl, hJ⟩
  · exact ht M fp' _ w' ((hR.grown hgr hJ).put (C := C.withX _) (z := .tt true) (dstOK_lt hd)) cs
  · exact hf M fp' _ w' ((hR.grown hgr hJ).put (C := C.withX _) (z := .tt false) (dstOK_lt hd)) cs

/-- An iterator: it hands its argument the lists xs, one after another, until that says stop. K: the blocks that it looks at. -/
def Iter (P : Program) (f : FuncId) (caps : List Value) (K : Nat → Prop) (w0 : World) (xs : List (List Value)) : Prop :=
  ∀ (y : Value) (J Js : List (List Value) → Res) (w : World) (fp : Foot), (∀ pre, Local (J pre)) → (∀ pre, Local (Js pre)) → (∀ pre x, pre ++ [x] <+: xs → Yields P y J Js w fp pre x) →
    J [] w fp → (∀ b, fp b → b < w.heap.size) → (∀ b, fp b → ¬ K b) → Agree (fun b => ¬ K b) w0 w →
      GivesR P f (y :: caps) w fun _ w' => ∃ fp', Grown fp w fp' w' ∧ (J xs w' fp' ∨ ∃ pre, pre <+: xs ∧ Js pre w' fp')

theorem givesX_of_run {P : Program} {f : FuncId} {fn : Func} {c : Code} {args : List Value} {w : World} {S0 : Nat → Prop} {X : Res} {fp : Foot} {R : Value → World → Prop} (hf : P.funcs[f]? = some fn) (hb : fn.body = some c)
    (hn : args.length ≤ fn.ntmps) (hX : X w fp) (hfp : ∀ b, fp b → b < w.heap.size ∧ (b < w.heap.size → S0 b)) (h : Run (fnC P f fn.ntmps w S0 X R) [.code c] ⟨argsT 0 args, [], 0⟩) : GivesR P f args w R := by
  intro cs
  let a : Act := { tmps := args.toArray ++ Array.replicate (fn.ntmps - args.length) undef, defers := [] }
  let b : Frame := { (default : Frame) with fn := f, kind := .normal, roundOf := none }
  have henter : Frame.enter P f args.toArray .normal = b.atR a [.code c] := by
    simp [Frame.enter, Frame.atR, hf, hb, b, a]
  have hR : Rel (fnC P f fn.ntmps w S0 X R) (fun _ => (0, 0)) fp ⟨argsT 0 args, [], 0⟩ a w := by
    refine { heap := fun _ _ h => (by cases h), inj := fun _ _ _ _ h => (by cases h), own := fun _ _ h => (by cases h), apart := fun _ _ h => (by cases h), agree := Agree.refl _ _, outer := hX,
             fpok := hfp, size := by simp [a, fnC]; omega, frozen := fun i hi => absurd hi (Nat.not_lt_zero _), tmps := ?_, defers := rfl }
    intro i x hx
    obtain ⟨_, y, h2, rfl⟩ := argsT_lk hx
    simp only [Nat.sub_zero] at h2
    have hlt := (List.getElem?_eq_some_iff.1 h2).1
    simp only [a]
    rw [Array.getElem?_append_left (by simpa using hlt)]
    simpa [conc] using h2
  obtain ⟨m, s, v, w', fr, rfl, h1, h2, h3⟩ := h _ _ a w hR cs
  rw [henter]
  exact ⟨.returned v, w', fr, ⟨v, rfl, h3⟩, s, h1, h2⟩

/-- An iterator, by the walk of its body. -/
theorem Iter.of_run {P : Program} {f : FuncId} {fn : Func} {c : Code} {caps : List Value} {K : Nat → Prop} {w0 : World} {xs : List (List Value)} (hf : P.funcs[f]? = some fn) (hb : fn.body = some c)
    (hn : (caps.length + 1) ≤ fn.ntmps)
    (h : ∀ (y : Value) (J Js : List (List Value) → Res) (w : World) (fp : Foot), (∀ pre, Local (J pre)) → (∀ pre, Local (Js pre)) → (∀ pre x, pre ++ [x] <+: xs → Yields P y J Js w fp pre x) →
      Agree (fun b => ¬ K b) w0 w → (∀ b, fp b → ¬ K b) → ∀ R : Value → World → Prop, (∀ v w' fp' pre, Grown fp w fp' w' → (pre = xs ∧ J pre w' fp' ∨ pre <+: xs ∧ Js pre w' fp') → R v w') →
        Run (fnC P f fn.ntmps w fp (J []) R) [.code c] ⟨argsT 0 (y :: caps), [], 0⟩) : Iter P f caps K w0 xs := by
  intro y J Js w fp hJ hJs hy h0 hfp hK hag
  refine givesX_of_run (S0 := fp) (X := J []) hf hb (by simpa using hn) h0 (fun b hb => ⟨hfp b hb, fun _ => hb⟩) ?_
  refine h y J Js w fp hJ hJs hy hag hK _ fun v w' fp' pre hg hp => ?_
  rcases hp with ⟨rfl, hp⟩ | ⟨h1, h2⟩
  · exact ⟨fp', hg, .inl hp⟩
  · exact ⟨fp', hg, .inr ⟨pre, h1, h2⟩⟩

/-- An iterator's return. -/
theorem Run.retI {P : Program} {f : FuncId} {fn : Func} {n : Nat} {w0 : World} {fp0 : Foot} {R : Value → World → Prop} {σ : St} {k : List Item} {X : Res}
    (hf : P.funcs[f]? = some fn) (hres : fn.results = #[]) (hR : ∀ v w' fp', Grown fp0 w0 fp' w' → X w' fp' → R v w') : Run (fnC P f n w0 fp0 X R) (.code .ret :: k) σ := by
  intro M fp a w hr cs
  refine ⟨_, .one (stepR_ret rfl), .tuple #[], w, _, rfl, rfl, ⟨rfl, hr.defers, rfl, fn, hf, ?_⟩, hR _ w fp ⟨hr.agree, hr.fpok⟩ hr.outer⟩
  simp [results, hres]

theorem Run.finI {P : Program} {f : FuncId} {fn : Func} {n : Nat} {w0 : World} {fp0 : Foot} {R : Value → World → Prop} {σ : St} {X : Res}
    (hf : P.funcs[f]? = some fn) (hres : fn.results = #[]) (hR : ∀ v w' fp', Grown fp0 w0 fp' w' → X w' fp' → R v w') : Run (fnC P f n w0 fp0 X R) [] σ := by
  intro M fp a w hr cs
  refine ⟨_, .one (stepR_end rfl), .tuple #[], w, _, rfl, rfl, ⟨rfl, hr.defers, rfl, fn, hf, ?_⟩, hR _ w fp ⟨hr.agree, hr.fpok⟩ hr.outer⟩
  simp [results, hres]

end Go.AM

/-
  The abstract machine, sixteenth part: the range over a function. Own work; over any program.
-/
namespace Go.AM

theorem BlkAt.same {M : Loc} {w w' : World} {id : Nat} {B : Blk} (h : BlkAt M w id B) (he : w'.heap[(M id).1]? = w.heap[(M id).1]?) : BlkAt M w' id B := by
  cases B with
  | cells e segs => exact ⟨by rw [he]; exact h.1, h.2⟩
  | row e sz n vs => obtain ⟨h1, cur, h2, h3⟩ := h; exact ⟨h1, cur, by rw [he]; exact h2, h3⟩

theorem lt_of_same {w w' : World} {b : Nat} (h : b < w.heap.size) (he : w'.heap[b]? = w.heap[b]?) : b < w'.heap.size := by
  rw [Array.getElem?_eq_getElem h] at he
  exact (Array.getElem?_eq_some_iff.1 he).1

def mark (D : Nat) : Deferred := { target := .collected D, args := #[] }

def markX (X : Res) (D : Nat) : Res := fun w fp => ∃ fpX, X w fpX ∧ ¬ fpX D ∧ w.heap[D]? = some (.deferred (some [])) ∧ ∀ b, fp b ↔ fpX b ∨ b = D

theorem markX_local {X : Res} (hX : Local X) (D : Nat) : Local (markX X D) := by
  rintro w w' fp ⟨fpX, h1, h2, h3, h4⟩ hlt hs
  exact ⟨fpX, hX w w' fpX h1 (fun b hb => hlt b ((h4 b).2 (.inl hb))) (fun b hb => hs b ((h4 b).2 (.inl hb))), h2, by rw [hs D ((h4 D).2 (.inr rfl))]; exact h3, h4⟩

/-- The surroundings behind a range over a function. -/
def Ctx.marked (C : Ctx) (D : Nat) : Ctx := { C with ds := mark D :: C.ds, X := markX C.X D }

/-- Between the rounds. -/
structure LoopJ (C : Ctx) (t : List (Nat × AV)) (a0 : Array Value) (l : Nat) (rc : Loop) (st : LoopState) (pd : Option Code) (h : List (Nat × Blk)) (M : Loc) (fpX : Foot) (w : World) (fp : Foot) : Prop where
  tmps : ∀ i x, lk t i = some x → a0[i]? = some (conc M x)
  heap : ∀ id B, lk h id = some B → BlkAt M w id B
  inj : ∀ id id' B B', lk h id = some B → lk h id' = some B' → (M id).1 = (M id').1 → id = id'
  own : ∀ id B, lk h id = some B → (M id).1 < C.w0.heap.size → C.S0 (M id).1
  apart : ∀ id B, lk h id = some B → ¬ fpX (M id).1 ∧ (M id).1 ≠ l
  outer : C.X w fpX
  fpok : ∀ b, fpX b → b < w.heap.size ∧ (b < C.w0.heap.size → C.S0 b)
  rc : w.heap[l]? = some (.loop { rc with state := st, pending := pd })
  lX : ¬ fpX l
  lnew : C.w0.heap.size ≤ l
  foot : ∀ b, fp b ↔ fpX b ∨ b = l ∨ ∃ id B, lk h id = some B ∧ (M id).1 = b

section
variable {C : Ctx} {t : List (Nat × AV)} {a0 : Array Value} {l : Nat} {rc : Loop} {st : LoopState} {pd : Option Code} {h : List (Nat × Blk)} {M : Loc} {fpX fp : Foot} {w w' : World}

theorem LoopJ.moved (hL : Local C.X) (hJ : LoopJ C t a0 l rc st pd h M fpX w fp) (hs : ∀ b, fp b → w'.heap[b]? = w.heap[b]?) : LoopJ C t a0 l rc st pd h M fpX w' fp := by
  have hX : ∀ b, fpX b → w'.heap[b]? = w.heap[b]? := fun b hb => hs b ((hJ.foot b).2 (.inl hb))
  refine { hJ with heap := ?_, outer := ?_, fpok := ?_, rc := ?_ }
  · intro id B hB
    exact (hJ.heap _ _ hB).same (hs _ ((hJ.foot _).2 (.inr (.inr ⟨id, B, hB, rfl⟩))))
  · exact hL w w' fpX hJ.outer (fun b hb => (hJ.fpok b hb).1) hX
  · intro b hb
    exact ⟨lt_of_same (hJ.fpok b hb).1 (hX b hb), (hJ.fpok b hb).2⟩
  · rw [hs l ((hJ.foot l).2 (.inr (.inl rfl)))]; exact hJ.rc

/-- The record is turned. -/
theorem LoopJ.record (hL : Local C.X) (hJ : LoopJ C t a0 l rc st pd h M fpX w fp) {o : Obj} :
    (∀ id B, lk h id = some B → BlkAt M (w.putObj l o) id B) ∧ C.X (w.putObj l o) fpX ∧ (∀ b, fpX b → b < (w.putObj l o).heap.size ∧ (b < C.w0.heap.size → C.S0 b)) := by
  refine ⟨fun id B hB => (hJ.heap _ _ hB).same (World.putObj_heap_other (hJ.apart _ _ hB).2), ?_, fun b hb => by rw [World.putObj_size]; exact hJ.fpok b hb⟩
  exact hL w _ fpX hJ.outer (fun b hb => (hJ.fpok b hb).1) (fun b hb => World.putObj_heap_other (fun e => hJ.lX (e ▸ hb)))

theorem agree_putObj {S : Nat → Prop} {w0 w : World} (h : Agree S w0 w) {l : Nat} {o : Obj} (hl : l < w0.heap.size → S l) : Agree S w0 (w.putObj l o) :=
  ⟨h.os, h.tape, h.output, by rw [World.putObj_size]; exact h.size, fun k hk hs => by
    have hne : k ≠ l := fun e => by subst e; exact hs (hl hk)
    rw [World.putObj_heap_other hne]
    exact h.block k hk hs⟩
end

/-- A round's outer part. -/
def roundX (X : Res) (l : Nat) (rc : Loop) (st : LoopState) : Res := fun w fp =>
  ∃ fpX, X w fpX ∧ ¬ fpX l ∧ w.heap[l]? = some (.loop { rc with state := st, pending := none }) ∧ ∀ b, fp b ↔ fpX b ∨ b = l

theorem roundX_local {X : Res} (hX : Local X) (l : Nat) (rc : Loop) (st : LoopState) : Local (roundX X l rc st) := by
  rintro w w' fp ⟨fpX, h1, h2, h3, h4⟩ hlt hs
  exact ⟨fpX, hX w w' fpX h1 (fun b hb => hlt b ((h4 b).2 (.inl hb))) (fun b hb => hs b ((h4 b).2 (.inl hb))), h2, by rw [hs l ((h4 l).2 (.inr rfl))]; exact h3, h4⟩

/-- A round's surroundings. -/
def roundC (C : Ctx) (lo : Nat) (a0 : Array Value) (l : Nat) (rc : Loop) (st : LoopState) (wy : World) (fpy : Foot) (Rr : Value → World → Prop) : Ctx :=
  { P := C.P, w0 := wy, S0 := fpy, X := roundX C.X l rc st, b := { (default : Frame) with fn := C.b.fn, kind := .normal, roundOf := some l }, n := ⟨lo, C.n.hi⟩, t0 := a0, ds := [],
    Z := fun cs m => ∀ c cs', cs = c :: cs' → ∃ v w', m = lone (Frame.finish c v) cs' w' ∧ Rr v w' }

/-- How a round ends: for the next one; with a jump. -/
def roundR (C : Ctx) (t : List (Nat × AV)) (a0 : Array Value) (l : Nat) (rc : Loop) (wy : World) (fpy : Foot) (Next : List (Nat × Blk) → Prop) (Stop : Code → List (Nat × Blk) → Prop) : Value → World → Prop := fun v w' =>
  ∃ fp', Grown fpy wy fp' w' ∧ (v = .bool true ∧ (∃ h M fpX, Next h ∧ LoopJ C t a0 l rc .ready none h M fpX w' fp') ∨
    v = .bool false ∧ (∃ c h M fpX, Stop c h ∧ LoopJ C t a0 l rc .done (some c) h M fpX w' fp'))

def keysLt (lo : Nat) : List (Nat × AV) → Bool
  | [] => true
  | (i, _) :: r => match Nat.blt i lo with | true => keysLt lo r | false => false

theorem keysLt_lk {lo : Nat} : ∀ {l : List (Nat × AV)} {i : Nat} {x : AV}, keysLt lo l = true → lk l i = some x → i < lo
  | [], i, x, _, h => by cases h
  | (j, y) :: r, i, x, hb, h => by
    simp only [keysLt] at hb
    split at hb
    · rename_i hy
      simp only [lk] at h
      split at h
      · rename_i he; have := Nat.eq_of_beq_eq_true he; subst this; simpa using hy
      · exact keysLt_lk hb h
    · cases hb

section
variable {C : Ctx} {lo : Nat} {t : List (Nat × AV)} {a0 : Array Value} {l : Nat} {rc : Loop} {wy : World} {fpy : Foot} {Next : List (Nat × Blk) → Prop} {Stop : Code → List (Nat × Blk) → Prop} {σ : St}

theorem Run.beginRound {Rr : Value → World → Prop} {k : List Item} (hL : Local C.X) (hlw : fpy l) (h : Run (roundC C lo a0 l rc .busy wy fpy Rr) k σ) : Run (roundC C lo a0 l rc .ready wy fpy Rr) (.beginRound :: k) σ := by
  intro M fp a w hR cs
  obtain ⟨fpX, h1, h2, h3, h4⟩ := hR.outer
  have hrun := run_beginRound (P := C.P) h3 rfl
  have hlt : l < w.heap.size := (Array.getElem?_eq_some_iff.1 h3).1
  have hne : ∀ id B, lk σ.h id = some B → (M id).1 ≠ l := fun id B hB e => hR.apart _ _ hB ((h4 _).2 (.inr e))
  have hR' : Rel (roundC C lo a0 l rc .busy wy fpy Rr) M fp σ a (w.putObj l (.loop { rc with state := .busy, pending := none })) := by
    refine { heap := ?_, inj := hR.inj, own := hR.own, apart := hR.apart, agree := ?_, outer := ?_, fpok := ?_, size := hR.size, frozen := hR.frozen, tmps := hR.tmps, defers := hR.defers }
    · exact fun id B hB => (hR.heap _ _ hB).same (World.putObj_heap_other (hne _ _ hB))
    · exact agree_putObj hR.agree (fun _ => hlw)
    · refine ⟨fpX, ?_, h2, World.putObj_heap_same hlt, h4⟩
      exact hL w _ fpX h1 (fun b hb => (hR.fpok b ((h4 b).2 (.inl hb))).1) (fun b hb => World.putObj_heap_other (fun e => h2 (e ▸ hb)))
    · intro b hb; rw [World.putObj_size]; exact hR.fpok b hb
  obtain ⟨m, s, z⟩ := h M fp a _ hR' cs
  exact ⟨m, .head (stepR_beginRound rfl hrun) s, z⟩

/-- The state at a round's end, seen from outside. -/
theorem round_out {Rr : Value → World → Prop} (hL : Local C.X) (hlw : fpy l) (hw0 : Agree C.S0 C.w0 wy) (hfy : ∀ b, fpy b → b < C.w0.heap.size → C.S0 b) (hln : C.w0.heap.size ≤ l) (hlo : keysLt lo t = true)
    {M : Loc} {fp : Foot} {a : Act} {w : World} (hR : Rel (roundC C lo a0 l rc .busy wy fpy Rr) M fp σ a w) (ρ : List (Nat × Nat)) {h' : List (Nat × Blk)}
    (ht : inTR ρ σ.t t) (hh : inHR ρ σ.h h') (ha : AM.apart ρ (keys h') = true) (st : LoopState) (pd : Option Code) :
    ∃ fp' M' fpX, Grown fpy wy fp' (w.putObj l (.loop { rc with state := st, pending := pd })) ∧ LoopJ C t a0 l rc st pd h' M' fpX (w.putObj l (.loop { rc with state := st, pending := pd })) fp' := by
  obtain ⟨fpX, h1, h2, h3, h4⟩ := hR.outer
  have hlt : l < w.heap.size := (Array.getElem?_eq_some_iff.1 h3).1
  have hlk : ∀ id B, lk h' id = some B → lk σ.h (ap ρ id) = some (renB ρ B) := fun id B hB => inHR_lk hh _ _ hB
  have hne : ∀ id B, lk h' id = some B → (M (ap ρ id)).1 ≠ l := fun id B hB e => hR.apart _ _ (hlk _ _ hB) ((h4 _).2 (.inr e))
  refine ⟨fun b => fpX b ∨ b = l ∨ ∃ id B, lk h' id = some B ∧ (M (ap ρ id)).1 = b, fun i => M (ap ρ i), fpX, ⟨agree_putObj hR.agree (fun _ => hlw), ?_⟩, ?_⟩
  · intro b hb
    rw [World.putObj_size]
    rcases hb with hb | rfl | ⟨id, B, hB, rfl⟩
    · exact hR.fpok b ((h4 b).2 (.inl hb))
    · exact ⟨hlt, fun _ => hlw⟩
    · exact ⟨(hR.heap _ _ (hlk _ _ hB)).lt, hR.own _ _ (hlk _ _ hB)⟩
  · refine { tmps := ?_, heap := ?_, inj := ?_, own := ?_, apart := ?_, outer := ?_, fpok := ?_, rc := World.putObj_heap_same hlt, lX := h2, lnew := hln, foot := fun b => Iff.rfl }
    · intro i x hx
      have hfz : a.tmps[i]? = a0[i]? := hR.frozen i (keysLt_lk hlo hx)
      rw [← hfz, hR.tmps i _ (inTR_lk ht i x hx), conc_ren]
    · intro id B hB
      exact (hR.heap _ _ (hlk _ _ hB)).ren.same (World.putObj_heap_other (hne _ _ hB))
    · intro id id' B B' hB hB' e
      exact apart_spec ha (lk_keys hB) (lk_keys hB') (hR.inj _ _ _ _ (hlk _ _ hB) (hlk _ _ hB') e)
    · intro id B hB hl
      exact hfy _ (hR.own _ _ (hlk _ _ hB) (Nat.lt_of_lt_of_le hl hw0.size)) hl
    · exact fun id B hB => ⟨fun hf => hR.apart _ _ (hlk _ _ hB) ((h4 _).2 (.inl hf)), hne _ _ hB⟩
    · exact hL w _ fpX h1 (fun b hb => (hR.fpok b ((h4 b).2 (.inl hb))).1) (fun b hb => World.putObj_heap_other (fun e => h2 (e ▸ hb)))
    · intro b hb
      have := hR.fpok b ((h4 b).2 (.inl hb))
      rw [World.putObj_size]
      exact ⟨this.1, fun hl => hfy _ (this.2 (Nat.lt_of_lt_of_le hl hw0.size)) hl⟩

/-- What is known in a round of its surroundings. -/
structure RoundIn (C : Ctx) (lo : Nat) (t : List (Nat × AV)) (l : Nat) (wy : World) (fpy : Foot) : Prop where
  loc : Local C.X
  lw : fpy l
  w0 : Agree C.S0 C.w0 wy
  fy : ∀ b, fpy b → b < C.w0.heap.size → C.S0 b
  ln : C.w0.heap.size ≤ l
  lo : keysLt lo t = true

theorem Run.roundEnd (hI : RoundIn C lo t l wy fpy) (ρ : List (Nat × Nat)) (h' : List (Nat × Blk)) (hN : Next h') (ht : inTR ρ σ.t t) (hh : inHR ρ σ.h h') (ha : AM.apart ρ (keys h') = true) :
    Run (roundC C lo a0 l rc .busy wy fpy (roundR C t a0 l rc wy fpy Next Stop)) [] σ := by
  intro M fp a w hR cs
  match cs with
  | [] => exact ⟨_, .refl _ _, fun c cs' e => by cases e⟩
  | c :: cs =>
    obtain ⟨fpX, h1, h2, h3, h4⟩ := hR.outer
    obtain ⟨fp', M', fpX', hg, hJ⟩ := round_out hI.loc hI.lw hI.w0 hI.fy hI.ln hI.lo hR ρ ht hh ha .ready none
    refine ⟨_, .one (stepR_round_end rfl rfl (run_endRound (P := C.P) none h3)), fun c' cs' e => ?_⟩
    cases e
    exact ⟨.bool true, _, rfl, fp', hg, .inl ⟨rfl, h', M', fpX', hN, hJ⟩⟩

theorem Run.roundRet (hI : RoundIn C lo t l wy fpy) (ρ : List (Nat × Nat)) (h' : List (Nat × Blk)) {k : List Item} (hN : Stop .ret h') (ht : inTR ρ σ.t t) (hh : inHR ρ σ.h h') (ha : AM.apart ρ (keys h') = true) :
    Run (roundC C lo a0 l rc .busy wy fpy (roundR C t a0 l rc wy fpy Next Stop)) (.code .ret :: k) σ := by
  intro M fp a w hR cs
  match cs with
  | [] => exact ⟨_, .refl _ _, fun c cs' e => by cases e⟩
  | c :: cs =>
    obtain ⟨fpX, h1, h2, h3, h4⟩ := hR.outer
    obtain ⟨fp', M', fpX', hg, hJ⟩ := round_out hI.loc hI.lw hI.w0 hI.fy hI.ln hI.lo hR ρ ht hh ha .done (some .ret)
    refine ⟨_, .one (stepR_round_ret rfl rfl (run_endRound (P := C.P) (some .ret) h3)), fun c' cs' e => ?_⟩
    cases e
    exact ⟨.bool false, _, rfl, fp', hg, .inr ⟨rfl, .ret, h', M', fpX', hN, hJ⟩⟩

theorem Run.roundExit (hI : RoundIn C lo t l wy fpy) (ρ : List (Nat × Nat)) (h' : List (Nat × Blk)) {id : Nat} {k : List Item} (hx : exitTo id k = none) (hN : Stop (.exit id) h') (ht : inTR ρ σ.t t) (hh : inHR ρ σ.h h') (ha : AM.apart ρ (keys h') = true) :
    Run (roundC C lo a0 l rc .busy wy fpy (roundR C t a0 l rc wy fpy Next Stop)) (.code (.exit id) :: k) σ := by
  intro M fp a w hR cs
  match cs with
  | [] => exact ⟨_, .refl _ _, fun c cs' e => by cases e⟩
  | c :: cs =>
    obtain ⟨fpX, h1, h2, h3, h4⟩ := hR.outer
    obtain ⟨fp', M', fpX', hg, hJ⟩ := round_out hI.loc hI.lw hI.w0 hI.fy hI.ln hI.lo hR ρ ht hh ha .done (some (.exit id))
    refine ⟨_, .one (stepR_round_exit rfl rfl hx (run_endRound (P := C.P) (some (.exit id)) h3)), fun c' cs' e => ?_⟩
    cases e
    exact ⟨.bool false, _, rfl, fp', hg, .inr ⟨rfl, .exit id, h', M', fpX', hN, hJ⟩⟩
end
end Go.AM

/-
  The abstract machine, seventeenth part: the range over a function, joined; the return behind it. Own work; over any program.
-/
namespace Go.AM

def parT : List (Nat × Value) → List (Nat × AV) → List (Nat × AV)
  | [], t => t
  | (p, x) :: r, t => parT r ((p, .v x) :: t)

def psOK (lo hi : Nat) : List Nat → Bool
  | [] => true
  | p :: r => match Nat.ble lo p with | true => (match Nat.blt p hi with | true => psOK lo hi r | false => false) | false => false

theorem psOK_mem {lo hi : Nat} : ∀ {l : List Nat}, psOK lo hi l = true → ∀ p ∈ l, lo ≤ p ∧ p < hi
  | [], _, p, h => by cases h
  | q :: r, h, p, hp => by
    simp only [psOK] at h
    split at h
    · rename_i h1
      split at h
      · rename_i h2
        cases hp with
        | head => exact ⟨Nat.le_of_ble_eq_true h1, by simpa using h2⟩
        | tail _ hp => exact psOK_mem h p hp
      · cases h
    · cases h

theorem parT_run {M : Loc} {lo : Nat} : ∀ (L : List (Nat × Value)) (t : List (Nat × AV)) (arr : Array Value), (∀ q ∈ L, lo ≤ q.1 ∧ q.1 < arr.size) → (∀ i x, lk t i = some x → arr[i]? = some (conc M x)) →
    (L.foldl (fun tm q => tm.setIfInBounds q.1 q.2) arr).size = arr.size ∧ (∀ i, i < lo → (L.foldl (fun tm q => tm.setIfInBounds q.1 q.2) arr)[i]? = arr[i]?) ∧
      ∀ i x, lk (parT L t) i = some x → (L.foldl (fun tm q => tm.setIfInBounds q.1 q.2) arr)[i]? = some (conc M x)
  | [], t, arr, _, h => ⟨rfl, fun _ _ => rfl, h⟩
  | (p, v) :: L, t, arr, hb, h => by
    have hp := hb (p, v) (List.mem_cons_self ..)
    simp only at hp
    obtain ⟨h1, h2, h3⟩ := parT_run L ((p, .v v) :: t) (arr.setIfInBounds p v) (fun q hq => by rw [Array.size_setIfInBounds]; exact hb q (List.mem_cons_of_mem _ hq)) (by
      intro i x hx
      simp only [lk] at hx
      split at hx
      · rename_i he
        have e := Nat.eq_of_beq_eq_true he
        subst e; cases hx
        simp [hp.2, conc]
      · rename_i he
        have hne : p ≠ i := fun e => by subst e; simp at he
        rw [Array.getElem?_setIfInBounds, if_neg hne]
        exact h i x hx)
    simp only [List.foldl_cons, parT]
    refine ⟨by rw [h1, Array.size_setIfInBounds], fun i hi => ?_, h3⟩
    rw [h2 i hi, Array.getElem?_setIfInBounds, if_neg (by omega)]

theorem Run.rangeFn {C : Ctx} (hL : Local C.X) {k : List Item} {σ : St} {g : Operand} {ps : Array Tmp} {assign body : Code} {f : FuncId} {vs : List Value} {z : AV}
    (hro : C.b.roundOf = none) (hg : σ.ev g = some z) (hz : ∀ M, conc M z = .func (.func f) #[] vs.toArray) (hent : Enters C.P f)
    (lo : Nat) (t : List (Nat × AV)) (htin : inT σ.t t) (hlo : keysLt lo t = true) (hps : psOK lo C.n.hi ps.toList = true)
    {K : Nat → Prop} {xs : List (List Value)} (hit : Iter C.P f vs K C.w0 xs) (hK : ∀ b, K b → b < C.w0.heap.size ∧ ¬ C.S0 b) (hlen : ∀ x ∈ xs, x.length = ps.size)
    (Inv : List (List Value) → List (Nat × Blk) → Prop) (Stop : List (List Value) → Code → List (Nat × Blk) → Prop) (N : Nat)
    (h0 : List (Nat × Blk)) (hI0 : Inv [] h0) (hin : inT σ.h h0)
    (hround : ∀ D l a0 rc wy fpy pre x h, RoundIn (C.marked D) lo t l wy fpy → pre ++ [x] <+: xs → Inv pre h →
      Run (roundC (C.marked D) lo a0 l rc .ready wy fpy (roundR (C.marked D) t a0 l rc wy fpy (Inv (pre ++ [x])) (Stop (pre ++ [x])))) [.code assign, .beginRound, .code body] ⟨parT (ps.toList.zip x) t, h, N⟩)
    (hdone : ∀ D h, Inv xs h → Run (C.marked D) k ⟨t, h, N⟩)
    (hstop : ∀ D pre c h, pre <+: xs → Stop pre c h → Run (C.marked D) (.code c :: k) ⟨t, h, N⟩) :
    Run C (.code (.rangeFunc g ps assign body) :: k) σ := by
  intro M fp a w hR cs
  let D := w.heap.size
  let l := w.heap.size + 1
  let rc : Loop := { state := .ready, pending := none, fn := C.b.fn, tmps := a.tmps, params := ps, assign, body, defers := D }
  let W1 : World := (w.alloc (.deferred (some []))).alloc (.loop rc)
  let y : Value := .func (.yield l) #[] #[]
  have he : (Instr.enterLoop C.b.fn a.tmps ps assign body C.b.roundOf).run C.P w = .ok (l, [mark D]) W1 := by rw [hro]; exact run_enterLoop_outer C.b.fn a.tmps ps assign body
  have hres : (resolve a.eval (rangeCall g l) 0).run C.P W1 = .ok { target := .fn (.func f) vs.toArray, args := #[y] } W1 := by
    simp [resolve, hR.q.ev hg, hz, Deferred.ofValue, y]
    rfl
  have hinv : (invoke (.fn (.func f) vs.toArray) #[y]).run C.P W1 = .ok (.enter f (y :: vs).toArray) W1 := by
    have : (#[y] ++ vs.toArray : Array Value) = (y :: vs).toArray := by simp
    simp only [invoke, this, hent _ _]
  have s1 := stepR_rangeFunc (P := C.P) (b := C.b) (a := a) (k := k) (cs := cs) (w := w) he hres hinv
  have hws : W1.heap.size = w.heap.size + 2 := by simp only [W1, World.size_alloc]
  have hold : ∀ b, b < w.heap.size → W1.heap[b]? = w.heap[b]? := by
    intro b hb
    simp only [W1]
    rw [heap_alloc_old _ _ b (by rw [World.size_alloc]; omega), heap_alloc_old _ _ b hb]
  have hD : W1.heap[D]? = some (.deferred (some [])) := by
    simp only [W1, D]
    rw [heap_alloc_old _ _ _ (by rw [World.size_alloc]; omega)]
    exact World.alloc_heap_new _ _
  have hl : W1.heap[l]? = some (.loop rc) := by
    have := World.alloc_heap_new (w.alloc (.deferred (some []))) (.loop rc)
    rw [show (w.alloc (.deferred (some []))).heap.size = l by simp only [World.size_alloc, l]] at this
    exact this
  have hblk : ∀ id B, lk h0 id = some B → lk σ.h id = some B := fun id B hB => inT_lk hin id B hB
  let J : List (List Value) → Res := fun pre w fp => ∃ h M fpX, Inv pre h ∧ LoopJ (C.marked D) t a.tmps l rc .ready none h M fpX w fp
  let Js : List (List Value) → Res := fun pre w fp => ∃ c h M fpX, Stop pre c h ∧ LoopJ (C.marked D) t a.tmps l rc .done (some c) h M fpX w fp
  have hLm : Local (C.marked D).X := markX_local hL D
  have hJl : ∀ pre, Local (J pre) := fun pre w w' fp ⟨h, M, fpX, h1, h2⟩ _ hs => ⟨h, M, fpX, h1, h2.moved hLm hs⟩
  have hJsl : ∀ pre, Local (Js pre) := fun pre w w' fp ⟨c, h, M, fpX, h1, h2⟩ _ hs => ⟨c, h, M, fpX, h1, h2.moved hLm hs⟩
  let fp1 : Foot := fun b => (fp b ∨ b = D) ∨ b = l ∨ ∃ id B, lk h0 id = some B ∧ (M id).1 = b
  have hfl : ∀ b, fp b → b < w.heap.size := fun b hb => (hR.fpok b hb).1
  have hml : ∀ id B, lk h0 id = some B → (M id).1 < w.heap.size := fun id B hB => (hR.heap _ _ (hblk _ _ hB)).lt
  have hwle : C.w0.heap.size ≤ w.heap.size := hR.agree.size
  have hfp1 : ∀ b, fp1 b → b < W1.heap.size ∧ (b < C.w0.heap.size → C.S0 b) := by
    intro b hb
    rw [hws]
    rcases hb with (hb | rfl) | rfl | ⟨id, B, hB, rfl⟩
    · exact ⟨by have := hfl b hb; omega, (hR.fpok b hb).2⟩
    · exact ⟨by simp only [D]; omega, fun h => by simp only [D] at h; omega⟩
    · exact ⟨by simp only [l]; omega, fun h => by simp only [l] at h; omega⟩
    · exact ⟨by have := hml _ _ hB; omega, hR.own _ _ (hblk _ _ hB)⟩
  have hW1 : Agree C.S0 C.w0 W1 := ⟨hR.agree.os, hR.agree.tape, hR.agree.output, by rw [hws]; omega, fun b hb hs => by rw [hold b (by omega)]; exact hR.agree.block b hb hs⟩
  have hJ0 : J [] W1 fp1 := by
    refine ⟨h0, M, fun b => fp b ∨ b = D, hI0, ?_⟩
    refine { tmps := fun i x hx => hR.tmps i x (inT_lk htin i x hx), heap := ?_, inj := ?_, own := ?_, apart := ?_, outer := ?_, fpok := ?_, rc := hl, lX := ?_, lnew := ?_, foot := fun b => Iff.rfl }
    · exact fun id B hB => (hR.heap _ _ (hblk _ _ hB)).same (hold _ (hml _ _ hB))
    · exact fun id id' B B' hB hB' e => hR.inj _ _ _ _ (hblk _ _ hB) (hblk _ _ hB') e
    · exact fun id B hB => hR.own _ _ (hblk _ _ hB)
    · intro id B hB
      have := hml _ _ hB
      refine ⟨fun hf => ?_, fun e => by simp only [l] at e; omega⟩
      rcases hf with hf | hf
      · exact hR.apart _ _ (hblk _ _ hB) hf
      · simp only [D] at hf; omega
    · exact ⟨fp, hL w W1 fp hR.outer hfl (fun b hb => hold b (hfl b hb)), fun hf => Nat.lt_irrefl _ (hfl _ hf), hD, fun b => Iff.rfl⟩
    · intro b hb
      exact hfp1 b (.inl hb)
    · intro hf
      rcases hf with hf | hf
      · have := hfl _ hf; simp only [l] at this; omega
      · simp only [l, D] at hf; omega
    · show C.w0.heap.size ≤ l
      simp only [l]; omega
  have hys : ∀ pre x, pre ++ [x] <+: xs → Yields C.P y J Js W1 fp1 pre x := by
    intro pre x hpx wy fpy hJy hgr
    obtain ⟨h, M', fpX, hinvp, hJ⟩ := hJy
    have hx : x.length = ps.size := hlen x (hpx.subset (by simp))
    have hag : Agree C.S0 C.w0 wy := hW1.trans hgr.1 (fun i hi hl => (hfp1 i hi).2 hl)
    have hfy : ∀ b, fpy b → b < C.w0.heap.size → C.S0 b := fun b hb hlt => (hfp1 b ((hgr.2 b hb).2 (by have := hW1.size; omega))).2 hlt
    have hrun := run_yield (P := C.P) (args := x.toArray) hJ.rc (by simpa using hx)
    refine ⟨{ target := .fn (.yield l) #[], args := x.toArray }, _, by simp [Deferred.ofValue, y], by simp only [invoke]; exact hrun, ?_⟩
    intro c cs'
    have hpr := parT_run (M := M') (lo := lo) (ps.toList.zip x) t a.tmps (fun q hq => by
      have := psOK_mem hps q.1 (List.of_mem_zip hq).1
      rw [hR.size]; exact this) hJ.tmps
    have htm : (ps.zip x.toArray).foldl (fun tmps (q : Nat × Value) => tmps.setIfInBounds q.1 q.2) a.tmps = (ps.toList.zip x).foldl (fun tm q => tm.setIfInBounds q.1 q.2) a.tmps := by
      rw [← Array.foldl_toList]; simp
    let a' : Act := { tmps := (ps.toList.zip x).foldl (fun tm q => tm.setIfInBounds q.1 q.2) a.tmps, defers := [] }
    have hI : RoundIn (C.marked D) lo t l wy fpy := ⟨hLm, (hJ.foot l).2 (.inr (.inl rfl)), hag, hfy, hJ.lnew, hlo⟩
    have hrel : Rel (roundC (C.marked D) lo a.tmps l rc .ready wy fpy (roundR (C.marked D) t a.tmps l rc wy fpy (Inv (pre ++ [x])) (Stop (pre ++ [x])))) M' (fun b => fpX b ∨ b = l) ⟨parT (ps.toList.zip x) t, h, N⟩ a' wy := by
      refine { heap := hJ.heap, inj := hJ.inj, own := ?_, apart := ?_, agree := Agree.refl _ _, outer := ⟨fpX, hJ.outer, hJ.lX, hJ.rc, fun b => Iff.rfl⟩, fpok := ?_, size := ?_, frozen := hpr.2.1, tmps := hpr.2.2, defers := rfl }
      · exact fun id B hB _ => (hJ.foot _).2 (.inr (.inr ⟨id, B, hB, rfl⟩))
      · exact fun id B hB hf => hf.elim (hJ.apart _ _ hB).1 (hJ.apart _ _ hB).2
      · intro b hb
        have hb' : fpy b := (hJ.foot b).2 (hb.imp id .inl)
        exact ⟨(hgr.2 b hb').1, fun _ => hb'⟩
      · show a'.tmps.size = C.n.hi
        simp only [a']; rw [hpr.1, hR.size]
    obtain ⟨m, s, zz⟩ := hround D l a.tmps rc wy fpy pre x h hI hpx hinvp M' _ a' wy hrel (c :: cs')
    obtain ⟨v, w', rfl, fp', hg', hv⟩ := zz c cs' rfl
    refine ⟨v, w', ⟨fp', hg', ?_⟩, ?_⟩
    · rcases hv with ⟨hv, hh⟩ | ⟨hv, hh⟩
      · exact .inl ⟨hv, hh⟩
      · exact .inr ⟨hv, hh⟩
    · have hfr : Frame.round l C.b.fn ((ps.zip x.toArray).foldl (fun tmps (q : Nat × Value) => tmps.setIfInBounds q.1 q.2) a.tmps) assign body .normal =
          (roundC (C.marked D) lo a.tmps l rc .ready wy fpy (roundR (C.marked D) t a.tmps l rc wy fpy (Inv (pre ++ [x])) (Stop (pre ++ [x])))).b.atR a' [.code assign, .beginRound, .code body] := by
        rw [htm]; simp [Frame.round, Frame.atR, roundC, Ctx.marked, a']
      exact hfr ▸ s
  have hcall := hit y J Js W1 fp1 hJl hJsl hys hJ0 (fun b hb => (hfp1 b hb).1) (fun b hb hk => (hK b hk).2 ((hfp1 b hb).2 (hK b hk).1))
    ⟨hW1.os, hW1.tape, hW1.output, hW1.size, fun b hb hk => hW1.block b hb (fun hs => by
      have : K b := Classical.byContradiction hk
      exact (hK b this).2 hs)⟩
  obtain ⟨e, w', fr, ⟨v, rfl, fp', hgr, hend⟩, hsteps, _, hleave⟩ := hcall (C.b.atR { a with defers := [mark D] ++ a.defers } (.inRangeFunc l :: k) :: cs)
  have s2 := step_leave_returned (c := C.b.atR { a with defers := [mark D] ++ a.defers } (.inRangeFunc l :: k)) (cs := cs) hleave
  rw [finish_atR_inRangeFunc] at s2
  have hag : Agree C.S0 C.w0 w' := hW1.trans hgr.1 (fun i hi hl => (hfp1 i hi).2 hl)
  have key : ∀ (st : LoopState) (pd : Option Code) (h : List (Nat × Blk)) (M' : Loc) (fpX : Foot), st ≠ .busy → LoopJ (C.marked D) t a.tmps l rc st pd h M' fpX w' fp' →
      Run (C.marked D) ((pd.map Item.code).toList ++ k) ⟨t, h, N⟩ → ∃ m, Steps C.P (lone (C.b.atR a (.code (.rangeFunc g ps assign body) :: k)) cs w) m ∧ C.Z cs m := by
    intro st pd h M' fpX hst hJ hr
    obtain ⟨k1, k2, k3⟩ := hJ.record hLm (o := .loop { rc with state := .exhausted, pending := pd })
    have hrel : Rel (C.marked D) M' fpX ⟨t, h, N⟩ { a with defers := [mark D] ++ a.defers } (w'.putObj l (.loop { rc with state := .exhausted, pending := pd })) := by
      refine { heap := k1, inj := hJ.inj, own := hJ.own, apart := fun id B hB => (hJ.apart _ _ hB).1, agree := ?_, outer := k2, fpok := k3, size := hR.size, frozen := hR.frozen, tmps := hJ.tmps, defers := ?_ }
      · refine agree_putObj hag (fun h => ?_)
        have : C.w0.heap.size ≤ l := hJ.lnew
        exact absurd (show l < C.w0.heap.size from h) (by omega)
      · show [mark D] ++ a.defers = mark D :: C.ds
        rw [hR.defers]; rfl
    obtain ⟨m, s, zz⟩ := hr M' fpX _ _ hrel cs
    have s3 := stepR_endRangeFunc (P := C.P) (b := C.b) (a := { a with defers := [mark D] ++ a.defers }) (k := k) (cs := cs) (run_endLoop (P := C.P) hJ.rc hst)
    exact ⟨m, .head s1 (Steps.trans hsteps (.head s2 (.head s3 s))), zz⟩
  rcases hend with ⟨h, M', fpX, hI, hJ⟩ | ⟨pre, hpre, c, h, M', fpX, hS, hJ⟩
  · exact key .ready none h M' fpX (by simp) hJ (hdone D h hI)
  · exact key .done (some c) h M' fpX (by simp) hJ (hstop D pre c h hpre hS)

/-! ### The return behind ranges over functions -/

/-- A function's surroundings behind some ranges. -/
def fnM (P : Program) (f : FuncId) (n : Nat) (w : World) (S0 : Nat → Prop) (X : Res) (R : Value → World → Prop) : List Nat → Ctx
  | [] => fnC P f n w S0 X R
  | D :: Ds => (fnM P f n w S0 X R Ds).marked D

theorem fnM_of {P : Program} {f : FuncId} {n : Nat} {w : World} {S0 : Nat → Prop} {X : Res} {R : Value → World → Prop} : ∀ Ds : List Nat,
    (fnM P f n w S0 X R Ds).P = P ∧ (fnM P f n w S0 X R Ds).w0 = w ∧ (fnM P f n w S0 X R Ds).S0 = S0 ∧ (fnM P f n w S0 X R Ds).n = ⟨0, n⟩ ∧ (fnM P f n w S0 X R Ds).b = (fnC P f n w S0 X R).b ∧
      (fnM P f n w S0 X R Ds).Z = (fnC P f n w S0 X R).Z ∧ (fnM P f n w S0 X R Ds).t0 = #[]
  | [] => ⟨rfl, rfl, rfl, rfl, rfl, rfl, rfl⟩
  | _ :: Ds => fnM_of Ds

theorem fnM_local {P : Program} {f : FuncId} {n : Nat} {w : World} {S0 : Nat → Prop} {X : Res} {R : Value → World → Prop} (hX : Local X) : ∀ Ds : List Nat, Local (fnM P f n w S0 X R Ds).X
  | [] => hX
  | D :: Ds => markX_local (fnM_local hX Ds) D

theorem leave_marks {P : Program} {f : FuncId} {n : Nat} {w0 : World} {S0 : Nat → Prop} {X : Res} {R : Value → World → Prop} (hX : Local X) {σ : St} {cs : List Frame} : ∀ (Ds : List Nat) {M : Loc} {fp : Foot} {a : Act} {w : World} {todo : List Item},
    Rel (fnM P f n w0 S0 X R Ds) M fp σ a w → ∃ fp' w', Steps P (lone { (fnC P f n w0 S0 X R).b.atR a todo with mode := .returning } cs w) (lone { (fnC P f n w0 S0 X R).b.atR { a with defers := [] } todo with mode := .returning } cs w') ∧
      Rel (fnC P f n w0 S0 X R) M fp' σ { a with defers := [] } w'
  | [], M, fp, a, w, todo, hR => by
    have hd : a.defers = [] := hR.defers
    have : { a with defers := [] } = a := by cases a; simp only at hd; subst hd; rfl
    rw [this]
    exact ⟨fp, w, .refl _ _, hR⟩
  | D :: Ds, M, fp, a, w, todo, hR => by
    obtain ⟨e1, e2, e3, e4, e5, e6, e7⟩ := fnM_of (P := P) (f := f) (n := n) (w := w0) (S0 := S0) (X := X) (R := R) Ds
    obtain ⟨fpX, h1, h2, h3, h4⟩ : markX (fnM P f n w0 S0 X R Ds).X D w fp := hR.outer
    have hd : a.defers = mark D :: (fnM P f n w0 S0 X R Ds).ds := hR.defers
    have s1 := step_collected (P := P) (fr := { (fnC P f n w0 S0 X R).b.atR a todo with mode := .returning }) (cs := cs) (w := w) (by simp) (by simpa [Frame.atR] using hd) rfl (run_takeDeferred (P := P) h3)
    have hne : ∀ id B, lk σ.h id = some B → (M id).1 ≠ D := fun id B hB e => hR.apart _ _ hB ((h4 _).2 (.inr e))
    have hR' : Rel (fnM P f n w0 S0 X R Ds) M fpX σ { a with defers := (fnM P f n w0 S0 X R Ds).ds } (w.putObj D (.deferred none)) := by
      refine { heap := ?_, inj := hR.inj, own := hR.own, apart := ?_, agree := ?_, outer := ?_, fpok := ?_, size := hR.size, frozen := hR.frozen, tmps := hR.tmps, defers := rfl }
      · exact fun id B hB => (hR.heap _ _ hB).same (World.putObj_heap_other (hne _ _ hB))
      · exact fun id B hB hf => hR.apart _ _ hB ((h4 _).2 (.inl hf))
      · exact agree_putObj hR.agree (fun h => (hR.fpok D ((h4 D).2 (.inr rfl))).2 h)
      · exact fnM_local hX Ds w _ fpX h1 (fun b hb => (hR.fpok b ((h4 b).2 (.inl hb))).1) (fun b hb => World.putObj_heap_other (fun e => h2 (e ▸ hb)))
      · intro b hb; rw [World.putObj_size]; exact hR.fpok b ((h4 b).2 (.inl hb))
    obtain ⟨fp', w', s2, hR''⟩ := leave_marks hX Ds (todo := todo) hR'
    exact ⟨fp', w', .head (by simpa [Frame.atR] using s1) s2, hR''⟩

theorem Run.retM {P : Program} {T : Tab} (hT : tabOK P T) {f : FuncId} {fn : Func} {n : Nat} {w0 : World} {S0 : Nat → Prop} {X : Res} (hX : Local X) {R : Value → World → Prop} {σ : St} {k : List Item} {p : Prop} {l : List AV} {Ds : List Nat}
    (hf : P.funcs[f]? = some fn) (h : resOf T w0 S0 σ fn.results.toList = some (p, l)) (hp : p)
    (hR : ∀ M fp a w, Rel (fnC P f n w0 S0 X R) M fp σ a w → R (conc M (resAV l)) w) : Run (fnM P f n w0 S0 X R Ds) (.code .ret :: k) σ := by
  intro M fp a w hr cs
  obtain ⟨e1, e2, e3, e4, e5, e6, e7⟩ := fnM_of (P := P) (f := f) (n := n) (w := w0) (S0 := S0) (X := X) (R := R) Ds
  obtain ⟨fp', w', s, hr'⟩ := leave_marks (cs := cs) hX Ds (todo := .code .ret :: k) hr
  refine ⟨_, by rw [e1, e5]; exact .head (stepR_ret rfl) s, ?_⟩
  rw [e6]
  refine ⟨_, w', _, rfl, rfl, ⟨rfl, rfl, rfl, fn, hf, ?_⟩, hR M fp' _ w' hr'⟩
  exact results_run hT hr' (fn := fn) h hp

theorem Run.finM {P : Program} {T : Tab} (hT : tabOK P T) {f : FuncId} {fn : Func} {n : Nat} {w0 : World} {S0 : Nat → Prop} {X : Res} (hX : Local X) {R : Value → World → Prop} {σ : St} {p : Prop} {l : List AV} {Ds : List Nat}
    (hf : P.funcs[f]? = some fn) (h : resOf T w0 S0 σ fn.results.toList = some (p, l)) (hp : p)
    (hR : ∀ M fp a w, Rel (fnC P f n w0 S0 X R) M fp σ a w → R (conc M (resAV l)) w) : Run (fnM P f n w0 S0 X R Ds) [] σ := by
  intro M fp a w hr cs
  obtain ⟨e1, e2, e3, e4, e5, e6, e7⟩ := fnM_of (P := P) (f := f) (n := n) (w := w0) (S0 := S0) (X := X) (R := R) Ds
  obtain ⟨fp', w', s, hr'⟩ := leave_marks (cs := cs) hX Ds (todo := []) hr
  refine ⟨_, by rw [e1, e5]; exact .head (stepR_end rfl) s, ?_⟩
  rw [e6]
  refine ⟨_, w', _, rfl, rfl, ⟨rfl, rfl, rfl, fn, hf, ?_⟩, hR M fp' _ w' hr'⟩
  exact results_run hT hr' (fn := fn) h hp

end Go.AM

/-
  The abstract machine, eighteenth part: a new beginning behind a call that has made memory; functions that make some. Own work; over any program.
-/
namespace Go.AM

/-- What was there in a world stands in a later one from which a run goes on: S: what has been made since. -/
structure Based (w0 w1 : World) (S : Nat → Prop) : Prop where
  agree : Agree (fun _ => False) w0 w1
  new : ∀ b, S b → w0.heap.size ≤ b

theorem Based.refl (w : World) : Based w w (fun _ => False) := ⟨Agree.refl _ _, fun _ h => h.elim⟩

theorem Based.later {w0 w1 w2 : World} {S : Nat → Prop} (h : Based w0 w1 S) (k : Agree S w1 w2) : Agree (fun _ => False) w0 w2 :=
  ⟨k.os.trans h.agree.os, k.tape.trans h.agree.tape, k.output.trans h.agree.output, Nat.le_trans h.agree.size k.size, fun i hi _ => by
    rw [k.block i (Nat.lt_of_lt_of_le hi h.agree.size) (fun hs => by have := h.new i hs; omega)]
    exact h.agree.block i hi (fun f => f)⟩

/-- The surroundings, begun anew. -/
abbrev Ctx.rebase (C : Ctx) (w1 : World) (S1 : Nat → Prop) : Ctx := { C with w0 := w1, S0 := S1 }

/-- What may still be turned behind a call that began in w: what might be turned before, and what had been made by then. -/
structure Since (w0 : World) (S0 : Nat → Prop) (w : World) (S1 : Nat → Prop) : Prop where
  old : ∀ k, k < w0.heap.size → ¬ S0 k → ¬ S1 k
  new : ∀ k, w.heap.size ≤ k → ¬ S1 k
  base : ∀ k, k < w.heap.size → (k < w0.heap.size → S0 k) → S1 k

theorem Based.call {w0 w1 w w2 : World} {S S2 : Nat → Prop} (h : Based w0 w1 S) (k : Agree S w1 w) (l : Agree (fun _ => False) w w2) (hs : Since w1 S w S2) : Based w0 w2 S2 :=
  ⟨(h.later k).trans l (fun _ f _ => f.elim), fun b hb => by
    rcases Nat.lt_or_ge b w1.heap.size with hl | hl
    · exact h.new b (Classical.byContradiction fun hn => hs.old b hl hn hb)
    · exact Nat.le_trans h.agree.size hl⟩

/-- A call that makes memory and hands back a plain value over it: the run begins anew. -/
theorem Run.callR {C : Ctx} (hL : Local C.X) {k : List Item} {σ : St} {ops : Array Oper} {i : Nat} {rest : List Nat} {o : Oper} {c : Call} {g : Operand} {f : FuncId} {caps xs : List AV} {Q : Value → World → World → Prop}
    (ho : ops[i]? = some o) (hop : o.op = .call c) (hc : c.callee = .value g) (hg : σ.ev g = some (.fn f caps)) (hxs : evs σ c.args.toList = some xs) (hw : wantOf ops σ o = some .yes) (hent : Enters C.P f)
    (hd : dstOK C.n o.dst = true)
    (hcon : ∀ M w, (∀ id B, lk σ.h id = some B → BlkAt M w id B) → Agree C.S0 C.w0 w → GivesR C.P f (concL M (xs ++ caps)) w (fun v w' => Agree (fun _ => False) w w' ∧ Q v w w'))
    (h : ∀ v w w1 S1, Agree C.S0 C.w0 w → Agree (fun _ => False) w w1 → Q v w w1 → Since C.w0 C.S0 w S1 → ∃ z, (∀ M, conc M z = v) ∧ Run (C.rebase w1 S1) (.inRegion ops rest :: k) (σ.put o.dst z)) : Run C (.inRegion ops (i :: rest) :: k) σ := by
  intro M fp a w hR cs
  have hnd : ∀ c, o.op ≠ .defer c := fun c e => by rw [hop] at e; cases e
  have h2 : c.args.map a.eval = (concL M xs).toArray := by apply Array.ext'; simpa using evs_conc hR.q hxs
  have hr : (execOp a.eval o).run C.P w = .ok (.enter f (concL M (xs ++ caps)).toArray) w := by
    simp only [execOp, hop, resolve, hc, h2, hR.q.ev hg, conc, Deferred.ofValue]
    simp [invoke, hent _ _, concL_append]
  have s1 := step_call (b := C.b) (k := k) (cs := cs) (rest := rest) ho (wantOf_yes hR.q hw) hnd hr
  obtain ⟨e, w', fr, ⟨v, rfl, hag, hq⟩, hsteps, _, hleave⟩ := hcon M w hR.heap hR.agree (C.b.atR a (.inRegion ops (i :: rest) :: k) :: cs)
  have hR' := hR.agree' hL hag
  let S1 : Nat → Prop := fun b => b < w.heap.size ∧ (b < C.w0.heap.size → C.S0 b)
  have hS1 : Since C.w0 C.S0 w S1 := ⟨fun k hk hs h => hs (h.2 hk), fun k hk h => by have := h.1; omega, fun k hk hs => ⟨hk, hs⟩⟩
  have hrel : Rel (C.rebase w' S1) M fp σ a w' := by
    refine { heap := hR'.heap, inj := hR'.inj, own := ?_, apart := hR'.apart, agree := Agree.refl _ _, outer := hR'.outer, fpok := ?_, size := hR'.size, frozen := hR'.frozen, tmps := hR'.tmps, defers := hR'.defers }
    · exact fun id B hB _ => ⟨(hR.heap _ _ hB).lt, hR.own _ _ hB⟩
    · exact fun b hb => ⟨(hR'.fpok b hb).1, fun _ => hR.fpok b hb⟩
  obtain ⟨z, hz, hrun⟩ := h v w w' S1 hR.agree hag hq hS1
  obtain ⟨m, s, e⟩ := hrun M fp _ w' (hrel.put (z := z) (dstOK_lt hd)) cs
  have hfin : (C.b.atR a (.inRegion ops (i :: rest) :: k)).finish v = C.b.atR (a.put o.dst v) (.inRegion ops rest :: k) := by rw [Frame.finish_atR, ho]; rfl
  refine ⟨m, .head s1 (Steps.trans hsteps (.head (step_leave_returned hleave) ?_)), e⟩
  rw [hfin, ← hz M]; exact s

/-- A function of which the call makes memory at most. -/
abbrev Makes (P : Program) (f : FuncId) (args : List Value) (w : World) (Q : Value → World → Prop) : Prop :=
  GivesR P f args w fun v w' => Agree (fun _ => False) w w' ∧ Q v w'

abbrev fnQ (P : Program) (f : FuncId) (n : Nat) (w : World) (Q : Value → World → Prop) : Ctx := fnC P f n w (fun _ => False) noX (fun v' w' => Agree (fun _ => False) w w' ∧ Q v' w')

theorem Makes.of_run {P : Program} {f : FuncId} {fn : Func} {c : Code} {args : List Value} {w : World} {Q : Value → World → Prop} (hf : P.funcs[f]? = some fn) (hb : fn.body = some c)
    (hn : args.length ≤ fn.ntmps) (h : Run (fnQ P f fn.ntmps w Q) [.code c] ⟨argsT 0 args, [], 0⟩) : Makes P f args w Q := calls_of_run hf hb hn h

/-- The return of a plain value in a run that has begun anew. -/
theorem Run.retB {P : Program} {T : Tab} (hT : tabOK P T) {f : FuncId} {fn : Func} {n : Nat} {w0 w1 : World} {S : Nat → Prop} {v : Value} {σ : St} {k : List Item} {p : Prop} {l : List AV} {Ds : List Nat} {X : Res} (hX : Local X)
    (hB : Based w0 w1 S) (hf : P.funcs[f]? = some fn) (h : resOf T w1 S σ fn.results.toList = some (p, l)) (hp : p) (hv : ∀ M, conc M (resAV l) = v) :
    Run (fnM P f n w1 S X (fun v' w' => v' = v ∧ Agree (fun _ => False) w0 w') Ds) (.code .ret :: k) σ :=
  Run.retM hT hX hf h hp fun M _ _ _ hr => ⟨hv M, hB.later hr.agree⟩

/-- The return of whatever value, with what is known of the blocks. -/
theorem Run.retQ {P : Program} {T : Tab} (hT : tabOK P T) {f : FuncId} {fn : Func} {n : Nat} {w0 w1 : World} {S : Nat → Prop} {Q : Value → World → Prop} {σ : St} {k : List Item} {p : Prop} {l : List AV} {Ds : List Nat} {X : Res} (hX : Local X)
    (hB : Based w0 w1 S) (hf : P.funcs[f]? = some fn) (h : resOf T w1 S σ fn.results.toList = some (p, l)) (hp : p)
    (hv : ∀ M w', (∀ id B, lk σ.h id = some B → BlkAt M w' id B) → Agree S w1 w' → Q (conc M (resAV l)) w') :
    Run (fnM P f n w1 S X (fun v' w' => Agree (fun _ => False) w0 w' ∧ Q v' w') Ds) (.code .ret :: k) σ :=
  Run.retM hT hX hf h hp fun M _ _ w' hr => ⟨hB.later hr.agree, hv M w' hr.heap hr.agree⟩

end Go.AM

/-
  The abstract machine, nineteenth part: function values that are plain values, called for what they give. Own work; over any program.
-/
namespace Go.AM

/-- A check at a loop's head by what the values are. -/
def inTC (l : List (Nat × AV)) : List (Nat × AV) → Prop
  | [] => True
  | (i, x) :: r => (∃ y, lk l i = some y ∧ ∀ M, conc M y = conc M x) ∧ inTC l r

theorem inTC_lk {l : List (Nat × AV)} : ∀ {l' : List (Nat × AV)}, inTC l l' → ∀ i x, lk l' i = some x → ∃ y, lk l i = some y ∧ ∀ M, conc M y = conc M x
  | [], _, i, x, h => by cases h
  | (j, y) :: r, hin, i, x, h => by
    simp only [lk] at h
    split at h
    · rename_i he
      have := Nat.eq_of_beq_eq_true he
      subst this; cases h; exact hin.1
    · exact inTC_lk hin.2 i x h

theorem Run.toC {C : Ctx} {todo : List Item} {σ : St} {t' : List (Nat × AV)} {h' : List (Nat × Blk)} {n' : Nat} (h : Run C todo ⟨t', h', n'⟩) (ht : inTC σ.t t') (hh : inT σ.h h') : Run C todo σ := by
  intro M fp a w hR cs
  refine h M fp a w ?_ cs
  refine { heap := fun id B hB => hR.heap id B (inT_lk hh id B hB), inj := fun i j B B' h h' e => hR.inj i j B B' (inT_lk hh _ _ h) (inT_lk hh _ _ h') e, own := fun id B hB => hR.own id B (inT_lk hh id B hB),
           apart := fun id B hB => hR.apart id B (inT_lk hh id B hB), agree := hR.agree, outer := hR.outer, fpok := hR.fpok, size := hR.size, frozen := hR.frozen, tmps := ?_, defers := hR.defers }
  intro i x hx
  obtain ⟨y, hy, he⟩ := inTC_lk ht i x hx
  rw [hR.tmps i y hy, he]

theorem inTC_same {l : List (Nat × AV)} {i : Nat} {x : AV} (h : lk l i = some x) : ∃ y, lk l i = some y ∧ ∀ M, conc M y = conc M x := ⟨x, h, fun _ => rfl⟩

section
variable {C : Ctx} {held : List (Nat × Blk)} {n0 : Nat} {ops : Array Oper} {i : Nat} {ord : List (Nat × Bool)} {rest : List Nat} {k : List Item} {σ : St} {o : Oper} {c : Call} {g : Operand} {f : FuncId} {cs : List Value} {xs : List AV} {vs : List Value} {r : Value}

theorem callFv_run {M : Loc} {a : Act} {w : World} (hR : RelQ C M σ a w) (hop : o.op = .call c) (hc : c.callee = .value g) (hg : σ.ev g = some (.v (.func (.func f) #[] cs.toArray))) (hxs : evs σ c.args.toList = some xs) (hvs : toVs xs = some vs) (hent : Enters C.P f) :
    (execOp a.eval o).run C.P w = .ok (.enter f (vs ++ cs).toArray) w := by
  have h2 : c.args.map a.eval = vs.toArray := by apply Array.ext'; rw [← toVs_conc (M := M) hvs]; simpa using evs_conc hR hxs
  simp only [execOp, hop, resolve, hc, h2, hR.ev hg, conc, Deferred.ofValue]
  simp [invoke, hent _ _]

theorem Run.callFv (hL : Local C.X) (ho : ops[i]? = some o) (hop : o.op = .call c) (hc : c.callee = .value g) (hg : σ.ev g = some (.v (.func (.func f) #[] cs.toArray))) (hxs : evs σ c.args.toList = some xs) (hvs : toVs xs = some vs) (hw : wantOf ops σ o = some .yes) (hent : Enters C.P f)
    (hd : dstOK C.n o.dst = true) (hfn : ∀ w, Agree C.S0 C.w0 w → Gives C.P f (vs ++ cs) w r)
    (h : Run C (.inRegion ops rest :: k) (σ.put o.dst (.v r))) : Run C (.inRegion ops (i :: rest) :: k) σ := by
  intro M fp a w hR cs'
  have hnd : ∀ c, o.op ≠ .defer c := fun c e => by rw [hop] at e; cases e
  have s1 := step_call (b := C.b) (k := k) (cs := cs') (rest := rest) ho (wantOf_yes hR.q hw) hnd (callFv_run hR.q hop hc hg hxs hvs hent)
  obtain ⟨e, w', fr, ⟨rfl, hag⟩, hsteps, _, hleave⟩ := hfn w hR.agree (C.b.atR a (.inRegion ops (i :: rest) :: k) :: cs')
  obtain ⟨m, s, e⟩ := h M fp _ w' ((hR.agree' hL hag).put (z := .v r) (dstOK_lt hd)) cs'
  have hfin : (C.b.atR a (.inRegion ops (i :: rest) :: k)).finish r = C.b.atR (a.put o.dst r) (.inRegion ops rest :: k) := by rw [Frame.finish_atR, ho]; rfl
  refine ⟨m, .head s1 (Steps.trans hsteps (.head (step_leave_returned hleave) ?_)), e⟩
  rw [hfin]; exact s

theorem RunO.callFv (hL : Local C.X) (hbel : hBelow n0 held = true) (ho : ops[i]? = some o) (hop : o.op = .call c) (hc : c.callee = .value g) (hg : σ.ev g = some (.v (.func (.func f) #[] cs.toArray))) (hxs : evs σ c.args.toList = some xs) (hvs : toVs xs = some vs) (hw : wantOf ops σ o = some .yes) (hent : Enters C.P f)
    (hd : dstOK C.n o.dst = true) (hfn : ∀ w, Agree C.S0 C.w0 w → Gives C.P f (vs ++ cs) w r)
    (h : RunO C held n0 ops ord k (σ.put o.dst (.v r))) : RunO C held n0 ops ((i, false) :: ord) k σ := by
  refine RunO.alone ho fun M0 M fp a w hM hn hR hS => ?_
  unfold OpW
  simp only [ho, if_pos (wantOf_yes hR.q hw), callFv_run hR.q hop hc hg hxs hvs hent]
  refine ⟨fun c e => (by rw [hop] at e; cases e), Calls.mono' (hfn w hR.agree) fun e w' hh => ?_⟩
  obtain ⟨h1, h3⟩ := hh
  refine ⟨r, h1, M, fp, _, hM, by cases o.dst <;> exact hn, (hR.agree' hL h3).put (z := .v r) (dstOK_lt hd), ?_, h⟩
  refine ⟨?_, hR.agree.trans h3 (fun _ f _ => f.elim)⟩
  have hlk : ∀ id B, lk held id = some B → BlkAt M w id B := hBelow_lk hbel hM hS.1
  refine hBelow_lk hbel (fun i hi => (hM i hi).symm) ?_
  intro id B hB
  have := hlk _ _ hB
  have hlt := this.lt
  have hb : w'.heap[(M id).1]? = w.heap[(M id).1]? := h3.block _ hlt (fun f => f)
  cases B with
  | cells e segs => exact ⟨by rw [hb]; exact this.1, this.2⟩
  | row e sz n vs => obtain ⟨h1, cur, h2, h3⟩ := this; exact ⟨h1, cur, by rw [hb]; exact h2, h3⟩

/-- The last store of a region: what was held may go. -/
theorem RunO.effLast {T : Tab} (hT : tabOK C.P T) (hL : Local C.X) (hla : Nat.beq i (lastOf ops) = true) {E : Eff} (ho : ops[i]? = some o) (hw : wantOf ops σ o = some .yes) (hev : evEff T C.w0 C.S0 σ.t σ.h σ.nx o = some E) (hp : E.p) (hb : E.new = true → σ.bel = true)
    (hd : dstOK C.n o.dst = true) (h : Run C k ((E.next σ).put o.dst E.z)) : RunO C held n0 ops [(i, false)] k σ := by
  refine RunO.aloneLast hla ho fun M fp a w hR => ?_
  obtain ⟨M', w', v, hM', hrun, hv, hR'⟩ := evEff_run hT hL hR hev hp hb
  unfold OpW
  rcases hv with rfl | ⟨rfl, hz⟩
  · simp only [ho, if_pos (wantOf_yes hR.q hw), hrun]
    exact ⟨evEff_nd hev, M', fp, _, hR'.put (z := E.z) (dstOK_lt hd), h⟩
  · simp only [ho, if_pos (wantOf_yes hR.q hw), hrun]
    rw [hz] at h
    exact ⟨evEff_nd hev, M', fp, _, hR'.put (z := .v undef) (dstOK_lt hd), h⟩
end
end Go.AM

/-
  The abstract machine, twentieth part: a drawn region in which two loud operations do not wait for each other: both orders. Own work; over any program.
-/
namespace Go.AM

def addL (x : Nat) : Nat → List Oper → List Oper
  | _, [] => []
  | 0, o :: r => { o with after := o.after.push ⟨x, .data⟩ } :: r
  | y + 1, o :: r => o :: addL x y r
/-- The same operations; y waits for x too. -/
def addE (x y : Nat) (ops : Array Oper) : Array Oper := (addL x y ops.toList).toArray

theorem addL_get (x : Nat) : ∀ (y : Nat) (l : List Oper) (i : Nat), (addL x y l)[i]? = if i = y then l[i]?.map (fun o => { o with after := o.after.push ⟨x, .data⟩ }) else l[i]?
  | _, [], i => by simp [addL]
  | 0, o :: r, 0 => by simp [addL]
  | 0, o :: r, i + 1 => by simp [addL]
  | y + 1, o :: r, 0 => by simp [addL]
  | y + 1, o :: r, i + 1 => by
    simp only [addL, List.getElem?_cons_succ, addL_get x y r i]
    by_cases h : i = y
    · subst h; simp
    · have : ¬ i + 1 = y + 1 := by omega
      simp [h]

theorem addE_get (x y : Nat) (ops : Array Oper) (i : Nat) : (addE x y ops)[i]? = if i = y then ops[i]?.map (fun o => { o with after := o.after.push ⟨x, .data⟩ }) else ops[i]? := by
  unfold addE
  rw [List.getElem?_toArray, addL_get]
  simp

theorem addE_at {x y : Nat} {ops : Array Oper} {i : Nat} {o : Oper} (h : ops[i]? = some o) : ∃ o', (addE x y ops)[i]? = some o' ∧ o'.op = o.op ∧ o'.dst = o.dst ∧ o'.guard = o.guard ∧ (∀ ρ, execOp ρ o' = execOp ρ o) ∧
    ∀ e, e ∈ o'.after ↔ (e ∈ o.after ∨ (i = y ∧ e = ⟨x, .data⟩)) := by
  rw [addE_get, h]
  by_cases hi : i = y
  · rw [if_pos hi]
    refine ⟨_, rfl, rfl, rfl, rfl, fun ρ => rfl, fun e => ?_⟩
    simp [hi]
  · rw [if_neg hi]
    exact ⟨_, rfl, rfl, rfl, rfl, fun ρ => rfl, fun e => by simp [hi]⟩

theorem addE_dst {x y : Nat} {ops : Array Oper} (j : Nat) : ((addE x y ops)[j]?).bind (·.dst) = (ops[j]?).bind (·.dst) := by
  rw [addE_get]
  split
  · cases ops[j]? <;> rfl
  · rfl

theorem addE_yielded {x y : Nat} {ops : Array Oper} (t : Array Value) : yielded (addE x y ops) t = yielded ops t := by
  funext j
  unfold yielded
  rw [addE_dst]

theorem OpW.unadd {P : Program} {x y : Nat} {ops : Array Oper} {i : Nat} {K K' : Act → World → Prop} (hk : ∀ a w, K a w → K' a w) {a : Act} {w : World} (h : OpW P (addE x y ops) i K a w) : OpW P ops i K' a w := by
  unfold OpW at *
  cases ho : ops[i]? with
  | none =>
    have : (addE x y ops)[i]? = none := by rw [addE_get, ho]; simp
    simp only [this] at h
  | some o =>
    obtain ⟨o', h1, h2, h3, h4, h5, _⟩ := addE_at (x := x) (y := y) ho
    have hwant : Region.wanted o' (yielded (addE x y ops) a.tmps) = Region.wanted o (yielded ops a.tmps) := by
      rw [addE_yielded]; unfold Region.wanted; rw [h4]
    simp only [h1, hwant, h2, h3, h5] at h
    simp only []
    by_cases hw : Region.wanted o (yielded ops a.tmps) = true
    · rw [if_pos hw] at h ⊢
      refine ⟨h.1, ?_⟩
      have h := h.2
      generalize (execOp a.eval o).run P w = r at *
      cases r with
      | ok u w' =>
        cases u with
        | value u => exact hk _ _ h
        | skip => exact hk _ _ h
        | enter f args => exact Calls.mono' h fun e w'' ⟨v, h1, h2⟩ => ⟨v, h1, hk _ _ h2⟩
        | _ => exact h.elim
      | halt u w' => exact h.elim
    · rw [if_neg hw] at h ⊢; exact hk _ _ h

theorem ready_add {x y : Nat} {ops : Array Oper} {listed : Array Bool} {j : Nat} (hj : j ∈ Region.ready .any ops listed) (h : j ≠ y ∨ listed.getD x false = true) : j ∈ Region.ready .any (addE x y ops) listed := by
  obtain ⟨h0, o, ho, ha⟩ := mem_ready.1 hj
  obtain ⟨o', h1, _, _, _, _, h6⟩ := addE_at (x := x) (y := y) ho
  refine mem_ready.2 ⟨h0, o', h1, fun e he hb => ?_⟩
  rcases (h6 e).1 he with h7 | ⟨h7, rfl⟩
  · exact ha e h7 hb
  · rcases h with h | h
    · exact absurd h7 h
    · exact h

theorem ready_unadd {x y : Nat} {ops : Array Oper} {listed : Array Bool} {j : Nat} (hj : j ∈ Region.ready .any (addE x y ops) listed) : j ∈ Region.ready .any ops listed := by
  obtain ⟨h0, o', ho', ha⟩ := mem_ready.1 hj
  cases ho : ops[j]? with
  | none => rw [addE_get, ho] at ho'; simp at ho'
  | some o =>
    obtain ⟨o'', h1, _, _, _, _, h6⟩ := addE_at (x := x) (y := y) ho
    rw [h1] at ho'; cases ho'
    exact mem_ready.2 ⟨h0, o, ho, fun e he hb => ha e ((h6 e).2 (.inl he)) hb⟩

theorem getD_set_self {listed : Array Bool} {i : Nat} (h : listed.getD i true = false) : (listed.setIfInBounds i true).getD i false = true := by
  rw [Array.getD_eq_getD_getElem?] at *
  rw [Array.getElem?_setIfInBounds]
  rcases Nat.lt_or_ge i listed.size with h1 | h1
  · simp [h1]
  · rw [Array.getElem?_eq_none h1] at h; cases h

/-- An order in which operations may come up. -/
def OrdL (ops : Array Oper) : Nat → Array Bool → List Nat → Prop
  | 0, _, l => l = []
  | _ + 1, listed, [] => Region.ready .any ops listed = []
  | n + 1, listed, i :: l => i ∈ Region.ready .any ops listed ∧ OrdL ops n (listed.setIfInBounds i true) l

theorem go_ord (ops : Array Oper) : ∀ (n t : Nat) (listed : Array Bool), OrdL ops n listed (Region.linearise.go .any ops n t listed [])
  | 0, t, listed => by simp only [Region.linearise.go, List.reverse_nil]; rfl
  | n + 1, t, listed => by
    simp only [Region.linearise.go]
    change OrdL ops (n + 1) listed (match (Region.ready .any ops listed)[t % (Region.ready .any ops listed).length]? with
      | some i => Region.linearise.go .any ops n (t / (Region.ready .any ops listed).length) (listed.setIfInBounds i true) [i]
      | none => [].reverse)
    cases hi : (Region.ready .any ops listed)[t % (Region.ready .any ops listed).length]? with
    | none =>
      show Region.ready .any ops listed = []
      cases hr : Region.ready .any ops listed with
      | nil => rfl
      | cons x xs =>
        rw [hr] at hi
        have hlt : t % (x :: xs).length < (x :: xs).length := Nat.mod_lt _ (by simp)
        simp at hi
        simp at hlt
        omega
    | some i =>
      simp only []
      rw [linearise_go_acc, List.reverse_singleton, List.singleton_append]
      exact ⟨List.mem_of_getElem? hi, go_ord ops n _ _⟩

/-- Two regions alike but for who waits for whom. -/
def Like (ops' ops : Array Oper) : Prop := ∀ (P : Program) (i : Nat) (K : Act → World → Prop) (a : Act) (w : World), OpW P ops' i K a w → OpW P ops i K a w

theorem Like.refl (ops : Array Oper) : Like ops ops := fun _ _ _ _ _ h => h
theorem Like.add {ops' ops : Array Oper} (x y : Nat) (h : Like ops' ops) : Like (addE x y ops') ops := fun P i K a w h1 => h P i K a w (h1.unadd fun _ _ h => h)

theorem AnyW_along {P : Program} {ops' ops : Array Oper} {S : World → Prop} {Q : Act → World → Prop} (hL : Like ops' ops) (b : Frame) (k : List Item) (cs : List Frame) : ∀ (n : Nat) (listed : Array Bool) (l : List Nat) (a : Act) (w : World),
    AnyW P ops' S Q n listed a w → OrdL ops' n listed l → ∃ a' w', Q a' w' ∧ Steps P (lone (b.atR a (.inRegion ops l :: k)) cs w) (lone (b.atR a' k) cs w')
  | 0, listed, l, a, w, h, ho => by
    subst ho
    exact ⟨a, w, h.2, .one stepR_region_end⟩
  | n + 1, listed, [], a, w, h, ho => ⟨a, w, h.1 ho, .one stepR_region_end⟩
  | n + 1, listed, i :: l, a, w, h, ho => by
    obtain ⟨a1, w1, hK, s1⟩ := (hL P i _ a w (h.2 i ho.1)).steps b l k cs
    obtain ⟨a2, w2, hQ, s2⟩ := AnyW_along hL b k cs n _ l a1 w1 hK.2 ho.2
    exact ⟨a2, w2, hQ, s1.trans s2⟩

theorem ord_add {x y : Nat} {ops : Array Oper} : ∀ (n : Nat) (listed : Array Bool) (l : List Nat), listed.getD x false = true → OrdL ops n listed l → OrdL (addE x y ops) n listed l
  | 0, _, _, _, h => h
  | n + 1, listed, [], hx, h => List.eq_nil_iff_forall_not_mem.2 fun j hj => by have := ready_unadd hj; rw [h] at this; cases this
  | n + 1, listed, i :: l, hx, h => ⟨ready_add h.1 (.inr hx), ord_add n _ l (getD_set_mono hx) h.2⟩

theorem ord_fork {x y : Nat} {ops : Array Oper} (hxy : x ≠ y) : ∀ (n : Nat) (listed : Array Bool) (l : List Nat), OrdL ops n listed l → OrdL (addE x y ops) n listed l ∨ OrdL (addE y x ops) n listed l
  | 0, _, _, h => .inl h
  | n + 1, listed, [], h => .inl (List.eq_nil_iff_forall_not_mem.2 fun j hj => by have := ready_unadd hj; rw [h] at this; cases this)
  | n + 1, listed, i :: l, h => by
    by_cases e : i = x
    · subst e
      exact .inl ⟨ready_add h.1 (.inl hxy), ord_add n _ l (getD_set_self (mem_ready.1 h.1).1) h.2⟩
    · by_cases e' : i = y
      · subst e'
        exact .inr ⟨ready_add h.1 (.inl fun h => hxy h.symm), ord_add n _ l (getD_set_self (mem_ready.1 h.1).1) h.2⟩
      · rcases ord_fork hxy n _ l h.2 with h1 | h1
        · exact .inl ⟨ready_add h.1 (.inl e'), h1⟩
        · exact .inr ⟨ready_add h.1 (.inl e), h1⟩

/-- A region run along every order, each by way of a region that is like it. -/
theorem Run.drawOrd {C : Ctx} (hL : Local C.X) (hm : C.P.follows .mixedOrders = true) {id : Nat} {ops : Array Oper} {k : List Item} {σ : St} (held : List (Nat × Blk)) (hh : inT σ.h held)
    (h : ∀ l, OrdL ops ops.size (Array.replicate ops.size false) l → ∃ ops' ord, Like ops' ops ∧ ops'.size = ops.size ∧ OrdL ops' ops.size (Array.replicate ops.size false) l ∧
      Nat.beq ord.length ops'.size = true ∧ chk ops' ord [] = true ∧ RunO C held σ.nx ops' ord k σ) : Run C (.code (.region id ops true) :: k) σ := by
  intro M fp a w hR cs
  have hR' := hR.drawn hL
  have e : Region.schedule (C.P.follows .mixedOrders) ops (w.tape w.drawn (.order C.b.fn id)) = Region.linearise.go .any ops ops.size (w.tape w.drawn (.order C.b.fn id)) (Array.replicate ops.size false) [] := by
    rw [hm]; simp [Region.schedule, Region.linearise]
  obtain ⟨ops', ord, hl, hs, ho, hlen, hc, h⟩ := h _ (go_ord ops ops.size (w.tape w.drawn (.order C.b.fn id)) (Array.replicate ops.size false))
  have hA := h M M fp a _ (fun _ _ => rfl) (Nat.le_refl _) hR' ⟨fun id B hB => hR'.heap id B (inT_lk hh id B hB), hR'.agree⟩ [] _ (LD.start ops') hc
  rw [Nat.eq_of_beq_eq_true hlen, hs] at hA
  obtain ⟨a', w', hQ, s⟩ := AnyW_along hl C.b k cs ops.size _ _ a _ hA ho
  obtain ⟨m, s2, z⟩ := hQ cs
  refine ⟨m, .head stepR_region_draw ?_, z⟩
  rw [e]
  exact s.trans s2

theorem addL_len (x : Nat) : ∀ (y : Nat) (l : List Oper), (addL x y l).length = l.length
  | _, [] => by simp [addL]
  | 0, o :: r => by simp [addL]
  | y + 1, o :: r => by simp [addL, addL_len x y r]
theorem addE_size (x y : Nat) (ops : Array Oper) : (addE x y ops).size = ops.size := by simp [addE, addL_len]

/-- Two loud operations that do not wait for each other: both orders. -/
theorem Run.drawF {C : Ctx} (hL : Local C.X) (hm : C.P.follows .mixedOrders = true) {id : Nat} {ops : Array Oper} {k : List Item} {σ : St} (x y : Nat) (hxy : Nat.beq x y = false) (loud : List Nat) (held : List (Nat × Blk))
    (hlen : Nat.beq (auto (addE x y ops) loud).length (addE x y ops).size = true) (hlen' : Nat.beq (auto (addE y x ops) loud).length (addE y x ops).size = true)
    (hc : chk (addE x y ops) (auto (addE x y ops) loud) [] = true) (hc' : chk (addE y x ops) (auto (addE y x ops) loud) [] = true) (hh : inT σ.h held)
    (h : RunO C held σ.nx (addE x y ops) (auto (addE x y ops) loud) k σ) (h' : RunO C held σ.nx (addE y x ops) (auto (addE y x ops) loud) k σ) : Run C (.code (.region id ops true) :: k) σ := by
  refine Run.drawOrd hL hm held hh fun l hl => ?_
  rcases ord_fork (x := x) (y := y) (fun e => by rw [e, Nat.beq_refl] at hxy; cases hxy) _ _ l hl with h1 | h1
  · exact ⟨_, _, (Like.refl ops).add x y, addE_size x y ops, h1, hlen, hc, h⟩
  · exact ⟨_, _, (Like.refl ops).add y x, addE_size y x ops, h1, hlen', hc', h'⟩

/-- Paths that come together: what follows is shown once. -/
theorem Run.join {C : Ctx} {todo todo' : List Item} {σ : St} (t' : List (Nat × AV)) (h' : List (Nat × Blk)) (n' : Nat) (h : (∀ σ, inTC σ.t t' → inT σ.h h' → Run C todo' σ) → Run C todo σ) (h2 : Run C todo' ⟨t', h', n'⟩) : Run C todo σ :=
  h fun _ ht hh => Run.toC h2 ht hh

/-- One loud operation beside a chain of two: three orders. -/
theorem Run.drawF2 {C : Ctx} (hL : Local C.X) (hm : C.P.follows .mixedOrders = true) {id : Nat} {ops : Array Oper} {k : List Item} {σ : St} (x y z : Nat) (hxy : Nat.beq x y = false) (hxz : Nat.beq x z = false) (loud : List Nat) (held : List (Nat × Blk))
    (hl1 : Nat.beq (auto (addE x y ops) loud).length (addE x y ops).size = true) (hl2 : Nat.beq (auto (addE x z (addE y x ops)) loud).length (addE x z (addE y x ops)).size = true)
    (hl3 : Nat.beq (auto (addE z x (addE y x ops)) loud).length (addE z x (addE y x ops)).size = true)
    (hc1 : chk (addE x y ops) (auto (addE x y ops) loud) [] = true) (hc2 : chk (addE x z (addE y x ops)) (auto (addE x z (addE y x ops)) loud) [] = true)
    (hc3 : chk (addE z x (addE y x ops)) (auto (addE z x (addE y x ops)) loud) [] = true) (hh : inT σ.h held)
    (h1 : RunO C held σ.nx (addE x y ops) (auto (addE x y ops) loud) k σ) (h2 : RunO C held σ.nx (addE x z (addE y x ops)) (auto (addE x z (addE y x ops)) loud) k σ)
    (h3 : RunO C held σ.nx (addE z x (addE y x ops)) (auto (addE z x (addE y x ops)) loud) k σ) : Run C (.code (.region id ops true) :: k) σ := by
  refine Run.drawOrd hL hm held hh fun l hl => ?_
  rcases ord_fork (x := x) (y := y) (fun e => by rw [e, Nat.beq_refl] at hxy; cases hxy) _ _ l hl with h | h
  · exact ⟨_, _, (Like.refl ops).add x y, addE_size x y ops, h, hl1, hc1, h1⟩
  · rcases ord_fork (x := x) (y := z) (fun e => by rw [e, Nat.beq_refl] at hxz; cases hxz) _ _ l h with h | h
    · exact ⟨_, _, ((Like.refl ops).add y x).add x z, (addE_size x z _).trans (addE_size y x ops), h, hl2, hc2, h2⟩
    · exact ⟨_, _, ((Like.refl ops).add y x).add z x, (addE_size z x _).trans (addE_size y x ops), h, hl3, hc3, h3⟩

/-- Alike, and as long. -/
structure LikeS (ops' ops : Array Oper) : Prop where
  like : Like ops' ops
  size : ops'.size = ops.size
theorem LikeS.refl (ops : Array Oper) : LikeS ops ops := ⟨Like.refl ops, rfl⟩
theorem LikeS.add {ops' ops : Array Oper} (x y : Nat) (h : LikeS ops' ops) : LikeS (addE x y ops') ops := ⟨h.like.add x y, (addE_size x y ops').trans h.size⟩
theorem ord_fork' {ops : Array Oper} (x y : Nat) (hxy : Nat.beq x y = false) {n : Nat} {listed : Array Bool} {l : List Nat} (h : OrdL ops n listed l) : OrdL (addE x y ops) n listed l ∨ OrdL (addE y x ops) n listed l :=
  ord_fork (fun e => by rw [e, Nat.beq_refl] at hxy; cases hxy) n listed l h
theorem draw_leaf {C : Ctx} {ops ops' : Array Oper} {k : List Item} {σ : St} {held : List (Nat × Blk)} {l : List Nat} (loud : List Nat) (hl : LikeS ops' ops) (ho : OrdL ops' ops.size (Array.replicate ops.size false) l)
    (h1 : Nat.beq (auto ops' loud).length ops'.size = true) (h2 : chk ops' (auto ops' loud) [] = true) (h : RunO C held σ.nx ops' (auto ops' loud) k σ) :
    ∃ ops' ord, Like ops' ops ∧ ops'.size = ops.size ∧ OrdL ops' ops.size (Array.replicate ops.size false) l ∧ Nat.beq ord.length ops'.size = true ∧ chk ops' ord [] = true ∧ RunO C held σ.nx ops' ord k σ :=
  ⟨ops', auto ops' loud, hl.like, hl.size, ho, h1, h2, h⟩
end Go.AM

/-
  The abstract machine, twenty-second part: calls that hand over blocks which they have made. Own work; over any program.
-/
namespace Go.AM

mutual
def AV.ge (n : Nat) : AV → Bool
  | .v _ => true
  | .tt _ => true
  | .ptr id _ => Nat.ble n id
  | .elt id _ _ => Nat.ble n id
  | .sl id _ _ _ => Nat.ble n id
  | .fn _ caps => geL n caps
  | .agg l => geL n l
  | .tup l => geL n l
def geL (n : Nat) : List AV → Bool
  | [] => true
  | x :: r => match x.ge n with | true => geL n r | false => false
end

mutual
theorem conc_congrG {M M' : Loc} {n : Nat} (h : ∀ i, n ≤ i → M' i = M i) : ∀ x : AV, x.ge n = true → conc M' x = conc M x
  | .v _, _ => by simp [conc]
  | .tt _, _ => by simp [conc]
  | .ptr id off, hb => by simp [AV.ge] at hb; simp [conc, h id hb]
  | .elt id off j, hb => by simp [AV.ge] at hb; simp [conc, h id hb]
  | .sl id sz off len, hb => by simp [AV.ge] at hb; simp [conc, h id hb]
  | .fn f caps, hb => by simp only [AV.ge] at hb; simp only [conc, concL_congrG h caps hb]
  | .agg l, hb => by simp only [AV.ge] at hb; simp only [conc, concL_congrG h l hb]
  | .tup l, hb => by simp only [AV.ge] at hb; simp only [conc, concL_congrG h l hb]
theorem concL_congrG {M M' : Loc} {n : Nat} (h : ∀ i, n ≤ i → M' i = M i) : ∀ l : List AV, geL n l = true → concL M' l = concL M l
  | [], _ => by simp [concL]
  | x :: r, hb => by
    simp only [geL] at hb
    split at hb
    · rename_i hx; simp only [concL, conc_congrG h x hx, concL_congrG h r hb]
    · cases hb
end

def geSegs (n : Nat) : List Seg → Bool
  | [] => true
  | .one x :: r => match x.ge n with | true => geSegs n r | false => false
  | .vals _ _ :: r => geSegs n r

theorem concSegs_congrG {M M' : Loc} {n : Nat} (h : ∀ i, n ≤ i → M' i = M i) : ∀ l : List Seg, geSegs n l = true → concSegs M' l = concSegs M l
  | [], _ => rfl
  | .one x :: r, hb => by
    simp only [geSegs] at hb
    split at hb
    · rename_i hx; simp only [concSegs, conc_congrG h x hx, concSegs_congrG h r hb]
    · cases hb
  | .vals _ vs :: r, hb => by simp only [geSegs] at hb; simp only [concSegs, concSegs_congrG h r hb]

def Blk.ge (n : Nat) : Blk → Bool
  | .cells _ segs => geSegs n segs
  | .row .. => true

/-- New blocks: numbered from n on, below m, over each other alone. -/
def hGe (n m : Nat) : List (Nat × Blk) → Bool
  | [] => true
  | (i, B) :: r => match Nat.ble n i, Nat.blt i m, B.ge n, B.bel m with | true, true, true, true => hGe n m r | _, _, _, _ => false

theorem hGe_lk {n m : Nat} : ∀ {l : List (Nat × Blk)} {i : Nat} {B : Blk}, hGe n m l = true → lk l i = some B → n ≤ i ∧ i < m ∧ B.ge n = true ∧ B.bel m = true
  | [], i, x, _, h => by cases h
  | (j, y) :: r, i, x, hb, h => by
    simp only [hGe] at hb
    split at hb
    · rename_i h1 h2 h3 h4
      simp only [lk] at h
      split at h
      · rename_i he
        have := Nat.eq_of_beq_eq_true he
        subst this; cases h
        exact ⟨Nat.le_of_ble_eq_true h1, by simpa using h2, h3, h4⟩
      · exact hGe_lk hb h
    · cases hb

theorem lk_append {α : Type} {i : Nat} : ∀ {a b : List (Nat × α)}, lk (a ++ b) i = match lk a i with | some x => some x | none => lk b i
  | [], b => rfl
  | (j, y) :: a, b => by
    simp only [List.cons_append, lk]
    split
    · rfl
    · exact lk_append

theorem BlkAt.congrG {M M' : Loc} {n : Nat} (h : ∀ i, n ≤ i → M' i = M i) {w : World} {id : Nat} (hid : n ≤ id) {B : Blk} (hB : B.ge n = true) (hb : BlkAt M w id B) : BlkAt M' w id B := by
  cases B with
  | cells e segs => exact ⟨by rw [h id hid, concSegs_congrG h segs hB]; exact hb.1, hb.2⟩
  | row e sz n vs =>
    obtain ⟨h1, cur, hc, h2⟩ := hb
    exact ⟨h1, cur, by rw [h id hid]; exact hc, by rw [h id hid]; exact h2⟩

/-- What a call hands over: a value over blocks that it has made. -/
structure Handed (z : AV) (h : List (Nat × Blk)) (w : World) (v : Value) (w' : World) : Prop where
  agree : Agree (fun _ => False) w w'
  ex : ∃ M : Loc, conc M z = v ∧ (∀ id B, lk h id = some B → BlkAt M w' id B ∧ w.heap.size ≤ (M id).1) ∧ ∀ id id' B B', lk h id = some B → lk h id' = some B' → (M id).1 = (M id').1 → id = id'

theorem Rel.handed {C : Ctx} (hL : Local C.X) {M : Loc} {fp : Nat → Prop} {σ : St} {a : Act} {w w' : World} {v : Value} {z : AV} {h : List (Nat × Blk)} {m : Nat} (hR : Rel C M fp σ a w) (hh : Handed z h w v w')
    (hbel : σ.bel = true) (hge : hGe σ.nx m h = true) (hz : z.ge σ.nx = true) (hm : σ.nx ≤ m) : ∃ M', conc M' z = v ∧ (∀ i, i < σ.nx → M' i = M i) ∧ Rel C M' fp ⟨σ.t, h ++ σ.h, m⟩ a w' := by
  obtain ⟨hag, Mh, hv, hbl, hin⟩ := hh
  have hR' := hR.agree' hL hag
  unfold St.bel at hbel
  split at hbel <;> first | (cases hbel; done) | skip
  rename_i ht
  let M' : Loc := fun i => if i < σ.nx then M i else Mh i
  have hlo : ∀ i, i < σ.nx → M' i = M i := fun i hi => by simp only [M', if_pos hi]
  have hhi : ∀ i, σ.nx ≤ i → M' i = Mh i := fun i hi => by simp only [M', if_neg (Nat.not_lt.2 hi)]
  have key : ∀ id B, lk (h ++ σ.h) id = some B → (σ.nx ≤ id ∧ lk h id = some B) ∨ (id < σ.nx ∧ lk σ.h id = some B) := by
    intro id B hB
    rw [lk_append] at hB
    split at hB
    · rename_i x hx
      cases hB
      exact .inl ⟨(hGe_lk hge hx).1, hx⟩
    · exact .inr ⟨(lkh_below hbel hB).1, hB⟩
  refine ⟨M', by rw [conc_congrG hhi z hz]; exact hv, hlo, ?_⟩
  have hadr : ∀ id B, lk h id = some B → w.heap.size ≤ (M' id).1 := fun id B hB => by rw [hhi id (hGe_lk hge hB).1]; exact (hbl id B hB).2
  have hadr' : ∀ id B, lk σ.h id = some B → (M' id).1 = (M id).1 ∧ (M id).1 < w.heap.size := fun id B hB => ⟨by rw [hlo id (lkh_below hbel hB).1], (hR.heap id B hB).lt⟩
  refine { heap := ?_, inj := ?_, own := ?_, apart := ?_, agree := hR'.agree, outer := hR'.outer, fpok := hR'.fpok, size := hR'.size, frozen := hR'.frozen, tmps := ?_, defers := hR'.defers }
  · intro id B hB
    rcases key id B hB with ⟨h1, h2⟩ | ⟨h1, h2⟩
    · exact BlkAt.congrG hhi h1 (hGe_lk hge h2).2.2.1 (hbl id B h2).1
    · exact BlkAt.congr hlo h1 (lkh_below hbel h2).2 rfl (hR'.heap id B h2)
  · intro id id' B B' hB hB' e
    rcases key id B hB with ⟨h1, h2⟩ | ⟨h1, h2⟩ <;> rcases key id' B' hB' with ⟨h3, h4⟩ | ⟨h3, h4⟩
    · rw [hhi id h1, hhi id' h3] at e; exact hin _ _ _ _ h2 h4 e
    · have := hadr id B h2; have := hadr' id' B' h4; omega
    · have := hadr id' B' h4; have := hadr' id B h2; omega
    · rw [hlo id h1, hlo id' h3] at e; exact hR.inj _ _ _ _ h2 h4 e
  · intro id B hB hlt
    rcases key id B hB with ⟨h1, h2⟩ | ⟨h1, h2⟩
    · have := hadr id B h2; have := hR.agree.size; omega
    · rw [(hadr' id B h2).1] at hlt ⊢; exact hR.own id B h2 hlt
  · intro id B hB hf
    rcases key id B hB with ⟨h1, h2⟩ | ⟨h1, h2⟩
    · have := hadr id B h2; have := (hR.fpok _ hf).1; omega
    · rw [(hadr' id B h2).1] at hf; exact hR.apart id B h2 hf
  · intro i x hx
    rw [hR.tmps i x hx]
    congr 1
    exact (conc_congr hlo x (lk_below ht hx)).symm

section
variable {C : Ctx} {ops : Array Oper} {i : Nat} {rest : List Nat} {k : List Item} {σ : St} {o : Oper} {c : Call} {g : Operand} {f : FuncId} {caps xs : List AV} {z : AV} {h : List (Nat × Blk)} {m : Nat}

/-- A call that hands over new blocks. -/
theorem Run.callH (hL : Local C.X) (z : AV) (h : List (Nat × Blk)) (m : Nat) (ho : ops[i]? = some o) (hop : o.op = .call c) (hc : c.callee = .value g) (hg : σ.ev g = some (.fn f caps)) (hxs : evs σ c.args.toList = some xs) (hw : wantOf ops σ o = some .yes) (hent : Enters C.P f)
    (hd : dstOK C.n o.dst = true) (hbel : σ.bel = true) (hge : hGe σ.nx m h = true) (hz : z.ge σ.nx = true) (hm : Nat.ble σ.nx m = true)
    (hfn : ∀ M w, (∀ id B, lk σ.h id = some B → BlkAt M w id B) → Agree C.S0 C.w0 w → GivesR C.P f (concL M (xs ++ caps)) w (Handed z h w))
    (hr : Run C (.inRegion ops rest :: k) (St.put ⟨σ.t, h ++ σ.h, m⟩ o.dst z)) : Run C (.inRegion ops (i :: rest) :: k) σ := by
  refine Run.call (σ' := ⟨σ.t, h ++ σ.h, m⟩) (z := z) ho hop hc hg hxs hw hent hd ?_ hr
  intro M fp a w hR
  refine Calls.mono' (hfn M w hR.heap hR.agree) fun e w' ⟨v, h1, h2⟩ => ?_
  obtain ⟨M', hv, _, hR'⟩ := hR.handed hL h2 hbel hge hz (Nat.le_of_ble_eq_true hm)
  exact ⟨v, h1, M', fp, hR', hv⟩

theorem handed_of {M : Loc} {σ : St} {w0 w : World} {x : AV} {ρ : List (Nat × Nat)} (hag : Agree (fun _ => False) w0 w) (hheap : ∀ id B, lk σ.h id = some B → BlkAt M w id B)
    (hinj : ∀ id id' B B', lk σ.h id = some B → lk σ.h id' = some B' → (M id).1 = (M id').1 → id = id') (hown : ∀ id B, lk σ.h id = some B → w0.heap.size ≤ (M id).1)
    (hx : x = ren ρ z) (hh : inHR ρ σ.h h) (ha : apart ρ (keys h) = true) : Handed z h w0 (conc M x) w := by
  refine ⟨hag, fun i => M (ap ρ i), by rw [hx, conc_ren], fun id B hB => ⟨(hheap _ _ (inHR_lk hh _ _ hB)).ren, hown _ _ (inHR_lk hh _ _ hB)⟩, ?_⟩
  intro id id' B B' hB hB' e
  exact apart_spec ha (lk_keys hB) (lk_keys hB') (hinj _ _ _ _ (inHR_lk hh _ _ hB) (inHR_lk hh _ _ hB') e)

/-- The return of what has been made. -/
theorem Run.retH {P : Program} {T : Tab} (hT : tabOK P T) {f : FuncId} {fn : Func} {n : Nat} {w0 : World} {σ : St} {k : List Item} {p : Prop} {l : List AV} (ρ : List (Nat × Nat))
    (hf : P.funcs[f]? = some fn) (hres : resOf T w0 (fun _ => False) σ fn.results.toList = some (p, l)) (hp : p) (hx : resAV l = ren ρ z) (hh : inHR ρ σ.h h) (ha : apart ρ (keys h) = true) :
    Run (fnC P f n w0 (fun _ => False) noX (Handed z h w0)) (.code .ret :: k) σ :=
  Run.ret hT hf hres hp fun M fp a w hR => handed_of hR.agree hR.heap hR.inj (fun id B hB => Nat.le_of_not_lt fun hlt => (hR.own id B hB hlt).elim) hx hh ha

/-- The same behind ranges over functions, in a run that has begun anew. -/
theorem Run.retHB {P : Program} {T : Tab} (hT : tabOK P T) {f : FuncId} {fn : Func} {n : Nat} {w0 w1 : World} {S : Nat → Prop} {X : Res} (hX : Local X) {σ : St} {k : List Item} {p : Prop} {l : List AV} {Ds : List Nat} (ρ : List (Nat × Nat))
    (hB : Based w0 w1 S) (hf : P.funcs[f]? = some fn) (hres : resOf T w1 S σ fn.results.toList = some (p, l)) (hp : p) (hx : resAV l = ren ρ z) (hh : inHR ρ σ.h h) (ha : apart ρ (keys h) = true) :
    Run (fnM P f n w1 S X (Handed z h w0) Ds) (.code .ret :: k) σ :=
  Run.retM hT hX hf hres hp fun M fp a w hR => handed_of (hB.later hR.agree) hR.heap hR.inj
    (fun id B hB' => Nat.le_of_not_lt fun hlt => by
      have h1 := hR.own id B hB' (Nat.lt_of_lt_of_le hlt hB.agree.size)
      have := hB.new _ h1
      omega) hx hh ha

abbrev HandsZ (P : Program) (f : FuncId) (args : List Value) (w : World) (z : AV) (h : List (Nat × Blk)) : Prop := GivesR P f args w (Handed z h w)

theorem HandsZ.of_run {P : Program} {f : FuncId} {fn : Func} {c : Code} {args : List Value} {w : World} (hf : P.funcs[f]? = some fn) (hb : fn.body = some c)
    (hn : args.length ≤ fn.ntmps) (hr : Run (fnC P f fn.ntmps w (fun _ => False) noX (Handed z h w)) [.code c] ⟨argsT 0 args, [], 0⟩) : HandsZ P f args w z h := calls_of_run hf hb hn hr
end
end Go.AM

/-
  The abstract machine, twenty-third part: iterators that hand over blocks which they have made. Own work; over any program.
-/
namespace Go.AM

/-- A value over blocks of a footprint. -/
structure ItemAt (z : AV) (h : List (Nat × Blk)) (w : World) (v : Value) (F : Foot) : Prop where
  ex : ∃ M : Loc, conc M z = v ∧ (∀ id B, lk h id = some B → BlkAt M w id B) ∧ (∀ id id' B B', lk h id = some B → lk h id' = some B' → (M id).1 = (M id').1 → id = id') ∧ ∀ b, F b ↔ ∃ id B, lk h id = some B ∧ (M id).1 = b

/-- What a call of an iterator's argument does, the value handed over lying in blocks that go with it. -/
def YieldsH {α : Type} (P : Program) (y : Value) (J Js : List α → Res) (w1 : World) (fp1 : Foot) (pre : List α) (x : α) (z : AV) (h : List (Nat × Blk)) : Prop :=
  ∀ w fp F v, J pre w fp → ItemAt z h w v F → (∀ b, F b → ¬ fp b) → Grown fp1 w1 (fun b => fp b ∨ F b) w → CallsV P y [v] w fun r w' =>
    ∃ fp', Grown (fun b => fp b ∨ F b) w fp' w' ∧ (r = .bool true ∧ J (pre ++ [x]) w' fp' ∨ r = .bool false ∧ Js (pre ++ [x]) w' fp')

def disj (ρ : List (Nat × Nat)) (l r : List Nat) : Bool := l.all fun i => r.all fun j => !Nat.beq (ap ρ i) j

theorem disj_spec {ρ : List (Nat × Nat)} {l r : List Nat} (h : disj ρ l r = true) {i j : Nat} (hi : i ∈ l) (hj : j ∈ r) : ap ρ i ≠ j := by
  have := List.all_eq_true.1 (List.all_eq_true.1 h i hi) j hj
  intro e
  subst e
  simp at this

theorem Run.yieldH {α : Type} {C : Ctx} {k : List Item} {σ : St} {ops : Array Oper} {i : Nat} {rest : List Nat} {o : Oper} {c : Call} {g : Operand} {y : Value} {u z : AV} {h hrem : List (Nat × Blk)} {J Js : List α → Res} {pre : List α} {x : α} (ρ : List (Nat × Nat))
    (hX : C.X = J pre) (hy : YieldsH C.P y J Js C.w0 C.S0 pre x z h)
    (ho : ops[i]? = some o) (hop : o.op = .call c) (hc : c.callee = .value g) (hg : σ.ev g = some (.v y)) (hxs : evs σ c.args.toList = some [u]) (hu : u = ren ρ z) (hh : inHR ρ σ.h h) (ha : AM.apart ρ (keys h) = true)
    (hrm : inT σ.h hrem) (hdj : disj ρ (keys h) (keys hrem) = true) (hw : wantOf ops σ o = some .yes) (hd : dstOK C.n o.dst = true)
    (ht : Run (C.withX (J (pre ++ [x]))) (.inRegion ops rest :: k) (St.put ⟨σ.t, hrem, σ.nx⟩ o.dst (.tt true)))
    (hf : Run (C.withX (Js (pre ++ [x]))) (.inRegion ops rest :: k) (St.put ⟨σ.t, hrem, σ.nx⟩ o.dst (.tt false))) : Run C (.inRegion ops (i :: rest) :: k) σ := by
  refine Run.callV ho hop hc hg hxs hw fun M fp a w hR => ?_
  have h0 : J pre w fp := by rw [← hX]; exact hR.outer
  let F : Foot := fun b => ∃ id B, lk h id = some B ∧ (M (ap ρ id)).1 = b
  have hlk : ∀ id B, lk h id = some B → lk σ.h (ap ρ id) = some (renB ρ B) := fun id B hB => inHR_lk hh _ _ hB
  have hrl : ∀ id B, lk hrem id = some B → lk σ.h id = some B := fun id B hB => inT_lk hrm _ _ hB
  have hit : ItemAt z h w (conc M u) F := by
    refine ⟨fun i => M (ap ρ i), by rw [hu, conc_ren], fun id B hB => (hR.heap _ _ (hlk _ _ hB)).ren, fun id id' B B' hB hB' e => ?_, fun b => Iff.rfl⟩
    exact apart_spec ha (lk_keys hB) (lk_keys hB') (hR.inj _ _ _ _ (hlk _ _ hB) (hlk _ _ hB') e)
  have hFf : ∀ b, F b → ¬ fp b := by
    rintro b ⟨id, B, hB, rfl⟩
    exact hR.apart _ _ (hlk _ _ hB)
  have hgr : Grown C.S0 C.w0 (fun b => fp b ∨ F b) w := by
    refine ⟨hR.agree, fun b hb => ?_⟩
    rcases hb with hb | ⟨id, B, hB, rfl⟩
    · exact hR.fpok b hb
    · exact ⟨(hR.heap _ _ (hlk _ _ hB)).lt, hR.own _ _ (hlk _ _ hB)⟩
  show CallsV C.P y (concL M [u]) w _
  have e1 : concL M [u] = [conc M u] := by simp [concL]
  rw [e1]
  refine (hy w fp F _ h0 hit hFf hgr).mono fun r w' ⟨fp', hgr', hv⟩ cs => ?_
  have hnF : ∀ id B, lk hrem id = some B → ¬ (fp (M id).1 ∨ F (M id).1) := by
    intro id B hB hf
    rcases hf with hf | ⟨id', B', hB', e⟩
    · exact hR.apart _ _ (hrl _ _ hB) hf
    · exact disj_spec hdj (lk_keys hB') (lk_keys hB) (hR.inj _ _ _ _ (hlk _ _ hB') (hrl _ _ hB) e)
  have hrel : ∀ X : Res, X w' fp' → Rel (C.withX X) M fp' ⟨σ.t, hrem, σ.nx⟩ a w' := by
    intro X hX'
    refine { heap := ?_, inj := fun id id' B B' hB hB' e => hR.inj _ _ _ _ (hrl _ _ hB) (hrl _ _ hB') e, own := fun id B hB => hR.own _ _ (hrl _ _ hB), apart := ?_, agree := ?_, outer := hX', fpok := ?_, size := hR.size, frozen := hR.frozen, tmps := hR.tmps, defers := hR.defers }
    · intro id B hB
      exact (hR.heap _ _ (hrl _ _ hB)).same (hgr'.1.block _ (hR.heap _ _ (hrl _ _ hB)).lt (hnF _ _ hB))
    · intro id B hB hf
      exact hnF _ _ hB ((hgr'.2 _ hf).2 (hR.heap _ _ (hrl _ _ hB)).lt)
    · exact hR.agree.trans hgr'.1 (fun i hi hl => (hgr.2 i hi).2 hl)
    · intro b hb'
      exact ⟨(hgr'.2 b hb').1, fun hl => (hgr.2 b ((hgr'.2 b hb').2 (Nat.lt_of_lt_of_le hl hR.agree.size))).2 hl⟩
  rcases hv with ⟨rfl, hJ⟩ | ⟨rfl, hJ⟩
  · exact ht M fp' _ w' ((hrel _ hJ).put (C := C.withX _) (z := .tt true) (dstOK_lt hd)) cs
  · exact hf M fp' _ w' ((hrel _ hJ).put (C := C.withX _) (z := .tt false) (dstOK_lt hd)) cs

/-- An iterator whose values lie in blocks that go with them. -/
def IterH {α : Type} (P : Program) (f : FuncId) (caps : List Value) (K : Nat → Prop) (w0 : World) (xs : List α) (zf : α → AV) (hf : α → List (Nat × Blk)) : Prop :=
  ∀ (y : Value) (J Js : List α → Res) (w : World) (fp : Foot), (∀ pre, Local (J pre)) → (∀ pre, Local (Js pre)) → (∀ pre x, pre ++ [x] <+: xs → YieldsH P y J Js w fp pre x (zf x) (hf x)) →
    J [] w fp → (∀ b, fp b → b < w.heap.size) → (∀ b, fp b → ¬ K b) → Agree (fun b => ¬ K b) w0 w →
      GivesR P f (y :: caps) w fun _ w' => ∃ fp', Grown fp w fp' w' ∧ (J xs w' fp' ∨ ∃ pre, pre <+: xs ∧ Js pre w' fp')

theorem IterH.of_run {α : Type} {P : Program} {f : FuncId} {fn : Func} {c : Code} {caps : List Value} {K : Nat → Prop} {w0 : World} {xs : List α} {zf : α → AV} {hf' : α → List (Nat × Blk)} (hf : P.funcs[f]? = some fn) (hb : fn.body = some c)
    (hn : (caps.length + 1) ≤ fn.ntmps)
    (h : ∀ (y : Value) (J Js : List α → Res) (w : World) (fp : Foot), (∀ pre, Local (J pre)) → (∀ pre, Local (Js pre)) → (∀ pre x, pre ++ [x] <+: xs → YieldsH P y J Js w fp pre x (zf x) (hf' x)) →
      Agree (fun b => ¬ K b) w0 w → (∀ b, fp b → ¬ K b) → ∀ R : Value → World → Prop, (∀ v w' fp' pre, Grown fp w fp' w' → (pre = xs ∧ J pre w' fp' ∨ pre <+: xs ∧ Js pre w' fp') → R v w') →
        Run (fnC P f fn.ntmps w fp (J []) R) [.code c] ⟨argsT 0 (y :: caps), [], 0⟩) : IterH P f caps K w0 xs zf hf' := by
  intro y J Js w fp hJ hJs hy h0 hfp hK hag
  refine givesX_of_run (S0 := fp) (X := J []) hf hb (by simpa using hn) h0 (fun b hb => ⟨hfp b hb, fun _ => hb⟩) ?_
  refine h y J Js w fp hJ hJs hy hag hK _ fun v w' fp' pre hg hp => ?_
  rcases hp with ⟨rfl, hp⟩ | ⟨h1, h2⟩
  · exact ⟨fp', hg, .inl hp⟩
  · exact ⟨fp', hg, .inr ⟨pre, h1, h2⟩⟩

theorem Run.rangeFnH {α : Type} {C : Ctx} (hL : Local C.X) {k : List Item} {σ : St} {g : Operand} {p : Tmp} {assign body : Code} {f : FuncId} {vs : List Value} {z : AV}
    (hro : C.b.roundOf = none) (hg : σ.ev g = some z) (hz : ∀ M, conc M z = .func (.func f) #[] vs.toArray) (hent : Enters C.P f)
    (lo : Nat) (t : List (Nat × AV)) (htin : inT σ.t t) (hlo : keysLt lo t = true) (hp : Nat.ble lo p = true) (hp2 : Nat.blt p C.n.hi = true)
    {K : Nat → Prop} {xs : List α} {zf : α → AV} {hf : α → List (Nat × Blk)} (hit : IterH C.P f vs K C.w0 xs zf hf) (hK : ∀ b, K b → b < C.w0.heap.size ∧ ¬ C.S0 b)
    (Inv : List α → List (Nat × Blk) → Prop) (Stop : List α → Code → List (Nat × Blk) → Prop) (N m : Nat) (hNm : N ≤ m)
    (htb : tBelow N t = true) (hib : ∀ pre h, Inv pre h → hBelow N h = true) (hfge : ∀ x ∈ xs, hGe N m (hf x) = true) (hzge : ∀ x ∈ xs, (zf x).ge N = true)
    (h0 : List (Nat × Blk)) (hI0 : Inv [] h0) (hin : inT σ.h h0)
    (hround : ∀ D l a0 rc wy fpy pre x h, RoundIn (C.marked D) lo t l wy fpy → pre ++ [x] <+: xs → Inv pre h →
      Run (roundC (C.marked D) lo a0 l rc .ready wy fpy (roundR (C.marked D) t a0 l rc wy fpy (Inv (pre ++ [x])) (Stop (pre ++ [x])))) [.code assign, .beginRound, .code body] ⟨(p, zf x) :: t, hf x ++ h, m⟩)
    (hdone : ∀ D h, Inv xs h → Run (C.marked D) k ⟨t, h, N⟩)
    (hstop : ∀ D pre c h, pre <+: xs → Stop pre c h → Run (C.marked D) (.code c :: k) ⟨t, h, N⟩) :
    Run C (.code (.rangeFunc g #[p] assign body) :: k) σ := by
  intro M fp a w hR cs
  let D := w.heap.size
  let l := w.heap.size + 1
  let rc : Loop := { state := .ready, pending := none, fn := C.b.fn, tmps := a.tmps, params := #[p], assign, body, defers := D }
  let W1 : World := (w.alloc (.deferred (some []))).alloc (.loop rc)
  let y : Value := .func (.yield l) #[] #[]
  have he : (Instr.enterLoop C.b.fn a.tmps #[p] assign body C.b.roundOf).run C.P w = .ok (l, [mark D]) W1 := by rw [hro]; exact run_enterLoop_outer C.b.fn a.tmps #[p] assign body
  have hres : (resolve a.eval (rangeCall g l) 0).run C.P W1 = .ok { target := .fn (.func f) vs.toArray, args := #[y] } W1 := by
    simp [resolve, hR.q.ev hg, hz, Deferred.ofValue, y]
    rfl
  have hinv : (invoke (.fn (.func f) vs.toArray) #[y]).run C.P W1 = .ok (.enter f (y :: vs).toArray) W1 := by
    have : (#[y] ++ vs.toArray : Array Value) = (y :: vs).toArray := by simp
    simp only [invoke, this, hent _ _]
  have s1 := stepR_rangeFunc (P := C.P) (b := C.b) (a := a) (k := k) (cs := cs) (w := w) he hres hinv
  have hws : W1.heap.size = w.heap.size + 2 := by simp only [W1, World.size_alloc]
  have hold : ∀ b, b < w.heap.size → W1.heap[b]? = w.heap[b]? := by
    intro b hb
    rw [heap_alloc_old _ _ b (by rw [World.size_alloc]; omega), heap_alloc_old _ _ b hb]
  have hD : W1.heap[D]? = some (.deferred (some [])) := by
    rw [heap_alloc_old _ _ _ (by rw [World.size_alloc]; omega)]
    exact World.alloc_heap_new _ _
  have hl : W1.heap[l]? = some (.loop rc) := by
    have := World.alloc_heap_new (w.alloc (.deferred (some []))) (.loop rc)
    rw [show (w.alloc (.deferred (some []))).heap.size = l by simp only [World.size_alloc, l]] at this
    exact this
  have hblk : ∀ id B, lk h0 id = some B → lk σ.h id = some B := fun id B hB => inT_lk hin id B hB
  let J : List α → Res := fun pre w fp => ∃ h M fpX, Inv pre h ∧ LoopJ (C.marked D) t a.tmps l rc .ready none h M fpX w fp
  let Js : List α → Res := fun pre w fp => ∃ c h M fpX, Stop pre c h ∧ LoopJ (C.marked D) t a.tmps l rc .done (some c) h M fpX w fp
  have hLm : Local (C.marked D).X := markX_local hL D
  have hJl : ∀ pre, Local (J pre) := fun pre w w' fp ⟨h, M, fpX, h1, h2⟩ _ hs => ⟨h, M, fpX, h1, h2.moved hLm hs⟩
  have hJsl : ∀ pre, Local (Js pre) := fun pre w w' fp ⟨c, h, M, fpX, h1, h2⟩ _ hs => ⟨c, h, M, fpX, h1, h2.moved hLm hs⟩
  let fp1 : Foot := fun b => (fp b ∨ b = D) ∨ b = l ∨ ∃ id B, lk h0 id = some B ∧ (M id).1 = b
  have hfl : ∀ b, fp b → b < w.heap.size := fun b hb => (hR.fpok b hb).1
  have hml : ∀ id B, lk h0 id = some B → (M id).1 < w.heap.size := fun id B hB => (hR.heap _ _ (hblk _ _ hB)).lt
  have hwle : C.w0.heap.size ≤ w.heap.size := hR.agree.size
  have hfp1 : ∀ b, fp1 b → b < W1.heap.size ∧ (b < C.w0.heap.size → C.S0 b) := by
    intro b hb
    rw [hws]
    rcases hb with (hb | rfl) | rfl | ⟨id, B, hB, rfl⟩
    · exact ⟨by have := hfl b hb; omega, (hR.fpok b hb).2⟩
    · exact ⟨by simp only [D]; omega, fun h => by simp only [D] at h; omega⟩
    · exact ⟨by simp only [l]; omega, fun h => by simp only [l] at h; omega⟩
    · exact ⟨by have := hml _ _ hB; omega, hR.own _ _ (hblk _ _ hB)⟩
  have hW1 : Agree C.S0 C.w0 W1 := ⟨hR.agree.os, hR.agree.tape, hR.agree.output, by rw [hws]; omega, fun b hb hs => by rw [hold b (by omega)]; exact hR.agree.block b hb hs⟩
  have hJ0 : J [] W1 fp1 := by
    refine ⟨h0, M, fun b => fp b ∨ b = D, hI0, ?_⟩
    refine { tmps := fun i x hx => hR.tmps i x (inT_lk htin i x hx), heap := ?_, inj := ?_, own := ?_, apart := ?_, outer := ?_, fpok := ?_, rc := hl, lX := ?_, lnew := ?_, foot := fun b => Iff.rfl }
    · exact fun id B hB => (hR.heap _ _ (hblk _ _ hB)).same (hold _ (hml _ _ hB))
    · exact fun id id' B B' hB hB' e => hR.inj _ _ _ _ (hblk _ _ hB) (hblk _ _ hB') e
    · exact fun id B hB => hR.own _ _ (hblk _ _ hB)
    · intro id B hB
      have := hml _ _ hB
      refine ⟨fun hf => ?_, fun e => by simp only [l] at e; omega⟩
      rcases hf with hf | hf
      · exact hR.apart _ _ (hblk _ _ hB) hf
      · simp only [D] at hf; omega
    · exact ⟨fp, hL w W1 fp hR.outer hfl (fun b hb => hold b (hfl b hb)), fun hf => Nat.lt_irrefl _ (hfl _ hf), hD, fun b => Iff.rfl⟩
    · intro b hb
      exact hfp1 b (.inl hb)
    · intro hf
      rcases hf with hf | hf
      · have := hfl _ hf; simp only [l] at this; omega
      · simp only [l, D] at hf; omega
    · show C.w0.heap.size ≤ l
      simp only [l]; omega
  have hys : ∀ pre x, pre ++ [x] <+: xs → YieldsH C.P y J Js W1 fp1 pre x (zf x) (hf x) := by
    intro pre x hpx wy fpy F v hJy hitem hFf hgr
    obtain ⟨h, M', fpX, hinvp, hJ⟩ := hJy
    obtain ⟨Mi, hv, hbi, hji, hFi⟩ := hitem
    have hx := hpx.subset (show x ∈ pre ++ [x] by simp)
    have hge := hfge x hx
    have hzg := hzge x hx
    have hbel := hib _ _ hinvp
    have hag : Agree C.S0 C.w0 wy := hW1.trans hgr.1 (fun i hi hl => (hfp1 i hi).2 hl)
    let fpz : Foot := fun b => fpy b ∨ F b
    have hfy : ∀ b, fpz b → b < C.w0.heap.size → C.S0 b := fun b hb hlt => (hfp1 b ((hgr.2 b hb).2 (by have := hW1.size; omega))).2 hlt
    let M'' : Loc := fun i => if i < N then M' i else Mi i
    have hlow : ∀ i, i < N → M'' i = M' i := fun i hi => by simp only [M'', if_pos hi]
    have hhi : ∀ i, N ≤ i → M'' i = Mi i := fun i hi => by simp only [M'', if_neg (Nat.not_lt.2 hi)]
    have key : ∀ id B, lk (hf x ++ h) id = some B → (N ≤ id ∧ lk (hf x) id = some B) ∨ (id < N ∧ lk h id = some B) := by
      intro id B hB
      rw [lk_append] at hB
      split at hB
      · rename_i u hu
        cases hB
        exact .inl ⟨(hGe_lk hge hu).1, hu⟩
      · exact .inr ⟨(lkh_below hbel hB).1, hB⟩
    have hinF : ∀ id B, lk (hf x) id = some B → F (Mi id).1 := fun id B hB => (hFi _).2 ⟨id, B, hB, rfl⟩
    have hinY : ∀ id B, lk h id = some B → fpy (M' id).1 := fun id B hB => (hJ.foot _).2 (.inr (.inr ⟨id, B, hB, rfl⟩))
    have hrun := run_yield (P := C.P) (args := #[v]) hJ.rc (by simp [rc])
    refine ⟨{ target := .fn (.yield l) #[], args := #[v] }, _, by simp [Deferred.ofValue, y], by simp only [invoke]; exact hrun, ?_⟩
    intro c cs'
    have hpl : p < a.tmps.size := by rw [hR.size]; simpa using hp2
    let a' : Act := { tmps := a.tmps.setIfInBounds p v, defers := [] }
    have htm : (#[p].zip #[v]).foldl (fun tmps (q : Nat × Value) => tmps.setIfInBounds q.1 q.2) a.tmps = a.tmps.setIfInBounds p v := by simp
    have hI : RoundIn (C.marked D) lo t l wy fpz := ⟨hLm, .inl ((hJ.foot l).2 (.inr (.inl rfl))), hag, hfy, hJ.lnew, hlo⟩
    have hrel : Rel (roundC (C.marked D) lo a.tmps l rc .ready wy fpz (roundR (C.marked D) t a.tmps l rc wy fpz (Inv (pre ++ [x])) (Stop (pre ++ [x])))) M'' (fun b => fpX b ∨ b = l) ⟨(p, zf x) :: t, hf x ++ h, m⟩ a' wy := by
      refine { heap := ?_, inj := ?_, own := ?_, apart := ?_, agree := Agree.refl _ _, outer := ⟨fpX, hJ.outer, hJ.lX, hJ.rc, fun b => Iff.rfl⟩, fpok := ?_, size := ?_, frozen := ?_, tmps := ?_, defers := rfl }
      · intro id B hB
        rcases key id B hB with ⟨h1, h2⟩ | ⟨h1, h2⟩
        · exact BlkAt.congrG hhi h1 (hGe_lk hge h2).2.2.1 (hbi id B h2)
        · exact BlkAt.congr hlow h1 (lkh_below hbel h2).2 rfl (hJ.heap id B h2)
      · intro id id' B B' hB hB' e
        rcases key id B hB with ⟨h1, h2⟩ | ⟨h1, h2⟩ <;> rcases key id' B' hB' with ⟨h3, h4⟩ | ⟨h3, h4⟩
        · rw [hhi id h1, hhi id' h3] at e; exact hji _ _ _ _ h2 h4 e
        · rw [hhi id h1, hlow id' h3] at e; exact (hFf _ (hinF _ _ h2) (e ▸ hinY _ _ h4)).elim
        · rw [hlow id h1, hhi id' h3] at e; exact (hFf _ (hinF _ _ h4) (e ▸ hinY _ _ h2)).elim
        · rw [hlow id h1, hlow id' h3] at e; exact hJ.inj _ _ _ _ h2 h4 e
      · intro id B hB _
        rcases key id B hB with ⟨h1, h2⟩ | ⟨h1, h2⟩
        · rw [hhi id h1]; exact .inr (hinF _ _ h2)
        · rw [hlow id h1]; exact .inl (hinY _ _ h2)
      · intro id B hB hf'
        rcases key id B hB with ⟨h1, h2⟩ | ⟨h1, h2⟩
        · rw [hhi id h1] at hf'
          refine hFf _ (hinF _ _ h2) ((hJ.foot _).2 ?_)
          exact hf'.imp (fun h => h) .inl
        · rw [hlow id h1] at hf'
          exact hf'.elim (hJ.apart _ _ h2).1 (hJ.apart _ _ h2).2
      · intro b hb
        have hb' : fpy b := (hJ.foot b).2 (hb.imp id .inl)
        exact ⟨(hgr.2 b (.inl hb')).1, fun _ => .inl hb'⟩
      · show a'.tmps.size = C.n.hi
        simp only [a', Array.size_setIfInBounds]; exact hR.size
      · intro i hi
        show (a.tmps.setIfInBounds p v)[i]? = a.tmps[i]?
        have hi' : i < lo := hi
        have : p ≠ i := fun e => Nat.lt_irrefl i (Nat.lt_of_lt_of_le hi' (e ▸ Nat.le_of_ble_eq_true hp))
        rw [Array.getElem?_setIfInBounds, if_neg this]
      · intro i u hu
        simp only [lk] at hu
        show (a.tmps.setIfInBounds p v)[i]? = _
        split at hu
        · rename_i he
          have e := Nat.eq_of_beq_eq_true he
          subst e; cases hu
          rw [Array.getElem?_setIfInBounds, if_pos rfl, if_pos hpl, conc_congrG hhi _ hzg, hv]
        · rename_i he
          have hne : p ≠ i := fun e => by subst e; simp at he
          rw [Array.getElem?_setIfInBounds, if_neg hne, hJ.tmps i u hu, conc_congr hlow u (lk_below htb hu)]
    obtain ⟨m', s, zz⟩ := hround D l a.tmps rc wy fpz pre x h hI hpx hinvp M'' _ a' wy hrel (c :: cs')
    obtain ⟨r, w', rfl, fp', hg', hv'⟩ := zz c cs' rfl
    refine ⟨r, w', ⟨fp', hg', ?_⟩, ?_⟩
    · rcases hv' with ⟨hv', hh⟩ | ⟨hv', hh⟩
      · obtain ⟨h', M', fpX', e1, e2⟩ := hh; exact .inl ⟨hv', h', M', fpX', e1, e2⟩
      · obtain ⟨c', h', M', fpX', e1, e2⟩ := hh; exact .inr ⟨hv', c', h', M', fpX', e1, e2⟩
    · have hfr : Frame.round l C.b.fn ((#[p].zip #[v]).foldl (fun tmps (q : Nat × Value) => tmps.setIfInBounds q.1 q.2) a.tmps) assign body .normal =
          (roundC (C.marked D) lo a.tmps l rc .ready wy fpz (roundR (C.marked D) t a.tmps l rc wy fpz (Inv (pre ++ [x])) (Stop (pre ++ [x])))).b.atR a' [.code assign, .beginRound, .code body] := by
        rw [htm]; simp [Frame.round, Frame.atR, roundC, Ctx.marked, a']
      exact hfr ▸ s
  have hcall := hit y J Js W1 fp1 hJl hJsl hys hJ0 (fun b hb => (hfp1 b hb).1) (fun b hb hk => (hK b hk).2 ((hfp1 b hb).2 (hK b hk).1))
    ⟨hW1.os, hW1.tape, hW1.output, hW1.size, fun b hb hk => hW1.block b hb (fun hs => by
      have : K b := Classical.byContradiction hk
      exact (hK b this).2 hs)⟩
  obtain ⟨e, w', fr, ⟨v, rfl, fp', hgr, hend⟩, hsteps, _, hleave⟩ := hcall (C.b.atR { a with defers := [mark D] ++ a.defers } (.inRangeFunc l :: k) :: cs)
  have s2 := step_leave_returned (c := C.b.atR { a with defers := [mark D] ++ a.defers } (.inRangeFunc l :: k)) (cs := cs) hleave
  rw [finish_atR_inRangeFunc] at s2
  have hag : Agree C.S0 C.w0 w' := hW1.trans hgr.1 (fun i hi hl => (hfp1 i hi).2 hl)
  have key : ∀ (st : LoopState) (pd : Option Code) (h : List (Nat × Blk)) (M' : Loc) (fpX : Foot), st ≠ .busy → LoopJ (C.marked D) t a.tmps l rc st pd h M' fpX w' fp' →
      Run (C.marked D) ((pd.map Item.code).toList ++ k) ⟨t, h, N⟩ → ∃ m, Steps C.P (lone (C.b.atR a (.code (.rangeFunc g #[p] assign body) :: k)) cs w) m ∧ C.Z cs m := by
    intro st pd h M' fpX hst hJ hr
    obtain ⟨k1, k2, k3⟩ := hJ.record hLm (o := .loop { rc with state := .exhausted, pending := pd })
    have hrel : Rel (C.marked D) M' fpX ⟨t, h, N⟩ { a with defers := [mark D] ++ a.defers } (w'.putObj l (.loop { rc with state := .exhausted, pending := pd })) := by
      refine { heap := k1, inj := hJ.inj, own := hJ.own, apart := fun id B hB => (hJ.apart _ _ hB).1, agree := ?_, outer := k2, fpok := k3, size := hR.size, frozen := hR.frozen, tmps := hJ.tmps, defers := ?_ }
      · refine agree_putObj hag (fun h => ?_)
        have : C.w0.heap.size ≤ l := hJ.lnew
        exact absurd (show l < C.w0.heap.size from h) (by omega)
      · show [mark D] ++ a.defers = mark D :: C.ds
        rw [hR.defers]; rfl
    obtain ⟨m, s, zz⟩ := hr M' fpX _ _ hrel cs
    have s3 := stepR_endRangeFunc (P := C.P) (b := C.b) (a := { a with defers := [mark D] ++ a.defers }) (k := k) (cs := cs) (run_endLoop (P := C.P) hJ.rc hst)
    exact ⟨m, .head s1 (Steps.trans hsteps (.head s2 (.head s3 s))), zz⟩
  rcases hend with ⟨h, M', fpX, hI, hJ⟩ | ⟨pre, hpre, c, h, M', fpX, hS, hJ⟩
  · exact key .ready none h M' fpX (by simp) hJ (hdone D h hI)
  · exact key .done (some c) h M' fpX (by simp) hJ (hstop D pre c h hpre hS)
end Go.AM

/-
  The abstract machine, twenty-fourth part: functions that work on blocks which are handed to them; calls by what follows them. Own work; over any program.
-/
namespace Go.AM

def argsA : Nat → List AV → List (Nat × AV)
  | _, [] => []
  | i, x :: r => (i, x) :: argsA (i + 1) r

theorem argsA_lk : ∀ {l : List AV} {i j : Nat} {x : AV}, lk (argsA i l) j = some x → i ≤ j ∧ l[j - i]? = some x
  | [], i, j, x, h => by cases h
  | y :: r, i, j, x, h => by
    simp only [argsA, lk] at h
    split at h
    · rename_i he
      have e := Nat.eq_of_beq_eq_true he
      subst e; cases h
      exact ⟨Nat.le_refl _, by simp⟩
    · rename_i he
      obtain ⟨h1, h2⟩ := argsA_lk h
      refine ⟨by omega, ?_⟩
      rw [show j - i = (j - (i + 1)) + 1 by omega]; simpa using h2

theorem concL_get {M : Loc} : ∀ {l : List AV} {j : Nat} {x : AV}, l[j]? = some x → (concL M l)[j]? = some (conc M x)
  | y :: r, 0, x, h => by simp at h; subst h; simp [concL]
  | y :: r, j + 1, x, h => by simp at h; simp only [concL, List.getElem?_cons_succ]; exact concL_get h

theorem concL_length {M : Loc} : ∀ (l : List AV), (concL M l).length = l.length
  | [] => by simp [concL]
  | y :: r => by simp [concL, concL_length r]

/-- What a footprint and some blocks take up. -/
def footH (M : Loc) (fp : Foot) (h : List (Nat × Blk)) : Foot := fun b => fp b ∨ ∃ id B, lk h id = some B ∧ (M id).1 = b

/-- A call to which blocks are handed. -/
theorem givesO_of_run {P : Program} {f : FuncId} {fn : Func} {c : Code} {args : List AV} {h : List (Nat × Blk)} {nx : Nat} {M : Loc} {w : World} {X : Res} {fp : Foot} {R : Value → World → Prop} (hf : P.funcs[f]? = some fn) (hb : fn.body = some c)
    (hn : args.length ≤ fn.ntmps) (hX : X w fp) (hfp : ∀ b, fp b → b < w.heap.size)
    (hh : ∀ id B, lk h id = some B → BlkAt M w id B) (hi : ∀ id id' B B', lk h id = some B → lk h id' = some B' → (M id).1 = (M id').1 → id = id') (ha : ∀ id B, lk h id = some B → ¬ fp (M id).1)
    (hr : Run (fnC P f fn.ntmps w (footH M fp h) X R) [.code c] ⟨argsA 0 args, h, nx⟩) : GivesR P f (concL M args) w R := by
  intro cs
  let a : Act := { tmps := (concL M args).toArray ++ Array.replicate (fn.ntmps - (concL M args).length) undef, defers := [] }
  let b : Frame := { (default : Frame) with fn := f, kind := .normal, roundOf := none }
  have henter : Frame.enter P f (concL M args).toArray .normal = b.atR a [.code c] := by
    simp [Frame.enter, Frame.atR, hf, hb, b, a]
  have hR : Rel (fnC P f fn.ntmps w (footH M fp h) X R) M fp ⟨argsA 0 args, h, nx⟩ a w := by
    refine { heap := hh, inj := hi, own := fun id B hB _ => .inr ⟨id, B, hB, rfl⟩, apart := ha, agree := Agree.refl _ _, outer := hX,
             fpok := fun b hb => ⟨hfp b hb, fun _ => .inl hb⟩, size := by simp [a, fnC, concL_length]; omega, frozen := fun i hi => absurd hi (Nat.not_lt_zero _), tmps := ?_, defers := rfl }
    intro i x hx
    obtain ⟨_, h2⟩ := argsA_lk hx
    simp only [Nat.sub_zero] at h2
    have h3 := concL_get (M := M) h2
    have hlt := (List.getElem?_eq_some_iff.1 h3).1
    simp only [a]
    rw [Array.getElem?_append_left (by simpa using hlt)]
    simpa using h3
  obtain ⟨m, s, v, w', fr, rfl, h1, h2, h3⟩ := hr M fp a w hR cs
  rw [henter]
  exact ⟨.returned v, w', fr, ⟨v, rfl, h3⟩, s, h1, h2⟩

/-- A call, by what follows it. -/
theorem Run.callK {C : Ctx} {k : List Item} {σ : St} {ops : Array Oper} {i : Nat} {rest : List Nat} {o : Oper} {c : Call} {g : Operand} {f : FuncId} {caps xs : List AV}
    (ho : ops[i]? = some o) (hop : o.op = .call c) (hc : c.callee = .value g) (hg : σ.ev g = some (.fn f caps)) (hxs : evs σ c.args.toList = some xs) (hw : wantOf ops σ o = some .yes) (hent : Enters C.P f)
    (hd : dstOK C.n o.dst = true)
    (hcon : ∀ M fp a w, Rel C M fp σ a w → GivesR C.P f (concL M (xs ++ caps)) w (fun v w' => ∃ X' M' fp' σ' z, conc M' z = v ∧ Rel (C.withX X') M' fp' σ' a w' ∧ Run (C.withX X') (.inRegion ops rest :: k) (σ'.put o.dst z))) :
    Run C (.inRegion ops (i :: rest) :: k) σ := by
  intro M fp a w hR cs
  have hnd : ∀ c, o.op ≠ .defer c := fun c e => by rw [hop] at e; cases e
  have h2 : c.args.map a.eval = (concL M xs).toArray := by apply Array.ext'; simpa using evs_conc hR.q hxs
  have hr : (execOp a.eval o).run C.P w = .ok (.enter f (concL M (xs ++ caps)).toArray) w := by
    simp only [execOp, hop, resolve, hc, h2, hR.q.ev hg, conc, Deferred.ofValue]
    simp [invoke, hent _ _, concL_append]
  have s1 := step_call (b := C.b) (k := k) (cs := cs) (rest := rest) ho (wantOf_yes hR.q hw) hnd hr
  obtain ⟨e, w', fr, ⟨v, rfl, X', M', fp', σ', z, hz, hR', hrun⟩, hsteps, _, hleave⟩ := hcon M fp a w hR (C.b.atR a (.inRegion ops (i :: rest) :: k) :: cs)
  obtain ⟨m, s, e⟩ := hrun M' fp' _ w' (hR'.put (C := C.withX X') (z := z) (dstOK_lt hd)) cs
  have hfin : (C.b.atR a (.inRegion ops (i :: rest) :: k)).finish v = C.b.atR (a.put o.dst v) (.inRegion ops rest :: k) := by rw [Frame.finish_atR, ho]; rfl
  refine ⟨m, .head s1 (Steps.trans hsteps (.head (step_leave_returned hleave) ?_)), e⟩
  rw [hfin, ← hz]; exact s

theorem YieldsH.rebase {α : Type} {P : Program} {y : Value} {J Js : List α → Res} {w1 w2 : World} {fp1 fp2 : Foot} {pre : List α} {x : α} {z : AV} {h : List (Nat × Blk)} (hy : YieldsH P y J Js w1 fp1 pre x z h) (hg : Grown fp1 w1 fp2 w2) :
    YieldsH P y J Js w2 fp2 pre x z h := fun w fp F v h1 h2 h3 h4 => hy w fp F v h1 h2 h3 (hg.trans h4)

/-- What is handed over, numbered otherwise. -/
theorem Handed.to {z z' : AV} {h h' : List (Nat × Blk)} {w w' : World} {v : Value} (ρ : List (Nat × Nat)) (H : Handed z h w v w') (hz : z = ren ρ z') (hh : inHR ρ h h') (ha : AM.apart ρ (keys h') = true) : Handed z' h' w v w' := by
  obtain ⟨hag, M, hv, hb, hi⟩ := H
  refine ⟨hag, fun i => M (ap ρ i), by rw [← conc_ren, ← hz, hv], fun id B hB => ?_, fun id id' B B' hB hB' e => ?_⟩
  · have := hb _ _ (inHR_lk hh _ _ hB)
    exact ⟨this.1.ren, this.2⟩
  · exact apart_spec ha (lk_keys hB) (lk_keys hB') (hi _ _ _ _ (inHR_lk hh _ _ hB) (inHR_lk hh _ _ hB') e)
theorem HandsZ.to {P : Program} {f : FuncId} {args : List Value} {w : World} {z z' : AV} {h h' : List (Nat × Blk)} (ρ : List (Nat × Nat)) (H : HandsZ P f args w z h) (hz : z = ren ρ z') (hh : inHR ρ h h') (ha : AM.apart ρ (keys h') = true) : HandsZ P f args w z' h' :=
  Calls.mono' H fun _ _ ⟨v, h1, h2⟩ => ⟨v, h1, h2.to ρ hz hh ha⟩

/-- The return of whatever, by what the state says. -/
theorem Run.retS {P : Program} {T : Tab} (hT : tabOK P T) {f : FuncId} {fn : Func} {n : Nat} {w0 : World} {S0 : Nat → Prop} {X : Res} {R : Value → World → Prop} {σ : St} {k : List Item} {p : Prop} {l : List AV}
    (hf : P.funcs[f]? = some fn) (h : resOf T w0 S0 σ fn.results.toList = some (p, l)) (hp : p)
    (hR : ∀ M fp a w, Rel (fnC P f n w0 S0 X R) M fp σ a w → R (conc M (resAV l)) w) : Run (fnC P f n w0 S0 X R) (.code .ret :: k) σ := Run.ret hT hf h hp hR
/-! ### Parameters that stand still -/

/-- A function's surroundings in which the first temporaries are never written. -/
abbrev fnL (P : Program) (f : FuncId) (lo n : Nat) (t0 : Array Value) (w : World) (S0 : Nat → Prop) (X : Res) (R : Value → World → Prop) : Ctx := { fnC P f n w S0 X R with n := ⟨lo, n⟩, t0 := t0 }

theorem givesL_of_run {P : Program} {f : FuncId} {fn : Func} {c : Code} {args : List AV} {h : List (Nat × Blk)} {nx : Nat} {M : Loc} {w : World} {X : Res} {fp : Foot} {R : Value → World → Prop} (hf : P.funcs[f]? = some fn) (hb : fn.body = some c)
    (hn : args.length ≤ fn.ntmps) (hX : X w fp) (hfp : ∀ b, fp b → b < w.heap.size)
    (hh : ∀ id B, lk h id = some B → BlkAt M w id B) (hi : ∀ id id' B B', lk h id = some B → lk h id' = some B' → (M id).1 = (M id').1 → id = id') (ha : ∀ id B, lk h id = some B → ¬ fp (M id).1)
    (hr : Run (fnL P f args.length fn.ntmps (concL M args).toArray w (footH M fp h) X R) [.code c] ⟨argsA 0 args, h, nx⟩) : GivesR P f (concL M args) w R := by
  intro cs
  let a : Act := { tmps := (concL M args).toArray ++ Array.replicate (fn.ntmps - (concL M args).length) undef, defers := [] }
  let b : Frame := { (default : Frame) with fn := f, kind := .normal, roundOf := none }
  have henter : Frame.enter P f (concL M args).toArray .normal = b.atR a [.code c] := by
    simp [Frame.enter, Frame.atR, hf, hb, b, a]
  have hR : Rel (fnL P f args.length fn.ntmps (concL M args).toArray w (footH M fp h) X R) M fp ⟨argsA 0 args, h, nx⟩ a w := by
    refine { heap := hh, inj := hi, own := fun id B hB _ => .inr ⟨id, B, hB, rfl⟩, apart := ha, agree := Agree.refl _ _, outer := hX,
             fpok := fun b hb => ⟨hfp b hb, fun _ => .inl hb⟩, size := by simp [a, concL_length]; omega, frozen := fun i hi => ?_, tmps := ?_, defers := rfl }
    · have hi' : i < args.length := hi
      simp only [a]
      rw [Array.getElem?_append_left (by simpa [concL_length] using hi')]
    · intro i x hx
      obtain ⟨_, h2⟩ := argsA_lk hx
      simp only [Nat.sub_zero] at h2
      have h3 := concL_get (M := M) h2
      have hlt := (List.getElem?_eq_some_iff.1 h3).1
      simp only [a]
      rw [Array.getElem?_append_left (by simpa using hlt)]
      simpa using h3
  obtain ⟨m, s, v, w', fr, rfl, h1, h2, h3⟩ := hr M fp a w hR cs
  rw [henter]
  exact ⟨.returned v, w', fr, ⟨v, rfl, h3⟩, s, h1, h2⟩

theorem Run.retF {P : Program} {T : Tab} (hT : tabOK P T) {f : FuncId} {fn : Func} {lo n : Nat} {t0 : Array Value} {w0 : World} {S0 : Nat → Prop} {X : Res} {R : Value → World → Prop} {σ : St} {k : List Item} {p : Prop} {l : List AV}
    (hf : P.funcs[f]? = some fn) (h : resOf T w0 S0 σ fn.results.toList = some (p, l)) (hp : p)
    (hR : ∀ M fp a w, Rel (fnL P f lo n t0 w0 S0 X R) M fp σ a w → R (conc M (resAV l)) w) : Run (fnL P f lo n t0 w0 S0 X R) (.code .ret :: k) σ := by
  intro M fp a w hr cs
  refine ⟨_, .one (stepR_ret rfl), _, w, _, rfl, rfl, ⟨rfl, hr.defers, rfl, fn, hf, ?_⟩, hR M fp a w hr⟩
  exact results_run hT hr (fn := fn) h hp

/-- Where a parameter that stands still points. -/
theorem Rel.still {C : Ctx} {M : Loc} {fp : Nat → Prop} {σ : St} {a : Act} {w : World} (hR : Rel C M fp σ a w) {i id off b o : Nat} (hi : i < C.n.lo) (h0 : C.t0[i]? = some (.pointer (some ⟨b, o, none⟩))) (ht : lk σ.t i = some (.ptr id off)) : (M id).1 = b := by
  have h1 := hR.frozen i hi
  rw [hR.tmps i _ ht, h0] at h1
  simp only [conc, Option.some.injEq, Value.pointer.injEq, Addr.mk.injEq] at h1
  exact h1.1
end Go.AM

/-
  The abstract machine, twenty-fifth part: structs built in drawn regions, taken first. Own work; over any program.
-/
namespace Go.AM

theorem RunO.build {C : Ctx} {held : List (Nat × Blk)} {n0 : Nat} {ops : Array Oper} {i : Nat} {ord : List (Nat × Bool)} {k : List Item} {σ : St} {o : Oper} {T : Tab} {t : TypeId} {parts : Array (Nat × Operand)} {l : List (Nat × Value)} {p : Prop} {z : AV}
    (hT : tabOK C.P T) (hsel : noSel ops = true) (ho : ops[i]? = some o) (hop : o.op = .build t parts) (hl : plainParts σ parts.toList = some l) (hz : evBuild T t l = some (p, z)) (hw : wantOf ops σ o = some .yes) (hd : dstOK C.n o.dst = true)
    (hp : p) (h : RunO C held n0 ops ord k (σ.put o.dst z)) : RunO C held n0 ops ((i, true) :: ord) k σ := by
  refine RunO.first hsel ho hd (fun M0 M fp a w hM hR => .inl ⟨wantOf_yes hR.q hw, (fun c e => by rw [hop] at e; cases e), fun w' _ => ?_⟩) h
  have hc := plainParts_conc hR.q hl
  have e : (parts.map fun x => (x.1, a.eval x.2)).toList = l := by rw [← hc]; simp
  have := evBuild_run hT (M := M) (parts := parts.map fun x => (x.1, a.eval x.2)) (by rw [e]; exact hz) hp w'
  simp [execOp, hop, this]
end Go.AM

/-
  What word.Take, word.Put and their references compute, in plain Lean, and that they are one. Own work.
-/
namespace Go.Proofs.YtpfanhbkjajocaaDoor
open Go.AM

/-- The byte at a place. -/
def tk (s : ByteArray) (i : Int) : Int := ((s[i.toNat]?.getD 0).toNat : Int)
theorem tk_nonneg (s : ByteArray) (i : Int) : 0 ≤ tk s i := Int.natCast_nonneg _
theorem tk_lt (s : ByteArray) (i : Int) : tk s i < 256 := by
  have := (s[i.toNat]?.getD 0).toNat_lt
  simp only [tk]; omega

abbrev T3 := Int × Int × Int
def err3 : T3 := (0, 0, 40)
def tv (x : T3) : Value := .tuple #[.int .i64 x.1, .int .i64 x.2.1, .int .i64 x.2.2]

/-- A code's value. -/
def decP (u : Int) : Int := bxor .i64 (IntKind.i64.wrap (shrI .u64 u 1)) (IntKind.i64.wrap (0 - IntKind.i64.wrap (band .u64 u 1)))
def decR (u : Int) : Int := if u.tmod 2 = 1 then IntKind.i64.wrap (IntKind.i64.wrap (0 - IntKind.i64.wrap (shrI .u64 u 1)) - 1) else IntKind.i64.wrap (shrI .u64 u 1)
def addP (u c : Int) (k : Nat) : Int := bor .u64 u (shlI .u64 (IntKind.u64.wrap (band .u8 c 127)) (7 * (k : Int)))
def addR (u c : Int) (k : Nat) : Int := bor .u64 u (shlI .u64 (IntKind.u64.wrap (c.tmod 128)) (7 * (k : Int)))

def takeP (s : ByteArray) (a : Int) : Nat → Nat → Int → T3
  | 0, _, _ => err3
  | d + 1, k, u =>
    if a + k < s.size then
      if k = 9 ∧ tk s (a + k) > 1 then err3
      else if tk s (a + k) < 128 then (if tk s (a + k) = 0 ∧ k > 0 then err3 else (decP (addP u (tk s (a + k)) k), (k : Int) + 1, 0))
      else takeP s a d (k + 1) (addP u (tk s (a + k)) k)
    else err3

def takeR (s : ByteArray) (a : Int) : Nat → Nat → Int → T3
  | 0, _, _ => err3
  | d + 1, k, u =>
    if a + k < s.size then
      if k = 9 ∧ (tk s (a + k)).tmod 128 > 1 then err3
      else if tk s (a + k) ≥ 128 then takeR s a d (k + 1) (addR u (tk s (a + k)) k)
      else if tk s (a + k) = 0 ∧ k > 0 then err3 else (decR (addR u (tk s (a + k)) k), (k : Int) + 1, 0)
    else err3

theorem band_byte (c : Int) (h0 : 0 ≤ c) (h1 : c < 256) : IntKind.u64.wrap (band .u8 c 127) = IntKind.u64.wrap (c.tmod 128) := by
  obtain ⟨n, rfl⟩ := Int.eq_ofNat_of_zero_le h0
  have hn : n < 256 := by omega
  have : ∀ n : Fin 256, IntKind.u64.wrap (band .u8 ((n.1 : Nat) : Int) 127) = IntKind.u64.wrap (((n.1 : Nat) : Int).tmod 128) := by decide +kernel
  exact this ⟨n, hn⟩

theorem addP_eq (u : Int) (s : ByteArray) (i : Int) (k : Nat) : addP u (tk s i) k = addR u (tk s i) k := by
  unfold addP addR
  rw [band_byte _ (tk_nonneg _ _) (tk_lt _ _)]

theorem addR_word (u : BitVec 64) (c : Int) (k : Nat) : ∃ v : BitVec 64, addR (un u) c k = un v := by
  unfold addR
  rw [wrap_u64_bv, shl_un, bor_un]
  exact ⟨_, rfl⟩

/-- A word as a signed number. -/
def sn (x : BitVec 64) : Int := x.toInt
theorem wrap_i64_bv (z : Int) : IntKind.i64.wrap z = sn (BitVec.ofInt 64 z) := by
  simp only [IntKind.wrap, IntKind.bits, IntKind.signed, sn, BitVec.toInt_ofInt, Int.bmod_def]
  simp
  split <;> omega
theorem ofInt_sn (x : BitVec 64) : BitVec.ofInt 64 (sn x) = x := by simp [sn]
theorem sn_of_un (x : BitVec 64) : IntKind.i64.wrap (un x) = sn x := by rw [wrap_i64_bv, ofInt_un]
theorem un_of_sn (x : BitVec 64) : IntKind.u64.wrap (sn x) = un x := by rw [wrap_u64_bv, ofInt_sn]
theorem bxor_sn (x y : BitVec 64) : bxor .i64 (sn x) (sn y) = sn (x ^^^ y) := by
  show IntKind.i64.wrap ((BitVec.ofInt 64 (sn x) ^^^ BitVec.ofInt 64 (sn y)).toNat : Int) = _
  rw [ofInt_sn, ofInt_sn]
  exact sn_of_un _
theorem neg_sn (x : BitVec 64) : IntKind.i64.wrap (0 - sn x) = sn (-x) := by
  rw [wrap_i64_bv]
  congr 1
  rw [show (0 : Int) - sn x = - sn x by omega, BitVec.ofInt_neg, ofInt_sn]
theorem sub_sn (x y : BitVec 64) : IntKind.i64.wrap (sn x - sn y) = sn (x - y) := by
  rw [wrap_i64_bv]
  congr 1
  rw [Int.sub_eq_add_neg, BitVec.ofInt_add, BitVec.ofInt_neg, ofInt_sn, ofInt_sn, BitVec.sub_eq_add_neg]
theorem one_sn : (1 : Int) = sn 1#64 := by decide
theorem sub1_sn (x : BitVec 64) : IntKind.i64.wrap (sn x - 1) = sn (x - 1#64) := by rw [one_sn]; exact sub_sn x 1#64

theorem tmod_un (u : BitVec 64) : (un u).tmod 2 = (u.toNat % 2 : Nat) := by
  rw [un, Int.tmod_eq_emod_of_nonneg (Int.natCast_nonneg _)]; rfl

theorem dec_eq (u : BitVec 64) : decP (un u) = decR (un u) := by
  unfold decP decR
  have e1 : shrI .u64 (un u) 1 = un (u >>> 1) := shr_un u 1
  rw [e1, sn_of_un, band1_un, sn_of_un, neg_sn, neg_sn, bxor_sn, tmod_un]
  rw [sub1_sn]
  have e2 : (-(u >>> 1) - 1#64) = ~~~(u >>> 1) := by
    rw [BitVec.neg_eq_not_add]; exact BitVec.add_sub_cancel _ _
  rw [e2]
  by_cases h : u.toNat % 2 = 1
  · rw [if_pos (by omega)]
    congr 1
    have : u &&& 1#64 = 1#64 := by
      apply BitVec.eq_of_toNat_eq
      simp [Nat.and_one_is_mod]; omega
    rw [this]
    have : -(1#64) = BitVec.allOnes 64 := by decide
    rw [this, BitVec.xor_allOnes]
  · rw [if_neg (by omega)]
    congr 1
    have : u &&& 1#64 = 0#64 := by
      apply BitVec.eq_of_toNat_eq
      simp [Nat.and_one_is_mod]; omega
    rw [this]
    simp

theorem take_err (s : ByteArray) (a : Int) (d : Nat) (u : Int) : takeR s a d 10 u = err3 ∨ d ≠ 0 := by
  cases d with
  | zero => exact .inl rfl
  | succ d => exact .inr (by omega)

theorem take_eq (s : ByteArray) (a : Int) : ∀ (d k : Nat) (u : BitVec 64), k + d = 10 → takeP s a d k (un u) = takeR s a d k (un u)
  | 0, _, _, _ => rfl
  | d + 1, k, u, hk => by
    unfold takeP takeR
    split
    · have h0 := tk_nonneg s (a + k)
      have h1 := tk_lt s (a + k)
      have hm : (tk s (a + k)).tmod 128 = tk s (a + k) % 128 := Int.tmod_eq_emod_of_nonneg h0
      rw [addP_eq, hm]
      obtain ⟨v, hv⟩ := addR_word u (tk s (a + k)) k
      rw [hv]
      by_cases c1 : tk s (a + k) < 128
      · rw [if_pos c1, if_neg (show ¬ tk s (a + k) ≥ 128 by omega), dec_eq, show tk s (a + k) % 128 = tk s (a + k) by omega]
      · rw [if_neg c1, if_pos (show tk s (a + k) ≥ 128 by omega)]
        by_cases c9 : k = 9
        · have hd : d = 0 := by omega
          subst hd
          simp only [takeP, takeR]
          split <;> split <;> rfl
        · rw [if_neg (by omega), if_neg (by omega)]
          exact take_eq s a d (k + 1) v (by omega)
    · rfl

/-! ### Put -/
def putGo : Nat → BitVec 64 → List Value
  | 0, u => [.int .u8 (IntKind.u8.wrap (un u))]
  | d + 1, u => if u.toNat ≥ 128 then .int .u8 (bor .u8 (IntKind.u8.wrap (un u)) 128) :: putGo d (u >>> 7) else [.int .u8 (IntKind.u8.wrap (un u))]

theorem u8_or (c : Int) (h0 : 0 ≤ c) (h1 : c < 256) : bor .u8 c 128 = IntKind.u8.wrap (c.tmod 128 + 128) := by
  obtain ⟨n, rfl⟩ := Int.eq_ofNat_of_zero_le h0
  have hn : n < 256 := by omega
  have : ∀ n : Fin 256, bor .u8 ((n.1 : Nat) : Int) 128 = IntKind.u8.wrap (((n.1 : Nat) : Int).tmod 128 + 128) := by decide +kernel
  exact this ⟨n, hn⟩

theorem wrap_u8 (z : Int) : IntKind.u8.wrap z = z % 256 := by
  simp only [IntKind.wrap, IntKind.bits, IntKind.signed]
  simp

theorem byte_eq (u : BitVec 64) : bor .u8 (IntKind.u8.wrap (un u)) 128 = IntKind.u8.wrap (IntKind.u8.wrap ((un u).tmod 128) + 128) := by
  have h0 := un_nonneg u
  have hm : (un u).tmod 128 = un u % 128 := Int.tmod_eq_emod_of_nonneg h0
  rw [u8_or _ (by rw [wrap_u8]; omega) (by rw [wrap_u8]; omega), wrap_u8, wrap_u8, wrap_u8, wrap_u8, hm, Int.tmod_eq_emod_of_nonneg (by omega)]
  omega

theorem quo_eq (u : BitVec 64) : IntKind.u64.wrap ((un u).tdiv 128) = un (u >>> 7) := by
  have h : (un u).tdiv 128 = un (u >>> 7) := by
    rw [Int.tdiv_eq_ediv_of_nonneg (un_nonneg u)]
    simp [un, Nat.shiftRight_eq_div_pow]
  rw [h, wrap_u64_bv, ofInt_un]

/-- The word that is put. -/
def zig (v : Int) : BitVec 64 := if v < 0 then ~~~(BitVec.ofInt 64 v <<< 1) else BitVec.ofInt 64 v <<< 1

theorem sn_ofInt {v : Int} (h : -9223372036854775808 ≤ v) (h' : v ≤ 9223372036854775807) : sn (BitVec.ofInt 64 v) = v := by
  rw [← wrap_i64_bv, wrap_i64 h h']

theorem shl1_sn (x : BitVec 64) : shlI .i64 (sn x) 1 = sn (x <<< 1) := by
  show IntKind.i64.wrap (sn x * 2 ^ 1) = _
  rw [wrap_i64_bv]
  congr 1
  rw [BitVec.ofInt_mul, ofInt_sn]
  apply BitVec.eq_of_toNat_eq
  simp [BitVec.toNat_mul, Nat.shiftLeft_eq]

theorem zigP {v : Int} (h : -9223372036854775808 ≤ v) (h' : v ≤ 9223372036854775807) : bxor .u64 (IntKind.u64.wrap (shlI .i64 v 1)) (IntKind.u64.wrap (shrI .i64 v 63)) = un (zig v) := by
  have e : shlI .i64 v 1 = sn (BitVec.ofInt 64 v <<< 1) := by
    rw [← shl1_sn, sn_ofInt h h']
  rw [e, un_of_sn]
  have e2 : shrI .i64 v 63 = if v < 0 then -1 else 0 := by
    show v.fdiv (2 ^ 63) = _
    rw [Int.fdiv_eq_ediv_of_nonneg _ (by decide)]
    split <;> omega
  rw [e2, zig]
  split
  · rw [show IntKind.u64.wrap (-1) = un (BitVec.allOnes 64) by decide, bxor_un, BitVec.xor_allOnes]
  · rw [show IntKind.u64.wrap 0 = un 0#64 by decide, bxor_un, BitVec.xor_zero]

theorem shl_wrap (v : Int) : shlI .u64 (IntKind.u64.wrap v) 1 = un (BitVec.ofInt 64 v <<< 1) := by
  rw [wrap_u64_bv]; exact shl_un _ 1

theorem not_un (x : BitVec 64) : bxor .u64 18446744073709551615 (un x) = un (~~~x) := by
  rw [show (18446744073709551615 : Int) = un (BitVec.allOnes 64) by decide, bxor_un, BitVec.allOnes_xor]

theorem putGo_last (d : Nat) (u : BitVec 64) (h : ¬ u.toNat ≥ 128) : putGo d u = [.int .u8 (IntKind.u8.wrap (un u))] := by
  cases d with
  | zero => rfl
  | succ d => rw [putGo, if_neg h]

theorem un_ge (u : BitVec 64) : 128 ≤ un u ↔ 128 ≤ u.toNat := by
  simp only [un]; omega

def putS (v : Int) : ByteArray := bstr (putGo 10 (zig v))
end Go.Proofs.YtpfanhbkjajocaaDoor
