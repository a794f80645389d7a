/-
  The abstract machine, fifteenth part: function values called, iterators, ranges over functions. Own work; over any program.
-/
import Derived.Test.YtehimiadpgbhmaaDoorAM14
import Derived.RangeFuncRecord
namespace Go.AM

/-- What a function value that is called does, seen from the frame that calls it. -/
def NextDoes (P : Program) (nx : Next) (w : World) (R : Value → World → Prop) : Prop :=
  match nx with
  | .enter f args => ∀ c cs, ∃ v w', R v w' ∧ Steps P (lone (Frame.enter P f args .normal) (c :: cs) w) (lone (Frame.finish c v) cs w')
  | .round l f tm as bd => ∀ c cs, ∃ v w', R v w' ∧ Steps P (lone (Frame.round l f tm as bd .normal) (c :: cs) w) (lone (Frame.finish c v) cs w')
  | _ => False

def CallsV (P : Program) (y : Value) (args : List Value) (w : World) (R : Value → World → Prop) : Prop :=
  ∃ d nx, (Deferred.ofValue y args.toArray).run P w = .ok d w ∧ (invoke d.target d.args).run P w = .ok nx w ∧ NextDoes P nx w R

theorem NextDoes.mono {P : Program} {nx : Next} {w : World} {R R' : Value → World → Prop} (h : NextDoes P nx w R) (hr : ∀ v w', R v w' → R' v w') : NextDoes P nx w R' := by
  unfold NextDoes at h ⊢
  split at h
  · exact fun c cs => let ⟨v, w', r, s⟩ := h c cs; ⟨v, w', hr _ _ r, s⟩
  · exact fun c cs => let ⟨v, w', r, s⟩ := h c cs; ⟨v, w', hr _ _ r, s⟩
  · exact h.elim

theorem CallsV.mono {P : Program} {y : Value} {args : List Value} {w : World} {R R' : Value → World → Prop} (h : CallsV P y args w R) (hr : ∀ v w', R v w' → R' v w') : CallsV P y args w R' :=
  let ⟨d, nx, h1, h2, h3⟩ := h; ⟨d, nx, h1, h2, h3.mono hr⟩

theorem GivesR.does {P : Program} {f : FuncId} {args : List Value} {w : World} {R : Value → World → Prop} (h : GivesR P f args w R) : NextDoes P (.enter f args.toArray) w R := by
  intro c cs
  obtain ⟨e, w', fr, ⟨v, rfl, hR⟩, hsteps, _, hleave⟩ := h (c :: cs)
  exact ⟨v, w', hR, Steps.trans hsteps (.one (step_leave_returned hleave))⟩

theorem CallsV.of_gives {P : Program} {f : FuncId} {caps : List Value} {args : List Value} {w : World} {R : Value → World → Prop} (hent : Enters P f) (h : GivesR P f (args ++ caps) w R) :
    CallsV P (.func (.func f) #[] caps.toArray) args w R := by
  refine ⟨{ target := .fn (.func f) caps.toArray, args := args.toArray }, .enter f (args ++ caps).toArray, by simp [Deferred.ofValue], ?_, h.does⟩
  simp [invoke, hent _ _]

/-- A call of a function value that a temporary holds. -/
theorem Run.callV {C : Ctx} {k : List Item} {σ : St} {ops : Array Oper} {i : Nat} {rest : List Nat} {o : Oper} {c : Call} {g : Operand} {y : Value} {xs : List AV}
    (ho : ops[i]? = some o) (hop : o.op = .call c) (hc : c.callee = .value g) (hg : σ.ev g = some (.v y)) (hxs : evs σ c.args.toList = some xs) (hw : wantOf ops σ o = some .yes)
    (hcon : ∀ M fp a w, Rel C M fp σ a w → CallsV C.P y (concL M xs) w (fun v w' => ∀ cs, ∃ m, Steps C.P (lone (C.b.atR (a.put o.dst v) (.inRegion ops rest :: k)) cs w') m ∧ C.Z cs m)) :
    Run C (.inRegion ops (i :: rest) :: k) σ := by
  intro M fp a w hR cs
  have hnd : ∀ c, o.op ≠ .defer c := fun c e => by rw [hop] at e; cases e
  have h2 : c.args.map a.eval = (concL M xs).toArray := by apply Array.ext'; simpa using evs_conc hR.q hxs
  obtain ⟨d, nx, h3, h4, h5⟩ := hcon M fp a w hR
  have hr : (execOp a.eval o).run C.P w = .ok nx w := by
    simp only [execOp, hop, resolve, hc, h2, hR.q.ev hg, conc]
    simp [h3, h4]
  have hfin : ∀ v, (C.b.atR a (.inRegion ops (i :: rest) :: k)).finish v = C.b.atR (a.put o.dst v) (.inRegion ops rest :: k) := by intro v; rw [Frame.finish_atR, ho]; rfl
  have hg := stepGR_op (P := C.P) (b := C.b) (k := k) (cs := cs) (w := w) (rest := rest) ho (wantOf_yes hR.q hw)
  rw [Oper.semAt_eq _ _ _ hnd] at hg
  unfold NextDoes at h5
  split at h5
  · rename_i f args
    have s1 : step C.P (lone (C.b.atR a (.inRegion ops (i :: rest) :: k)) cs w) = .next (lone (Frame.enter C.P f args .normal) (C.b.atR a (.inRegion ops (i :: rest) :: k) :: cs) w) :=
      step_lone_go (by rw [hg]; simp [stepG.apply, hr, Frame.atR])
    obtain ⟨v, w', hR', s⟩ := h5 (C.b.atR a (.inRegion ops (i :: rest) :: k)) cs
    obtain ⟨m, s', z⟩ := hR' cs
    rw [hfin] at s
    exact ⟨m, .head s1 (Steps.trans s s'), z⟩
  · rename_i l f tm as bd
    have s1 : step C.P (lone (C.b.atR a (.inRegion ops (i :: rest) :: k)) cs w) = .next (lone (Frame.round l f tm as bd .normal) (C.b.atR a (.inRegion ops (i :: rest) :: k) :: cs) w) :=
      step_lone_go (by rw [hg]; simp [stepG.apply, hr, Frame.atR])
    obtain ⟨v, w', hR', s⟩ := h5 (C.b.atR a (.inRegion ops (i :: rest) :: k)) cs
    obtain ⟨m, s', z⟩ := hR' cs
    rw [hfin] at s
    exact ⟨m, .head s1 (Steps.trans s s'), z⟩
  · exact h5.elim

/-! ### The outer code's part, handed on -/

abbrev Foot := Nat → Prop
abbrev Res := World → Foot → Prop

/-- A footprint after some work on one. -/
def Grown (fp : Foot) (w : World) (fp' : Foot) (w' : World) : Prop :=
  Agree fp w w' ∧ ∀ b, fp' b → b < w'.heap.size ∧ (b < w.heap.size → fp b)

theorem Grown.trans {fp fp1 fp2 : Foot} {w w1 w2 : World} (h : Grown fp w fp1 w1) (k : Grown fp1 w1 fp2 w2) : Grown fp w fp2 w2 :=
  ⟨h.1.trans k.1 (fun i hi hl => (h.2 i hi).2 hl), fun b hb => ⟨(k.2 b hb).1, fun hl => (h.2 b ((k.2 b hb).2 (Nat.lt_of_lt_of_le hl h.1.size))).2 hl⟩⟩

theorem Grown.refl {fp : Foot} {w : World} (h : ∀ b, fp b → b < w.heap.size) : Grown fp w fp w := ⟨Agree.refl _ _, fun b hb => ⟨h b hb, fun _ => hb⟩⟩

/-- The surroundings with another outer part. -/
abbrev Ctx.withX (C : Ctx) (X : Res) : Ctx := { C with X }

/-- The outer part has been worked on; what is owned stands. -/
theorem Rel.grown {C : Ctx} {M : Loc} {fp fp' : Foot} {σ : St} {a : Act} {w w' : World} (hR : Rel C M fp σ a w) (hg : Grown fp w fp' w') {X : Res} (hX : X w' fp') : Rel (C.withX X) M fp' σ a w' := by
  have hb : ∀ id B, lk σ.h id = some B → w'.heap[(M id).1]? = w.heap[(M id).1]? := fun id B h => hg.1.block _ (hR.heap _ _ h).lt (hR.apart _ _ h)
  refine { heap := ?_, inj := hR.inj, own := hR.own, apart := ?_, agree := ?_, outer := hX, fpok := ?_, size := hR.size, frozen := hR.frozen, tmps := hR.tmps, defers := hR.defers }
  · intro id B hB
    have := hR.heap _ _ hB
    have he := hb _ _ hB
    cases B with
    | cells e segs => exact ⟨by rw [he]; exact this.1, this.2⟩
    | row e sz n vs => obtain ⟨h1, cur, h2, h3⟩ := this; exact ⟨h1, cur, by rw [he]; exact h2, h3⟩
  · intro id B hB hf
    exact hR.apart _ _ hB ((hg.2 _ hf).2 (hR.heap _ _ hB).lt)
  · exact hR.agree.trans hg.1 (fun i hi hl => (hR.fpok i hi).2 hl)
  · intro b hb'
    refine ⟨(hg.2 b hb').1, fun hl => ?_⟩
    exact (hR.fpok b ((hg.2 b hb').2 (Nat.lt_of_lt_of_le hl hR.agree.size))).2 hl

/-- What a call of an iterator's argument does to the outer part: from J pre to J (pre, x), or to the stop. -/
def Yields (P : Program) (y : Value) (J Js : List (List Value) → Res) (w1 : World) (fp1 : Foot) (pre : List (List Value)) (x : List Value) : Prop :=
  ∀ w fp, J pre w fp → Grown fp1 w1 fp w → CallsV P y x w fun v w' =>
    ∃ fp', Grown fp w fp' w' ∧ (v = .bool true ∧ J (pre ++ [x]) w' fp' ∨ v = .bool false ∧ Js (pre ++ [x]) w' fp')

theorem Run.yield {C : Ctx} {k : List Item} {σ : St} {ops : Array Oper} {i : Nat} {rest : List Nat} {o : Oper} {c : Call} {g : Operand} {y : Value} {xs : List AV} {x : List Value} {J Js : List (List Value) → Res} {pre : List (List Value)}
    (hX : C.X = J pre) (hy : Yields C.P y J Js C.w0 C.S0 pre x)
    (ho : ops[i]? = some o) (hop : o.op = .call c) (hc : c.callee = .value g) (hg : σ.ev g = some (.v y)) (hxs : evs σ c.args.toList = some xs) (hx : toVs xs = some x) (hw : wantOf ops σ o = some .yes) (hd : dstOK C.n o.dst = true)
    (ht : Run (C.withX (J (pre ++ [x]))) (.inRegion ops rest :: k) (σ.put o.dst (.tt true)))
    (hf : Run (C.withX (Js (pre ++ [x]))) (.inRegion ops rest :: k) (σ.put o.dst (.tt false))) : Run C (.inRegion ops (i :: rest) :: k) σ := by
  refine Run.callV ho hop hc hg hxs hw fun M fp a w hR => ?_
  rw [toVs_conc hx]
  have h0 : J pre w fp := by rw [← hX]; exact hR.outer
  refine (hy w fp h0 ⟨hR.agree, hR.fpok⟩).mono fun v w' ⟨fp', hgr, hv⟩ cs => ?_
  rcases hv with ⟨rfl, hJ⟩ | ⟨rfl, hJ⟩
  · exact ht M fp' _ w' ((hR.grown hgr hJ).put (C := C.withX _) (z := .tt true) (dstOK_lt hd)) cs
  · exact hf M fp' _ w' ((hR.grown hgr hJ).put (C := C.withX _) (z := .tt false) (dstOK_lt hd)) cs

/-- An iterator: it hands its argument the lists xs, one after another, until that says stop. K: the blocks that it looks at. -/
def Iter (P : Program) (f : FuncId) (caps : List Value) (K : Nat → Prop) (w0 : World) (xs : List (List Value)) : Prop :=
  ∀ (y : Value) (J Js : List (List Value) → Res) (w : World) (fp : Foot), (∀ pre, Local (J pre)) → (∀ pre, Local (Js pre)) → (∀ pre x, pre ++ [x] <+: xs → Yields P y J Js w fp pre x) →
    J [] w fp → (∀ b, fp b → b < w.heap.size) → (∀ b, fp b → ¬ K b) → Agree (fun b => ¬ K b) w0 w →
      GivesR P f (y :: caps) w fun _ w' => ∃ fp', Grown fp w fp' w' ∧ (J xs w' fp' ∨ ∃ pre, pre <+: xs ∧ Js pre w' fp')

theorem givesX_of_run {P : Program} {f : FuncId} {fn : Func} {c : Code} {args : List Value} {w : World} {S0 : Nat → Prop} {X : Res} {fp : Foot} {R : Value → World → Prop} (hf : P.funcs[f]? = some fn) (hb : fn.body = some c)
    (hn : args.length ≤ fn.ntmps) (hX : X w fp) (hfp : ∀ b, fp b → b < w.heap.size ∧ (b < w.heap.size → S0 b)) (h : Run (fnC P f fn.ntmps w S0 X R) [.code c] ⟨argsT 0 args, [], 0⟩) : GivesR P f args w R := by
  intro cs
  let a : Act := { tmps := args.toArray ++ Array.replicate (fn.ntmps - args.length) undef, defers := [] }
  let b : Frame := { (default : Frame) with fn := f, kind := .normal, roundOf := none }
  have henter : Frame.enter P f args.toArray .normal = b.atR a [.code c] := by
    simp [Frame.enter, Frame.atR, hf, hb, b, a]
  have hR : Rel (fnC P f fn.ntmps w S0 X R) (fun _ => (0, 0)) fp ⟨argsT 0 args, [], 0⟩ a w := by
    refine { heap := fun _ _ h => (by cases h), inj := fun _ _ _ _ h => (by cases h), own := fun _ _ h => (by cases h), apart := fun _ _ h => (by cases h), agree := Agree.refl _ _, outer := hX,
             fpok := hfp, size := by simp [a, fnC]; omega, frozen := fun i hi => absurd hi (Nat.not_lt_zero _), tmps := ?_, defers := rfl }
    intro i x hx
    obtain ⟨_, y, h2, rfl⟩ := argsT_lk hx
    simp only [Nat.sub_zero] at h2
    have hlt := (List.getElem?_eq_some_iff.1 h2).1
    simp only [a]
    rw [Array.getElem?_append_left (by simpa using hlt)]
    simpa [conc] using h2
  obtain ⟨m, s, v, w', fr, rfl, h1, h2, h3⟩ := h _ _ a w hR cs
  rw [henter]
  exact ⟨.returned v, w', fr, ⟨v, rfl, h3⟩, s, h1, h2⟩

/-- An iterator, by the walk of its body. -/
theorem Iter.of_run {P : Program} {f : FuncId} {fn : Func} {c : Code} {caps : List Value} {K : Nat → Prop} {w0 : World} {xs : List (List Value)} (hf : P.funcs[f]? = some fn) (hb : fn.body = some c)
    (hn : (caps.length + 1) ≤ fn.ntmps)
    (h : ∀ (y : Value) (J Js : List (List Value) → Res) (w : World) (fp : Foot), (∀ pre, Local (J pre)) → (∀ pre, Local (Js pre)) → (∀ pre x, pre ++ [x] <+: xs → Yields P y J Js w fp pre x) →
      Agree (fun b => ¬ K b) w0 w → (∀ b, fp b → ¬ K b) → ∀ R : Value → World → Prop, (∀ v w' fp' pre, Grown fp w fp' w' → (pre = xs ∧ J pre w' fp' ∨ pre <+: xs ∧ Js pre w' fp') → R v w') →
        Run (fnC P f fn.ntmps w fp (J []) R) [.code c] ⟨argsT 0 (y :: caps), [], 0⟩) : Iter P f caps K w0 xs := by
  intro y J Js w fp hJ hJs hy h0 hfp hK hag
  refine givesX_of_run (S0 := fp) (X := J []) hf hb (by simpa using hn) h0 (fun b hb => ⟨hfp b hb, fun _ => hb⟩) ?_
  refine h y J Js w fp hJ hJs hy hag hK _ fun v w' fp' pre hg hp => ?_
  rcases hp with ⟨rfl, hp⟩ | ⟨h1, h2⟩
  · exact ⟨fp', hg, .inl hp⟩
  · exact ⟨fp', hg, .inr ⟨pre, h1, h2⟩⟩

/-- An iterator's return. -/
theorem Run.retI {P : Program} {f : FuncId} {fn : Func} {n : Nat} {w0 : World} {fp0 : Foot} {R : Value → World → Prop} {σ : St} {k : List Item} {X : Res}
    (hf : P.funcs[f]? = some fn) (hres : fn.results = #[]) (hR : ∀ v w' fp', Grown fp0 w0 fp' w' → X w' fp' → R v w') : Run (fnC P f n w0 fp0 X R) (.code .ret :: k) σ := by
  intro M fp a w hr cs
  refine ⟨_, .one (stepR_ret rfl), .tuple #[], w, _, rfl, rfl, ⟨rfl, hr.defers, rfl, fn, hf, ?_⟩, hR _ w fp ⟨hr.agree, hr.fpok⟩ hr.outer⟩
  simp [results, hres]

theorem Run.finI {P : Program} {f : FuncId} {fn : Func} {n : Nat} {w0 : World} {fp0 : Foot} {R : Value → World → Prop} {σ : St} {X : Res}
    (hf : P.funcs[f]? = some fn) (hres : fn.results = #[]) (hR : ∀ v w' fp', Grown fp0 w0 fp' w' → X w' fp' → R v w') : Run (fnC P f n w0 fp0 X R) [] σ := by
  intro M fp a w hr cs
  refine ⟨_, .one (stepR_end rfl), .tuple #[], w, _, rfl, rfl, ⟨rfl, hr.defers, rfl, fn, hf, ?_⟩, hR _ w fp ⟨hr.agree, hr.fpok⟩ hr.outer⟩
  simp [results, hres]

end Go.AM
