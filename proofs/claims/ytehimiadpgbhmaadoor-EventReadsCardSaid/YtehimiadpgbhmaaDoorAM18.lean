/-
  The abstract machine, eighteenth part: a new beginning behind a call that has made memory; functions that make some. Own work; over any program.
-/
import Derived.Test.YtehimiadpgbhmaaDoorAM17
namespace Go.AM

/-- What was there in a world stands in a later one from which a run goes on: S: what has been made since. -/
structure Based (w0 w1 : World) (S : Nat → Prop) : Prop where
  agree : Agree (fun _ => False) w0 w1
  new : ∀ b, S b → w0.heap.size ≤ b

theorem Based.refl (w : World) : Based w w (fun _ => False) := ⟨Agree.refl _ _, fun _ h => h.elim⟩

theorem Based.later {w0 w1 w2 : World} {S : Nat → Prop} (h : Based w0 w1 S) (k : Agree S w1 w2) : Agree (fun _ => False) w0 w2 :=
  ⟨k.os.trans h.agree.os, k.tape.trans h.agree.tape, k.output.trans h.agree.output, Nat.le_trans h.agree.size k.size, fun i hi _ => by
    rw [k.block i (Nat.lt_of_lt_of_le hi h.agree.size) (fun hs => by have := h.new i hs; omega)]
    exact h.agree.block i hi (fun f => f)⟩

/-- The surroundings, begun anew. -/
abbrev Ctx.rebase (C : Ctx) (w1 : World) (S1 : Nat → Prop) : Ctx := { C with w0 := w1, S0 := S1 }

/-- What may still be turned behind a call that began in w: what might be turned before, and what had been made by then. -/
structure Since (w0 : World) (S0 : Nat → Prop) (w : World) (S1 : Nat → Prop) : Prop where
  old : ∀ k, k < w0.heap.size → ¬ S0 k → ¬ S1 k
  new : ∀ k, w.heap.size ≤ k → ¬ S1 k
  base : ∀ k, k < w.heap.size → (k < w0.heap.size → S0 k) → S1 k

theorem Based.call {w0 w1 w w2 : World} {S S2 : Nat → Prop} (h : Based w0 w1 S) (k : Agree S w1 w) (l : Agree (fun _ => False) w w2) (hs : Since w1 S w S2) : Based w0 w2 S2 :=
  ⟨(h.later k).trans l (fun _ f _ => f.elim), fun b hb => by
    rcases Nat.lt_or_ge b w1.heap.size with hl | hl
    · exact h.new b (Classical.byContradiction fun hn => hs.old b hl hn hb)
    · exact Nat.le_trans h.agree.size hl⟩

/-- A call that makes memory and hands back a plain value over it: the run begins anew. -/
theorem Run.callR {C : Ctx} (hL : Local C.X) {k : List Item} {σ : St} {ops : Array Oper} {i : Nat} {rest : List Nat} {o : Oper} {c : Call} {g : Operand} {f : FuncId} {caps xs : List AV} {Q : Value → World → World → Prop}
    (ho : ops[i]? = some o) (hop : o.op = .call c) (hc : c.callee = .value g) (hg : σ.ev g = some (.fn f caps)) (hxs : evs σ c.args.toList = some xs) (hw : wantOf ops σ o = some .yes) (hent : Enters C.P f)
    (hd : dstOK C.n o.dst = true)
    (hcon : ∀ M w, (∀ id B, lk σ.h id = some B → BlkAt M w id B) → Agree C.S0 C.w0 w → GivesR C.P f (concL M (xs ++ caps)) w (fun v w' => Agree (fun _ => False) w w' ∧ Q v w w'))
    (h : ∀ v w w1 S1, Agree C.S0 C.w0 w → Agree (fun _ => False) w w1 → Q v w w1 → Since C.w0 C.S0 w S1 → ∃ z, (∀ M, conc M z = v) ∧ Run (C.rebase w1 S1) (.inRegion ops rest :: k) (σ.put o.dst z)) : Run C (.inRegion ops (i :: rest) :: k) σ := by
  intro M fp a w hR cs
  have hnd : ∀ c, o.op ≠ .defer c := fun c e => by rw [hop] at e; cases e
  have h2 : c.args.map a.eval = (concL M xs).toArray := by apply Array.ext'; simpa using evs_conc hR.q hxs
  have hr : (execOp a.eval o).run C.P w = .ok (.enter f (concL M (xs ++ caps)).toArray) w := by
    simp only [execOp, hop, resolve, hc, h2, hR.q.ev hg, conc, Deferred.ofValue]
    simp [invoke, hent _ _, concL_append]
  have s1 := step_call (b := C.b) (k := k) (cs := cs) (rest := rest) ho (wantOf_yes hR.q hw) hnd hr
  obtain ⟨e, w', fr, ⟨v, rfl, hag, hq⟩, hsteps, _, hleave⟩ := hcon M w hR.heap hR.agree (C.b.atR a (.inRegion ops (i :: rest) :: k) :: cs)
  have hR' := hR.agree' hL hag
  let S1 : Nat → Prop := fun b => b < w.heap.size ∧ (b < C.w0.heap.size → C.S0 b)
  have hS1 : Since C.w0 C.S0 w S1 := ⟨fun k hk hs h => hs (h.2 hk), fun k hk h => by have := h.1; omega, fun k hk hs => ⟨hk, hs⟩⟩
  have hrel : Rel (C.rebase w' S1) M fp σ a w' := by
    refine { heap := hR'.heap, inj := hR'.inj, own := ?_, apart := hR'.apart, agree := Agree.refl _ _, outer := hR'.outer, fpok := ?_, size := hR'.size, frozen := hR'.frozen, tmps := hR'.tmps, defers := hR'.defers }
    · exact fun id B hB _ => ⟨(hR.heap _ _ hB).lt, hR.own _ _ hB⟩
    · exact fun b hb => ⟨(hR'.fpok b hb).1, fun _ => hR.fpok b hb⟩
  obtain ⟨z, hz, hrun⟩ := h v w w' S1 hR.agree hag hq hS1
  obtain ⟨m, s, e⟩ := hrun M fp _ w' (hrel.put (z := z) (dstOK_lt hd)) cs
  have hfin : (C.b.atR a (.inRegion ops (i :: rest) :: k)).finish v = C.b.atR (a.put o.dst v) (.inRegion ops rest :: k) := by rw [Frame.finish_atR, ho]; rfl
  refine ⟨m, .head s1 (Steps.trans hsteps (.head (step_leave_returned hleave) ?_)), e⟩
  rw [hfin, ← hz M]; exact s

/-- A function of which the call makes memory at most. -/
abbrev Makes (P : Program) (f : FuncId) (args : List Value) (w : World) (Q : Value → World → Prop) : Prop :=
  GivesR P f args w fun v w' => Agree (fun _ => False) w w' ∧ Q v w'

abbrev fnQ (P : Program) (f : FuncId) (n : Nat) (w : World) (Q : Value → World → Prop) : Ctx := fnC P f n w (fun _ => False) noX (fun v' w' => Agree (fun _ => False) w w' ∧ Q v' w')

theorem Makes.of_run {P : Program} {f : FuncId} {fn : Func} {c : Code} {args : List Value} {w : World} {Q : Value → World → Prop} (hf : P.funcs[f]? = some fn) (hb : fn.body = some c)
    (hn : args.length ≤ fn.ntmps) (h : Run (fnQ P f fn.ntmps w Q) [.code c] ⟨argsT 0 args, [], 0⟩) : Makes P f args w Q := calls_of_run hf hb hn h

/-- The return of a plain value in a run that has begun anew. -/
theorem Run.retB {P : Program} {T : Tab} (hT : tabOK P T) {f : FuncId} {fn : Func} {n : Nat} {w0 w1 : World} {S : Nat → Prop} {v : Value} {σ : St} {k : List Item} {p : Prop} {l : List AV} {Ds : List Nat} {X : Res} (hX : Local X)
    (hB : Based w0 w1 S) (hf : P.funcs[f]? = some fn) (h : resOf T w1 S σ fn.results.toList = some (p, l)) (hp : p) (hv : ∀ M, conc M (resAV l) = v) :
    Run (fnM P f n w1 S X (fun v' w' => v' = v ∧ Agree (fun _ => False) w0 w') Ds) (.code .ret :: k) σ :=
  Run.retM hT hX hf h hp fun M _ _ _ hr => ⟨hv M, hB.later hr.agree⟩

/-- The return of whatever value, with what is known of the blocks. -/
theorem Run.retQ {P : Program} {T : Tab} (hT : tabOK P T) {f : FuncId} {fn : Func} {n : Nat} {w0 w1 : World} {S : Nat → Prop} {Q : Value → World → Prop} {σ : St} {k : List Item} {p : Prop} {l : List AV} {Ds : List Nat} {X : Res} (hX : Local X)
    (hB : Based w0 w1 S) (hf : P.funcs[f]? = some fn) (h : resOf T w1 S σ fn.results.toList = some (p, l)) (hp : p)
    (hv : ∀ M w', (∀ id B, lk σ.h id = some B → BlkAt M w' id B) → Agree S w1 w' → Q (conc M (resAV l)) w') :
    Run (fnM P f n w1 S X (fun v' w' => Agree (fun _ => False) w0 w' ∧ Q v' w') Ds) (.code .ret :: k) σ :=
  Run.retM hT hX hf h hp fun M _ _ w' hr => ⟨hB.later hr.agree, hv M w' hr.heap hr.agree⟩

end Go.AM
