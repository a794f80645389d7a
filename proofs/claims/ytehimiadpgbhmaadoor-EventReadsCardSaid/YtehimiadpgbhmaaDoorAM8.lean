/-
  The abstract machine, eighth part: entering a function, leaving it, calls by contract. Own work; over any program.
-/
import Derived.Test.YtehimiadpgbhmaaDoorAM7
namespace Go.AM

/-- The plain contract: the call hands back v, and nothing that was there has turned. -/
def Gives (P : Program) (f : FuncId) (args : List Value) (w : World) (v : Value) : Prop :=
  Calls P f args.toArray w fun e w' => e = .returned v ∧ Agree (fun _ => False) w w'

/-- The general one. -/
def GivesR (P : Program) (f : FuncId) (args : List Value) (w : World) (R : Value → World → Prop) : Prop :=
  Calls P f args.toArray w fun e w' => ∃ v, e = .returned v ∧ R v w'

theorem Calls.mono' {P : Program} {f : FuncId} {args : Array Value} {w : World} {R R' : Ending → World → Prop} (h : Calls P f args w R) (hr : ∀ e w', R e w' → R' e w') : Calls P f args w R' :=
  fun cs => let ⟨e, w', fr, r, s, x⟩ := h cs; ⟨e, w', fr, hr _ _ r, s, x⟩

theorem Gives.r {P : Program} {f : FuncId} {args : List Value} {w : World} {v : Value} (h : Gives P f args w v) : GivesR P f args w fun v' w' => v' = v ∧ Agree (fun _ => False) w w' :=
  Calls.mono' h fun _ _ ⟨h1, h2⟩ => ⟨v, h1, rfl, h2⟩

/-- The surroundings of a plain function's run. -/
def fnC (P : Program) (f : FuncId) (n : Nat) (w : World) (S0 : Nat → Prop) (X : World → (Nat → Prop) → Prop) (R : Value → World → Prop) : Ctx :=
  { P, w0 := w, S0, X, b := { (default : Frame) with fn := f, kind := .normal, roundOf := none }, n := ⟨0, n⟩, t0 := #[], ds := [],
    Z := fun cs m => ∃ v w' fr, m = lone fr cs w' ∧ fr.fn = f ∧ fr.leaving P w' (.returned v) ∧ R v w' }

@[simp] theorem fnC_w0 (P : Program) (f : FuncId) (n : Nat) (w : World) (S0 : Nat → Prop) (X : World → (Nat → Prop) → Prop) (R : Value → World → Prop) : (fnC P f n w S0 X R).w0 = w := rfl
@[simp] theorem fnC_S0 (P : Program) (f : FuncId) (n : Nat) (w : World) (S0 : Nat → Prop) (X : World → (Nat → Prop) → Prop) (R : Value → World → Prop) : (fnC P f n w S0 X R).S0 = S0 := rfl

def noX : World → (Nat → Prop) → Prop := fun _ _ => True
theorem noX_local : Local noX := fun _ _ _ _ _ _ => trivial

def argsT : Nat → List Value → List (Nat × AV)
  | _, [] => []
  | i, x :: r => (i, ofConst' x) :: argsT (i + 1) r
where ofConst' (x : Value) : AV := .v x

theorem argsT_lk : ∀ {l : List Value} {i j : Nat} {x : AV}, lk (argsT i l) j = some x → i ≤ j ∧ ∃ y, l[j - i]? = some y ∧ x = .v y
  | [], i, j, x, h => by cases h
  | y :: r, i, j, x, h => by
    simp only [argsT, lk] at h
    split at h
    · rename_i he
      have e := Nat.eq_of_beq_eq_true he
      subst e; cases h
      exact ⟨Nat.le_refl _, y, by simp, rfl⟩
    · rename_i he
      obtain ⟨h1, z, h2, h3⟩ := argsT_lk h
      refine ⟨by omega, z, ?_, h3⟩
      rw [show j - i = (j - (i + 1)) + 1 by omega]; simpa using h2

theorem calls_of_run {P : Program} {f : FuncId} {fn : Func} {c : Code} {args : List Value} {w : World} {R : Value → World → Prop} (hf : P.funcs[f]? = some fn) (hb : fn.body = some c)
    (hn : args.length ≤ fn.ntmps) (h : Run (fnC P f fn.ntmps w (fun _ => False) noX R) [.code c] ⟨argsT 0 args, [], 0⟩) : GivesR P f args w R := by
  intro cs
  let a : Act := { tmps := args.toArray ++ Array.replicate (fn.ntmps - args.length) undef, defers := [] }
  let b : Frame := { (default : Frame) with fn := f, kind := .normal, roundOf := none }
  have henter : Frame.enter P f args.toArray .normal = b.atR a [.code c] := by
    simp [Frame.enter, Frame.atR, hf, hb, b, a]
  have hR : Rel (fnC P f fn.ntmps w (fun _ => False) noX R) (fun _ => (0, 0)) (fun _ => False) ⟨argsT 0 args, [], 0⟩ a w := by
    refine { heap := fun _ _ h => (by cases h), inj := fun _ _ _ _ h => (by cases h), own := fun _ _ h => (by cases h), apart := fun _ _ h => (by cases h), agree := Agree.refl _ _, outer := trivial,
             fpok := fun _ h => h.elim, size := by simp [a, fnC]; omega, frozen := fun i hi => absurd hi (Nat.not_lt_zero _), tmps := ?_, defers := rfl }
    intro i x hx
    obtain ⟨_, y, h2, rfl⟩ := argsT_lk hx
    simp only [Nat.sub_zero] at h2
    have hlt := (List.getElem?_eq_some_iff.1 h2).1
    simp only [a]
    rw [Array.getElem?_append_left (by simpa using hlt)]
    simpa [conc] using h2
  obtain ⟨m, s, v, w', fr, rfl, h1, h2, h3⟩ := h _ _ a w hR cs
  rw [henter]
  exact ⟨.returned v, w', fr, ⟨v, rfl, h3⟩, s, h1, h2⟩

/-- What a function hands back. -/
def resOf (T : Tab) (W0 : World) (S0 : Nat → Prop) (σ : St) : List ResultVar → Option (Prop × List AV)
  | [] => some (True, [])
  | .tmp t :: r =>
    match lk σ.t t with
    | some x => (match resOf T W0 S0 σ r with | some (p, l) => some (p, x :: l) | none => none)
    | none => none
  | .cell t ty :: r =>
    match lk σ.t t with
    | some x => match loadOf T W0 S0 σ.h ty x with
      | some (p, y) => (match resOf T W0 S0 σ r with | some (q, l) => some (p ∧ q, y :: l) | none => none)
      | none => none
    | none => none

def resAV : List AV → AV
  | [x] => x
  | l => .tup l

def resSem (tmps : Array Value) : ResultVar → Sem Value
  | .tmp t => pure (tmps.getD t undef)
  | .cell x t => do loadVar t (← asAddr (tmps.getD x undef))

theorem resOf_run {C : Ctx} {T : Tab} (hT : tabOK C.P T) {M : Loc} {fp : Nat → Prop} {σ : St} {a : Act} {w : World} (hR : Rel C M fp σ a w) :
    ∀ {rs : List ResultVar} {p : Prop} {l : List AV}, resOf T C.w0 C.S0 σ rs = some (p, l) → p → (rs.mapM (resSem a.tmps)).run C.P w = .ok (concL M l) w
  | [], p, l, h, hp => by cases h; simp [concL]
  | .tmp t :: r, p, l, h, hp => by
    simp only [resOf] at h
    split at h <;> first | (cases h; done) | skip
    rename_i x hx
    split at h <;> cases h
    rename_i l' hl
    have h1 : a.tmps.getD t undef = conc M x := by rw [Array.getD_eq_getD_getElem?, hR.tmps _ _ hx]; rfl
    have ih := resOf_run hT hR hl hp
    rw [List.mapM_cons]
    have h2 : (resSem a.tmps (.tmp t)).run C.P w = .ok (conc M x) w := by simp only [resSem, h1, Sem.run_pure]
    simp only [Sem.run_bind, h2, ih, Sem.run_pure, Result.andThen_ok, concL]
  | .cell t ty :: r, p, l, h, hp => by
    simp only [resOf] at h
    split at h <;> first | (cases h; done) | skip
    rename_i x hx
    split at h <;> first | (cases h; done) | skip
    rename_i p1 y hy
    split at h <;> cases h
    rename_i q l' hl
    have h1 : a.tmps.getD t undef = conc M x := by rw [Array.getD_eq_getD_getElem?, hR.tmps _ _ hx]; rfl
    have ih := resOf_run hT hR hl hp.2
    have h2 := loadOf_run hT hR.q hy hp.1
    have h3 : (resSem a.tmps (.cell t ty)).run C.P w = .ok (conc M y) w := by
      have : ∃ ad, conc M x = .pointer (some ad) := by
        cases x <;> simp only [loadOf] at hy <;> try (cases hy; done)
        · rename_i v
          cases v <;> try (cases hy; done)
          rename_i ad
          cases ad with
          | none => cases hy
          | some ad => exact ⟨ad, rfl⟩
        · exact ⟨_, rfl⟩
        · exact ⟨_, rfl⟩
      obtain ⟨ad, had⟩ := this
      rw [had] at h1 h2
      simp only [resSem, h1]
      simpa [Instr.loadAt, Instr.sureAddr, asAddr] using h2
    rw [List.mapM_cons]
    simp only [Sem.run_bind, h3, ih, Sem.run_pure, Result.andThen_ok, concL]

theorem results_eq (fn : Func) (tmps : Array Value) : results fn tmps = (do let vs ← fn.results.mapM (resSem tmps); pure (if h : vs.size = 1 then vs[0] else .tuple vs)) := by
  unfold results
  congr 1

theorem results_run {C : Ctx} {T : Tab} (hT : tabOK C.P T) {M : Loc} {fp : Nat → Prop} {σ : St} {a : Act} {w : World} (hR : Rel C M fp σ a w) {fn : Func} {p : Prop} {l : List AV}
    (h : resOf T C.w0 C.S0 σ fn.results.toList = some (p, l)) (hp : p) : (results fn a.tmps).run C.P w = .ok (conc M (resAV l)) w := by
  have := resOf_run hT hR h hp
  rw [results_eq, Array.mapM_eq_mapM_toList]
  simp only [Sem.run_bind, Sem.run_map, this, Result.andThen_ok, Sem.run_pure]
  match l with
  | [] => rfl
  | [x] => rfl
  | x :: y :: r => rfl

theorem Run.ret {P : Program} {T : Tab} (hT : tabOK P T) {f : FuncId} {fn : Func} {n : Nat} {w0 : World} {S0 : Nat → Prop} {X : World → (Nat → Prop) → Prop} {R : Value → World → Prop} {σ : St} {k : List Item} {p : Prop} {l : List AV}
    (hf : P.funcs[f]? = some fn) (h : resOf T w0 S0 σ fn.results.toList = some (p, l)) (hp : p)
    (hR : ∀ M fp a w, Rel (fnC P f n w0 S0 X R) M fp σ a w → R (conc M (resAV l)) w) : Run (fnC P f n w0 S0 X R) (.code .ret :: k) σ := by
  intro M fp a w hr cs
  refine ⟨_, .one (stepR_ret rfl), _, w, _, rfl, rfl, ⟨rfl, hr.defers, rfl, fn, hf, ?_⟩, hR M fp a w hr⟩
  exact results_run hT hr (fn := fn) h hp

theorem Run.fin {P : Program} {T : Tab} (hT : tabOK P T) {f : FuncId} {fn : Func} {n : Nat} {w0 : World} {S0 : Nat → Prop} {X : World → (Nat → Prop) → Prop} {R : Value → World → Prop} {σ : St} {p : Prop} {l : List AV}
    (hf : P.funcs[f]? = some fn) (h : resOf T w0 S0 σ fn.results.toList = some (p, l)) (hp : p)
    (hR : ∀ M fp a w, Rel (fnC P f n w0 S0 X R) M fp σ a w → R (conc M (resAV l)) w) : Run (fnC P f n w0 S0 X R) [] σ := by
  intro M fp a w hr cs
  refine ⟨_, .one (stepR_end rfl), _, w, _, rfl, rfl, ⟨rfl, hr.defers, rfl, fn, hf, ?_⟩, hR M fp a w hr⟩
  exact results_run hT hr (fn := fn) h hp

/-- The plain function's end. -/
abbrev fnP (P : Program) (f : FuncId) (n : Nat) (w : World) (v : Value) : Ctx := fnC P f n w (fun _ => False) noX (fun v' w' => v' = v ∧ Agree (fun _ => False) w w')

theorem Gives.of_run {P : Program} {f : FuncId} {fn : Func} {c : Code} {args : List Value} {w : World} {v : Value} (hf : P.funcs[f]? = some fn) (hb : fn.body = some c)
    (hn : args.length ≤ fn.ntmps) (h : Run (fnP P f fn.ntmps w v) [.code c] ⟨argsT 0 args, [], 0⟩) : Gives P f args w v :=
  Calls.mono' (calls_of_run hf hb hn h) fun _ _ ⟨_, h1, h2, h3⟩ => ⟨by rw [h1, h2], h3⟩

theorem Run.retP {P : Program} {T : Tab} (hT : tabOK P T) {f : FuncId} {fn : Func} {n : Nat} {w0 : World} {v : Value} {σ : St} {k : List Item} {p : Prop} {x : AV}
    (hf : P.funcs[f]? = some fn) (h : resOf T w0 (fun _ => False) σ fn.results.toList = some (p, [x])) (hp : p) (hv : ∀ M, conc M x = v) : Run (fnP P f n w0 v) (.code .ret :: k) σ :=
  Run.ret hT hf h hp fun M _ _ _ hr => ⟨hv M, hr.agree⟩

/-- Two results or more, all plain. -/
theorem Run.retL {P : Program} {T : Tab} (hT : tabOK P T) {f : FuncId} {fn : Func} {n : Nat} {w0 : World} {v : Value} {σ : St} {k : List Item} {p : Prop} {l : List AV}
    (hf : P.funcs[f]? = some fn) (h : resOf T w0 (fun _ => False) σ fn.results.toList = some (p, l)) (hp : p) (hv : ∀ M, conc M (resAV l) = v) : Run (fnP P f n w0 v) (.code .ret :: k) σ :=
  Run.ret hT hf h hp fun M _ _ _ hr => ⟨hv M, hr.agree⟩

/-! ### Calls -/

theorem Rel.agree' {C : Ctx} (hL : Local C.X) {M : Loc} {fp : Nat → Prop} {σ : St} {a : Act} {w w' : World} (hR : Rel C M fp σ a w) (h : Agree (fun _ => False) w w') : Rel C M fp σ a w' := by
  have hb : ∀ k, k < w.heap.size → w'.heap[k]? = w.heap[k]? := fun k hk => h.block k hk (fun f => f)
  refine { heap := ?_, inj := hR.inj, own := hR.own, apart := hR.apart, agree := hR.agree.trans h (fun _ f _ => f.elim), outer := ?_, fpok := ?_, size := hR.size, frozen := hR.frozen, tmps := hR.tmps, defers := hR.defers }
  · intro id B hB
    have := hR.heap _ _ hB
    have hlt := this.lt
    cases B with
    | cells e segs => exact ⟨by rw [hb _ hlt]; exact this.1, this.2⟩
    | row e sz n vs => obtain ⟨h1, cur, h2, h3⟩ := this; exact ⟨h1, cur, by rw [hb _ hlt]; exact h2, h3⟩
  · exact hL w w' fp hR.outer (fun b hb' => (hR.fpok b hb').1) (fun b hb' => hb b (hR.fpok b hb').1)
  · intro b hb'; have := hR.fpok b hb'; exact ⟨Nat.lt_of_lt_of_le this.1 h.size, this.2⟩

/-- A call leads into the function's body. -/
def Enters (P : Program) (f : FuncId) : Prop := ∀ args w, (callFunc f args).run P w = .ok (.enter f args) w

theorem enters_mk {P : Program} {f : FuncId} {fn : Func} {c : Code} (hf : P.funcs[f]? = some fn) (hn : (fn.name == "runtime.NumGoroutine") = false) (hb : fn.body = some c) : Enters P f := by
  intro args w
  have h1 : fn.name ≠ "runtime.NumGoroutine" := by simpa using hn
  simp [callFunc, hf, h1, hb]

theorem step_call {P : Program} {b : Frame} {a : Act} {k : List Item} {cs : List Frame} {w w' : World} {ops : Array Oper} {i : Nat} {rest : List Nat} {o : Oper} {f : FuncId} {args : Array Value}
    (ho : ops[i]? = some o) (hw : Region.wanted o (yielded ops a.tmps) = true) (hnd : ∀ c, o.op ≠ .defer c) (hr : (execOp a.eval o).run P w = .ok (.enter f args) w') :
    step P (lone (b.atR a (.inRegion ops (i :: rest) :: k)) cs w) = .next (lone (Frame.enter P f args .normal) (b.atR a (.inRegion ops (i :: rest) :: k) :: cs) w') := by
  have hg := stepGR_op (P := P) (b := b) (k := k) (cs := cs) (w := w) (rest := rest) ho hw
  rw [Oper.semAt_eq _ _ _ hnd] at hg
  exact step_lone_go (by rw [hg]; simp [stepG.apply, hr, Frame.atR])

theorem concL_append {M : Loc} : ∀ (a b : List AV), concL M (a ++ b) = concL M a ++ concL M b
  | [], b => by simp [concL]
  | x :: a, b => by simp [concL, concL_append a b]

/-- A call of a Go function, by what it does. -/
theorem Run.call {C : Ctx} {k : List Item} {σ σ' : St} {ops : Array Oper} {i : Nat} {rest : List Nat} {o : Oper} {c : Call} {g : Operand} {f : FuncId} {caps xs : List AV} {z : AV}
    (ho : ops[i]? = some o) (hop : o.op = .call c) (hc : c.callee = .value g) (hg : σ.ev g = some (.fn f caps)) (hxs : evs σ c.args.toList = some xs) (hw : wantOf ops σ o = some .yes) (hent : Enters C.P f)
    (hd : dstOK C.n o.dst = true)
    (hcon : ∀ M fp a w, Rel C M fp σ a w → GivesR C.P f (concL M (xs ++ caps)) w (fun v w' => ∃ M' fp', Rel C M' fp' σ' a w' ∧ conc M' z = v))
    (h : Run C (.inRegion ops rest :: k) (σ'.put o.dst z)) : Run C (.inRegion ops (i :: rest) :: k) σ := by
  intro M fp a w hR cs
  have hnd : ∀ c, o.op ≠ .defer c := fun c e => by rw [hop] at e; cases e
  have h2 : c.args.map a.eval = (concL M xs).toArray := by apply Array.ext'; simpa using evs_conc hR.q hxs
  have hr : (execOp a.eval o).run C.P w = .ok (.enter f (concL M (xs ++ caps)).toArray) w := by
    simp only [execOp, hop, resolve, hc, h2, hR.q.ev hg, conc, Deferred.ofValue]
    simp [invoke, hent _ _, concL_append]
  have s1 := step_call (b := C.b) (k := k) (cs := cs) (rest := rest) ho (wantOf_yes hR.q hw) hnd hr
  obtain ⟨e, w', fr, ⟨v, rfl, M', fp', hR', hz⟩, hsteps, _, hleave⟩ := hcon M fp a w hR (C.b.atR a (.inRegion ops (i :: rest) :: k) :: cs)
  obtain ⟨m, s, e⟩ := h M' fp' _ w' (hR'.put (z := z) (dstOK_lt hd)) cs
  have hfin : (C.b.atR a (.inRegion ops (i :: rest) :: k)).finish v = C.b.atR (a.put o.dst v) (.inRegion ops rest :: k) := by rw [Frame.finish_atR, ho]; rfl
  refine ⟨m, .head s1 (Steps.trans hsteps (.head (step_leave_returned hleave) ?_)), e⟩
  rw [hfin, ← hz]; exact s

def toVs : List AV → Option (List Value)
  | [] => some []
  | x :: r => match x.toV with | some y => (match toVs r with | some l => some (y :: l) | none => none) | none => none

theorem toVs_conc {M : Loc} : ∀ {l : List AV} {vs : List Value}, toVs l = some vs → concL M l = vs
  | [], vs, h => by cases h; rfl
  | x :: r, vs, h => by
    simp only [toVs] at h
    split at h <;> first | (cases h; done) | skip
    rename_i y hy
    split at h <;> cases h
    rename_i l hl
    simp [concL, AV.toV_conc hy, toVs_conc hl]

/-- A call whose arguments are plain and that turns nothing. -/
theorem Run.callFn {C : Ctx} (hL : Local C.X) {k : List Item} {σ : St} {ops : Array Oper} {i : Nat} {rest : List Nat} {o : Oper} {c : Call} {g : Operand} {f : FuncId} {caps xs : List AV} {vs : List Value} {r : Value}
    (ho : ops[i]? = some o) (hop : o.op = .call c) (hc : c.callee = .value g) (hg : σ.ev g = some (.fn f caps)) (hxs : evs σ c.args.toList = some xs) (hvs : toVs (xs ++ caps) = some vs) (hw : wantOf ops σ o = some .yes) (hent : Enters C.P f)
    (hd : dstOK C.n o.dst = true) (hfn : ∀ w, Agree C.S0 C.w0 w → Gives C.P f vs w r)
    (h : Run C (.inRegion ops rest :: k) (σ.put o.dst (.v r))) : Run C (.inRegion ops (i :: rest) :: k) σ := by
  refine Run.call (σ' := σ) (z := .v r) ho hop hc hg hxs hw hent hd ?_ h
  intro M fp a w hR
  rw [toVs_conc hvs]
  exact Calls.mono' (hfn w hR.agree).r fun e w' ⟨v, h1, h2, h3⟩ => ⟨v, h1, M, fp, hR.agree' hL h3, h2.symm⟩

end Go.AM
