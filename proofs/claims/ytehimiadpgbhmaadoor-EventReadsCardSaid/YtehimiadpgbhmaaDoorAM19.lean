/-
  The abstract machine, nineteenth part: function values that are plain values, called for what they give. Own work; over any program.
-/
import Derived.Test.YtehimiadpgbhmaaDoorAM18
namespace Go.AM

/-- A check at a loop's head by what the values are. -/
def inTC (l : List (Nat × AV)) : List (Nat × AV) → Prop
  | [] => True
  | (i, x) :: r => (∃ y, lk l i = some y ∧ ∀ M, conc M y = conc M x) ∧ inTC l r

theorem inTC_lk {l : List (Nat × AV)} : ∀ {l' : List (Nat × AV)}, inTC l l' → ∀ i x, lk l' i = some x → ∃ y, lk l i = some y ∧ ∀ M, conc M y = conc M x
  | [], _, i, x, h => by cases h
  | (j, y) :: r, hin, i, x, h => by
    simp only [lk] at h
    split at h
    · rename_i he
      have := Nat.eq_of_beq_eq_true he
      subst this; cases h; exact hin.1
    · exact inTC_lk hin.2 i x h

theorem Run.toC {C : Ctx} {todo : List Item} {σ : St} {t' : List (Nat × AV)} {h' : List (Nat × Blk)} {n' : Nat} (h : Run C todo ⟨t', h', n'⟩) (ht : inTC σ.t t') (hh : inT σ.h h') : Run C todo σ := by
  intro M fp a w hR cs
  refine h M fp a w ?_ cs
  refine { heap := fun id B hB => hR.heap id B (inT_lk hh id B hB), inj := fun i j B B' h h' e => hR.inj i j B B' (inT_lk hh _ _ h) (inT_lk hh _ _ h') e, own := fun id B hB => hR.own id B (inT_lk hh id B hB),
           apart := fun id B hB => hR.apart id B (inT_lk hh id B hB), agree := hR.agree, outer := hR.outer, fpok := hR.fpok, size := hR.size, frozen := hR.frozen, tmps := ?_, defers := hR.defers }
  intro i x hx
  obtain ⟨y, hy, he⟩ := inTC_lk ht i x hx
  rw [hR.tmps i y hy, he]

theorem inTC_same {l : List (Nat × AV)} {i : Nat} {x : AV} (h : lk l i = some x) : ∃ y, lk l i = some y ∧ ∀ M, conc M y = conc M x := ⟨x, h, fun _ => rfl⟩

section
variable {C : Ctx} {held : List (Nat × Blk)} {n0 : Nat} {ops : Array Oper} {i : Nat} {ord : List (Nat × Bool)} {rest : List Nat} {k : List Item} {σ : St} {o : Oper} {c : Call} {g : Operand} {f : FuncId} {cs : List Value} {xs : List AV} {vs : List Value} {r : Value}

theorem callFv_run {M : Loc} {a : Act} {w : World} (hR : RelQ C M σ a w) (hop : o.op = .call c) (hc : c.callee = .value g) (hg : σ.ev g = some (.v (.func (.func f) #[] cs.toArray))) (hxs : evs σ c.args.toList = some xs) (hvs : toVs xs = some vs) (hent : Enters C.P f) :
    (execOp a.eval o).run C.P w = .ok (.enter f (vs ++ cs).toArray) w := by
  have h2 : c.args.map a.eval = vs.toArray := by apply Array.ext'; rw [← toVs_conc (M := M) hvs]; simpa using evs_conc hR hxs
  simp only [execOp, hop, resolve, hc, h2, hR.ev hg, conc, Deferred.ofValue]
  simp [invoke, hent _ _]

theorem Run.callFv (hL : Local C.X) (ho : ops[i]? = some o) (hop : o.op = .call c) (hc : c.callee = .value g) (hg : σ.ev g = some (.v (.func (.func f) #[] cs.toArray))) (hxs : evs σ c.args.toList = some xs) (hvs : toVs xs = some vs) (hw : wantOf ops σ o = some .yes) (hent : Enters C.P f)
    (hd : dstOK C.n o.dst = true) (hfn : ∀ w, Agree C.S0 C.w0 w → Gives C.P f (vs ++ cs) w r)
    (h : Run C (.inRegion ops rest :: k) (σ.put o.dst (.v r))) : Run C (.inRegion ops (i :: rest) :: k) σ := by
  intro M fp a w hR cs'
  have hnd : ∀ c, o.op ≠ .defer c := fun c e => by rw [hop] at e; cases e
  have s1 := step_call (b := C.b) (k := k) (cs := cs') (rest := rest) ho (wantOf_yes hR.q hw) hnd (callFv_run hR.q hop hc hg hxs hvs hent)
  obtain ⟨e, w', fr, ⟨rfl, hag⟩, hsteps, _, hleave⟩ := hfn w hR.agree (C.b.atR a (.inRegion ops (i :: rest) :: k) :: cs')
  obtain ⟨m, s, e⟩ := h M fp _ w' ((hR.agree' hL hag).put (z := .v r) (dstOK_lt hd)) cs'
  have hfin : (C.b.atR a (.inRegion ops (i :: rest) :: k)).finish r = C.b.atR (a.put o.dst r) (.inRegion ops rest :: k) := by rw [Frame.finish_atR, ho]; rfl
  refine ⟨m, .head s1 (Steps.trans hsteps (.head (step_leave_returned hleave) ?_)), e⟩
  rw [hfin]; exact s

theorem RunO.callFv (hL : Local C.X) (hbel : hBelow n0 held = true) (ho : ops[i]? = some o) (hop : o.op = .call c) (hc : c.callee = .value g) (hg : σ.ev g = some (.v (.func (.func f) #[] cs.toArray))) (hxs : evs σ c.args.toList = some xs) (hvs : toVs xs = some vs) (hw : wantOf ops σ o = some .yes) (hent : Enters C.P f)
    (hd : dstOK C.n o.dst = true) (hfn : ∀ w, Agree C.S0 C.w0 w → Gives C.P f (vs ++ cs) w r)
    (h : RunO C held n0 ops ord k (σ.put o.dst (.v r))) : RunO C held n0 ops ((i, false) :: ord) k σ := by
  refine RunO.alone ho fun M0 M fp a w hM hn hR hS => ?_
  unfold OpW
  simp only [ho, if_pos (wantOf_yes hR.q hw), callFv_run hR.q hop hc hg hxs hvs hent]
  refine ⟨fun c e => (by rw [hop] at e; cases e), Calls.mono' (hfn w hR.agree) fun e w' hh => ?_⟩
  obtain ⟨h1, h3⟩ := hh
  refine ⟨r, h1, M, fp, _, hM, by cases o.dst <;> exact hn, (hR.agree' hL h3).put (z := .v r) (dstOK_lt hd), ?_, h⟩
  refine ⟨?_, hR.agree.trans h3 (fun _ f _ => f.elim)⟩
  have hlk : ∀ id B, lk held id = some B → BlkAt M w id B := hBelow_lk hbel hM hS.1
  refine hBelow_lk hbel (fun i hi => (hM i hi).symm) ?_
  intro id B hB
  have := hlk _ _ hB
  have hlt := this.lt
  have hb : w'.heap[(M id).1]? = w.heap[(M id).1]? := h3.block _ hlt (fun f => f)
  cases B with
  | cells e segs => exact ⟨by rw [hb]; exact this.1, this.2⟩
  | row e sz n vs => obtain ⟨h1, cur, h2, h3⟩ := this; exact ⟨h1, cur, by rw [hb]; exact h2, h3⟩

/-- The last store of a region: what was held may go. -/
theorem RunO.effLast {T : Tab} (hT : tabOK C.P T) (hL : Local C.X) (hla : Nat.beq i (lastOf ops) = true) {E : Eff} (ho : ops[i]? = some o) (hw : wantOf ops σ o = some .yes) (hev : evEff T C.w0 C.S0 σ.t σ.h σ.nx o = some E) (hp : E.p) (hb : E.new = true → σ.bel = true)
    (hd : dstOK C.n o.dst = true) (h : Run C k ((E.next σ).put o.dst E.z)) : RunO C held n0 ops [(i, false)] k σ := by
  refine RunO.aloneLast hla ho fun M fp a w hR => ?_
  obtain ⟨M', w', v, hM', hrun, hv, hR'⟩ := evEff_run hT hL hR hev hp hb
  unfold OpW
  rcases hv with rfl | ⟨rfl, hz⟩
  · simp only [ho, if_pos (wantOf_yes hR.q hw), hrun]
    exact ⟨evEff_nd hev, M', fp, _, hR'.put (z := E.z) (dstOK_lt hd), h⟩
  · simp only [ho, if_pos (wantOf_yes hR.q hw), hrun]
    rw [hz] at h
    exact ⟨evEff_nd hev, M', fp, _, hR'.put (z := .v undef) (dstOK_lt hd), h⟩
end
end Go.AM
