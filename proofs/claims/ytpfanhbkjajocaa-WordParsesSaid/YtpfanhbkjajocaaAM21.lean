/-
  The abstract machine, twenty-first part: a call that the model answers itself. Own work; over any program.
-/
import Derived.Test.YtpfanhbkjajocaaAM20
import Derived.Laws.Externs
namespace Go.AM

/-- A call that is answered where it stands. -/
theorem Run.callX {C : Ctx} {k : List Item} {σ : St} {ops : Array Oper} {i : Nat} {rest : List Nat} {o : Oper} {c : Call} {g : Operand} {f : FuncId} {caps xs : List AV} {vs : List Value} {r : Value}
    (ho : ops[i]? = some o) (hop : o.op = .call c) (hc : c.callee = .value g) (hg : σ.ev g = some (.fn f caps)) (hxs : evs σ c.args.toList = some xs) (hvs : toVs (xs ++ caps) = some vs) (hw : wantOf ops σ o = some .yes)
    (hd : dstOK C.n o.dst = true) (hx : ∀ w, (callFunc f vs.toArray).run C.P w = .ok (.value r) w)
    (h : Run C (.inRegion ops rest :: k) (σ.put o.dst (.v r))) : Run C (.inRegion ops (i :: rest) :: k) σ := by
  intro M fp a w hR cs
  have hnd : ∀ c, o.op ≠ .defer c := fun c e => by rw [hop] at e; cases e
  have h2 : c.args.map a.eval = (concL M xs).toArray := by apply Array.ext'; simpa using evs_conc hR.q hxs
  have h3 : concL M (xs ++ caps) = vs := toVs_conc hvs
  have hr : (execOp a.eval o).run C.P w = .ok (.value r) w := by
    have h4 := hx w
    rw [← h3, concL_append] at h4
    simp only [execOp, hop, resolve, hc, h2, hR.q.ev hg, conc, Deferred.ofValue]
    simp [invoke, h4]
  obtain ⟨m, s, z⟩ := h M fp _ w (hR.put (z := .v r) (dstOK_lt hd)) cs
  exact ⟨m, .head (step_value ho (wantOf_yes hR.q hw) hnd hr) s, z⟩
end Go.AM
