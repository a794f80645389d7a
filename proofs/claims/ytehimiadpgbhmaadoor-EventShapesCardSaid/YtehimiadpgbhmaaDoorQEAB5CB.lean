/-
  Own work, merged: AM14.
-/
import Derived.AtR
import Derived.Below
import Derived.ChangeKeysEq
import Derived.Laws.AppendOwn
import Derived.Laws.BytesString
import Derived.Laws.Cells
import Derived.Laws.CopyRow
import Derived.Laws.Entries
import Derived.Laws.Rows
import Derived.Laws.Small
import Derived.Laws.StructEq
import Derived.Maps.AppendAt
import Derived.Orders
import Derived.Test.YtehimiadpgbhmaaDoorQE3837A
/-
  The abstract machine, fourteenth part: structs compared; calls whose arguments are owned. Own work; over any program.
-/
namespace Go.AM

/-- Two values of a type compare so. -/
def EqT (P : Program) (t : TypeId) (xs ys : Array Value) (b : Bool) : Prop :=
  P.eqGuardType P.depth t = false ∧ ∀ w, (Op.equalIn 10000 t (.agg xs) (.agg ys)).run P w = .ok b w

theorem EqT.eql {P : Program} {t : TypeId} {xs ys : Array Value} {b : Bool} (h : EqT P t xs ys b) (w : World) (ox oy : Operand) :
    (do eqGuard .eql t ox oy (.agg xs) (.agg ys); binOp .eql t (.agg xs) (.agg ys) : Sem Value).run P w = .ok (.bool b) w := by
  simp [run_eqGuard_agg w .eql t ox oy xs ys h.1, run_eql_struct, h.2]
theorem EqT.neq {P : Program} {t : TypeId} {xs ys : Array Value} {b : Bool} (h : EqT P t xs ys b) (w : World) (ox oy : Operand) :
    (do eqGuard .neq t ox oy (.agg xs) (.agg ys); binOp .neq t (.agg xs) (.agg ys) : Sem Value).run P w = .ok (.bool (!b)) w := by
  simp [run_eqGuard_agg w .neq t ox oy xs ys h.1, run_neq_struct, h.2]

section
variable {C : Ctx} {held : List (Nat × Blk)} {n0 : Nat} {ops : Array Oper} {i : Nat} {ord : List (Nat × Bool)} {rest : List Nat} {k : List Item} {σ : St} {o : Oper} {op : BinOp} {t u : TypeId} {x y : Operand} {xs ys : Array Value} {b c : Bool}

theorem cmp_run {M : Loc} {a : Act} {w : World} (hR : RelQ C M σ a w) (hop : o.op = .binOp op t x y u) (hx : σ.ev x = some (.v (.agg xs))) (hy : σ.ev y = some (.v (.agg ys)))
    (he : EqT C.P t xs ys b) (hb : op = .eql ∧ c = b ∨ op = .neq ∧ c = !b) (w' : World) : (execOp a.eval o).run C.P w' = .ok (.value (.bool c)) w' := by
  have h1 := hR.ev hx
  have h2 := hR.ev hy
  simp only [conc] at h1 h2
  rcases hb with ⟨rfl, rfl⟩ | ⟨rfl, rfl⟩
  · have := he.eql w' x y
    simp only [Sem.run_bind] at this
    simp only [execOp, hop, h1, h2, Sem.run_bind, this]
    simp
  · have := he.neq w' x y
    simp only [Sem.run_bind] at this
    simp only [execOp, hop, h1, h2, Sem.run_bind, this]
    simp

theorem Run.cmp (ho : ops[i]? = some o) (hop : o.op = .binOp op t x y u) (hx : σ.ev x = some (.v (.agg xs))) (hy : σ.ev y = some (.v (.agg ys))) (hw : wantOf ops σ o = some .yes) (hd : dstOK C.n o.dst = true)
    (he : EqT C.P t xs ys b) (hb : op = .eql ∧ c = b ∨ op = .neq ∧ c = !b) (h : Run C (.inRegion ops rest :: k) (σ.put o.dst (.v (.bool c)))) : Run C (.inRegion ops (i :: rest) :: k) σ := by
  intro M fp a w hR cs
  obtain ⟨m, s, z⟩ := h M fp _ w (hR.put (z := .v (.bool c)) (dstOK_lt hd)) cs
  exact ⟨m, .head (step_value ho (wantOf_yes hR.q hw) (fun c e => by rw [hop] at e; cases e) (cmp_run hR.q hop hx hy he hb w)) s, z⟩

theorem RunO.cmp (hsel : noSel ops = true) (ho : ops[i]? = some o) (hop : o.op = .binOp op t x y u) (hx : σ.ev x = some (.v (.agg xs))) (hy : σ.ev y = some (.v (.agg ys))) (hw : wantOf ops σ o = some .yes) (hd : dstOK C.n o.dst = true)
    (he : EqT C.P t xs ys b) (hb : op = .eql ∧ c = b ∨ op = .neq ∧ c = !b) (h : RunO C held n0 ops ord k (σ.put o.dst (.v (.bool c)))) : RunO C held n0 ops ((i, true) :: ord) k σ := by
  refine RunO.first hsel ho hd (fun M0 M fp a w hM hR => .inl ⟨wantOf_yes hR.q hw, (fun c e => by rw [hop] at e; cases e), fun w' _ => ?_⟩) h
  simpa [conc] using cmp_run hR.q hop hx hy he hb w'
end

section
variable {C : Ctx} {held : List (Nat × Blk)} {n0 : Nat} {ops : Array Oper} {i : Nat} {ord : List (Nat × Bool)} {rest : List Nat} {k : List Item} {σ : St} {o : Oper} {c : Call} {g : Operand} {f : FuncId} {caps xs : List AV} {r : Value}

/-- A call whose arguments may lie in owned blocks, and that turns nothing. -/
theorem Run.callM (hL : Local C.X) (ho : ops[i]? = some o) (hop : o.op = .call c) (hc : c.callee = .value g) (hg : σ.ev g = some (.fn f caps)) (hxs : evs σ c.args.toList = some xs) (hw : wantOf ops σ o = some .yes) (hent : Enters C.P f)
    (hd : dstOK C.n o.dst = true) (hfn : ∀ M w, (∀ id B, lk σ.h id = some B → BlkAt M w id B) → Agree C.S0 C.w0 w → Gives C.P f (concL M (xs ++ caps)) w r)
    (h : Run C (.inRegion ops rest :: k) (σ.put o.dst (.v r))) : Run C (.inRegion ops (i :: rest) :: k) σ := by
  refine Run.call (σ' := σ) (z := .v r) ho hop hc hg hxs hw hent hd ?_ h
  intro M fp a w hR
  exact Calls.mono' (hfn M w hR.heap hR.agree).r fun e w' ⟨v, h1, h2, h3⟩ => ⟨v, h1, M, fp, hR.agree' hL h3, h2.symm⟩

theorem RunO.callM (hL : Local C.X) (hbel : hBelow n0 held = true) (ho : ops[i]? = some o) (hop : o.op = .call c) (hc : c.callee = .value g) (hg : σ.ev g = some (.fn f caps)) (hxs : evs σ c.args.toList = some xs) (hw : wantOf ops σ o = some .yes) (hent : Enters C.P f)
    (hd : dstOK C.n o.dst = true) (hfn : ∀ M w, (∀ id B, lk σ.h id = some B → BlkAt M w id B) → Agree C.S0 C.w0 w → Gives C.P f (concL M (xs ++ caps)) w r)
    (h : RunO C held n0 ops ord k (σ.put o.dst (.v r))) : RunO C held n0 ops ((i, false) :: ord) k σ := by
  refine RunO.alone ho fun M0 M fp a w hM hn hR hS => ?_
  have h2 : c.args.map a.eval = (concL M xs).toArray := by apply Array.ext'; simpa using evs_conc hR.q hxs
  have hr : (execOp a.eval o).run C.P w = .ok (.enter f (concL M (xs ++ caps)).toArray) w := by
    simp only [execOp, hop, resolve, hc, h2, hR.q.ev hg, conc, Deferred.ofValue]
    simp [invoke, hent _ _, concL_append]
  unfold OpW
  simp only [ho, if_pos (wantOf_yes hR.q hw), hr]
  refine ⟨fun c e => (by rw [hop] at e; cases e), Calls.mono' (hfn M w hR.heap hR.agree) fun e w' hh => ?_⟩
  obtain ⟨h1, h3⟩ := hh
  refine ⟨r, h1, M, fp, _, hM, by cases o.dst <;> exact hn, (hR.agree' hL h3).put (z := .v r) (dstOK_lt hd), ?_, h⟩
  refine ⟨?_, hR.agree.trans h3 (fun _ f _ => f.elim)⟩
  have hlk : ∀ id B, lk held id = some B → BlkAt M w id B := hBelow_lk hbel hM hS.1
  refine hBelow_lk hbel (fun i hi => (hM i hi).symm) ?_
  intro id B hB
  have := hlk _ _ hB
  have hlt := this.lt
  have hb : w'.heap[(M id).1]? = w.heap[(M id).1]? := h3.block _ hlt (fun f => f)
  cases B with
  | cells e segs => exact ⟨by rw [hb]; exact this.1, this.2⟩
  | row e sz n vs => obtain ⟨h1, cur, h2, h3⟩ := this; exact ⟨h1, cur, by rw [hb]; exact h2, h3⟩
  | map es => obtain ⟨h1, cur, h2, h3⟩ := this; exact ⟨h1, cur, by rw [hb]; exact h2, h3⟩
  | rowA e sz n xs => obtain ⟨h1, cur, h2, h3⟩ := this; exact ⟨h1, cur, by rw [hb]; exact h2, h3⟩
end

theorem Run.drawA {C : Ctx} (hL : Local C.X) (hm : C.P.follows .mixedOrders = true) {id : Nat} {ops : Array Oper} {k : List Item} {σ : St} (loud : List Nat) (held : List (Nat × Blk))
    (hlen : Nat.beq (auto ops loud).length ops.size = true) (hc : chk ops (auto ops loud) [] = true) (hh : inT σ.h held) (h : RunO C held σ.nx ops (auto ops loud) k σ) : Run C (.code (.region id ops true) :: k) σ :=
  Run.draw hL hm held _ hlen hc hh h

end Go.AM
