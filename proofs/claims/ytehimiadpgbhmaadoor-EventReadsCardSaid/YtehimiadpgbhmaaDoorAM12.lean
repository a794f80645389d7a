/-
  The abstract machine, twelfth part: the run of a drawn region along its order, reckoned; calls in it. Own work; over any program.
-/
import Derived.Test.YtehimiadpgbhmaaDoorAM11
namespace Go.AM

abbrev GotO := Option (Prop × List (Nat × Bool) × St)
def GotO.with (p : Prop) : GotO → GotO
  | some (q, t, s) => some (p ∧ q, t, s)
  | none => none

theorem GotO.with_some {p : Prop} {g : GotO} {φ : Prop} {t : List (Nat × Bool)} {s : St} (h : g.with p = some (φ, t, s)) : ∃ q, g = some (q, t, s) ∧ φ = (p ∧ q) := by
  cases g with
  | none => cases h
  | some x => obtain ⟨q, t', s'⟩ := x; cases h; exact ⟨q, rfl, rfl⟩

def RunOF (T : Tab) (n : Lim) (W0 : World) (S0 : Nat → Prop) (held : List (Nat × Blk)) (ops : Array Oper) : Nat → List Bool → List (Nat × Bool) → St → GotO
  | 0, _, ord, σ => some (True, ord, σ)
  | f + 1, ds, ord, ⟨t, h, nx⟩ =>
    match ord with
    | [] => some (True, [], ⟨t, h, nx⟩)
    | (i, q) :: rest =>
      match ops[i]? with
      | none => some (True, ord, ⟨t, h, nx⟩)
      | some ⟨dst, op, ty, pos, aft, gd⟩ =>
        match wantOf ops ⟨t, h, nx⟩ ⟨dst, op, ty, pos, aft, gd⟩ with
        | some (.ask d b) =>
          match ds with
          | true :: ds => (RunOF T n W0 S0 held ops f ds ord ⟨(d, .tt true) :: t, h, nx⟩).with (b = true)
          | false :: ds => (RunOF T n W0 S0 held ops f ds ord ⟨(d, .tt false) :: t, h, nx⟩).with (b = false)
          | [] => some (True, ord, ⟨t, h, nx⟩)
        | some .no =>
          match dst with
          | none => RunOF T n W0 S0 held ops f ds rest ⟨t, h, nx⟩
          | some d => match okD n d with | true => RunOF T n W0 S0 held ops f ds rest ⟨(d, .v undef) :: t, h, nx⟩ | false => some (True, ord, ⟨t, h, nx⟩)
        | some .yes =>
          match pickAsk ⟨t, h, nx⟩ ⟨dst, op, ty, pos, aft, gd⟩ with
          | some (d, b) =>
            match ds with
            | true :: ds => (RunOF T n W0 S0 held ops f ds ord ⟨(d, .tt true) :: t, h, nx⟩).with (b = true)
            | false :: ds => (RunOF T n W0 S0 held ops f ds ord ⟨(d, .tt false) :: t, h, nx⟩).with (b = false)
            | [] => some (True, ord, ⟨t, h, nx⟩)
          | none =>
            match q with
            | true =>
              match evPure T W0 S0 ⟨t, held, nx⟩ ⟨dst, op, ty, pos, aft, gd⟩ with
              | some (p, z) =>
                match dst with
                | none => (RunOF T n W0 S0 held ops f ds rest ⟨t, h, nx⟩).with p
                | some d => match okD n d with | true => force z fun z => (RunOF T n W0 S0 held ops f ds rest ⟨(d, z) :: t, h, nx⟩).with p | false => some (True, ord, ⟨t, h, nx⟩)
              | none => some (True, ord, ⟨t, h, nx⟩)
            | false =>
              match evPure T W0 S0 ⟨t, h, nx⟩ ⟨dst, op, ty, pos, aft, gd⟩ with
              | some (p, z) =>
                match dst with
                | none => (RunOF T n W0 S0 held ops f ds rest ⟨t, h, nx⟩).with p
                | some d => match okD n d with | true => force z fun z => (RunOF T n W0 S0 held ops f ds rest ⟨(d, z) :: t, h, nx⟩).with p | false => some (True, ord, ⟨t, h, nx⟩)
              | none =>
                match evEff T W0 S0 t h nx ⟨dst, op, ty, pos, aft, gd⟩ with
                | some ⟨p, z, h', new, _⟩ =>
                  match new with
                  | true =>
                    match St.bel ⟨t, h, nx⟩, dst with
                    | true, some d => match okD n d with | true => force z fun z => forceH h' fun h' => (RunOF T n W0 S0 held ops f ds rest ⟨(d, z) :: t, h', nx + 1⟩).with (p ∧ inT h' held) | false => some (True, ord, ⟨t, h, nx⟩)
                    | _, _ => some (True, ord, ⟨t, h, nx⟩)
                  | false =>
                    match dst with
                    | none => forceH h' fun h' => (RunOF T n W0 S0 held ops f ds rest ⟨t, h', nx⟩).with (p ∧ inT h' held)
                    | some d => match okD n d with | true => force z fun z => forceH h' fun h' => (RunOF T n W0 S0 held ops f ds rest ⟨(d, z) :: t, h', nx⟩).with (p ∧ inT h' held) | false => some (True, ord, ⟨t, h, nx⟩)
                | none => some (True, ord, ⟨t, h, nx⟩)
        | none => some (True, ord, ⟨t, h, nx⟩)

theorem RelQ.held {C : Ctx} {M M0 : Loc} {fp : Nat → Prop} {σ : St} {a : Act} {w w' : World} (hR : Rel C M fp σ a w) {n0 : Nat} {held : List (Nat × Blk)} (hb : hBelow n0 held = true) (hM : ∀ i, i < n0 → M i = M0 i) (hS : HS C M0 held w') :
    RelQ C M ⟨σ.t, held, σ.nx⟩ a w' :=
  ⟨hR.tmps, hBelow_lk hb hM hS.1, hS.2⟩

section
variable {C : Ctx} {held : List (Nat × Blk)} {n0 : Nat} {ops : Array Oper} {i : Nat} {ord : List (Nat × Bool)} {k : List Item} {σ : St} {o : Oper}

theorem RunO.decide {d : Nat} {b x : Bool} (hd : lk σ.t d = some (.v (.bool b))) (hb : b = x) (h : RunO C held n0 ops ord k (σ.put (some d) (.tt x))) : RunO C held n0 ops ord k σ :=
  fun M0 M fp a w hM hn hR hS => h M0 M fp a w hM hn (hR.decide hd hb) hS

theorem RunO.pure {T : Tab} (hT : tabOK C.P T) {p : Prop} {z : AV} (ho : ops[i]? = some o) (hw : wantOf ops σ o = some .yes) (hev : evPure T C.w0 C.S0 σ o = some (p, z)) (hp : p) (hd : dstOK C.n o.dst = true)
    (h : RunO C held n0 ops ord k (σ.put o.dst z)) : RunO C held n0 ops ((i, false) :: ord) k σ := by
  refine RunO.alone ho fun M0 M fp a w hM hn hR hS => ?_
  unfold OpW
  simp only [ho, if_pos (wantOf_yes hR.q hw), evPure_run hT hR.q hev hp]
  exact ⟨evPure_nd hev, M, fp, _, hM, by cases o.dst <;> exact hn, hR.put (z := z) (dstOK_lt hd), hS, h⟩

theorem RunO.look {T : Tab} (hT : tabOK C.P T) (hsel : noSel ops = true) (hbel : hBelow n0 held = true) {p : Prop} {z : AV} (ho : ops[i]? = some o) (hw : wantOf ops σ o = some .yes) (hev : evPure T C.w0 C.S0 ⟨σ.t, held, σ.nx⟩ o = some (p, z)) (hp : p) (hd : dstOK C.n o.dst = true)
    (h : RunO C held n0 ops ord k (σ.put o.dst z)) : RunO C held n0 ops ((i, true) :: ord) k σ := by
  refine RunO.first hsel ho hd (fun M0 M fp a w hM hR => .inl ⟨wantOf_yes hR.q hw, evPure_nd hev, fun w' hS' => ?_⟩) h
  exact evPure_run hT (RelQ.held hR hbel hM hS') hev hp

theorem RunO.no (hsel : noSel ops = true) {q : Bool} (ho : ops[i]? = some o) (hw : wantOf ops σ o = some .no) (hd : dstOK C.n o.dst = true)
    (h : RunO C held n0 ops ord k (σ.put o.dst (.v undef))) : RunO C held n0 ops ((i, q) :: ord) k σ := by
  cases q with
  | true => exact RunO.first hsel ho hd (fun M0 M fp a w hM hR => .inr ⟨wantOf_no hR.q hw, rfl⟩) h
  | false =>
    refine RunO.alone ho fun M0 M fp a w hM hn hR hS => ?_
    unfold OpW
    simp only [ho, wantOf_no hR.q hw]
    exact ⟨M, fp, _, hM, by cases o.dst <;> exact hn, hR.put (z := .v undef) (dstOK_lt hd), hS, h⟩

theorem RunO.eff {T : Tab} (hT : tabOK C.P T) (hL : Local C.X) (hbel : hBelow n0 held = true) {E : Eff} (ho : ops[i]? = some o) (hw : wantOf ops σ o = some .yes) (hev : evEff T C.w0 C.S0 σ.t σ.h σ.nx o = some E) (hp : E.p) (hb : E.new = true → σ.bel = true)
    (hin : inT E.h held) (hd : dstOK C.n o.dst = true) (h : RunO C held n0 ops ord k ((E.next σ).put o.dst E.z)) : RunO C held n0 ops ((i, false) :: ord) k σ := by
  refine RunO.alone ho fun M0 M fp a w hM hn hR hS => ?_
  obtain ⟨M', w', v, hM', hrun, hv, hR'⟩ := evEff_run hT hL hR hev hp hb
  have hn' : n0 ≤ ((E.next σ).put o.dst E.z).nx := by
    have : n0 ≤ (E.next σ).nx := by unfold Eff.next; split <;> simp <;> omega
    cases o.dst <;> exact this
  have h0 : ∀ i, i < n0 → M' i = M0 i := fun i hi => (hM' i (by omega)).trans (hM i hi)
  have hS' : HS C M0 held w' := ⟨hBelow_lk hbel (fun i hi => (h0 i hi).symm) (fun id B hB => hR'.heap id B (inT_lk hin id B hB)), hR'.agree⟩
  unfold OpW
  rcases hv with rfl | ⟨rfl, hz⟩
  · simp only [ho, if_pos (wantOf_yes hR.q hw), hrun]
    exact ⟨evEff_nd hev, M', fp, _, h0, hn', hR'.put (z := E.z) (dstOK_lt hd), hS', h⟩
  · simp only [ho, if_pos (wantOf_yes hR.q hw), hrun]
    rw [hz] at h hn'
    exact ⟨evEff_nd hev, M', fp, _, h0, hn', hR'.put (z := .v undef) (dstOK_lt hd), hS', h⟩

/-- A call whose arguments are plain and that turns nothing. -/
theorem RunO.callFn (hL : Local C.X) (hbel : hBelow n0 held = true) {c : Call} {g : Operand} {f : FuncId} {caps xs : List AV} {vs : List Value} {r : Value}
    (ho : ops[i]? = some o) (hop : o.op = .call c) (hc : c.callee = .value g) (hg : σ.ev g = some (.fn f caps)) (hxs : evs σ c.args.toList = some xs) (hvs : toVs (xs ++ caps) = some vs) (hw : wantOf ops σ o = some .yes) (hent : Enters C.P f)
    (hd : dstOK C.n o.dst = true) (hfn : ∀ w, Agree C.S0 C.w0 w → Gives C.P f vs w r)
    (h : RunO C held n0 ops ord k (σ.put o.dst (.v r))) : RunO C held n0 ops ((i, false) :: ord) k σ := by
  refine RunO.alone ho fun M0 M fp a w hM hn hR hS => ?_
  have h2 : c.args.map a.eval = (concL M xs).toArray := by apply Array.ext'; simpa using evs_conc hR.q hxs
  have hr : (execOp a.eval o).run C.P w = .ok (.enter f vs.toArray) w := by
    simp only [execOp, hop, resolve, hc, h2, hR.q.ev hg, conc, Deferred.ofValue]
    rw [← toVs_conc (M := M) hvs]
    simp [invoke, hent _ _, concL_append]
  unfold OpW
  simp only [ho, if_pos (wantOf_yes hR.q hw), hr]
  refine ⟨fun c e => (by rw [hop] at e; cases e), Calls.mono' (hfn w hR.agree) fun e w' hh => ?_⟩
  obtain ⟨h1, h3⟩ := hh
  refine ⟨r, h1, M, fp, _, hM, by cases o.dst <;> exact hn, (hR.agree' hL h3).put (z := .v r) (dstOK_lt hd), ?_, h⟩
  refine ⟨?_, hR.agree.trans h3 (fun _ f _ => f.elim)⟩
  have hlk : ∀ id B, lk held id = some B → BlkAt M w id B := hBelow_lk hbel hM hS.1
  refine hBelow_lk hbel (fun i hi => (hM i hi).symm) ?_
  intro id B hB
  have := hlk _ _ hB
  have hlt := this.lt
  have hb : w'.heap[(M id).1]? = w.heap[(M id).1]? := h3.block _ hlt (fun f => f)
  cases B with
  | cells e segs => exact ⟨by rw [hb]; exact this.1, this.2⟩
  | row e sz n vs => obtain ⟨h1, cur, h2, h3⟩ := this; exact ⟨h1, cur, by rw [hb]; exact h2, h3⟩
end

theorem RunOF_sound {C : Ctx} {T : Tab} (hT : tabOK C.P T) (hL : Local C.X) {held : List (Nat × Blk)} {n0 : Nat} {ops : Array Oper} {k : List Item} (hsel : noSel ops = true) (hbel : hBelow n0 held = true) :
    ∀ (f : Nat) (ds : List Bool) (ord : List (Nat × Bool)) (σ : St) {φ : Prop} {ord' : List (Nat × Bool)} {σ' : St},
    RunOF T C.n C.w0 C.S0 held ops f ds ord σ = some (φ, ord', σ') → φ → RunO C held n0 ops ord' k σ' → RunO C held n0 ops ord k σ := by
  intro f
  induction f with
  | zero => intro ds ord σ φ ord' σ' h hp hr; simp only [RunOF] at h; cases h; exact hr
  | succ f ih =>
    intro ds ord σ φ ord' σ' h hp hr
    obtain ⟨t, hh, nx⟩ := σ
    simp only [RunOF] at h
    split at h
    · cases h; exact hr
    · rename_i i q rest
      split at h
      · cases h; exact hr
      · rename_i dst op ty pos aft gd ho
        split at h
        · rename_i d b hw
          split at h
          · obtain ⟨q, hg, rfl⟩ := GotO.with_some h
            exact .decide (wantOf_ask hw) hp.1 (ih _ _ _ hg hp.2 hr)
          · obtain ⟨q, hg, rfl⟩ := GotO.with_some h
            exact .decide (wantOf_ask hw) hp.1 (ih _ _ _ hg hp.2 hr)
          · cases h; exact hr
        · rename_i hw
          split at h
          · exact .no hsel ho hw rfl (ih _ _ _ h hp hr)
          · rename_i d
            split at h
            · rename_i hd; exact .no hsel ho hw hd (ih _ _ _ h hp hr)
            · cases h; exact hr
        · rename_i hw
          split at h
          · rename_i d b hpk
            split at h
            · obtain ⟨q, hg, rfl⟩ := GotO.with_some h
              exact .decide (pickAsk_lk hpk) hp.1 (ih _ _ _ hg hp.2 hr)
            · obtain ⟨q, hg, rfl⟩ := GotO.with_some h
              exact .decide (pickAsk_lk hpk) hp.1 (ih _ _ _ hg hp.2 hr)
            · cases h; exact hr
          · split at h
            · split at h
              · rename_i p z hev
                split at h
                · obtain ⟨q, hg, rfl⟩ := GotO.with_some h
                  exact .look hT hsel hbel ho hw hev hp.1 rfl (ih _ _ _ hg hp.2 hr)
                · split at h
                  · rename_i hd
                    rw [force_eq] at h
                    obtain ⟨q, hg, rfl⟩ := GotO.with_some h
                    exact .look hT hsel hbel ho hw hev hp.1 hd (ih _ _ _ hg hp.2 hr)
                  · cases h; exact hr
              · cases h; exact hr
            · split at h
              · rename_i p z hev
                split at h
                · obtain ⟨q, hg, rfl⟩ := GotO.with_some h
                  exact .pure hT ho hw hev hp.1 rfl (ih _ _ _ hg hp.2 hr)
                · split at h
                  · rename_i hd
                    rw [force_eq] at h
                    obtain ⟨q, hg, rfl⟩ := GotO.with_some h
                    exact .pure hT ho hw hev hp.1 hd (ih _ _ _ hg hp.2 hr)
                  · cases h; exact hr
              · split at h
                · rename_i p z h' new cap hev
                  split at h
                  · split at h
                    · rename_i d hb _
                      split at h
                      · rename_i hd
                        rw [force_eq, forceH_eq] at h
                        obtain ⟨q, hg, rfl⟩ := GotO.with_some h
                        exact .eff hT hL hbel ho hw hev hp.1.1 (fun _ => by assumption) hp.1.2 hd (ih _ _ _ hg hp.2 hr)
                      · cases h; exact hr
                    · cases h; exact hr
                  · split at h
                    · rw [forceH_eq] at h
                      obtain ⟨q, hg, rfl⟩ := GotO.with_some h
                      exact .eff hT hL hbel ho hw hev hp.1.1 (fun e => by cases e) hp.1.2 rfl (ih _ _ _ hg hp.2 hr)
                    · split at h
                      · rename_i hd
                        rw [force_eq, forceH_eq] at h
                        obtain ⟨q, hg, rfl⟩ := GotO.with_some h
                        exact .eff hT hL hbel ho hw hev hp.1.1 (fun e => by cases e) hp.1.2 hd (ih _ _ _ hg hp.2 hr)
                      · cases h; exact hr
                · cases h; exact hr
        · cases h; exact hr

end Go.AM
