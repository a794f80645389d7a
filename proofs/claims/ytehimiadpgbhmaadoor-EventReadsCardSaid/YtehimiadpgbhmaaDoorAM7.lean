/-
  The abstract machine, seventh part: the run that is reckoned: straight code, its branches by a list of decisions. Own work; over any program.
-/
import Derived.Test.YtehimiadpgbhmaaDoorAM6
namespace Go.AM

section steps
variable {P : Program} {b : Frame} {a : Act} {k : List Item} {cs : List Frame} {w w' : World} {ops : Array Oper} {i : Nat} {rest : List Nat} {o : Oper}

theorem step_value {v : Value} (ho : ops[i]? = some o) (hw : Region.wanted o (yielded ops a.tmps) = true) (hnd : ∀ c, o.op ≠ .defer c) (hr : (execOp a.eval o).run P w = .ok (.value v) w') :
    step P (lone (b.atR a (.inRegion ops (i :: rest) :: k)) cs w) = .next (lone (b.atR (a.put o.dst v) (.inRegion ops rest :: k)) cs w') := by
  have hg := stepGR_op (P := P) (b := b) (k := k) (cs := cs) (w := w) (rest := rest) ho hw
  rw [Oper.semAt_eq _ _ _ hnd] at hg
  have hfin : (b.atR a (.inRegion ops (i :: rest) :: k)).finish v = b.atR (a.put o.dst v) (.inRegion ops rest :: k) := by rw [Frame.finish_atR, ho]; rfl
  exact step_lone_go (by rw [hg, ← hfin]; simp [stepG.apply, hr])

theorem step_skipped (ho : ops[i]? = some o) (hw : Region.wanted o (yielded ops a.tmps) = true) (hnd : ∀ c, o.op ≠ .defer c) (hr : (execOp a.eval o).run P w = .ok .skip w') :
    step P (lone (b.atR a (.inRegion ops (i :: rest) :: k)) cs w) = .next (lone (b.atR (a.put o.dst undef) (.inRegion ops rest :: k)) cs w') := by
  have hg := stepGR_op (P := P) (b := b) (k := k) (cs := cs) (w := w) (rest := rest) ho hw
  rw [Oper.semAt_eq _ _ _ hnd] at hg
  have hfin : (b.atR a (.inRegion ops (i :: rest) :: k)).finish undef = b.atR (a.put o.dst undef) (.inRegion ops rest :: k) := by rw [Frame.finish_atR, ho]; rfl
  exact step_lone_go (by rw [hg, ← hfin]; simp [stepG.apply, hr])

theorem step_unwanted (ho : ops[i]? = some o) (hw : Region.wanted o (yielded ops a.tmps) = false) :
    step P (lone (b.atR a (.inRegion ops (i :: rest) :: k)) cs w) = .next (lone (b.atR (a.put o.dst undef) (.inRegion ops rest :: k)) cs w) := by
  have := stepR_op_skip (P := P) (b := b) (a := a) (k := k) (cs := cs) (w := w) (ops := ops) (i := i) (rest := rest) (by simp [ho]; simpa using hw)
  simpa [ho] using this
end steps

/-- Is an operation wanted? 'some none': it is not decided. -/
inductive Want where
  | yes
  | no
  | ask (d : Nat) (b : Bool)

def wantOf (ops : Array Oper) (σ : St) (o : Oper) : Option Want :=
  match o.guard with
  | none => some .yes
  | some (j, want) =>
    match ops[j]? with
    | some oj =>
      match oj.dst with
      | some d =>
        match lk σ.t d with
        | some (.tt b) => match b, want with
          | true, true => some .yes
          | false, false => some .yes
          | _, _ => some .no
        | some (.v (.bool b)) => some (.ask d b)
        | some (.v (.tuple _)) => some .no
        | _ => none
      | none => none
    | none => none

theorem wantOf_yes {C : Ctx} {M : Loc} {σ : St} {a : Act} {w : World} (hR : RelQ C M σ a w) {ops : Array Oper} {o : Oper} (h : wantOf ops σ o = some .yes) :
    Region.wanted o (yielded ops a.tmps) = true := by
  unfold wantOf at h
  unfold Region.wanted
  split at h
  · rename_i hg; simp [hg]
  · rename_i j want hg
    simp only [hg]
    split at h <;> first | (cases h; done) | skip
    rename_i oj hj
    split at h <;> first | (cases h; done) | skip
    rename_i d hd
    split at h <;> first | (cases h; done) | skip
    rename_i b hb
    have := hR.tmps _ _ hb
    split at h <;> first | (cases h; done) | simp [yielded, hj, hd, this, conc]

theorem wantOf_no {C : Ctx} {M : Loc} {σ : St} {a : Act} {w : World} (hR : RelQ C M σ a w) {ops : Array Oper} {o : Oper} (h : wantOf ops σ o = some .no) :
    Region.wanted o (yielded ops a.tmps) = false := by
  unfold wantOf at h
  unfold Region.wanted
  split at h
  · cases h
  · rename_i j want hg
    simp only [hg]
    split at h <;> first | (cases h; done) | skip
    rename_i oj hj
    split at h <;> first | (cases h; done) | skip
    rename_i d hd
    split at h <;> first | (cases h; done) | skip
    · rename_i b hb
      have := hR.tmps _ _ hb
      cases b <;> cases want <;> simp_all [yielded, conc]
    · rename_i l hb
      have := hR.tmps _ _ hb
      simp [yielded, hj, hd, this, conc]

theorem wantOf_ask {ops : Array Oper} {σ : St} {o : Oper} {d : Nat} {b : Bool} (h : wantOf ops σ o = some (.ask d b)) : lk σ.t d = some (.v (.bool b)) := by
  unfold wantOf at h
  split at h
  · cases h
  · split at h <;> first | (cases h; done) | skip
    split at h <;> first | (cases h; done) | skip
    split at h <;> first | (cases h; done) | skip
    · split at h <;> cases h
    · rename_i hb; cases h; exact hb

/-- A bool that has been decided is noted. -/
theorem Rel.decide {C : Ctx} {M : Loc} {fp : Nat → Prop} {σ : St} {a : Act} {w : World} (hR : Rel C M fp σ a w) {d : Nat} {b x : Bool} (hd : lk σ.t d = some (.v (.bool b))) (hb : b = x) :
    Rel C M fp (σ.put (some d) (.tt x)) a w := by
  refine { toRelH := hR.toRelH, size := hR.size, frozen := hR.frozen, tmps := ?_, defers := hR.defers }
  intro i y hy
  simp only [St.put, lk] at hy
  split at hy
  · rename_i he
    have e := Nat.eq_of_beq_eq_true he
    subst e; cases hy
    rw [hR.tmps _ _ hd, hb]; rfl
  · exact hR.tmps i y hy

/-- A choice whose bool is not decided. -/
def pickAsk (σ : St) (o : Oper) : Option (Nat × Bool) :=
  match o.op with
  | .pick (.tmp c) _ _ => match lk σ.t c with | some (.v (.bool b)) => some (c, b) | _ => none
  | _ => none

theorem pickAsk_lk {σ : St} {o : Oper} {d : Nat} {b : Bool} (h : pickAsk σ o = some (d, b)) : lk σ.t d = some (.v (.bool b)) := by
  unfold pickAsk at h
  split at h <;> first | (cases h; done) | skip
  split at h <;> cases h
  rename_i hb; exact hb

abbrev Got := Option (Prop × List Item × St)
def Got.with (p : Prop) : Got → Got
  | some (q, t, s) => some (p ∧ q, t, s)
  | none => none

def okD (n : Lim) (d : Nat) : Bool := match Nat.ble n.lo d with | true => Nat.blt d n.hi | false => false

def dstOK (n : Lim) : Option Nat → Bool
  | none => true
  | some d => okD n d

/-- A value's head laid bare. -/
def force {α : Type} (z : AV) (K : AV → α) : α :=
  match z with
  | .v x => K (.v x)
  | .tt true => K (.tt true)
  | .tt false => K (.tt false)
  | .ptr id off => K (.ptr id off)
  | .elt id off j => K (.elt id off j)
  | .sl id sz off len => K (.sl id sz off len)
  | .fn f caps => K (.fn f caps)
  | .agg l => K (.agg l)
  | .tup l => K (.tup l)

theorem force_eq {α : Type} (z : AV) (K : AV → α) : force z K = K z := by
  unfold force
  cases z <;> try rfl
  rename_i b; cases b <;> rfl

def forceSegs {α : Type} : List Seg → (List Seg → α) → α
  | [], K => K []
  | .one x :: r, K => forceSegs r fun r => force x fun x => K (.one x :: r)
  | .vals n vs :: r, K => forceSegs r fun r => K (.vals n vs :: r)

theorem forceSegs_eq {α : Type} : ∀ (l : List Seg) (K : List Seg → α), forceSegs l K = K l
  | [], _ => rfl
  | .one x :: r, K => by simp only [forceSegs, forceSegs_eq r, force_eq]
  | .vals n vs :: r, K => by simp only [forceSegs, forceSegs_eq r]

def forceH {α : Type} : List (Nat × Blk) → (List (Nat × Blk) → α) → α
  | [], K => K []
  | (i, .cells e s) :: r, K => forceH r fun r => forceSegs s fun s => K ((i, .cells e s) :: r)
  | (i, .row e sz n vs) :: r, K => forceH r fun r => K ((i, .row e sz n vs) :: r)

theorem forceH_eq {α : Type} : ∀ (l : List (Nat × Blk)) (K : List (Nat × Blk) → α), forceH l K = K l
  | [], _ => rfl
  | (i, .cells e s) :: r, K => by simp only [forceH, forceH_eq r, forceSegs_eq]
  | (i, .row e sz n vs) :: r, K => by simp only [forceH, forceH_eq r]

/-- The run, reckoned: straight code; branches by the decisions; it stands at a loop's head, at a call of a Go function, at whatever it does not know. -/
def RunF (T : Tab) (n : Lim) (W0 : World) (S0 : Nat → Prop) : Nat → List Bool → List Item → St → Got
  | 0, _, todo, σ => some (True, todo, σ)
  | f + 1, ds, todo, ⟨t, h, nx⟩ =>
    match todo with
    | .code c :: k =>
      match c with
      | .skip => RunF T n W0 S0 f ds k ⟨t, h, nx⟩
      | .seq x y => RunF T n W0 S0 f ds (.code x :: .code y :: k) ⟨t, h, nx⟩
      | .block id c => RunF T n W0 S0 f ds (.code c :: .inBlock id :: k) ⟨t, h, nx⟩
      | .loop c => some (True, .code c :: .inLoop c :: k, ⟨t, h, nx⟩)
      | .exit id => match exitTo id k with | some k' => RunF T n W0 S0 f ds k' ⟨t, h, nx⟩ | none => some (True, todo, ⟨t, h, nx⟩)
      | .region _ ops false => RunF T n W0 S0 f ds (.inRegion ops (List.range ops.size) :: k) ⟨t, h, nx⟩
      | .cond x p q =>
        match St.ev ⟨t, h, nx⟩ x with
        | some (.tt true) => RunF T n W0 S0 f ds (.code p :: k) ⟨t, h, nx⟩
        | some (.tt false) => RunF T n W0 S0 f ds (.code q :: k) ⟨t, h, nx⟩
        | some (.v (.bool b)) =>
          match ds with
          | true :: ds => (RunF T n W0 S0 f ds (.code p :: k) ⟨t, h, nx⟩).with (b = true)
          | false :: ds => (RunF T n W0 S0 f ds (.code q :: k) ⟨t, h, nx⟩).with (b = false)
          | [] => some (True, todo, ⟨t, h, nx⟩)
        | _ => some (True, todo, ⟨t, h, nx⟩)
      | _ => some (True, todo, ⟨t, h, nx⟩)
    | .inBlock _ :: k => RunF T n W0 S0 f ds k ⟨t, h, nx⟩
    | .inLoop c :: k => some (True, .code c :: .inLoop c :: k, ⟨t, h, nx⟩)
    | .inRegion ops is :: k =>
      match is with
      | [] => RunF T n W0 S0 f ds k ⟨t, h, nx⟩
      | i :: rest =>
        match ops[i]? with
        | none => some (True, todo, ⟨t, h, nx⟩)
        | some ⟨dst, op, ty, pos, aft, gd⟩ =>
          match wantOf ops ⟨t, h, nx⟩ ⟨dst, op, ty, pos, aft, gd⟩ with
          | some (.ask d b) =>
            match ds with
            | true :: ds => (RunF T n W0 S0 f ds todo ⟨(d, .tt true) :: t, h, nx⟩).with (b = true)
            | false :: ds => (RunF T n W0 S0 f ds todo ⟨(d, .tt false) :: t, h, nx⟩).with (b = false)
            | [] => some (True, todo, ⟨t, h, nx⟩)
          | some .no =>
            match dst with
            | none => RunF T n W0 S0 f ds (.inRegion ops rest :: k) ⟨t, h, nx⟩
            | some d => match okD n d with | true => RunF T n W0 S0 f ds (.inRegion ops rest :: k) ⟨(d, .v undef) :: t, h, nx⟩ | false => some (True, todo, ⟨t, h, nx⟩)
          | some .yes =>
            match pickAsk ⟨t, h, nx⟩ ⟨dst, op, ty, pos, aft, gd⟩ with
            | some (d, b) =>
              match ds with
              | true :: ds => (RunF T n W0 S0 f ds todo ⟨(d, .tt true) :: t, h, nx⟩).with (b = true)
              | false :: ds => (RunF T n W0 S0 f ds todo ⟨(d, .tt false) :: t, h, nx⟩).with (b = false)
              | [] => some (True, todo, ⟨t, h, nx⟩)
            | none =>
              match evPure T W0 S0 ⟨t, h, nx⟩ ⟨dst, op, ty, pos, aft, gd⟩ with
              | some (p, z) =>
                match dst with
                | none => (RunF T n W0 S0 f ds (.inRegion ops rest :: k) ⟨t, h, nx⟩).with p
                | some d => match okD n d with | true => force z fun z => (RunF T n W0 S0 f ds (.inRegion ops rest :: k) ⟨(d, z) :: t, h, nx⟩).with p | false => some (True, todo, ⟨t, h, nx⟩)
              | none =>
                match evEff T W0 S0 t h nx ⟨dst, op, ty, pos, aft, gd⟩ with
                | some ⟨p, z, h', new, _⟩ =>
                  match new with
                  | true =>
                    match St.bel ⟨t, h, nx⟩, dst with
                    | true, some d => match okD n d with | true => force z fun z => forceH h' fun h' => (RunF T n W0 S0 f ds (.inRegion ops rest :: k) ⟨(d, z) :: t, h', nx + 1⟩).with p | false => some (True, todo, ⟨t, h, nx⟩)
                    | _, _ => some (True, todo, ⟨t, h, nx⟩)
                  | false =>
                    match dst with
                    | none => forceH h' fun h' => (RunF T n W0 S0 f ds (.inRegion ops rest :: k) ⟨t, h', nx⟩).with p
                    | some d => match okD n d with | true => force z fun z => forceH h' fun h' => (RunF T n W0 S0 f ds (.inRegion ops rest :: k) ⟨(d, z) :: t, h', nx⟩).with p | false => some (True, todo, ⟨t, h, nx⟩)
                | none => some (True, todo, ⟨t, h, nx⟩)
          | none => some (True, todo, ⟨t, h, nx⟩)
    | _ => some (True, todo, ⟨t, h, nx⟩)

theorem evPure_nd {T : Tab} {W0 : World} {S0 : Nat → Prop} {σ : St} {o : Oper} {x : Prop × AV} (h : evPure T W0 S0 σ o = some x) (c : Call) : o.op ≠ .defer c := by
  intro e
  simp [evPure, e] at h

theorem evEff_nd {T : Tab} {W0 : World} {S0 : Nat → Prop} {t0 : List (Nat × AV)} {h0 : List (Nat × Blk)} {n0 : Nat} {o : Oper} {x : Eff} (h : evEff T W0 S0 t0 h0 n0 o = some x) (c : Call) : o.op ≠ .defer c := by
  intro e
  simp [evEff, e] at h

theorem dstOK_lt {n : Lim} {d : Option Nat} (h : dstOK n d = true) : ∀ x, d = some x → n.lo ≤ x ∧ x < n.hi := by
  intro x hx; subst hx
  simp only [dstOK, okD] at h
  split at h
  · rename_i h1; exact ⟨Nat.le_of_ble_eq_true h1, by simpa using h⟩
  · cases h

theorem Got.with_some {p : Prop} {g : Got} {φ : Prop} {t : List Item} {s : St} (h : g.with p = some (φ, t, s)) : ∃ q, g = some (q, t, s) ∧ φ = (p ∧ q) := by
  cases g with
  | none => cases h
  | some x => obtain ⟨q, t', s'⟩ := x; cases h; exact ⟨q, rfl, rfl⟩

theorem RunF_sound {C : Ctx} {T : Tab} (hT : tabOK C.P T) (hL : Local C.X) : ∀ (f : Nat) (ds : List Bool) (todo : List Item) (σ : St) {φ : Prop} {todo' : List Item} {σ' : St},
    RunF T C.n C.w0 C.S0 f ds todo σ = some (φ, todo', σ') → φ → Run C todo' σ' → Run C todo σ := by
  intro f
  induction f with
  | zero => intro ds todo σ φ todo' σ' h hp hr; simp only [RunF] at h; cases h; exact hr
  | succ f ih =>
    intro ds todo σ φ todo' σ' h hp hr
    obtain ⟨t, hh, nx⟩ := σ
    simp only [RunF] at h
    split at h
    · rename_i c k
      split at h
      · exact .skip (ih _ _ _ h hp hr)
      · exact .seq (ih _ _ _ h hp hr)
      · exact .block (ih _ _ _ h hp hr)
      · cases h; exact .loop hr
      · split at h
        · rename_i hx; exact .exit hx (ih _ _ _ h hp hr)
        · cases h; exact hr
      · exact .region (ih _ _ _ h hp hr)
      · split at h
        · rename_i hx; exact .cond (d := true) hx (fun M => rfl) (ih _ _ _ h hp hr)
        · rename_i hx; exact .cond (d := false) hx (fun M => rfl) (ih _ _ _ h hp hr)
        · rename_i b hx
          split at h
          · obtain ⟨q, hg, rfl⟩ := Got.with_some h
            exact .cond (d := true) hx (fun M => by rw [hp.1]; rfl) (ih _ _ _ hg hp.2 hr)
          · obtain ⟨q, hg, rfl⟩ := Got.with_some h
            exact .cond (d := false) hx (fun M => by rw [hp.1]; rfl) (ih _ _ _ hg hp.2 hr)
          · cases h; exact hr
        · cases h; exact hr
      · cases h; exact hr
    · exact .inBlock (ih _ _ _ h hp hr)
    · cases h; exact .inLoop hr
    · rename_i ops is k
      split at h
      · exact .regionEnd (ih _ _ _ h hp hr)
      · rename_i i rest
        split at h
        · cases h; exact hr
        · rename_i dst op ty pos aft gd ho
          split at h
          · rename_i d b hw
            split at h
            · obtain ⟨q, hg, rfl⟩ := Got.with_some h
              have := ih _ _ _ hg hp.2 hr
              exact fun M fp a w hR cs => this M fp a w (hR.decide (wantOf_ask hw) hp.1) cs
            · obtain ⟨q, hg, rfl⟩ := Got.with_some h
              have := ih _ _ _ hg hp.2 hr
              exact fun M fp a w hR cs => this M fp a w (hR.decide (wantOf_ask hw) hp.1) cs
            · cases h; exact hr
          · rename_i hw
            split at h
            · have := ih _ _ _ h hp hr
              intro M fp a w hR cs
              obtain ⟨m, s, z⟩ := this M fp _ w hR cs
              exact ⟨m, .head (step_unwanted ho (wantOf_no hR.q hw)) s, z⟩
            · rename_i d
              split at h
              · rename_i hd
                have hd' : ∀ x, some d = some x → C.n.lo ≤ x ∧ x < C.n.hi := dstOK_lt (n := C.n) (d := some d) hd
                have := ih _ _ _ h hp hr
                intro M fp a w hR cs
                obtain ⟨m, s, z⟩ := this M fp _ w (hR.put (d := some d) (z := .v undef) hd') cs
                exact ⟨m, .head (step_unwanted ho (wantOf_no hR.q hw)) s, z⟩
              · cases h; exact hr
          · rename_i hw
            split at h
            · rename_i d b hpk
              split at h
              · obtain ⟨q, hg, rfl⟩ := Got.with_some h
                have := ih _ _ _ hg hp.2 hr
                exact fun M fp a w hR cs => this M fp a w (hR.decide (pickAsk_lk hpk) hp.1) cs
              · obtain ⟨q, hg, rfl⟩ := Got.with_some h
                have := ih _ _ _ hg hp.2 hr
                exact fun M fp a w hR cs => this M fp a w (hR.decide (pickAsk_lk hpk) hp.1) cs
              · cases h; exact hr
            · split at h
              · rename_i p z hev
                have go : ∀ q, RunF T C.n C.w0 C.S0 f ds (.inRegion ops rest :: k) (St.put ⟨t, hh, nx⟩ dst z) = some (q, todo', σ') → p → q → dstOK C.n dst = true → Run C (.inRegion ops (i :: rest) :: k) ⟨t, hh, nx⟩ := by
                  intro q hg hp1 hp2 hd
                  have := ih _ _ _ hg hp2 hr
                  intro M fp a w hR cs
                  obtain ⟨m, s, e⟩ := this M fp _ w (hR.put (z := z) (dstOK_lt hd)) cs
                  exact ⟨m, .head (step_value ho (wantOf_yes hR.q hw) (evPure_nd hev) (evPure_run hT hR.q hev hp1)) s, e⟩
                split at h
                · obtain ⟨q, hg, rfl⟩ := Got.with_some h
                  exact go q hg hp.1 hp.2 rfl
                · split at h
                  · rename_i hd
                    rw [force_eq] at h
                    obtain ⟨q, hg, rfl⟩ := Got.with_some h
                    exact go q hg hp.1 hp.2 hd
                  · cases h; exact hr
              · split at h
                · rename_i p z h' new cap hev
                  have go : ∀ q, RunF T C.n C.w0 C.S0 f ds (.inRegion ops rest :: k) ((Eff.next ⟨p, z, h', new, cap⟩ ⟨t, hh, nx⟩).put dst z) = some (q, todo', σ') → p → q → dstOK C.n dst = true → (new = true → St.bel ⟨t, hh, nx⟩ = true) → Run C (.inRegion ops (i :: rest) :: k) ⟨t, hh, nx⟩ := by
                    intro q hg hp1 hp2 hd hb
                    have := ih _ _ _ hg hp2 hr
                    intro M fp a w hR cs
                    obtain ⟨M', w', v, -, hrun, hv, hR'⟩ := evEff_run hT hL hR hev hp1 hb
                    obtain ⟨m, s, e⟩ := this M' fp _ w' (hR'.put (z := z) (dstOK_lt hd)) cs
                    rcases hv with rfl | ⟨rfl, hz⟩
                    · exact ⟨m, .head (step_value ho (wantOf_yes hR.q hw) (evEff_nd hev) hrun) s, e⟩
                    · simp only at hz
                      rw [hz] at s
                      exact ⟨m, .head (step_skipped ho (wantOf_yes hR.q hw) (evEff_nd hev) hrun) s, e⟩
                  split at h
                  · split at h
                    · rename_i d hb _
                      split at h
                      · rename_i hd
                        rw [force_eq, forceH_eq] at h
                        obtain ⟨q, hg, rfl⟩ := Got.with_some h
                        exact go q hg hp.1 hp.2 hd (fun _ => by assumption)
                      · cases h; exact hr
                    · cases h; exact hr
                  · split at h
                    · rw [forceH_eq] at h
                      obtain ⟨q, hg, rfl⟩ := Got.with_some h
                      exact go q hg hp.1 hp.2 rfl (fun e => by cases e)
                    · split at h
                      · rename_i hd
                        rw [force_eq, forceH_eq] at h
                        obtain ⟨q, hg, rfl⟩ := Got.with_some h
                        exact go q hg hp.1 hp.2 hd (fun e => by cases e)
                      · cases h; exact hr
                · cases h; exact hr
          · cases h; exact hr
    · cases h; exact hr

end Go.AM
