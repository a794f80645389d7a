/-
  The abstract machine, eleventh part: an order of a drawn region, checked; the run along it. Own work; over any program.
-/
import Derived.Test.YtehimiadpgbhmaaDoorAM10
namespace Go.AM

def has (l : List Nat) (i : Nat) : Bool :=
  match l with
  | [] => false
  | j :: r => match Nat.beq i j with | true => true | false => has r i

theorem has_iff {i : Nat} : ∀ {l : List Nat}, has l i = true ↔ i ∈ l
  | [] => by simp [has]
  | j :: r => by
    simp only [has, List.mem_cons]
    split
    · rename_i h; have := Nat.eq_of_beq_eq_true h; simp [this]
    · rename_i h
      have : i ≠ j := fun e => by subst e; simp at h
      simp [this, has_iff (l := r)]

/-- All that an operation waits for is done. -/
def rdy (done : List Nat) (o : Oper) : Bool := o.after.toList.all fun e => !Region.binds .any e || has done e.on

/-- What is said of the others when one is taken: q, it only looks. -/
def others (ops : Array Oper) (done : List Nat) (i : Nat) (oi : Oper) (q : Bool) : Nat → List Oper → Bool
  | _, [] => true
  | j, o :: r =>
    (Nat.beq j i || has done j || (match q with
      | true => o.after.toList.any (fun e => Region.binds .any e && Nat.beq e.on i) || oi.apart ops o
      | false => !rdy done o)) && others ops done i oi q (j + 1) r

def chk (ops : Array Oper) : List (Nat × Bool) → List Nat → Bool
  | [], done => (List.range ops.size).all fun j => has done j
  | (i, q) :: r, done => match ops[i]? with
    | some o => !has done i && rdy done o && others ops done i o q 0 ops.toList && chk ops r (i :: done)
    | none => false

def isSel : Op → Bool
  | .select .. => true
  | _ => false

def noSel (ops : Array Oper) : Bool := ops.toList.all fun o => !isSel o.op

theorem noSel_spec {ops : Array Oper} (h : noSel ops = true) (j : Nat) (o : Oper) (cs b) (ho : ops[j]? = some o) : o.op ≠ .select cs b := by
  intro e
  have := List.all_eq_true.1 h o (Array.mem_toList_iff.2 (Array.mem_of_getElem? ho))
  simp [e, isSel] at this

/-- Which kinds of operation do more than look. -/
def loudOp : Op → Bool
  | .call c => match c.callee with
    | .builtin .len => false
    | .builtin .min => false
    | .builtin .max => false
    | _ => true
  | .alloc .. | .box .. | .buildSlice .. | .store .. | .insert .. | .ready .. | .waits .. | .makeMap .. | .makeChan .. | .makeSlice .. | .mapUpdate .. | .entryStore .. | .mapEntry .. | .range .. | .next .. => true
  | _ => false

def pickQ (done : List Nat) (loud : List Nat) : Nat → List Oper → Option Nat
  | _, [] => none
  | j, o :: r => if !has done j && rdy done o && !loudOp o.op && !has loud j then some j else pickQ done loud (j + 1) r
def pickL (done : List Nat) : Nat → List Oper → Option Nat
  | _, [] => none
  | j, o :: r => if !has done j && rdy done o then some j else pickL done (j + 1) r

/-- An order: what looks first. -/
def autoGo (ops : Array Oper) (loud : List Nat) : Nat → List Nat → List (Nat × Bool)
  | 0, _ => []
  | n + 1, done => match pickQ done loud 0 ops.toList with
    | some i => (i, true) :: autoGo ops loud n (i :: done)
    | none => match pickL done 0 ops.toList with
      | some i => (i, false) :: autoGo ops loud n (i :: done)
      | none => []
def auto (ops : Array Oper) (loud : List Nat) : List (Nat × Bool) := autoGo ops loud ops.size []

structure LD (ops : Array Oper) (done : List Nat) (listed : Array Bool) : Prop where
  size : listed.size = ops.size
  at' : ∀ j, j < ops.size → listed[j]? = some (has done j)
  lt : ∀ j ∈ done, j < ops.size
  closed : Closed ops listed

theorem closed_start (ops : Array Oper) : Closed ops (Array.replicate ops.size false) := by
  intro j o _ h
  rw [Array.getD_eq_getD_getElem?, Array.getElem?_replicate] at h
  split at h <;> cases h

theorem LD.start (ops : Array Oper) : LD ops [] (Array.replicate ops.size false) :=
  ⟨by simp, fun j hj => by simp [hj, has], fun j h => (by cases h), closed_start ops⟩

theorem LD.unlisted {ops : Array Oper} {done : List Nat} {listed : Array Bool} (h : LD ops done listed) {j : Nat} : listed.getD j true = false ↔ j < ops.size ∧ has done j = false := by
  rw [Array.getD_eq_getD_getElem?]
  rcases Nat.lt_or_ge j ops.size with hj | hj
  · rw [h.at' j hj]; simp [hj]
  · rw [Array.getElem?_eq_none (by rw [h.size]; exact hj)]; simp; omega

theorem LD.listed {ops : Array Oper} {done : List Nat} {listed : Array Bool} (h : LD ops done listed) {j : Nat} : listed.getD j false = true ↔ has done j = true := by
  rw [Array.getD_eq_getD_getElem?]
  rcases Nat.lt_or_ge j ops.size with hj | hj
  · rw [h.at' j hj]; simp
  · rw [Array.getElem?_eq_none (by rw [h.size]; exact hj)]
    simp only [Option.getD_none, Bool.false_eq_true, false_iff]
    intro e; have := h.lt j (has_iff.1 e); omega

theorem LD.set {ops : Array Oper} {done : List Nat} {listed : Array Bool} (h : LD ops done listed) {i : Nat} (hi : i < ops.size) {o : Oper} (ho : ops[i]? = some o) (hr : ∀ e ∈ o.after, Region.binds .any e = true → listed.getD e.on false = true) : LD ops (i :: done) (listed.setIfInBounds i true) := by
  refine ⟨by simp [h.size], fun j hj => ?_, fun j hj => ?_, h.closed.set ho hr⟩
  · rw [Array.getElem?_setIfInBounds]
    simp only [has]
    by_cases e : i = j
    · subst e; simp [h.size, hi]
    · rw [if_neg e, h.at' j hj]
      have : Nat.beq j i = false := by
        cases hb : Nat.beq j i with
        | false => rfl
        | true => exact absurd (Nat.eq_of_beq_eq_true hb).symm e
      simp [this]
  · rcases List.mem_cons.1 hj with rfl | hj
    · exact hi
    · exact h.lt j hj

theorem LD.rdy {ops : Array Oper} {done : List Nat} {listed : Array Bool} (h : LD ops done listed) {o : Oper} : rdy done o = true ↔ ∀ e ∈ o.after, Region.binds .any e = true → listed.getD e.on false = true := by
  simp only [AM.rdy, List.all_eq_true, Array.mem_toList_iff, Bool.or_eq_true, Bool.not_eq_true', h.listed]
  constructor
  · intro k e he hb; exact (k e he).resolve_left (by simp [hb])
  · intro k e he
    cases hb : Region.binds .any e
    · exact .inl rfl
    · exact .inr (k e he hb)

theorem others_spec {ops : Array Oper} {done : List Nat} {i : Nat} {oi : Oper} {q : Bool} : ∀ {l : List Oper} {n : Nat}, others ops done i oi q n l = true → ∀ k o, l[k]? = some o →
    n + k = i ∨ has done (n + k) = true ∨ (match q with
      | true => o.after.toList.any (fun e => Region.binds .any e && Nat.beq e.on i) = true ∨ oi.apart ops o = true
      | false => rdy done o = false)
  | [], n, _, k, o, h => by cases h
  | x :: r, n, h, k, o, hk => by
    simp only [others, Bool.and_eq_true, Bool.or_eq_true] at h
    cases k with
    | zero =>
      simp only [List.getElem?_cons_zero, Option.some.injEq] at hk
      subst hk
      rcases h.1 with (h1 | h1) | h1
      · exact .inl (Nat.eq_of_beq_eq_true h1)
      · exact .inr (.inl h1)
      · refine .inr (.inr ?_)
        cases q with
        | true => simpa using h1
        | false => simpa using h1
    | succ k =>
      have := others_spec h.2 k o (by simpa using hk)
      rw [show n + (k + 1) = n + 1 + k by omega]; exact this

/-- What the world keeps while the region is gone through. -/
def HS (C : Ctx) (M : Loc) (held : List (Nat × Blk)) (w : World) : Prop := (∀ id B, lk held id = some B → BlkAt M w id B) ∧ Agree C.S0 C.w0 w

/-- From each state that is described the rest of the region, in whatever order, and what follows it come to where they must. -/
def RunO (C : Ctx) (held : List (Nat × Blk)) (n0 : Nat) (ops : Array Oper) (ord : List (Nat × Bool)) (k : List Item) (σ : St) : Prop :=
  ∀ M0 M fp a w, (∀ i, i < n0 → M i = M0 i) → n0 ≤ σ.nx → Rel C M fp σ a w → HS C M0 held w → ∀ done listed, LD ops done listed → chk ops ord done = true →
    AnyW C.P ops (HS C M0 held) (fun a' w' => ∀ cs, ∃ m, Steps C.P (lone (C.b.atR a' k) cs w') m ∧ C.Z cs m) ord.length listed a w

theorem RunO.done {C : Ctx} {held : List (Nat × Blk)} {n0 : Nat} {ops : Array Oper} {k : List Item} {σ : St} (h : Run C k σ) : RunO C held n0 ops [] k σ := by
  intro M0 M fp a w hM hn hR hS done listed hl hc
  refine ⟨?_, fun cs => h M fp a w hR cs⟩
  simp only [chk, List.all_eq_true, List.mem_range] at hc
  apply List.eq_nil_iff_forall_not_mem.2
  intro j hj
  obtain ⟨h0, o, ho, _⟩ := mem_ready.1 hj
  have := (hl.unlisted.1 h0)
  rw [hc j this.1] at this
  cases this.2

theorem Rel.drawn {C : Ctx} (hL : Local C.X) {M : Loc} {fp : Nat → Prop} {σ : St} {a : Act} {w : World} (hR : Rel C M fp σ a w) : Rel C M fp σ a { w with drawn := w.drawn + 1 } :=
  hR.agree' hL ⟨rfl, rfl, rfl, Nat.le_refl _, fun _ _ _ => rfl⟩

theorem hBelow_lk {n : Nat} {l : List (Nat × Blk)} (hb : hBelow n l = true) {M M' : Loc} (hM : ∀ i, i < n → M' i = M i) {w : World} (h : ∀ id B, lk l id = some B → BlkAt M w id B) : ∀ id B, lk l id = some B → BlkAt M' w id B :=
  fun id B hB => let ⟨h1, h2⟩ := lkh_below hb hB; (h id B hB).congr hM h1 h2 rfl

theorem Run.draw {C : Ctx} (hL : Local C.X) (hm : C.P.follows .mixedOrders = true) {id : Nat} {ops : Array Oper} {k : List Item} {σ : St} (held : List (Nat × Blk)) (ord : List (Nat × Bool))
    (hlen : Nat.beq ord.length ops.size = true) (hc : chk ops ord [] = true) (hh : inT σ.h held) (h : RunO C held σ.nx ops ord k σ) : Run C (.code (.region id ops true) :: k) σ := by
  intro M fp a w hR cs
  have hR' := hR.drawn hL
  have hA := h M M fp a _ (fun _ _ => rfl) (Nat.le_refl _) hR' ⟨fun id B hB => hR'.heap id B (inT_lk hh id B hB), hR'.agree⟩ [] _ (LD.start ops) hc
  obtain ⟨a', w', hQ, s⟩ := AnyW_sound C.b k cs ord.length (w.tape w.drawn (.order C.b.fn id)) _ a _ hA
  obtain ⟨m, s2, z⟩ := hQ cs
  refine ⟨m, .head stepR_region_draw ?_, z⟩
  have e : Region.schedule (C.P.follows .mixedOrders) ops (w.tape w.drawn (.order C.b.fn id)) = Region.linearise.go .any ops ord.length (w.tape w.drawn (.order C.b.fn id)) (Array.replicate ops.size false) [] := by
    rw [hm, Nat.eq_of_beq_eq_true hlen]; simp [Region.schedule, Region.linearise]
  rw [e]
  exact s.trans s2

/-- One that only looks is taken first. -/
theorem RunO.first {C : Ctx} {held : List (Nat × Blk)} {n0 : Nat} {ops : Array Oper} {i : Nat} {ord : List (Nat × Bool)} {k : List Item} {σ : St} {o : Oper} {z : AV} (hsel : noSel ops = true)
    (ho : ops[i]? = some o) (hd : dstOK C.n o.dst = true)
    (hy : ∀ M0 M fp a w, (∀ i, i < n0 → M i = M0 i) → Rel C M fp σ a w → Still C.P ops (HS C M0 held) o (conc M z) a)
    (h : RunO C held n0 ops ord k (σ.put o.dst z)) : RunO C held n0 ops ((i, true) :: ord) k σ := by
  intro M0 M fp a w hM hn hR hS done listed hl hc
  simp only [chk, ho, Bool.and_eq_true, Bool.not_eq_true'] at hc
  obtain ⟨⟨⟨hc0, hc1⟩, hc2⟩, hc3⟩ := hc
  have hi : i < ops.size := (Array.getElem?_eq_some_iff.1 ho).1
  refine AnyW_first ho (fun j o cs b hj => noSel_spec hsel j o cs b hj) ord.length listed a w hl.closed ?_ ?_ (hy M0 M fp a w hM hR) hS ?_
  · intro j oj hj hji hun hno
    have := others_spec hc2 j oj (by simpa using hj)
    simp only [Nat.zero_add] at this
    rcases this with h1 | h1 | h1
    · exact absurd h1 hji
    · have := (hl.unlisted.1 hun).2; rw [h1] at this; cases this
    · rcases h1 with h1 | h1
      · simp only [List.any_eq_true, Bool.and_eq_true] at h1
        obtain ⟨e, he, hb, hon⟩ := h1
        exact absurd (Nat.eq_of_beq_eq_true hon) (hno e (Array.mem_toList_iff.1 he) hb)
      · exact h1
  · exact mem_ready.2 ⟨hl.unlisted.2 ⟨hi, hc0⟩, o, ho, hl.rdy.1 hc1⟩
  · exact h M0 M fp _ w hM (by cases o.dst <;> exact hn) (hR.put (z := z) (dstOK_lt hd)) hS (i :: done) _ (hl.set hi ho (hl.rdy.1 hc1)) hc3

/-- One that comes up alone. -/
theorem RunO.alone {C : Ctx} {held : List (Nat × Blk)} {n0 : Nat} {ops : Array Oper} {i : Nat} {ord : List (Nat × Bool)} {k : List Item} {σ : St} {o : Oper} (ho : ops[i]? = some o)
    (h : ∀ M0 M fp a w, (∀ i, i < n0 → M i = M0 i) → n0 ≤ σ.nx → Rel C M fp σ a w → HS C M0 held w →
      OpW C.P ops i (fun a' w' => ∃ M' fp' σ', (∀ i, i < n0 → M' i = M0 i) ∧ n0 ≤ σ'.nx ∧ Rel C M' fp' σ' a' w' ∧ HS C M0 held w' ∧ RunO C held n0 ops ord k σ') a w) :
    RunO C held n0 ops ((i, false) :: ord) k σ := by
  intro M0 M fp a w hM hn hR hS done listed hl hc
  simp only [chk, ho, Bool.and_eq_true, Bool.not_eq_true'] at hc
  obtain ⟨⟨⟨hc0, hc1⟩, hc2⟩, hc3⟩ := hc
  have hi : i < ops.size := (Array.getElem?_eq_some_iff.1 ho).1
  have hir : i ∈ Region.ready .any ops listed := mem_ready.2 ⟨hl.unlisted.2 ⟨hi, hc0⟩, o, ho, hl.rdy.1 hc1⟩
  refine ⟨fun e => (by rw [e] at hir; cases hir), fun j hj => ?_⟩
  obtain ⟨hun, oj, hoj, haft⟩ := mem_ready.1 hj
  have hji : j = i := by
    have := others_spec hc2 j oj (by simpa using hoj)
    simp only [Nat.zero_add] at this
    rcases this with h1 | h1 | h1
    · exact h1
    · have := (hl.unlisted.1 hun).2; rw [h1] at this; cases this
    · rw [hl.rdy.2 haft] at h1; cases h1
  subst hji
  refine (h M0 M fp a w hM hn hR hS).mono ?_
  rintro a' w' ⟨M', fp', σ', h1, h2, h3, h4, h5⟩
  exact ⟨.inl h4, h5 M0 M' fp' a' w' h1 h2 h3 h4 (j :: done) _ (hl.set hi ho (hl.rdy.1 hc1)) hc3⟩

/-- The last one, if it waits for all others: it may turn what was held. -/
theorem RunO.aloneLast {C : Ctx} {held : List (Nat × Blk)} {n0 : Nat} {ops : Array Oper} {i : Nat} {k : List Item} {σ : St} {o : Oper} (hla : Nat.beq i (lastOf ops) = true) (ho : ops[i]? = some o)
    (h : ∀ M fp a w, Rel C M fp σ a w → OpW C.P ops i (fun a' w' => ∃ M' fp' σ', Rel C M' fp' σ' a' w' ∧ Run C k σ') a w) :
    RunO C held n0 ops [(i, false)] k σ := by
  intro M0 M fp a w hM hn hR hS done listed hl hc
  simp only [chk, ho, Bool.and_eq_true, Bool.not_eq_true'] at hc
  obtain ⟨⟨⟨hc0, hc1⟩, hc2⟩, hc3⟩ := hc
  have hi : i < ops.size := (Array.getElem?_eq_some_iff.1 ho).1
  have hir : i ∈ Region.ready .any ops listed := mem_ready.2 ⟨hl.unlisted.2 ⟨hi, hc0⟩, o, ho, hl.rdy.1 hc1⟩
  refine ⟨fun e => (by rw [e] at hir; cases hir), fun j hj => ?_⟩
  obtain ⟨hun, oj, hoj, haft⟩ := mem_ready.1 hj
  have hji : j = i := by
    have := others_spec hc2 j oj (by simpa using hoj)
    simp only [Nat.zero_add] at this
    rcases this with h1 | h1 | h1
    · exact h1
    · have := (hl.unlisted.1 hun).2; rw [h1] at this; cases this
    · rw [hl.rdy.2 haft] at h1; cases h1
  subst hji
  refine (h M fp a w hR).mono ?_
  rintro a' w' ⟨M', fp', σ', h3, h5⟩
  refine ⟨.inr (Nat.eq_of_beq_eq_true hla), ?_, fun cs => h5 M' fp' a' w' h3 cs⟩
  simp only [List.all_eq_true, List.mem_range] at hc3
  apply List.eq_nil_iff_forall_not_mem.2
  intro q hq
  obtain ⟨h0, oq, hoq, _⟩ := mem_ready.1 hq
  have := ((hl.set hi ho (hl.rdy.1 hc1)).unlisted.1 h0)
  rw [hc3 q this.1] at this
  cases this.2

end Go.AM
