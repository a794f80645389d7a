/-
  Own work, merged: AM10, AM11, AM12, AM13.
-/
import Derived.AtR
import Derived.Below
import Derived.Laws.AppendOwn
import Derived.Laws.BytesString
import Derived.Laws.Cells
import Derived.Laws.CopyRow
import Derived.Laws.Entries
import Derived.Laws.Rows
import Derived.Laws.Small
import Derived.Maps.AppendAt
import Derived.Orders
import Derived.Test.YtehimiadpgbhmaaDoorQC64BEE
/-
  The abstract machine, tenth part: regions that draw their order. What only looks is taken first, in an order that is given; the rest must come up alone. Own work; over any program.
-/
namespace Go.AM

/-- One operation of a region as it may come up. -/
def OpW (P : Program) (ops : Array Oper) (i : Nat) (K : Act → World → Prop) (a : Act) (w : World) : Prop :=
  match ops[i]? with
  | none => False
  | some o =>
    if Region.wanted o (yielded ops a.tmps) = true then
      (∀ c, o.op ≠ .defer c) ∧
      match (execOp a.eval o).run P w with
      | .ok (.value v) w' => K (a.put o.dst v) w'
      | .ok .skip w' => K (a.put o.dst undef) w'
      | .ok (.enter f args) w' => Calls P f args w' fun e w'' => ∃ v, e = .returned v ∧ K (a.put o.dst v) w''
      | _ => False
    else K (a.put o.dst undef) w

theorem OpW.mono {P : Program} {ops : Array Oper} {i : Nat} {K K' : Act → World → Prop} (hk : ∀ a w, K a w → K' a w) {a : Act} {w : World} (h : OpW P ops i K a w) : OpW P ops i K' a w := by
  unfold OpW at *
  cases ho : ops[i]? with
  | none => simp only [ho] at h
  | some o =>
    simp only [ho] at h ⊢
    by_cases hw : Region.wanted o (yielded ops a.tmps) = true
    · rw [if_pos hw] at h ⊢
      refine ⟨h.1, ?_⟩
      have h := h.2
      generalize (execOp a.eval o).run P w = r at *
      cases r with
      | ok x w' =>
        cases x with
        | value u => exact hk _ _ h
        | skip => exact hk _ _ h
        | enter f args => exact Calls.mono' h fun e w'' ⟨v, h1, h2⟩ => ⟨v, h1, hk _ _ h2⟩
        | _ => exact h.elim
      | halt x w' => exact h.elim
    · rw [if_neg hw] at h ⊢; exact hk _ _ h

/-- Does an operation wait for another one: outright, or by way of a third one? -/
def waitsB (ops : Array Oper) (o : Oper) (j : Nat) : Bool := o.after.toList.any fun e => Region.binds .any e && (Nat.beq e.on j || (match ops[e.on]? with
  | some o' => o'.after.toList.any fun e' => Region.binds .any e' && Nat.beq e'.on j
  | none => false))
/-- Does an operation wait for all others? -/
def waitsAll (ops : Array Oper) (l : Nat) : Bool := match ops[l]? with
  | some o => (List.range ops.size).all fun j => Nat.beq j l || waitsB ops o j
  | none => false
/-- The last operation, if it waits for all others. -/
def lastOf (ops : Array Oper) : Nat := match waitsAll ops (ops.size - 1) with | true => ops.size - 1 | false => ops.size

theorem lastOf_spec {ops : Array Oper} {o : Oper} (h : ops[lastOf ops]? = some o) {j : Nat} (hj : j < ops.size) (hne : j ≠ lastOf ops) : waitsB ops o j = true := by
  unfold lastOf at *
  split at h
  · rename_i hw
    unfold waitsAll at hw
    rw [h] at hw
    have := List.all_eq_true.1 hw j (List.mem_range.2 hj)
    simp only [Bool.or_eq_true] at this
    rcases this with h1 | h1
    · have h2 : (match waitsAll ops (ops.size - 1) with | true => ops.size - 1 | false => ops.size) = ops.size - 1 := by
        split
        · rfl
        · rename_i hx; unfold waitsAll at hx; rw [h] at hx; rw [hw] at hx; cases hx
      rw [h2] at hne
      exact absurd (Nat.eq_of_beq_eq_true h1) hne
    · exact h1
  · simp at h

/-- What is listed has all listed that it waits for. -/
def Closed (ops : Array Oper) (listed : Array Bool) : Prop := ∀ j o, ops[j]? = some o → listed.getD j false = true → ∀ e ∈ o.after, Region.binds .any e = true → listed.getD e.on false = true

theorem getD_set_mono {listed : Array Bool} {j k : Nat} (h : listed.getD k false = true) : (listed.setIfInBounds j true).getD k false = true := by
  rw [Array.getD_eq_getD_getElem?] at *
  rw [Array.getElem?_setIfInBounds]
  split
  · split
    · rfl
    · rename_i h1 h2; subst h1; rw [Array.getElem?_eq_none (by omega)] at h; cases h
  · exact h

theorem Closed.set {ops : Array Oper} {listed : Array Bool} (h : Closed ops listed) {j : Nat} {oj : Oper} (hj : ops[j]? = some oj) (hr : ∀ e ∈ oj.after, Region.binds .any e = true → listed.getD e.on false = true) : Closed ops (listed.setIfInBounds j true) := by
  intro k ok hk hl e he hb
  by_cases hjk : k = j
  · subst hjk
    rw [hk] at hj; cases hj
    exact getD_set_mono (hr e he hb)
  · have : listed.getD k false = true := by
      rw [Array.getD_eq_getD_getElem?, Array.getElem?_setIfInBounds, if_neg (Ne.symm hjk)] at hl
      rw [Array.getD_eq_getD_getElem?]; exact hl
    exact getD_set_mono (h k ok hk this e he hb)

theorem waits_listed {ops : Array Oper} {listed : Array Bool} (hc : Closed ops listed) {o : Oper} {i : Nat} (hr : ∀ e ∈ o.after, Region.binds .any e = true → listed.getD e.on false = true) (hw : waitsB ops o i = true) : listed.getD i false = true := by
  simp only [waitsB, List.any_eq_true, Bool.and_eq_true, Bool.or_eq_true] at hw
  obtain ⟨e, he, hb, h1⟩ := hw
  have hl := hr e (Array.mem_toList_iff.1 he) hb
  rcases h1 with h1 | h1
  · rw [← Nat.eq_of_beq_eq_true h1]; exact hl
  · split at h1
    · rename_i o' ho'
      simp only [List.any_eq_true, Bool.and_eq_true] at h1
      obtain ⟨e', he', hb', h2⟩ := h1
      rw [← Nat.eq_of_beq_eq_true h2]
      exact hc _ o' ho' hl e' (Array.mem_toList_iff.1 he') hb'
    · cases h1

def AnyW (P : Program) (ops : Array Oper) (S : World → Prop) (Q : Act → World → Prop) : Nat → Array Bool → Act → World → Prop
  | 0, listed, a, w => Region.ready .any ops listed = [] ∧ Q a w
  | fuel + 1, listed, a, w =>
    (Region.ready .any ops listed = [] → Q a w) ∧
    ∀ i ∈ Region.ready .any ops listed, OpW P ops i (fun a' w' => (S w' ∨ i = lastOf ops) ∧ AnyW P ops S Q fuel (listed.setIfInBounds i true) a' w') a w

theorem OpW.steps {P : Program} {ops : Array Oper} {i : Nat} {K : Act → World → Prop} {a : Act} {w : World} (h : OpW P ops i K a w) (b : Frame) (rest : List Nat) (k : List Item) (cs : List Frame) :
    ∃ a' w', K a' w' ∧ Steps P (lone (b.atR a (.inRegion ops (i :: rest) :: k)) cs w) (lone (b.atR a' (.inRegion ops rest :: k)) cs w') := by
  unfold OpW at h
  split at h
  · exact h.elim
  · rename_i o ho
    split at h
    · rename_i hw
      obtain ⟨hnd, h⟩ := h
      split at h
      · rename_i v w' hr; exact ⟨_, _, h, .one (step_value ho hw hnd hr)⟩
      · rename_i w' hr; exact ⟨_, _, h, .one (step_skipped ho hw hnd hr)⟩
      · rename_i f args w' hr
        obtain ⟨e, w'', fr, ⟨v, rfl, hK⟩, hs, _, hl⟩ := h (b.atR a (.inRegion ops (i :: rest) :: k) :: cs)
        refine ⟨_, _, hK, .head (step_call ho hw hnd hr) (Steps.trans hs (.one ?_))⟩
        have hfin : (b.atR a (.inRegion ops (i :: rest) :: k)).finish v = b.atR (a.put o.dst v) (.inRegion ops rest :: k) := by rw [Frame.finish_atR, ho]; rfl
        rw [← hfin]; exact step_leave_returned hl
      · exact h.elim
    · rename_i hw
      exact ⟨_, _, h, .one (step_unwanted ho (by simpa using hw))⟩

theorem AnyW_sound {P : Program} {ops : Array Oper} {S : World → Prop} {Q : Act → World → Prop} (b : Frame) (k : List Item) (cs : List Frame) : ∀ (fuel t : Nat) (listed : Array Bool) (a : Act) (w : World), AnyW P ops S Q fuel listed a w →
    ∃ a' w', Q a' w' ∧ Steps P (lone (b.atR a (.inRegion ops (Region.linearise.go .any ops fuel t listed []) :: k)) cs w) (lone (b.atR a' k) cs w') := by
  intro fuel
  induction fuel with
  | zero => intro t listed a w h; exact ⟨a, w, h.2, .one (by simp only [Region.linearise.go, List.reverse_nil]; exact stepR_region_end)⟩
  | succ fuel ih =>
    intro t listed a w h
    obtain ⟨h0, h1⟩ := h
    simp only [Region.linearise.go]
    change ∃ a' w', Q a' w' ∧ Steps P (lone (b.atR a (.inRegion ops (match (Region.ready .any ops listed)[t % (Region.ready .any ops listed).length]? with
      | some i => Region.linearise.go .any ops fuel (t / (Region.ready .any ops listed).length) (listed.setIfInBounds i true) [i]
      | none => [].reverse) :: k)) cs w) (lone (b.atR a' k) cs w')
    cases hi : (Region.ready .any ops listed)[t % (Region.ready .any ops listed).length]? with
    | none =>
      have hnil : Region.ready .any ops listed = [] := by
        cases hr : Region.ready .any ops listed with
        | nil => rfl
        | cons x xs =>
          rw [hr] at hi
          have hlt : t % (x :: xs).length < (x :: xs).length := Nat.mod_lt _ (by simp)
          simp at hi
          simp at hlt
          omega
      exact ⟨a, w, h0 hnil, .one (by simp only [List.reverse_nil]; exact stepR_region_end)⟩
    | some i =>
      simp only []
      rw [linearise_go_acc, List.reverse_singleton, List.singleton_append]
      obtain ⟨a1, w1, hK, s1⟩ := (h1 i (List.mem_of_getElem? hi)).steps b (Region.linearise.go .any ops fuel (t / (Region.ready .any ops listed).length) (listed.setIfInBounds i true) []) k cs
      obtain ⟨a2, w2, hQ, s2⟩ := ih (t / (Region.ready .any ops listed).length) _ a1 w1 hK.2
      exact ⟨a2, w2, hQ, s1.trans s2⟩

/-- In every world that meets S the operation leaves v and does nothing else. -/
def Still (P : Program) (ops : Array Oper) (S : World → Prop) (o : Oper) (v : Value) (a : Act) : Prop :=
  (Region.wanted o (yielded ops a.tmps) = true ∧ (∀ c, o.op ≠ .defer c) ∧ ∀ w, S w → (execOp a.eval o).run P w = .ok (.value v) w) ∨
  (Region.wanted o (yielded ops a.tmps) = false ∧ v = undef)

theorem Still.op {P : Program} {ops : Array Oper} {S : World → Prop} {i : Nat} {o : Oper} {v : Value} {a : Act} (hi : ops[i]? = some o) (hy : Still P ops S o v a) {K : Act → World → Prop} {w : World} (hS : S w)
    (h : K (a.put o.dst v) w) : OpW P ops i K a w := by
  unfold OpW
  simp only [hi]
  rcases hy with ⟨hw, hnd, hv⟩ | ⟨hw, rfl⟩
  · simp only [hw, if_true, hv w hS]; exact ⟨hnd, h⟩
  · simp only [hw, Bool.false_eq_true, if_false]; exact h

theorem Still.same {P : Program} {ops : Array Oper} {S : World → Prop} {o : Oper} {v : Value} {a a' : Act} (hy : Still P ops S o v a) (he : execOp a'.eval o = execOp a.eval o)
    (hw : Region.wanted o (yielded ops a'.tmps) = Region.wanted o (yielded ops a.tmps)) : Still P ops S o v a' := by
  unfold Still at *; rw [he, hw]; exact hy

theorem OpW.put {P : Program} {ops : Array Oper} {S : World → Prop} {j : Nat} {oi oj : Oper} {v : Value} (hj : ops[j]? = some oj) (hap : oi.apart ops oj = true)
    (hsi : ∀ cs b, oi.op ≠ .select cs b) (hsj : ∀ cs b, oj.op ≠ .select cs b) {K : Act → World → Prop} {a : Act} {w : World}
    (hy : Still P ops S oi v a) (h : OpW P ops j K (a.put oi.dst v) w) :
    OpW P ops j (fun a' w' => Still P ops S oi v a' ∧ K (a'.put oi.dst v) w') a w := by
  obtain ⟨h1, h2, h3⟩ := Oper.apart_spec hap
  have keep : ∀ u, Still P ops S oi v (a.put oj.dst u) := fun u => hy.same (execOp_put oi hsi a oj.dst u h3) (wanted_put oi a oj.dst u h3)
  unfold OpW at *
  simp only [hj] at *
  rw [wanted_put oj a oi.dst v h1] at h
  split
  · rename_i hw
    simp only [hw, if_true] at h
    refine ⟨h.1, ?_⟩
    have h := h.2
    rw [execOp_put oj hsj a oi.dst v h1] at h
    generalize (execOp a.eval oj).run P w = r at *
    cases r with
    | ok x w' =>
      cases x <;> simp only at h ⊢
      case value u => exact ⟨keep u, by rw [← Act.put_comm a v u h2]; exact h⟩
      case skip => exact ⟨keep _, by rw [← Act.put_comm a v undef h2]; exact h⟩
      case enter f args =>
        exact Calls.mono' h fun e w'' ⟨u, h4, h5⟩ => ⟨u, h4, keep u, by rw [← Act.put_comm a v u h2]; exact h5⟩
    | halt x w' => exact h.elim
  · rename_i hw
    simp only [hw] at h
    exact ⟨keep _, by rw [← Act.put_comm a v undef h2]; simpa using h⟩

theorem AnyW_first {P : Program} {ops : Array Oper} {S : World → Prop} {Q : Act → World → Prop} {i : Nat} {oi : Oper} {v : Value} (hi : ops[i]? = some oi) (hsel : ∀ (j : Nat) (o : Oper) cs b, ops[j]? = some o → o.op ≠ .select cs b) :
    ∀ (fuel : Nat) (listed : Array Bool) (a : Act) (w : World), Closed ops listed →
      (∀ j oj, ops[j]? = some oj → j ≠ i → listed.getD j true = false → (∀ e ∈ oj.after, Region.binds .any e = true → e.on ≠ i) → oi.apart ops oj = true) →
      i ∈ Region.ready .any ops listed → Still P ops S oi v a → S w →
      AnyW P ops S Q fuel (listed.setIfInBounds i true) (a.put oi.dst v) w → AnyW P ops S Q (fuel + 1) listed a w := by
  intro fuel
  induction fuel with
  | zero =>
    intro listed a w _ _ hr hy hS H
    refine ⟨fun h => (by rw [h] at hr; cases hr), fun j hj => ?_⟩
    by_cases hji : j = i
    · subst hji; exact hy.op hi hS ⟨.inl hS, H⟩
    · have := ready_mono hj hji
      rw [H.1] at this
      cases this
  | succ fuel ih =>
    intro listed a w hcl hfree hr hy hS H
    refine ⟨fun h => (by rw [h] at hr; cases hr), fun j hj => ?_⟩
    by_cases hji : j = i
    · subst hji; exact hy.op hi hS ⟨.inl hS, H⟩
    · have h1 := H.2 j (ready_mono hj hji)
      obtain ⟨hjun, oj, hoj, hall⟩ := mem_ready.1 hj
      have hnot : ∀ e ∈ oj.after, Region.binds .any e = true → e.on ≠ i := fun e he hb heq => by
        have h1 := hall e he hb
        have h0 := (mem_ready.1 hr).1
        rw [heq] at h1
        rcases Nat.lt_or_ge i listed.size with h' | h'
        · simp [h'] at h0 h1; rw [h0] at h1; cases h1
        · simp [Array.getElem?_eq_none h'] at h1
      have h2 := h1.put hoj (hfree j oj hoj hji hjun hnot) (fun cs b => hsel i oi cs b hi) (fun cs b => hsel j oj cs b hoj) hy
      have hfree' : ∀ k ok, ops[k]? = some ok → k ≠ i → (listed.setIfInBounds j true).getD k true = false →
          (∀ e ∈ ok.after, Region.binds .any e = true → e.on ≠ i) → oi.apart ops ok = true := fun k ok hk hki hun hno => by
        refine hfree k ok hk hki ?_ hno
        by_cases hjk : j = k
        · subst hjk; exact hjun
        · rw [getD_set_ne true hjk] at hun; exact hun
      have hnl : j ≠ lastOf ops := by
        intro e
        have h1 := waits_listed hcl hall (lastOf_spec (e ▸ hoj) (j := i) (Array.getElem?_eq_some_iff.1 hi).1 (fun e' => hji (e.trans e'.symm)))
        have h0 := (mem_ready.1 hr).1
        rcases Nat.lt_or_ge i listed.size with h' | h'
        · simp [h'] at h0 h1; rw [h0] at h1; cases h1
        · simp [Array.getElem?_eq_none h'] at h1
      refine h2.mono (fun a' w' h3 => ?_)
      have hS' : S w' := h3.2.1.resolve_right hnl
      refine ⟨.inl hS', ih (listed.setIfInBounds j true) a' w' (hcl.set hoj hall) hfree' (ready_mono hr (Ne.symm hji)) h3.1 hS' ?_⟩
      rw [Array.setIfInBounds_comm _ _ hji]
      exact h3.2.2

end Go.AM

/-
  The abstract machine, eleventh part: an order of a drawn region, checked; the run along it. Own work; over any program.
-/
namespace Go.AM

def has (l : List Nat) (i : Nat) : Bool :=
  match l with
  | [] => false
  | j :: r => match Nat.beq i j with | true => true | false => has r i

theorem has_iff {i : Nat} : ∀ {l : List Nat}, has l i = true ↔ i ∈ l
  | [] => by simp [has]
  | j :: r => by
    simp only [has, List.mem_cons]
    split
    · rename_i h; have := Nat.eq_of_beq_eq_true h; simp [this]
    · rename_i h
      have : i ≠ j := fun e => by subst e; simp at h
      simp [this, has_iff (l := r)]

/-- All that an operation waits for is done. -/
def rdy (done : List Nat) (o : Oper) : Bool := o.after.toList.all fun e => !Region.binds .any e || has done e.on

/-- What is said of the others when one is taken: q, it only looks. -/
def others (ops : Array Oper) (done : List Nat) (i : Nat) (oi : Oper) (q : Bool) : Nat → List Oper → Bool
  | _, [] => true
  | j, o :: r =>
    (Nat.beq j i || has done j || (match q with
      | true => o.after.toList.any (fun e => Region.binds .any e && Nat.beq e.on i) || oi.apart ops o
      | false => !rdy done o)) && others ops done i oi q (j + 1) r

def chk (ops : Array Oper) : List (Nat × Bool) → List Nat → Bool
  | [], done => (List.range ops.size).all fun j => has done j
  | (i, q) :: r, done => match ops[i]? with
    | some o => !has done i && rdy done o && others ops done i o q 0 ops.toList && chk ops r (i :: done)
    | none => false

def isSel : Op → Bool
  | .select .. => true
  | _ => false

def noSel (ops : Array Oper) : Bool := ops.toList.all fun o => !isSel o.op

theorem noSel_spec {ops : Array Oper} (h : noSel ops = true) (j : Nat) (o : Oper) (cs b) (ho : ops[j]? = some o) : o.op ≠ .select cs b := by
  intro e
  have := List.all_eq_true.1 h o (Array.mem_toList_iff.2 (Array.mem_of_getElem? ho))
  simp [e, isSel] at this

/-- Which kinds of operation do more than look. -/
def loudOp : Op → Bool
  | .call c => match c.callee with
    | .builtin .len => false
    | .builtin .min => false
    | .builtin .max => false
    | _ => true
  | .alloc .. | .box .. | .buildSlice .. | .store .. | .insert .. | .ready .. | .waits .. | .makeMap .. | .makeChan .. | .makeSlice .. | .mapUpdate .. | .entryStore .. | .mapEntry .. | .range .. | .next .. => true
  | _ => false

def pickQ (done : List Nat) (loud : List Nat) : Nat → List Oper → Option Nat
  | _, [] => none
  | j, o :: r => if !has done j && rdy done o && !loudOp o.op && !has loud j then some j else pickQ done loud (j + 1) r
def pickL (done : List Nat) : Nat → List Oper → Option Nat
  | _, [] => none
  | j, o :: r => if !has done j && rdy done o then some j else pickL done (j + 1) r

/-- An order: what looks first. -/
def autoGo (ops : Array Oper) (loud : List Nat) : Nat → List Nat → List (Nat × Bool)
  | 0, _ => []
  | n + 1, done => match pickQ done loud 0 ops.toList with
    | some i => (i, true) :: autoGo ops loud n (i :: done)
    | none => match pickL done 0 ops.toList with
      | some i => (i, false) :: autoGo ops loud n (i :: done)
      | none => []
def auto (ops : Array Oper) (loud : List Nat) : List (Nat × Bool) := autoGo ops loud ops.size []

structure LD (ops : Array Oper) (done : List Nat) (listed : Array Bool) : Prop where
  size : listed.size = ops.size
  at' : ∀ j, j < ops.size → listed[j]? = some (has done j)
  lt : ∀ j ∈ done, j < ops.size
  closed : Closed ops listed

theorem closed_start (ops : Array Oper) : Closed ops (Array.replicate ops.size false) := by
  intro j o _ h
  rw [Array.getD_eq_getD_getElem?, Array.getElem?_replicate] at h
  split at h <;> cases h

theorem LD.start (ops : Array Oper) : LD ops [] (Array.replicate ops.size false) :=
  ⟨by simp, fun j hj => by simp [hj, has], fun j h => (by cases h), closed_start ops⟩

theorem LD.unlisted {ops : Array Oper} {done : List Nat} {listed : Array Bool} (h : LD ops done listed) {j : Nat} : listed.getD j true = false ↔ j < ops.size ∧ has done j = false := by
  rw [Array.getD_eq_getD_getElem?]
  rcases Nat.lt_or_ge j ops.size with hj | hj
  · rw [h.at' j hj]; simp [hj]
  · rw [Array.getElem?_eq_none (by rw [h.size]; exact hj)]; simp; omega

theorem LD.listed {ops : Array Oper} {done : List Nat} {listed : Array Bool} (h : LD ops done listed) {j : Nat} : listed.getD j false = true ↔ has done j = true := by
  rw [Array.getD_eq_getD_getElem?]
  rcases Nat.lt_or_ge j ops.size with hj | hj
  · rw [h.at' j hj]; simp
  · rw [Array.getElem?_eq_none (by rw [h.size]; exact hj)]
    simp only [Option.getD_none, Bool.false_eq_true, false_iff]
    intro e; have := h.lt j (has_iff.1 e); omega

theorem LD.set {ops : Array Oper} {done : List Nat} {listed : Array Bool} (h : LD ops done listed) {i : Nat} (hi : i < ops.size) {o : Oper} (ho : ops[i]? = some o) (hr : ∀ e ∈ o.after, Region.binds .any e = true → listed.getD e.on false = true) : LD ops (i :: done) (listed.setIfInBounds i true) := by
  refine ⟨by simp [h.size], fun j hj => ?_, fun j hj => ?_, h.closed.set ho hr⟩
  · rw [Array.getElem?_setIfInBounds]
    simp only [has]
    by_cases e : i = j
    · subst e; simp [h.size, hi]
    · rw [if_neg e, h.at' j hj]
      have : Nat.beq j i = false := by
        cases hb : Nat.beq j i with
        | false => rfl
        | true => exact absurd (Nat.eq_of_beq_eq_true hb).symm e
      simp [this]
  · rcases List.mem_cons.1 hj with rfl | hj
    · exact hi
    · exact h.lt j hj

theorem LD.rdy {ops : Array Oper} {done : List Nat} {listed : Array Bool} (h : LD ops done listed) {o : Oper} : rdy done o = true ↔ ∀ e ∈ o.after, Region.binds .any e = true → listed.getD e.on false = true := by
  simp only [AM.rdy, List.all_eq_true, Array.mem_toList_iff, Bool.or_eq_true, Bool.not_eq_true', h.listed]
  constructor
  · intro k e he hb; exact (k e he).resolve_left (by simp [hb])
  · intro k e he
    cases hb : Region.binds .any e
    · exact .inl rfl
    · exact .inr (k e he hb)

theorem others_spec {ops : Array Oper} {done : List Nat} {i : Nat} {oi : Oper} {q : Bool} : ∀ {l : List Oper} {n : Nat}, others ops done i oi q n l = true → ∀ k o, l[k]? = some o →
    n + k = i ∨ has done (n + k) = true ∨ (match q with
      | true => o.after.toList.any (fun e => Region.binds .any e && Nat.beq e.on i) = true ∨ oi.apart ops o = true
      | false => rdy done o = false)
  | [], n, _, k, o, h => by cases h
  | x :: r, n, h, k, o, hk => by
    simp only [others, Bool.and_eq_true, Bool.or_eq_true] at h
    cases k with
    | zero =>
      simp only [List.getElem?_cons_zero, Option.some.injEq] at hk
      subst hk
      rcases h.1 with (h1 | h1) | h1
      · exact .inl (Nat.eq_of_beq_eq_true h1)
      · exact .inr (.inl h1)
      · refine .inr (.inr ?_)
        cases q with
        | true => simpa using h1
        | false => simpa using h1
    | succ k =>
      have := others_spec h.2 k o (by simpa using hk)
      rw [show n + (k + 1) = n + 1 + k by omega]; exact this

/-- What the world keeps while the region is gone through. -/
def HS (C : Ctx) (M : Loc) (held : List (Nat × Blk)) (w : World) : Prop := (∀ id B, lk held id = some B → BlkAt M w id B) ∧ Agree C.S0 C.w0 w

/-- From each state that is described the rest of the region, in whatever order, and what follows it come to where they must. -/
def RunO (C : Ctx) (held : List (Nat × Blk)) (n0 : Nat) (ops : Array Oper) (ord : List (Nat × Bool)) (k : List Item) (σ : St) : Prop :=
  ∀ M0 M fp a w, (∀ i, i < n0 → M i = M0 i) → n0 ≤ σ.nx → Rel C M fp σ a w → HS C M0 held w → ∀ done listed, LD ops done listed → chk ops ord done = true →
    AnyW C.P ops (HS C M0 held) (fun a' w' => ∀ cs, ∃ m, Steps C.P (lone (C.b.atR a' k) cs w') m ∧ C.Z cs m) ord.length listed a w

theorem RunO.done {C : Ctx} {held : List (Nat × Blk)} {n0 : Nat} {ops : Array Oper} {k : List Item} {σ : St} (h : Run C k σ) : RunO C held n0 ops [] k σ := by
  intro M0 M fp a w hM hn hR hS done listed hl hc
  refine ⟨?_, fun cs => h M fp a w hR cs⟩
  simp only [chk, List.all_eq_true, List.mem_range] at hc
  apply List.eq_nil_iff_forall_not_mem.2
  intro j hj
  obtain ⟨h0, o, ho, _⟩ := mem_ready.1 hj
  have := (hl.unlisted.1 h0)
  rw [hc j this.1] at this
  cases this.2

theorem Rel.drawn {C : Ctx} (hL : Local C.X) {M : Loc} {fp : Nat → Prop} {σ : St} {a : Act} {w : World} (hR : Rel C M fp σ a w) : Rel C M fp σ a { w with drawn := w.drawn + 1 } :=
  hR.agree' hL ⟨rfl, rfl, rfl, Nat.le_refl _, fun _ _ _ => rfl⟩

theorem hBelow_lk {n : Nat} {l : List (Nat × Blk)} (hb : hBelow n l = true) {M M' : Loc} (hM : ∀ i, i < n → M' i = M i) {w : World} (h : ∀ id B, lk l id = some B → BlkAt M w id B) : ∀ id B, lk l id = some B → BlkAt M' w id B :=
  fun id B hB => let ⟨h1, h2⟩ := lkh_below hb hB; (h id B hB).congr hM h1 h2 rfl

theorem Run.draw {C : Ctx} (hL : Local C.X) (hm : C.P.follows .mixedOrders = true) {id : Nat} {ops : Array Oper} {k : List Item} {σ : St} (held : List (Nat × Blk)) (ord : List (Nat × Bool))
    (hlen : Nat.beq ord.length ops.size = true) (hc : chk ops ord [] = true) (hh : inT σ.h held) (h : RunO C held σ.nx ops ord k σ) : Run C (.code (.region id ops true) :: k) σ := by
  intro M fp a w hR cs
  have hR' := hR.drawn hL
  have hA := h M M fp a _ (fun _ _ => rfl) (Nat.le_refl _) hR' ⟨fun id B hB => hR'.heap id B (inT_lk hh id B hB), hR'.agree⟩ [] _ (LD.start ops) hc
  obtain ⟨a', w', hQ, s⟩ := AnyW_sound C.b k cs ord.length (w.tape w.drawn (.order C.b.fn id)) _ a _ hA
  obtain ⟨m, s2, z⟩ := hQ cs
  refine ⟨m, .head stepR_region_draw ?_, z⟩
  have e : Region.schedule (C.P.follows .mixedOrders) ops (w.tape w.drawn (.order C.b.fn id)) = Region.linearise.go .any ops ord.length (w.tape w.drawn (.order C.b.fn id)) (Array.replicate ops.size false) [] := by
    rw [hm, Nat.eq_of_beq_eq_true hlen]; simp [Region.schedule, Region.linearise]
  rw [e]
  exact s.trans s2

/-- One that only looks is taken first. -/
theorem RunO.first {C : Ctx} {held : List (Nat × Blk)} {n0 : Nat} {ops : Array Oper} {i : Nat} {ord : List (Nat × Bool)} {k : List Item} {σ : St} {o : Oper} {z : AV} (hsel : noSel ops = true)
    (ho : ops[i]? = some o) (hd : dstOK C.n o.dst = true)
    (hy : ∀ M0 M fp a w, (∀ i, i < n0 → M i = M0 i) → Rel C M fp σ a w → Still C.P ops (HS C M0 held) o (conc M z) a)
    (h : RunO C held n0 ops ord k (σ.put o.dst z)) : RunO C held n0 ops ((i, true) :: ord) k σ := by
  intro M0 M fp a w hM hn hR hS done listed hl hc
  simp only [chk, ho, Bool.and_eq_true, Bool.not_eq_true'] at hc
  obtain ⟨⟨⟨hc0, hc1⟩, hc2⟩, hc3⟩ := hc
  have hi : i < ops.size := (Array.getElem?_eq_some_iff.1 ho).1
  refine AnyW_first ho (fun j o cs b hj => noSel_spec hsel j o cs b hj) ord.length listed a w hl.closed ?_ ?_ (hy M0 M fp a w hM hR) hS ?_
  · intro j oj hj hji hun hno
    have := others_spec hc2 j oj (by simpa using hj)
    simp only [Nat.zero_add] at this
    rcases this with h1 | h1 | h1
    · exact absurd h1 hji
    · have := (hl.unlisted.1 hun).2; rw [h1] at this; cases this
    · rcases h1 with h1 | h1
      · simp only [List.any_eq_true, Bool.and_eq_true] at h1
        obtain ⟨e, he, hb, hon⟩ := h1
        exact absurd (Nat.eq_of_beq_eq_true hon) (hno e (Array.mem_toList_iff.1 he) hb)
      · exact h1
  · exact mem_ready.2 ⟨hl.unlisted.2 ⟨hi, hc0⟩, o, ho, hl.rdy.1 hc1⟩
  · exact h M0 M fp _ w hM (by cases o.dst <;> exact hn) (hR.put (z := z) (dstOK_lt hd)) hS (i :: done) _ (hl.set hi ho (hl.rdy.1 hc1)) hc3

/-- One that comes up alone. -/
theorem RunO.alone {C : Ctx} {held : List (Nat × Blk)} {n0 : Nat} {ops : Array Oper} {i : Nat} {ord : List (Nat × Bool)} {k : List Item} {σ : St} {o : Oper} (ho : ops[i]? = some o)
    (h : ∀ M0 M fp a w, (∀ i, i < n0 → M i = M0 i) → n0 ≤ σ.nx → Rel C M fp σ a w → HS C M0 held w →
      OpW C.P ops i (fun a' w' => ∃ M' fp' σ', (∀ i, i < n0 → M' i = M0 i) ∧ n0 ≤ σ'.nx ∧ Rel C M' fp' σ' a' w' ∧ HS C M0 held w' ∧ RunO C held n0 ops ord k σ') a w) :
    RunO C held n0 ops ((i, false) :: ord) k σ := by
  intro M0 M fp a w hM hn hR hS done listed hl hc
  simp only [chk, ho, Bool.and_eq_true, Bool.not_eq_true'] at hc
  obtain ⟨⟨⟨hc0, hc1⟩, hc2⟩, hc3⟩ := hc
  have hi : i < ops.size := (Array.getElem?_eq_some_iff.1 ho).1
  have hir : i ∈ Region.ready .any ops listed := mem_ready.2 ⟨hl.unlisted.2 ⟨hi, hc0⟩, o, ho, hl.rdy.1 hc1⟩
  refine ⟨fun e => (by rw [e] at hir; cases hir), fun j hj => ?_⟩
  obtain ⟨hun, oj, hoj, haft⟩ := mem_ready.1 hj
  have hji : j = i := by
    have := others_spec hc2 j oj (by simpa using hoj)
    simp only [Nat.zero_add] at this
    rcases this with h1 | h1 | h1
    · exact h1
    · have := (hl.unlisted.1 hun).2; rw [h1] at this; cases this
    · rw [hl.rdy.2 haft] at h1; cases h1
  subst hji
  refine (h M0 M fp a w hM hn hR hS).mono ?_
  rintro a' w' ⟨M', fp', σ', h1, h2, h3, h4, h5⟩
  exact ⟨.inl h4, h5 M0 M' fp' a' w' h1 h2 h3 h4 (j :: done) _ (hl.set hi ho (hl.rdy.1 hc1)) hc3⟩

/-- The last one, if it waits for all others: it may turn what was held. -/
theorem RunO.aloneLast {C : Ctx} {held : List (Nat × Blk)} {n0 : Nat} {ops : Array Oper} {i : Nat} {k : List Item} {σ : St} {o : Oper} (hla : Nat.beq i (lastOf ops) = true) (ho : ops[i]? = some o)
    (h : ∀ M fp a w, Rel C M fp σ a w → OpW C.P ops i (fun a' w' => ∃ M' fp' σ', Rel C M' fp' σ' a' w' ∧ Run C k σ') a w) :
    RunO C held n0 ops [(i, false)] k σ := by
  intro M0 M fp a w hM hn hR hS done listed hl hc
  simp only [chk, ho, Bool.and_eq_true, Bool.not_eq_true'] at hc
  obtain ⟨⟨⟨hc0, hc1⟩, hc2⟩, hc3⟩ := hc
  have hi : i < ops.size := (Array.getElem?_eq_some_iff.1 ho).1
  have hir : i ∈ Region.ready .any ops listed := mem_ready.2 ⟨hl.unlisted.2 ⟨hi, hc0⟩, o, ho, hl.rdy.1 hc1⟩
  refine ⟨fun e => (by rw [e] at hir; cases hir), fun j hj => ?_⟩
  obtain ⟨hun, oj, hoj, haft⟩ := mem_ready.1 hj
  have hji : j = i := by
    have := others_spec hc2 j oj (by simpa using hoj)
    simp only [Nat.zero_add] at this
    rcases this with h1 | h1 | h1
    · exact h1
    · have := (hl.unlisted.1 hun).2; rw [h1] at this; cases this
    · rw [hl.rdy.2 haft] at h1; cases h1
  subst hji
  refine (h M fp a w hR).mono ?_
  rintro a' w' ⟨M', fp', σ', h3, h5⟩
  refine ⟨.inr (Nat.eq_of_beq_eq_true hla), ?_, fun cs => h5 M' fp' a' w' h3 cs⟩
  simp only [List.all_eq_true, List.mem_range] at hc3
  apply List.eq_nil_iff_forall_not_mem.2
  intro q hq
  obtain ⟨h0, oq, hoq, _⟩ := mem_ready.1 hq
  have := ((hl.set hi ho (hl.rdy.1 hc1)).unlisted.1 h0)
  rw [hc3 q this.1] at this
  cases this.2

end Go.AM

/-
  The abstract machine, twelfth part: the run of a drawn region along its order, reckoned; calls in it. Own work; over any program.
-/
namespace Go.AM

abbrev GotO := Option (Prop × List (Nat × Bool) × St)
def GotO.with (p : Prop) : GotO → GotO
  | some (q, t, s) => some (p ∧ q, t, s)
  | none => none

theorem GotO.with_some {p : Prop} {g : GotO} {φ : Prop} {t : List (Nat × Bool)} {s : St} (h : g.with p = some (φ, t, s)) : ∃ q, g = some (q, t, s) ∧ φ = (p ∧ q) := by
  cases g with
  | none => cases h
  | some x => obtain ⟨q, t', s'⟩ := x; cases h; exact ⟨q, rfl, rfl⟩

def RunOF (T : Tab) (n : Lim) (W0 : World) (S0 : Nat → Prop) (held : List (Nat × Blk)) (ops : Array Oper) : Nat → List Bool → List (Nat × Bool) → St → GotO
  | 0, _, ord, σ => some (True, ord, σ)
  | f + 1, ds, ord, ⟨t, h, nx⟩ =>
    match ord with
    | [] => some (True, [], ⟨t, h, nx⟩)
    | (i, q) :: rest =>
      match ops[i]? with
      | none => some (True, ord, ⟨t, h, nx⟩)
      | some ⟨dst, op, ty, pos, aft, gd⟩ =>
        match wantOf ops ⟨t, h, nx⟩ ⟨dst, op, ty, pos, aft, gd⟩ with
        | some (.ask d b) =>
          match ds with
          | true :: ds => (RunOF T n W0 S0 held ops f ds ord ⟨(d, .tt true) :: t, h, nx⟩).with (b = true)
          | false :: ds => (RunOF T n W0 S0 held ops f ds ord ⟨(d, .tt false) :: t, h, nx⟩).with (b = false)
          | [] => some (True, ord, ⟨t, h, nx⟩)
        | some .no =>
          match dst with
          | none => RunOF T n W0 S0 held ops f ds rest ⟨t, h, nx⟩
          | some d => match okD n d with | true => RunOF T n W0 S0 held ops f ds rest ⟨(d, .v undef) :: t, h, nx⟩ | false => some (True, ord, ⟨t, h, nx⟩)
        | some .yes =>
          match pickAsk ⟨t, h, nx⟩ ⟨dst, op, ty, pos, aft, gd⟩ with
          | some (d, b) =>
            match ds with
            | true :: ds => (RunOF T n W0 S0 held ops f ds ord ⟨(d, .tt true) :: t, h, nx⟩).with (b = true)
            | false :: ds => (RunOF T n W0 S0 held ops f ds ord ⟨(d, .tt false) :: t, h, nx⟩).with (b = false)
            | [] => some (True, ord, ⟨t, h, nx⟩)
          | none =>
            match q with
            | true =>
              match evPure T W0 S0 ⟨t, held, nx⟩ ⟨dst, op, ty, pos, aft, gd⟩ with
              | some (p, z) =>
                match dst with
                | none => (RunOF T n W0 S0 held ops f ds rest ⟨t, h, nx⟩).with p
                | some d => match okD n d with | true => force z fun z => (RunOF T n W0 S0 held ops f ds rest ⟨(d, z) :: t, h, nx⟩).with p | false => some (True, ord, ⟨t, h, nx⟩)
              | none => some (True, ord, ⟨t, h, nx⟩)
            | false =>
              match evPure T W0 S0 ⟨t, h, nx⟩ ⟨dst, op, ty, pos, aft, gd⟩ with
              | some (p, z) =>
                match dst with
                | none => (RunOF T n W0 S0 held ops f ds rest ⟨t, h, nx⟩).with p
                | some d => match okD n d with | true => force z fun z => (RunOF T n W0 S0 held ops f ds rest ⟨(d, z) :: t, h, nx⟩).with p | false => some (True, ord, ⟨t, h, nx⟩)
              | none =>
                match evEff T W0 S0 t h nx ⟨dst, op, ty, pos, aft, gd⟩ with
                | some ⟨p, z, h', new, _⟩ =>
                  match new with
                  | true =>
                    match St.bel ⟨t, h, nx⟩, dst with
                    | true, some d => match okD n d with | true => force z fun z => forceH h' fun h' => (RunOF T n W0 S0 held ops f ds rest ⟨(d, z) :: t, h', nx + 1⟩).with (p ∧ inT h' held) | false => some (True, ord, ⟨t, h, nx⟩)
                    | _, _ => some (True, ord, ⟨t, h, nx⟩)
                  | false =>
                    match dst with
                    | none => forceH h' fun h' => (RunOF T n W0 S0 held ops f ds rest ⟨t, h', nx⟩).with (p ∧ inT h' held)
                    | some d => match okD n d with | true => force z fun z => forceH h' fun h' => (RunOF T n W0 S0 held ops f ds rest ⟨(d, z) :: t, h', nx⟩).with (p ∧ inT h' held) | false => some (True, ord, ⟨t, h, nx⟩)
                | none => some (True, ord, ⟨t, h, nx⟩)
        | none => some (True, ord, ⟨t, h, nx⟩)

theorem RelQ.held {C : Ctx} {M M0 : Loc} {fp : Nat → Prop} {σ : St} {a : Act} {w w' : World} (hR : Rel C M fp σ a w) {n0 : Nat} {held : List (Nat × Blk)} (hb : hBelow n0 held = true) (hM : ∀ i, i < n0 → M i = M0 i) (hS : HS C M0 held w') :
    RelQ C M ⟨σ.t, held, σ.nx⟩ a w' :=
  ⟨hR.tmps, hBelow_lk hb hM hS.1, hS.2⟩

section
variable {C : Ctx} {held : List (Nat × Blk)} {n0 : Nat} {ops : Array Oper} {i : Nat} {ord : List (Nat × Bool)} {k : List Item} {σ : St} {o : Oper}

theorem RunO.decide {d : Nat} {b x : Bool} (hd : lk σ.t d = some (.v (.bool b))) (hb : b = x) (h : RunO C held n0 ops ord k (σ.put (some d) (.tt x))) : RunO C held n0 ops ord k σ :=
  fun M0 M fp a w hM hn hR hS => h M0 M fp a w hM hn (hR.decide hd hb) hS

theorem RunO.pure {T : Tab} (hT : tabOK C.P T) {p : Prop} {z : AV} (ho : ops[i]? = some o) (hw : wantOf ops σ o = some .yes) (hev : evPure T C.w0 C.S0 σ o = some (p, z)) (hp : p) (hd : dstOK C.n o.dst = true)
    (h : RunO C held n0 ops ord k (σ.put o.dst z)) : RunO C held n0 ops ((i, false) :: ord) k σ := by
  refine RunO.alone ho fun M0 M fp a w hM hn hR hS => ?_
  unfold OpW
  simp only [ho, if_pos (wantOf_yes hR.q hw), evPure_run hT hR.q hev hp]
  exact ⟨evPure_nd hev, M, fp, _, hM, by cases o.dst <;> exact hn, hR.put (z := z) (dstOK_lt hd), hS, h⟩

theorem RunO.look {T : Tab} (hT : tabOK C.P T) (hsel : noSel ops = true) (hbel : hBelow n0 held = true) {p : Prop} {z : AV} (ho : ops[i]? = some o) (hw : wantOf ops σ o = some .yes) (hev : evPure T C.w0 C.S0 ⟨σ.t, held, σ.nx⟩ o = some (p, z)) (hp : p) (hd : dstOK C.n o.dst = true)
    (h : RunO C held n0 ops ord k (σ.put o.dst z)) : RunO C held n0 ops ((i, true) :: ord) k σ := by
  refine RunO.first hsel ho hd (fun M0 M fp a w hM hR => .inl ⟨wantOf_yes hR.q hw, evPure_nd hev, fun w' hS' => ?_⟩) h
  exact evPure_run hT (RelQ.held hR hbel hM hS') hev hp

theorem RunO.no (hsel : noSel ops = true) {q : Bool} (ho : ops[i]? = some o) (hw : wantOf ops σ o = some .no) (hd : dstOK C.n o.dst = true)
    (h : RunO C held n0 ops ord k (σ.put o.dst (.v undef))) : RunO C held n0 ops ((i, q) :: ord) k σ := by
  cases q with
  | true => exact RunO.first hsel ho hd (fun M0 M fp a w hM hR => .inr ⟨wantOf_no hR.q hw, rfl⟩) h
  | false =>
    refine RunO.alone ho fun M0 M fp a w hM hn hR hS => ?_
    unfold OpW
    simp only [ho, wantOf_no hR.q hw]
    exact ⟨M, fp, _, hM, by cases o.dst <;> exact hn, hR.put (z := .v undef) (dstOK_lt hd), hS, h⟩

theorem RunO.eff {T : Tab} (hT : tabOK C.P T) (hL : Local C.X) (hbel : hBelow n0 held = true) {E : Eff} (ho : ops[i]? = some o) (hw : wantOf ops σ o = some .yes) (hev : evEff T C.w0 C.S0 σ.t σ.h σ.nx o = some E) (hp : E.p) (hb : E.new = true → σ.bel = true)
    (hin : inT E.h held) (hd : dstOK C.n o.dst = true) (h : RunO C held n0 ops ord k ((E.next σ).put o.dst E.z)) : RunO C held n0 ops ((i, false) :: ord) k σ := by
  refine RunO.alone ho fun M0 M fp a w hM hn hR hS => ?_
  obtain ⟨M', w', v, hM', hrun, hv, hR'⟩ := evEff_run hT hL hR hev hp hb
  have hn' : n0 ≤ ((E.next σ).put o.dst E.z).nx := by
    have : n0 ≤ (E.next σ).nx := by unfold Eff.next; split <;> simp <;> omega
    cases o.dst <;> exact this
  have h0 : ∀ i, i < n0 → M' i = M0 i := fun i hi => (hM' i (by omega)).trans (hM i hi)
  have hS' : HS C M0 held w' := ⟨hBelow_lk hbel (fun i hi => (h0 i hi).symm) (fun id B hB => hR'.heap id B (inT_lk hin id B hB)), hR'.agree⟩
  unfold OpW
  rcases hv with rfl | ⟨rfl, hz⟩
  · simp only [ho, if_pos (wantOf_yes hR.q hw), hrun]
    exact ⟨evEff_nd hev, M', fp, _, h0, hn', hR'.put (z := E.z) (dstOK_lt hd), hS', h⟩
  · simp only [ho, if_pos (wantOf_yes hR.q hw), hrun]
    rw [hz] at h hn'
    exact ⟨evEff_nd hev, M', fp, _, h0, hn', hR'.put (z := .v undef) (dstOK_lt hd), hS', h⟩

/-- A call whose arguments are plain and that turns nothing. -/
theorem RunO.callFn (hL : Local C.X) (hbel : hBelow n0 held = true) {c : Call} {g : Operand} {f : FuncId} {caps xs : List AV} {vs : List Value} {r : Value}
    (ho : ops[i]? = some o) (hop : o.op = .call c) (hc : c.callee = .value g) (hg : σ.ev g = some (.fn f caps)) (hxs : evs σ c.args.toList = some xs) (hvs : toVs (xs ++ caps) = some vs) (hw : wantOf ops σ o = some .yes) (hent : Enters C.P f)
    (hd : dstOK C.n o.dst = true) (hfn : ∀ w, Agree C.S0 C.w0 w → Gives C.P f vs w r)
    (h : RunO C held n0 ops ord k (σ.put o.dst (.v r))) : RunO C held n0 ops ((i, false) :: ord) k σ := by
  refine RunO.alone ho fun M0 M fp a w hM hn hR hS => ?_
  have h2 : c.args.map a.eval = (concL M xs).toArray := by apply Array.ext'; simpa using evs_conc hR.q hxs
  have hr : (execOp a.eval o).run C.P w = .ok (.enter f vs.toArray) w := by
    simp only [execOp, hop, resolve, hc, h2, hR.q.ev hg, conc, Deferred.ofValue]
    rw [← toVs_conc (M := M) hvs]
    simp [invoke, hent _ _, concL_append]
  unfold OpW
  simp only [ho, if_pos (wantOf_yes hR.q hw), hr]
  refine ⟨fun c e => (by rw [hop] at e; cases e), Calls.mono' (hfn w hR.agree) fun e w' hh => ?_⟩
  obtain ⟨h1, h3⟩ := hh
  refine ⟨r, h1, M, fp, _, hM, by cases o.dst <;> exact hn, (hR.agree' hL h3).put (z := .v r) (dstOK_lt hd), ?_, h⟩
  refine ⟨?_, hR.agree.trans h3 (fun _ f _ => f.elim)⟩
  have hlk : ∀ id B, lk held id = some B → BlkAt M w id B := hBelow_lk hbel hM hS.1
  refine hBelow_lk hbel (fun i hi => (hM i hi).symm) ?_
  intro id B hB
  have := hlk _ _ hB
  have hlt := this.lt
  have hb : w'.heap[(M id).1]? = w.heap[(M id).1]? := h3.block _ hlt (fun f => f)
  cases B with
  | cells e segs => exact ⟨by rw [hb]; exact this.1, this.2⟩
  | row e sz n vs => obtain ⟨h1, cur, h2, h3⟩ := this; exact ⟨h1, cur, by rw [hb]; exact h2, h3⟩
  | map es => obtain ⟨h1, cur, h2, h3⟩ := this; exact ⟨h1, cur, by rw [hb]; exact h2, h3⟩
  | rowA e sz n xs => obtain ⟨h1, cur, h2, h3⟩ := this; exact ⟨h1, cur, by rw [hb]; exact h2, h3⟩
end

theorem RunOF_sound {C : Ctx} {T : Tab} (hT : tabOK C.P T) (hL : Local C.X) {held : List (Nat × Blk)} {n0 : Nat} {ops : Array Oper} {k : List Item} (hsel : noSel ops = true) (hbel : hBelow n0 held = true) :
    ∀ (f : Nat) (ds : List Bool) (ord : List (Nat × Bool)) (σ : St) {φ : Prop} {ord' : List (Nat × Bool)} {σ' : St},
    RunOF T C.n C.w0 C.S0 held ops f ds ord σ = some (φ, ord', σ') → φ → RunO C held n0 ops ord' k σ' → RunO C held n0 ops ord k σ := by
  intro f
  induction f with
  | zero => intro ds ord σ φ ord' σ' h hp hr; simp only [RunOF] at h; cases h; exact hr
  | succ f ih =>
    intro ds ord σ φ ord' σ' h hp hr
    obtain ⟨t, hh, nx⟩ := σ
    simp only [RunOF] at h
    split at h
    · cases h; exact hr
    · rename_i i q rest
      split at h
      · cases h; exact hr
      · rename_i dst op ty pos aft gd ho
        split at h
        · rename_i d b hw
          split at h
          · obtain ⟨q, hg, rfl⟩ := GotO.with_some h
            exact .decide (wantOf_ask hw) hp.1 (ih _ _ _ hg hp.2 hr)
          · obtain ⟨q, hg, rfl⟩ := GotO.with_some h
            exact .decide (wantOf_ask hw) hp.1 (ih _ _ _ hg hp.2 hr)
          · cases h; exact hr
        · rename_i hw
          split at h
          · exact .no hsel ho hw rfl (ih _ _ _ h hp hr)
          · rename_i d
            split at h
            · rename_i hd; exact .no hsel ho hw hd (ih _ _ _ h hp hr)
            · cases h; exact hr
        · rename_i hw
          split at h
          · rename_i d b hpk
            split at h
            · obtain ⟨q, hg, rfl⟩ := GotO.with_some h
              exact .decide (pickAsk_lk hpk) hp.1 (ih _ _ _ hg hp.2 hr)
            · obtain ⟨q, hg, rfl⟩ := GotO.with_some h
              exact .decide (pickAsk_lk hpk) hp.1 (ih _ _ _ hg hp.2 hr)
            · cases h; exact hr
          · split at h
            · split at h
              · rename_i p z hev
                split at h
                · obtain ⟨q, hg, rfl⟩ := GotO.with_some h
                  exact .look hT hsel hbel ho hw hev hp.1 rfl (ih _ _ _ hg hp.2 hr)
                · split at h
                  · rename_i hd
                    rw [force_eq] at h
                    obtain ⟨q, hg, rfl⟩ := GotO.with_some h
                    exact .look hT hsel hbel ho hw hev hp.1 hd (ih _ _ _ hg hp.2 hr)
                  · cases h; exact hr
              · cases h; exact hr
            · split at h
              · rename_i p z hev
                split at h
                · obtain ⟨q, hg, rfl⟩ := GotO.with_some h
                  exact .pure hT ho hw hev hp.1 rfl (ih _ _ _ hg hp.2 hr)
                · split at h
                  · rename_i hd
                    rw [force_eq] at h
                    obtain ⟨q, hg, rfl⟩ := GotO.with_some h
                    exact .pure hT ho hw hev hp.1 hd (ih _ _ _ hg hp.2 hr)
                  · cases h; exact hr
              · split at h
                · rename_i p z h' new cap hev
                  split at h
                  · split at h
                    · rename_i d hb _
                      split at h
                      · rename_i hd
                        rw [force_eq, forceH_eq] at h
                        obtain ⟨q, hg, rfl⟩ := GotO.with_some h
                        exact .eff hT hL hbel ho hw hev hp.1.1 (fun _ => by assumption) hp.1.2 hd (ih _ _ _ hg hp.2 hr)
                      · cases h; exact hr
                    · cases h; exact hr
                  · split at h
                    · rw [forceH_eq] at h
                      obtain ⟨q, hg, rfl⟩ := GotO.with_some h
                      exact .eff hT hL hbel ho hw hev hp.1.1 (fun e => by cases e) hp.1.2 rfl (ih _ _ _ hg hp.2 hr)
                    · split at h
                      · rename_i hd
                        rw [force_eq, forceH_eq] at h
                        obtain ⟨q, hg, rfl⟩ := GotO.with_some h
                        exact .eff hT hL hbel ho hw hev hp.1.1 (fun e => by cases e) hp.1.2 hd (ih _ _ _ hg hp.2 hr)
                      · cases h; exact hr
                · cases h; exact hr
        · cases h; exact hr

end Go.AM

/-
  The abstract machine, thirteenth part: owned blocks renumbered; what a loop gives up. Own work; over any program.
-/
namespace Go.AM

def ap : List (Nat × Nat) → Nat → Nat
  | [], i => i
  | (j, k) :: r, i => match Nat.beq i j with | true => k | false => ap r i

mutual
def ren (ρ : List (Nat × Nat)) : AV → AV
  | .v x => .v x
  | .tt b => .tt b
  | .ptr id off => .ptr (ap ρ id) off
  | .elt id off j => .elt (ap ρ id) off j
  | .mp id => .mp (ap ρ id)
  | .sl id sz off len => .sl (ap ρ id) sz off len
  | .fn f caps => .fn f (renL ρ caps)
  | .agg l => .agg (renL ρ l)
  | .tup l => .tup (renL ρ l)
def renL (ρ : List (Nat × Nat)) : List AV → List AV
  | [] => []
  | x :: r => ren ρ x :: renL ρ r
end

mutual
theorem conc_ren (ρ : List (Nat × Nat)) (M : Loc) : ∀ x : AV, conc M (ren ρ x) = conc (fun i => M (ap ρ i)) x
  | .v _ => by simp [ren, conc]
  | .tt _ => by simp [ren, conc]
  | .ptr id off => by simp [ren, conc]
  | .elt id off j => by simp [ren, conc]
  | .mp id => by simp [ren, conc]
  | .sl id sz off len => by simp [ren, conc]
  | .fn f caps => by simp [ren, conc, concL_ren ρ M caps]
  | .agg l => by simp [ren, conc, concL_ren ρ M l]
  | .tup l => by simp [ren, conc, concL_ren ρ M l]
theorem concL_ren (ρ : List (Nat × Nat)) (M : Loc) : ∀ l : List AV, concL M (renL ρ l) = concL (fun i => M (ap ρ i)) l
  | [] => by simp [renL, concL]
  | x :: r => by simp [renL, concL, conc_ren ρ M x, concL_ren ρ M r]
end

def renSegs (ρ : List (Nat × Nat)) : List Seg → List Seg
  | [] => []
  | .one x :: r => .one (ren ρ x) :: renSegs ρ r
  | .vals n vs :: r => .vals n vs :: renSegs ρ r

theorem concSegs_ren (ρ : List (Nat × Nat)) (M : Loc) : ∀ l : List Seg, concSegs M (renSegs ρ l) = concSegs (fun i => M (ap ρ i)) l
  | [] => rfl
  | .one x :: r => by simp [renSegs, concSegs, conc_ren, concSegs_ren ρ M r]
  | .vals n vs :: r => by simp [renSegs, concSegs, concSegs_ren ρ M r]

theorem segsOK_ren (ρ : List (Nat × Nat)) : ∀ l : List Seg, segsOK (renSegs ρ l) → segsOK l
  | [], _ => trivial
  | .one _ :: r, h => segsOK_ren ρ r h
  | .vals _ _ :: r, h => ⟨h.1, segsOK_ren ρ r h.2⟩

def renB (ρ : List (Nat × Nat)) : Blk → Blk
  | .cells e segs => .cells e (renSegs ρ segs)
  | .row e sz n vs => .row e sz n vs
  | .map es => .map es
  | .rowA e sz n xs => .rowA e sz n (renL ρ xs)

theorem renL_length (ρ : List (Nat × Nat)) : ∀ l : List AV, (renL ρ l).length = l.length
  | [] => rfl
  | x :: r => by simp [renL, renL_length ρ r]

theorem BlkAt.ren {ρ : List (Nat × Nat)} {M : Loc} {w : World} {id : Nat} {B : Blk} (h : BlkAt M w (ap ρ id) (renB ρ B)) : BlkAt (fun i => M (ap ρ i)) w id B := by
  cases B with
  | cells e segs => exact ⟨by rw [← concSegs_ren]; exact h.1, segsOK_ren ρ _ h.2⟩
  | row e sz n vs => exact h
  | map es => exact h
  | rowA e sz n xs =>
    obtain ⟨h1, cur, h2⟩ := h
    rw [concL_ren] at h2
    exact ⟨by rw [← renL_length ρ]; exact h1, cur, h2⟩

/-- The check at a loop's head, with the blocks' numbers turned. -/
def inTR (ρ : List (Nat × Nat)) (l : List (Nat × AV)) : List (Nat × AV) → Prop
  | [] => True
  | (i, x) :: r => lk l i = some (ren ρ x) ∧ inTR ρ l r
def inHR (ρ : List (Nat × Nat)) (l : List (Nat × Blk)) : List (Nat × Blk) → Prop
  | [] => True
  | (i, B) :: r => lk l (ap ρ i) = some (renB ρ B) ∧ inHR ρ l r

theorem inTR_lk {ρ : List (Nat × Nat)} {l : List (Nat × AV)} : ∀ {l' : List (Nat × AV)}, inTR ρ l l' → ∀ i x, lk l' i = some x → lk l i = some (ren ρ x)
  | [], _, i, x, h => by cases h
  | (j, y) :: r, hin, i, x, h => by
    simp only [lk] at h
    split at h
    · rename_i he
      have := Nat.eq_of_beq_eq_true he
      subst this; cases h; exact hin.1
    · exact inTR_lk hin.2 i x h

theorem inHR_lk {ρ : List (Nat × Nat)} {l : List (Nat × Blk)} : ∀ {l' : List (Nat × Blk)}, inHR ρ l l' → ∀ i B, lk l' i = some B → lk l (ap ρ i) = some (renB ρ B)
  | [], _, i, x, h => by cases h
  | (j, y) :: r, hin, i, x, h => by
    simp only [lk] at h
    split at h
    · rename_i he
      have := Nat.eq_of_beq_eq_true he
      subst this; cases h; exact hin.1
    · exact inHR_lk hin.2 i x h

def keys : List (Nat × Blk) → List Nat
  | [] => []
  | (i, _) :: r => i :: keys r

theorem lk_keys {i : Nat} {B : Blk} : ∀ {l : List (Nat × Blk)}, lk l i = some B → i ∈ keys l
  | [], h => by cases h
  | (j, y) :: r, h => by
    simp only [lk] at h
    simp only [keys, List.mem_cons]
    split at h
    · rename_i he; exact .inl (Nat.eq_of_beq_eq_true he)
    · exact .inr (lk_keys h)

/-- No two of some numbers come to one. -/
def apart (ρ : List (Nat × Nat)) (l : List Nat) : Bool := l.all fun i => l.all fun j => Nat.beq i j || !Nat.beq (ap ρ i) (ap ρ j)

theorem apart_spec {ρ : List (Nat × Nat)} {l : List Nat} (h : apart ρ l = true) {i j : Nat} (hi : i ∈ l) (hj : j ∈ l) (e : ap ρ i = ap ρ j) : i = j := by
  have := List.all_eq_true.1 (List.all_eq_true.1 h i hi) j hj
  simp only [Bool.or_eq_true, Bool.not_eq_true'] at this
  rcases this with h1 | h1
  · exact Nat.eq_of_beq_eq_true h1
  · rw [e] at h1; simp at h1

theorem Run.toR {C : Ctx} {todo : List Item} {σ : St} (ρ : List (Nat × Nat)) {t' : List (Nat × AV)} {h' : List (Nat × Blk)} {n' : Nat} (h : Run C todo ⟨t', h', n'⟩) (ht : inTR ρ σ.t t') (hh : inHR ρ σ.h h') (ha : apart ρ (keys h') = true) :
    Run C todo σ := by
  intro M fp a w hR cs
  refine h (fun i => M (ap ρ i)) fp a w ?_ cs
  refine { heap := ?_, inj := ?_, own := ?_, apart := ?_, agree := hR.agree, outer := hR.outer, fpok := hR.fpok, size := hR.size, frozen := hR.frozen, tmps := ?_, defers := hR.defers }
  · intro id B hB; exact (hR.heap _ _ (inHR_lk hh _ _ hB)).ren
  · intro id id' B B' hB hB' e
    exact apart_spec ha (lk_keys hB) (lk_keys hB') (hR.inj _ _ _ _ (inHR_lk hh _ _ hB) (inHR_lk hh _ _ hB') e)
  · intro id B hB; exact hR.own _ _ (inHR_lk hh _ _ hB)
  · intro id B hB; exact hR.apart _ _ (inHR_lk hh _ _ hB)
  · intro i x hx; rw [hR.tmps i _ (inTR_lk ht i x hx), conc_ren]

end Go.AM
