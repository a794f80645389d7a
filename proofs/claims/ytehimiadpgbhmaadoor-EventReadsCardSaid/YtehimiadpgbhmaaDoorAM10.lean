/-
  The abstract machine, tenth part: regions that draw their order. What only looks is taken first, in an order that is given; the rest must come up alone. Own work; over any program.
-/
import Derived.Test.YtehimiadpgbhmaaDoorAM9
import Derived.Orders
namespace Go.AM

/-- One operation of a region as it may come up. -/
def OpW (P : Program) (ops : Array Oper) (i : Nat) (K : Act → World → Prop) (a : Act) (w : World) : Prop :=
  match ops[i]? with
  | none => False
  | some o =>
    if Region.wanted o (yielded ops a.tmps) = true then
      (∀ c, o.op ≠ .defer c) ∧
      match (execOp a.eval o).run P w with
      | .ok (.value v) w' => K (a.put o.dst v) w'
      | .ok .skip w' => K (a.put o.dst undef) w'
      | .ok (.enter f args) w' => Calls P f args w' fun e w'' => ∃ v, e = .returned v ∧ K (a.put o.dst v) w''
      | _ => False
    else K (a.put o.dst undef) w

theorem OpW.mono {P : Program} {ops : Array Oper} {i : Nat} {K K' : Act → World → Prop} (hk : ∀ a w, K a w → K' a w) {a : Act} {w : World} (h : OpW P ops i K a w) : OpW P ops i K' a w := by
  unfold OpW at *
  cases ho : ops[i]? with
  | none => simp only [ho] at h
  | some o =>
    simp only [ho] at h ⊢
    by_cases hw : Region.wanted o (yielded ops a.tmps) = true
    · rw [if_pos hw] at h ⊢
      refine ⟨h.1, ?_⟩
      have h := h.2
      generalize (execOp a.eval o).run P w = r at *
      cases r with
      | ok x w' =>
        cases x with
        | value u => exact hk _ _ h
        | skip => exact hk _ _ h
        | enter f args => exact Calls.mono' h fun e w'' ⟨v, h1, h2⟩ => ⟨v, h1, hk _ _ h2⟩
        | _ => exact h.elim
      | halt x w' => exact h.elim
    · rw [if_neg hw] at h ⊢; exact hk _ _ h

/-- Does an operation wait for another one: outright, or by way of a third one? -/
def waitsB (ops : Array Oper) (o : Oper) (j : Nat) : Bool := o.after.toList.any fun e => Region.binds .any e && (Nat.beq e.on j || (match ops[e.on]? with
  | some o' => o'.after.toList.any fun e' => Region.binds .any e' && Nat.beq e'.on j
  | none => false))
/-- Does an operation wait for all others? -/
def waitsAll (ops : Array Oper) (l : Nat) : Bool := match ops[l]? with
  | some o => (List.range ops.size).all fun j => Nat.beq j l || waitsB ops o j
  | none => false
/-- The last operation, if it waits for all others. -/
def lastOf (ops : Array Oper) : Nat := match waitsAll ops (ops.size - 1) with | true => ops.size - 1 | false => ops.size

theorem lastOf_spec {ops : Array Oper} {o : Oper} (h : ops[lastOf ops]? = some o) {j : Nat} (hj : j < ops.size) (hne : j ≠ lastOf ops) : waitsB ops o j = true := by
  unfold lastOf at *
  split at h
  · rename_i hw
    unfold waitsAll at hw
    rw [h] at hw
    have := List.all_eq_true.1 hw j (List.mem_range.2 hj)
    simp only [Bool.or_eq_true] at this
    rcases this with h1 | h1
    · have h2 : (match waitsAll ops (ops.size - 1) with | true => ops.size - 1 | false => ops.size) = ops.size - 1 := by
        split
        · rfl
        · rename_i hx; unfold waitsAll at hx; rw [h] at hx; rw [hw] at hx; cases hx
      rw [h2] at hne
      exact absurd (Nat.eq_of_beq_eq_true h1) hne
    · exact h1
  · simp at h

/-- What is listed has all listed that it waits for. -/
def Closed (ops : Array Oper) (listed : Array Bool) : Prop := ∀ j o, ops[j]? = some o → listed.getD j false = true → ∀ e ∈ o.after, Region.binds .any e = true → listed.getD e.on false = true

theorem getD_set_mono {listed : Array Bool} {j k : Nat} (h : listed.getD k false = true) : (listed.setIfInBounds j true).getD k false = true := by
  rw [Array.getD_eq_getD_getElem?] at *
  rw [Array.getElem?_setIfInBounds]
  split
  · split
    · rfl
    · rename_i h1 h2; subst h1; rw [Array.getElem?_eq_none (by omega)] at h; cases h
  · exact h

theorem Closed.set {ops : Array Oper} {listed : Array Bool} (h : Closed ops listed) {j : Nat} {oj : Oper} (hj : ops[j]? = some oj) (hr : ∀ e ∈ oj.after, Region.binds .any e = true → listed.getD e.on false = true) : Closed ops (listed.setIfInBounds j true) := by
  intro k ok hk hl e he hb
  by_cases hjk : k = j
  · subst hjk
    rw [hk] at hj; cases hj
    exact getD_set_mono (hr e he hb)
  · have : listed.getD k false = true := by
      rw [Array.getD_eq_getD_getElem?, Array.getElem?_setIfInBounds, if_neg (Ne.symm hjk)] at hl
      rw [Array.getD_eq_getD_getElem?]; exact hl
    exact getD_set_mono (h k ok hk this e he hb)

theorem waits_listed {ops : Array Oper} {listed : Array Bool} (hc : Closed ops listed) {o : Oper} {i : Nat} (hr : ∀ e ∈ o.after, Region.binds .any e = true → listed.getD e.on false = true) (hw : waitsB ops o i = true) : listed.getD i false = true := by
  simp only [waitsB, List.any_eq_true, Bool.and_eq_true, Bool.or_eq_true] at hw
  obtain ⟨e, he, hb, h1⟩ := hw
  have hl := hr e (Array.mem_toList_iff.1 he) hb
  rcases h1 with h1 | h1
  · rw [← Nat.eq_of_beq_eq_true h1]; exact hl
  · split at h1
    · rename_i o' ho'
      simp only [List.any_eq_true, Bool.and_eq_true] at h1
      obtain ⟨e', he', hb', h2⟩ := h1
      rw [← Nat.eq_of_beq_eq_true h2]
      exact hc _ o' ho' hl e' (Array.mem_toList_iff.1 he') hb'
    · cases h1

def AnyW (P : Program) (ops : Array Oper) (S : World → Prop) (Q : Act → World → Prop) : Nat → Array Bool → Act → World → Prop
  | 0, listed, a, w => Region.ready .any ops listed = [] ∧ Q a w
  | fuel + 1, listed, a, w =>
    (Region.ready .any ops listed = [] → Q a w) ∧
    ∀ i ∈ Region.ready .any ops listed, OpW P ops i (fun a' w' => (S w' ∨ i = lastOf ops) ∧ AnyW P ops S Q fuel (listed.setIfInBounds i true) a' w') a w

theorem OpW.steps {P : Program} {ops : Array Oper} {i : Nat} {K : Act → World → Prop} {a : Act} {w : World} (h : OpW P ops i K a w) (b : Frame) (rest : List Nat) (k : List Item) (cs : List Frame) :
    ∃ a' w', K a' w' ∧ Steps P (lone (b.atR a (.inRegion ops (i :: rest) :: k)) cs w) (lone (b.atR a' (.inRegion ops rest :: k)) cs w') := by
  unfold OpW at h
  split at h
  · exact h.elim
  · rename_i o ho
    split at h
    · rename_i hw
      obtain ⟨hnd, h⟩ := h
      split at h
      · rename_i v w' hr; exact ⟨_, _, h, .one (step_value ho hw hnd hr)⟩
      · rename_i w' hr; exact ⟨_, _, h, .one (step_skipped ho hw hnd hr)⟩
      · rename_i f args w' hr
        obtain ⟨e, w'', fr, ⟨v, rfl, hK⟩, hs, _, hl⟩ := h (b.atR a (.inRegion ops (i :: rest) :: k) :: cs)
        refine ⟨_, _, hK, .head (step_call ho hw hnd hr) (Steps.trans hs (.one ?_))⟩
        have hfin : (b.atR a (.inRegion ops (i :: rest) :: k)).finish v = b.atR (a.put o.dst v) (.inRegion ops rest :: k) := by rw [Frame.finish_atR, ho]; rfl
        rw [← hfin]; exact step_leave_returned hl
      · exact h.elim
    · rename_i hw
      exact ⟨_, _, h, .one (step_unwanted ho (by simpa using hw))⟩

theorem AnyW_sound {P : Program} {ops : Array Oper} {S : World → Prop} {Q : Act → World → Prop} (b : Frame) (k : List Item) (cs : List Frame) : ∀ (fuel t : Nat) (listed : Array Bool) (a : Act) (w : World), AnyW P ops S Q fuel listed a w →
    ∃ a' w', Q a' w' ∧ Steps P (lone (b.atR a (.inRegion ops (Region.linearise.go .any ops fuel t listed []) :: k)) cs w) (lone (b.atR a' k) cs w') := by
  intro fuel
  induction fuel with
  | zero => intro t listed a w h; exact ⟨a, w, h.2, .one (by simp only [Region.linearise.go, List.reverse_nil]; exact stepR_region_end)⟩
  | succ fuel ih =>
    intro t listed a w h
    obtain ⟨h0, h1⟩ := h
    simp only [Region.linearise.go]
    change ∃ a' w', Q a' w' ∧ Steps P (lone (b.atR a (.inRegion ops (match (Region.ready .any ops listed)[t % (Region.ready .any ops listed).length]? with
      | some i => Region.linearise.go .any ops fuel (t / (Region.ready .any ops listed).length) (listed.setIfInBounds i true) [i]
      | none => [].reverse) :: k)) cs w) (lone (b.atR a' k) cs w')
    cases hi : (Region.ready .any ops listed)[t % (Region.ready .any ops listed).length]? with
    | none =>
      have hnil : Region.ready .any ops listed = [] := by
        cases hr : Region.ready .any ops listed with
        | nil => rfl
        | cons x xs =>
          rw [hr] at hi
          have hlt : t % (x :: xs).length < (x :: xs).length := Nat.mod_lt _ (by simp)
          simp at hi
          simp at hlt
          omega
      exact ⟨a, w, h0 hnil, .one (by simp only [List.reverse_nil]; exact stepR_region_end)⟩
    | some i =>
      simp only []
      rw [linearise_go_acc, List.reverse_singleton, List.singleton_append]
      obtain ⟨a1, w1, hK, s1⟩ := (h1 i (List.mem_of_getElem? hi)).steps b (Region.linearise.go .any ops fuel (t / (Region.ready .any ops listed).length) (listed.setIfInBounds i true) []) k cs
      obtain ⟨a2, w2, hQ, s2⟩ := ih (t / (Region.ready .any ops listed).length) _ a1 w1 hK.2
      exact ⟨a2, w2, hQ, s1.trans s2⟩

/-- In every world that meets S the operation leaves v and does nothing else. -/
def Still (P : Program) (ops : Array Oper) (S : World → Prop) (o : Oper) (v : Value) (a : Act) : Prop :=
  (Region.wanted o (yielded ops a.tmps) = true ∧ (∀ c, o.op ≠ .defer c) ∧ ∀ w, S w → (execOp a.eval o).run P w = .ok (.value v) w) ∨
  (Region.wanted o (yielded ops a.tmps) = false ∧ v = undef)

theorem Still.op {P : Program} {ops : Array Oper} {S : World → Prop} {i : Nat} {o : Oper} {v : Value} {a : Act} (hi : ops[i]? = some o) (hy : Still P ops S o v a) {K : Act → World → Prop} {w : World} (hS : S w)
    (h : K (a.put o.dst v) w) : OpW P ops i K a w := by
  unfold OpW
  simp only [hi]
  rcases hy with ⟨hw, hnd, hv⟩ | ⟨hw, rfl⟩
  · simp only [hw, if_true, hv w hS]; exact ⟨hnd, h⟩
  · simp only [hw, Bool.false_eq_true, if_false]; exact h

theorem Still.same {P : Program} {ops : Array Oper} {S : World → Prop} {o : Oper} {v : Value} {a a' : Act} (hy : Still P ops S o v a) (he : execOp a'.eval o = execOp a.eval o)
    (hw : Region.wanted o (yielded ops a'.tmps) = Region.wanted o (yielded ops a.tmps)) : Still P ops S o v a' := by
  unfold Still at *; rw [he, hw]; exact hy

theorem OpW.put {P : Program} {ops : Array Oper} {S : World → Prop} {j : Nat} {oi oj : Oper} {v : Value} (hj : ops[j]? = some oj) (hap : oi.apart ops oj = true)
    (hsi : ∀ cs b, oi.op ≠ .select cs b) (hsj : ∀ cs b, oj.op ≠ .select cs b) {K : Act → World → Prop} {a : Act} {w : World}
    (hy : Still P ops S oi v a) (h : OpW P ops j K (a.put oi.dst v) w) :
    OpW P ops j (fun a' w' => Still P ops S oi v a' ∧ K (a'.put oi.dst v) w') a w := by
  obtain ⟨h1, h2, h3⟩ := Oper.apart_spec hap
  have keep : ∀ u, Still P ops S oi v (a.put oj.dst u) := fun u => hy.same (execOp_put oi hsi a oj.dst u h3) (wanted_put oi a oj.dst u h3)
  unfold OpW at *
  simp only [hj] at *
  rw [wanted_put oj a oi.dst v h1] at h
  split
  · rename_i hw
    simp only [hw, if_true] at h
    refine ⟨h.1, ?_⟩
    have h := h.2
    rw [execOp_put oj hsj a oi.dst v h1] at h
    generalize (execOp a.eval oj).run P w = r at *
    cases r with
    | ok x w' =>
      cases x <;> simp only at h ⊢
      case value u => exact ⟨keep u, by rw [← Act.put_comm a v u h2]; exact h⟩
      case skip => exact ⟨keep _, by rw [← Act.put_comm a v undef h2]; exact h⟩
      case enter f args =>
        exact Calls.mono' h fun e w'' ⟨u, h4, h5⟩ => ⟨u, h4, keep u, by rw [← Act.put_comm a v u h2]; exact h5⟩
    | halt x w' => exact h.elim
  · rename_i hw
    simp only [hw] at h
    exact ⟨keep _, by rw [← Act.put_comm a v undef h2]; simpa using h⟩

theorem AnyW_first {P : Program} {ops : Array Oper} {S : World → Prop} {Q : Act → World → Prop} {i : Nat} {oi : Oper} {v : Value} (hi : ops[i]? = some oi) (hsel : ∀ (j : Nat) (o : Oper) cs b, ops[j]? = some o → o.op ≠ .select cs b) :
    ∀ (fuel : Nat) (listed : Array Bool) (a : Act) (w : World), Closed ops listed →
      (∀ j oj, ops[j]? = some oj → j ≠ i → listed.getD j true = false → (∀ e ∈ oj.after, Region.binds .any e = true → e.on ≠ i) → oi.apart ops oj = true) →
      i ∈ Region.ready .any ops listed → Still P ops S oi v a → S w →
      AnyW P ops S Q fuel (listed.setIfInBounds i true) (a.put oi.dst v) w → AnyW P ops S Q (fuel + 1) listed a w := by
  intro fuel
  induction fuel with
  | zero =>
    intro listed a w _ _ hr hy hS H
    refine ⟨fun h => (by rw [h] at hr; cases hr), fun j hj => ?_⟩
    by_cases hji : j = i
    · subst hji; exact hy.op hi hS ⟨.inl hS, H⟩
    · have := ready_mono hj hji
      rw [H.1] at this
      cases this
  | succ fuel ih =>
    intro listed a w hcl hfree hr hy hS H
    refine ⟨fun h => (by rw [h] at hr; cases hr), fun j hj => ?_⟩
    by_cases hji : j = i
    · subst hji; exact hy.op hi hS ⟨.inl hS, H⟩
    · have h1 := H.2 j (ready_mono hj hji)
      obtain ⟨hjun, oj, hoj, hall⟩ := mem_ready.1 hj
      have hnot : ∀ e ∈ oj.after, Region.binds .any e = true → e.on ≠ i := fun e he hb heq => by
        have h1 := hall e he hb
        have h0 := (mem_ready.1 hr).1
        rw [heq] at h1
        rcases Nat.lt_or_ge i listed.size with h' | h'
        · simp [h'] at h0 h1; rw [h0] at h1; cases h1
        · simp [Array.getElem?_eq_none h'] at h1
      have h2 := h1.put hoj (hfree j oj hoj hji hjun hnot) (fun cs b => hsel i oi cs b hi) (fun cs b => hsel j oj cs b hoj) hy
      have hfree' : ∀ k ok, ops[k]? = some ok → k ≠ i → (listed.setIfInBounds j true).getD k true = false →
          (∀ e ∈ ok.after, Region.binds .any e = true → e.on ≠ i) → oi.apart ops ok = true := fun k ok hk hki hun hno => by
        refine hfree k ok hk hki ?_ hno
        by_cases hjk : j = k
        · subst hjk; exact hjun
        · rw [getD_set_ne true hjk] at hun; exact hun
      have hnl : j ≠ lastOf ops := by
        intro e
        have h1 := waits_listed hcl hall (lastOf_spec (e ▸ hoj) (j := i) (Array.getElem?_eq_some_iff.1 hi).1 (fun e' => hji (e.trans e'.symm)))
        have h0 := (mem_ready.1 hr).1
        rcases Nat.lt_or_ge i listed.size with h' | h'
        · simp [h'] at h0 h1; rw [h0] at h1; cases h1
        · simp [Array.getElem?_eq_none h'] at h1
      refine h2.mono (fun a' w' h3 => ?_)
      have hS' : S w' := h3.2.1.resolve_right hnl
      refine ⟨.inl hS', ih (listed.setIfInBounds j true) a' w' (hcl.set hoj hall) hfree' (ready_mono hr (Ne.symm hji)) h3.1 hS' ?_⟩
      rw [Array.setIfInBounds_comm _ _ hji]
      exact h3.2.2

end Go.AM
