/-
  The abstract machine, twentieth part: a drawn region in which two loud operations do not wait for each other: both orders. Own work; over any program.
-/
import Derived.Test.YtehimiadpgbhmaaDoorAM19
namespace Go.AM

def addL (x : Nat) : Nat → List Oper → List Oper
  | _, [] => []
  | 0, o :: r => { o with after := o.after.push ⟨x, .data⟩ } :: r
  | y + 1, o :: r => o :: addL x y r
/-- The same operations; y waits for x too. -/
def addE (x y : Nat) (ops : Array Oper) : Array Oper := (addL x y ops.toList).toArray

theorem addL_get (x : Nat) : ∀ (y : Nat) (l : List Oper) (i : Nat), (addL x y l)[i]? = if i = y then l[i]?.map (fun o => { o with after := o.after.push ⟨x, .data⟩ }) else l[i]?
  | _, [], i => by simp [addL]
  | 0, o :: r, 0 => by simp [addL]
  | 0, o :: r, i + 1 => by simp [addL]
  | y + 1, o :: r, 0 => by simp [addL]
  | y + 1, o :: r, i + 1 => by
    simp only [addL, List.getElem?_cons_succ, addL_get x y r i]
    by_cases h : i = y
    · subst h; simp
    · have : ¬ i + 1 = y + 1 := by omega
      simp [h]

theorem addE_get (x y : Nat) (ops : Array Oper) (i : Nat) : (addE x y ops)[i]? = if i = y then ops[i]?.map (fun o => { o with after := o.after.push ⟨x, .data⟩ }) else ops[i]? := by
  unfold addE
  rw [List.getElem?_toArray, addL_get]
  simp

theorem addE_at {x y : Nat} {ops : Array Oper} {i : Nat} {o : Oper} (h : ops[i]? = some o) : ∃ o', (addE x y ops)[i]? = some o' ∧ o'.op = o.op ∧ o'.dst = o.dst ∧ o'.guard = o.guard ∧ (∀ ρ, execOp ρ o' = execOp ρ o) ∧
    ∀ e, e ∈ o'.after ↔ (e ∈ o.after ∨ (i = y ∧ e = ⟨x, .data⟩)) := by
  rw [addE_get, h]
  by_cases hi : i = y
  · rw [if_pos hi]
    refine ⟨_, rfl, rfl, rfl, rfl, fun ρ => rfl, fun e => ?_⟩
    simp [hi]
  · rw [if_neg hi]
    exact ⟨_, rfl, rfl, rfl, rfl, fun ρ => rfl, fun e => by simp [hi]⟩

theorem addE_dst {x y : Nat} {ops : Array Oper} (j : Nat) : ((addE x y ops)[j]?).bind (·.dst) = (ops[j]?).bind (·.dst) := by
  rw [addE_get]
  split
  · cases ops[j]? <;> rfl
  · rfl

theorem addE_yielded {x y : Nat} {ops : Array Oper} (t : Array Value) : yielded (addE x y ops) t = yielded ops t := by
  funext j
  unfold yielded
  rw [addE_dst]

theorem OpW.unadd {P : Program} {x y : Nat} {ops : Array Oper} {i : Nat} {K K' : Act → World → Prop} (hk : ∀ a w, K a w → K' a w) {a : Act} {w : World} (h : OpW P (addE x y ops) i K a w) : OpW P ops i K' a w := by
  unfold OpW at *
  cases ho : ops[i]? with
  | none =>
    have : (addE x y ops)[i]? = none := by rw [addE_get, ho]; simp
    simp only [this] at h
  | some o =>
    obtain ⟨o', h1, h2, h3, h4, h5, _⟩ := addE_at (x := x) (y := y) ho
    have hwant : Region.wanted o' (yielded (addE x y ops) a.tmps) = Region.wanted o (yielded ops a.tmps) := by
      rw [addE_yielded]; unfold Region.wanted; rw [h4]
    simp only [h1, hwant, h2, h3, h5] at h
    simp only []
    by_cases hw : Region.wanted o (yielded ops a.tmps) = true
    · rw [if_pos hw] at h ⊢
      refine ⟨h.1, ?_⟩
      have h := h.2
      generalize (execOp a.eval o).run P w = r at *
      cases r with
      | ok u w' =>
        cases u with
        | value u => exact hk _ _ h
        | skip => exact hk _ _ h
        | enter f args => exact Calls.mono' h fun e w'' ⟨v, h1, h2⟩ => ⟨v, h1, hk _ _ h2⟩
        | _ => exact h.elim
      | halt u w' => exact h.elim
    · rw [if_neg hw] at h ⊢; exact hk _ _ h

theorem ready_add {x y : Nat} {ops : Array Oper} {listed : Array Bool} {j : Nat} (hj : j ∈ Region.ready .any ops listed) (h : j ≠ y ∨ listed.getD x false = true) : j ∈ Region.ready .any (addE x y ops) listed := by
  obtain ⟨h0, o, ho, ha⟩ := mem_ready.1 hj
  obtain ⟨o', h1, _, _, _, _, h6⟩ := addE_at (x := x) (y := y) ho
  refine mem_ready.2 ⟨h0, o', h1, fun e he hb => ?_⟩
  rcases (h6 e).1 he with h7 | ⟨h7, rfl⟩
  · exact ha e h7 hb
  · rcases h with h | h
    · exact absurd h7 h
    · exact h

theorem ready_unadd {x y : Nat} {ops : Array Oper} {listed : Array Bool} {j : Nat} (hj : j ∈ Region.ready .any (addE x y ops) listed) : j ∈ Region.ready .any ops listed := by
  obtain ⟨h0, o', ho', ha⟩ := mem_ready.1 hj
  cases ho : ops[j]? with
  | none => rw [addE_get, ho] at ho'; simp at ho'
  | some o =>
    obtain ⟨o'', h1, _, _, _, _, h6⟩ := addE_at (x := x) (y := y) ho
    rw [h1] at ho'; cases ho'
    exact mem_ready.2 ⟨h0, o, ho, fun e he hb => ha e ((h6 e).2 (.inl he)) hb⟩

theorem getD_set_self {listed : Array Bool} {i : Nat} (h : listed.getD i true = false) : (listed.setIfInBounds i true).getD i false = true := by
  rw [Array.getD_eq_getD_getElem?] at *
  rw [Array.getElem?_setIfInBounds]
  rcases Nat.lt_or_ge i listed.size with h1 | h1
  · simp [h1]
  · rw [Array.getElem?_eq_none h1] at h; cases h

/-- An order in which operations may come up. -/
def OrdL (ops : Array Oper) : Nat → Array Bool → List Nat → Prop
  | 0, _, l => l = []
  | _ + 1, listed, [] => Region.ready .any ops listed = []
  | n + 1, listed, i :: l => i ∈ Region.ready .any ops listed ∧ OrdL ops n (listed.setIfInBounds i true) l

theorem go_ord (ops : Array Oper) : ∀ (n t : Nat) (listed : Array Bool), OrdL ops n listed (Region.linearise.go .any ops n t listed [])
  | 0, t, listed => by simp only [Region.linearise.go, List.reverse_nil]; rfl
  | n + 1, t, listed => by
    simp only [Region.linearise.go]
    change OrdL ops (n + 1) listed (match (Region.ready .any ops listed)[t % (Region.ready .any ops listed).length]? with
      | some i => Region.linearise.go .any ops n (t / (Region.ready .any ops listed).length) (listed.setIfInBounds i true) [i]
      | none => [].reverse)
    cases hi : (Region.ready .any ops listed)[t % (Region.ready .any ops listed).length]? with
    | none =>
      show Region.ready .any ops listed = []
      cases hr : Region.ready .any ops listed with
      | nil => rfl
      | cons x xs =>
        rw [hr] at hi
        have hlt : t % (x :: xs).length < (x :: xs).length := Nat.mod_lt _ (by simp)
        simp at hi
        simp at hlt
        omega
    | some i =>
      simp only []
      rw [linearise_go_acc, List.reverse_singleton, List.singleton_append]
      exact ⟨List.mem_of_getElem? hi, go_ord ops n _ _⟩

/-- Two regions alike but for who waits for whom. -/
def Like (ops' ops : Array Oper) : Prop := ∀ (P : Program) (i : Nat) (K : Act → World → Prop) (a : Act) (w : World), OpW P ops' i K a w → OpW P ops i K a w

theorem Like.refl (ops : Array Oper) : Like ops ops := fun _ _ _ _ _ h => h
theorem Like.add {ops' ops : Array Oper} (x y : Nat) (h : Like ops' ops) : Like (addE x y ops') ops := fun P i K a w h1 => h P i K a w (h1.unadd fun _ _ h => h)

theorem AnyW_along {P : Program} {ops' ops : Array Oper} {S : World → Prop} {Q : Act → World → Prop} (hL : Like ops' ops) (b : Frame) (k : List Item) (cs : List Frame) : ∀ (n : Nat) (listed : Array Bool) (l : List Nat) (a : Act) (w : World),
    AnyW P ops' S Q n listed a w → OrdL ops' n listed l → ∃ a' w', Q a' w' ∧ Steps P (lone (b.atR a (.inRegion ops l :: k)) cs w) (lone (b.atR a' k) cs w')
  | 0, listed, l, a, w, h, ho => by
    subst ho
    exact ⟨a, w, h.2, .one stepR_region_end⟩
  | n + 1, listed, [], a, w, h, ho => ⟨a, w, h.1 ho, .one stepR_region_end⟩
  | n + 1, listed, i :: l, a, w, h, ho => by
    obtain ⟨a1, w1, hK, s1⟩ := (hL P i _ a w (h.2 i ho.1)).steps b l k cs
    obtain ⟨a2, w2, hQ, s2⟩ := AnyW_along hL b k cs n _ l a1 w1 hK.2 ho.2
    exact ⟨a2, w2, hQ, s1.trans s2⟩

theorem ord_add {x y : Nat} {ops : Array Oper} : ∀ (n : Nat) (listed : Array Bool) (l : List Nat), listed.getD x false = true → OrdL ops n listed l → OrdL (addE x y ops) n listed l
  | 0, _, _, _, h => h
  | n + 1, listed, [], hx, h => List.eq_nil_iff_forall_not_mem.2 fun j hj => by have := ready_unadd hj; rw [h] at this; cases this
  | n + 1, listed, i :: l, hx, h => ⟨ready_add h.1 (.inr hx), ord_add n _ l (getD_set_mono hx) h.2⟩

theorem ord_fork {x y : Nat} {ops : Array Oper} (hxy : x ≠ y) : ∀ (n : Nat) (listed : Array Bool) (l : List Nat), OrdL ops n listed l → OrdL (addE x y ops) n listed l ∨ OrdL (addE y x ops) n listed l
  | 0, _, _, h => .inl h
  | n + 1, listed, [], h => .inl (List.eq_nil_iff_forall_not_mem.2 fun j hj => by have := ready_unadd hj; rw [h] at this; cases this)
  | n + 1, listed, i :: l, h => by
    by_cases e : i = x
    · subst e
      exact .inl ⟨ready_add h.1 (.inl hxy), ord_add n _ l (getD_set_self (mem_ready.1 h.1).1) h.2⟩
    · by_cases e' : i = y
      · subst e'
        exact .inr ⟨ready_add h.1 (.inl fun h => hxy h.symm), ord_add n _ l (getD_set_self (mem_ready.1 h.1).1) h.2⟩
      · rcases ord_fork hxy n _ l h.2 with h1 | h1
        · exact .inl ⟨ready_add h.1 (.inl e'), h1⟩
        · exact .inr ⟨ready_add h.1 (.inl e), h1⟩

/-- A region run along every order, each by way of a region that is like it. -/
theorem Run.drawOrd {C : Ctx} (hL : Local C.X) (hm : C.P.follows .mixedOrders = true) {id : Nat} {ops : Array Oper} {k : List Item} {σ : St} (held : List (Nat × Blk)) (hh : inT σ.h held)
    (h : ∀ l, OrdL ops ops.size (Array.replicate ops.size false) l → ∃ ops' ord, Like ops' ops ∧ ops'.size = ops.size ∧ OrdL ops' ops.size (Array.replicate ops.size false) l ∧
      Nat.beq ord.length ops'.size = true ∧ chk ops' ord [] = true ∧ RunO C held σ.nx ops' ord k σ) : Run C (.code (.region id ops true) :: k) σ := by
  intro M fp a w hR cs
  have hR' := hR.drawn hL
  have e : Region.schedule (C.P.follows .mixedOrders) ops (w.tape w.drawn (.order C.b.fn id)) = Region.linearise.go .any ops ops.size (w.tape w.drawn (.order C.b.fn id)) (Array.replicate ops.size false) [] := by
    rw [hm]; simp [Region.schedule, Region.linearise]
  obtain ⟨ops', ord, hl, hs, ho, hlen, hc, h⟩ := h _ (go_ord ops ops.size (w.tape w.drawn (.order C.b.fn id)) (Array.replicate ops.size false))
  have hA := h M M fp a _ (fun _ _ => rfl) (Nat.le_refl _) hR' ⟨fun id B hB => hR'.heap id B (inT_lk hh id B hB), hR'.agree⟩ [] _ (LD.start ops') hc
  rw [Nat.eq_of_beq_eq_true hlen, hs] at hA
  obtain ⟨a', w', hQ, s⟩ := AnyW_along hl C.b k cs ops.size _ _ a _ hA ho
  obtain ⟨m, s2, z⟩ := hQ cs
  refine ⟨m, .head stepR_region_draw ?_, z⟩
  rw [e]
  exact s.trans s2

theorem addL_len (x : Nat) : ∀ (y : Nat) (l : List Oper), (addL x y l).length = l.length
  | _, [] => by simp [addL]
  | 0, o :: r => by simp [addL]
  | y + 1, o :: r => by simp [addL, addL_len x y r]
theorem addE_size (x y : Nat) (ops : Array Oper) : (addE x y ops).size = ops.size := by simp [addE, addL_len]

/-- Two loud operations that do not wait for each other: both orders. -/
theorem Run.drawF {C : Ctx} (hL : Local C.X) (hm : C.P.follows .mixedOrders = true) {id : Nat} {ops : Array Oper} {k : List Item} {σ : St} (x y : Nat) (hxy : Nat.beq x y = false) (loud : List Nat) (held : List (Nat × Blk))
    (hlen : Nat.beq (auto (addE x y ops) loud).length (addE x y ops).size = true) (hlen' : Nat.beq (auto (addE y x ops) loud).length (addE y x ops).size = true)
    (hc : chk (addE x y ops) (auto (addE x y ops) loud) [] = true) (hc' : chk (addE y x ops) (auto (addE y x ops) loud) [] = true) (hh : inT σ.h held)
    (h : RunO C held σ.nx (addE x y ops) (auto (addE x y ops) loud) k σ) (h' : RunO C held σ.nx (addE y x ops) (auto (addE y x ops) loud) k σ) : Run C (.code (.region id ops true) :: k) σ := by
  refine Run.drawOrd hL hm held hh fun l hl => ?_
  rcases ord_fork (x := x) (y := y) (fun e => by rw [e, Nat.beq_refl] at hxy; cases hxy) _ _ l hl with h1 | h1
  · exact ⟨_, _, (Like.refl ops).add x y, addE_size x y ops, h1, hlen, hc, h⟩
  · exact ⟨_, _, (Like.refl ops).add y x, addE_size y x ops, h1, hlen', hc', h'⟩

/-- Paths that come together: what follows is shown once. -/
theorem Run.join {C : Ctx} {todo todo' : List Item} {σ : St} (t' : List (Nat × AV)) (h' : List (Nat × Blk)) (n' : Nat) (h : (∀ σ, inTC σ.t t' → inT σ.h h' → Run C todo' σ) → Run C todo σ) (h2 : Run C todo' ⟨t', h', n'⟩) : Run C todo σ :=
  h fun _ ht hh => Run.toC h2 ht hh

/-- One loud operation beside a chain of two: three orders. -/
theorem Run.drawF2 {C : Ctx} (hL : Local C.X) (hm : C.P.follows .mixedOrders = true) {id : Nat} {ops : Array Oper} {k : List Item} {σ : St} (x y z : Nat) (hxy : Nat.beq x y = false) (hxz : Nat.beq x z = false) (loud : List Nat) (held : List (Nat × Blk))
    (hl1 : Nat.beq (auto (addE x y ops) loud).length (addE x y ops).size = true) (hl2 : Nat.beq (auto (addE x z (addE y x ops)) loud).length (addE x z (addE y x ops)).size = true)
    (hl3 : Nat.beq (auto (addE z x (addE y x ops)) loud).length (addE z x (addE y x ops)).size = true)
    (hc1 : chk (addE x y ops) (auto (addE x y ops) loud) [] = true) (hc2 : chk (addE x z (addE y x ops)) (auto (addE x z (addE y x ops)) loud) [] = true)
    (hc3 : chk (addE z x (addE y x ops)) (auto (addE z x (addE y x ops)) loud) [] = true) (hh : inT σ.h held)
    (h1 : RunO C held σ.nx (addE x y ops) (auto (addE x y ops) loud) k σ) (h2 : RunO C held σ.nx (addE x z (addE y x ops)) (auto (addE x z (addE y x ops)) loud) k σ)
    (h3 : RunO C held σ.nx (addE z x (addE y x ops)) (auto (addE z x (addE y x ops)) loud) k σ) : Run C (.code (.region id ops true) :: k) σ := by
  refine Run.drawOrd hL hm held hh fun l hl => ?_
  rcases ord_fork (x := x) (y := y) (fun e => by rw [e, Nat.beq_refl] at hxy; cases hxy) _ _ l hl with h | h
  · exact ⟨_, _, (Like.refl ops).add x y, addE_size x y ops, h, hl1, hc1, h1⟩
  · rcases ord_fork (x := x) (y := z) (fun e => by rw [e, Nat.beq_refl] at hxz; cases hxz) _ _ l h with h | h
    · exact ⟨_, _, ((Like.refl ops).add y x).add x z, (addE_size x z _).trans (addE_size y x ops), h, hl2, hc2, h2⟩
    · exact ⟨_, _, ((Like.refl ops).add y x).add z x, (addE_size z x _).trans (addE_size y x ops), h, hl3, hc3, h3⟩

/-- Alike, and as long. -/
structure LikeS (ops' ops : Array Oper) : Prop where
  like : Like ops' ops
  size : ops'.size = ops.size
theorem LikeS.refl (ops : Array Oper) : LikeS ops ops := ⟨Like.refl ops, rfl⟩
theorem LikeS.add {ops' ops : Array Oper} (x y : Nat) (h : LikeS ops' ops) : LikeS (addE x y ops') ops := ⟨h.like.add x y, (addE_size x y ops').trans h.size⟩
theorem ord_fork' {ops : Array Oper} (x y : Nat) (hxy : Nat.beq x y = false) {n : Nat} {listed : Array Bool} {l : List Nat} (h : OrdL ops n listed l) : OrdL (addE x y ops) n listed l ∨ OrdL (addE y x ops) n listed l :=
  ord_fork (fun e => by rw [e, Nat.beq_refl] at hxy; cases hxy) n listed l h
theorem draw_leaf {C : Ctx} {ops ops' : Array Oper} {k : List Item} {σ : St} {held : List (Nat × Blk)} {l : List Nat} (loud : List Nat) (hl : LikeS ops' ops) (ho : OrdL ops' ops.size (Array.replicate ops.size false) l)
    (h1 : Nat.beq (auto ops' loud).length ops'.size = true) (h2 : chk ops' (auto ops' loud) [] = true) (h : RunO C held σ.nx ops' (auto ops' loud) k σ) :
    ∃ ops' ord, Like ops' ops ∧ ops'.size = ops.size ∧ OrdL ops' ops.size (Array.replicate ops.size false) l ∧ Nat.beq ord.length ops'.size = true ∧ chk ops' ord [] = true ∧ RunO C held σ.nx ops' ord k σ :=
  ⟨ops', auto ops' loud, hl.like, hl.size, ho, h1, h2, h⟩
end Go.AM
