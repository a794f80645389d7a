/-
  The abstract machine, sixteenth part: the range over a function. Own work; over any program.
-/
import Derived.Test.YtehimiadpgbhmaaDoorAM15
namespace Go.AM

theorem BlkAt.same {M : Loc} {w w' : World} {id : Nat} {B : Blk} (h : BlkAt M w id B) (he : w'.heap[(M id).1]? = w.heap[(M id).1]?) : BlkAt M w' id B := by
  cases B with
  | cells e segs => exact ⟨by rw [he]; exact h.1, h.2⟩
  | row e sz n vs => obtain ⟨h1, cur, h2, h3⟩ := h; exact ⟨h1, cur, by rw [he]; exact h2, h3⟩

theorem lt_of_same {w w' : World} {b : Nat} (h : b < w.heap.size) (he : w'.heap[b]? = w.heap[b]?) : b < w'.heap.size := by
  rw [Array.getElem?_eq_getElem h] at he
  exact (Array.getElem?_eq_some_iff.1 he).1

def mark (D : Nat) : Deferred := { target := .collected D, args := #[] }

def markX (X : Res) (D : Nat) : Res := fun w fp => ∃ fpX, X w fpX ∧ ¬ fpX D ∧ w.heap[D]? = some (.deferred (some [])) ∧ ∀ b, fp b ↔ fpX b ∨ b = D

theorem markX_local {X : Res} (hX : Local X) (D : Nat) : Local (markX X D) := by
  rintro w w' fp ⟨fpX, h1, h2, h3, h4⟩ hlt hs
  exact ⟨fpX, hX w w' fpX h1 (fun b hb => hlt b ((h4 b).2 (.inl hb))) (fun b hb => hs b ((h4 b).2 (.inl hb))), h2, by rw [hs D ((h4 D).2 (.inr rfl))]; exact h3, h4⟩

/-- The surroundings behind a range over a function. -/
def Ctx.marked (C : Ctx) (D : Nat) : Ctx := { C with ds := mark D :: C.ds, X := markX C.X D }

/-- Between the rounds. -/
structure LoopJ (C : Ctx) (t : List (Nat × AV)) (a0 : Array Value) (l : Nat) (rc : Loop) (st : LoopState) (pd : Option Code) (h : List (Nat × Blk)) (M : Loc) (fpX : Foot) (w : World) (fp : Foot) : Prop where
  tmps : ∀ i x, lk t i = some x → a0[i]? = some (conc M x)
  heap : ∀ id B, lk h id = some B → BlkAt M w id B
  inj : ∀ id id' B B', lk h id = some B → lk h id' = some B' → (M id).1 = (M id').1 → id = id'
  own : ∀ id B, lk h id = some B → (M id).1 < C.w0.heap.size → C.S0 (M id).1
  apart : ∀ id B, lk h id = some B → ¬ fpX (M id).1 ∧ (M id).1 ≠ l
  outer : C.X w fpX
  fpok : ∀ b, fpX b → b < w.heap.size ∧ (b < C.w0.heap.size → C.S0 b)
  rc : w.heap[l]? = some (.loop { rc with state := st, pending := pd })
  lX : ¬ fpX l
  lnew : C.w0.heap.size ≤ l
  foot : ∀ b, fp b ↔ fpX b ∨ b = l ∨ ∃ id B, lk h id = some B ∧ (M id).1 = b

section
variable {C : Ctx} {t : List (Nat × AV)} {a0 : Array Value} {l : Nat} {rc : Loop} {st : LoopState} {pd : Option Code} {h : List (Nat × Blk)} {M : Loc} {fpX fp : Foot} {w w' : World}

theorem LoopJ.moved (hL : Local C.X) (hJ : LoopJ C t a0 l rc st pd h M fpX w fp) (hs : ∀ b, fp b → w'.heap[b]? = w.heap[b]?) : LoopJ C t a0 l rc st pd h M fpX w' fp := by
  have hX : ∀ b, fpX b → w'.heap[b]? = w.heap[b]? := fun b hb => hs b ((hJ.foot b).2 (.inl hb))
  refine { hJ with heap := ?_, outer := ?_, fpok := ?_, rc := ?_ }
  · intro id B hB
    exact (hJ.heap _ _ hB).same (hs _ ((hJ.foot _).2 (.inr (.inr ⟨id, B, hB, rfl⟩))))
  · exact hL w w' fpX hJ.outer (fun b hb => (hJ.fpok b hb).1) hX
  · intro b hb
    exact ⟨lt_of_same (hJ.fpok b hb).1 (hX b hb), (hJ.fpok b hb).2⟩
  · rw [hs l ((hJ.foot l).2 (.inr (.inl rfl)))]; exact hJ.rc

/-- The record is turned. -/
theorem LoopJ.record (hL : Local C.X) (hJ : LoopJ C t a0 l rc st pd h M fpX w fp) {o : Obj} :
    (∀ id B, lk h id = some B → BlkAt M (w.putObj l o) id B) ∧ C.X (w.putObj l o) fpX ∧ (∀ b, fpX b → b < (w.putObj l o).heap.size ∧ (b < C.w0.heap.size → C.S0 b)) := by
  refine ⟨fun id B hB => (hJ.heap _ _ hB).same (World.putObj_heap_other (hJ.apart _ _ hB).2), ?_, fun b hb => by rw [World.putObj_size]; exact hJ.fpok b hb⟩
  exact hL w _ fpX hJ.outer (fun b hb => (hJ.fpok b hb).1) (fun b hb => World.putObj_heap_other (fun e => hJ.lX (e ▸ hb)))

theorem agree_putObj {S : Nat → Prop} {w0 w : World} (h : Agree S w0 w) {l : Nat} {o : Obj} (hl : l < w0.heap.size → S l) : Agree S w0 (w.putObj l o) :=
  ⟨h.os, h.tape, h.output, by rw [World.putObj_size]; exact h.size, fun k hk hs => by
    have hne : k ≠ l := fun e => by subst e; exact hs (hl hk)
    rw [World.putObj_heap_other hne]
    exact h.block k hk hs⟩
end

/-- A round's outer part. -/
def roundX (X : Res) (l : Nat) (rc : Loop) (st : LoopState) : Res := fun w fp =>
  ∃ fpX, X w fpX ∧ ¬ fpX l ∧ w.heap[l]? = some (.loop { rc with state := st, pending := none }) ∧ ∀ b, fp b ↔ fpX b ∨ b = l

theorem roundX_local {X : Res} (hX : Local X) (l : Nat) (rc : Loop) (st : LoopState) : Local (roundX X l rc st) := by
  rintro w w' fp ⟨fpX, h1, h2, h3, h4⟩ hlt hs
  exact ⟨fpX, hX w w' fpX h1 (fun b hb => hlt b ((h4 b).2 (.inl hb))) (fun b hb => hs b ((h4 b).2 (.inl hb))), h2, by rw [hs l ((h4 l).2 (.inr rfl))]; exact h3, h4⟩

/-- A round's surroundings. -/
def roundC (C : Ctx) (lo : Nat) (a0 : Array Value) (l : Nat) (rc : Loop) (st : LoopState) (wy : World) (fpy : Foot) (Rr : Value → World → Prop) : Ctx :=
  { P := C.P, w0 := wy, S0 := fpy, X := roundX C.X l rc st, b := { (default : Frame) with fn := C.b.fn, kind := .normal, roundOf := some l }, n := ⟨lo, C.n.hi⟩, t0 := a0, ds := [],
    Z := fun cs m => ∀ c cs', cs = c :: cs' → ∃ v w', m = lone (Frame.finish c v) cs' w' ∧ Rr v w' }

/-- How a round ends: for the next one; with a jump. -/
def roundR (C : Ctx) (t : List (Nat × AV)) (a0 : Array Value) (l : Nat) (rc : Loop) (wy : World) (fpy : Foot) (Next : List (Nat × Blk) → Prop) (Stop : Code → List (Nat × Blk) → Prop) : Value → World → Prop := fun v w' =>
  ∃ fp', Grown fpy wy fp' w' ∧ (v = .bool true ∧ (∃ h M fpX, Next h ∧ LoopJ C t a0 l rc .ready none h M fpX w' fp') ∨
    v = .bool false ∧ (∃ c h M fpX, Stop c h ∧ LoopJ C t a0 l rc .done (some c) h M fpX w' fp'))

def keysLt (lo : Nat) : List (Nat × AV) → Bool
  | [] => true
  | (i, _) :: r => match Nat.blt i lo with | true => keysLt lo r | false => false

theorem keysLt_lk {lo : Nat} : ∀ {l : List (Nat × AV)} {i : Nat} {x : AV}, keysLt lo l = true → lk l i = some x → i < lo
  | [], i, x, _, h => by cases h
  | (j, y) :: r, i, x, hb, h => by
    simp only [keysLt] at hb
    split at hb
    · rename_i hy
      simp only [lk] at h
      split at h
      · rename_i he; have := Nat.eq_of_beq_eq_true he; subst this; simpa using hy
      · exact keysLt_lk hb h
    · cases hb

section
variable {C : Ctx} {lo : Nat} {t : List (Nat × AV)} {a0 : Array Value} {l : Nat} {rc : Loop} {wy : World} {fpy : Foot} {Next : List (Nat × Blk) → Prop} {Stop : Code → List (Nat × Blk) → Prop} {σ : St}

theorem Run.beginRound {Rr : Value → World → Prop} {k : List Item} (hL : Local C.X) (hlw : fpy l) (h : Run (roundC C lo a0 l rc .busy wy fpy Rr) k σ) : Run (roundC C lo a0 l rc .ready wy fpy Rr) (.beginRound :: k) σ := by
  intro M fp a w hR cs
  obtain ⟨fpX, h1, h2, h3, h4⟩ := hR.outer
  have hrun := run_beginRound (P := C.P) h3 rfl
  have hlt : l < w.heap.size := (Array.getElem?_eq_some_iff.1 h3).1
  have hne : ∀ id B, lk σ.h id = some B → (M id).1 ≠ l := fun id B hB e => hR.apart _ _ hB ((h4 _).2 (.inr e))
  have hR' : Rel (roundC C lo a0 l rc .busy wy fpy Rr) M fp σ a (w.putObj l (.loop { rc with state := .busy, pending := none })) := by
    refine { heap := ?_, inj := hR.inj, own := hR.own, apart := hR.apart, agree := ?_, outer := ?_, fpok := ?_, size := hR.size, frozen := hR.frozen, tmps := hR.tmps, defers := hR.defers }
    · exact fun id B hB => (hR.heap _ _ hB).same (World.putObj_heap_other (hne _ _ hB))
    · exact agree_putObj hR.agree (fun _ => hlw)
    · refine ⟨fpX, ?_, h2, World.putObj_heap_same hlt, h4⟩
      exact hL w _ fpX h1 (fun b hb => (hR.fpok b ((h4 b).2 (.inl hb))).1) (fun b hb => World.putObj_heap_other (fun e => h2 (e ▸ hb)))
    · intro b hb; rw [World.putObj_size]; exact hR.fpok b hb
  obtain ⟨m, s, z⟩ := h M fp a _ hR' cs
  exact ⟨m, .head (stepR_beginRound rfl hrun) s, z⟩

/-- The state at a round's end, seen from outside. -/
theorem round_out {Rr : Value → World → Prop} (hL : Local C.X) (hlw : fpy l) (hw0 : Agree C.S0 C.w0 wy) (hfy : ∀ b, fpy b → b < C.w0.heap.size → C.S0 b) (hln : C.w0.heap.size ≤ l) (hlo : keysLt lo t = true)
    {M : Loc} {fp : Foot} {a : Act} {w : World} (hR : Rel (roundC C lo a0 l rc .busy wy fpy Rr) M fp σ a w) (ρ : List (Nat × Nat)) {h' : List (Nat × Blk)}
    (ht : inTR ρ σ.t t) (hh : inHR ρ σ.h h') (ha : AM.apart ρ (keys h') = true) (st : LoopState) (pd : Option Code) :
    ∃ fp' M' fpX, Grown fpy wy fp' (w.putObj l (.loop { rc with state := st, pending := pd })) ∧ LoopJ C t a0 l rc st pd h' M' fpX (w.putObj l (.loop { rc with state := st, pending := pd })) fp' := by
  obtain ⟨fpX, h1, h2, h3, h4⟩ := hR.outer
  have hlt : l < w.heap.size := (Array.getElem?_eq_some_iff.1 h3).1
  have hlk : ∀ id B, lk h' id = some B → lk σ.h (ap ρ id) = some (renB ρ B) := fun id B hB => inHR_lk hh _ _ hB
  have hne : ∀ id B, lk h' id = some B → (M (ap ρ id)).1 ≠ l := fun id B hB e => hR.apart _ _ (hlk _ _ hB) ((h4 _).2 (.inr e))
  refine ⟨fun b => fpX b ∨ b = l ∨ ∃ id B, lk h' id = some B ∧ (M (ap ρ id)).1 = b, fun i => M (ap ρ i), fpX, ⟨agree_putObj hR.agree (fun _ => hlw), ?_⟩, ?_⟩
  · intro b hb
    rw [World.putObj_size]
    rcases hb with hb | rfl | ⟨id, B, hB, rfl⟩
    · exact hR.fpok b ((h4 b).2 (.inl hb))
    · exact ⟨hlt, fun _ => hlw⟩
    · exact ⟨(hR.heap _ _ (hlk _ _ hB)).lt, hR.own _ _ (hlk _ _ hB)⟩
  · refine { tmps := ?_, heap := ?_, inj := ?_, own := ?_, apart := ?_, outer := ?_, fpok := ?_, rc := World.putObj_heap_same hlt, lX := h2, lnew := hln, foot := fun b => Iff.rfl }
    · intro i x hx
      have hfz : a.tmps[i]? = a0[i]? := hR.frozen i (keysLt_lk hlo hx)
      rw [← hfz, hR.tmps i _ (inTR_lk ht i x hx), conc_ren]
    · intro id B hB
      exact (hR.heap _ _ (hlk _ _ hB)).ren.same (World.putObj_heap_other (hne _ _ hB))
    · intro id id' B B' hB hB' e
      exact apart_spec ha (lk_keys hB) (lk_keys hB') (hR.inj _ _ _ _ (hlk _ _ hB) (hlk _ _ hB') e)
    · intro id B hB hl
      exact hfy _ (hR.own _ _ (hlk _ _ hB) (Nat.lt_of_lt_of_le hl hw0.size)) hl
    · exact fun id B hB => ⟨fun hf => hR.apart _ _ (hlk _ _ hB) ((h4 _).2 (.inl hf)), hne _ _ hB⟩
    · exact hL w _ fpX h1 (fun b hb => (hR.fpok b ((h4 b).2 (.inl hb))).1) (fun b hb => World.putObj_heap_other (fun e => h2 (e ▸ hb)))
    · intro b hb
      have := hR.fpok b ((h4 b).2 (.inl hb))
      rw [World.putObj_size]
      exact ⟨this.1, fun hl => hfy _ (this.2 (Nat.lt_of_lt_of_le hl hw0.size)) hl⟩

/-- What is known in a round of its surroundings. -/
structure RoundIn (C : Ctx) (lo : Nat) (t : List (Nat × AV)) (l : Nat) (wy : World) (fpy : Foot) : Prop where
  loc : Local C.X
  lw : fpy l
  w0 : Agree C.S0 C.w0 wy
  fy : ∀ b, fpy b → b < C.w0.heap.size → C.S0 b
  ln : C.w0.heap.size ≤ l
  lo : keysLt lo t = true

theorem Run.roundEnd (hI : RoundIn C lo t l wy fpy) (ρ : List (Nat × Nat)) (h' : List (Nat × Blk)) (hN : Next h') (ht : inTR ρ σ.t t) (hh : inHR ρ σ.h h') (ha : AM.apart ρ (keys h') = true) :
    Run (roundC C lo a0 l rc .busy wy fpy (roundR C t a0 l rc wy fpy Next Stop)) [] σ := by
  intro M fp a w hR cs
  match cs with
  | [] => exact ⟨_, .refl _ _, fun c cs' e => by cases e⟩
  | c :: cs =>
    obtain ⟨fpX, h1, h2, h3, h4⟩ := hR.outer
    obtain ⟨fp', M', fpX', hg, hJ⟩ := round_out hI.loc hI.lw hI.w0 hI.fy hI.ln hI.lo hR ρ ht hh ha .ready none
    refine ⟨_, .one (stepR_round_end rfl rfl (run_endRound (P := C.P) none h3)), fun c' cs' e => ?_⟩
    cases e
    exact ⟨.bool true, _, rfl, fp', hg, .inl ⟨rfl, h', M', fpX', hN, hJ⟩⟩

theorem Run.roundRet (hI : RoundIn C lo t l wy fpy) (ρ : List (Nat × Nat)) (h' : List (Nat × Blk)) {k : List Item} (hN : Stop .ret h') (ht : inTR ρ σ.t t) (hh : inHR ρ σ.h h') (ha : AM.apart ρ (keys h') = true) :
    Run (roundC C lo a0 l rc .busy wy fpy (roundR C t a0 l rc wy fpy Next Stop)) (.code .ret :: k) σ := by
  intro M fp a w hR cs
  match cs with
  | [] => exact ⟨_, .refl _ _, fun c cs' e => by cases e⟩
  | c :: cs =>
    obtain ⟨fpX, h1, h2, h3, h4⟩ := hR.outer
    obtain ⟨fp', M', fpX', hg, hJ⟩ := round_out hI.loc hI.lw hI.w0 hI.fy hI.ln hI.lo hR ρ ht hh ha .done (some .ret)
    refine ⟨_, .one (stepR_round_ret rfl rfl (run_endRound (P := C.P) (some .ret) h3)), fun c' cs' e => ?_⟩
    cases e
    exact ⟨.bool false, _, rfl, fp', hg, .inr ⟨rfl, .ret, h', M', fpX', hN, hJ⟩⟩

theorem Run.roundExit (hI : RoundIn C lo t l wy fpy) (ρ : List (Nat × Nat)) (h' : List (Nat × Blk)) {id : Nat} {k : List Item} (hx : exitTo id k = none) (hN : Stop (.exit id) h') (ht : inTR ρ σ.t t) (hh : inHR ρ σ.h h') (ha : AM.apart ρ (keys h') = true) :
    Run (roundC C lo a0 l rc .busy wy fpy (roundR C t a0 l rc wy fpy Next Stop)) (.code (.exit id) :: k) σ := by
  intro M fp a w hR cs
  match cs with
  | [] => exact ⟨_, .refl _ _, fun c cs' e => by cases e⟩
  | c :: cs =>
    obtain ⟨fpX, h1, h2, h3, h4⟩ := hR.outer
    obtain ⟨fp', M', fpX', hg, hJ⟩ := round_out hI.loc hI.lw hI.w0 hI.fy hI.ln hI.lo hR ρ ht hh ha .done (some (.exit id))
    refine ⟨_, .one (stepR_round_exit rfl rfl hx (run_endRound (P := C.P) (some (.exit id)) h3)), fun c' cs' e => ?_⟩
    cases e
    exact ⟨.bool false, _, rfl, fp', hg, .inr ⟨rfl, .exit id, h', M', fpX', hN, hJ⟩⟩
end
end Go.AM
