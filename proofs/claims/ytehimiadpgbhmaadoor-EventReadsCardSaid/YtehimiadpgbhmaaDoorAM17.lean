/-
  The abstract machine, seventeenth part: the range over a function, joined; the return behind it. Own work; over any program.
-/
import Derived.Test.YtehimiadpgbhmaaDoorAM16
namespace Go.AM

def parT : List (Nat × Value) → List (Nat × AV) → List (Nat × AV)
  | [], t => t
  | (p, x) :: r, t => parT r ((p, .v x) :: t)

def psOK (lo hi : Nat) : List Nat → Bool
  | [] => true
  | p :: r => match Nat.ble lo p with | true => (match Nat.blt p hi with | true => psOK lo hi r | false => false) | false => false

theorem psOK_mem {lo hi : Nat} : ∀ {l : List Nat}, psOK lo hi l = true → ∀ p ∈ l, lo ≤ p ∧ p < hi
  | [], _, p, h => by cases h
  | q :: r, h, p, hp => by
    simp only [psOK] at h
    split at h
    · rename_i h1
      split at h
      · rename_i h2
        cases hp with
        | head => exact ⟨Nat.le_of_ble_eq_true h1, by simpa using h2⟩
        | tail _ hp => exact psOK_mem h p hp
      · cases h
    · cases h

theorem parT_run {M : Loc} {lo : Nat} : ∀ (L : List (Nat × Value)) (t : List (Nat × AV)) (arr : Array Value), (∀ q ∈ L, lo ≤ q.1 ∧ q.1 < arr.size) → (∀ i x, lk t i = some x → arr[i]? = some (conc M x)) →
    (L.foldl (fun tm q => tm.setIfInBounds q.1 q.2) arr).size = arr.size ∧ (∀ i, i < lo → (L.foldl (fun tm q => tm.setIfInBounds q.1 q.2) arr)[i]? = arr[i]?) ∧
      ∀ i x, lk (parT L t) i = some x → (L.foldl (fun tm q => tm.setIfInBounds q.1 q.2) arr)[i]? = some (conc M x)
  | [], t, arr, _, h => ⟨rfl, fun _ _ => rfl, h⟩
  | (p, v) :: L, t, arr, hb, h => by
    have hp := hb (p, v) (List.mem_cons_self ..)
    simp only at hp
    obtain ⟨h1, h2, h3⟩ := parT_run L ((p, .v v) :: t) (arr.setIfInBounds p v) (fun q hq => by rw [Array.size_setIfInBounds]; exact hb q (List.mem_cons_of_mem _ hq)) (by
      intro i x hx
      simp only [lk] at hx
      split at hx
      · rename_i he
        have e := Nat.eq_of_beq_eq_true he
        subst e; cases hx
        simp [hp.2, conc]
      · rename_i he
        have hne : p ≠ i := fun e => by subst e; simp at he
        rw [Array.getElem?_setIfInBounds, if_neg hne]
        exact h i x hx)
    simp only [List.foldl_cons, parT]
    refine ⟨by rw [h1, Array.size_setIfInBounds], fun i hi => ?_, h3⟩
    rw [h2 i hi, Array.getElem?_setIfInBounds, if_neg (by omega)]

theorem Run.rangeFn {C : Ctx} (hL : Local C.X) {k : List Item} {σ : St} {g : Operand} {ps : Array Tmp} {assign body : Code} {f : FuncId} {vs : List Value} {z : AV}
    (hro : C.b.roundOf = none) (hg : σ.ev g = some z) (hz : ∀ M, conc M z = .func (.func f) #[] vs.toArray) (hent : Enters C.P f)
    (lo : Nat) (t : List (Nat × AV)) (htin : inT σ.t t) (hlo : keysLt lo t = true) (hps : psOK lo C.n.hi ps.toList = true)
    {K : Nat → Prop} {xs : List (List Value)} (hit : Iter C.P f vs K C.w0 xs) (hK : ∀ b, K b → b < C.w0.heap.size ∧ ¬ C.S0 b) (hlen : ∀ x ∈ xs, x.length = ps.size)
    (Inv : List (List Value) → List (Nat × Blk) → Prop) (Stop : List (List Value) → Code → List (Nat × Blk) → Prop) (N : Nat)
    (h0 : List (Nat × Blk)) (hI0 : Inv [] h0) (hin : inT σ.h h0)
    (hround : ∀ D l a0 rc wy fpy pre x h, RoundIn (C.marked D) lo t l wy fpy → pre ++ [x] <+: xs → Inv pre h →
      Run (roundC (C.marked D) lo a0 l rc .ready wy fpy (roundR (C.marked D) t a0 l rc wy fpy (Inv (pre ++ [x])) (Stop (pre ++ [x])))) [.code assign, .beginRound, .code body] ⟨parT (ps.toList.zip x) t, h, N⟩)
    (hdone : ∀ D h, Inv xs h → Run (C.marked D) k ⟨t, h, N⟩)
    (hstop : ∀ D pre c h, pre <+: xs → Stop pre c h → Run (C.marked D) (.code c :: k) ⟨t, h, N⟩) :
    Run C (.code (.rangeFunc g ps assign body) :: k) σ := by
  intro M fp a w hR cs
  let D := w.heap.size
  let l := w.heap.size + 1
  let rc : Loop := { state := .ready, pending := none, fn := C.b.fn, tmps := a.tmps, params := ps, assign, body, defers := D }
  let W1 : World := (w.alloc (.deferred (some []))).alloc (.loop rc)
  let y : Value := .func (.yield l) #[] #[]
  have he : (Instr.enterLoop C.b.fn a.tmps ps assign body C.b.roundOf).run C.P w = .ok (l, [mark D]) W1 := by rw [hro]; exact run_enterLoop_outer C.b.fn a.tmps ps assign body
  have hres : (resolve a.eval (rangeCall g l) 0).run C.P W1 = .ok { target := .fn (.func f) vs.toArray, args := #[y] } W1 := by
    simp [resolve, hR.q.ev hg, hz, Deferred.ofValue, y]
    rfl
  have hinv : (invoke (.fn (.func f) vs.toArray) #[y]).run C.P W1 = .ok (.enter f (y :: vs).toArray) W1 := by
    have : (#[y] ++ vs.toArray : Array Value) = (y :: vs).toArray := by simp
    simp only [invoke, this, hent _ _]
  have s1 := stepR_rangeFunc (P := C.P) (b := C.b) (a := a) (k := k) (cs := cs) (w := w) he hres hinv
  have hws : W1.heap.size = w.heap.size + 2 := by simp only [W1, World.size_alloc]
  have hold : ∀ b, b < w.heap.size → W1.heap[b]? = w.heap[b]? := by
    intro b hb
    simp only [W1]
    rw [heap_alloc_old _ _ b (by rw [World.size_alloc]; omega), heap_alloc_old _ _ b hb]
  have hD : W1.heap[D]? = some (.deferred (some [])) := by
    simp only [W1, D]
    rw [heap_alloc_old _ _ _ (by rw [World.size_alloc]; omega)]
    exact World.alloc_heap_new _ _
  have hl : W1.heap[l]? = some (.loop rc) := by
    have := World.alloc_heap_new (w.alloc (.deferred (some []))) (.loop rc)
    rw [show (w.alloc (.deferred (some []))).heap.size = l by simp only [World.size_alloc, l]] at this
    exact this
  have hblk : ∀ id B, lk h0 id = some B → lk σ.h id = some B := fun id B hB => inT_lk hin id B hB
  let J : List (List Value) → Res := fun pre w fp => ∃ h M fpX, Inv pre h ∧ LoopJ (C.marked D) t a.tmps l rc .ready none h M fpX w fp
  let Js : List (List Value) → Res := fun pre w fp => ∃ c h M fpX, Stop pre c h ∧ LoopJ (C.marked D) t a.tmps l rc .done (some c) h M fpX w fp
  have hLm : Local (C.marked D).X := markX_local hL D
  have hJl : ∀ pre, Local (J pre) := fun pre w w' fp ⟨h, M, fpX, h1, h2⟩ _ hs => ⟨h, M, fpX, h1, h2.moved hLm hs⟩
  have hJsl : ∀ pre, Local (Js pre) := fun pre w w' fp ⟨c, h, M, fpX, h1, h2⟩ _ hs => ⟨c, h, M, fpX, h1, h2.moved hLm hs⟩
  let fp1 : Foot := fun b => (fp b ∨ b = D) ∨ b = l ∨ ∃ id B, lk h0 id = some B ∧ (M id).1 = b
  have hfl : ∀ b, fp b → b < w.heap.size := fun b hb => (hR.fpok b hb).1
  have hml : ∀ id B, lk h0 id = some B → (M id).1 < w.heap.size := fun id B hB => (hR.heap _ _ (hblk _ _ hB)).lt
  have hwle : C.w0.heap.size ≤ w.heap.size := hR.agree.size
  have hfp1 : ∀ b, fp1 b → b < W1.heap.size ∧ (b < C.w0.heap.size → C.S0 b) := by
    intro b hb
    rw [hws]
    rcases hb with (hb | rfl) | rfl | ⟨id, B, hB, rfl⟩
    · exact ⟨by have := hfl b hb; omega, (hR.fpok b hb).2⟩
    · exact ⟨by simp only [D]; omega, fun h => by simp only [D] at h; omega⟩
    · exact ⟨by simp only [l]; omega, fun h => by simp only [l] at h; omega⟩
    · exact ⟨by have := hml _ _ hB; omega, hR.own _ _ (hblk _ _ hB)⟩
  have hW1 : Agree C.S0 C.w0 W1 := ⟨hR.agree.os, hR.agree.tape, hR.agree.output, by rw [hws]; omega, fun b hb hs => by rw [hold b (by omega)]; exact hR.agree.block b hb hs⟩
  have hJ0 : J [] W1 fp1 := by
    refine ⟨h0, M, fun b => fp b ∨ b = D, hI0, ?_⟩
    refine { tmps := fun i x hx => hR.tmps i x (inT_lk htin i x hx), heap := ?_, inj := ?_, own := ?_, apart := ?_, outer := ?_, fpok := ?_, rc := hl, lX := ?_, lnew := ?_, foot := fun b => Iff.rfl }
    · exact fun id B hB => (hR.heap _ _ (hblk _ _ hB)).same (hold _ (hml _ _ hB))
    · exact fun id id' B B' hB hB' e => hR.inj _ _ _ _ (hblk _ _ hB) (hblk _ _ hB') e
    · exact fun id B hB => hR.own _ _ (hblk _ _ hB)
    · intro id B hB
      have := hml _ _ hB
      refine ⟨fun hf => ?_, fun e => by simp only [l] at e; omega⟩
      rcases hf with hf | hf
      · exact hR.apart _ _ (hblk _ _ hB) hf
      · simp only [D] at hf; omega
    · exact ⟨fp, hL w W1 fp hR.outer hfl (fun b hb => hold b (hfl b hb)), fun hf => Nat.lt_irrefl _ (hfl _ hf), hD, fun b => Iff.rfl⟩
    · intro b hb
      exact hfp1 b (.inl hb)
    · intro hf
      rcases hf with hf | hf
      · have := hfl _ hf; simp only [l] at this; omega
      · simp only [l, D] at hf; omega
    · show C.w0.heap.size ≤ l
      simp only [l]; omega
  have hys : ∀ pre x, pre ++ [x] <+: xs → Yields C.P y J Js W1 fp1 pre x := by
    intro pre x hpx wy fpy hJy hgr
    obtain ⟨h, M', fpX, hinvp, hJ⟩ := hJy
    have hx : x.length = ps.size := hlen x (hpx.subset (by simp))
    have hag : Agree C.S0 C.w0 wy := hW1.trans hgr.1 (fun i hi hl => (hfp1 i hi).2 hl)
    have hfy : ∀ b, fpy b → b < C.w0.heap.size → C.S0 b := fun b hb hlt => (hfp1 b ((hgr.2 b hb).2 (by have := hW1.size; omega))).2 hlt
    have hrun := run_yield (P := C.P) (args := x.toArray) hJ.rc (by simpa using hx)
    refine ⟨{ target := .fn (.yield l) #[], args := x.toArray }, _, by simp [Deferred.ofValue, y], by simp only [invoke]; exact hrun, ?_⟩
    intro c cs'
    have hpr := parT_run (M := M') (lo := lo) (ps.toList.zip x) t a.tmps (fun q hq => by
      have := psOK_mem hps q.1 (List.of_mem_zip hq).1
      rw [hR.size]; exact this) hJ.tmps
    have htm : (ps.zip x.toArray).foldl (fun tmps (q : Nat × Value) => tmps.setIfInBounds q.1 q.2) a.tmps = (ps.toList.zip x).foldl (fun tm q => tm.setIfInBounds q.1 q.2) a.tmps := by
      rw [← Array.foldl_toList]; simp
    let a' : Act := { tmps := (ps.toList.zip x).foldl (fun tm q => tm.setIfInBounds q.1 q.2) a.tmps, defers := [] }
    have hI : RoundIn (C.marked D) lo t l wy fpy := ⟨hLm, (hJ.foot l).2 (.inr (.inl rfl)), hag, hfy, hJ.lnew, hlo⟩
    have hrel : Rel (roundC (C.marked D) lo a.tmps l rc .ready wy fpy (roundR (C.marked D) t a.tmps l rc wy fpy (Inv (pre ++ [x])) (Stop (pre ++ [x])))) M' (fun b => fpX b ∨ b = l) ⟨parT (ps.toList.zip x) t, h, N⟩ a' wy := by
      refine { heap := hJ.heap, inj := hJ.inj, own := ?_, apart := ?_, agree := Agree.refl _ _, outer := ⟨fpX, hJ.outer, hJ.lX, hJ.rc, fun b => Iff.rfl⟩, fpok := ?_, size := ?_, frozen := hpr.2.1, tmps := hpr.2.2, defers := rfl }
      · exact fun id B hB _ => (hJ.foot _).2 (.inr (.inr ⟨id, B, hB, rfl⟩))
      · exact fun id B hB hf => hf.elim (hJ.apart _ _ hB).1 (hJ.apart _ _ hB).2
      · intro b hb
        have hb' : fpy b := (hJ.foot b).2 (hb.imp id .inl)
        exact ⟨(hgr.2 b hb').1, fun _ => hb'⟩
      · show a'.tmps.size = C.n.hi
        simp only [a']; rw [hpr.1, hR.size]
    obtain ⟨m, s, zz⟩ := hround D l a.tmps rc wy fpy pre x h hI hpx hinvp M' _ a' wy hrel (c :: cs')
    obtain ⟨v, w', rfl, fp', hg', hv⟩ := zz c cs' rfl
    refine ⟨v, w', ⟨fp', hg', ?_⟩, ?_⟩
    · rcases hv with ⟨hv, hh⟩ | ⟨hv, hh⟩
      · exact .inl ⟨hv, hh⟩
      · exact .inr ⟨hv, hh⟩
    · have hfr : Frame.round l C.b.fn ((ps.zip x.toArray).foldl (fun tmps (q : Nat × Value) => tmps.setIfInBounds q.1 q.2) a.tmps) assign body .normal =
          (roundC (C.marked D) lo a.tmps l rc .ready wy fpy (roundR (C.marked D) t a.tmps l rc wy fpy (Inv (pre ++ [x])) (Stop (pre ++ [x])))).b.atR a' [.code assign, .beginRound, .code body] := by
        rw [htm]; simp [Frame.round, Frame.atR, roundC, Ctx.marked, a']
      exact hfr ▸ s
  have hcall := hit y J Js W1 fp1 hJl hJsl hys hJ0 (fun b hb => (hfp1 b hb).1) (fun b hb hk => (hK b hk).2 ((hfp1 b hb).2 (hK b hk).1))
    ⟨hW1.os, hW1.tape, hW1.output, hW1.size, fun b hb hk => hW1.block b hb (fun hs => by
      have : K b := Classical.byContradiction hk
      exact (hK b this).2 hs)⟩
  obtain ⟨e, w', fr, ⟨v, rfl, fp', hgr, hend⟩, hsteps, _, hleave⟩ := hcall (C.b.atR { a with defers := [mark D] ++ a.defers } (.inRangeFunc l :: k) :: cs)
  have s2 := step_leave_returned (c := C.b.atR { a with defers := [mark D] ++ a.defers } (.inRangeFunc l :: k)) (cs := cs) hleave
  rw [finish_atR_inRangeFunc] at s2
  have hag : Agree C.S0 C.w0 w' := hW1.trans hgr.1 (fun i hi hl => (hfp1 i hi).2 hl)
  have key : ∀ (st : LoopState) (pd : Option Code) (h : List (Nat × Blk)) (M' : Loc) (fpX : Foot), st ≠ .busy → LoopJ (C.marked D) t a.tmps l rc st pd h M' fpX w' fp' →
      Run (C.marked D) ((pd.map Item.code).toList ++ k) ⟨t, h, N⟩ → ∃ m, Steps C.P (lone (C.b.atR a (.code (.rangeFunc g ps assign body) :: k)) cs w) m ∧ C.Z cs m := by
    intro st pd h M' fpX hst hJ hr
    obtain ⟨k1, k2, k3⟩ := hJ.record hLm (o := .loop { rc with state := .exhausted, pending := pd })
    have hrel : Rel (C.marked D) M' fpX ⟨t, h, N⟩ { a with defers := [mark D] ++ a.defers } (w'.putObj l (.loop { rc with state := .exhausted, pending := pd })) := by
      refine { heap := k1, inj := hJ.inj, own := hJ.own, apart := fun id B hB => (hJ.apart _ _ hB).1, agree := ?_, outer := k2, fpok := k3, size := hR.size, frozen := hR.frozen, tmps := hJ.tmps, defers := ?_ }
      · refine agree_putObj hag (fun h => ?_)
        have : C.w0.heap.size ≤ l := hJ.lnew
        exact absurd (show l < C.w0.heap.size from h) (by omega)
      · show [mark D] ++ a.defers = mark D :: C.ds
        rw [hR.defers]; rfl
    obtain ⟨m, s, zz⟩ := hr M' fpX _ _ hrel cs
    have s3 := stepR_endRangeFunc (P := C.P) (b := C.b) (a := { a with defers := [mark D] ++ a.defers }) (k := k) (cs := cs) (run_endLoop (P := C.P) hJ.rc hst)
    exact ⟨m, .head s1 (Steps.trans hsteps (.head s2 (.head s3 s))), zz⟩
  rcases hend with ⟨h, M', fpX, hI, hJ⟩ | ⟨pre, hpre, c, h, M', fpX, hS, hJ⟩
  · exact key .ready none h M' fpX (by simp) hJ (hdone D h hI)
  · exact key .done (some c) h M' fpX (by simp) hJ (hstop D pre c h hpre hS)

/-! ### The return behind ranges over functions -/

/-- A function's surroundings behind some ranges. -/
def fnM (P : Program) (f : FuncId) (n : Nat) (w : World) (S0 : Nat → Prop) (X : Res) (R : Value → World → Prop) : List Nat → Ctx
  | [] => fnC P f n w S0 X R
  | D :: Ds => (fnM P f n w S0 X R Ds).marked D

theorem fnM_of {P : Program} {f : FuncId} {n : Nat} {w : World} {S0 : Nat → Prop} {X : Res} {R : Value → World → Prop} : ∀ Ds : List Nat,
    (fnM P f n w S0 X R Ds).P = P ∧ (fnM P f n w S0 X R Ds).w0 = w ∧ (fnM P f n w S0 X R Ds).S0 = S0 ∧ (fnM P f n w S0 X R Ds).n = ⟨0, n⟩ ∧ (fnM P f n w S0 X R Ds).b = (fnC P f n w S0 X R).b ∧
      (fnM P f n w S0 X R Ds).Z = (fnC P f n w S0 X R).Z ∧ (fnM P f n w S0 X R Ds).t0 = #[]
  | [] => ⟨rfl, rfl, rfl, rfl, rfl, rfl, rfl⟩
  | _ :: Ds => fnM_of Ds

theorem fnM_local {P : Program} {f : FuncId} {n : Nat} {w : World} {S0 : Nat → Prop} {X : Res} {R : Value → World → Prop} (hX : Local X) : ∀ Ds : List Nat, Local (fnM P f n w S0 X R Ds).X
  | [] => hX
  | D :: Ds => markX_local (fnM_local hX Ds) D

theorem leave_marks {P : Program} {f : FuncId} {n : Nat} {w0 : World} {S0 : Nat → Prop} {X : Res} {R : Value → World → Prop} (hX : Local X) {σ : St} {cs : List Frame} : ∀ (Ds : List Nat) {M : Loc} {fp : Foot} {a : Act} {w : World} {todo : List Item},
    Rel (fnM P f n w0 S0 X R Ds) M fp σ a w → ∃ fp' w', Steps P (lone { (fnC P f n w0 S0 X R).b.atR a todo with mode := .returning } cs w) (lone { (fnC P f n w0 S0 X R).b.atR { a with defers := [] } todo with mode := .returning } cs w') ∧
      Rel (fnC P f n w0 S0 X R) M fp' σ { a with defers := [] } w'
  | [], M, fp, a, w, todo, hR => by
    have hd : a.defers = [] := hR.defers
    have : { a with defers := [] } = a := by cases a; simp only at hd; subst hd; rfl
    rw [this]
    exact ⟨fp, w, .refl _ _, hR⟩
  | D :: Ds, M, fp, a, w, todo, hR => by
    obtain ⟨e1, e2, e3, e4, e5, e6, e7⟩ := fnM_of (P := P) (f := f) (n := n) (w := w0) (S0 := S0) (X := X) (R := R) Ds
    obtain ⟨fpX, h1, h2, h3, h4⟩ : markX (fnM P f n w0 S0 X R Ds).X D w fp := hR.outer
    have hd : a.defers = mark D :: (fnM P f n w0 S0 X R Ds).ds := hR.defers
    have s1 := step_collected (P := P) (fr := { (fnC P f n w0 S0 X R).b.atR a todo with mode := .returning }) (cs := cs) (w := w) (by simp) (by simpa [Frame.atR] using hd) rfl (run_takeDeferred (P := P) h3)
    have hne : ∀ id B, lk σ.h id = some B → (M id).1 ≠ D := fun id B hB e => hR.apart _ _ hB ((h4 _).2 (.inr e))
    have hR' : Rel (fnM P f n w0 S0 X R Ds) M fpX σ { a with defers := (fnM P f n w0 S0 X R Ds).ds } (w.putObj D (.deferred none)) := by
      refine { heap := ?_, inj := hR.inj, own := hR.own, apart := ?_, agree := ?_, outer := ?_, fpok := ?_, size := hR.size, frozen := hR.frozen, tmps := hR.tmps, defers := rfl }
      · exact fun id B hB => (hR.heap _ _ hB).same (World.putObj_heap_other (hne _ _ hB))
      · exact fun id B hB hf => hR.apart _ _ hB ((h4 _).2 (.inl hf))
      · exact agree_putObj hR.agree (fun h => (hR.fpok D ((h4 D).2 (.inr rfl))).2 h)
      · exact fnM_local hX Ds w _ fpX h1 (fun b hb => (hR.fpok b ((h4 b).2 (.inl hb))).1) (fun b hb => World.putObj_heap_other (fun e => h2 (e ▸ hb)))
      · intro b hb; rw [World.putObj_size]; exact hR.fpok b ((h4 b).2 (.inl hb))
    obtain ⟨fp', w', s2, hR''⟩ := leave_marks hX Ds (todo := todo) hR'
    exact ⟨fp', w', .head (by simpa [Frame.atR] using s1) s2, hR''⟩

theorem Run.retM {P : Program} {T : Tab} (hT : tabOK P T) {f : FuncId} {fn : Func} {n : Nat} {w0 : World} {S0 : Nat → Prop} {X : Res} (hX : Local X) {R : Value → World → Prop} {σ : St} {k : List Item} {p : Prop} {l : List AV} {Ds : List Nat}
    (hf : P.funcs[f]? = some fn) (h : resOf T w0 S0 σ fn.results.toList = some (p, l)) (hp : p)
    (hR : ∀ M fp a w, Rel (fnC P f n w0 S0 X R) M fp σ a w → R (conc M (resAV l)) w) : Run (fnM P f n w0 S0 X R Ds) (.code .ret :: k) σ := by
  intro M fp a w hr cs
  obtain ⟨e1, e2, e3, e4, e5, e6, e7⟩ := fnM_of (P := P) (f := f) (n := n) (w := w0) (S0 := S0) (X := X) (R := R) Ds
  obtain ⟨fp', w', s, hr'⟩ := leave_marks (cs := cs) hX Ds (todo := .code .ret :: k) hr
  refine ⟨_, by rw [e1, e5]; exact .head (stepR_ret rfl) s, ?_⟩
  rw [e6]
  refine ⟨_, w', _, rfl, rfl, ⟨rfl, rfl, rfl, fn, hf, ?_⟩, hR M fp' _ w' hr'⟩
  exact results_run hT hr' (fn := fn) h hp

theorem Run.finM {P : Program} {T : Tab} (hT : tabOK P T) {f : FuncId} {fn : Func} {n : Nat} {w0 : World} {S0 : Nat → Prop} {X : Res} (hX : Local X) {R : Value → World → Prop} {σ : St} {p : Prop} {l : List AV} {Ds : List Nat}
    (hf : P.funcs[f]? = some fn) (h : resOf T w0 S0 σ fn.results.toList = some (p, l)) (hp : p)
    (hR : ∀ M fp a w, Rel (fnC P f n w0 S0 X R) M fp σ a w → R (conc M (resAV l)) w) : Run (fnM P f n w0 S0 X R Ds) [] σ := by
  intro M fp a w hr cs
  obtain ⟨e1, e2, e3, e4, e5, e6, e7⟩ := fnM_of (P := P) (f := f) (n := n) (w := w0) (S0 := S0) (X := X) (R := R) Ds
  obtain ⟨fp', w', s, hr'⟩ := leave_marks (cs := cs) hX Ds (todo := []) hr
  refine ⟨_, by rw [e1, e5]; exact .head (stepR_end rfl) s, ?_⟩
  rw [e6]
  refine ⟨_, w', _, rfl, rfl, ⟨rfl, rfl, rfl, fn, hf, ?_⟩, hR M fp' _ w' hr'⟩
  exact results_run hT hr' (fn := fn) h hp

end Go.AM
