/-
  Own work, merged: AM27, AM28, U5, U6, U8, U9, U7, U10, U11, U12, AM29, U13, U15, U16.
-/
import Derived.AtR
import Derived.Below
import Derived.ChangeKeysEq
import Derived.KernelRfl
import Derived.LaidMore
import Derived.Laws.AppendOwn
import Derived.Laws.BytesString
import Derived.Laws.Cells
import Derived.Laws.CopyRow
import Derived.Laws.Entries
import Derived.Laws.Rows
import Derived.Laws.Small
import Derived.Laws.StructEq
import Derived.Lib.LaidTab
import Derived.Lib.TrailingZeros
import Derived.MapKept
import Derived.Maps.AppendAt
import Derived.OpenShut
import Derived.Orders
import Derived.ProofKit
import Derived.RangeFuncNested
import Derived.RangeFuncRecord
import Derived.SevenTiedAt
import Derived.Shelf.Lay
import Derived.Shelf.Strconv.Itoa3
import Derived.Shelf.Strings.Builder1
import Derived.Shelf.Strings.Builder2
import Derived.Shelf.Strings.OnBuilder
import Derived.Stop.Joined
import Derived.Test.YtpfanhbkjajocaaDoorCards
import Derived.Test.YtpfanhbkjajocaaDoorChecked
import Derived.Test.YtpfanhbkjajocaaDoorProg
import Derived.Test.YtpfanhbkjajocaaDoorRows
import Derived.Test.YtpfanhbkjajocaaDoorTie
import Derived.Test.YtpfanhbkjajocaaDoorQCD5843
/-
  The abstract machine, twenty-seventh part: a range over a function within a round of another. Own work; over any program.
-/
namespace Go.AM
open Go.RowKit

theorem Run.rangeFnN {C : Ctx} (hL : Local C.X) {k : List Item} {σ : St} {g : Operand} {ps : Array Tmp} {assign body : Code} {f : FuncId} {vs : List Value} {z : AV}
    {l0 : Nat} (hro : C.b.roundOf = some l0) (hrec : ∀ w fp, C.X w fp → ∃ r, w.heap[l0]? = some (.loop r)) (hg : σ.ev g = some z) (hz : ∀ M, conc M z = .func (.func f) #[] vs.toArray) (hent : Enters C.P f)
    (lo : Nat) (t : List (Nat × AV)) (htin : inT σ.t t) (hlo : keysLt lo t = true) (hps : psOK lo C.n.hi ps.toList = true)
    {K : Nat → Prop} {xs : List (List Value)} (hit : Iter C.P f vs K C.w0 xs) (hK : ∀ b, K b → b < C.w0.heap.size ∧ ¬ C.S0 b) (hlen : ∀ x ∈ xs, x.length = ps.size)
    (Inv : List (List Value) → List (Nat × Blk) → Prop) (Stop : List (List Value) → Code → List (Nat × Blk) → Prop) (N : Nat)
    (h0 : List (Nat × Blk)) (hI0 : Inv [] h0) (hin : inT σ.h h0)
    (hround : ∀ l a0 rc wy fpy pre x h, RoundIn C lo t l wy fpy → pre ++ [x] <+: xs → Inv pre h →
      Run (roundC C lo a0 l rc .ready wy fpy (roundR C t a0 l rc wy fpy (Inv (pre ++ [x])) (Stop (pre ++ [x])))) [.code assign, .beginRound, .code body] ⟨parT (ps.toList.zip x) t, h, N⟩)
    (hdone : ∀ h, Inv xs h → Run C k ⟨t, h, N⟩)
    (hstop : ∀ pre c h, pre <+: xs → Stop pre c h → Run C (.code c :: k) ⟨t, h, N⟩) :
    Run C (.code (.rangeFunc g ps assign body) :: k) σ := by
  intro M fp a w hR cs
  obtain ⟨r0, hr0⟩ := hrec w fp hR.outer
  let l := w.heap.size
  let rc : Loop := { state := .ready, pending := none, fn := C.b.fn, tmps := a.tmps, params := ps, assign, body, defers := r0.defers }
  let W1 : World := w.alloc (.loop rc)
  let y : Value := .func (.yield l) #[] #[]
  have he : (Instr.enterLoop C.b.fn a.tmps ps assign body C.b.roundOf).run C.P w = .ok (l, []) W1 := by rw [hro]; exact run_enterLoop_inner hr0 C.b.fn a.tmps ps assign body
  have hres : (resolve a.eval (rangeCall g l) 0).run C.P W1 = .ok { target := .fn (.func f) vs.toArray, args := #[y] } W1 := by
    simp [resolve, hR.q.ev hg, hz, Deferred.ofValue, y]
    rfl
  have hinv : (invoke (.fn (.func f) vs.toArray) #[y]).run C.P W1 = .ok (.enter f (y :: vs).toArray) W1 := by
    have : (#[y] ++ vs.toArray : Array Value) = (y :: vs).toArray := by simp
    simp only [invoke, this, hent _ _]
  have s1 := stepR_rangeFunc (P := C.P) (b := C.b) (a := a) (k := k) (cs := cs) (w := w) he hres hinv
  have hws : W1.heap.size = w.heap.size + 1 := by simp only [W1, World.size_alloc]
  have hold : ∀ b, b < w.heap.size → W1.heap[b]? = w.heap[b]? := by
    intro b hb
    simp only [W1]
    first | exact heap_alloc_old _ _ hb | exact heap_alloc_old _ _ b hb
  have hl : W1.heap[l]? = some (.loop rc) := by
    exact World.alloc_heap_new w (.loop rc)
  have hblk : ∀ id B, lk h0 id = some B → lk σ.h id = some B := fun id B hB => inT_lk hin id B hB
  let J : List (List Value) → Res := fun pre w fp => ∃ h M fpX, Inv pre h ∧ LoopJ C t a.tmps l rc .ready none h M fpX w fp
  let Js : List (List Value) → Res := fun pre w fp => ∃ c h M fpX, Stop pre c h ∧ LoopJ C t a.tmps l rc .done (some c) h M fpX w fp
  have hLm : Local C.X := hL
  have hJl : ∀ pre, Local (J pre) := fun pre w w' fp ⟨h, M, fpX, h1, h2⟩ _ hs => ⟨h, M, fpX, h1, h2.moved hLm hs⟩
  have hJsl : ∀ pre, Local (Js pre) := fun pre w w' fp ⟨c, h, M, fpX, h1, h2⟩ _ hs => ⟨c, h, M, fpX, h1, h2.moved hLm hs⟩
  let fp1 : Foot := fun b => fp b ∨ b = l ∨ ∃ id B, lk h0 id = some B ∧ (M id).1 = b
  have hfl : ∀ b, fp b → b < w.heap.size := fun b hb => (hR.fpok b hb).1
  have hml : ∀ id B, lk h0 id = some B → (M id).1 < w.heap.size := fun id B hB => (hR.heap _ _ (hblk _ _ hB)).lt
  have hwle : C.w0.heap.size ≤ w.heap.size := hR.agree.size
  have hfp1 : ∀ b, fp1 b → b < W1.heap.size ∧ (b < C.w0.heap.size → C.S0 b) := by
    intro b hb
    rw [hws]
    rcases hb with hb | rfl | ⟨id, B, hB, rfl⟩
    · exact ⟨by have := hfl b hb; omega, (hR.fpok b hb).2⟩
    · exact ⟨by simp only [l]; omega, fun h => by simp only [l] at h; omega⟩
    · exact ⟨by have := hml _ _ hB; omega, hR.own _ _ (hblk _ _ hB)⟩
  have hW1 : Agree C.S0 C.w0 W1 := ⟨hR.agree.os, hR.agree.tape, hR.agree.output, by rw [hws]; omega, fun b hb hs => by rw [hold b (by omega)]; exact hR.agree.block b hb hs⟩
  have hJ0 : J [] W1 fp1 := by
    refine ⟨h0, M, fp, hI0, ?_⟩
    refine { tmps := fun i x hx => hR.tmps i x (inT_lk htin i x hx), heap := ?_, inj := ?_, own := ?_, apart := ?_, outer := ?_, fpok := ?_, rc := hl, lX := ?_, lnew := ?_, foot := fun b => Iff.rfl }
    · exact fun id B hB => (hR.heap _ _ (hblk _ _ hB)).same (hold _ (hml _ _ hB))
    · exact fun id id' B B' hB hB' e => hR.inj _ _ _ _ (hblk _ _ hB) (hblk _ _ hB') e
    · exact fun id B hB => hR.own _ _ (hblk _ _ hB)
    · intro id B hB
      have := hml _ _ hB
      exact ⟨fun hf => hR.apart _ _ (hblk _ _ hB) hf, fun e => by simp only [l] at e; omega⟩
    · exact hL w W1 fp hR.outer hfl (fun b hb => hold b (hfl b hb))
    · intro b hb
      exact hfp1 b (.inl hb)
    · intro hf
      have := hfl _ hf; simp only [l] at this; omega
    · show C.w0.heap.size ≤ l
      simp only [l]; omega
  have hys : ∀ pre x, pre ++ [x] <+: xs → Yields C.P y J Js W1 fp1 pre x := by
    intro pre x hpx wy fpy hJy hgr
    obtain ⟨h, M', fpX, hinvp, hJ⟩ := hJy
    have hx : x.length = ps.size := hlen x (hpx.subset (by simp))
    have hag : Agree C.S0 C.w0 wy := hW1.trans hgr.1 (fun i hi hl => (hfp1 i hi).2 hl)
    have hfy : ∀ b, fpy b → b < C.w0.heap.size → C.S0 b := fun b hb hlt => (hfp1 b ((hgr.2 b hb).2 (by have := hW1.size; omega))).2 hlt
    have hrun := run_yield (P := C.P) (args := x.toArray) hJ.rc (by simpa using hx)
    refine ⟨{ target := .fn (.yield l) #[], args := x.toArray }, _, by simp [Deferred.ofValue, y], by simp only [invoke]; exact hrun, ?_⟩
    intro c cs'
    have hpr := parT_run (M := M') (lo := lo) (ps.toList.zip x) t a.tmps (fun q hq => by
      have := psOK_mem hps q.1 (List.of_mem_zip hq).1
      rw [hR.size]; exact this) hJ.tmps
    have htm : (ps.zip x.toArray).foldl (fun tmps (q : Nat × Value) => tmps.setIfInBounds q.1 q.2) a.tmps = (ps.toList.zip x).foldl (fun tm q => tm.setIfInBounds q.1 q.2) a.tmps := by
      rw [← Array.foldl_toList]; simp
    let a' : Act := { tmps := (ps.toList.zip x).foldl (fun tm q => tm.setIfInBounds q.1 q.2) a.tmps, defers := [] }
    have hI : RoundIn C lo t l wy fpy := ⟨hLm, (hJ.foot l).2 (.inr (.inl rfl)), hag, hfy, hJ.lnew, hlo⟩
    have hrel : Rel (roundC C lo a.tmps l rc .ready wy fpy (roundR C t a.tmps l rc wy fpy (Inv (pre ++ [x])) (Stop (pre ++ [x])))) M' (fun b => fpX b ∨ b = l) ⟨parT (ps.toList.zip x) t, h, N⟩ a' wy := by
      refine { heap := hJ.heap, inj := hJ.inj, own := ?_, apart := ?_, agree := Agree.refl _ _, outer := ⟨fpX, hJ.outer, hJ.lX, hJ.rc, fun b => Iff.rfl⟩, fpok := ?_, size := ?_, frozen := hpr.2.1, tmps := hpr.2.2, defers := rfl }
      · exact fun id B hB _ => (hJ.foot _).2 (.inr (.inr ⟨id, B, hB, rfl⟩))
      · exact fun id B hB hf => hf.elim (hJ.apart _ _ hB).1 (hJ.apart _ _ hB).2
      · intro b hb
        have hb' : fpy b := (hJ.foot b).2 (hb.imp id .inl)
        exact ⟨(hgr.2 b hb').1, fun _ => hb'⟩
      · show a'.tmps.size = C.n.hi
        simp only [a']; rw [hpr.1, hR.size]
    obtain ⟨m, s, zz⟩ := hround l a.tmps rc wy fpy pre x h hI hpx hinvp M' _ a' wy hrel (c :: cs')
    obtain ⟨v, w', rfl, fp', hg', hv⟩ := zz c cs' rfl
    refine ⟨v, w', ⟨fp', hg', ?_⟩, ?_⟩
    · rcases hv with ⟨hv, hh⟩ | ⟨hv, hh⟩
      · exact .inl ⟨hv, hh⟩
      · exact .inr ⟨hv, hh⟩
    · have hfr : Frame.round l C.b.fn ((ps.zip x.toArray).foldl (fun tmps (q : Nat × Value) => tmps.setIfInBounds q.1 q.2) a.tmps) assign body .normal =
          (roundC C lo a.tmps l rc .ready wy fpy (roundR C t a.tmps l rc wy fpy (Inv (pre ++ [x])) (Stop (pre ++ [x])))).b.atR a' [.code assign, .beginRound, .code body] := by
        rw [htm]; simp [Frame.round, Frame.atR, roundC, a']
      exact hfr ▸ s
  have hcall := hit y J Js W1 fp1 hJl hJsl hys hJ0 (fun b hb => (hfp1 b hb).1) (fun b hb hk => (hK b hk).2 ((hfp1 b hb).2 (hK b hk).1))
    ⟨hW1.os, hW1.tape, hW1.output, hW1.size, fun b hb hk => hW1.block b hb (fun hs => by
      have : K b := Classical.byContradiction hk
      exact (hK b this).2 hs)⟩
  obtain ⟨e, w', fr, ⟨v, rfl, fp', hgr, hend⟩, hsteps, _, hleave⟩ := hcall (C.b.atR a (.inRangeFunc l :: k) :: cs)
  have s2 := step_leave_returned (c := C.b.atR a (.inRangeFunc l :: k)) (cs := cs) hleave
  rw [finish_atR_inRangeFunc] at s2
  have hag : Agree C.S0 C.w0 w' := hW1.trans hgr.1 (fun i hi hl => (hfp1 i hi).2 hl)
  have key : ∀ (st : LoopState) (pd : Option Code) (h : List (Nat × Blk)) (M' : Loc) (fpX : Foot), st ≠ .busy → LoopJ C t a.tmps l rc st pd h M' fpX w' fp' →
      Run C ((pd.map Item.code).toList ++ k) ⟨t, h, N⟩ → ∃ m, Steps C.P (lone (C.b.atR a (.code (.rangeFunc g ps assign body) :: k)) cs w) m ∧ C.Z cs m := by
    intro st pd h M' fpX hst hJ hr
    obtain ⟨k1, k2, k3⟩ := hJ.record hLm (o := .loop { rc with state := .exhausted, pending := pd })
    have hrel : Rel C M' fpX ⟨t, h, N⟩ a (w'.putObj l (.loop { rc with state := .exhausted, pending := pd })) := by
      refine { heap := k1, inj := hJ.inj, own := hJ.own, apart := fun id B hB => (hJ.apart _ _ hB).1, agree := ?_, outer := k2, fpok := k3, size := hR.size, frozen := hR.frozen, tmps := hJ.tmps, defers := ?_ }
      · refine agree_putObj hag (fun h => ?_)
        have : C.w0.heap.size ≤ l := hJ.lnew
        exact absurd (show l < C.w0.heap.size from h) (by omega)
      · exact hR.defers
    obtain ⟨m, s, zz⟩ := hr M' fpX _ _ hrel cs
    have s3 := stepR_endRangeFunc (P := C.P) (b := C.b) (a := a) (k := k) (cs := cs) (run_endLoop (P := C.P) hJ.rc hst)
    exact ⟨m, .head s1 (Steps.trans hsteps (.head s2 (.head s3 s))), zz⟩
  rcases hend with ⟨h, M', fpX, hI, hJ⟩ | ⟨pre, hpre, c, h, M', fpX, hS, hJ⟩
  · exact key .ready none h M' fpX (by simp) hJ (hdone h hI)
  · exact key .done (some c) h M' fpX (by simp) hJ (hstop pre c h hpre hS)


theorem roundX_rec {X : Res} {l : Nat} {rc : Loop} {st : LoopState} (w : World) (fp : Foot) (h : roundX X l rc st w fp) : ∃ r, w.heap[l]? = some (.loop r) := by
  obtain ⟨_, _, _, h3, _⟩ := h
  exact ⟨_, h3⟩

end Go.AM

/-
  The abstract machine, twenty-eighth part: functions that change a row which is handed to them and give it back. Own work; over any program.
-/
namespace Go.AM

theorem BlkAt.at_eq {M M' : Loc} {w : World} {id e sz n : Nat} {vs : List Value} (h : BlkAt M w id (.row e sz n vs)) (he : M' id = M id) : BlkAt M' w id (.row e sz n vs) := by
  unfold BlkAt at h ⊢
  simp only [he]
  exact h

theorem RelH.turned {C : Ctx} {M : Loc} {fp : Nat → Prop} {h : List (Nat × Blk)} {w w' : World} (hL : Local C.X) (hR : RelH C M fp h w) {id : Nat} {B0 B : Blk} (h0 : lk h id = some B0)
    (hA : Agree (fun b => b = (M id).1) w w') (hB : BlkAt M w' id B) : RelH C M fp (hset h id B) w' := by
  have hc : ∀ j Bj, lk (hset h id B) j = some Bj → ∃ Bj', lk h j = some Bj' := by
    intro j Bj hj
    rw [lk_hset h0] at hj
    split at hj
    · rename_i e; subst e; exact ⟨_, h0⟩
    · exact ⟨_, hj⟩
  have hnf : ∀ b, fp b → b ≠ (M id).1 := fun b hb e => hR.apart _ _ h0 (e ▸ hb)
  refine { heap := ?_, inj := ?_, own := ?_, apart := ?_, agree := ?_, outer := ?_, fpok := ?_ }
  · intro j Bj hj
    rw [lk_hset h0] at hj
    split at hj
    · rename_i e; subst e; cases hj; exact hB
    · rename_i hne
      have hb := hR.heap _ _ hj
      exact hb.same (hA.block _ hb.lt (fun e => hne (hR.inj _ _ _ _ hj h0 e)))
  · intro i j Bi Bj hi hj e
    obtain ⟨_, h1⟩ := hc _ _ hi
    obtain ⟨_, h2⟩ := hc _ _ hj
    exact hR.inj _ _ _ _ h1 h2 e
  · intro j Bj hj
    obtain ⟨_, h1⟩ := hc _ _ hj
    exact hR.own _ _ h1
  · intro j Bj hj
    obtain ⟨_, h1⟩ := hc _ _ hj
    exact hR.apart _ _ h1
  · exact hR.agree.trans hA fun i hi hl => by subst hi; exact hR.own _ _ h0 hl
  · exact hL w w' fp hR.outer (fun b hb => (hR.fpok b hb).1) (fun b hb => hA.block _ (hR.fpok b hb).1 (hnf b hb))
  · intro b hb
    exact ⟨Nat.lt_of_lt_of_le (hR.fpok b hb).1 hA.size, (hR.fpok b hb).2⟩

/-- A function that turns a row which is handed to it. -/
def Turns (P : Program) (f : FuncId) (xs : List AV) (id : Nat) (B B' : Blk) (r : Value) : Prop :=
  ∀ (M : Loc) (w : World), BlkAt M w id B → GivesR P f (concL M xs) w (fun v w' => v = r ∧ Agree (fun b => b = (M id).1) w w' ∧ BlkAt M w' id B')

theorem Run.callW {C : Ctx} {k : List Item} {σ : St} {ops : Array Oper} {i : Nat} {rest : List Nat} {o : Oper} {c : Call} {g : Operand} {f : FuncId} {caps xs : List AV} {id : Nat} {B B' : Blk} {r : Value} (hL : Local C.X)
    (ho : ops[i]? = some o) (hop : o.op = .call c) (hc : c.callee = .value g) (hg : σ.ev g = some (.fn f caps)) (hxs : evs σ c.args.toList = some xs) (hw : wantOf ops σ o = some .yes) (hent : Enters C.P f)
    (hd : dstOK C.n o.dst = true) (hB : lk σ.h id = some B) (hcon : Turns C.P f (xs ++ caps) id B B' r)
    (h : Run C (.inRegion ops rest :: k) (St.put { σ with h := hset σ.h id B' } o.dst (.v r))) : Run C (.inRegion ops (i :: rest) :: k) σ := by
  refine Run.call (σ' := { σ with h := hset σ.h id B' }) (z := .v r) ho hop hc hg hxs hw hent hd ?_ h
  intro M fp a w hR
  refine Calls.mono' (hcon M w (hR.heap _ _ hB)) fun e w' ⟨v, h1, h2, h3, h4⟩ => ⟨v, h1, M, fp, ?_, by rw [h2]; simp [conc]⟩
  exact { toRelH := hR.toRelH.turned hL hB h3 h4, size := hR.size, frozen := hR.frozen, tmps := hR.tmps, defers := hR.defers }

/-- In a function that turns its first parameter's row. -/
abbrev fnW (P : Program) (f : FuncId) (lo n : Nat) (xs : List AV) (id : Nat) (B B' : Blk) (M : Loc) (w : World) (r : Value) : Ctx :=
  fnL P f lo n (concL M xs).toArray w (footH M (fun _ => False) [(id, B)]) noX (fun v w' => v = r ∧ Agree (fun b => b = (M id).1) w w' ∧ BlkAt M w' id B')

theorem Turns.of_run {P : Program} {f : FuncId} {fn : Func} {c : Code} {xs : List AV} {id nx : Nat} {B B' : Blk} {r : Value} (hf : P.funcs[f]? = some fn) (hb : fn.body = some c)
    (hn : xs.length ≤ fn.ntmps) (hr : ∀ M w, Run (fnW P f xs.length fn.ntmps xs id B B' M w r) [.code c] ⟨argsA 0 xs, [(id, B)], nx⟩) : Turns P f xs id B B' r := by
  intro M w hB
  have hl : ∀ j C, lk [(id, B)] j = some C → j = id ∧ C = B := by
    intro j C h
    simp only [lk] at h
    split at h
    · rename_i e; cases h; exact ⟨Nat.eq_of_beq_eq_true e, rfl⟩
    · cases h
  refine givesL_of_run (h := [(id, B)]) (M := M) (fp := fun _ => False) (X := noX) hf hb hn trivial (fun b h => h.elim) ?_ ?_ (fun _ _ _ h => h) (hr M w)
  · intro j C h; obtain ⟨rfl, rfl⟩ := hl _ _ h; exact hB
  · intro i j C D h1 h2 _; rw [(hl _ _ h1).1, (hl _ _ h2).1]

theorem noXL_local {P : Program} {f : FuncId} {lo n : Nat} {t0 : Array Value} {w : World} {S0 : Nat → Prop} {R : Value → World → Prop} : Local (fnL P f lo n t0 w S0 noX R).X := noX_local

theorem Run.retW {P : Program} {T : Tab} (hT : tabOK P T) {f : FuncId} {fn : Func} {lo n : Nat} {xs : List AV} {id j e sz nn len : Nat} {B : Blk} {vs : List Value} {M : Loc} {w : World} {r : Value} {σ : St} {k : List Item} {p : Prop} {l : List AV}
    (hf : P.funcs[f]? = some fn) (h : resOf T w (footH M (fun _ => False) [(id, B)]) σ fn.results.toList = some (p, l)) (hp : p)
    (hj : j < lo) (hx : xs[j]? = some (.sl id sz 0 len)) (ht : lk σ.t j = some (.sl id sz 0 len)) (hh : lk σ.h id = some (.row e sz nn vs)) (hv : ∀ M, conc M (resAV l) = r) :
    Run (fnW P f lo n xs id B (.row e sz nn vs) M w r) (.code .ret :: k) σ := by
  refine Run.retF hT hf h hp fun M' fp a w' hR => ⟨hv M', ?_, ?_⟩
  · refine ⟨hR.agree.os, hR.agree.tape, hR.agree.output, hR.agree.size, fun b hb hne => hR.agree.block b hb fun h => ?_⟩
    rcases h with h | ⟨i, C, h, e⟩
    · exact h
    · simp only [lk] at h
      split at h
      · rename_i he
        have := Nat.eq_of_beq_eq_true he
        subst this
        exact hne e.symm
      · cases h
  · have h1 := hR.frozen j hj
    rw [hR.tmps j _ ht] at h1
    have h2 := concL_get (M := M) hx
    have h3 : (concL M xs).toArray[j]? = (concL M xs)[j]? := by simp
    have h4 : some (conc M' (.sl id sz 0 len)) = some (conc M (.sl id sz 0 len)) := h1.trans (h3.trans h2)
    simp only [conc, Option.some.injEq, Value.slice.injEq, Addr.mk.injEq, Nat.sub_zero] at h4
    exact (hR.heap _ _ hh).at_eq (Prod.ext h4.1.1.symm h4.2.2.symm)

theorem Turns.at {P : Program} {f : FuncId} {xs0 xs : List AV} {id e sz n : Nat} {vs vs' : List Value} {r : Value} (H : Turns P f xs0 0 (.row e sz n vs) (.row e sz n vs') r) (hx : ∀ M, concL M xs = concL (fun _ => M id) xs0) :
    Turns P f xs id (.row e sz n vs) (.row e sz n vs') r := fun M w hB => by
  rw [hx M]
  exact H (fun _ => M id) w hB
end Go.AM

/-
  The next places of a choice: step. Own work.
-/
namespace Go.Proofs.YtpfanhbkjajocaaDoor
open Go.AM
set_option maxRecDepth 100000

/-- The first places of a list as low as can be. -/
def rg (b : List Int) (j : Nat) : List Int := ((List.range j).map fun j : Nat => (j : Int)) ++ b.drop j
theorem rg_len (b : List Int) (j : Nat) (h : j ≤ b.length) : (rg b j).length = b.length := by
  simp [rg]; omega
theorem rg_set (b : List Int) (j : Nat) (h : j < b.length) : (rg b j).set j (j : Int) = rg b (j + 1) := by
  unfold rg
  rw [List.set_append_right _ _ (by simp), List.range_succ, List.map_append]
  simp only [List.length_map, List.length_range, Nat.sub_self, List.map_cons, List.map_nil, List.append_assoc, List.singleton_append]
  congr 1
  rw [List.drop_eq_getElem_cons h, List.set_cons_zero]
theorem encI_at (l : List Int) (i : Nat) (h : i < (encI l).length) : (encI l)[i]'h = Value.int .i64 (l[i]'(by simpa [encI] using h)) := by simp [encI]
theorem encI_set (l : List Int) (j : Nat) (x : Int) : (encI l).set j (.int .i64 x) = encI (l.set j x) := by
  rw [encI, encI, List.map_set]

def mostI (l : List Int) (n : Int) (i : Nat) : Int := if i + 1 < l.length then l.getD (i + 1) 0 else n
def bumpI (l : List Int) (i : Nat) : List Int := rg (l.set i (l.getD i 0 + 1)) i
def stepFrom (l : List Int) (n : Int) : Nat → Nat → Option (List Int)
  | _, 0 => none
  | i, d + 1 => if l.getD i 0 + 1 < mostI l n i then some (bumpI l i) else stepFrom l n (i + 1) d
def stepI (l : List Int) (n : Int) : Option (List Int) := stepFrom l n 0 l.length

theorem intAt_enc (l : List Int) (i : Nat) : intAt (encI l) i = l.getD i 0 := by
  unfold intAt
  rw [List.getD_eq_getElem?_getD, encI, List.getElem?_map]
  cases l[i]? <;> rfl

theorem step_ok (l : List Int) (n k : Nat) (hk : l.length = k) (hk64 : k ≤ 64) (hn : n ≤ 64) (ha : ∀ x ∈ l, 0 ≤ x ∧ x ≤ 64) :
    Turns Tryd.prog 67 [.sl 0 1 0 k, .v (.int .i64 (n : Int))] 0 (.row 3 1 k (encI l)) (.row 3 1 k (encI ((stepI l n).getD l))) (.bool (stepI l n).isSome) := by
  refine Turns.of_run (nx := 1) Tryd.func67 rfl (by show 2 ≤ 47; decide) fun M w => ?_
  refine RunF_sound tab_ok noX_local 100 [] _ _ rfl ?_ ?_
  · simp
  have hge : ∀ i, 0 ≤ l.getD i 0 ∧ l.getD i 0 ≤ 64 := fun i => by
    rw [List.getD_eq_getElem?_getD]
    cases h : l[i]? with
    | none => simp
    | some x => exact ha x (List.mem_of_getElem? h)
  suffices H : ∀ (d i : Nat), i + d = k → stepI l n = stepFrom l n i d → ∀ σ, inT σ.t [(0, .sl 0 1 0 k), (1, .v (.int .i64 (n : Int))), (9, .v (.int .i64 (k : Int))), (10, .v (.int .i64 (i : Int)))] → inT σ.h [(0, .row 3 1 k (encI l))] → Run _ _ σ by
    exact H k 0 (by omega) (by rw [stepI, hk]) _ ⟨rfl, rfl, rfl, rfl, trivial⟩ ⟨rfl, trivial⟩
  intro d
  induction d with
  | zero =>
    intro i hi he σ ht hh
    refine Run.to ?_ ht hh (n' := 1)
    rw [he]
    refine RunF_sound tab_ok noX_local 100 [false] _ _ rfl ?_ ?_
    · simp; omega
    exact Run.retW tab_ok Tryd.func67 rfl trivial (j := 0) (Nat.zero_lt_succ _) rfl rfl rfl fun M => rfl
  | succ d ih =>
    intro i hi he σ ht hh
    refine Run.to ?_ ht hh (n' := 1)
    have hil : i < k := by omega
    have h1 := hge i
    have h2 := hge (i + 1)
    have hw1 : IntKind.i64.wrap ((i : Int) + 1) = ((i + 1 : Nat) : Int) := wrap_succ (by omega)
    have hst : stepI l n = if l.getD i 0 + 1 < mostI l n i then some (bumpI l i) else stepFrom l n (i + 1) d := he
    have hm : mostI l n i = if i + 1 < k then l.getD (i + 1) 0 else (n : Int) := by rw [mostI, hk]
    have hil' : i < l.length := by omega
    have e0 : l.getD i 0 = l[i] := by rw [List.getD_eq_getElem?_getD, List.getElem?_eq_getElem hil']; rfl
    have e1 : ∀ h : i + 1 < l.length, l.getD (i + 1) 0 = l[i + 1] := fun h => by rw [List.getD_eq_getElem?_getD, List.getElem?_eq_getElem h]; rfl
    have hwl : IntKind.i64.wrap (l.getD i 0 + 1) = l.getD i 0 + 1 := wrap_i64 (by omega) (by omega)
    by_cases c2 : l.getD i 0 + 1 < mostI l n i
    · rw [if_pos c2] at hst
      rw [hst]
      by_cases c1 : i + 1 < k
      · rw [hm, if_pos c1] at c2
        refine RunF_sound tab_ok noX_local 100 [true, true, true] _ _ rfl ?_ ?_
        · simp only [Nat.zero_add, Nat.mul_one, hw1, Int.toNat_natCast, intAt_enc, hwl]
          simp [hil, c1, encI_len, encI_at, hk, okCell]
          (try rw [e0] at c2)
          (try rw [e1 (by omega)] at c2)
          (repeat' refine And.intro ?_ ?_) <;> first | omega | rfl
        suffices G : ∀ (m j : Nat), j + m = i → ∀ σ, inT σ.t [(0, .sl 0 1 0 k), (37, .v (.int .i64 (i : Int))), (38, .v (.int .i64 (j : Int)))] → inT σ.h [(0, .row 3 1 k (encI (rg (l.set i (l.getD i 0 + 1)) j)))] → Run _ _ σ by
          refine G i 0 (by omega) _ ⟨rfl, rfl, rfl, trivial⟩ ⟨?_, trivial⟩
          show some (Blk.row 3 1 k ((encI l).set ((0 + i) * 1) (.int .i64 (IntKind.i64.wrap (intAt (encI l) ((0 + i) * 1) + 1))))) = _
          rw [Nat.zero_add, Nat.mul_one, intAt_enc, wrap_i64 (by omega) (by omega), encI_set]
          simp [rg]
        intro m
        induction m with
        | zero =>
          intro j hj σ ht hh
          obtain rfl : j = i := by omega
          refine Run.to ?_ ht hh (n' := 1)
          refine RunF_sound tab_ok noX_local 100 [false] _ _ rfl ?_ ?_
          · simp
          exact Run.retW tab_ok Tryd.func67 rfl trivial (j := 0) (Nat.zero_lt_succ _) rfl rfl rfl fun M => rfl
        | succ m ih2 =>
          intro j hj σ ht hh
          refine Run.to ?_ ht hh (n' := 1)
          have hjl : j < (l.set i (l.getD i 0 + 1)).length := by rw [List.length_set]; omega
          refine RunF_sound tab_ok noX_local 100 [true] _ _ rfl ?_ ?_
          · simp only [encI_len, rg_len _ _ (Nat.le_of_lt hjl), List.length_set, hk]
            simp
            exact ⟨by omega, by omega, rfl, by omega⟩
          refine ih2 (j + 1) (by omega) _ ⟨rfl, rfl, i64_eq (wrap_succ (by omega)), trivial⟩ ⟨?_, trivial⟩
          show some (Blk.row 3 1 k ((encI (rg (l.set i (l.getD i 0 + 1)) j)).set ((0 + j) * 1) (.int .i64 (j : Int)))) = _
          rw [Nat.zero_add, Nat.mul_one, encI_set, rg_set _ _ hjl]
      · rw [hm, if_neg c1] at c2
        refine RunF_sound tab_ok noX_local 100 [true, false, true] _ _ rfl ?_ ?_
        · simp only [Nat.zero_add, Nat.mul_one, hw1, Int.toNat_natCast, intAt_enc, hwl]
          simp [hil, encI_len, encI_at, hk, okCell]
          (try rw [e0] at c2)
          (try rw [e1 (by omega)] at c2)
          (repeat' refine And.intro ?_ ?_) <;> first | omega | rfl
        suffices G : ∀ (m j : Nat), j + m = i → ∀ σ, inT σ.t [(0, .sl 0 1 0 k), (37, .v (.int .i64 (i : Int))), (38, .v (.int .i64 (j : Int)))] → inT σ.h [(0, .row 3 1 k (encI (rg (l.set i (l.getD i 0 + 1)) j)))] → Run _ _ σ by
          refine G i 0 (by omega) _ ⟨rfl, rfl, rfl, trivial⟩ ⟨?_, trivial⟩
          show some (Blk.row 3 1 k ((encI l).set ((0 + i) * 1) (.int .i64 (IntKind.i64.wrap (intAt (encI l) ((0 + i) * 1) + 1))))) = _
          rw [Nat.zero_add, Nat.mul_one, intAt_enc, wrap_i64 (by omega) (by omega), encI_set]
          simp [rg]
        intro m
        induction m with
        | zero =>
          intro j hj σ ht hh
          obtain rfl : j = i := by omega
          refine Run.to ?_ ht hh (n' := 1)
          refine RunF_sound tab_ok noX_local 100 [false] _ _ rfl ?_ ?_
          · simp
          exact Run.retW tab_ok Tryd.func67 rfl trivial (j := 0) (Nat.zero_lt_succ _) rfl rfl rfl fun M => rfl
        | succ m ih2 =>
          intro j hj σ ht hh
          refine Run.to ?_ ht hh (n' := 1)
          have hjl : j < (l.set i (l.getD i 0 + 1)).length := by rw [List.length_set]; omega
          refine RunF_sound tab_ok noX_local 100 [true] _ _ rfl ?_ ?_
          · simp only [encI_len, rg_len _ _ (Nat.le_of_lt hjl), List.length_set, hk]
            simp
            exact ⟨by omega, by omega, rfl, by omega⟩
          refine ih2 (j + 1) (by omega) _ ⟨rfl, rfl, i64_eq (wrap_succ (by omega)), trivial⟩ ⟨?_, trivial⟩
          show some (Blk.row 3 1 k ((encI (rg (l.set i (l.getD i 0 + 1)) j)).set ((0 + j) * 1) (.int .i64 (j : Int)))) = _
          rw [Nat.zero_add, Nat.mul_one, encI_set, rg_set _ _ hjl]
    · rw [if_neg c2] at hst
      by_cases c1 : i + 1 < k
      · rw [hm, if_pos c1] at c2
        refine RunF_sound tab_ok noX_local 100 [true, true, false] _ _ rfl ?_ ?_
        · simp only [Nat.zero_add, Nat.mul_one, hw1, Int.toNat_natCast, intAt_enc, hwl]
          simp [hil, c1, encI_len, encI_at, hk]
          (try rw [e0] at c2)
          (try rw [e1 (by omega)] at c2)
          (repeat' refine And.intro ?_ ?_) <;> first | omega | rfl
        exact ih (i + 1) (by omega) hst _ ⟨rfl, rfl, rfl, i64_eq hw1, trivial⟩ ⟨rfl, trivial⟩
      · rw [hm, if_neg c1] at c2
        refine RunF_sound tab_ok noX_local 100 [true, false, false] _ _ rfl ?_ ?_
        · simp only [Nat.zero_add, Nat.mul_one, hw1, Int.toNat_natCast, intAt_enc, hwl]
          simp [hil, encI_len, encI_at, hk]
          (try rw [e0] at c2)
          (try rw [e1 (by omega)] at c2)
          (repeat' refine And.intro ?_ ?_) <;> first | omega | rfl
        exact ih (i + 1) (by omega) hst _ ⟨rfl, rfl, rfl, i64_eq hw1, trivial⟩ ⟨rfl, trivial⟩
theorem step_enters : Enters Tryd.prog 67 := enters_mk Tryd.func67 (by decide) rfl
end Go.Proofs.YtpfanhbkjajocaaDoor

/-
  Choose: what it goes through. Own work.
-/
namespace Go.Proofs.YtpfanhbkjajocaaDoor
open Go.AM
set_option maxRecDepth 100000

/-! ### The choices, one after another -/

inductive Chain (n : Int) : List Int → List (List Int) → Prop
  | stop {l : List Int} : stepI l n = none → Chain n l [l]
  | next {l l' : List Int} {ls : List (List Int)} : stepI l n = some l' → Chain n l' ls → Chain n l (l :: ls)

def GoodI (n : Int) (l : List Int) : Prop := ∀ x ∈ l, 0 ≤ x ∧ x < n

theorem stepFrom_some {l : List Int} {n : Int} {l' : List Int} : ∀ (d i : Nat), stepFrom l n i d = some l' → ∃ j, i ≤ j ∧ j < i + d ∧ l' = bumpI l j ∧ l.getD j 0 + 1 < mostI l n j
  | 0, i, h => by cases h
  | d + 1, i, h => by
    rw [stepFrom] at h
    split at h
    · rename_i h1
      exact ⟨i, Nat.le_refl _, by omega, (Option.some.inj h).symm, h1⟩
    · obtain ⟨j, h1, h2, h3, h4⟩ := stepFrom_some d (i + 1) h
      exact ⟨j, by omega, by omega, h3, h4⟩

theorem stepI_some {l l' : List Int} {n : Int} (h : stepI l n = some l') : ∃ j, j < l.length ∧ l' = bumpI l j ∧ l.getD j 0 + 1 < mostI l n j := by
  obtain ⟨j, _, h2, h3, h4⟩ := stepFrom_some _ _ h
  exact ⟨j, by omega, h3, h4⟩

theorem getD_mem {l : List Int} {j : Nat} (h : j < l.length) : l.getD j 0 ∈ l := by
  rw [List.getD_eq_getElem?_getD, List.getElem?_eq_getElem h]
  exact List.getElem_mem h

theorem good_step {l l' : List Int} {n : Int} (hg : GoodI n l) (hl : (l.length : Int) ≤ n) (h : stepI l n = some l') : GoodI n l' ∧ l'.length = l.length := by
  obtain ⟨j, h1, rfl, h3⟩ := stepI_some h
  have hmost : mostI l n j ≤ n := by
    unfold mostI
    split
    · rename_i h4
      have := hg _ (getD_mem h4)
      omega
    · omega
  have hj := hg _ (getD_mem h1)
  refine ⟨fun x hx => ?_, ?_⟩
  · unfold bumpI rg at hx
    rcases List.mem_append.1 hx with hx | hx
    · obtain ⟨i, hi, rfl⟩ := List.mem_map.1 hx
      have := List.mem_range.1 hi
      omega
    · rcases List.mem_or_eq_of_mem_set (List.mem_of_mem_drop hx) with hx | rfl
      · exact hg x hx
      · omega
  · unfold bumpI
    rw [rg_len _ _ (by rw [List.length_set]; omega), List.length_set]

/-- The places rise. -/
def IncI (n : Int) (l : List Int) : Prop := ∀ i, i < l.length → l.getD i 0 + 1 ≤ mostI l n i

theorem rg_get (b : List Int) (j i : Nat) (h : j ≤ b.length) : (rg b j)[i]? = if i < j then some (i : Int) else b[i]? := by
  unfold rg
  by_cases c : i < j
  · rw [if_pos c, List.getElem?_append_left (by simpa using c)]; simp [c]
  · rw [if_neg c, List.getElem?_append_right (by simp; omega), List.getElem?_drop]
    simp only [List.length_map, List.length_range]
    congr 1; omega

theorem inc_ge {n : Int} {l : List Int} (hg : GoodI n l) (h : IncI n l) : ∀ i, i < l.length → (i : Int) ≤ l.getD i 0
  | 0, hi => by have := hg _ (getD_mem hi); omega
  | i + 1, hi => by
    have h1 := inc_ge hg h i (by omega)
    have h2 := h i (by omega)
    rw [mostI, if_pos hi] at h2
    omega

theorem inc_step {l l' : List Int} {n : Int} (hg : GoodI n l) (hi : IncI n l) (h : stepI l n = some l') : IncI n l' := by
  obtain ⟨j, h1, rfl, h3⟩ := stepI_some h
  have hb : ∀ i, (bumpI l j).getD i 0 = if i < j then (i : Int) else if i = j then l.getD j 0 + 1 else l.getD i 0 := by
    intro i
    rw [bumpI, List.getD_eq_getElem?_getD, rg_get _ _ _ (by rw [List.length_set]; omega)]
    by_cases c : i < j
    · rw [if_pos c, if_pos c]; rfl
    · rw [if_neg c, if_neg c]
      by_cases d : i = j
      · subst d; simp [h1]
      · rw [if_neg d, List.getElem?_set_ne (by omega), List.getD_eq_getElem?_getD]
  have hbl : (bumpI l j).length = l.length := by rw [bumpI, rg_len _ _ (by rw [List.length_set]; omega), List.length_set]
  have hge := inc_ge hg hi j h1
  intro i hil
  rw [hbl] at hil
  have hii := hi i hil
  unfold mostI at h3 hii ⊢
  rw [hbl, hb, hb]
  by_cases c : i < j
  · rw [if_pos c, if_pos (by omega)]
    by_cases d : i + 1 < j
    · rw [if_pos d]; omega
    · have : i + 1 = j := by omega
      rw [if_neg d, if_pos this]; omega
  · rw [if_neg c]
    by_cases d : i = j
    · subst d
      rw [if_pos rfl]
      split
      · rename_i e
        rw [if_pos e] at h3
        rw [if_neg (by omega), if_neg (by omega)]; omega
      · rename_i e
        rw [if_neg e] at h3; omega
    · rw [if_neg d]
      split
      · rename_i e
        rw [if_pos e] at hii
        rw [if_neg (by omega), if_neg (by omega)]; exact hii
      · rename_i e
        rw [if_neg e] at hii; exact hii

def vI : List Int → Nat
  | [] => 0
  | x :: r => x.toNat + 65 * vI r

theorem vI_lt {x x' : Int} {r : List Int} (hx : x.toNat < x'.toNat) : ∀ (a a' : List Int), a.length = a'.length → (∀ y ∈ a, y.toNat ≤ 64) → vI (a ++ x :: r) < vI (a' ++ x' :: r)
  | [], [], _, _ => by simp only [List.nil_append, vI]; omega
  | [], _ :: _, h, _ => by simp at h
  | _ :: _, [], h, _ => by simp at h
  | y :: a, y' :: a', h, hy => by
    have ih := vI_lt (r := r) hx a a' (by simpa using h) (fun z hz => hy z (List.mem_cons_of_mem _ hz))
    have := hy y List.mem_cons_self
    simp only [List.cons_append, vI]
    omega

theorem vI_bound : ∀ l : List Int, (∀ y ∈ l, y.toNat ≤ 64) → vI l < 65 ^ l.length
  | [], _ => by simp [vI]
  | x :: r, h => by
    have ih := vI_bound r fun z hz => h z (List.mem_cons_of_mem _ hz)
    have := h x List.mem_cons_self
    simp only [vI, List.length_cons, Nat.pow_succ]
    omega

theorem vI_step {l l' : List Int} {n : Int} (hn : n ≤ 64) (hg : GoodI n l) (h : stepI l n = some l') : vI l < vI l' := by
  obtain ⟨j, h1, rfl, h3⟩ := stepI_some h
  have hj := hg _ (getD_mem h1)
  have e1 : l = l.take j ++ l.getD j 0 :: l.drop (j + 1) := by
    have : l.getD j 0 = l[j] := by rw [List.getD_eq_getElem?_getD, List.getElem?_eq_getElem h1]; rfl
    rw [this, ← List.drop_eq_getElem_cons h1, List.take_append_drop]
  have e2 : bumpI l j = ((List.range j).map fun j : Nat => (j : Int)) ++ (l.getD j 0 + 1) :: l.drop (j + 1) := by
    unfold bumpI rg
    rw [List.drop_eq_getElem_cons (by rw [List.length_set]; exact h1), List.getElem_set_self, List.drop_set_of_lt (by omega)]
  rw [e2]
  calc vI l = vI (l.take j ++ l.getD j 0 :: l.drop (j + 1)) := by rw [← e1]
    _ < _ := vI_lt (by omega) _ _ (by simp; omega) fun y hy => by have := hg y (List.mem_of_mem_take hy); omega

theorem chain_ex {n : Int} (hn : n ≤ 64) : ∀ (m : Nat) (l : List Int), 65 ^ l.length - vI l = m → GoodI n l → (l.length : Int) ≤ n → ∃ ls, Chain n l ls := by
  intro m
  induction m using Nat.strongRecOn with
  | _ m ih =>
    intro l hm hg hl
    cases h : stepI l n with
    | none => exact ⟨_, .stop h⟩
    | some l' =>
      obtain ⟨hg', hl'⟩ := good_step hg hl h
      have h1 := vI_step hn hg h
      have h2 := vI_bound l' fun y hy => by have := hg' y hy; omega
      rw [hl'] at h2
      obtain ⟨ls, hls⟩ := ih (65 ^ l'.length - vI l') (by rw [hl']; omega) l' rfl hg' (by rw [hl']; exact hl)
      exact ⟨_, .next h hls⟩

def rangeI (k : Nat) : List Int := (List.range k).map fun j : Nat => (j : Int)
theorem good_range {n : Int} {k : Nat} (h : (k : Int) ≤ n) : GoodI n (rangeI k) := fun x hx => by
  obtain ⟨i, hi, rfl⟩ := List.mem_map.1 hx
  have := List.mem_range.1 hi
  omega
theorem rangeI_get (k i : Nat) : (rangeI k).getD i 0 = if i < k then (i : Int) else 0 := by
  rw [List.getD_eq_getElem?_getD, rangeI, List.getElem?_map]
  by_cases h : i < k
  · simp [h]
  · simp [h]
theorem inc_range {n : Int} {k : Nat} (h : (k : Int) ≤ n) : IncI n (rangeI k) := fun i hi => by
  have hi' : i < k := by simpa [rangeI] using hi
  have hl : (rangeI k).length = k := by simp [rangeI]
  rw [mostI, hl, rangeI_get, if_pos hi', rangeI_get]
  split
  · omega
  · omega
theorem rangeI_len (k : Nat) : (rangeI k).length = k := by simp [rangeI]

/-- The numbers of some places, as a set. -/
def setOf (E : List Nat) (l : List Int) : BitVec 64 := l.foldl (fun t i => t ||| 1#64 <<< (E.getD i.toNat 0)) 0#64
theorem setOf_snoc (E : List Nat) (l : List Int) (i : Int) : setOf E (l ++ [i]) = setOf E l ||| 1#64 <<< (E.getD i.toNat 0) := by
  simp [setOf, List.foldl_append]

def encBs (l : List (BitVec 64)) : List (List Value) := l.map fun x => [Value.int .u64 (un x)]

/-- What Choose goes through. -/
inductive Chosen (x : BitVec 64) (k : Int) : List (BitVec 64) → Prop
  | out : (k < 0 ∨ k > ((bitsL x).length : Int)) → Chosen x k []
  | mk {ls : List (List Int)} : 0 ≤ k → k ≤ ((bitsL x).length : Int) → Chain ((bitsL x).length : Int) (rangeI k.toNat) ls → Chosen x k (ls.map (setOf (bitsL x)))

theorem chosen_ex (x : BitVec 64) (k : Int) : ∃ xs, Chosen x k xs := by
  by_cases h : k < 0 ∨ k > ((bitsL x).length : Int)
  · exact ⟨_, .out h⟩
  · have hl := bitsL_len_le x
    obtain ⟨ls, hls⟩ := chain_ex (n := ((bitsL x).length : Int)) (by omega) _ (rangeI k.toNat) rfl (good_range (by omega)) (by rw [rangeI_len]; omega)
    exact ⟨_, .mk (by omega) (by omega) hls⟩
end Go.Proofs.YtpfanhbkjajocaaDoor

/-
  The reference's Within. Own work.
-/
namespace Go.Proofs.YtpfanhbkjajocaaDoor
open Go.AM
set_option maxRecDepth 100000

/-- The numbers whose places are bits of m, as far as the place i. -/
def wP (E : List Nat) (m : BitVec 64) (i : Nat) : BitVec 64 := (List.range i).foldl (fun t j => if m.getLsbD j = true then t ||| 1#64 <<< (E.getD j 0) else t) 0#64
theorem wP_succ (E : List Nat) (m : BitVec 64) (i : Nat) : wP E m (i + 1) = if m.getLsbD i = true then wP E m i ||| 1#64 <<< (E.getD i 0) else wP E m i := by
  simp [wP, List.range_succ, List.foldl_append]
def wL (E : List Nat) (m : BitVec 64) : BitVec 64 := wP E m E.length

theorem eq1_bit (x : BitVec 64) (i : Nat) : (band .u64 (un (x >>> i)) 1 = 1) ↔ x.getLsbD i = true := by
  have := bit_eq x (i : Int)
  rw [shr_un, Int.toNat_natCast] at this
  rw [← this]; simp

theorem withinR_ok (x m : BitVec 64) (w : World) : Gives Tryd.prog 65 [.int .u64 (un x), .int .u64 (un m)] w (.int .u64 (un (wL (bitsL x) m))) := by
  refine Gives.of_run Tryd.func65 rfl (by show 2 ≤ 29; decide) ?_
  have hl64 := bitsL_len_le x
  have hlt : ∀ i ∈ bitsL x, i < 64 := fun i hi => by unfold bitsL at hi; simpa using (List.mem_filter.1 hi).1
  refine RunF_sound tab_ok noX_local 100 [] _ _ rfl ?_ ?_
  · simp
  refine Run.callR noX_local rfl rfl rfl rfl rfl rfl listR_enters rfl (fun M w' _ _ => listR_ok x w') ?_
  rintro v w2 w1 S1 hag hag2 ⟨p, c, rfl, hc, hs, hnew⟩ hS1
  have hB1 := (Based.refl w).call hag hag2 hS1
  rw [listL_len] at *
  have hsE : ∀ i (h : i < (bitsL x).length), p = some (p.getD default) ∧ w1.cell? ((p.getD default).add i) = some (.int .i64 ((bitsL x)[i] : Int)) := fun i h => by
    have := hs i (by rw [listL_len]; exact h)
    simpa [listL] using this
  generalize bitsL x = E at *
  refine ⟨.v (.slice p E.length c), fun M => rfl, ?_⟩
  refine RunF_sound tab_ok noX_local 100 [] _ _ rfl ?_ ?_
  · simp
  suffices H : ∀ (d k : Nat), k + d = E.length → ∀ σ, inT σ.t [(1, .v (.int .u64 (un m))), (5, .v (.slice p E.length c)), (6, .v (.int .u64 (un (wP E m k)))), (7, .v (.int .i64 (k : Int)))] → inT σ.h [] → Run _ _ σ by
    exact H E.length 0 (by omega) _ ⟨rfl, rfl, rfl, rfl, trivial⟩ trivial
  intro d
  induction d with
  | zero =>
    intro k hk σ ht hh
    refine Run.to ?_ ht hh (n' := 0)
    refine RunF_sound tab_ok noX_local 100 [false] _ _ rfl ?_ ?_
    · simp; omega
    refine Run.retB (Ds := []) tab_ok noX_local hB1 Tryd.func65 rfl trivial (fun M => ?_)
    rw [wL, ← (show k = E.length by omega)]; rfl
  | succ d ih =>
    intro k hk σ ht hh
    refine Run.to ?_ ht hh (n' := 0)
    have hkl : k < E.length := by omega
    obtain ⟨e1, e2⟩ := hsE k hkl
    have hS : ¬ S1 ((p.getD default).add k).block := by rw [add_block]; exact hS1.new _ (hnew _ e1).1
    have hy : E[k] < 64 := hlt _ (List.getElem_mem hkl)
    have hnx := wP_succ E m k
    have hg : E.getD k 0 = E[k] := by rw [List.getD_eq_getElem?_getD, List.getElem?_eq_getElem hkl]; rfl
    have hwk : IntKind.u64.wrap (k : Int) = (k : Int) := wrap_small k (by omega) (by omega)
    rw [hg] at hnx
    by_cases cc : m.getLsbD k = true
    · rw [if_pos cc] at hnx
      refine RunF_sound tab_ok noX_local 100 [true, true] _ _ rfl ?_ ?_
      · simp only [Nat.mul_one, Int.toNat_natCast, e2, hwk]
        simp [hS]
        (repeat' refine And.intro ?_ ?_) <;> first | omega | exact e1 | exact (eq1_bit m k).2 cc
      simp only [Nat.mul_one, Int.toNat_natCast, e2]
      refine Run.callFn (r := .int .u64 (un (withL (wP E m k) (E[k] : Int)))) noX_local rfl rfl rfl rfl rfl rfl rfl withR_enters rfl (fun w' _ => withR_ok (wP E m k) (E[k] : Int) w') ?_
      have hw : withL (wP E m k) (E[k] : Int) = wP E m (k + 1) := by rw [hnx, withL, if_pos (by omega), Int.toNat_natCast]
      rw [hw]
      refine RunF_sound tab_ok noX_local 100 [] _ _ rfl ?_ ?_
      · simp
      exact ih (k + 1) (by omega) _ ⟨rfl, rfl, rfl, i64_eq (wrap_succ (by omega)), trivial⟩ trivial
    · rw [if_neg cc] at hnx
      refine RunF_sound tab_ok noX_local 100 [true, false] _ _ rfl ?_ ?_
      · simp only [hwk]
        simp
        (repeat' refine And.intro ?_ ?_) <;> first | omega | exact fun h => cc ((eq1_bit m k).1 h)
      refine ih (k + 1) (by omega) _ ⟨rfl, rfl, ?_, i64_eq (wrap_succ (by omega)), trivial⟩ trivial
      rw [hnx]; rfl
theorem withinR_enters : Enters Tryd.prog 65 := enters_mk Tryd.func65 (by decide) rfl
end Go.Proofs.YtpfanhbkjajocaaDoor

/-
  The sets within a set, one after another: the law. Own work.
-/
namespace Go.Proofs.YtpfanhbkjajocaaDoor
open Go.AM
set_option maxRecDepth 100000

theorem mem_bitsL (x : BitVec 64) (b : Nat) : b ∈ bitsL x ↔ b < 64 ∧ x.getLsbD b = true := by
  unfold bitsL; simp
theorem bitsL_rise (x : BitVec 64) : (bitsL x).Pairwise (· < ·) := by
  unfold bitsL
  exact List.Pairwise.filter _ List.pairwise_lt_range

theorem wP_bit (E : List Nat) (hE : ∀ i ∈ E, i < 64) (m : BitVec 64) (b : Nat) (hb : b < 64) : ∀ i, i ≤ E.length → ((wP E m i).getLsbD b = true ↔ ∃ j, ∃ h : j < E.length, j < i ∧ m.getLsbD j = true ∧ E[j] = b)
  | 0, _ => by simp [wP]
  | i + 1, hi => by
    have ih := wP_bit E hE m b hb i (by omega)
    have hi' : i < E.length := by omega
    have hg : E.getD i 0 = E[i] := by rw [List.getD_eq_getElem?_getD, List.getElem?_eq_getElem hi']; rfl
    have hy := hE _ (List.getElem_mem hi')
    rw [wP_succ, hg]
    by_cases c : m.getLsbD i = true
    · rw [if_pos c, BitVec.getLsbD_or, Bool.or_eq_true, ih, getLsbD_one_shl _ _ hy, decide_eq_true_eq]
      constructor
      · rintro (⟨j, h, h1, h2, h3⟩ | rfl)
        · exact ⟨j, h, by omega, h2, h3⟩
        · exact ⟨i, hi', by omega, c, rfl⟩
      · rintro ⟨j, h, h1, h2, h3⟩
        by_cases e : j = i
        · subst e; exact .inr h3.symm
        · exact .inl ⟨j, h, by omega, h2, h3⟩
    · rw [if_neg c, ih]
      constructor
      · rintro ⟨j, h, h1, h2, h3⟩
        exact ⟨j, h, by omega, h2, h3⟩
      · rintro ⟨j, h, h1, h2, h3⟩
        have : j ≠ i := fun e => by subst e; exact c h2
        exact ⟨j, h, by omega, h2, h3⟩

theorem wL_bit (x m : BitVec 64) (b : Nat) (hb : b < 64) : (wL (bitsL x) m).getLsbD b = true ↔ ∃ j, ∃ h : j < (bitsL x).length, m.getLsbD j = true ∧ (bitsL x)[j] = b := by
  rw [wL, wP_bit _ (fun i hi => ((mem_bitsL x i).1 hi).1) m b hb _ (Nat.le_refl _)]
  constructor
  · rintro ⟨j, h, _, h2, h3⟩; exact ⟨j, h, h2, h3⟩
  · rintro ⟨j, h, h2, h3⟩; exact ⟨j, h, h, h2, h3⟩

theorem rise_lt {x : BitVec 64} {i j : Nat} (hi : i < (bitsL x).length) (hj : j < (bitsL x).length) (h : i < j) : (bitsL x)[i] < (bitsL x)[j] := List.pairwise_iff_getElem.1 (bitsL_rise x) i j hi hj h
theorem rise_inj {x : BitVec 64} {i j : Nat} (hi : i < (bitsL x).length) (hj : j < (bitsL x).length) (h : (bitsL x)[i] = (bitsL x)[j]) : i = j := by
  rcases Nat.lt_trichotomy i j with c | c | c
  · have := rise_lt hi hj c; omega
  · exact c
  · have := rise_lt hj hi c; omega

theorem wL_at (x m : BitVec 64) (i : Nat) (hi : i < (bitsL x).length) : (wL (bitsL x) m).getLsbD (bitsL x)[i] = m.getLsbD i := by
  have hb := ((mem_bitsL x _).1 (List.getElem_mem hi)).1
  rw [Bool.eq_iff_iff, wL_bit x m _ hb]
  constructor
  · rintro ⟨j, h, h1, h2⟩
    rwa [rise_inj h hi h2] at h1
  · exact fun h => ⟨i, hi, h, rfl⟩

theorem neg_bit (c : BitVec 64) (b : Nat) (hb : b < 64) : (-c).getLsbD b = (c.getLsbD b ^^ decide (∃ j, j < b ∧ c.getLsbD j = true)) := by
  rw [BitVec.getLsbD_neg]
  simp [hb]

theorem succ_bit (m : BitVec 64) (i : Nat) (hi : i < 64) : (m + 1#64).getLsbD i = ((!m.getLsbD i) ^^ decide (∃ j, j < i ∧ m.getLsbD j = false)) := by
  have : m + 1#64 = -(~~~m) := by rw [BitVec.neg_eq_not_add, BitVec.not_not]
  rw [this, neg_bit _ _ hi, BitVec.getLsbD_not]
  simp only [hi, decide_true, Bool.true_and]
  congr 2
  apply propext
  constructor
  · rintro ⟨j, h1, h2⟩
    rw [BitVec.getLsbD_not] at h2
    exact ⟨j, h1, by simpa [show j < 64 by omega] using h2⟩
  · rintro ⟨j, h1, h2⟩
    exact ⟨j, h1, by rw [BitVec.getLsbD_not, h2]; simp; omega⟩

/-- The set that comes behind t among those within s. -/
def nextS (s t : BitVec 64) : BitVec 64 := (t - s) &&& s

theorem sub_of_within (s t : BitVec 64) (h : ∀ b, b < 64 → t.getLsbD b = true → s.getLsbD b = true) : t - s = -(s &&& ~~~t) := by
  have h1 : t &&& (s &&& ~~~t) = 0#64 := by
    apply BitVec.eq_of_getLsbD_eq
    intro b hb
    simp [BitVec.getLsbD_and, BitVec.getLsbD_not]
    intro h1 _ _; exact h1
  have h2 : t + (s &&& ~~~t) = s := by
    rw [BitVec.add_eq_or_of_and_eq_zero _ _ h1]
    apply BitVec.eq_of_getLsbD_eq
    intro b hb
    rw [BitVec.getLsbD_or, BitVec.getLsbD_and, BitVec.getLsbD_not]
    have := h b hb
    cases ht : t.getLsbD b <;> cases hs : s.getLsbD b <;> simp_all
  have h3 : t - s = t - (t + (s &&& ~~~t)) := by rw [h2]
  rw [h3, BitVec.sub_eq_add_neg, BitVec.neg_add]
  rw [BitVec.sub_eq_add_neg, ← BitVec.add_assoc, BitVec.add_right_neg, BitVec.zero_add]

theorem next_within (x m : BitVec 64) : nextS x (wL (bitsL x) m) = wL (bitsL x) (m + 1#64) := by
  have hsub : ∀ b, b < 64 → (wL (bitsL x) m).getLsbD b = true → x.getLsbD b = true := fun b hb h => by
    obtain ⟨j, hj, _, rfl⟩ := (wL_bit x m b hb).1 h
    exact ((mem_bitsL x _).1 (List.getElem_mem hj)).2
  apply BitVec.eq_of_getLsbD_eq
  intro b hb
  rw [nextS, BitVec.getLsbD_and, sub_of_within _ _ hsub, neg_bit _ _ hb]
  by_cases hx : x.getLsbD b = true
  · obtain ⟨i, hi, rfl⟩ := List.getElem_of_mem ((mem_bitsL x b).2 ⟨hb, hx⟩)
    have hi64 : i < 64 := Nat.lt_of_lt_of_le hi (bitsL_len_le x)
    rw [hx, Bool.and_true, wL_at _ _ _ hi, succ_bit _ _ hi64]
    congr 1
    · rw [BitVec.getLsbD_and, BitVec.getLsbD_not, hx, wL_at _ _ _ hi]
      simp [hb]
    · congr 1
      apply propext
      constructor
      · rintro ⟨j, h1, h2⟩
        rw [BitVec.getLsbD_and, BitVec.getLsbD_not, Bool.and_eq_true] at h2
        obtain ⟨j', hj', rfl⟩ := List.getElem_of_mem ((mem_bitsL x j).2 ⟨by omega, h2.1⟩)
        refine ⟨j', ?_, ?_⟩
        · rcases Nat.lt_or_ge j' i with c | c
          · exact c
          · exfalso
            rcases Nat.lt_or_eq_of_le c with c | c
            · have := rise_lt hi hj' c; omega
            · subst c; omega
        · have := h2.2
          rw [wL_at _ _ _ hj'] at this
          revert this
          cases m.getLsbD j' <;> simp
      · rintro ⟨j, h1, h2⟩
        have hj : j < (bitsL x).length := by omega
        have hlt := rise_lt hj hi h1
        refine ⟨(bitsL x)[j], hlt, ?_⟩
        rw [BitVec.getLsbD_and, BitVec.getLsbD_not, wL_at _ _ _ hj, h2, ((mem_bitsL x _).1 (List.getElem_mem hj)).2]
        simp; omega
  · have : x.getLsbD b = false := by simpa using hx
    rw [this, Bool.and_false, eq_comm]
    rw [Bool.eq_false_iff]
    intro h
    obtain ⟨j, hj, _, rfl⟩ := (wL_bit x _ b hb).1 h
    exact hx ((mem_bitsL x _).1 (List.getElem_mem hj)).2

theorem within_all (x m : BitVec 64) : wL (bitsL x) m = x ↔ ∀ i, i < (bitsL x).length → m.getLsbD i = true := by
  constructor
  · intro h i hi
    rw [← wL_at x m i hi, h]
    exact ((mem_bitsL x _).1 (List.getElem_mem hi)).2
  · intro h
    apply BitVec.eq_of_getLsbD_eq
    intro b hb
    rw [Bool.eq_iff_iff, wL_bit x m b hb]
    constructor
    · rintro ⟨j, hj, _, rfl⟩
      exact ((mem_bitsL x _).1 (List.getElem_mem hj)).2
    · intro hx
      obtain ⟨i, hi, rfl⟩ := List.getElem_of_mem ((mem_bitsL x b).2 ⟨hb, hx⟩)
      exact ⟨i, hi, h i hi, rfl⟩

theorem ofNat_bit (q i : Nat) (hi : i < 64) : (BitVec.ofNat 64 q).getLsbD i = q.testBit i := by
  rw [BitVec.getLsbD_ofNat]; simp [hi]

theorem within_last (x : BitVec 64) (q : Nat) (hq : q < 2 ^ (bitsL x).length) : wL (bitsL x) (BitVec.ofNat 64 q) = x ↔ q + 1 = 2 ^ (bitsL x).length := by
  have hl := bitsL_len_le x
  rw [within_all]
  constructor
  · intro h
    have : q = 2 ^ (bitsL x).length - 1 := by
      apply Nat.eq_of_testBit_eq
      intro i
      rw [Nat.testBit_two_pow_sub_one]
      by_cases c : i < (bitsL x).length
      · rw [← ofNat_bit q i (by omega), h i c]; simp [c]
      · rw [Nat.testBit_lt_two_pow (Nat.lt_of_lt_of_le hq (Nat.pow_le_pow_right (by decide) (by omega)))]; simp [c]
    have h2 : 0 < 2 ^ (bitsL x).length := Nat.pow_pos (by decide)
    omega
  · intro h i hi
    rw [ofNat_bit q i (by omega), show q = 2 ^ (bitsL x).length - 1 by omega, Nat.testBit_two_pow_sub_one]
    simpa using hi

/-- The sets within a set, in their order. -/
def subsF (x : BitVec 64) (q : Nat) : BitVec 64 := wL (bitsL x) (BitVec.ofNat 64 q)
theorem subsF_0 (x : BitVec 64) : subsF x 0 = 0#64 := by
  apply BitVec.eq_of_getLsbD_eq
  intro b hb
  have h0 : (0#64).getLsbD b = false := by simp
  rw [h0, Bool.eq_false_iff]
  intro h
  obtain ⟨j, hj, h1, _⟩ := (wL_bit x _ b hb).1 h
  simp at h1
theorem subsF_next (x : BitVec 64) (q : Nat) : nextS x (subsF x q) = subsF x (q + 1) := by
  rw [subsF, next_within, subsF]
  congr 1
  apply BitVec.eq_of_toNat_eq
  simp [BitVec.toNat_add]
def subsL (x : BitVec 64) (k : Nat) : List (BitVec 64) := (List.range k).map (subsF x)
end Go.Proofs.YtpfanhbkjajocaaDoor

/-
  Choose is an iterator. Own work.
-/
namespace Go.Proofs.YtpfanhbkjajocaaDoor
open Go.AM
set_option maxRecDepth 100000

theorem repL_ints (k : Nat) : repL k (Value.int .i64 0).cells.toList = encI (List.replicate k 0) := by
  induction k with
  | zero => rfl
  | succ k ih => rw [repL, ih]; rfl

def chooseK (b c : Nat) : Nat → Prop := fun k => k = 0 ∨ k = b ∨ k = c

set_option maxHeartbeats 400000 in
theorem choose_iter (x : BitVec 64) (k : Int) (b c : Nat) (w0 : World) (hb : WordAt w0 b x) (hc : w0.cell? ⟨c, 0, none⟩ = some (.int .i64 k)) (hT : TabAt w0) (hs0 : 0 < w0.heap.size) (xs : List (BitVec 64)) (hch : Chosen x k xs) :
    Iter Tryd.prog 66 [.pointer (some ⟨b, 0, none⟩), .pointer (some ⟨c, 0, none⟩)] (chooseK b c) w0 (encBs xs) := by
  refine Iter.of_run Tryd.func66 rfl (by show 3 ≤ 57; decide) ?_
  intro y J Js w fp hJ hJs hy hag hfp R hR
  have hbw : w.cell? ⟨b, 0, none⟩ = some (.int .u64 (un x)) := hag.cell hb (fun h => h (.inr (.inl rfl)))
  have hcw : w.cell? ⟨c, 0, none⟩ = some (.int .i64 k) := hag.cell hc (fun h => h (.inr (.inr rfl)))
  have hTw : TabAt w := hT.agree hag (fun h => h (.inl rfl))
  have hsw : 0 < w.heap.size := Nat.lt_of_lt_of_le hs0 hag.size
  have hf0 : ¬ fp 0 := fun h => hfp 0 h (.inl rfl)
  have hfb : ¬ fp b := fun h => hfp b h (.inr (.inl rfl))
  have hfc : ¬ fp c := fun h => hfp c h (.inr (.inr rfl))
  have hres : (Tryd.f66).results = #[] := rfl
  have hlL : listL x = (bitsL x).map fun k : Nat => (k : Int) := rfl
  have hl64 := bitsL_len_le x
  have hElt : ∀ i ∈ bitsL x, i < 64 := fun i hi => by unfold bitsL at hi; simpa using (List.mem_filter.1 hi).1
  refine RunF_sound tab_ok (hJ []) 100 [] _ _ rfl ?_ ?_
  · simp only [fnC_w0, fnC_S0, hbw]
    simp [hfb]
  simp only [fnC_w0, hbw]
  refine Run.callH (hJ []) (.sl 0 1 0 (listL x).length) [(0, .row 3 1 (listL x).length (encI (listL x)))] 1 rfl rfl rfl rfl rfl rfl listS_enters rfl rfl rfl rfl rfl (fun M w' _ hA => (listS_ok x w' (hTw.agree hA hf0) (Nat.lt_of_lt_of_le hsw hA.size)).to [(0, 9)] rfl ⟨rfl, trivial⟩ rfl) ?_
  rw [hlL]
  have hout : (k < 0 ∨ k > ((bitsL x).length : Int)) → xs = [] := fun h => by cases hch with | out _ => rfl | mk h1 h2 _ => omega
  have hin : 0 ≤ k → k ≤ ((bitsL x).length : Int) → ∃ ls, xs = ls.map (setOf (bitsL x)) ∧ Chain ((bitsL x).length : Int) (rangeI k.toNat) ls := fun h1 h2 => by
    cases hch with
    | out h => omega
    | mk _ _ h => exact ⟨_, rfl, h⟩
  clear hch hlL
  generalize bitsL x = E at *
  have hEl : (E.map fun k : Nat => (k : Int)).length = E.length := by simp
  have hLE0 : E.length = E.length := rfl
  rw [hEl]
  by_cases h1 : k < 0
  · obtain rfl := hout (.inl h1)
    refine RunF_sound tab_ok (hJ []) 100 [true, true] _ _ rfl ?_ ?_
    · simp only [fnC_w0, fnC_S0, hcw]
      simp [hfc, h1]
    exact Run.retI Tryd.func66 hres fun v w' fp' hg hX => hR v w' fp' [] hg (.inl ⟨rfl, hX⟩)
  by_cases h2 : k > (E.length : Int)
  · obtain rfl := hout (.inr h2)
    refine RunF_sound tab_ok (hJ []) 100 [false, true] _ _ rfl ?_ ?_
    · simp only [fnC_w0, fnC_S0, hcw]
      simp [hfc, h1, h2]
    exact Run.retI Tryd.func66 hres fun v w' fp' hg hX => hR v w' fp' [] hg (.inl ⟨rfl, hX⟩)
  obtain ⟨kn, rfl⟩ := Int.eq_ofNat_of_zero_le (show 0 ≤ k by omega)
  have hkn : kn ≤ E.length := by omega
  refine RunF_sound tab_ok (hJ []) 100 [false, false] _ _ rfl ?_ ?_
  · simp only [fnC_w0, fnC_S0, hcw]
    simp [hfc]
    omega
  simp only [fnC_w0, hcw]
  refine Run.mkSlice (l := kn) (c := kn) tab_ok (hJ []) rfl rfl rfl rfl rfl rfl rfl rfl rfl ?_ (Nat.le_refl _) ?_ (by decide) (by decide) ?_
  · show 8 * kn ≤ 281474976710656
    omega
  · show kn ≤ 9223372036854775807
    omega
  refine RunF_sound tab_ok (hJ []) 100 [] _ _ rfl ?_ ?_
  · simp
  generalize hLE : E.map (fun k : Nat => (k : Int)) = L at *
  suffices F : ∀ (m j : Nat), j + m = kn → ∀ σ, inT σ.t [(0, .v y), (4, .sl 0 1 0 E.length), (5, .sl 1 1 0 kn), (23, .v (.int .i64 (kn : Int))), (24, .v (.int .i64 (j : Int)))] →
      inT σ.h [(1, .row 3 1 kn (encI (rg (List.replicate kn 0) j))), (0, .row 3 1 E.length (encI L))] → Run (fnC Tryd.prog 66 (Tryd.f66).ntmps w fp (J []) R) _ σ by
    refine F kn 0 (by omega) _ ⟨rfl, rfl, rfl, rfl, rfl, trivial⟩ ⟨?_, rfl, trivial⟩
    show some (Blk.row 3 1 kn (repL kn (Value.int .i64 0).cells.toList)) = _
    rw [repL_ints]; simp [rg]
  intro m
  induction m with
  | succ m ih =>
    intro j hj σ ht hh
    refine Run.to ?_ ht hh (n' := 2)
    have hjl : j < (List.replicate kn (0 : Int)).length := by rw [List.length_replicate]; omega
    refine RunF_sound tab_ok (hJ []) 100 [true] _ _ rfl ?_ ?_
    · simp only [encI_len, rg_len _ _ (Nat.le_of_lt hjl), List.length_replicate]
      simp
      (repeat' refine And.intro ?_ ?_) <;> first | omega | rfl
    refine ih (j + 1) (by omega) _ ⟨rfl, rfl, rfl, rfl, i64_eq (wrap_succ (by omega)), trivial⟩ ⟨?_, rfl, trivial⟩
    show some (Blk.row 3 1 kn ((encI (rg (List.replicate kn 0) j)).set ((0 + j) * 1) (.int .i64 (j : Int)))) = _
    rw [Nat.zero_add, Nat.mul_one, encI_set, rg_set _ _ hjl]
  | zero =>
    intro j hj σ ht hh
    obtain rfl : j = kn := by omega
    have hrg : rg (List.replicate j 0) j = rangeI j := by simp [rg, rangeI]
    rw [hrg] at hh
    refine Run.to ?_ ht hh (n' := 2)
    refine RunF_sound tab_ok (hJ []) 100 [false] _ _ rfl ?_ ?_
    · simp
    obtain ⟨ls0, rfl, hc0⟩ := hin (by omega) (by omega)
    rw [Int.toNat_natCast] at hc0
    suffices H : ∀ (ls : List (List Int)) (l : List Int) (pre : List (List Value)), Chain (E.length : Int) l ls → l.length = j → GoodI (E.length : Int) l → pre ++ encBs (ls.map (setOf E)) = encBs ((ls0.map (setOf E))) →
        ∀ σ, inT σ.t [(0, .v y), (4, .sl 0 1 0 E.length), (5, .sl 1 1 0 j)] → inT σ.h [(1, .row 3 1 j (encI l)), (0, .row 3 1 E.length (encI L))] → Run (fnC Tryd.prog 66 (Tryd.f66).ntmps w fp (J pre) R) _ σ by
      exact H ls0 (rangeI j) [] hc0 (rangeI_len j) (good_range (by omega)) rfl _ ⟨rfl, rfl, rfl, trivial⟩ ⟨rfl, rfl, trivial⟩
    intro ls
    induction ls with
    | nil => intro l pre hcn; cases hcn
    | cons l0 ls ih =>
      intro l pre hcn hlen hg hp σ ht hh
      obtain rfl : l0 = l := by cases hcn <;> rfl
      refine Run.to ?_ ht hh (n' := 2)
      refine RunF_sound tab_ok (hJ pre) 100 [] _ _ rfl ?_ ?_
      · simp
      suffices G : ∀ (m i : Nat), i + m = j → ∀ σ, inT σ.t [(0, .v y), (4, .sl 0 1 0 E.length), (5, .sl 1 1 0 j), (7, .v (.int .u64 (un (setOf E (l0.take i))))), (32, .sl 1 1 0 j), (33, .v (.int .i64 (j : Int))), (34, .v (.int .i64 (i : Int)))] →
          inT σ.h [(1, .row 3 1 j (encI l0)), (0, .row 3 1 E.length (encI L))] → Run (fnC Tryd.prog 66 (Tryd.f66).ntmps w fp (J pre) R) _ σ by
        exact G j 0 (by omega) _ ⟨rfl, rfl, rfl, rfl, rfl, rfl, rfl, trivial⟩ ⟨rfl, rfl, trivial⟩
      intro m
      induction m with
      | succ m ih2 =>
        intro i hi σ ht hh
        refine Run.to ?_ ht hh (n' := 2)
        have hil : i < l0.length := by omega
        have hx := hg _ (List.getElem_mem hil)
        have hgi : l0.getD i 0 = l0[i] := by rw [List.getD_eq_getElem?_getD, List.getElem?_eq_getElem hil]; rfl
        have hLg : L.getD (l0[i].toNat) 0 = ((E.getD l0[i].toNat 0 : Nat) : Int) := by
          rw [← hLE, List.getD_eq_getElem?_getD, List.getD_eq_getElem?_getD, List.getElem?_map]
          cases E[l0[i].toNat]? <;> rfl
        have hE : E.getD l0[i].toNat 0 < 64 := by
          have h3 : l0[i].toNat < E.length := by omega
          rw [List.getD_eq_getElem?_getD, List.getElem?_eq_getElem h3]
          exact hElt _ (List.getElem_mem h3)
        refine RunF_sound tab_ok (hJ pre) 100 [true] _ _ rfl ?_ ?_
        · simp only [Nat.zero_add, Nat.mul_one, Int.toNat_natCast, intAt_enc, hgi, hLg]
          simp
          exact ⟨by omega, by simp [encI, hil], hx, by rw [← hLE]; simp [encI, show l0[i].toNat < E.length by omega]⟩
        refine ih2 (i + 1) (by omega) _ ⟨rfl, rfl, rfl, ?_, rfl, rfl, i64_eq (wrap_succ (by omega)), trivial⟩ ⟨rfl, rfl, trivial⟩
        refine u64_eq ?_
        simp only [Nat.zero_add, Nat.mul_one, Int.toNat_natCast, intAt_enc, hgi, hLg]
        rw [shl1_un, bor_un, List.take_succ_eq_append_getElem hil, setOf_snoc]
        rfl
      | zero =>
        intro i hi σ ht hh
        obtain rfl : i = j := by omega
        rw [List.take_of_length_le (by omega)] at ht
        refine Run.to ?_ ht hh (n' := 2)
        have hp' : (pre ++ [[Value.int .u64 (un (setOf E l0))]]) ++ encBs (ls.map (setOf E)) = encBs (ls0.map (setOf E)) := by
          rw [← hp]; simp [encBs]
        have hpx : pre ++ [[Value.int .u64 (un (setOf E l0))]] <+: encBs (ls0.map (setOf E)) := ⟨_, hp'⟩
        refine RunF_sound tab_ok (hJ pre) 100 [false] _ _ rfl ?_ ?_
        · simp
        refine Run.yield (J := J) (Js := Js) rfl (hy pre _ hpx) rfl rfl rfl rfl rfl rfl rfl rfl ?_ ?_
        · refine RunF_sound tab_ok (hJ _) 100 [false] _ _ rfl ?_ ?_
          · simp
          refine Run.callW (hJ _) rfl rfl rfl rfl rfl rfl step_enters rfl rfl (Turns.at (step_ok l0 E.length i hlen (by omega) hl64 (fun x hx => by have := hg x hx; omega)) fun M => rfl) ?_
          cases hst : stepI l0 (E.length : Int) with
          | none =>
            have hls : ls = [] := by
              cases hcn with
              | stop _ => rfl
              | next h _ => rw [hst] at h; cases h
            subst hls
            refine RunF_sound tab_ok (hJ _) 100 [true] _ _ rfl ?_ ?_
            · simp
            exact Run.retI Tryd.func66 hres fun v w' fp' hg hX => hR v w' fp' _ hg (.inl ⟨by simpa [encBs] using hp', hX⟩)
          | some l' =>
            obtain ⟨hg', hl'⟩ := good_step hg (by omega) hst
            have hc' : Chain (E.length : Int) l' ls := by
              cases hcn with
              | stop h => rw [hst] at h; cases h
              | next h h' => rw [hst] at h; cases h; exact h'
            refine RunF_sound tab_ok (hJ _) 100 [false] _ _ rfl ?_ ?_
            · simp
            exact ih l' _ hc' (by omega) hg' hp' _ ⟨rfl, rfl, rfl, trivial⟩ ⟨rfl, rfl, trivial⟩
        · refine RunF_sound tab_ok (hJs _) 100 [true] _ _ rfl ?_ ?_
          · simp
          exact Run.retI Tryd.func66 hres fun v w' fp' hg hX => hR v w' fp' _ hg (.inr ⟨hpx, hX⟩)
theorem chooseIt_enters : Enters Tryd.prog 66 := enters_mk Tryd.func66 (by decide) rfl
end Go.Proofs.YtpfanhbkjajocaaDoor

/-
  Subsets is an iterator; the reference's Subsets. Own work.
-/
namespace Go.Proofs.YtpfanhbkjajocaaDoor
open Go.AM
set_option maxRecDepth 100000

theorem encBs_app (l m : List (BitVec 64)) : encBs (l ++ m) = encBs l ++ encBs m := by simp [encBs]
theorem subsL_succ (x : BitVec 64) (q : Nat) : subsL x (q + 1) = subsL x q ++ [subsF x q] := by simp [subsL, List.range_succ]
theorem subsL_pre (x : BitVec 64) {q n : Nat} (h : q ≤ n) : encBs (subsL x q) <+: encBs (subsL x n) := by
  have : subsL x q = (subsL x n).take q := by
    rw [subsL, subsL, ← List.map_take, List.take_range, Nat.min_eq_left h]
  rw [this]
  exact (List.take_prefix q _).map _

def subsK (b : Nat) : Nat → Prop := fun k => k = b

theorem subsets_iter (x : BitVec 64) (b : Nat) (w0 : World) (hb : WordAt w0 b x) :
    Iter Tryd.prog 64 [.pointer (some ⟨b, 0, none⟩)] (subsK b) w0 (encBs (subsL x (2 ^ (bitsL x).length))) := by
  refine Iter.of_run Tryd.func64 rfl (by show 2 ≤ 17; decide) ?_
  intro y J Js w fp hJ hJs hy hag hfp R hR
  have hbw : w.cell? ⟨b, 0, none⟩ = some (.int .u64 (un x)) := hag.cell hb (fun h => h rfl)
  have hfb : ¬ fp b := fun h => hfp b h rfl
  have hres : (Tryd.f64).results = #[] := rfl
  have hlast := within_last x
  generalize hN : 2 ^ (bitsL x).length = N at *
  have hN1 : 0 < N := by rw [← hN]; exact Nat.pow_pos (by decide)
  refine RunF_sound tab_ok (hJ []) 100 [] _ _ rfl ?_ ?_
  · simp
  suffices H : ∀ (d q : Nat), q + d + 1 = N → ∀ σ, inT σ.t [(0, .v y), (1, .v (.pointer (some ⟨b, 0, none⟩))), (3, .v (.int .u64 (un (subsF x q))))] → inT σ.h [] →
      Run (fnC Tryd.prog 64 (Tryd.f64).ntmps w fp (J (encBs (subsL x q))) R) _ σ by
    refine H (N - 1) 0 (by omega) _ ⟨rfl, rfl, ?_, trivial⟩ trivial
    rw [subsF_0]; rfl
  intro d
  induction d with
  | zero =>
    intro q hq σ ht hh
    refine Run.to ?_ ht hh (n' := 0)
    have hpx : encBs (subsL x q) ++ [[Value.int .u64 (un (subsF x q))]] = encBs (subsL x N) := by
      rw [← hq, subsL_succ, encBs_app]; rfl
    have hend : subsF x q = x := (hlast q (by omega)).2 (by omega)
    refine RunF_sound tab_ok (hJ _) 100 [] _ _ rfl ?_ ?_
    · simp
    refine Run.yield (J := J) (Js := Js) rfl (hy _ _ ⟨[], by rw [List.append_nil]; exact hpx⟩) rfl rfl rfl rfl rfl rfl rfl rfl ?_ ?_
    · refine RunF_sound tab_ok (hJ _) 100 [false] _ _ rfl ?_ ?_
      · simp only [fnC_w0, fnC_S0, hbw]
        simp [hfb, hend]
      rw [hpx]
      exact Run.finI Tryd.func64 hres fun v w' fp' hg hX => hR v w' fp' _ hg (.inl ⟨rfl, hX⟩)
    · refine RunF_sound tab_ok (hJs _) 100 [false] _ _ rfl ?_ ?_
      · simp
      rw [hpx]
      exact Run.finI Tryd.func64 hres fun v w' fp' hg hX => hR v w' fp' _ hg (.inr ⟨List.prefix_refl _, hX⟩)
  | succ d ih =>
    intro q hq σ ht hh
    refine Run.to ?_ ht hh (n' := 0)
    have hpx : encBs (subsL x q) ++ [[Value.int .u64 (un (subsF x q))]] = encBs (subsL x (q + 1)) := by
      rw [subsL_succ, encBs_app]; rfl
    have hpre : encBs (subsL x q) ++ [[Value.int .u64 (un (subsF x q))]] <+: encBs (subsL x N) := by rw [hpx]; exact subsL_pre x (by omega)
    have hend : ¬ subsF x q = x := fun h => by have := (hlast q (by omega)).1 h; omega
    have hnx := subsF_next x q
    refine RunF_sound tab_ok (hJ _) 100 [] _ _ rfl ?_ ?_
    · simp
    refine Run.yield (J := J) (Js := Js) rfl (hy _ _ hpre) rfl rfl rfl rfl rfl rfl rfl rfl ?_ ?_
    · refine RunF_sound tab_ok (hJ _) 100 [true] _ _ rfl ?_ ?_
      · simp only [fnC_w0, fnC_S0, hbw]
        simp [hfb, hend]
      rw [hpx]
      simp only [fnC_w0, hbw]
      refine ih (q + 1) (by omega) _ ⟨rfl, rfl, u64_eq ?_, trivial⟩ trivial
      rw [sub_un, band_un, ← hnx]; rfl
    · refine RunF_sound tab_ok (hJs _) 100 [false] _ _ rfl ?_ ?_
      · simp
      exact Run.finI Tryd.func64 hres fun v w' fp' hg hX => hR v w' fp' _ hg (.inr ⟨hpre, hX⟩)
theorem subsetsIt_enters : Enters Tryd.prog 64 := enters_mk Tryd.func64 (by decide) rfl
end Go.Proofs.YtpfanhbkjajocaaDoor

/-
  The reference's Subsets. Own work.
-/
namespace Go.Proofs.YtpfanhbkjajocaaDoor
open Go.AM
set_option maxRecDepth 100000

def encU (l : List (BitVec 64)) : List Value := l.map fun x => Value.int .u64 (un x)
theorem encU_len (l : List (BitVec 64)) : (encU l).length = l.length := by simp [encU]
/-- A list of sets that is handed over. -/
def usZ : List (BitVec 64) → AV
  | [] => .v (.slice none 0 0)
  | a :: l => .sl 9 1 0 (l.length + 1)
def usB : List (BitVec 64) → List (Nat × Blk)
  | [] => []
  | a :: l => [(9, .row 22 1 (l.length + 1) (encU (a :: l)))]
theorem encU_app (l : List (BitVec 64)) (n : Nat) (hl : l.length = n) (x : BitVec 64) : (encU l).take (n * 1) ++ [.int .u64 (un x)] = encU (l ++ [x]) := by
  rw [List.take_of_length_le (by simp [encU, hl])]; simp [encU]
theorem subsL_len (x : BitVec 64) (q : Nat) : (subsL x q).length = q := by simp [subsL]

theorem un_ofNat (q : Nat) (h : q < 2 ^ 64) : un (BitVec.ofNat 64 q) = (q : Int) := by
  unfold un
  rw [BitVec.toNat_ofNat, Nat.mod_eq_of_lt h]
theorem un_shl1 (n : Nat) (h : n < 64) : un (1#64 <<< n) = ((2 ^ n : Nat) : Int) := by
  unfold un
  have : (2 : Nat) ^ n < 2 ^ 64 := Nat.pow_lt_pow_right (by decide) h
  rw [BitVec.toNat_shiftLeft, BitVec.toNat_ofNat, Nat.shiftLeft_eq, Nat.one_mod, Nat.one_mul, Nat.mod_eq_of_lt this]

theorem subsR_ok (x : BitVec 64) (most : Nat) (hm : most ≤ 1099511627776) (w : World) :
    HandsZ Tryd.prog 33 [.int .u64 (un x), .int .i64 (most : Int)] w (usZ (subsL x (min most (2 ^ (bitsL x).length)))) (usB (subsL x (min most (2 ^ (bitsL x).length)))) := by
  refine HandsZ.of_run Tryd.func33 rfl (by show 2 ≤ 32; decide) ?_
  have hl64 := bitsL_len_le x
  refine RunF_sound tab_ok noX_local 100 [] _ _ rfl ?_ ?_
  · simp
  refine Run.callFn (r := .int .i64 ((bitsL x).length : Int)) noX_local rfl rfl rfl rfl rfl rfl rfl sizeR_enters rfl (fun w' _ => sizeR_ok x w') ?_
  refine RunF_sound tab_ok noX_local 100 [] _ _ rfl ?_ ?_
  · simp
  generalize hn : (bitsL x).length = n at *
  generalize hL : subsL x (min most (2 ^ n)) = L
  suffices H : ∀ (d q : Nat), q + d = min most (2 ^ n) →
      Run _ _ ⟨[(0, .v (.int .u64 (un x))), (1, .v (.int .i64 (most : Int))), (5, .v (.int .i64 (n : Int))), (6, usZ (subsL x q)), (7, .v (.int .u64 (un (BitVec.ofNat 64 q))))], usB (subsL x q), 10⟩ by
    exact Run.to (H (min most (2 ^ n)) 0 (by omega)) ⟨rfl, rfl, rfl, rfl, rfl, trivial⟩ trivial
  intro d
  induction d with
  | zero =>
    intro q hq
    have hlen := subsL_len x q
    have hLq : subsL x q = L := by rw [← hL, ← hq]; rfl
    rw [hLq] at hlen ⊢
    by_cases c : q = most
    · rcases L with _ | ⟨a, l⟩
      · have : most = 0 := by simp at hlen; omega
        refine RunF_sound tab_ok noX_local 100 [false] _ _ rfl ?_ ?_
        · simp [this]
        exact Run.retH tab_ok [] Tryd.func33 rfl trivial rfl trivial rfl
      · have hle : l.length + 1 = most := by simp at hlen; omega
        refine RunF_sound tab_ok noX_local 100 [false] _ _ rfl ?_ ?_
        · simp; omega
        refine Run.retH tab_ok [(9, 9)] Tryd.func33 rfl ?_ rfl ⟨rfl, trivial⟩ rfl
        simp
    · have hqn : q = 2 ^ n := by omega
      have hn64 : n < 64 := by
        rcases Nat.lt_or_ge n 64 with h | h
        · exact h
        · have : (2 : Nat) ^ 64 ≤ 2 ^ n := Nat.pow_le_pow_right (by decide) h
          omega
      have h2 : shlI .u64 1 (n : Int) = ((2 ^ n : Nat) : Int) := by rw [shl1_un, Int.toNat_natCast, un_shl1 n hn64]
      have h1 : (2 : Nat) ^ n < 2 ^ 64 := Nat.pow_lt_pow_right (by decide) hn64
      have hu := un_ofNat q (by omega)
      have hwn : IntKind.u64.wrap (n : Int) = (n : Int) := wrap_small n (by omega) (by omega)
      rcases L with _ | ⟨a, l⟩
      · have h0 : q = 0 := by simp at hlen; omega
        have : 0 < 2 ^ n := Nat.pow_pos (by decide)
        omega
      · generalize (2 : Nat) ^ n = P at *
        have hle : l.length + 1 = q := by simpa using hlen
        refine RunF_sound tab_ok noX_local 100 [true, true, true] _ _ rfl ?_ ?_
        · simp [hwn, hu, h2]
          omega
        refine Run.retH tab_ok [(9, 9)] Tryd.func33 rfl ?_ rfl ⟨rfl, trivial⟩ rfl
        simp
  | succ d ih =>
    intro q hq
    have hlen := subsL_len x q
    have hqm : q < most := by omega
    have hqn : q < 2 ^ n := by omega
    have hq64 : q < 2 ^ 64 := by omega
    have hu := un_ofNat q hq64
    have hnext : IntKind.u64.wrap (un (BitVec.ofNat 64 q) + 1) = un (BitVec.ofNat 64 (q + 1)) := by
      rw [hu, un_ofNat (q + 1) (by omega)]
      exact wrap_u64 (by omega) (by omega)
    have ih' := ih (q + 1) (by omega)
    rw [subsL_succ] at ih'
    have hw : ∀ w', Gives Tryd.prog 65 [.int .u64 (un x), .int .u64 (un (BitVec.ofNat 64 q))] w' (.int .u64 (un (subsF x q))) := fun w' => withinR_ok x _ w'
    generalize subsF x q = y at *
    generalize subsL x q = l at *
    by_cases c : n < 64
    · have h2 : shlI .u64 1 (n : Int) = ((2 ^ n : Nat) : Int) := by rw [shl1_un, Int.toNat_natCast, un_shl1 n c]
      have hwn : IntKind.u64.wrap (n : Int) = (n : Int) := wrap_small n (by omega) (by omega)
      generalize (2 : Nat) ^ n = P at *
      rcases l with _ | ⟨a, l⟩
      · refine RunF_sound tab_ok noX_local 100 [true, true, false] _ _ rfl ?_ ?_
        · simp [hwn, hu, h2]
          simp at hlen
          omega
        refine Run.callFn (r := .int .u64 (un y)) noX_local rfl rfl rfl rfl rfl rfl rfl withinR_enters rfl (fun w' _ => hw w') ?_
        refine RunF_sound tab_ok noX_local 100 [] _ _ rfl ?_ ?_
        · simp [maxLen, fillL, repL, splice, Value.cells, Value.oneCell']
        refine Run.toR [(9, 11)] ih' ⟨rfl, rfl, rfl, rfl, congrArg (fun z => some (AV.v (.int .u64 z))) hnext, trivial⟩ ⟨rfl, trivial⟩ rfl
      · refine RunF_sound tab_ok noX_local 100 [true, true, false] _ _ rfl ?_ ?_
        · simp [hwn, hu, h2]
          simp at hlen
          omega
        refine Run.callFn (r := .int .u64 (un y)) noX_local rfl rfl rfl rfl rfl rfl rfl withinR_enters rfl (fun w' _ => hw w') ?_
        refine RunF_sound tab_ok noX_local 100 [] _ _ rfl ?_ ?_
        · simp [maxLen, fillL, repL, splice, Value.cells, Value.oneCell']
          simp at hlen
          omega
        have e1 : (l ++ [y]).length + 1 = l.length + 1 + 1 := by simp
        refine Run.toR [(9, 11)] ih' ⟨rfl, rfl, rfl, ?_, congrArg (fun z => some (AV.v (.int .u64 z))) hnext, trivial⟩ ⟨?_, trivial⟩ rfl
        · show _ = some (AV.sl 11 1 0 ((l ++ [y]).length + 1))
          rw [e1]; rfl
        · show _ = some (Blk.row 22 1 ((l ++ [y]).length + 1) (encU (a :: l ++ [y])))
          rw [e1, ← encU_app (a :: l) (l.length + 1) rfl y]; rfl
    · rcases l with _ | ⟨a, l⟩
      · refine RunF_sound tab_ok noX_local 100 [true, false, false] _ _ rfl ?_ ?_
        · simp
          simp at hlen
          omega
        refine Run.callFn (r := .int .u64 (un y)) noX_local rfl rfl rfl rfl rfl rfl rfl withinR_enters rfl (fun w' _ => hw w') ?_
        refine RunF_sound tab_ok noX_local 100 [] _ _ rfl ?_ ?_
        · simp [maxLen, fillL, repL, splice, Value.cells, Value.oneCell']
        refine Run.toR [(9, 11)] ih' ⟨rfl, rfl, rfl, rfl, congrArg (fun z => some (AV.v (.int .u64 z))) hnext, trivial⟩ ⟨rfl, trivial⟩ rfl
      · refine RunF_sound tab_ok noX_local 100 [true, false, false] _ _ rfl ?_ ?_
        · simp
          simp at hlen
          omega
        refine Run.callFn (r := .int .u64 (un y)) noX_local rfl rfl rfl rfl rfl rfl rfl withinR_enters rfl (fun w' _ => hw w') ?_
        refine RunF_sound tab_ok noX_local 100 [] _ _ rfl ?_ ?_
        · simp [maxLen, fillL, repL, splice, Value.cells, Value.oneCell']
          simp at hlen
          omega
        have e1 : (l ++ [y]).length + 1 = l.length + 1 + 1 := by simp
        refine Run.toR [(9, 11)] ih' ⟨rfl, rfl, rfl, ?_, congrArg (fun z => some (AV.v (.int .u64 z))) hnext, trivial⟩ ⟨?_, trivial⟩ rfl
        · show _ = some (AV.sl 11 1 0 ((l ++ [y]).length + 1))
          rw [e1]; rfl
        · show _ = some (Blk.row 22 1 ((l ++ [y]).length + 1) (encU (a :: l ++ [y])))
          rw [e1, ← encU_app (a :: l) (l.length + 1) rfl y]; rfl
theorem subsR_enters : Enters Tryd.prog 33 := enters_mk Tryd.func33 (by decide) rfl
end Go.Proofs.YtpfanhbkjajocaaDoor

/-
  The reference's Choose. Own work.
-/
namespace Go.Proofs.YtpfanhbkjajocaaDoor
open Go.AM
set_option maxRecDepth 100000

theorem us_form (O : List (BitVec 64)) (h : O ≠ []) : usZ O = .sl 9 1 0 O.length ∧ usB O = [(9, .row 22 1 O.length (encU O))] := by
  cases O with
  | nil => exact absurd rfl h
  | cons a l => exact ⟨rfl, rfl⟩

def maskOf (l : List Int) : BitVec 64 := l.foldl (fun t i => t ||| 1#64 <<< i.toNat) 0#64
theorem maskOf_snoc (l : List Int) (i : Int) : maskOf (l ++ [i]) = maskOf l ||| 1#64 <<< i.toNat := by
  simp [maskOf, List.foldl_append]

theorem fold_bit (f : Int → Nat) : ∀ (l : List Int) (t : BitVec 64) (b : Nat), (∀ i ∈ l, f i < 64) → ((l.foldl (fun t i => t ||| 1#64 <<< (f i)) t).getLsbD b = true ↔ t.getLsbD b = true ∨ ∃ i ∈ l, f i = b)
  | [], t, b, _ => by simp
  | i :: l, t, b, h => by
    rw [List.foldl_cons, fold_bit f l _ b (fun j hj => h j (List.mem_cons_of_mem _ hj)), BitVec.getLsbD_or, Bool.or_eq_true, getLsbD_one_shl _ _ (h i List.mem_cons_self), decide_eq_true_eq]
    constructor
    · rintro ((h1 | h1) | ⟨j, h1, h2⟩)
      · exact .inl h1
      · exact .inr ⟨i, List.mem_cons_self, h1.symm⟩
      · exact .inr ⟨j, List.mem_cons_of_mem _ h1, h2⟩
    · rintro (h1 | ⟨j, h1, h2⟩)
      · exact .inl (.inl h1)
      · rcases List.mem_cons.1 h1 with rfl | h1
        · exact .inl (.inr h2.symm)
        · exact .inr ⟨j, h1, h2⟩

theorem within_set (x : BitVec 64) (l : List Int) (hg : GoodI ((bitsL x).length : Int) l) : wL (bitsL x) (maskOf l) = setOf (bitsL x) l := by
  have hl := bitsL_len_le x
  have hE : ∀ i ∈ l, (bitsL x).getD i.toNat 0 < 64 := fun i hi => by
    have h := hg i hi
    have h3 : i.toNat < (bitsL x).length := by omega
    rw [List.getD_eq_getElem?_getD, List.getElem?_eq_getElem h3]
    exact ((mem_bitsL x _).1 (List.getElem_mem h3)).1
  apply BitVec.eq_of_getLsbD_eq
  intro b hb
  rw [Bool.eq_iff_iff, wL_bit x _ b hb]
  have h2 := fold_bit (fun i => (bitsL x).getD i.toNat 0) l 0#64 b hE
  have h0 : (0#64).getLsbD b = false := by simp
  rw [h0] at h2
  rw [show setOf (bitsL x) l = l.foldl (fun t i => t ||| 1#64 <<< ((bitsL x).getD i.toNat 0)) 0#64 from rfl, h2]
  constructor
  · rintro ⟨j, hj, h3, h4⟩
    have h5 := (fold_bit (fun i => i.toNat) l 0#64 j (fun i hi => by have := hg i hi; omega)).1 h3
    rcases h5 with h5 | ⟨i, hi, h5⟩
    · simp at h5
    · refine .inr ⟨i, hi, ?_⟩
      have h6 : i.toNat = j := h5
      show (bitsL x).getD i.toNat 0 = b
      rw [h6, List.getD_eq_getElem?_getD, List.getElem?_eq_getElem hj]; exact h4
  · rintro (h3 | ⟨i, hi, h3⟩)
    · cases h3
    · have h := hg i hi
      have h4 : i.toNat < (bitsL x).length := by omega
      refine ⟨i.toNat, h4, (fold_bit (fun i => i.toNat) l 0#64 i.toNat (fun i hi => by have := hg i hi; omega)).2 (.inr ⟨i, hi, rfl⟩), ?_⟩
      have h5 : (bitsL x).getD i.toNat 0 = b := h3
      rwa [List.getD_eq_getElem?_getD, List.getElem?_eq_getElem h4] at h5

theorem bit_maskP (l : List Int) (k : Nat) (h : k < l.length) : maskOf (l.take (k + 1)) = maskOf (l.take k) ||| 1#64 <<< (l.getD k 0).toNat := by
  rw [List.take_succ_eq_append_getElem h, maskOf_snoc, List.getD_eq_getElem?_getD, List.getElem?_eq_getElem h]; rfl

set_option maxHeartbeats 1000000 in
theorem chooseR_ok (x : BitVec 64) (k : Int) (most : Nat) (hm0 : 0 < most) (hm : most ≤ 1099511627776) (w : World) (xs : List (BitVec 64)) (hch : Chosen x k xs) :
    HandsZ Tryd.prog 35 [.int .u64 (un x), .int .i64 k, .int .i64 (most : Int)] w (usZ (xs.take most)) (usB (xs.take most)) := by
  refine HandsZ.of_run Tryd.func35 rfl (by show 3 ≤ 120; decide) ?_
  have hl64 := bitsL_len_le x
  refine RunF_sound tab_ok noX_local 100 [] _ _ rfl ?_ ?_
  · simp
  refine Run.callFn (r := .int .i64 ((bitsL x).length : Int)) noX_local rfl rfl rfl rfl rfl rfl rfl sizeR_enters rfl (fun w' _ => sizeR_ok x w') ?_
  have hout : (k < 0 ∨ k > ((bitsL x).length : Int)) → xs = [] := fun h => by cases hch with | out _ => rfl | mk h1 h2 _ => omega
  have hin : 0 ≤ k → k ≤ ((bitsL x).length : Int) → ∃ ls, xs = ls.map (setOf (bitsL x)) ∧ Chain ((bitsL x).length : Int) (rangeI k.toNat) ls := fun h1 h2 => by
    cases hch with
    | out h => omega
    | mk _ _ h => exact ⟨_, rfl, h⟩
  have hwi := within_set x
  have hwr := fun m w' => withinR_ok x m w'
  clear hch
  generalize bitsL x = E at *
  by_cases h1 : k < 0
  · obtain rfl := hout (.inl h1)
    rw [List.take_nil]
    refine RunF_sound tab_ok noX_local 100 [true, true] _ _ rfl ?_ ?_
    · simp [h1]
    exact Run.retH tab_ok [] Tryd.func35 rfl trivial rfl trivial rfl
  by_cases h2 : k > (E.length : Int)
  · obtain rfl := hout (.inr h2)
    rw [List.take_nil]
    refine RunF_sound tab_ok noX_local 100 [false, true, true] _ _ rfl ?_ ?_
    · simp [h1, h2]
    exact Run.retH tab_ok [] Tryd.func35 rfl trivial rfl trivial rfl
  obtain ⟨kn, rfl⟩ := Int.eq_ofNat_of_zero_le (show 0 ≤ k by omega)
  have hkn : kn ≤ E.length := by omega
  obtain ⟨ls0, hxs, hc0⟩ := hin (by omega) (by omega)
  rw [Int.toNat_natCast] at hc0
  refine RunF_sound tab_ok noX_local 100 [false, false, false] _ _ rfl ?_ ?_
  · simp
    omega
  refine Run.mkSlice (l := kn) (c := kn) tab_ok noX_local rfl rfl rfl rfl rfl rfl rfl rfl rfl ?_ (Nat.le_refl _) ?_ (by decide) (by decide) ?_
  · show 8 * kn ≤ 281474976710656
    omega
  · show kn ≤ 9223372036854775807
    omega
  refine RunF_sound tab_ok noX_local 100 [] _ _ rfl ?_ ?_
  · simp
  suffices F : ∀ (m j : Nat), j + m = kn → ∀ σ, inT σ.t [(0, .v (.int .u64 (un x))), (1, .v (.int .i64 (kn : Int))), (2, .v (.int .i64 (most : Int))), (7, .v (.int .i64 (E.length : Int))), (8, .sl 0 1 0 kn), (9, .v (.int .i64 (j : Int)))] →
      inT σ.h [(0, .row 3 1 kn (encI (rg (List.replicate kn 0) j)))] → Run _ _ σ by
    refine F kn 0 (by omega) _ ⟨rfl, rfl, rfl, rfl, rfl, rfl, trivial⟩ ⟨?_, trivial⟩
    show some (Blk.row 3 1 kn (repL kn (Value.int .i64 0).cells.toList)) = _
    rw [repL_ints]; simp [rg]
  intro m
  induction m with
  | succ m ih =>
    intro j hj σ ht hh
    refine Run.to ?_ ht hh (n' := 1)
    have hjl : j < (List.replicate kn (0 : Int)).length := by rw [List.length_replicate]; omega
    refine RunF_sound tab_ok noX_local 100 [true] _ _ rfl ?_ ?_
    · simp only [encI_len, rg_len _ _ (Nat.le_of_lt hjl), List.length_replicate]
      simp
      (repeat' refine And.intro ?_ ?_) <;> first | omega | rfl
    refine ih (j + 1) (by omega) _ ⟨rfl, rfl, rfl, rfl, rfl, i64_eq (wrap_succ (by omega)), trivial⟩ ⟨?_, trivial⟩
    show some (Blk.row 3 1 kn ((encI (rg (List.replicate kn 0) j)).set ((0 + j) * 1) (.int .i64 (j : Int)))) = _
    rw [Nat.zero_add, Nat.mul_one, encI_set, rg_set _ _ hjl]
  | zero =>
    intro j hj σ ht hh
    obtain rfl : j = kn := by omega
    have hrg : rg (List.replicate j 0) j = rangeI j := by simp [rg, rangeI]
    rw [hrg] at hh
    refine Run.to ?_ ht hh (n' := 1)
    refine RunF_sound tab_ok noX_local 100 [false] _ _ rfl ?_ ?_
    · simp
    suffices H : ∀ (ls : List (List Int)) (l : List Int) (out : List (BitVec 64)), Chain (E.length : Int) l ls → l.length = j → GoodI (E.length : Int) l → IncI (E.length : Int) l → out ++ ls.map (setOf E) = xs → out.length ≤ most →
        Run _ _ ⟨[(0, .v (.int .u64 (un x))), (1, .v (.int .i64 (j : Int))), (2, .v (.int .i64 (most : Int))), (7, .v (.int .i64 (E.length : Int))), (8, .sl 0 1 0 j), (10, usZ out)], (0, .row 3 1 j (encI l)) :: usB out, 10⟩ by
      exact Run.to (H ls0 (rangeI j) [] hc0 (rangeI_len j) (good_range (by omega)) (inc_range (by omega)) hxs.symm (Nat.zero_le _)) ⟨rfl, rfl, rfl, rfl, rfl, rfl, trivial⟩ ⟨rfl, trivial⟩
    intro ls
    induction ls with
    | nil => intro l out hcn; cases hcn
    | cons l0 ls ih =>
      intro l out hcn hlen hg hi hp hom
      obtain rfl : l0 = l := by cases hcn <;> rfl
      by_cases cm : out.length = most
      · have htk : xs.take most = out := by rw [← hp, ← cm, List.take_left]
        rw [htk]
        rcases out with _ | ⟨a, out⟩
        · simp at cm; omega
        · have hle : out.length + 1 = most := by simpa using cm
          refine RunF_sound tab_ok noX_local 100 [false] _ _ rfl ?_ ?_
          · simp; omega
          refine Run.retH tab_ok [(9, 9)] Tryd.func35 rfl ?_ rfl ⟨rfl, trivial⟩ rfl
          simp
      · suffices G : ∀ (m i : Nat), i + m = j → ∀ σ, inT σ.t [(0, .v (.int .u64 (un x))), (1, .v (.int .i64 (j : Int))), (2, .v (.int .i64 (most : Int))), (7, .v (.int .i64 (E.length : Int))), (8, .sl 0 1 0 j), (10, usZ out), (11, .v (.int .u64 (un (maskOf (l0.take i))))), (12, .v (.int .i64 (i : Int)))] →
            inT σ.h ((0, .row 3 1 j (encI l0)) :: usB out) → Run _ _ σ by
          rcases out with _ | ⟨a, out⟩
          · refine RunF_sound tab_ok noX_local 100 [true] _ _ rfl ?_ ?_
            · simp; omega
            exact G j 0 (by omega) _ ⟨rfl, rfl, rfl, rfl, rfl, rfl, rfl, rfl, trivial⟩ ⟨rfl, trivial⟩
          · have hle : out.length + 1 < most := by simp at cm hom; omega
            refine RunF_sound tab_ok noX_local 100 [true] _ _ rfl ?_ ?_
            · simp; omega
            exact G j 0 (by omega) _ ⟨rfl, rfl, rfl, rfl, rfl, rfl, rfl, rfl, trivial⟩ ⟨rfl, rfl, trivial⟩
        intro m
        induction m with
        | succ m ih2 =>
          intro i hil σ ht hh
          refine Run.to ?_ ht hh (n' := 10)
          have hil' : i < l0.length := by omega
          have hx := hg _ (List.getElem_mem hil')
          have hgi : l0.getD i 0 = l0[i] := by rw [List.getD_eq_getElem?_getD, List.getElem?_eq_getElem hil']; rfl
          have hwx : IntKind.u64.wrap l0[i] = l0[i] := wrap_small _ hx.1 (by omega)
          refine RunF_sound tab_ok noX_local 100 [true] _ _ rfl ?_ ?_
          · simp only [Nat.zero_add, Nat.mul_one, Int.toNat_natCast, intAt_enc, hgi]
            simp [hwx]
            exact ⟨by omega, by simp [encI, hil'], hx.1⟩
          refine ih2 (i + 1) (by omega) _ ⟨rfl, rfl, rfl, rfl, rfl, rfl, u64_eq ?_, i64_eq (wrap_succ (by omega)), trivial⟩ ?_
          · simp only [Nat.zero_add, Nat.mul_one, Int.toNat_natCast, intAt_enc, hgi, hwx]
            rw [shl1_un, bor_un, bit_maskP _ _ hil', hgi]
          · cases out <;> first | exact ⟨rfl, trivial⟩ | exact ⟨rfl, rfl, trivial⟩
        | zero =>
          intro i hil σ ht hh
          obtain rfl : i = j := by omega
          rw [List.take_of_length_le (by omega)] at ht
          refine Run.to ?_ ht hh (n' := 10)
          have hy : wL E (maskOf l0) = setOf E l0 := hwi l0 hg
          have hwr' : ∀ w', Gives Tryd.prog 65 [.int .u64 (un x), .int .u64 (un (maskOf l0))] w' (.int .u64 (un (setOf E l0))) := fun w' => by rw [← hy]; exact hwr _ w'
          have hp' : (out ++ [setOf E l0]) ++ ls.map (setOf E) = xs := by rw [← hp]; simp
          have hom' : (out ++ [setOf E l0]).length ≤ most := by simp; omega
          generalize setOf E l0 = y at *
          obtain ⟨O, hO⟩ : ∃ O, O = out ++ [y] := ⟨_, rfl⟩
          obtain ⟨hZ, hB⟩ := us_form O (by rw [hO]; simp)
          rw [← hO] at hp' hom'
          suffices K : ∀ (d q : Nat), q + d = i → stepI l0 (E.length : Int) = stepFrom l0 (E.length : Int) q d → ∀ σ, inT σ.t [(0, .v (.int .u64 (un x))), (1, .v (.int .i64 (i : Int))), (2, .v (.int .i64 (most : Int))), (7, .v (.int .i64 (E.length : Int))), (8, .sl 0 1 0 i), (10, .sl 9 1 0 O.length), (13, .v (.int .i64 (q : Int)))] →
              inT σ.h ((0, .row 3 1 i (encI l0)) :: [(9, .row 22 1 O.length (encU O))]) → Run _ _ σ by
            have hlo : O.length ≤ most := hom'
            have K0 := fun t h n ht hh => K i 0 (by omega) (by rw [stepI, hlen]) ⟨t, h, n⟩ ht hh
            have hOl : O.length = out.length + 1 := by rw [hO]; simp
            rw [hOl] at K0 hlo
            rcases out with _ | ⟨a, out⟩
            · refine RunF_sound tab_ok noX_local 100 [false] _ _ rfl ?_ ?_
              · simp
              refine Run.callFn (r := .int .u64 (un y)) noX_local rfl rfl rfl rfl rfl rfl rfl withinR_enters rfl (fun w' _ => hwr' w') ?_
              refine RunF_sound tab_ok noX_local 100 [] _ _ rfl ?_ ?_
              · simp [maxLen, fillL, repL, splice, Value.cells, Value.oneCell']
              refine Run.toR [(9, 11), (0, 0)] (K0 [(0, .v (.int .u64 (un x))), (1, .v (.int .i64 (i : Int))), (2, .v (.int .i64 (most : Int))), (7, .v (.int .i64 (E.length : Int))), (8, .sl 0 1 0 i), (10, .sl 9 1 0 1), (13, .v (.int .i64 0))] [(0, .row 3 1 i (encI l0)), (9, .row 22 1 1 (encU O))] 10 ⟨rfl, rfl, rfl, rfl, rfl, rfl, rfl, trivial⟩ ⟨rfl, rfl, trivial⟩) ⟨rfl, rfl, rfl, rfl, rfl, rfl, rfl, trivial⟩ ⟨rfl, ?_, trivial⟩ rfl
              rw [hO]; rfl
            · refine RunF_sound tab_ok noX_local 100 [false] _ _ rfl ?_ ?_
              · simp
              refine Run.callFn (r := .int .u64 (un y)) noX_local rfl rfl rfl rfl rfl rfl rfl withinR_enters rfl (fun w' _ => hwr' w') ?_
              refine RunF_sound tab_ok noX_local 100 [] _ _ rfl ?_ ?_
              · simp [maxLen, fillL, repL, splice, Value.cells, Value.oneCell']
                simp at hlo
                omega
              refine Run.toR [(9, 11), (0, 0)] (K0 [(0, .v (.int .u64 (un x))), (1, .v (.int .i64 (i : Int))), (2, .v (.int .i64 (most : Int))), (7, .v (.int .i64 (E.length : Int))), (8, .sl 0 1 0 i), (10, .sl 9 1 0 (out.length + 1 + 1)), (13, .v (.int .i64 0))] [(0, .row 3 1 i (encI l0)), (9, .row 22 1 (out.length + 1 + 1) (encU O))] 10 ⟨rfl, rfl, rfl, rfl, rfl, rfl, rfl, trivial⟩ ⟨rfl, rfl, trivial⟩) ⟨rfl, rfl, rfl, rfl, rfl, rfl, rfl, trivial⟩ ⟨rfl, ?_, trivial⟩ rfl
              rw [hO, ← encU_app (a :: out) (out.length + 1) rfl y]; rfl
          have hlen9 : O.length ≤ most := hom'
          intro d
          induction d with
          | zero =>
            intro q hq he σ ht hh
            obtain rfl : q = i := by omega
            have hls : ls = [] := by
              cases hcn with
              | stop _ => rfl
              | next h _ => rw [he] at h; cases h
            subst hls
            have htk : xs.take most = O := by
              rw [← hp']; simp only [List.map_nil, List.append_nil]
              exact List.take_of_length_le hom'
            rw [htk, hZ, hB]
            refine Run.to ?_ ht hh (n' := 10)
            refine RunF_sound tab_ok noX_local 100 [] _ _ rfl ?_ ?_
            · simp
            refine Run.drawA noX_local rfl [] [(0, .row 3 1 q (encI l0))] rfl rfl ⟨rfl, trivial⟩ ?_
            refine RunOF_sound tab_ok noX_local rfl rfl 100 [false] _ _ rfl ?_ ?_
            · simp
            refine RunO.done ?_
            refine RunF_sound tab_ok noX_local 100 [true] _ _ rfl ?_ ?_
            · simp
            refine Run.retH tab_ok [(9, 9)] Tryd.func35 rfl ?_ rfl ⟨rfl, trivial⟩ rfl
            simp
          | succ d ihK =>
            intro q hq he σ ht hh
            have hil' : q < l0.length := by omega
            have hx := hg _ (List.getElem_mem hil')
            have hmo := hi q hil'
            have hgi : l0.getD q 0 = l0[q] := by rw [List.getD_eq_getElem?_getD, List.getElem?_eq_getElem hil']; rfl
            have hw1 : IntKind.i64.wrap ((q : Int) + 1) = ((q + 1 : Nat) : Int) := wrap_succ (by omega)
            have hwl : IntKind.i64.wrap (l0[q] + 1) = l0[q] + 1 := wrap_i64 (by omega) (by omega)
            have hst : stepI l0 (E.length : Int) = if l0.getD q 0 + 1 < mostI l0 (E.length : Int) q then some (bumpI l0 q) else stepFrom l0 (E.length : Int) (q + 1) d := he
            have hmi : mostI l0 (E.length : Int) q = if q + 1 < i then l0.getD (q + 1) 0 else (E.length : Int) := by rw [mostI, hlen]
            rw [hgi] at hst hmo
            have e1 : ∀ h : q + 1 < l0.length, l0.getD (q + 1) 0 = l0[q + 1] := fun h => by rw [List.getD_eq_getElem?_getD, List.getElem?_eq_getElem h]; rfl
            by_cases c2 : l0[q] + 1 < mostI l0 (E.length : Int) q
            · rw [if_pos c2] at hst
              obtain ⟨hg', hl'⟩ := good_step hg (by omega) hst
              have hi' := inc_step hg hi hst
              have hc' : Chain (E.length : Int) (bumpI l0 q) ls := by
                cases hcn with
                | stop h => rw [hst] at h; cases h
                | next h h' => rw [hst] at h; cases h; exact h'
              rw [hmi] at c2
              have hih := ih (bumpI l0 q) O hc' (by omega) hg' hi' hp' hom'
              rw [hZ, hB] at hih
              suffices R : ∀ (m jj : Nat), jj + m = q → ∀ σ, inT σ.t [(0, .v (.int .u64 (un x))), (1, .v (.int .i64 (i : Int))), (2, .v (.int .i64 (most : Int))), (7, .v (.int .i64 (E.length : Int))), (8, .sl 0 1 0 i), (10, .sl 9 1 0 O.length), (13, .v (.int .i64 (q : Int))), (14, .v (.int .i64 (jj : Int)))] →
                  inT σ.h ((0, .row 3 1 i (encI (rg (l0.set q (l0[q] + 1)) jj))) :: [(9, .row 22 1 O.length (encU O))]) → Run _ _ σ by
                have R0 := fun t h n ht hh => R q 0 (by omega) ⟨t, h, n⟩ ht hh
                by_cases c1 : q + 1 < i
                · rw [if_pos c1, e1 (by omega)] at c2
                  refine Run.to ?_ ht hh (n' := 10)
                  refine RunF_sound tab_ok noX_local 100 [] _ _ rfl ?_ ?_
                  · simp
                  refine Run.drawA noX_local rfl [] [(0, .row 3 1 i (encI l0))] rfl rfl ⟨rfl, trivial⟩ ?_
                  refine RunOF_sound tab_ok noX_local rfl rfl 100 [true, true, false, false] _ _ rfl ?_ ?_
                  · simp only [Nat.zero_add, Nat.mul_one, hw1, Int.toNat_natCast, intAt_enc, hgi, hwl]
                    simp [encI_len, hlen, encI_at, c1]
                    (repeat' refine And.intro ?_ ?_) <;> first | omega | (simp [encI, hil']; done)
                  refine RunO.done ?_
                  refine RunF_sound tab_ok noX_local 100 [false] _ _ rfl ?_ ?_
                  · simp only [Nat.zero_add, Nat.mul_one, Int.toNat_natCast, intAt_enc, hgi, hwl]
                    simp [encI_len, hlen, okCell, Value.oneCell']
                    (repeat' refine And.intro ?_ ?_) <;> first | omega | rfl | (simp [encI, hil']; done)
                  refine R0 _ _ _ ⟨rfl, rfl, rfl, rfl, rfl, rfl, rfl, rfl, trivial⟩ ⟨?_, rfl, trivial⟩
                  show some (Blk.row 3 1 i ((encI l0).set ((0 + q) * 1) (.int .i64 (IntKind.i64.wrap (intAt (encI l0) ((0 + q) * 1) + 1))))) = _
                  rw [Nat.zero_add, Nat.mul_one, intAt_enc, hgi, hwl, encI_set]
                  simp [rg]
                · rw [if_neg c1] at c2
                  refine Run.to ?_ ht hh (n' := 10)
                  refine RunF_sound tab_ok noX_local 100 [] _ _ rfl ?_ ?_
                  · simp
                  refine Run.drawA noX_local rfl [] [(0, .row 3 1 i (encI l0))] rfl rfl ⟨rfl, trivial⟩ ?_
                  refine RunOF_sound tab_ok noX_local rfl rfl 100 [true, false, true] _ _ rfl ?_ ?_
                  · simp only [Nat.zero_add, Nat.mul_one, hw1, Int.toNat_natCast, intAt_enc, hgi]
                    simp
                    (repeat' refine And.intro ?_ ?_) <;> first | omega | (simp [encI, hil']; done)
                  refine RunO.done ?_
                  refine RunF_sound tab_ok noX_local 100 [false, false] _ _ rfl ?_ ?_
                  · simp only [Nat.zero_add, Nat.mul_one, Int.toNat_natCast, intAt_enc, hgi, hwl]
                    simp [encI_len, hlen, okCell, Value.oneCell']
                    (repeat' refine And.intro ?_ ?_) <;> first | omega | rfl | (simp [encI, hil']; done)
                  refine R0 _ _ _ ⟨rfl, rfl, rfl, rfl, rfl, rfl, rfl, rfl, trivial⟩ ⟨?_, rfl, trivial⟩
                  show some (Blk.row 3 1 i ((encI l0).set ((0 + q) * 1) (.int .i64 (IntKind.i64.wrap (intAt (encI l0) ((0 + q) * 1) + 1))))) = _
                  rw [Nat.zero_add, Nat.mul_one, intAt_enc, hgi, hwl, encI_set]
                  simp [rg]
              intro m
              induction m with
              | zero =>
                intro jj hj σ ht hh
                obtain rfl : jj = q := by omega
                refine Run.to ?_ ht hh (n' := 10)
                refine RunF_sound tab_ok noX_local 100 [false] _ _ rfl ?_ ?_
                · simp
                have hb : bumpI l0 jj = rg (l0.set jj (l0[jj] + 1)) jj := by rw [bumpI, hgi]
                rw [hb] at hih
                exact Run.to hih ⟨rfl, rfl, rfl, rfl, rfl, rfl, trivial⟩ ⟨rfl, rfl, trivial⟩
              | succ m ihR =>
                intro jj hj σ ht hh
                refine Run.to ?_ ht hh (n' := 10)
                have hjl : jj < (l0.set q (l0[q] + 1)).length := by rw [List.length_set]; omega
                refine RunF_sound tab_ok noX_local 100 [true] _ _ rfl ?_ ?_
                · simp only [encI_len, rg_len _ _ (Nat.le_of_lt hjl), List.length_set, hlen]
                  simp
                  (repeat' refine And.intro ?_ ?_) <;> first | omega | rfl
                refine ihR (jj + 1) (by omega) _ ⟨rfl, rfl, rfl, rfl, rfl, rfl, rfl, i64_eq (wrap_succ (by omega)), trivial⟩ ⟨?_, rfl, trivial⟩
                show some (Blk.row 3 1 i ((encI (rg (l0.set q (l0[q] + 1)) jj)).set ((0 + jj) * 1) (.int .i64 (jj : Int)))) = _
                rw [Nat.zero_add, Nat.mul_one, encI_set, rg_set _ _ hjl]
            · rw [if_neg c2] at hst
              rw [hmi] at c2 hmo
              by_cases c1 : q + 1 < i
              · rw [if_pos c1, e1 (by omega)] at c2 hmo
                refine Run.to ?_ ht hh (n' := 10)
                refine RunF_sound tab_ok noX_local 100 [] _ _ rfl ?_ ?_
                · simp
                refine Run.drawA noX_local rfl [] [(0, .row 3 1 i (encI l0))] rfl rfl ⟨rfl, trivial⟩ ?_
                refine RunOF_sound tab_ok noX_local rfl rfl 100 [true, true, true] _ _ rfl ?_ ?_
                · simp only [Nat.zero_add, Nat.mul_one, hw1, Int.toNat_natCast, intAt_enc, hgi, hwl]
                  simp [encI_len, hlen, encI_at, c1]
                  (repeat' refine And.intro ?_ ?_) <;> first | omega | (simp [encI, hil']; done)
                refine RunO.done ?_
                refine RunF_sound tab_ok noX_local 100 [] _ _ rfl ?_ ?_
                · simp
                exact ihK (q + 1) (by omega) hst _ ⟨rfl, rfl, rfl, rfl, rfl, rfl, i64_eq hw1, trivial⟩ ⟨rfl, rfl, trivial⟩
              · rw [if_neg c1] at c2 hmo
                refine Run.to ?_ ht hh (n' := 10)
                refine RunF_sound tab_ok noX_local 100 [] _ _ rfl ?_ ?_
                · simp
                refine Run.drawA noX_local rfl [] [(0, .row 3 1 i (encI l0))] rfl rfl ⟨rfl, trivial⟩ ?_
                refine RunOF_sound tab_ok noX_local rfl rfl 100 [true, false, true] _ _ rfl ?_ ?_
                · simp only [Nat.zero_add, Nat.mul_one, hw1, Int.toNat_natCast, intAt_enc, hgi]
                  simp
                  (repeat' refine And.intro ?_ ?_) <;> first | omega | (simp [encI, hil']; done)
                refine RunO.done ?_
                refine RunF_sound tab_ok noX_local 100 [true] _ _ rfl ?_ ?_
                · simp only [Nat.zero_add, Nat.mul_one, Int.toNat_natCast, intAt_enc, hgi, hwl]
                  simp
                  omega
                exact ihK (q + 1) (by omega) hst _ ⟨rfl, rfl, rfl, rfl, rfl, rfl, i64_eq hw1, trivial⟩ ⟨rfl, rfl, trivial⟩
theorem chooseR_enters : Enters Tryd.prog 35 := enters_mk Tryd.func35 (by decide) rfl
end Go.Proofs.YtpfanhbkjajocaaDoor

/-
  The abstract machine, twenty-ninth part: calls in a drawn region that hand over new blocks. Own work; over any program.
-/
namespace Go.AM
section
variable {C : Ctx} {held : List (Nat × Blk)} {n0 : Nat} {ops : Array Oper} {i : Nat} {ord : List (Nat × Bool)} {k : List Item} {σ : St} {o : Oper} {c : Call} {g : Operand} {f : FuncId} {caps xs : List AV}

theorem RunO.callH (hL : Local C.X) (z : AV) (h : List (Nat × Blk)) (m : Nat) (ho : ops[i]? = some o) (hop : o.op = .call c) (hc : c.callee = .value g) (hg : σ.ev g = some (.fn f caps)) (hxs : evs σ c.args.toList = some xs) (hw : wantOf ops σ o = some .yes) (hent : Enters C.P f)
    (hd : dstOK C.n o.dst = true) (hbel : σ.bel = true) (hge : hGe σ.nx m h = true) (hz : z.ge σ.nx = true) (hm : Nat.ble σ.nx m = true)
    (hfn : ∀ M w, (∀ id B, lk σ.h id = some B → BlkAt M w id B) → Agree C.S0 C.w0 w → GivesR C.P f (concL M (xs ++ caps)) w (Handed z h w))
    (hr : RunO C held n0 ops ord k (St.put ⟨σ.t, h ++ σ.h, m⟩ o.dst z)) : RunO C held n0 ops ((i, false) :: ord) k σ := by
  refine RunO.alone ho fun M0 M fp a w hM hn hR hS => ?_
  have h2 : c.args.map a.eval = (concL M xs).toArray := by apply Array.ext'; simpa using evs_conc hR.q hxs
  have hrun : (execOp a.eval o).run C.P w = .ok (.enter f (concL M (xs ++ caps)).toArray) w := by
    simp only [execOp, hop, resolve, hc, h2, hR.q.ev hg, conc, Deferred.ofValue]
    simp [invoke, hent _ _, concL_append]
  unfold OpW
  simp only [ho, if_pos (wantOf_yes hR.q hw), hrun]
  refine ⟨fun c e => (by rw [hop] at e; cases e), Calls.mono' (hfn M w hR.heap hR.agree) fun e w' ⟨v, h1, hh⟩ => ?_⟩
  obtain ⟨M', hv, hMM, hR'⟩ := hR.handed hL hh hbel hge hz (Nat.le_of_ble_eq_true hm)
  have hag : Agree (fun _ => False) w w' := hh.1
  subst hv
  refine ⟨_, h1, M', fp, _, ?_, ?_, hR'.put (z := z) (dstOK_lt hd), ?_, hr⟩
  · exact fun i hi => (hMM i (Nat.lt_of_lt_of_le hi hn)).trans (hM i hi)
  · have := Nat.le_of_ble_eq_true hm
    cases o.dst <;> exact Nat.le_trans hn this
  · refine ⟨?_, hS.2.trans hag (fun _ f _ => f.elim)⟩
    intro id B hB
    have := hS.1 id B hB
    exact this.same (hag.block _ this.lt (fun f => f))

/-- A function's value is not nil. -/
theorem Run.fnNil {rest : List Nat} {T : Tab} (hT : tabOK C.P T) {t u : TypeId} {x : Operand} {fv : Fn} {a b : Array Value} {ps rs : Array TypeId} {vd : Bool} (ho : ops[i]? = some o) (hop : o.op = .binOp .eql t x (.const .nilFunc) u) (hx : σ.ev x = some (.v (.func fv a b)))
    (ht : T.desc t = some (.func ps rs vd)) (hw : wantOf ops σ o = some .yes) (hd : dstOK C.n o.dst = true) (h : Run C (.inRegion ops rest :: k) (σ.put o.dst (.tt false))) : Run C (.inRegion ops (i :: rest) :: k) σ := by
  intro M fp ac w hR cs
  obtain ⟨m, s, z⟩ := h M fp _ w (hR.put (z := .tt false) (dstOK_lt hd)) cs
  refine ⟨m, .head (step_value ho (wantOf_yes hR.q hw) (fun c e => by rw [hop] at e; cases e) ?_) s, z⟩
  have hu := eq_func_fn (w := w) (tab_undP hT ht) fv a b
  have h1 := hR.q.ev hx
  simp only [conc] at h1
  have h2 : ac.eval (.const .nilFunc) = .nilFunc := rfl
  simp [execOp, hop, h1, h2, eqGuard, binOp, hu, conc]
end
end Go.AM

/-
  Subsets and Choose as values; goes. Own work.
-/
namespace Go.Proofs.YtpfanhbkjajocaaDoor
open Go.AM
set_option maxRecDepth 100000

theorem mkSubs_ok (x : BitVec 64) (w : World) : HandsZ Tryd.prog 32 [.int .u64 (un x)] w (.fn 64 [.ptr 0 0]) [(0, .cells 23 [.one (.v (.int .u64 (un x)))])] := by
  refine HandsZ.of_run Tryd.func32 rfl (by show 1 ≤ 4; decide) ?_
  refine RunF_sound tab_ok noX_local 100 [] _ _ rfl ?_ ?_
  · simp [okCell, argsT.ofConst', Value.oneCell']
  refine Run.retH tab_ok [(0, 0)] Tryd.func32 rfl trivial rfl ⟨rfl, trivial⟩ rfl
theorem mkSubs_enters : Enters Tryd.prog 32 := enters_mk Tryd.func32 (by decide) rfl

theorem mkChoose_ok (x : BitVec 64) (k : Int) (w : World) : HandsZ Tryd.prog 34 [.int .u64 (un x), .int .i64 k] w (.fn 66 [.ptr 0 0, .ptr 1 0]) [(0, .cells 23 [.one (.v (.int .u64 (un x)))]), (1, .cells 3 [.one (.v (.int .i64 k))])] := by
  refine HandsZ.of_run Tryd.func34 rfl (by show 2 ≤ 6; decide) ?_
  refine RunF_sound tab_ok noX_local 100 [] _ _ rfl ?_ ?_
  · simp [okCell, argsT.ofConst', Value.oneCell']
  refine Run.retH tab_ok [(0, 0), (1, 1)] Tryd.func34 rfl trivial rfl ⟨rfl, rfl, trivial⟩ rfl
theorem mkChoose_enters : Enters Tryd.prog 34 := enters_mk Tryd.func34 (by decide) rfl

/-- A slice of sets, as it lies in a world. -/
def SeesU (w : World) (p : Option Addr) (xs : List (BitVec 64)) : Prop :=
  ∀ i (h : i < xs.length), p = some (p.getD default) ∧ w.cell? ((p.getD default).add i) = some (.int .u64 (un xs[i]))

/-- What lies in goes's blocks. -/
def gB (p : Option Addr) (n c : Nat) (stop : Int) (turn k : Nat) : List (Nat × Blk) :=
  [(0, .cells 43 [.one (.v (.slice p n c))]), (1, .cells 3 [.one (.v (.int .i64 stop))]), (2, .cells 4 [.one (.tt false)]), (3, .cells 3 [.one (.v (.int .i64 (turn : Int)))]), (4, .cells 3 [.one (.v (.int .i64 (k : Int)))])]

theorem encBs_next {xs : List (BitVec 64)} {k : Nat} (hk : k ≤ xs.length) {z : List Value} (h : encBs (xs.take k) ++ [z] <+: encBs xs) : ∃ hlt : k < xs.length, z = [.int .u64 (un xs[k])] := by
  have hl := h.length_le
  simp only [encBs, List.length_append, List.length_map, List.length_take, List.length_singleton] at hl
  have hlt : k < xs.length := by omega
  refine ⟨hlt, ?_⟩
  obtain ⟨t, ht⟩ := h
  have := congrArg (fun l => l[k]?) ht
  simp only [encBs] at this
  rw [List.append_assoc, List.getElem?_append_right (by simp; omega)] at this
  simp [Nat.min_eq_left hk, hlt] at this
  exact this
theorem encBs_succ {xs : List (BitVec 64)} {k : Nat} (hlt : k < xs.length) : encBs (xs.take k) ++ [[.int .u64 (un xs[k])]] = encBs (xs.take (k + 1)) := by
  rw [List.take_succ_eq_append_getElem hlt, encBs, encBs, List.map_append]; rfl
theorem encBs_all {xs : List (BitVec 64)} {k : Nat} (hk : k ≤ xs.length) (h : encBs xs = encBs (xs.take k)) : k = xs.length := by
  have := congrArg List.length h
  simp only [encBs, List.length_map, List.length_take] at this
  omega

/-- A function's surroundings behind some ranges, opened. -/
noncomputable abbrev opC (f : FuncId) (n : Nat) (w : World) (v : Value) (ds : List Deferred) (X : Res) : Ctx := { fnP Tryd.prog f n w v with ds := ds, X := X }

theorem roundC_w0 (C : Ctx) (lo : Nat) (a0 : Array Value) (l : Nat) (rc : Loop) (st : LoopState) (wy : World) (fpy : Foot) (Rr : Value → World → Prop) : (roundC C lo a0 l rc st wy fpy Rr).w0 = wy := rfl
theorem roundC_S0 (C : Ctx) (lo : Nat) (a0 : Array Value) (l : Nat) (rc : Loop) (st : LoopState) (wy : World) (fpy : Foot) (Rr : Value → World → Prop) : (roundC C lo a0 l rc st wy fpy Rr).S0 = fpy := rfl

set_option maxHeartbeats 1000000 in
theorem goes_ok (f : FuncId) (vs : List Value) (K : Nat → Prop) (xs ws : List (BitVec 64)) (p : Option Addr) (c : Nat) (stop : Int) (w : World) (hent : Enters Tryd.prog f) (hit : Iter Tryd.prog f vs K w (encBs xs)) (hK : ∀ b, K b → b < w.heap.size)
    (hws : ws = xs.take 300) (hs : SeesU w p ws) : Gives Tryd.prog 31 [.func (.func f) #[] vs.toArray, .slice p ws.length c, .int .i64 stop] w (.bool true) := by
  refine Gives.of_run Tryd.func31 rfl (by show 3 ≤ 57; decide) ?_
  refine RunF_sound tab_ok noX_local 100 [] _ _ rfl ?_ ?_
  · simp [okCell, argsT.ofConst', ofConst, Value.oneCell']
  refine Run.fnNil tab_ok rfl rfl rfl rfl rfl rfl ?_
  refine RunF_sound tab_ok noX_local 100 [] _ _ rfl ?_ ?_
  · simp [okCell, ofConst, Value.oneCell']
  have hwl : ws.length = min 300 xs.length := by rw [hws, List.length_take]
  have hwg : ∀ k (h : k < xs.length) (h' : k < ws.length), ws[k] = xs[k] := fun k h h' => by subst hws; simp
  suffices N : ∀ (d t : Nat) (ds : List Deferred) (X : Res) (Ds : List Nat), opC 31 (Tryd.f31).ntmps w (.bool true) ds X = fnM Tryd.prog 31 (Tryd.f31).ntmps w (fun _ => False) noX (fun v' w' => v' = .bool true ∧ Agree (fun _ => False) w w') Ds → Local X → t + d = 2 →
      Run (opC 31 (Tryd.f31).ntmps w (.bool true) ds X) _ ⟨[(0, .v (.func (.func f) #[] vs.toArray)), (4, .ptr 0 0), (5, .ptr 1 0), (6, .ptr 2 0), (7, .ptr 3 0)], (gB p ws.length c stop t 0).take 4, 4⟩ by
    exact Run.to (N 2 0 [] noX [] rfl noX_local rfl) ⟨rfl, rfl, rfl, rfl, rfl, trivial⟩ ⟨rfl, rfl, rfl, rfl, trivial⟩
  intro d
  induction d with
  | zero =>
    intro t ds X Ds hC hL ht2
    obtain rfl : t = 2 := by omega
    refine RunF_sound tab_ok hL 100 [false] _ _ rfl ?_ ?_
    · simp [okCell, ofConst]
    rw [hC]
    refine Run.retM tab_ok noX_local Tryd.func31 rfl ?_ fun M fp a w' hr => ⟨rfl, hr.agree⟩
    exact ⟨trivial, trivial⟩
  | succ d ih =>
    intro t ds X Ds hC hL ht2
    refine RunF_sound tab_ok hL 100 [true] _ _ rfl ?_ ?_
    · simp [okCell, ofConst, Value.oneCell']
      omega
    refine Run.rangeFn hL rfl rfl (fun M => rfl) hent 9 [(0, .v (.func (.func f) #[] vs.toArray)), (4, .ptr 0 0), (5, .ptr 1 0), (6, .ptr 2 0), (7, .ptr 3 0), (8, .ptr 4 0)] ⟨rfl, rfl, rfl, rfl, rfl, rfl, trivial⟩ rfl rfl hit (fun b hb => ⟨hK b hb, fun h => h⟩)
      (fun z hz => by simp only [encBs, List.mem_map] at hz; obtain ⟨e, _, rfl⟩ := hz; rfl)
      (fun pre h => ∃ k, pre = encBs (xs.take k) ∧ k ≤ xs.length ∧ k ≤ 300 ∧ h = gB p ws.length c stop t k)
      (fun pre cd h => cd = .exit 2 ∧ ∃ k, k ≤ 300 ∧ h = gB p ws.length c stop t k ∧ (k = ws.length ∨ t = 0 ∧ (k : Int) = IntKind.i64.wrap (stop + 1))) 20
      (gB p ws.length c stop t 0) ⟨0, rfl, Nat.zero_le _, Nat.zero_le _, rfl⟩ ⟨rfl, rfl, rfl, rfl, rfl, trivial⟩ ?_ ?_ ?_
    · rintro D l a0 rc wy fpy pre z h hI hpx ⟨k, rfl, hkx, hk3, rfl⟩
      obtain ⟨hlt, rfl⟩ := encBs_next hkx hpx
      have hin : ∃ k', encBs (xs.take k) ++ [[Value.int .u64 (un xs[k])]] = encBs (xs.take k') ∧ k' ≤ xs.length ∧ (k < 300 → k' ≤ 300) ∧ gB p ws.length c stop t (k + 1) = gB p ws.length c stop t k' := ⟨k + 1, encBs_succ hlt, by omega, fun h => by omega, rfl⟩
      refine RunF_sound tab_ok (roundX_local hI.loc l rc .ready) 100 [] _ _ rfl ?_ ?_
      · simp
      refine Run.beginRound hI.loc hI.lw ?_
      by_cases c3 : k = 300
      · refine RunF_sound tab_ok (roundX_local hI.loc l rc .busy) 100 [true] _ _ rfl ?_ ?_
        · simp [c3]
        refine Run.roundExit hI [] (gB p ws.length c stop t k) rfl ⟨rfl, k, hk3, rfl, .inl (by omega)⟩ ⟨rfl, rfl, rfl, rfl, rfl, rfl, trivial⟩ ⟨rfl, rfl, rfl, rfl, rfl, trivial⟩ rfl
      · have hkw : k < ws.length := by omega
        obtain ⟨e1, e2⟩ := hs k hkw
        rw [hwg k hlt hkw] at e2
        have hw1 : IntKind.i64.wrap ((k : Int) + 1) = ((k + 1 : Nat) : Int) := wrap_succ (by omega)
        have e2' : wy.cell? ((p.getD default).add k) = some (.int .u64 (un xs[k])) := hI.w0.cell e2 (fun h => h)
        have hnf : ¬ fpy ((p.getD default).add k).block := fun h => hI.fy _ h (World.block_lt_of_cell? w _ e2)
        by_cases ct : t = 0
        · by_cases cs : ((k + 1 : Nat) : Int) = IntKind.i64.wrap (stop + 1)
          · refine RunF_sound tab_ok (roundX_local hI.loc l rc .busy) 100 [false, false, false, true, true] _ _ rfl ?_ ?_
            · simp only [roundC_w0, roundC_S0, Nat.mul_one, Int.toNat_natCast, e2', hw1]
              simp [ct, cs, okCell, Value.oneCell']
              (repeat' refine And.intro ?_ ?_) <;> first | omega | exact e1 | exact hkw | exact hnf | rfl
            refine Run.roundExit hI [] (gB p ws.length c stop t (k + 1)) rfl ⟨rfl, k + 1, by omega, rfl, .inr ⟨ct, cs⟩⟩ ⟨rfl, rfl, rfl, rfl, rfl, rfl, trivial⟩ ⟨rfl, rfl, rfl, rfl, ?_, trivial⟩ rfl
            exact congrArg (fun z => some (Blk.cells 3 [.one (.v (.int .i64 z))])) hw1
          · refine RunF_sound tab_ok (roundX_local hI.loc l rc .busy) 100 [false, false, false, true, false] _ _ rfl ?_ ?_
            · simp only [roundC_w0, roundC_S0, Nat.mul_one, Int.toNat_natCast, e2', hw1]
              simp [ct, okCell, Value.oneCell']
              (repeat' refine And.intro ?_ ?_) <;> first | omega | exact e1 | exact hkw | exact hnf | rfl
            refine Run.roundEnd hI [] (gB p ws.length c stop t (k + 1)) ⟨k + 1, encBs_succ hlt, by omega, by omega, rfl⟩ ⟨rfl, rfl, rfl, rfl, rfl, rfl, trivial⟩ ⟨rfl, rfl, rfl, rfl, ?_, trivial⟩ rfl
            exact congrArg (fun z => some (Blk.cells 3 [.one (.v (.int .i64 z))])) hw1
        · have cs : True := trivial
          refine RunF_sound tab_ok (roundX_local hI.loc l rc .busy) 100 [false, false, false, false] _ _ rfl ?_ ?_
          · simp only [roundC_w0, roundC_S0, Nat.mul_one, Int.toNat_natCast, e2', hw1]
            simp [ct, okCell, Value.oneCell']
            (repeat' refine And.intro ?_ ?_) <;> first | omega | exact e1 | exact hkw | exact hnf | rfl
          refine Run.roundEnd hI [] (gB p ws.length c stop t (k + 1)) ⟨k + 1, encBs_succ hlt, by omega, by omega, rfl⟩ ⟨rfl, rfl, rfl, rfl, rfl, rfl, trivial⟩ ⟨rfl, rfl, rfl, rfl, ?_, trivial⟩ rfl
          exact congrArg (fun z => some (Blk.cells 3 [.one (.v (.int .i64 z))])) hw1
    · rintro D h ⟨k, hx, hkx, hk3, rfl⟩
      have hk := encBs_all hkx hx
      have hkw : k = ws.length := by omega
      refine RunF_sound tab_ok (markX_local hL D) 100 [false] _ _ rfl ?_ ?_
      · simp [okCell, ofConst, Value.oneCell', hkw]
      refine Run.toR [(3, 20)] (ih (t + 1) (AM.mark D :: ds) (markX X D) (D :: Ds) (by show (opC _ _ w (.bool true) ds X).marked D = (fnM _ _ _ w _ _ _ Ds).marked D; rw [hC]) (markX_local hL D) (by omega)) ⟨rfl, rfl, rfl, rfl, rfl, trivial⟩ ⟨rfl, rfl, rfl, ?_, trivial⟩ rfl
      exact congrArg (fun z => some (Blk.cells 3 [.one (.v (.int .i64 z))])) (wrap_succ (by omega))
    · rintro D pre cd h hpre ⟨rfl, k, hk3, rfl, hor⟩
      by_cases hkw : k = ws.length
      · refine RunF_sound tab_ok (markX_local hL D) 100 [false] _ _ rfl ?_ ?_
        · simp [okCell, ofConst, Value.oneCell', hkw]
        refine Run.toR [(3, 20)] (ih (t + 1) (AM.mark D :: ds) (markX X D) (D :: Ds) (by show (opC _ _ w (.bool true) ds X).marked D = (fnM _ _ _ w _ _ _ Ds).marked D; rw [hC]) (markX_local hL D) (by omega)) ⟨rfl, rfl, rfl, rfl, rfl, trivial⟩ ⟨rfl, rfl, rfl, ?_, trivial⟩ rfl
        exact congrArg (fun z => some (Blk.cells 3 [.one (.v (.int .i64 z))])) (wrap_succ (by omega))
      · obtain ⟨ct, cs⟩ : t = 0 ∧ (k : Int) = IntKind.i64.wrap (stop + 1) := by rcases hor with h | h; exact absurd h hkw; exact h
        refine RunF_sound tab_ok (markX_local hL D) 100 [true, false, false] _ _ rfl ?_ ?_
        · simp [okCell, ofConst, Value.oneCell', ct, cs]
          exact fun h => hkw (by rw [← cs] at h; omega)
        refine Run.toR [(3, 20)] (ih (t + 1) (AM.mark D :: ds) (markX X D) (D :: Ds) (by show (opC _ _ w (.bool true) ds X).marked D = (fnM _ _ _ w _ _ _ Ds).marked D; rw [hC]) (markX_local hL D) (by omega)) ⟨rfl, rfl, rfl, rfl, rfl, trivial⟩ ⟨rfl, rfl, rfl, ?_, trivial⟩ rfl
        exact congrArg (fun z => some (Blk.cells 3 [.one (.v (.int .i64 z))])) (wrap_succ (by omega))
theorem goes_enters : Enters Tryd.prog 31 := enters_mk Tryd.func31 (by decide) rfl
end Go.Proofs.YtpfanhbkjajocaaDoor

/-
  SetsLeast: what is let through by a test; what is held. Own work.
-/
namespace Go.Proofs.YtpfanhbkjajocaaDoor
open Go.AM
set_option maxRecDepth 100000

def inB (xs : List (BitVec 64)) (s : BitVec 64) : Bool := xs.any fun y => y == s
def underB (xs : List (BitVec 64)) (s : BitVec 64) : Bool := xs.any fun y => y &&& ~~~s == 0#64
theorem SeesU.agree {S : Nat → Prop} {w w' : World} {p : Option Addr} {xs : List (BitVec 64)} (h : SeesU w p xs) (hA : Agree S w w') (hS : ∀ a, p = some a → ¬ S a.block) : SeesU w' p xs := fun i hi => by
  obtain ⟨h1, h2⟩ := h i hi
  exact ⟨h1, hA.cell h2 (by rw [add_block]; exact hS _ h1)⟩

theorem any_step {α : Type} (f : α → Bool) (xs : List α) {k : Nat} (hk : k < xs.length) (h : (xs.take k).any f = false) : (xs.take (k + 1)).any f = f xs[k] := by
  rw [List.take_succ_eq_append_getElem hk, List.any_append, h]; simp
theorem any_hit {α : Type} (f : α → Bool) (xs : List α) {k : Nat} (hk : k < xs.length) (h : f xs[k] = true) : xs.any f = true := List.any_eq_true.2 ⟨xs[k], List.getElem_mem hk, h⟩

set_option maxHeartbeats 1000000 in
theorem holds_ok (s : BitVec 64) (p : Option Addr) (c : Nat) (xs : List (BitVec 64)) (w : World) (hs : SeesU w p xs) (hl : xs.length ≤ maxLen) :
    Gives Tryd.prog 69 [.slice p xs.length c, .int .u64 (un s)] w (.bool (underB xs s)) := by
  refine Gives.of_run Tryd.func69 rfl (by show 2 ≤ 18; decide) ?_
  refine RunF_sound tab_ok noX_local 100 [] _ _ rfl ?_ ?_
  · simp
  suffices H : ∀ (d k : Nat), k + d = xs.length → (xs.take k).any (fun y => y &&& ~~~s == 0#64) = false → ∀ σ, inT σ.t [(1, .v (.int .u64 (un s))), (7, .v (.slice p xs.length c)), (8, .v (.int .i64 (xs.length : Int))), (9, .v (.int .i64 (k : Int)))] → inT σ.h [] → Run _ _ σ by
    exact H xs.length 0 (by omega) rfl _ ⟨rfl, rfl, rfl, rfl, trivial⟩ trivial
  intro d
  induction d with
  | zero =>
    intro k hk hz σ ht hh
    refine Run.to ?_ ht hh (n' := 0)
    refine RunF_sound tab_ok noX_local 100 [false] _ _ rfl ?_ ?_
    · simp; omega
    refine Run.retP tab_ok Tryd.func69 rfl trivial (fun M => ?_)
    rw [List.take_of_length_le (by omega)] at hz
    unfold underB; rw [hz]; rfl
  | succ d ih =>
    intro k hk hz σ ht hh
    refine Run.to ?_ ht hh (n' := 0)
    have hlt : k < xs.length := by omega
    obtain ⟨e1, e2⟩ := hs k hlt
    have hbn : (bandn IntKind.u64 (un xs[k]) (un s) == 0) = (xs[k] &&& ~~~s == 0#64) := by
      rw [bandn_un, Bool.eq_iff_iff, beq_iff_eq, beq_iff_eq, show (0 : Int) = un 0#64 from rfl]
      exact un_inj
    have hst := any_step (fun y : BitVec 64 => y &&& ~~~s == 0#64) xs hlt hz
    by_cases hb : (xs[k] &&& ~~~s == 0#64) = true
    · refine RunF_sound tab_ok noX_local 100 [true, true] _ _ rfl ?_ ?_
      · simp only [fnC_w0, fnC_S0, Int.toNat_natCast, Nat.zero_add, Nat.mul_one, e2]
        rw [hbn, hb]
        simp
        exact ⟨hlt, e1, hlt⟩
      refine Run.retP tab_ok Tryd.func69 rfl trivial (fun M => ?_)
      rw [show underB xs s = true from any_hit _ xs hlt hb]; rfl
    · refine RunF_sound tab_ok noX_local 100 [true, false] _ _ rfl ?_ ?_
      · simp only [fnC_w0, fnC_S0, Int.toNat_natCast, Nat.zero_add, Nat.mul_one, e2]
        rw [hbn]
        simp [hlt]
        exact ⟨e1, by simpa using hb⟩
      exact ih (k + 1) (by omega) (by rw [hst]; simpa using hb) _ ⟨rfl, rfl, rfl, i64_eq (wrap_succ (by simp only [maxLen] at hl; omega)), trivial⟩ trivial
theorem holds_enters : Enters Tryd.prog 69 := enters_mk Tryd.func69 (by decide) rfl

/-- A test: what is let through if it holds one of these, or is one of those. -/
structure Ts where
  up : List (BitVec 64)
  those : List (BitVec 64)
  p1 : Option Addr
  c1 : Nat
  p2 : Option Addr
  c2 : Nat
def tsV (T : Ts) : List Value := [.slice T.p1 T.up.length T.c1, .slice T.p2 T.those.length T.c2]
def encT (T : Ts) : Value := .agg (tsV T).toArray
structure SeesT (w : World) (T : Ts) : Prop where
  up : SeesU w T.p1 T.up
  those : SeesU w T.p2 T.those
  l1 : T.up.length ≤ maxLen
  l2 : T.those.length ≤ maxLen
def letB (T : Ts) (s : BitVec 64) : Bool := inB T.those s || underB T.up s
theorem tsV_one (T : Ts) : ∀ c ∈ tsV T, c.oneCell' = true := fun c hc => by
  simp only [tsV, List.mem_cons, List.not_mem_nil, or_false] at hc
  rcases hc with rfl | rfl <;> rfl

set_option maxHeartbeats 1000000 in
theorem lets_ok (T : Ts) (s : BitVec 64) (w : World) (hs : SeesT w T) : Gives Tryd.prog 38 [encT T, .int .u64 (un s)] w (.bool (letB T s)) := by
  refine Gives.of_run Tryd.func38 rfl (by show 2 ≤ 36; decide) ?_
  have hone := tsV_one T
  have hl1 := hs.l1
  have hl2 := hs.l2
  have s1 : slOf (tsV T)[0]? = (T.p1, T.up.length, T.c1) := rfl
  have s2 : slOf (tsV T)[1]? = (T.p2, T.those.length, T.c2) := rfl
  refine RunF_sound tab_ok noX_local 100 [] _ _ rfl ?_ ?_
  · simp [segsVals, hone]
    rfl
  suffices H : ∀ (d k : Nat), k + d = T.those.length → (T.those.take k).any (fun y => y == s) = false → ∀ σ, inT σ.t [(1, .v (.int .u64 (un s))), (2, .ptr 0 0), (5, .v (.int .i64 (k : Int)))] → inT σ.h [(0, .cells 49 [.vals 2 (tsV T)])] → Run _ _ σ by
    exact H T.those.length 0 (by omega) rfl _ ⟨rfl, rfl, rfl, trivial⟩ ⟨rfl, trivial⟩
  intro d
  induction d with
  | zero =>
    intro k hk hz σ ht hh
    rw [List.take_of_length_le (by omega)] at hz
    refine Run.to ?_ ht hh (n' := 1)
    refine RunF_sound tab_ok noX_local 100 [false] _ _ rfl ?_ ?_
    · simp [s2]; exact ⟨rfl, by omega⟩
    suffices H2 : ∀ (d k : Nat), k + d = T.up.length → (T.up.take k).any (fun y => y &&& ~~~s == 0#64) = false → ∀ σ, inT σ.t [(1, .v (.int .u64 (un s))), (2, .ptr 0 0), (6, .v (.int .i64 (k : Int)))] → inT σ.h [(0, .cells 49 [.vals 2 (tsV T)])] → Run _ _ σ by
      exact H2 T.up.length 0 (by omega) rfl _ ⟨rfl, rfl, rfl, trivial⟩ ⟨rfl, trivial⟩
    intro d
    induction d with
    | zero =>
      intro k hk hz2 σ ht hh
      rw [List.take_of_length_le (by omega)] at hz2
      refine Run.to ?_ ht hh (n' := 1)
      refine RunF_sound tab_ok noX_local 100 [false] _ _ rfl ?_ ?_
      · simp [s1]; exact ⟨rfl, by omega⟩
      refine Run.retP tab_ok Tryd.func38 rfl trivial (fun M => ?_)
      rw [show letB T s = false by unfold letB inB underB; rw [hz, hz2]; rfl]; rfl
    | succ d ih2 =>
      intro k hk hz2 σ ht hh
      refine Run.to ?_ ht hh (n' := 1)
      have hlt : k < T.up.length := by omega
      obtain ⟨e1, e2⟩ := hs.up k hlt
      have hbn : (bandn IntKind.u64 (un T.up[k]) (un s) == 0) = (T.up[k] &&& ~~~s == 0#64) := by
        rw [bandn_un, Bool.eq_iff_iff, beq_iff_eq, beq_iff_eq, show (0 : Int) = un 0#64 from rfl]
        exact un_inj
      have hst := any_step (fun y : BitVec 64 => y &&& ~~~s == 0#64) T.up hlt hz2
      by_cases hb : (T.up[k] &&& ~~~s == 0#64) = true
      · refine RunF_sound tab_ok noX_local 100 [true, true] _ _ rfl ?_ ?_
        · simp only [fnC_w0, fnC_S0, Int.toNat_natCast, Nat.mul_one, s1, e2]
          rw [hbn, hb]
          simp
          exact ⟨rfl, hlt, rfl, e1, hlt⟩
        refine Run.retP tab_ok Tryd.func38 rfl trivial (fun M => ?_)
        rw [show letB T s = true by unfold letB; rw [show underB T.up s = true from any_hit _ T.up hlt hb, Bool.or_true]]; rfl
      · refine RunF_sound tab_ok noX_local 100 [true, false] _ _ rfl ?_ ?_
        · simp only [fnC_w0, fnC_S0, Int.toNat_natCast, Nat.mul_one, s1, e2]
          rw [hbn]
          simp
          exact ⟨rfl, hlt, rfl, ⟨e1, hlt⟩, by simpa using hb⟩
        exact ih2 (k + 1) (by omega) (by rw [hst]; simpa using hb) _ ⟨rfl, rfl, i64_eq (wrap_succ (by simp only [maxLen] at hl1; omega)), trivial⟩ ⟨rfl, trivial⟩
  | succ d ih =>
    intro k hk hz σ ht hh
    refine Run.to ?_ ht hh (n' := 1)
    have hlt : k < T.those.length := by omega
    obtain ⟨e1, e2⟩ := hs.those k hlt
    have hbn : (un T.those[k] == un s) = (T.those[k] == s) := by
      rw [Bool.eq_iff_iff, beq_iff_eq, beq_iff_eq]; exact un_inj
    have hst := any_step (fun y : BitVec 64 => y == s) T.those hlt hz
    by_cases hb : (T.those[k] == s) = true
    · refine RunF_sound tab_ok noX_local 100 [true, true] _ _ rfl ?_ ?_
      · simp only [fnC_w0, fnC_S0, Int.toNat_natCast, Nat.mul_one, s2, e2]
        rw [hbn, hb]
        simp
        exact ⟨rfl, hlt, rfl, e1, hlt⟩
      refine Run.retP tab_ok Tryd.func38 rfl trivial (fun M => ?_)
      rw [show letB T s = true by unfold letB; rw [show inB T.those s = true from any_hit _ T.those hlt hb, Bool.true_or]]; rfl
    · refine RunF_sound tab_ok noX_local 100 [true, false] _ _ rfl ?_ ?_
      · simp only [fnC_w0, fnC_S0, Int.toNat_natCast, Nat.mul_one, s2, e2]
        rw [hbn]
        simp
        exact ⟨rfl, hlt, rfl, ⟨e1, hlt⟩, by simpa using hb⟩
      exact ih (k + 1) (by omega) (by rw [hst]; simpa using hb) _ ⟨rfl, rfl, i64_eq (wrap_succ (by simp only [maxLen] at hl2; omega)), trivial⟩ ⟨rfl, trivial⟩
theorem lets_enters : Enters Tryd.prog 38 := enters_mk Tryd.func38 (by decide) rfl
end Go.Proofs.YtpfanhbkjajocaaDoor

/-
  How long a chain of Choose can be, and what the reference's least keeps. Own work; no program in sight.
-/
namespace Go.Proofs.YtpfanhbkjajocaaDoor
open Go.AM
set_option maxRecDepth 100000

/-- A list of indexes as a number of bits. -/
def mS : List Int → Nat
  | [] => 0
  | x :: r => 2 ^ x.toNat + mS r
theorem mS_app : ∀ a b : List Int, mS (a ++ b) = mS a + mS b
  | [], b => by simp [mS]
  | x :: a, b => by simp only [List.cons_append, mS, mS_app a b]; omega

/-- What lies below in a list that climbs is less than the next power. -/
theorem mS_lt (l : List Int) (hp : ∀ i, i + 1 < l.length → l.getD i 0 + 1 ≤ l.getD (i + 1) 0) (h0 : ∀ i, i < l.length → 0 ≤ l.getD i 0) : ∀ (j : Nat) (b : Nat), j ≤ l.length → (∀ i, i < j → (l.getD i 0).toNat < b) → mS (l.take j) < 2 ^ b
  | 0, b, _, _ => by simp [mS]; exact Nat.two_pow_pos b
  | j + 1, b, hj, hb => by
    have hjl : j < l.length := by omega
    have e : l.take (j + 1) = l.take j ++ [l.getD j 0] := by
      rw [List.take_succ_eq_append_getElem hjl, List.getD_eq_getElem?_getD, List.getElem?_eq_getElem hjl]; rfl
    have hlt : ∀ i, i < j → (l.getD i 0).toNat < (l.getD j 0).toNat := by
      intro i hi
      have key : ∀ d, i + d + 1 ≤ j → l.getD i 0 < l.getD (i + d + 1) 0 := by
        intro d
        induction d with
        | zero => intro hd; have := hp i (by omega); simpa using (by omega : l.getD i 0 < l.getD (i + 1) 0)
        | succ d ih =>
          intro hd
          have h1 := ih (by omega)
          have h2 := hp (i + d + 1) (by omega)
          have : i + (d + 1) + 1 = i + d + 1 + 1 := by omega
          rw [this]; omega
      have h1 := key (j - i - 1) (by omega)
      rw [show i + (j - i - 1) + 1 = j by omega] at h1
      have := h0 i (by omega)
      omega
    have ih := mS_lt l hp h0 j (l.getD j 0).toNat (by omega) hlt
    rw [e, mS_app]
    have hbj := hb j (by omega)
    have : 2 ^ ((l.getD j 0).toNat + 1) ≤ 2 ^ b := Nat.pow_le_pow_right (by omega) hbj
    rw [Nat.pow_succ] at this
    simp only [mS]
    omega

theorem inc_climb {n : Int} {l : List Int} (h : IncI n l) : ∀ i, i + 1 < l.length → l.getD i 0 + 1 ≤ l.getD (i + 1) 0 := fun i hi => by
  have := h i (by omega)
  rw [mostI, if_pos hi] at this
  exact this
theorem good_get {n : Int} {l : List Int} (h : GoodI n l) : ∀ i, i < l.length → 0 ≤ l.getD i 0 := fun i hi => (h _ (getD_mem hi)).1

theorem mS_step {l l' : List Int} {n : Int} (hg : GoodI n l) (hi : IncI n l) (h : stepI l n = some l') : mS l < mS l' := by
  obtain ⟨j, h1, rfl, h3⟩ := stepI_some h
  have hj := hg _ (getD_mem h1)
  have e1 : l = l.take j ++ l.getD j 0 :: l.drop (j + 1) := by
    have : l.getD j 0 = l[j] := by rw [List.getD_eq_getElem?_getD, List.getElem?_eq_getElem h1]; rfl
    rw [this, ← List.drop_eq_getElem_cons h1, List.take_append_drop]
  have e2 : bumpI l j = ((List.range j).map fun j : Nat => (j : Int)) ++ (l.getD j 0 + 1) :: l.drop (j + 1) := by
    unfold bumpI rg
    rw [List.drop_eq_getElem_cons (by rw [List.length_set]; exact h1), List.getElem_set_self, List.drop_set_of_lt (by omega)]
  have hlow : mS (l.take (j + 1)) < 2 ^ ((l.getD j 0).toNat + 1) := by
    refine mS_lt l (inc_climb hi) (good_get hg) (j + 1) _ (by omega) fun i hij => ?_
    by_cases c : i = j
    · subst c; omega
    · have key : ∀ d, i + d ≤ j → l.getD i 0 ≤ l.getD (i + d) 0 := by
        intro d
        induction d with
        | zero => intro _; exact Int.le_refl _
        | succ d ih =>
          intro hd
          have h1 := ih (by omega)
          have h2 := inc_climb hi (i + d) (by omega)
          rw [show i + (d + 1) = i + d + 1 by omega]; omega
      have := key (j - i) (by omega)
      rw [show i + (j - i) = j by omega] at this
      omega
  have e3 : mS l = mS (l.take (j + 1)) + mS (l.drop (j + 1)) := by rw [← mS_app, List.take_append_drop]
  rw [e2, mS_app, e3]
  simp only [mS]
  rw [show (l.getD j 0 + 1).toNat = (l.getD j 0).toNat + 1 by omega]
  omega

theorem mS_bound {n : Nat} {l : List Int} (hg : GoodI (n : Int) l) (hi : IncI (n : Int) l) : mS l < 2 ^ n := by
  have := mS_lt l (inc_climb hi) (good_get hg) l.length n (Nat.le_refl _) fun i hil => by have := hg _ (getD_mem hil); omega
  rwa [List.take_length] at this

/-- A chain over n indexes has not more links than there are sets. -/
theorem chain_len {n : Nat} : ∀ (ls : List (List Int)) (l : List Int), Chain (n : Int) l ls → GoodI (n : Int) l → IncI (n : Int) l → (l.length : Int) ≤ n → ls.length + mS l ≤ 2 ^ n
  | [], l, h, _, _, _ => by cases h
  | l0 :: ls, l, h, hg, hi, hl => by
    have hb := mS_bound hg hi
    cases h with
    | stop _ => simp; omega
    | @next _ l' _ h1 h2 =>
      have h3 := mS_step hg hi h1
      obtain ⟨hg', hl'⟩ := good_step hg hl h1
      have := chain_len ls l' h2 hg' (inc_step hg hi h1) (by rw [hl']; exact hl)
      simp only [List.length_cons]
      omega

theorem chosen_len {x : BitVec 64} {k : Int} {xs : List (BitVec 64)} (h : Chosen x k xs) : xs.length ≤ 2 ^ (bitsL x).length := by
  cases h with
  | out _ => simp
  | @mk ls h1 h2 h3 =>
    have := chain_len ls _ h3 (good_range (by omega)) (inc_range (by omega)) (by rw [rangeI_len]; omega)
    rw [List.length_map]
    omega

/-! ### What least keeps: what is found, and what was asked -/
def lsGo (T : Ts) (most : Int) : List (BitVec 64) → List (BitVec 64) → List (BitVec 64) → List (BitVec 64) × List (BitVec 64)
  | [], F, A => (F, A)
  | c :: cs, F, A => if underB F c then lsGo T most cs F A
    else if letB T c then (if ((F ++ [c]).length : Int) = most then (F ++ [c], A ++ [c]) else lsGo T most cs (F ++ [c]) (A ++ [c]))
    else lsGo T most cs F (A ++ [c])
end Go.Proofs.YtpfanhbkjajocaaDoor
