/-
  Own work, merged: PL, AM22, AM23, AM24, AM25, AM29, B2, B3, B4, B5, B6, B7, C0, C1, C2, C3, C4.
-/
import Derived.AtR
import Derived.Below
import Derived.ChangeKeysEq
import Derived.KernelRfl
import Derived.LaidMore
import Derived.Laws.AppendOwn
import Derived.Laws.BytesString
import Derived.Laws.Cells
import Derived.Laws.CopyRow
import Derived.Laws.Entries
import Derived.Laws.Rows
import Derived.Laws.Small
import Derived.Laws.StructEq
import Derived.Lib.LaidTab
import Derived.Lib.TrailingZeros
import Derived.Maps.AppendAt
import Derived.OpenShut
import Derived.Orders
import Derived.ProofKit
import Derived.RangeFuncRecord
import Derived.SevenTiedAt
import Derived.Stop.Joined
import Derived.Test.YtocpkgckllbjlaaDoorCards
import Derived.Test.YtocpkgckllbjlaaDoorProg
import Derived.Test.YtocpkgckllbjlaaDoorRows
import Derived.Test.YtocpkgckllbjlaaDoorTie
import Derived.Test.YtocpkgckllbjlaaDoorQ42B0DF
/-
  What the rows of this seat share: the listed table out of the row's condition; the witness's heap. Own work.
-/
namespace Go.Proofs.YtocpkgckllbjlaaDoor
open Go.ChangeShapes Go.WideShapes Go.ChangeAt Go.RowKit Go.AM

theorem Tryd.own : ownKnob Tryd.prog.godebug = none := by kernel_rfl
theorem Tryd.laidOut : laidOutB Tryd.prog = true := by kernel_rfl
theorem Tryd.gTab : Tryd.prog.globalNamed "math/bits.deBruijn64tab" = some 0 := by kernel_rfl
theorem Tryd.gTabType : (Tryd.prog.globals[0]?).map (·.type) = some 92 := by kernel_rfl

abbrev laidL : List (String × DataW Unit) := [("math/bits.deBruijn64tab", Rows.laid_math_bits_deBruijn64tab)]

theorem tab_of_laid {W : World} (h : laidMetH Tryd.prog laidL W) : TabAt W ∧ 0 < W.heap.size := by
  rw [MakeChecks.laidMetH_plain _ _ _ (by kernel_rfl)] at h
  have h1 : Lib.TabIs Tryd.prog W "math/bits.deBruijn64tab" .u8 (Lib.deBruijn64tab.map fun n : Nat => (n : Int)) :=
    Lib.tabIs_of_head Tryd.gTab Tryd.gTabType Tryd.underlying92 Tryd.underlying5 (by kernel_rfl) (by kernel_rfl) h
  have h2 : TabAt W := by
    intro j hj
    rw [World.var?_cell Tryd.gTab h1 j]
    have hl : Lib.deBruijn64tab.length = 64 := by decide
    simp [hl, hj, List.getD]
  exact ⟨h2, World.block_lt_of_cell? W _ (h2 0 (by decide))⟩

theorem door_met (os : Os) (args : Array Value) : laidMetH Tryd.prog laidL ((World.doorLaid Tryd.prog 14 os).forCall (fun _ _ => 0) ⟨#[], args, []⟩).memory :=
  laidMetH_of_parts3 (fuel := 8) (laidMet_of_run' 8 (by kernel_rfl) (by kernel_rfl)) (by kernel_rfl) (by kernel_rfl)
end Go.Proofs.YtocpkgckllbjlaaDoor

/-
  The abstract machine, twenty-second part: calls that hand over blocks which they have made. Own work; over any program.
-/
namespace Go.AM

mutual
def AV.ge (n : Nat) : AV → Bool
  | .v _ => true
  | .tt _ => true
  | .ptr id _ => Nat.ble n id
  | .elt id _ _ => Nat.ble n id
  | .mp id => Nat.ble n id
  | .sl id _ _ _ => Nat.ble n id
  | .fn _ caps => geL n caps
  | .agg l => geL n l
  | .tup l => geL n l
def geL (n : Nat) : List AV → Bool
  | [] => true
  | x :: r => match x.ge n with | true => geL n r | false => false
end

mutual
theorem conc_congrG {M M' : Loc} {n : Nat} (h : ∀ i, n ≤ i → M' i = M i) : ∀ x : AV, x.ge n = true → conc M' x = conc M x
  | .v _, _ => by simp [conc]
  | .tt _, _ => by simp [conc]
  | .ptr id off, hb => by simp [AV.ge] at hb; simp [conc, h id hb]
  | .elt id off j, hb => by simp [AV.ge] at hb; simp [conc, h id hb]
  | .mp id, hb => by simp [AV.ge] at hb; simp [conc, h id hb]
  | .sl id sz off len, hb => by simp [AV.ge] at hb; simp [conc, h id hb]
  | .fn f caps, hb => by simp only [AV.ge] at hb; simp only [conc, concL_congrG h caps hb]
  | .agg l, hb => by simp only [AV.ge] at hb; simp only [conc, concL_congrG h l hb]
  | .tup l, hb => by simp only [AV.ge] at hb; simp only [conc, concL_congrG h l hb]
theorem concL_congrG {M M' : Loc} {n : Nat} (h : ∀ i, n ≤ i → M' i = M i) : ∀ l : List AV, geL n l = true → concL M' l = concL M l
  | [], _ => by simp [concL]
  | x :: r, hb => by
    simp only [geL] at hb
    split at hb
    · rename_i hx; simp only [concL, conc_congrG h x hx, concL_congrG h r hb]
    · cases hb
end

def geSegs (n : Nat) : List Seg → Bool
  | [] => true
  | .one x :: r => match x.ge n with | true => geSegs n r | false => false
  | .vals _ _ :: r => geSegs n r

theorem concSegs_congrG {M M' : Loc} {n : Nat} (h : ∀ i, n ≤ i → M' i = M i) : ∀ l : List Seg, geSegs n l = true → concSegs M' l = concSegs M l
  | [], _ => rfl
  | .one x :: r, hb => by
    simp only [geSegs] at hb
    split at hb
    · rename_i hx; simp only [concSegs, conc_congrG h x hx, concSegs_congrG h r hb]
    · cases hb
  | .vals _ vs :: r, hb => by simp only [geSegs] at hb; simp only [concSegs, concSegs_congrG h r hb]

def Blk.ge (n : Nat) : Blk → Bool
  | .cells _ segs => geSegs n segs
  | .row .. => true
  | .map _ => true
  | .rowA _ _ _ xs => geL n xs

/-- New blocks: numbered from n on, below m, over each other alone. -/
def hGe (n m : Nat) : List (Nat × Blk) → Bool
  | [] => true
  | (i, B) :: r => match Nat.ble n i, Nat.blt i m, B.ge n, B.bel m with | true, true, true, true => hGe n m r | _, _, _, _ => false

theorem hGe_lk {n m : Nat} : ∀ {l : List (Nat × Blk)} {i : Nat} {B : Blk}, hGe n m l = true → lk l i = some B → n ≤ i ∧ i < m ∧ B.ge n = true ∧ B.bel m = true
  | [], i, x, _, h => by cases h
  | (j, y) :: r, i, x, hb, h => by
    simp only [hGe] at hb
    split at hb
    · rename_i h1 h2 h3 h4
      simp only [lk] at h
      split at h
      · rename_i he
        have := Nat.eq_of_beq_eq_true he
        subst this; cases h
        exact ⟨Nat.le_of_ble_eq_true h1, by simpa using h2, h3, h4⟩
      · exact hGe_lk hb h
    · cases hb

theorem lk_append {α : Type} {i : Nat} : ∀ {a b : List (Nat × α)}, lk (a ++ b) i = match lk a i with | some x => some x | none => lk b i
  | [], b => rfl
  | (j, y) :: a, b => by
    simp only [List.cons_append, lk]
    split
    · rfl
    · exact lk_append

theorem BlkAt.congrG {M M' : Loc} {n : Nat} (h : ∀ i, n ≤ i → M' i = M i) {w : World} {id : Nat} (hid : n ≤ id) {B : Blk} (hB : B.ge n = true) (hb : BlkAt M w id B) : BlkAt M' w id B := by
  cases B with
  | cells e segs => exact ⟨by rw [h id hid, concSegs_congrG h segs hB]; exact hb.1, hb.2⟩
  | row e sz n vs =>
    obtain ⟨h1, cur, hc, h2⟩ := hb
    exact ⟨h1, cur, by rw [h id hid]; exact hc, by rw [h id hid]; exact h2⟩
  | map es => obtain ⟨a, ck, hc, h2⟩ := hb; exact ⟨a, ck, by rw [h id hid]; exact hc, h2⟩
  | rowA e sz n xs =>
    obtain ⟨h1, cur, hc, h2⟩ := hb
    exact ⟨h1, cur, by rw [h id hid]; exact hc, by rw [h id hid, concL_congrG h xs hB]; exact h2⟩

/-- What a call hands over: a value over blocks that it has made. -/
structure Handed (z : AV) (h : List (Nat × Blk)) (w : World) (v : Value) (w' : World) : Prop where
  agree : Agree (fun _ => False) w w'
  ex : ∃ M : Loc, conc M z = v ∧ (∀ id B, lk h id = some B → BlkAt M w' id B ∧ w.heap.size ≤ (M id).1) ∧ ∀ id id' B B', lk h id = some B → lk h id' = some B' → (M id).1 = (M id').1 → id = id'

theorem Rel.handed {C : Ctx} (hL : Local C.X) {M : Loc} {fp : Nat → Prop} {σ : St} {a : Act} {w w' : World} {v : Value} {z : AV} {h : List (Nat × Blk)} {m : Nat} (hR : Rel C M fp σ a w) (hh : Handed z h w v w')
    (hbel : σ.bel = true) (hge : hGe σ.nx m h = true) (hz : z.ge σ.nx = true) (hm : σ.nx ≤ m) : ∃ M', conc M' z = v ∧ (∀ i, i < σ.nx → M' i = M i) ∧ Rel C M' fp ⟨σ.t, h ++ σ.h, m⟩ a w' := by
  obtain ⟨hag, Mh, hv, hbl, hin⟩ := hh
  have hR' := hR.agree' hL hag
  unfold St.bel at hbel
  split at hbel <;> first | (cases hbel; done) | skip
  rename_i ht
  let M' : Loc := fun i => if i < σ.nx then M i else Mh i
  have hlo : ∀ i, i < σ.nx → M' i = M i := fun i hi => by simp only [M', if_pos hi]
  have hhi : ∀ i, σ.nx ≤ i → M' i = Mh i := fun i hi => by simp only [M', if_neg (Nat.not_lt.2 hi)]
  have key : ∀ id B, lk (h ++ σ.h) id = some B → (σ.nx ≤ id ∧ lk h id = some B) ∨ (id < σ.nx ∧ lk σ.h id = some B) := by
    intro id B hB
    rw [lk_append] at hB
    split at hB
    · rename_i x hx
      cases hB
      exact .inl ⟨(hGe_lk hge hx).1, hx⟩
    · exact .inr ⟨(lkh_below hbel hB).1, hB⟩
  refine ⟨M', by rw [conc_congrG hhi z hz]; exact hv, hlo, ?_⟩
  have hadr : ∀ id B, lk h id = some B → w.heap.size ≤ (M' id).1 := fun id B hB => by rw [hhi id (hGe_lk hge hB).1]; exact (hbl id B hB).2
  have hadr' : ∀ id B, lk σ.h id = some B → (M' id).1 = (M id).1 ∧ (M id).1 < w.heap.size := fun id B hB => ⟨by rw [hlo id (lkh_below hbel hB).1], (hR.heap id B hB).lt⟩
  refine { heap := ?_, inj := ?_, own := ?_, apart := ?_, agree := hR'.agree, outer := hR'.outer, fpok := hR'.fpok, size := hR'.size, frozen := hR'.frozen, tmps := ?_, defers := hR'.defers }
  · intro id B hB
    rcases key id B hB with ⟨h1, h2⟩ | ⟨h1, h2⟩
    · exact BlkAt.congrG hhi h1 (hGe_lk hge h2).2.2.1 (hbl id B h2).1
    · exact BlkAt.congr hlo h1 (lkh_below hbel h2).2 rfl (hR'.heap id B h2)
  · intro id id' B B' hB hB' e
    rcases key id B hB with ⟨h1, h2⟩ | ⟨h1, h2⟩ <;> rcases key id' B' hB' with ⟨h3, h4⟩ | ⟨h3, h4⟩
    · rw [hhi id h1, hhi id' h3] at e; exact hin _ _ _ _ h2 h4 e
    · have := hadr id B h2; have := hadr' id' B' h4; omega
    · have := hadr id' B' h4; have := hadr' id B h2; omega
    · rw [hlo id h1, hlo id' h3] at e; exact hR.inj _ _ _ _ h2 h4 e
  · intro id B hB hlt
    rcases key id B hB with ⟨h1, h2⟩ | ⟨h1, h2⟩
    · have := hadr id B h2; have := hR.agree.size; omega
    · rw [(hadr' id B h2).1] at hlt ⊢; exact hR.own id B h2 hlt
  · intro id B hB hf
    rcases key id B hB with ⟨h1, h2⟩ | ⟨h1, h2⟩
    · have := hadr id B h2; have := (hR.fpok _ hf).1; omega
    · rw [(hadr' id B h2).1] at hf; exact hR.apart id B h2 hf
  · intro i x hx
    rw [hR.tmps i x hx]
    congr 1
    exact (conc_congr hlo x (lk_below ht hx)).symm

section
variable {C : Ctx} {ops : Array Oper} {i : Nat} {rest : List Nat} {k : List Item} {σ : St} {o : Oper} {c : Call} {g : Operand} {f : FuncId} {caps xs : List AV} {z : AV} {h : List (Nat × Blk)} {m : Nat}

/-- A call that hands over new blocks. -/
theorem Run.callH (hL : Local C.X) (z : AV) (h : List (Nat × Blk)) (m : Nat) (ho : ops[i]? = some o) (hop : o.op = .call c) (hc : c.callee = .value g) (hg : σ.ev g = some (.fn f caps)) (hxs : evs σ c.args.toList = some xs) (hw : wantOf ops σ o = some .yes) (hent : Enters C.P f)
    (hd : dstOK C.n o.dst = true) (hbel : σ.bel = true) (hge : hGe σ.nx m h = true) (hz : z.ge σ.nx = true) (hm : Nat.ble σ.nx m = true)
    (hfn : ∀ M w, (∀ id B, lk σ.h id = some B → BlkAt M w id B) → Agree C.S0 C.w0 w → GivesR C.P f (concL M (xs ++ caps)) w (Handed z h w))
    (hr : Run C (.inRegion ops rest :: k) (St.put ⟨σ.t, h ++ σ.h, m⟩ o.dst z)) : Run C (.inRegion ops (i :: rest) :: k) σ := by
  refine Run.call (σ' := ⟨σ.t, h ++ σ.h, m⟩) (z := z) ho hop hc hg hxs hw hent hd ?_ hr
  intro M fp a w hR
  refine Calls.mono' (hfn M w hR.heap hR.agree) fun e w' ⟨v, h1, h2⟩ => ?_
  obtain ⟨M', hv, _, hR'⟩ := hR.handed hL h2 hbel hge hz (Nat.le_of_ble_eq_true hm)
  exact ⟨v, h1, M', fp, hR', hv⟩

theorem handed_of {M : Loc} {σ : St} {w0 w : World} {x : AV} {ρ : List (Nat × Nat)} (hag : Agree (fun _ => False) w0 w) (hheap : ∀ id B, lk σ.h id = some B → BlkAt M w id B)
    (hinj : ∀ id id' B B', lk σ.h id = some B → lk σ.h id' = some B' → (M id).1 = (M id').1 → id = id') (hown : ∀ id B, lk σ.h id = some B → w0.heap.size ≤ (M id).1)
    (hx : x = ren ρ z) (hh : inHR ρ σ.h h) (ha : apart ρ (keys h) = true) : Handed z h w0 (conc M x) w := by
  refine ⟨hag, fun i => M (ap ρ i), by rw [hx, conc_ren], fun id B hB => ⟨(hheap _ _ (inHR_lk hh _ _ hB)).ren, hown _ _ (inHR_lk hh _ _ hB)⟩, ?_⟩
  intro id id' B B' hB hB' e
  exact apart_spec ha (lk_keys hB) (lk_keys hB') (hinj _ _ _ _ (inHR_lk hh _ _ hB) (inHR_lk hh _ _ hB') e)

/-- The return of what has been made. -/
theorem Run.retH {P : Program} {T : Tab} (hT : tabOK P T) {f : FuncId} {fn : Func} {n : Nat} {w0 : World} {σ : St} {k : List Item} {p : Prop} {l : List AV} (ρ : List (Nat × Nat))
    (hf : P.funcs[f]? = some fn) (hres : resOf T w0 (fun _ => False) σ fn.results.toList = some (p, l)) (hp : p) (hx : resAV l = ren ρ z) (hh : inHR ρ σ.h h) (ha : apart ρ (keys h) = true) :
    Run (fnC P f n w0 (fun _ => False) noX (Handed z h w0)) (.code .ret :: k) σ :=
  Run.ret hT hf hres hp fun M fp a w hR => handed_of hR.agree hR.heap hR.inj (fun id B hB => Nat.le_of_not_lt fun hlt => (hR.own id B hB hlt).elim) hx hh ha

/-- The same behind ranges over functions, in a run that has begun anew. -/
theorem Run.retHB {P : Program} {T : Tab} (hT : tabOK P T) {f : FuncId} {fn : Func} {n : Nat} {w0 w1 : World} {S : Nat → Prop} {X : Res} (hX : Local X) {σ : St} {k : List Item} {p : Prop} {l : List AV} {Ds : List Nat} (ρ : List (Nat × Nat))
    (hB : Based w0 w1 S) (hf : P.funcs[f]? = some fn) (hres : resOf T w1 S σ fn.results.toList = some (p, l)) (hp : p) (hx : resAV l = ren ρ z) (hh : inHR ρ σ.h h) (ha : apart ρ (keys h) = true) :
    Run (fnM P f n w1 S X (Handed z h w0) Ds) (.code .ret :: k) σ :=
  Run.retM hT hX hf hres hp fun M fp a w hR => handed_of (hB.later hR.agree) hR.heap hR.inj
    (fun id B hB' => Nat.le_of_not_lt fun hlt => by
      have h1 := hR.own id B hB' (Nat.lt_of_lt_of_le hlt hB.agree.size)
      have := hB.new _ h1
      omega) hx hh ha

abbrev HandsZ (P : Program) (f : FuncId) (args : List Value) (w : World) (z : AV) (h : List (Nat × Blk)) : Prop := GivesR P f args w (Handed z h w)

theorem HandsZ.of_run {P : Program} {f : FuncId} {fn : Func} {c : Code} {args : List Value} {w : World} (hf : P.funcs[f]? = some fn) (hb : fn.body = some c)
    (hn : args.length ≤ fn.ntmps) (hr : Run (fnC P f fn.ntmps w (fun _ => False) noX (Handed z h w)) [.code c] ⟨argsT 0 args, [], 0⟩) : HandsZ P f args w z h := calls_of_run hf hb hn hr
end
end Go.AM

/-
  The abstract machine, twenty-third part: iterators that hand over blocks which they have made. Own work; over any program.
-/
namespace Go.AM

/-- A value over blocks of a footprint. -/
structure ItemAt (z : AV) (h : List (Nat × Blk)) (w : World) (v : Value) (F : Foot) : Prop where
  ex : ∃ M : Loc, conc M z = v ∧ (∀ id B, lk h id = some B → BlkAt M w id B) ∧ (∀ id id' B B', lk h id = some B → lk h id' = some B' → (M id).1 = (M id').1 → id = id') ∧ ∀ b, F b ↔ ∃ id B, lk h id = some B ∧ (M id).1 = b

/-- What a call of an iterator's argument does, the value handed over lying in blocks that go with it. -/
def YieldsH {α : Type} (P : Program) (y : Value) (J Js : List α → Res) (w1 : World) (fp1 : Foot) (pre : List α) (x : α) (z : AV) (h : List (Nat × Blk)) : Prop :=
  ∀ w fp F v, J pre w fp → ItemAt z h w v F → (∀ b, F b → ¬ fp b) → Grown fp1 w1 (fun b => fp b ∨ F b) w → CallsV P y [v] w fun r w' =>
    ∃ fp', Grown (fun b => fp b ∨ F b) w fp' w' ∧ (r = .bool true ∧ J (pre ++ [x]) w' fp' ∨ r = .bool false ∧ Js (pre ++ [x]) w' fp')

def disj (ρ : List (Nat × Nat)) (l r : List Nat) : Bool := l.all fun i => r.all fun j => !Nat.beq (ap ρ i) j

theorem disj_spec {ρ : List (Nat × Nat)} {l r : List Nat} (h : disj ρ l r = true) {i j : Nat} (hi : i ∈ l) (hj : j ∈ r) : ap ρ i ≠ j := by
  have := List.all_eq_true.1 (List.all_eq_true.1 h i hi) j hj
  intro e
  subst e
  simp at this

theorem Run.yieldH {α : Type} {C : Ctx} {k : List Item} {σ : St} {ops : Array Oper} {i : Nat} {rest : List Nat} {o : Oper} {c : Call} {g : Operand} {y : Value} {u z : AV} {h hrem : List (Nat × Blk)} {J Js : List α → Res} {pre : List α} {x : α} (ρ : List (Nat × Nat))
    (hX : C.X = J pre) (hy : YieldsH C.P y J Js C.w0 C.S0 pre x z h)
    (ho : ops[i]? = some o) (hop : o.op = .call c) (hc : c.callee = .value g) (hg : σ.ev g = some (.v y)) (hxs : evs σ c.args.toList = some [u]) (hu : u = ren ρ z) (hh : inHR ρ σ.h h) (ha : AM.apart ρ (keys h) = true)
    (hrm : inT σ.h hrem) (hdj : disj ρ (keys h) (keys hrem) = true) (hw : wantOf ops σ o = some .yes) (hd : dstOK C.n o.dst = true)
    (ht : Run (C.withX (J (pre ++ [x]))) (.inRegion ops rest :: k) (St.put ⟨σ.t, hrem, σ.nx⟩ o.dst (.tt true)))
    (hf : Run (C.withX (Js (pre ++ [x]))) (.inRegion ops rest :: k) (St.put ⟨σ.t, hrem, σ.nx⟩ o.dst (.tt false))) : Run C (.inRegion ops (i :: rest) :: k) σ := by
  refine Run.callV ho hop hc hg hxs hw fun M fp a w hR => ?_
  have h0 : J pre w fp := by rw [← hX]; exact hR.outer
  let F : Foot := fun b => ∃ id B, lk h id = some B ∧ (M (ap ρ id)).1 = b
  have hlk : ∀ id B, lk h id = some B → lk σ.h (ap ρ id) = some (renB ρ B) := fun id B hB => inHR_lk hh _ _ hB
  have hrl : ∀ id B, lk hrem id = some B → lk σ.h id = some B := fun id B hB => inT_lk hrm _ _ hB
  have hit : ItemAt z h w (conc M u) F := by
    refine ⟨fun i => M (ap ρ i), by rw [hu, conc_ren], fun id B hB => (hR.heap _ _ (hlk _ _ hB)).ren, fun id id' B B' hB hB' e => ?_, fun b => Iff.rfl⟩
    exact apart_spec ha (lk_keys hB) (lk_keys hB') (hR.inj _ _ _ _ (hlk _ _ hB) (hlk _ _ hB') e)
  have hFf : ∀ b, F b → ¬ fp b := by
    rintro b ⟨id, B, hB, rfl⟩
    exact hR.apart _ _ (hlk _ _ hB)
  have hgr : Grown C.S0 C.w0 (fun b => fp b ∨ F b) w := by
    refine ⟨hR.agree, fun b hb => ?_⟩
    rcases hb with hb | ⟨id, B, hB, rfl⟩
    · exact hR.fpok b hb
    · exact ⟨(hR.heap _ _ (hlk _ _ hB)).lt, hR.own _ _ (hlk _ _ hB)⟩
  show CallsV C.P y (concL M [u]) w _
  have e1 : concL M [u] = [conc M u] := by simp [concL]
  rw [e1]
  refine (hy w fp F _ h0 hit hFf hgr).mono fun r w' ⟨fp', hgr', hv⟩ cs => ?_
  have hnF : ∀ id B, lk hrem id = some B → ¬ (fp (M id).1 ∨ F (M id).1) := by
    intro id B hB hf
    rcases hf with hf | ⟨id', B', hB', e⟩
    · exact hR.apart _ _ (hrl _ _ hB) hf
    · exact disj_spec hdj (lk_keys hB') (lk_keys hB) (hR.inj _ _ _ _ (hlk _ _ hB') (hrl _ _ hB) e)
  have hrel : ∀ X : Res, X w' fp' → Rel (C.withX X) M fp' ⟨σ.t, hrem, σ.nx⟩ a w' := by
    intro X hX'
    refine { heap := ?_, inj := fun id id' B B' hB hB' e => hR.inj _ _ _ _ (hrl _ _ hB) (hrl _ _ hB') e, own := fun id B hB => hR.own _ _ (hrl _ _ hB), apart := ?_, agree := ?_, outer := hX', fpok := ?_, size := hR.size, frozen := hR.frozen, tmps := hR.tmps, defers := hR.defers }
    · intro id B hB
      exact (hR.heap _ _ (hrl _ _ hB)).same (hgr'.1.block _ (hR.heap _ _ (hrl _ _ hB)).lt (hnF _ _ hB))
    · intro id B hB hf
      exact hnF _ _ hB ((hgr'.2 _ hf).2 (hR.heap _ _ (hrl _ _ hB)).lt)
    · exact hR.agree.trans hgr'.1 (fun i hi hl => (hgr.2 i hi).2 hl)
    · intro b hb'
      exact ⟨(hgr'.2 b hb').1, fun hl => (hgr.2 b ((hgr'.2 b hb').2 (Nat.lt_of_lt_of_le hl hR.agree.size))).2 hl⟩
  rcases hv with ⟨rfl, hJ⟩ | ⟨rfl, hJ⟩
  · exact ht M fp' _ w' ((hrel _ hJ).put (C := C.withX _) (z := .tt true) (dstOK_lt hd)) cs
  · exact hf M fp' _ w' ((hrel _ hJ).put (C := C.withX _) (z := .tt false) (dstOK_lt hd)) cs

/-- An iterator whose values lie in blocks that go with them. -/
def IterH {α : Type} (P : Program) (f : FuncId) (caps : List Value) (K : Nat → Prop) (w0 : World) (xs : List α) (zf : α → AV) (hf : α → List (Nat × Blk)) : Prop :=
  ∀ (y : Value) (J Js : List α → Res) (w : World) (fp : Foot), (∀ pre, Local (J pre)) → (∀ pre, Local (Js pre)) → (∀ pre x, pre ++ [x] <+: xs → YieldsH P y J Js w fp pre x (zf x) (hf x)) →
    J [] w fp → (∀ b, fp b → b < w.heap.size) → (∀ b, fp b → ¬ K b) → Agree (fun b => ¬ K b) w0 w →
      GivesR P f (y :: caps) w fun _ w' => ∃ fp', Grown fp w fp' w' ∧ (J xs w' fp' ∨ ∃ pre, pre <+: xs ∧ Js pre w' fp')

theorem IterH.of_run {α : Type} {P : Program} {f : FuncId} {fn : Func} {c : Code} {caps : List Value} {K : Nat → Prop} {w0 : World} {xs : List α} {zf : α → AV} {hf' : α → List (Nat × Blk)} (hf : P.funcs[f]? = some fn) (hb : fn.body = some c)
    (hn : (caps.length + 1) ≤ fn.ntmps)
    (h : ∀ (y : Value) (J Js : List α → Res) (w : World) (fp : Foot), (∀ pre, Local (J pre)) → (∀ pre, Local (Js pre)) → (∀ pre x, pre ++ [x] <+: xs → YieldsH P y J Js w fp pre x (zf x) (hf' x)) →
      Agree (fun b => ¬ K b) w0 w → (∀ b, fp b → ¬ K b) → ∀ R : Value → World → Prop, (∀ v w' fp' pre, Grown fp w fp' w' → (pre = xs ∧ J pre w' fp' ∨ pre <+: xs ∧ Js pre w' fp') → R v w') →
        Run (fnC P f fn.ntmps w fp (J []) R) [.code c] ⟨argsT 0 (y :: caps), [], 0⟩) : IterH P f caps K w0 xs zf hf' := by
  intro y J Js w fp hJ hJs hy h0 hfp hK hag
  refine givesX_of_run (S0 := fp) (X := J []) hf hb (by simpa using hn) h0 (fun b hb => ⟨hfp b hb, fun _ => hb⟩) ?_
  refine h y J Js w fp hJ hJs hy hag hK _ fun v w' fp' pre hg hp => ?_
  rcases hp with ⟨rfl, hp⟩ | ⟨h1, h2⟩
  · exact ⟨fp', hg, .inl hp⟩
  · exact ⟨fp', hg, .inr ⟨pre, h1, h2⟩⟩

theorem Run.rangeFnH {α : Type} {C : Ctx} (hL : Local C.X) {k : List Item} {σ : St} {g : Operand} {p : Tmp} {assign body : Code} {f : FuncId} {vs : List Value} {z : AV}
    (hro : C.b.roundOf = none) (hg : σ.ev g = some z) (hz : ∀ M, conc M z = .func (.func f) #[] vs.toArray) (hent : Enters C.P f)
    (lo : Nat) (t : List (Nat × AV)) (htin : inT σ.t t) (hlo : keysLt lo t = true) (hp : Nat.ble lo p = true) (hp2 : Nat.blt p C.n.hi = true)
    {K : Nat → Prop} {xs : List α} {zf : α → AV} {hf : α → List (Nat × Blk)} (hit : IterH C.P f vs K C.w0 xs zf hf) (hK : ∀ b, K b → b < C.w0.heap.size ∧ ¬ C.S0 b)
    (Inv : List α → List (Nat × Blk) → Prop) (Stop : List α → Code → List (Nat × Blk) → Prop) (N m : Nat) (hNm : N ≤ m)
    (htb : tBelow N t = true) (hib : ∀ pre h, Inv pre h → hBelow N h = true) (hfge : ∀ x ∈ xs, hGe N m (hf x) = true) (hzge : ∀ x ∈ xs, (zf x).ge N = true)
    (h0 : List (Nat × Blk)) (hI0 : Inv [] h0) (hin : inT σ.h h0)
    (hround : ∀ D l a0 rc wy fpy pre x h, RoundIn (C.marked D) lo t l wy fpy → pre ++ [x] <+: xs → Inv pre h →
      Run (roundC (C.marked D) lo a0 l rc .ready wy fpy (roundR (C.marked D) t a0 l rc wy fpy (Inv (pre ++ [x])) (Stop (pre ++ [x])))) [.code assign, .beginRound, .code body] ⟨(p, zf x) :: t, hf x ++ h, m⟩)
    (hdone : ∀ D h, Inv xs h → Run (C.marked D) k ⟨t, h, N⟩)
    (hstop : ∀ D pre c h, pre <+: xs → Stop pre c h → Run (C.marked D) (.code c :: k) ⟨t, h, N⟩) :
    Run C (.code (.rangeFunc g #[p] assign body) :: k) σ := by
  intro M fp a w hR cs
  let D := w.heap.size
  let l := w.heap.size + 1
  let rc : Loop := { state := .ready, pending := none, fn := C.b.fn, tmps := a.tmps, params := #[p], assign, body, defers := D }
  let W1 : World := (w.alloc (.deferred (some []))).alloc (.loop rc)
  let y : Value := .func (.yield l) #[] #[]
  have he : (Instr.enterLoop C.b.fn a.tmps #[p] assign body C.b.roundOf).run C.P w = .ok (l, [mark D]) W1 := by rw [hro]; exact run_enterLoop_outer C.b.fn a.tmps #[p] assign body
  have hres : (resolve a.eval (rangeCall g l) 0).run C.P W1 = .ok { target := .fn (.func f) vs.toArray, args := #[y] } W1 := by
    simp [resolve, hR.q.ev hg, hz, Deferred.ofValue, y]
    rfl
  have hinv : (invoke (.fn (.func f) vs.toArray) #[y]).run C.P W1 = .ok (.enter f (y :: vs).toArray) W1 := by
    have : (#[y] ++ vs.toArray : Array Value) = (y :: vs).toArray := by simp
    simp only [invoke, this, hent _ _]
  have s1 := stepR_rangeFunc (P := C.P) (b := C.b) (a := a) (k := k) (cs := cs) (w := w) he hres hinv
  have hws : W1.heap.size = w.heap.size + 2 := by simp only [W1, World.size_alloc]
  have hold : ∀ b, b < w.heap.size → W1.heap[b]? = w.heap[b]? := by
    intro b hb
    rw [heap_alloc_old _ _ b (by rw [World.size_alloc]; omega), heap_alloc_old _ _ b hb]
  have hD : W1.heap[D]? = some (.deferred (some [])) := by
    rw [heap_alloc_old _ _ _ (by rw [World.size_alloc]; omega)]
    exact World.alloc_heap_new _ _
  have hl : W1.heap[l]? = some (.loop rc) := by
    have := World.alloc_heap_new (w.alloc (.deferred (some []))) (.loop rc)
    rw [show (w.alloc (.deferred (some []))).heap.size = l by simp only [World.size_alloc, l]] at this
    exact this
  have hblk : ∀ id B, lk h0 id = some B → lk σ.h id = some B := fun id B hB => inT_lk hin id B hB
  let J : List α → Res := fun pre w fp => ∃ h M fpX, Inv pre h ∧ LoopJ (C.marked D) t a.tmps l rc .ready none h M fpX w fp
  let Js : List α → Res := fun pre w fp => ∃ c h M fpX, Stop pre c h ∧ LoopJ (C.marked D) t a.tmps l rc .done (some c) h M fpX w fp
  have hLm : Local (C.marked D).X := markX_local hL D
  have hJl : ∀ pre, Local (J pre) := fun pre w w' fp ⟨h, M, fpX, h1, h2⟩ _ hs => ⟨h, M, fpX, h1, h2.moved hLm hs⟩
  have hJsl : ∀ pre, Local (Js pre) := fun pre w w' fp ⟨c, h, M, fpX, h1, h2⟩ _ hs => ⟨c, h, M, fpX, h1, h2.moved hLm hs⟩
  let fp1 : Foot := fun b => (fp b ∨ b = D) ∨ b = l ∨ ∃ id B, lk h0 id = some B ∧ (M id).1 = b
  have hfl : ∀ b, fp b → b < w.heap.size := fun b hb => (hR.fpok b hb).1
  have hml : ∀ id B, lk h0 id = some B → (M id).1 < w.heap.size := fun id B hB => (hR.heap _ _ (hblk _ _ hB)).lt
  have hwle : C.w0.heap.size ≤ w.heap.size := hR.agree.size
  have hfp1 : ∀ b, fp1 b → b < W1.heap.size ∧ (b < C.w0.heap.size → C.S0 b) := by
    intro b hb
    rw [hws]
    rcases hb with (hb | rfl) | rfl | ⟨id, B, hB, rfl⟩
    · exact ⟨by have := hfl b hb; omega, (hR.fpok b hb).2⟩
    · exact ⟨by simp only [D]; omega, fun h => by simp only [D] at h; omega⟩
    · exact ⟨by simp only [l]; omega, fun h => by simp only [l] at h; omega⟩
    · exact ⟨by have := hml _ _ hB; omega, hR.own _ _ (hblk _ _ hB)⟩
  have hW1 : Agree C.S0 C.w0 W1 := ⟨hR.agree.os, hR.agree.tape, hR.agree.output, by rw [hws]; omega, fun b hb hs => by rw [hold b (by omega)]; exact hR.agree.block b hb hs⟩
  have hJ0 : J [] W1 fp1 := by
    refine ⟨h0, M, fun b => fp b ∨ b = D, hI0, ?_⟩
    refine { tmps := fun i x hx => hR.tmps i x (inT_lk htin i x hx), heap := ?_, inj := ?_, own := ?_, apart := ?_, outer := ?_, fpok := ?_, rc := hl, lX := ?_, lnew := ?_, foot := fun b => Iff.rfl }
    · exact fun id B hB => (hR.heap _ _ (hblk _ _ hB)).same (hold _ (hml _ _ hB))
    · exact fun id id' B B' hB hB' e => hR.inj _ _ _ _ (hblk _ _ hB) (hblk _ _ hB') e
    · exact fun id B hB => hR.own _ _ (hblk _ _ hB)
    · intro id B hB
      have := hml _ _ hB
      refine ⟨fun hf => ?_, fun e => by simp only [l] at e; omega⟩
      rcases hf with hf | hf
      · exact hR.apart _ _ (hblk _ _ hB) hf
      · simp only [D] at hf; omega
    · exact ⟨fp, hL w W1 fp hR.outer hfl (fun b hb => hold b (hfl b hb)), fun hf => Nat.lt_irrefl _ (hfl _ hf), hD, fun b => Iff.rfl⟩
    · intro b hb
      exact hfp1 b (.inl hb)
    · intro hf
      rcases hf with hf | hf
      · have := hfl _ hf; simp only [l] at this; omega
      · simp only [l, D] at hf; omega
    · show C.w0.heap.size ≤ l
      simp only [l]; omega
  have hys : ∀ pre x, pre ++ [x] <+: xs → YieldsH C.P y J Js W1 fp1 pre x (zf x) (hf x) := by
    intro pre x hpx wy fpy F v hJy hitem hFf hgr
    obtain ⟨h, M', fpX, hinvp, hJ⟩ := hJy
    obtain ⟨Mi, hv, hbi, hji, hFi⟩ := hitem
    have hx := hpx.subset (show x ∈ pre ++ [x] by simp)
    have hge := hfge x hx
    have hzg := hzge x hx
    have hbel := hib _ _ hinvp
    have hag : Agree C.S0 C.w0 wy := hW1.trans hgr.1 (fun i hi hl => (hfp1 i hi).2 hl)
    let fpz : Foot := fun b => fpy b ∨ F b
    have hfy : ∀ b, fpz b → b < C.w0.heap.size → C.S0 b := fun b hb hlt => (hfp1 b ((hgr.2 b hb).2 (by have := hW1.size; omega))).2 hlt
    let M'' : Loc := fun i => if i < N then M' i else Mi i
    have hlow : ∀ i, i < N → M'' i = M' i := fun i hi => by simp only [M'', if_pos hi]
    have hhi : ∀ i, N ≤ i → M'' i = Mi i := fun i hi => by simp only [M'', if_neg (Nat.not_lt.2 hi)]
    have key : ∀ id B, lk (hf x ++ h) id = some B → (N ≤ id ∧ lk (hf x) id = some B) ∨ (id < N ∧ lk h id = some B) := by
      intro id B hB
      rw [lk_append] at hB
      split at hB
      · rename_i u hu
        cases hB
        exact .inl ⟨(hGe_lk hge hu).1, hu⟩
      · exact .inr ⟨(lkh_below hbel hB).1, hB⟩
    have hinF : ∀ id B, lk (hf x) id = some B → F (Mi id).1 := fun id B hB => (hFi _).2 ⟨id, B, hB, rfl⟩
    have hinY : ∀ id B, lk h id = some B → fpy (M' id).1 := fun id B hB => (hJ.foot _).2 (.inr (.inr ⟨id, B, hB, rfl⟩))
    have hrun := run_yield (P := C.P) (args := #[v]) hJ.rc (by simp [rc])
    refine ⟨{ target := .fn (.yield l) #[], args := #[v] }, _, by simp [Deferred.ofValue, y], by simp only [invoke]; exact hrun, ?_⟩
    intro c cs'
    have hpl : p < a.tmps.size := by rw [hR.size]; simpa using hp2
    let a' : Act := { tmps := a.tmps.setIfInBounds p v, defers := [] }
    have htm : (#[p].zip #[v]).foldl (fun tmps (q : Nat × Value) => tmps.setIfInBounds q.1 q.2) a.tmps = a.tmps.setIfInBounds p v := by simp
    have hI : RoundIn (C.marked D) lo t l wy fpz := ⟨hLm, .inl ((hJ.foot l).2 (.inr (.inl rfl))), hag, hfy, hJ.lnew, hlo⟩
    have hrel : Rel (roundC (C.marked D) lo a.tmps l rc .ready wy fpz (roundR (C.marked D) t a.tmps l rc wy fpz (Inv (pre ++ [x])) (Stop (pre ++ [x])))) M'' (fun b => fpX b ∨ b = l) ⟨(p, zf x) :: t, hf x ++ h, m⟩ a' wy := by
      refine { heap := ?_, inj := ?_, own := ?_, apart := ?_, agree := Agree.refl _ _, outer := ⟨fpX, hJ.outer, hJ.lX, hJ.rc, fun b => Iff.rfl⟩, fpok := ?_, size := ?_, frozen := ?_, tmps := ?_, defers := rfl }
      · intro id B hB
        rcases key id B hB with ⟨h1, h2⟩ | ⟨h1, h2⟩
        · exact BlkAt.congrG hhi h1 (hGe_lk hge h2).2.2.1 (hbi id B h2)
        · exact BlkAt.congr hlow h1 (lkh_below hbel h2).2 rfl (hJ.heap id B h2)
      · intro id id' B B' hB hB' e
        rcases key id B hB with ⟨h1, h2⟩ | ⟨h1, h2⟩ <;> rcases key id' B' hB' with ⟨h3, h4⟩ | ⟨h3, h4⟩
        · rw [hhi id h1, hhi id' h3] at e; exact hji _ _ _ _ h2 h4 e
        · rw [hhi id h1, hlow id' h3] at e; exact (hFf _ (hinF _ _ h2) (e ▸ hinY _ _ h4)).elim
        · rw [hlow id h1, hhi id' h3] at e; exact (hFf _ (hinF _ _ h4) (e ▸ hinY _ _ h2)).elim
        · rw [hlow id h1, hlow id' h3] at e; exact hJ.inj _ _ _ _ h2 h4 e
      · intro id B hB _
        rcases key id B hB with ⟨h1, h2⟩ | ⟨h1, h2⟩
        · rw [hhi id h1]; exact .inr (hinF _ _ h2)
        · rw [hlow id h1]; exact .inl (hinY _ _ h2)
      · intro id B hB hf'
        rcases key id B hB with ⟨h1, h2⟩ | ⟨h1, h2⟩
        · rw [hhi id h1] at hf'
          refine hFf _ (hinF _ _ h2) ((hJ.foot _).2 ?_)
          exact hf'.imp (fun h => h) .inl
        · rw [hlow id h1] at hf'
          exact hf'.elim (hJ.apart _ _ h2).1 (hJ.apart _ _ h2).2
      · intro b hb
        have hb' : fpy b := (hJ.foot b).2 (hb.imp id .inl)
        exact ⟨(hgr.2 b (.inl hb')).1, fun _ => .inl hb'⟩
      · show a'.tmps.size = C.n.hi
        simp only [a', Array.size_setIfInBounds]; exact hR.size
      · intro i hi
        show (a.tmps.setIfInBounds p v)[i]? = a.tmps[i]?
        have hi' : i < lo := hi
        have : p ≠ i := fun e => Nat.lt_irrefl i (Nat.lt_of_lt_of_le hi' (e ▸ Nat.le_of_ble_eq_true hp))
        rw [Array.getElem?_setIfInBounds, if_neg this]
      · intro i u hu
        simp only [lk] at hu
        show (a.tmps.setIfInBounds p v)[i]? = _
        split at hu
        · rename_i he
          have e := Nat.eq_of_beq_eq_true he
          subst e; cases hu
          rw [Array.getElem?_setIfInBounds, if_pos rfl, if_pos hpl, conc_congrG hhi _ hzg, hv]
        · rename_i he
          have hne : p ≠ i := fun e => by subst e; simp at he
          rw [Array.getElem?_setIfInBounds, if_neg hne, hJ.tmps i u hu, conc_congr hlow u (lk_below htb hu)]
    obtain ⟨m', s, zz⟩ := hround D l a.tmps rc wy fpz pre x h hI hpx hinvp M'' _ a' wy hrel (c :: cs')
    obtain ⟨r, w', rfl, fp', hg', hv'⟩ := zz c cs' rfl
    refine ⟨r, w', ⟨fp', hg', ?_⟩, ?_⟩
    · rcases hv' with ⟨hv', hh⟩ | ⟨hv', hh⟩
      · obtain ⟨h', M', fpX', e1, e2⟩ := hh; exact .inl ⟨hv', h', M', fpX', e1, e2⟩
      · obtain ⟨c', h', M', fpX', e1, e2⟩ := hh; exact .inr ⟨hv', c', h', M', fpX', e1, e2⟩
    · have hfr : Frame.round l C.b.fn ((#[p].zip #[v]).foldl (fun tmps (q : Nat × Value) => tmps.setIfInBounds q.1 q.2) a.tmps) assign body .normal =
          (roundC (C.marked D) lo a.tmps l rc .ready wy fpz (roundR (C.marked D) t a.tmps l rc wy fpz (Inv (pre ++ [x])) (Stop (pre ++ [x])))).b.atR a' [.code assign, .beginRound, .code body] := by
        rw [htm]; simp [Frame.round, Frame.atR, roundC, Ctx.marked, a']
      exact hfr ▸ s
  have hcall := hit y J Js W1 fp1 hJl hJsl hys hJ0 (fun b hb => (hfp1 b hb).1) (fun b hb hk => (hK b hk).2 ((hfp1 b hb).2 (hK b hk).1))
    ⟨hW1.os, hW1.tape, hW1.output, hW1.size, fun b hb hk => hW1.block b hb (fun hs => by
      have : K b := Classical.byContradiction hk
      exact (hK b this).2 hs)⟩
  obtain ⟨e, w', fr, ⟨v, rfl, fp', hgr, hend⟩, hsteps, _, hleave⟩ := hcall (C.b.atR { a with defers := [mark D] ++ a.defers } (.inRangeFunc l :: k) :: cs)
  have s2 := step_leave_returned (c := C.b.atR { a with defers := [mark D] ++ a.defers } (.inRangeFunc l :: k)) (cs := cs) hleave
  rw [finish_atR_inRangeFunc] at s2
  have hag : Agree C.S0 C.w0 w' := hW1.trans hgr.1 (fun i hi hl => (hfp1 i hi).2 hl)
  have key : ∀ (st : LoopState) (pd : Option Code) (h : List (Nat × Blk)) (M' : Loc) (fpX : Foot), st ≠ .busy → LoopJ (C.marked D) t a.tmps l rc st pd h M' fpX w' fp' →
      Run (C.marked D) ((pd.map Item.code).toList ++ k) ⟨t, h, N⟩ → ∃ m, Steps C.P (lone (C.b.atR a (.code (.rangeFunc g #[p] assign body) :: k)) cs w) m ∧ C.Z cs m := by
    intro st pd h M' fpX hst hJ hr
    obtain ⟨k1, k2, k3⟩ := hJ.record hLm (o := .loop { rc with state := .exhausted, pending := pd })
    have hrel : Rel (C.marked D) M' fpX ⟨t, h, N⟩ { a with defers := [mark D] ++ a.defers } (w'.putObj l (.loop { rc with state := .exhausted, pending := pd })) := by
      refine { heap := k1, inj := hJ.inj, own := hJ.own, apart := fun id B hB => (hJ.apart _ _ hB).1, agree := ?_, outer := k2, fpok := k3, size := hR.size, frozen := hR.frozen, tmps := hJ.tmps, defers := ?_ }
      · refine agree_putObj hag (fun h => ?_)
        have : C.w0.heap.size ≤ l := hJ.lnew
        exact absurd (show l < C.w0.heap.size from h) (by omega)
      · show [mark D] ++ a.defers = mark D :: C.ds
        rw [hR.defers]; rfl
    obtain ⟨m, s, zz⟩ := hr M' fpX _ _ hrel cs
    have s3 := stepR_endRangeFunc (P := C.P) (b := C.b) (a := { a with defers := [mark D] ++ a.defers }) (k := k) (cs := cs) (run_endLoop (P := C.P) hJ.rc hst)
    exact ⟨m, .head s1 (Steps.trans hsteps (.head s2 (.head s3 s))), zz⟩
  rcases hend with ⟨h, M', fpX, hI, hJ⟩ | ⟨pre, hpre, c, h, M', fpX, hS, hJ⟩
  · exact key .ready none h M' fpX (by simp) hJ (hdone D h hI)
  · exact key .done (some c) h M' fpX (by simp) hJ (hstop D pre c h hpre hS)
end Go.AM

/-
  The abstract machine, twenty-fourth part: functions that work on blocks which are handed to them; calls by what follows them. Own work; over any program.
-/
namespace Go.AM

def argsA : Nat → List AV → List (Nat × AV)
  | _, [] => []
  | i, x :: r => (i, x) :: argsA (i + 1) r

theorem argsA_lk : ∀ {l : List AV} {i j : Nat} {x : AV}, lk (argsA i l) j = some x → i ≤ j ∧ l[j - i]? = some x
  | [], i, j, x, h => by cases h
  | y :: r, i, j, x, h => by
    simp only [argsA, lk] at h
    split at h
    · rename_i he
      have e := Nat.eq_of_beq_eq_true he
      subst e; cases h
      exact ⟨Nat.le_refl _, by simp⟩
    · rename_i he
      obtain ⟨h1, h2⟩ := argsA_lk h
      refine ⟨by omega, ?_⟩
      rw [show j - i = (j - (i + 1)) + 1 by omega]; simpa using h2

theorem concL_get {M : Loc} : ∀ {l : List AV} {j : Nat} {x : AV}, l[j]? = some x → (concL M l)[j]? = some (conc M x)
  | y :: r, 0, x, h => by simp at h; subst h; simp [concL]
  | y :: r, j + 1, x, h => by simp at h; simp only [concL, List.getElem?_cons_succ]; exact concL_get h

theorem concL_length {M : Loc} : ∀ (l : List AV), (concL M l).length = l.length
  | [] => by simp [concL]
  | y :: r => by simp [concL, concL_length r]

/-- What a footprint and some blocks take up. -/
def footH (M : Loc) (fp : Foot) (h : List (Nat × Blk)) : Foot := fun b => fp b ∨ ∃ id B, lk h id = some B ∧ (M id).1 = b

/-- A call to which blocks are handed. -/
theorem givesO_of_run {P : Program} {f : FuncId} {fn : Func} {c : Code} {args : List AV} {h : List (Nat × Blk)} {nx : Nat} {M : Loc} {w : World} {X : Res} {fp : Foot} {R : Value → World → Prop} (hf : P.funcs[f]? = some fn) (hb : fn.body = some c)
    (hn : args.length ≤ fn.ntmps) (hX : X w fp) (hfp : ∀ b, fp b → b < w.heap.size)
    (hh : ∀ id B, lk h id = some B → BlkAt M w id B) (hi : ∀ id id' B B', lk h id = some B → lk h id' = some B' → (M id).1 = (M id').1 → id = id') (ha : ∀ id B, lk h id = some B → ¬ fp (M id).1)
    (hr : Run (fnC P f fn.ntmps w (footH M fp h) X R) [.code c] ⟨argsA 0 args, h, nx⟩) : GivesR P f (concL M args) w R := by
  intro cs
  let a : Act := { tmps := (concL M args).toArray ++ Array.replicate (fn.ntmps - (concL M args).length) undef, defers := [] }
  let b : Frame := { (default : Frame) with fn := f, kind := .normal, roundOf := none }
  have henter : Frame.enter P f (concL M args).toArray .normal = b.atR a [.code c] := by
    simp [Frame.enter, Frame.atR, hf, hb, b, a]
  have hR : Rel (fnC P f fn.ntmps w (footH M fp h) X R) M fp ⟨argsA 0 args, h, nx⟩ a w := by
    refine { heap := hh, inj := hi, own := fun id B hB _ => .inr ⟨id, B, hB, rfl⟩, apart := ha, agree := Agree.refl _ _, outer := hX,
             fpok := fun b hb => ⟨hfp b hb, fun _ => .inl hb⟩, size := by simp [a, fnC, concL_length]; omega, frozen := fun i hi => absurd hi (Nat.not_lt_zero _), tmps := ?_, defers := rfl }
    intro i x hx
    obtain ⟨_, h2⟩ := argsA_lk hx
    simp only [Nat.sub_zero] at h2
    have h3 := concL_get (M := M) h2
    have hlt := (List.getElem?_eq_some_iff.1 h3).1
    simp only [a]
    rw [Array.getElem?_append_left (by simpa using hlt)]
    simpa using h3
  obtain ⟨m, s, v, w', fr, rfl, h1, h2, h3⟩ := hr M fp a w hR cs
  rw [henter]
  exact ⟨.returned v, w', fr, ⟨v, rfl, h3⟩, s, h1, h2⟩

/-- A call, by what follows it. -/
theorem Run.callK {C : Ctx} {k : List Item} {σ : St} {ops : Array Oper} {i : Nat} {rest : List Nat} {o : Oper} {c : Call} {g : Operand} {f : FuncId} {caps xs : List AV}
    (ho : ops[i]? = some o) (hop : o.op = .call c) (hc : c.callee = .value g) (hg : σ.ev g = some (.fn f caps)) (hxs : evs σ c.args.toList = some xs) (hw : wantOf ops σ o = some .yes) (hent : Enters C.P f)
    (hd : dstOK C.n o.dst = true)
    (hcon : ∀ M fp a w, Rel C M fp σ a w → GivesR C.P f (concL M (xs ++ caps)) w (fun v w' => ∃ X' M' fp' σ' z, conc M' z = v ∧ Rel (C.withX X') M' fp' σ' a w' ∧ Run (C.withX X') (.inRegion ops rest :: k) (σ'.put o.dst z))) :
    Run C (.inRegion ops (i :: rest) :: k) σ := by
  intro M fp a w hR cs
  have hnd : ∀ c, o.op ≠ .defer c := fun c e => by rw [hop] at e; cases e
  have h2 : c.args.map a.eval = (concL M xs).toArray := by apply Array.ext'; simpa using evs_conc hR.q hxs
  have hr : (execOp a.eval o).run C.P w = .ok (.enter f (concL M (xs ++ caps)).toArray) w := by
    simp only [execOp, hop, resolve, hc, h2, hR.q.ev hg, conc, Deferred.ofValue]
    simp [invoke, hent _ _, concL_append]
  have s1 := step_call (b := C.b) (k := k) (cs := cs) (rest := rest) ho (wantOf_yes hR.q hw) hnd hr
  obtain ⟨e, w', fr, ⟨v, rfl, X', M', fp', σ', z, hz, hR', hrun⟩, hsteps, _, hleave⟩ := hcon M fp a w hR (C.b.atR a (.inRegion ops (i :: rest) :: k) :: cs)
  obtain ⟨m, s, e⟩ := hrun M' fp' _ w' (hR'.put (C := C.withX X') (z := z) (dstOK_lt hd)) cs
  have hfin : (C.b.atR a (.inRegion ops (i :: rest) :: k)).finish v = C.b.atR (a.put o.dst v) (.inRegion ops rest :: k) := by rw [Frame.finish_atR, ho]; rfl
  refine ⟨m, .head s1 (Steps.trans hsteps (.head (step_leave_returned hleave) ?_)), e⟩
  rw [hfin, ← hz]; exact s

theorem YieldsH.rebase {α : Type} {P : Program} {y : Value} {J Js : List α → Res} {w1 w2 : World} {fp1 fp2 : Foot} {pre : List α} {x : α} {z : AV} {h : List (Nat × Blk)} (hy : YieldsH P y J Js w1 fp1 pre x z h) (hg : Grown fp1 w1 fp2 w2) :
    YieldsH P y J Js w2 fp2 pre x z h := fun w fp F v h1 h2 h3 h4 => hy w fp F v h1 h2 h3 (hg.trans h4)

/-- What is handed over, numbered otherwise. -/
theorem Handed.to {z z' : AV} {h h' : List (Nat × Blk)} {w w' : World} {v : Value} (ρ : List (Nat × Nat)) (H : Handed z h w v w') (hz : z = ren ρ z') (hh : inHR ρ h h') (ha : AM.apart ρ (keys h') = true) : Handed z' h' w v w' := by
  obtain ⟨hag, M, hv, hb, hi⟩ := H
  refine ⟨hag, fun i => M (ap ρ i), by rw [← conc_ren, ← hz, hv], fun id B hB => ?_, fun id id' B B' hB hB' e => ?_⟩
  · have := hb _ _ (inHR_lk hh _ _ hB)
    exact ⟨this.1.ren, this.2⟩
  · exact apart_spec ha (lk_keys hB) (lk_keys hB') (hi _ _ _ _ (inHR_lk hh _ _ hB) (inHR_lk hh _ _ hB') e)
theorem HandsZ.to {P : Program} {f : FuncId} {args : List Value} {w : World} {z z' : AV} {h h' : List (Nat × Blk)} (ρ : List (Nat × Nat)) (H : HandsZ P f args w z h) (hz : z = ren ρ z') (hh : inHR ρ h h') (ha : AM.apart ρ (keys h') = true) : HandsZ P f args w z' h' :=
  Calls.mono' H fun _ _ ⟨v, h1, h2⟩ => ⟨v, h1, h2.to ρ hz hh ha⟩

/-- The return of whatever, by what the state says. -/
theorem Run.retS {P : Program} {T : Tab} (hT : tabOK P T) {f : FuncId} {fn : Func} {n : Nat} {w0 : World} {S0 : Nat → Prop} {X : Res} {R : Value → World → Prop} {σ : St} {k : List Item} {p : Prop} {l : List AV}
    (hf : P.funcs[f]? = some fn) (h : resOf T w0 S0 σ fn.results.toList = some (p, l)) (hp : p)
    (hR : ∀ M fp a w, Rel (fnC P f n w0 S0 X R) M fp σ a w → R (conc M (resAV l)) w) : Run (fnC P f n w0 S0 X R) (.code .ret :: k) σ := Run.ret hT hf h hp hR
/-! ### Parameters that stand still -/

/-- A function's surroundings in which the first temporaries are never written. -/
abbrev fnL (P : Program) (f : FuncId) (lo n : Nat) (t0 : Array Value) (w : World) (S0 : Nat → Prop) (X : Res) (R : Value → World → Prop) : Ctx := { fnC P f n w S0 X R with n := ⟨lo, n⟩, t0 := t0 }

theorem givesL_of_run {P : Program} {f : FuncId} {fn : Func} {c : Code} {args : List AV} {h : List (Nat × Blk)} {nx : Nat} {M : Loc} {w : World} {X : Res} {fp : Foot} {R : Value → World → Prop} (hf : P.funcs[f]? = some fn) (hb : fn.body = some c)
    (hn : args.length ≤ fn.ntmps) (hX : X w fp) (hfp : ∀ b, fp b → b < w.heap.size)
    (hh : ∀ id B, lk h id = some B → BlkAt M w id B) (hi : ∀ id id' B B', lk h id = some B → lk h id' = some B' → (M id).1 = (M id').1 → id = id') (ha : ∀ id B, lk h id = some B → ¬ fp (M id).1)
    (hr : Run (fnL P f args.length fn.ntmps (concL M args).toArray w (footH M fp h) X R) [.code c] ⟨argsA 0 args, h, nx⟩) : GivesR P f (concL M args) w R := by
  intro cs
  let a : Act := { tmps := (concL M args).toArray ++ Array.replicate (fn.ntmps - (concL M args).length) undef, defers := [] }
  let b : Frame := { (default : Frame) with fn := f, kind := .normal, roundOf := none }
  have henter : Frame.enter P f (concL M args).toArray .normal = b.atR a [.code c] := by
    simp [Frame.enter, Frame.atR, hf, hb, b, a]
  have hR : Rel (fnL P f args.length fn.ntmps (concL M args).toArray w (footH M fp h) X R) M fp ⟨argsA 0 args, h, nx⟩ a w := by
    refine { heap := hh, inj := hi, own := fun id B hB _ => .inr ⟨id, B, hB, rfl⟩, apart := ha, agree := Agree.refl _ _, outer := hX,
             fpok := fun b hb => ⟨hfp b hb, fun _ => .inl hb⟩, size := by simp [a, concL_length]; omega, frozen := fun i hi => ?_, tmps := ?_, defers := rfl }
    · have hi' : i < args.length := hi
      simp only [a]
      rw [Array.getElem?_append_left (by simpa [concL_length] using hi')]
    · intro i x hx
      obtain ⟨_, h2⟩ := argsA_lk hx
      simp only [Nat.sub_zero] at h2
      have h3 := concL_get (M := M) h2
      have hlt := (List.getElem?_eq_some_iff.1 h3).1
      simp only [a]
      rw [Array.getElem?_append_left (by simpa using hlt)]
      simpa using h3
  obtain ⟨m, s, v, w', fr, rfl, h1, h2, h3⟩ := hr M fp a w hR cs
  rw [henter]
  exact ⟨.returned v, w', fr, ⟨v, rfl, h3⟩, s, h1, h2⟩

theorem Run.retF {P : Program} {T : Tab} (hT : tabOK P T) {f : FuncId} {fn : Func} {lo n : Nat} {t0 : Array Value} {w0 : World} {S0 : Nat → Prop} {X : Res} {R : Value → World → Prop} {σ : St} {k : List Item} {p : Prop} {l : List AV}
    (hf : P.funcs[f]? = some fn) (h : resOf T w0 S0 σ fn.results.toList = some (p, l)) (hp : p)
    (hR : ∀ M fp a w, Rel (fnL P f lo n t0 w0 S0 X R) M fp σ a w → R (conc M (resAV l)) w) : Run (fnL P f lo n t0 w0 S0 X R) (.code .ret :: k) σ := by
  intro M fp a w hr cs
  refine ⟨_, .one (stepR_ret rfl), _, w, _, rfl, rfl, ⟨rfl, hr.defers, rfl, fn, hf, ?_⟩, hR M fp a w hr⟩
  exact results_run hT hr (fn := fn) h hp

/-- Where a parameter that stands still points. -/
theorem Rel.still {C : Ctx} {M : Loc} {fp : Nat → Prop} {σ : St} {a : Act} {w : World} (hR : Rel C M fp σ a w) {i id off b o : Nat} (hi : i < C.n.lo) (h0 : C.t0[i]? = some (.pointer (some ⟨b, o, none⟩))) (ht : lk σ.t i = some (.ptr id off)) : (M id).1 = b := by
  have h1 := hR.frozen i hi
  rw [hR.tmps i _ ht, h0] at h1
  simp only [conc, Option.some.injEq, Value.pointer.injEq, Addr.mk.injEq] at h1
  exact h1.1
end Go.AM

/-
  The abstract machine, twenty-fifth part: structs built in drawn regions, taken first. Own work; over any program.
-/
namespace Go.AM

theorem RunO.build {C : Ctx} {held : List (Nat × Blk)} {n0 : Nat} {ops : Array Oper} {i : Nat} {ord : List (Nat × Bool)} {k : List Item} {σ : St} {o : Oper} {T : Tab} {t : TypeId} {parts : Array (Nat × Operand)} {l : List (Nat × Value)} {p : Prop} {z : AV}
    (hT : tabOK C.P T) (hsel : noSel ops = true) (ho : ops[i]? = some o) (hop : o.op = .build t parts) (hl : plainParts σ parts.toList = some l) (hz : evBuild T t l = some (p, z)) (hw : wantOf ops σ o = some .yes) (hd : dstOK C.n o.dst = true)
    (hp : p) (h : RunO C held n0 ops ord k (σ.put o.dst z)) : RunO C held n0 ops ((i, true) :: ord) k σ := by
  refine RunO.first hsel ho hd (fun M0 M fp a w hM hR => .inl ⟨wantOf_yes hR.q hw, (fun c e => by rw [hop] at e; cases e), fun w' _ => ?_⟩) h
  have hc := plainParts_conc hR.q hl
  have e : (parts.map fun x => (x.1, a.eval x.2)).toList = l := by rw [← hc]; simp
  have := evBuild_run hT (M := M) (parts := parts.map fun x => (x.1, a.eval x.2)) (by rw [e]; exact hz) hp w'
  simp [execOp, hop, this]
end Go.AM

/-
  The abstract machine, twenty-ninth part: calls in a drawn region that hand over new blocks. Own work; over any program.
-/
namespace Go.AM
section
variable {C : Ctx} {held : List (Nat × Blk)} {n0 : Nat} {ops : Array Oper} {i : Nat} {ord : List (Nat × Bool)} {k : List Item} {σ : St} {o : Oper} {c : Call} {g : Operand} {f : FuncId} {caps xs : List AV}

theorem RunO.callH (hL : Local C.X) (z : AV) (h : List (Nat × Blk)) (m : Nat) (ho : ops[i]? = some o) (hop : o.op = .call c) (hc : c.callee = .value g) (hg : σ.ev g = some (.fn f caps)) (hxs : evs σ c.args.toList = some xs) (hw : wantOf ops σ o = some .yes) (hent : Enters C.P f)
    (hd : dstOK C.n o.dst = true) (hbel : σ.bel = true) (hge : hGe σ.nx m h = true) (hz : z.ge σ.nx = true) (hm : Nat.ble σ.nx m = true)
    (hfn : ∀ M w, (∀ id B, lk σ.h id = some B → BlkAt M w id B) → Agree C.S0 C.w0 w → GivesR C.P f (concL M (xs ++ caps)) w (Handed z h w))
    (hr : RunO C held n0 ops ord k (St.put ⟨σ.t, h ++ σ.h, m⟩ o.dst z)) : RunO C held n0 ops ((i, false) :: ord) k σ := by
  refine RunO.alone ho fun M0 M fp a w hM hn hR hS => ?_
  have h2 : c.args.map a.eval = (concL M xs).toArray := by apply Array.ext'; simpa using evs_conc hR.q hxs
  have hrun : (execOp a.eval o).run C.P w = .ok (.enter f (concL M (xs ++ caps)).toArray) w := by
    simp only [execOp, hop, resolve, hc, h2, hR.q.ev hg, conc, Deferred.ofValue]
    simp [invoke, hent _ _, concL_append]
  unfold OpW
  simp only [ho, if_pos (wantOf_yes hR.q hw), hrun]
  refine ⟨fun c e => (by rw [hop] at e; cases e), Calls.mono' (hfn M w hR.heap hR.agree) fun e w' ⟨v, h1, hh⟩ => ?_⟩
  obtain ⟨M', hv, hMM, hR'⟩ := hR.handed hL hh hbel hge hz (Nat.le_of_ble_eq_true hm)
  have hag : Agree (fun _ => False) w w' := hh.1
  subst hv
  refine ⟨_, h1, M', fp, _, ?_, ?_, hR'.put (z := z) (dstOK_lt hd), ?_, hr⟩
  · exact fun i hi => (hMM i (Nat.lt_of_lt_of_le hi hn)).trans (hM i hi)
  · have := Nat.le_of_ble_eq_true hm
    cases o.dst <;> exact Nat.le_trans hn this
  · refine ⟨?_, hS.2.trans hag (fun _ f _ => f.elim)⟩
    intro id B hB
    have := hS.1 id B hB
    exact this.same (hag.block _ this.lt (fun f => f))

/-- A function's value is not nil. -/
theorem Run.fnNil {rest : List Nat} {T : Tab} (hT : tabOK C.P T) {t u : TypeId} {x : Operand} {fv : Fn} {a b : Array Value} {ps rs : Array TypeId} {vd : Bool} (ho : ops[i]? = some o) (hop : o.op = .binOp .eql t x (.const .nilFunc) u) (hx : σ.ev x = some (.v (.func fv a b)))
    (ht : T.desc t = some (.func ps rs vd)) (hw : wantOf ops σ o = some .yes) (hd : dstOK C.n o.dst = true) (h : Run C (.inRegion ops rest :: k) (σ.put o.dst (.tt false))) : Run C (.inRegion ops (i :: rest) :: k) σ := by
  intro M fp ac w hR cs
  obtain ⟨m, s, z⟩ := h M fp _ w (hR.put (z := .tt false) (dstOK_lt hd)) cs
  refine ⟨m, .head (step_value ho (wantOf_yes hR.q hw) (fun c e => by rw [hop] at e; cases e) ?_) s, z⟩
  have hu := eq_func_fn (w := w) (tab_undP hT ht) fv a b
  have h1 := hR.q.ev hx
  simp only [conc] at h1
  have h2 : ac.eval (.const .nilFunc) = .nilFunc := rfl
  simp [execOp, hop, h1, h2, eqGuard, binOp, hu, conc]
end
end Go.AM

/-
  right, Has, Count, here and in the reference. Own work.
-/
namespace Go.Proofs.YtocpkgckllbjlaaDoor
open Go.AM
set_option maxRecDepth 100000

open Classical in
/-- The relation, if it is right. -/
noncomputable def rightL (r : Rl) : Rl := if checkI r = 0 then r else Rl.void 0

theorem right_ok (r : Rl) (w : World) : Gives Tryd.prog 70 [encRel r] w (encRel (rightL r)) := by
  refine Gives.of_run Tryd.func70 rfl (by show 1 ≤ 8; decide) ?_
  refine RunF_sound tab_ok noX_local 100 [] _ _ rfl ?_ ?_
  · simp
  refine Run.callFn noX_local rfl rfl rfl rfl rfl rfl rfl check_enters rfl (fun w' _ => check_ok r w') ?_
  by_cases h : checkI r = 0
  · refine RunF_sound tab_ok noX_local 100 [false] _ _ rfl ?_ ?_
    · simp [h, segsVals, relV_one']
    · refine Run.retP tab_ok Tryd.func70 rfl ?_ (fun M => ?_)
      · simp
      rw [rightL, if_pos h]; rfl
  · refine RunF_sound tab_ok noX_local 100 [true] _ _ rfl ?_ ?_
    · simp [h, fillL, Value.cells, segsVals, relV_one']
    · refine Run.retP tab_ok Tryd.func70 rfl ?_ (fun M => ?_)
      · simp [fillL, Value.cells]
      rw [rightL, if_neg h]; rfl
theorem right_enters : Enters Tryd.prog 70 := enters_mk Tryd.func70 (by decide) rfl

theorem rightR_ok (r : Rl) (w : World) : Gives Tryd.prog 18 [encRel r] w (encRel (rightL r)) := by
  refine Gives.of_run Tryd.func18 rfl (by show 1 ≤ 8; decide) ?_
  refine RunF_sound tab_ok noX_local 100 [] _ _ rfl ?_ ?_
  · simp
  refine Run.callFn noX_local rfl rfl rfl rfl rfl rfl rfl checkR_enters rfl (fun w' _ => checkR_ok r w') ?_
  by_cases h : checkI r = 0
  · refine RunF_sound tab_ok noX_local 100 [false] _ _ rfl ?_ ?_
    · simp [h, segsVals, relV_one']
    · refine Run.retP tab_ok Tryd.func18 rfl ?_ (fun M => ?_)
      · simp
      rw [rightL, if_pos h]; rfl
  · refine RunF_sound tab_ok noX_local 100 [true] _ _ rfl ?_ ?_
    · simp [h, fillL, Value.cells, segsVals, relV_one']
    · refine Run.retP tab_ok Tryd.func18 rfl ?_ (fun M => ?_)
      · simp [fillL, Value.cells]
      rw [rightL, if_neg h]; rfl
theorem rightR_enters : Enters Tryd.prog 18 := enters_mk Tryd.func18 (by decide) rfl

/-- A right relation's bounds. -/
theorem rightL_n (r : Rl) : 0 ≤ (rightL r).n ∧ (rightL r).n ≤ 64 := by
  unfold rightL
  split
  · rename_i h
    unfold checkI at h
    split at h
    · cases h
    · omega
  · simp [Rl.void]

theorem good_void : ∀ i, i < 64 → good (Rl.void 0) i = true := by
  intro i _
  unfold good
  rw [Rl.row_void]
  simp

theorem rightL_good (r : Rl) : ∀ i, i < 64 → good (rightL r) i = true := by
  unfold rightL
  split
  · rename_i h
    unfold checkI at h
    split at h
    · cases h
    · split at h
      · rename_i h2; exact h2
      · cases h
  · exact good_void

theorem checkI_right (r : Rl) : checkI (rightL r) = 0 := by
  have h := rightL_n r
  unfold checkI
  rw [if_neg (by omega), if_pos (rightL_good r)]

theorem rightL_of (r : Rl) (h : checkI r = 0) : rightL r = r := by unfold rightL; rw [if_pos h]
theorem rightL_idem (r : Rl) : rightL (rightL r) = rightL r := rightL_of _ (checkI_right r)

/-- Where a right relation's pairs are. -/
theorem right_has (r : Rl) (a b : Nat) (h : (rightL r).has a b = true) : (a : Int) < (rightL r).n ∧ (b : Int) < (rightL r).n := by
  have hn := rightL_n r
  have ha : a < 64 := by
    rcases Nat.lt_or_ge a 64 with h1 | h1
    · exact h1
    · rw [Rl.has, Rl.row_ge _ h1] at h; simp at h
  have hb : b < 64 := by
    rcases Nat.lt_or_ge b 64 with h1 | h1
    · exact h1
    · rw [Rl.has, BitVec.getLsbD_of_ge _ _ h1] at h; cases h
  have := (good_iff (rightL r) a hn.1).1 (rightL_good r a ha) b hb
  unfold okBit at this
  by_cases h1 : (a : Int) < (rightL r).n
  · by_cases h2 : (b : Int) < (rightL r).n
    · exact ⟨h1, h2⟩
    · exact absurd ⟨h, .inr (by omega)⟩ this
  · exact absurd ⟨h, .inl (by omega)⟩ this

/-- Does a stand to b, numbers of whatever size? -/
def hasI (r : Rl) (a b : Int) : Bool := decide (0 ≤ a ∧ a < r.n ∧ 0 ≤ b ∧ b < r.n) && r.has a.toNat b.toNat
end Go.Proofs.YtocpkgckllbjlaaDoor

/-
  Has, Count, here and in the reference. Own work.
-/
namespace Go.Proofs.YtocpkgckllbjlaaDoor
open Go.AM
set_option maxRecDepth 100000

theorem bit_eq (x : BitVec 64) (b : Int) : (band .u64 (shrI .u64 (un x) b) 1 == 1) = x.getLsbD b.toNat := by
  rw [shr_un, band1_un, Bool.eq_iff_iff, beq_iff_eq, un_eq1, bit_iff]

theorem has_ok (r : Rl) (a b : Int) (w : World) : Gives Tryd.prog 16 [encRel r, .int .i64 a, .int .i64 b] w (.bool (hasI (rightL r) a b)) := by
  refine Gives.of_run Tryd.func16 rfl (by show 3 ≤ 37; decide) ?_
  refine RunF_sound tab_ok noX_local 100 [] _ _ rfl ?_ ?_
  · simp
  refine Run.callFn noX_local rfl rfl rfl rfl rfl rfl rfl right_enters rfl (fun w' _ => right_ok r w') ?_
  have hn := rightL_n r
  generalize rightL r = R at hn
  by_cases c1 : 0 ≤ a
  · by_cases c2 : a < R.n
    · by_cases c3 : 0 ≤ b
      · by_cases c4 : b < R.n
        · have hk : a.toNat < 64 := by omega
          refine RunF_sound tab_ok noX_local 200 [true, true, true, true] _ _ rfl ?_ ?_
          · simp [segsVals, relV_one', c1, c2, c3, c4, relV_get _ _ hk, intAt_row _ _ hk]
            omega
          · refine Run.retP tab_ok Tryd.func16 rfl trivial (fun M => ?_)
            show Value.bool _ = _
            simp only [Nat.zero_add]
            rw [show 1 - 0 + a.toNat * 1 = 1 + a.toNat by omega, intAt_row _ _ hk, bit_eq]
            simp [hasI, c1, c2, c3, c4, Rl.has]
        · refine RunF_sound tab_ok noX_local 200 [true, true, true, false] _ _ rfl ?_ ?_
          · simp [segsVals, relV_one', c1, c2, c3, c4]
          · refine Run.retP tab_ok Tryd.func16 rfl trivial (fun M => ?_)
            simp [hasI, c4, conc]
      · refine RunF_sound tab_ok noX_local 200 [true, true, false] _ _ rfl ?_ ?_
        · simp [segsVals, relV_one', c1, c2, c3]
        · refine Run.retP tab_ok Tryd.func16 rfl trivial (fun M => ?_)
          simp [hasI, c3, conc]
    · refine RunF_sound tab_ok noX_local 200 [true, false] _ _ rfl ?_ ?_
      · simp [segsVals, relV_one', c1, c2]
      · refine Run.retP tab_ok Tryd.func16 rfl trivial (fun M => ?_)
        simp [hasI, c2, conc]
  · refine RunF_sound tab_ok noX_local 200 [false] _ _ rfl ?_ ?_
    · simp [segsVals, relV_one', c1]
    · refine Run.retP tab_ok Tryd.func16 rfl trivial (fun M => ?_)
      simp [hasI, c1, conc]
theorem has_enters : Enters Tryd.prog 16 := enters_mk Tryd.func16 (by decide) rfl

theorem hasR_ok (R : Rl) (hn : 0 ≤ R.n ∧ R.n ≤ 64) (a b : Int) (w : World) : Gives Tryd.prog 17 [encRel R, .int .i64 a, .int .i64 b] w (.bool (hasI R a b)) := by
  refine Gives.of_run Tryd.func17 rfl (by show 3 ≤ 35; decide) ?_
  by_cases c1 : 0 ≤ a
  · by_cases c3 : 0 ≤ b
    · by_cases c2 : a < R.n
      · by_cases c4 : b < R.n
        · have hk : a.toNat < 64 := by omega
          refine RunF_sound tab_ok noX_local 200 [true, true, true, true] _ _ rfl ?_ ?_
          · simp [c1, c2, c3, c4, relV_get _ _ hk, intAt_row _ _ hk]
            omega
          · refine Run.retP tab_ok Tryd.func17 rfl trivial (fun M => ?_)
            show Value.bool _ = _
            rw [show 1 - 0 + a.toNat * 1 = 1 + a.toNat by omega, intAt_row _ _ hk, bit_eq]
            simp [hasI, c1, c2, c3, c4, Rl.has]
        · refine RunF_sound tab_ok noX_local 200 [true, true, true, false] _ _ rfl ?_ ?_
          · simp [c1, c2, c3, c4]
          · refine Run.retP tab_ok Tryd.func17 rfl trivial (fun M => ?_)
            simp [hasI, c4, conc]
      · refine RunF_sound tab_ok noX_local 200 [true, true, false] _ _ rfl ?_ ?_
        · simp [c1, c2, c3]
        · refine Run.retP tab_ok Tryd.func17 rfl trivial (fun M => ?_)
          simp [hasI, c2, conc]
    · refine RunF_sound tab_ok noX_local 200 [true, false] _ _ rfl ?_ ?_
      · simp [c1, c3]
      · refine Run.retP tab_ok Tryd.func17 rfl trivial (fun M => ?_)
        simp [hasI, c3, conc]
  · refine RunF_sound tab_ok noX_local 200 [false] _ _ rfl ?_ ?_
    · simp [c1]
    · refine Run.retP tab_ok Tryd.func17 rfl trivial (fun M => ?_)
      simp [hasI, c1, conc]
theorem hasR_enters : Enters Tryd.prog 17 := enters_mk Tryd.func17 (by decide) rfl

/-- The pairs from a number on. -/
def restL (r : Rl) : Nat → Nat → List (Int × Int)
  | _, 0 => []
  | i, d + 1 => (bitsL (r.row i)).map (fun b : Nat => ((i : Int), (b : Int))) ++ restL r (i + 1) d

/-- The pairs of a right relation, in order. -/
def edgesL (r : Rl) : List (Int × Int) := restL r 0 r.n.toNat

def sumL (r : Rl) : Nat → Nat → Nat
  | _, 0 => 0
  | i, d + 1 => (bitsL (r.row i)).length + sumL r (i + 1) d

theorem sumL_le (r : Rl) : ∀ d i, sumL r i d ≤ 64 * d
  | 0, _ => Nat.zero_le _
  | d + 1, i => by
    have := bitsL_len_le (r.row i)
    have := sumL_le r d (i + 1)
    simp only [sumL]; omega

theorem restL_len (r : Rl) : ∀ d i, (restL r i d).length = sumL r i d
  | 0, _ => rfl
  | d + 1, i => by simp [restL, sumL, restL_len r d]

theorem sumL_split (r : Rl) (i : Nat) : ∀ d e, sumL r i (d + e) = sumL r i d + sumL r (i + d) e := by
  intro d
  induction d generalizing i with
  | zero => intro e; simp [sumL]
  | succ d ih =>
    intro e
    rw [show d + 1 + e = (d + e) + 1 by omega]
    simp only [sumL]
    rw [ih (i + 1) e, show i + 1 + d = i + (d + 1) by omega]
    omega

theorem count_ok (r : Rl) (w : World) : Gives Tryd.prog 15 [encRel r] w (.int .i64 (sumL (rightL r) 0 64 : Int)) := by
  refine Gives.of_run Tryd.func15 rfl (by show 1 ≤ 18; decide) ?_
  refine RunF_sound tab_ok noX_local 100 [] _ _ rfl ?_ ?_
  · simp
  refine Run.callFn noX_local rfl rfl rfl rfl rfl rfl rfl right_enters rfl (fun w' _ => right_ok r w') ?_
  generalize rightL r = R
  refine RunF_sound tab_ok noX_local 100 [] _ _ rfl ?_ ?_
  · simp
  generalize htot : sumL R 0 64 = tot
  suffices H : ∀ d k s, k + d = 64 → s + sumL R k d = tot → s ≤ 64 * k → ∀ σ, inT σ.t [(3, .v (.int .i64 (s : Int))), (8, .v (.agg (rowV R).toArray)), (9, .v (.int .i64 (k : Int)))] → inT σ.h [] → Run _ _ σ by
    refine H 64 0 0 rfl (by omega) (by omega) _ ⟨rfl, ?_, rfl, trivial⟩ trivial
    exact congrArg (fun l : List Value => some (AV.v (Value.agg l.toArray))) (relV_drop R)
  intro d
  induction d with
  | zero =>
    intro k s hk hs hb σ ht hh
    refine Run.to ?_ ht hh (n' := 1)
    refine RunF_sound tab_ok noX_local 100 [false] _ _ rfl ?_ ?_
    · simp; omega
    · refine Run.retP tab_ok Tryd.func15 rfl trivial (fun M => ?_)
      have h0 : sumL R k 0 = 0 := rfl
      have : s = tot := by omega
      rw [← this]; rfl
  | succ d ih =>
    intro k s hk hs hb σ ht hh
    refine Run.to ?_ ht hh (n' := 1)
    have hk' : k < 64 := by omega
    have e := intAt_rowV R k hk'
    have e2 := rowV_get R k hk'
    have hl := bitsL_len_le (R.row k)
    refine RunF_sound tab_ok noX_local 100 [true] _ _ rfl ?_ ?_
    · simp [e, e2]; omega
    simp only [Int.toNat_natCast, Nat.mul_one, e]
    refine Run.callFn noX_local rfl rfl rfl rfl rfl rfl rfl ones_enters rfl (fun w' _ => ones_ok (R.row k) w') ?_
    refine RunF_sound tab_ok noX_local 100 [] _ _ rfl ?_ ?_
    · simp
    refine ih (k + 1) (s + (bitsL (R.row k)).length) (by omega) (by rw [sumL] at hs; omega) (by omega) _ ⟨?_, rfl, i64_eq (wrap_succ (by omega)), trivial⟩ trivial
    refine i64_eq ?_
    rw [wrap_i64] <;> omega
theorem count_enters : Enters Tryd.prog 15 := enters_mk Tryd.func15 (by decide) rfl

theorem right_row0 (r : Rl) (i : Nat) (h : (rightL r).n ≤ (i : Int)) : (rightL r).row i = 0#64 := by
  apply BitVec.eq_of_getLsbD_eq
  intro j _
  rw [BitVec.getLsbD_zero]
  cases hb : ((rightL r).row i).getLsbD j with
  | false => rfl
  | true => have := right_has r i j hb; omega

theorem sumL_beyond (r : Rl) : ∀ (d i : Nat), (rightL r).n ≤ (i : Int) → sumL (rightL r) i d = 0
  | 0, _, _ => rfl
  | d + 1, i, h => by
    simp only [sumL, right_row0 r i h, bitsL_zero, List.length_nil]
    rw [sumL_beyond r d (i + 1) (by omega)]

/-- Count is how many pairs there are. -/
theorem count_edges (r : Rl) : sumL (rightL r) 0 64 = (edgesL (rightL r)).length := by
  have hn := rightL_n r
  rw [edgesL, restL_len]
  obtain ⟨m, hm⟩ : ∃ m : Nat, (rightL r).n.toNat = m := ⟨_, rfl⟩
  have := sumL_split (rightL r) 0 m (64 - m)
  rw [show m + (64 - m) = 64 by omega, sumL_beyond r (64 - m) (0 + m) (by omega)] at this
  rw [hm]; omega
end Go.Proofs.YtocpkgckllbjlaaDoor

/-
  rel.Edges: the iterator that it hands back. Own work.
-/
namespace Go.Proofs.YtocpkgckllbjlaaDoor
open Go.AM
set_option maxRecDepth 100000

/-- A relation that lies whole in a block. -/
def RelAt (w : World) (b : Nat) (r : Rl) : Prop := ∀ q x, (relV r)[q]? = some x → w.cell? ⟨b, q, none⟩ = some x

def encEd (e : Int × Int) : List Value := [.agg #[.int .i64 e.1, .int .i64 e.2]]
/-- What an iterator over pairs hands over. -/
def encEs (l : List (Int × Int)) : List (List Value) := l.map encEd

/-- The iterator's blocks: the table's, the relation's. -/
def edgesK (b : Nat) : Nat → Prop := fun k => k = 0 ∨ k = b

theorem RelAt.agree {S : Nat → Prop} {w w' : World} {b : Nat} {r : Rl} (h : RelAt w b r) (hA : Agree S w w') (hS : ¬ S b) : RelAt w' b r := fun q x hq => hA.cell (h q x hq) hS

theorem bits_restL (r : Rl) (i d : Nat) (y : BitVec 64) (hy : y ≠ 0#64) (tail : List (Int × Int)) :
    (bitsL y).map (fun b : Nat => ((i : Int), (b : Int))) ++ tail = ((i : Int), (tz y : Int)) :: ((bitsL (dropLow y)).map (fun b : Nat => ((i : Int), (b : Int))) ++ tail) := by
  rw [bitsL_cons y hy]; rfl

theorem edges_iter (r : Rl) (hn : 0 ≤ r.n ∧ r.n ≤ 64) (b : Nat) (w0 : World) (hb : RelAt w0 b r) (hT : TabAt w0) :
    Iter Tryd.prog 71 [.pointer (some ⟨b, 0, none⟩)] (edgesK b) w0 (encEs (edgesL r)) := by
  refine Iter.of_run Tryd.func71 rfl (by show 2 ≤ 28; decide) ?_
  intro y J Js w fp hJ hJs hy hag hfp R hR
  have hbw : RelAt w b r := hb.agree hag (fun h => h (.inr rfl))
  have hTw : TabAt w := hT.agree hag (fun h => h (.inl rfl))
  have hf0 : ¬ fp 0 := fun h => hfp 0 h (.inl rfl)
  have hfb : ¬ fp b := fun h => hfp b h (.inr rfl)
  have c0 : w.cell? ⟨b, 0, none⟩ = some (.int .i64 r.n) := hbw 0 _ rfl
  have hres : (Tryd.f71).results = #[] := rfl
  refine RunF_sound tab_ok (hJ []) 100 [] _ _ rfl ?_ ?_
  · simp only [fnC_w0, fnC_S0, add_lit', Nat.zero_add, c0]
    simp [hfb]
  simp only [fnC_w0, add_lit', Nat.zero_add, c0]
  -- the outer loop
  suffices H : ∀ (d i : Nat) (pre : List (List Value)), (i : Int) + d = r.n → pre ++ encEs (restL r i d) = encEs (edgesL r) →
      ∀ σ, inT σ.t [(0, .v y), (1, .v (.pointer (some ⟨b, 0, none⟩))), (6, .v (.int .i64 r.n)), (7, .v (.int .i64 (i : Int)))] → inT σ.h [] →
        Run (fnC Tryd.prog 71 (Tryd.f71).ntmps w fp (J pre) R) _ σ by
    exact H r.n.toNat 0 [] (by omega) rfl _ ⟨rfl, rfl, rfl, rfl, trivial⟩ trivial
  intro d
  induction d with
  | zero =>
    intro i pre hi hp σ ht hh
    refine Run.to ?_ ht hh (n' := 0)
    refine RunF_sound tab_ok (hJ pre) 100 [false] _ _ rfl ?_ ?_
    · simp; omega
    · refine Run.finI Tryd.func71 hres fun v w' fp' hg hX => hR v w' fp' pre hg (.inl ⟨?_, hX⟩)
      simpa [restL, encEs] using hp
  | succ d ih =>
    intro i pre hi hp σ ht hh
    refine Run.to ?_ ht hh (n' := 0)
    have hi' : i < 64 := by omega
    have c1 : w.cell? ⟨b, 1 + i, none⟩ = some (.int .u64 (un (r.row i))) := hbw _ _ (relV_get r i hi')
    refine RunF_sound tab_ok (hJ pre) 100 [true] _ _ rfl ?_ ?_
    · simp only [fnC_w0, fnC_S0, add_lit', Nat.zero_add, Int.toNat_natCast, Nat.mul_one, c1]
      simp [hfb]; omega
    simp only [fnC_w0, add_lit', Nat.zero_add, Int.toNat_natCast, Nat.mul_one, c1]
    -- the inner loop
    suffices H2 : ∀ (m : Nat) (x : BitVec 64) (pre : List (List Value)), (bitsL x).length = m → pre ++ encEs ((bitsL x).map (fun b : Nat => ((i : Int), (b : Int))) ++ restL r (i + 1) d) = encEs (edgesL r) →
        ∀ σ, inT σ.t [(0, .v y), (1, .v (.pointer (some ⟨b, 0, none⟩))), (6, .v (.int .i64 r.n)), (7, .v (.int .i64 (i : Int))), (3, .v (.int .i64 (i : Int))), (4, .v (.int .u64 (un x)))] → inT σ.h [] →
          Run (fnC Tryd.prog 71 (Tryd.f71).ntmps w fp (J pre) R) _ σ by
      exact H2 _ (r.row i) pre rfl hp _ ⟨rfl, rfl, rfl, rfl, rfl, rfl, trivial⟩ trivial
    intro m
    induction m with
    | zero =>
      intro x pre hm hp σ ht hh
      refine Run.to ?_ ht hh (n' := 0)
      have hx : x = 0#64 := by
        by_cases h : x = 0#64
        · exact h
        · rw [bitsL_cons x h] at hm; cases hm
      refine RunF_sound tab_ok (hJ pre) 100 [false] _ _ rfl ?_ ?_
      · simp [hx]
      refine ih (i + 1) pre (by omega) ?_ _ ⟨rfl, rfl, rfl, i64_eq (wrap_succ (by omega)), trivial⟩ trivial
      have : bitsL x = [] := List.length_eq_zero_iff.1 hm
      rw [this] at hp; exact hp
    | succ m ihm =>
      intro x pre hm hp σ ht hh
      refine Run.to ?_ ht hh (n' := 0)
      have hx : x ≠ 0#64 := fun h => by rw [h, bitsL_zero] at hm; cases hm
      refine RunF_sound tab_ok (hJ pre) 100 [true] _ _ rfl ?_ ?_
      · simp [hx]
      refine Run.callFn (hJ pre) rfl rfl rfl rfl rfl rfl rfl tz_enters rfl (fun w' hw' => tz_ok x w' (hTw.agree hw' hf0)) ?_
      have htz : tzI x = (tz x : Int) := by rw [tzI, if_neg hx]
      rw [bits_restL r i d x hx] at hp
      have hp' : (pre ++ [encEd ((i : Int), (tz x : Int))]) ++ encEs ((bitsL (dropLow x)).map (fun b : Nat => ((i : Int), (b : Int))) ++ restL r (i + 1) d) = encEs (edgesL r) := by
        rw [← hp]; simp [encEs]
      have hpx : pre ++ [encEd ((i : Int), (tz x : Int))] <+: encEs (edgesL r) := ⟨_, hp'⟩
      refine RunF_sound tab_ok (hJ pre) 100 [] _ _ rfl ?_ ?_
      · simp [fillL, Value.cells, splice]
      refine Run.yield (J := J) (Js := Js) rfl (hy pre _ hpx) rfl rfl rfl rfl rfl ?_ rfl rfl ?_ ?_
      · rw [htz]; rfl
      · refine RunF_sound tab_ok (hJ _) 100 [false] _ _ rfl ?_ ?_
        · simp
        refine ihm (dropLow x) _ ?_ hp' _ ⟨rfl, rfl, rfl, rfl, rfl, ?_, trivial⟩ trivial
        · rw [bitsL_cons x hx] at hm; simpa using hm
        · refine u64_eq ?_
          rw [sub1_un, band_un]; rfl
      · refine RunF_sound tab_ok (hJs _) 100 [true] _ _ rfl ?_ ?_
        · simp
        exact Run.retI Tryd.func71 hres fun v w' fp' hg hX => hR v w' fp' _ hg (.inr ⟨hpx, hX⟩)
theorem edgesIt_enters : Enters Tryd.prog 71 := enters_mk Tryd.func71 (by decide) rfl
end Go.Proofs.YtocpkgckllbjlaaDoor

/-
  rel.Edges and the reference's Edges. Own work.
-/
namespace Go.Proofs.YtocpkgckllbjlaaDoor
open Go.AM
set_option maxRecDepth 100000

/-- The iterator over a relation's pairs, as a value. -/
def edgesF (b : Nat) : Value := .func (.func 71) #[] #[.pointer (some ⟨b, 0, none⟩)]

theorem edges_ok (r : Rl) (w : World) : Makes Tryd.prog 13 [encRel r] w (fun v w' => ∃ b, v = edgesF b ∧ w.heap.size ≤ b ∧ RelAt w' b (rightL r)) := by
  refine Makes.of_run Tryd.func13 rfl (by show 1 ≤ 6; decide) ?_
  refine RunF_sound tab_ok noX_local 100 [] _ _ rfl ?_ ?_
  · simp
  refine Run.callFn noX_local rfl rfl rfl rfl rfl rfl rfl right_enters rfl (fun w' _ => right_ok r w') ?_
  refine RunF_sound tab_ok noX_local 100 [] _ _ rfl ?_ ?_
  · simp [segsVals, relV_one']
  refine Run.ret tab_ok Tryd.func13 rfl trivial fun M fp a w' hr => ⟨hr.agree, (M 0).1, rfl, ?_, ?_⟩
  · rcases Nat.lt_or_ge (M 0).1 w.heap.size with h | h
    · exact (hr.own 0 _ rfl h).elim
    · exact h
  · intro q x hq
    have hb : BlkAt M w' 0 (.cells 25 [.vals 65 (relV (rightL r))]) := hr.heap 0 _ rfl
    have := vals_cells hb (off := 0) (s0 := 0) rfl q x hq
    rwa [Nat.zero_add] at this
theorem edges_enters : Enters Tryd.prog 13 := enters_mk Tryd.func13 (by decide) rfl

/-! ### The reference's -/
/-- Some pairs of a row. -/
def rowFrom (r : Rl) (i : Nat) : Nat → Nat → List (Int × Int)
  | _, 0 => []
  | b, e + 1 => (if r.has i b then [((i : Int), (b : Int))] else []) ++ rowFrom r i (b + 1) e

theorem rowFrom_filter (r : Rl) (i : Nat) : ∀ e b, rowFrom r i b e = ((List.range' b e).filter fun j => r.has i j).map (fun j : Nat => ((i : Int), (j : Int)))
  | 0, _ => rfl
  | e + 1, b => by
    rw [rowFrom, rowFrom_filter r i e, List.range'_succ, List.filter_cons]
    split <;> simp

theorem rowFrom_all (r : Rl) (i : Nat) : rowFrom (rightL r) i 0 (rightL r).n.toNat = (bitsL ((rightL r).row i)).map (fun j : Nat => ((i : Int), (j : Int))) := by
  have hn := rightL_n r
  obtain ⟨m, hm⟩ : ∃ m : Nat, (rightL r).n.toNat = m := ⟨_, rfl⟩
  rw [hm, rowFrom_filter]
  congr 1
  unfold bitsL
  have e : List.range 64 = List.range' 0 m ++ List.range' (0 + m) (64 - m) := by
    rw [List.range'_append_1, List.range_eq_range', show m + (64 - m) = 64 by omega]
  rw [e, List.filter_append]
  have : (List.range' (0 + m) (64 - m)).filter (fun j => ((rightL r).row i).getLsbD j) = [] := by
    rw [List.filter_eq_nil_iff]
    intro j hj hb
    have := List.mem_range'_1.1 hj
    have := (right_has r i j hb).2
    omega
  rw [this, List.append_nil]
  rfl

/-- What is known of a list of pairs that grows. -/
def lstV : Nat → AV
  | 0 => .v (.slice none 0 0)
  | k + 1 => .sl 9 2 0 (k + 1)
def lstB (l : List (Int × Int)) : Nat → List (Nat × Blk)
  | 0 => []
  | k + 1 => [(9, .row 67 2 (k + 1) (encE l))]

theorem encE_append : ∀ (l m : List (Int × Int)), encE (l ++ m) = encE l ++ encE m
  | [], _ => rfl
  | e :: l, m => by simp [encE, encE_append l m]

theorem encE_app (l : List (Int × Int)) (n : Nat) (hl : l.length = n) (x : Int × Int) : (encE l).take (n * 2) ++ [.int .i64 x.1, .int .i64 x.2] = encE (l ++ [x]) := by
  rw [List.take_of_length_le (by rw [encE_length, hl]; exact Nat.le_refl _), encE_append]; rfl

/-- A slice of pairs that was made behind a world. -/
def NewE (w : World) (xs : List (Int × Int)) (v : Value) (w' : World) : Prop := ∃ p c, v = .slice p xs.length c ∧ xs.length ≤ c ∧ SeesE w' p xs ∧ ∀ a, p = some a → w.heap.size ≤ a.block ∧ a.block < w'.heap.size

theorem edgesR_ok (r : Rl) (w : World) : Makes Tryd.prog 14 [encRel r] w (NewE w (edgesL (rightL r))) := by
  refine Makes.of_run Tryd.func14 rfl (by show 1 ≤ 31; decide) ?_
  refine RunF_sound tab_ok noX_local 100 [] _ _ rfl ?_ ?_
  · simp
  refine Run.callFn noX_local rfl rfl rfl rfl rfl rfl rfl rightR_enters rfl (fun w' _ => rightR_ok r w') ?_
  have hn := rightL_n r
  have hrow := rowFrom_all r
  generalize rightL r = R at hn hrow
  have hrest : ∀ i d, (restL R i d).length ≤ 64 * d := fun i d => by rw [restL_len]; exact sumL_le R d i
  generalize hL : edgesL R = L
  have hLn : L.length ≤ 4096 := by rw [← hL, edgesL]; have := hrest 0 R.n.toNat; omega
  refine RunF_sound tab_ok noX_local 100 [] _ _ rfl ?_ ?_
  · simp [segsVals, relV_one']
  suffices H : ∀ (d i n : Nat) (l : List (Int × Int)), l.length = n → (i : Int) + d = R.n → L = l ++ restL R i d →
      Run _ _ ⟨[(1, .ptr 0 0), (3, lstV n), (4, .v (.int .i64 (i : Int)))], (0, .cells 25 [.vals 65 (relV R)]) :: lstB l n, 10⟩ by
    refine Run.to (H R.n.toNat 0 0 [] rfl (by omega) (by rw [← hL]; rfl)) ⟨rfl, rfl, rfl, trivial⟩ ⟨?_, trivial⟩
    simp [lk]
  intro d
  induction d with
  | zero =>
    intro i n l hln hi hl
    have hl' : L = l := by simpa [restL] using hl
    subst hl'
    cases n with
    | zero =>
      refine RunF_sound tab_ok noX_local 100 [false] _ _ rfl ?_ ?_
      · simp; omega
      have h0 : L = [] := List.length_eq_zero_iff.1 hln
      subst h0
      refine Run.ret tab_ok Tryd.func14 rfl trivial fun M fp a w' hr => ⟨hr.agree, none, 0, rfl, Nat.le_refl _, fun i hi => absurd hi (Nat.not_lt_zero _), fun a h => by cases h⟩
    | succ n =>
      refine RunF_sound tab_ok noX_local 100 [false] _ _ rfl ?_ ?_
      · simp; omega
      refine Run.ret tab_ok Tryd.func14 rfl trivial fun M fp a w' hr => ⟨hr.agree, some ⟨(M 9).1, 0, none⟩, (M 9).2 - 0, ?_, ?_, seesE_row (hr.heap 9 _ rfl) (fun i hi => encE_get L i hi), ?_⟩
      · rw [hln]; simp [resAV, conc]
      · obtain ⟨_, _, _, hc, _⟩ := hr.heap 9 _ rfl; rw [hln]; exact hc
      · intro a ha
        cases ha
        refine ⟨?_, (hr.heap 9 _ rfl).lt⟩
        rcases Nat.lt_or_ge (M 9).1 w.heap.size with h | h
        · exact (hr.own 9 _ rfl h).elim
        · exact h
  | succ d ih =>
    intro i n l hln hi hl
    refine RunF_sound tab_ok noX_local 100 [true] _ _ rfl ?_ ?_
    · simp; omega
    suffices H2 : ∀ (e b n : Nat) (l : List (Int × Int)), l.length = n → (b : Int) + e = R.n → L = l ++ (rowFrom R i b e ++ restL R (i + 1) d) →
        Run _ _ ⟨[(1, .ptr 0 0), (3, lstV n), (4, .v (.int .i64 (i : Int))), (5, .v (.int .i64 (b : Int)))], (0, .cells 25 [.vals 65 (relV R)]) :: lstB l n, 10⟩ by
      refine Run.to (H2 R.n.toNat 0 n l hln (by omega) ?_) ⟨rfl, rfl, rfl, rfl, trivial⟩ ?_
      · rw [hl, restL, hrow]
      · cases n <;> exact ⟨rfl, by first | trivial | exact ⟨rfl, trivial⟩⟩
    intro e
    induction e with
    | zero =>
      intro b n l hln hb hl
      refine RunF_sound tab_ok noX_local 100 [false] _ _ rfl ?_ ?_
      · simp; omega
      refine Run.to (ih (i + 1) n l hln (by omega) (by rw [hl]; rfl)) ⟨rfl, rfl, i64_eq (wrap_succ (by omega)), trivial⟩ ?_
      cases n <;> exact ⟨rfl, by first | trivial | exact ⟨rfl, trivial⟩⟩
    | succ e ihe =>
      intro b n l hln hb hl
      have hnl : n ≤ 4096 := by
        have := congrArg List.length hl
        rw [List.length_append, hln] at this
        omega
      refine RunF_sound tab_ok noX_local 100 [true] _ _ rfl ?_ ?_
      · simp; omega
      refine Run.callFn noX_local rfl rfl rfl rfl rfl rfl rfl hasR_enters rfl (fun w' _ => hasR_ok R hn i b w') ?_
      have hI : hasI R i b = R.has i b := by simp [hasI]; intro; omega
      rw [rowFrom] at hl
      by_cases c : R.has i b = true
      · rw [if_pos c] at hl
        cases n with
        | zero =>
          refine RunF_sound tab_ok noX_local 100 [true] _ _ rfl ?_ ?_
          · simp [hI, c, maxLen, fillL, repL, splice, Value.cells, Value.oneCell']
          refine Run.toR [(9, 11)] (ihe (b + 1) 1 (l ++ [((i : Int), (b : Int))]) (by simp [hln]) (by omega) (by rw [hl]; simp)) ⟨rfl, rfl, rfl, i64_eq (wrap_succ (by omega)), trivial⟩ ⟨rfl, ?_, trivial⟩ rfl
          refine congrArg (fun l => some (Blk.row 67 2 1 l)) ?_
          have : l = [] := List.length_eq_zero_iff.1 hln
          subst this
          rfl
        | succ n =>
          refine RunF_sound tab_ok noX_local 100 [true] _ _ rfl ?_ ?_
          · simp [hI, c, maxLen, fillL, repL, splice, Value.cells, Value.oneCell']; omega
          refine Run.toR [(9, 11)] (ihe (b + 1) (n + 2) (l ++ [((i : Int), (b : Int))]) (by simp [hln]) (by omega) (by rw [hl]; simp)) ⟨rfl, rfl, rfl, i64_eq (wrap_succ (by omega)), trivial⟩ ⟨rfl, ?_, trivial⟩ rfl
          refine congrArg (fun l => some (Blk.row 67 2 (n + 2) l)) ?_
          exact encE_app l (n + 1) hln ((i : Int), (b : Int))
      · rw [if_neg c, List.nil_append] at hl
        refine RunF_sound tab_ok noX_local 100 [false] _ _ rfl ?_ ?_
        · simp [hI, c]
        refine Run.to (ihe (b + 1) n l hln (by omega) hl) ⟨rfl, rfl, rfl, i64_eq (wrap_succ (by omega)), trivial⟩ ?_
        cases n <;> exact ⟨rfl, by first | trivial | exact ⟨rfl, trivial⟩⟩
theorem edgesR_enters : Enters Tryd.prog 14 := enters_mk Tryd.func14 (by decide) rfl
end Go.Proofs.YtocpkgckllbjlaaDoor

/-
  What the law gathers off an iterator. Own work.
-/
namespace Go.Proofs.YtocpkgckllbjlaaDoor
open Go.AM
set_option maxRecDepth 100000

theorem encEs_next {E : List (Int × Int)} {k : Nat} (hk : k ≤ E.length) {x : List Value} (h : encEs (E.take k) ++ [x] <+: encEs E) : ∃ hlt : k < E.length, x = encEd E[k] := by
  have hl := h.length_le
  simp only [encEs, List.length_append, List.length_map, List.length_take, List.length_singleton] at hl
  have hlt : k < E.length := by omega
  refine ⟨hlt, ?_⟩
  obtain ⟨t, ht⟩ := h
  have := congrArg (fun l => l[k]?) ht
  simp only [encEs] at this
  rw [List.append_assoc, List.getElem?_append_right (by simp; omega)] at this
  simp [Nat.min_eq_left hk, hlt] at this
  exact this

theorem encEs_succ {E : List (Int × Int)} {k : Nat} (hlt : k < E.length) : encEs (E.take k) ++ [encEd E[k]] = encEs (E.take (k + 1)) := by
  rw [List.take_succ_eq_append_getElem hlt, encEs, encEs, List.map_append]; rfl

theorem encEs_all {E : List (Int × Int)} {k : Nat} (hk : k ≤ E.length) (h : encEs E = encEs (E.take k)) : k = E.length := by
  have := congrArg List.length h
  simp only [encEs, List.length_map, List.length_take] at this
  omega

/-- The blocks of the gathering function. -/
def gatB (m : Int) (l : List (Int × Int)) (n : Nat) : List (Nat × Blk) :=
  (1, .cells 29 [.one (lstV n)]) :: (0, .cells 3 [.one (.v (.int .i64 m))]) :: lstB l n

theorem newE_nil (w w' : World) : NewE w [] (.slice none 0 0) w' := ⟨none, 0, rfl, Nat.le_refl _, fun i hi => absurd hi (Nat.not_lt_zero _), fun a h => by cases h⟩

theorem newE_row {P : Program} {f : FuncId} {nt : Nat} {w : World} {X : Res} {R : Value → World → Prop} {M : AM.Loc} {fp : Foot} {σ : St} {a : Act} {w' : World} {id n : Nat} {l : List (Int × Int)}
    (hr : Rel (fnC P f nt w (fun _ => False) X R) M fp σ a w') (hB : lk σ.h id = some (.row 67 2 n (encE l))) (hl : l.length = n) : NewE w l (conc M (.sl id 2 0 n)) w' := by
  refine ⟨some ⟨(M id).1, 0, none⟩, (M id).2 - 0, ?_, ?_, seesE_row (hr.heap id _ hB) (fun i hi => encE_get l i hi), ?_⟩
  · rw [hl]; simp [conc]
  · obtain ⟨_, _, _, hc, _⟩ := hr.heap id _ hB; rw [hl]; exact hc
  · intro a ha
    cases ha
    refine ⟨?_, (hr.heap id _ hB).lt⟩
    rcases Nat.lt_or_ge (M id).1 w.heap.size with h | h
    · exact (hr.own id _ hB h).elim
    · exact h

theorem edgesLaw_ok (r : Rl) (hn : 0 ≤ r.n ∧ r.n ≤ 64) (b : Nat) (m : Int) (w : World) (hb : RelAt w b r) (hT : TabAt w) (hbl : b < w.heap.size) (h0l : 0 < w.heap.size) :
    Makes Tryd.prog 19 [edgesF b, .int .i64 m] w (NewE w ((edgesL r).take m.toNat)) := by
  refine Makes.of_run Tryd.func19 rfl (by show 2 ≤ 18; decide) ?_
  have hlen : (edgesL r).length ≤ 4096 := by rw [edgesL, restL_len]; have := sumL_le r r.n.toNat 0; omega
  have hit := edges_iter r hn b w hb hT
  generalize edgesL r = E at hlen hit
  refine RunF_sound tab_ok noX_local 100 [] _ _ rfl ?_ ?_
  · simp [okCell, argsT.ofConst', ofConst, Value.oneCell']
  refine Run.rangeFn noX_local rfl rfl (fun M => rfl) edgesIt_enters 6 [(5, .ptr 1 0), (3, .ptr 0 0)] ⟨rfl, rfl, trivial⟩ rfl rfl hit
    (fun k hk => ⟨by rcases hk with rfl | rfl <;> assumption, fun h => h⟩) (fun x hx => by simp only [encEs, List.mem_map] at hx; obtain ⟨e, _, rfl⟩ := hx; rfl)
    (fun pre h => ∃ k, k ≤ E.length ∧ k ≤ m.toNat ∧ pre = encEs (E.take k) ∧ h = gatB m (E.take k) k)
    (fun _ c h => c = .exit 0 ∧ m.toNat ≤ E.length ∧ h = gatB m (E.take m.toNat) m.toNat) 12 (gatB m [] 0) ⟨0, by omega, by omega, rfl, rfl⟩ ⟨rfl, rfl, trivial⟩ ?_ ?_ ?_
  · -- a round
    rintro D l a0 rc wy fpy pre x h hI hpx ⟨k, hk, hkm, rfl, rfl⟩
    obtain ⟨hlt, rfl⟩ := encEs_next hk hpx
    have htl : (E.take k).length = k := by simp; omega
    have hnext : encEs (E.take k) ++ [encEd E[k]] = encEs (E.take (k + 1)) := encEs_succ hlt
    have hts : E.take (k + 1) = E.take k ++ [E[k]] := List.take_succ_eq_append_getElem hlt
    have hmk : (k : Int) ≥ m → m.toNat = k := fun c => by omega
    cases k with
    | zero =>
      refine RunF_sound tab_ok (roundX_local hI.loc l rc .ready) 100 [] _ _ rfl ?_ ?_
      · simp [segsVals]
      refine Run.beginRound hI.loc hI.lw ?_
      by_cases c : ((0 : Nat) : Int) ≥ m
      · refine RunF_sound tab_ok (roundX_local hI.loc l rc .busy) 100 [true] _ _ rfl ?_ ?_
        · simpa using c
        exact Run.roundExit hI [] (gatB m (E.take 0) 0) rfl ⟨rfl, by omega, by rw [hmk c]⟩ ⟨rfl, rfl, trivial⟩ ⟨rfl, rfl, trivial⟩ rfl
      · refine RunF_sound tab_ok (roundX_local hI.loc l rc .busy) 100 [false] _ _ rfl ?_ ?_
        · simp [maxLen, fillL, repL, splice, Value.cells, Value.oneCell', okCell]; omega
        refine Run.roundEnd hI [(9, 14)] (gatB m (E.take 1) 1) ⟨1, by omega, by omega, hnext, rfl⟩ ⟨rfl, rfl, trivial⟩ ⟨rfl, rfl, ?_, trivial⟩ rfl
        refine congrArg (fun l => some (Blk.row 67 2 1 l)) ?_
        rw [hts]; rfl
    | succ k =>
      refine RunF_sound tab_ok (roundX_local hI.loc l rc .ready) 100 [] _ _ rfl ?_ ?_
      · simp [segsVals]
      refine Run.beginRound hI.loc hI.lw ?_
      by_cases c : ((k + 1 : Nat) : Int) ≥ m
      · refine RunF_sound tab_ok (roundX_local hI.loc l rc .busy) 100 [true] _ _ rfl ?_ ?_
        · simpa using c
        exact Run.roundExit hI [] (gatB m (E.take (k + 1)) (k + 1)) rfl ⟨rfl, by omega, by rw [hmk c]⟩ ⟨rfl, rfl, trivial⟩ ⟨rfl, rfl, rfl, trivial⟩ rfl
      · refine RunF_sound tab_ok (roundX_local hI.loc l rc .busy) 100 [false] _ _ rfl ?_ ?_
        · simp [maxLen, fillL, repL, splice, Value.cells, Value.oneCell', okCell]; omega
        refine Run.roundEnd hI [(9, 14)] (gatB m (E.take (k + 2)) (k + 2)) ⟨k + 2, by omega, by omega, hnext, rfl⟩ ⟨rfl, rfl, trivial⟩ ⟨rfl, rfl, ?_, trivial⟩ rfl
        refine congrArg (fun l => some (Blk.row 67 2 (k + 2) l)) ?_
        rw [hts]
        exact encE_app (E.take (k + 1)) (k + 1) htl E[k + 1]
  · -- all gone through
    rintro D h ⟨k, hk, hkm, hx, rfl⟩
    have hke := encEs_all hk hx
    have e1 : E.take m.toNat = E.take k := by rw [List.take_of_length_le (by omega), List.take_of_length_le (by omega)]
    rw [e1]
    cases k with
    | zero =>
      refine RunF_sound tab_ok (markX_local noX_local D) 100 [] _ _ rfl ?_ ?_
      · simp
      exact Run.retM (Ds := [D]) tab_ok noX_local Tryd.func19 rfl trivial fun M fp a w' hr => ⟨hr.agree, newE_nil _ _⟩
    | succ k =>
      refine RunF_sound tab_ok (markX_local noX_local D) 100 [] _ _ rfl ?_ ?_
      · simp
      exact Run.retM (Ds := [D]) tab_ok noX_local Tryd.func19 rfl trivial fun M fp a w' hr => ⟨hr.agree, newE_row hr rfl (by simp; omega)⟩
  · -- left
    rintro D pre c h hpre ⟨rfl, hm, rfl⟩
    generalize m.toNat = k at *
    cases k with
    | zero =>
      refine RunF_sound tab_ok (markX_local noX_local D) 100 [] _ _ rfl ?_ ?_
      · simp
      exact Run.retM (Ds := [D]) tab_ok noX_local Tryd.func19 rfl trivial fun M fp a w' hr => ⟨hr.agree, newE_nil _ _⟩
    | succ k =>
      refine RunF_sound tab_ok (markX_local noX_local D) 100 [] _ _ rfl ?_ ?_
      · simp
      exact Run.retM (Ds := [D]) tab_ok noX_local Tryd.func19 rfl trivial fun M fp a w' hr => ⟨hr.agree, newE_row hr rfl (by simp; omega)⟩
theorem edgesLaw_enters : Enters Tryd.prog 19 := enters_mk Tryd.func19 (by decide) rfl
end Go.Proofs.YtocpkgckllbjlaaDoor

/-
  RelWalks answers true. Own work.
-/
namespace Go.Proofs.YtocpkgckllbjlaaDoor
open Go.AM
set_option maxRecDepth 100000

theorem SeesE.take {w : World} {p : Option Addr} {xs : List (Int × Int)} (h : SeesE w p xs) (k : Nat) : SeesE w p (xs.take k) := by
  intro i hi
  have hi' : i < xs.length := by rw [List.length_take] at hi; omega
  rw [List.getElem_take]
  exact h i hi'

theorem walks_ok (r : Rl) (a b m : Int) (w : World) (hT : TabAt w) (h0 : 0 < w.heap.size) : Gives Tryd.prog 3 [encRel r, .int .i64 a, .int .i64 b, .int .i64 m] w (.bool true) := by
  refine Gives.of_run Tryd.func3 rfl (by show 4 ≤ 56; decide) ?_
  refine RunF_sound tab_ok noX_local 100 [] _ _ rfl ?_ ?_
  · simp
  refine Run.callR noX_local rfl rfl rfl rfl rfl rfl edges_enters rfl (fun M w' _ _ => edges_ok r w') ?_
  rintro v w2 w1 S1 hag hag2 ⟨bb, rfl, hbl, hRel⟩ hS1
  have hB1 := (Based.refl w).call hag hag2 hS1
  have hbw1 : bb < w1.heap.size := World.block_lt_of_cell? w1 _ (hRel 0 _ rfl)
  have hS1b : ¬ S1 bb := hS1.new bb hbl
  refine ⟨.fn 71 [.v (.pointer (some ⟨bb, 0, none⟩))], fun M => rfl, ?_⟩
  have hn := rightL_n r
  refine RunF_sound tab_ok noX_local 100 [] _ _ rfl ?_ ?_
  · simp
  refine Run.callR noX_local rfl rfl rfl rfl rfl rfl edgesR_enters rfl (fun M w' _ _ => edgesR_ok r w') ?_
  rintro v w3 w4 S2 hag3 hag4 ⟨p, c, rfl, hc, hs, hnew⟩ hS2
  have hB2 := hB1.call hag3 hag4 hS2
  have hS2b : ¬ S2 bb := hS2.old bb hbw1 hS1b
  have hRel4 : RelAt w4 bb (rightL r) := (hRel.agree hag3 hS1b).agree hag4 (fun f => f)
  have hT4 : TabAt w4 := hT.agree hB2.agree (fun f => f)
  have h20 : ¬ S2 0 := fun h => by have := hB2.new 0 h; omega
  have hS2p : ∀ a, p = some a → ¬ S2 a.block := fun a ha => hS2.new _ (hnew a ha).1
  have hcnt := count_edges r
  have hlen : (edgesL (rightL r)).length ≤ 4096 := by rw [edgesL, restL_len]; have := sumL_le (rightL r) (rightL r).n.toNat 0; omega
  have hgat : ∀ (S : Nat → Prop) (wa wb : World) (k : Int), RelAt wa bb (rightL r) → TabAt wa → Agree S wa wb → ¬ S bb → ¬ S 0 → bb < wb.heap.size → 0 < wb.heap.size →
      Makes Tryd.prog 19 [edgesF bb, .int .i64 k] wb (NewE wb ((edgesL (rightL r)).take k.toNat)) := fun S wa wb k h1 h2 h3 h4 h5 h6 h7 => edgesLaw_ok (rightL r) hn bb k wb (h1.agree h3 h4) (h2.agree h3 h5) h6 h7
  generalize edgesL (rightL r) = L at *
  refine ⟨.v (.slice p L.length c), fun M => rfl, ?_⟩
  refine RunF_sound tab_ok noX_local 100 [] _ _ rfl ?_ ?_
  · simp
  refine Run.drawA noX_local rfl [] [(0, .cells 25 [.vals 65 (relV r)])] rfl rfl ⟨rfl, trivial⟩ ?_
  refine RunOF_sound tab_ok noX_local rfl rfl 200 [] _ _ rfl ?_ ?_
  · simp
  refine RunO.callFn noX_local rfl rfl rfl rfl rfl rfl rfl rfl count_enters rfl (fun w' _ => count_ok r w') ?_
  rw [hcnt]
  refine RunOF_sound tab_ok noX_local rfl rfl 200 [false] _ _ rfl ?_ ?_
  · simp
  refine RunO.callFn noX_local rfl rfl rfl rfl rfl rfl rfl rfl has_enters rfl (fun w' _ => has_ok r a b w') ?_
  refine RunOF_sound tab_ok noX_local rfl rfl 200 [] _ _ rfl ?_ ?_
  · simp
  refine RunO.callFn noX_local rfl rfl rfl rfl rfl rfl rfl rfl rightR_enters rfl (fun w' _ => rightR_ok r w') ?_
  refine RunOF_sound tab_ok noX_local rfl rfl 200 [] _ _ rfl ?_ ?_
  · simp
  refine RunO.callFn noX_local rfl rfl rfl rfl rfl rfl rfl rfl hasR_enters rfl (fun w' _ => hasR_ok (rightL r) hn a b w') ?_
  refine RunOF_sound tab_ok noX_local rfl rfl 200 [] _ _ rfl ?_ ?_
  · simp
  refine RunO.done ?_
  refine RunF_sound tab_ok noX_local 100 [false] _ _ rfl ?_ ?_
  · simp
  have hbw4 : bb < w4.heap.size := World.block_lt_of_cell? w4 _ (hRel4 0 _ rfl)
  have hw4 : 0 < w4.heap.size := by have := hB2.agree.size; omega
  generalize hk : (if m > 0 then m else 0) = k
  refine Run.callR (Q := fun v w w' => NewE w (L.take k.toNat) v w') noX_local rfl rfl rfl rfl rfl rfl edgesLaw_enters rfl (fun M w' _ hw' => hgat _ _ _ _ hRel4 hT4 hw' hS2b h20 (Nat.lt_of_lt_of_le hbw4 hw'.size) (Nat.lt_of_lt_of_le hw4 hw'.size)) ?_
  rintro v w5 w6 S3 hag5 hag6 ⟨p1, c1, rfl, hc1, hs1, hnew1⟩ hS3
  have hB3 := hB2.call hag5 hag6 hS3
  have hRel6 : RelAt w6 bb (rightL r) := (hRel4.agree hag5 hS2b).agree hag6 (fun f => f)
  have hT6 : TabAt w6 := hT.agree hB3.agree (fun f => f)
  have hs6 : SeesE w6 p L := (hs.agree hag5 hS2p).agree hag6 (fun _ _ f => f)
  have h30 : ¬ S3 0 := fun h => by have := hB3.new 0 h; omega
  have hbw6 : bb < w6.heap.size := World.block_lt_of_cell? w6 _ (hRel6 0 _ rfl)
  have hw6 : 0 < w6.heap.size := by have := hB3.agree.size; omega
  refine ⟨.v (.slice p1 (L.take k.toNat).length c1), fun M => rfl, ?_⟩
  refine RunF_sound tab_ok noX_local 100 [] _ _ rfl ?_ ?_
  · simp
  refine Run.callR (Q := fun v w w' => NewE w (L.take (5000 : Int).toNat) v w') noX_local rfl rfl rfl rfl rfl rfl edgesLaw_enters rfl (fun M w' _ hw' => hgat _ _ _ _ hRel6 hT6 hw' (hS3.old _ hbw4 hS2b) h30 (Nat.lt_of_lt_of_le hbw6 hw'.size) (Nat.lt_of_lt_of_le hw6 hw'.size)) ?_
  rintro v w7 w8 S4 hag7 hag8 ⟨p2, c2, rfl, hc2, hs2, hnew2⟩ hS4
  have hB4 := hB3.call hag7 hag8 hS4
  have e5 : L.take (5000 : Int).toNat = L := List.take_of_length_le (by show _ ≤ 5000; omega)
  rw [e5] at hs2 hc2 ⊢
  have hs1' : SeesE w8 p1 (L.take k.toNat) := (hs1.agree hag7 (fun a ha => hS3.new _ (hnew1 a ha).1)).agree hag8 (fun _ _ f => f)
  have hS3p : ∀ a, p = some a → ¬ S3 a.block := fun a ha => hS3.old _ (hnew a ha).2 (hS2p a ha)
  have hs8 : SeesE w8 p L := (hs6.agree hag7 hS3p).agree hag8 (fun _ _ f => f)
  have hk0 : 0 ≤ k := by rw [← hk]; split <;> omega
  have hcutl : (if k < (L.length : Int) then k else (L.length : Int)).toNat = (L.take k.toNat).length := by
    rw [List.length_take]; split <;> omega
  have hp0 : p.map (fun x => x.add 0) = p := by cases p <;> simp [AM.add_zero]
  have hS4p : ∀ a, p = some a → ¬ S4 a.block := fun a ha => hS4.old _ (Nat.lt_of_lt_of_le (hnew a ha).2 (Nat.le_trans hag5.size hag6.size)) (hS3p a ha)
  have hS4p1 : ∀ a, p1 = some a → ¬ S4 a.block := fun a ha => hS4.old _ (hnew1 a ha).2 (hS3.new _ (hnew1 a ha).1)
  have hS4p2 : ∀ a, p2 = some a → ¬ S4 a.block := fun a ha => hS4.new _ (hnew2 a ha).1
  have hlm : L.length ≤ maxLen := by simp only [maxLen]; omega
  refine ⟨.v (.slice p2 L.length c2), fun M => rfl, ?_⟩
  refine RunF_sound tab_ok noX_local 100 [] _ _ rfl ?_ ?_
  · rw [hk]
    have : (if k < (L.length : Int) then k else (L.length : Int)) ≤ c := by split <;> omega
    have : 0 ≤ (if k < (L.length : Int) then k else (L.length : Int)) := by split <;> omega
    simp; omega
  rw [hk]
  refine Run.callFn noX_local rfl rfl rfl rfl rfl rfl rfl sameEdges_enters rfl (r := .bool true) (fun w' hA => ?_) ?_
  · rw [hcutl, hp0]
    have := sameEdges_ok p1 p c1 c (L.take k.toNat) (L.take k.toNat) w' (hs1'.agree hA hS4p1) ((hs8.take _).agree hA hS4p) (by rw [List.length_take]; omega)
    rw [decide_eq_true rfl] at this; exact this
  refine RunF_sound tab_ok noX_local 100 [true] _ _ rfl ?_ ?_
  · simp
  refine Run.callFn noX_local rfl rfl rfl rfl rfl rfl rfl sameEdges_enters rfl (r := .bool true) (fun w' hA => ?_) ?_
  · have := sameEdges_ok p2 p c2 c L L w' (hs2.agree hA hS4p2) (hs8.agree hA hS4p) hlm
    rw [decide_eq_true rfl] at this; exact this
  refine RunF_sound tab_ok noX_local 100 [] _ _ rfl ?_ ?_
  · simp
  exact Run.retB (Ds := []) tab_ok noX_local hB4 Tryd.func3 rfl trivial (fun M => rfl)
theorem walks_enters : Enters Tryd.prog 3 := enters_mk Tryd.func3 (by decide) rfl
end Go.Proofs.YtocpkgckllbjlaaDoor

/-
  Relations by a test of their pairs: plain laws. Own work; no program in sight.
-/
namespace Go.AM

/-- The word whose bits are a test's. -/
def bitsB (f : Nat → Bool) : BitVec 64 := (List.range 64).foldl (fun x i => if f i then x ||| 1#64 <<< i else x) 0#64

theorem one_shl_get (k j : Nat) (hk : k < 64) : (1#64 <<< k).getLsbD j = decide (j = k) := by
  rw [BitVec.getLsbD_shiftLeft, BitVec.getLsbD_one]
  by_cases h : j = k
  · subst h; simp [hk]
  · by_cases h1 : j < k
    · simp [h1, h]
    · have : ¬ j - k = 0 := by omega
      simp [this, h]

theorem bitsB_fold (f : Nat → Bool) : ∀ (l : List Nat) (x : BitVec 64) (j : Nat), (∀ i ∈ l, i < 64) →
    (l.foldl (fun x i => if f i then x ||| 1#64 <<< i else x) x).getLsbD j = (x.getLsbD j || (decide (j ∈ l) && f j))
  | [], x, j, _ => by simp
  | i :: l, x, j, h => by
    rw [List.foldl_cons, bitsB_fold f l _ j (fun i hi => h i (List.mem_cons_of_mem _ hi))]
    have hi := h i (List.mem_cons_self ..)
    by_cases hf : f i = true
    · rw [if_pos hf, BitVec.getLsbD_or, one_shl_get i j hi]
      by_cases hj : j = i
      · subst hj; simp [hf]
      · simp [hj]
    · rw [if_neg hf]
      by_cases hj : j = i
      · subst hj
        have : f j = false := by simpa using hf
        simp [this]
      · simp [hj]

theorem bitsB_get (f : Nat → Bool) (j : Nat) : (bitsB f).getLsbD j = (decide (j < 64) && f j) := by
  unfold bitsB
  rw [bitsB_fold f _ _ j (fun i hi => List.mem_range.1 hi)]
  simp

namespace Rl
/-- The relation over n numbers in which those pairs stand that pass a test. -/
def gen (n : Int) (q : Nat → Nat → Bool) : Rl := by_ n fun i => bitsB (q i)
theorem n_gen (n : Int) (q : Nat → Nat → Bool) : (gen n q).n = n := rfl
theorem has_gen (n : Int) (q : Nat → Nat → Bool) (a b : Nat) : (gen n q).has a b = (decide (a < 64 ∧ b < 64) && q a b) := by
  unfold has gen
  rw [row_by]
  by_cases ha : a < 64
  · rw [if_pos ha, bitsB_get]; simp [ha]
  · rw [if_neg ha]; simp [ha]
theorem gen_congr {n : Int} {q q' : Nat → Nat → Bool} (h : ∀ a b, a < 64 → b < 64 → q a b = q' a b) : gen n q = gen n q' :=
  ext_has rfl fun a b ha hb => by rw [has_gen, has_gen, h a b ha hb]
theorem has_lt (r : Rl) {a b : Nat} (h : r.has a b = true) : a < 64 ∧ b < 64 := by
  constructor
  · rcases Nat.lt_or_ge a 64 with h1 | h1
    · exact h1
    · rw [has, row_ge _ h1] at h; simp at h
  · rcases Nat.lt_or_ge b 64 with h1 | h1
    · exact h1
    · rw [has, BitVec.getLsbD_of_ge _ _ h1] at h; cases h
theorem gen_self (r : Rl) : gen r.n r.has = r := by
  apply ext_has
  · exact n_gen _ _
  · intro a b ha hb
    rw [has_gen, decide_eq_true ⟨ha, hb⟩, Bool.true_and]
theorem gen_void (n : Int) : void n = gen n fun _ _ => false := by
  apply ext_has
  · rfl
  · intro a b _ _
    rw [has_gen, has, row_void]; simp
theorem gen_add (n : Int) (q : Nat → Nat → Bool) (a b : Nat) (ha : a < 64) (hb : b < 64) :
    (gen n q).setRow a ((gen n q).row a ||| 1#64 <<< b) = gen n fun x y => q x y || (decide (x = a) && decide (y = b)) := by
  refine ext_has (n_setRow _ _ _) fun x y hx hy => ?_
  rw [has_gen, has, row_setRow]
  by_cases h : a = x
  · subst h
    rw [if_pos ⟨rfl, ha⟩, BitVec.getLsbD_or, one_shl_get b y hb]
    have : ((gen n q).row a).getLsbD y = (gen n q).has a y := rfl
    rw [this, has_gen]
    simp [ha, hy]
  · rw [if_neg (by simp [h])]
    have : ((gen n q).row x).getLsbD y = (gen n q).has x y := rfl
    rw [this, has_gen]
    simp [hx, hy, Ne.symm h]
theorem has_setRow (r : Rl) (a : Nat) (w : BitVec 64) (x y : Nat) : (r.setRow a w).has x y = if a = x ∧ a < 64 then w.getLsbD y else r.has x y := by
  rw [has, row_setRow]; split <;> rfl

/-- Those pairs of a test that have been looked at: all of the rows below a, of row a those below b. -/
def seen (p : Nat → Nat → Bool) (a b : Nat) : Nat → Nat → Bool := fun x y => p x y && (decide (x < a) || (decide (x = a) && decide (y < b)))
theorem seen_yes {n : Int} {p : Nat → Nat → Bool} {a b : Nat} (ha : a < 64) (hb : b < 64) (h : p a b = true) :
    (gen n (seen p a b)).setRow a ((gen n (seen p a b)).row a ||| 1#64 <<< b) = gen n (seen p a (b + 1)) := by
  rw [gen_add _ _ _ _ ha hb]
  refine gen_congr fun x y _ _ => ?_
  unfold seen
  by_cases hx : x = a
  · subst hx
    by_cases hy : y = b
    · subst hy; simp [h]
    · have e : decide (y < b + 1) = decide (y < b) := decide_eq_decide.2 (by omega)
      simp [hy, e]
  · simp [hx]
theorem seen_no {n : Int} {p : Nat → Nat → Bool} {a b : Nat} (h : p a b = false) : gen n (seen p a b) = gen n (seen p a (b + 1)) := by
  refine gen_congr fun x y _ _ => ?_
  unfold seen
  by_cases hx : x = a
  · subst hx
    by_cases hy : y = b
    · subst hy; simp [h]
    · have e : decide (y < b + 1) = decide (y < b) := decide_eq_decide.2 (by omega)
      simp [e]
  · simp [hx]
theorem seen_row {n : Int} {p : Nat → Nat → Bool} {a b : Nat} (hp : ∀ x y, p x y = true → y < b) : gen n (seen p a b) = gen n (seen p (a + 1) 0) := by
  refine gen_congr fun x y _ _ => ?_
  unfold seen
  cases hxy : p x y with
  | false => simp
  | true =>
    have := hp x y hxy
    rw [Bool.eq_iff_iff]
    simp
    omega
theorem seen_0 (n : Int) (p : Nat → Nat → Bool) : gen n (seen p 0 0) = void n := by
  rw [gen_void]
  refine gen_congr fun x y _ _ => ?_
  unfold seen; simp
theorem seen_all {n : Int} {p : Nat → Nat → Bool} {a : Nat} (hp : ∀ x y, p x y = true → x < a) : gen n (seen p a 0) = gen n p := by
  refine gen_congr fun x y _ _ => ?_
  unfold seen
  cases hxy : p x y with
  | false => simp
  | true => have := hp x y hxy; simp [this]

/-- The same, turned about: the pair (a, b) puts b to a. -/
def seenT (p : Nat → Nat → Bool) (a b : Nat) : Nat → Nat → Bool := fun x y => seen p a b y x
theorem seenT_yes {n : Int} {p : Nat → Nat → Bool} {a b : Nat} (ha : a < 64) (hb : b < 64) (h : p a b = true) :
    (gen n (seenT p a b)).setRow b ((gen n (seenT p a b)).row b ||| 1#64 <<< a) = gen n (seenT p a (b + 1)) := by
  rw [gen_add _ _ _ _ hb ha]
  refine gen_congr fun x y _ _ => ?_
  unfold seenT seen
  by_cases hx : y = a
  · subst hx
    by_cases hy : x = b
    · subst hy; simp [h]
    · have e : decide (x < b + 1) = decide (x < b) := decide_eq_decide.2 (by omega)
      simp [hy, e]
  · simp [hx]
theorem seenT_no {n : Int} {p : Nat → Nat → Bool} {a b : Nat} (h : p a b = false) : gen n (seenT p a b) = gen n (seenT p a (b + 1)) := by
  refine gen_congr fun x y _ _ => ?_
  unfold seenT seen
  by_cases hx : y = a
  · subst hx
    by_cases hy : x = b
    · subst hy; simp [h]
    · have e : decide (x < b + 1) = decide (x < b) := decide_eq_decide.2 (by omega)
      simp [e]
  · simp [hx]
theorem seenT_row {n : Int} {p : Nat → Nat → Bool} {a b : Nat} (hp : ∀ x y, p x y = true → y < b) : gen n (seenT p a b) = gen n (seenT p (a + 1) 0) := by
  refine gen_congr fun x y _ _ => ?_
  unfold seenT seen
  cases hxy : p y x with
  | false => simp
  | true =>
    have := hp y x hxy
    rw [Bool.eq_iff_iff]
    simp
    omega
theorem seenT_0 (n : Int) (p : Nat → Nat → Bool) : gen n (seenT p 0 0) = void n := by
  rw [gen_void]
  refine gen_congr fun x y _ _ => ?_
  unfold seenT seen; simp
theorem seenT_all {n : Int} {p : Nat → Nat → Bool} {a : Nat} (hp : ∀ x y, p x y = true → x < a) : gen n (seenT p a 0) = gen n fun x y => p y x := by
  refine gen_congr fun x y _ _ => ?_
  unfold seenT seen
  cases hxy : p y x with
  | false => simp
  | true => have := hp y x hxy; simp [this]
end Rl
end Go.AM

/-
  two, rowwise, Union, Meet, Minus, Not. Own work.
-/
namespace Go.Proofs.YtocpkgckllbjlaaDoor
open Go.AM
set_option maxRecDepth 100000

open Classical in
/-- Two relations over the same numbers, or two void ones. -/
noncomputable def twoL (r s : Rl) : Rl × Rl := if (rightL r).n = (rightL s).n then (rightL r, rightL s) else (Rl.void 0, Rl.void 0)

theorem rightL_void : rightL (Rl.void 0) = Rl.void 0 := by
  refine rightL_of _ ?_
  unfold checkI
  rw [if_neg (by simp [Rl.void]), if_pos good_void]

theorem twoL_n (r s : Rl) : (twoL r s).1.n = (twoL r s).2.n := by
  unfold twoL; split
  · assumption
  · rfl
theorem twoL_right (r s : Rl) : rightL (twoL r s).1 = (twoL r s).1 ∧ rightL (twoL r s).2 = (twoL r s).2 := by
  unfold twoL; split
  · exact ⟨rightL_idem _, rightL_idem _⟩
  · exact ⟨rightL_void, rightL_void⟩

theorem two_ok (r s : Rl) (w : World) : Gives Tryd.prog 79 [encRel r, encRel s] w (.tuple #[encRel (twoL r s).1, encRel (twoL r s).2]) := by
  refine Gives.of_run Tryd.func79 rfl (by show 2 ≤ 19; decide) ?_
  refine RunF_sound tab_ok noX_local 100 [] _ _ rfl ?_ ?_
  · simp
  refine Run.drawA noX_local rfl [0] [(1, .cells 25 [.vals 65 (relV s)])] rfl rfl ⟨rfl, trivial⟩ ?_
  refine RunOF_sound tab_ok noX_local rfl rfl 200 [] _ _ rfl ?_ ?_
  · simp
  refine RunO.callFn noX_local rfl rfl rfl rfl rfl rfl rfl rfl right_enters rfl (fun w' _ => right_ok r w') ?_
  refine RunO.callFn noX_local rfl rfl rfl rfl rfl rfl rfl rfl right_enters rfl (fun w' _ => right_ok s w') ?_
  refine RunOF_sound tab_ok noX_local rfl rfl 1 [] _ _ rfl ?_ ?_
  · simp [segsVals, relV_one', inT, lk]
  refine RunO.effLast tab_ok noX_local rfl rfl rfl rfl ?_ (fun e => by cases e) rfl ?_
  · simp [segsVals, relV_one']
  by_cases h : (rightL r).n = (rightL s).n
  · have e : twoL r s = (rightL r, rightL s) := by unfold twoL; rw [if_pos h]
    rw [e]
    refine RunF_sound tab_ok noX_local 100 [false] _ _ rfl ?_ ?_
    · simp [h]
    refine Run.drawA noX_local rfl [] [(1, .cells 25 [.vals 65 (relV (rightL s))]), (0, .cells 25 [.vals 65 (relV (rightL r))])] rfl rfl ⟨rfl, rfl, trivial⟩ ?_
    refine RunOF_sound tab_ok noX_local rfl rfl 200 [] _ _ rfl ?_ ?_
    · simp [segsVals, relV_one', inT, lk]
    refine RunO.done ?_
    refine RunF_sound tab_ok noX_local 100 [] _ _ rfl ?_ ?_
    · simp
    refine Run.retL tab_ok Tryd.func79 rfl ?_ (fun M => rfl)
    simp
  · have e : twoL r s = (Rl.void 0, Rl.void 0) := by unfold twoL; rw [if_neg h]
    rw [e]
    refine RunF_sound tab_ok noX_local 100 [true] _ _ rfl ?_ ?_
    · simp [fillL, Value.cells, segsVals, relV_one', h]
    refine Run.retL tab_ok Tryd.func79 rfl ?_ (fun M => ?_)
    · simp [fillL, Value.cells]
    · rfl
theorem two_enters : Enters Tryd.prog 79 := enters_mk Tryd.func79 (by decide) rfl
end Go.Proofs.YtocpkgckllbjlaaDoor

/-
  rowwise, Union, Meet, Minus, Not, Restrict. Own work.
-/
namespace Go.Proofs.YtocpkgckllbjlaaDoor
open Go.AM
set_option maxRecDepth 100000

def rowP (F : BitVec 64 → BitVec 64 → BitVec 64) (r s : Rl) (k : Nat) : Rl := Rl.by_ r.n fun i => if i < k then F (r.row i) (s.row i) else r.row i

theorem by_row (r : Rl) : Rl.by_ r.n r.row = r := by
  apply Rl.ext'
  · exact Rl.n_by _ _
  · intro i hi
    rw [Rl.row_by, if_pos hi]
theorem rowP_0 (F : BitVec 64 → BitVec 64 → BitVec 64) (r s : Rl) : rowP F r s 0 = r := by
  unfold rowP
  conv => rhs; rw [← by_row r]
  exact Rl.by_congr fun i _ => by simp
theorem rowP_row (F : BitVec 64 → BitVec 64 → BitVec 64) (r s : Rl) (k : Nat) (hk : k < 64) : (rowP F r s k).row k = r.row k := by
  rw [rowP, Rl.row_by, if_pos hk, if_neg (by omega)]
theorem rowP_step (F : BitVec 64 → BitVec 64 → BitVec 64) (r s : Rl) (k : Nat) : (rowP F r s k).setRow k (F (r.row k) (s.row k)) = rowP F r s (k + 1) := by
  unfold rowP
  rw [Rl.set_by]
  refine Rl.by_congr fun i _ => ?_
  by_cases h : k = i
  · subst h; simp
  · rw [if_neg h]
    have : (i < k) ↔ (i < k + 1) := by omega
    simp only [this]

noncomputable def opL (F : BitVec 64 → BitVec 64 → BitVec 64) (r s : Rl) : Rl := rowP F (twoL r s).1 (twoL r s).2 (twoL r s).1.n.toNat

theorem twoL_b (r s : Rl) : 0 ≤ (twoL r s).1.n ∧ (twoL r s).1.n ≤ 64 := by
  rw [← (twoL_right r s).1]; exact rightL_n _

theorem rowwise_ok (g : FuncId) (F : BitVec 64 → BitVec 64 → BitVec 64) (hent : Enters Tryd.prog g) (hg : ∀ a b w, Gives Tryd.prog g [.int .u64 (un a), .int .u64 (un b)] w (.int .u64 (un (F a b)))) (r s : Rl) (w : World) :
    Gives Tryd.prog 75 [encRel r, encRel s, .func (.func g) #[] #[]] w (encRel (opL F r s)) := by
  refine Gives.of_run Tryd.func75 rfl (by show 3 ≤ 34; decide) ?_
  refine RunF_sound tab_ok noX_local 100 [] _ _ rfl ?_ ?_
  · simp
  refine Run.callFn noX_local rfl rfl rfl rfl rfl rfl rfl two_enters rfl (fun w' _ => two_ok r s w') ?_
  have hn := twoL_b r s
  unfold opL
  generalize (twoL r s).1 = R at hn
  generalize (twoL r s).2 = S at hn
  refine RunF_sound tab_ok noX_local 100 [] _ _ rfl ?_ ?_
  · simp [segsVals, relV_one']
  suffices H : ∀ (d k : Nat), (k : Int) + d = R.n → ∀ σ, inT σ.t [(2, .v (.func (.func g) #[] #[])), (3, .ptr 0 0), (4, .ptr 1 0), (6, .ptr 2 0), (15, .v (.int .i64 R.n)), (16, .v (.int .i64 (k : Int)))] →
      inT σ.h [(0, .cells 25 [.vals 65 (relV (rowP F R S k))]), (1, .cells 25 [.vals 65 (relV S)]), (2, .cells 25 [.vals 65 (relV (Rl.void 0))])] → Run _ _ σ by
    refine H R.n.toNat 0 (by omega) _ ⟨rfl, rfl, rfl, rfl, ?_, rfl, trivial⟩ ⟨?_, ?_, rfl, trivial⟩
    · simp [lk]
    · rw [rowP_0]; simp [lk]
    · simp [lk]
  intro d
  induction d with
  | zero =>
    intro k hk σ ht hh
    refine Run.to ?_ ht hh (n' := 3)
    refine RunF_sound tab_ok noX_local 100 [false] _ _ rfl ?_ ?_
    · simp [relV_one', segsVals]; omega
    · refine Run.retP tab_ok Tryd.func75 rfl ?_ (fun M => ?_)
      · simp
      have : R.n.toNat = k := by omega
      rw [this]; rfl
  | succ d ih =>
    intro k hk σ ht hh
    refine Run.to ?_ ht hh (n' := 3)
    have hk' : k < 64 := by omega
    refine RunF_sound tab_ok noX_local 100 [true] _ _ rfl ?_ ?_
    · simp; omega
    refine Run.drawA noX_local rfl [5] [(1, .cells 25 [.vals 65 (relV S)])] rfl rfl ⟨rfl, trivial⟩ ?_
    refine RunOF_sound tab_ok noX_local rfl rfl 100 [] _ _ rfl ?_ ?_
    · simp [relV_get _ _ hk', intAt_row _ _ hk']; omega
    refine RunO.callFv (cs := []) (f := g) (r := .int .u64 (un (F (R.row k) (S.row k)))) noX_local rfl rfl rfl rfl rfl rfl rfl rfl hent rfl (fun w' _ => ?_) ?_
    · have e1 : intAt (relV (rowP F R S k)) (1 - 0 + (k : Int).toNat * 1) = un (R.row k) := by
        rw [show 1 - 0 + (k : Int).toNat * 1 = 1 + k by simp, intAt_row _ _ hk', rowP_row F R S k hk']
      have e2 : intAt (relV S) (1 - 0 + (k : Int).toNat * 1) = un (S.row k) := by
        rw [show 1 - 0 + (k : Int).toNat * 1 = 1 + k by simp, intAt_row _ _ hk']
      have := hg (R.row k) (S.row k) w'
      rw [← e1, ← e2] at this
      exact this
    refine RunOF_sound tab_ok noX_local rfl rfl 100 [] _ _ rfl ?_ ?_
    · simp [okCell, Value.oneCell', inT, lk]; omega
    refine RunO.done ?_
    refine RunF_sound tab_ok noX_local 100 [] _ _ rfl ?_ ?_
    · simp
    refine ih (k + 1) (by omega) _ ⟨rfl, rfl, rfl, rfl, rfl, i64_eq (wrap_succ (by omega)), trivial⟩ ⟨congrArg (fun l => some (Blk.cells 25 [.vals 65 l])) ?_, rfl, rfl, trivial⟩
    simp [relV_set _ _ hk', rowP_step]
theorem rowwise_enters : Enters Tryd.prog 75 := enters_mk Tryd.func75 (by decide) rfl

theorem or_ok (a b : BitVec 64) (w : World) : Gives Tryd.prog 76 [.int .u64 (un a), .int .u64 (un b)] w (.int .u64 (un (a ||| b))) := by
  refine Gives.of_run Tryd.func76 rfl (by show 2 ≤ 8; decide) ?_
  refine RunF_sound tab_ok noX_local 100 [] _ _ rfl ?_ ?_
  · simp
  exact Run.retP tab_ok Tryd.func76 rfl trivial (fun M => by show Value.int _ _ = _; rw [bor_un])
theorem or_enters : Enters Tryd.prog 76 := enters_mk Tryd.func76 (by decide) rfl
theorem and_ok (a b : BitVec 64) (w : World) : Gives Tryd.prog 77 [.int .u64 (un a), .int .u64 (un b)] w (.int .u64 (un (a &&& b))) := by
  refine Gives.of_run Tryd.func77 rfl (by show 2 ≤ 8; decide) ?_
  refine RunF_sound tab_ok noX_local 100 [] _ _ rfl ?_ ?_
  · simp
  exact Run.retP tab_ok Tryd.func77 rfl trivial (fun M => by show Value.int _ _ = _; rw [band_un])
theorem and_enters : Enters Tryd.prog 77 := enters_mk Tryd.func77 (by decide) rfl
theorem andn_ok (a b : BitVec 64) (w : World) : Gives Tryd.prog 78 [.int .u64 (un a), .int .u64 (un b)] w (.int .u64 (un (a &&& ~~~b))) := by
  refine Gives.of_run Tryd.func78 rfl (by show 2 ≤ 8; decide) ?_
  refine RunF_sound tab_ok noX_local 100 [] _ _ rfl ?_ ?_
  · simp
  exact Run.retP tab_ok Tryd.func78 rfl trivial (fun M => by show Value.int _ _ = _; rw [bandn_un])
theorem andn_enters : Enters Tryd.prog 78 := enters_mk Tryd.func78 (by decide) rfl

theorem union_ok (r s : Rl) (w : World) : Gives Tryd.prog 21 [encRel r, encRel s] w (encRel (opL (fun a b => a ||| b) r s)) := by
  refine Gives.of_run Tryd.func21 rfl (by show 2 ≤ 8; decide) ?_
  refine RunF_sound tab_ok noX_local 100 [] _ _ rfl ?_ ?_
  · simp
  refine Run.callM noX_local rfl rfl rfl rfl rfl rfl rowwise_enters rfl (fun M w' _ _ => rowwise_ok 76 (fun a b => a ||| b) or_enters or_ok r s w') ?_
  refine RunF_sound tab_ok noX_local 100 [] _ _ rfl ?_ ?_
  · simp [segsVals, relV_one']
  refine Run.retP tab_ok Tryd.func21 rfl ?_ (fun M => ?_)
  · simp
  rfl
theorem union_enters : Enters Tryd.prog 21 := enters_mk Tryd.func21 (by decide) rfl

theorem meet_ok (r s : Rl) (w : World) : Gives Tryd.prog 23 [encRel r, encRel s] w (encRel (opL (fun a b => a &&& b) r s)) := by
  refine Gives.of_run Tryd.func23 rfl (by show 2 ≤ 8; decide) ?_
  refine RunF_sound tab_ok noX_local 100 [] _ _ rfl ?_ ?_
  · simp
  refine Run.callM noX_local rfl rfl rfl rfl rfl rfl rowwise_enters rfl (fun M w' _ _ => rowwise_ok 77 (fun a b => a &&& b) and_enters and_ok r s w') ?_
  refine RunF_sound tab_ok noX_local 100 [] _ _ rfl ?_ ?_
  · simp [segsVals, relV_one']
  refine Run.retP tab_ok Tryd.func23 rfl ?_ (fun M => ?_)
  · simp
  rfl
theorem meet_enters : Enters Tryd.prog 23 := enters_mk Tryd.func23 (by decide) rfl

theorem minus_ok (r s : Rl) (w : World) : Gives Tryd.prog 24 [encRel r, encRel s] w (encRel (opL (fun a b => a &&& ~~~b) r s)) := by
  refine Gives.of_run Tryd.func24 rfl (by show 2 ≤ 8; decide) ?_
  refine RunF_sound tab_ok noX_local 100 [] _ _ rfl ?_ ?_
  · simp
  refine Run.callM noX_local rfl rfl rfl rfl rfl rfl rowwise_enters rfl (fun M w' _ _ => rowwise_ok 78 (fun a b => a &&& ~~~b) andn_enters andn_ok r s w') ?_
  refine RunF_sound tab_ok noX_local 100 [] _ _ rfl ?_ ?_
  · simp [segsVals, relV_one']
  refine Run.retP tab_ok Tryd.func24 rfl ?_ (fun M => ?_)
  · simp
  rfl
theorem minus_enters : Enters Tryd.prog 24 := enters_mk Tryd.func24 (by decide) rfl

def notP (r : Rl) (k : Nat) : Rl := Rl.by_ r.n fun i => if i < k then mask r.n &&& ~~~(r.row i) else r.row i
theorem n_notP (r : Rl) (k : Nat) : (notP r k).n = r.n := Rl.n_by _ _
theorem notP_0 (r : Rl) : notP r 0 = r := by
  unfold notP
  conv => rhs; rw [← by_row r]
  exact Rl.by_congr fun i _ => by simp
theorem notP_row (r : Rl) (k : Nat) (hk : k < 64) : (notP r k).row k = r.row k := by
  rw [notP, Rl.row_by, if_pos hk, if_neg (by omega)]
theorem notP_step (r : Rl) (k : Nat) : (notP r k).setRow k (mask r.n &&& ~~~(r.row k)) = notP r (k + 1) := by
  unfold notP
  rw [Rl.set_by]
  refine Rl.by_congr fun i _ => ?_
  by_cases h : k = i
  · subst h; simp
  · rw [if_neg h]
    have : (i < k) ↔ (i < k + 1) := by omega
    simp only [this]
noncomputable def notL (r : Rl) : Rl := notP (rightL r) (rightL r).n.toNat

theorem not_ok (r : Rl) (w : World) : Gives Tryd.prog 28 [encRel r] w (encRel (notL r)) := by
  refine Gives.of_run Tryd.func28 rfl (by show 1 ≤ 24; decide) ?_
  refine RunF_sound tab_ok noX_local 100 [] _ _ rfl ?_ ?_
  · simp
  refine Run.callFn noX_local rfl rfl rfl rfl rfl rfl rfl right_enters rfl (fun w' _ => right_ok r w') ?_
  have hn := rightL_n r
  unfold notL
  generalize rightL r = R at hn
  refine RunF_sound tab_ok noX_local 100 [] _ _ rfl ?_ ?_
  · simp [segsVals, relV_one']
  suffices H : ∀ (d k : Nat), (k : Int) + d = R.n → ∀ σ, inT σ.t [(1, .ptr 0 0), (2, .ptr 1 0), (7, .v (.int .i64 R.n)), (8, .v (.int .i64 (k : Int)))] →
      inT σ.h [(0, .cells 25 [.vals 65 (relV (notP R k))]), (1, .cells 25 [.vals 65 (relV (Rl.void 0))])] → Run _ _ σ by
    refine H R.n.toNat 0 (by omega) _ ⟨rfl, rfl, ?_, rfl, trivial⟩ ⟨?_, rfl, trivial⟩
    · simp [lk]
    · rw [notP_0]; simp [lk]
  intro d
  induction d with
  | zero =>
    intro k hk σ ht hh
    refine Run.to ?_ ht hh (n' := 2)
    refine RunF_sound tab_ok noX_local 100 [false] _ _ rfl ?_ ?_
    · simp [relV_one', segsVals]; omega
    · refine Run.retP tab_ok Tryd.func28 rfl ?_ (fun M => ?_)
      · simp
      have : R.n.toNat = k := by omega
      rw [this]; rfl
  | succ d ih =>
    intro k hk σ ht hh
    refine Run.to ?_ ht hh (n' := 2)
    have hk' : k < 64 := by omega
    refine RunF_sound tab_ok noX_local 100 [true] _ _ rfl ?_ ?_
    · simp; omega
    refine Run.drawA noX_local rfl [] [(0, .cells 25 [.vals 65 (relV (notP R k))])] rfl rfl ⟨rfl, trivial⟩ ?_
    refine RunOF_sound tab_ok noX_local rfl rfl 100 [] _ _ rfl ?_ ?_
    · simp [relV_get _ _ hk', intAt_row _ _ hk']; omega
    refine RunO.callFn (r := .int .u64 (un (mask R.n))) noX_local rfl rfl rfl rfl rfl rfl rfl rfl whole_enters rfl (fun w' _ => ?_) ?_
    · simp only [Nat.add_zero, Nat.sub_zero, intAt_0, n_notP]
      exact whole_ok R.n w' hn.1
    refine RunOF_sound tab_ok noX_local rfl rfl 2 [] _ _ rfl ?_ ?_
    · simp; omega
    refine RunO.effLast tab_ok noX_local rfl rfl rfl rfl ?_ (fun e => by cases e) rfl ?_
    · simp [okCell, Value.oneCell']; omega
    refine RunF_sound tab_ok noX_local 100 [] _ _ rfl ?_ ?_
    · simp
    refine ih (k + 1) (by omega) _ ⟨rfl, rfl, rfl, i64_eq (wrap_succ (by omega)), trivial⟩ ⟨congrArg (fun l => some (Blk.cells 25 [.vals 65 l])) ?_, rfl, trivial⟩
    have e1 : intAt (relV (notP R k)) (1 + k) = un (R.row k) := by rw [intAt_row _ _ hk', notP_row R k hk']
    simp [e1, relV_set _ _ hk', notP_step]
theorem not_enters : Enters Tryd.prog 28 := enters_mk Tryd.func28 (by decide) rfl
end Go.Proofs.YtocpkgckllbjlaaDoor

/-
  Inverse, Compose: folded over the pairs. Own work.
-/
namespace Go.Proofs.YtocpkgckllbjlaaDoor
open Go.AM
set_option maxRecDepth 100000

def invF (n : Int) (l : List (Int × Int)) : Rl := l.foldl (fun o e => o.setRow e.2.toNat (o.row e.2.toNat ||| 1#64 <<< e.1.toNat)) (Rl.void n)
theorem invF_app (n : Int) (l : List (Int × Int)) (e : Int × Int) : invF n (l ++ [e]) = (invF n l).setRow e.2.toNat ((invF n l).row e.2.toNat ||| 1#64 <<< e.1.toNat) := by
  unfold invF; rw [List.foldl_append]; rfl
def cmpF (s : Rl) (n : Int) (l : List (Int × Int)) : Rl := l.foldl (fun o e => o.setRow e.1.toNat (o.row e.1.toNat ||| s.row e.2.toNat)) (Rl.void n)
theorem cmpF_app (s : Rl) (n : Int) (l : List (Int × Int)) (e : Int × Int) : cmpF s n (l ++ [e]) = (cmpF s n l).setRow e.1.toNat ((cmpF s n l).row e.1.toNat ||| s.row e.2.toNat) := by
  unfold cmpF; rw [List.foldl_append]; rfl

/-- Where the pairs are. -/
theorem restL_mem (r : Rl) : ∀ d i e, e ∈ restL r i d → ∃ a b : Nat, e = ((a : Int), (b : Int)) ∧ i ≤ a ∧ a < i + d ∧ r.has a b = true
  | 0, i, e, h => by cases h
  | d + 1, i, e, h => by
    rw [restL, List.mem_append] at h
    rcases h with h | h
    · obtain ⟨b, hb, rfl⟩ := List.mem_map.1 h
      exact ⟨i, b, rfl, Nat.le_refl _, by omega, (bitsL_mem _ _).1 hb⟩
    · obtain ⟨a, b, h1, h2, h3, h4⟩ := restL_mem r d (i + 1) e h
      exact ⟨a, b, h1, by omega, by omega, h4⟩

theorem edges_mem (r : Rl) (e : Int × Int) (h : e ∈ edgesL r) : ∃ a b : Nat, e = ((a : Int), (b : Int)) ∧ a < 64 ∧ b < 64 ∧ r.has a b = true := by
  obtain ⟨a, b, h1, h2, h3, h4⟩ := restL_mem r _ _ e h
  obtain ⟨h5, h6⟩ := Rl.has_lt r h4
  exact ⟨a, b, h1, h5, h6, h4⟩

theorem relV_tail_one (r : Rl) : (∀ c ∈ (relV r).tail, c.oneCell' = true) ↔ True := iff_true_intro fun c hc => relV_one r c (List.mem_of_mem_tail hc)

/-- The blocks of Inverse. -/
def invBlk (r o : Rl) : List (Nat × Blk) := [(2, .cells 25 [.vals 65 (relV o)]), (1, .cells 25 [.vals 65 (relV (Rl.void 0))]), (0, .cells 25 [.vals 65 (relV r)])]

theorem inverse_ok (r : Rl) (w : World) (hT : TabAt w) (h0 : 0 < w.heap.size) : Gives Tryd.prog 26 [encRel r] w (encRel (invF (rightL r).n (edgesL (rightL r)))) := by
  refine Gives.of_run Tryd.func26 rfl (by show 1 ≤ 24; decide) ?_
  refine RunF_sound tab_ok noX_local 100 [] _ _ rfl ?_ ?_
  · simp
  refine Run.callFn noX_local rfl rfl rfl rfl rfl rfl rfl right_enters rfl (fun w' _ => right_ok r w') ?_
  refine RunF_sound tab_ok noX_local 100 [] _ _ rfl ?_ ?_
  · simp [fillL, Value.cells, segsVals, relV_tail_one, splice]
  refine Run.callR noX_local rfl rfl rfl rfl rfl rfl edges_enters rfl (fun M w' _ _ => edges_ok r w') ?_
  rintro v w2 w1 S1 hag hag2 ⟨bb, rfl, hbl, hRel⟩ hS1
  have hB1 := (Based.refl w).call hag hag2 hS1
  have hbw1 : bb < w1.heap.size := World.block_lt_of_cell? w1 _ (hRel 0 _ rfl)
  have hS1b : ¬ S1 bb := hS1.new bb hbl
  have hS10 : ¬ S1 0 := fun h => by have := hB1.new 0 h; omega
  have hw1 : 0 < w1.heap.size := by have := hB1.agree.size; omega
  have hn := rightL_n r
  have hit := edges_iter (rightL r) hn bb w1 hRel (hT.agree hB1.agree (fun f => f))
  have hmem := edges_mem (rightL r)
  generalize rightL r = R at *
  generalize edgesL R = E at *
  refine ⟨.fn 71 [.v (.pointer (some ⟨bb, 0, none⟩))], fun M => rfl, ?_⟩
  refine RunF_sound tab_ok noX_local 100 [] _ _ rfl ?_ ?_
  · simp
  refine Run.rangeFn noX_local rfl rfl (fun M => rfl) edgesIt_enters 4 [(3, .ptr 2 0), (2, .ptr 1 0)] ⟨rfl, rfl, trivial⟩ rfl rfl hit
    (fun k hk => by rcases hk with rfl | rfl; exact ⟨hw1, hS10⟩; exact ⟨hbw1, hS1b⟩) (fun x hx => by simp only [encEs, List.mem_map] at hx; obtain ⟨e, _, rfl⟩ := hx; rfl)
    (fun pre h => ∃ k, k ≤ E.length ∧ pre = encEs (E.take k) ∧ h = invBlk r (invF R.n (E.take k)))
    (fun _ _ _ => False) 12 (invBlk r (invF R.n [])) ⟨0, by omega, rfl, rfl⟩ ⟨?_, rfl, rfl, trivial⟩ ?_ ?_ ?_
  · show _ = some (Blk.cells 25 [.vals 65 (relV (Rl.void R.n))])
    rfl
  · rintro D l a0 rc wy fpy pre x h hI hpx ⟨k, hk, rfl, rfl⟩
    obtain ⟨hlt, rfl⟩ := encEs_next hk hpx
    obtain ⟨a, b, he, ha, hb, hab⟩ := hmem E[k] (List.getElem_mem hlt)
    have hts : E.take (k + 1) = E.take k ++ [E[k]] := List.take_succ_eq_append_getElem hlt
    have hstep : invF R.n (E.take (k + 1)) = (invF R.n (E.take k)).setRow b ((invF R.n (E.take k)).row b ||| 1#64 <<< a) := by
      rw [hts, invF_app, he]; simp
    have hnext : encEs (E.take k) ++ [encEd E[k]] = encEs (E.take (k + 1)) := encEs_succ hlt
    rw [he] at hnext ⊢
    generalize invF R.n (E.take k) = o at hstep ⊢
    refine RunF_sound tab_ok (roundX_local hI.loc l rc .ready) 100 [] _ _ rfl ?_ ?_
    · simp [segsVals]
    refine Run.beginRound hI.loc hI.lw ?_
    refine RunF_sound tab_ok (roundX_local hI.loc l rc .busy) 100 [] _ _ rfl ?_ ?_
    · simp
    refine Run.drawA (roundX_local hI.loc l rc .busy) rfl [4] [(12, .cells 67 [.vals 2 [.int .i64 (a : Int), .int .i64 (b : Int)]])] rfl rfl ⟨rfl, trivial⟩ ?_
    refine RunOF_sound tab_ok (roundX_local hI.loc l rc .busy) rfl rfl 100 [] _ _ rfl ?_ ?_
    · simp [relV_get _ _ hb, intAt_row _ _ hb, okCell, Value.oneCell', inT, lk]; omega
    refine RunO.done ?_
    refine RunF_sound tab_ok (roundX_local hI.loc l rc .busy) 100 [] _ _ rfl ?_ ?_
    · simp
    refine Run.roundEnd hI [] (invBlk r (invF R.n (E.take (k + 1)))) ⟨k + 1, by omega, hnext, rfl⟩ ⟨rfl, rfl, trivial⟩ ⟨?_, rfl, rfl, trivial⟩ rfl
    refine congrArg (fun l => some (Blk.cells 25 [.vals 65 l])) ?_
    rw [hstep]
    simp [intAt_row _ _ hb, shl1_un, relV_set _ _ hb]
  · rintro D h ⟨k, hk, hx, rfl⟩
    have hke := encEs_all hk hx
    have e1 : E.take k = E := List.take_of_length_le (by omega)
    rw [e1]
    refine RunF_sound tab_ok (markX_local noX_local D) 100 [] _ _ rfl ?_ ?_
    · simp [segsVals, relV_one']
    refine Run.retB (Ds := [D]) tab_ok noX_local hB1 Tryd.func26 rfl ?_ (fun M => ?_)
    · simp
    rfl
  · rintro D pre c h hpre hF
    exact hF.elim
theorem inverse_enters : Enters Tryd.prog 26 := enters_mk Tryd.func26 (by decide) rfl
end Go.Proofs.YtocpkgckllbjlaaDoor

/-
  Compose. Own work.
-/
namespace Go.Proofs.YtocpkgckllbjlaaDoor
open Go.AM
set_option maxRecDepth 100000

def cmpBlk (r s o : Rl) : List (Nat × Blk) := [(3, .cells 25 [.vals 65 (relV o)]), (2, .cells 25 [.vals 65 (relV (Rl.void 0))]), (1, .cells 25 [.vals 65 (relV s)]), (0, .cells 25 [.vals 65 (relV r)])]

noncomputable def composeL (r s : Rl) : Rl := cmpF (twoL r s).2 (twoL r s).1.n (edgesL (twoL r s).1)

theorem compose_ok (r s : Rl) (w : World) (hT : TabAt w) (h0 : 0 < w.heap.size) : Gives Tryd.prog 25 [encRel r, encRel s] w (encRel (composeL r s)) := by
  refine Gives.of_run Tryd.func25 rfl (by show 2 ≤ 33; decide) ?_
  refine RunF_sound tab_ok noX_local 100 [] _ _ rfl ?_ ?_
  · simp
  refine Run.callFn noX_local rfl rfl rfl rfl rfl rfl rfl two_enters rfl (fun w' _ => two_ok r s w') ?_
  have hn := twoL_b r s
  have hrt := (twoL_right r s).1
  unfold composeL
  generalize (twoL r s).1 = R at hn hrt
  generalize (twoL r s).2 = S at hn hrt
  refine RunF_sound tab_ok noX_local 100 [] _ _ rfl ?_ ?_
  · simp [fillL, Value.cells, segsVals, relV_one', relV_tail_one, splice]
  refine Run.callR (Q := fun v w w' => ∃ b, v = edgesF b ∧ w.heap.size ≤ b ∧ RelAt w' b R) noX_local rfl rfl rfl rfl rfl rfl edges_enters rfl (fun M w' _ _ => ?_) ?_
  · have := edges_ok R w'
    rw [hrt] at this
    simp only [List.append_nil]
    exact this
  rintro v w2 w1 S1 hag hag2 ⟨bb, rfl, hbl, hRel⟩ hS1
  have hB1 := (Based.refl w).call hag hag2 hS1
  have hbw1 : bb < w1.heap.size := World.block_lt_of_cell? w1 _ (hRel 0 _ rfl)
  have hS1b : ¬ S1 bb := hS1.new bb hbl
  have hS10 : ¬ S1 0 := fun h => by have := hB1.new 0 h; omega
  have hw1 : 0 < w1.heap.size := by have := hB1.agree.size; omega
  have hit := edges_iter R hn bb w1 hRel (hT.agree hB1.agree (fun f => f))
  have hmem := edges_mem R
  generalize edgesL R = E at *
  refine ⟨.fn 71 [.v (.pointer (some ⟨bb, 0, none⟩))], fun M => rfl, ?_⟩
  refine RunF_sound tab_ok noX_local 100 [] _ _ rfl ?_ ?_
  · simp
  refine Run.rangeFn noX_local rfl rfl (fun M => rfl) edgesIt_enters 6 [(5, .ptr 3 0), (4, .ptr 2 0), (3, .ptr 1 0)] ⟨rfl, rfl, rfl, trivial⟩ rfl rfl hit
    (fun k hk => by rcases hk with rfl | rfl; exact ⟨hw1, hS10⟩; exact ⟨hbw1, hS1b⟩) (fun x hx => by simp only [encEs, List.mem_map] at hx; obtain ⟨e, _, rfl⟩ := hx; rfl)
    (fun pre h => ∃ k, k ≤ E.length ∧ pre = encEs (E.take k) ∧ h = cmpBlk R S (cmpF S R.n (E.take k)))
    (fun _ _ _ => False) 12 (cmpBlk R S (cmpF S R.n [])) ⟨0, by omega, rfl, rfl⟩ ⟨?_, rfl, ?_, ?_, trivial⟩ ?_ ?_ ?_
  · show _ = some (Blk.cells 25 [.vals 65 (relV (Rl.void R.n))])
    simp [lk]
    rfl
  · simp [lk]
  · simp [lk]
  · rintro D l a0 rc wy fpy pre x h hI hpx ⟨k, hk, rfl, rfl⟩
    obtain ⟨hlt, rfl⟩ := encEs_next hk hpx
    obtain ⟨a, b, he, ha, hb, hab⟩ := hmem E[k] (List.getElem_mem hlt)
    have hts : E.take (k + 1) = E.take k ++ [E[k]] := List.take_succ_eq_append_getElem hlt
    have hstep : cmpF S R.n (E.take (k + 1)) = (cmpF S R.n (E.take k)).setRow a ((cmpF S R.n (E.take k)).row a ||| S.row b) := by
      rw [hts, cmpF_app, he]; simp
    have hnext : encEs (E.take k) ++ [encEd E[k]] = encEs (E.take (k + 1)) := encEs_succ hlt
    rw [he] at hnext ⊢
    generalize cmpF S R.n (E.take k) = o at hstep ⊢
    refine RunF_sound tab_ok (roundX_local hI.loc l rc .ready) 100 [] _ _ rfl ?_ ?_
    · simp [segsVals]
    refine Run.beginRound hI.loc hI.lw ?_
    refine RunF_sound tab_ok (roundX_local hI.loc l rc .busy) 100 [] _ _ rfl ?_ ?_
    · simp
    refine Run.drawA (roundX_local hI.loc l rc .busy) rfl [4] [(12, .cells 67 [.vals 2 [.int .i64 (a : Int), .int .i64 (b : Int)]]), (1, .cells 25 [.vals 65 (relV S)])] rfl rfl ⟨rfl, rfl, trivial⟩ ?_
    refine RunOF_sound tab_ok (roundX_local hI.loc l rc .busy) rfl rfl 100 [] _ _ rfl ?_ ?_
    · simp [relV_get _ _ hb, relV_get _ _ ha, intAt_row _ _ hb, intAt_row _ _ ha, okCell, Value.oneCell', inT, lk]; omega
    refine RunO.done ?_
    refine RunF_sound tab_ok (roundX_local hI.loc l rc .busy) 100 [] _ _ rfl ?_ ?_
    · simp
    refine Run.roundEnd hI [] (cmpBlk R S (cmpF S R.n (E.take (k + 1)))) ⟨k + 1, by omega, hnext, rfl⟩ ⟨rfl, rfl, rfl, trivial⟩ ⟨?_, rfl, rfl, rfl, trivial⟩ rfl
    refine congrArg (fun l => some (Blk.cells 25 [.vals 65 l])) ?_
    rw [hstep]
    simp [intAt_row _ _ hb, intAt_row _ _ ha, relV_set _ _ ha]
  · rintro D h ⟨k, hk, hx, rfl⟩
    have hke := encEs_all hk hx
    have e1 : E.take k = E := List.take_of_length_le (by omega)
    rw [e1]
    refine RunF_sound tab_ok (markX_local noX_local D) 100 [] _ _ rfl ?_ ?_
    · simp [segsVals, relV_one']
    refine Run.retB (Ds := [D]) tab_ok noX_local hB1 Tryd.func25 rfl ?_ (fun M => ?_)
    · simp
    rfl
  · rintro D pre c h hpre hF
    exact hF.elim
theorem compose_enters : Enters Tryd.prog 25 := enters_mk Tryd.func25 (by decide) rfl

/-! ### Where the pairs of a fold are -/
theorem invF_n (n : Int) : ∀ l : List (Int × Int), (invF n l).n = n := by
  intro l
  unfold invF
  suffices H : ∀ (l : List (Int × Int)) (o : Rl), (l.foldl (fun o e => o.setRow e.2.toNat (o.row e.2.toNat ||| 1#64 <<< e.1.toNat)) o).n = o.n from H l _
  intro l
  induction l with
  | nil => intro o; rfl
  | cons e l ih => intro o; rw [List.foldl_cons, ih, Rl.n_setRow]
theorem cmpF_n (s : Rl) (n : Int) : ∀ l : List (Int × Int), (cmpF s n l).n = n := by
  intro l
  unfold cmpF
  suffices H : ∀ (l : List (Int × Int)) (o : Rl), (l.foldl (fun o e => o.setRow e.1.toNat (o.row e.1.toNat ||| s.row e.2.toNat)) o).n = o.n from H l _
  intro l
  induction l with
  | nil => intro o; rfl
  | cons e l ih => intro o; rw [List.foldl_cons, ih, Rl.n_setRow]

theorem invF_has (l : List (Int × Int)) (hl : ∀ e ∈ l, e.1.toNat < 64 ∧ e.2.toNat < 64) : ∀ (o : Rl) (x y : Nat),
    (l.foldl (fun o e => o.setRow e.2.toNat (o.row e.2.toNat ||| 1#64 <<< e.1.toNat)) o).has x y = (o.has x y || l.any fun e => decide (e.2.toNat = x) && decide (e.1.toNat = y)) := by
  induction l with
  | nil => intro o x y; simp
  | cons e l ih =>
    intro o x y
    have he := hl e (List.mem_cons_self ..)
    rw [List.foldl_cons, ih (fun e' h' => hl e' (List.mem_cons_of_mem _ h')), Rl.has_setRow, List.any_cons, ← Bool.or_assoc]
    congr 1
    by_cases hx : e.2.toNat = x
    · subst hx
      rw [if_pos ⟨rfl, he.2⟩, BitVec.getLsbD_or, one_shl_get _ _ he.1]
      have : ∀ a b : Nat, decide (a = b) = decide (b = a) := fun a b => decide_eq_decide.2 eq_comm
      rw [this y]
      simp [Rl.has]
    · rw [if_neg (by simp [hx])]; simp [hx]

theorem cmpF_has (s : Rl) (l : List (Int × Int)) (hl : ∀ e ∈ l, e.1.toNat < 64) : ∀ (o : Rl) (x y : Nat),
    (l.foldl (fun o e => o.setRow e.1.toNat (o.row e.1.toNat ||| s.row e.2.toNat)) o).has x y = (o.has x y || l.any fun e => decide (e.1.toNat = x) && s.has e.2.toNat y) := by
  induction l with
  | nil => intro o x y; simp
  | cons e l ih =>
    intro o x y
    have he := hl e (List.mem_cons_self ..)
    rw [List.foldl_cons, ih (fun e' h' => hl e' (List.mem_cons_of_mem _ h')), Rl.has_setRow, List.any_cons, ← Bool.or_assoc]
    congr 1
    by_cases hx : e.1.toNat = x
    · subst hx
      rw [if_pos ⟨rfl, he⟩, BitVec.getLsbD_or]
      simp [Rl.has]
    · rw [if_neg (by simp [hx])]; simp [hx]

theorem edges_has (r : Rl) (a b : Nat) : ((a : Int), (b : Int)) ∈ edgesL (rightL r) ↔ (rightL r).has a b = true := by
  have hn := rightL_n r
  constructor
  · intro h
    obtain ⟨a', b', h1, _, _, h4⟩ := edges_mem _ _ h
    simp only [Prod.mk.injEq, Int.natCast_inj] at h1
    rw [h1.1, h1.2]; exact h4
  · intro h
    have hb := right_has r a b h
    suffices H : ∀ d i, i ≤ a → a < i + d → ((a : Int), (b : Int)) ∈ restL (rightL r) i d from H _ 0 (Nat.zero_le _) (by omega)
    intro d
    induction d with
    | zero => intro i h1 h2; omega
    | succ d ih =>
      intro i h1 h2
      rw [restL, List.mem_append]
      by_cases he : i = a
      · subst he
        exact .inl (List.mem_map.2 ⟨b, (bitsL_mem _ _).2 h, rfl⟩)
      · exact .inr (ih (i + 1) (by omega) (by omega))

/-- Inverse, pair by pair. -/
theorem inverse_has (r : Rl) (x y : Nat) : (invF (rightL r).n (edgesL (rightL r))).has x y = (rightL r).has y x := by
  unfold invF
  rw [invF_has _ (fun e he => by obtain ⟨a, b, rfl, h1, h2, _⟩ := edges_mem _ _ he; exact ⟨by simpa using h1, by simpa using h2⟩), Rl.gen_void, Rl.has_gen]
  rw [Bool.and_false, Bool.false_or, Bool.eq_iff_iff, List.any_eq_true]
  constructor
  · rintro ⟨e, he, h⟩
    obtain ⟨a, b, rfl, _, _, h4⟩ := edges_mem _ _ he
    simp at h
    rw [← h.1, ← h.2]; exact h4
  · intro h
    exact ⟨((y : Int), (x : Int)), (edges_has r y x).2 h, by simp⟩

/-- Compose, pair by pair. -/
theorem compose_has (r s : Rl) (x y : Nat) : (composeL r s).has x y = (List.range 64).any fun c => (twoL r s).1.has x c && (twoL r s).2.has c y := by
  unfold composeL cmpF
  have hr := (twoL_right r s).1
  rw [cmpF_has _ _ (fun e he => by obtain ⟨a, b, rfl, h1, h2, _⟩ := edges_mem _ _ he; simpa using h1), Rl.gen_void, Rl.has_gen]
  rw [Bool.and_false, Bool.false_or, Bool.eq_iff_iff, List.any_eq_true, List.any_eq_true]
  constructor
  · rintro ⟨e, he, h⟩
    obtain ⟨a, b, rfl, _, hb, h4⟩ := edges_mem _ _ he
    simp at h
    exact ⟨b, List.mem_range.2 hb, by rw [← h.1, h4]; simpa using h.2⟩
  · rintro ⟨c, _, h⟩
    simp only [Bool.and_eq_true] at h
    refine ⟨((x : Int), (c : Int)), ?_, by simpa using h.2⟩
    rw [← hr]
    exact (edges_has _ x c).2 (by rw [hr]; exact h.1)
end Go.Proofs.YtocpkgckllbjlaaDoor
