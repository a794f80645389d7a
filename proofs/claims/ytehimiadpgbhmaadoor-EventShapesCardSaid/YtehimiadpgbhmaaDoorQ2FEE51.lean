/-
  Own work, merged: AM22, AM23, AM24, AM25, AM30, AM31, T3, T4, T5, T6, T7, T8, AM44, T9, X1, X2.
-/
import Derived.AtR
import Derived.Below
import Derived.ChangeKeysEq
import Derived.KernelRfl
import Derived.Laws.AppendOwn
import Derived.Laws.BytesString
import Derived.Laws.Cells
import Derived.Laws.CopyRow
import Derived.Laws.Entries
import Derived.Laws.Rows
import Derived.Laws.Small
import Derived.Laws.StructEq
import Derived.Lib.TrailingZeros
import Derived.Maps.AppendAt
import Derived.Orders
import Derived.RangeFuncRecord
import Derived.Test.YtehimiadpgbhmaaDoorProg
import Derived.Test.YtehimiadpgbhmaaDoorQ71130A
/-
  The abstract machine, twenty-second part: calls that hand over blocks which they have made. Own work; over any program.
-/
namespace Go.AM

mutual
def AV.ge (n : Nat) : AV → Bool
  | .v _ => true
  | .tt _ => true
  | .ptr id _ => Nat.ble n id
  | .elt id _ _ => Nat.ble n id
  | .mp id => Nat.ble n id
  | .sl id _ _ _ => Nat.ble n id
  | .fn _ caps => geL n caps
  | .agg l => geL n l
  | .tup l => geL n l
def geL (n : Nat) : List AV → Bool
  | [] => true
  | x :: r => match x.ge n with | true => geL n r | false => false
end

mutual
theorem conc_congrG {M M' : Loc} {n : Nat} (h : ∀ i, n ≤ i → M' i = M i) : ∀ x : AV, x.ge n = true → conc M' x = conc M x
  | .v _, _ => by simp [conc]
  | .tt _, _ => by simp [conc]
  | .ptr id off, hb => by simp [AV.ge] at hb; simp [conc, h id hb]
  | .elt id off j, hb => by simp [AV.ge] at hb; simp [conc, h id hb]
  | .mp id, hb => by simp [AV.ge] at hb; simp [conc, h id hb]
  | .sl id sz off len, hb => by simp [AV.ge] at hb; simp [conc, h id hb]
  | .fn f caps, hb => by simp only [AV.ge] at hb; simp only [conc, concL_congrG h caps hb]
  | .agg l, hb => by simp only [AV.ge] at hb; simp only [conc, concL_congrG h l hb]
  | .tup l, hb => by simp only [AV.ge] at hb; simp only [conc, concL_congrG h l hb]
theorem concL_congrG {M M' : Loc} {n : Nat} (h : ∀ i, n ≤ i → M' i = M i) : ∀ l : List AV, geL n l = true → concL M' l = concL M l
  | [], _ => by simp [concL]
  | x :: r, hb => by
    simp only [geL] at hb
    split at hb
    · rename_i hx; simp only [concL, conc_congrG h x hx, concL_congrG h r hb]
    · cases hb
end

def geSegs (n : Nat) : List Seg → Bool
  | [] => true
  | .one x :: r => match x.ge n with | true => geSegs n r | false => false
  | .vals _ _ :: r => geSegs n r

theorem concSegs_congrG {M M' : Loc} {n : Nat} (h : ∀ i, n ≤ i → M' i = M i) : ∀ l : List Seg, geSegs n l = true → concSegs M' l = concSegs M l
  | [], _ => rfl
  | .one x :: r, hb => by
    simp only [geSegs] at hb
    split at hb
    · rename_i hx; simp only [concSegs, conc_congrG h x hx, concSegs_congrG h r hb]
    · cases hb
  | .vals _ vs :: r, hb => by simp only [geSegs] at hb; simp only [concSegs, concSegs_congrG h r hb]

def Blk.ge (n : Nat) : Blk → Bool
  | .cells _ segs => geSegs n segs
  | .row .. => true
  | .map _ => true
  | .rowA _ _ _ xs => geL n xs

/-- New blocks: numbered from n on, below m, over each other alone. -/
def hGe (n m : Nat) : List (Nat × Blk) → Bool
  | [] => true
  | (i, B) :: r => match Nat.ble n i, Nat.blt i m, B.ge n, B.bel m with | true, true, true, true => hGe n m r | _, _, _, _ => false

theorem hGe_lk {n m : Nat} : ∀ {l : List (Nat × Blk)} {i : Nat} {B : Blk}, hGe n m l = true → lk l i = some B → n ≤ i ∧ i < m ∧ B.ge n = true ∧ B.bel m = true
  | [], i, x, _, h => by cases h
  | (j, y) :: r, i, x, hb, h => by
    simp only [hGe] at hb
    split at hb
    · rename_i h1 h2 h3 h4
      simp only [lk] at h
      split at h
      · rename_i he
        have := Nat.eq_of_beq_eq_true he
        subst this; cases h
        exact ⟨Nat.le_of_ble_eq_true h1, by simpa using h2, h3, h4⟩
      · exact hGe_lk hb h
    · cases hb

theorem lk_append {α : Type} {i : Nat} : ∀ {a b : List (Nat × α)}, lk (a ++ b) i = match lk a i with | some x => some x | none => lk b i
  | [], b => rfl
  | (j, y) :: a, b => by
    simp only [List.cons_append, lk]
    split
    · rfl
    · exact lk_append

theorem BlkAt.congrG {M M' : Loc} {n : Nat} (h : ∀ i, n ≤ i → M' i = M i) {w : World} {id : Nat} (hid : n ≤ id) {B : Blk} (hB : B.ge n = true) (hb : BlkAt M w id B) : BlkAt M' w id B := by
  cases B with
  | cells e segs => exact ⟨by rw [h id hid, concSegs_congrG h segs hB]; exact hb.1, hb.2⟩
  | row e sz n vs =>
    obtain ⟨h1, cur, hc, h2⟩ := hb
    exact ⟨h1, cur, by rw [h id hid]; exact hc, by rw [h id hid]; exact h2⟩
  | map es => obtain ⟨a, ck, hc, h2⟩ := hb; exact ⟨a, ck, by rw [h id hid]; exact hc, h2⟩
  | rowA e sz n xs =>
    obtain ⟨h1, cur, hc, h2⟩ := hb
    exact ⟨h1, cur, by rw [h id hid]; exact hc, by rw [h id hid, concL_congrG h xs hB]; exact h2⟩

/-- What a call hands over: a value over blocks that it has made. -/
structure Handed (z : AV) (h : List (Nat × Blk)) (w : World) (v : Value) (w' : World) : Prop where
  agree : Agree (fun _ => False) w w'
  ex : ∃ M : Loc, conc M z = v ∧ (∀ id B, lk h id = some B → BlkAt M w' id B ∧ w.heap.size ≤ (M id).1) ∧ ∀ id id' B B', lk h id = some B → lk h id' = some B' → (M id).1 = (M id').1 → id = id'

theorem Rel.handed {C : Ctx} (hL : Local C.X) {M : Loc} {fp : Nat → Prop} {σ : St} {a : Act} {w w' : World} {v : Value} {z : AV} {h : List (Nat × Blk)} {m : Nat} (hR : Rel C M fp σ a w) (hh : Handed z h w v w')
    (hbel : σ.bel = true) (hge : hGe σ.nx m h = true) (hz : z.ge σ.nx = true) (hm : σ.nx ≤ m) : ∃ M', conc M' z = v ∧ (∀ i, i < σ.nx → M' i = M i) ∧ Rel C M' fp ⟨σ.t, h ++ σ.h, m⟩ a w' := by
  obtain ⟨hag, Mh, hv, hbl, hin⟩ := hh
  have hR' := hR.agree' hL hag
  unfold St.bel at hbel
  split at hbel <;> first | (cases hbel; done) | skip
  rename_i ht
  let M' : Loc := fun i => if i < σ.nx then M i else Mh i
  have hlo : ∀ i, i < σ.nx → M' i = M i := fun i hi => by simp only [M', if_pos hi]
  have hhi : ∀ i, σ.nx ≤ i → M' i = Mh i := fun i hi => by simp only [M', if_neg (Nat.not_lt.2 hi)]
  have key : ∀ id B, lk (h ++ σ.h) id = some B → (σ.nx ≤ id ∧ lk h id = some B) ∨ (id < σ.nx ∧ lk σ.h id = some B) := by
    intro id B hB
    rw [lk_append] at hB
    split at hB
    · rename_i x hx
      cases hB
      exact .inl ⟨(hGe_lk hge hx).1, hx⟩
    · exact .inr ⟨(lkh_below hbel hB).1, hB⟩
  refine ⟨M', by rw [conc_congrG hhi z hz]; exact hv, hlo, ?_⟩
  have hadr : ∀ id B, lk h id = some B → w.heap.size ≤ (M' id).1 := fun id B hB => by rw [hhi id (hGe_lk hge hB).1]; exact (hbl id B hB).2
  have hadr' : ∀ id B, lk σ.h id = some B → (M' id).1 = (M id).1 ∧ (M id).1 < w.heap.size := fun id B hB => ⟨by rw [hlo id (lkh_below hbel hB).1], (hR.heap id B hB).lt⟩
  refine { heap := ?_, inj := ?_, own := ?_, apart := ?_, agree := hR'.agree, outer := hR'.outer, fpok := hR'.fpok, size := hR'.size, frozen := hR'.frozen, tmps := ?_, defers := hR'.defers }
  · intro id B hB
    rcases key id B hB with ⟨h1, h2⟩ | ⟨h1, h2⟩
    · exact BlkAt.congrG hhi h1 (hGe_lk hge h2).2.2.1 (hbl id B h2).1
    · exact BlkAt.congr hlo h1 (lkh_below hbel h2).2 rfl (hR'.heap id B h2)
  · intro id id' B B' hB hB' e
    rcases key id B hB with ⟨h1, h2⟩ | ⟨h1, h2⟩ <;> rcases key id' B' hB' with ⟨h3, h4⟩ | ⟨h3, h4⟩
    · rw [hhi id h1, hhi id' h3] at e; exact hin _ _ _ _ h2 h4 e
    · have := hadr id B h2; have := hadr' id' B' h4; omega
    · have := hadr id' B' h4; have := hadr' id B h2; omega
    · rw [hlo id h1, hlo id' h3] at e; exact hR.inj _ _ _ _ h2 h4 e
  · intro id B hB hlt
    rcases key id B hB with ⟨h1, h2⟩ | ⟨h1, h2⟩
    · have := hadr id B h2; have := hR.agree.size; omega
    · rw [(hadr' id B h2).1] at hlt ⊢; exact hR.own id B h2 hlt
  · intro id B hB hf
    rcases key id B hB with ⟨h1, h2⟩ | ⟨h1, h2⟩
    · have := hadr id B h2; have := (hR.fpok _ hf).1; omega
    · rw [(hadr' id B h2).1] at hf; exact hR.apart id B h2 hf
  · intro i x hx
    rw [hR.tmps i x hx]
    congr 1
    exact (conc_congr hlo x (lk_below ht hx)).symm

section
variable {C : Ctx} {ops : Array Oper} {i : Nat} {rest : List Nat} {k : List Item} {σ : St} {o : Oper} {c : Call} {g : Operand} {f : FuncId} {caps xs : List AV} {z : AV} {h : List (Nat × Blk)} {m : Nat}

/-- A call that hands over new blocks. -/
theorem Run.callH (hL : Local C.X) (z : AV) (h : List (Nat × Blk)) (m : Nat) (ho : ops[i]? = some o) (hop : o.op = .call c) (hc : c.callee = .value g) (hg : σ.ev g = some (.fn f caps)) (hxs : evs σ c.args.toList = some xs) (hw : wantOf ops σ o = some .yes) (hent : Enters C.P f)
    (hd : dstOK C.n o.dst = true) (hbel : σ.bel = true) (hge : hGe σ.nx m h = true) (hz : z.ge σ.nx = true) (hm : Nat.ble σ.nx m = true)
    (hfn : ∀ M w, (∀ id B, lk σ.h id = some B → BlkAt M w id B) → Agree C.S0 C.w0 w → GivesR C.P f (concL M (xs ++ caps)) w (Handed z h w))
    (hr : Run C (.inRegion ops rest :: k) (St.put ⟨σ.t, h ++ σ.h, m⟩ o.dst z)) : Run C (.inRegion ops (i :: rest) :: k) σ := by
  refine Run.call (σ' := ⟨σ.t, h ++ σ.h, m⟩) (z := z) ho hop hc hg hxs hw hent hd ?_ hr
  intro M fp a w hR
  refine Calls.mono' (hfn M w hR.heap hR.agree) fun e w' ⟨v, h1, h2⟩ => ?_
  obtain ⟨M', hv, _, hR'⟩ := hR.handed hL h2 hbel hge hz (Nat.le_of_ble_eq_true hm)
  exact ⟨v, h1, M', fp, hR', hv⟩

theorem handed_of {M : Loc} {σ : St} {w0 w : World} {x : AV} {ρ : List (Nat × Nat)} (hag : Agree (fun _ => False) w0 w) (hheap : ∀ id B, lk σ.h id = some B → BlkAt M w id B)
    (hinj : ∀ id id' B B', lk σ.h id = some B → lk σ.h id' = some B' → (M id).1 = (M id').1 → id = id') (hown : ∀ id B, lk σ.h id = some B → w0.heap.size ≤ (M id).1)
    (hx : x = ren ρ z) (hh : inHR ρ σ.h h) (ha : apart ρ (keys h) = true) : Handed z h w0 (conc M x) w := by
  refine ⟨hag, fun i => M (ap ρ i), by rw [hx, conc_ren], fun id B hB => ⟨(hheap _ _ (inHR_lk hh _ _ hB)).ren, hown _ _ (inHR_lk hh _ _ hB)⟩, ?_⟩
  intro id id' B B' hB hB' e
  exact apart_spec ha (lk_keys hB) (lk_keys hB') (hinj _ _ _ _ (inHR_lk hh _ _ hB) (inHR_lk hh _ _ hB') e)

/-- The return of what has been made. -/
theorem Run.retH {P : Program} {T : Tab} (hT : tabOK P T) {f : FuncId} {fn : Func} {n : Nat} {w0 : World} {σ : St} {k : List Item} {p : Prop} {l : List AV} (ρ : List (Nat × Nat))
    (hf : P.funcs[f]? = some fn) (hres : resOf T w0 (fun _ => False) σ fn.results.toList = some (p, l)) (hp : p) (hx : resAV l = ren ρ z) (hh : inHR ρ σ.h h) (ha : apart ρ (keys h) = true) :
    Run (fnC P f n w0 (fun _ => False) noX (Handed z h w0)) (.code .ret :: k) σ :=
  Run.ret hT hf hres hp fun M fp a w hR => handed_of hR.agree hR.heap hR.inj (fun id B hB => Nat.le_of_not_lt fun hlt => (hR.own id B hB hlt).elim) hx hh ha

/-- The same behind ranges over functions, in a run that has begun anew. -/
theorem Run.retHB {P : Program} {T : Tab} (hT : tabOK P T) {f : FuncId} {fn : Func} {n : Nat} {w0 w1 : World} {S : Nat → Prop} {X : Res} (hX : Local X) {σ : St} {k : List Item} {p : Prop} {l : List AV} {Ds : List Nat} (ρ : List (Nat × Nat))
    (hB : Based w0 w1 S) (hf : P.funcs[f]? = some fn) (hres : resOf T w1 S σ fn.results.toList = some (p, l)) (hp : p) (hx : resAV l = ren ρ z) (hh : inHR ρ σ.h h) (ha : apart ρ (keys h) = true) :
    Run (fnM P f n w1 S X (Handed z h w0) Ds) (.code .ret :: k) σ :=
  Run.retM hT hX hf hres hp fun M fp a w hR => handed_of (hB.later hR.agree) hR.heap hR.inj
    (fun id B hB' => Nat.le_of_not_lt fun hlt => by
      have h1 := hR.own id B hB' (Nat.lt_of_lt_of_le hlt hB.agree.size)
      have := hB.new _ h1
      omega) hx hh ha

abbrev HandsZ (P : Program) (f : FuncId) (args : List Value) (w : World) (z : AV) (h : List (Nat × Blk)) : Prop := GivesR P f args w (Handed z h w)

theorem HandsZ.of_run {P : Program} {f : FuncId} {fn : Func} {c : Code} {args : List Value} {w : World} (hf : P.funcs[f]? = some fn) (hb : fn.body = some c)
    (hn : args.length ≤ fn.ntmps) (hr : Run (fnC P f fn.ntmps w (fun _ => False) noX (Handed z h w)) [.code c] ⟨argsT 0 args, [], 0⟩) : HandsZ P f args w z h := calls_of_run hf hb hn hr
end
end Go.AM

/-
  The abstract machine, twenty-third part: iterators that hand over blocks which they have made. Own work; over any program.
-/
namespace Go.AM

/-- A value over blocks of a footprint. -/
structure ItemAt (z : AV) (h : List (Nat × Blk)) (w : World) (v : Value) (F : Foot) : Prop where
  ex : ∃ M : Loc, conc M z = v ∧ (∀ id B, lk h id = some B → BlkAt M w id B) ∧ (∀ id id' B B', lk h id = some B → lk h id' = some B' → (M id).1 = (M id').1 → id = id') ∧ ∀ b, F b ↔ ∃ id B, lk h id = some B ∧ (M id).1 = b

/-- What a call of an iterator's argument does, the value handed over lying in blocks that go with it. -/
def YieldsH {α : Type} (P : Program) (y : Value) (J Js : List α → Res) (w1 : World) (fp1 : Foot) (pre : List α) (x : α) (z : AV) (h : List (Nat × Blk)) : Prop :=
  ∀ w fp F v, J pre w fp → ItemAt z h w v F → (∀ b, F b → ¬ fp b) → Grown fp1 w1 (fun b => fp b ∨ F b) w → CallsV P y [v] w fun r w' =>
    ∃ fp', Grown (fun b => fp b ∨ F b) w fp' w' ∧ (r = .bool true ∧ J (pre ++ [x]) w' fp' ∨ r = .bool false ∧ Js (pre ++ [x]) w' fp')

def disj (ρ : List (Nat × Nat)) (l r : List Nat) : Bool := l.all fun i => r.all fun j => !Nat.beq (ap ρ i) j

theorem disj_spec {ρ : List (Nat × Nat)} {l r : List Nat} (h : disj ρ l r = true) {i j : Nat} (hi : i ∈ l) (hj : j ∈ r) : ap ρ i ≠ j := by
  have := List.all_eq_true.1 (List.all_eq_true.1 h i hi) j hj
  intro e
  subst e
  simp at this

theorem Run.yieldH {α : Type} {C : Ctx} {k : List Item} {σ : St} {ops : Array Oper} {i : Nat} {rest : List Nat} {o : Oper} {c : Call} {g : Operand} {y : Value} {u z : AV} {h hrem : List (Nat × Blk)} {J Js : List α → Res} {pre : List α} {x : α} (ρ : List (Nat × Nat))
    (hX : C.X = J pre) (hy : YieldsH C.P y J Js C.w0 C.S0 pre x z h)
    (ho : ops[i]? = some o) (hop : o.op = .call c) (hc : c.callee = .value g) (hg : σ.ev g = some (.v y)) (hxs : evs σ c.args.toList = some [u]) (hu : u = ren ρ z) (hh : inHR ρ σ.h h) (ha : AM.apart ρ (keys h) = true)
    (hrm : inT σ.h hrem) (hdj : disj ρ (keys h) (keys hrem) = true) (hw : wantOf ops σ o = some .yes) (hd : dstOK C.n o.dst = true)
    (ht : Run (C.withX (J (pre ++ [x]))) (.inRegion ops rest :: k) (St.put ⟨σ.t, hrem, σ.nx⟩ o.dst (.tt true)))
    (hf : Run (C.withX (Js (pre ++ [x]))) (.inRegion ops rest :: k) (St.put ⟨σ.t, hrem, σ.nx⟩ o.dst (.tt false))) : Run C (.inRegion ops (i :: rest) :: k) σ := by
  refine Run.callV ho hop hc hg hxs hw fun M fp a w hR => ?_
  have h0 : J pre w fp := by rw [← hX]; exact hR.outer
  let F : Foot := fun b => ∃ id B, lk h id = some B ∧ (M (ap ρ id)).1 = b
  have hlk : ∀ id B, lk h id = some B → lk σ.h (ap ρ id) = some (renB ρ B) := fun id B hB => inHR_lk hh _ _ hB
  have hrl : ∀ id B, lk hrem id = some B → lk σ.h id = some B := fun id B hB => inT_lk hrm _ _ hB
  have hit : ItemAt z h w (conc M u) F := by
    refine ⟨fun i => M (ap ρ i), by rw [hu, conc_ren], fun id B hB => (hR.heap _ _ (hlk _ _ hB)).ren, fun id id' B B' hB hB' e => ?_, fun b => Iff.rfl⟩
    exact apart_spec ha (lk_keys hB) (lk_keys hB') (hR.inj _ _ _ _ (hlk _ _ hB) (hlk _ _ hB') e)
  have hFf : ∀ b, F b → ¬ fp b := by
    rintro b ⟨id, B, hB, rfl⟩
    exact hR.apart _ _ (hlk _ _ hB)
  have hgr : Grown C.S0 C.w0 (fun b => fp b ∨ F b) w := by
    refine ⟨hR.agree, fun b hb => ?_⟩
    rcases hb with hb | ⟨id, B, hB, rfl⟩
    · exact hR.fpok b hb
    · exact ⟨(hR.heap _ _ (hlk _ _ hB)).lt, hR.own _ _ (hlk _ _ hB)⟩
  show CallsV C.P y (concL M [u]) w _
  have e1 : concL M [u] = [conc M u] := by simp [concL]
  rw [e1]
  refine (hy w fp F _ h0 hit hFf hgr).mono fun r w' ⟨fp', hgr', hv⟩ cs => ?_
  have hnF : ∀ id B, lk hrem id = some B → ¬ (fp (M id).1 ∨ F (M id).1) := by
    intro id B hB hf
    rcases hf with hf | ⟨id', B', hB', e⟩
    · exact hR.apart _ _ (hrl _ _ hB) hf
    · exact disj_spec hdj (lk_keys hB') (lk_keys hB) (hR.inj _ _ _ _ (hlk _ _ hB') (hrl _ _ hB) e)
  have hrel : ∀ X : Res, X w' fp' → Rel (C.withX X) M fp' ⟨σ.t, hrem, σ.nx⟩ a w' := by
    intro X hX'
    refine { heap := ?_, inj := fun id id' B B' hB hB' e => hR.inj _ _ _ _ (hrl _ _ hB) (hrl _ _ hB') e, own := fun id B hB => hR.own _ _ (hrl _ _ hB), apart := ?_, agree := ?_, outer := hX', fpok := ?_, size := hR.size, frozen := hR.frozen, tmps := hR.tmps, defers := hR.defers }
    · intro id B hB
      exact (hR.heap _ _ (hrl _ _ hB)).same (hgr'.1.block _ (hR.heap _ _ (hrl _ _ hB)).lt (hnF _ _ hB))
    · intro id B hB hf
      exact hnF _ _ hB ((hgr'.2 _ hf).2 (hR.heap _ _ (hrl _ _ hB)).lt)
    · exact hR.agree.trans hgr'.1 (fun i hi hl => (hgr.2 i hi).2 hl)
    · intro b hb'
      exact ⟨(hgr'.2 b hb').1, fun hl => (hgr.2 b ((hgr'.2 b hb').2 (Nat.lt_of_lt_of_le hl hR.agree.size))).2 hl⟩
  rcases hv with ⟨rfl, hJ⟩ | ⟨rfl, hJ⟩
  · exact ht M fp' _ w' ((hrel _ hJ).put (C := C.withX _) (z := .tt true) (dstOK_lt hd)) cs
  · exact hf M fp' _ w' ((hrel _ hJ).put (C := C.withX _) (z := .tt false) (dstOK_lt hd)) cs

/-- An iterator whose values lie in blocks that go with them. -/
def IterH {α : Type} (P : Program) (f : FuncId) (caps : List Value) (K : Nat → Prop) (w0 : World) (xs : List α) (zf : α → AV) (hf : α → List (Nat × Blk)) : Prop :=
  ∀ (y : Value) (J Js : List α → Res) (w : World) (fp : Foot), (∀ pre, Local (J pre)) → (∀ pre, Local (Js pre)) → (∀ pre x, pre ++ [x] <+: xs → YieldsH P y J Js w fp pre x (zf x) (hf x)) →
    J [] w fp → (∀ b, fp b → b < w.heap.size) → (∀ b, fp b → ¬ K b) → Agree (fun b => ¬ K b) w0 w →
      GivesR P f (y :: caps) w fun _ w' => ∃ fp', Grown fp w fp' w' ∧ (J xs w' fp' ∨ ∃ pre, pre <+: xs ∧ Js pre w' fp')

theorem IterH.of_run {α : Type} {P : Program} {f : FuncId} {fn : Func} {c : Code} {caps : List Value} {K : Nat → Prop} {w0 : World} {xs : List α} {zf : α → AV} {hf' : α → List (Nat × Blk)} (hf : P.funcs[f]? = some fn) (hb : fn.body = some c)
    (hn : (caps.length + 1) ≤ fn.ntmps)
    (h : ∀ (y : Value) (J Js : List α → Res) (w : World) (fp : Foot), (∀ pre, Local (J pre)) → (∀ pre, Local (Js pre)) → (∀ pre x, pre ++ [x] <+: xs → YieldsH P y J Js w fp pre x (zf x) (hf' x)) →
      Agree (fun b => ¬ K b) w0 w → (∀ b, fp b → ¬ K b) → ∀ R : Value → World → Prop, (∀ v w' fp' pre, Grown fp w fp' w' → (pre = xs ∧ J pre w' fp' ∨ pre <+: xs ∧ Js pre w' fp') → R v w') →
        Run (fnC P f fn.ntmps w fp (J []) R) [.code c] ⟨argsT 0 (y :: caps), [], 0⟩) : IterH P f caps K w0 xs zf hf' := by
  intro y J Js w fp hJ hJs hy h0 hfp hK hag
  refine givesX_of_run (S0 := fp) (X := J []) hf hb (by simpa using hn) h0 (fun b hb => ⟨hfp b hb, fun _ => hb⟩) ?_
  refine h y J Js w fp hJ hJs hy hag hK _ fun v w' fp' pre hg hp => ?_
  rcases hp with ⟨rfl, hp⟩ | ⟨h1, h2⟩
  · exact ⟨fp', hg, .inl hp⟩
  · exact ⟨fp', hg, .inr ⟨pre, h1, h2⟩⟩

theorem Run.rangeFnH {α : Type} {C : Ctx} (hL : Local C.X) {k : List Item} {σ : St} {g : Operand} {p : Tmp} {assign body : Code} {f : FuncId} {vs : List Value} {z : AV}
    (hro : C.b.roundOf = none) (hg : σ.ev g = some z) (hz : ∀ M, conc M z = .func (.func f) #[] vs.toArray) (hent : Enters C.P f)
    (lo : Nat) (t : List (Nat × AV)) (htin : inT σ.t t) (hlo : keysLt lo t = true) (hp : Nat.ble lo p = true) (hp2 : Nat.blt p C.n.hi = true)
    {K : Nat → Prop} {xs : List α} {zf : α → AV} {hf : α → List (Nat × Blk)} (hit : IterH C.P f vs K C.w0 xs zf hf) (hK : ∀ b, K b → b < C.w0.heap.size ∧ ¬ C.S0 b)
    (Inv : List α → List (Nat × Blk) → Prop) (Stop : List α → Code → List (Nat × Blk) → Prop) (N m : Nat) (hNm : N ≤ m)
    (htb : tBelow N t = true) (hib : ∀ pre h, Inv pre h → hBelow N h = true) (hfge : ∀ x ∈ xs, hGe N m (hf x) = true) (hzge : ∀ x ∈ xs, (zf x).ge N = true)
    (h0 : List (Nat × Blk)) (hI0 : Inv [] h0) (hin : inT σ.h h0)
    (hround : ∀ D l a0 rc wy fpy pre x h, RoundIn (C.marked D) lo t l wy fpy → pre ++ [x] <+: xs → Inv pre h →
      Run (roundC (C.marked D) lo a0 l rc .ready wy fpy (roundR (C.marked D) t a0 l rc wy fpy (Inv (pre ++ [x])) (Stop (pre ++ [x])))) [.code assign, .beginRound, .code body] ⟨(p, zf x) :: t, hf x ++ h, m⟩)
    (hdone : ∀ D h, Inv xs h → Run (C.marked D) k ⟨t, h, N⟩)
    (hstop : ∀ D pre c h, pre <+: xs → Stop pre c h → Run (C.marked D) (.code c :: k) ⟨t, h, N⟩) :
    Run C (.code (.rangeFunc g #[p] assign body) :: k) σ := by
  intro M fp a w hR cs
  let D := w.heap.size
  let l := w.heap.size + 1
  let rc : Loop := { state := .ready, pending := none, fn := C.b.fn, tmps := a.tmps, params := #[p], assign, body, defers := D }
  let W1 : World := (w.alloc (.deferred (some []))).alloc (.loop rc)
  let y : Value := .func (.yield l) #[] #[]
  have he : (Instr.enterLoop C.b.fn a.tmps #[p] assign body C.b.roundOf).run C.P w = .ok (l, [mark D]) W1 := by rw [hro]; exact run_enterLoop_outer C.b.fn a.tmps #[p] assign body
  have hres : (resolve a.eval (rangeCall g l) 0).run C.P W1 = .ok { target := .fn (.func f) vs.toArray, args := #[y] } W1 := by
    simp [resolve, hR.q.ev hg, hz, Deferred.ofValue, y]
    rfl
  have hinv : (invoke (.fn (.func f) vs.toArray) #[y]).run C.P W1 = .ok (.enter f (y :: vs).toArray) W1 := by
    have : (#[y] ++ vs.toArray : Array Value) = (y :: vs).toArray := by simp
    simp only [invoke, this, hent _ _]
  have s1 := stepR_rangeFunc (P := C.P) (b := C.b) (a := a) (k := k) (cs := cs) (w := w) he hres hinv
  have hws : W1.heap.size = w.heap.size + 2 := by simp only [W1, World.size_alloc]
  have hold : ∀ b, b < w.heap.size → W1.heap[b]? = w.heap[b]? := by
    intro b hb
    rw [heap_alloc_old _ _ b (by rw [World.size_alloc]; omega), heap_alloc_old _ _ b hb]
  have hD : W1.heap[D]? = some (.deferred (some [])) := by
    rw [heap_alloc_old _ _ _ (by rw [World.size_alloc]; omega)]
    exact World.alloc_heap_new _ _
  have hl : W1.heap[l]? = some (.loop rc) := by
    have := World.alloc_heap_new (w.alloc (.deferred (some []))) (.loop rc)
    rw [show (w.alloc (.deferred (some []))).heap.size = l by simp only [World.size_alloc, l]] at this
    exact this
  have hblk : ∀ id B, lk h0 id = some B → lk σ.h id = some B := fun id B hB => inT_lk hin id B hB
  let J : List α → Res := fun pre w fp => ∃ h M fpX, Inv pre h ∧ LoopJ (C.marked D) t a.tmps l rc .ready none h M fpX w fp
  let Js : List α → Res := fun pre w fp => ∃ c h M fpX, Stop pre c h ∧ LoopJ (C.marked D) t a.tmps l rc .done (some c) h M fpX w fp
  have hLm : Local (C.marked D).X := markX_local hL D
  have hJl : ∀ pre, Local (J pre) := fun pre w w' fp ⟨h, M, fpX, h1, h2⟩ _ hs => ⟨h, M, fpX, h1, h2.moved hLm hs⟩
  have hJsl : ∀ pre, Local (Js pre) := fun pre w w' fp ⟨c, h, M, fpX, h1, h2⟩ _ hs => ⟨c, h, M, fpX, h1, h2.moved hLm hs⟩
  let fp1 : Foot := fun b => (fp b ∨ b = D) ∨ b = l ∨ ∃ id B, lk h0 id = some B ∧ (M id).1 = b
  have hfl : ∀ b, fp b → b < w.heap.size := fun b hb => (hR.fpok b hb).1
  have hml : ∀ id B, lk h0 id = some B → (M id).1 < w.heap.size := fun id B hB => (hR.heap _ _ (hblk _ _ hB)).lt
  have hwle : C.w0.heap.size ≤ w.heap.size := hR.agree.size
  have hfp1 : ∀ b, fp1 b → b < W1.heap.size ∧ (b < C.w0.heap.size → C.S0 b) := by
    intro b hb
    rw [hws]
    rcases hb with (hb | rfl) | rfl | ⟨id, B, hB, rfl⟩
    · exact ⟨by have := hfl b hb; omega, (hR.fpok b hb).2⟩
    · exact ⟨by simp only [D]; omega, fun h => by simp only [D] at h; omega⟩
    · exact ⟨by simp only [l]; omega, fun h => by simp only [l] at h; omega⟩
    · exact ⟨by have := hml _ _ hB; omega, hR.own _ _ (hblk _ _ hB)⟩
  have hW1 : Agree C.S0 C.w0 W1 := ⟨hR.agree.os, hR.agree.tape, hR.agree.output, by rw [hws]; omega, fun b hb hs => by rw [hold b (by omega)]; exact hR.agree.block b hb hs⟩
  have hJ0 : J [] W1 fp1 := by
    refine ⟨h0, M, fun b => fp b ∨ b = D, hI0, ?_⟩
    refine { tmps := fun i x hx => hR.tmps i x (inT_lk htin i x hx), heap := ?_, inj := ?_, own := ?_, apart := ?_, outer := ?_, fpok := ?_, rc := hl, lX := ?_, lnew := ?_, foot := fun b => Iff.rfl }
    · exact fun id B hB => (hR.heap _ _ (hblk _ _ hB)).same (hold _ (hml _ _ hB))
    · exact fun id id' B B' hB hB' e => hR.inj _ _ _ _ (hblk _ _ hB) (hblk _ _ hB') e
    · exact fun id B hB => hR.own _ _ (hblk _ _ hB)
    · intro id B hB
      have := hml _ _ hB
      refine ⟨fun hf => ?_, fun e => by simp only [l] at e; omega⟩
      rcases hf with hf | hf
      · exact hR.apart _ _ (hblk _ _ hB) hf
      · simp only [D] at hf; omega
    · exact ⟨fp, hL w W1 fp hR.outer hfl (fun b hb => hold b (hfl b hb)), fun hf => Nat.lt_irrefl _ (hfl _ hf), hD, fun b => Iff.rfl⟩
    · intro b hb
      exact hfp1 b (.inl hb)
    · intro hf
      rcases hf with hf | hf
      · have := hfl _ hf; simp only [l] at this; omega
      · simp only [l, D] at hf; omega
    · show C.w0.heap.size ≤ l
      simp only [l]; omega
  have hys : ∀ pre x, pre ++ [x] <+: xs → YieldsH C.P y J Js W1 fp1 pre x (zf x) (hf x) := by
    intro pre x hpx wy fpy F v hJy hitem hFf hgr
    obtain ⟨h, M', fpX, hinvp, hJ⟩ := hJy
    obtain ⟨Mi, hv, hbi, hji, hFi⟩ := hitem
    have hx := hpx.subset (show x ∈ pre ++ [x] by simp)
    have hge := hfge x hx
    have hzg := hzge x hx
    have hbel := hib _ _ hinvp
    have hag : Agree C.S0 C.w0 wy := hW1.trans hgr.1 (fun i hi hl => (hfp1 i hi).2 hl)
    let fpz : Foot := fun b => fpy b ∨ F b
    have hfy : ∀ b, fpz b → b < C.w0.heap.size → C.S0 b := fun b hb hlt => (hfp1 b ((hgr.2 b hb).2 (by have := hW1.size; omega))).2 hlt
    let M'' : Loc := fun i => if i < N then M' i else Mi i
    have hlow : ∀ i, i < N → M'' i = M' i := fun i hi => by simp only [M'', if_pos hi]
    have hhi : ∀ i, N ≤ i → M'' i = Mi i := fun i hi => by simp only [M'', if_neg (Nat.not_lt.2 hi)]
    have key : ∀ id B, lk (hf x ++ h) id = some B → (N ≤ id ∧ lk (hf x) id = some B) ∨ (id < N ∧ lk h id = some B) := by
      intro id B hB
      rw [lk_append] at hB
      split at hB
      · rename_i u hu
        cases hB
        exact .inl ⟨(hGe_lk hge hu).1, hu⟩
      · exact .inr ⟨(lkh_below hbel hB).1, hB⟩
    have hinF : ∀ id B, lk (hf x) id = some B → F (Mi id).1 := fun id B hB => (hFi _).2 ⟨id, B, hB, rfl⟩
    have hinY : ∀ id B, lk h id = some B → fpy (M' id).1 := fun id B hB => (hJ.foot _).2 (.inr (.inr ⟨id, B, hB, rfl⟩))
    have hrun := run_yield (P := C.P) (args := #[v]) hJ.rc (by simp [rc])
    refine ⟨{ target := .fn (.yield l) #[], args := #[v] }, _, by simp [Deferred.ofValue, y], by simp only [invoke]; exact hrun, ?_⟩
    intro c cs'
    have hpl : p < a.tmps.size := by rw [hR.size]; simpa using hp2
    let a' : Act := { tmps := a.tmps.setIfInBounds p v, defers := [] }
    have htm : (#[p].zip #[v]).foldl (fun tmps (q : Nat × Value) => tmps.setIfInBounds q.1 q.2) a.tmps = a.tmps.setIfInBounds p v := by simp
    have hI : RoundIn (C.marked D) lo t l wy fpz := ⟨hLm, .inl ((hJ.foot l).2 (.inr (.inl rfl))), hag, hfy, hJ.lnew, hlo⟩
    have hrel : Rel (roundC (C.marked D) lo a.tmps l rc .ready wy fpz (roundR (C.marked D) t a.tmps l rc wy fpz (Inv (pre ++ [x])) (Stop (pre ++ [x])))) M'' (fun b => fpX b ∨ b = l) ⟨(p, zf x) :: t, hf x ++ h, m⟩ a' wy := by
      refine { heap := ?_, inj := ?_, own := ?_, apart := ?_, agree := Agree.refl _ _, outer := ⟨fpX, hJ.outer, hJ.lX, hJ.rc, fun b => Iff.rfl⟩, fpok := ?_, size := ?_, frozen := ?_, tmps := ?_, defers := rfl }
      · intro id B hB
        rcases key id B hB with ⟨h1, h2⟩ | ⟨h1, h2⟩
        · exact BlkAt.congrG hhi h1 (hGe_lk hge h2).2.2.1 (hbi id B h2)
        · exact BlkAt.congr hlow h1 (lkh_below hbel h2).2 rfl (hJ.heap id B h2)
      · intro id id' B B' hB hB' e
        rcases key id B hB with ⟨h1, h2⟩ | ⟨h1, h2⟩ <;> rcases key id' B' hB' with ⟨h3, h4⟩ | ⟨h3, h4⟩
        · rw [hhi id h1, hhi id' h3] at e; exact hji _ _ _ _ h2 h4 e
        · rw [hhi id h1, hlow id' h3] at e; exact (hFf _ (hinF _ _ h2) (e ▸ hinY _ _ h4)).elim
        · rw [hlow id h1, hhi id' h3] at e; exact (hFf _ (hinF _ _ h4) (e ▸ hinY _ _ h2)).elim
        · rw [hlow id h1, hlow id' h3] at e; exact hJ.inj _ _ _ _ h2 h4 e
      · intro id B hB _
        rcases key id B hB with ⟨h1, h2⟩ | ⟨h1, h2⟩
        · rw [hhi id h1]; exact .inr (hinF _ _ h2)
        · rw [hlow id h1]; exact .inl (hinY _ _ h2)
      · intro id B hB hf'
        rcases key id B hB with ⟨h1, h2⟩ | ⟨h1, h2⟩
        · rw [hhi id h1] at hf'
          refine hFf _ (hinF _ _ h2) ((hJ.foot _).2 ?_)
          exact hf'.imp (fun h => h) .inl
        · rw [hlow id h1] at hf'
          exact hf'.elim (hJ.apart _ _ h2).1 (hJ.apart _ _ h2).2
      · intro b hb
        have hb' : fpy b := (hJ.foot b).2 (hb.imp id .inl)
        exact ⟨(hgr.2 b (.inl hb')).1, fun _ => .inl hb'⟩
      · show a'.tmps.size = C.n.hi
        simp only [a', Array.size_setIfInBounds]; exact hR.size
      · intro i hi
        show (a.tmps.setIfInBounds p v)[i]? = a.tmps[i]?
        have hi' : i < lo := hi
        have : p ≠ i := fun e => Nat.lt_irrefl i (Nat.lt_of_lt_of_le hi' (e ▸ Nat.le_of_ble_eq_true hp))
        rw [Array.getElem?_setIfInBounds, if_neg this]
      · intro i u hu
        simp only [lk] at hu
        show (a.tmps.setIfInBounds p v)[i]? = _
        split at hu
        · rename_i he
          have e := Nat.eq_of_beq_eq_true he
          subst e; cases hu
          rw [Array.getElem?_setIfInBounds, if_pos rfl, if_pos hpl, conc_congrG hhi _ hzg, hv]
        · rename_i he
          have hne : p ≠ i := fun e => by subst e; simp at he
          rw [Array.getElem?_setIfInBounds, if_neg hne, hJ.tmps i u hu, conc_congr hlow u (lk_below htb hu)]
    obtain ⟨m', s, zz⟩ := hround D l a.tmps rc wy fpz pre x h hI hpx hinvp M'' _ a' wy hrel (c :: cs')
    obtain ⟨r, w', rfl, fp', hg', hv'⟩ := zz c cs' rfl
    refine ⟨r, w', ⟨fp', hg', ?_⟩, ?_⟩
    · rcases hv' with ⟨hv', hh⟩ | ⟨hv', hh⟩
      · obtain ⟨h', M', fpX', e1, e2⟩ := hh; exact .inl ⟨hv', h', M', fpX', e1, e2⟩
      · obtain ⟨c', h', M', fpX', e1, e2⟩ := hh; exact .inr ⟨hv', c', h', M', fpX', e1, e2⟩
    · have hfr : Frame.round l C.b.fn ((#[p].zip #[v]).foldl (fun tmps (q : Nat × Value) => tmps.setIfInBounds q.1 q.2) a.tmps) assign body .normal =
          (roundC (C.marked D) lo a.tmps l rc .ready wy fpz (roundR (C.marked D) t a.tmps l rc wy fpz (Inv (pre ++ [x])) (Stop (pre ++ [x])))).b.atR a' [.code assign, .beginRound, .code body] := by
        rw [htm]; simp [Frame.round, Frame.atR, roundC, Ctx.marked, a']
      exact hfr ▸ s
  have hcall := hit y J Js W1 fp1 hJl hJsl hys hJ0 (fun b hb => (hfp1 b hb).1) (fun b hb hk => (hK b hk).2 ((hfp1 b hb).2 (hK b hk).1))
    ⟨hW1.os, hW1.tape, hW1.output, hW1.size, fun b hb hk => hW1.block b hb (fun hs => by
      have : K b := Classical.byContradiction hk
      exact (hK b this).2 hs)⟩
  obtain ⟨e, w', fr, ⟨v, rfl, fp', hgr, hend⟩, hsteps, _, hleave⟩ := hcall (C.b.atR { a with defers := [mark D] ++ a.defers } (.inRangeFunc l :: k) :: cs)
  have s2 := step_leave_returned (c := C.b.atR { a with defers := [mark D] ++ a.defers } (.inRangeFunc l :: k)) (cs := cs) hleave
  rw [finish_atR_inRangeFunc] at s2
  have hag : Agree C.S0 C.w0 w' := hW1.trans hgr.1 (fun i hi hl => (hfp1 i hi).2 hl)
  have key : ∀ (st : LoopState) (pd : Option Code) (h : List (Nat × Blk)) (M' : Loc) (fpX : Foot), st ≠ .busy → LoopJ (C.marked D) t a.tmps l rc st pd h M' fpX w' fp' →
      Run (C.marked D) ((pd.map Item.code).toList ++ k) ⟨t, h, N⟩ → ∃ m, Steps C.P (lone (C.b.atR a (.code (.rangeFunc g #[p] assign body) :: k)) cs w) m ∧ C.Z cs m := by
    intro st pd h M' fpX hst hJ hr
    obtain ⟨k1, k2, k3⟩ := hJ.record hLm (o := .loop { rc with state := .exhausted, pending := pd })
    have hrel : Rel (C.marked D) M' fpX ⟨t, h, N⟩ { a with defers := [mark D] ++ a.defers } (w'.putObj l (.loop { rc with state := .exhausted, pending := pd })) := by
      refine { heap := k1, inj := hJ.inj, own := hJ.own, apart := fun id B hB => (hJ.apart _ _ hB).1, agree := ?_, outer := k2, fpok := k3, size := hR.size, frozen := hR.frozen, tmps := hJ.tmps, defers := ?_ }
      · refine agree_putObj hag (fun h => ?_)
        have : C.w0.heap.size ≤ l := hJ.lnew
        exact absurd (show l < C.w0.heap.size from h) (by omega)
      · show [mark D] ++ a.defers = mark D :: C.ds
        rw [hR.defers]; rfl
    obtain ⟨m, s, zz⟩ := hr M' fpX _ _ hrel cs
    have s3 := stepR_endRangeFunc (P := C.P) (b := C.b) (a := { a with defers := [mark D] ++ a.defers }) (k := k) (cs := cs) (run_endLoop (P := C.P) hJ.rc hst)
    exact ⟨m, .head s1 (Steps.trans hsteps (.head s2 (.head s3 s))), zz⟩
  rcases hend with ⟨h, M', fpX, hI, hJ⟩ | ⟨pre, hpre, c, h, M', fpX, hS, hJ⟩
  · exact key .ready none h M' fpX (by simp) hJ (hdone D h hI)
  · exact key .done (some c) h M' fpX (by simp) hJ (hstop D pre c h hpre hS)
end Go.AM

/-
  The abstract machine, twenty-fourth part: functions that work on blocks which are handed to them; calls by what follows them. Own work; over any program.
-/
namespace Go.AM

def argsA : Nat → List AV → List (Nat × AV)
  | _, [] => []
  | i, x :: r => (i, x) :: argsA (i + 1) r

theorem argsA_lk : ∀ {l : List AV} {i j : Nat} {x : AV}, lk (argsA i l) j = some x → i ≤ j ∧ l[j - i]? = some x
  | [], i, j, x, h => by cases h
  | y :: r, i, j, x, h => by
    simp only [argsA, lk] at h
    split at h
    · rename_i he
      have e := Nat.eq_of_beq_eq_true he
      subst e; cases h
      exact ⟨Nat.le_refl _, by simp⟩
    · rename_i he
      obtain ⟨h1, h2⟩ := argsA_lk h
      refine ⟨by omega, ?_⟩
      rw [show j - i = (j - (i + 1)) + 1 by omega]; simpa using h2

theorem concL_get {M : Loc} : ∀ {l : List AV} {j : Nat} {x : AV}, l[j]? = some x → (concL M l)[j]? = some (conc M x)
  | y :: r, 0, x, h => by simp at h; subst h; simp [concL]
  | y :: r, j + 1, x, h => by simp at h; simp only [concL, List.getElem?_cons_succ]; exact concL_get h

theorem concL_length {M : Loc} : ∀ (l : List AV), (concL M l).length = l.length
  | [] => by simp [concL]
  | y :: r => by simp [concL, concL_length r]

/-- What a footprint and some blocks take up. -/
def footH (M : Loc) (fp : Foot) (h : List (Nat × Blk)) : Foot := fun b => fp b ∨ ∃ id B, lk h id = some B ∧ (M id).1 = b

/-- A call to which blocks are handed. -/
theorem givesO_of_run {P : Program} {f : FuncId} {fn : Func} {c : Code} {args : List AV} {h : List (Nat × Blk)} {nx : Nat} {M : Loc} {w : World} {X : Res} {fp : Foot} {R : Value → World → Prop} (hf : P.funcs[f]? = some fn) (hb : fn.body = some c)
    (hn : args.length ≤ fn.ntmps) (hX : X w fp) (hfp : ∀ b, fp b → b < w.heap.size)
    (hh : ∀ id B, lk h id = some B → BlkAt M w id B) (hi : ∀ id id' B B', lk h id = some B → lk h id' = some B' → (M id).1 = (M id').1 → id = id') (ha : ∀ id B, lk h id = some B → ¬ fp (M id).1)
    (hr : Run (fnC P f fn.ntmps w (footH M fp h) X R) [.code c] ⟨argsA 0 args, h, nx⟩) : GivesR P f (concL M args) w R := by
  intro cs
  let a : Act := { tmps := (concL M args).toArray ++ Array.replicate (fn.ntmps - (concL M args).length) undef, defers := [] }
  let b : Frame := { (default : Frame) with fn := f, kind := .normal, roundOf := none }
  have henter : Frame.enter P f (concL M args).toArray .normal = b.atR a [.code c] := by
    simp [Frame.enter, Frame.atR, hf, hb, b, a]
  have hR : Rel (fnC P f fn.ntmps w (footH M fp h) X R) M fp ⟨argsA 0 args, h, nx⟩ a w := by
    refine { heap := hh, inj := hi, own := fun id B hB _ => .inr ⟨id, B, hB, rfl⟩, apart := ha, agree := Agree.refl _ _, outer := hX,
             fpok := fun b hb => ⟨hfp b hb, fun _ => .inl hb⟩, size := by simp [a, fnC, concL_length]; omega, frozen := fun i hi => absurd hi (Nat.not_lt_zero _), tmps := ?_, defers := rfl }
    intro i x hx
    obtain ⟨_, h2⟩ := argsA_lk hx
    simp only [Nat.sub_zero] at h2
    have h3 := concL_get (M := M) h2
    have hlt := (List.getElem?_eq_some_iff.1 h3).1
    simp only [a]
    rw [Array.getElem?_append_left (by simpa using hlt)]
    simpa using h3
  obtain ⟨m, s, v, w', fr, rfl, h1, h2, h3⟩ := hr M fp a w hR cs
  rw [henter]
  exact ⟨.returned v, w', fr, ⟨v, rfl, h3⟩, s, h1, h2⟩

/-- A call, by what follows it. -/
theorem Run.callK {C : Ctx} {k : List Item} {σ : St} {ops : Array Oper} {i : Nat} {rest : List Nat} {o : Oper} {c : Call} {g : Operand} {f : FuncId} {caps xs : List AV}
    (ho : ops[i]? = some o) (hop : o.op = .call c) (hc : c.callee = .value g) (hg : σ.ev g = some (.fn f caps)) (hxs : evs σ c.args.toList = some xs) (hw : wantOf ops σ o = some .yes) (hent : Enters C.P f)
    (hd : dstOK C.n o.dst = true)
    (hcon : ∀ M fp a w, Rel C M fp σ a w → GivesR C.P f (concL M (xs ++ caps)) w (fun v w' => ∃ X' M' fp' σ' z, conc M' z = v ∧ Rel (C.withX X') M' fp' σ' a w' ∧ Run (C.withX X') (.inRegion ops rest :: k) (σ'.put o.dst z))) :
    Run C (.inRegion ops (i :: rest) :: k) σ := by
  intro M fp a w hR cs
  have hnd : ∀ c, o.op ≠ .defer c := fun c e => by rw [hop] at e; cases e
  have h2 : c.args.map a.eval = (concL M xs).toArray := by apply Array.ext'; simpa using evs_conc hR.q hxs
  have hr : (execOp a.eval o).run C.P w = .ok (.enter f (concL M (xs ++ caps)).toArray) w := by
    simp only [execOp, hop, resolve, hc, h2, hR.q.ev hg, conc, Deferred.ofValue]
    simp [invoke, hent _ _, concL_append]
  have s1 := step_call (b := C.b) (k := k) (cs := cs) (rest := rest) ho (wantOf_yes hR.q hw) hnd hr
  obtain ⟨e, w', fr, ⟨v, rfl, X', M', fp', σ', z, hz, hR', hrun⟩, hsteps, _, hleave⟩ := hcon M fp a w hR (C.b.atR a (.inRegion ops (i :: rest) :: k) :: cs)
  obtain ⟨m, s, e⟩ := hrun M' fp' _ w' (hR'.put (C := C.withX X') (z := z) (dstOK_lt hd)) cs
  have hfin : (C.b.atR a (.inRegion ops (i :: rest) :: k)).finish v = C.b.atR (a.put o.dst v) (.inRegion ops rest :: k) := by rw [Frame.finish_atR, ho]; rfl
  refine ⟨m, .head s1 (Steps.trans hsteps (.head (step_leave_returned hleave) ?_)), e⟩
  rw [hfin, ← hz]; exact s

theorem YieldsH.rebase {α : Type} {P : Program} {y : Value} {J Js : List α → Res} {w1 w2 : World} {fp1 fp2 : Foot} {pre : List α} {x : α} {z : AV} {h : List (Nat × Blk)} (hy : YieldsH P y J Js w1 fp1 pre x z h) (hg : Grown fp1 w1 fp2 w2) :
    YieldsH P y J Js w2 fp2 pre x z h := fun w fp F v h1 h2 h3 h4 => hy w fp F v h1 h2 h3 (hg.trans h4)

/-- What is handed over, numbered otherwise. -/
theorem Handed.to {z z' : AV} {h h' : List (Nat × Blk)} {w w' : World} {v : Value} (ρ : List (Nat × Nat)) (H : Handed z h w v w') (hz : z = ren ρ z') (hh : inHR ρ h h') (ha : AM.apart ρ (keys h') = true) : Handed z' h' w v w' := by
  obtain ⟨hag, M, hv, hb, hi⟩ := H
  refine ⟨hag, fun i => M (ap ρ i), by rw [← conc_ren, ← hz, hv], fun id B hB => ?_, fun id id' B B' hB hB' e => ?_⟩
  · have := hb _ _ (inHR_lk hh _ _ hB)
    exact ⟨this.1.ren, this.2⟩
  · exact apart_spec ha (lk_keys hB) (lk_keys hB') (hi _ _ _ _ (inHR_lk hh _ _ hB) (inHR_lk hh _ _ hB') e)
theorem HandsZ.to {P : Program} {f : FuncId} {args : List Value} {w : World} {z z' : AV} {h h' : List (Nat × Blk)} (ρ : List (Nat × Nat)) (H : HandsZ P f args w z h) (hz : z = ren ρ z') (hh : inHR ρ h h') (ha : AM.apart ρ (keys h') = true) : HandsZ P f args w z' h' :=
  Calls.mono' H fun _ _ ⟨v, h1, h2⟩ => ⟨v, h1, h2.to ρ hz hh ha⟩

/-- The return of whatever, by what the state says. -/
theorem Run.retS {P : Program} {T : Tab} (hT : tabOK P T) {f : FuncId} {fn : Func} {n : Nat} {w0 : World} {S0 : Nat → Prop} {X : Res} {R : Value → World → Prop} {σ : St} {k : List Item} {p : Prop} {l : List AV}
    (hf : P.funcs[f]? = some fn) (h : resOf T w0 S0 σ fn.results.toList = some (p, l)) (hp : p)
    (hR : ∀ M fp a w, Rel (fnC P f n w0 S0 X R) M fp σ a w → R (conc M (resAV l)) w) : Run (fnC P f n w0 S0 X R) (.code .ret :: k) σ := Run.ret hT hf h hp hR
/-! ### Parameters that stand still -/

/-- A function's surroundings in which the first temporaries are never written. -/
abbrev fnL (P : Program) (f : FuncId) (lo n : Nat) (t0 : Array Value) (w : World) (S0 : Nat → Prop) (X : Res) (R : Value → World → Prop) : Ctx := { fnC P f n w S0 X R with n := ⟨lo, n⟩, t0 := t0 }

theorem givesL_of_run {P : Program} {f : FuncId} {fn : Func} {c : Code} {args : List AV} {h : List (Nat × Blk)} {nx : Nat} {M : Loc} {w : World} {X : Res} {fp : Foot} {R : Value → World → Prop} (hf : P.funcs[f]? = some fn) (hb : fn.body = some c)
    (hn : args.length ≤ fn.ntmps) (hX : X w fp) (hfp : ∀ b, fp b → b < w.heap.size)
    (hh : ∀ id B, lk h id = some B → BlkAt M w id B) (hi : ∀ id id' B B', lk h id = some B → lk h id' = some B' → (M id).1 = (M id').1 → id = id') (ha : ∀ id B, lk h id = some B → ¬ fp (M id).1)
    (hr : Run (fnL P f args.length fn.ntmps (concL M args).toArray w (footH M fp h) X R) [.code c] ⟨argsA 0 args, h, nx⟩) : GivesR P f (concL M args) w R := by
  intro cs
  let a : Act := { tmps := (concL M args).toArray ++ Array.replicate (fn.ntmps - (concL M args).length) undef, defers := [] }
  let b : Frame := { (default : Frame) with fn := f, kind := .normal, roundOf := none }
  have henter : Frame.enter P f (concL M args).toArray .normal = b.atR a [.code c] := by
    simp [Frame.enter, Frame.atR, hf, hb, b, a]
  have hR : Rel (fnL P f args.length fn.ntmps (concL M args).toArray w (footH M fp h) X R) M fp ⟨argsA 0 args, h, nx⟩ a w := by
    refine { heap := hh, inj := hi, own := fun id B hB _ => .inr ⟨id, B, hB, rfl⟩, apart := ha, agree := Agree.refl _ _, outer := hX,
             fpok := fun b hb => ⟨hfp b hb, fun _ => .inl hb⟩, size := by simp [a, concL_length]; omega, frozen := fun i hi => ?_, tmps := ?_, defers := rfl }
    · have hi' : i < args.length := hi
      simp only [a]
      rw [Array.getElem?_append_left (by simpa [concL_length] using hi')]
    · intro i x hx
      obtain ⟨_, h2⟩ := argsA_lk hx
      simp only [Nat.sub_zero] at h2
      have h3 := concL_get (M := M) h2
      have hlt := (List.getElem?_eq_some_iff.1 h3).1
      simp only [a]
      rw [Array.getElem?_append_left (by simpa using hlt)]
      simpa using h3
  obtain ⟨m, s, v, w', fr, rfl, h1, h2, h3⟩ := hr M fp a w hR cs
  rw [henter]
  exact ⟨.returned v, w', fr, ⟨v, rfl, h3⟩, s, h1, h2⟩

theorem Run.retF {P : Program} {T : Tab} (hT : tabOK P T) {f : FuncId} {fn : Func} {lo n : Nat} {t0 : Array Value} {w0 : World} {S0 : Nat → Prop} {X : Res} {R : Value → World → Prop} {σ : St} {k : List Item} {p : Prop} {l : List AV}
    (hf : P.funcs[f]? = some fn) (h : resOf T w0 S0 σ fn.results.toList = some (p, l)) (hp : p)
    (hR : ∀ M fp a w, Rel (fnL P f lo n t0 w0 S0 X R) M fp σ a w → R (conc M (resAV l)) w) : Run (fnL P f lo n t0 w0 S0 X R) (.code .ret :: k) σ := by
  intro M fp a w hr cs
  refine ⟨_, .one (stepR_ret rfl), _, w, _, rfl, rfl, ⟨rfl, hr.defers, rfl, fn, hf, ?_⟩, hR M fp a w hr⟩
  exact results_run hT hr (fn := fn) h hp

/-- Where a parameter that stands still points. -/
theorem Rel.still {C : Ctx} {M : Loc} {fp : Nat → Prop} {σ : St} {a : Act} {w : World} (hR : Rel C M fp σ a w) {i id off b o : Nat} (hi : i < C.n.lo) (h0 : C.t0[i]? = some (.pointer (some ⟨b, o, none⟩))) (ht : lk σ.t i = some (.ptr id off)) : (M id).1 = b := by
  have h1 := hR.frozen i hi
  rw [hR.tmps i _ ht, h0] at h1
  simp only [conc, Option.some.injEq, Value.pointer.injEq, Addr.mk.injEq] at h1
  exact h1.1
end Go.AM

/-
  The abstract machine, twenty-fifth part: structs built in drawn regions, taken first. Own work; over any program.
-/
namespace Go.AM

theorem RunO.build {C : Ctx} {held : List (Nat × Blk)} {n0 : Nat} {ops : Array Oper} {i : Nat} {ord : List (Nat × Bool)} {k : List Item} {σ : St} {o : Oper} {T : Tab} {t : TypeId} {parts : Array (Nat × Operand)} {l : List (Nat × Value)} {p : Prop} {z : AV}
    (hT : tabOK C.P T) (hsel : noSel ops = true) (ho : ops[i]? = some o) (hop : o.op = .build t parts) (hl : plainParts σ parts.toList = some l) (hz : evBuild T t l = some (p, z)) (hw : wantOf ops σ o = some .yes) (hd : dstOK C.n o.dst = true)
    (hp : p) (h : RunO C held n0 ops ord k (σ.put o.dst z)) : RunO C held n0 ops ((i, true) :: ord) k σ := by
  refine RunO.first hsel ho hd (fun M0 M fp a w hM hR => .inl ⟨wantOf_yes hR.q hw, (fun c e => by rw [hop] at e; cases e), fun w' _ => ?_⟩) h
  have hc := plainParts_conc hR.q hl
  have e : (parts.map fun x => (x.1, a.eval x.2)).toList = l := by rw [← hc]; simp
  have := evBuild_run hT (M := M) (parts := parts.map fun x => (x.1, a.eval x.2)) (by rw [e]; exact hz) hp w'
  simp [execOp, hop, this]
end Go.AM

/-
  The abstract machine, thirtieth part: a struct of one function. Own work; over any program.
-/
namespace Go.AM

theorem Run.buildF {C : Ctx} {ops : Array Oper} {i : Nat} {rest : List Nat} {k : List Item} {σ : St} {o : Oper} {T : Tab} {t : TypeId} {n : Nat} {x : Operand} {g : FuncId} {p : Prop} {z : AV}
    (hT : tabOK C.P T) (ho : ops[i]? = some o) (hop : o.op = .build t #[(n, x)]) (hx : σ.ev x = some (.fn g [])) (hz : evBuild T t [(n, .func (.func g) #[] #[])] = some (p, z)) (hw : wantOf ops σ o = some .yes) (hd : dstOK C.n o.dst = true)
    (hp : p) (h : Run C (.inRegion ops rest :: k) (σ.put o.dst z)) : Run C (.inRegion ops (i :: rest) :: k) σ := by
  intro M fp a w hR cs
  obtain ⟨m, s, z'⟩ := h M fp _ w (hR.put (z := z) (dstOK_lt hd)) cs
  refine ⟨m, .head (step_value ho (wantOf_yes hR.q hw) (fun c e => by rw [hop] at e; cases e) ?_) s, z'⟩
  have h1 := hR.q.ev hx
  have h2 : a.eval x = .func (.func g) #[] #[] := by rw [h1]; simp [conc, concL]
  have := evBuild_run hT (M := M) (parts := #[(n, a.eval x)]) (by rw [h2]; exact hz) hp w
  simp [execOp, hop, this]
end Go.AM

/-
  The abstract machine, thirty-first part: a plain function's value read as a function. Own work; over any program.
-/
namespace Go.AM

theorem Run.asFn {C : Ctx} {k : List Item} {σ : St} {g : FuncId} (i : Nat) (hi : lk σ.t i = some (.v (.func (.func g) #[] #[]))) (h : Run C k ⟨(i, .fn g []) :: σ.t, σ.h, σ.nx⟩) : Run C k σ := by
  intro M fp a w hR cs
  refine h M fp a w ⟨hR.toRelH, hR.size, hR.frozen, fun j x hx => ?_, hR.defers⟩ cs
  by_cases e : j = i
  · subst e
    have e1 : Nat.beq j j = true := Nat.beq_refl j
    simp only [lk, e1, Option.some.injEq] at hx
    subst hx
    have := hR.tmps _ _ hi
    simpa [conc, concL] using this
  · have e1 : Nat.beq j i = false := by
      cases h2 : Nat.beq j i with
      | false => rfl
      | true => exact absurd (Nat.eq_of_beq_eq_true h2) e
    simp only [lk, e1] at hx
    exact hR.tmps _ _ hx

/-- One cell of any type of one cell, loaded out of an owned block. -/
theorem Run.loadOne {C : Ctx} {ops : Array Oper} {i : Nat} {rest : List Nat} {k : List Item} {σ : St} {o : Oper} {T : Tab} {t id off s0 n e : Nat} {ti : TI} {segs : List Seg} {vs : List Value} {v : Value} {x : Operand}
    (hT : tabOK C.P T) (ho : ops[i]? = some o) (hop : o.op = .load t x) (hx : σ.ev x = some (.ptr id off)) (hi : lk T t = some ti) (h1 : oneCellTy ti.d = true) (hb : lk σ.h id = some (.cells e segs)) (hs : segAt segs 0 off = some (s0, .vals n vs)) (hv : vs[off - s0]? = some v)
    (hw : wantOf ops σ o = some .yes) (hd : dstOK C.n o.dst = true) (h : Run C (.inRegion ops rest :: k) (σ.put o.dst (.v v))) : Run C (.inRegion ops (i :: rest) :: k) σ := by
  intro M fp a w hR cs
  obtain ⟨m, s, z'⟩ := h M fp _ w (hR.put (z := .v v) (dstOK_lt hd)) cs
  refine ⟨m, .head (step_value ho (wantOf_yes hR.q hw) (fun c e => by rw [hop] at e; cases e) ?_) s, z'⟩
  have hB := hR.heap _ _ hb
  obtain ⟨_, hle, _⟩ := segAt_cell (M := M) hB.2 (Nat.zero_le _) hs
  have h2 := hR.q.ev hx
  simp only [conc] at h2
  have h3 := run_loadVar_one (w := w) hT hi h1 (vals_cells hB hs _ _ hv)
  rw [show s0 + (off - s0) = off by omega] at h3
  simp [execOp, hop, h2, Instr.loadAt, Instr.sureAddr, conc, h3]

/-- Less is known, along an order. -/
theorem RunO.to {C : Ctx} {held : List (Nat × Blk)} {n0 : Nat} {ops : Array Oper} {ord : List (Nat × Bool)} {k : List Item} {σ : St} (t' : List (Nat × AV)) (h' : List (Nat × Blk)) (n' : Nat)
    (h : RunO C held n0 ops ord k ⟨t', h', n'⟩) (ht : inT σ.t t') (hh : inT σ.h h') (hn : n0 ≤ n') : RunO C held n0 ops ord k σ :=
  fun M0 M fp a w hM _ hR hS => h M0 M fp a w hM hn (hR.weaken ⟨inT_lk ht, inT_lk hh⟩) hS
end Go.AM

/-
  Names that rise; kinds of instructions. Own work.
-/
namespace Go.Proofs.YtehimiadpgbhmaaDoor
open Go.AM
set_option maxRecDepth 100000

/-- Is a name behind the one ahead of it, and does it pass the test? -/
def stepB (t : ByteArray → Bool) (xs : List ByteArray) (i : Nat) : Bool := (decide (i = 0) || Op.bytesLess (xs.getD (i - 1) ⟨#[]⟩).toList (xs.getD i ⟨#[]⟩).toList) && t (xs.getD i ⟨#[]⟩)
def risesB (t : ByteArray → Bool) (xs : List ByteArray) : Bool := (List.range xs.length).all (stepB t xs)

set_option maxHeartbeats 1000000 in
theorem rises_ok (g : FuncId) (t : ByteArray → Bool) (he : Enters Tryd.prog g) (ht : ∀ s w, Gives Tryd.prog g [.string s] w (.bool (t s))) (p : Option Addr) (c : Nat) (xs : List ByteArray) (w : World) (hS : SeesS w p xs) (hl : xs.length ≤ maxLen) :
    Gives Tryd.prog 31 [.slice p xs.length c, .func (.func g) #[] #[]] w (.bool (risesB t xs)) := by
  have hml : maxLen = 9223372036854775807 := rfl
  rw [hml] at hl
  refine Gives.of_run Tryd.func31 rfl (by show 2 ≤ 32; decide) ?_
  refine RunF_sound tab_ok noX_local 100 [] _ _ rfl ?_ ?_
  · simp
  suffices H : ∀ (d i : Nat), i + d = xs.length → (∀ j, j < i → stepB t xs j = true) → ∀ σ, inT σ.t [(0, .v (.slice p xs.length c)), (1, .v (.func (.func g) #[] #[])), (7, .v (.slice p xs.length c)), (8, .v (.int .i64 (xs.length : Int))), (9, .v (.int .i64 (i : Int)))] → Run _ _ σ by
    exact H xs.length 0 (by omega) (fun j hj => by omega) _ ⟨rfl, rfl, rfl, rfl, rfl, trivial⟩
  intro d
  induction d with
  | zero =>
    intro i hi hall σ hσ
    refine Run.to ?_ hσ (h' := []) trivial (n' := 0)
    refine RunF_sound tab_ok noX_local 100 [false] _ _ rfl ?_ ?_
    · simp; omega
    refine Run.retP tab_ok Tryd.func31 rfl trivial (fun M => ?_)
    have : risesB t xs = true := List.all_eq_true.2 fun j hj => hall j (by have := List.mem_range.1 hj; omega)
    rw [this]; rfl
  | succ d ih =>
    intro i hi hall σ hσ
    refine Run.to ?_ hσ (h' := []) trivial (n' := 0)
    have hix : i < xs.length := by omega
    obtain ⟨hp, hc⟩ := hS i hix
    have hfalse : stepB t xs i = false → risesB t xs = false := fun h => List.all_eq_false.2 ⟨i, List.mem_range.2 hix, by rw [h]; exact Bool.false_ne_true⟩
    have hgi : xs.getD i ⟨#[]⟩ = xs[i] := by rw [List.getD_eq_getElem?_getD, List.getElem?_eq_getElem hix]; rfl
    have hnx := fun (h : stepB t xs i = true) => ih (i + 1) (by omega) (fun j hj => by
      by_cases e : j = i
      · rw [e]; exact h
      · exact hall j (by omega))
    by_cases h0 : i = 0
    · have hst : stepB t xs i = t xs[i] := by rw [stepB, hgi, decide_eq_true h0, Bool.true_or, Bool.true_and]
      refine RunF_sound tab_ok noX_local 100 [true, false] _ _ rfl ?_ ?_
      · simp [hc]
        exact ⟨hix, ⟨hp, hix⟩, h0⟩
      refine Run.asFn 26 rfl ?_
      refine Run.callFn (r := .bool (t xs[i])) noX_local rfl rfl rfl rfl rfl rfl rfl he rfl (fun w' _ => ?_) ?_
      · simp only [fnC_w0, Int.toNat_natCast, Nat.mul_one, hc]
        exact ht xs[i] w'
      cases htt : t xs[i] with
      | true =>
        refine RunF_sound tab_ok noX_local 100 [false] _ _ rfl ?_ ?_
        · simp
        exact hnx (by rw [hst, htt]) _ ⟨rfl, rfl, rfl, rfl, i64_eq (wrap_succ (by omega)), trivial⟩
      | false =>
        refine RunF_sound tab_ok noX_local 100 [true] _ _ rfl ?_ ?_
        · simp
        refine Run.retP tab_ok Tryd.func31 rfl trivial (fun M => ?_)
        rw [hfalse (by rw [hst, htt])]; rfl
    · have hj : i - 1 < xs.length := by omega
      obtain ⟨_, hc'⟩ := hS (i - 1) hj
      have hgj : xs.getD (i - 1) ⟨#[]⟩ = xs[i - 1] := by rw [List.getD_eq_getElem?_getD, List.getElem?_eq_getElem hj]; rfl
      have hst : stepB t xs i = (Op.bytesLess (xs[i - 1]).toList (xs[i]).toList && t xs[i]) := by
        rw [stepB, hgi, hgj, decide_eq_false h0, Bool.false_or]
      have hwm : IntKind.i64.wrap ((i : Int) - 1) = ((i - 1 : Nat) : Int) := by rw [wrap_i64] <;> omega
      cases hb : Op.bytesLess (xs[i - 1]).toList (xs[i]).toList with
      | false =>
        refine RunF_sound tab_ok noX_local 100 [true, true, true, true] _ _ rfl ?_ ?_
        · simp [hc, hc', hwm, hb]
          exact ⟨hix, ⟨hp, hix⟩, by omega, hp, hj⟩
        refine Run.retP tab_ok Tryd.func31 rfl trivial (fun M => ?_)
        rw [hfalse (by rw [hst, hb]; rfl)]; rfl
      | true =>
        refine RunF_sound tab_ok noX_local 100 [true, true, false] _ _ rfl ?_ ?_
        · simp [hc, hc', hwm, hb]
          exact ⟨hix, ⟨hp, hix⟩, by omega, hp, hj⟩
        refine Run.asFn 26 rfl ?_
        refine Run.callFn (r := .bool (t xs[i])) noX_local rfl rfl rfl rfl rfl rfl rfl he rfl (fun w' _ => ?_) ?_
        · simp only [fnC_w0, Int.toNat_natCast, Nat.mul_one, hc]
          exact ht xs[i] w'
        cases htt : t xs[i] with
        | true =>
          refine RunF_sound tab_ok noX_local 100 [false] _ _ rfl ?_ ?_
          · simp
          exact hnx (by rw [hst, hb, htt]; rfl) _ ⟨rfl, rfl, rfl, rfl, i64_eq (wrap_succ (by omega)), trivial⟩
        | false =>
          refine RunF_sound tab_ok noX_local 100 [true] _ _ rfl ?_ ?_
          · simp
          refine Run.retP tab_ok Tryd.func31 rfl trivial (fun M => ?_)
          rw [hfalse (by rw [hst, hb, htt]; rfl)]; rfl
theorem rises_enters : Enters Tryd.prog 31 := enters_mk Tryd.func31 (by decide) rfl

/-- What a kind of instruction has. -/
structure Kd where
  dst : Bool
  src : Bool
  loc : Bool
  imm : Bool
  evs : Int
def kdV (k : Kd) : List Value := [.bool k.dst, .bool k.src, .bool k.loc, .bool k.imm, .int .i64 k.evs]
def encKd (k : Kd) : Value := .agg (kdV k).toArray
@[simp] theorem kdV_len (k : Kd) : (kdV k).length = 5 := rfl
@[simp] theorem kdV_0 (k : Kd) : (kdV k)[0]? = some (.bool k.dst) := rfl
@[simp] theorem kdV_1 (k : Kd) : (kdV k)[1]? = some (.bool k.src) := rfl
@[simp] theorem kdV_2 (k : Kd) : (kdV k)[2]? = some (.bool k.loc) := rfl
@[simp] theorem kdV_3 (k : Kd) : (kdV k)[3]? = some (.bool k.imm) := rfl
@[simp] theorem kdV_4 (k : Kd) : (kdV k)[4]? = some (.int .i64 k.evs) := rfl
@[simp] theorem boolAt_k0 (k : Kd) : boolAt (kdV k) 0 = k.dst := rfl
@[simp] theorem boolAt_k1 (k : Kd) : boolAt (kdV k) 1 = k.src := rfl
@[simp] theorem boolAt_k2 (k : Kd) : boolAt (kdV k) 2 = k.loc := rfl
@[simp] theorem boolAt_k3 (k : Kd) : boolAt (kdV k) 3 = k.imm := rfl
@[simp] theorem intAt_k4 (k : Kd) : intAt (kdV k) 4 = k.evs := rfl
theorem kdV_one (k : Kd) : (∀ c ∈ kdV k, c.oneCell' = true) ↔ True := iff_true_intro fun c hc => by
  simp only [kdV, List.mem_cons, List.not_mem_nil, or_false] at hc
  rcases hc with rfl | rfl | rfl | rfl | rfl <;> rfl
@[simp] theorem zkd : z68 = kdV ⟨false, false, false, false, 0⟩ := rfl
@[simp] theorem splice_kd (e d : Kd) : splice (kdV e) 0 (kdV d) = kdV d := rfl
end Go.Proofs.YtehimiadpgbhmaaDoor

/-
  Kinds of instructions walked; whether an instruction fits. Own work; the walk of the kinds printed by a program of our own (tools/gen_t4.py).
-/
namespace Go.Proofs.YtehimiadpgbhmaaDoor
open Go.AM
set_option maxRecDepth 100000

theorem szBool : tab.size 4 = some 1 := rfl
theorem szInt : tab.size 3 = some 1 := rfl
def kindK (k : Int) : Kd × Bool :=
  if k = 1 then (⟨true, false, false, true, 0⟩, true) else if k = 2 then (⟨true, true, false, false, 0⟩, true) else if k = 3 then (⟨true, false, true, false, 1⟩, true) else
  if k = 4 then (⟨false, false, true, true, 1⟩, true) else if k = 5 then (⟨false, true, true, false, 1⟩, true) else if k = 6 then (⟨false, false, false, false, 1⟩, true) else
  if k = 7 ∨ k = 9 then (⟨true, false, true, false, 2⟩, true) else if k = 8 then (⟨false, true, true, false, 2⟩, true) else (⟨false, false, false, false, 0⟩, false)
def kindV (k : Int) : Value := .tuple #[encKd (kindK k).1, .bool (kindK k).2]

set_option maxHeartbeats 1000000 in
theorem kind_ok (k : Int) (w : World) : Gives Tryd.prog 36 [.int .i64 k] w (kindV k) := by
  refine Gives.of_run Tryd.func36 rfl (by show 1 ≤ 31; decide) ?_
  by_cases h1 : k = 1
  · subst h1
    have hv : kindV 1 = .tuple #[encKd ⟨true, false, false, true, 0⟩, .bool true] := rfl
    rw [hv]
    refine RunF_sound tab_ok noX_local 200 [true] _ _ rfl ?_ ?_
    · simp [Value.cells, fillL, splice, szBool, kdV, segsVals, Value.oneCell']
      try trivial
    refine Run.to (t' := [(2, .ptr 0 0), (3, .tt true)]) (h' := [(0, .cells 68 [.vals 5 (kdV ⟨true, false, false, true, 0⟩)])]) (n' := 1) ?_ ⟨rfl, rfl, trivial⟩ ⟨rfl, trivial⟩
    refine Run.retL tab_ok Tryd.func36 rfl ?_ (fun M => ?_)
    · simp
    rfl
  by_cases h2 : k = 2
  · subst h2
    have hv : kindV 2 = .tuple #[encKd ⟨true, true, false, false, 0⟩, .bool true] := rfl
    rw [hv]
    refine RunF_sound tab_ok noX_local 200 [false, true] _ _ rfl ?_ ?_
    · simp [Value.cells, fillL, splice, szBool, kdV, segsVals, Value.oneCell']
      try trivial
    refine Run.to (t' := [(2, .ptr 0 0), (3, .tt true)]) (h' := [(0, .cells 68 [.vals 5 (kdV ⟨true, true, false, false, 0⟩)])]) (n' := 1) ?_ ⟨rfl, rfl, trivial⟩ ⟨rfl, trivial⟩
    refine Run.retL tab_ok Tryd.func36 rfl ?_ (fun M => ?_)
    · simp
    rfl
  by_cases h3 : k = 3
  · subst h3
    have hv : kindV 3 = .tuple #[encKd ⟨true, false, true, false, 1⟩, .bool true] := rfl
    rw [hv]
    refine RunF_sound tab_ok noX_local 200 [false, false, true] _ _ rfl ?_ ?_
    · simp [Value.cells, fillL, splice, szBool, kdV, segsVals, Value.oneCell']
      try trivial
    refine Run.to (t' := [(2, .ptr 0 0), (3, .tt true)]) (h' := [(0, .cells 68 [.vals 5 (kdV ⟨true, false, true, false, 1⟩)])]) (n' := 1) ?_ ⟨rfl, rfl, trivial⟩ ⟨rfl, trivial⟩
    refine Run.retL tab_ok Tryd.func36 rfl ?_ (fun M => ?_)
    · simp
    rfl
  by_cases h4 : k = 4
  · subst h4
    have hv : kindV 4 = .tuple #[encKd ⟨false, false, true, true, 1⟩, .bool true] := rfl
    rw [hv]
    refine RunF_sound tab_ok noX_local 200 [false, false, false, true] _ _ rfl ?_ ?_
    · simp [Value.cells, fillL, splice, szBool, kdV, segsVals, Value.oneCell']
      try trivial
    refine Run.to (t' := [(2, .ptr 0 0), (3, .tt true)]) (h' := [(0, .cells 68 [.vals 5 (kdV ⟨false, false, true, true, 1⟩)])]) (n' := 1) ?_ ⟨rfl, rfl, trivial⟩ ⟨rfl, trivial⟩
    refine Run.retL tab_ok Tryd.func36 rfl ?_ (fun M => ?_)
    · simp
    rfl
  by_cases h5 : k = 5
  · subst h5
    have hv : kindV 5 = .tuple #[encKd ⟨false, true, true, false, 1⟩, .bool true] := rfl
    rw [hv]
    refine RunF_sound tab_ok noX_local 200 [false, false, false, false, true] _ _ rfl ?_ ?_
    · simp [Value.cells, fillL, splice, szBool, kdV, segsVals, Value.oneCell']
      try trivial
    refine Run.to (t' := [(2, .ptr 0 0), (3, .tt true)]) (h' := [(0, .cells 68 [.vals 5 (kdV ⟨false, true, true, false, 1⟩)])]) (n' := 1) ?_ ⟨rfl, rfl, trivial⟩ ⟨rfl, trivial⟩
    refine Run.retL tab_ok Tryd.func36 rfl ?_ (fun M => ?_)
    · simp
    rfl
  by_cases h6 : k = 6
  · subst h6
    have hv : kindV 6 = .tuple #[encKd ⟨false, false, false, false, 1⟩, .bool true] := rfl
    rw [hv]
    refine RunF_sound tab_ok noX_local 200 [false, false, false, false, false, true] _ _ rfl ?_ ?_
    · simp [Value.cells, fillL, splice, szBool, kdV, segsVals, Value.oneCell']
      try trivial
    refine Run.to (t' := [(2, .ptr 0 0), (3, .tt true)]) (h' := [(0, .cells 68 [.vals 5 (kdV ⟨false, false, false, false, 1⟩)])]) (n' := 1) ?_ ⟨rfl, rfl, trivial⟩ ⟨rfl, trivial⟩
    refine Run.retL tab_ok Tryd.func36 rfl ?_ (fun M => ?_)
    · simp
    rfl
  by_cases h7 : k = 7
  · subst h7
    have hv : kindV 7 = .tuple #[encKd ⟨true, false, true, false, 2⟩, .bool true] := rfl
    rw [hv]
    refine RunF_sound tab_ok noX_local 200 [false, false, false, false, false, false, true, true] _ _ rfl ?_ ?_
    · simp [Value.cells, fillL, splice, szBool, kdV, segsVals, Value.oneCell']
      try trivial
    refine Run.to (t' := [(2, .ptr 0 0), (3, .tt true)]) (h' := [(0, .cells 68 [.vals 5 (kdV ⟨true, false, true, false, 2⟩)])]) (n' := 1) ?_ ⟨rfl, rfl, trivial⟩ ⟨rfl, trivial⟩
    refine Run.retL tab_ok Tryd.func36 rfl ?_ (fun M => ?_)
    · simp
    rfl
  by_cases h9 : k = 9
  · subst h9
    have hv : kindV 9 = .tuple #[encKd ⟨true, false, true, false, 2⟩, .bool true] := rfl
    rw [hv]
    refine RunF_sound tab_ok noX_local 200 [false, false, false, false, false, false, false, true] _ _ rfl ?_ ?_
    · simp [Value.cells, fillL, splice, szBool, kdV, segsVals, Value.oneCell']
      try trivial
    refine Run.to (t' := [(2, .ptr 0 0), (3, .tt true)]) (h' := [(0, .cells 68 [.vals 5 (kdV ⟨true, false, true, false, 2⟩)])]) (n' := 1) ?_ ⟨rfl, rfl, trivial⟩ ⟨rfl, trivial⟩
    refine Run.retL tab_ok Tryd.func36 rfl ?_ (fun M => ?_)
    · simp
    rfl
  by_cases h8 : k = 8
  · subst h8
    have hv : kindV 8 = .tuple #[encKd ⟨false, true, true, false, 2⟩, .bool true] := rfl
    rw [hv]
    refine RunF_sound tab_ok noX_local 200 [false, false, false, false, false, false, false, false, true] _ _ rfl ?_ ?_
    · simp [Value.cells, fillL, splice, szBool, kdV, segsVals, Value.oneCell']
      try trivial
    refine Run.to (t' := [(2, .ptr 0 0), (3, .tt true)]) (h' := [(0, .cells 68 [.vals 5 (kdV ⟨false, true, true, false, 2⟩)])]) (n' := 1) ?_ ⟨rfl, rfl, trivial⟩ ⟨rfl, trivial⟩
    refine Run.retL tab_ok Tryd.func36 rfl ?_ (fun M => ?_)
    · simp
    rfl
  have hv : kindV k = .tuple #[encKd ⟨false, false, false, false, 0⟩, .bool false] := by simp [kindV, kindK, h1, h2, h3, h4, h5, h6, h7, h9, h8]
  rw [hv]
  refine RunF_sound tab_ok noX_local 200 [false, false, false, false, false, false, false, false, false] _ _ rfl ?_ ?_
  · simp [Value.cells, fillL, szBool, kdV, segsVals, Value.oneCell', h1, h2, h3, h4, h5, h6, h7, h9, h8]
    try trivial
  refine Run.to (t' := [(2, .ptr 0 0), (3, .tt false)]) (h' := [(0, .cells 68 [.vals 5 (kdV ⟨false, false, false, false, 0⟩)])]) (n' := 1) ?_ ⟨rfl, rfl, trivial⟩ ⟨rfl, trivial⟩
  refine Run.retL tab_ok Tryd.func36 rfl ?_ (fun M => ?_)
  · simp
  rfl
theorem kind_enters : Enters Tryd.prog 36 := enters_mk Tryd.func36 (by decide) rfl

/-- A number within its bounds, if it is used; nought if not. -/
def inB (u : Bool) (v n : Int) : Bool := if u = true then decide (v ≥ 0) && decide (v < n) else decide (v = 0)
theorem fits1_ok (u : Bool) (v n : Int) (w : World) : Gives Tryd.prog 51 [.bool u, .int .i64 v, .int .i64 n] w (.bool (inB u v n)) := by
  refine Gives.of_run Tryd.func51 rfl (by show 3 ≤ 17; decide) ?_
  cases u with
  | true =>
    by_cases h : v ≥ 0
    · refine RunF_sound tab_ok noX_local 100 [true, true] _ _ rfl ?_ ?_
      · simp [h]
      refine Run.retP tab_ok Tryd.func51 rfl trivial (fun M => ?_)
      simp [conc, inB, h]
    · refine RunF_sound tab_ok noX_local 100 [true, false] _ _ rfl ?_ ?_
      · simp [h]
      refine Run.retP tab_ok Tryd.func51 rfl trivial (fun M => ?_)
      simp [conc, inB, h]
  | false =>
    refine RunF_sound tab_ok noX_local 100 [false] _ _ rfl ?_ ?_
    · simp
    refine Run.retP tab_ok Tryd.func51 rfl trivial (fun M => ?_)
    simp [conc, inB]
    rfl
theorem fits1_enters : Enters Tryd.prog 51 := enters_mk Tryd.func51 (by decide) rfl

end Go.Proofs.YtehimiadpgbhmaaDoor

/-
  Whether an instruction fits. Own work.
-/
namespace Go.Proofs.YtehimiadpgbhmaaDoor
open Go.AM
set_option maxRecDepth 100000

def fitsB (o : Opn) (regs : List ByteArray) (nl : Nat) : Bool :=
  (kindK o.kind).2 && (inB (kindK o.kind).1.src o.src regs.length && (inB (kindK o.kind).1.loc o.loc nl && (((kindK o.kind).1.imm || decide (o.imm = 0)) &&
    (if o.kind = 8 then decide (o.reg ≥ 0) && (decide (o.reg < regs.length) && ((regs.getD o.reg.toNat ⟨#[]⟩).toList == [69, 65, 88])) else inB (kindK o.kind).1.dst o.reg regs.length))))

set_option maxHeartbeats 2000000 in
theorem fits_ok (o : Opn) (pr : Option Addr) (cr : Nat) (regs : List ByteArray) (pl : Option Addr) (nl cl : Nat) (w : World) (hS : SeesS w pr regs) :
    Gives Tryd.prog 34 [encOp o, .slice pr regs.length cr, .slice pl nl cl] w (.bool (fitsB o regs nl)) := by
  refine Gives.of_run Tryd.func34 rfl (by show 3 ≤ 79; decide) ?_
  have hone := opV_one o
  refine RunF_sound tab_ok noX_local 100 [] _ _ rfl ?_ ?_
  · simp
  refine Run.callFn (r := kindV o.kind) noX_local rfl rfl rfl rfl rfl rfl rfl kind_enters rfl (fun w' _ => kind_ok o.kind w') ?_
  have hfit : fitsB o regs nl = ((kindK o.kind).2 && (inB (kindK o.kind).1.src o.src regs.length && (inB (kindK o.kind).1.loc o.loc nl && (((kindK o.kind).1.imm || decide (o.imm = 0)) &&
    (if o.kind = 8 then decide (o.reg ≥ 0) && (decide (o.reg < regs.length) && ((regs.getD o.reg.toNat ⟨#[]⟩).toList == [69, 65, 88])) else inB (kindK o.kind).1.dst o.reg regs.length))))) := rfl
  generalize hk : fitsB o regs nl = FB at *
  unfold kindV
  generalize kindK o.kind = K at *
  obtain ⟨K, kb⟩ := K
  have hkd := kdV_one K
  cases kb with
  | false =>
    refine RunF_sound tab_ok noX_local 200 [true, true, true, true] _ _ rfl ?_ ?_
    · simp [hkd, segsVals]
    refine Run.retP tab_ok Tryd.func34 rfl trivial (fun M => ?_)
    rw [hfit]; rfl
  | true =>
  simp only [Bool.true_and] at hfit
  refine RunF_sound tab_ok noX_local 200 [false] _ _ rfl ?_ ?_
  · simp [hkd, segsVals]
  refine Run.callFn (r := .bool (inB K.src o.src regs.length)) noX_local rfl rfl rfl rfl rfl rfl rfl fits1_enters rfl (fun w' _ => fits1_ok K.src o.src regs.length w') ?_
  cases h1 : inB K.src o.src regs.length with
  | false =>
    rw [h1, Bool.false_and] at hfit
    refine RunF_sound tab_ok noX_local 200 [true, true, true, true] _ _ rfl ?_ ?_
    · simp
    refine Run.retP tab_ok Tryd.func34 rfl trivial (fun M => ?_)
    rw [hfit]; rfl
  | true =>
  rw [h1, Bool.true_and] at hfit
  refine RunF_sound tab_ok noX_local 200 [false] _ _ rfl ?_ ?_
  · simp
  refine Run.callFn (r := .bool (inB K.loc o.loc nl)) noX_local rfl rfl rfl rfl rfl rfl rfl fits1_enters rfl (fun w' _ => fits1_ok K.loc o.loc nl w') ?_
  cases h2 : inB K.loc o.loc nl with
  | false =>
    rw [h2, Bool.false_and] at hfit
    refine RunF_sound tab_ok noX_local 200 [true, true, true, true] _ _ rfl ?_ ?_
    · simp
    refine Run.retP tab_ok Tryd.func34 rfl trivial (fun M => ?_)
    rw [hfit]; rfl
  | true =>
  rw [h2, Bool.true_and] at hfit
  suffices H : ∀ σ, inT σ.t [(1, .v (.slice pr regs.length cr)), (2, .v (.slice pl nl cl)), (3, .ptr 0 0), (7, .ptr 1 0), (9, .fn 51 []), (52, .v (.bool (o.kind == 8)))] → inT σ.h [(0, .cells 60 [.vals 5 (opV o)]), (1, .cells 68 [.vals 5 (kdV K)])] →
      FB = (if o.kind = 8 then decide (o.reg ≥ 0) && (decide (o.reg < regs.length) && ((regs.getD o.reg.toNat ⟨#[]⟩).toList == [69, 65, 88])) else inB K.dst o.reg regs.length) → Run _ _ σ by
    cases h3 : K.imm with
    | true =>
      rw [h3, Bool.true_or, Bool.true_and] at hfit
      refine RunF_sound tab_ok noX_local 200 [false, false] _ _ rfl ?_ ?_
      · simp [h3]
      exact H _ ⟨rfl, rfl, rfl, rfl, rfl, rfl, trivial⟩ ⟨rfl, rfl, trivial⟩ hfit
    | false =>
      by_cases h4 : o.imm = 0
      · rw [h3, decide_eq_true h4, Bool.or_true, Bool.true_and] at hfit
        refine RunF_sound tab_ok noX_local 200 [false, true, false] _ _ rfl ?_ ?_
        · simp [h3, h4]
        exact H _ ⟨rfl, rfl, rfl, rfl, rfl, rfl, trivial⟩ ⟨rfl, rfl, trivial⟩ hfit
      · rw [h3, decide_eq_false h4, Bool.or_false, Bool.false_and] at hfit
        refine RunF_sound tab_ok noX_local 200 [false, true, true] _ _ rfl ?_ ?_
        · simp [h3, h4]
        refine Run.retP tab_ok Tryd.func34 rfl trivial (fun M => ?_)
        rw [hfit]; rfl
  clear hfit
  intro σ ht hh hfit
  refine Run.to ?_ ht hh (n' := 2)
  by_cases h5 : o.kind = 8
  · rw [if_pos h5] at hfit
    by_cases h6 : o.reg ≥ 0
    · by_cases h7 : o.reg < regs.length
      · have hi : o.reg.toNat < regs.length := by omega
        obtain ⟨hp, hc⟩ := hS o.reg.toNat hi
        rw [List.getD_eq_getElem?_getD, List.getElem?_eq_getElem hi, Option.getD_some, decide_eq_true h6, decide_eq_true h7, Bool.true_and, Bool.true_and] at hfit
        refine RunF_sound tab_ok noX_local 200 [true, true, true] _ _ rfl ?_ ?_
        · simp [h5, h6, h7]
          exact ⟨hp, by rw [hc]⟩
        refine Run.retP tab_ok Tryd.func34 rfl trivial (fun M => ?_)
        rw [hfit]
        simp [conc, hc]
      · rw [decide_eq_false h7, Bool.false_and, Bool.and_false] at hfit
        refine RunF_sound tab_ok noX_local 200 [true, true, false] _ _ rfl ?_ ?_
        · simp [h5, h6, h7]
        refine Run.retP tab_ok Tryd.func34 rfl trivial (fun M => ?_)
        rw [hfit]; rfl
    · rw [decide_eq_false h6, Bool.false_and] at hfit
      refine RunF_sound tab_ok noX_local 200 [true, false] _ _ rfl ?_ ?_
      · simp [h5, h6]
      refine Run.retP tab_ok Tryd.func34 rfl trivial (fun M => ?_)
      rw [hfit]; rfl
  · rw [if_neg h5] at hfit
    refine RunF_sound tab_ok noX_local 200 [false] _ _ rfl ?_ ?_
    · simp [h5]
    refine Run.callFn (r := .bool (inB K.dst o.reg regs.length)) noX_local rfl rfl rfl rfl rfl rfl rfl fits1_enters rfl (fun w' _ => fits1_ok K.dst o.reg regs.length w') ?_
    refine RunF_sound tab_ok noX_local 200 [] _ _ rfl ?_ ?_
    · simp
    refine Run.retP tab_ok Tryd.func34 rfl trivial (fun M => ?_)
    rw [hfit]; rfl
theorem fits_enters : Enters Tryd.prog 34 := enters_mk Tryd.func34 (by decide) rfl
end Go.Proofs.YtehimiadpgbhmaaDoor

/-
  How many events and how many tries a program has, walked. Own work.
-/
namespace Go.Proofs.YtehimiadpgbhmaaDoor
open Go.AM
set_option maxRecDepth 100000

theorem sumN_app (g : Opn → Nat) (o : Opn) : ∀ l : List Opn, sumN g (l ++ [o]) = sumN g l + g o
  | [] => by simp [sumN]
  | a :: l => by simp only [List.cons_append, sumN, sumN_app g o l]; omega
theorem sumN_take (g : Opn → Nat) (l : List Opn) {j : Nat} (h : j < l.length) : sumN g (l.take (j + 1)) = sumN g (l.take j) + g l[j] := by
  rw [List.take_succ_eq_append_getElem h, sumN_app]
theorem allN_app (g : Opn → Nat) (o : List Opn) : ∀ l : List (List Opn), allN g (l ++ [o]) = allN g l + sumN g o
  | [] => by simp [allN]
  | a :: l => by simp only [List.cons_append, allN, allN_app g o l]; omega
theorem allN_take (g : Opn → Nat) (l : List (List Opn)) {j : Nat} (h : j < l.length) : allN g (l.take (j + 1)) = allN g (l.take j) + sumN g l[j] := by
  rw [List.take_succ_eq_append_getElem h, allN_app]
theorem sumN_le {g : Opn → Nat} (hg : ∀ o, g o ≤ 2) : ∀ l : List Opn, sumN g l ≤ 2 * l.length
  | [] => by simp [sumN]
  | a :: l => by have := sumN_le hg l; have := hg a; simp only [sumN, List.length_cons]; omega
theorem allN_le {g : Opn → Nat} (hg : ∀ o, g o ≤ 2) {m : Nat} : ∀ l : List (List Opn), (∀ x ∈ l, x.length ≤ m) → allN g l ≤ 2 * m * l.length
  | [], _ => by simp [allN]
  | a :: l, h => by
    have h1 := allN_le hg l (fun x hx => h x (List.mem_cons_of_mem _ hx))
    have h2 := sumN_le hg a
    have h3 := h a List.mem_cons_self
    simp only [allN, List.length_cons, Nat.mul_add, Nat.mul_one]; omega
theorem evN_le (o : Opn) : evN o ≤ 2 := by unfold evN; split; · omega
                                           split <;> omega
theorem tryN_le (o : Opn) : tryN o ≤ 2 := by unfold tryN; split <;> omega
theorem kind_evs (o : Opn) : (kindK o.kind).1.evs = (evN o : Int) := by
  unfold kindK evN
  by_cases h1 : o.kind = 1
  · simp [h1]
  by_cases h2 : o.kind = 2
  · simp [h2]
  by_cases h3 : o.kind = 3
  · simp [h3]
  by_cases h4 : o.kind = 4
  · simp [h4]
  by_cases h5 : o.kind = 5
  · simp [h5]
  by_cases h6 : o.kind = 6
  · simp [h6]
  by_cases h7 : o.kind = 7
  · simp [h7]
  by_cases h9 : o.kind = 9
  · simp [h9]
  by_cases h8 : o.kind = 8
  · simp [h8]
  simp [*]

/-- How many events a program has, if nothing fails. -/
def evsP (p : Pn) : Nat := p.locs.length + allN evN p.th

set_option maxHeartbeats 2000000 in
theorem events_ok (p : Pn) (w : World) (hP : SeesP w p) (h4 : p.th.length ≤ 4) (h16 : p.locs.length ≤ 16) : Gives Tryd.prog 16 [encP p] w (.int .i64 (evsP p)) := by
  refine Gives.of_run Tryd.func16 rfl (by show 1 ≤ 39; decide) ?_
  have hone := pV_one p
  have hall : ∀ i, allN evN (p.th.take i) ≤ 70368744177664 := fun i => by
    have h1 := allN_le evN_le (m := 8796093022208) (p.th.take i) (fun x hx => hP.lt2 x (List.mem_of_mem_take hx))
    have h2 : (p.th.take i).length ≤ 4 := by rw [List.length_take]; omega
    have h3 := Nat.mul_le_mul_left (2 * 8796093022208) h2
    omega
  refine RunF_sound tab_ok noX_local 100 [] _ _ rfl ?_ ?_
  · simp
  suffices H : ∀ (d i : Nat), i + d = p.th.length → ∀ σ, inT σ.t [(3, .v (.int .i64 ((p.locs.length + allN evN (p.th.take i) : Nat) : Int))), (14, .v (.slice p.pt p.th.length p.ct)), (15, .v (.int .i64 (p.th.length : Int))), (16, .v (.int .i64 (i : Int)))] → Run _ _ σ by
    exact H p.th.length 0 (by omega) _ ⟨rfl, rfl, rfl, rfl, trivial⟩
  intro d
  induction d with
  | zero =>
    intro i hi σ ht
    refine Run.to ?_ ht (h' := []) trivial (n' := 0)
    refine RunF_sound tab_ok noX_local 100 [false] _ _ rfl ?_ ?_
    · simp; omega
    refine Run.retP tab_ok Tryd.func16 rfl trivial (fun M => ?_)
    rw [List.take_of_length_le (by omega)]; rfl
  | succ d ih =>
    intro i hi σ ht
    refine Run.to ?_ ht (h' := []) trivial (n' := 0)
    have hix : i < p.th.length := by omega
    obtain ⟨hpt, q, c, hc, hq⟩ := hP.th i hix
    have hll := hP.lt2 p.th[i] (List.getElem_mem hix)
    have hal := hall (i + 1)
    have htk := allN_take evN p.th hix
    have hnx := ih (i + 1) (by omega)
    rw [htk] at hnx hal
    generalize p.th[i] = l at *
    refine RunF_sound tab_ok noX_local 100 [true] _ _ rfl ?_ ?_
    · simp
      exact ⟨hix, ⟨hpt, hix⟩, by rw [hc]; rfl⟩
    refine Run.toC (t' := [(3, .v (.int .i64 ((p.locs.length + allN evN (p.th.take i) : Nat) : Int))), (14, .v (.slice p.pt p.th.length p.ct)), (15, .v (.int .i64 (p.th.length : Int))), (16, .v (.int .i64 (i : Int))), (20, .v (.slice q l.length c)), (21, .v (.int .i64 (l.length : Int))), (22, .v (.int .i64 (0 : Int)))]) (h' := []) (n' := 0) ?_ ⟨inTC_same rfl, inTC_same rfl, inTC_same rfl, inTC_same rfl, ⟨_, rfl, fun M => ?_⟩, ⟨_, rfl, fun M => ?_⟩, inTC_same rfl, trivial⟩ trivial
    rotate_left
    · simp only [conc, fnC_w0, Int.toNat_natCast, Nat.mul_one, hc]; rfl
    · simp only [conc, fnC_w0, Int.toNat_natCast, Nat.mul_one, hc]; rfl
    suffices H2 : ∀ (m j : Nat), j + m = l.length → ∀ σ, inT σ.t [(3, .v (.int .i64 ((p.locs.length + (allN evN (p.th.take i) + sumN evN (l.take j)) : Nat) : Int))), (14, .v (.slice p.pt p.th.length p.ct)), (15, .v (.int .i64 (p.th.length : Int))), (16, .v (.int .i64 (i : Int))), (20, .v (.slice q l.length c)), (21, .v (.int .i64 (l.length : Int))), (22, .v (.int .i64 (j : Int)))] → Run _ _ σ by
      exact H2 l.length 0 (by omega) _ ⟨rfl, rfl, rfl, rfl, rfl, rfl, rfl, trivial⟩
    clear ih
    intro m
    induction m with
    | zero =>
      intro j hj σ ht
      refine Run.to ?_ ht (h' := []) trivial (n' := 0)
      refine RunF_sound tab_ok noX_local 100 [false] _ _ rfl ?_ ?_
      · simp; omega
      refine hnx _ ⟨?_, rfl, rfl, i64_eq (wrap_succ (by omega)), trivial⟩
      rw [List.take_of_length_le (show l.length ≤ j by omega)]; rfl
    | succ m ihm =>
      intro j hj σ ht
      refine Run.to ?_ ht (h' := []) trivial (n' := 0)
      have hjl : j < l.length := by omega
      have hsl : sumN evN (l.take (j + 1)) ≤ sumN evN l := by
        have h1 : ∀ (a b : List Opn), sumN evN (a ++ b) = sumN evN a + sumN evN b := fun a b => by
          induction a with
          | nil => simp [sumN]
          | cons x a ih => simp only [List.cons_append, sumN, ih]; omega
        have h2 := h1 (l.take (j + 1)) (l.drop (j + 1))
        rw [List.take_append_drop] at h2
        omega
      have hst := sumN_take evN l hjl
      have hnxm := ihm (j + 1) (by omega)
      rw [hst] at hnxm hsl
      have hke := kind_evs l[j]
      have hqp := (hq j hjl).1
      have hqe := hq.ext j hjl
      have hqs := hq.some j hjl
      have ho1 := opV_one l[j]
      generalize l[j] = o at *
      refine RunF_sound tab_ok noX_local 100 [true] _ _ rfl ?_ ?_
      · simp [hqe, ho1, segsVals]
        exact ⟨hjl, ⟨hqp, hjl⟩, hqs⟩
      refine Run.callFn (r := kindV o.kind) noX_local rfl rfl rfl rfl rfl rfl rfl kind_enters rfl (fun w' _ => ?_) ?_
      · simp only [fnC_w0, Int.toNat_natCast, hqe]
        exact kind_ok o.kind w'
      unfold kindV
      generalize kindK o.kind = K at *
      obtain ⟨K, kb⟩ := K
      have hkd := kdV_one K
      have hke : K.evs = (evN o : Int) := hke
      have hev2 := evN_le o
      refine RunF_sound tab_ok noX_local 100 [] _ _ rfl ?_ ?_
      · simp [hkd, segsVals]
      refine hnxm _ ⟨i64_eq ?_, rfl, rfl, rfl, rfl, rfl, i64_eq (wrap_succ (by omega)), trivial⟩
      have e0 : intAt (kdV (K, kb).fst).toArray.toList (0 + 4 - 0) = (evN o : Int) := hke
      have h3 : sumN evN (l.take j) ≤ sumN evN l := by omega
      rw [e0, wrap_i64 (by omega) (by omega)]
      omega
theorem events_enters : Enters Tryd.prog 16 := enters_mk Tryd.func16 (by decide) rfl

/-- What the registers' names must be. -/
def regsB (p : Pn) (i : Nat) : Bool := decide (p.ri.getD i 0 = (p.regs.getD i []).length) && risesB regB (p.regs.getD i [])
def fitsL (p : Pn) (i : Nat) : Bool := (p.th.getD i []).all fun o => fitsB o (p.regs.getD i []) p.locs.length
/-- Whether a program is right: 0, or what is wrong with it. -/
def validN (p : Pn) : Int :=
  if p.th.length = 0 ∨ p.th.length > 4 then 95
  else if p.regs.length ≠ p.th.length ∨ p.ri.length ≠ p.th.length then 92
  else if (List.range p.regs.length).all (regsB p) = false then 92
  else if p.regs.all (fun l => decide (l.length ≤ 8)) = false then 98
  else if p.li ≠ p.locs.length ∨ risesB nameB p.locs = false then 52
  else if p.locs.length > 16 then 97
  else if (List.range p.th.length).all (fitsL p) = false then 93
  else if evsP p > 64 then 96
  else 0
end Go.Proofs.YtehimiadpgbhmaaDoor

/-
  Whether a program is right, walked. Own work.
-/
namespace Go.Proofs.YtehimiadpgbhmaaDoor
open Go.AM
set_option maxRecDepth 100000

set_option maxHeartbeats 8000000 in
theorem valid_ok (p : Pn) (w : World) (hP : SeesP w p) : Gives Tryd.prog 14 [encP p] w (.int .i64 (validN p)) := by
  refine Gives.of_run Tryd.func14 rfl (by show 1 ≤ 117; decide) ?_
  have hone := pV_one p
  have hml : maxLen = 9223372036854775807 := rfl
  have hlt := hP.lt
  have hlr := hP.lr
  have hll := hP.ll
  have hli := hP.li
  rw [hml] at hlt hlr hll hli
  obtain ⟨V, hV⟩ : ∃ V, V = validN p := ⟨_, rfl⟩
  rw [← hV]
  unfold validN at hV
  by_cases c0 : p.th.length = 0
  · refine RunF_sound tab_ok noX_local 200 [true, true] _ _ rfl ?_ ?_
    · simp [c0]
    rw [if_pos (.inl c0)] at hV
    refine Run.retP tab_ok Tryd.func14 rfl trivial (fun M => by rw [hV]; rfl)
  by_cases c1 : p.th.length > 4
  · refine RunF_sound tab_ok noX_local 200 [false, true] _ _ rfl ?_ ?_
    · simp [c0]; omega
    rw [if_pos (.inr c1)] at hV
    refine Run.retP tab_ok Tryd.func14 rfl trivial (fun M => by rw [hV]; rfl)
  rw [if_neg (by omega)] at hV
  by_cases c2 : p.regs.length = p.th.length
  rotate_left
  · refine RunF_sound tab_ok noX_local 200 [false, false, true, true] _ _ rfl ?_ ?_
    · simp [c0]; omega
    rw [if_pos (.inl c2)] at hV
    refine Run.retP tab_ok Tryd.func14 rfl trivial (fun M => by rw [hV]; rfl)
  by_cases c3 : p.ri.length = p.th.length
  rotate_left
  · refine RunF_sound tab_ok noX_local 200 [false, false, false, true] _ _ rfl ?_ ?_
    · simp [c0, c2]; omega
    rw [if_pos (.inr c3)] at hV
    refine Run.retP tab_ok Tryd.func14 rfl trivial (fun M => by rw [hV]; rfl)
  rw [if_neg (by omega)] at hV
  refine RunF_sound tab_ok noX_local 200 [false, false, false, false] _ _ rfl ?_ ?_
  · simp [c0, c2, c3]; omega
  suffices H : ∀ (d i : Nat), i + d = p.regs.length → (∀ j, j < i → regsB p j = true) → ∀ σ, inT σ.t [(1, .ptr 0 0), (38, .v (.slice p.pr p.regs.length p.cr)), (39, .v (.int .i64 (p.regs.length : Int))), (40, .v (.int .i64 (i : Int)))] → inT σ.h [(0, .cells 39 [.vals 5 (pV p)])] → Run _ _ σ by
    exact H p.regs.length 0 (by omega) (fun j hj => by omega) _ ⟨rfl, rfl, rfl, rfl, trivial⟩ ⟨rfl, trivial⟩
  intro d
  induction d with
  | succ d ih =>
    intro i hi hok σ ht hh
    refine Run.to ?_ ht hh (n' := 1)
    have hir : i < p.regs.length := by omega
    have hii : i < p.ri.length := by omega
    obtain ⟨hpr, q, c, hc, hq⟩ := hP.regs i hir
    obtain ⟨hpi, qi, ci, hci⟩ := hP.ri i hii
    have hlq := hP.lr2 p.regs[i] (List.getElem_mem hir)
    have hln := hP.li2 p.ri[i] (List.getElem_mem hii)
    rw [hml] at hlq hln
    have hrb : regsB p i = (decide (p.ri[i] = p.regs[i].length) && risesB regB p.regs[i]) := by
      rw [regsB, List.getD_eq_getElem?_getD, List.getD_eq_getElem?_getD, List.getElem?_eq_getElem hir, List.getElem?_eq_getElem hii]; rfl
    have hbad : regsB p i = false → V = 92 := fun h => by
      rw [hV, if_pos (List.all_eq_false.2 ⟨i, List.mem_range.2 hir, by rw [h]; exact Bool.false_ne_true⟩)]
    have hnx := fun (h : regsB p i = true) => ih (i + 1) (by omega) (fun j hj => by
      by_cases e : j = i
      · rw [e]; exact h
      · exact hok j (by omega))
    generalize p.regs[i] = rs at *
    generalize p.ri[i] = ni at *
    clear ih
    by_cases e1 : ni = rs.length
    · refine RunF_sound tab_ok noX_local 200 [true, false] _ _ rfl ?_ ?_
      · simp [hc, hci]
        exact ⟨hir, ⟨hpr, hir⟩, ⟨hpi, hii⟩, by omega⟩
      refine Run.callM (r := .bool (risesB regB rs)) noX_local rfl rfl rfl rfl rfl rfl rises_enters rfl (fun M w' _ hA => ?_) ?_
      · simp only [fnC_w0, Int.toNat_natCast, Nat.mul_one, hc]
        exact rises_ok 32 regB register_enters register_ok q c rs w' (hq.agree hA (fun _ _ f => f)) (by rw [hml]; exact hlq)
      cases hb : risesB regB rs with
      | true =>
        refine RunF_sound tab_ok noX_local 200 [false] _ _ rfl ?_ ?_
        · simp
        exact hnx (by rw [hrb, hb, decide_eq_true e1]; rfl) _ ⟨rfl, rfl, rfl, i64_eq (wrap_succ (by omega)), trivial⟩ ⟨rfl, trivial⟩
      | false =>
        refine RunF_sound tab_ok noX_local 200 [true] _ _ rfl ?_ ?_
        · simp
        rw [hbad (by rw [hrb, hb, Bool.and_false])]
        exact Run.retP tab_ok Tryd.func14 rfl trivial (fun M => rfl)
    · refine RunF_sound tab_ok noX_local 200 [true, true, true] _ _ rfl ?_ ?_
      · simp [hc, hci]
        exact ⟨hir, ⟨hpr, hir⟩, ⟨hpi, hii⟩, by omega⟩
      rw [hbad (by rw [hrb, decide_eq_false e1, Bool.false_and])]
      exact Run.retP tab_ok Tryd.func14 rfl trivial (fun M => rfl)
  | zero =>
  intro i hi hok σ ht hh
  refine Run.to ?_ ht hh (n' := 1)
  rw [if_neg (by rw [Bool.not_eq_false]; exact List.all_eq_true.2 fun j hj => hok j (by have := List.mem_range.1 hj; omega))] at hV
  refine RunF_sound tab_ok noX_local 200 [false] _ _ rfl ?_ ?_
  · simp; omega
  clear hok hi ht hh
  suffices H : ∀ (d i : Nat), i + d = p.regs.length → (∀ l ∈ p.regs.take i, l.length ≤ 8) → ∀ σ, inT σ.t [(1, .ptr 0 0), (61, .v (.slice p.pr p.regs.length p.cr)), (62, .v (.int .i64 (p.regs.length : Int))), (63, .v (.int .i64 (i : Int)))] → inT σ.h [(0, .cells 39 [.vals 5 (pV p)])] → Run _ _ σ by
    exact H p.regs.length 0 (by omega) (fun l hl => by cases hl) _ ⟨rfl, rfl, rfl, rfl, trivial⟩ ⟨rfl, trivial⟩
  intro d
  induction d with
  | succ d ih =>
    intro i hi hok σ ht hh
    refine Run.to ?_ ht hh (n' := 1)
    have hir : i < p.regs.length := by omega
    obtain ⟨hpr, q, c, hc, hq⟩ := hP.regs i hir
    have hlq := hP.lr2 p.regs[i] (List.getElem_mem hir)
    rw [hml] at hlq
    have hbad : ¬ (p.regs[i]).length ≤ 8 → V = 98 := fun h => by
      rw [hV, if_pos (List.all_eq_false.2 ⟨p.regs[i], List.getElem_mem hir, by rw [decide_eq_false h]; exact Bool.false_ne_true⟩)]
    have hnx := fun (h : (p.regs[i]).length ≤ 8) => ih (i + 1) (by omega) (fun l hl => by
      rw [List.take_succ_eq_append_getElem hir, List.mem_append, List.mem_singleton] at hl
      rcases hl with hl | rfl
      · exact hok l hl
      · exact h)
    generalize p.regs[i] = rs at *
    clear ih
    by_cases e1 : rs.length ≤ 8
    · refine RunF_sound tab_ok noX_local 200 [true, false] _ _ rfl ?_ ?_
      · simp [hc]
        exact ⟨hir, ⟨hpr, hir⟩, by omega⟩
      exact hnx e1 _ ⟨rfl, rfl, rfl, i64_eq (wrap_succ (by omega)), trivial⟩ ⟨rfl, trivial⟩
    · refine RunF_sound tab_ok noX_local 200 [true, true] _ _ rfl ?_ ?_
      · simp [hc]
        exact ⟨hir, ⟨hpr, hir⟩, by omega⟩
      rw [hbad e1]
      exact Run.retP tab_ok Tryd.func14 rfl trivial (fun M => rfl)
  | zero =>
  intro i hi hok σ ht hh
  refine Run.to ?_ ht hh (n' := 1)
  rw [if_neg (by
    rw [Bool.not_eq_false]
    rw [List.take_of_length_le (by omega)] at hok
    exact List.all_eq_true.2 fun l hl => decide_eq_true (hok l hl))] at hV
  clear hok
  by_cases c4 : p.li = p.locs.length
  rotate_left
  · refine RunF_sound tab_ok noX_local 200 [false, true, true] _ _ rfl ?_ ?_
    · simp; omega
    rw [if_pos (.inl c4)] at hV
    exact Run.retP tab_ok Tryd.func14 rfl trivial (fun M => by rw [hV]; rfl)
  refine RunF_sound tab_ok noX_local 200 [false, false] _ _ rfl ?_ ?_
  · simp; omega
  refine Run.callM (r := .bool (risesB nameB p.locs)) noX_local rfl rfl rfl rfl rfl rfl rises_enters rfl (fun M w' _ hA => ?_) ?_
  · exact rises_ok 33 nameB isName_enters isName_ok p.pl p.cl p.locs w' (hP.locs.agree hA (fun _ _ f => f)) (by rw [hml]; exact hll)
  cases c5 : risesB nameB p.locs with
  | false =>
    refine RunF_sound tab_ok noX_local 200 [true] _ _ rfl ?_ ?_
    · simp
    rw [if_pos (.inr c5)] at hV
    exact Run.retP tab_ok Tryd.func14 rfl trivial (fun M => by rw [hV]; rfl)
  | true =>
  rw [if_neg (fun h => h.elim (fun h => h c4) (fun h => by rw [c5] at h; cases h))] at hV
  by_cases c6 : p.locs.length > 16
  · refine RunF_sound tab_ok noX_local 200 [false, true] _ _ rfl ?_ ?_
    · simp; omega
    rw [if_pos c6] at hV
    exact Run.retP tab_ok Tryd.func14 rfl trivial (fun M => by rw [hV]; rfl)
  rw [if_neg c6] at hV
  refine RunF_sound tab_ok noX_local 200 [false, false] _ _ rfl ?_ ?_
  · simp; omega
  clear hi ht hh
  suffices H : ∀ (d i : Nat), i + d = p.th.length → (∀ j, j < i → fitsL p j = true) → ∀ σ, inT σ.t [(1, .ptr 0 0), (89, .v (.slice p.pt p.th.length p.ct)), (90, .v (.int .i64 (p.th.length : Int))), (91, .v (.int .i64 (i : Int)))] → inT σ.h [(0, .cells 39 [.vals 5 (pV p)])] → Run _ _ σ by
    exact H p.th.length 0 (by omega) (fun j hj => by omega) _ ⟨rfl, rfl, rfl, rfl, trivial⟩ ⟨rfl, trivial⟩
  intro d
  induction d with
  | zero =>
    intro i hi hok σ ht hh
    refine Run.to ?_ ht hh (n' := 1)
    rw [if_neg (by rw [Bool.not_eq_false]; exact List.all_eq_true.2 fun j hj => hok j (by have := List.mem_range.1 hj; omega))] at hV
    refine RunF_sound tab_ok noX_local 200 [false] _ _ rfl ?_ ?_
    · simp; omega
    refine Run.callFn (r := .int .i64 (evsP p)) noX_local rfl rfl rfl rfl rfl rfl rfl events_enters rfl (fun w' hA => events_ok p w' (hP.agree hA) (by omega) (by omega)) ?_
    by_cases c7 : evsP p > 64
    · refine RunF_sound tab_ok noX_local 200 [true] _ _ rfl ?_ ?_
      · simp; omega
      rw [if_pos c7] at hV
      exact Run.retP tab_ok Tryd.func14 rfl trivial (fun M => by rw [hV]; rfl)
    · refine RunF_sound tab_ok noX_local 200 [false] _ _ rfl ?_ ?_
      · simp; omega
      rw [if_neg c7] at hV
      exact Run.retP tab_ok Tryd.func14 rfl trivial (fun M => by rw [hV]; rfl)
  | succ d ih =>
    intro i hi hok σ ht hh
    refine Run.to ?_ ht hh (n' := 1)
    have hit : i < p.th.length := by omega
    have hir : i < p.regs.length := by omega
    obtain ⟨hpt, q, c, hc, hq⟩ := hP.th i hit
    obtain ⟨hpr, qr, cr, hcr, hqr⟩ := hP.regs i hir
    have hl8 := hP.lt2 p.th[i] (List.getElem_mem hit)
    have hfb : fitsL p i = p.th[i].all fun o => fitsB o p.regs[i] p.locs.length := by
      rw [fitsL, List.getD_eq_getElem?_getD, List.getD_eq_getElem?_getD, List.getElem?_eq_getElem hit, List.getElem?_eq_getElem hir]; rfl
    have hbad : fitsL p i = false → V = 93 := fun h => by
      rw [hV, if_pos (List.all_eq_false.2 ⟨i, List.mem_range.2 hit, by rw [h]; exact Bool.false_ne_true⟩)]
    have hnx := fun (h : fitsL p i = true) => ih (i + 1) (by omega) (fun j hj => by
      by_cases e : j = i
      · rw [e]; exact h
      · exact hok j (by omega))
    generalize p.th[i] = l at *
    generalize p.regs[i] = rs at *
    clear ih
    refine RunF_sound tab_ok noX_local 200 [true] _ _ rfl ?_ ?_
    · simp
      exact ⟨hit, ⟨hpt, hit⟩, by rw [hc]; rfl⟩
    refine Run.toC (t' := [(1, .ptr 0 0), (89, .v (.slice p.pt p.th.length p.ct)), (90, .v (.int .i64 (p.th.length : Int))), (91, .v (.int .i64 (i : Int))), (7, .v (.int .i64 (i : Int))), (96, .v (.slice q l.length c)), (97, .v (.int .i64 (l.length : Int))), (98, .v (.int .i64 (0 : Int)))]) (h' := [(0, .cells 39 [.vals 5 (pV p)])]) (n' := 1) ?_ ⟨inTC_same rfl, inTC_same rfl, inTC_same rfl, inTC_same rfl, inTC_same rfl, ⟨_, rfl, fun M => ?_⟩, ⟨_, rfl, fun M => ?_⟩, inTC_same rfl, trivial⟩ ⟨rfl, trivial⟩
    rotate_left
    · simp only [conc, fnC_w0, Int.toNat_natCast, Nat.mul_one, hc]; rfl
    · simp only [conc, fnC_w0, Int.toNat_natCast, Nat.mul_one, hc]; rfl
    suffices H2 : ∀ (m j : Nat), j + m = l.length → (∀ o ∈ l.take j, fitsB o rs p.locs.length = true) → ∀ σ, inT σ.t [(1, .ptr 0 0), (89, .v (.slice p.pt p.th.length p.ct)), (90, .v (.int .i64 (p.th.length : Int))), (91, .v (.int .i64 (i : Int))), (7, .v (.int .i64 (i : Int))), (96, .v (.slice q l.length c)), (97, .v (.int .i64 (l.length : Int))), (98, .v (.int .i64 (j : Int)))] → inT σ.h [(0, .cells 39 [.vals 5 (pV p)])] → Run _ _ σ by
      exact H2 l.length 0 (by omega) (fun o ho => by cases ho) _ ⟨rfl, rfl, rfl, rfl, rfl, rfl, rfl, rfl, trivial⟩ ⟨rfl, trivial⟩
    clear ht hh
    intro m
    induction m with
    | zero =>
      intro j hj hall σ ht hh
      refine Run.to ?_ ht hh (n' := 1)
      refine RunF_sound tab_ok noX_local 200 [false] _ _ rfl ?_ ?_
      · simp; omega
      rw [List.take_of_length_le (by omega)] at hall
      exact hnx (by rw [hfb]; exact List.all_eq_true.2 hall) _ ⟨rfl, rfl, rfl, i64_eq (wrap_succ (by omega)), trivial⟩ ⟨rfl, trivial⟩
    | succ m ihm =>
      intro j hj hall σ ht hh
      refine Run.to ?_ ht hh (n' := 1)
      have hjl : j < l.length := by omega
      have hbad2 : fitsB l[j] rs p.locs.length = false → fitsL p i = false := fun h => by
        rw [hfb]; exact List.all_eq_false.2 ⟨l[j], List.getElem_mem hjl, by rw [h]; exact Bool.false_ne_true⟩
      have hnxm := fun (h : fitsB l[j] rs p.locs.length = true) => ihm (j + 1) (by omega) (fun o ho => by
        rw [List.take_succ_eq_append_getElem hjl, List.mem_append, List.mem_singleton] at ho
        rcases ho with ho | rfl
        · exact hall o ho
        · exact h)
      have hqp := (hq j hjl).1
      have hqe := hq.ext j hjl
      have hqs := hq.some j hjl
      have ho1 := opV_one l[j]
      generalize l[j] = o at *
      refine RunF_sound tab_ok noX_local 200 [true] _ _ rfl ?_ ?_
      · simp [hqe, ho1, segsVals]
        exact ⟨hjl, ⟨hqp, hjl⟩, hqs⟩
      refine Run.to (t' := [(1, .ptr 0 0), (10, .ptr 1 0), (89, .v (.slice p.pt p.th.length p.ct)), (90, .v (.int .i64 (p.th.length : Int))), (91, .v (.int .i64 (i : Int))), (7, .v (.int .i64 (i : Int))), (96, .v (.slice q l.length c)), (97, .v (.int .i64 (l.length : Int))), (98, .v (.int .i64 (j : Int)))]) (h' := [(0, .cells 39 [.vals 5 (pV p)]), (1, .cells 60 [.vals 5 (opV o)])]) (n' := 2) ?_ ⟨rfl, rfl, rfl, rfl, rfl, rfl, rfl, rfl, rfl, trivial⟩ ⟨rfl, ?_, trivial⟩
      rotate_left
      · refine congrArg (fun l => some (Blk.cells 60 [.vals 5 l])) ?_
        show extCells w ((q.getD default).add ((j : Int).toNat * 5)) 0 5 = opV o
        rw [Int.toNat_natCast]; exact hqe
      refine Run.drawA noX_local rfl [] [(0, .cells 39 [.vals 5 (pV p)]), (1, .cells 60 [.vals 5 (opV o)])] rfl rfl ⟨rfl, rfl, trivial⟩ ?_
      refine RunOF_sound tab_ok noX_local rfl rfl 400 [] _ _ rfl ?_ ?_
      · simp
        exact ⟨⟨hpr, hir⟩, by rw [hcr]; rfl⟩
      refine RunO.callFn (r := .bool (fitsB o rs p.locs.length)) noX_local rfl rfl rfl rfl rfl rfl rfl rfl fits_enters rfl (fun w' hA => ?_) ?_
      · simp only [fnC_w0, Int.toNat_natCast, Nat.mul_one, show (slOf (pV p)[0 + 1 - 0]?).1 = p.pr from rfl, hcr]
        exact fits_ok o qr cr rs p.pl p.locs.length p.cl w' (hqr.agree hA (fun _ _ f => f))
      cases hf : fitsB o rs p.locs.length with
      | true =>
        refine RunOF_sound tab_ok noX_local rfl rfl 400 [] _ _ rfl ?_ ?_
        · simp
        refine RunO.done ?_
        refine RunF_sound tab_ok noX_local 200 [false] _ _ rfl ?_ ?_
        · simp
        exact hnxm hf _ ⟨rfl, rfl, rfl, rfl, rfl, rfl, rfl, i64_eq (wrap_succ (by omega)), trivial⟩ ⟨rfl, trivial⟩
      | false =>
        refine RunOF_sound tab_ok noX_local rfl rfl 400 [] _ _ rfl ?_ ?_
        · simp
        refine RunO.done ?_
        refine RunF_sound tab_ok noX_local 200 [true] _ _ rfl ?_ ?_
        · simp
        rw [hbad (hbad2 hf)]
        exact Run.retP tab_ok Tryd.func14 rfl trivial (fun M => rfl)
theorem valid_enters : Enters Tryd.prog 14 := enters_mk Tryd.func14 (by decide) rfl
end Go.Proofs.YtehimiadpgbhmaaDoor

/-
  Tries walked; what a right program is. Own work.
-/
namespace Go.Proofs.YtehimiadpgbhmaaDoor
open Go.AM
set_option maxRecDepth 100000

theorem valid_le {p : Pn} (h : validN p = 0) : p.th.length ≤ 4 ∧ p.locs.length ≤ 16 ∧ evsP p ≤ 64 := by
  unfold validN at h
  split at h
  · cases h
  rename_i h1
  split at h
  · cases h
  split at h
  · cases h
  split at h
  · cases h
  split at h
  · cases h
  split at h
  · cases h
  rename_i h6
  split at h
  · cases h
  split at h
  · cases h
  rename_i h8
  omega
def triesV (p : Pn) : Value := if validN p = 0 then .tuple #[.int .i64 (allN tryN p.th), .int .i64 0] else .tuple #[.int .i64 0, .int .i64 (validN p)]

set_option maxHeartbeats 4000000 in
theorem tries_ok (p : Pn) (w : World) (hP : SeesP w p) : Gives Tryd.prog 13 [encP p] w (triesV p) := by
  refine Gives.of_run Tryd.func13 rfl (by show 1 ≤ 36; decide) ?_
  have hone := pV_one p
  refine RunF_sound tab_ok noX_local 100 [] _ _ rfl ?_ ?_
  · simp
  refine Run.callFn (r := .int .i64 (validN p)) noX_local rfl rfl rfl rfl rfl rfl rfl valid_enters rfl (fun w' hA => valid_ok p w' (hP.agree hA)) ?_
  by_cases hv : validN p = 0
  rotate_left
  · rw [show triesV p = .tuple #[.int .i64 0, .int .i64 (validN p)] by unfold triesV; rw [if_neg hv]]
    refine RunF_sound tab_ok noX_local 100 [true] _ _ rfl ?_ ?_
    · simp [hv]
    refine Run.retL tab_ok Tryd.func13 rfl ?_ (fun M => ?_)
    · simp
    rfl
  rw [show triesV p = .tuple #[.int .i64 (allN tryN p.th), .int .i64 0] by unfold triesV; rw [if_pos hv]]
  obtain ⟨h4, h16, _⟩ := valid_le hv
  rw [hv]
  have hall : ∀ i, allN tryN (p.th.take i) ≤ 70368744177664 := fun i => by
    have h1 := allN_le tryN_le (m := 8796093022208) (p.th.take i) (fun x hx => hP.lt2 x (List.mem_of_mem_take hx))
    have h2 : (p.th.take i).length ≤ 4 := by rw [List.length_take]; omega
    have h3 := Nat.mul_le_mul_left (2 * 8796093022208) h2
    omega
  refine RunF_sound tab_ok noX_local 100 [false] _ _ rfl ?_ ?_
  · simp
  suffices H : ∀ (d i : Nat), i + d = p.th.length → ∀ σ, inT σ.t [(5, .v (.int .i64 (allN tryN (p.th.take i) : Int))), (16, .v (.slice p.pt p.th.length p.ct)), (17, .v (.int .i64 (p.th.length : Int))), (18, .v (.int .i64 (i : Int)))] → Run _ _ σ by
    exact H p.th.length 0 (by omega) _ ⟨rfl, rfl, rfl, rfl, trivial⟩
  intro d
  induction d with
  | zero =>
    intro i hi σ ht
    refine Run.to ?_ ht (h' := []) trivial (n' := 0)
    refine RunF_sound tab_ok noX_local 100 [false] _ _ rfl ?_ ?_
    · simp; omega
    refine Run.retL tab_ok Tryd.func13 rfl ?_ (fun M => ?_)
    · simp
    rw [List.take_of_length_le (by omega)]; rfl
  | succ d ih =>
    intro i hi σ ht
    refine Run.to ?_ ht (h' := []) trivial (n' := 0)
    have hix : i < p.th.length := by omega
    obtain ⟨hpt, q, c, hc, hq⟩ := hP.th i hix
    have hll := hP.lt2 p.th[i] (List.getElem_mem hix)
    have hal := hall (i + 1)
    have htk := allN_take tryN p.th hix
    have hnx := ih (i + 1) (by omega)
    rw [htk] at hnx hal
    generalize p.th[i] = l at *
    clear ih
    refine RunF_sound tab_ok noX_local 100 [true] _ _ rfl ?_ ?_
    · simp
      exact ⟨hix, ⟨hpt, hix⟩, by rw [hc]; rfl⟩
    refine Run.toC (t' := [(5, .v (.int .i64 (allN tryN (p.th.take i) : Int))), (16, .v (.slice p.pt p.th.length p.ct)), (17, .v (.int .i64 (p.th.length : Int))), (18, .v (.int .i64 (i : Int))), (22, .v (.slice q l.length c)), (23, .v (.int .i64 (l.length : Int))), (24, .v (.int .i64 (0 : Int)))]) (h' := []) (n' := 0) ?_ ⟨inTC_same rfl, inTC_same rfl, inTC_same rfl, inTC_same rfl, ⟨_, rfl, fun M => ?_⟩, ⟨_, rfl, fun M => ?_⟩, inTC_same rfl, trivial⟩ trivial
    rotate_left
    · simp only [conc, fnC_w0, Int.toNat_natCast, Nat.mul_one, hc]; rfl
    · simp only [conc, fnC_w0, Int.toNat_natCast, Nat.mul_one, hc]; rfl
    suffices H2 : ∀ (m j : Nat), j + m = l.length → ∀ σ, inT σ.t [(5, .v (.int .i64 ((allN tryN (p.th.take i) + sumN tryN (l.take j) : Nat) : Int))), (16, .v (.slice p.pt p.th.length p.ct)), (17, .v (.int .i64 (p.th.length : Int))), (18, .v (.int .i64 (i : Int))), (22, .v (.slice q l.length c)), (23, .v (.int .i64 (l.length : Int))), (24, .v (.int .i64 (j : Int)))] → Run _ _ σ by
      exact H2 l.length 0 (by omega) _ ⟨rfl, rfl, rfl, rfl, rfl, rfl, rfl, trivial⟩
    intro m
    induction m with
    | zero =>
      intro j hj σ ht
      refine Run.to ?_ ht (h' := []) trivial (n' := 0)
      refine RunF_sound tab_ok noX_local 100 [false] _ _ rfl ?_ ?_
      · simp; omega
      refine hnx _ ⟨?_, rfl, rfl, i64_eq (wrap_succ (by omega)), trivial⟩
      rw [List.take_of_length_le (show l.length ≤ j by omega)]; rfl
    | succ m ihm =>
      intro j hj σ ht
      refine Run.to ?_ ht (h' := []) trivial (n' := 0)
      have hjl : j < l.length := by omega
      have hsl := sumN_le tryN_le (l.take j)
      rw [List.length_take] at hsl
      have ha0 := hall i
      have hst := sumN_take tryN l hjl
      have hnxm := ihm (j + 1) (by omega)
      rw [hst] at hnxm
      have hqp := (hq j hjl).1
      have hqe := hq.ext j hjl
      have hqs := hq.some j hjl
      have ho1 := opV_one l[j]
      generalize l[j] = o at *
      by_cases h8 : o.kind = 8
      · have ht1 : tryN o = 1 := by unfold tryN; rw [if_pos h8]
        rw [ht1] at hnxm
        refine RunF_sound tab_ok noX_local 100 [true, true] _ _ rfl ?_ ?_
        · simp [hqe, ho1, segsVals, h8]
          exact ⟨hjl, ⟨hqp, hjl⟩, hqs⟩
        refine hnxm _ ⟨i64_eq ?_, rfl, rfl, rfl, rfl, rfl, i64_eq (wrap_succ (by omega)), trivial⟩
        rw [wrap_i64 (by omega) (by omega)]; omega
      · have ht1 : tryN o = 0 := by unfold tryN; rw [if_neg h8]
        rw [ht1] at hnxm
        refine RunF_sound tab_ok noX_local 100 [true, false] _ _ rfl ?_ ?_
        · simp [hqe, ho1, segsVals, h8]
          exact ⟨hjl, ⟨hqp, hjl⟩, hqs⟩
        exact hnxm _ ⟨rfl, rfl, rfl, rfl, rfl, rfl, i64_eq (wrap_succ (by omega)), trivial⟩
theorem tries_enters : Enters Tryd.prog 13 := enters_mk Tryd.func13 (by decide) rfl
end Go.Proofs.YtehimiadpgbhmaaDoor

/-
  The abstract machine, forty-fourth part: a call walked in its place: all owned blocks go in, and what the callee leaves of them comes back. Own work; over any program.
-/
namespace Go.AM

mutual
/-- Does a value speak of some blocks alone, and of where they lie alone? -/
def AV.pin (ids : List Nat) : AV → Bool
  | .v _ => true
  | .tt _ => true
  | .ptr id _ => has ids id
  | .elt id _ _ => has ids id
  | .fn _ caps => pinL ids caps
  | .agg l => pinL ids l
  | .tup l => pinL ids l
  | _ => false
def pinL (ids : List Nat) : List AV → Bool
  | [] => true
  | x :: r => match x.pin ids with | true => pinL ids r | false => false
end
mutual
theorem conc_pin {M M' : Loc} {ids : List Nat} (h : ∀ id ∈ ids, (M' id).1 = (M id).1) : ∀ x : AV, x.pin ids = true → conc M' x = conc M x
  | .v _, _ => by simp [conc]
  | .tt _, _ => by simp [conc]
  | .ptr id off, hb => by simp only [AV.pin] at hb; simp [conc, h id (has_iff.1 hb)]
  | .elt id off j, hb => by simp only [AV.pin] at hb; simp [conc, h id (has_iff.1 hb)]
  | .mp id, hb => by simp [AV.pin] at hb
  | .sl id sz off len, hb => by simp [AV.pin] at hb
  | .fn f caps, hb => by simp only [AV.pin] at hb; simp only [conc, concL_pin h caps hb]
  | .agg l, hb => by simp only [AV.pin] at hb; simp only [conc, concL_pin h l hb]
  | .tup l, hb => by simp only [AV.pin] at hb; simp only [conc, concL_pin h l hb]
theorem concL_pin {M M' : Loc} {ids : List Nat} (h : ∀ id ∈ ids, (M' id).1 = (M id).1) : ∀ l : List AV, pinL ids l = true → concL M' l = concL M l
  | [], _ => by simp [concL]
  | x :: r, hb => by
    simp only [pinL] at hb
    split at hb
    · rename_i hx; simp only [concL, conc_pin h x hx, concL_pin h r hb]
    · cases hb
end
def tPin (ids : List Nat) : List (Nat × AV) → Bool
  | [] => true
  | (_, x) :: r => match x.pin ids with | true => tPin ids r | false => false
theorem tPin_lk {ids : List Nat} : ∀ {l : List (Nat × AV)} {i : Nat} {x : AV}, tPin ids l = true → lk l i = some x → x.pin ids = true
  | [], i, x, _, h => by cases h
  | (j, y) :: r, i, x, hb, h => by
    simp only [tPin] at hb
    split at hb
    · rename_i hy
      simp only [lk] at h
      split at h
      · cases h; exact hy
      · exact tPin_lk hb h
    · cases hb

mutual
theorem ren_pin {ρ : List (Nat × Nat)} {ids : List Nat} (h : ∀ id ∈ ids, ap ρ id = id) : ∀ x : AV, x.pin ids = true → ren ρ x = x
  | .v _, _ => rfl
  | .tt _, _ => rfl
  | .ptr id off, hb => by simp only [AV.pin] at hb; simp only [ren, h id (has_iff.1 hb)]
  | .elt id off j, hb => by simp only [AV.pin] at hb; simp only [ren, h id (has_iff.1 hb)]
  | .mp id, hb => by simp [AV.pin] at hb
  | .sl id sz off len, hb => by simp [AV.pin] at hb
  | .fn f caps, hb => by simp only [AV.pin] at hb; simp only [ren, renL_pin h caps hb]
  | .agg l, hb => by simp only [AV.pin] at hb; simp only [ren, renL_pin h l hb]
  | .tup l, hb => by simp only [AV.pin] at hb; simp only [ren, renL_pin h l hb]
theorem renL_pin {ρ : List (Nat × Nat)} {ids : List Nat} (h : ∀ id ∈ ids, ap ρ id = id) : ∀ l : List AV, pinL ids l = true → renL ρ l = l
  | [], _ => rfl
  | x :: r, hb => by
    simp only [pinL] at hb
    split at hb
    · rename_i hx; simp only [renL, ren_pin h x hx, renL_pin h r hb]
    · cases hb
end
theorem inTR_pin {ρ : List (Nat × Nat)} {ids : List Nat} (h : ∀ id ∈ ids, ap ρ id = id) {l : List (Nat × AV)} : ∀ {l' : List (Nat × AV)}, inT l l' → tPin ids l' = true → inTR ρ l l'
  | [], _, _ => trivial
  | (i, x) :: r, ht, hp => by
    simp only [tPin] at hp
    split at hp
    · rename_i hx
      exact ⟨by rw [ren_pin h x hx]; exact ht.1, inTR_pin h ht.2 hp⟩
    · cases hp

/-- What the caller goes on from, behind a call that is walked in its place. -/
def RetI (C : Ctx) (todo : List Item) (dst : Option Nat) (a : Act) (v : Value) (w' : World) : Prop := ∃ M' fp' σ' z, conc M' z = v ∧ Rel C M' fp' σ' a w' ∧ Run C todo (σ'.put dst z)

/-- A call, walked in its place. -/
theorem Run.callI {C : Ctx} {k : List Item} {σ : St} {ops : Array Oper} {i : Nat} {rest : List Nat} {o : Oper} {c : Call} {g : Operand} {f : FuncId} {caps xs : List AV} {fn : Func} {cd : Code}
    (ho : ops[i]? = some o) (hop : o.op = .call c) (hc : c.callee = .value g) (hg : σ.ev g = some (.fn f caps)) (hxs : evs σ c.args.toList = some xs) (hw : wantOf ops σ o = some .yes) (hent : Enters C.P f)
    (hd : dstOK C.n o.dst = true) (hf : C.P.funcs[f]? = some fn) (hb : fn.body = some cd) (hn : (xs ++ caps).length ≤ fn.ntmps)
    (hrun : ∀ M fp a w, Rel C M fp σ a w → Run (fnL C.P f (xs ++ caps).length fn.ntmps (concL M (xs ++ caps)).toArray w (footH M fp σ.h) C.X (RetI C (.inRegion ops rest :: k) o.dst a)) [.code cd] ⟨argsA 0 (xs ++ caps), σ.h, σ.nx⟩) :
    Run C (.inRegion ops (i :: rest) :: k) σ := by
  refine Run.callK ho hop hc hg hxs hw hent hd fun M fp a w hR => ?_
  refine Calls.mono' (givesL_of_run (X := C.X) (fp := fp) hf hb hn hR.outer (fun b hb => (hR.fpok b hb).1) hR.heap hR.inj hR.apart (hrun M fp a w hR)) fun e w' ⟨v, h1, M', fp', σ', z, h2, h3, h4⟩ => ?_
  exact ⟨v, h1, C.X, M', fp', σ', z, h2, h3, h4⟩

theorem footH_back {C : Ctx} {M : Loc} {fp : Nat → Prop} {σ : St} {a : Act} {w : World} (hR : Rel C M fp σ a w) {b : Nat} (h : footH M fp σ.h b) (hb : b < C.w0.heap.size) : C.S0 b := by
  rcases h with h | ⟨id, B, hB, rfl⟩
  · exact (hR.fpok b h).2 hb
  · exact hR.own id B hB hb

theorem Run.finF {P : Program} {T : Tab} (hT : tabOK P T) {f : FuncId} {fn : Func} {lo n : Nat} {t0 : Array Value} {w0 : World} {S0 : Nat → Prop} {X : Res} {R : Value → World → Prop} {σ : St} {p : Prop} {l : List AV}
    (hf : P.funcs[f]? = some fn) (h : resOf T w0 S0 σ fn.results.toList = some (p, l)) (hp : p)
    (hR : ∀ M fp a w, Rel (fnL P f lo n t0 w0 S0 X R) M fp σ a w → R (conc M (resAV l)) w) : Run (fnL P f lo n t0 w0 S0 X R) [] σ := by
  intro M fp a w hr cs
  refine ⟨_, .one (stepR_end rfl), _, w, _, rfl, rfl, ⟨rfl, hr.defers, rfl, fn, hf, ?_⟩, hR M fp a w hr⟩
  exact results_run hT hr (fn := fn) h hp

theorem RetI.of {C : Ctx} {f : FuncId} {n : Nat} {args : List AV} {M M' : Loc} {fp fp' : Nat → Prop} {a ac : Act} {w w' : World} {σ σc : St} {todo : List Item} {dst : Option Nat} {z : AV} {R : Value → World → Prop} (hR : Rel C M fp σ a w)
    (hR' : Rel (fnL C.P f args.length n (concL M args).toArray w (footH M fp σ.h) C.X R) M' fp' σc ac w') (pins : List (Nat × Nat × Nat)) (t' : List (Nat × AV)) (h' : List (Nat × Blk)) (nx' : Nat)
    (hpin : ∀ q ∈ pins, args[q.1]? = some (.ptr q.2.1 q.2.2) ∧ lk σc.t q.1 = some (.ptr q.2.1 q.2.2)) (ht : inT σ.t t') (hok : tPin (pins.map (·.2.1)) t' = true) (hh : inT σc.h h')
    (h : Run C todo (St.put ⟨t', h', nx'⟩ dst z)) : RetI C todo dst a (conc M' z) w' := by
  refine ⟨M', fp', ⟨t', h', nx'⟩, z, rfl, ?_, h⟩
  have hag : Agree (footH M fp σ.h) w w' := hR'.agree
  have hsz : C.w0.heap.size ≤ w.heap.size := hR.agree.size
  have hM : ∀ id ∈ pins.map (·.2.1), (M' id).1 = (M id).1 := by
    intro id hid
    obtain ⟨⟨j, id', off⟩, hq, rfl⟩ := List.mem_map.1 hid
    obtain ⟨h1, h2⟩ := hpin _ hq
    have h3 := concL_get (M := M) h1
    have hlt : j < args.length := (List.getElem?_eq_some_iff.1 h1).1
    have h4 := hR'.frozen j hlt
    rw [hR'.tmps j _ h2] at h4
    have h5 : some (conc M' (.ptr id' off)) = some (conc M (.ptr id' off)) := h4.trans (by simpa using h3)
    simp only [conc, Option.some.injEq, Value.pointer.injEq, Addr.mk.injEq] at h5
    exact h5.1
  refine { heap := fun id B hB => hR'.heap id B (inT_lk hh id B hB), inj := fun i j B B' hB hB' e => hR'.inj i j B B' (inT_lk hh _ _ hB) (inT_lk hh _ _ hB') e, own := ?_, apart := fun id B hB => hR'.apart id B (inT_lk hh id B hB), agree := ?_, outer := hR'.outer, fpok := ?_, size := hR.size, frozen := hR.frozen, tmps := ?_, defers := hR.defers }
  · intro id B hB hlt
    exact footH_back hR (hR'.own id B (inT_lk hh id B hB) (Nat.lt_of_lt_of_le hlt hsz)) hlt
  · exact hR.agree.trans hag fun b hb hlt => footH_back hR hb hlt
  · intro b hb
    obtain ⟨h1, h2⟩ := hR'.fpok b hb
    exact ⟨h1, fun hlt => footH_back hR (h2 (Nat.lt_of_lt_of_le hlt hsz)) hlt⟩
  · intro i x hx
    rw [hR.tmps i x (inT_lk ht i x hx), conc_pin hM x (tPin_lk hok hx)]

section
variable {C : Ctx} {T : Tab} {f : FuncId} {fn : Func} {n : Nat} {args : List AV} {M : Loc} {fp : Nat → Prop} {a : Act} {w : World} {σ σc : St} {k todo : List Item} {dst : Option Nat} {p : Prop} {l : List AV}

/-- Its return. -/
theorem Run.retI' (hT : tabOK C.P T) (hR : Rel C M fp σ a w)
    (pins : List (Nat × Nat × Nat)) (t' : List (Nat × AV)) (h' : List (Nat × Blk)) (nx' : Nat) (hf : C.P.funcs[f]? = some fn) (hres : resOf T w (footH M fp σ.h) σc fn.results.toList = some (p, l)) (hp : p)
    (hpin : ∀ q ∈ pins, args[q.1]? = some (.ptr q.2.1 q.2.2) ∧ lk σc.t q.1 = some (.ptr q.2.1 q.2.2)) (ht : inT σ.t t') (hok : tPin (pins.map (·.2.1)) t' = true) (hh : inT σc.h h')
    (h : Run C todo (St.put ⟨t', h', nx'⟩ dst (resAV l))) :
    Run (fnL C.P f args.length n (concL M args).toArray w (footH M fp σ.h) C.X (RetI C todo dst a)) (.code .ret :: k) σc :=
  Run.retF hT hf hres hp fun M' fp' ac w' hR' => RetI.of hR hR' pins t' h' nx' hpin ht hok hh h

/-- Its end. -/
theorem Run.finI' (hT : tabOK C.P T) (hR : Rel C M fp σ a w)
    (pins : List (Nat × Nat × Nat)) (t' : List (Nat × AV)) (h' : List (Nat × Blk)) (nx' : Nat) (hf : C.P.funcs[f]? = some fn) (hres : resOf T w (footH M fp σ.h) σc fn.results.toList = some (p, l)) (hp : p)
    (hpin : ∀ q ∈ pins, args[q.1]? = some (.ptr q.2.1 q.2.2) ∧ lk σc.t q.1 = some (.ptr q.2.1 q.2.2)) (ht : inT σ.t t') (hok : tPin (pins.map (·.2.1)) t' = true) (hh : inT σc.h h')
    (h : Run C todo (St.put ⟨t', h', nx'⟩ dst (resAV l))) :
    Run (fnL C.P f args.length n (concL M args).toArray w (footH M fp σ.h) C.X (RetI C todo dst a)) [] σc :=
  Run.finF hT hf hres hp fun M' fp' ac w' hR' => RetI.of hR hR' pins t' h' nx' hpin ht hok hh h
end
end Go.AM

/-
  One event more: what List's own function does. Own work.
-/
namespace Go.Proofs.YtehimiadpgbhmaaDoor
open Go.AM
set_option maxRecDepth 100000

def evsR : List Ev → List Value
  | [] => []
  | e :: l => evV e ++ evsR l
theorem evsR_len : ∀ L : List Ev, (evsR L).length = L.length * 5
  | [] => rfl
  | e :: l => by simp [evsR, evsR_len l]; omega
theorem evsR_app (e : Ev) : ∀ L : List Ev, evsR (L ++ [e]) = evsR L ++ evV e
  | [] => by simp [evsR]
  | x :: l => by simp [evsR, evsR_app e l]
def vZ (id : Nat) (L : List Ev) : AV := match L with
  | [] => .v (.slice none 0 0)
  | e :: l => .sl id 5 0 (l.length + 1)
def vBk (id : Nat) (L : List Ev) : List (Nat × Blk) := match L with
  | [] => []
  | e :: l => [(id, .row 52 5 (l.length + 1) (evsR (e :: l)))]
def evPut (kd th ix : Int) (o : Opn) (lck : Bool) : Ev := ⟨kd, th, ix, if kd = 4 then -1 else o.loc, lck⟩
def putH (th ix : Int) (o : Opn) (L : List Ev) : List (Nat × Blk) :=
  [(1, .cells 22 [.one (vZ 2 L)]), (3, .cells 3 [.one (.v (.int .i64 th))]), (4, .cells 3 [.one (.v (.int .i64 ix))]), (5, .cells 60 [.vals 5 (opV o)])] ++ vBk 2 L

def newH (th ix : Int) (o : Opn) (N : Nat) (R : List Value) : List (Nat × Blk) :=
  [(1, .cells 22 [.one (.sl 8 5 0 N)]), (8, .row 52 5 N R), (3, .cells 3 [.one (.v (.int .i64 th))]), (4, .cells 3 [.one (.v (.int .i64 ix))]), (5, .cells 60 [.vals 5 (opV o)])]

theorem take_all (e : Ev) (L : List Ev) : (evsR (e :: L)).take ((L.length + 1) * 5) = evsR (e :: L) := List.take_of_length_le (by rw [evsR_len]; exact Nat.le_refl _)

set_option maxHeartbeats 2000000 in
theorem put_call {C : Ctx} {k : List Item} {ops : Array Oper} {i : Nat} {rest : List Nat} {o : Oper} {c : Call} {g : Operand} {t t' : List (Nat × AV)} (hP : C.P = Tryd.prog) (hL : Local C.X) (kd : Int) (lck : Bool) (th ix : Int) (op : Opn) (L : List Ev)
    (hl : L.length < 1099511627776) (ho : ops[i]? = some o) (hop : o.op = .call c) (hc : c.callee = .value g) (hg : (⟨t, putH th ix op L, 6⟩ : St).ev g = some (.fn 35 [.ptr 3 0, .ptr 4 0, .ptr 5 0, .ptr 1 0]))
    (hxs : evs ⟨t, putH th ix op L, 6⟩ c.args.toList = some [.v (.int .i64 kd), .tt lck]) (hw : wantOf ops ⟨t, putH th ix op L, 6⟩ o = some .yes) (hd : dstOK C.n o.dst = true) (ht : inT t t') (hpin : tPin [3, 4, 5, 1] t' = true)
    (hput : inT (St.put ⟨t', [], 6⟩ o.dst (.tup [])).t t') (hnx : Run C (.inRegion ops rest :: k) ⟨t', putH th ix op (L ++ [evPut kd th ix op lck]), 6⟩) : Run C (.inRegion ops (i :: rest) :: k) ⟨t, putH th ix op L, 6⟩ := by
  obtain ⟨P, w0, S0, X, b, n, t0, ds, Z⟩ := C
  simp only at hP
  subst hP
  have hone := opV_one op
  refine Run.callI ho hop hc hg hxs hw (enters_mk Tryd.func35 (by decide) rfl) hd Tryd.func35 rfl (by show 6 ≤ 23; decide) fun M fp a w hR => ?_
  have hput' : ∀ h n, inT (St.put ⟨t', h, n⟩ o.dst (.tup [])).t t' := fun h n => by
    cases e : o.dst with
    | none => rw [e] at hput; exact hput
    | some d => rw [e] at hput; exact hput
  have hfin : ∀ E, E = evPut kd th ix op lck → Run ⟨Tryd.prog, w0, S0, X, b, n, t0, ds, Z⟩ (.inRegion ops rest :: k) (St.put ⟨t', newH th ix op (L.length + 1) (evsR L ++ evV E), 9⟩ o.dst (.tup [])) := fun E hE => by
    subst hE
    refine Run.toR [(2, 8)] hnx (inTR_pin (by decide) (hput' _ _) hpin) ?_ ?_
    · have hz : L ++ [evPut kd th ix op lck] = [] → False := by simp
      have e1 : (L ++ [evPut kd th ix op lck]).length = L.length + 1 := by simp
      have e2 := evsR_app (evPut kd th ix op lck) L
      generalize L ++ [evPut kd th ix op lck] = Q at *
      rcases Q with _ | ⟨q, Q⟩
      · exact (hz rfl).elim
      · rw [List.length_cons] at e1
        rw [← e1, ← e2]
        cases o.dst <;> exact ⟨rfl, rfl, rfl, rfl, rfl, trivial⟩
    · generalize L ++ [evPut kd th ix op lck] = Q
      rcases Q with _ | ⟨q, Q⟩ <;> rfl
  cases lck
  · rcases L with _ | ⟨e, L⟩
    · by_cases h4 : kd = 4
      · subst h4
        refine RunF_sound (C := fnL _ _ _ _ _ _ _ _ _) tab_ok hL 200 [true] _ _ rfl ?_ ?_
        · simp [maxLen, fillL, repL, splice, Value.cells, Value.oneCell', okCell, evV, segsVals, szBool, ofConst]
        refine Run.finI' tab_ok hR [(2, 3, 0), (3, 4, 0), (4, 5, 0), (5, 1, 0)] t' (newH th ix op 1 (evV ⟨4, th, ix, -1, false⟩)) 9 Tryd.func35 rfl trivial ?_ ht hpin ⟨rfl, rfl, rfl, rfl, rfl, trivial⟩ (hfin _ rfl)
        simp only [List.mem_cons, List.not_mem_nil, or_false]
        rintro q (rfl | rfl | rfl | rfl) <;> exact ⟨rfl, rfl⟩
      · skip
        refine RunF_sound (C := fnL _ _ _ _ _ _ _ _ _) tab_ok hL 200 [false] _ _ rfl ?_ ?_
        · simp [maxLen, fillL, repL, splice, Value.cells, Value.oneCell', okCell, evV, segsVals, szBool, h4]
        refine Run.finI' tab_ok hR [(2, 3, 0), (3, 4, 0), (4, 5, 0), (5, 1, 0)] t' (newH th ix op 1 (evV ⟨kd, th, ix, op.loc, false⟩)) 9 Tryd.func35 rfl trivial ?_ ht hpin ⟨rfl, rfl, rfl, rfl, rfl, trivial⟩ (hfin _ (by simp [evPut, h4]))
        simp only [List.mem_cons, List.not_mem_nil, or_false]
        rintro q (rfl | rfl | rfl | rfl) <;> exact ⟨rfl, rfl⟩
    · by_cases h4 : kd = 4
      · subst h4
        refine RunF_sound (C := fnL _ _ _ _ _ _ _ _ _) tab_ok hL 200 [true] _ _ rfl ?_ ?_
        · simp [maxLen, fillL, repL, splice, Value.cells, Value.oneCell', okCell, evV, segsVals, szBool, ofConst]
          simp at hl; omega
        refine Run.finI' tab_ok hR [(2, 3, 0), (3, 4, 0), (4, 5, 0), (5, 1, 0)] t' (newH th ix op (L.length + 1 + 1) (evsR (e :: L) ++ evV ⟨4, th, ix, -1, false⟩)) 9 Tryd.func35 rfl trivial ?_ ht hpin ⟨rfl, ?_, rfl, rfl, rfl, trivial⟩ (hfin _ rfl)
        rotate_left
        · exact Eq.trans rfl (congrArg (fun r => some (Blk.row 52 5 (L.length + 1 + 1) (r ++ evV ⟨4, th, ix, -1, false⟩))) (take_all e L))
        simp only [List.mem_cons, List.not_mem_nil, or_false]
        rintro q (rfl | rfl | rfl | rfl) <;> exact ⟨rfl, rfl⟩
      · skip
        refine RunF_sound (C := fnL _ _ _ _ _ _ _ _ _) tab_ok hL 200 [false] _ _ rfl ?_ ?_
        · simp [maxLen, fillL, repL, splice, Value.cells, Value.oneCell', okCell, evV, segsVals, szBool, h4]
          simp at hl; omega
        refine Run.finI' tab_ok hR [(2, 3, 0), (3, 4, 0), (4, 5, 0), (5, 1, 0)] t' (newH th ix op (L.length + 1 + 1) (evsR (e :: L) ++ evV ⟨kd, th, ix, op.loc, false⟩)) 9 Tryd.func35 rfl trivial ?_ ht hpin ⟨rfl, ?_, rfl, rfl, rfl, trivial⟩ (hfin _ (by simp [evPut, h4]))
        rotate_left
        · exact Eq.trans rfl (congrArg (fun r => some (Blk.row 52 5 (L.length + 1 + 1) (r ++ evV ⟨kd, th, ix, op.loc, false⟩))) (take_all e L))
        simp only [List.mem_cons, List.not_mem_nil, or_false]
        rintro q (rfl | rfl | rfl | rfl) <;> exact ⟨rfl, rfl⟩
  · rcases L with _ | ⟨e, L⟩
    · by_cases h4 : kd = 4
      · subst h4
        refine RunF_sound (C := fnL _ _ _ _ _ _ _ _ _) tab_ok hL 200 [true] _ _ rfl ?_ ?_
        · simp [maxLen, fillL, repL, splice, Value.cells, Value.oneCell', okCell, evV, segsVals, szBool, ofConst]
        refine Run.finI' tab_ok hR [(2, 3, 0), (3, 4, 0), (4, 5, 0), (5, 1, 0)] t' (newH th ix op 1 (evV ⟨4, th, ix, -1, true⟩)) 9 Tryd.func35 rfl trivial ?_ ht hpin ⟨rfl, rfl, rfl, rfl, rfl, trivial⟩ (hfin _ rfl)
        simp only [List.mem_cons, List.not_mem_nil, or_false]
        rintro q (rfl | rfl | rfl | rfl) <;> exact ⟨rfl, rfl⟩
      · skip
        refine RunF_sound (C := fnL _ _ _ _ _ _ _ _ _) tab_ok hL 200 [false] _ _ rfl ?_ ?_
        · simp [maxLen, fillL, repL, splice, Value.cells, Value.oneCell', okCell, evV, segsVals, szBool, h4]
        refine Run.finI' tab_ok hR [(2, 3, 0), (3, 4, 0), (4, 5, 0), (5, 1, 0)] t' (newH th ix op 1 (evV ⟨kd, th, ix, op.loc, true⟩)) 9 Tryd.func35 rfl trivial ?_ ht hpin ⟨rfl, rfl, rfl, rfl, rfl, trivial⟩ (hfin _ (by simp [evPut, h4]))
        simp only [List.mem_cons, List.not_mem_nil, or_false]
        rintro q (rfl | rfl | rfl | rfl) <;> exact ⟨rfl, rfl⟩
    · by_cases h4 : kd = 4
      · subst h4
        refine RunF_sound (C := fnL _ _ _ _ _ _ _ _ _) tab_ok hL 200 [true] _ _ rfl ?_ ?_
        · simp [maxLen, fillL, repL, splice, Value.cells, Value.oneCell', okCell, evV, segsVals, szBool, ofConst]
          simp at hl; omega
        refine Run.finI' tab_ok hR [(2, 3, 0), (3, 4, 0), (4, 5, 0), (5, 1, 0)] t' (newH th ix op (L.length + 1 + 1) (evsR (e :: L) ++ evV ⟨4, th, ix, -1, true⟩)) 9 Tryd.func35 rfl trivial ?_ ht hpin ⟨rfl, ?_, rfl, rfl, rfl, trivial⟩ (hfin _ rfl)
        rotate_left
        · exact Eq.trans rfl (congrArg (fun r => some (Blk.row 52 5 (L.length + 1 + 1) (r ++ evV ⟨4, th, ix, -1, true⟩))) (take_all e L))
        simp only [List.mem_cons, List.not_mem_nil, or_false]
        rintro q (rfl | rfl | rfl | rfl) <;> exact ⟨rfl, rfl⟩
      · skip
        refine RunF_sound (C := fnL _ _ _ _ _ _ _ _ _) tab_ok hL 200 [false] _ _ rfl ?_ ?_
        · simp [maxLen, fillL, repL, splice, Value.cells, Value.oneCell', okCell, evV, segsVals, szBool, h4]
          simp at hl; omega
        refine Run.finI' tab_ok hR [(2, 3, 0), (3, 4, 0), (4, 5, 0), (5, 1, 0)] t' (newH th ix op (L.length + 1 + 1) (evsR (e :: L) ++ evV ⟨kd, th, ix, op.loc, true⟩)) 9 Tryd.func35 rfl trivial ?_ ht hpin ⟨rfl, ?_, rfl, rfl, rfl, trivial⟩ (hfin _ (by simp [evPut, h4]))
        rotate_left
        · exact Eq.trans rfl (congrArg (fun r => some (Blk.row 52 5 (L.length + 1 + 1) (r ++ evV ⟨kd, th, ix, op.loc, true⟩))) (take_all e L))
        simp only [List.mem_cons, List.not_mem_nil, or_false]
        rintro q (rfl | rfl | rfl | rfl) <;> exact ⟨rfl, rfl⟩
end Go.Proofs.YtehimiadpgbhmaaDoor

/-
  Rf, here and in the reference. Own work.
-/
namespace Go.Proofs.YtehimiadpgbhmaaDoor
open Go.AM
set_option maxRecDepth 100000

@[simp] theorem xV_len (x : Xn) : (xV x).length = 5 := rfl
@[simp] theorem intAt_cons (k : IntKind) (n : Int) (l : List Value) : intAt (.int k n :: l) 0 = n := rfl

theorem rfP_n (n : Int) (fr : List Int) (k : Nat) : (rfP n fr k).n = n := by unfold rfP; exact Rl.n_gen _ _

theorem map_add0 (p : Option Addr) : p.map (fun x => x.add 0) = p := by cases p <;> simp [AM.add_zero]

theorem rf_ok (x : Xn) (w : World) (hX : SeesX w x) : Gives Tryd.prog 6 [encX x] w (encRel (rfL (shortL x.ev).length x.from_)) := by
  refine Gives.of_run Tryd.func6 rfl (by show 1 ≤ 45; decide) ?_
  have hone := xV_one hX.one1 hX.one4
  refine RunF_sound tab_ok noX_local 200 [] _ _ rfl ?_ ?_
  · simp
  refine Run.callFn noX_local rfl rfl rfl rfl rfl rfl rfl short_enters rfl (fun w' _ => short_ok x.pe x.ce x.ev w') ?_
  obtain ⟨p', c', e1, _⟩ := short_form x.ce hX.ev
  have hle := shortL_le x.ev
  rw [e1]
  generalize (shortL x.ev).length = n at hle
  have hcap := hX.cap
  have hlf := hX.lf
  have hcells := hX.from_
  refine RunF_sound tab_ok noX_local 200 [] _ _ rfl ?_ ?_
  · simp [fillL, Value.cells, segsVals, relV_tail_one, splice]
    (repeat' refine And.intro ?_ ?_) <;> (try split) <;> omega
  obtain ⟨m, hm⟩ : ∃ m : Nat, m = min n x.from_.length := ⟨_, rfl⟩
  have hm2 : (if (x.from_.length : Int) < (n : Int) then (x.from_.length : Int) else (n : Int)) = (m : Int) := by split <;> omega
  suffices H : ∀ (d k : Nat), k + d = m → ∀ σ, inT σ.t [(2, .ptr 1 0), (3, .ptr 2 0), (19, .v (.slice x.pf m x.cf)), (20, .v (.int .i64 (m : Int))), (21, .v (.int .i64 (k : Int)))] →
      inT σ.h [(1, .cells 32 [.vals 65 (relV (Rl.void 0))]), (2, .cells 32 [.vals 65 (relV (rfP n x.from_ k))])] → Run _ _ σ by
    refine H m 0 (by omega) _ ⟨rfl, rfl, ?_, ?_, rfl, trivial⟩ ⟨rfl, ?_, trivial⟩
    · have e2 : ∀ z : Int, z = (m : Int) → some (AV.v (Value.slice (x.pf.map (fun a => a.add 0)) z.toNat x.cf)) = some (AV.v (Value.slice x.pf m x.cf)) := fun z hz => by rw [hz, map_add0]; rfl
      exact e2 _ hm2
    · have e3 : ∀ z : Int, z = (m : Int) → some (AV.v (Value.int .i64 (z.toNat : Int))) = some (AV.v (Value.int .i64 (m : Int))) := fun z hz => by rw [hz, Int.toNat_natCast]
      exact e3 _ hm2
    · rw [rfP_0]; rfl
  intro d
  induction d with
  | zero =>
    intro k hk σ ht hh
    refine Run.to ?_ ht hh (n' := 3)
    refine RunF_sound tab_ok noX_local 100 [false] _ _ rfl ?_ ?_
    · simp [relV_one', segsVals]; omega
    · refine Run.retP tab_ok Tryd.func6 rfl ?_ (fun M => ?_)
      · simp
      rw [rfL, ← hm, show m = k by omega]; rfl
  | succ d ih =>
    intro k hk σ ht hh
    refine Run.to ?_ ht hh (n' := 3)
    have hkl : k < x.from_.length := by omega
    have hk' : k < 64 := by omega
    obtain ⟨f1, f2⟩ := hcells k hkl
    have hget : x.from_[k]? = some x.from_[k] := List.getElem?_eq_getElem hkl
    generalize x.from_[k] = v at f2 hget
    have hnN : ∀ j, (rfP n x.from_ j).n = (n : Int) := fun j => rfP_n _ _ _
    by_cases c1 : v ≥ 0
    · obtain ⟨u, rfl⟩ := Int.eq_ofNat_of_zero_le c1
      by_cases c2 : (u : Int) < n
      · have hu : u < 64 := by omega
        refine RunF_sound tab_ok noX_local 100 [true, true, true] _ _ rfl ?_ ?_
        · simp only [fnC_w0, fnC_S0, Int.toNat_natCast, Nat.mul_one, f2]
          simp [hnN, c2]
          (repeat' refine And.intro ?_ ?_) <;> first | omega | exact f1
        simp only [fnC_w0, Int.toNat_natCast, Nat.mul_one, f2]
        refine Run.drawA noX_local rfl [] [(2, .cells 32 [.vals 65 (relV (rfP n x.from_ k))])] rfl rfl ⟨rfl, trivial⟩ ?_
        refine RunOF_sound tab_ok noX_local rfl rfl 9 [] _ _ rfl ?_ ?_
        · simp [relV_get _ _ hu, intAt_row _ _ hu]; omega
        refine RunO.effLast tab_ok noX_local rfl rfl rfl rfl ?_ (fun e => by cases e) rfl ?_
        · simp [okCell, Value.oneCell']; omega
        refine RunF_sound tab_ok noX_local 100 [] _ _ rfl ?_ ?_
        · simp
        refine ih (k + 1) (by omega) _ ⟨rfl, rfl, rfl, rfl, i64_eq (wrap_succ (by omega)), trivial⟩ ⟨rfl, congrArg (fun l => some (Blk.cells 32 [.vals 65 l])) ?_, trivial⟩
        have e1 : intAt (relV (rfP n x.from_ k)) (1 + u) = un ((rfP n x.from_ k).row u) := intAt_row _ _ hu
        simp [e1, shl1_un, relV_set _ _ hu, rfP_yes hk' hu c2 hget]
      · refine RunF_sound tab_ok noX_local 100 [true, true, false] _ _ rfl ?_ ?_
        · simp only [fnC_w0, fnC_S0, Int.toNat_natCast, Nat.mul_one, f2]
          simp [hnN]
          (repeat' refine And.intro ?_ ?_) <;> first | omega | exact f1
        refine ih (k + 1) (by omega) _ ⟨rfl, rfl, rfl, rfl, i64_eq (wrap_succ (by omega)), trivial⟩ ⟨rfl, ?_, trivial⟩
        rw [← rfP_no (fun z hz h => by rw [hget] at h; cases h; exact c2 hz)]; rfl
    · refine RunF_sound tab_ok noX_local 100 [true, false] _ _ rfl ?_ ?_
      · simp only [fnC_w0, fnC_S0, Int.toNat_natCast, Nat.mul_one, f2]
        simp
        (repeat' refine And.intro ?_ ?_) <;> first | omega | exact f1
      refine ih (k + 1) (by omega) _ ⟨rfl, rfl, rfl, rfl, i64_eq (wrap_succ (by omega)), trivial⟩ ⟨rfl, ?_, trivial⟩
      rw [← rfP_no (fun z hz h => by rw [hget] at h; cases h; exact c1 (Int.natCast_nonneg _))]; rfl
theorem rf_enters : Enters Tryd.prog 6 := enters_mk Tryd.func6 (by decide) rfl

theorem wrapn (k : Nat) (h : k < 9223372036854775808) : IntKind.u64.wrap (k : Int) = (k : Int) := wrap_u64 (by omega) (by omega)

theorem rfR_ok (x : Xn) (w : World) (hX : SeesX w x) : Gives Tryd.prog 7 [encX x] w (encRel (rfL (shortL x.ev).length x.from_)) := by
  refine Gives.of_run Tryd.func7 rfl (by show 1 ≤ 59; decide) ?_
  have hone := xV_one hX.one1 hX.one4
  refine RunF_sound tab_ok noX_local 200 [] _ _ rfl ?_ ?_
  · simp
  refine Run.callFn noX_local rfl rfl rfl rfl rfl rfl rfl shortR_enters rfl (fun w' _ => shortR_ok x.pe x.ce x.ev w') ?_
  obtain ⟨p', c', e1, _⟩ := short_form x.ce hX.ev
  have hle := shortL_le x.ev
  rw [e1]
  generalize (shortL x.ev).length = n at hle
  have hlf := hX.lf
  have hcells := hX.from_
  refine RunF_sound tab_ok noX_local 200 [] _ _ rfl ?_ ?_
  · simp [fillL, Value.cells, segsVals, relV_tail_one, splice]
    try rfl
  obtain ⟨m, hm⟩ : ∃ m : Nat, m = min n x.from_.length := ⟨_, rfl⟩
  suffices H : ∀ (d k : Nat), k + d = m → ∀ σ, inT σ.t [(1, .ptr 0 0), (2, .ptr 1 0), (3, .v (.int .i64 (n : Int))), (4, .ptr 2 0), (5, .v (.int .i64 (k : Int)))] →
      inT σ.h [(0, .cells 28 [.vals 5 (xV x)]), (1, .cells 32 [.vals 65 (relV (Rl.void 0))]), (2, .cells 32 [.vals 65 (relV (rfP n x.from_ k))])] → Run _ _ σ by
    refine H m 0 (by omega) _ ⟨rfl, rfl, rfl, rfl, rfl, trivial⟩ ⟨rfl, rfl, ?_, trivial⟩
    rw [rfP_0]; rfl
  intro d
  induction d with
  | zero =>
    intro k hk σ ht hh
    refine Run.to ?_ ht hh (n' := 3)
    have hkm : k = m := by omega
    by_cases c : k < n
    · have c2 : ¬ k < x.from_.length := by omega
      refine RunF_sound tab_ok noX_local 100 [true, false] _ _ rfl ?_ ?_
      · simp [relV_one', segsVals]; omega
      refine Run.retP tab_ok Tryd.func7 rfl ?_ (fun M => ?_)
      · simp
      rw [rfL, ← hm, ← hkm]; rfl
    · refine RunF_sound tab_ok noX_local 100 [false] _ _ rfl ?_ ?_
      · simp [relV_one', segsVals]; omega
      refine Run.retP tab_ok Tryd.func7 rfl ?_ (fun M => ?_)
      · simp
      rw [rfL, ← hm, ← hkm]; rfl
  | succ d ih =>
    intro k hk σ ht hh
    refine Run.to ?_ ht hh (n' := 3)
    have hkl : k < x.from_.length := by omega
    have hkn : k < n := by omega
    have hk' : k < 64 := by omega
    obtain ⟨f1, f2⟩ := hcells k hkl
    have hget : x.from_[k]? = some x.from_[k] := List.getElem?_eq_getElem hkl
    generalize x.from_[k] = v at f2 hget
    by_cases c1 : v ≥ 0
    · obtain ⟨u, rfl⟩ := Int.eq_ofNat_of_zero_le c1
      by_cases c2 : (u : Int) < n
      · have hu : u < 64 := by omega
        refine RunF_sound tab_ok noX_local 200 [true, true, true, true] _ _ rfl ?_ ?_
        · simp only [fnC_w0, fnC_S0, Int.toNat_natCast, Nat.mul_one]
          simp [f2, c2]
          (repeat' refine And.intro ?_ ?_) <;> first | omega | exact f1
        refine Run.drawA noX_local rfl [] [(0, .cells 28 [.vals 5 (xV x)]), (2, .cells 32 [.vals 65 (relV (rfP n x.from_ k))])] rfl rfl ⟨rfl, rfl, trivial⟩ ?_
        have e1 : intAt (relV (rfP n x.from_ k)) (1 + u) = un ((rfP n x.from_ k).row u) := intAt_row _ _ hu
        refine RunOF_sound tab_ok noX_local rfl rfl 19 [] _ _ rfl ?_ ?_
        · simp only [fnC_w0, fnC_S0, Int.toNat_natCast, Nat.mul_one]
          simp [f2, relV_get _ _ hu, intAt_row _ _ hu, wrapn k (by omega)]
          (repeat' refine And.intro ?_ ?_) <;> first | omega | exact f1
        refine RunO.effLast tab_ok noX_local rfl rfl rfl rfl ?_ (fun e => by cases e) rfl ?_
        · simp only [fnC_w0, Int.toNat_natCast, Nat.mul_one]
          simp [okCell, Value.oneCell', f2]; omega
        refine RunF_sound tab_ok noX_local 100 [] _ _ rfl ?_ ?_
        · simp
        refine ih (k + 1) (by omega) _ ⟨rfl, rfl, rfl, rfl, i64_eq (wrap_succ (by omega)), trivial⟩ ⟨rfl, rfl, congrArg (fun l => some (Blk.cells 32 [.vals 65 l])) ?_, trivial⟩
        simp [f2, e1, wrapn k (by omega), shl1_un, relV_set _ _ hu, rfP_yes hk' hu c2 hget]
      · refine RunF_sound tab_ok noX_local 200 [true, true, true, false] _ _ rfl ?_ ?_
        · simp only [fnC_w0, fnC_S0, Int.toNat_natCast, Nat.mul_one]
          simp [f2]
          (repeat' refine And.intro ?_ ?_) <;> first | omega | exact f1
        refine ih (k + 1) (by omega) _ ⟨rfl, rfl, rfl, rfl, i64_eq (wrap_succ (by omega)), trivial⟩ ⟨rfl, rfl, ?_, trivial⟩
        rw [← rfP_no (fun z hz h => by rw [hget] at h; cases h; exact c2 hz)]; rfl
    · refine RunF_sound tab_ok noX_local 200 [true, true, false] _ _ rfl ?_ ?_
      · simp only [fnC_w0, fnC_S0, Int.toNat_natCast, Nat.mul_one]
        simp [f2]
        (repeat' refine And.intro ?_ ?_) <;> first | omega | exact f1
      refine ih (k + 1) (by omega) _ ⟨rfl, rfl, rfl, rfl, i64_eq (wrap_succ (by omega)), trivial⟩ ⟨rfl, rfl, ?_, trivial⟩
      rw [← rfP_no (fun z hz h => by rw [hget] at h; cases h; exact c1 (Int.natCast_nonneg _))]; rfl
theorem rfR_enters : Enters Tryd.prog 7 := enters_mk Tryd.func7 (by decide) rfl
end Go.Proofs.YtehimiadpgbhmaaDoor

/-
  Co, here and in the reference. Own work.
-/
namespace Go.Proofs.YtehimiadpgbhmaaDoor
open Go.AM
set_option maxRecDepth 100000

theorem bit_eq (x : BitVec 64) (b : Int) : (band .u64 (shrI .u64 (un x) b) 1 == 1) = x.getLsbD b.toNat := by
  rw [shr_un, band1_un, Bool.eq_iff_iff, beq_iff_eq, un_eq1, bit_iff]
theorem bit1 (x : BitVec 64) (i : Nat) : (band .u64 (un (x >>> i)) 1 = 1) ↔ x.getLsbD i = true := by
  have h := bit_eq x (i : Int)
  rw [shr_un, Int.toNat_natCast, Bool.eq_iff_iff, beq_iff_eq] at h
  exact h

theorem slOf_of {o : Option Value} {p : Option Addr} {n c : Nat} (h : o = some (.slice p n c)) : slOf o = (p, n, c) := by rw [h]; rfl

theorem co_ok (x : Xn) (w : World) (hX : SeesX w x) : Gives Tryd.prog 8 [encX x] w (encRel (coL (shortL x.ev).length x.ord)) := by
  refine Gives.of_run Tryd.func8 rfl (by show 1 ≤ 63; decide) ?_
  have hone := xV_one hX.one1 hX.one4
  refine RunF_sound tab_ok noX_local 200 [] _ _ rfl ?_ ?_
  · simp
  refine Run.callFn noX_local rfl rfl rfl rfl rfl rfl rfl short_enters rfl (fun w' _ => short_ok x.pe x.ce x.ev w') ?_
  obtain ⟨p', c', e1, _⟩ := short_form x.ce hX.ev
  have hle := shortL_le x.ev
  rw [e1]
  generalize (shortL x.ev).length = n at hle
  have hlo := hX.lo
  have hlo2 := hX.lo2
  have hcells := hX.ord
  refine RunF_sound tab_ok noX_local 200 [] _ _ rfl ?_ ?_
  · simp [fillL, Value.cells, segsVals, relV_tail_one, splice]
    try rfl
  obtain ⟨Z, hZ⟩ : ∃ Z, Z = coL n x.ord := ⟨_, rfl⟩
  rw [← hZ]
  suffices H : ∀ (d i : Nat) (R : Rl), i + d = x.ord.length → R.n = (n : Int) → Z = (x.ord.drop i).foldl (cChain n) R → ∀ σ, inT σ.t [(2, .ptr 1 0), (3, .ptr 2 0), (16, .v (.slice x.po x.ord.length x.co)), (17, .v (.int .i64 (x.ord.length : Int))), (18, .v (.int .i64 (i : Int)))] →
      inT σ.h [(1, .cells 32 [.vals 65 (relV (Rl.void 0))]), (2, .cells 32 [.vals 65 (relV R)])] → Run _ _ σ by
    exact H x.ord.length 0 (Rl.void (n : Int)) (by omega) rfl (by rw [List.drop_zero]; exact hZ) _ ⟨rfl, rfl, rfl, rfl, rfl, trivial⟩ ⟨rfl, rfl, trivial⟩
  clear hZ
  intro d
  induction d with
  | zero =>
    intro i R hi hR hv σ ht hh
    refine Run.to ?_ ht hh (n' := 3)
    refine RunF_sound tab_ok noX_local 100 [false] _ _ rfl ?_ ?_
    · simp [relV_one', segsVals]; omega
    refine Run.retP tab_ok Tryd.func8 rfl ?_ (fun M => ?_)
    · simp
    rw [List.drop_eq_nil_of_le (by omega)] at hv
    rw [hv]; rfl
  | succ d ih =>
    intro i R hi hR hv σ ht hh
    refine Run.to ?_ ht hh (n' := 3)
    have hil : i < x.ord.length := by omega
    rw [List.drop_eq_getElem_cons hil, List.foldl_cons] at hv
    obtain ⟨f1, q, cq, f2, hin⟩ := hcells i hil
    have hcl := hlo2 x.ord[i] (List.getElem_mem hil)
    generalize x.ord[i] = C at *
    have f3 := slOf_of f2
    simp only [maxLen] at hcl hlo
    refine RunF_sound tab_ok noX_local 200 [true] _ _ rfl ?_ ?_
    · simp only [fnC_w0, fnC_S0, Int.toNat_natCast, Nat.mul_one, f2]
      simp
      (repeat' refine And.intro ?_ ?_) <;> first | omega | exact f1
    suffices H2 : ∀ (e j : Nat) (R : Rl) (s : BitVec 64), j + e = C.length → R.n = (n : Int) → Z = (x.ord.drop (i + 1)).foldl (cChain n) ((C.drop j).foldl (cStep n) (R, s)).1 → ∀ σ, inT σ.t [(2, .ptr 1 0), (3, .ptr 2 0), (16, .v (.slice x.po x.ord.length x.co)), (17, .v (.int .i64 (x.ord.length : Int))), (18, .v (.int .i64 (i : Int))), (6, .v (.int .u64 (un s))), (22, .v (.slice q C.length cq)), (23, .v (.int .i64 (C.length : Int))), (24, .v (.int .i64 (j : Int)))] →
        inT σ.h [(1, .cells 32 [.vals 65 (relV (Rl.void 0))]), (2, .cells 32 [.vals 65 (relV R)])] → Run _ _ σ by
      refine H2 C.length 0 R 0#64 (by omega) hR (by rw [List.drop_zero]; exact hv) _ ⟨rfl, rfl, rfl, rfl, rfl, rfl, ?_, ?_, rfl, trivial⟩ ⟨rfl, rfl, trivial⟩
      · simp only [fnC_w0, Int.toNat_natCast, Nat.mul_one, f3]; rfl
      · simp only [fnC_w0, Int.toNat_natCast, Nat.mul_one, f3]; rfl
    clear hv
    intro e
    induction e with
    | zero =>
      intro j R s hj hR hv σ ht hh
      refine Run.to ?_ ht hh (n' := 3)
      refine RunF_sound tab_ok noX_local 100 [false] _ _ rfl ?_ ?_
      · simp; omega
      rw [List.drop_eq_nil_of_le (by omega)] at hv
      exact ih (i + 1) R (by omega) hR hv _ ⟨rfl, rfl, rfl, rfl, i64_eq (wrap_succ (by omega)), trivial⟩ ⟨rfl, rfl, trivial⟩
    | succ e ihe =>
      intro j R s hj hR hv σ ht hh
      refine Run.to ?_ ht hh (n' := 3)
      have hjl : j < C.length := by omega
      rw [List.drop_eq_getElem_cons hjl, List.foldl_cons] at hv
      obtain ⟨g1, g2⟩ := hin j hjl
      generalize C[j] = v at *
      have hnR : intAt (relV R) 0 = (n : Int) := hR
      by_cases c1 : v < 0
      · rw [show cStep n (R, s) v = (R, s) by unfold cStep; rw [if_pos (.inl c1)]] at hv
        refine RunF_sound tab_ok noX_local 200 [true, true, true] _ _ rfl ?_ ?_
        · simp only [fnC_w0, fnC_S0, Int.toNat_natCast, Nat.mul_one, g2]
          simp [c1]
          (repeat' refine And.intro ?_ ?_) <;> first | omega | exact g1
        exact ihe (j + 1) R s (by omega) hR hv _ ⟨rfl, rfl, rfl, rfl, rfl, rfl, rfl, rfl, i64_eq (wrap_succ (by omega)), trivial⟩ ⟨rfl, rfl, trivial⟩
      by_cases c2 : v ≥ (n : Int)
      · rw [show cStep n (R, s) v = (R, s) by unfold cStep; rw [if_pos (.inr c2)]] at hv
        refine RunF_sound tab_ok noX_local 200 [true, false, true] _ _ rfl ?_ ?_
        · simp only [fnC_w0, fnC_S0, Int.toNat_natCast, Nat.mul_one, g2]
          simp [hR]
          (repeat' refine And.intro ?_ ?_) <;> first | omega | exact g1
        exact ihe (j + 1) R s (by omega) hR hv _ ⟨rfl, rfl, rfl, rfl, rfl, rfl, rfl, rfl, i64_eq (wrap_succ (by omega)), trivial⟩ ⟨rfl, rfl, trivial⟩
      obtain ⟨b, rfl⟩ : ∃ b : Nat, v = (b : Int) := ⟨v.toNat, by omega⟩
      rw [show cStep n (R, s) (b : Int) = (cP R s b n, s ||| 1#64 <<< b) by unfold cStep; rw [if_neg (by omega), Int.toNat_natCast]] at hv
      have hb : b < 64 := by omega
      refine RunF_sound tab_ok noX_local 200 [true, false, false] _ _ rfl ?_ ?_
      · simp only [fnC_w0, fnC_S0, Int.toNat_natCast, Nat.mul_one, g2]
        simp [hR]
        (repeat' refine And.intro ?_ ?_) <;> first | omega | exact g1
      suffices H3 : ∀ (y a : Nat), a + y = n → ∀ σ, inT σ.t [(2, .ptr 1 0), (3, .ptr 2 0), (16, .v (.slice x.po x.ord.length x.co)), (17, .v (.int .i64 (x.ord.length : Int))), (18, .v (.int .i64 (i : Int))), (6, .v (.int .u64 (un s))), (22, .v (.slice q C.length cq)), (23, .v (.int .i64 (C.length : Int))), (24, .v (.int .i64 (j : Int))), (8, .v (.int .i64 (b : Int))), (37, .v (.int .i64 (n : Int))), (38, .v (.int .i64 (a : Int)))] →
          inT σ.h [(1, .cells 32 [.vals 65 (relV (Rl.void 0))]), (2, .cells 32 [.vals 65 (relV (cP R s b a))])] → Run _ _ σ by
        refine H3 n 0 (by omega) _ ⟨rfl, rfl, rfl, rfl, rfl, rfl, rfl, rfl, rfl, ?_, i64_eq hnR, rfl, trivial⟩ ⟨rfl, ?_, trivial⟩
        · simp only [fnC_w0, Int.toNat_natCast, Nat.mul_one, g2]; rfl
        · rw [cP_0]; rfl
      intro y
      induction y with
      | zero =>
        intro a ha σ ht hh
        refine Run.to ?_ ht hh (n' := 3)
        refine RunF_sound tab_ok noX_local 200 [false] _ _ rfl ?_ ?_
        · simp; omega
        refine ihe (j + 1) (cP R s b n) (s ||| 1#64 <<< b) (by omega) ((cP_n _ _ _ _).trans hR) hv _ ⟨rfl, rfl, rfl, rfl, rfl, ?_, rfl, rfl, i64_eq (wrap_succ (by omega)), trivial⟩ ⟨rfl, ?_, trivial⟩
        · refine u64_eq ?_
          rw [shl1_un, bor_un, Int.toNat_natCast]
        · rw [show n = a by omega]; rfl
      | succ y ihy =>
        intro a ha σ ht hh
        refine Run.to ?_ ht hh (n' := 3)
        have ha' : a < 64 := by omega
        have hbit := bit1 s a
        by_cases c : s.getLsbD a = true
        · refine RunF_sound tab_ok noX_local 200 [true, true] _ _ rfl ?_ ?_
          · simp [hbit, c]; omega
          refine Run.drawA noX_local rfl [] [(2, .cells 32 [.vals 65 (relV (cP R s b a))])] rfl rfl ⟨rfl, trivial⟩ ?_
          refine RunOF_sound tab_ok noX_local rfl rfl 9 [] _ _ rfl ?_ ?_
          · simp [relV_get _ _ ha', intAt_row _ _ ha']; omega
          refine RunO.effLast tab_ok noX_local rfl rfl rfl rfl ?_ (fun e => by cases e) rfl ?_
          · simp [okCell, Value.oneCell']; omega
          refine RunF_sound tab_ok noX_local 100 [] _ _ rfl ?_ ?_
          · simp
          refine ihy (a + 1) (by omega) _ ⟨rfl, rfl, rfl, rfl, rfl, rfl, rfl, rfl, rfl, rfl, rfl, i64_eq (wrap_succ (by omega)), trivial⟩ ⟨rfl, congrArg (fun l => some (Blk.cells 32 [.vals 65 l])) ?_, trivial⟩
          have e1 : intAt (relV (cP R s b a)) (1 + a) = un ((cP R s b a).row a) := intAt_row _ _ ha'
          simp [e1, shl1_un, relV_set _ _ ha', cP_yes ha' c]
        · refine RunF_sound tab_ok noX_local 200 [true, false] _ _ rfl ?_ ?_
          · simp [hbit, c]; omega
          refine ihy (a + 1) (by omega) _ ⟨rfl, rfl, rfl, rfl, rfl, rfl, rfl, rfl, rfl, rfl, rfl, i64_eq (wrap_succ (by omega)), trivial⟩ ⟨rfl, ?_, trivial⟩
          rw [← cP_no (by simpa using c)]; rfl
theorem co_enters : Enters Tryd.prog 8 := enters_mk Tryd.func8 (by decide) rfl

theorem coR_ok (x : Xn) (w : World) (hX : SeesX w x) : Gives Tryd.prog 9 [encX x] w (encRel (coL (shortL x.ev).length x.ord)) := by
  refine Gives.of_run Tryd.func9 rfl (by show 1 ≤ 76; decide) ?_
  have hone := xV_one hX.one1 hX.one4
  refine RunF_sound tab_ok noX_local 200 [] _ _ rfl ?_ ?_
  · simp
  refine Run.callFn noX_local rfl rfl rfl rfl rfl rfl rfl shortR_enters rfl (fun w' _ => shortR_ok x.pe x.ce x.ev w') ?_
  obtain ⟨p', c', e1, _⟩ := short_form x.ce hX.ev
  have hle := shortL_le x.ev
  rw [e1]
  generalize (shortL x.ev).length = n at hle
  have hlo := hX.lo
  have hlo2 := hX.lo2
  have hcells := hX.ord
  refine RunF_sound tab_ok noX_local 200 [] _ _ rfl ?_ ?_
  · simp [fillL, Value.cells, segsVals, relV_tail_one, splice]
    try rfl
  obtain ⟨Z, hZ⟩ : ∃ Z, Z = coL n x.ord := ⟨_, rfl⟩
  rw [← hZ]
  suffices H : ∀ (d i : Nat) (R : Rl), i + d = x.ord.length → R.n = (n : Int) → Z = (x.ord.drop i).foldl (cChain n) R → ∀ σ, inT σ.t [(1, .ptr 0 0), (2, .ptr 1 0), (3, .v (.int .i64 (n : Int))), (4, .ptr 2 0), (5, .v (.int .i64 (i : Int)))] →
      inT σ.h [(0, .cells 28 [.vals 5 (xV x)]), (1, .cells 32 [.vals 65 (relV (Rl.void 0))]), (2, .cells 32 [.vals 65 (relV R)])] → Run _ _ σ by
    exact H x.ord.length 0 (Rl.void (n : Int)) (by omega) rfl (by rw [List.drop_zero]; exact hZ) _ ⟨rfl, rfl, rfl, rfl, rfl, trivial⟩ ⟨rfl, rfl, rfl, trivial⟩
  clear hZ
  intro d
  induction d with
  | zero =>
    intro i R hi hR hv σ ht hh
    refine Run.to ?_ ht hh (n' := 3)
    refine RunF_sound tab_ok noX_local 100 [false] _ _ rfl ?_ ?_
    · simp [relV_one', segsVals]; omega
    refine Run.retP tab_ok Tryd.func9 rfl ?_ (fun M => ?_)
    · simp
    rw [List.drop_eq_nil_of_le (by omega)] at hv
    rw [hv]; rfl
  | succ d ih =>
    intro i R hi hR hv σ ht hh
    refine Run.to ?_ ht hh (n' := 3)
    have hil : i < x.ord.length := by omega
    rw [List.drop_eq_getElem_cons hil, List.foldl_cons] at hv
    obtain ⟨f1, q, cq, f2, hin⟩ := hcells i hil
    have hcl := hlo2 x.ord[i] (List.getElem_mem hil)
    generalize x.ord[i] = C at *
    simp only [maxLen] at hcl hlo
    refine RunF_sound tab_ok noX_local 200 [true] _ _ rfl ?_ ?_
    · simp; omega
    suffices H2 : ∀ (e j : Nat) (R : Rl) (s : BitVec 64), j + e = C.length → R.n = (n : Int) → Z = (x.ord.drop (i + 1)).foldl (cChain n) ((C.drop j).foldl (cStep n) (R, s)).1 → ∀ σ, inT σ.t [(1, .ptr 0 0), (2, .ptr 1 0), (3, .v (.int .i64 (n : Int))), (4, .ptr 2 0), (5, .v (.int .i64 (i : Int))), (6, .v (.int .u64 (un s))), (7, .v (.int .i64 (j : Int)))] →
        inT σ.h [(0, .cells 28 [.vals 5 (xV x)]), (1, .cells 32 [.vals 65 (relV (Rl.void 0))]), (2, .cells 32 [.vals 65 (relV R)])] → Run _ _ σ by
      exact H2 C.length 0 R 0#64 (by omega) hR (by rw [List.drop_zero]; exact hv) _ ⟨rfl, rfl, rfl, rfl, rfl, rfl, rfl, trivial⟩ ⟨rfl, rfl, rfl, trivial⟩
    clear hv
    intro e
    induction e with
    | zero =>
      intro j R s hj hR hv σ ht hh
      refine Run.to ?_ ht hh (n' := 3)
      refine RunF_sound tab_ok noX_local 200 [false] _ _ rfl ?_ ?_
      · simp only [fnC_w0, fnC_S0, Int.toNat_natCast, Nat.mul_one]
        simp [f2]
        (repeat' refine And.intro ?_ ?_) <;> first | omega | exact f1
      rw [List.drop_eq_nil_of_le (by omega)] at hv
      exact ih (i + 1) R (by omega) hR hv _ ⟨rfl, rfl, rfl, rfl, i64_eq (wrap_succ (by omega)), trivial⟩ ⟨rfl, rfl, rfl, trivial⟩
    | succ e ihe =>
      intro j R s hj hR hv σ ht hh
      refine Run.to ?_ ht hh (n' := 3)
      have hjl : j < C.length := by omega
      rw [List.drop_eq_getElem_cons hjl, List.foldl_cons] at hv
      obtain ⟨g1, g2⟩ := hin j hjl
      generalize C[j] = v at *
      by_cases c1 : v < 0
      · rw [show cStep n (R, s) v = (R, s) by unfold cStep; rw [if_pos (.inl c1)]] at hv
        refine RunF_sound tab_ok noX_local 200 [true, true, true] _ _ rfl ?_ ?_
        · simp only [fnC_w0, fnC_S0, Int.toNat_natCast, Nat.mul_one]
          simp [f2, g2, c1]
          (repeat' refine And.intro ?_ ?_) <;> first | omega | exact f1 | exact g1
        exact ihe (j + 1) R s (by omega) hR hv _ ⟨rfl, rfl, rfl, rfl, rfl, rfl, i64_eq (wrap_succ (by omega)), trivial⟩ ⟨rfl, rfl, rfl, trivial⟩
      by_cases c2 : v ≥ (n : Int)
      · rw [show cStep n (R, s) v = (R, s) by unfold cStep; rw [if_pos (.inr c2)]] at hv
        refine RunF_sound tab_ok noX_local 200 [true, false, true] _ _ rfl ?_ ?_
        · simp only [fnC_w0, fnC_S0, Int.toNat_natCast, Nat.mul_one]
          simp [f2, g2]
          (repeat' refine And.intro ?_ ?_) <;> first | omega | exact f1 | exact g1
        exact ihe (j + 1) R s (by omega) hR hv _ ⟨rfl, rfl, rfl, rfl, rfl, rfl, i64_eq (wrap_succ (by omega)), trivial⟩ ⟨rfl, rfl, rfl, trivial⟩
      obtain ⟨b, rfl⟩ : ∃ b : Nat, v = (b : Int) := ⟨v.toNat, by omega⟩
      rw [show cStep n (R, s) (b : Int) = (cP R s b n, s ||| 1#64 <<< b) by unfold cStep; rw [if_neg (by omega), Int.toNat_natCast]] at hv
      have hb : b < 64 := by omega
      refine RunF_sound tab_ok noX_local 200 [true, false, false] _ _ rfl ?_ ?_
      · simp only [fnC_w0, fnC_S0, Int.toNat_natCast, Nat.mul_one]
        simp [f2, g2]
        (repeat' refine And.intro ?_ ?_) <;> first | omega | exact f1 | exact g1
      suffices H3 : ∀ (y a : Nat), a + y = n → ∀ σ, inT σ.t [(1, .ptr 0 0), (2, .ptr 1 0), (3, .v (.int .i64 (n : Int))), (4, .ptr 2 0), (5, .v (.int .i64 (i : Int))), (6, .v (.int .u64 (un s))), (7, .v (.int .i64 (j : Int))), (8, .v (.int .i64 (b : Int))), (9, .v (.int .i64 (a : Int)))] →
          inT σ.h [(0, .cells 28 [.vals 5 (xV x)]), (1, .cells 32 [.vals 65 (relV (Rl.void 0))]), (2, .cells 32 [.vals 65 (relV (cP R s b a))])] → Run _ _ σ by
        refine H3 n 0 (by omega) _ ⟨rfl, rfl, rfl, rfl, rfl, rfl, rfl, ?_, rfl, trivial⟩ ⟨rfl, rfl, ?_, trivial⟩
        · simp only [fnC_w0, Int.toNat_natCast, Nat.mul_one]
          have h8 : ∀ z : Option Addr × Nat × Nat, z = (q, C.length, cq) → w.cell? ((z.1.getD default).add j) = some (.int .i64 (b : Int)) := fun z hz => by rw [hz]; exact g2
          have h9 := h8 (slOf (w.cell? ((x.po.getD default).add i))) (slOf_of f2)
          have h10 : ∀ o : Option Value, o = some (.int .i64 (b : Int)) → some (AV.v (.int .i64 (match o with | some (.int _ m) => m | _ => 0))) = some (AV.v (.int .i64 (b : Int))) := fun o ho => by rw [ho]
          exact h10 _ h9
        · rw [cP_0]; rfl
      intro y
      induction y with
      | zero =>
        intro a ha σ ht hh
        refine Run.to ?_ ht hh (n' := 3)
        refine RunF_sound tab_ok noX_local 200 [false] _ _ rfl ?_ ?_
        · simp [wrapn b (by omega)]; omega
        refine ihe (j + 1) (cP R s b n) (s ||| 1#64 <<< b) (by omega) ((cP_n _ _ _ _).trans hR) hv _ ⟨rfl, rfl, rfl, rfl, rfl, ?_, i64_eq (wrap_succ (by omega)), trivial⟩ ⟨rfl, rfl, ?_, trivial⟩
        · refine u64_eq ?_
          rw [wrapn b (by omega), shl1_un, bor_un, Int.toNat_natCast]
        · rw [show n = a by omega]; rfl
      | succ y ihy =>
        intro a ha σ ht hh
        refine Run.to ?_ ht hh (n' := 3)
        have ha' : a < 64 := by omega
        have hbit := bit1 s a
        by_cases c : s.getLsbD a = true
        · refine RunF_sound tab_ok noX_local 200 [true, true] _ _ rfl ?_ ?_
          · simp [wrapn a (by omega), wrapn b (by omega), hbit, c, relV_get _ _ ha', intAt_row _ _ ha', okCell, Value.oneCell']; omega
          refine ihy (a + 1) (by omega) _ ⟨rfl, rfl, rfl, rfl, rfl, rfl, rfl, rfl, i64_eq (wrap_succ (by omega)), trivial⟩ ⟨rfl, rfl, congrArg (fun l => some (Blk.cells 32 [.vals 65 l])) ?_, trivial⟩
          have e1 : intAt (relV (cP R s b a)) (1 + a) = un ((cP R s b a).row a) := intAt_row _ _ ha'
          simp [e1, wrapn b (by omega), shl1_un, relV_set _ _ ha', cP_yes ha' c]
        · refine RunF_sound tab_ok noX_local 200 [true, false] _ _ rfl ?_ ?_
          · simp [wrapn a (by omega), hbit, c]; omega
          refine ihy (a + 1) (by omega) _ ⟨rfl, rfl, rfl, rfl, rfl, rfl, rfl, rfl, i64_eq (wrap_succ (by omega)), trivial⟩ ⟨rfl, rfl, ?_, trivial⟩
          rw [← cP_no (by simpa using c)]; rfl
theorem coR_enters : Enters Tryd.prog 9 := enters_mk Tryd.func9 (by decide) rfl
end Go.Proofs.YtehimiadpgbhmaaDoor
