/-
  The abstract machine, sixth part: new blocks, the steps of a region, and the run that is reckoned. Own work; over any program.
-/
import Derived.Test.YtehimiadpgbhmaaDoorAM5b
namespace Go.AM

def St.put (σ : St) (d : Option Nat) (z : AV) : St := match d with | some d => { σ with t := (d, z) :: σ.t } | none => σ

theorem Rel.put {C : Ctx} {M : Loc} {fp : Nat → Prop} {σ : St} {a : Act} {w : World} (hR : Rel C M fp σ a w) {d : Option Nat} {z : AV} (hd : ∀ x, d = some x → C.n.lo ≤ x ∧ x < C.n.hi) : Rel C M fp (σ.put d z) (a.put d (conc M z)) w := by
  cases d with
  | none => exact hR
  | some d =>
    have hlt : d < a.tmps.size := by rw [hR.size]; exact (hd d rfl).2
    refine { toRelH := hR.toRelH, size := by simp [Act.put, hR.size], frozen := fun i hi => by simp only [Act.put]; rw [Array.getElem?_setIfInBounds, if_neg (by have := (hd d rfl).1; omega)]; exact hR.frozen i hi, tmps := ?_, defers := hR.defers }
    intro i x hx
    simp only [St.put, lk] at hx
    simp only [Act.put]
    split at hx
    · rename_i he
      have e := Nat.eq_of_beq_eq_true he
      subst e; cases hx
      simp [hlt]
    · rename_i he
      have hne : d ≠ i := fun e => by subst e; simp at he
      rw [Array.getElem?_setIfInBounds, if_neg hne]
      exact hR.tmps i x hx

/-- What a cells' list becomes when parts are put into it. -/
def fillL (places : Nat → Option (Nat × Nat)) : List Value → List (Nat × Value) → Prop × List Value
  | cs, [] => (True, cs)
  | cs, (i, v) :: r =>
    match places i with
    | some (off, sz) => let x := fillL places (splice cs off v.cells.toList) r; (v.cells.size = sz ∧ off + sz ≤ cs.length ∧ x.1, x.2)
    | none => (False, cs)

theorem foldl_set (l : List Value) : ∀ (j o : Nat) (cs : Array Value), o + j + l.length ≤ cs.size →
    ((l.zipIdx j).foldl (fun cs (c, j) => cs.setIfInBounds (o + j) c) cs).toList = splice cs.toList (o + j) l := by
  induction l with
  | nil => intro j o cs _; simp [splice]
  | cons x r ih =>
    intro j o cs h
    simp only [List.zipIdx_cons, List.foldl_cons]
    rw [ih (j + 1) o _ (by simp at *; omega)]
    simp only [splice, Array.toList_setIfInBounds, List.length_cons] at *
    rw [List.take_set, List.drop_set, if_pos (by omega)]
    rw [List.set_eq_take_append_cons_drop, if_pos (by simp at *; omega)]
    simp only [List.take_take, List.append_assoc, List.cons_append]
    rw [show o + (j + 1) + r.length = o + j + (r.length + 1) by omega]
    congr 1
    · congr 1; omega
    · congr 1
      rw [List.drop_eq_nil_of_le (by simp; omega)]; rfl

theorem fill_run {places : Nat → Option (Nat × Nat)} : ∀ (parts : List (Nat × Value)) (cs : Array Value) (cs' : List Value), (fillL places cs.toList parts).1 → (fillL places cs.toList parts).2 = cs' →
    Instr.fill places cs parts = some cs'.toArray
  | [], cs, cs', _, h => by simp only [fillL] at h; subst h; simp [Instr.fill]
  | (i, v) :: r, cs, cs', hp, h => by
    simp only [fillL] at hp h
    simp only [Instr.fill]
    cases hq : places i with
    | none => rw [hq] at hp; exact hp.elim
    | some x =>
      obtain ⟨off, sz⟩ := x
      simp only [hq] at hp h ⊢
      obtain ⟨h1, h2, h3⟩ := hp
      have hfit : off + v.cells.size ≤ cs.size := by rw [h1]; simpa using h2
      rw [if_neg (by simp; exact ⟨h1, hfit⟩)]
      have e : (v.cells.zipIdx.foldl (fun cs (c, j) => cs.setIfInBounds (off + j) c) cs).toList = splice cs.toList off v.cells.toList := by
        have := foldl_set v.cells.toList 0 off cs (by simpa using hfit)
        rw [← Array.foldl_toList, Array.toList_zipIdx]
        exact this
      refine fill_run r _ cs' ?_ ?_
      · rw [e]; exact h3
      · rw [e]; exact h

/-- Plain parts. -/
def plainParts (σ : St) : List (Nat × Operand) → Option (List (Nat × Value))
  | [] => some []
  | (i, x) :: r => match σ.ev x with
    | some y => (match y.toV with | some v => (match plainParts σ r with | some l => some ((i, v) :: l) | none => none) | none => none)
    | none => none

theorem plainParts_conc {C : Ctx} {M : Loc} {σ : St} {a : Act} {w : World} (hR : RelQ C M σ a w) : ∀ {l : List (Nat × Operand)} {r : List (Nat × Value)}, plainParts σ l = some r → l.map (fun x => (x.1, a.eval x.2)) = r
  | [], r, h => by cases h; rfl
  | (i, x) :: l, r, h => by
    simp only [plainParts] at h
    split at h <;> first | (cases h; done) | skip
    rename_i y hy
    split at h <;> first | (cases h; done) | skip
    rename_i v hv
    split at h <;> cases h
    rename_i l' hl
    simp [plainParts_conc hR hl, hR.ev hy, AV.toV_conc hv]

/-- A struct or array built of plain parts. -/
def evBuild (T : Tab) (t : TypeId) (parts : List (Nat × Value)) : Option (Prop × AV) :=
  match lk T t with
  | some ⟨d, _, _, z⟩ =>
    match d with
    | .struct fs =>
      let x := fillL (fun j => match fs[j]? with | some f => (match T.size f.type with | some n => some (f.offset, n) | none => none) | none => none) z.cells.toList parts
      some ((∀ f ∈ fs, T.size f.type ≠ none) ∧ x.1, .v (.agg x.2.toArray))
    | .array _ e =>
      match T.size e with
      | some n => let x := fillL (fun j => some (j * n, n)) z.cells.toList parts; some (x.1, .v (.agg x.2.toArray))
      | none => none
    | _ => none
  | none => none

theorem mapM_sizes {P : Program} {T : Tab} (hT : tabOK P T) (w : World) (fs : List Field) (h : ∀ f ∈ fs, T.size f.type ≠ none) :
    (fs.mapM (fun f : Field => (Prod.mk f.offset <$> sizeOf f.type : Sem (Nat × Nat)))).run P w = .ok (fs.map fun f => (f.offset, (T.size f.type).getD 0)) w := by
  induction fs with
  | nil => simp
  | cons f r ih =>
    have h1 : ∃ n, T.size f.type = some n := by
      cases hn : T.size f.type with
      | none => exact absurd hn (h f (by simp))
      | some n => exact ⟨n, rfl⟩
    obtain ⟨n, hn⟩ := h1
    have ih' := ih (fun g hg => h g (by simp [hg]))
    simp only [List.mapM_cons, Sem.run_bind, Sem.run_map, tab_size hT hn, Result.andThen_ok, ih', Sem.run_pure, List.map_cons, hn, Option.getD_some]

theorem tab_zero {P : Program} {T : Tab} (hT : tabOK P T) {t : Nat} {i : TI} (h : lk T t = some i) (w : World) : (zeroValue t).run P w = .ok i.zero w := by
  obtain ⟨_, x, hx, _, _, hz⟩ := hT t i h
  simp [zeroValue, typeInfo, hx, hz]

theorem evBuild_run {P : Program} {T : Tab} (hT : tabOK P T) {M : Loc} {t : TypeId} {parts : Array (Nat × Value)} {p : Prop} {z : AV} (h : evBuild T t parts.toList = some (p, z)) (hp : p) (w : World) :
    (Instr.build t parts).run P w = .ok (conc M z) w := by
  unfold evBuild at h
  split at h <;> first | (cases h; done) | skip
  rename_i d0 s0 b0 z0 hi0
  obtain ⟨i, hie⟩ : ∃ i : TI, i = ⟨d0, s0, b0, z0⟩ := ⟨_, rfl⟩
  have hi : lk T t = some i := by rw [hie]; exact hi0
  have hid : i.d = d0 := by rw [hie]
  have hiz : z0 = i.zero := by rw [hie]
  subst hiz
  have hu := run_underlying (hT t i hi).1 w
  split at h <;> first | (cases h; done) | skip
  · rename_i fs
    have hd := hid
    cases h
    obtain ⟨h1, h2⟩ := hp
    have hm := mapM_sizes hT w fs.toList (by simpa using h1)
    have hm' : (fs.mapM (fun f : Field => (Prod.mk f.offset <$> sizeOf f.type : Sem (Nat × Nat)))).run P w = .ok (fs.map fun f => (f.offset, (T.size f.type).getD 0)) w := by
      rw [Array.mapM_eq_mapM_toList]
      simp only [Sem.run_map, hm, Result.andThen_ok]
      congr 1
      apply Array.ext'; simp
    have hpl : (fun (j : Nat) => (fs.map fun (f : Field) => (f.offset, (T.size f.type).getD 0))[j]?) = (fun (j : Nat) => match fs[j]? with | some f => (match T.size f.type with | some n => some (f.offset, n) | none => none) | none => none) := by
      funext j
      rw [Array.getElem?_map]
      cases hj : fs[j]? with
      | none => rfl
      | some f =>
        simp only [Option.map_some]
        cases hn : T.size f.type with
        | none => exact absurd hn (h1 f (Array.mem_of_getElem? hj))
        | some n => rfl
    have hf := fill_run parts.toList i.zero.cells _ h2 rfl
    have hpl' : (fun (j : Nat) => Option.map (fun (f : Field) => (f.offset, (T.size f.type).getD 0)) fs[j]?) = (fun (j : Nat) => match fs[j]? with | some f => (match T.size f.type with | some n => some (f.offset, n) | none => none) | none => none) := by
      rw [← hpl]; funext j; rw [Array.getElem?_map]
    rw [← hpl'] at hf
    simp [Instr.build, tab_zero hT hi, hu, hd, hm', hf, conc]
    rw [hpl']
  · rename_i n e
    have hd := hid
    split at h <;> first | (cases h; done) | skip
    rename_i m hm
    cases h
    have hf := fill_run parts.toList i.zero.cells _ hp rfl
    simp [Instr.build, tab_zero hT hi, hu, hd, tab_size hT hm, hf, conc]

/-- The parts of a new variable. -/
def segsOf (T : Tab) (t : TypeId) (x : AV) : Option (Prop × List Seg) :=
  match lk T t with
  | some ⟨d, sz, _, _⟩ =>
    match oneCellTy d with
    | true => some (okCell x, [.one x])
    | false => match x with
      | .v (.agg arr) => some (arr.size = sz, [.vals sz arr.toList])
      | _ => none
  | none => none

theorem segsOf_conc {T : Tab} {M : Loc} {t : TypeId} {x : AV} {p : Prop} {l : List Seg} (h : segsOf T t x = some (p, l)) (hp : p) : concSegs M l = (conc M x).cells.toList ∧ segsOK l := by
  unfold segsOf at h
  split at h <;> first | (cases h; done) | skip
  rename_i hi
  split at h
  · cases h
    exact ⟨by rw [(okCell_cells (M := M) hp).1]; simp [concSegs], trivial⟩
  · split at h <;> cases h
    exact ⟨by simp [concSegs, conc, Value.cells], by simpa using hp, trivial⟩

/-- A new block's zeros. -/
def repL (n : Nat) (z : List Value) : List Value := match n with | 0 => [] | n + 1 => z ++ repL n z

theorem repL_length (n : Nat) (z : List Value) : (repL n z).length = n * z.length := by
  induction n with
  | zero => simp [repL]
  | succ n ih => simp [repL, ih, Nat.succ_mul]; omega

theorem repL_get (z : Array Value) : ∀ (n j : Nat), j < n * z.size → (repL n z.toList)[j]? = some (z[j % z.size]!)
  | 0, j, h => by omega
  | n + 1, j, h => by
    simp only [repL]
    have hz : 0 < z.size := by
      rcases Nat.eq_zero_or_pos z.size with h0 | h0
      · rw [h0] at h; omega
      · exact h0
    by_cases hj : j < z.size
    · rw [List.getElem?_append_left (by simpa using hj), Nat.mod_eq_of_lt hj]
      simp [hj]
    · rw [List.getElem?_append_right (by simp; omega), Array.length_toList, repL_get z n (j - z.size) (by rw [Nat.succ_mul] at h; omega)]
      congr 2
      conv => rhs; rw [show j = j - z.size + z.size by omega, Nat.add_mod_right]

theorem zeros_eq (z : Array Value) (n : Nat) : ((Array.range (n * z.size)).map (fun j => z[j % z.size]!)).toList = repL n z.toList := by
  apply List.ext_getElem?
  intro j
  by_cases hj : j < n * z.size
  · rw [repL_get z n j hj]; simp [hj]
  · rw [List.getElem?_eq_none (by simpa using hj), List.getElem?_eq_none (by rw [repL_length]; simpa using hj)]

structure Eff where
  p : Prop
  z : AV
  h : List (Nat × Blk)
  new : Bool
  cap : Nat

/-- An operation that turns or makes a block. -/
def evEff (T : Tab) (W0 : World) (S0 : Nat → Prop) (t0 : List (Nat × AV)) (h0 : List (Nat × Blk)) (n0 : Nat) (o : Oper) : Option Eff :=
  match o.op with
  | .store t x y =>
    match St.ev ⟨t0, h0, n0⟩ x, St.ev ⟨t0, h0, n0⟩ y with
    | some a, some b => match storeOf T h0 t a b with | some (p, h) => some ⟨p, .v undef, h, false, 0⟩ | none => none
    | _, _ => none
  | .alloc t =>
    match lk T t with
    | some ⟨_, _, _, z⟩ => match segsOf T t (ofConst z) with
      | some (p, l) => some ⟨p, .ptr n0 0, (n0, .cells t l) :: h0, true, 0⟩
      | none => none
    | none => none
  | .box t x =>
    match St.ev ⟨t0, h0, n0⟩ x with
    | some y => match segsOf T t y with
      | some (p, l) => match belowSegs n0 l with
        | true => some ⟨p, .ptr n0 0, (n0, .cells t l) :: h0, true, 0⟩
        | false => none
      | none => none
    | none => none
  | .build t parts =>
    match plainParts ⟨t0, h0, n0⟩ parts.toList with
    | some l => match evBuild T t l with | some (p, z) => some ⟨p, z, h0, false, 0⟩ | none => none
    | none => none
  | .buildSlice t len parts =>
    match T.desc t with
    | some (.slice e) =>
      match lk T e with
      | some ⟨_, sz, _, z⟩ =>
        match plainParts ⟨t0, h0, n0⟩ parts.toList with
        | some l =>
          let x := fillL (fun j => some (j * sz, sz)) (repL len z.cells.toList) l
          some ⟨(len * sz ≤ 2 ^ 24 ∧ len ≤ maxLen ∧ z.cells.size = sz ∧ 0 < sz) ∧ x.1, .sl n0 sz 0 len, (n0, .row e sz len x.2) :: h0, true, len⟩
        | none => none
      | none => none
    | _ => none
  | .call c =>
    match c.callee with
    | .builtin .append =>
      match c.args.toList, c.argTypes.toList with
      | [s, x], [t, t'] =>
        match Nat.beq t' t with
        | true =>
          match St.ev ⟨t0, h0, n0⟩ s, St.ev ⟨t0, h0, n0⟩ x with
          | some y, some (.v (.slice none 0 0)) =>
            match T.desc t with
            | some (.slice e) =>
              match lk T e with
              | some ⟨_, _, _, _⟩ =>
                match y with
                | .v (.slice none 0 0) => some ⟨True, .v (.slice none 0 0), h0, false, 0⟩
                | .sl id sz 0 len => match lk h0 id with
                  | some (.row _ _ n _) => some ⟨len ≤ n, .sl id sz 0 len, h0, false, 0⟩
                  | _ => none
                | _ => none
              | none => none
            | _ => none
          | some y, some z =>
            match appendOf T W0 S0 h0 n0 t y z with
            | some (p, z, h) => some ⟨p, z, h, true, 0⟩
            | none => none
          | _, _ => none
        | false => none
      | _, _ => none
    | _ => none
  | _ => none

theorem fillL_length {places : Nat → Option (Nat × Nat)} : ∀ (parts : List (Nat × Value)) (cs : List Value), (fillL places cs parts).1 → (fillL places cs parts).2.length = cs.length
  | [], cs, _ => rfl
  | (i, v) :: r, cs, hp => by
    simp only [fillL] at hp ⊢
    cases hq : places i with
    | none => simp [hq] at hp
    | some x =>
      obtain ⟨off, sz⟩ := x
      simp only [hq] at hp ⊢
      have hfit : off + v.cells.toList.length ≤ cs.length := by simpa [hp.1] using hp.2.1
      rw [fillL_length r _ hp.2.2, splice_length hfit]

theorem newBlk {C : Ctx} (hL : Local C.X) {M : Loc} {fp : Nat → Prop} {σ : St} {a : Act} {w : World} (hR : Rel C M fp σ a w) (hb : σ.bel = true) {cs : Array Value} {e : TypeId} {B : Blk} {cap : Nat}
    (hB : BlkAt (updM M σ.nx (w.heap.size, cap)) (w.alloc (.cells cs e)) σ.nx B) :
    Rel C (updM M σ.nx (w.heap.size, cap)) fp { σ with h := (σ.nx, B) :: σ.h, nx := σ.nx + 1 } a (w.alloc (.cells cs e)) := by
  unfold St.bel at hb
  split at hb <;> first | (cases hb; done) | skip
  rename_i ht
  refine { toRelH := hR.toRelH.new hL hb rfl rfl rfl (by simp) (fun k hk => heap_alloc_old w _ k hk) hB, size := hR.size, frozen := hR.frozen, tmps := ?_, defers := hR.defers }
  intro i x hx
  rw [hR.tmps i x hx]
  congr 1
  exact (conc_congr (fun j hj => by simp [updM, Nat.ne_of_lt hj]) x (lk_below ht hx)).symm

def Eff.next (E : Eff) (σ : St) : St := ⟨σ.t, E.h, match E.new with | true => σ.nx + 1 | false => σ.nx⟩

theorem run_buildSlice {P : Program} {T : Tab} (hT : tabOK P T) {t e : TypeId} {i : TI} {len : Nat} (hd : T.desc t = some (.slice e)) (hi : lk T e = some i) (h1 : len * i.size ≤ 2 ^ 24)
    {parts : Array (Nat × Value)} {cells : Array Value}
    (hf : Instr.fill (fun j => some (j * i.size, i.size)) ((Array.range (len * i.size)).map (fun j => i.zero.cells[j % i.zero.cells.size]!)) parts.toList = some cells) (w : World) :
    (Instr.buildSlice t len parts).run P w = .ok (.slice (some ⟨w.heap.size, 0, none⟩) len len) (w.alloc (.cells cells e)) := by
  have h1' : ¬ len * i.size > 16777216 := by omega
  by_cases h0 : len * i.size = 0
  · rw [h0] at hf
    simp only [Instr.buildSlice, Sem.run_bind, tab_und hT hd, tab_size' hT hi, Result.andThen_ok, h0]
    have hr : Array.range 0 = #[] := rfl
    rw [hr, List.map_toArray, List.map_nil] at hf
    simp [newRow, hr, hf]
  · simp [Instr.buildSlice, tab_und hT hd, tab_size' hT hi, h1', h0, tab_zero hT hi, hf, newRow]

theorem evEff_run {C : Ctx} {T : Tab} (hT : tabOK C.P T) (hL : Local C.X) {M : Loc} {fp : Nat → Prop} {σ : St} {a : Act} {w : World} (hR : Rel C M fp σ a w) {o : Oper} {E : Eff}
    (h : evEff T C.w0 C.S0 σ.t σ.h σ.nx o = some E) (hp : E.p) (hb : E.new = true → σ.bel = true) :
    ∃ M' w' v, (∀ i, i < σ.nx → M' i = M i) ∧ (execOp a.eval o).run C.P w = .ok v w' ∧ (v = .value (conc M' E.z) ∨ (v = .skip ∧ E.z = .v undef)) ∧ Rel C M' fp (E.next σ) a w' := by
  unfold evEff at h
  split at h
  · rename_i t x y ho
    split at h <;> first | (cases h; done) | skip
    rename_i u v hu hv
    split at h <;> first | (cases h; done) | skip
    rename_i p h' hs
    cases h
    obtain ⟨w', hw, hR'⟩ := storeOf_run hT hL hR.toRelH hs hp
    refine ⟨M, w', .skip, fun _ _ => rfl, ?_, .inr ⟨rfl, rfl⟩, ⟨hR', hR.size, hR.frozen, hR.tmps, hR.defers⟩⟩
    simp [execOp, ho, hR.q.ev hu, hR.q.ev hv, hw]
  · rename_i t ho
    split at h <;> first | (cases h; done) | skip
    rename_i d0 s0 b0 z0 hi
    split at h <;> first | (cases h; done) | skip
    rename_i p l hs
    cases h
    have hc := fun M => segsOf_conc (M := M) hs hp
    refine ⟨updM M σ.nx (w.heap.size, 0), w.alloc (.cells z0.cells t), _, fun j hj => by simp [updM, Nat.ne_of_lt hj], ?_, .inl rfl, newBlk hL hR (hb rfl) (B := .cells t l) ⟨?_, (hc M).2⟩⟩
    · simp [execOp, ho, Instr.alloc, tab_zero hT hi, newVar, newRow, conc, updM]
    · rw [(hc _).1, conc_ofConst]
      simp only [updM, if_true]
      rw [heap_alloc_new]
  · rename_i t x ho
    split at h <;> first | (cases h; done) | skip
    rename_i y hy
    split at h <;> first | (cases h; done) | skip
    rename_i p l hs
    split at h <;> first | (cases h; done) | skip
    rename_i hbl
    cases h
    have hc := fun M => segsOf_conc (M := M) hs hp
    refine ⟨updM M σ.nx (w.heap.size, 0), w.alloc (.cells (conc M y).cells t), _, fun j hj => by simp [updM, Nat.ne_of_lt hj], ?_, .inl rfl, newBlk hL hR (hb rfl) (B := .cells t l) ⟨?_, (hc M).2⟩⟩
    · simp [execOp, ho, hR.q.ev hy, Instr.box, newVar, newRow, conc, updM]
    · rw [concSegs_congr (M := M) (n := σ.nx) (fun j hj => by simp [updM, Nat.ne_of_lt hj]) l hbl, (hc _).1]
      simp only [updM, if_true]
      rw [heap_alloc_new]
  · rename_i t parts ho
    split at h <;> first | (cases h; done) | skip
    rename_i l hl
    split at h <;> first | (cases h; done) | skip
    rename_i p z hz
    cases h
    have hc := plainParts_conc hR.q hl
    have e : (parts.map fun x => (x.1, a.eval x.2)).toList = l := by rw [← hc]; simp
    have := evBuild_run hT (M := M) (parts := parts.map fun x => (x.1, a.eval x.2)) (by rw [e]; exact hz) hp w
    refine ⟨M, w, _, fun _ _ => rfl, ?_, .inl rfl, ⟨hR.toRelH, hR.size, hR.frozen, hR.tmps, hR.defers⟩⟩
    simp [execOp, ho, this]
  · rename_i t len parts ho
    split at h <;> first | (cases h; done) | skip
    rename_i e hd
    split at h <;> first | (cases h; done) | skip
    rename_i d0 s0 b0 z0 hi0
    obtain ⟨i, hie⟩ : ∃ i : TI, i = ⟨d0, s0, b0, z0⟩ := ⟨_, rfl⟩
    have hi : lk T e = some i := by rw [hie]; exact hi0
    obtain rfl : s0 = i.size := by rw [hie]
    obtain rfl : z0 = i.zero := by rw [hie]
    split at h <;> first | (cases h; done) | skip
    rename_i l hl
    cases h
    obtain ⟨⟨h1, h2, h3, _⟩, h5⟩ := hp
    have hc := plainParts_conc hR.q hl
    have ep : (parts.map fun x => (x.1, a.eval x.2)).toList = l := by rw [← hc]; simp
    have hz : ((Array.range (len * i.size)).map (fun j => i.zero.cells[j % i.zero.cells.size]!)).toList = repL len i.zero.cells.toList := by
      rw [← h3]; exact zeros_eq _ _
    have hf := fill_run (places := fun j => some (j * i.size, i.size)) l ((Array.range (len * i.size)).map (fun j => i.zero.cells[j % i.zero.cells.size]!))
      (fillL (fun j => some (j * i.size, i.size)) (repL len i.zero.cells.toList) l).2 (by rw [hz]; exact h5) (by rw [hz])
    have hlen : (fillL (fun j => some (j * i.size, i.size)) (repL len i.zero.cells.toList) l).2.length = len * i.size := by
      rw [fillL_length _ _ h5, repL_length, Array.length_toList, h3]
    refine ⟨updM M σ.nx (w.heap.size, len), w.alloc (.cells (fillL (fun j => some (j * i.size, i.size)) (repL len i.zero.cells.toList) l).2.toArray e), _, fun j hj => by simp [updM, Nat.ne_of_lt hj], ?_, .inl rfl,
      newBlk hL hR (hb rfl) (B := .row e i.size len _) ⟨hlen, (fillL (fun j => some (j * i.size, i.size)) (repL len i.zero.cells.toList) l).2.toArray, ?_, ?_, ?_, ?_, ?_⟩⟩
    · have := run_buildSlice hT hd hi h1 (parts := parts.map fun x => (x.1, a.eval x.2)) (by rw [ep]; exact hf) w
      simp [execOp, ho, this, conc, updM]
    · simp only [updM, if_true]; exact heap_alloc_new _ _
    · simp [updM]
    · simpa [updM] using h2
    · simp [updM, hlen]
    · rw [List.toList_toArray, ← hlen, List.take_length]
  · rename_i c ho
    split at h <;> first | (cases h; done) | skip
    rename_i hc
    split at h <;> first | (cases h; done) | skip
    rename_i s x t t' hargs htys
    split at h <;> first | (cases h; done) | skip
    rename_i htt
    have := Nat.eq_of_beq_eq_true htt
    subst this
    have e1 : c.args = #[s, x] := by apply Array.ext'; simpa using hargs
    have e2 : c.argTypes = #[t', t'] := by apply Array.ext'; simpa using htys
    have key : ∀ (w' : World) (u v : Value) (z : Value), a.eval s = u → a.eval x = v → (Builtin.append_ #[t', t'] o.type #[u, v]).run C.P w = .ok z w' → (execOp a.eval o).run C.P w = .ok (.value z) w' := by
      intro w' u v z h1 h2 h3
      simp [execOp, ho, resolve, hc, invoke, builtin, e1, e2, h1, h2, h3]
    split at h <;> first | (cases h; done) | skip
    · rename_i y hs hx
      split at h <;> first | (cases h; done) | skip
      rename_i e hd
      split at h <;> first | (cases h; done) | skip
      rename_i hi
      split at h <;> first | (cases h; done) | skip
      · cases h
        refine ⟨M, w, _, fun _ _ => rfl, key _ _ _ _ (hR.q.ev hs) (hR.q.ev hx) ?_, .inl rfl, hR⟩
        simp only [conc]
        exact append_nil_run hT hd hi (Nat.le_refl _) (fun _ => rfl) w
      · rename_i id sz len
        split at h <;> cases h
        rename_i n vs hB
        refine ⟨M, w, _, fun _ _ => rfl, key _ _ _ _ (hR.q.ev hs) (hR.q.ev hx) ?_, .inl rfl, hR⟩
        simp only [conc]
        obtain ⟨_, cur, _, hcap, _⟩ := hR.heap _ _ hB
        exact append_nil_run hT hd hi (by have : len ≤ n := hp; omega) (fun e => by cases e) w
    · rename_i y z _ hs hx
      split at h <;> cases h
      rename_i p z' h' ha
      have hb' := hb rfl
      unfold St.bel at hb'
      split at hb' <;> first | (cases hb'; done) | skip
      rename_i ht
      obtain ⟨M', w', hM, hrun, hR'⟩ := appendOf_run hT hL (ty := o.type) hR.toRelH hb' ha hp
      refine ⟨M', w', _, hM, key _ _ _ _ (hR.q.ev hs) (hR.q.ev hx) hrun, .inl rfl, ⟨hR', hR.size, hR.frozen, ?_, hR.defers⟩⟩
      intro i u hu
      rw [hR.tmps i u hu]
      congr 1
      exact (conc_congr hM u (lk_below ht hu)).symm
  · cases h

end Go.AM
